/- Part 8 of the proof of MergeShortens (several texts in one; no further condition). -/
import Derived.Test.YtkfnjbfnkpameaaZG
set_option linter.unusedSimpArgs false
set_option linter.unusedVariables false
set_option linter.unusedSectionVars false
namespace Go.Proofs.Ytkfnjbfnkpameaa
set_option maxHeartbeats 8000000
open _root_.And renaming intro->fi
open _root_.Bool renaming and_self->gl,not_false->iw,not_true->i6
open Go.Proofs.Ytkfnjbfnkpameaa.Call renaming fresh->sp
open _root_.Int renaming eq_ofNat_of_zero_le->jz,toNat_natCast->jq
open Go.IntKind renaming i64->fo,u64->ge
open _root_.List renaming append_assoc->gt,append_nil->ic,cons_append->ib,drop_succ_cons->ld,drop_zero->gu,flatten_cons->ir,flatten_nil->i8,getElem?_cons_succ->lq,getElem?_cons_zero->ik,length_append->gb,length_cons->gq,length_drop->jm,length_map->f5,length_nil->jl,length_replicate->lp,length_take->iv,mem_map->jv,nil_append->gn,replicate->gi,set_cons_succ->ma,set_cons_zero->ln,take_append_drop->jf,take_append_of_le_length->kg,take_of_length_le->iu
open _root_.Nat renaming add_mul->jt,beq->gd,beq_refl->jg,ble->il,le_refl->fy,one_mul->nh,reduceAdd->gc,reduceEqDiff->f7,reduceLT->i4,reduceLeDiff->ko,reduceMul->jn,reduceSub->i9,zero_add->jc
open _root_.Option renaming bind_some->fj
open Go.Proofs.Ytkfnjbfnkpameaa.Pure renaming clr->ja
open _root_.Sum renaming elim->kj
open Go.Proofs.Ytkfnjbfnkpameaa.T renaming int->fm,ren->qx,renL->oz
open Go.Proofs.Ytkfnjbfnkpameaa.TW renaming block->gp,freeze->pn,loopT->jj,seq->fl
open Go.Proofs.Ytkfnjbfnkpameaa.zaj renaming call->gj
set_option maxRecDepth 100000
open Go Go.RowKit
def zl4 (k:Nat) (p:Pat):Option (Ar 10):=some p.bits
theorem zwc (ax:Axs) (hx:NoAx ax) (k:Nat) (p:Pat) (v:Ar 10) (H:zl4 k p=some v):Pure Try.prog (EE ax) [] 89 [ePat p] (.agg (v.l.map (fm .i64))):=by
 rw [zl4] at H;refine en [.cell 2 43] 5 [0] (hx.no _ (by decide)) (fn89 ax) ?_;intro h hh;apply fl;refine rk [1,2] [] hh fun h hh=>?_;apply fl;refine rk [2] [] hh fun h hh=>?_;cases H;exact rtc hh
def zg9 (k:Nat) (i:Int):Option Int:=(if 0<=i/\0<16 then (if (0:Int)<=(fo.wrap (15 - (i % 16))) then some (iShl .i64 1 (fo.wrap (15 - (i % 16)))) else none) else none)
theorem zkt (ax:Axs) (hx:NoAx ax) (k:Nat) (i:Int) (v:Int) (H:zg9 k i=some v):Pure Try.prog (EE ax) [] 95 [.int .i64 i] (.int .i64 v):=by
 rw [zg9] at H;refine en [.tmp 2] 7 [0] (hx.no _ (by decide)) (fn95 ax) ?_;intro h hh;apply fl;refine rk [0] [] hh fun h hh=>?_;obtain ⟨g1,H⟩:=isg H;obtain ⟨g2,H⟩:=isg H;apply fl;refine rk [2] [] (f2 hh (yo3 (k:=.i64) (k':=.i64) (a:=1) g2)) fun h hh=>?_;cases H;exact rt hh
def ziu (k:Nat) (p:Pat) (i:Int) (b:Int):Option Pat:=(if 0<=i/\0<16 then (if (0:Int)<=(fo.wrap (i / 16))/\(fo.wrap (i / 16))<(10:Int) then ((zg9 k i).bind fun aq=>((zg9 k i).bind fun bf=>(if b=1 then ((zg9 k i).bind fun db=>some (⟨p.mask.set (fo.wrap (i / 16)) (iOr .i64 (gx p.mask.l (fo.wrap (i / 16))) aq),(p.bits.set (fo.wrap (i / 16)) (zhz .i64 (gx p.bits.l (fo.wrap (i / 16))) bf)).set (fo.wrap (i / 16)) (iOr .i64 (gx (p.bits.set (fo.wrap (i / 16)) (zhz .i64 (gx p.bits.l (fo.wrap (i / 16))) bf)).l (fo.wrap (i / 16))) db)⟩:Pat)) else some (⟨p.mask.set (fo.wrap (i / 16)) (iOr .i64 (gx p.mask.l (fo.wrap (i / 16))) aq),p.bits.set (fo.wrap (i / 16)) (zhz .i64 (gx p.bits.l (fo.wrap (i / 16))) bf)⟩:Pat)))) else none) else none)
theorem zr4 (ax:Axs) (hx:NoAx ax) (k:Nat) (p:Pat) (i:Int) (b:Int) (v:Pat) (H:ziu k p i b=some v):Pure Try.prog (EE ax) [] 90 [ePat p,.int .i64 i,.int .i64 b] (ePat v):=by
 rw [ziu] at H;refine en [.cell 6 56] 40 [0,1,2] (hx.no _ (by decide)) (fn90 ax) ?_;intro h hh;apply fl;refine rk [1,2,3,6] [] hh fun h hh=>?_;obtain ⟨g1,H⟩:=isg H;obtain ⟨g2,H⟩:=isg H;obtain ⟨aq,e3,H⟩:=zab H;apply fl;refine dk 7 [1,2,3,6] [.int .i64 aq] [] [] (f3 hh (zrv (k:=.i64) (L:=(p.mask.l.map (fm .i64)++(p.bits.l.map (fm .i64)))) (r:=(p.bits.l.map (fm .i64))) p.mask g2) (yck (k:=.i64) (L:=(p.mask.l.map (fm .i64)++(p.bits.l.map (fm .i64)))) (r:=(p.bits.l.map (fm .i64))) (L2:=((p.mask.set (fo.wrap (i / 16)) (iOr .i64 (gx p.mask.l (fo.wrap (i / 16))) aq)).l.map (fm .i64)++(p.bits.l.map (fm .i64)))) p.mask (iOr .i64 (gx p.mask.l (fo.wrap (i / 16))) aq) g2)) ?_ trivial ?_
 .exact ⟨(zkt ax hx k i aq e3 ).call _,trivial⟩
 clear hh h;intro h hh;obtain ⟨bf,e4,H⟩:=zab H;apply fl;refine dk 7 [1,2,3,6] [.int .i64 bf] [] [] (f3 hh (zo1 (k:=.i64) (off:=10) (L:=((p.mask.set (fo.wrap (i / 16)) (iOr .i64 (gx p.mask.l (fo.wrap (i / 16))) aq)).l.map (fm .i64)++(p.bits.l.map (fm .i64)))) (r:=[]) p.bits g2) (setAt (k:=.i64) (off:=10) (L:=((p.mask.set (fo.wrap (i / 16)) (iOr .i64 (gx p.mask.l (fo.wrap (i / 16))) aq)).l.map (fm .i64)++(p.bits.l.map (fm .i64)))) (r:=[]) (L2:=((p.mask.set (fo.wrap (i / 16)) (iOr .i64 (gx p.mask.l (fo.wrap (i / 16))) aq)).l.map (fm .i64)++((p.bits.set (fo.wrap (i / 16)) (zhz .i64 (gx p.bits.l (fo.wrap (i / 16))) bf)).l.map (fm .i64)))) (p:=((p.mask.set (fo.wrap (i / 16)) (iOr .i64 (gx p.mask.l (fo.wrap (i / 16))) aq)).l.map (fm .i64))) p.bits (zhz .i64 (gx p.bits.l (fo.wrap (i / 16))) bf) g2)) ?_ trivial ?_
 .exact ⟨(zkt ax hx k i bf e4 ).call _,trivial⟩
 clear hh h;intro h hh;repeat apply fl
 refine rk [1,3,6,28] [] hh fun h hh=>?_;rcases isp H with ⟨c5,H⟩|⟨c5,H⟩;rotate_left
 .skip;refine cf (f2 hh (zAb c5)) ?_;refine sk ?_;apply fl;refine rk [6] [] hh fun h hh=>?_;cases H;exact rtc hh
 refine ct (f2 hh (zAa c5)) ?_;obtain ⟨db,e6,H⟩:=zab H;refine dk 7 [3,6] [.int .i64 db] [] [] (f3 hh (zo1 (k:=.i64) (off:=10) (L:=((p.mask.set (fo.wrap (i / 16)) (iOr .i64 (gx p.mask.l (fo.wrap (i / 16))) aq)).l.map (fm .i64)++((p.bits.set (fo.wrap (i / 16)) (zhz .i64 (gx p.bits.l (fo.wrap (i / 16))) bf)).l.map (fm .i64)))) (r:=[]) (p.bits.set (fo.wrap (i / 16)) (zhz .i64 (gx p.bits.l (fo.wrap (i / 16))) bf)) g2) (setAt (k:=.i64) (off:=10) (L:=((p.mask.set (fo.wrap (i / 16)) (iOr .i64 (gx p.mask.l (fo.wrap (i / 16))) aq)).l.map (fm .i64)++((p.bits.set (fo.wrap (i / 16)) (zhz .i64 (gx p.bits.l (fo.wrap (i / 16))) bf)).l.map (fm .i64)))) (r:=[]) (L2:=((p.mask.set (fo.wrap (i / 16)) (iOr .i64 (gx p.mask.l (fo.wrap (i / 16))) aq)).l.map (fm .i64)++(((p.bits.set (fo.wrap (i / 16)) (zhz .i64 (gx p.bits.l (fo.wrap (i / 16))) bf)).set (fo.wrap (i / 16)) (iOr .i64 (gx (p.bits.set (fo.wrap (i / 16)) (zhz .i64 (gx p.bits.l (fo.wrap (i / 16))) bf)).l (fo.wrap (i / 16))) db)).l.map (fm .i64)))) (p:=((p.mask.set (fo.wrap (i / 16)) (iOr .i64 (gx p.mask.l (fo.wrap (i / 16))) aq)).l.map (fm .i64))) (p.bits.set (fo.wrap (i / 16)) (zhz .i64 (gx p.bits.l (fo.wrap (i / 16))) bf)) (iOr .i64 (gx (p.bits.set (fo.wrap (i / 16)) (zhz .i64 (gx p.bits.l (fo.wrap (i / 16))) bf)).l (fo.wrap (i / 16))) db) g2)) ?_ trivial ?_
 .exact ⟨(zkt ax hx k i db e6 ).call _,trivial⟩
 clear hh h;intro h hh;apply fl;refine rk [6] [] hh fun h hh=>?_;cases H;exact rtc hh
def za1 (k:Nat) (p:Pat) (l:List Pat):Nat->Int->Int->(List Pat)->Nat->Option ((Ar 10×Bool) ⊕ (Int×List Pat×Nat))
 |0,_,_,_,_=>none
 |m+1,at_,i,l2,n=>(if i<(l.length:Int) then (if 0<=i/\i<(l.length:Int) then ((zgk k p (gx l i)).bind fun bk=>(if bk=true then (if (n+1)*161<=1000000000 then (if natM ((gx l i).mask) then (if natM p.mask then (rngF (yah ((gx l i).mask) p.mask) (if ((-1):Int)<0 then some (.inl ((zA 10),false)) else za1 k p l m (min at_ (-1)) (fo.wrap (i+1)) (l2++[(gx l i)]) (n+1)) (fun x=>(if (x:Int)<0 then some (.inl ((zA 10),false)) else za1 k p l m (min at_ (x:Int)) (fo.wrap (i+1)) (l2++[(gx l i)]) (n+1)))) else none) else none) else none) else za1 k p l m at_ (fo.wrap (i+1)) l2 n)) else none) else some (.inr (at_,l2,n)))
def zbv (k:Nat):Nat->Pat->(List Pat)->Option (Ar 10×Bool)
 |0,_,_=>none
 |m+1,p,l=>((za1 k p l k 160 0 [] 0:Option ((Ar 10×Bool) ⊕ (Int×List Pat×Nat))).bind fun o=>kj (fun r=>some r) (fun s_=>(if (s_.2.2:Int)=0 then ((zl4 k p).bind fun d7=>some (d7,true)) else ((ziu k p s_.1 0).bind fun dh=>(if s_.2.1.length=s_.2.2 then ((zbv k m dh s_.2.1).bind fun rb=>(if rb.2=true then some (rb.1,true) else ((ziu k p s_.1 1).bind fun di=>((zbv k m di s_.2.1).bind fun rb2=>some (rb2.1,rb2.2))))) else none)))) o)
def zij (k:Nat) (p:Pat) (l:List Pat):Option (Ar 10×Bool):=zbv k k p l
theorem zms (ax:Axs) (hx:NoAx ax) (k:Nat):∀ (m:Nat) (p:Pat) (l:List Pat) (v:Ar 10×Bool) (H:zbv k m p l=some v),Call Try.prog (EE ax) [] 87 [ePat p,lPat l,.ptr 0 0 1] (stL [.cells true 1 [.fn 87 [] [.ptr 0 0 1]]]) (tupT [.agg (v.1.l.map (fm .i64)),.bool v.2]) (stL [.cells true 1 [.fn 87 [] [.ptr 0 0 1]]]):=by
 intro m
 induction m with
 |zero=>intro p l v H;cases H
 |succ m ih =>
  intro p l v H;rw [zbv] at H;refine enB [.cell 5 43,.tmp 6] 65 [0,1,2] (hx.no _ (by decide)) (fn87 ax) ?_;intro h hh;apply fl;refine rk [1,2,3,5] [] hh fun h hh=>?_;apply fl;refine rk [1,2,3,5,7] [] hh fun h hh=>?_;refine vk 7 20 [1,2,3,5,7] hh fun h hh=>?_;apply fl;refine rk [1,2,3,5,7,8] [] hh fun h hh=>?_;repeat apply fl
  refine rk [2,3,5,7,8,15,16,17] [] hh fun h hh=>?_;obtain ⟨o,H1,H⟩:=zab H;refine cu [2,3,5,7,8] 4 (fun h bs=>∃ s_:Int×List Pat×Nat,o=.inr s_/\(h 2=.ptr 0 0 1/\h 3=.ptr 1 0 20/\h 5=.ptr 2 0 10/\h 7=.arr 3 20 0 s_.2.2 s_.2.2 (s_.2.2*20)/\h 8=.int .i64 s_.1)/\bs=[.cells true 1 [.fn 87 [] [.ptr 0 0 1]],.cells true 20 (p.mask.l.map (fm .i64)++(p.bits.l.map (fm .i64))),.cells true 10 ((zA 10).l.map (fm .i64)),.cells false (s_.2.2*20) (vecC ePat s_.2.1)]) ?_ ?_
  .skip;apply gp;refine jj [2,3,5,7,8,15,16,17] (fun m h bs=>∃ (at_:Int) (i:Int) (l2:List Pat) (n:Nat),za1 k p l m at_ i l2 n=some o/\(h 2=.ptr 0 0 1/\h 3=.ptr 1 0 20/\h 5=.ptr 2 0 10/\h 7=.arr 3 20 0 n n (n*20)/\h 8=.int .i64 at_/\h 15=lPat l/\h 16=.int .i64 (l.length:Int)/\h 17=.int .i64 i)/\bs=[.cells true 1 [.fn 87 [] [.ptr 0 0 1]],.cells true 20 (p.mask.l.map (fm .i64)++(p.bits.l.map (fm .i64))),.cells true 10 ((zA 10).l.map (fm .i64)),.cells false (n*20) (vecC ePat l2)]) ?_ k _ _ ?_;rotate_left
   .exact ⟨160,0,[],0,H1,kq hh,rfl⟩
   clear hh h H1;rintro m h bs ⟨at_,i,l2,n,H1,hh,rfl⟩;rcases m with _|m
   .rw [za1] at H1;cases H1
   rw [za1] at H1;apply fl;refine rk [2,3,5,7,8,15,16,17,18] [] hh fun h hh=>?_;rcases isp H1 with ⟨c1,H1⟩|⟨c1,H1⟩;rotate_left
   .skip;apply fl;refine cf (f2 hh (zAb c1)) ?_;refine xk ?_;cases H1;exact ce hh ⟨_,rfl,kq hh,rfl⟩
   apply fl;refine ct (f2 hh (zAa c1)) ?_;refine sk ?_;apply fl;apply gp;obtain ⟨g2,H1⟩:=isg H1;apply fl;refine rk [2,3,5,7,8,10,15,16,17] [] (f2 hh (zag g2)) fun h hh=>?_;obtain ⟨bk,e3,H1⟩:=zab H1;repeat apply fl
   refine rkp [2,3,5,7,8,10,15,16,17,24] [] [.bool bk] hh ?_ ?_
   .exact ⟨gj ((zmk ax hx k p (gx l i) bk e3 ).call _),trivial⟩
   clear hh h;intro h hh;rcases isb H1 with ⟨c4,H1⟩|⟨c4,H1⟩;rotate_left
   .skip;refine ct (f2 hh c4) ?_;refine xk ?_;refine rk [2,3,5,7,8,15,16,17] [] (f2 hh c4) fun h hh=>?_;exact rd m hh ⟨at_,(fo.wrap (i+1)),l2,n,H1,kq hh,rfl⟩
   refine cf (f2 hh c4) ?_;refine sk ?_;obtain ⟨g5,H1⟩:=isg H1;apply fl;refine rg [] [] [.cells true 1 [.fn 87 [] [.ptr 0 0 1]],.cells true 20 (p.mask.l.map (fm .i64)++(p.bits.l.map (fm .i64))),.cells true 10 ((zA 10).l.map (fm .i64)),.cells false ((n+1)*20) (vecC ePat (l2++[(gx l i)])),.cells true 20 (((gx l i).mask).l.map (fm .i64)++(((gx l i).bits).l.map (fm .i64)))] (fun h=>h 2=.ptr 0 0 1/\h 3=.ptr 1 0 20/\h 5=.ptr 2 0 10/\h 7=.arr 3 20 0 (n+1) (n+1) ((n+1)*20)/\h 8=.int .i64 at_/\h 10=.ptr 4 0 20/\h 15=lPat l/\h 16=.int .i64 (l.length:Int)/\h 17=.int .i64 i) (f3 hh c4 ((show vecC ePat [(gx l i)]=(((gx l i).mask).l.map (fm .i64)++(((gx l i).bits).l.map (fm .i64))) from zds.trans rfl))) trivial fun h hh=>?_;apply fl;refine rk [2,3,5,7,8,10,11,15,16,17] [] (f2 hh c4) fun h hh=>?_;repeat apply fl
   refine rkp [2,3,5,7,8,11,15,16,17,31] [] [.fn 93 [] [.cp (((gx l i).mask).l.map (fm .i64)++(((gx l i).bits).l.map (fm .i64))),.cp (p.mask.l.map (fm .i64)++(p.bits.l.map (fm .i64)))]] (f2 hh c4) ?_ ?_
   .exact ⟨gj (ja (ydr ax hx (gx l i) p) (by first|rfl|simp only [c4])),trivial⟩
   clear hh h;intro h hh;apply gp;obtain ⟨g6,H1⟩:=isg H1;obtain ⟨g7,H1⟩:=isg H1;rcases isr H1 with ⟨c8,H1⟩|⟨x,l3,c8,H1⟩;rotate_left
   .skip;revert h;intro hO hhO;refine rx1 hhO g6 g7 c8 ?_;refine gk [2,3,5,7,8,11,15,16,17,32] hhO ?_;intro h hh;apply fl;refine rk [2,3,5,7,8,11,12,15,16,17] [] (f2 hh c4) fun h hh=>?_;apply gp;apply fl;refine rk [2,3,5,7,8,11,15,16,17] [] (f2 hh c4) fun h hh=>?_;refine xr ?_;clear hh h;revert hO;intro h hh;repeat apply fl
    refine rk [2,3,5,7,8,11,15,16,17,35] [] (f2 hh c4) fun h hh=>?_;rcases isp H1 with ⟨c9,H1⟩|⟨c9,H1⟩;rotate_left
    .skip;refine cf (f2 hh (zAb c9)) ?_;refine sk ?_;refine rk [2,3,5,7,8,15,16,17] [] (f2 hh c4) fun h hh=>?_;refine rk [2,3,5,7,8,15,16,17] [] (f2 hh c4) fun h hh=>?_;exact rd m hh ⟨(min at_ (x:Int)),(fo.wrap (i+1)),(l2++[(gx l i)]),(n+1),H1,kq hh,rfl⟩
    refine ct (f2 hh (zAa c9)) ?_;apply fl;refine rk [5,6] [] (f3 hh c4 (bz43 ax)) fun h hh=>?_;cases H1;obtain rfl:=sinl H;exact rtBc hh
   refine rx0 hh ?_ g6 g7 c8;repeat apply fl
   refine rk [2,3,5,7,8,11,15,16,17,35] [] (f2 hh c4) fun h hh=>?_;rcases isp H1 with ⟨c10,H1⟩|⟨c10,H1⟩;rotate_left
   .skip;refine cf (f2 hh (zAb c10)) ?_;refine sk ?_;refine rk [2,3,5,7,8,15,16,17] [] (f2 hh c4) fun h hh=>?_;refine rk [2,3,5,7,8,15,16,17] [] (f2 hh c4) fun h hh=>?_;exact rd m hh ⟨(min at_ (-1)),(fo.wrap (i+1)),(l2++[(gx l i)]),(n+1),H1,kq hh,rfl⟩
   refine ct (f2 hh (zAa c10)) ?_;apply fl;refine rk [5,6] [] (f3 hh c4 (bz43 ax)) fun h hh=>?_;cases H1;obtain rfl:=sinl H;exact rtBc hh
  clear hh h;rintro h bs ⟨s_,rfl,hh,rfl⟩;replace H:=sinr H;repeat apply fl
  refine rk [2,3,5,7,8,43] [] hh fun h hh=>?_;rcases isp H with ⟨c11,H⟩|⟨c11,H⟩;rotate_left
  .skip;refine cf (f2 hh (zAb c11)) ?_;refine sk ?_;obtain ⟨dh,e13,H⟩:=zab H;obtain ⟨g14,H⟩:=isg H;repeat apply fl
   refine pn 7 (b:=3) (e:=20) (off:=0) (len:=s_.2.2) (cap:=s_.2.2) (M:=(s_.2.2*20)) (s_.2.1.map ePat) (kq hh) (by rfl) (by omega) (by omega) (by rw [gu];exact zc8 (e:=20) (fun x=>za2 x) g14) (fun t ht=>by obtain ⟨x,_,rfl⟩:=jv.1 ht;first|rfl|exact zgg _|exact za2 _|exact zd7 _|exact zau _ | (rw [f5];rfl)) (by rw [f5]<;>exact g14) (by omega) ?_;rw [zek _ _ _ (by simp only [lzA]<;>omega)];simp only [scA];refine gk [2,3,5,7,8,43] hh fun h hh=>?_;obtain ⟨rb,e15,H⟩:=zab H;refine dk 4 [2,3,5,7,8,13,14] [ePat dh] [] [(.tup [.agg (rb.1.l.map (fm .i64)),.bool rb.2],stL [.cells true 1 [.fn 87 [] [.ptr 0 0 1]],.cells true 20 (p.mask.l.map (fm .i64)++(p.bits.l.map (fm .i64))),.cells true 10 ((zA 10).l.map (fm .i64)),.gone])] (f2 hh ag74) ?_ ?_ ?_
   .exact ⟨(zr4 ax hx k p s_.1 0 dh e13 ).call _,trivial⟩
   .exact ⟨ca [0] (ih dh s_.2.1 rb e15),trivial⟩
   clear hh h;intro h hh;apply fl;refine rk [2,3,5,7,8,13,55] [] hh fun h hh=>?_;rcases isb H with ⟨c16,H⟩|⟨c16,H⟩;rotate_left
   .skip;refine cf (f2 hh c16) ?_;refine sk ?_;obtain ⟨di,e17,H⟩:=zab H;obtain ⟨rb2,e18,H⟩:=zab H;apply fl;refine dk 4 [5,6] [ePat di] [] [(.tup [.agg (rb2.1.l.map (fm .i64)),.bool rb2.2],stL [.cells true 1 [.fn 87 [] [.ptr 0 0 1]],.cells true 20 (p.mask.l.map (fm .i64)++(p.bits.l.map (fm .i64))),.cells true 10 ((zA 10).l.map (fm .i64)),.gone,.cells true 10 (rb.1.l.map (fm .i64))])] (f3 hh c16 ag74) ?_ ?_ ?_
    .exact ⟨ja (zr4 ax hx k p s_.1 1 di e17 ) (by first|rfl|simp only [c16]),trivial⟩
    .exact ⟨ca [0] (ih di s_.2.1 rb2 e18),trivial⟩
    clear hh h;intro h hh;cases H;exact rtBc hh
   refine ct (f2 hh c16) ?_;apply fl;refine rk [5,6] [] (f2 hh c16) fun h hh=>?_;cases H;exact rtBc hh
  refine ct (f2 hh (zAa c11)) ?_;obtain ⟨d7,e12,H⟩:=zab H;apply fl;refine rkc [5,6] [] [(.agg (d7.l.map (fm .i64)),stL [.cells true 1 [.fn 87 [] [.ptr 0 0 1]],.cells true 20 (p.mask.l.map (fm .i64)++(p.bits.l.map (fm .i64))),.cells true 10 ((zA 10).l.map (fm .i64)),.cells false (s_.2.2*20) (vecC ePat s_.2.1)])] hh ?_ ?_
  .exact ⟨gj ((zwc ax hx k p d7 e12 ).call _),trivial⟩
  clear hh h;intro h hh;cases H;exact rtBc hh
theorem zot (ax:Axs) (hx:NoAx ax) (k:Nat) (p:Pat) (l:List Pat) (v:Ar 10×Bool) (H:zij k p l=some v):Call Try.prog (EE ax) [] 87 [ePat p,lPat l,.ptr 0 0 1] (stL [.cells true 1 [.fn 87 [] [.ptr 0 0 1]]]) (tupT [.agg (v.1.l.map (fm .i64)),.bool v.2]) (stL [.cells true 1 [.fn 87 [] [.ptr 0 0 1]]]):=zms ax hx k k p l v H
def zfi (k:Nat) (p:Pat) (l:List Pat):Option (Ar 10×Bool):=((zij k p l).bind fun rb=>some (rb.1,rb.2))
theorem zml (ax:Axs) (hx:NoAx ax) (k:Nat) (p:Pat) (l:List Pat) (v:Ar 10×Bool) (H:zfi k p l=some v):Pure Try.prog (EE ax) [] 78 [ePat p,lPat l] (tupT [.agg (v.1.l.map (fm .i64)),.bool v.2]):=by
 rw [zfi] at H;refine enN [.cell 4 43,.tmp 5] 14 [0,1] (hx.no _ (by decide)) (fn78 ax) ?_;intro h hh;apply fl;refine rk [1,2,4] [] hh fun h hh=>?_;apply fl;refine rk [1,2,4,6] [] (f2 hh ag74) fun h hh=>?_;apply fl;refine rk [1,2,4,6] [] (f2 hh ag74) fun h hh=>?_;obtain ⟨rb,e1,H⟩:=zab H;apply fl;refine rkc [4,5] [] [(.tup [.agg (rb.1.l.map (fm .i64)),.bool rb.2],stL [.cells true 20 (p.mask.l.map (fm .i64)++(p.bits.l.map (fm .i64))),.cells true 10 ((zA 10).l.map (fm .i64)),.cells true 1 [.fn 87 [] [.ptr 2 0 1]]])] (f2 hh ag74) ?_ ?_
 .exact ⟨ca [2] (zot ax hx k p l rb e1),trivial⟩
 clear hh h;intro h hh;cases H;exact rtc hh
def zgx (k:Nat) (x:Int):Option Bool:=some (decide (x≠x))
theorem zll (ax:Axs) (hx:NoAx ax) (k:Nat) (x:Int) (v:Bool) (H:zgx k x=some v):Pure Try.prog (EE ax) [] 96 [.int .i64 x] (.bool v):=by
 rw [zgx] at H;refine en [.tmp 2] 6 [0] (hx.no _ (by decide)) (fn96 ax) ?_;intro h hh;apply fl;refine rk [0] [] hh fun h hh=>?_;apply fl;refine rk [2] [] hh fun h hh=>?_;cases H;exact rt hh
def zfp (k:Nat) (x:Int) (y:Int):Option Int:=((zgx k x).bind fun bg=>((zgx k y).bind fun dj=>(if bg=true then (if dj=true then some 0 else some (-1)) else (if dj=true then some 1 else (if x<y then some (-1) else (if y<x then some 1 else some 0))))))
theorem zo9 (ax:Axs) (hx:NoAx ax) (k:Nat) (x:Int) (y:Int) (v:Int) (H:zfp k x y=some v):Pure Try.prog (EE ax) [] 92 [.int .i64 x,.int .i64 y] (.int .i64 v):=by
 rw [zfp] at H;refine en [.tmp 4] 20 [0,1] (hx.no _ (by decide)) (fn92 ax) ?_;intro h hh;apply fl;refine rk [0,1] [] hh fun h hh=>?_;obtain ⟨bg,e1,H⟩:=zab H;apply fl;refine rkp [0,1,5] [] [.bool bg] hh ?_ ?_
 .exact ⟨gj ((zll ax hx k x bg e1 ).call _),trivial⟩
 clear hh h;intro h hh;obtain ⟨dj,e2,H⟩:=zab H;apply fl;refine rkp [0,1,5,6] [] [.bool dj] hh ?_ ?_
 .exact ⟨gj ((zll ax hx k y dj e2 ).call _),trivial⟩
 clear hh h;intro h hh;repeat apply fl
 refine rk [0,1,6,11] [] hh fun h hh=>?_;rcases isb H with ⟨c3,H⟩|⟨c3,H⟩;rotate_left
 .skip;refine cf (f2 hh c3) ?_;refine sk ?_;repeat apply fl
  refine rk [0,1,13] [] (f2 hh c3) fun h hh=>?_;rcases isb H with ⟨c5,H⟩|⟨c5,H⟩;rotate_left
  .skip;refine cf (f2 hh c5) ?_;refine sk ?_;repeat apply fl
   refine rk [0,1,16] [] (f3 hh c3 c5) fun h hh=>?_;rcases isp H with ⟨c6,H⟩|⟨c6,H⟩;rotate_left
   .skip;refine cf (f2 hh (zAb c6)) ?_;refine sk ?_;repeat apply fl
    refine rk [19] [] (f3 hh c3 c5) fun h hh=>?_;rcases isp H with ⟨c7,H⟩|⟨c7,H⟩;rotate_left
    .skip;refine cf (f2 hh (zAb c7)) ?_;refine sk ?_;apply fl;refine rk [4] [] (f3 hh c3 c5) fun h hh=>?_;cases H;exact rt hh
    refine ct (f2 hh (zAa c7)) ?_;apply fl;refine rk [4] [] (f3 hh c3 c5) fun h hh=>?_;cases H;exact rt hh
   refine ct (f2 hh (zAa c6)) ?_;apply fl;refine rk [4] [] (f3 hh c3 c5) fun h hh=>?_;cases H;exact rt hh
  refine ct (f2 hh c5) ?_;apply fl;refine rk [4] [] (f3 hh c3 c5) fun h hh=>?_;cases H;exact rt hh
 refine ct (f2 hh c3) ?_;repeat apply fl
 refine rk [12] [] (f2 hh c3) fun h hh=>?_;rcases isb H with ⟨c4,H⟩|⟨c4,H⟩;rotate_left
 .skip;refine cf (f2 hh c4) ?_;refine sk ?_;apply fl;refine rk [4] [] (f3 hh c3 c4) fun h hh=>?_;cases H;exact rt hh
 refine ct (f2 hh c4) ?_;apply fl;refine rk [4] [] (f3 hh c3 c4) fun h hh=>?_;cases H;exact rt hh
def zbf (k:Nat) (s1:List Int) (s2:List Int):Nat->Int->Option (Int ⊕ Unit)
 |0,_=>none
 |m+1,i=>(if i<(s1.length:Int) then (if 0<=i/\i<(s1.length:Int) then (if (s2.length:Int)<=i then some (.inl 1) else (if 0<=i/\i<(s2.length:Int) then ((zfp k (gx s1 i) (gx s2 i)).bind fun bg=>(if bg≠0 then some (.inl bg) else zbf k s1 s2 m (fo.wrap (i+1)))) else none)) else none) else some (.inr ()))
def ze5 (k:Nat) (s1:List Int) (s2:List Int):Option Int:=((zbf k s1 s2 k 0:Option (Int ⊕ Unit)).bind fun o=>kj (fun r=>some r) (fun s_=>(if (s1.length:Int)<(s2.length:Int) then some (-1) else some 0)) o)
theorem zmr (ax:Axs) (hx:NoAx ax) (k:Nat) (s1:List Int) (s2:List Int) (v:Int) (H:ze5 k s1 s2=some v):Pure Try.prog (EE ax) [] 86 [ints s1,ints s2] (.int .i64 v):=by
 rw [ze5] at H;refine en [.tmp 4] 36 [0,1] (hx.no _ (by decide)) (fn86 ax) ?_;intro h hh;apply fl;refine rk [0,1] [] hh fun h hh=>?_;repeat apply fl
 refine rk [0,1,9,10,11] [] hh fun h hh=>?_;obtain ⟨o,H1,H⟩:=zab H;refine cu [0,1] 0 (fun h bs=>∃ s_:Unit,o=.inr s_/\(h 0=ints s1/\h 1=ints s2)/\bs=[]) ?_ ?_
 .skip;apply gp;refine jj [0,1,9,10,11] (fun m h bs=>∃ (i:Int),zbf k s1 s2 m i=some o/\(h 0=ints s1/\h 1=ints s2/\h 9=ints s1/\h 10=.int .i64 (s1.length:Int)/\h 11=.int .i64 i)/\bs=[]) ?_ k _ _ ?_;rotate_left
  .exact ⟨0,H1,kq hh,rfl⟩
  clear hh h H1;rintro m h bs ⟨i,H1,hh,rfl⟩;rcases m with _|m
  .rw [zbf] at H1;cases H1
  rw [zbf] at H1;apply fl;refine rk [0,1,9,10,11,12] [] hh fun h hh=>?_;rcases isp H1 with ⟨c1,H1⟩|⟨c1,H1⟩;rotate_left
  .skip;apply fl;refine cf (f2 hh (zAb c1)) ?_;refine xk ?_;cases H1;exact ce hh ⟨_,rfl,kq hh,rfl⟩
  apply fl;refine ct (f2 hh (zAa c1)) ?_;refine sk ?_;apply fl;apply gp;obtain ⟨g2,H1⟩:=isg H1;apply fl;refine rk [0,1,5,6,9,10,11] [] (f2 hh (zag g2)) fun h hh=>?_;repeat apply fl
  refine rk [0,1,5,6,9,10,11,19] [] hh fun h hh=>?_;rcases isp H1 with ⟨c3,H1⟩|⟨c3,H1⟩;rotate_left
  .skip;refine cf (f2 hh (zAb c3)) ?_;refine sk ?_;obtain ⟨g4,H1⟩:=isg H1;apply fl;refine rk [0,1,6,7,9,10,11] [] (f2 hh (zag g4)) fun h hh=>?_;obtain ⟨bg,e5,H1⟩:=zab H1;apply fl;refine rkp [0,1,8,9,10,11] [] [.int .i64 bg] hh ?_ ?_
   .exact ⟨gj ((zo9 ax hx k (gx s1 i) (gx s2 i) bg e5 ).call _),trivial⟩
   clear hh h;intro h hh;apply fl;refine rk [0,1,8,9,10,11,28] [] hh fun h hh=>?_;rcases isp H1 with ⟨c6,H1⟩|⟨c6,H1⟩;rotate_left
   .skip;refine cf (f2 hh (zAb c6)) ?_;refine sk ?_;refine rk [0,1,9,10,11] [] hh fun h hh=>?_;exact rd m hh ⟨(fo.wrap (i+1)),H1,kq hh,rfl⟩
   refine ct (f2 hh (zAa c6)) ?_;apply fl;refine rk [4] [] hh fun h hh=>?_;cases H1;obtain rfl:=sinl H;exact rt hh
  refine ct (f2 hh (zAa c3)) ?_;apply fl;refine rk [4] [] hh fun h hh=>?_;cases H1;obtain rfl:=sinl H;exact rt hh
 clear hh h;rintro h bs ⟨s_,rfl,hh,rfl⟩;replace H:=sinr H;repeat apply fl
 refine rk [35] [] hh fun h hh=>?_;rcases isp H with ⟨c7,H⟩|⟨c7,H⟩;rotate_left
 .skip;refine cf (f2 hh (zAb c7)) ?_;refine sk ?_;apply fl;refine rk [4] [] hh fun h hh=>?_;cases H;exact rt hh
 refine ct (f2 hh (zAa c7)) ?_;apply fl;refine rk [4] [] hh fun h hh=>?_;cases H;exact rt hh
def zd5 (k:Nat) (a:Ar 10) (b:Ar 10):Option Int:=((ze5 k a.l b.l).bind fun bg=>some bg)
theorem zm7 (ax:Axs) (hx:NoAx ax) (k:Nat) (a:Ar 10) (b:Ar 10) (v:Int) (H:zd5 k a b=some v):Pure Try.prog (EE ax) [] 76 [.agg (a.l.map (fm .i64)),.agg (b.l.map (fm .i64))] (.int .i64 v):=by
 rw [zd5] at H;refine en [.tmp 4] 8 [0,1] (hx.no _ (by decide)) (fn76 ax) ?_;intro h hh;apply fl;refine rk [2,3] [] hh fun h hh=>?_;obtain ⟨bg,e1,H⟩:=zab H;apply fl;refine dk 0 [4] [] [] [(.int .i64 bg,stL [.cells true 10 (a.l.map (fm .i64)),.cells true 10 (b.l.map (fm .i64))])] hh trivial ?_ ?_
 .exact ⟨(by have q:=gj (Pure.lend (S:=stL [.cells true 10 (a.l.map (fm .i64)),.cells true 10 (b.l.map (fm .i64))]) (args:=[.arr 0 1 0 10 10 10,.arr 1 1 0 10 10 10]) (zmr ax hx k a.l b.l bg e1 ) (fi (z70 (fun _=>rfl) (by rfl) (Ar.len a)) (fi (z70 (fun _=>rfl) (by rfl) (Ar.len b)) (trivial))) rfl);exact q),trivial⟩
 clear hh h;intro h hh;cases H;exact rt hh
def zbe (k:Nat) (t:List Rule) (k_:Int):Nat->Int->(List Pat)->Option (List Pat)
 |0,_,_=>none
 |m+1,i,l=>(if i<(k_.toNat:Int) then (if 0<=i/\i<(t.length:Int) then (if 0<=i/\i<(k_.toNat:Int) then (if i.toNat<l.length then zbe k t k_ m (fo.wrap (i+1)) (l.set i.toNat ((gx t i).mat)) else none) else none) else none) else some l)
def zdm (k:Nat) (t:List Rule) (k_:Int):Option (List Pat):=(if 0<=k_/\k_.toNat*161<=1000000000 then ((zbe k t k_ k 0 (gi k_.toNat (⟨zA 10,zA 10⟩:Pat)):Option (List Pat)).bind fun s_=>(if s_.length=k_.toNat then some s_ else none)) else none)
theorem zh6 (ax:Axs) (hx:NoAx ax) (k:Nat) (t:List Rule) (k_:Int) (v:List Pat) (H:zdm k t k_=some v):Pure Try.prog (EE ax) [] 77 [zad t,.int .i64 k_] (lPat v):=by
 rw [zdm] at H;refine en [.tmp 4] 24 [0,1] (hx.no _ (by decide)) (fn77 ax) ?_;intro h hh;apply fl;refine rk [0,1] [] hh fun h hh=>?_;obtain ⟨g1,H⟩:=isg H;apply fl;refine rk [0,5] [] (f3 hh (z68 (k_.toNat)) ((show (vecC ePat (gi k_.toNat (⟨zA 10,zA 10⟩:Pat))).length=k_.toNat*20 from by rw [zbt (fun x=>za2 x),lp]))) fun h hh=>?_;repeat apply fl
 refine rk [0,5,10,11] [] hh fun h hh=>?_;obtain ⟨s_,H1,H⟩:=zab H;refine cu [5] 1 (fun h bs=>(h 5=.arr 0 20 0 k_.toNat k_.toNat (k_.toNat*20))/\bs=[.cells true (k_.toNat*20) (vecC ePat s_)]) ?_ ?_
 .skip;apply gp;refine jj [0,5,10,11] (fun m h bs=>∃ (i:Int) (l:List Pat),zbe k t k_ m i l=some s_/\(h 0=zad t/\h 5=.arr 0 20 0 k_.toNat k_.toNat (k_.toNat*20)/\h 10=.int .i64 (k_.toNat:Int)/\h 11=.int .i64 i)/\bs=[.cells true (k_.toNat*20) (vecC ePat l)]) ?_ k _ _ ?_;rotate_left
  .exact ⟨0,(gi k_.toNat (⟨zA 10,zA 10⟩:Pat)),H1,kq hh,rfl⟩
  clear hh h H1;rintro m h bs ⟨i,l,H1,hh,rfl⟩;rcases m with _|m
  .rw [zbe] at H1;cases H1
  rw [zbe] at H1;apply fl;refine rk [0,5,10,11,12] [] hh fun h hh=>?_;rcases isp H1 with ⟨c2,H1⟩|⟨c2,H1⟩;rotate_left
  .skip;apply fl;refine cf (f2 hh (zAb c2)) ?_;refine xk ?_;cases H1;exact ce hh ⟨kq hh,rfl⟩
  apply fl;refine ct (f2 hh (zAa c2)) ?_;refine sk ?_;apply fl;apply gp;apply fl;refine rk [0,5,6,10,11] [] hh fun h hh=>?_;obtain ⟨g3,H1⟩:=isg H1;obtain ⟨g4,H1⟩:=isg H1;obtain ⟨g5,H1⟩:=isg H1;refine rk [0,5,10,11] [] (f3 hh (zag g3) (show spl (vecC ePat l) (i.toNat*20) ((((gx t i).mat).mask).l.map (fm .i64)++((((gx t i).mat).bits).l.map (fm .i64)))=_ from zy9 ePat 20 ((gx t i).mat) (fun x=>za2 x) g5)) fun h hh=>?_;refine rk [0,5,10,11] [] hh fun h hh=>?_;exact rd m hh ⟨(fo.wrap (i+1)),(l.set i.toNat ((gx t i).mat)),H1,kq hh,rfl⟩
 clear hh h;rintro h bs ⟨hh,rfl⟩;apply fl;refine rk [4] [] hh fun h hh=>?_;obtain ⟨g6,H⟩:=isg H;refine pn 4 (b:=0) (e:=20) (off:=0) (len:=k_.toNat) (cap:=k_.toNat) (M:=(k_.toNat*20)) (s_.map ePat) (kq hh) (by rfl) (by omega) (by omega) (by rw [gu];exact zc8 (fun x=>za2 x) g6) (fun t ht=>by obtain ⟨x,_,rfl⟩:=jv.1 ht;first|rfl|exact zgg _|exact za2 _|exact zd7 _|exact zau _ | (rw [f5];rfl)) (by rw [f5]<;>exact g6) (by omega) ?_;rw [zek _ _ _ (by simp only [lzA]<;>omega)];simp only [scA];refine gk [4] hh fun h hh=>?_;cases H;exact rt hh
def za6 (k:Nat) (t:List Rule) (k_:Int):Nat->Int->(List Pat)->Option (List Pat)
 |0,_,_=>none
 |m+1,i,l=>(if i<(k_.toNat:Int) then (if 0<=i/\i<(t.length:Int) then (if 0<=i/\i<(k_.toNat:Int) then (if i.toNat<l.length then za6 k t k_ m (fo.wrap (i+1)) (l.set i.toNat ((gx t i).mat)) else none) else none) else none) else some l)
def zc0 (k:Nat) (t:List Rule) (k_:Int):Option (List Pat×Nat):=(if 0<=k_/\k_.toNat*161<=1000000000 then ((za6 k t k_ k 0 (gi k_.toNat (⟨zA 10,zA 10⟩:Pat)):Option (List Pat)).bind fun s_=>some (s_,k_.toNat)) else none)
theorem zhd (ax:Axs) (hx:NoAx ax) (k:Nat) (t:List Rule) (k_:Int) (v:List Pat×Nat) (H:zc0 k t k_=some v):Call Try.prog (EE ax) [] 77 [zad t,.int .i64 k_] (stL []) (tupT [.arr 0 20 0 v.2 v.2 (v.2*20)]) (stL [.cells false (v.2*20) (vecC ePat v.1)]):=by
 rw [zc0] at H;refine enBr [.tmp 4] 24 [0,1] (hx.no _ (by decide)) (fn77 ax) ?_;intro h hh;apply fl;refine rk [0,1] [] hh fun h hh=>?_;obtain ⟨g1,H⟩:=isg H;apply fl;refine rk [0,5] [] (f3 hh (z68 (k_.toNat)) ((show (vecC ePat (gi k_.toNat (⟨zA 10,zA 10⟩:Pat))).length=k_.toNat*20 from by rw [zbt (fun x=>za2 x),lp]))) fun h hh=>?_;repeat apply fl
 refine rk [0,5,10,11] [] hh fun h hh=>?_;obtain ⟨s_,H1,H⟩:=zab H;refine cu [5] 1 (fun h bs=>(h 5=.arr 0 20 0 k_.toNat k_.toNat (k_.toNat*20))/\bs=[.cells true (k_.toNat*20) (vecC ePat s_)]) ?_ ?_
 .skip;apply gp;refine jj [0,5,10,11] (fun m h bs=>∃ (i:Int) (l:List Pat),za6 k t k_ m i l=some s_/\(h 0=zad t/\h 5=.arr 0 20 0 k_.toNat k_.toNat (k_.toNat*20)/\h 10=.int .i64 (k_.toNat:Int)/\h 11=.int .i64 i)/\bs=[.cells true (k_.toNat*20) (vecC ePat l)]) ?_ k _ _ ?_;rotate_left
  .exact ⟨0,(gi k_.toNat (⟨zA 10,zA 10⟩:Pat)),H1,kq hh,rfl⟩
  clear hh h H1;rintro m h bs ⟨i,l,H1,hh,rfl⟩;rcases m with _|m
  .rw [za6] at H1;cases H1
  rw [za6] at H1;apply fl;refine rk [0,5,10,11,12] [] hh fun h hh=>?_;rcases isp H1 with ⟨c2,H1⟩|⟨c2,H1⟩;rotate_left
  .skip;apply fl;refine cf (f2 hh (zAb c2)) ?_;refine xk ?_;cases H1;exact ce hh ⟨kq hh,rfl⟩
  apply fl;refine ct (f2 hh (zAa c2)) ?_;refine sk ?_;apply fl;apply gp;apply fl;refine rk [0,5,6,10,11] [] hh fun h hh=>?_;obtain ⟨g3,H1⟩:=isg H1;obtain ⟨g4,H1⟩:=isg H1;obtain ⟨g5,H1⟩:=isg H1;refine rk [0,5,10,11] [] (f3 hh (zag g3) (show spl (vecC ePat l) (i.toNat*20) ((((gx t i).mat).mask).l.map (fm .i64)++((((gx t i).mat).bits).l.map (fm .i64)))=_ from zy9 ePat 20 ((gx t i).mat) (fun x=>za2 x) g5)) fun h hh=>?_;refine rk [0,5,10,11] [] hh fun h hh=>?_;exact rd m hh ⟨(fo.wrap (i+1)),(l.set i.toNat ((gx t i).mat)),H1,kq hh,rfl⟩
 clear hh h;rintro h bs ⟨hh,rfl⟩;apply fl;refine rk [4] [] hh fun h hh=>?_;refine uz 0 ?_;cases H;exact rtB hh
def zfn (k:Nat) (h_:Ar 10) (x0:Bool) (x1:Ar 10):Option (Bool×Ar 10):=(if x0=true then ((zd5 k h_ x1).bind fun bn=>(if bn<0 then some (true,h_) else some (true,x1))) else some (true,h_))
theorem zo4 (ax:Axs) (hx:NoAx ax) (k:Nat) (h_:Ar 10) (x0:Bool) (x1:Ar 10) (v:Bool×Ar 10) (H:zfn k h_ x0 x1=some v):Call Try.prog (EE ax) [] 75 [.agg (h_.l.map (fm .i64)),.ptr 0 0 1,.ptr 1 0 10] (stL [.cells true 1 [.bool x0],.cells true 10 (x1.l.map (fm .i64))]) (tupT []) (stL [.cells true 1 [.bool v.1],.cells true 10 (v.2.l.map (fm .i64))]):=by
 rw [zfn] at H;refine enB [] 13 [0,1,2] (hx.no _ (by decide)) (fn75 ax) ?_;intro h hh;apply fl;refine rk [1,2,3] [] hh fun h hh=>?_;rcases isb H with ⟨c1,H⟩|⟨c1,H⟩;rotate_left
 .skip;apply fl;refine rk [1,2,3,11] [] (f2 hh c1) fun h hh=>?_;refine ct hh ?_;refine rk [] [] (f2 hh c1) fun h hh=>?_;cases H;exact rnB hh
 obtain ⟨bn,e2,H⟩:=zab H;apply fl;refine rkc [1,2,3,11] [] [(.int .i64 bn,stL [.cells true 1 [.bool x0],.cells true 10 (x1.l.map (fm .i64)),.cells true 10 (h_.l.map (fm .i64))])] (f2 hh c1) ?_ ?_
 .exact ⟨gj (ja (zm7 ax hx k h_ x1 bn e2 ) (by first|rfl|simp only [c1])),trivial⟩
 clear hh h;intro h hh;rcases isp H with ⟨c3,H⟩|⟨c3,H⟩;rotate_left
 .skip;refine cf (f2 hh (zAb c3)) ?_;refine sk ?_;cases H;exact rnB hh
 refine ct (f2 hh (zAa c3)) ?_;refine rk [] [] (f2 hh c1) fun h hh=>?_;cases H;exact rnB hh
def zbi (k:Nat) (t:List Rule) (u:List Rule) (i:Int):Nat->Int->(Ar 10)->Bool->Option (Ar 10×Bool)
 |0,_,_,_=>none
 |m+1,i2,x3,x4=>(if i2<((u++[(⟨0,⟨zA 10,zA 10⟩,-1,[]⟩:Rule)]).length:Int) then (if 0<=i2/\i2<((u++[(⟨0,⟨zA 10,zA 10⟩,-1,[]⟩:Rule)]).length:Int) then ((zhe k (⟨(gx (t++[(⟨0,⟨zA 10,zA 10⟩,-1,[]⟩:Rule)]) i).prio,((gx (t++[(⟨0,⟨zA 10,zA 10⟩,-1,[]⟩:Rule)]) i).mat),(gx (t++[(⟨0,⟨zA 10,zA 10⟩,-1,[]⟩:Rule)]) i).step,(gx (t++[(⟨0,⟨zA 10,zA 10⟩,-1,[]⟩:Rule)]) i).outs⟩:Rule) (⟨(gx (u++[(⟨0,⟨zA 10,zA 10⟩,-1,[]⟩:Rule)]) i2).prio,((gx (u++[(⟨0,⟨zA 10,zA 10⟩,-1,[]⟩:Rule)]) i2).mat),(gx (u++[(⟨0,⟨zA 10,zA 10⟩,-1,[]⟩:Rule)]) i2).step,(gx (u++[(⟨0,⟨zA 10,zA 10⟩,-1,[]⟩:Rule)]) i2).outs⟩:Rule)).bind fun am=>(if am=true then zbi k t u i m (fo.wrap (i2+1)) x3 x4 else ((ziv k ((gx (t++[(⟨0,⟨zA 10,zA 10⟩,-1,[]⟩:Rule)]) i).mat) ((gx (u++[(⟨0,⟨zA 10,zA 10⟩,-1,[]⟩:Rule)]) i2).mat)).bind fun ah=>(if ah.2=true then ((((zc0 k (t++[(⟨0,⟨zA 10,zA 10⟩,-1,[]⟩:Rule)]) i).bind fun rb=>((zdm k (u++[(⟨0,⟨zA 10,zA 10⟩,-1,[]⟩:Rule)]) i2).bind fun ac=>(if (rb.2+ac.length)*161<=1000000000 then (if ac.length=0 then (if rb.1.length=rb.2 then ((zfi k ah.1 rb.1).bind fun ba=>some (ba.2,rb.1,rb.2,ba.1)) else none) else (if (rb.1++ac).length=rb.2+ac.length then ((zfi k ah.1 (rb.1++ac)).bind fun be=>some (be.2,rb.1++ac,rb.2+ac.length,be.1)) else none)) else none))):Option (Bool×List Pat×Nat×Ar 10)).bind fun s_4=>(if s_4.1=true then ((zfn k s_4.2.2.2 x4 x3).bind fun rb2=>zbi k t u i m (fo.wrap (i2+1)) rb2.2 rb2.1) else zbi k t u i m (fo.wrap (i2+1)) x3 x4)) else zbi k t u i m (fo.wrap (i2+1)) x3 x4)))) else none) else some (x3,x4))
def zc1 (k:Nat) (t:List Rule) (u:List Rule):Nat->Int->(Ar 10)->Bool->Option (Ar 10×Bool)
 |0,_,_,_=>none
 |m+1,i,x,x2=>(if i<((t++[(⟨0,⟨zA 10,zA 10⟩,-1,[]⟩:Rule)]).length:Int) then (((if 0<=i/\i<((t++[(⟨0,⟨zA 10,zA 10⟩,-1,[]⟩:Rule)]).length:Int) then ((zbi k t u i k 0 x x2:Option (Ar 10×Bool)).bind fun s_3=>some (s_3.1,s_3.2)) else none):Option (Ar 10×Bool)).bind fun s_2=>zc1 k t u m (fo.wrap (i+1)) s_2.1 s_2.2) else some (x,x2))
def zhf (k:Nat) (t:List Rule) (u:List Rule):Option (Ar 10×Bool):=(if t.length*201<=1000000000 then (if (t.length+1)*201<=1000000000 then (if u.length*201<=1000000000 then (if (u.length+1)*201<=1000000000 then (if (t++[(⟨0,⟨zA 10,zA 10⟩,-1,[]⟩:Rule)]).length=t.length+1 then (if (u++[(⟨0,⟨zA 10,zA 10⟩,-1,[]⟩:Rule)]).length=u.length+1 then ((zc1 k t u k 0 (zA 10) false:Option (Ar 10×Bool)).bind fun s_=>some (s_.1,(!s_.2))) else none) else none) else none) else none) else none) else none)
theorem ztx (ax:Axs) (hx:NoAx ax) (k:Nat) (t:List Rule) (u:List Rule) (v:Ar 10×Bool) (H:zhf k t u=some v):Pure Try.prog (EE ax) [] 60 [zad t,zad u] (tupT [.agg (v.1.l.map (fm .i64)),.bool v.2]):=by
 rw [zhf] at H;refine enN [.cell 4 43,.tmp 5] 85 [0,1] (hx.no _ (by decide)) (fn60 ax) ?_;intro h hh;apply fl;refine rk [0,1,4] [] hh fun h hh=>?_;apply fl;refine rk [0,1,4,6] [] hh fun h hh=>?_;refine nz 1 22 1 ?_;refine zk 6 1 23 true (fm .i64 0 :: ((zA 10).l.map (fm .i64)++((zA 10).l.map (fm .i64)++[fm .i64 (-1),za5 []]))) [0,1,4,6] hh fun h hh=>?_;obtain ⟨g1,H⟩:=isg H;obtain ⟨g2,H⟩:=isg H;obtain ⟨g3,H⟩:=isg H;obtain ⟨g4,H⟩:=isg H;apply fl;refine dcg 1 [6] [] [] [(.arr 2 23 0 t.length t.length (t.length*23),stL [.cells true 10 ((zA 10).l.map (fm .i64)),.gone,.cells false (t.length*23) (vecC zak t)]),(.arr 3 23 0 u.length u.length (u.length*23),stL [.cells true 10 ((zA 10).l.map (fm .i64)),.gone,.cells false ((t.length+1)*23) (vecC zak (t++[(⟨0,⟨zA 10,zA 10⟩,-1,[]⟩:Rule)])),.cells false (u.length*23) (vecC zak u)])] [.cells true 10 ((zA 10).l.map (fm .i64)),.gone,.cells false ((t.length+1)*23) (vecC zak (t++[(⟨0,⟨zA 10,zA 10⟩,-1,[]⟩:Rule)])),.cells false ((u.length+1)*23) (vecC zak (u++[(⟨0,⟨zA 10,zA 10⟩,-1,[]⟩:Rule)]))] (fun h=>h 4=.ptr 0 0 10/\h 7=.arr 2 23 0 (t.length+1) (t.length+1) ((t.length+1)*23)/\h 8=.arr 3 23 0 (u.length+1) (u.length+1) ((u.length+1)*23)) (f2 hh ((show vecC zak [(⟨0,⟨zA 10,zA 10⟩,-1,[]⟩:Rule)]=(fm .i64 ((⟨0,⟨zA 10,zA 10⟩,-1,[]⟩:Rule).prio) :: ((((⟨0,⟨zA 10,zA 10⟩,-1,[]⟩:Rule).mat).mask).l.map (fm .i64)++((((⟨0,⟨zA 10,zA 10⟩,-1,[]⟩:Rule).mat).bits).l.map (fm .i64)++[fm .i64 ((⟨0,⟨zA 10,zA 10⟩,-1,[]⟩:Rule).step),za5 ((⟨0,⟨zA 10,zA 10⟩,-1,[]⟩:Rule).outs)]))) from zds.trans rfl))) trivial ?_ ?_
 .exact ⟨(by have q:=sp (zlm ax hx t g1) (by simp only [zbm,idsA,idsB,gl]) (by simp only [zbm,idsA,idsB,gl]) [.cells true 10 ((zA 10).l.map (fm .i64)),.gone];first|exact q | (simp only [jt,nh,zaw,(show vecC zak [(⟨0,⟨zA 10,zA 10⟩,-1,[]⟩:Rule)]=(fm .i64 ((⟨0,⟨zA 10,zA 10⟩,-1,[]⟩:Rule).prio) :: ((((⟨0,⟨zA 10,zA 10⟩,-1,[]⟩:Rule).mat).mask).l.map (fm .i64)++((((⟨0,⟨zA 10,zA 10⟩,-1,[]⟩:Rule).mat).bits).l.map (fm .i64)++[fm .i64 ((⟨0,⟨zA 10,zA 10⟩,-1,[]⟩:Rule).step),za5 ((⟨0,⟨zA 10,zA 10⟩,-1,[]⟩:Rule).outs)]))) from zds.trans rfl)] at q ⊢;exact q)),(by have q:=sp (zlm ax hx u g3) (by simp only [zbm,idsA,idsB,gl]) (by simp only [zbm,idsA,idsB,gl]) [.cells true 10 ((zA 10).l.map (fm .i64)),.gone,.cells false ((t.length+1)*23) (vecC zak (t++[(⟨0,⟨zA 10,zA 10⟩,-1,[]⟩:Rule)]))];first|exact q | (simp only [jt,nh,zaw,(show vecC zak [(⟨0,⟨zA 10,zA 10⟩,-1,[]⟩:Rule)]=(fm .i64 ((⟨0,⟨zA 10,zA 10⟩,-1,[]⟩:Rule).prio) :: ((((⟨0,⟨zA 10,zA 10⟩,-1,[]⟩:Rule).mat).mask).l.map (fm .i64)++((((⟨0,⟨zA 10,zA 10⟩,-1,[]⟩:Rule).mat).bits).l.map (fm .i64)++[fm .i64 ((⟨0,⟨zA 10,zA 10⟩,-1,[]⟩:Rule).step),za5 ((⟨0,⟨zA 10,zA 10⟩,-1,[]⟩:Rule).outs)]))) from zds.trans rfl)] at q ⊢;exact q)),trivial⟩
 clear hh h;intro h hh;obtain ⟨g5,H⟩:=isg H;apply fl;refine pn 7 (b:=2) (e:=23) (off:=0) (len:=(t.length+1)) (cap:=(t.length+1)) (M:=((t.length+1)*23)) ((t++[(⟨0,⟨zA 10,zA 10⟩,-1,[]⟩:Rule)]).map zak) (kq hh) (by rfl) (by omega) (by omega) (by rw [gu];exact zc8 (e:=23) (fun x=>zau x) g5) (fun t ht=>by obtain ⟨x,_,rfl⟩:=jv.1 ht;first|rfl|exact zgg _|exact za2 _|exact zd7 _|exact zau _ | (rw [f5];rfl)) (by rw [f5]<;>exact g5) (by omega) ?_;rw [zek _ _ _ (by simp only [lzA]<;>omega)];simp only [scA];refine gk [4,7,8] hh fun h hh=>?_;obtain ⟨g6,H⟩:=isg H;refine pn 8 (b:=3) (e:=23) (off:=0) (len:=(u.length+1)) (cap:=(u.length+1)) (M:=((u.length+1)*23)) ((u++[(⟨0,⟨zA 10,zA 10⟩,-1,[]⟩:Rule)]).map zak) (kq hh) (by rfl) (by omega) (by omega) (by rw [gu];exact zc8 (e:=23) (fun x=>zau x) g6) (fun t ht=>by obtain ⟨x,_,rfl⟩:=jv.1 ht;first|rfl|exact zgg _|exact za2 _|exact zd7 _|exact zau _ | (rw [f5];rfl)) (by rw [f5]<;>exact g6) (by omega) ?_;rw [zek _ _ _ (by simp only [lzA]<;>omega)];simp only [scA];refine gk [4,7,8] hh fun h hh=>?_;refine rk [4,7,8,9] [] hh fun h hh=>?_;apply fl;refine rk [4,7,8,9,10] [] hh fun h hh=>?_;apply fl;refine rk [4,7,8,9,10,11] [] hh fun h hh=>?_;apply fl;refine rk [4,7,8,9,10,11,12,13] [] hh fun h hh=>?_;repeat apply fl
 refine rk [4,8,9,10,11,12,13,38,39,40] [] hh fun h hh=>?_;obtain ⟨s_,H1,H⟩:=zab H;refine cu [4,9,10] 6 (fun h bs=>(h 4=.ptr 0 0 10/\h 9=.ptr 4 0 10/\h 10=.ptr 5 0 1)/\bs=[.cells true 10 ((zA 10).l.map (fm .i64)),.gone,.gone,.gone,.cells true 10 (s_.1.l.map (fm .i64)),.cells true 1 [.bool s_.2]]) ?_ ?_
 .skip;apply gp;refine jj [4,8,9,10,11,12,13,38,39,40] (fun m h bs=>∃ (i:Int) (x:Ar 10) (x2:Bool),zc1 k t u m i x x2=some s_/\(h 4=.ptr 0 0 10/\h 8=zad (u++[(⟨0,⟨zA 10,zA 10⟩,-1,[]⟩:Rule)])/\h 9=.ptr 4 0 10/\h 10=.ptr 5 0 1/\h 11=.fn 75 [] [.ptr 5 0 1,.ptr 4 0 10]/\h 12=.fn 77 [zad (t++[(⟨0,⟨zA 10,zA 10⟩,-1,[]⟩:Rule)])] []/\h 13=.fn 77 [zad (u++[(⟨0,⟨zA 10,zA 10⟩,-1,[]⟩:Rule)])] []/\h 38=zad (t++[(⟨0,⟨zA 10,zA 10⟩,-1,[]⟩:Rule)])/\h 39=.int .i64 ((t++[(⟨0,⟨zA 10,zA 10⟩,-1,[]⟩:Rule)]).length:Int)/\h 40=.int .i64 i)/\bs=[.cells true 10 ((zA 10).l.map (fm .i64)),.gone,.gone,.gone,.cells true 10 (x.l.map (fm .i64)),.cells true 1 [.bool x2]]) ?_ k _ _ ?_;rotate_left
  .exact ⟨0,(zA 10),false,H1,kq hh,rfl⟩
  clear hh h H1;rintro m h bs ⟨i,x,x2,H1,hh,rfl⟩;rcases m with _|m
  .rw [zc1] at H1;cases H1
  rw [zc1] at H1;apply fl;refine rk [4,8,9,10,11,12,13,38,39,40,41] [] hh fun h hh=>?_;rcases isp H1 with ⟨c7,H1⟩|⟨c7,H1⟩;rotate_left
  .skip;apply fl;refine cf (f2 hh (zAb c7)) ?_;refine xk ?_;cases H1;exact ce hh ⟨kq hh,rfl⟩
  apply fl;refine ct (f2 hh (zAa c7)) ?_;refine sk ?_;obtain ⟨s_2,H2,H1⟩:=zab H1;apply fl;refine cu [4,8,9,10,11,12,13,38,39,40] 6 (fun h bs=>(h 4=.ptr 0 0 10/\h 8=zad (u++[(⟨0,⟨zA 10,zA 10⟩,-1,[]⟩:Rule)])/\h 9=.ptr 4 0 10/\h 10=.ptr 5 0 1/\h 11=.fn 75 [] [.ptr 5 0 1,.ptr 4 0 10]/\h 12=.fn 77 [zad (t++[(⟨0,⟨zA 10,zA 10⟩,-1,[]⟩:Rule)])] []/\h 13=.fn 77 [zad (u++[(⟨0,⟨zA 10,zA 10⟩,-1,[]⟩:Rule)])] []/\h 38=zad (t++[(⟨0,⟨zA 10,zA 10⟩,-1,[]⟩:Rule)])/\h 39=.int .i64 ((t++[(⟨0,⟨zA 10,zA 10⟩,-1,[]⟩:Rule)]).length:Int)/\h 40=.int .i64 i)/\bs=[.cells true 10 ((zA 10).l.map (fm .i64)),.gone,.gone,.gone,.cells true 10 (s_2.1.l.map (fm .i64)),.cells true 1 [.bool s_2.2]]) ?_ ?_
  .skip;apply gp;obtain ⟨g8,H2⟩:=isg H2;apply fl;refine rk [4,8,9,10,11,12,13,14,15,38,39,40] [] (f2 hh (zag g8)) fun h hh=>?_;apply fl;refine rk [4,8,9,10,11,12,13,14,15,38,39,40,45,46,47] [] hh fun h hh=>?_;obtain ⟨s_3,H3,H2⟩:=zab H2;refine cu [4,8,9,10,11,12,13,38,39,40] 7 (fun h bs=>(h 4=.ptr 0 0 10/\h 8=zad (u++[(⟨0,⟨zA 10,zA 10⟩,-1,[]⟩:Rule)])/\h 9=.ptr 4 0 10/\h 10=.ptr 5 0 1/\h 11=.fn 75 [] [.ptr 5 0 1,.ptr 4 0 10]/\h 12=.fn 77 [zad (t++[(⟨0,⟨zA 10,zA 10⟩,-1,[]⟩:Rule)])] []/\h 13=.fn 77 [zad (u++[(⟨0,⟨zA 10,zA 10⟩,-1,[]⟩:Rule)])] []/\h 38=zad (t++[(⟨0,⟨zA 10,zA 10⟩,-1,[]⟩:Rule)])/\h 39=.int .i64 ((t++[(⟨0,⟨zA 10,zA 10⟩,-1,[]⟩:Rule)]).length:Int)/\h 40=.int .i64 i)/\bs=[.cells true 10 ((zA 10).l.map (fm .i64)),.gone,.gone,.gone,.cells true 10 (s_3.1.l.map (fm .i64)),.cells true 1 [.bool s_3.2],.cells true 23 (fm .i64 ((gx (t++[(⟨0,⟨zA 10,zA 10⟩,-1,[]⟩:Rule)]) i).prio) :: ((((gx (t++[(⟨0,⟨zA 10,zA 10⟩,-1,[]⟩:Rule)]) i).mat).mask).l.map (fm .i64)++((((gx (t++[(⟨0,⟨zA 10,zA 10⟩,-1,[]⟩:Rule)]) i).mat).bits).l.map (fm .i64)++[fm .i64 ((gx (t++[(⟨0,⟨zA 10,zA 10⟩,-1,[]⟩:Rule)]) i).step),za5 ((gx (t++[(⟨0,⟨zA 10,zA 10⟩,-1,[]⟩:Rule)]) i).outs)])))]) ?_ ?_
   .skip;apply gp;refine jj [4,8,9,10,11,12,13,14,15,38,39,40,45,46,47] (fun m h bs=>∃ (i2:Int) (x3:Ar 10) (x4:Bool),zbi k t u i m i2 x3 x4=some s_3/\(h 4=.ptr 0 0 10/\h 8=zad (u++[(⟨0,⟨zA 10,zA 10⟩,-1,[]⟩:Rule)])/\h 9=.ptr 4 0 10/\h 10=.ptr 5 0 1/\h 11=.fn 75 [] [.ptr 5 0 1,.ptr 4 0 10]/\h 12=.fn 77 [zad (t++[(⟨0,⟨zA 10,zA 10⟩,-1,[]⟩:Rule)])] []/\h 13=.fn 77 [zad (u++[(⟨0,⟨zA 10,zA 10⟩,-1,[]⟩:Rule)])] []/\h 14=.int .i64 i/\h 15=.ptr 6 0 23/\h 38=zad (t++[(⟨0,⟨zA 10,zA 10⟩,-1,[]⟩:Rule)])/\h 39=.int .i64 ((t++[(⟨0,⟨zA 10,zA 10⟩,-1,[]⟩:Rule)]).length:Int)/\h 40=.int .i64 i/\h 45=zad (u++[(⟨0,⟨zA 10,zA 10⟩,-1,[]⟩:Rule)])/\h 46=.int .i64 ((u++[(⟨0,⟨zA 10,zA 10⟩,-1,[]⟩:Rule)]).length:Int)/\h 47=.int .i64 i2)/\bs=[.cells true 10 ((zA 10).l.map (fm .i64)),.gone,.gone,.gone,.cells true 10 (x3.l.map (fm .i64)),.cells true 1 [.bool x4],.cells true 23 (fm .i64 ((gx (t++[(⟨0,⟨zA 10,zA 10⟩,-1,[]⟩:Rule)]) i).prio) :: ((((gx (t++[(⟨0,⟨zA 10,zA 10⟩,-1,[]⟩:Rule)]) i).mat).mask).l.map (fm .i64)++((((gx (t++[(⟨0,⟨zA 10,zA 10⟩,-1,[]⟩:Rule)]) i).mat).bits).l.map (fm .i64)++[fm .i64 ((gx (t++[(⟨0,⟨zA 10,zA 10⟩,-1,[]⟩:Rule)]) i).step),za5 ((gx (t++[(⟨0,⟨zA 10,zA 10⟩,-1,[]⟩:Rule)]) i).outs)])))]) ?_ k _ _ ?_;rotate_left
    .exact ⟨0,x,x2,H3,kq hh,rfl⟩
    clear hh h H3;rintro m h bs ⟨i2,x3,x4,H3,hh,rfl⟩;rcases m with _|m
    .rw [zbi] at H3;cases H3
    rw [zbi] at H3;apply fl;refine rk [4,8,9,10,11,12,13,14,15,38,39,40,45,46,47,48] [] hh fun h hh=>?_;rcases isp H3 with ⟨c9,H3⟩|⟨c9,H3⟩;rotate_left
    .skip;apply fl;refine cf (f2 hh (zAb c9)) ?_;refine xk ?_;cases H3;exact ce hh ⟨kq hh,rfl⟩
    apply fl;refine ct (f2 hh (zAa c9)) ?_;refine sk ?_;apply fl;apply gp;obtain ⟨g10,H3⟩:=isg H3;apply fl;refine rk [4,8,9,10,11,12,13,14,15,16,17,38,39,40,45,46,47] [] (f2 hh (zag g10)) fun h hh=>?_;obtain ⟨am,e11,H3⟩:=zab H3;repeat apply fl
    refine rkp [4,8,9,10,11,12,13,14,15,16,17,38,39,40,45,46,47,54] [] [.bool am] hh ?_ ?_
    .exact ⟨gj ((zm0 ax hx k (⟨(gx (t++[(⟨0,⟨zA 10,zA 10⟩,-1,[]⟩:Rule)]) i).prio,((gx (t++[(⟨0,⟨zA 10,zA 10⟩,-1,[]⟩:Rule)]) i).mat),(gx (t++[(⟨0,⟨zA 10,zA 10⟩,-1,[]⟩:Rule)]) i).step,(gx (t++[(⟨0,⟨zA 10,zA 10⟩,-1,[]⟩:Rule)]) i).outs⟩:Rule) (⟨(gx (u++[(⟨0,⟨zA 10,zA 10⟩,-1,[]⟩:Rule)]) i2).prio,((gx (u++[(⟨0,⟨zA 10,zA 10⟩,-1,[]⟩:Rule)]) i2).mat),(gx (u++[(⟨0,⟨zA 10,zA 10⟩,-1,[]⟩:Rule)]) i2).step,(gx (u++[(⟨0,⟨zA 10,zA 10⟩,-1,[]⟩:Rule)]) i2).outs⟩:Rule) am e11 ).call _),trivial⟩
    clear hh h;intro h hh;rcases isb H3 with ⟨c12,H3⟩|⟨c12,H3⟩;rotate_left
    .skip;refine cf (f2 hh c12) ?_;refine sk ?_;obtain ⟨ah,e13,H3⟩:=zab H3;apply fl;refine rkc [4,8,9,10,11,12,13,14,15,16,18,19,38,39,40,45,46,47] [] [(.tup [ePat ah.1,.bool ah.2],stL [.cells true 10 ((zA 10).l.map (fm .i64)),.gone,.gone,.gone,.cells true 10 (x3.l.map (fm .i64)),.cells true 1 [.bool x4],.cells true 23 (fm .i64 ((gx (t++[(⟨0,⟨zA 10,zA 10⟩,-1,[]⟩:Rule)]) i).prio) :: ((((gx (t++[(⟨0,⟨zA 10,zA 10⟩,-1,[]⟩:Rule)]) i).mat).mask).l.map (fm .i64)++((((gx (t++[(⟨0,⟨zA 10,zA 10⟩,-1,[]⟩:Rule)]) i).mat).bits).l.map (fm .i64)++[fm .i64 ((gx (t++[(⟨0,⟨zA 10,zA 10⟩,-1,[]⟩:Rule)]) i).step),za5 ((gx (t++[(⟨0,⟨zA 10,zA 10⟩,-1,[]⟩:Rule)]) i).outs)]))),.cells true 23 (fm .i64 ((gx (u++[(⟨0,⟨zA 10,zA 10⟩,-1,[]⟩:Rule)]) i2).prio) :: ((((gx (u++[(⟨0,⟨zA 10,zA 10⟩,-1,[]⟩:Rule)]) i2).mat).mask).l.map (fm .i64)++((((gx (u++[(⟨0,⟨zA 10,zA 10⟩,-1,[]⟩:Rule)]) i2).mat).bits).l.map (fm .i64)++[fm .i64 ((gx (u++[(⟨0,⟨zA 10,zA 10⟩,-1,[]⟩:Rule)]) i2).step),za5 ((gx (u++[(⟨0,⟨zA 10,zA 10⟩,-1,[]⟩:Rule)]) i2).outs)])))])] (f2 hh c12) ?_ ?_
     .exact ⟨gj (ja (zr5 ax hx k ((gx (t++[(⟨0,⟨zA 10,zA 10⟩,-1,[]⟩:Rule)]) i).mat) ((gx (u++[(⟨0,⟨zA 10,zA 10⟩,-1,[]⟩:Rule)]) i2).mat) ah e13 ) (by first|rfl|simp only [c12])),trivial⟩
     clear hh h;intro h hh;refine zk 18 8 20 true (ah.1.mask.l.map (fm .i64)++(ah.1.bits.l.map (fm .i64))) [4,8,9,10,11,12,13,14,15,16,18,19,38,39,40,45,46,47] hh fun h hh=>?_;apply fl;refine rk [4,8,9,10,11,12,13,14,15,16,18,38,39,40,45,46,47,63] [] (f2 hh c12) fun h hh=>?_;rcases isb H3 with ⟨c14,H3⟩|⟨c14,H3⟩;rotate_left
     .skip;refine cf (f2 hh c14) ?_;refine sk ?_;refine rk [4,8,9,10,11,12,13,14,15,38,39,40,45,46,47] [] (f3 hh c12 c14) fun h hh=>?_;exact rd m hh ⟨(fo.wrap (i2+1)),x3,x4,H3,kq hh,rfl⟩
     refine ct (f2 hh c14) ?_;obtain ⟨s_4,H4,H3⟩:=zab H3;apply fl;refine cu [4,8,9,10,11,12,13,14,15,20,21,38,39,40,45,46,47] 11 (fun h bs=>(h 4=.ptr 0 0 10/\h 8=zad (u++[(⟨0,⟨zA 10,zA 10⟩,-1,[]⟩:Rule)])/\h 9=.ptr 4 0 10/\h 10=.ptr 5 0 1/\h 11=.fn 75 [] [.ptr 5 0 1,.ptr 4 0 10]/\h 12=.fn 77 [zad (t++[(⟨0,⟨zA 10,zA 10⟩,-1,[]⟩:Rule)])] []/\h 13=.fn 77 [zad (u++[(⟨0,⟨zA 10,zA 10⟩,-1,[]⟩:Rule)])] []/\h 14=.int .i64 i/\h 15=.ptr 6 0 23/\h 20=.ptr 10 0 10/\h 21=.bool s_4.1/\h 38=zad (t++[(⟨0,⟨zA 10,zA 10⟩,-1,[]⟩:Rule)])/\h 39=.int .i64 ((t++[(⟨0,⟨zA 10,zA 10⟩,-1,[]⟩:Rule)]).length:Int)/\h 40=.int .i64 i/\h 45=zad (u++[(⟨0,⟨zA 10,zA 10⟩,-1,[]⟩:Rule)])/\h 46=.int .i64 ((u++[(⟨0,⟨zA 10,zA 10⟩,-1,[]⟩:Rule)]).length:Int)/\h 47=.int .i64 i2)/\bs=[.cells true 10 ((zA 10).l.map (fm .i64)),.gone,.gone,.gone,.cells true 10 (x3.l.map (fm .i64)),.cells true 1 [.bool x4],.cells true 23 (fm .i64 ((gx (t++[(⟨0,⟨zA 10,zA 10⟩,-1,[]⟩:Rule)]) i).prio) :: ((((gx (t++[(⟨0,⟨zA 10,zA 10⟩,-1,[]⟩:Rule)]) i).mat).mask).l.map (fm .i64)++((((gx (t++[(⟨0,⟨zA 10,zA 10⟩,-1,[]⟩:Rule)]) i).mat).bits).l.map (fm .i64)++[fm .i64 ((gx (t++[(⟨0,⟨zA 10,zA 10⟩,-1,[]⟩:Rule)]) i).step),za5 ((gx (t++[(⟨0,⟨zA 10,zA 10⟩,-1,[]⟩:Rule)]) i).outs)]))),.cells true 23 (fm .i64 ((gx (u++[(⟨0,⟨zA 10,zA 10⟩,-1,[]⟩:Rule)]) i2).prio) :: ((((gx (u++[(⟨0,⟨zA 10,zA 10⟩,-1,[]⟩:Rule)]) i2).mat).mask).l.map (fm .i64)++((((gx (u++[(⟨0,⟨zA 10,zA 10⟩,-1,[]⟩:Rule)]) i2).mat).bits).l.map (fm .i64)++[fm .i64 ((gx (u++[(⟨0,⟨zA 10,zA 10⟩,-1,[]⟩:Rule)]) i2).step),za5 ((gx (u++[(⟨0,⟨zA 10,zA 10⟩,-1,[]⟩:Rule)]) i2).outs)]))),.gone,.cells false (s_4.2.2.1*20) (vecC ePat s_4.2.1),.cells true 10 (s_4.2.2.2.l.map (fm .i64))]) ?_ ?_
     .skip;obtain ⟨rb,e15,H4⟩:=zab H4;obtain ⟨ac,e16,H4⟩:=zab H4;obtain ⟨g17,H4⟩:=isg H4;rcases isp H4 with ⟨c18,H4⟩|⟨c18,H4⟩;rotate_left
      .skip;obtain ⟨g21,H4⟩:=isg H4;obtain ⟨be,e22,H4⟩:=zab H4;refine dcg 3 [18] [] [] [(.arr 9 20 0 rb.2 rb.2 (rb.2*20),stL [.cells true 10 ((zA 10).l.map (fm .i64)),.gone,.gone,.gone,.cells true 10 (x3.l.map (fm .i64)),.cells true 1 [.bool x4],.cells true 23 (fm .i64 ((gx (t++[(⟨0,⟨zA 10,zA 10⟩,-1,[]⟩:Rule)]) i).prio) :: ((((gx (t++[(⟨0,⟨zA 10,zA 10⟩,-1,[]⟩:Rule)]) i).mat).mask).l.map (fm .i64)++((((gx (t++[(⟨0,⟨zA 10,zA 10⟩,-1,[]⟩:Rule)]) i).mat).bits).l.map (fm .i64)++[fm .i64 ((gx (t++[(⟨0,⟨zA 10,zA 10⟩,-1,[]⟩:Rule)]) i).step),za5 ((gx (t++[(⟨0,⟨zA 10,zA 10⟩,-1,[]⟩:Rule)]) i).outs)]))),.cells true 23 (fm .i64 ((gx (u++[(⟨0,⟨zA 10,zA 10⟩,-1,[]⟩:Rule)]) i2).prio) :: ((((gx (u++[(⟨0,⟨zA 10,zA 10⟩,-1,[]⟩:Rule)]) i2).mat).mask).l.map (fm .i64)++((((gx (u++[(⟨0,⟨zA 10,zA 10⟩,-1,[]⟩:Rule)]) i2).mat).bits).l.map (fm .i64)++[fm .i64 ((gx (u++[(⟨0,⟨zA 10,zA 10⟩,-1,[]⟩:Rule)]) i2).step),za5 ((gx (u++[(⟨0,⟨zA 10,zA 10⟩,-1,[]⟩:Rule)]) i2).outs)]))),.gone,.cells false (rb.2*20) (vecC ePat rb.1)]),(lPat ac,stL [.cells true 10 ((zA 10).l.map (fm .i64)),.gone,.gone,.gone,.cells true 10 (x3.l.map (fm .i64)),.cells true 1 [.bool x4],.cells true 23 (fm .i64 ((gx (t++[(⟨0,⟨zA 10,zA 10⟩,-1,[]⟩:Rule)]) i).prio) :: ((((gx (t++[(⟨0,⟨zA 10,zA 10⟩,-1,[]⟩:Rule)]) i).mat).mask).l.map (fm .i64)++((((gx (t++[(⟨0,⟨zA 10,zA 10⟩,-1,[]⟩:Rule)]) i).mat).bits).l.map (fm .i64)++[fm .i64 ((gx (t++[(⟨0,⟨zA 10,zA 10⟩,-1,[]⟩:Rule)]) i).step),za5 ((gx (t++[(⟨0,⟨zA 10,zA 10⟩,-1,[]⟩:Rule)]) i).outs)]))),.cells true 23 (fm .i64 ((gx (u++[(⟨0,⟨zA 10,zA 10⟩,-1,[]⟩:Rule)]) i2).prio) :: ((((gx (u++[(⟨0,⟨zA 10,zA 10⟩,-1,[]⟩:Rule)]) i2).mat).mask).l.map (fm .i64)++((((gx (u++[(⟨0,⟨zA 10,zA 10⟩,-1,[]⟩:Rule)]) i2).mat).bits).l.map (fm .i64)++[fm .i64 ((gx (u++[(⟨0,⟨zA 10,zA 10⟩,-1,[]⟩:Rule)]) i2).step),za5 ((gx (u++[(⟨0,⟨zA 10,zA 10⟩,-1,[]⟩:Rule)]) i2).outs)]))),.gone,.cells false (rb.2*20) (vecC ePat rb.1)]),(.tup [.agg (be.1.l.map (fm .i64)),.bool be.2],stL [.cells true 10 ((zA 10).l.map (fm .i64)),.gone,.gone,.gone,.cells true 10 (x3.l.map (fm .i64)),.cells true 1 [.bool x4],.cells true 23 (fm .i64 ((gx (t++[(⟨0,⟨zA 10,zA 10⟩,-1,[]⟩:Rule)]) i).prio) :: ((((gx (t++[(⟨0,⟨zA 10,zA 10⟩,-1,[]⟩:Rule)]) i).mat).mask).l.map (fm .i64)++((((gx (t++[(⟨0,⟨zA 10,zA 10⟩,-1,[]⟩:Rule)]) i).mat).bits).l.map (fm .i64)++[fm .i64 ((gx (t++[(⟨0,⟨zA 10,zA 10⟩,-1,[]⟩:Rule)]) i).step),za5 ((gx (t++[(⟨0,⟨zA 10,zA 10⟩,-1,[]⟩:Rule)]) i).outs)]))),.cells true 23 (fm .i64 ((gx (u++[(⟨0,⟨zA 10,zA 10⟩,-1,[]⟩:Rule)]) i2).prio) :: ((((gx (u++[(⟨0,⟨zA 10,zA 10⟩,-1,[]⟩:Rule)]) i2).mat).mask).l.map (fm .i64)++((((gx (u++[(⟨0,⟨zA 10,zA 10⟩,-1,[]⟩:Rule)]) i2).mat).bits).l.map (fm .i64)++[fm .i64 ((gx (u++[(⟨0,⟨zA 10,zA 10⟩,-1,[]⟩:Rule)]) i2).step),za5 ((gx (u++[(⟨0,⟨zA 10,zA 10⟩,-1,[]⟩:Rule)]) i2).outs)]))),.gone,.cells false ((rb.2+ac.length)*20) (vecC ePat (rb.1++ac))])] [.cells true 10 ((zA 10).l.map (fm .i64)),.gone,.gone,.gone,.cells true 10 (x3.l.map (fm .i64)),.cells true 1 [.bool x4],.cells true 23 (fm .i64 ((gx (t++[(⟨0,⟨zA 10,zA 10⟩,-1,[]⟩:Rule)]) i).prio) :: ((((gx (t++[(⟨0,⟨zA 10,zA 10⟩,-1,[]⟩:Rule)]) i).mat).mask).l.map (fm .i64)++((((gx (t++[(⟨0,⟨zA 10,zA 10⟩,-1,[]⟩:Rule)]) i).mat).bits).l.map (fm .i64)++[fm .i64 ((gx (t++[(⟨0,⟨zA 10,zA 10⟩,-1,[]⟩:Rule)]) i).step),za5 ((gx (t++[(⟨0,⟨zA 10,zA 10⟩,-1,[]⟩:Rule)]) i).outs)]))),.cells true 23 (fm .i64 ((gx (u++[(⟨0,⟨zA 10,zA 10⟩,-1,[]⟩:Rule)]) i2).prio) :: ((((gx (u++[(⟨0,⟨zA 10,zA 10⟩,-1,[]⟩:Rule)]) i2).mat).mask).l.map (fm .i64)++((((gx (u++[(⟨0,⟨zA 10,zA 10⟩,-1,[]⟩:Rule)]) i2).mat).bits).l.map (fm .i64)++[fm .i64 ((gx (u++[(⟨0,⟨zA 10,zA 10⟩,-1,[]⟩:Rule)]) i2).step),za5 ((gx (u++[(⟨0,⟨zA 10,zA 10⟩,-1,[]⟩:Rule)]) i2).outs)]))),.gone,.cells false ((rb.2+ac.length)*20) (vecC ePat (rb.1++ac)),.cells true 10 (be.1.l.map (fm .i64))] (fun h=>h 4=.ptr 0 0 10/\h 8=zad (u++[(⟨0,⟨zA 10,zA 10⟩,-1,[]⟩:Rule)])/\h 9=.ptr 4 0 10/\h 10=.ptr 5 0 1/\h 11=.fn 75 [] [.ptr 5 0 1,.ptr 4 0 10]/\h 12=.fn 77 [zad (t++[(⟨0,⟨zA 10,zA 10⟩,-1,[]⟩:Rule)])] []/\h 13=.fn 77 [zad (u++[(⟨0,⟨zA 10,zA 10⟩,-1,[]⟩:Rule)])] []/\h 14=.int .i64 i/\h 15=.ptr 6 0 23/\h 20=.ptr 10 0 10/\h 21=.bool be.2/\h 38=zad (t++[(⟨0,⟨zA 10,zA 10⟩,-1,[]⟩:Rule)])/\h 39=.int .i64 ((t++[(⟨0,⟨zA 10,zA 10⟩,-1,[]⟩:Rule)]).length:Int)/\h 40=.int .i64 i/\h 45=zad (u++[(⟨0,⟨zA 10,zA 10⟩,-1,[]⟩:Rule)])/\h 46=.int .i64 ((u++[(⟨0,⟨zA 10,zA 10⟩,-1,[]⟩:Rule)]).length:Int)/\h 47=.int .i64 i2) (f3 hh c12 (f3 c14 (zgm ePat ac) (f2 (zbt (f:=ePat) (e:=20) (fun x=>za2 x) ac) (ze4 (f:=ePat) (fun x=>zoe x) ac)))) trivial ?_ ?_
       .exact ⟨car [9] (zhd ax hx k (t++[(⟨0,⟨zA 10,zA 10⟩,-1,[]⟩:Rule)]) i rb e15),gj (ja (zh6 ax hx k (u++[(⟨0,⟨zA 10,zA 10⟩,-1,[]⟩:Rule)]) i2 ac e16 ) (by first|rfl|simp only [c12,c14])),(by have q:=gj (Pure.lend (S:=stL [.cells true 10 ((zA 10).l.map (fm .i64)),.gone,.gone,.gone,.cells true 10 (x3.l.map (fm .i64)),.cells true 1 [.bool x4],.cells true 23 (fm .i64 ((gx (t++[(⟨0,⟨zA 10,zA 10⟩,-1,[]⟩:Rule)]) i).prio) :: ((((gx (t++[(⟨0,⟨zA 10,zA 10⟩,-1,[]⟩:Rule)]) i).mat).mask).l.map (fm .i64)++((((gx (t++[(⟨0,⟨zA 10,zA 10⟩,-1,[]⟩:Rule)]) i).mat).bits).l.map (fm .i64)++[fm .i64 ((gx (t++[(⟨0,⟨zA 10,zA 10⟩,-1,[]⟩:Rule)]) i).step),za5 ((gx (t++[(⟨0,⟨zA 10,zA 10⟩,-1,[]⟩:Rule)]) i).outs)]))),.cells true 23 (fm .i64 ((gx (u++[(⟨0,⟨zA 10,zA 10⟩,-1,[]⟩:Rule)]) i2).prio) :: ((((gx (u++[(⟨0,⟨zA 10,zA 10⟩,-1,[]⟩:Rule)]) i2).mat).mask).l.map (fm .i64)++((((gx (u++[(⟨0,⟨zA 10,zA 10⟩,-1,[]⟩:Rule)]) i2).mat).bits).l.map (fm .i64)++[fm .i64 ((gx (u++[(⟨0,⟨zA 10,zA 10⟩,-1,[]⟩:Rule)]) i2).step),za5 ((gx (u++[(⟨0,⟨zA 10,zA 10⟩,-1,[]⟩:Rule)]) i2).outs)]))),.gone,.cells false ((rb.2+ac.length)*20) (vecC ePat (rb.1++ac))]) (args:=[ePat ah.1,.arr 9 20 0 (rb.2+ac.length) (rb.2+ac.length) ((rb.2+ac.length)*20)]) (zml ax hx k ah.1 (rb.1++ac) be e22 ) (fi (Or.inl rfl) (fi (zs9 (fun x=>za2 x) (by decide) (by rfl) g21) (trivial))) (by first|rfl | (simp only [tupT,T.flat,T.flatL,zvg,zi5,gl];done)));(try simp only [c12,c14] at q);first|exact q | (simp only [jt,nh,zaw] at q ⊢;exact q)),trivial⟩
       clear hh h;intro h hh;cases H4;exact ce hh ⟨kq hh,rfl⟩
      obtain ⟨g19,H4⟩:=isg H4;obtain ⟨ba,e20,H4⟩:=zab H4;refine dcg 3 [18] [] [] [(.arr 9 20 0 rb.2 rb.2 (rb.2*20),stL [.cells true 10 ((zA 10).l.map (fm .i64)),.gone,.gone,.gone,.cells true 10 (x3.l.map (fm .i64)),.cells true 1 [.bool x4],.cells true 23 (fm .i64 ((gx (t++[(⟨0,⟨zA 10,zA 10⟩,-1,[]⟩:Rule)]) i).prio) :: ((((gx (t++[(⟨0,⟨zA 10,zA 10⟩,-1,[]⟩:Rule)]) i).mat).mask).l.map (fm .i64)++((((gx (t++[(⟨0,⟨zA 10,zA 10⟩,-1,[]⟩:Rule)]) i).mat).bits).l.map (fm .i64)++[fm .i64 ((gx (t++[(⟨0,⟨zA 10,zA 10⟩,-1,[]⟩:Rule)]) i).step),za5 ((gx (t++[(⟨0,⟨zA 10,zA 10⟩,-1,[]⟩:Rule)]) i).outs)]))),.cells true 23 (fm .i64 ((gx (u++[(⟨0,⟨zA 10,zA 10⟩,-1,[]⟩:Rule)]) i2).prio) :: ((((gx (u++[(⟨0,⟨zA 10,zA 10⟩,-1,[]⟩:Rule)]) i2).mat).mask).l.map (fm .i64)++((((gx (u++[(⟨0,⟨zA 10,zA 10⟩,-1,[]⟩:Rule)]) i2).mat).bits).l.map (fm .i64)++[fm .i64 ((gx (u++[(⟨0,⟨zA 10,zA 10⟩,-1,[]⟩:Rule)]) i2).step),za5 ((gx (u++[(⟨0,⟨zA 10,zA 10⟩,-1,[]⟩:Rule)]) i2).outs)]))),.gone,.cells false (rb.2*20) (vecC ePat rb.1)]),(lPat ac,stL [.cells true 10 ((zA 10).l.map (fm .i64)),.gone,.gone,.gone,.cells true 10 (x3.l.map (fm .i64)),.cells true 1 [.bool x4],.cells true 23 (fm .i64 ((gx (t++[(⟨0,⟨zA 10,zA 10⟩,-1,[]⟩:Rule)]) i).prio) :: ((((gx (t++[(⟨0,⟨zA 10,zA 10⟩,-1,[]⟩:Rule)]) i).mat).mask).l.map (fm .i64)++((((gx (t++[(⟨0,⟨zA 10,zA 10⟩,-1,[]⟩:Rule)]) i).mat).bits).l.map (fm .i64)++[fm .i64 ((gx (t++[(⟨0,⟨zA 10,zA 10⟩,-1,[]⟩:Rule)]) i).step),za5 ((gx (t++[(⟨0,⟨zA 10,zA 10⟩,-1,[]⟩:Rule)]) i).outs)]))),.cells true 23 (fm .i64 ((gx (u++[(⟨0,⟨zA 10,zA 10⟩,-1,[]⟩:Rule)]) i2).prio) :: ((((gx (u++[(⟨0,⟨zA 10,zA 10⟩,-1,[]⟩:Rule)]) i2).mat).mask).l.map (fm .i64)++((((gx (u++[(⟨0,⟨zA 10,zA 10⟩,-1,[]⟩:Rule)]) i2).mat).bits).l.map (fm .i64)++[fm .i64 ((gx (u++[(⟨0,⟨zA 10,zA 10⟩,-1,[]⟩:Rule)]) i2).step),za5 ((gx (u++[(⟨0,⟨zA 10,zA 10⟩,-1,[]⟩:Rule)]) i2).outs)]))),.gone,.cells false (rb.2*20) (vecC ePat rb.1)]),(.tup [.agg (ba.1.l.map (fm .i64)),.bool ba.2],stL [.cells true 10 ((zA 10).l.map (fm .i64)),.gone,.gone,.gone,.cells true 10 (x3.l.map (fm .i64)),.cells true 1 [.bool x4],.cells true 23 (fm .i64 ((gx (t++[(⟨0,⟨zA 10,zA 10⟩,-1,[]⟩:Rule)]) i).prio) :: ((((gx (t++[(⟨0,⟨zA 10,zA 10⟩,-1,[]⟩:Rule)]) i).mat).mask).l.map (fm .i64)++((((gx (t++[(⟨0,⟨zA 10,zA 10⟩,-1,[]⟩:Rule)]) i).mat).bits).l.map (fm .i64)++[fm .i64 ((gx (t++[(⟨0,⟨zA 10,zA 10⟩,-1,[]⟩:Rule)]) i).step),za5 ((gx (t++[(⟨0,⟨zA 10,zA 10⟩,-1,[]⟩:Rule)]) i).outs)]))),.cells true 23 (fm .i64 ((gx (u++[(⟨0,⟨zA 10,zA 10⟩,-1,[]⟩:Rule)]) i2).prio) :: ((((gx (u++[(⟨0,⟨zA 10,zA 10⟩,-1,[]⟩:Rule)]) i2).mat).mask).l.map (fm .i64)++((((gx (u++[(⟨0,⟨zA 10,zA 10⟩,-1,[]⟩:Rule)]) i2).mat).bits).l.map (fm .i64)++[fm .i64 ((gx (u++[(⟨0,⟨zA 10,zA 10⟩,-1,[]⟩:Rule)]) i2).step),za5 ((gx (u++[(⟨0,⟨zA 10,zA 10⟩,-1,[]⟩:Rule)]) i2).outs)]))),.gone,.cells false (rb.2*20) (vecC ePat rb.1)])] [.cells true 10 ((zA 10).l.map (fm .i64)),.gone,.gone,.gone,.cells true 10 (x3.l.map (fm .i64)),.cells true 1 [.bool x4],.cells true 23 (fm .i64 ((gx (t++[(⟨0,⟨zA 10,zA 10⟩,-1,[]⟩:Rule)]) i).prio) :: ((((gx (t++[(⟨0,⟨zA 10,zA 10⟩,-1,[]⟩:Rule)]) i).mat).mask).l.map (fm .i64)++((((gx (t++[(⟨0,⟨zA 10,zA 10⟩,-1,[]⟩:Rule)]) i).mat).bits).l.map (fm .i64)++[fm .i64 ((gx (t++[(⟨0,⟨zA 10,zA 10⟩,-1,[]⟩:Rule)]) i).step),za5 ((gx (t++[(⟨0,⟨zA 10,zA 10⟩,-1,[]⟩:Rule)]) i).outs)]))),.cells true 23 (fm .i64 ((gx (u++[(⟨0,⟨zA 10,zA 10⟩,-1,[]⟩:Rule)]) i2).prio) :: ((((gx (u++[(⟨0,⟨zA 10,zA 10⟩,-1,[]⟩:Rule)]) i2).mat).mask).l.map (fm .i64)++((((gx (u++[(⟨0,⟨zA 10,zA 10⟩,-1,[]⟩:Rule)]) i2).mat).bits).l.map (fm .i64)++[fm .i64 ((gx (u++[(⟨0,⟨zA 10,zA 10⟩,-1,[]⟩:Rule)]) i2).step),za5 ((gx (u++[(⟨0,⟨zA 10,zA 10⟩,-1,[]⟩:Rule)]) i2).outs)]))),.gone,.cells false (rb.2*20) (vecC ePat rb.1),.cells true 10 (ba.1.l.map (fm .i64))] (fun h=>h 4=.ptr 0 0 10/\h 8=zad (u++[(⟨0,⟨zA 10,zA 10⟩,-1,[]⟩:Rule)])/\h 9=.ptr 4 0 10/\h 10=.ptr 5 0 1/\h 11=.fn 75 [] [.ptr 5 0 1,.ptr 4 0 10]/\h 12=.fn 77 [zad (t++[(⟨0,⟨zA 10,zA 10⟩,-1,[]⟩:Rule)])] []/\h 13=.fn 77 [zad (u++[(⟨0,⟨zA 10,zA 10⟩,-1,[]⟩:Rule)])] []/\h 14=.int .i64 i/\h 15=.ptr 6 0 23/\h 20=.ptr 10 0 10/\h 21=.bool ba.2/\h 38=zad (t++[(⟨0,⟨zA 10,zA 10⟩,-1,[]⟩:Rule)])/\h 39=.int .i64 ((t++[(⟨0,⟨zA 10,zA 10⟩,-1,[]⟩:Rule)]).length:Int)/\h 40=.int .i64 i/\h 45=zad (u++[(⟨0,⟨zA 10,zA 10⟩,-1,[]⟩:Rule)])/\h 46=.int .i64 ((u++[(⟨0,⟨zA 10,zA 10⟩,-1,[]⟩:Rule)]).length:Int)/\h 47=.int .i64 i2) (f3 hh c12 (f3 c14 c18 (f3 (zgm ePat ac) (zbt (f:=ePat) (e:=20) (fun x=>za2 x) ac) (ze4 (f:=ePat) (fun x=>zoe x) ac)))) trivial ?_ ?_
      .exact ⟨car [9] (zhd ax hx k (t++[(⟨0,⟨zA 10,zA 10⟩,-1,[]⟩:Rule)]) i rb e15),gj (ja (zh6 ax hx k (u++[(⟨0,⟨zA 10,zA 10⟩,-1,[]⟩:Rule)]) i2 ac e16 ) (by first|rfl|simp only [c12,c14])),(by have q:=gj (Pure.lend (S:=stL [.cells true 10 ((zA 10).l.map (fm .i64)),.gone,.gone,.gone,.cells true 10 (x3.l.map (fm .i64)),.cells true 1 [.bool x4],.cells true 23 (fm .i64 ((gx (t++[(⟨0,⟨zA 10,zA 10⟩,-1,[]⟩:Rule)]) i).prio) :: ((((gx (t++[(⟨0,⟨zA 10,zA 10⟩,-1,[]⟩:Rule)]) i).mat).mask).l.map (fm .i64)++((((gx (t++[(⟨0,⟨zA 10,zA 10⟩,-1,[]⟩:Rule)]) i).mat).bits).l.map (fm .i64)++[fm .i64 ((gx (t++[(⟨0,⟨zA 10,zA 10⟩,-1,[]⟩:Rule)]) i).step),za5 ((gx (t++[(⟨0,⟨zA 10,zA 10⟩,-1,[]⟩:Rule)]) i).outs)]))),.cells true 23 (fm .i64 ((gx (u++[(⟨0,⟨zA 10,zA 10⟩,-1,[]⟩:Rule)]) i2).prio) :: ((((gx (u++[(⟨0,⟨zA 10,zA 10⟩,-1,[]⟩:Rule)]) i2).mat).mask).l.map (fm .i64)++((((gx (u++[(⟨0,⟨zA 10,zA 10⟩,-1,[]⟩:Rule)]) i2).mat).bits).l.map (fm .i64)++[fm .i64 ((gx (u++[(⟨0,⟨zA 10,zA 10⟩,-1,[]⟩:Rule)]) i2).step),za5 ((gx (u++[(⟨0,⟨zA 10,zA 10⟩,-1,[]⟩:Rule)]) i2).outs)]))),.gone,.cells false (rb.2*20) (vecC ePat rb.1)]) (args:=[ePat ah.1,.arr 9 20 0 rb.2 rb.2 (rb.2*20)]) (zml ax hx k ah.1 rb.1 ba e20 ) (fi (Or.inl rfl) (fi (zs9 (fun x=>za2 x) (by decide) (by rfl) g19) (trivial))) (by first|rfl | (simp only [tupT,T.flat,T.flatL,zvg,zi5,gl];done)));(try simp only [c12,c14] at q);first|exact q | (simp only [jt,nh,zaw] at q ⊢;exact q)),trivial⟩
      clear hh h;intro h hh;cases H4;exact ce hh ⟨kq hh,rfl⟩
     clear hh h;rintro h bs ⟨hh,rfl⟩;apply fl;refine rk [4,8,9,10,11,12,13,14,15,20,38,39,40,45,46,47,76] [] (f3 hh c12 c14) fun h hh=>?_;rcases isb H3 with ⟨c23,H3⟩|⟨c23,H3⟩;rotate_left
     .skip;refine cf (f2 hh c23) ?_;refine sk ?_;refine rk [4,8,9,10,11,12,13,14,15,38,39,40,45,46,47] [] (f3 hh c12 (f2 c14 c23)) fun h hh=>?_;exact rd m hh ⟨(fo.wrap (i2+1)),x3,x4,H3,kq hh,rfl⟩
     refine ct (f2 hh c23) ?_;obtain ⟨rb2,e24,H3⟩:=zab H3;refine rkc [4,8,9,10,11,12,13,14,15,38,39,40,45,46,47] [] [(.tup [],stL [.cells true 10 ((zA 10).l.map (fm .i64)),.gone,.gone,.gone,.cells true 10 (rb2.2.l.map (fm .i64)),.cells true 1 [.bool rb2.1],.cells true 23 (fm .i64 ((gx (t++[(⟨0,⟨zA 10,zA 10⟩,-1,[]⟩:Rule)]) i).prio) :: ((((gx (t++[(⟨0,⟨zA 10,zA 10⟩,-1,[]⟩:Rule)]) i).mat).mask).l.map (fm .i64)++((((gx (t++[(⟨0,⟨zA 10,zA 10⟩,-1,[]⟩:Rule)]) i).mat).bits).l.map (fm .i64)++[fm .i64 ((gx (t++[(⟨0,⟨zA 10,zA 10⟩,-1,[]⟩:Rule)]) i).step),za5 ((gx (t++[(⟨0,⟨zA 10,zA 10⟩,-1,[]⟩:Rule)]) i).outs)]))),.cells true 23 (fm .i64 ((gx (u++[(⟨0,⟨zA 10,zA 10⟩,-1,[]⟩:Rule)]) i2).prio) :: ((((gx (u++[(⟨0,⟨zA 10,zA 10⟩,-1,[]⟩:Rule)]) i2).mat).mask).l.map (fm .i64)++((((gx (u++[(⟨0,⟨zA 10,zA 10⟩,-1,[]⟩:Rule)]) i2).mat).bits).l.map (fm .i64)++[fm .i64 ((gx (u++[(⟨0,⟨zA 10,zA 10⟩,-1,[]⟩:Rule)]) i2).step),za5 ((gx (u++[(⟨0,⟨zA 10,zA 10⟩,-1,[]⟩:Rule)]) i2).outs)]))),.gone,.cells false (s_4.2.2.1*20) (vecC ePat s_4.2.1),.cells true 10 (s_4.2.2.2.l.map (fm .i64))])] (f3 hh c12 (f2 c14 c23)) ?_ ?_
     .exact ⟨ca [5,4] (zo4 ax hx k s_4.2.2.2 x4 x3 rb2 e24),trivial⟩
     clear hh h;intro h hh;refine rk [4,8,9,10,11,12,13,14,15,38,39,40,45,46,47] [] (f3 hh c12 (f2 c14 c23)) fun h hh=>?_;exact rd m hh ⟨(fo.wrap (i2+1)),rb2.2,rb2.1,H3,kq hh,rfl⟩
    refine ct (f2 hh c12) ?_;refine xk ?_;refine rk [4,8,9,10,11,12,13,14,15,38,39,40,45,46,47] [] (f2 hh c12) fun h hh=>?_;exact rd m hh ⟨(fo.wrap (i2+1)),x3,x4,H3,kq hh,rfl⟩
   clear hh h;rintro h bs ⟨hh,rfl⟩;cases H2;exact ce hh ⟨kq hh,rfl⟩
  clear hh h;rintro h bs ⟨hh,rfl⟩;refine rk [4,8,9,10,11,12,13,38,39,40] [] hh fun h hh=>?_;exact rd m hh ⟨(fo.wrap (i+1)),s_2.1,s_2.2,H1,kq hh,rfl⟩
 clear hh h;rintro h bs ⟨hh,rfl⟩;apply fl;refine ds 3 [(4,some 0),(10,some 5)] [4,5] [] [] [] hh trivial trivial fun h hh=>?_;cases H;exact rtc hh
def zfg (k:Nat) (i:Int):Nat->Int->Int->Option Int
 |0,_,_=>none
 |m+1,v_,k_=>(if 0<=i/\0<16 then (if k_<(i % 16) then (if 0<=v_/\0<2 then zfg k i m (fo.wrap (v_ / 2)) (fo.wrap (k_+1)) else none) else some v_) else none)
def zjt (k:Nat) (i:Int):Option Int:=((zfg k i k 32768 0:Option Int).bind fun s_=>some s_)
theorem zpz (ax:Axs) (hx:NoAx ax) (k:Nat) (i:Int) (v:Int) (H:zjt k i=some v):Pure Try.prog (EE ax) [] 73 [.int .i64 i] (.int .i64 v):=by
 rw [zjt] at H;refine en [.tmp 2] 14 [0] (hx.no _ (by decide)) (fn73 ax) ?_;intro h hh;apply fl;refine rk [0] [] hh fun h hh=>?_;apply fl;refine rk [0,3] [] hh fun h hh=>?_;repeat apply fl
 refine rk [0,3,4] [] hh fun h hh=>?_;obtain ⟨s_,H1,H⟩:=zab H;refine cu [3] 0 (fun h bs=>(h 3=.int .i64 s_)/\bs=[]) ?_ ?_
 .skip;apply gp;refine jj [0,3,4] (fun m h bs=>∃ (v_:Int) (k_:Int),zfg k i m v_ k_=some s_/\(h 0=.int .i64 i/\h 3=.int .i64 v_/\h 4=.int .i64 k_)/\bs=[]) ?_ k _ _ ?_;rotate_left
  .exact ⟨32768,0,H1,kq hh,rfl⟩
  clear hh h H1;rintro m h bs ⟨v_,k_,H1,hh,rfl⟩;rcases m with _|m
  .rw [zfg] at H1;cases H1
  rw [zfg] at H1;obtain ⟨g1,H1⟩:=isg H1;repeat apply fl
  refine rk [0,3,4,8] [] hh fun h hh=>?_;rcases isp H1 with ⟨c2,H1⟩|⟨c2,H1⟩;rotate_left
  .skip;refine cf (f2 hh (zAb c2)) ?_;refine xk ?_;cases H1;exact ce hh ⟨kq hh,rfl⟩
  refine ct (f2 hh (zAa c2)) ?_;refine sk ?_;apply fl;apply gp;obtain ⟨g3,H1⟩:=isg H1;refine rk [0,3,4] [] hh fun h hh=>?_;refine rk [0,3,4] [] hh fun h hh=>?_;exact rd m hh ⟨(fo.wrap (v_ / 2)),(fo.wrap (k_+1)),H1,kq hh,rfl⟩
 clear hh h;rintro h bs ⟨hh,rfl⟩;apply fl;refine rk [2] [] hh fun h hh=>?_;cases H;exact rt hh
def zcx (k:Nat) (h_:Ar 10) (i:Int):Option Int:=(if 0<=i/\0<16 then (if (0:Int)<=(fo.wrap (i / 16))/\(fo.wrap (i / 16))<(10:Int) then ((zjt k i).bind fun aq=>(if (0:Int)<=(gx h_.l (fo.wrap (i / 16)))/\0<aq then (if (0:Int)<=(fo.wrap ((gx h_.l (fo.wrap (i / 16))) / aq))/\0<2 then some ((fo.wrap ((gx h_.l (fo.wrap (i / 16))) / aq)) % 2) else none) else none)) else none) else none)
theorem za7 (ax:Axs) (hx:NoAx ax) (k:Nat) (h_:Ar 10) (i:Int) (v:Int) (H:zcx k h_ i=some v):Pure Try.prog (EE ax) [] 56 [.agg (h_.l.map (fm .i64)),.int .i64 i] (.int .i64 v):=by
 rw [zcx] at H;refine en [.tmp 4] 13 [0,1] (hx.no _ (by decide)) (fn56 ax) ?_;intro h hh;apply fl;refine rk [1,2] [] hh fun h hh=>?_;obtain ⟨g1,H⟩:=isg H;obtain ⟨g2,H⟩:=isg H;obtain ⟨aq,e3,H⟩:=zab H;obtain ⟨g4,H⟩:=isg H;obtain ⟨g5,H⟩:=isg H;apply fl;refine dk 6 [4] [.int .i64 aq] [] [] (f2 hh (arIx h_ g2)) ?_ trivial ?_
 .exact ⟨(zpz ax hx k i aq e3 ).call _,trivial⟩
 clear hh h;intro h hh;cases H;exact rt hh
def zdc (k:Nat) (p:Pat) (h_:Ar 10):Nat->Int->Option (Bool ⊕ Unit)
 |0,_=>none
 |m+1,i=>(if i<160 then ((zcx k p.mask i).bind fun aj=>(if aj=1 then ((zcx k p.bits i).bind fun ar=>((zcx k h_ i).bind fun bd=>(if ar≠bd then some (.inl false) else zdc k p h_ m (fo.wrap (i+1))))) else zdc k p h_ m (fo.wrap (i+1)))) else some (.inr ()))
def zlg (k:Nat) (p:Pat) (h_:Ar 10):Option Bool:=((zdc k p h_ k 0:Option (Bool ⊕ Unit)).bind fun o=>kj (fun r=>some r) (fun s_=>some true) o)
theorem zzm (ax:Axs) (hx:NoAx ax) (k:Nat) (p:Pat) (h_:Ar 10) (v:Bool) (H:zlg k p h_=some v):Pure Try.prog (EE ax) [] 49 [ePat p,.agg (h_.l.map (fm .i64))] (.bool v):=by
 rw [zlg] at H;refine en [.tmp 4] 25 [0,1] (hx.no _ (by decide)) (fn49 ax) ?_;intro h hh;apply fl;refine rk [2,3] [] hh fun h hh=>?_;repeat apply fl
 refine rk [2,3,5] [] hh fun h hh=>?_;obtain ⟨o,H1,H⟩:=zab H;refine cu [] 2 (fun h bs=>∃ s_:Unit,o=.inr s_/\(True)/\bs=[.cells true 20 (p.mask.l.map (fm .i64)++(p.bits.l.map (fm .i64))),.cells true 10 (h_.l.map (fm .i64))]) ?_ ?_
 .skip;apply gp;refine jj [2,3,5] (fun m h bs=>∃ (i:Int),zdc k p h_ m i=some o/\(h 2=.ptr 0 0 20/\h 3=.ptr 1 0 10/\h 5=.int .i64 i)/\bs=[.cells true 20 (p.mask.l.map (fm .i64)++(p.bits.l.map (fm .i64))),.cells true 10 (h_.l.map (fm .i64))]) ?_ k _ _ ?_;rotate_left
  .exact ⟨0,H1,kq hh,rfl⟩
  clear hh h H1;rintro m h bs ⟨i,H1,hh,rfl⟩;rcases m with _|m
  .rw [zdc] at H1;cases H1
  rw [zdc] at H1;repeat apply fl
  refine rk [2,3,5,7] [] hh fun h hh=>?_;rcases isp H1 with ⟨c1,H1⟩|⟨c1,H1⟩;rotate_left
  .skip;refine cf (f2 hh (zAb c1)) ?_;refine xk ?_;cases H1;exact ce hh ⟨_,rfl,kq hh,rfl⟩
  refine ct (f2 hh (zAa c1)) ?_;refine sk ?_;apply fl;apply gp;obtain ⟨aj,e2,H1⟩:=zab H1;rcases isp H1 with ⟨c3,H1⟩|⟨c3,H1⟩;rotate_left
  .skip;apply fl;refine dk 11 [2,3,5,24] [.int .i64 aj] [] [] (f2 hh (zAb c3)) ?_ trivial ?_
   .exact ⟨(za7 ax hx k p.mask i aj e2 ).call _,trivial⟩
   clear hh h;intro h hh;refine cf hh ?_;refine sk ?_;refine rk [2,3,5] [] hh fun h hh=>?_;exact rd m hh ⟨(fo.wrap (i+1)),H1,kq hh,rfl⟩
  obtain ⟨ar,e4,H1⟩:=zab H1;obtain ⟨bd,e5,H1⟩:=zab H1;apply fl;refine dk 11 [2,3,5,24] [.int .i64 aj,.int .i64 ar] [] [(.int .i64 bd,stL [.cells true 20 (p.mask.l.map (fm .i64)++(p.bits.l.map (fm .i64))),.cells true 10 (h_.l.map (fm .i64))])] (f2 hh (zAa c3)) ?_ ?_ ?_
  .exact ⟨(za7 ax hx k p.mask i aj e2 ).call _,(za7 ax hx k p.bits i ar e4 ).call _,trivial⟩
  .exact ⟨gj ((za7 ax hx k h_ i bd e5 ).call _),trivial⟩
  clear hh h;intro h hh;rcases isp H1 with ⟨c6,H1⟩|⟨c6,H1⟩;rotate_left
  .skip;refine cf (f2 hh (zAb c6)) ?_;refine sk ?_;refine rk [2,3,5] [] hh fun h hh=>?_;exact rd m hh ⟨(fo.wrap (i+1)),H1,kq hh,rfl⟩
  refine ct (f2 hh (zAa c6)) ?_;apply fl;refine rk [4] [] hh fun h hh=>?_;cases H1;obtain rfl:=sinl H;exact rt hh
 clear hh h;rintro h bs ⟨s_,rfl,hh,rfl⟩;replace H:=sinr H;apply fl;refine rk [4] [] hh fun h hh=>?_;cases H;exact rt hh
def zec (k:Nat) (t:List Rule) (h_:Ar 10):Nat->Int->Option (Int ⊕ Unit)
 |0,_=>none
 |m+1,k_=>(if k_<(t.length:Int) then (if 0<=k_/\k_<(t.length:Int) then ((zlg k ((gx t k_).mat) h_).bind fun d8=>(if d8=true then some (.inl k_) else zec k t h_ m (fo.wrap (k_+1)))) else none) else some (.inr ()))
def zie (k:Nat) (t:List Rule) (h_:Ar 10):Option Int:=((zec k t h_ k 0:Option (Int ⊕ Unit)).bind fun o=>kj (fun r=>some r) (fun s_=>some (-1)) o)
theorem zow (ax:Axs) (hx:NoAx ax) (k:Nat) (t:List Rule) (h_:Ar 10) (v:Int) (H:zie k t h_=some v):Pure Try.prog (EE ax) [] 25 [zad t,.agg (h_.l.map (fm .i64))] (.int .i64 v):=by
 rw [zie] at H;refine en [.tmp 4] 22 [0,1] (hx.no _ (by decide)) (fn25 ax) ?_;intro h hh;apply fl;refine rk [0,3] [] hh fun h hh=>?_;repeat apply fl
 refine rk [0,3,5] [] hh fun h hh=>?_;obtain ⟨o,H1,H⟩:=zab H;refine cu [] 1 (fun h bs=>∃ s_:Unit,o=.inr s_/\(True)/\bs=[.cells true 10 (h_.l.map (fm .i64))]) ?_ ?_
 .skip;apply gp;refine jj [0,3,5] (fun m h bs=>∃ (k_:Int),zec k t h_ m k_=some o/\(h 0=zad t/\h 3=.ptr 0 0 10/\h 5=.int .i64 k_)/\bs=[.cells true 10 (h_.l.map (fm .i64))]) ?_ k _ _ ?_;rotate_left
  .exact ⟨0,H1,kq hh,rfl⟩
  clear hh h H1;rintro m h bs ⟨k_,H1,hh,rfl⟩;rcases m with _|m
  .rw [zec] at H1;cases H1
  rw [zec] at H1;repeat apply fl
  refine rk [0,3,5,10] [] hh fun h hh=>?_;rcases isp H1 with ⟨c1,H1⟩|⟨c1,H1⟩;rotate_left
  .skip;refine cf (f2 hh (zAb c1)) ?_;refine xk ?_;cases H1;exact ce hh ⟨_,rfl,kq hh,rfl⟩
  refine ct (f2 hh (zAa c1)) ?_;refine sk ?_;apply fl;apply gp;obtain ⟨g2,H1⟩:=isg H1;obtain ⟨d8,e3,H1⟩:=zab H1;apply fl;refine dk 6 [0,3,5,6] [] [] [(.bool d8,stL [.cells true 10 (h_.l.map (fm .i64))])] (f2 hh (zag g2)) trivial ?_ ?_
  .exact ⟨gj ((zzm ax hx k ((gx t k_).mat) h_ d8 e3 ).call _),trivial⟩
  clear hh h;intro h hh;apply fl;refine rk [0,3,5,20] [] hh fun h hh=>?_;rcases isb H1 with ⟨c4,H1⟩|⟨c4,H1⟩;rotate_left
  .skip;refine cf (f2 hh c4) ?_;refine sk ?_;refine rk [0,3,5] [] (f2 hh c4) fun h hh=>?_;exact rd m hh ⟨(fo.wrap (k_+1)),H1,kq hh,rfl⟩
  refine ct (f2 hh c4) ?_;apply fl;refine rk [4] [] (f2 hh c4) fun h hh=>?_;cases H1;obtain rfl:=sinl H;exact rt hh
 clear hh h;rintro h bs ⟨s_,rfl,hh,rfl⟩;replace H:=sinr H;apply fl;refine rk [4] [] hh fun h hh=>?_;cases H;exact rt hh
def zby (k:Nat) (h_:Ar 10):Nat->Int->Option (Bool ⊕ Unit)
 |0,_=>none
 |m+1,i=>(if i<10 then (if 0<=i/\i<(10:Int) then (if (gx h_.l i)<0 then some (.inl false) else (if 65535<(gx h_.l i) then some (.inl false) else zby k h_ m (fo.wrap (i+1)))) else none) else some (.inr ()))
def zed (k:Nat) (h_:Ar 10):Option Bool:=((zby k h_ k 0:Option (Bool ⊕ Unit)).bind fun o=>kj (fun r=>some r) (fun s_=>some true) o)
theorem zif (ax:Axs) (hx:NoAx ax) (k:Nat) (h_:Ar 10) (v:Bool) (H:zed k h_=some v):Pure Try.prog (EE ax) [] 24 [.agg (h_.l.map (fm .i64))] (.bool v):=by
 rw [zed] at H;refine en [.tmp 2] 18 [0] (hx.no _ (by decide)) (fn24 ax) ?_;intro h hh;apply fl;refine rk [1] [] hh fun h hh=>?_;repeat apply fl
 refine rk [1,3] [] hh fun h hh=>?_;obtain ⟨o,H1,H⟩:=zab H;refine cu [] 1 (fun h bs=>∃ s_:Unit,o=.inr s_/\(True)/\bs=[.cells true 10 (h_.l.map (fm .i64))]) ?_ ?_
 .skip;apply gp;refine jj [1,3] (fun m h bs=>∃ (i:Int),zby k h_ m i=some o/\(h 1=.ptr 0 0 10/\h 3=.int .i64 i)/\bs=[.cells true 10 (h_.l.map (fm .i64))]) ?_ k _ _ ?_;rotate_left
  .exact ⟨0,H1,kq hh,rfl⟩
  clear hh h H1;rintro m h bs ⟨i,H1,hh,rfl⟩;rcases m with _|m
  .rw [zby] at H1;cases H1
  rw [zby] at H1;repeat apply fl
  refine rk [1,3,5] [] hh fun h hh=>?_;rcases isp H1 with ⟨c1,H1⟩|⟨c1,H1⟩;rotate_left
  .skip;refine cf (f2 hh (zAb c1)) ?_;refine xk ?_;cases H1;exact ce hh ⟨_,rfl,kq hh,rfl⟩
  refine ct (f2 hh (zAa c1)) ?_;refine sk ?_;apply fl;apply gp;obtain ⟨g2,H1⟩:=isg H1;rcases isp H1 with ⟨c3,H1⟩|⟨c3,H1⟩;rotate_left
  .skip;apply fl;refine rk [1,3,17] [] (f3 hh (zAb c3) (arIx h_ g2)) fun h hh=>?_;rcases isp H1 with ⟨c4,H1⟩|⟨c4,H1⟩;rotate_left
   .skip;refine cf (f2 hh (zAb c4)) ?_;refine sk ?_;refine rk [1,3] [] hh fun h hh=>?_;exact rd m hh ⟨(fo.wrap (i+1)),H1,kq hh,rfl⟩
   refine ct (f2 hh (zAa c4)) ?_;apply fl;refine rk [2] [] hh fun h hh=>?_;cases H1;obtain rfl:=sinl H;exact rt hh
  apply fl;refine rk [1,3,17] [] (f3 hh (zAa c3) (arIx h_ g2)) fun h hh=>?_;refine ct hh ?_;apply fl;refine rk [2] [] hh fun h hh=>?_;cases H1;obtain rfl:=sinl H;exact rt hh
 clear hh h;rintro h bs ⟨s_,rfl,hh,rfl⟩;replace H:=sinr H;apply fl;refine rk [2] [] hh fun h hh=>?_;cases H;exact rt hh
def zdf (k:Nat) (b:Ar 10) (m_:Ar 10):Nat->Int->Option (Bool ⊕ Unit)
 |0,_=>none
 |m+1,i=>(if i<10 then (if 0<=i/\i<(10:Int) then (if (iAnd .i64 (gx b.l i) (gx m_.l i))≠(gx b.l i) then some (.inl false) else zdf k b m_ m (fo.wrap (i+1))) else none) else some (.inr ()))
def zj0 (k:Nat) (b:Ar 10) (m_:Ar 10):Option Bool:=((zdf k b m_ k 0:Option (Bool ⊕ Unit)).bind fun o=>kj (fun r=>some r) (fun s_=>some true) o)
theorem zv9 (ax:Axs) (hx:NoAx ax) (k:Nat) (b:Ar 10) (m_:Ar 10) (v:Bool) (H:zj0 k b m_=some v):Pure Try.prog (EE ax) [] 79 [.agg (b.l.map (fm .i64)),.agg (m_.l.map (fm .i64))] (.bool v):=by
 rw [zj0] at H;refine en [.tmp 4] 21 [0,1] (hx.no _ (by decide)) (fn79 ax) ?_;intro h hh;apply fl;refine rk [2,3] [] hh fun h hh=>?_;repeat apply fl
 refine rk [2,3,5] [] hh fun h hh=>?_;obtain ⟨o,H1,H⟩:=zab H;refine cu [] 2 (fun h bs=>∃ s_:Unit,o=.inr s_/\(True)/\bs=[.cells true 10 (b.l.map (fm .i64)),.cells true 10 (m_.l.map (fm .i64))]) ?_ ?_
 .skip;apply gp;refine jj [2,3,5] (fun m h bs=>∃ (i:Int),zdf k b m_ m i=some o/\(h 2=.ptr 0 0 10/\h 3=.ptr 1 0 10/\h 5=.int .i64 i)/\bs=[.cells true 10 (b.l.map (fm .i64)),.cells true 10 (m_.l.map (fm .i64))]) ?_ k _ _ ?_;rotate_left
  .exact ⟨0,H1,kq hh,rfl⟩
  clear hh h H1;rintro m h bs ⟨i,H1,hh,rfl⟩;rcases m with _|m
  .rw [zdf] at H1;cases H1
  rw [zdf] at H1;repeat apply fl
  refine rk [2,3,5,7] [] hh fun h hh=>?_;rcases isp H1 with ⟨c1,H1⟩|⟨c1,H1⟩;rotate_left
  .skip;refine cf (f2 hh (zAb c1)) ?_;refine xk ?_;cases H1;exact ce hh ⟨_,rfl,kq hh,rfl⟩
  refine ct (f2 hh (zAa c1)) ?_;refine sk ?_;apply fl;apply gp;obtain ⟨g2,H1⟩:=isg H1;apply fl;refine dk 10 [2,3,5,20] [] [] [] (f3 hh (arIx b g2) (arIx m_ g2)) trivial trivial fun h hh=>?_;rcases isp H1 with ⟨c3,H1⟩|⟨c3,H1⟩;rotate_left
  .skip;refine cf (f2 hh (zAb c3)) ?_;refine sk ?_;refine rk [2,3,5] [] hh fun h hh=>?_;exact rd m hh ⟨(fo.wrap (i+1)),H1,kq hh,rfl⟩
  refine ct (f2 hh (zAa c3)) ?_;apply fl;refine rk [4] [] hh fun h hh=>?_;cases H1;obtain rfl:=sinl H;exact rt hh
 clear hh h;rintro h bs ⟨s_,rfl,hh,rfl⟩;replace H:=sinr H;apply fl;refine rk [4] [] hh fun h hh=>?_;cases H;exact rt hh
def zig (k:Nat) (p:Pat):Option Bool:=((zed k p.mask).bind fun cg=>((zed k p.bits).bind fun d9=>(if cg=true then (if d9=true then ((zj0 k p.bits p.mask).bind fun ed=>some ed) else some false) else some false)))
theorem zlz (ax:Axs) (hx:NoAx ax) (k:Nat) (p:Pat) (v:Bool) (H:zig k p=some v):Pure Try.prog (EE ax) [] 61 [ePat p] (.bool v):=by
 rw [zig] at H;refine en [.tmp 2] 22 [0] (hx.no _ (by decide)) (fn61 ax) ?_;intro h hh;apply fl;refine rk [1] [] hh fun h hh=>?_;obtain ⟨cg,e1,H⟩:=zab H;apply fl;refine rkp [1,3] [] [.bool cg] hh ?_ ?_
 .exact ⟨gj ((zif ax hx k p.mask cg e1 ).call _),trivial⟩
 clear hh h;intro h hh;obtain ⟨d9,e2,H⟩:=zab H;apply fl;refine rkp [1,3,4] [] [.bool d9] hh ?_ ?_
 .exact ⟨gj ((zif ax hx k p.bits d9 e2 ).call _),trivial⟩
 clear hh h;intro h hh;rcases isb H with ⟨c3,H⟩|⟨c3,H⟩;rotate_left
 .skip;apply fl;refine rk [2] [] (f2 hh c3) fun h hh=>?_;cases H;exact rt hh
 rcases isb H with ⟨c4,H⟩|⟨c4,H⟩;rotate_left
 .skip;apply fl;refine rk [2] [] (f3 hh c3 c4) fun h hh=>?_;cases H;exact rt hh
 obtain ⟨ed,e5,H⟩:=zab H;apply fl;refine rkp [2] [] [.bool ed] (f3 hh c3 c4) ?_ ?_
 .exact ⟨gj (ja (zv9 ax hx k p.bits p.mask ed e5 ) (by first|rfl|simp only [c3,c4])),trivial⟩
 clear hh h;intro h hh;cases H;exact rt hh
def zhr (k:Nat) (m_:Pat):Option Bool:=((zig k (⟨m_.mask,m_.bits⟩:Pat)).bind fun bo=>some bo)
theorem zss (ax:Axs) (hx:NoAx ax) (k:Nat) (m_:Pat) (v:Bool) (H:zhr k m_=some v):Pure Try.prog (EE ax) [] 62 [ePat m_] (.bool v):=by
 rw [zhr] at H;refine en [.tmp 2] 9 [0] (hx.no _ (by decide)) (fn62 ax) ?_;intro h hh;apply fl;refine rk [1] [] hh fun h hh=>?_;obtain ⟨bo,e1,H⟩:=zab H;apply fl;refine rkp [2] [] [.bool bo] hh ?_ ?_
 .exact ⟨gj ((zlz ax hx k (⟨m_.mask,m_.bits⟩:Pat) bo e1 ).call _),trivial⟩
 clear hh h;intro h hh;cases H;exact rt hh
def zeb (k:Nat) (t:List Rule) (k_:Int):Nat->Int->(List Pat)->Nat->Option (List Pat×Nat)
 |0,_,_,_=>none
 |m+1,i,l,n=>(if i<k_ then (if 0<=i/\i<(t.length:Int) then (if (n+1)*161<=1000000000 then zeb k t k_ m (fo.wrap (i+1)) (l++[(gx t i).mat]) (n+1) else none) else none) else some (l,n))
def zg5 (k:Nat) (t:List Rule) (k_:Int):Option (List Pat):=((zeb k t k_ k 0 [] 0:Option (List Pat×Nat)).bind fun s_=>(if s_.1.length=s_.2 then some s_.1 else none))
theorem zkq (ax:Axs) (hx:NoAx ax) (k:Nat) (t:List Rule) (k_:Int) (v:List Pat) (H:zg5 k t k_=some v):Pure Try.prog (EE ax) [] 44 [zad t,.int .i64 k_] (lPat v):=by
 rw [zg5] at H;refine en [.tmp 4] 21 [0,1] (hx.no _ (by decide)) (fn44 ax) ?_;intro h hh;apply fl;refine rk [0,1] [] hh fun h hh=>?_;apply fl;refine rk [0,1,5] [] hh fun h hh=>?_;refine vk 5 20 [0,1,5] hh fun h hh=>?_;repeat apply fl
 refine rk [0,1,5,6] [] hh fun h hh=>?_;obtain ⟨s_,H1,H⟩:=zab H;refine cu [5] 1 (fun h bs=>(h 5=.arr 0 20 0 s_.2 s_.2 (s_.2*20))/\bs=[.cells false (s_.2*20) (vecC ePat s_.1)]) ?_ ?_
 .skip;apply gp;refine jj [0,1,5,6] (fun m h bs=>∃ (i:Int) (l:List Pat) (n:Nat),zeb k t k_ m i l n=some s_/\(h 0=zad t/\h 1=.int .i64 k_/\h 5=.arr 0 20 0 n n (n*20)/\h 6=.int .i64 i)/\bs=[.cells false (n*20) (vecC ePat l)]) ?_ k _ _ ?_;rotate_left
  .exact ⟨0,[],0,H1,kq hh,rfl⟩
  clear hh h H1;rintro m h bs ⟨i,l,n,H1,hh,rfl⟩;rcases m with _|m
  .rw [zeb] at H1;cases H1
  rw [zeb] at H1;repeat apply fl
  refine rk [0,1,5,6,9] [] hh fun h hh=>?_;rcases isp H1 with ⟨c1,H1⟩|⟨c1,H1⟩;rotate_left
  .skip;refine cf (f2 hh (zAb c1)) ?_;refine xk ?_;cases H1;exact ce hh ⟨kq hh,rfl⟩
  refine ct (f2 hh (zAa c1)) ?_;refine sk ?_;apply fl;apply gp;obtain ⟨g2,H1⟩:=isg H1;obtain ⟨g3,H1⟩:=isg H1;refine rg [] [] [.cells false ((n+1)*20) (vecC ePat (l++[(gx t i).mat]))] (fun h=>h 0=zad t/\h 1=.int .i64 k_/\h 5=.arr 0 20 0 (n+1) (n+1) ((n+1)*20)/\h 6=.int .i64 i) (f3 hh (zag g2) ((show vecC ePat [(gx t i).mat]=((((gx t i).mat).mask).l.map (fm .i64)++((((gx t i).mat).bits).l.map (fm .i64))) from zds.trans rfl))) trivial fun h hh=>?_;refine rk [0,1,5,6] [] hh fun h hh=>?_;exact rd m hh ⟨(fo.wrap (i+1)),(l++[(gx t i).mat]),(n+1),H1,kq hh,rfl⟩
 clear hh h;rintro h bs ⟨hh,rfl⟩;apply fl;refine rk [4] [] hh fun h hh=>?_;obtain ⟨g4,H⟩:=isg H;refine pn 4 (b:=0) (e:=20) (off:=0) (len:=s_.2) (cap:=s_.2) (M:=(s_.2*20)) (s_.1.map ePat) (kq hh) (by rfl) (by omega) (by omega) (by rw [gu];exact zc8 (fun x=>za2 x) g4) (fun t ht=>by obtain ⟨x,_,rfl⟩:=jv.1 ht;first|rfl|exact zgg _|exact za2 _|exact zd7 _|exact zau _ | (rw [f5];rfl)) (by rw [f5]<;>exact g4) (by omega) ?_;rw [zek _ _ _ (by simp only [lzA]<;>omega)];simp only [scA];refine gk [4] hh fun h hh=>?_;cases H;exact rt hh
def zfy (k:Nat) (h_:Ar 10) (i:Int) (b:Int):Option (Ar 10):=(if 0<=i/\0<16 then (if (0:Int)<=(fo.wrap (i / 16))/\(fo.wrap (i / 16))<(10:Int) then ((zcx k h_ i).bind fun aj=>((zjt k i).bind fun aq=>some (h_.set (fo.wrap (i / 16)) (fo.wrap ((gx h_.l (fo.wrap (i / 16)))+(fo.wrap ((fo.wrap (b - aj))*aq))))))) else none) else none)
theorem zf4 (ax:Axs) (hx:NoAx ax) (k:Nat) (h_:Ar 10) (i:Int) (b:Int) (v:Ar 10) (H:zfy k h_ i b=some v):Pure Try.prog (EE ax) [] 57 [.agg (h_.l.map (fm .i64)),.int .i64 i,.int .i64 b] (.agg (v.l.map (fm .i64))):=by
 rw [zfy] at H;refine en [.cell 6 43] 24 [0,1,2] (hx.no _ (by decide)) (fn57 ax) ?_;intro h hh;apply fl;refine rk [1,2,3,6] [] hh fun h hh=>?_;obtain ⟨g1,H⟩:=isg H;obtain ⟨g2,H⟩:=isg H;obtain ⟨aj,e3,H⟩:=zab H;obtain ⟨aq,e4,H⟩:=zab H;apply fl;refine dk 13 [3,6] [.int .i64 aj,.int .i64 aq] [] [] (f3 hh (arIx h_ g2) (ypo (k:=.i64) h_ (fo.wrap ((gx h_.l (fo.wrap (i / 16)))+(fo.wrap ((fo.wrap (b - aj))*aq)))) g2)) ?_ trivial ?_
 .exact ⟨(za7 ax hx k h_ i aj e3 ).call _,(zpz ax hx k i aq e4 ).call _,trivial⟩
 clear hh h;intro h hh;apply fl;refine rk [6] [] hh fun h hh=>?_;cases H;exact rtc hh
def zf5 (k:Nat) (q:Pat):Nat->Int->(Ar 10)->(Ar 10)->Option ((Pat×Bool) ⊕ (Ar 10×Ar 10))
 |0,_,_,_=>none
 |m+1,i,x,x2=>(if i<160 then ((zcx k q.mask i).bind fun aj=>(if aj=0 then zf5 k q m (fo.wrap (i+1)) x x2 else ((((zcx k x i).bind fun ar=>(if ar=1 then ((zcx k x2 i).bind fun bd=>((zcx k q.bits i).bind fun ee=>some (decide (bd≠ee)))) else some false)):Option Bool).bind fun s_2=>(if s_2=true then some (.inl ((⟨zA 10,zA 10⟩:Pat),false)) else ((zfy k x i 1).bind fun ak=>((zcx k q.bits i).bind fun dl=>((zfy k x2 i dl).bind fun au=>zf5 k q m (fo.wrap (i+1)) ak au))))))) else some (.inr (x,x2)))
def zn9 (k:Nat) (p:Pat) (q:Pat):Option (Pat×Bool):=((zf5 k q k 0 p.mask p.bits:Option ((Pat×Bool) ⊕ (Ar 10×Ar 10))).bind fun o=>kj (fun r=>some r) (fun s_=>some ((⟨s_.1,s_.2⟩:Pat),true)) o)
theorem zt0 (ax:Axs) (hx:NoAx ax) (k:Nat) (p:Pat) (q:Pat) (v:Pat×Bool) (H:zn9 k p q=some v):Pure Try.prog (EE ax) [] 42 [ePat p,ePat q] (tupT [ePat v.1,.bool v.2]):=by
 rw [zn9] at H;refine enN [.cell 4 56,.tmp 5] 48 [0,1] (hx.no _ (by decide)) (fn42 ax) ?_;intro h hh;apply fl;refine rk [2,3,4] [] hh fun h hh=>?_;repeat apply fl
 refine rk [2,3,4,6] [] hh fun h hh=>?_;obtain ⟨o,H1,H⟩:=zab H;refine cu [2,4] 3 (fun h bs=>∃ s_:Ar 10×Ar 10,o=.inr s_/\(h 2=.ptr 0 0 20/\h 4=.ptr 2 0 20)/\bs=[.cells true 20 (s_.1.l.map (fm .i64)++(s_.2.l.map (fm .i64))),.cells true 20 (q.mask.l.map (fm .i64)++(q.bits.l.map (fm .i64))),.cells true 20 ((zA 10).l.map (fm .i64)++((zA 10).l.map (fm .i64)))]) ?_ ?_
 .skip;apply gp;refine jj [2,3,4,6] (fun m h bs=>∃ (i:Int) (x:Ar 10) (x2:Ar 10),zf5 k q m i x x2=some o/\(h 2=.ptr 0 0 20/\h 3=.ptr 1 0 20/\h 4=.ptr 2 0 20/\h 6=.int .i64 i)/\bs=[.cells true 20 (x.l.map (fm .i64)++(x2.l.map (fm .i64))),.cells true 20 (q.mask.l.map (fm .i64)++(q.bits.l.map (fm .i64))),.cells true 20 ((zA 10).l.map (fm .i64)++((zA 10).l.map (fm .i64)))]) ?_ k _ _ ?_;rotate_left
  .exact ⟨0,p.mask,p.bits,H1,kq hh,rfl⟩
  clear hh h H1;rintro m h bs ⟨i,x,x2,H1,hh,rfl⟩;rcases m with _|m
  .rw [zf5] at H1;cases H1
  rw [zf5] at H1;repeat apply fl
  refine rk [2,3,4,6,8] [] hh fun h hh=>?_;rcases isp H1 with ⟨c1,H1⟩|⟨c1,H1⟩;rotate_left
  .skip;refine cf (f2 hh (zAb c1)) ?_;refine xk ?_;cases H1;exact ce hh ⟨_,rfl,kq hh,rfl⟩
  refine ct (f2 hh (zAa c1)) ?_;refine sk ?_;apply fl;apply gp;obtain ⟨aj,e2,H1⟩:=zab H1;repeat apply fl
  refine rkp [2,3,4,6,15] [] [.int .i64 aj] hh ?_ ?_
  .exact ⟨gj ((za7 ax hx k q.mask i aj e2 ).call _),trivial⟩
  clear hh h;intro h hh;rcases isp H1 with ⟨c3,H1⟩|⟨c3,H1⟩;rotate_left
  .skip;refine cf (f2 hh (zAb c3)) ?_;refine sk ?_;obtain ⟨s_2,H2,H1⟩:=zab H1;repeat apply fl
   refine cu [2,3,4,6,31] 3 (fun h bs=>(h 2=.ptr 0 0 20/\h 3=.ptr 1 0 20/\h 4=.ptr 2 0 20/\h 6=.int .i64 i/\h 31=.bool s_2)/\bs=[.cells true 20 (x.l.map (fm .i64)++(x2.l.map (fm .i64))),.cells true 20 (q.mask.l.map (fm .i64)++(q.bits.l.map (fm .i64))),.cells true 20 ((zA 10).l.map (fm .i64)++((zA 10).l.map (fm .i64)))]) ?_ ?_
   .skip;obtain ⟨ar,e4,H2⟩:=zab H2;rcases isp H2 with ⟨c5,H2⟩|⟨c5,H2⟩;rotate_left
    .skip;refine dk 12 [2,3,4,6,31] [.int .i64 ar] [] [] (f2 hh (zAb c5)) ?_ trivial ?_
     .exact ⟨(za7 ax hx k x i ar e4 ).call _,trivial⟩
     clear hh h;intro h hh;cases H2;exact ce hh ⟨kq hh,rfl⟩
    obtain ⟨bd,e6,H2⟩:=zab H2;obtain ⟨ee,e7,H2⟩:=zab H2;refine dk 12 [2,3,4,6,31] [.int .i64 ar,.int .i64 bd] [] [(.int .i64 ee,stL [.cells true 20 (x.l.map (fm .i64)++(x2.l.map (fm .i64))),.cells true 20 (q.mask.l.map (fm .i64)++(q.bits.l.map (fm .i64))),.cells true 20 ((zA 10).l.map (fm .i64)++((zA 10).l.map (fm .i64)))])] (f2 hh (zAa c5)) ?_ ?_ ?_
    .exact ⟨(za7 ax hx k x i ar e4 ).call _,(za7 ax hx k x2 i bd e6 ).call _,trivial⟩
    .exact ⟨gj ((za7 ax hx k q.bits i ee e7 ).call _),trivial⟩
    clear hh h;intro h hh;cases H2;exact ce hh ⟨kq hh,rfl⟩
   clear hh h;rintro h bs ⟨hh,rfl⟩;rcases isb H1 with ⟨c8,H1⟩|⟨c8,H1⟩;rotate_left
   .skip;refine cf (f2 hh c8) ?_;refine sk ?_;obtain ⟨ak,e9,H1⟩:=zab H1;apply fl;refine rkc [2,3,4,6] [] [(.agg (ak.l.map (fm .i64)),stL [.cells true 20 (x.l.map (fm .i64)++(x2.l.map (fm .i64))),.cells true 20 (q.mask.l.map (fm .i64)++(q.bits.l.map (fm .i64))),.cells true 20 ((zA 10).l.map (fm .i64)++((zA 10).l.map (fm .i64)))])] (f2 hh c8) ?_ ?_
    .exact ⟨gj (ja (zf4 ax hx k x i 1 ak e9 ) (by first|rfl|simp only [c8])),trivial⟩
    clear hh h;intro h hh;obtain ⟨dl,e10,H1⟩:=zab H1;obtain ⟨au,e11,H1⟩:=zab H1;refine dk 7 [2,3,4,6] [.int .i64 dl] [] [(.agg (au.l.map (fm .i64)),stL [.cells true 20 (ak.l.map (fm .i64)++(x2.l.map (fm .i64))),.cells true 20 (q.mask.l.map (fm .i64)++(q.bits.l.map (fm .i64))),.cells true 20 ((zA 10).l.map (fm .i64)++((zA 10).l.map (fm .i64)))])] (f2 hh c8) ?_ ?_ ?_
    .exact ⟨ja (za7 ax hx k q.bits i dl e10 ) (by first|rfl|simp only [c8]),trivial⟩
    .exact ⟨gj (ja (zf4 ax hx k x2 i dl au e11 ) (by first|rfl|simp only [c8])),trivial⟩
    clear hh h;intro h hh;refine rk [2,3,4,6] [] (f2 hh c8) fun h hh=>?_;exact rd m hh ⟨(fo.wrap (i+1)),ak,au,H1,kq hh,rfl⟩
   refine ct (f2 hh c8) ?_;apply fl;refine rk [4,5] [] (f2 hh c8) fun h hh=>?_;cases H1;obtain rfl:=sinl H;exact rtc hh
  refine ct (f2 hh (zAa c3)) ?_;refine xk ?_;refine rk [2,3,4,6] [] hh fun h hh=>?_;exact rd m hh ⟨(fo.wrap (i+1)),x,x2,H1,kq hh,rfl⟩
 clear hh h;rintro h bs ⟨s_,rfl,hh,rfl⟩;replace H:=sinr H;apply fl;refine rk [4,5] [] hh fun h hh=>?_;cases H;exact rtc hh
def zis (k:Nat) (p:Pat) (q:Pat):Option Bool:=((zn9 k p q).bind fun ah=>some ah.2)
theorem ztz (ax:Axs) (hx:NoAx ax) (k:Nat) (p:Pat) (q:Pat) (v:Bool) (H:zis k p q=some v):Pure Try.prog (EE ax) [] 91 [ePat p,ePat q] (.bool v):=by
 rw [zis] at H;refine en [.tmp 4] 14 [0,1] (hx.no _ (by decide)) (fn91 ax) ?_;intro h hh;apply fl;refine rk [2,3] [] hh fun h hh=>?_;obtain ⟨ah,e1,H⟩:=zab H;apply fl;refine rkc [6] [] [(.tup [ePat ah.1,.bool ah.2],stL [.cells true 20 (p.mask.l.map (fm .i64)++(p.bits.l.map (fm .i64))),.cells true 20 (q.mask.l.map (fm .i64)++(q.bits.l.map (fm .i64)))])] hh ?_ ?_
 .exact ⟨gj ((zt0 ax hx k p q ah e1 ).call _),trivial⟩
 clear hh h;intro h hh;apply fl;refine rk [4] [] hh fun h hh=>?_;cases H;exact rt hh
def zd3 (k:Nat) (q:Pat):Nat->Int->(Ar 10)->(Ar 10)->(List Pat)->Nat->Option (Ar 10×Ar 10×List Pat×Nat)
 |0,_,_,_,_,_=>none
 |m+1,i,x,x2,l,n=>(if i<160 then ((((zcx k q.mask i).bind fun aj=>(if aj=0 then some true else ((zcx k x i).bind fun ar=>some (decide (ar=1))))):Option Bool).bind fun s_2=>(if s_2=true then zd3 k q m (fo.wrap (i+1)) x x2 l n else ((zcx k q.bits i).bind fun bd=>((zfy k x i 1).bind fun ak=>((zfy k x2 i (fo.wrap (1 - bd))).bind fun au=>(if (n+1)*161<=1000000000 then ((zfy k au i bd).bind fun dm=>zd3 k q m (fo.wrap (i+1)) ak dm (l++[(⟨ak,au⟩:Pat)]) (n+1)) else none)))))) else some (x,x2,l,n))
def zlf (k:Nat) (p:Pat) (q:Pat):Option (List Pat):=((zis k p q).bind fun bk=>(if bk=true then ((zd3 k q k 0 p.mask p.bits [] 0:Option (Ar 10×Ar 10×List Pat×Nat)).bind fun s_=>(if s_.2.2.1.length=s_.2.2.2 then some s_.2.2.1 else none)) else some [p]))
theorem zp0 (ax:Axs) (hx:NoAx ax) (k:Nat) (p:Pat) (q:Pat) (v:List Pat) (H:zlf k p q=some v):Pure Try.prog (EE ax) [] 80 [ePat p,ePat q] (lPat v):=by
 rw [zlf] at H;refine en [.tmp 4] 59 [0,1] (hx.no _ (by decide)) (fn80 ax) ?_;intro h hh;apply fl;refine rk [2,3] [] hh fun h hh=>?_;obtain ⟨bk,e1,H⟩:=zab H;apply fl;refine rkp [2,3,5] [] [.bool bk] hh ?_ ?_
 .exact ⟨gj ((ztz ax hx k p q bk e1 ).call _),trivial⟩
 clear hh h;intro h hh;repeat apply fl
 refine rk [2,3,13] [] hh fun h hh=>?_;rcases isb H with ⟨c2,H⟩|⟨c2,H⟩;rotate_left
 .skip;refine ct (f2 hh c2) ?_;apply fl;refine rk [4] [] (f2 hh c2) fun h hh=>?_;cases H;exact rt hh
 refine cf (f2 hh c2) ?_;refine sk ?_;apply fl;refine rk [2,3,6] [] (f2 hh c2) fun h hh=>?_;refine vk 6 20 [2,3,6] hh fun h hh=>?_;repeat apply fl
 refine rk [2,3,6,7] [] (f2 hh c2) fun h hh=>?_;obtain ⟨s_,H1,H⟩:=zab H;refine cu [6] 3 (fun h bs=>(h 6=.arr 2 20 0 s_.2.2.2 s_.2.2.2 (s_.2.2.2*20))/\bs=[.cells true 20 (s_.1.l.map (fm .i64)++(s_.2.1.l.map (fm .i64))),.cells true 20 (q.mask.l.map (fm .i64)++(q.bits.l.map (fm .i64))),.cells false (s_.2.2.2*20) (vecC ePat s_.2.2.1)]) ?_ ?_
 .skip;apply gp;refine jj [2,3,6,7] (fun m h bs=>∃ (i:Int) (x:Ar 10) (x2:Ar 10) (l:List Pat) (n:Nat),zd3 k q m i x x2 l n=some s_/\(h 2=.ptr 0 0 20/\h 3=.ptr 1 0 20/\h 6=.arr 2 20 0 n n (n*20)/\h 7=.int .i64 i)/\bs=[.cells true 20 (x.l.map (fm .i64)++(x2.l.map (fm .i64))),.cells true 20 (q.mask.l.map (fm .i64)++(q.bits.l.map (fm .i64))),.cells false (n*20) (vecC ePat l)]) ?_ k _ _ ?_;rotate_left
  .exact ⟨0,p.mask,p.bits,[],0,H1,kq hh,rfl⟩
  clear hh h H1;rintro m h bs ⟨i,x,x2,l,n,H1,hh,rfl⟩;rcases m with _|m
  .rw [zd3] at H1;cases H1
  rw [zd3] at H1;repeat apply fl
  refine rk [2,3,6,7,17] [] (f2 hh c2) fun h hh=>?_;rcases isp H1 with ⟨c3,H1⟩|⟨c3,H1⟩;rotate_left
  .skip;refine cf (f2 hh (zAb c3)) ?_;refine xk ?_;cases H1;exact ce hh ⟨kq hh,rfl⟩
  refine ct (f2 hh (zAa c3)) ?_;refine sk ?_;apply fl;apply gp;obtain ⟨s_2,H2,H1⟩:=zab H1;repeat apply fl
  refine cu [2,3,6,7,31] 3 (fun h bs=>(h 2=.ptr 0 0 20/\h 3=.ptr 1 0 20/\h 6=.arr 2 20 0 n n (n*20)/\h 7=.int .i64 i/\h 31=.bool s_2)/\bs=[.cells true 20 (x.l.map (fm .i64)++(x2.l.map (fm .i64))),.cells true 20 (q.mask.l.map (fm .i64)++(q.bits.l.map (fm .i64))),.cells false (n*20) (vecC ePat l)]) ?_ ?_
  .skip;obtain ⟨aj,e4,H2⟩:=zab H2;rcases isp H2 with ⟨c5,H2⟩|⟨c5,H2⟩;rotate_left
   .skip;obtain ⟨ar,e6,H2⟩:=zab H2;refine rkp [2,3,6,7,31] [] [.int .i64 aj,.int .i64 ar] (f3 hh (zAb c5) c2) ?_ ?_
    .exact ⟨gj (ja (za7 ax hx k q.mask i aj e4 ) (by first|rfl|simp only [c2])),gj (ja (za7 ax hx k x i ar e6 ) (by first|rfl|simp only [c2])),trivial⟩
    clear hh h;intro h hh;cases H2;exact ce hh ⟨kq hh,rfl⟩
   refine rkp [2,3,6,7,31] [] [.int .i64 aj] (f3 hh (zAa c5) c2) ?_ ?_
   .exact ⟨gj (ja (za7 ax hx k q.mask i aj e4 ) (by first|rfl|simp only [c2])),trivial⟩
   clear hh h;intro h hh;cases H2;exact ce hh ⟨kq hh,rfl⟩
  clear hh h;rintro h bs ⟨hh,rfl⟩;rcases isb H1 with ⟨c7,H1⟩|⟨c7,H1⟩;rotate_left
  .skip;refine cf (f2 hh c7) ?_;refine sk ?_;obtain ⟨bd,e8,H1⟩:=zab H1;apply fl;refine rkp [2,3,6,7,8] [] [.int .i64 bd] (f3 hh c2 c7) ?_ ?_
   .exact ⟨gj (ja (za7 ax hx k q.bits i bd e8 ) (by first|rfl|simp only [c2,c7])),trivial⟩
   clear hh h;intro h hh;obtain ⟨ak,e9,H1⟩:=zab H1;apply fl;refine rkc [2,3,6,7,8] [] [(.agg (ak.l.map (fm .i64)),stL [.cells true 20 (x.l.map (fm .i64)++(x2.l.map (fm .i64))),.cells true 20 (q.mask.l.map (fm .i64)++(q.bits.l.map (fm .i64))),.cells false (n*20) (vecC ePat l)])] (f3 hh c2 c7) ?_ ?_
   .exact ⟨gj (ja (zf4 ax hx k x i 1 ak e9 ) (by first|rfl|simp only [c2,c7])),trivial⟩
   clear hh h;intro h hh;obtain ⟨au,e10,H1⟩:=zab H1;apply fl;refine rkc [2,3,6,7,8] [] [(.agg (au.l.map (fm .i64)),stL [.cells true 20 (ak.l.map (fm .i64)++(x2.l.map (fm .i64))),.cells true 20 (q.mask.l.map (fm .i64)++(q.bits.l.map (fm .i64))),.cells false (n*20) (vecC ePat l)])] (f3 hh c2 c7) ?_ ?_
   .exact ⟨gj (ja (zf4 ax hx k x2 i (fo.wrap (1 - bd)) au e10 ) (by first|rfl|simp only [c2,c7])),trivial⟩
   clear hh h;intro h hh;obtain ⟨g11,H1⟩:=isg H1;apply fl;refine rg [] [] [.cells true 20 (ak.l.map (fm .i64)++(au.l.map (fm .i64))),.cells true 20 (q.mask.l.map (fm .i64)++(q.bits.l.map (fm .i64))),.cells false ((n+1)*20) (vecC ePat (l++[(⟨ak,au⟩:Pat)]))] (fun h=>h 2=.ptr 0 0 20/\h 3=.ptr 1 0 20/\h 6=.arr 2 20 0 (n+1) (n+1) ((n+1)*20)/\h 7=.int .i64 i/\h 8=.int .i64 bd) (f3 hh c2 (f2 c7 ((show vecC ePat [(⟨ak,au⟩:Pat)]=(((⟨ak,au⟩:Pat).mask).l.map (fm .i64)++(((⟨ak,au⟩:Pat).bits).l.map (fm .i64))) from zds.trans rfl)))) trivial fun h hh=>?_;obtain ⟨dm,e12,H1⟩:=zab H1;refine rkc [2,3,6,7] [] [(.agg (dm.l.map (fm .i64)),stL [.cells true 20 (ak.l.map (fm .i64)++(au.l.map (fm .i64))),.cells true 20 (q.mask.l.map (fm .i64)++(q.bits.l.map (fm .i64))),.cells false ((n+1)*20) (vecC ePat (l++[(⟨ak,au⟩:Pat)]))])] (f3 hh c2 c7) ?_ ?_
   .exact ⟨gj (ja (zf4 ax hx k au i bd dm e12 ) (by first|rfl|simp only [c2,c7])),trivial⟩
   clear hh h;intro h hh;refine rk [2,3,6,7] [] (f3 hh c2 c7) fun h hh=>?_;exact rd m hh ⟨(fo.wrap (i+1)),ak,dm,(l++[(⟨ak,au⟩:Pat)]),(n+1),H1,kq hh,rfl⟩
  refine ct (f2 hh c7) ?_;refine xk ?_;refine rk [2,3,6,7] [] (f3 hh c2 c7) fun h hh=>?_;exact rd m hh ⟨(fo.wrap (i+1)),x,x2,l,n,H1,kq hh,rfl⟩
 clear hh h;rintro h bs ⟨hh,rfl⟩;apply fl;refine rk [4] [] (f2 hh c2) fun h hh=>?_;obtain ⟨g13,H⟩:=isg H;refine pn 4 (b:=2) (e:=20) (off:=0) (len:=s_.2.2.2) (cap:=s_.2.2.2) (M:=(s_.2.2.2*20)) (s_.2.2.1.map ePat) (kq hh) (by rfl) (by omega) (by omega) (by rw [gu];exact zc8 (fun x=>za2 x) g13) (fun t ht=>by obtain ⟨x,_,rfl⟩:=jv.1 ht;first|rfl|exact zgg _|exact za2 _|exact zd7 _|exact zau _ | (rw [f5];rfl)) (by rw [f5]<;>exact g13) (by omega) ?_;rw [zek _ _ _ (by simp only [lzA]<;>omega)];simp only [scA];refine gk [4] hh fun h hh=>?_;cases H;exact rt hh
def zbx (k:Nat) (l:List Pat) (q:Pat):Nat->Int->(List Pat)->Nat->Option (List Pat×Nat)
 |0,_,_,_=>none
 |m+1,i,l2,n=>(if i<(l.length:Int) then (if 0<=i/\i<(l.length:Int) then ((zlf k (gx l i) q).bind fun aw=>(if (n+aw.length)*161<=1000000000 then (if aw.length=0 then zbx k l q m (fo.wrap (i+1)) l2 n else zbx k l q m (fo.wrap (i+1)) (l2++aw) (n+aw.length)) else none)) else none) else some (l2,n))
def zgw (k:Nat) (l:List Pat) (q:Pat):Option (List Pat):=((zbx k l q k 0 [] 0:Option (List Pat×Nat)).bind fun s_=>(if s_.1.length=s_.2 then some s_.1 else none))
theorem zre (ax:Axs) (hx:NoAx ax) (k:Nat) (l:List Pat) (q:Pat) (v:List Pat) (H:zgw k l q=some v):Pure Try.prog (EE ax) [] 65 [lPat l,ePat q] (lPat v):=by
 rw [zgw] at H;refine en [.tmp 4] 22 [0,1] (hx.no _ (by decide)) (fn65 ax) ?_;intro h hh;apply fl;refine rk [0,3] [] hh fun h hh=>?_;apply fl;refine rk [0,3,5] [] hh fun h hh=>?_;refine vk 5 20 [0,3,5] hh fun h hh=>?_;repeat apply fl
 refine rk [0,3,5,6] [] hh fun h hh=>?_;obtain ⟨s_,H1,H⟩:=zab H;refine cu [5] 2 (fun h bs=>(h 5=.arr 1 20 0 s_.2 s_.2 (s_.2*20))/\bs=[.cells true 20 (q.mask.l.map (fm .i64)++(q.bits.l.map (fm .i64))),.cells false (s_.2*20) (vecC ePat s_.1)]) ?_ ?_
 .skip;apply gp;refine jj [0,3,5,6] (fun m h bs=>∃ (i:Int) (l2:List Pat) (n:Nat),zbx k l q m i l2 n=some s_/\(h 0=lPat l/\h 3=.ptr 0 0 20/\h 5=.arr 1 20 0 n n (n*20)/\h 6=.int .i64 i)/\bs=[.cells true 20 (q.mask.l.map (fm .i64)++(q.bits.l.map (fm .i64))),.cells false (n*20) (vecC ePat l2)]) ?_ k _ _ ?_;rotate_left
  .exact ⟨0,[],0,H1,kq hh,rfl⟩
  clear hh h H1;rintro m h bs ⟨i,l2,n,H1,hh,rfl⟩;rcases m with _|m
  .rw [zbx] at H1;cases H1
  rw [zbx] at H1;repeat apply fl
  refine rk [0,3,5,6,10] [] hh fun h hh=>?_;rcases isp H1 with ⟨c1,H1⟩|⟨c1,H1⟩;rotate_left
  .skip;refine cf (f2 hh (zAb c1)) ?_;refine xk ?_;cases H1;exact ce hh ⟨kq hh,rfl⟩
  refine ct (f2 hh (zAa c1)) ?_;refine sk ?_;apply fl;apply gp;obtain ⟨g2,H1⟩:=isg H1;obtain ⟨aw,e3,H1⟩:=zab H1;obtain ⟨g4,H1⟩:=isg H1;rcases isp H1 with ⟨c5,H1⟩|⟨c5,H1⟩;rotate_left
  .skip;refine dg 6 [] [] [(lPat aw,stL [.cells true 20 (q.mask.l.map (fm .i64)++(q.bits.l.map (fm .i64))),.cells false (n*20) (vecC ePat l2)])] [.cells true 20 (q.mask.l.map (fm .i64)++(q.bits.l.map (fm .i64))),.cells false ((n+aw.length)*20) (vecC ePat (l2++aw))] (fun h=>h 0=lPat l/\h 3=.ptr 0 0 20/\h 5=.arr 1 20 0 (n+aw.length) (n+aw.length) ((n+aw.length)*20)/\h 6=.int .i64 i) (f3 hh (zag g2) (f3 (zgm ePat aw) (zbt (f:=ePat) (e:=20) (fun x=>za2 x) aw) (ze4 (f:=ePat) (fun x=>zoe x) aw))) trivial ?_ ?_
   .exact ⟨gj ((zp0 ax hx k (gx l i) q aw e3 ).call _),trivial⟩
   clear hh h;intro h hh;refine rk [0,3,5,6] [] hh fun h hh=>?_;exact rd m hh ⟨(fo.wrap (i+1)),(l2++aw),(n+aw.length),H1,kq hh,rfl⟩
  refine dg 6 [] [] [(lPat aw,stL [.cells true 20 (q.mask.l.map (fm .i64)++(q.bits.l.map (fm .i64))),.cells false (n*20) (vecC ePat l2)])] [.cells true 20 (q.mask.l.map (fm .i64)++(q.bits.l.map (fm .i64))),.cells false (n*20) (vecC ePat l2)] (fun h=>h 0=lPat l/\h 3=.ptr 0 0 20/\h 5=.arr 1 20 0 n n (n*20)/\h 6=.int .i64 i) (f3 hh c5 (f3 (zag g2) (zgm ePat aw) (f2 (zbt (f:=ePat) (e:=20) (fun x=>za2 x) aw) (ze4 (f:=ePat) (fun x=>zoe x) aw)))) trivial ?_ ?_
  .exact ⟨gj ((zp0 ax hx k (gx l i) q aw e3 ).call _),trivial⟩
  clear hh h;intro h hh;refine rk [0,3,5,6] [] (f2 hh c5) fun h hh=>?_;exact rd m hh ⟨(fo.wrap (i+1)),l2,n,H1,kq hh,rfl⟩
 clear hh h;rintro h bs ⟨hh,rfl⟩;apply fl;refine rk [4] [] hh fun h hh=>?_;obtain ⟨g6,H⟩:=isg H;refine pn 4 (b:=1) (e:=20) (off:=0) (len:=s_.2) (cap:=s_.2) (M:=(s_.2*20)) (s_.1.map ePat) (kq hh) (by rfl) (by omega) (by omega) (by rw [gu];exact zc8 (fun x=>za2 x) g6) (fun t ht=>by obtain ⟨x,_,rfl⟩:=jv.1 ht;first|rfl|exact zgg _|exact za2 _|exact zd7 _|exact zau _ | (rw [f5];rfl)) (by rw [f5]<;>exact g6) (by omega) ?_;rw [zek _ _ _ (by simp only [lzA]<;>omega)];simp only [scA];refine gk [4] hh fun h hh=>?_;cases H;exact rt hh
def zbl (k:Nat) (a:Ar 10) (b:Ar 10):Nat->Int->Option (Int ⊕ Unit)
 |0,_=>none
 |m+1,i=>(if i<10 then (if 0<=i/\i<(10:Int) then (if (gx a.l i)<(gx b.l i) then some (.inl (-1)) else (if (gx b.l i)<(gx a.l i) then some (.inl 1) else zbl k a b m (fo.wrap (i+1)))) else none) else some (.inr ()))
def zdi (k:Nat) (a:Ar 10) (b:Ar 10):Option Int:=((zbl k a b k 0:Option (Int ⊕ Unit)).bind fun o=>kj (fun r=>some r) (fun s_=>some 0) o)
theorem zjd (ax:Axs) (hx:NoAx ax) (k:Nat) (a:Ar 10) (b:Ar 10) (v:Int) (H:zdi k a b=some v):Pure Try.prog (EE ax) [] 45 [.agg (a.l.map (fm .i64)),.agg (b.l.map (fm .i64))] (.int .i64 v):=by
 rw [zdi] at H;refine en [.tmp 4] 24 [0,1] (hx.no _ (by decide)) (fn45 ax) ?_;intro h hh;apply fl;refine rk [2,3] [] hh fun h hh=>?_;repeat apply fl
 refine rk [2,3,5] [] hh fun h hh=>?_;obtain ⟨o,H1,H⟩:=zab H;refine cu [] 2 (fun h bs=>∃ s_:Unit,o=.inr s_/\(True)/\bs=[.cells true 10 (a.l.map (fm .i64)),.cells true 10 (b.l.map (fm .i64))]) ?_ ?_
 .skip;apply gp;refine jj [2,3,5] (fun m h bs=>∃ (i:Int),zbl k a b m i=some o/\(h 2=.ptr 0 0 10/\h 3=.ptr 1 0 10/\h 5=.int .i64 i)/\bs=[.cells true 10 (a.l.map (fm .i64)),.cells true 10 (b.l.map (fm .i64))]) ?_ k _ _ ?_;rotate_left
  .exact ⟨0,H1,kq hh,rfl⟩
  clear hh h H1;rintro m h bs ⟨i,H1,hh,rfl⟩;rcases m with _|m
  .rw [zbl] at H1;cases H1
  rw [zbl] at H1;repeat apply fl
  refine rk [2,3,5,7] [] hh fun h hh=>?_;rcases isp H1 with ⟨c1,H1⟩|⟨c1,H1⟩;rotate_left
  .skip;refine cf (f2 hh (zAb c1)) ?_;refine xk ?_;cases H1;exact ce hh ⟨_,rfl,kq hh,rfl⟩
  refine ct (f2 hh (zAa c1)) ?_;refine sk ?_;apply fl;apply gp;obtain ⟨g2,H1⟩:=isg H1;repeat apply fl
  refine dk 6 [2,3,5,16] [] [] [] (f3 hh (arIx a g2) (arIx b g2)) trivial trivial fun h hh=>?_;rcases isp H1 with ⟨c3,H1⟩|⟨c3,H1⟩;rotate_left
  .skip;refine cf (f2 hh (zAb c3)) ?_;refine sk ?_;apply fl;refine dk 6 [2,3,5,23] [] [] [] (f3 hh (arIx a g2) (arIx b g2)) trivial trivial fun h hh=>?_;rcases isp H1 with ⟨c4,H1⟩|⟨c4,H1⟩;rotate_left
   .skip;refine cf (f2 hh (zAb c4)) ?_;refine sk ?_;refine rk [2,3,5] [] hh fun h hh=>?_;exact rd m hh ⟨(fo.wrap (i+1)),H1,kq hh,rfl⟩
   refine ct (f2 hh (zAa c4)) ?_;apply fl;refine rk [4] [] hh fun h hh=>?_;cases H1;obtain rfl:=sinl H;exact rt hh
  refine ct (f2 hh (zAa c3)) ?_;apply fl;refine rk [4] [] hh fun h hh=>?_;cases H1;obtain rfl:=sinl H;exact rt hh
 clear hh h;rintro h bs ⟨s_,rfl,hh,rfl⟩;replace H:=sinr H;apply fl;refine rk [4] [] hh fun h hh=>?_;cases H;exact rt hh
def zc3 (k:Nat) (l:List Pat):Nat->(List Pat)->Int->Option (List Pat)
 |0,_,_=>none
 |m+1,left,i=>(if i<(l.length:Int) then (if 0<=i/\i<(l.length:Int) then ((zgw k left (gx l i)).bind fun dn=>zc3 k l m dn (fo.wrap (i+1))) else none) else some left)
def zb5 (k:Nat) (s_:List Pat):Nat->Int->(Ar 10)->Option (Ar 10)
 |0,_,_=>none
 |m+1,i2,x=>(if i2<(s_.length:Int) then (if 0<=i2/\i2<(s_.length:Int) then ((zdi k ((gx s_ i2).bits) x).bind fun bn=>(if bn<0 then zb5 k s_ m (fo.wrap (i2+1)) ((gx s_ i2).bits) else zb5 k s_ m (fo.wrap (i2+1)) x)) else none) else some x)
def zex (k:Nat) (p:Pat) (l:List Pat):Option (Ar 10×Bool):=((zc3 k l k [p] 0:Option (List Pat)).bind fun s_=>(if (s_.length:Int)=0 then some ((zA 10),false) else (if (0:Int)<=0/\0<(s_.length:Int) then ((zb5 k s_ k 1 ((gx s_ 0).bits):Option (Ar 10)).bind fun s_2=>some (s_2,true)) else none)))
theorem zm4 (ax:Axs) (hx:NoAx ax) (k:Nat) (p:Pat) (l:List Pat) (v:Ar 10×Bool) (H:zex k p l=some v):Pure Try.prog (EE ax) [] 43 [ePat p,lPat l] (tupT [.agg (v.1.l.map (fm .i64)),.bool v.2]):=by
 rw [zex] at H;refine enN [.cell 4 43,.tmp 5] 52 [0,1] (hx.no _ (by decide)) (fn43 ax) ?_;intro h hh;apply fl;refine rk [1,2,4] [] hh fun h hh=>?_;apply fl;refine rk [1,4,6] [] hh fun h hh=>?_;repeat apply fl
 refine rk [1,4,6,7] [] hh fun h hh=>?_;obtain ⟨s_,H1,H⟩:=zab H;refine cu [4,6] 2 (fun h bs=>(h 4=.ptr 1 0 10/\h 6=lPat s_)/\bs=[.cells true 20 (p.mask.l.map (fm .i64)++(p.bits.l.map (fm .i64))),.cells true 10 ((zA 10).l.map (fm .i64))]) ?_ ?_
 .skip;apply gp;refine jj [1,4,6,7] (fun m h bs=>∃ (left:List Pat) (i:Int),zc3 k l m left i=some s_/\(h 1=lPat l/\h 4=.ptr 1 0 10/\h 6=lPat left/\h 7=.int .i64 i)/\bs=[.cells true 20 (p.mask.l.map (fm .i64)++(p.bits.l.map (fm .i64))),.cells true 10 ((zA 10).l.map (fm .i64))]) ?_ k _ _ ?_;rotate_left
  .exact ⟨[p],0,H1,kq hh,rfl⟩
  clear hh h H1;rintro m h bs ⟨left,i,H1,hh,rfl⟩;rcases m with _|m
  .rw [zc3] at H1;cases H1
  rw [zc3] at H1;repeat apply fl
  refine rk [1,4,6,7,15] [] hh fun h hh=>?_;rcases isp H1 with ⟨c1,H1⟩|⟨c1,H1⟩;rotate_left
  .skip;refine cf (f2 hh (zAb c1)) ?_;refine xk ?_;cases H1;exact ce hh ⟨kq hh,rfl⟩
  refine ct (f2 hh (zAa c1)) ?_;refine sk ?_;apply fl;apply gp;obtain ⟨g2,H1⟩:=isg H1;obtain ⟨dn,e3,H1⟩:=zab H1;refine rkp [1,4,6,7] [] [lPat dn] (f2 hh (zag g2)) ?_ ?_
  .exact ⟨gj ((zre ax hx k left (gx l i) dn e3 ).call _),trivial⟩
  clear hh h;intro h hh;refine rk [1,4,6,7] [] hh fun h hh=>?_;exact rd m hh ⟨dn,(fo.wrap (i+1)),H1,kq hh,rfl⟩
 clear hh h;rintro h bs ⟨hh,rfl⟩;repeat apply fl
 refine rk [4,6,26] [] hh fun h hh=>?_;rcases isp H with ⟨c4,H⟩|⟨c4,H⟩;rotate_left
 .skip;refine cf (f2 hh (zAb c4)) ?_;refine sk ?_;obtain ⟨g5,H⟩:=isg H;apply fl;refine rk [4,6,8] [] (f2 hh (zag g5)) fun h hh=>?_;repeat apply fl
  refine rk [4,6,8,9] [] hh fun h hh=>?_;obtain ⟨s_2,H1,H⟩:=zab H;refine cu [4,8] 3 (fun h bs=>(h 4=.ptr 1 0 10/\h 8=.ptr 2 0 10)/\bs=[.cells true 20 (p.mask.l.map (fm .i64)++(p.bits.l.map (fm .i64))),.cells true 10 ((zA 10).l.map (fm .i64)),.cells true 10 (s_2.l.map (fm .i64))]) ?_ ?_
  .skip;apply gp;refine jj [4,6,8,9] (fun m h bs=>∃ (i2:Int) (x:Ar 10),zb5 k s_ m i2 x=some s_2/\(h 4=.ptr 1 0 10/\h 6=lPat s_/\h 8=.ptr 2 0 10/\h 9=.int .i64 i2)/\bs=[.cells true 20 (p.mask.l.map (fm .i64)++(p.bits.l.map (fm .i64))),.cells true 10 ((zA 10).l.map (fm .i64)),.cells true 10 (x.l.map (fm .i64))]) ?_ k _ _ ?_;rotate_left
   .exact ⟨1,((gx s_ 0).bits),H1,kq hh,rfl⟩
   clear hh h H1;rintro m h bs ⟨i2,x,H1,hh,rfl⟩;rcases m with _|m
   .rw [zb5] at H1;cases H1
   rw [zb5] at H1;repeat apply fl
   refine rk [4,6,8,9,35] [] hh fun h hh=>?_;rcases isp H1 with ⟨c6,H1⟩|⟨c6,H1⟩;rotate_left
   .skip;refine cf (f2 hh (zAb c6)) ?_;refine xk ?_;cases H1;exact ce hh ⟨kq hh,rfl⟩
   refine ct (f2 hh (zAa c6)) ?_;refine sk ?_;apply fl;apply gp;obtain ⟨g7,H1⟩:=isg H1;obtain ⟨bn,e8,H1⟩:=zab H1;apply fl;refine dk 6 [4,6,8,9,45] [] [] [(.int .i64 bn,stL [.cells true 20 (p.mask.l.map (fm .i64)++(p.bits.l.map (fm .i64))),.cells true 10 ((zA 10).l.map (fm .i64)),.cells true 10 (x.l.map (fm .i64))])] (f2 hh (zag g7)) trivial ?_ ?_
   .exact ⟨gj ((zjd ax hx k ((gx s_ i2).bits) x bn e8 ).call _),trivial⟩
   clear hh h;intro h hh;rcases isp H1 with ⟨c9,H1⟩|⟨c9,H1⟩;rotate_left
   .skip;refine cf (f2 hh (zAb c9)) ?_;refine sk ?_;refine rk [4,6,8,9] [] hh fun h hh=>?_;exact rd m hh ⟨(fo.wrap (i2+1)),x,H1,kq hh,rfl⟩
   refine ct (f2 hh (zAa c9)) ?_;refine rk [4,6,8,9] [] (f2 hh (zag g7)) fun h hh=>?_;refine rk [4,6,8,9] [] hh fun h hh=>?_;exact rd m hh ⟨(fo.wrap (i2+1)),((gx s_ i2).bits),H1,kq hh,rfl⟩
  clear hh h;rintro h bs ⟨hh,rfl⟩;apply fl;refine rk [4,5] [] hh fun h hh=>?_;cases H;exact rtc hh
 refine ct (f2 hh (zAa c4)) ?_;apply fl;refine rk [4,5] [] (f2 hh (bz43 ax)) fun h hh=>?_;cases H;exact rtc hh
def z1a (k:Nat) (t:List Rule) (k_:Int):Option (Ar 10×Bool):=(((if k_<0 then some true else some (decide ((t.length:Int)<=k_))):Option Bool).bind fun s_=>(if s_=true then some ((zA 10),false) else (if 0<=k_/\k_<(t.length:Int) then ((zg5 k t k_).bind fun ac=>((zex k ((gx t k_).mat) ac).bind fun ba=>some (ba.1,ba.2))) else none)))
def zbo (k:Nat) (l:List Int) (k_:Int):Nat->Bool->Int->Option Bool
 |0,_,_=>none
 |m+1,gone,i=>(if i<(l.length:Int) then (if gone=true then zbo k l k_ m true (fo.wrap (i+1)) else (if 0<=i/\i<(l.length:Int) then zbo k l k_ m (decide ((gx l i)=k_)) (fo.wrap (i+1)) else none)) else some gone)
def zc2 (k:Nat) (t:List Rule) (l:List Int):Nat->Int->(List Rule)->Nat->Option (List Rule×Nat)
 |0,_,_,_=>none
 |m+1,k_,l2,n=>(if k_<(t.length:Int) then ((((zbo k l k_ k false 0:Option Bool).bind fun s_3=>(if s_3=true then some (l2,n) else (if 0<=k_/\k_<(t.length:Int) then (if (n+1)*201<=1000000000 then some (l2++[gx t k_],n+1) else none) else none))):Option (List Rule×Nat)).bind fun s_2=>zc2 k t l m (fo.wrap (k_+1)) s_2.1 s_2.2) else some (l2,n))
def zir (k:Nat) (t:List Rule) (l:List Int):Option (List Rule):=((zc2 k t l k 0 [] 0:Option (List Rule×Nat)).bind fun s_=>(if s_.1.length=s_.2 then some s_.1 else none))
theorem zty (ax:Axs) (hx:NoAx ax) (k:Nat) (t:List Rule) (l:List Int) (v:List Rule) (H:zir k t l=some v):Pure Try.prog (EE ax) [] 22 [zad t,ints l] (zad v):=by
 rw [zir] at H;refine en [.tmp 4] 40 [0,1] (hx.no _ (by decide)) (fn22 ax) ?_;intro h hh;apply fl;refine rk [0,1] [] hh fun h hh=>?_;apply fl;refine rk [0,1,5] [] hh fun h hh=>?_;refine vk 5 23 [0,1,5] hh fun h hh=>?_;repeat apply fl
 refine rk [0,1,5,6] [] hh fun h hh=>?_;obtain ⟨s_,H1,H⟩:=zab H;refine cu [5] 1 (fun h bs=>(h 5=.arr 0 23 0 s_.2 s_.2 (s_.2*23))/\bs=[.cells false (s_.2*23) (vecC zak s_.1)]) ?_ ?_
 .skip;apply gp;refine jj [0,1,5,6] (fun m h bs=>∃ (k_:Int) (l2:List Rule) (n:Nat),zc2 k t l m k_ l2 n=some s_/\(h 0=zad t/\h 1=ints l/\h 5=.arr 0 23 0 n n (n*23)/\h 6=.int .i64 k_)/\bs=[.cells false (n*23) (vecC zak l2)]) ?_ k _ _ ?_;rotate_left
  .exact ⟨0,[],0,H1,kq hh,rfl⟩
  clear hh h H1;rintro m h bs ⟨k_,l2,n,H1,hh,rfl⟩;rcases m with _|m
  .rw [zc2] at H1;cases H1
  rw [zc2] at H1;repeat apply fl
  refine rk [0,1,5,6,12] [] hh fun h hh=>?_;rcases isp H1 with ⟨c1,H1⟩|⟨c1,H1⟩;rotate_left
  .skip;refine cf (f2 hh (zAb c1)) ?_;refine xk ?_;cases H1;exact ce hh ⟨kq hh,rfl⟩
  refine ct (f2 hh (zAa c1)) ?_;refine sk ?_;obtain ⟨s_2,H2,H1⟩:=zab H1;apply fl;refine cu [0,1,5,6] 1 (fun h bs=>(h 0=zad t/\h 1=ints l/\h 5=.arr 0 23 0 s_2.2 s_2.2 (s_2.2*23)/\h 6=.int .i64 k_)/\bs=[.cells false (s_2.2*23) (vecC zak s_2.1)]) ?_ ?_
  .skip;apply gp;apply fl;refine rk [0,1,5,6,7] [] hh fun h hh=>?_;repeat apply fl
   refine rk [0,1,5,6,7,8] [] hh fun h hh=>?_;obtain ⟨s_3,H3,H2⟩:=zab H2;refine cu [0,1,5,6,7] 1 (fun h bs=>(h 0=zad t/\h 1=ints l/\h 5=.arr 0 23 0 n n (n*23)/\h 6=.int .i64 k_/\h 7=.bool s_3)/\bs=[.cells false (n*23) (vecC zak l2)]) ?_ ?_
   .skip;apply gp;refine jj [0,1,5,6,7,8] (fun m h bs=>∃ (gone:Bool) (i:Int),zbo k l k_ m gone i=some s_3/\(h 0=zad t/\h 1=ints l/\h 5=.arr 0 23 0 n n (n*23)/\h 6=.int .i64 k_/\h 7=.bool gone/\h 8=.int .i64 i)/\bs=[.cells false (n*23) (vecC zak l2)]) ?_ k _ _ ?_;rotate_left
    .exact ⟨false,0,H3,kq hh,rfl⟩
    clear hh h H3;rintro m h bs ⟨gone,i,H3,hh,rfl⟩;rcases m with _|m
    .rw [zbo] at H3;cases H3
    rw [zbo] at H3;repeat apply fl
    refine rk [0,1,5,6,7,8,18] [] hh fun h hh=>?_;rcases isp H3 with ⟨c2,H3⟩|⟨c2,H3⟩;rotate_left
    .skip;refine cf (f2 hh (zAb c2)) ?_;refine xk ?_;cases H3;exact ce hh ⟨kq hh,rfl⟩
    refine ct (f2 hh (zAa c2)) ?_;refine sk ?_;apply fl;apply gp;rcases isb H3 with ⟨c3,H3⟩|⟨c3,H3⟩;rotate_left
    .skip;obtain ⟨g4,H3⟩:=isg H3;refine rk [0,1,5,6,7,8] [] (f3 hh c3 (zag g4)) fun h hh=>?_;refine rk [0,1,5,6,7,8] [] (f2 hh c3) fun h hh=>?_;exact rd m hh ⟨(decide ((gx l i)=k_)),(fo.wrap (i+1)),H3,kq hh,rfl⟩
    refine rk [0,1,5,6,7,8] [] (f2 hh c3) fun h hh=>?_;refine rk [0,1,5,6,7,8] [] (f2 hh c3) fun h hh=>?_;exact rd m hh ⟨true,(fo.wrap (i+1)),H3,kq hh,rfl⟩
   clear hh h;rintro h bs ⟨hh,rfl⟩;apply fl;refine rk [0,1,5,6,31] [] hh fun h hh=>?_;rcases isb H2 with ⟨c5,H2⟩|⟨c5,H2⟩;rotate_left
   .skip;refine ct (f2 hh c5) ?_;obtain ⟨g6,H2⟩:=isg H2;obtain ⟨g7,H2⟩:=isg H2;refine rg [] [] [.cells false ((n+1)*23) (vecC zak (l2++[gx t k_]))] (fun h=>h 0=zad t/\h 1=ints l/\h 5=.arr 0 23 0 (n+1) (n+1) ((n+1)*23)/\h 6=.int .i64 k_) (f3 hh c5 (f2 (zag g6) ((show vecC zak [gx t k_]=(fm .i64 ((gx t k_).prio) :: ((((gx t k_).mat).mask).l.map (fm .i64)++((((gx t k_).mat).bits).l.map (fm .i64)++[fm .i64 ((gx t k_).step),za5 ((gx t k_).outs)]))) from zds.trans rfl)))) trivial fun h hh=>?_;cases H2;exact ce hh ⟨kq hh,rfl⟩
   refine cf (f2 hh c5) ?_;refine sk ?_;cases H2;exact ce hh ⟨kq hh,rfl⟩
  clear hh h;rintro h bs ⟨hh,rfl⟩;refine rk [0,1,5,6] [] hh fun h hh=>?_;exact rd m hh ⟨(fo.wrap (k_+1)),s_2.1,s_2.2,H1,kq hh,rfl⟩
 clear hh h;rintro h bs ⟨hh,rfl⟩;apply fl;refine rk [4] [] hh fun h hh=>?_;obtain ⟨g8,H⟩:=isg H;refine pn 4 (b:=0) (e:=23) (off:=0) (len:=s_.2) (cap:=s_.2) (M:=(s_.2*23)) (s_.1.map zak) (kq hh) (by rfl) (by omega) (by omega) (by rw [gu];exact zc8 (fun x=>zau x) g8) (fun t ht=>by obtain ⟨x,_,rfl⟩:=jv.1 ht;first|rfl|exact zgg _|exact za2 _|exact zd7 _|exact zau _ | (rw [f5];rfl)) (by rw [f5]<;>exact g8) (by omega) ?_;rw [zek _ _ _ (by simp only [lzA]<;>omega)];simp only [scA];refine gk [4] hh fun h hh=>?_;cases H;exact rt hh
def zce (k:Nat) (l:List Pat):Nat->Int->Option (Bool ⊕ Unit)
 |0,_=>none
 |m+1,i=>(if i<(l.length:Int) then (if 0<=i/\i<(l.length:Int) then ((zig k (gx l i)).bind fun bo=>(if bo=true then zce k l m (fo.wrap (i+1)) else some (.inl false))) else none) else some (.inr ()))
def zhs (k:Nat) (l:List Pat):Option Bool:=((zce k l k 0:Option (Bool ⊕ Unit)).bind fun o=>kj (fun r=>some r) (fun s_=>some true) o)
theorem zst (ax:Axs) (hx:NoAx ax) (k:Nat) (l:List Pat) (v:Bool) (H:zhs k l=some v):Pure Try.prog (EE ax) [] 68 [lPat l] (.bool v):=by
 rw [zhs] at H;refine en [.tmp 2] 18 [0] (hx.no _ (by decide)) (fn68 ax) ?_;intro h hh;apply fl;refine rk [0] [] hh fun h hh=>?_;repeat apply fl
 refine rk [0,3] [] hh fun h hh=>?_;obtain ⟨o,H1,H⟩:=zab H;refine cu [] 0 (fun h bs=>∃ s_:Unit,o=.inr s_/\(True)/\bs=[]) ?_ ?_
 .skip;apply gp;refine jj [0,3] (fun m h bs=>∃ (i:Int),zce k l m i=some o/\(h 0=lPat l/\h 3=.int .i64 i)/\bs=[]) ?_ k _ _ ?_;rotate_left
  .exact ⟨0,H1,kq hh,rfl⟩
  clear hh h H1;rintro m h bs ⟨i,H1,hh,rfl⟩;rcases m with _|m
  .rw [zce] at H1;cases H1
  rw [zce] at H1;repeat apply fl
  refine rk [0,3,8] [] hh fun h hh=>?_;rcases isp H1 with ⟨c1,H1⟩|⟨c1,H1⟩;rotate_left
  .skip;refine cf (f2 hh (zAb c1)) ?_;refine xk ?_;cases H1;exact ce hh ⟨_,rfl,kq hh,rfl⟩
  refine ct (f2 hh (zAa c1)) ?_;refine sk ?_;apply fl;apply gp;obtain ⟨g2,H1⟩:=isg H1;obtain ⟨bo,e3,H1⟩:=zab H1;apply fl;refine rkp [0,3,4] [] [.bool bo] (f2 hh (zag g2)) ?_ ?_
  .exact ⟨gj ((zlz ax hx k (gx l i) bo e3 ).call _),trivial⟩
  clear hh h;intro h hh;apply fl;refine rk [0,3,17] [] hh fun h hh=>?_;rcases isb H1 with ⟨c4,H1⟩|⟨c4,H1⟩;rotate_left
  .skip;refine ct (f2 hh c4) ?_;apply fl;refine rk [2] [] (f2 hh c4) fun h hh=>?_;cases H1;obtain rfl:=sinl H;exact rt hh
  refine cf (f2 hh c4) ?_;refine sk ?_;refine rk [0,3] [] (f2 hh c4) fun h hh=>?_;exact rd m hh ⟨(fo.wrap (i+1)),H1,kq hh,rfl⟩
 clear hh h;rintro h bs ⟨s_,rfl,hh,rfl⟩;replace H:=sinr H;apply fl;refine rk [2] [] hh fun h hh=>?_;cases H;exact rt hh
def zd4 (k:Nat) (m_:Pat):Nat->Int->(Ar 10)->Option (Ar 10)
 |0,_,_=>none
 |m+1,i,x=>(if i<160 then ((zcx k m_.mask i).bind fun aj=>(if aj=1 then ((zcx k m_.bits i).bind fun ar=>((zfy k x i ar).bind fun ak=>zd4 k m_ m (fo.wrap (i+1)) ak)) else zd4 k m_ m (fo.wrap (i+1)) x)) else some x)
def zli (k:Nat) (m_:Pat) (h_:Ar 10):Option (Ar 10):=((zd4 k m_ k 0 h_:Option (Ar 10)).bind fun s_=>some s_)
theorem zzo (ax:Axs) (hx:NoAx ax) (k:Nat) (m_:Pat) (h_:Ar 10) (v:Ar 10) (H:zli k m_ h_=some v):Pure Try.prog (EE ax) [] 81 [ePat m_,.agg (h_.l.map (fm .i64))] (.agg (v.l.map (fm .i64))):=by
 rw [zli] at H;refine en [.cell 4 43] 23 [0,1] (hx.no _ (by decide)) (fn81 ax) ?_;intro h hh;apply fl;refine rk [2,3,4] [] hh fun h hh=>?_;repeat apply fl
 refine rk [2,3,4,5] [] hh fun h hh=>?_;obtain ⟨s_,H1,H⟩:=zab H;refine cu [3,4] 3 (fun h bs=>(h 3=.ptr 1 0 10/\h 4=.ptr 2 0 10)/\bs=[.cells true 20 (m_.mask.l.map (fm .i64)++(m_.bits.l.map (fm .i64))),.cells true 10 (s_.l.map (fm .i64)),.cells true 10 ((zA 10).l.map (fm .i64))]) ?_ ?_
 .skip;apply gp;refine jj [2,3,4,5] (fun m h bs=>∃ (i:Int) (x:Ar 10),zd4 k m_ m i x=some s_/\(h 2=.ptr 0 0 20/\h 3=.ptr 1 0 10/\h 4=.ptr 2 0 10/\h 5=.int .i64 i)/\bs=[.cells true 20 (m_.mask.l.map (fm .i64)++(m_.bits.l.map (fm .i64))),.cells true 10 (x.l.map (fm .i64)),.cells true 10 ((zA 10).l.map (fm .i64))]) ?_ k _ _ ?_;rotate_left
  .exact ⟨0,h_,H1,kq hh,rfl⟩
  clear hh h H1;rintro m h bs ⟨i,x,H1,hh,rfl⟩;rcases m with _|m
  .rw [zd4] at H1;cases H1
  rw [zd4] at H1;repeat apply fl
  refine rk [2,3,4,5,7] [] hh fun h hh=>?_;rcases isp H1 with ⟨c1,H1⟩|⟨c1,H1⟩;rotate_left
  .skip;refine cf (f2 hh (zAb c1)) ?_;refine xk ?_;cases H1;exact ce hh ⟨kq hh,rfl⟩
  refine ct (f2 hh (zAa c1)) ?_;refine sk ?_;apply fl;apply gp;obtain ⟨aj,e2,H1⟩:=zab H1;apply fl;refine rkp [2,3,4,5,14] [] [.int .i64 aj] hh ?_ ?_
  .exact ⟨gj ((za7 ax hx k m_.mask i aj e2 ).call _),trivial⟩
  clear hh h;intro h hh;rcases isp H1 with ⟨c3,H1⟩|⟨c3,H1⟩;rotate_left
  .skip;refine cf (f2 hh (zAb c3)) ?_;refine sk ?_;refine rk [2,3,4,5] [] hh fun h hh=>?_;exact rd m hh ⟨(fo.wrap (i+1)),x,H1,kq hh,rfl⟩
  refine ct (f2 hh (zAa c3)) ?_;obtain ⟨ar,e4,H1⟩:=zab H1;obtain ⟨ak,e5,H1⟩:=zab H1;refine dk 6 [2,3,4,5] [.int .i64 ar] [] [(.agg (ak.l.map (fm .i64)),stL [.cells true 20 (m_.mask.l.map (fm .i64)++(m_.bits.l.map (fm .i64))),.cells true 10 (x.l.map (fm .i64)),.cells true 10 ((zA 10).l.map (fm .i64))])] hh ?_ ?_ ?_
  .exact ⟨(za7 ax hx k m_.bits i ar e4 ).call _,trivial⟩
  .exact ⟨gj ((zf4 ax hx k x i ar ak e5 ).call _),trivial⟩
  clear hh h;intro h hh;refine rk [2,3,4,5] [] hh fun h hh=>?_;exact rd m hh ⟨(fo.wrap (i+1)),ak,H1,kq hh,rfl⟩
 clear hh h;rintro h bs ⟨hh,rfl⟩;apply fl;refine rk [4] [] hh fun h hh=>?_;cases H;exact rtc hh
def zez (k:Nat) (p:Pat):Nat->Int->Int->Option Int
 |0,_,_=>none
 |m+1,n,i=>(if i<160 then ((zcx k p.mask i).bind fun aj=>zez k p m (fo.wrap ((fo.wrap (n+1)) - aj)) (fo.wrap (i+1))) else some n)
def zm6 (k:Nat) (p:Pat):Option Int:=((zez k p k 0 0:Option Int).bind fun s_=>some s_)
theorem z1d (ax:Axs) (hx:NoAx ax) (k:Nat) (p:Pat) (v:Int) (H:zm6 k p=some v):Pure Try.prog (EE ax) [] 82 [ePat p] (.int .i64 v):=by
 rw [zm6] at H;refine en [.tmp 2] 17 [0] (hx.no _ (by decide)) (fn82 ax) ?_;intro h hh;apply fl;refine rk [1] [] hh fun h hh=>?_;apply fl;refine rk [1,3] [] hh fun h hh=>?_;repeat apply fl
 refine rk [1,3,4] [] hh fun h hh=>?_;obtain ⟨s_,H1,H⟩:=zab H;refine cu [3] 1 (fun h bs=>(h 3=.int .i64 s_)/\bs=[.cells true 20 (p.mask.l.map (fm .i64)++(p.bits.l.map (fm .i64)))]) ?_ ?_
 .skip;apply gp;refine jj [1,3,4] (fun m h bs=>∃ (n:Int) (i:Int),zez k p m n i=some s_/\(h 1=.ptr 0 0 20/\h 3=.int .i64 n/\h 4=.int .i64 i)/\bs=[.cells true 20 (p.mask.l.map (fm .i64)++(p.bits.l.map (fm .i64)))]) ?_ k _ _ ?_;rotate_left
  .exact ⟨0,0,H1,kq hh,rfl⟩
  clear hh h H1;rintro m h bs ⟨n,i,H1,hh,rfl⟩;rcases m with _|m
  .rw [zez] at H1;cases H1
  rw [zez] at H1;repeat apply fl
  refine rk [1,3,4,6] [] hh fun h hh=>?_;rcases isp H1 with ⟨c1,H1⟩|⟨c1,H1⟩;rotate_left
  .skip;refine cf (f2 hh (zAb c1)) ?_;refine xk ?_;cases H1;exact ce hh ⟨kq hh,rfl⟩
  refine ct (f2 hh (zAa c1)) ?_;refine sk ?_;apply fl;apply gp;obtain ⟨aj,e2,H1⟩:=zab H1;refine rkp [1,3,4] [] [.int .i64 aj] hh ?_ ?_
  .exact ⟨gj ((za7 ax hx k p.mask i aj e2 ).call _),trivial⟩
  clear hh h;intro h hh;refine rk [1,3,4] [] hh fun h hh=>?_;exact rd m hh ⟨(fo.wrap ((fo.wrap (n+1)) - aj)),(fo.wrap (i+1)),H1,kq hh,rfl⟩
 clear hh h;rintro h bs ⟨hh,rfl⟩;apply fl;refine rk [2] [] hh fun h hh=>?_;cases H;exact rt hh
def zfh (k:Nat) (l:List Pat):Nat->Int->(Ar 10)->Option (Ar 10)
 |0,_,_=>none
 |m+1,i,x=>(if i<(l.length:Int) then (if 0<=i/\i<(l.length:Int) then ((zli k (⟨(gx l i).mask,(gx l i).mask⟩:Pat) x).bind fun ai=>zfh k l m (fo.wrap (i+1)) ai) else none) else some x)
def zlh (k:Nat) (l:List Pat):Option Int:=((zfh k l k 0 (zA 10):Option (Ar 10)).bind fun s_=>((zm6 k (⟨s_,(zA 10)⟩:Pat)).bind fun ef=>some (fo.wrap (160 - ef))))
theorem zzn (ax:Axs) (hx:NoAx ax) (k:Nat) (l:List Pat) (v:Int) (H:zlh k l=some v):Pure Try.prog (EE ax) [] 69 [lPat l] (.int .i64 v):=by
 rw [zlh] at H;refine en [.tmp 2] 30 [0] (hx.no _ (by decide)) (fn69 ax) ?_;intro h hh;apply fl;refine rk [0] [] hh fun h hh=>?_;apply fl;refine rk [0,3] [] hh fun h hh=>?_;repeat apply fl
 refine rk [0,3,4] [] hh fun h hh=>?_;obtain ⟨s_,H1,H⟩:=zab H;refine cu [3] 1 (fun h bs=>(h 3=.ptr 0 0 20)/\bs=[.cells true 20 (s_.l.map (fm .i64)++((zA 10).l.map (fm .i64)))]) ?_ ?_
 .skip;apply gp;refine jj [0,3,4] (fun m h bs=>∃ (i:Int) (x:Ar 10),zfh k l m i x=some s_/\(h 0=lPat l/\h 3=.ptr 0 0 20/\h 4=.int .i64 i)/\bs=[.cells true 20 (x.l.map (fm .i64)++((zA 10).l.map (fm .i64)))]) ?_ k _ _ ?_;rotate_left
  .exact ⟨0,(zA 10),H1,kq hh,rfl⟩
  clear hh h H1;rintro m h bs ⟨i,x,H1,hh,rfl⟩;rcases m with _|m
  .rw [zfh] at H1;cases H1
  rw [zfh] at H1;repeat apply fl
  refine rk [0,3,4,9] [] hh fun h hh=>?_;rcases isp H1 with ⟨c1,H1⟩|⟨c1,H1⟩;rotate_left
  .skip;refine cf (f2 hh (zAb c1)) ?_;refine xk ?_;cases H1;exact ce hh ⟨kq hh,rfl⟩
  refine ct (f2 hh (zAa c1)) ?_;refine sk ?_;apply fl;apply gp;obtain ⟨g2,H1⟩:=isg H1;obtain ⟨ai,e3,H1⟩:=zab H1;refine dk 13 [0,3,4] [] [] [(.agg (ai.l.map (fm .i64)),stL [.cells true 20 (x.l.map (fm .i64)++((zA 10).l.map (fm .i64)))])] (f2 hh (zag g2)) trivial ?_ ?_
  .exact ⟨gj ((zzo ax hx k (⟨(gx l i).mask,(gx l i).mask⟩:Pat) x ai e3 ).call _),trivial⟩
  clear hh h;intro h hh;refine rk [0,3,4] [] hh fun h hh=>?_;exact rd m hh ⟨(fo.wrap (i+1)),ai,H1,kq hh,rfl⟩
 clear hh h;rintro h bs ⟨hh,rfl⟩;obtain ⟨ef,e4,H⟩:=zab H;apply fl;refine rkp [2] [] [.int .i64 ef] hh ?_ ?_
 .exact ⟨gj ((z1d ax hx k (⟨s_,(zA 10)⟩:Pat) ef e4 ).call _),trivial⟩
 clear hh h;intro h hh;cases H;exact rt hh
def zp1 (k:Nat) (l:List Pat) (most:Int):Option Bool:=((zhs k l).bind fun eh=>(if eh=true then (if (l.length:Int)<=most then ((zlh k l).bind fun ei=>some (decide (ei<=12))) else some false) else some false))
theorem z4l (ax:Axs) (hx:NoAx ax) (k:Nat) (l:List Pat) (most:Int) (v:Bool) (H:zp1 k l most=some v):Pure Try.prog (EE ax) [] 53 [lPat l,.int .i64 most] (.bool v):=by
 rw [zp1] at H;refine en [.tmp 4] 20 [0,1] (hx.no _ (by decide)) (fn53 ax) ?_;intro h hh;apply fl;refine rk [0,1] [] hh fun h hh=>?_;obtain ⟨eh,e1,H⟩:=zab H;apply fl;refine rkp [0,1,5] [] [.bool eh] hh ?_ ?_
 .exact ⟨gj ((zst ax hx k l eh e1 ).call _),trivial⟩
 clear hh h;intro h hh;rcases isb H with ⟨c2,H⟩|⟨c2,H⟩;rotate_left
 .skip;apply fl;refine rk [4] [] (f2 hh c2) fun h hh=>?_;cases H;exact rt hh
 rcases isp H with ⟨c3,H⟩|⟨c3,H⟩;rotate_left
 .skip;apply fl;refine rk [4] [] (f3 hh c2 (zAb c3)) fun h hh=>?_;cases H;exact rt hh
 obtain ⟨ei,e4,H⟩:=zab H;apply fl;refine rkp [4] [] [.int .i64 ei] (f3 hh c2 (zAa c3)) ?_ ?_
 .exact ⟨gj (ja (zzn ax hx k l ei e4 ) (by first|rfl|simp only [c2])),trivial⟩
 clear hh h;intro h hh;cases H;exact rt hh
def zlc (k:Nat) (t:List Rule):Option Bool:=((zg5 k t (t.length:Int)).bind fun ac=>((zp1 k ac 12).bind fun ck=>some ck))
theorem zzi (ax:Axs) (hx:NoAx ax) (k:Nat) (t:List Rule) (v:Bool) (H:zlc k t=some v):Pure Try.prog (EE ax) [] 30 [zad t] (.bool v):=by
 rw [zlc] at H;refine en [.tmp 2] 8 [0] (hx.no _ (by decide)) (fn30 ax) ?_;intro h hh;apply fl;refine rk [0] [] hh fun h hh=>?_;obtain ⟨ac,e1,H⟩:=zab H;obtain ⟨ck,e2,H⟩:=zab H;apply fl;refine rkp [2] [] [lPat ac,.bool ck] hh ?_ ?_
 .exact ⟨gj ((zkq ax hx k t (t.length:Int) ac e1 ).call _),gj ((z4l ax hx k ac 12 ck e2 ).call _),trivial⟩
 clear hh h;intro h hh;cases H;exact rt hh
def zcl (k:Nat) (x:Int):Option Int:=(if (0:Int)<=1 then (if (0:Int)<=2 then (if (0:Int)<=4 then (if (0:Int)<=8 then (if (0:Int)<=16 then (if (0:Int)<=32 then some (iAnd .i64 (fo.wrap (ge.wrap ((ge.wrap ((ge.wrap ((iAnd .u64 (ge.wrap ((iShr .u64 (ge.wrap ((iAnd .u64 (iShr .u64 (ge.wrap ((iAnd .u64 (iShr .u64 x 1) 6148914691236517205)+(iAnd .u64 x 6148914691236517205))) 2) 3689348814741910323)+(iAnd .u64 (ge.wrap ((iAnd .u64 (iShr .u64 x 1) 6148914691236517205)+(iAnd .u64 x 6148914691236517205))) 3689348814741910323))) 4)+(ge.wrap ((iAnd .u64 (iShr .u64 (ge.wrap ((iAnd .u64 (iShr .u64 x 1) 6148914691236517205)+(iAnd .u64 x 6148914691236517205))) 2) 3689348814741910323)+(iAnd .u64 (ge.wrap ((iAnd .u64 (iShr .u64 x 1) 6148914691236517205)+(iAnd .u64 x 6148914691236517205))) 3689348814741910323))))) 1085102592571150095)+(iShr .u64 (iAnd .u64 (ge.wrap ((iShr .u64 (ge.wrap ((iAnd .u64 (iShr .u64 (ge.wrap ((iAnd .u64 (iShr .u64 x 1) 6148914691236517205)+(iAnd .u64 x 6148914691236517205))) 2) 3689348814741910323)+(iAnd .u64 (ge.wrap ((iAnd .u64 (iShr .u64 x 1) 6148914691236517205)+(iAnd .u64 x 6148914691236517205))) 3689348814741910323))) 4)+(ge.wrap ((iAnd .u64 (iShr .u64 (ge.wrap ((iAnd .u64 (iShr .u64 x 1) 6148914691236517205)+(iAnd .u64 x 6148914691236517205))) 2) 3689348814741910323)+(iAnd .u64 (ge.wrap ((iAnd .u64 (iShr .u64 x 1) 6148914691236517205)+(iAnd .u64 x 6148914691236517205))) 3689348814741910323))))) 1085102592571150095) 8)))+(iShr .u64 (ge.wrap ((iAnd .u64 (ge.wrap ((iShr .u64 (ge.wrap ((iAnd .u64 (iShr .u64 (ge.wrap ((iAnd .u64 (iShr .u64 x 1) 6148914691236517205)+(iAnd .u64 x 6148914691236517205))) 2) 3689348814741910323)+(iAnd .u64 (ge.wrap ((iAnd .u64 (iShr .u64 x 1) 6148914691236517205)+(iAnd .u64 x 6148914691236517205))) 3689348814741910323))) 4)+(ge.wrap ((iAnd .u64 (iShr .u64 (ge.wrap ((iAnd .u64 (iShr .u64 x 1) 6148914691236517205)+(iAnd .u64 x 6148914691236517205))) 2) 3689348814741910323)+(iAnd .u64 (ge.wrap ((iAnd .u64 (iShr .u64 x 1) 6148914691236517205)+(iAnd .u64 x 6148914691236517205))) 3689348814741910323))))) 1085102592571150095)+(iShr .u64 (iAnd .u64 (ge.wrap ((iShr .u64 (ge.wrap ((iAnd .u64 (iShr .u64 (ge.wrap ((iAnd .u64 (iShr .u64 x 1) 6148914691236517205)+(iAnd .u64 x 6148914691236517205))) 2) 3689348814741910323)+(iAnd .u64 (ge.wrap ((iAnd .u64 (iShr .u64 x 1) 6148914691236517205)+(iAnd .u64 x 6148914691236517205))) 3689348814741910323))) 4)+(ge.wrap ((iAnd .u64 (iShr .u64 (ge.wrap ((iAnd .u64 (iShr .u64 x 1) 6148914691236517205)+(iAnd .u64 x 6148914691236517205))) 2) 3689348814741910323)+(iAnd .u64 (ge.wrap ((iAnd .u64 (iShr .u64 x 1) 6148914691236517205)+(iAnd .u64 x 6148914691236517205))) 3689348814741910323))))) 1085102592571150095) 8))) 16)))+(iShr .u64 (ge.wrap ((ge.wrap ((iAnd .u64 (ge.wrap ((iShr .u64 (ge.wrap ((iAnd .u64 (iShr .u64 (ge.wrap ((iAnd .u64 (iShr .u64 x 1) 6148914691236517205)+(iAnd .u64 x 6148914691236517205))) 2) 3689348814741910323)+(iAnd .u64 (ge.wrap ((iAnd .u64 (iShr .u64 x 1) 6148914691236517205)+(iAnd .u64 x 6148914691236517205))) 3689348814741910323))) 4)+(ge.wrap ((iAnd .u64 (iShr .u64 (ge.wrap ((iAnd .u64 (iShr .u64 x 1) 6148914691236517205)+(iAnd .u64 x 6148914691236517205))) 2) 3689348814741910323)+(iAnd .u64 (ge.wrap ((iAnd .u64 (iShr .u64 x 1) 6148914691236517205)+(iAnd .u64 x 6148914691236517205))) 3689348814741910323))))) 1085102592571150095)+(iShr .u64 (iAnd .u64 (ge.wrap ((iShr .u64 (ge.wrap ((iAnd .u64 (iShr .u64 (ge.wrap ((iAnd .u64 (iShr .u64 x 1) 6148914691236517205)+(iAnd .u64 x 6148914691236517205))) 2) 3689348814741910323)+(iAnd .u64 (ge.wrap ((iAnd .u64 (iShr .u64 x 1) 6148914691236517205)+(iAnd .u64 x 6148914691236517205))) 3689348814741910323))) 4)+(ge.wrap ((iAnd .u64 (iShr .u64 (ge.wrap ((iAnd .u64 (iShr .u64 x 1) 6148914691236517205)+(iAnd .u64 x 6148914691236517205))) 2) 3689348814741910323)+(iAnd .u64 (ge.wrap ((iAnd .u64 (iShr .u64 x 1) 6148914691236517205)+(iAnd .u64 x 6148914691236517205))) 3689348814741910323))))) 1085102592571150095) 8)))+(iShr .u64 (ge.wrap ((iAnd .u64 (ge.wrap ((iShr .u64 (ge.wrap ((iAnd .u64 (iShr .u64 (ge.wrap ((iAnd .u64 (iShr .u64 x 1) 6148914691236517205)+(iAnd .u64 x 6148914691236517205))) 2) 3689348814741910323)+(iAnd .u64 (ge.wrap ((iAnd .u64 (iShr .u64 x 1) 6148914691236517205)+(iAnd .u64 x 6148914691236517205))) 3689348814741910323))) 4)+(ge.wrap ((iAnd .u64 (iShr .u64 (ge.wrap ((iAnd .u64 (iShr .u64 x 1) 6148914691236517205)+(iAnd .u64 x 6148914691236517205))) 2) 3689348814741910323)+(iAnd .u64 (ge.wrap ((iAnd .u64 (iShr .u64 x 1) 6148914691236517205)+(iAnd .u64 x 6148914691236517205))) 3689348814741910323))))) 1085102592571150095)+(iShr .u64 (iAnd .u64 (ge.wrap ((iShr .u64 (ge.wrap ((iAnd .u64 (iShr .u64 (ge.wrap ((iAnd .u64 (iShr .u64 x 1) 6148914691236517205)+(iAnd .u64 x 6148914691236517205))) 2) 3689348814741910323)+(iAnd .u64 (ge.wrap ((iAnd .u64 (iShr .u64 x 1) 6148914691236517205)+(iAnd .u64 x 6148914691236517205))) 3689348814741910323))) 4)+(ge.wrap ((iAnd .u64 (iShr .u64 (ge.wrap ((iAnd .u64 (iShr .u64 x 1) 6148914691236517205)+(iAnd .u64 x 6148914691236517205))) 2) 3689348814741910323)+(iAnd .u64 (ge.wrap ((iAnd .u64 (iShr .u64 x 1) 6148914691236517205)+(iAnd .u64 x 6148914691236517205))) 3689348814741910323))))) 1085102592571150095) 8))) 16))) 32)))) 127) else none) else none) else none) else none) else none) else none)
theorem zkr (ax:Axs) (hx:NoAx ax) (k:Nat) (x:Int) (v:Int) (H:zcl k x=some v):Pure Try.prog (EE ax) [] 72 [.int .u64 x] (.int .i64 v):=by
 rw [zcl] at H;refine en [.tmp 2] 35 [0] (hx.no _ (by decide)) (fn72 ax) ?_;intro h hh;apply fl;refine rk [0] [] hh fun h hh=>?_;obtain ⟨g1,H⟩:=isg H;apply fl;refine rk [0] [] (f2 hh (zx1 (k:=.u64) (k':=.u64) (a:=x) g1)) fun h hh=>?_;obtain ⟨g2,H⟩:=isg H;apply fl;refine rk [0] [] (f2 hh (zx1 (k:=.u64) (k':=.u64) (a:=(ge.wrap ((iAnd .u64 (iShr .u64 x 1) 6148914691236517205)+(iAnd .u64 x 6148914691236517205)))) g2)) fun h hh=>?_;obtain ⟨g3,H⟩:=isg H;apply fl;refine rk [0] [] (f2 hh (zx1 (k:=.u64) (k':=.u64) (a:=(ge.wrap ((iAnd .u64 (iShr .u64 (ge.wrap ((iAnd .u64 (iShr .u64 x 1) 6148914691236517205)+(iAnd .u64 x 6148914691236517205))) 2) 3689348814741910323)+(iAnd .u64 (ge.wrap ((iAnd .u64 (iShr .u64 x 1) 6148914691236517205)+(iAnd .u64 x 6148914691236517205))) 3689348814741910323)))) g3)) fun h hh=>?_;obtain ⟨g4,H⟩:=isg H;apply fl;refine rk [0] [] (f2 hh (zx1 (k:=.u64) (k':=.u64) (a:=(iAnd .u64 (ge.wrap ((iShr .u64 (ge.wrap ((iAnd .u64 (iShr .u64 (ge.wrap ((iAnd .u64 (iShr .u64 x 1) 6148914691236517205)+(iAnd .u64 x 6148914691236517205))) 2) 3689348814741910323)+(iAnd .u64 (ge.wrap ((iAnd .u64 (iShr .u64 x 1) 6148914691236517205)+(iAnd .u64 x 6148914691236517205))) 3689348814741910323))) 4)+(ge.wrap ((iAnd .u64 (iShr .u64 (ge.wrap ((iAnd .u64 (iShr .u64 x 1) 6148914691236517205)+(iAnd .u64 x 6148914691236517205))) 2) 3689348814741910323)+(iAnd .u64 (ge.wrap ((iAnd .u64 (iShr .u64 x 1) 6148914691236517205)+(iAnd .u64 x 6148914691236517205))) 3689348814741910323))))) 1085102592571150095)) g4)) fun h hh=>?_;obtain ⟨g5,H⟩:=isg H;apply fl;refine rk [0] [] (f2 hh (zx1 (k:=.u64) (k':=.u64) (a:=(ge.wrap ((iAnd .u64 (ge.wrap ((iShr .u64 (ge.wrap ((iAnd .u64 (iShr .u64 (ge.wrap ((iAnd .u64 (iShr .u64 x 1) 6148914691236517205)+(iAnd .u64 x 6148914691236517205))) 2) 3689348814741910323)+(iAnd .u64 (ge.wrap ((iAnd .u64 (iShr .u64 x 1) 6148914691236517205)+(iAnd .u64 x 6148914691236517205))) 3689348814741910323))) 4)+(ge.wrap ((iAnd .u64 (iShr .u64 (ge.wrap ((iAnd .u64 (iShr .u64 x 1) 6148914691236517205)+(iAnd .u64 x 6148914691236517205))) 2) 3689348814741910323)+(iAnd .u64 (ge.wrap ((iAnd .u64 (iShr .u64 x 1) 6148914691236517205)+(iAnd .u64 x 6148914691236517205))) 3689348814741910323))))) 1085102592571150095)+(iShr .u64 (iAnd .u64 (ge.wrap ((iShr .u64 (ge.wrap ((iAnd .u64 (iShr .u64 (ge.wrap ((iAnd .u64 (iShr .u64 x 1) 6148914691236517205)+(iAnd .u64 x 6148914691236517205))) 2) 3689348814741910323)+(iAnd .u64 (ge.wrap ((iAnd .u64 (iShr .u64 x 1) 6148914691236517205)+(iAnd .u64 x 6148914691236517205))) 3689348814741910323))) 4)+(ge.wrap ((iAnd .u64 (iShr .u64 (ge.wrap ((iAnd .u64 (iShr .u64 x 1) 6148914691236517205)+(iAnd .u64 x 6148914691236517205))) 2) 3689348814741910323)+(iAnd .u64 (ge.wrap ((iAnd .u64 (iShr .u64 x 1) 6148914691236517205)+(iAnd .u64 x 6148914691236517205))) 3689348814741910323))))) 1085102592571150095) 8)))) g5)) fun h hh=>?_;obtain ⟨g6,H⟩:=isg H;apply fl;refine rk [0] [] (f2 hh (zx1 (k:=.u64) (k':=.u64) (a:=(ge.wrap ((ge.wrap ((iAnd .u64 (ge.wrap ((iShr .u64 (ge.wrap ((iAnd .u64 (iShr .u64 (ge.wrap ((iAnd .u64 (iShr .u64 x 1) 6148914691236517205)+(iAnd .u64 x 6148914691236517205))) 2) 3689348814741910323)+(iAnd .u64 (ge.wrap ((iAnd .u64 (iShr .u64 x 1) 6148914691236517205)+(iAnd .u64 x 6148914691236517205))) 3689348814741910323))) 4)+(ge.wrap ((iAnd .u64 (iShr .u64 (ge.wrap ((iAnd .u64 (iShr .u64 x 1) 6148914691236517205)+(iAnd .u64 x 6148914691236517205))) 2) 3689348814741910323)+(iAnd .u64 (ge.wrap ((iAnd .u64 (iShr .u64 x 1) 6148914691236517205)+(iAnd .u64 x 6148914691236517205))) 3689348814741910323))))) 1085102592571150095)+(iShr .u64 (iAnd .u64 (ge.wrap ((iShr .u64 (ge.wrap ((iAnd .u64 (iShr .u64 (ge.wrap ((iAnd .u64 (iShr .u64 x 1) 6148914691236517205)+(iAnd .u64 x 6148914691236517205))) 2) 3689348814741910323)+(iAnd .u64 (ge.wrap ((iAnd .u64 (iShr .u64 x 1) 6148914691236517205)+(iAnd .u64 x 6148914691236517205))) 3689348814741910323))) 4)+(ge.wrap ((iAnd .u64 (iShr .u64 (ge.wrap ((iAnd .u64 (iShr .u64 x 1) 6148914691236517205)+(iAnd .u64 x 6148914691236517205))) 2) 3689348814741910323)+(iAnd .u64 (ge.wrap ((iAnd .u64 (iShr .u64 x 1) 6148914691236517205)+(iAnd .u64 x 6148914691236517205))) 3689348814741910323))))) 1085102592571150095) 8)))+(iShr .u64 (ge.wrap ((iAnd .u64 (ge.wrap ((iShr .u64 (ge.wrap ((iAnd .u64 (iShr .u64 (ge.wrap ((iAnd .u64 (iShr .u64 x 1) 6148914691236517205)+(iAnd .u64 x 6148914691236517205))) 2) 3689348814741910323)+(iAnd .u64 (ge.wrap ((iAnd .u64 (iShr .u64 x 1) 6148914691236517205)+(iAnd .u64 x 6148914691236517205))) 3689348814741910323))) 4)+(ge.wrap ((iAnd .u64 (iShr .u64 (ge.wrap ((iAnd .u64 (iShr .u64 x 1) 6148914691236517205)+(iAnd .u64 x 6148914691236517205))) 2) 3689348814741910323)+(iAnd .u64 (ge.wrap ((iAnd .u64 (iShr .u64 x 1) 6148914691236517205)+(iAnd .u64 x 6148914691236517205))) 3689348814741910323))))) 1085102592571150095)+(iShr .u64 (iAnd .u64 (ge.wrap ((iShr .u64 (ge.wrap ((iAnd .u64 (iShr .u64 (ge.wrap ((iAnd .u64 (iShr .u64 x 1) 6148914691236517205)+(iAnd .u64 x 6148914691236517205))) 2) 3689348814741910323)+(iAnd .u64 (ge.wrap ((iAnd .u64 (iShr .u64 x 1) 6148914691236517205)+(iAnd .u64 x 6148914691236517205))) 3689348814741910323))) 4)+(ge.wrap ((iAnd .u64 (iShr .u64 (ge.wrap ((iAnd .u64 (iShr .u64 x 1) 6148914691236517205)+(iAnd .u64 x 6148914691236517205))) 2) 3689348814741910323)+(iAnd .u64 (ge.wrap ((iAnd .u64 (iShr .u64 x 1) 6148914691236517205)+(iAnd .u64 x 6148914691236517205))) 3689348814741910323))))) 1085102592571150095) 8))) 16)))) g6)) ?_
 clear hh h;intro h hh;apply fl;refine rk [2] [] hh fun h hh=>?_;cases H;exact rt hh
def zc9 (k:Nat) (x:Int):Option Int:=((zcl k x).bind fun ej=>some ej)
theorem zl0 (ax:Axs) (hx:NoAx ax) (k:Nat) (x:Int) (v:Int) (H:zc9 k x=some v):Pure Try.prog (EE ax) [] 55 [.int .u64 x] (.int .i64 v):=by
 rw [zc9] at H;refine en [.tmp 2] 8 [0] (hx.no _ (by decide)) (fn55 ax) ?_;intro h hh;apply fl;refine rk [0] [] hh fun h hh=>?_;apply fl;refine cf hh ?_;refine sk ?_;obtain ⟨ej,e1,H⟩:=zab H;apply fl;refine rkp [2] [] [.int .i64 ej] hh ?_ ?_
 .exact ⟨gj ((zkr ax hx k x ej e1 ).call _),trivial⟩
 clear hh h;intro h hh;cases H;exact rt hh
def zfj (k:Nat) (q:Pat):Nat->Int->Int->(Ar 10)->(Ar 10)->Option (Int×Ar 10×Ar 10)
 |0,_,_,_,_=>none
 |m+1,n,i,x,x2=>(if i<10 then (if 0<=i/\i<(10:Int) then ((zc9 k (ge.wrap (iXor .i64 (gx x2.l i) (gx q.bits.l i)))).bind fun dp=>zfj k q m (fo.wrap (n+dp)) (fo.wrap (i+1)) (x.set i (zhz .i64 (gx x.l i) (iXor .i64 (gx x2.l i) (gx q.bits.l i)))) (x2.set i (zhz .i64 (gx x2.l i) (iXor .i64 (gx x2.l i) (gx q.bits.l i))))) else none) else some (n,x,x2))
def zik (k:Nat) (p:Pat) (q:Pat):Option (Pat×Bool):=(if p.mask=q.mask then ((zfj k q k 0 0 p.mask p.bits:Option (Int×Ar 10×Ar 10)).bind fun s_=>(if s_.1≠1 then some ((⟨zA 10,zA 10⟩:Pat),false) else some ((⟨s_.2.1,s_.2.2⟩:Pat),true))) else some ((⟨zA 10,zA 10⟩:Pat),false))
theorem zp5 (ax:Axs) (hx:NoAx ax) (k:Nat) (p:Pat) (q:Pat) (v:Pat×Bool) (H:zik k p q=some v):Pure Try.prog (EE ax) [] 34 [ePat p,ePat q] (tupT [ePat v.1,.bool v.2]):=by
 rw [zik] at H;refine enN [.cell 4 56,.tmp 5] 53 [0,1] (hx.no _ (by decide)) (fn34 ax) ?_;intro h hh;apply fl;refine rk [2,3,4] [] hh fun h hh=>?_;apply fl;refine rk [2,3,4,6] [] hh fun h hh=>?_;repeat apply fl
 refine rk [2,3,4,6,13] [] (f2 hh ((aq43 ax p.mask q.mask).2)) fun h hh=>?_;rcases isp H with ⟨c1,H⟩|⟨c1,H⟩;rotate_left
 .skip;refine ct (f2 hh (zAb c1)) ?_;apply fl;refine rk [4,5] [] hh fun h hh=>?_;cases H;exact rtc hh
 refine cf (f2 hh (zAa c1)) ?_;refine sk ?_;repeat apply fl
 refine rk [2,3,4,6,15] [] hh fun h hh=>?_;obtain ⟨s_,H1,H⟩:=zab H;refine cu [2,4,6] 3 (fun h bs=>(h 2=.ptr 0 0 20/\h 4=.ptr 2 0 20/\h 6=.int .i64 s_.1)/\bs=[.cells true 20 (s_.2.1.l.map (fm .i64)++(s_.2.2.l.map (fm .i64))),.cells true 20 (q.mask.l.map (fm .i64)++(q.bits.l.map (fm .i64))),.cells true 20 ((zA 10).l.map (fm .i64)++((zA 10).l.map (fm .i64)))]) ?_ ?_
 .skip;apply gp;refine jj [2,3,4,6,15] (fun m h bs=>∃ (n:Int) (i:Int) (x:Ar 10) (x2:Ar 10),zfj k q m n i x x2=some s_/\(h 2=.ptr 0 0 20/\h 3=.ptr 1 0 20/\h 4=.ptr 2 0 20/\h 6=.int .i64 n/\h 15=.int .i64 i)/\bs=[.cells true 20 (x.l.map (fm .i64)++(x2.l.map (fm .i64))),.cells true 20 (q.mask.l.map (fm .i64)++(q.bits.l.map (fm .i64))),.cells true 20 ((zA 10).l.map (fm .i64)++((zA 10).l.map (fm .i64)))]) ?_ k _ _ ?_;rotate_left
  .exact ⟨0,0,p.mask,p.bits,H1,kq hh,rfl⟩
  clear hh h H1;rintro m h bs ⟨n,i,x,x2,H1,hh,rfl⟩;rcases m with _|m
  .rw [zfj] at H1;cases H1
  rw [zfj] at H1;apply fl;refine rk [2,3,4,6,15,16] [] hh fun h hh=>?_;rcases isp H1 with ⟨c2,H1⟩|⟨c2,H1⟩;rotate_left
  .skip;apply fl;refine cf (f2 hh (zAb c2)) ?_;refine xk ?_;cases H1;exact ce hh ⟨kq hh,rfl⟩
  apply fl;refine ct (f2 hh (zAa c2)) ?_;refine sk ?_;apply fl;apply gp;apply fl;refine rk [2,3,4,6,7,15] [] hh fun h hh=>?_;obtain ⟨g3,H1⟩:=isg H1;apply fl;refine dk 8 [2,3,4,6,7,8,15] [] [] [] (f3 hh (zo1 (k:=.i64) (off:=10) (L:=(x.l.map (fm .i64)++(x2.l.map (fm .i64)))) (r:=[]) x2 g3) (zo1 (k:=.i64) (off:=10) (L:=(q.mask.l.map (fm .i64)++(q.bits.l.map (fm .i64)))) (r:=[]) q.bits g3)) trivial trivial fun h hh=>?_;obtain ⟨dp,e4,H1⟩:=zab H1;apply fl;refine rkp [2,3,4,6,7,8,15] [] [.int .i64 dp] hh ?_ ?_
  .exact ⟨gj ((zl0 ax hx k (ge.wrap (iXor .i64 (gx x2.l i) (gx q.bits.l i))) dp e4 ).call _),trivial⟩
  clear hh h;intro h hh;apply fl;refine rk [2,3,4,6,7,8,15] [] (f3 hh (zrv (k:=.i64) (L:=(x.l.map (fm .i64)++(x2.l.map (fm .i64)))) (r:=(x2.l.map (fm .i64))) x g3) (yck (k:=.i64) (L:=(x.l.map (fm .i64)++(x2.l.map (fm .i64)))) (r:=(x2.l.map (fm .i64))) (L2:=((x.set i (zhz .i64 (gx x.l i) (iXor .i64 (gx x2.l i) (gx q.bits.l i)))).l.map (fm .i64)++(x2.l.map (fm .i64)))) x (zhz .i64 (gx x.l i) (iXor .i64 (gx x2.l i) (gx q.bits.l i))) g3)) fun h hh=>?_;refine rk [2,3,4,6,15] [] (f3 hh (zo1 (k:=.i64) (off:=10) (L:=((x.set i (zhz .i64 (gx x.l i) (iXor .i64 (gx x2.l i) (gx q.bits.l i)))).l.map (fm .i64)++(x2.l.map (fm .i64)))) (r:=[]) x2 g3) (setAt (k:=.i64) (off:=10) (L:=((x.set i (zhz .i64 (gx x.l i) (iXor .i64 (gx x2.l i) (gx q.bits.l i)))).l.map (fm .i64)++(x2.l.map (fm .i64)))) (r:=[]) (L2:=((x.set i (zhz .i64 (gx x.l i) (iXor .i64 (gx x2.l i) (gx q.bits.l i)))).l.map (fm .i64)++((x2.set i (zhz .i64 (gx x2.l i) (iXor .i64 (gx x2.l i) (gx q.bits.l i)))).l.map (fm .i64)))) (p:=((x.set i (zhz .i64 (gx x.l i) (iXor .i64 (gx x2.l i) (gx q.bits.l i)))).l.map (fm .i64))) x2 (zhz .i64 (gx x2.l i) (iXor .i64 (gx x2.l i) (gx q.bits.l i))) g3)) fun h hh=>?_;refine rk [2,3,4,6,15] [] hh fun h hh=>?_;exact rd m hh ⟨(fo.wrap (n+dp)),(fo.wrap (i+1)),(x.set i (zhz .i64 (gx x.l i) (iXor .i64 (gx x2.l i) (gx q.bits.l i)))),(x2.set i (zhz .i64 (gx x2.l i) (iXor .i64 (gx x2.l i) (gx q.bits.l i)))),H1,kq hh,rfl⟩
 clear hh h;rintro h bs ⟨hh,rfl⟩;repeat apply fl
 refine rk [2,4,50] [] hh fun h hh=>?_;rcases isp H with ⟨c5,H⟩|⟨c5,H⟩;rotate_left
 .skip;refine cf (f2 hh (zAb c5)) ?_;refine sk ?_;apply fl;refine rk [4,5] [] hh fun h hh=>?_;cases H;exact rtc hh
 refine ct (f2 hh (zAa c5)) ?_;apply fl;refine rk [4,5] [] hh fun h hh=>?_;cases H;exact rtc hh
def zey (k:Nat) (p:Pat) (q:Pat):Nat->Int->Int->Int->Option (Int×Int)
 |0,_,_,_=>none
 |m+1,at_,n,i=>(if i<160 then ((zcx k p.bits i).bind fun aj=>((zcx k q.bits i).bind fun ar=>(if aj≠ar then zey k p q m i (fo.wrap (n+1)) (fo.wrap (i+1)) else zey k p q m at_ n (fo.wrap (i+1))))) else some (at_,n))
def zm5 (k:Nat) (p:Pat) (q:Pat):Option (Pat×Bool):=((zey k p q k (-1) 0 0:Option (Int×Int)).bind fun s_=>(((if p.mask=q.mask then some (decide (s_.2≠1)) else some true):Option Bool).bind fun s_2=>(if s_2=true then some ((⟨zA 10,zA 10⟩:Pat),false) else ((zfy k p.mask s_.1 0).bind fun ak=>((zfy k p.bits s_.1 0).bind fun au=>some ((⟨ak,au⟩:Pat),true))))))
theorem z1c (ax:Axs) (hx:NoAx ax) (k:Nat) (p:Pat) (q:Pat) (v:Pat×Bool) (H:zm5 k p q=some v):Pure Try.prog (EE ax) [] 36 [ePat p,ePat q] (tupT [ePat v.1,.bool v.2]):=by
 rw [zm5] at H;refine enN [.cell 4 56,.tmp 5] 46 [0,1] (hx.no _ (by decide)) (fn36 ax) ?_;intro h hh;apply fl;refine rk [2,3,4] [] hh fun h hh=>?_;apply fl;refine rk [2,3,4,6] [] hh fun h hh=>?_;apply fl;refine rk [2,3,4,6,7] [] hh fun h hh=>?_;repeat apply fl
 refine rk [2,3,4,6,7,8] [] hh fun h hh=>?_;obtain ⟨s_,H1,H⟩:=zab H;refine cu [2,3,4,6,7] 3 (fun h bs=>(h 2=.ptr 0 0 20/\h 3=.ptr 1 0 20/\h 4=.ptr 2 0 20/\h 6=.int .i64 s_.1/\h 7=.int .i64 s_.2)/\bs=[.cells true 20 (p.mask.l.map (fm .i64)++(p.bits.l.map (fm .i64))),.cells true 20 (q.mask.l.map (fm .i64)++(q.bits.l.map (fm .i64))),.cells true 20 ((zA 10).l.map (fm .i64)++((zA 10).l.map (fm .i64)))]) ?_ ?_
 .skip;apply gp;refine jj [2,3,4,6,7,8] (fun m h bs=>∃ (at_:Int) (n:Int) (i:Int),zey k p q m at_ n i=some s_/\(h 2=.ptr 0 0 20/\h 3=.ptr 1 0 20/\h 4=.ptr 2 0 20/\h 6=.int .i64 at_/\h 7=.int .i64 n/\h 8=.int .i64 i)/\bs=[.cells true 20 (p.mask.l.map (fm .i64)++(p.bits.l.map (fm .i64))),.cells true 20 (q.mask.l.map (fm .i64)++(q.bits.l.map (fm .i64))),.cells true 20 ((zA 10).l.map (fm .i64)++((zA 10).l.map (fm .i64)))]) ?_ k _ _ ?_;rotate_left
  .exact ⟨(-1),0,0,H1,kq hh,rfl⟩
  clear hh h H1;rintro m h bs ⟨at_,n,i,H1,hh,rfl⟩;rcases m with _|m
  .rw [zey] at H1;cases H1
  rw [zey] at H1;repeat apply fl
  refine rk [2,3,4,6,7,8,10] [] hh fun h hh=>?_;rcases isp H1 with ⟨c1,H1⟩|⟨c1,H1⟩;rotate_left
  .skip;refine cf (f2 hh (zAb c1)) ?_;refine xk ?_;cases H1;exact ce hh ⟨kq hh,rfl⟩
  refine ct (f2 hh (zAa c1)) ?_;refine sk ?_;apply fl;apply gp;obtain ⟨aj,e2,H1⟩:=zab H1;obtain ⟨ar,e3,H1⟩:=zab H1;apply fl;refine dk 6 [2,3,4,6,7,8,21] [.int .i64 aj] [] [(.int .i64 ar,stL [.cells true 20 (p.mask.l.map (fm .i64)++(p.bits.l.map (fm .i64))),.cells true 20 (q.mask.l.map (fm .i64)++(q.bits.l.map (fm .i64))),.cells true 20 ((zA 10).l.map (fm .i64)++((zA 10).l.map (fm .i64)))])] hh ?_ ?_ ?_
  .exact ⟨(za7 ax hx k p.bits i aj e2 ).call _,trivial⟩
  .exact ⟨gj ((za7 ax hx k q.bits i ar e3 ).call _),trivial⟩
  clear hh h;intro h hh;rcases isp H1 with ⟨c4,H1⟩|⟨c4,H1⟩;rotate_left
  .skip;refine cf (f2 hh (zAb c4)) ?_;refine sk ?_;refine rk [2,3,4,6,7,8] [] hh fun h hh=>?_;exact rd m hh ⟨at_,n,(fo.wrap (i+1)),H1,kq hh,rfl⟩
  refine ct (f2 hh (zAa c4)) ?_;apply fl;refine rk [2,3,4,6,7,8] [] hh fun h hh=>?_;refine rk [2,3,4,6,7,8] [] hh fun h hh=>?_;refine rk [2,3,4,6,7,8] [] hh fun h hh=>?_;exact rd m hh ⟨i,(fo.wrap (n+1)),(fo.wrap (i+1)),H1,kq hh,rfl⟩
 clear hh h;rintro h bs ⟨hh,rfl⟩;obtain ⟨s_2,H1,H⟩:=zab H;repeat apply fl
 refine cu [2,4,6,33] 3 (fun h bs=>(h 2=.ptr 0 0 20/\h 4=.ptr 2 0 20/\h 6=.int .i64 s_.1/\h 33=.bool s_2)/\bs=[.cells true 20 (p.mask.l.map (fm .i64)++(p.bits.l.map (fm .i64))),.cells true 20 (q.mask.l.map (fm .i64)++(q.bits.l.map (fm .i64))),.cells true 20 ((zA 10).l.map (fm .i64)++((zA 10).l.map (fm .i64)))]) ?_ ?_
 .skip;rcases isp H1 with ⟨c5,H1⟩|⟨c5,H1⟩;rotate_left
  .skip;refine rk [2,4,6,33] [] (f3 hh (zAb c5) ((aq43 ax p.mask q.mask).2)) fun h hh=>?_;cases H1;exact ce hh ⟨kq hh,rfl⟩
  refine rk [2,4,6,33] [] (f3 hh (zAa c5) ((aq43 ax p.mask q.mask).2)) fun h hh=>?_;cases H1;exact ce hh ⟨kq hh,rfl⟩
 clear hh h;rintro h bs ⟨hh,rfl⟩;rcases isb H with ⟨c6,H⟩|⟨c6,H⟩;rotate_left
 .skip;refine cf (f2 hh c6) ?_;refine sk ?_;obtain ⟨ak,e7,H⟩:=zab H;apply fl;refine rkc [2,4,6] [] [(.agg (ak.l.map (fm .i64)),stL [.cells true 20 (p.mask.l.map (fm .i64)++(p.bits.l.map (fm .i64))),.cells true 20 (q.mask.l.map (fm .i64)++(q.bits.l.map (fm .i64))),.cells true 20 ((zA 10).l.map (fm .i64)++((zA 10).l.map (fm .i64)))])] (f2 hh c6) ?_ ?_
  .exact ⟨gj (ja (zf4 ax hx k p.mask s_.1 0 ak e7 ) (by first|rfl|simp only [c6])),trivial⟩
  clear hh h;intro h hh;obtain ⟨au,e8,H⟩:=zab H;apply fl;refine rkc [2,4] [] [(.agg (au.l.map (fm .i64)),stL [.cells true 20 (ak.l.map (fm .i64)++(p.bits.l.map (fm .i64))),.cells true 20 (q.mask.l.map (fm .i64)++(q.bits.l.map (fm .i64))),.cells true 20 ((zA 10).l.map (fm .i64)++((zA 10).l.map (fm .i64)))])] (f2 hh c6) ?_ ?_
  .exact ⟨gj (ja (zf4 ax hx k p.bits s_.1 0 au e8 ) (by first|rfl|simp only [c6])),trivial⟩
  clear hh h;intro h hh;apply fl;refine rk [4,5] [] (f2 hh c6) fun h hh=>?_;cases H;exact rtc hh
 refine ct (f2 hh c6) ?_;apply fl;refine rk [4,5] [] (f2 hh c6) fun h hh=>?_;cases H;exact rtc hh
def zit (k:Nat) (a:Rule) (b:Rule):Option Bool:=((zdn k (⟨b.prio,b.mat,a.step,a.outs⟩:Rule) b).bind fun ay=>some ay)
theorem zt2 (ax:Axs) (hx:NoAx ax) (k:Nat) (a:Rule) (b:Rule) (v:Bool) (H:zit k a b=some v):Pure Try.prog (EE ax) [] 33 [zak a,zak b] (.bool v):=by
 rw [zit] at H;refine en [.tmp 4] 14 [0,1] (hx.no _ (by decide)) (fn33 ax) ?_;intro h hh;apply fl;refine rk [2,3] [] hh fun h hh=>?_;apply fl;refine ds 5 [(7,some 1),(9,some 0)] [2,3] [] [] [] hh trivial trivial fun h hh=>?_;obtain ⟨ay,e1,H⟩:=zab H;apply fl;refine rkp [4] [] [.bool ay] hh ?_ ?_
 .exact ⟨gj ((zhm ax hx k (⟨b.prio,b.mat,a.step,a.outs⟩:Rule) b ay e1 ).call _),trivial⟩
 clear hh h;intro h hh;cases H;exact rt hh
def zk9 (k:Nat) (a:Rule) (b:Rule):Option Bool:=((zd1 k (⟨0,(⟨zA 10,zA 10⟩:Pat),a.step,a.outs⟩:Rule) (⟨0,(⟨zA 10,zA 10⟩:Pat),b.step,b.outs⟩:Rule)).bind fun ay=>some ay)
theorem zzh (ax:Axs) (hx:NoAx ax) (k:Nat) (a:Rule) (b:Rule) (v:Bool) (H:zk9 k a b=some v):Pure Try.prog (EE ax) [] 35 [zak a,zak b] (.bool v):=by
 rw [zk9] at H;refine en [.tmp 4] 14 [0,1] (hx.no _ (by decide)) (fn35 ax) ?_;intro h hh;apply fl;refine rk [2,3] [] hh fun h hh=>?_;apply fl;refine rk [2,3] [] hh fun h hh=>?_;apply fl;refine rk [2,3] [] hh fun h hh=>?_;apply fl;refine rk [2,3] [] hh fun h hh=>?_;apply fl;refine rk [2,3] [] hh fun h hh=>?_;obtain ⟨ay,e1,H⟩:=zab H;apply fl;refine rkp [4] [] [.bool ay] hh ?_ ?_
 .exact ⟨gj ((zi9 ax hx k (⟨0,(⟨zA 10,zA 10⟩:Pat),a.step,a.outs⟩:Rule) (⟨0,(⟨zA 10,zA 10⟩:Pat),b.step,b.outs⟩:Rule) ay e1 ).call _),trivial⟩
 clear hh h;intro h hh;cases H;exact rt hh
def zbu (k:Nat) (t:List Rule) (fv:Pat):Nat->Int->(List Rule)->Nat->Option (List Rule×Nat)
 |0,_,_,_=>none
 |m+1,i,l,n=>(if i<(t.length:Int) then (if 0<=i/\i<(t.length:Int) then ((ziv k ((gx t i).mat) fv).bind fun ah=>(if ah.2=true then (if (n+1)*201<=1000000000 then zbu k t fv m (fo.wrap (i+1)) (l++[(⟨(gx t i).prio,ah.1,(gx t i).step,(gx t i).outs⟩:Rule)]) (n+1) else none) else zbu k t fv m (fo.wrap (i+1)) l n)) else none) else some (l,n))
def zgj (k:Nat) (t:List Rule) (fv:Pat):Option (List Rule):=((zbu k t fv k 0 [] 0:Option (List Rule×Nat)).bind fun s_=>(if s_.1.length=s_.2 then some s_.1 else none))
theorem zmj (ax:Axs) (hx:NoAx ax) (k:Nat) (t:List Rule) (fv:Pat) (v:List Rule) (H:zgj k t fv=some v):Pure Try.prog (EE ax) [] 58 [zad t,.cp (fv.mask.l.map (fm .i64)++(fv.bits.l.map (fm .i64)))] (zad v):=by
 rw [zgj] at H;refine en [.tmp 3] 31 [0,1] (hx.no _ (by decide)) (fn58 ax) ?_;intro h hh;apply fl;refine rk [0,1] [] hh fun h hh=>?_;apply fl;refine rk [0,1,4] [] hh fun h hh=>?_;refine vk 4 23 [0,1,4] hh fun h hh=>?_;repeat apply fl
 refine rk [1,4,9,10,11] [] hh fun h hh=>?_;obtain ⟨s_,H1,H⟩:=zab H;refine cu [4] 1 (fun h bs=>(h 4=.arr 0 23 0 s_.2 s_.2 (s_.2*23))/\bs=[.cells false (s_.2*23) (vecC zak s_.1)]) ?_ ?_
 .skip;apply gp;refine jj [1,4,9,10,11] (fun m h bs=>∃ (i:Int) (l:List Rule) (n:Nat),zbu k t fv m i l n=some s_/\(h 1=.cp (fv.mask.l.map (fm .i64)++(fv.bits.l.map (fm .i64)))/\h 4=.arr 0 23 0 n n (n*23)/\h 9=zad t/\h 10=.int .i64 (t.length:Int)/\h 11=.int .i64 i)/\bs=[.cells false (n*23) (vecC zak l)]) ?_ k _ _ ?_;rotate_left
  .exact ⟨0,[],0,H1,kq hh,rfl⟩
  clear hh h H1;rintro m h bs ⟨i,l,n,H1,hh,rfl⟩;rcases m with _|m
  .rw [zbu] at H1;cases H1
  rw [zbu] at H1;apply fl;refine rk [1,4,9,10,11,12] [] hh fun h hh=>?_;rcases isp H1 with ⟨c1,H1⟩|⟨c1,H1⟩;rotate_left
  .skip;apply fl;refine cf (f2 hh (zAb c1)) ?_;refine xk ?_;cases H1;exact ce hh ⟨kq hh,rfl⟩
  apply fl;refine ct (f2 hh (zAa c1)) ?_;refine sk ?_;apply fl;apply gp;obtain ⟨g2,H1⟩:=isg H1;apply fl;refine rk [1,4,6,9,10,11] [] (f2 hh (zag g2)) fun h hh=>?_;obtain ⟨ah,e3,H1⟩:=zab H1;apply fl;refine rkc [1,4,6,7,8,9,10,11] [] [(.tup [ePat ah.1,.bool ah.2],stL [.cells false (n*23) (vecC zak l),.cells true 23 (fm .i64 ((gx t i).prio) :: ((((gx t i).mat).mask).l.map (fm .i64)++((((gx t i).mat).bits).l.map (fm .i64)++[fm .i64 ((gx t i).step),za5 ((gx t i).outs)])))])] hh ?_ ?_
  .exact ⟨gj ((zr5 ax hx k ((gx t i).mat) fv ah e3 ).call _),trivial⟩
  clear hh h;intro h hh;apply fl;refine rk [1,4,6,7,9,10,11,22] [] hh fun h hh=>?_;rcases isb H1 with ⟨c4,H1⟩|⟨c4,H1⟩;rotate_left
  .skip;refine cf (f2 hh c4) ?_;refine sk ?_;refine rk [1,4,9,10,11] [] (f2 hh c4) fun h hh=>?_;exact rd m hh ⟨(fo.wrap (i+1)),l,n,H1,kq hh,rfl⟩
  refine ct (f2 hh c4) ?_;apply fl;refine rk [1,4,6,9,10,11] [] (f2 hh c4) fun h hh=>?_;obtain ⟨g5,H1⟩:=isg H1;refine rg [] [] [.cells false ((n+1)*23) (vecC zak (l++[(⟨(gx t i).prio,ah.1,(gx t i).step,(gx t i).outs⟩:Rule)])),.cells true 23 (fm .i64 ((gx t i).prio) :: (ah.1.mask.l.map (fm .i64)++(ah.1.bits.l.map (fm .i64)++[fm .i64 ((gx t i).step),za5 ((gx t i).outs)]))),.cells true 20 (ah.1.mask.l.map (fm .i64)++(ah.1.bits.l.map (fm .i64)))] (fun h=>h 1=.cp (fv.mask.l.map (fm .i64)++(fv.bits.l.map (fm .i64)))/\h 4=.arr 0 23 0 (n+1) (n+1) ((n+1)*23)/\h 9=zad t/\h 10=.int .i64 (t.length:Int)/\h 11=.int .i64 i) (f3 hh c4 ((show vecC zak [(⟨(gx t i).prio,ah.1,(gx t i).step,(gx t i).outs⟩:Rule)]=(fm .i64 ((⟨(gx t i).prio,ah.1,(gx t i).step,(gx t i).outs⟩:Rule).prio) :: ((((⟨(gx t i).prio,ah.1,(gx t i).step,(gx t i).outs⟩:Rule).mat).mask).l.map (fm .i64)++((((⟨(gx t i).prio,ah.1,(gx t i).step,(gx t i).outs⟩:Rule).mat).bits).l.map (fm .i64)++[fm .i64 ((⟨(gx t i).prio,ah.1,(gx t i).step,(gx t i).outs⟩:Rule).step),za5 ((⟨(gx t i).prio,ah.1,(gx t i).step,(gx t i).outs⟩:Rule).outs)]))) from zds.trans rfl))) trivial fun h hh=>?_;refine rk [1,4,9,10,11] [] (f2 hh c4) fun h hh=>?_;exact rd m hh ⟨(fo.wrap (i+1)),(l++[(⟨(gx t i).prio,ah.1,(gx t i).step,(gx t i).outs⟩:Rule)]),(n+1),H1,kq hh,rfl⟩
 clear hh h;rintro h bs ⟨hh,rfl⟩;apply fl;refine rk [3] [] hh fun h hh=>?_;obtain ⟨g6,H⟩:=isg H;refine pn 3 (b:=0) (e:=23) (off:=0) (len:=s_.2) (cap:=s_.2) (M:=(s_.2*23)) (s_.1.map zak) (kq hh) (by rfl) (by omega) (by omega) (by rw [gu];exact zc8 (fun x=>zau x) g6) (fun t ht=>by obtain ⟨x,_,rfl⟩:=jv.1 ht;first|rfl|exact zgg _|exact za2 _|exact zd7 _|exact zau _ | (rw [f5];rfl)) (by rw [f5]<;>exact g6) (by omega) ?_;rw [zek _ _ _ (by simp only [lzA]<;>omega)];simp only [scA];refine gk [3] hh fun h hh=>?_;cases H;exact rt hh
def zj1 (k:Nat) (t:List Rule) (u:List Rule) (p:Pat):Option Bool:=((zgj k t p).bind fun r1=>((zgj k u p).bind fun r12=>((zhf k r1 r12).bind fun bv=>some bv.2)))
theorem zwa (ax:Axs) (hx:NoAx ax) (k:Nat) (t:List Rule) (u:List Rule) (p:Pat) (v:Bool) (H:zj1 k t u p=some v):Pure Try.prog (EE ax) [] 37 [zad t,zad u,ePat p] (.bool v):=by
 rw [zj1] at H;refine en [.tmp 6] 22 [0,1,2] (hx.no _ (by decide)) (fn37 ax) ?_;intro h hh;apply fl;refine rk [0,1,5] [] hh fun h hh=>?_;refine zk 5 0 20 true (p.mask.l.map (fm .i64)++(p.bits.l.map (fm .i64))) [0,1,5] hh fun h hh=>?_;apply fl;refine rk [0,1,7] [] hh fun h hh=>?_;obtain ⟨r1,e1,H⟩:=zab H;obtain ⟨r12,e2,H⟩:=zab H;obtain ⟨bv,e3,H⟩:=zab H;apply fl;refine rkc [9] [] [(zad r1,stL [.gone]),(zad r12,stL [.gone]),(.tup [.agg (bv.1.l.map (fm .i64)),.bool bv.2],stL [.gone])] hh ?_ ?_
 .exact ⟨gj ((zmj ax hx k t p r1 e1 ).call _),gj ((zmj ax hx k u p r12 e2 ).call _),gj ((ztx ax hx k r1 r12 bv e3 ).call _),trivial⟩
 clear hh h;intro h hh;apply fl;refine rk [6] [] hh fun h hh=>?_;cases H;exact rt hh
theorem bnd3 {n a b:Nat} (h:a<=b) (h2:b<=n):zb1 n n (some (.int .i64 (a:Int))) (some (.int .i64 (b:Int))) (some (.int .i64 (n:Int)))=some (a,b,n):=by
  show (bif il a b && il b n && il n n && (Option.isNone (some (Value.int .i64 (n:Int))) || Option.isSome (some (Value.int .i64 (b:Int)))) then some (a,b,n) else none)=_;rw [zav.2 h,zav.2 h2,zav.2 (fy n)];rfl
theorem bndH {n a:Nat} (h:a<=n):zb1 n n none (some (.int .i64 (a:Int))) none=some (0,a,n):=by
  have:=ypk (n:=n) (j:=(a:Int)) (by omega)
  rwa [jq] at this
theorem bndL {n a:Nat} (h:a<=n):zb1 n n (some (.int .i64 (a:Int))) none none=some (a,n,n):=by
  have:=ypj (n:=n) (i:=(a:Int)) (by omega)
  rwa [jq] at this
theorem bndB {m n:Nat} (h:m<=n):zb1 m n (some (.int .i64 (m:Int))) (some (.int .i64 (n:Int))) none=some (m,n,n):=by
  show (bif il m n && il n n && il n n && (Option.isNone (none:Option Value) || Option.isSome (some (Value.int .i64 (n:Int)))) then some (m,n,n) else none)=_;rw [zav.2 h,zav.2 (fy n)];rfl
def delL (l:List Rule) (a b:Nat):List Rule:=l.take a++l.drop b
def zm8 (k n:Nat) (l:List Rule) (i j:Int):Option (List Rule):=if l.length=n/\0<=i/\i<j/\j<=n/\n*201<=1000000000 then some (delL l i.toNat j.toNat) else none
theorem zdl (x:Rule):(zak x).cells.length=23:=by
  show (fm .i64 x.prio :: (x.mat.mask.l.map (fm .i64)++(x.mat.bits.l.map (fm .i64)++[fm .i64 x.step,za5 x.outs]))).length=23;simp [x.mat.mask.h,x.mat.bits.h]
theorem z6j (l:List Rule) (n:Nat) (h:n<=l.length):(vecC zak l).take (n*23)=vecC zak (l.take n):=by
  conv=>lhs;rw [<- jf n l,zaw]
  rw [kg (by rw [zbt zdl,iv];omega),iu (by rw [zbt zdl,iv];omega)]
theorem z6k (l:List Rule) (n:Nat) (h:n<=l.length):(vecC zak l).drop (n*23)=vecC zak (l.drop n):=by
  conv=>lhs;rw [<- jf n l,zaw]
  rw [show n*23=(vecC zak (l.take n)).length from by rw [zbt zdl,iv,Nat.min_eq_left h],List.drop_left]
theorem z0n {l:List Rule} {a b:Nat} (h:a<=b) (h2:b<=l.length):(delL l a b).length=a+(l.length - b):=by
  unfold delL;rw [gb,iv,jm,Nat.min_eq_left (by omega)]
theorem yno (ax:Axs) {l:List Rule} {n a b:Nat} {z:Bool} (hl:l.length=n) (h:a<b) (h2:b<=n) (hn:n*201<=1000000000) :
    zmy (EE ax) (stL [.cells z (n*23) (vecC zak l)]) 28 (.arr 0 23 (b*23) (n - b) (n - b) (n*23)) (.arr 0 23 0 a n (n*23))=some (.arr 0 23 0 (a+(n - b)) n (n*23),stL [.cells z (n*23) (vecC zak (delL l a b++l.drop (a+(n - b))))]):=by
  have hbox:(stL [.cells z (n*23) (vecC zak l)]).box 0=.cells z (n*23) (vecC zak l):=rfl
  have hs:tSrc (stL [.cells z (n*23) (vecC zak l)]) 23 (.arr 0 23 (b*23) (n - b) (n - b) (n*23))=some (n - b,vecC zak (l.drop b)):=by
    unfold tSrc;simp only [hbox];rw [show gd (n*23) (n*23)=true from jg _,show gd 23 23=true from rfl,zav.2 (show b*23+(n - b)*23<=n*23 by omega),gl,gl,cond_true,z6k _ _ (by omega),iu (by rw [zbt zdl,jm,hl];exact fy _)]
  unfold zmy;rw [el28 ax];simp only [hs,hbox];rw [zyx (by omega),show gd 23 0=false from rfl,show il 1000 23=false from rfl,ze4 ziz,show gd (n*23) (n*23)=true from jg _,show gd 23 23=true from rfl];simp only [i6,Bool.or_self,cond_false];rw [zav.2 (show a+(n - b)<=n by omega),cond_true];by_cases hb:n - b=0
  . rw [hb,Nat.add_zero,jg,cond_true];have e:b=n:=by omega
    have:delL l a b++l.drop a=l:=by
      unfold delL;rw [e,<- hl,List.drop_length,ic,jf]
    rw [this]
  . rw [show gd (n - b) 0=false from zi8 hb,cond_false,zav.2 (show 0+(a+(n - b))*23<=n*23 by omega),cond_true]
    have e:spl (vecC zak l) (0+a*23) (vecC zak (l.drop b))=vecC zak (delL l a b++l.drop (a+(n - b))):=by
      unfold spl delL;rw [zaw,zaw,jc,z6j _ _ (by omega),zbt zdl,jm,hl,<- jt,z6k _ _ (by omega)]
    rw [e,zek _ _ _ (by simp only [lzA]<;>omega)];simp only [scA]
def zR:List T:=fm .i64 0 :: ((zA 10).l.map (fm .i64)++((zA 10).l.map (fm .i64)++[fm .i64 0,T.nils]))
theorem ynz:zR.length=23:=rfl
theorem ynd (ax:Axs) {l:List Rule} {n a b:Nat} {z:Bool} (hl:l.length=n) (h:a<b) (h2:b<=n) :
    ztv (EE ax) (stL [.cells z (n*23) (vecC zak (delL l a b++l.drop (a+(n - b))))]) 28 (.arr 0 23 ((a+(n - b))*23) (n - (a+(n - b))) (n - (a+(n - b))) (n*23))=some (.tup [],stL [.cells z (n*23) (vecC zak (delL l a b)++rep (n - (a+(n - b))) zR)]):=by
  have hd:=z0n (l:=l) (Nat.le_of_lt h) (by omega);rw [hl] at hd;generalize hm:a+(n - b)=m at hd ⊢;unfold ztv;rw [el28 ax];simp only;rw [ybe];simp only;rw [show (stL [.cells z (n*23) (vecC zak (delL l a b++l.drop m))]).box 0=.cells z (n*23) (vecC zak (delL l a b++l.drop m)) from rfl];simp only;rw [show gd (n*23) (n*23)=true from jg _,zy4,show gd 23 23=true from rfl,zae.2 (show 0<(n - m)*23 by omega),zav.2 (show m*23+(n - m)*23<=n*23 by omega)];simp only [gl,cond_true]
  have e:spl (vecC zak (delL l a b++l.drop m)) (m*23) (rep (n - m) zR)=vecC zak (delL l a b)++rep (n - m) zR:=by
    unfold spl;rw [z6j _ _ (by rw [gb,hd];omega),kg (by omega),iu (by omega),z4w,ynz];rw [List.drop_of_length_le (by rw [zbt zdl,gb,hd,jm,hl];omega),ic]
  rw [show (fm .i64 0 :: ((zA 10).l.map (fm .i64)++((zA 10).l.map (fm .i64)++[fm .i64 0,T.nils])))=zR from rfl,e,zek _ _ _ (by simp only [lzA]<;>omega)];simp only [scA]
theorem yb6 (ax:Axs):∀ (own:List Nat) (ρ:Operand->T) (d:Option Tmp) (t ty:TypeId) (pos:String) (e:Array Go.Edge) (g:Option (Nat×Bool)) (S:TS) (x:Operand),zgu Try.prog (EE ax) own ρ ⟨d,.call ⟨.builtin .clear,#[x],#[t]⟩,ty,pos,e,g⟩ S=ztv (EE ax) S t (ρ x):=fun own ρ d t ty pos e g S x=>ygz
theorem zxd (ax:Axs) (hx:NoAx ax) (k n:Nat) (l:List Rule) (i j:Int) (v:List Rule) (H:zm8 k n l i j=some v) :
    Call Try.prog (EE ax) [] 31 [.arr 0 23 0 n n (n*23),.int .i64 i,.int .i64 j] (stL [.cells false (n*23) (vecC zak l)]) (tupT [zad v]) (stL [.gone]):=by
  unfold zm8 at H;obtain ⟨⟨hl,g0,g1,g2,g3⟩,H⟩:=isg H;obtain ⟨a,rfl⟩:=jz g0;obtain ⟨b,rfl⟩:=jz (show 0<=j by omega);cases H;rw [jq,jq];have hab:a<b:=by omega
  have hbn:b<=n:=by omega
  have hA:=yno ax (z:=false) hl hab hbn g3;have hC:=ynd ax (z:=false) hl hab hbn;have hD:=z0n (l:=l) (Nat.le_of_lt hab) (by omega);rw [hl] at hD;obtain ⟨m,hm⟩:∃ m,m=a+(n - b):=⟨_,rfl⟩;rw [<- hm] at hA hC hD;refine enB [.tmp 6] 33 [0,1,2] (hx.no _ (by decide)) (fn31 ax) ?_;intro h hh;apply fl;refine rk [0,1,2] [] hh fun h hh=>?_;apply fl;refine rk [0,1,2] [] (f2 hh (bnd3 (n:=n) (Nat.le_of_lt hab) hbn)) fun h hh=>?_;repeat apply fl
  refine rk [0,1,2,16] [] hh fun h hh=>?_;refine cf (f2 hh (zAb (show ¬ (a:Int)=(b:Int) by omega))) ?_;refine sk ?_;apply fl;refine rk [0,1,2,7] [] hh fun h hh=>?_;apply fl;refine dg 6 [] [] [] [.cells false (n*23) (vecC zak (delL l a b++l.drop m))] (fun h=>h 0=.arr 0 23 0 m n (n*23)/\h 7=.int .i64 (n:Int)) (f3 hh (bndH (n:=n) (a:=a) (by omega)) (f2 (bndL (n:=n) (a:=b) hbn) hA)) trivial trivial fun h hh=>?_;apply fl;refine rg [] [] [.cells false (n*23) (vecC zak (delL l a b)++rep (n - m) zR)] (fun h=>h 0=.arr 0 23 0 m n (n*23)) (f3 hh (bndB (m:=m) (n:=n) (by omega)) (f2 hC (yb6 ax))) trivial fun h hh=>?_;refine pn 0 (b:=0) (e:=23) (off:=0) (len:=m) (cap:=n) (M:=n*23) ((delL l a b).map zak) (kq hh) (by rfl) (by omega) (by omega) ?_ ?_ ?_ (by omega) ?_
  . rw [gu,kg (by rw [zbt zdl,hD];exact fy _),iu (by rw [zbt zdl,hD];exact fy _)];rfl
  . intro t ht;obtain ⟨x,_,rfl⟩:=jv.1 ht;exact zdl x
  . rw [f5,hD]
  rw [zek _ _ _ (by simp only [lzA]<;>omega)];simp only [scA];refine gk [0] hh fun h hh=>?_;apply fl;refine rk [6] [] hh fun h hh=>?_;exact rtB hh
theorem yd8 (r:Rule) (m:Pat):spl (zak r).cells 1 (m.mask.l.map (fm .i64)++(m.bits.l.map (fm .i64)))=(zak { r with mat:=m }).cells:=by
  have e1:(zak r).cells=fm .i64 r.prio :: (r.mat.mask.l.map (fm .i64)++(r.mat.bits.l.map (fm .i64)++[fm .i64 r.step,za5 r.outs])):=rfl;have e2:(zak { r with mat:=m }).cells=fm .i64 r.prio :: (m.mask.l.map (fm .i64)++(m.bits.l.map (fm .i64)++[fm .i64 r.step,za5 r.outs])):=rfl;rw [e1,e2];have h1:(m.mask.l.map (fm .i64)++m.bits.l.map (fm .i64)).length=20:=by simp [m.mask.h,m.bits.h]
  have h2:(r.mat.mask.l.map (fm .i64)++r.mat.bits.l.map (fm .i64)).length=20:=by simp [r.mat.mask.h,r.mat.bits.h]
  unfold spl;rw [h1,List.take_succ_cons,List.take_zero,show 1+20=20+1 from rfl,ld,<- gt (r.mat.mask.l.map (fm .i64)),<- h2,List.drop_left];simp
theorem ymc {a b c xs:List T} {n j:Nat} (ha:a.length=n) (hj:j+xs.length<=b.length):spl (a++(b++c)) (n+j) xs=a++(spl b j xs++c):=by
  subst ha;unfold spl;rw [List.take_length_add_append,Nat.add_assoc,List.drop_length_add_append,kg (by omega),List.drop_append_of_le_length (by omega)];simp only [gt]
theorem ycj {l:List Rule} {i:Nat} (m:Pat) (h:i<l.length):spl (vecC zak l) (i*23+1) (m.mask.l.map (fm .i64)++(m.bits.l.map (fm .i64)))=vecC zak (l.set i { l.getD i default with mat:=m }):=by
  rw [<- zy9 zak 23 { l.getD i default with mat:=m } zdl h];obtain ⟨h1,h2⟩:=zn5 zak 23 zdl h;have hc:=zdl (l.getD i default);have hn:=zdl { l.getD i default with mat:=m };have hm:(m.mask.l.map (fm .i64)++m.bits.l.map (fm .i64)).length=20:=by simp [m.mask.h,m.bits.h]
  rw [h1,ycb h2 (by rw [hn,hc]),ymc h2 (by omega),yd8]
def zih (k:Nat) (t:List Rule) (m_:Merg):Option (List Rule×Int):=(((if m_.i<0 then some true else some (decide ((t.length:Int)<=m_.i))):Option Bool).bind fun s_=>(if s_=true then some ([],1) else (if m_.kind=1 then (if m_.k≠0 then some ([],1) else (if t.length*201<=1000000000 then ((zm8 k t.length t m_.i (fo.wrap (m_.i+1))).bind fun ek=>some (ek,0)) else none)) else (((if m_.kind=2 then some true else some (decide (m_.kind=3))):Option Bool).bind fun s_2=>(if s_2=true then (((if m_.k<=m_.i then some true else (if (t.length:Int)<=m_.k then some true else (if 0<=m_.i/\m_.i<(t.length:Int) then (if 0<=m_.k/\m_.k<(t.length:Int) then ((zit k (gx t m_.i) (gx t m_.k)).bind fun am=>some (!am)) else none) else none))):Option Bool).bind fun s_3=>(if s_3=true then some ([],1) else (if 0<=m_.i/\m_.i<(t.length:Int) then (if 0<=m_.k/\m_.k<(t.length:Int) then ((zik k ((gx t m_.i).mat) ((gx t m_.k).mat)).bind fun ab=>(if ab.2=true then (if t.length*201<=1000000000 then (if m_.i.toNat<t.length then (if m_.k.toNat<(t.set m_.i.toNat ({ t.getD m_.i.toNat default with mat:=ab.1 })).length then (((if m_.kind=3 then some m_.i else some m_.k):Option Int).bind fun s_4=>((zm8 k t.length ((t.set m_.i.toNat ({ t.getD m_.i.toNat default with mat:=ab.1 })).set m_.k.toNat ({ (t.set m_.i.toNat ({ t.getD m_.i.toNat default with mat:=ab.1 })).getD m_.k.toNat default with mat:=ab.1 })) s_4 (fo.wrap (s_4+1))).bind fun de=>some (de,0))) else none) else none) else none) else some ([],1))) else none) else none))) else some ([],1))))))
theorem zox (ax:Axs) (hx:NoAx ax) (k:Nat) (t:List Rule) (m_:Merg) (v:List Rule×Int) (H:zih k t m_=some v):Pure Try.prog (EE ax) [] 10 [zad t,zj8 m_] (tupT [zad v.1,.int .i64 v.2]):=by
 rw [zih] at H;refine enN [.tmp 4,.tmp 5] 108 [0,1] (hx.no _ (by decide)) (fn10 ax) ?_;intro h hh;apply fl;refine rk [0,3] [] hh fun h hh=>?_;refine zk 3 0 3 true [.int .i64 m_.kind,.int .i64 m_.i,.int .i64 m_.k] [0,3] hh fun h hh=>?_;obtain ⟨s_,H1,H⟩:=zab H;repeat apply fl
 refine cu [0,3,19] 1 (fun h bs=>(h 0=zad t/\h 3=.cp [.int .i64 m_.kind,.int .i64 m_.i,.int .i64 m_.k]/\h 19=.bool s_)/\bs=[.gone]) ?_ ?_
 .skip;rcases isp H1 with ⟨c1,H1⟩|⟨c1,H1⟩;rotate_left
  .skip;refine rk [0,3,19] [] (f3 hh (zAb c1) (zqw ax)) fun h hh=>?_;cases H1;exact ce hh ⟨kq hh,rfl⟩
  refine rk [0,3,19] [] (f3 hh (zAa c1) (zqw ax)) fun h hh=>?_;cases H1;exact ce hh ⟨kq hh,rfl⟩
 clear hh h;rintro h bs ⟨hh,rfl⟩;rcases isb H with ⟨c2,H⟩|⟨c2,H⟩;rotate_left
 .skip;refine cf (f2 hh c2) ?_;refine sk ?_;repeat apply fl
  refine rk [0,3,21] [] (f3 hh c2 (ykr ax)) fun h hh=>?_;apply gp;apply fl;refine rk [0,3,21,22] [] (f2 hh c2) fun h hh=>?_;rcases isp H with ⟨c3,H⟩|⟨c3,H⟩;rotate_left
  .skip;refine cf (f2 hh (zAb c3)) ?_;repeat apply fl
   refine rk [0,3,21,35] [] (f2 hh c2) fun h hh=>?_;obtain ⟨s_2,H1,H⟩:=zab H;refine cu [0,3,35] 1 (fun h bs=>(h 0=zad t/\h 3=.cp [.int .i64 m_.kind,.int .i64 m_.i,.int .i64 m_.k]/\h 35=.bool s_2)/\bs=[.gone]) ?_ ?_
   .skip;rcases isp H1 with ⟨c7,H1⟩|⟨c7,H1⟩;rotate_left
    .skip;refine cf (f2 hh (zAb c7)) ?_;refine rk [0,3,35] [] (f2 hh c2) fun h hh=>?_;cases H1;exact ce hh ⟨kq hh,rfl⟩
    refine ct (f2 hh (zAa c7)) ?_;refine sk ?_;cases H1;exact ce hh ⟨kq (f2 hh (zAa c7)),rfl⟩
   clear hh h;rintro h bs ⟨hh,rfl⟩;rcases isb H with ⟨c8,H⟩|⟨c8,H⟩;rotate_left
   .skip;refine cf (f2 hh c8) ?_;refine sk ?_;apply fl;refine rk [4,5] [] (f3 hh c2 c8) fun h hh=>?_;refine nk 4 23 [4,5] hh fun h hh=>?_;cases H;exact rt hh
   refine ct (f2 hh c8) ?_;obtain ⟨s_3,H1,H⟩:=zab H;repeat apply fl
   refine cu [0,3,63] 1 (fun h bs=>(h 0=zad t/\h 3=.cp [.int .i64 m_.kind,.int .i64 m_.i,.int .i64 m_.k]/\h 63=.bool s_3)/\bs=[.gone]) ?_ ?_
   .skip;rcases isp H1 with ⟨c9,H1⟩|⟨c9,H1⟩;rotate_left
    .skip;rcases isp H1 with ⟨c10,H1⟩|⟨c10,H1⟩;rotate_left
     .skip;obtain ⟨g11,H1⟩:=isg H1;obtain ⟨g12,H1⟩:=isg H1;obtain ⟨am,e13,H1⟩:=zab H1;refine dk 23 [0,3,63] [] [] [(.bool am,stL [.gone])] (f3 hh (zAb c9) (f3 (zAb c10) c2 (f3 c8 (zag g11) (f3 (zag g12) (zqw ax) (zvi ax))))) trivial ?_ ?_
      .exact ⟨gj (ja (zt2 ax hx k (gx t m_.i) (gx t m_.k) am e13 ) (by first|rfl|simp only [c2,c8])),trivial⟩
      clear hh h;intro h hh;cases H1;exact ce hh ⟨kq hh,rfl⟩
     refine dk 23 [0,3,63] [] [] [] (f3 hh (zAb c9) (f3 (zAa c10) c2 (f3 c8 (zqw ax) (zvi ax)))) trivial trivial fun h hh=>?_;cases H1;exact ce hh ⟨kq hh,rfl⟩
    refine dk 23 [0,3,63] [] [] [] (f3 hh (zAa c9) (f3 c2 c8 (f2 (zqw ax) (zvi ax)))) trivial trivial fun h hh=>?_;cases H1;exact ce hh ⟨kq hh,rfl⟩
   clear hh h;rintro h bs ⟨hh,rfl⟩;rcases isb H with ⟨c14,H⟩|⟨c14,H⟩;rotate_left
   .skip;refine cf (f2 hh c14) ?_;refine sk ?_;obtain ⟨g15,H⟩:=isg H;obtain ⟨g16,H⟩:=isg H;obtain ⟨ab,e17,H⟩:=zab H;apply fl;refine dk 12 [0,3,6,7] [] [] [(.tup [ePat ab.1,.bool ab.2],stL [.gone])] (f3 hh c2 (f3 c8 c14 (f3 (zag g15) (zag g16) (f2 (zqw ax) (zvi ax))))) trivial ?_ ?_
    .exact ⟨gj (ja (zp5 ax hx k ((gx t m_.i).mat) ((gx t m_.k).mat) ab e17 ) (by first|rfl|simp only [c2,c8,c14])),trivial⟩
    clear hh h;intro h hh;refine zk 6 1 20 true (ab.1.mask.l.map (fm .i64)++(ab.1.bits.l.map (fm .i64))) [0,3,6,7] hh fun h hh=>?_;repeat apply fl
    refine rk [0,3,6,81] [] (f3 hh c2 (f2 c8 c14)) fun h hh=>?_;rcases isb H with ⟨c18,H⟩|⟨c18,H⟩;rotate_left
    .skip;refine ct (f2 hh c18) ?_;apply fl;refine rk [4,5] [] (f3 hh c2 (f3 c8 c14 c18)) fun h hh=>?_;refine nk 4 23 [4,5] hh fun h hh=>?_;cases H;exact rt hh
    refine cf (f2 hh c18) ?_;refine sk ?_;obtain ⟨g19,H⟩:=isg H;apply fl;refine rkc [3,6,8] [] [(.arr 2 23 0 t.length t.length (t.length*23),stL [.gone,.gone,.cells false (t.length*23) (vecC zak t)])] (f3 hh c2 (f3 c8 c14 c18)) ?_ ?_
    .exact ⟨(by have q:=sp (zlm ax hx t g19) (by simp only [zbm,idsA,idsB,gl]) (by simp only [zbm,idsA,idsB,gl]) [.gone,.gone];(try simp only [c2,c8,c14,c18] at q);exact q),trivial⟩
    clear hh h;intro h hh;obtain ⟨g20,H⟩:=isg H;obtain ⟨g21,H⟩:=isg H;apply fl;refine ds 10 [(6,none),(88,none),(93,some 2)] [3,8] [] [] [] (f3 hh c2 (f3 c8 c14 (f3 c18 (ycj ab.1 g20) (f3 (ycj ab.1 g21) (zqw ax) (zvi ax))))) trivial trivial fun h hh=>?_;apply fl;refine rk [3,8,9] [] (f3 hh c2 (f3 c8 c14 (f2 c18 (zvi ax)))) fun h hh=>?_;repeat apply fl
    refine rk [3,8,9,100] [] (f3 hh c2 (f3 c8 c14 (f2 c18 (ykr ax)))) fun h hh=>?_;obtain ⟨s_4,H1,H⟩:=zab H;refine cu [8,9] 3 (fun h bs=>(h 8=.arr 2 23 0 t.length t.length (t.length*23)/\h 9=.int .i64 s_4)/\bs=[.gone,.gone,.cells false (t.length*23) (vecC zak ((t.set m_.i.toNat ({ t.getD m_.i.toNat default with mat:=ab.1 })).set m_.k.toNat ({ (t.set m_.i.toNat ({ t.getD m_.i.toNat default with mat:=ab.1 })).getD m_.k.toNat default with mat:=ab.1 })))]) ?_ ?_
    .skip;rcases isp H1 with ⟨c22,H1⟩|⟨c22,H1⟩;rotate_left
     .skip;refine cf (f2 hh (zAb c22)) ?_;refine sk ?_;cases H1;exact ce hh ⟨kq hh,rfl⟩
     refine ct (f2 hh (zAa c22)) ?_;refine rk [8,9] [] (f3 hh c2 (f3 c8 c14 (f2 c18 (zqw ax)))) fun h hh=>?_;cases H1;exact ce hh ⟨kq hh,rfl⟩
    clear hh h;rintro h bs ⟨hh,rfl⟩;obtain ⟨de,e23,H⟩:=zab H;apply fl;refine rkc [4,5] [] [(zad de,stL [.gone,.gone,.gone])] (f3 hh c2 (f3 c8 c14 c18)) ?_ ?_
    .exact ⟨ca [2] (zxd ax hx k t.length ((t.set m_.i.toNat ({ t.getD m_.i.toNat default with mat:=ab.1 })).set m_.k.toNat ({ (t.set m_.i.toNat ({ t.getD m_.i.toNat default with mat:=ab.1 })).getD m_.k.toNat default with mat:=ab.1 })) s_4 (fo.wrap (s_4+1)) de e23),trivial⟩
    clear hh h;intro h hh;cases H;exact rt hh
   refine ct (f2 hh c14) ?_;apply fl;refine rk [4,5] [] (f3 hh c2 (f2 c8 c14)) fun h hh=>?_;refine nk 4 23 [4,5] hh fun h hh=>?_;cases H;exact rt hh
  refine ct (f2 hh (zAa c3)) ?_;repeat apply fl
  refine rk [0,3,26] [] (f3 hh c2 (zvi ax)) fun h hh=>?_;rcases isp H with ⟨c4,H⟩|⟨c4,H⟩;rotate_left
  .skip;refine cf (f2 hh (zAb c4)) ?_;refine sk ?_;obtain ⟨g5,H⟩:=isg H;obtain ⟨ek,e6,H⟩:=zab H;apply fl;refine dc 1 [3] [4,5] [] [] [(.arr 1 23 0 t.length t.length (t.length*23),stL [.gone,.cells false (t.length*23) (vecC zak t)]),(zad ek,stL [.gone,.gone])] (f3 hh c2 (zqw ax)) trivial ?_ ?_
   .exact ⟨(by have q:=sp (zlm ax hx t g5) (by simp only [zbm,idsA,idsB,gl]) (by simp only [zbm,idsA,idsB,gl]) [.gone];(try simp only [c2] at q);exact q),ca [1] (zxd ax hx k t.length t m_.i (fo.wrap (m_.i+1)) ek e6),trivial⟩
   clear hh h;intro h hh;cases H;exact rt hh
  refine ct (f2 hh (zAa c4)) ?_;apply fl;refine rk [4,5] [] (f2 hh c2) fun h hh=>?_;refine nk 4 23 [4,5] hh fun h hh=>?_;cases H;exact rt hh
 refine ct (f2 hh c2) ?_;apply fl;refine rk [4,5] [] (f2 hh c2) fun h hh=>?_;refine nk 4 23 [4,5] hh fun h hh=>?_;cases H;exact rt hh
def ze0 (k:Nat) (t:List Rule) (m_:Merg):Option (List Rule×Int):=((zih k t m_).bind fun ab=>(if ab.2≠0 then some ([],ab.2) else (if 0<=m_.i/\m_.i<(t.length:Int) then (((if m_.kind≠1 then (if 0<=m_.k/\m_.k<(t.length:Int) then ((zik k ((gx t m_.i).mat) ((gx t m_.k).mat)).bind fun cl=>some (cl.1.mask,cl.1.bits)) else none) else some (((gx t m_.i).mat).mask,((gx t m_.i).mat).bits)):Option (Ar 10×Ar 10)).bind fun s_=>((zj1 k t ab.1 (⟨s_.1,s_.2⟩:Pat)).bind fun em=>(if em=true then some (ab.1,0) else some ([],7)))) else none)))
theorem zht (ax:Axs) (hx:NoAx ax) (k:Nat) (t:List Rule) (m_:Merg) (v:List Rule×Int) (H:ze0 k t m_=some v):Pure Try.prog (EE ax) [] 12 [zad t,zj8 m_] (tupT [zad v.1,.int .i64 v.2]):=by
 rw [ze0] at H;refine enN [.tmp 4,.tmp 5] 44 [0,1] (hx.no _ (by decide)) (fn12 ax) ?_;intro h hh;apply fl;refine rk [0,3] [] hh fun h hh=>?_;obtain ⟨ab,e1,H⟩:=zab H;apply fl;refine rkp [0,3,6,7] [] [.tup [zad ab.1,.int .i64 ab.2]] hh ?_ ?_
 .exact ⟨gj ((zox ax hx k t m_ ab e1 ).call _),trivial⟩
 clear hh h;intro h hh;repeat apply fl
 refine rk [0,3,6,7,16] [] hh fun h hh=>?_;rcases isp H with ⟨c2,H⟩|⟨c2,H⟩;rotate_left
 .skip;refine cf (f2 hh (zAb c2)) ?_;refine sk ?_;obtain ⟨g3,H⟩:=isg H;apply fl;refine rk [0,3,6,8] [] (f2 hh (zag g3)) fun h hh=>?_;repeat apply fl
  refine rk [0,3,6,8,26] [] hh fun h hh=>?_;obtain ⟨s_,H1,H⟩:=zab H;refine cu [0,6,8] 2 (fun h bs=>(h 0=zad t/\h 6=zad ab.1/\h 8=.ptr 1 0 20)/\bs=[.cells true 3 [.int .i64 m_.kind,.int .i64 m_.i,.int .i64 m_.k],.cells true 20 (s_.1.l.map (fm .i64)++(s_.2.l.map (fm .i64)))]) ?_ ?_
  .skip;rcases isp H1 with ⟨c4,H1⟩|⟨c4,H1⟩;rotate_left
   .skip;refine cf (f2 hh (zAb c4)) ?_;refine sk ?_;cases H1;exact ce hh ⟨kq hh,rfl⟩
   refine ct (f2 hh (zAa c4)) ?_;obtain ⟨g5,H1⟩:=isg H1;obtain ⟨cl,e6,H1⟩:=zab H1;refine dk 7 [0,6,8] [] [] [(.tup [ePat cl.1,.bool cl.2],stL [.cells true 3 [.int .i64 m_.kind,.int .i64 m_.i,.int .i64 m_.k],.cells true 20 ((((gx t m_.i).mat).mask).l.map (fm .i64)++((((gx t m_.i).mat).bits).l.map (fm .i64)))])] (f2 hh (zag g5)) trivial ?_ ?_
   .exact ⟨gj ((zp5 ax hx k ((gx t m_.i).mat) ((gx t m_.k).mat) cl e6 ).call _),trivial⟩
   clear hh h;intro h hh;cases H1;exact ce hh ⟨kq hh,rfl⟩
  clear hh h;rintro h bs ⟨hh,rfl⟩;obtain ⟨em,e7,H⟩:=zab H;repeat apply fl
  refine rkp [6,42] [] [.bool em] hh ?_ ?_
  .exact ⟨gj ((zwa ax hx k t ab.1 (⟨s_.1,s_.2⟩:Pat) em e7 ).call _),trivial⟩
  clear hh h;intro h hh;rcases isb H with ⟨c8,H⟩|⟨c8,H⟩;rotate_left
  .skip;refine ct (f2 hh c8) ?_;apply fl;refine rk [4,5] [] (f2 hh c8) fun h hh=>?_;refine nk 4 23 [4,5] hh fun h hh=>?_;cases H;exact rt hh
  refine cf (f2 hh c8) ?_;refine sk ?_;apply fl;refine rk [4,5] [] (f2 hh c8) fun h hh=>?_;cases H;exact rt hh
 refine ct (f2 hh (zAa c2)) ?_;apply fl;refine rk [4,5] [] hh fun h hh=>?_;refine nk 4 23 [4,5] hh fun h hh=>?_;cases H;exact rt hh
def zdp (k:Nat) (l:List Merg):Nat->(List Rule)->Int->Option (Int ⊕ (List Rule))
 |0,_,_=>none
 |m+1,t2,i=>(if i<(l.length:Int) then (if 0<=i/\i<(l.length:Int) then ((ze0 k t2 (gx l i)).bind fun ai=>(if ai.2≠0 then some (.inl ai.2) else zdp k l m ai.1 (fo.wrap (i+1)))) else none) else some (.inr t2))
def zhg (k:Nat) (t:List Rule) (u:List Rule) (l:List Merg):Option Int:=((zdp k l k t 0:Option (Int ⊕ (List Rule))).bind fun o=>kj (fun r=>some r) (fun s_=>((zjy k s_ u).bind fun cn=>(if cn=true then some 0 else some 7))) o)
theorem zf7 (ax:Axs) (hx:NoAx ax) (k:Nat) (t:List Rule) (u:List Rule) (l:List Merg) (v:Int) (H:zhg k t u l=some v):Pure Try.prog (EE ax) [] 16 [zad t,zad u,zmb l] (.int .i64 v):=by
 rw [zhg] at H;refine en [.tmp 6] 32 [0,1,2] (hx.no _ (by decide)) (fn16 ax) ?_;intro h hh;apply fl;refine rk [0,1,2] [] hh fun h hh=>?_;repeat apply fl
 refine rk [0,1,11,12,13] [] hh fun h hh=>?_;obtain ⟨o,H1,H⟩:=zab H;refine cu [0,1] 0 (fun h bs=>∃ s_:List Rule,o=.inr s_/\(h 0=zad s_/\h 1=zad u)/\bs=[]) ?_ ?_
 .skip;apply gp;refine jj [0,1,11,12,13] (fun m h bs=>∃ (t2:List Rule) (i:Int),zdp k l m t2 i=some o/\(h 0=zad t2/\h 1=zad u/\h 11=zmb l/\h 12=.int .i64 (l.length:Int)/\h 13=.int .i64 i)/\bs=[]) ?_ k _ _ ?_;rotate_left
  .exact ⟨t,0,H1,kq hh,rfl⟩
  clear hh h H1;rintro m h bs ⟨t2,i,H1,hh,rfl⟩;rcases m with _|m
  .rw [zdp] at H1;cases H1
  rw [zdp] at H1;apply fl;refine rk [0,1,11,12,13,14] [] hh fun h hh=>?_;rcases isp H1 with ⟨c1,H1⟩|⟨c1,H1⟩;rotate_left
  .skip;apply fl;refine cf (f2 hh (zAb c1)) ?_;refine xk ?_;cases H1;exact ce hh ⟨_,rfl,kq hh,rfl⟩
  apply fl;refine ct (f2 hh (zAa c1)) ?_;refine sk ?_;apply fl;apply gp;obtain ⟨g2,H1⟩:=isg H1;apply fl;refine rk [0,1,8,11,12,13] [] (f2 hh (zag g2)) fun h hh=>?_;obtain ⟨ai,e3,H1⟩:=zab H1;apply fl;refine rkp [1,9,10,11,12,13] [] [.tup [zad ai.1,.int .i64 ai.2]] hh ?_ ?_
  .exact ⟨gj ((zht ax hx k t2 (gx l i) ai e3 ).call _),trivial⟩
  clear hh h;intro h hh;repeat apply fl
  refine rk [1,9,10,11,12,13,24] [] hh fun h hh=>?_;rcases isp H1 with ⟨c4,H1⟩|⟨c4,H1⟩;rotate_left
  .skip;refine cf (f2 hh (zAb c4)) ?_;refine sk ?_;refine rk [0,1,11,12,13] [] hh fun h hh=>?_;refine rk [0,1,11,12,13] [] hh fun h hh=>?_;exact rd m hh ⟨ai.1,(fo.wrap (i+1)),H1,kq hh,rfl⟩
  refine ct (f2 hh (zAa c4)) ?_;apply fl;refine rk [6] [] hh fun h hh=>?_;cases H1;obtain rfl:=sinl H;exact rt hh
 clear hh h;rintro h bs ⟨s_,rfl,hh,rfl⟩;replace H:=sinr H;obtain ⟨cn,e5,H⟩:=zab H;repeat apply fl
 refine rkp [31] [] [.bool cn] hh ?_ ?_
 .exact ⟨gj ((zv7 ax hx k s_ u cn e5 ).call _),trivial⟩
 clear hh h;intro h hh;rcases isb H with ⟨c6,H⟩|⟨c6,H⟩;rotate_left
 .skip;refine ct (f2 hh c6) ?_;apply fl;refine rk [6] [] (f2 hh c6) fun h hh=>?_;cases H;exact rt hh
 refine cf (f2 hh c6) ?_;refine sk ?_;apply fl;refine rk [6] [] (f2 hh c6) fun h hh=>?_;cases H;exact rt hh
end Go.Proofs.Ytkfnjbfnkpameaa
