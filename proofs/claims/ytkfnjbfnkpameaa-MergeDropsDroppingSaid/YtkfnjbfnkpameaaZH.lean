/- Part 8 of the proof of MergeDropsDropping (several texts in one; no further condition). -/
import Derived.Test.YtkfnjbfnkpameaaZG
import Derived.KernelRfl
import Derived.Test.YtkfnjbfnkpameaaZE
import Derived.Test.YtkfnjbfnkpameaaZF
import Derived.Test.YtkfnjbfnkpameaaRows
set_option linter.unusedSimpArgs false
set_option linter.unusedVariables false
set_option linter.unusedSectionVars false
namespace Go.Proofs.Ytkfnjbfnkpameaa
set_option maxHeartbeats 8000000
open _root_.And renaming intro->eh
open _root_.BitVec renaming ofInt->il,toNat_ofInt->kv
open _root_.Bool renaming and_self->fm,not_false->gm,not_true->gw
open Go.Proofs.Ytkfnjbfnkpameaa.Call renaming fresh->qs
open _root_.Int renaming eq_ofNat_of_zero_le->jp,toNat_natCast->i5
open Go.IntKind renaming i64->ej,u64->fh
open _root_.List renaming append_assoc->fy,append_nil->gn,cons_append->f6,drop_succ_cons->jw,drop_zero->ge,findSome?_cons->ow,flatten_cons->gj,flatten_nil->h9,getElem?_cons_succ->ki,getElem?_cons_zero->gc,length_append->fi,length_cons->fq,length_drop->iw,length_map->fc,length_nil->iu,length_replicate->kh,length_take->gq,mem_map->i6,nil_append->ft,range->ju,range'_succ->pk,replicate->fl,set_cons_succ->lc,set_cons_zero->kb,take_append_drop->ip,take_append_of_le_length->kp,take_of_length_le->gz
open _root_.Nat renaming add_mul->i8,add_zero->jc,beq->fg,beq_refl->ij,ble->gd,le_refl->fd,one_mul->mq,reduceAdd->ff,reduceEqDiff->ez,reduceLT->gt,reduceLeDiff->jg,reduceMul->iy,reduceSub->ib,zero_add->ig
open _root_.Option renaming bind_some->em
open Go.Proofs.Ytkfnjbfnkpameaa.Pure renaming clr->je
open Go.Proofs.Ytkfnjbfnkpameaa.Sh renaming sz->ql,szL->pr
open _root_.Sum renaming elim->kg
open Go.Proofs.Ytkfnjbfnkpameaa.T renaming cells->iq,int->eo,ren->qc,renL->nw
open Go.Proofs.Ytkfnjbfnkpameaa.TW renaming block->gl,freeze->pq,loopT->jk,seq->ek
open Go.Proofs.Ytkfnjbfnkpameaa.zan renaming call->f5
set_option maxRecDepth 1000000
open Go Go.RowKit
def zkq (k:Nat) (p:Pat):Option (Ar 10):=some p.bits
theorem zt9 (ax:Axs) (hx:NoAx ax) (k:Nat) (p:Pat) (v:Ar 10) (H:zkq k p=some v):Pure Try.prog (EE ax) [] 89 [ePat p] (.agg (v.l.map (eo .i64))):=by
 rw [zkq] at H;refine en [.cell 2 43] 5 [0] (hx.no _ (by decide)) (fn89 ax) ?_;intro h hh;apply ek;refine rk [1,2] [] hh fun h hh=>?_;apply ek;refine rk [2] [] hh fun h hh=>?_;cases H;exact rtc hh
def zgc (k:Nat) (i:Int):Option Int:=(if 0<=i/\0<16 then (if (0:Int)<=(ej.wrap (15 - (i % 16))) then some (iShl .i64 1 (ej.wrap (15 - (i % 16)))) else none) else none)
theorem zjg (ax:Axs) (hx:NoAx ax) (k:Nat) (i:Int) (v:Int) (H:zgc k i=some v):Pure Try.prog (EE ax) [] 95 [.int .i64 i] (.int .i64 v):=by
 rw [zgc] at H;refine en [.tmp 2] 7 [0] (hx.no _ (by decide)) (fn95 ax) ?_;intro h hh;apply ek;refine rk [0] [] hh fun h hh=>?_;obtain ⟨g1,H⟩:=isg H;obtain ⟨g2,H⟩:=isg H;apply ek;refine rk [2] [] (f2 hh (yl7 (k:=.i64) (k':=.i64) (a:=1) g2)) fun h hh=>?_;cases H;exact rt hh
def zhs (k:Nat) (p:Pat) (i:Int) (b:Int):Option Pat:=(if 0<=i/\0<16 then (if (0:Int)<=(ej.wrap (i / 16))/\(ej.wrap (i / 16))<(10:Int) then ((zgc k i).bind fun aj=>((zgc k i).bind fun aq=>(if b=1 then ((zgc k i).bind fun br=>some (⟨p.mask.set (ej.wrap (i / 16)) (iOr .i64 (gx p.mask.l (ej.wrap (i / 16))) aj),(p.bits.set (ej.wrap (i / 16)) (zgw .i64 (gx p.bits.l (ej.wrap (i / 16))) aq)).set (ej.wrap (i / 16)) (iOr .i64 (gx (p.bits.set (ej.wrap (i / 16)) (zgw .i64 (gx p.bits.l (ej.wrap (i / 16))) aq)).l (ej.wrap (i / 16))) br)⟩:Pat)) else some (⟨p.mask.set (ej.wrap (i / 16)) (iOr .i64 (gx p.mask.l (ej.wrap (i / 16))) aj),p.bits.set (ej.wrap (i / 16)) (zgw .i64 (gx p.bits.l (ej.wrap (i / 16))) aq)⟩:Pat)))) else none) else none)
theorem zp9 (ax:Axs) (hx:NoAx ax) (k:Nat) (p:Pat) (i:Int) (b:Int) (v:Pat) (H:zhs k p i b=some v):Pure Try.prog (EE ax) [] 90 [ePat p,.int .i64 i,.int .i64 b] (ePat v):=by
 rw [zhs] at H;refine en [.cell 6 56] 40 [0,1,2] (hx.no _ (by decide)) (fn90 ax) ?_;intro h hh;apply ek;refine rk [1,2,3,6] [] hh fun h hh=>?_;obtain ⟨g1,H⟩:=isg H;obtain ⟨g2,H⟩:=isg H;obtain ⟨aj,e3,H⟩:=zae H;apply ek;refine dk 7 [1,2,3,6] [.int .i64 aj] [] [] (f3 hh (zp0 (k:=.i64) (L:=(p.mask.l.map (eo .i64)++(p.bits.l.map (eo .i64)))) (r:=(p.bits.l.map (eo .i64))) p.mask g2) (z9t (k:=.i64) (L:=(p.mask.l.map (eo .i64)++(p.bits.l.map (eo .i64)))) (r:=(p.bits.l.map (eo .i64))) (L2:=((p.mask.set (ej.wrap (i / 16)) (iOr .i64 (gx p.mask.l (ej.wrap (i / 16))) aj)).l.map (eo .i64)++(p.bits.l.map (eo .i64)))) p.mask (iOr .i64 (gx p.mask.l (ej.wrap (i / 16))) aj) g2)) ?_ trivial ?_
 .exact ⟨(zjg ax hx k i aj e3 ).call _,trivial⟩
 clear hh h;intro h hh;obtain ⟨aq,e4,H⟩:=zae H;apply ek;refine dk 7 [1,2,3,6] [.int .i64 aq] [] [] (f3 hh (zm8 (k:=.i64) (off:=10) (L:=((p.mask.set (ej.wrap (i / 16)) (iOr .i64 (gx p.mask.l (ej.wrap (i / 16))) aj)).l.map (eo .i64)++(p.bits.l.map (eo .i64)))) (r:=[]) p.bits g2) (setAt (k:=.i64) (off:=10) (L:=((p.mask.set (ej.wrap (i / 16)) (iOr .i64 (gx p.mask.l (ej.wrap (i / 16))) aj)).l.map (eo .i64)++(p.bits.l.map (eo .i64)))) (r:=[]) (L2:=((p.mask.set (ej.wrap (i / 16)) (iOr .i64 (gx p.mask.l (ej.wrap (i / 16))) aj)).l.map (eo .i64)++((p.bits.set (ej.wrap (i / 16)) (zgw .i64 (gx p.bits.l (ej.wrap (i / 16))) aq)).l.map (eo .i64)))) (p:=((p.mask.set (ej.wrap (i / 16)) (iOr .i64 (gx p.mask.l (ej.wrap (i / 16))) aj)).l.map (eo .i64))) p.bits (zgw .i64 (gx p.bits.l (ej.wrap (i / 16))) aq) g2)) ?_ trivial ?_
 .exact ⟨(zjg ax hx k i aq e4 ).call _,trivial⟩
 clear hh h;intro h hh;repeat apply ek
 refine rk [1,3,6,28] [] hh fun h hh=>?_;rcases isp H with ⟨c5,H⟩|⟨c5,H⟩;rotate_left
 .skip;refine cf (f2 hh (zAb c5)) ?_;refine sk ?_;apply ek;refine rk [6] [] hh fun h hh=>?_;cases H;exact rtc hh
 refine ct (f2 hh (zAa c5)) ?_;obtain ⟨br,e6,H⟩:=zae H;refine dk 7 [3,6] [.int .i64 br] [] [] (f3 hh (zm8 (k:=.i64) (off:=10) (L:=((p.mask.set (ej.wrap (i / 16)) (iOr .i64 (gx p.mask.l (ej.wrap (i / 16))) aj)).l.map (eo .i64)++((p.bits.set (ej.wrap (i / 16)) (zgw .i64 (gx p.bits.l (ej.wrap (i / 16))) aq)).l.map (eo .i64)))) (r:=[]) (p.bits.set (ej.wrap (i / 16)) (zgw .i64 (gx p.bits.l (ej.wrap (i / 16))) aq)) g2) (setAt (k:=.i64) (off:=10) (L:=((p.mask.set (ej.wrap (i / 16)) (iOr .i64 (gx p.mask.l (ej.wrap (i / 16))) aj)).l.map (eo .i64)++((p.bits.set (ej.wrap (i / 16)) (zgw .i64 (gx p.bits.l (ej.wrap (i / 16))) aq)).l.map (eo .i64)))) (r:=[]) (L2:=((p.mask.set (ej.wrap (i / 16)) (iOr .i64 (gx p.mask.l (ej.wrap (i / 16))) aj)).l.map (eo .i64)++(((p.bits.set (ej.wrap (i / 16)) (zgw .i64 (gx p.bits.l (ej.wrap (i / 16))) aq)).set (ej.wrap (i / 16)) (iOr .i64 (gx (p.bits.set (ej.wrap (i / 16)) (zgw .i64 (gx p.bits.l (ej.wrap (i / 16))) aq)).l (ej.wrap (i / 16))) br)).l.map (eo .i64)))) (p:=((p.mask.set (ej.wrap (i / 16)) (iOr .i64 (gx p.mask.l (ej.wrap (i / 16))) aj)).l.map (eo .i64))) (p.bits.set (ej.wrap (i / 16)) (zgw .i64 (gx p.bits.l (ej.wrap (i / 16))) aq)) (iOr .i64 (gx (p.bits.set (ej.wrap (i / 16)) (zgw .i64 (gx p.bits.l (ej.wrap (i / 16))) aq)).l (ej.wrap (i / 16))) br) g2)) ?_ trivial ?_
 .exact ⟨(zjg ax hx k i br e6 ).call _,trivial⟩
 clear hh h;intro h hh;apply ek;refine rk [6] [] hh fun h hh=>?_;cases H;exact rtc hh
def zaw (k:Nat) (p:Pat) (l:List Pat):Nat->Int->Int->(List Pat)->Nat->Option ((Ar 10×Bool) ⊕ (Int×List Pat×Nat))
 |0,_,_,_,_=>none
 |m+1,at_,i,l2,n=>(if i<(l.length:Int) then (if 0<=i/\i<(l.length:Int) then ((zfq k p (gx l i)).bind fun ba=>(if ba=true then (if (n+1)*161<=1000000000 then (if natM ((gx l i).mask) then (if natM p.mask then (rngF (z7v ((gx l i).mask) p.mask) (if ((-1):Int)<0 then some (.inl ((zA 10),false)) else zaw k p l m (min at_ (-1)) (ej.wrap (i+1)) (l2++[(gx l i)]) (n+1)) (fun x=>(if (x:Int)<0 then some (.inl ((zA 10),false)) else zaw k p l m (min at_ (x:Int)) (ej.wrap (i+1)) (l2++[(gx l i)]) (n+1)))) else none) else none) else none) else zaw k p l m at_ (ej.wrap (i+1)) l2 n)) else none) else some (.inr (at_,l2,n)))
def zbr (k:Nat):Nat->Pat->(List Pat)->Option (Ar 10×Bool)
 |0,_,_=>none
 |m+1,p,l=>((zaw k p l k 160 0 [] 0:Option ((Ar 10×Bool) ⊕ (Int×List Pat×Nat))).bind fun o=>kg (fun r=>some r) (fun s_=>(if (s_.2.2:Int)=0 then ((zkq k p).bind fun cy=>some (cy,true)) else ((zhs k p s_.1 0).bind fun bz=>(if s_.2.1.length=s_.2.2 then ((zbr k m bz s_.2.1).bind fun rb=>(if rb.2=true then some (rb.1,true) else ((zhs k p s_.1 1).bind fun b9=>((zbr k m b9 s_.2.1).bind fun rb2=>some (rb2.1,rb2.2))))) else none)))) o)
def zhg (k:Nat) (p:Pat) (l:List Pat):Option (Ar 10×Bool):=zbr k k p l
theorem zk8 (ax:Axs) (hx:NoAx ax) (k:Nat):∀ (m:Nat) (p:Pat) (l:List Pat) (v:Ar 10×Bool) (H:zbr k m p l=some v),Call Try.prog (EE ax) [] 87 [ePat p,lPat l,.ptr 0 0 1] (stL [.cells true 1 [.fn 87 [] [.ptr 0 0 1]]]) (tupT [.agg (v.1.l.map (eo .i64)),.bool v.2]) (stL [.cells true 1 [.fn 87 [] [.ptr 0 0 1]]]):=by
 intro m
 induction m with
 |zero=>intro p l v H;cases H
 |succ m ih =>
  intro p l v H;rw [zbr] at H;refine enB [.cell 5 43,.tmp 6] 65 [0,1,2] (hx.no _ (by decide)) (fn87 ax) ?_;intro h hh;apply ek;refine rk [1,2,3,5] [] hh fun h hh=>?_;apply ek;refine rk [1,2,3,5,7] [] hh fun h hh=>?_;refine vk 7 20 [1,2,3,5,7] hh fun h hh=>?_;apply ek;refine rk [1,2,3,5,7,8] [] hh fun h hh=>?_;repeat apply ek
  refine rk [2,3,5,7,8,15,16,17] [] hh fun h hh=>?_;obtain ⟨o,H1,H⟩:=zae H;refine cu [2,3,5,7,8] 4 (fun h bs=>∃ s_:Int×List Pat×Nat,o=.inr s_/\(h 2=.ptr 0 0 1/\h 3=.ptr 1 0 20/\h 5=.ptr 2 0 10/\h 7=.arr 3 20 0 s_.2.2 s_.2.2 (s_.2.2*20)/\h 8=.int .i64 s_.1)/\bs=[.cells true 1 [.fn 87 [] [.ptr 0 0 1]],.cells true 20 (p.mask.l.map (eo .i64)++(p.bits.l.map (eo .i64))),.cells true 10 ((zA 10).l.map (eo .i64)),.cells false (s_.2.2*20) (vecC ePat s_.2.1)]) ?_ ?_
  .skip;apply gl;refine jk [2,3,5,7,8,15,16,17] (fun m h bs=>∃ (at_:Int) (i:Int) (l2:List Pat) (n:Nat),zaw k p l m at_ i l2 n=some o/\(h 2=.ptr 0 0 1/\h 3=.ptr 1 0 20/\h 5=.ptr 2 0 10/\h 7=.arr 3 20 0 n n (n*20)/\h 8=.int .i64 at_/\h 15=lPat l/\h 16=.int .i64 (l.length:Int)/\h 17=.int .i64 i)/\bs=[.cells true 1 [.fn 87 [] [.ptr 0 0 1]],.cells true 20 (p.mask.l.map (eo .i64)++(p.bits.l.map (eo .i64))),.cells true 10 ((zA 10).l.map (eo .i64)),.cells false (n*20) (vecC ePat l2)]) ?_ k _ _ ?_;rotate_left
   .exact ⟨160,0,[],0,H1,kq hh,rfl⟩
   clear hh h H1;rintro m h bs ⟨at_,i,l2,n,H1,hh,rfl⟩;rcases m with _|m
   .rw [zaw] at H1;cases H1
   rw [zaw] at H1;apply ek;refine rk [2,3,5,7,8,15,16,17,18] [] hh fun h hh=>?_;rcases isp H1 with ⟨c1,H1⟩|⟨c1,H1⟩;rotate_left
   .skip;apply ek;refine cf (f2 hh (zAb c1)) ?_;refine xk ?_;cases H1;exact ce hh ⟨_,rfl,kq hh,rfl⟩
   apply ek;refine ct (f2 hh (zAa c1)) ?_;refine sk ?_;apply ek;apply gl;obtain ⟨g2,H1⟩:=isg H1;apply ek;refine rk [2,3,5,7,8,10,15,16,17] [] (f2 hh (zak g2)) fun h hh=>?_;obtain ⟨ba,e3,H1⟩:=zae H1;repeat apply ek
   refine rkp [2,3,5,7,8,10,15,16,17,24] [] [.bool ba] hh ?_ ?_
   .exact ⟨f5 ((zk1 ax hx k p (gx l i) ba e3 ).call _),trivial⟩
   clear hh h;intro h hh;rcases isb H1 with ⟨c4,H1⟩|⟨c4,H1⟩;rotate_left
   .skip;refine ct (f2 hh c4) ?_;refine xk ?_;refine rk [2,3,5,7,8,15,16,17] [] (f2 hh c4) fun h hh=>?_;exact rd m hh ⟨at_,(ej.wrap (i+1)),l2,n,H1,kq hh,rfl⟩
   refine cf (f2 hh c4) ?_;refine sk ?_;obtain ⟨g5,H1⟩:=isg H1;apply ek;refine rg [] [] [.cells true 1 [.fn 87 [] [.ptr 0 0 1]],.cells true 20 (p.mask.l.map (eo .i64)++(p.bits.l.map (eo .i64))),.cells true 10 ((zA 10).l.map (eo .i64)),.cells false ((n+1)*20) (vecC ePat (l2++[(gx l i)])),.cells true 20 (((gx l i).mask).l.map (eo .i64)++(((gx l i).bits).l.map (eo .i64)))] (fun h=>h 2=.ptr 0 0 1/\h 3=.ptr 1 0 20/\h 5=.ptr 2 0 10/\h 7=.arr 3 20 0 (n+1) (n+1) ((n+1)*20)/\h 8=.int .i64 at_/\h 10=.ptr 4 0 20/\h 15=lPat l/\h 16=.int .i64 (l.length:Int)/\h 17=.int .i64 i) (f3 hh c4 ((show vecC ePat [(gx l i)]=(((gx l i).mask).l.map (eo .i64)++(((gx l i).bits).l.map (eo .i64))) from zh9.trans rfl))) trivial fun h hh=>?_;apply ek;refine rk [2,3,5,7,8,10,11,15,16,17] [] (f2 hh c4) fun h hh=>?_;repeat apply ek
   refine rkp [2,3,5,7,8,11,15,16,17,31] [] [.fn 93 [] [.cp (((gx l i).mask).l.map (eo .i64)++(((gx l i).bits).l.map (eo .i64))),.cp (p.mask.l.map (eo .i64)++(p.bits.l.map (eo .i64)))]] (f2 hh c4) ?_ ?_
   .exact ⟨f5 (je (yas ax hx (gx l i) p) (by first|rfl|simp only [c4])),trivial⟩
   clear hh h;intro h hh;apply gl;obtain ⟨g6,H1⟩:=isg H1;obtain ⟨g7,H1⟩:=isg H1;rcases isr H1 with ⟨c8,H1⟩|⟨x,l3,c8,H1⟩;rotate_left
   .skip;revert h;intro hO hhO;refine rx1 hhO g6 g7 c8 ?_;refine gk [2,3,5,7,8,11,15,16,17,32] hhO ?_;intro h hh;apply ek;refine rk [2,3,5,7,8,11,12,15,16,17] [] (f2 hh c4) fun h hh=>?_;apply gl;apply ek;refine rk [2,3,5,7,8,11,15,16,17] [] (f2 hh c4) fun h hh=>?_;refine xr ?_;clear hh h;revert hO;intro h hh;repeat apply ek
    refine rk [2,3,5,7,8,11,15,16,17,35] [] (f2 hh c4) fun h hh=>?_;rcases isp H1 with ⟨c9,H1⟩|⟨c9,H1⟩;rotate_left
    .skip;refine cf (f2 hh (zAb c9)) ?_;refine sk ?_;refine rk [2,3,5,7,8,15,16,17] [] (f2 hh c4) fun h hh=>?_;refine rk [2,3,5,7,8,15,16,17] [] (f2 hh c4) fun h hh=>?_;exact rd m hh ⟨(min at_ (x:Int)),(ej.wrap (i+1)),(l2++[(gx l i)]),(n+1),H1,kq hh,rfl⟩
    refine ct (f2 hh (zAa c9)) ?_;apply ek;refine rk [5,6] [] (f3 hh c4 (bz43 ax)) fun h hh=>?_;cases H1;obtain rfl:=sinl H;exact rtBc hh
   refine rx0 hh ?_ g6 g7 c8;repeat apply ek
   refine rk [2,3,5,7,8,11,15,16,17,35] [] (f2 hh c4) fun h hh=>?_;rcases isp H1 with ⟨c10,H1⟩|⟨c10,H1⟩;rotate_left
   .skip;refine cf (f2 hh (zAb c10)) ?_;refine sk ?_;refine rk [2,3,5,7,8,15,16,17] [] (f2 hh c4) fun h hh=>?_;refine rk [2,3,5,7,8,15,16,17] [] (f2 hh c4) fun h hh=>?_;exact rd m hh ⟨(min at_ (-1)),(ej.wrap (i+1)),(l2++[(gx l i)]),(n+1),H1,kq hh,rfl⟩
   refine ct (f2 hh (zAa c10)) ?_;apply ek;refine rk [5,6] [] (f3 hh c4 (bz43 ax)) fun h hh=>?_;cases H1;obtain rfl:=sinl H;exact rtBc hh
  clear hh h;rintro h bs ⟨s_,rfl,hh,rfl⟩;replace H:=sinr H;repeat apply ek
  refine rk [2,3,5,7,8,43] [] hh fun h hh=>?_;rcases isp H with ⟨c11,H⟩|⟨c11,H⟩;rotate_left
  .skip;refine cf (f2 hh (zAb c11)) ?_;refine sk ?_;obtain ⟨bz,e13,H⟩:=zae H;obtain ⟨g14,H⟩:=isg H;repeat apply ek
   refine pq 7 (b:=3) (e:=20) (off:=0) (len:=s_.2.2) (cap:=s_.2.2) (M:=(s_.2.2*20)) (s_.2.1.map ePat) (kq hh) (by rfl) (by omega) (by omega) (by rw [ge];exact ze6 (e:=20) (fun x=>zbv x) g14) (fun t ht=>by obtain ⟨x,_,rfl⟩:=i6.1 ht;first|rfl|exact zhj _|exact zbv _|exact zfs _|exact zbi _ | (rw [fc];rfl)) (by rw [fc]<;>exact g14) (by omega) ?_;rw [ze2 _ _ _ (by simp only [lzA]<;>omega)];simp only [scA];refine gk [2,3,5,7,8,43] hh fun h hh=>?_;obtain ⟨rb,e15,H⟩:=zae H;refine dk 4 [2,3,5,7,8,13,14] [ePat bz] [] [(.tup [.agg (rb.1.l.map (eo .i64)),.bool rb.2],stL [.cells true 1 [.fn 87 [] [.ptr 0 0 1]],.cells true 20 (p.mask.l.map (eo .i64)++(p.bits.l.map (eo .i64))),.cells true 10 ((zA 10).l.map (eo .i64)),.gone])] (f2 hh ag74) ?_ ?_ ?_
   .exact ⟨(zp9 ax hx k p s_.1 0 bz e13 ).call _,trivial⟩
   .exact ⟨ca [0] (ih bz s_.2.1 rb e15),trivial⟩
   clear hh h;intro h hh;apply ek;refine rk [2,3,5,7,8,13,55] [] hh fun h hh=>?_;rcases isb H with ⟨c16,H⟩|⟨c16,H⟩;rotate_left
   .skip;refine cf (f2 hh c16) ?_;refine sk ?_;obtain ⟨b9,e17,H⟩:=zae H;obtain ⟨rb2,e18,H⟩:=zae H;apply ek;refine dk 4 [5,6] [ePat b9] [] [(.tup [.agg (rb2.1.l.map (eo .i64)),.bool rb2.2],stL [.cells true 1 [.fn 87 [] [.ptr 0 0 1]],.cells true 20 (p.mask.l.map (eo .i64)++(p.bits.l.map (eo .i64))),.cells true 10 ((zA 10).l.map (eo .i64)),.gone,.cells true 10 (rb.1.l.map (eo .i64))])] (f3 hh c16 ag74) ?_ ?_ ?_
    .exact ⟨je (zp9 ax hx k p s_.1 1 b9 e17 ) (by first|rfl|simp only [c16]),trivial⟩
    .exact ⟨ca [0] (ih b9 s_.2.1 rb2 e18),trivial⟩
    clear hh h;intro h hh;cases H;exact rtBc hh
   refine ct (f2 hh c16) ?_;apply ek;refine rk [5,6] [] (f2 hh c16) fun h hh=>?_;cases H;exact rtBc hh
  refine ct (f2 hh (zAa c11)) ?_;obtain ⟨cy,e12,H⟩:=zae H;apply ek;refine rkc [5,6] [] [(.agg (cy.l.map (eo .i64)),stL [.cells true 1 [.fn 87 [] [.ptr 0 0 1]],.cells true 20 (p.mask.l.map (eo .i64)++(p.bits.l.map (eo .i64))),.cells true 10 ((zA 10).l.map (eo .i64)),.cells false (s_.2.2*20) (vecC ePat s_.2.1)])] hh ?_ ?_
  .exact ⟨f5 ((zt9 ax hx k p cy e12 ).call _),trivial⟩
  clear hh h;intro h hh;cases H;exact rtBc hh
theorem zm1 (ax:Axs) (hx:NoAx ax) (k:Nat) (p:Pat) (l:List Pat) (v:Ar 10×Bool) (H:zhg k p l=some v):Call Try.prog (EE ax) [] 87 [ePat p,lPat l,.ptr 0 0 1] (stL [.cells true 1 [.fn 87 [] [.ptr 0 0 1]]]) (tupT [.agg (v.1.l.map (eo .i64)),.bool v.2]) (stL [.cells true 1 [.fn 87 [] [.ptr 0 0 1]]]):=zk8 ax hx k k p l v H
def zeo (k:Nat) (p:Pat) (l:List Pat):Option (Ar 10×Bool):=((zhg k p l).bind fun rb=>some (rb.1,rb.2))
theorem zk2 (ax:Axs) (hx:NoAx ax) (k:Nat) (p:Pat) (l:List Pat) (v:Ar 10×Bool) (H:zeo k p l=some v):Pure Try.prog (EE ax) [] 78 [ePat p,lPat l] (tupT [.agg (v.1.l.map (eo .i64)),.bool v.2]):=by
 rw [zeo] at H;refine enN [.cell 4 43,.tmp 5] 14 [0,1] (hx.no _ (by decide)) (fn78 ax) ?_;intro h hh;apply ek;refine rk [1,2,4] [] hh fun h hh=>?_;apply ek;refine rk [1,2,4,6] [] (f2 hh ag74) fun h hh=>?_;apply ek;refine rk [1,2,4,6] [] (f2 hh ag74) fun h hh=>?_;obtain ⟨rb,e1,H⟩:=zae H;apply ek;refine rkc [4,5] [] [(.tup [.agg (rb.1.l.map (eo .i64)),.bool rb.2],stL [.cells true 20 (p.mask.l.map (eo .i64)++(p.bits.l.map (eo .i64))),.cells true 10 ((zA 10).l.map (eo .i64)),.cells true 1 [.fn 87 [] [.ptr 2 0 1]]])] (f2 hh ag74) ?_ ?_
 .exact ⟨ca [2] (zm1 ax hx k p l rb e1),trivial⟩
 clear hh h;intro h hh;cases H;exact rtc hh
def zf2 (k:Nat) (x:Int):Option Bool:=some (decide (x≠x))
theorem zj7 (ax:Axs) (hx:NoAx ax) (k:Nat) (x:Int) (v:Bool) (H:zf2 k x=some v):Pure Try.prog (EE ax) [] 96 [.int .i64 x] (.bool v):=by
 rw [zf2] at H;refine en [.tmp 2] 6 [0] (hx.no _ (by decide)) (fn96 ax) ?_;intro h hh;apply ek;refine rk [0] [] hh fun h hh=>?_;apply ek;refine rk [2] [] hh fun h hh=>?_;cases H;exact rt hh
def zeu (k:Nat) (x:Int) (y:Int):Option Int:=((zf2 k x).bind fun ar=>((zf2 k y).bind fun cb=>(if ar=true then (if cb=true then some 0 else some (-1)) else (if cb=true then some 1 else (if x<y then some (-1) else (if y<x then some 1 else some 0))))))
theorem znh (ax:Axs) (hx:NoAx ax) (k:Nat) (x:Int) (y:Int) (v:Int) (H:zeu k x y=some v):Pure Try.prog (EE ax) [] 92 [.int .i64 x,.int .i64 y] (.int .i64 v):=by
 rw [zeu] at H;refine en [.tmp 4] 20 [0,1] (hx.no _ (by decide)) (fn92 ax) ?_;intro h hh;apply ek;refine rk [0,1] [] hh fun h hh=>?_;obtain ⟨ar,e1,H⟩:=zae H;apply ek;refine rkp [0,1,5] [] [.bool ar] hh ?_ ?_
 .exact ⟨f5 ((zj7 ax hx k x ar e1 ).call _),trivial⟩
 clear hh h;intro h hh;obtain ⟨cb,e2,H⟩:=zae H;apply ek;refine rkp [0,1,5,6] [] [.bool cb] hh ?_ ?_
 .exact ⟨f5 ((zj7 ax hx k y cb e2 ).call _),trivial⟩
 clear hh h;intro h hh;repeat apply ek
 refine rk [0,1,6,11] [] hh fun h hh=>?_;rcases isb H with ⟨c3,H⟩|⟨c3,H⟩;rotate_left
 .skip;refine cf (f2 hh c3) ?_;refine sk ?_;repeat apply ek
  refine rk [0,1,13] [] (f2 hh c3) fun h hh=>?_;rcases isb H with ⟨c5,H⟩|⟨c5,H⟩;rotate_left
  .skip;refine cf (f2 hh c5) ?_;refine sk ?_;repeat apply ek
   refine rk [0,1,16] [] (f3 hh c3 c5) fun h hh=>?_;rcases isp H with ⟨c6,H⟩|⟨c6,H⟩;rotate_left
   .skip;refine cf (f2 hh (zAb c6)) ?_;refine sk ?_;repeat apply ek
    refine rk [19] [] (f3 hh c3 c5) fun h hh=>?_;rcases isp H with ⟨c7,H⟩|⟨c7,H⟩;rotate_left
    .skip;refine cf (f2 hh (zAb c7)) ?_;refine sk ?_;apply ek;refine rk [4] [] (f3 hh c3 c5) fun h hh=>?_;cases H;exact rt hh
    refine ct (f2 hh (zAa c7)) ?_;apply ek;refine rk [4] [] (f3 hh c3 c5) fun h hh=>?_;cases H;exact rt hh
   refine ct (f2 hh (zAa c6)) ?_;apply ek;refine rk [4] [] (f3 hh c3 c5) fun h hh=>?_;cases H;exact rt hh
  refine ct (f2 hh c5) ?_;apply ek;refine rk [4] [] (f3 hh c3 c5) fun h hh=>?_;cases H;exact rt hh
 refine ct (f2 hh c3) ?_;repeat apply ek
 refine rk [12] [] (f2 hh c3) fun h hh=>?_;rcases isb H with ⟨c4,H⟩|⟨c4,H⟩;rotate_left
 .skip;refine cf (f2 hh c4) ?_;refine sk ?_;apply ek;refine rk [4] [] (f3 hh c3 c4) fun h hh=>?_;cases H;exact rt hh
 refine ct (f2 hh c4) ?_;apply ek;refine rk [4] [] (f3 hh c3 c4) fun h hh=>?_;cases H;exact rt hh
def za9 (k:Nat) (s1:List Int) (s2:List Int):Nat->Int->Option (Int ⊕ Unit)
 |0,_=>none
 |m+1,i=>(if i<(s1.length:Int) then (if 0<=i/\i<(s1.length:Int) then (if (s2.length:Int)<=i then some (.inl 1) else (if 0<=i/\i<(s2.length:Int) then ((zeu k (gx s1 i) (gx s2 i)).bind fun ar=>(if ar≠0 then some (.inl ar) else za9 k s1 s2 m (ej.wrap (i+1)))) else none)) else none) else some (.inr ()))
def zee (k:Nat) (s1:List Int) (s2:List Int):Option Int:=((za9 k s1 s2 k 0:Option (Int ⊕ Unit)).bind fun o=>kg (fun r=>some r) (fun s_=>(if (s1.length:Int)<(s2.length:Int) then some (-1) else some 0)) o)
theorem zk7 (ax:Axs) (hx:NoAx ax) (k:Nat) (s1:List Int) (s2:List Int) (v:Int) (H:zee k s1 s2=some v):Pure Try.prog (EE ax) [] 86 [ints s1,ints s2] (.int .i64 v):=by
 rw [zee] at H;refine en [.tmp 4] 36 [0,1] (hx.no _ (by decide)) (fn86 ax) ?_;intro h hh;apply ek;refine rk [0,1] [] hh fun h hh=>?_;repeat apply ek
 refine rk [0,1,9,10,11] [] hh fun h hh=>?_;obtain ⟨o,H1,H⟩:=zae H;refine cu [0,1] 0 (fun h bs=>∃ s_:Unit,o=.inr s_/\(h 0=ints s1/\h 1=ints s2)/\bs=[]) ?_ ?_
 .skip;apply gl;refine jk [0,1,9,10,11] (fun m h bs=>∃ (i:Int),za9 k s1 s2 m i=some o/\(h 0=ints s1/\h 1=ints s2/\h 9=ints s1/\h 10=.int .i64 (s1.length:Int)/\h 11=.int .i64 i)/\bs=[]) ?_ k _ _ ?_;rotate_left
  .exact ⟨0,H1,kq hh,rfl⟩
  clear hh h H1;rintro m h bs ⟨i,H1,hh,rfl⟩;rcases m with _|m
  .rw [za9] at H1;cases H1
  rw [za9] at H1;apply ek;refine rk [0,1,9,10,11,12] [] hh fun h hh=>?_;rcases isp H1 with ⟨c1,H1⟩|⟨c1,H1⟩;rotate_left
  .skip;apply ek;refine cf (f2 hh (zAb c1)) ?_;refine xk ?_;cases H1;exact ce hh ⟨_,rfl,kq hh,rfl⟩
  apply ek;refine ct (f2 hh (zAa c1)) ?_;refine sk ?_;apply ek;apply gl;obtain ⟨g2,H1⟩:=isg H1;apply ek;refine rk [0,1,5,6,9,10,11] [] (f2 hh (zak g2)) fun h hh=>?_;repeat apply ek
  refine rk [0,1,5,6,9,10,11,19] [] hh fun h hh=>?_;rcases isp H1 with ⟨c3,H1⟩|⟨c3,H1⟩;rotate_left
  .skip;refine cf (f2 hh (zAb c3)) ?_;refine sk ?_;obtain ⟨g4,H1⟩:=isg H1;apply ek;refine rk [0,1,6,7,9,10,11] [] (f2 hh (zak g4)) fun h hh=>?_;obtain ⟨ar,e5,H1⟩:=zae H1;apply ek;refine rkp [0,1,8,9,10,11] [] [.int .i64 ar] hh ?_ ?_
   .exact ⟨f5 ((znh ax hx k (gx s1 i) (gx s2 i) ar e5 ).call _),trivial⟩
   clear hh h;intro h hh;apply ek;refine rk [0,1,8,9,10,11,28] [] hh fun h hh=>?_;rcases isp H1 with ⟨c6,H1⟩|⟨c6,H1⟩;rotate_left
   .skip;refine cf (f2 hh (zAb c6)) ?_;refine sk ?_;refine rk [0,1,9,10,11] [] hh fun h hh=>?_;exact rd m hh ⟨(ej.wrap (i+1)),H1,kq hh,rfl⟩
   refine ct (f2 hh (zAa c6)) ?_;apply ek;refine rk [4] [] hh fun h hh=>?_;cases H1;obtain rfl:=sinl H;exact rt hh
  refine ct (f2 hh (zAa c3)) ?_;apply ek;refine rk [4] [] hh fun h hh=>?_;cases H1;obtain rfl:=sinl H;exact rt hh
 clear hh h;rintro h bs ⟨s_,rfl,hh,rfl⟩;replace H:=sinr H;repeat apply ek
 refine rk [35] [] hh fun h hh=>?_;rcases isp H with ⟨c7,H⟩|⟨c7,H⟩;rotate_left
 .skip;refine cf (f2 hh (zAb c7)) ?_;refine sk ?_;apply ek;refine rk [4] [] hh fun h hh=>?_;cases H;exact rt hh
 refine ct (f2 hh (zAa c7)) ?_;apply ek;refine rk [4] [] hh fun h hh=>?_;cases H;exact rt hh
def zdk (k:Nat) (a:Ar 10) (b:Ar 10):Option Int:=((zee k a.l b.l).bind fun ar=>some ar)
theorem zlk (ax:Axs) (hx:NoAx ax) (k:Nat) (a:Ar 10) (b:Ar 10) (v:Int) (H:zdk k a b=some v):Pure Try.prog (EE ax) [] 76 [.agg (a.l.map (eo .i64)),.agg (b.l.map (eo .i64))] (.int .i64 v):=by
 rw [zdk] at H;refine en [.tmp 4] 8 [0,1] (hx.no _ (by decide)) (fn76 ax) ?_;intro h hh;apply ek;refine rk [2,3] [] hh fun h hh=>?_;obtain ⟨ar,e1,H⟩:=zae H;apply ek;refine dk 0 [4] [] [] [(.int .i64 ar,stL [.cells true 10 (a.l.map (eo .i64)),.cells true 10 (b.l.map (eo .i64))])] hh trivial ?_ ?_
 .exact ⟨(by have q:=f5 (Pure.lend (S:=stL [.cells true 10 (a.l.map (eo .i64)),.cells true 10 (b.l.map (eo .i64))]) (args:=[.arr 0 1 0 10 10 10,.arr 1 1 0 10 10 10]) (zk7 ax hx k a.l b.l ar e1 ) (eh (z5e (fun _=>rfl) (by rfl) (Ar.len a)) (eh (z5e (fun _=>rfl) (by rfl) (Ar.len b)) (trivial))) rfl);exact q),trivial⟩
 clear hh h;intro h hh;cases H;exact rt hh
def za8 (k:Nat) (t:List Rule) (k_:Int):Nat->Int->(List Pat)->Option (List Pat)
 |0,_,_=>none
 |m+1,i,l=>(if i<(k_.toNat:Int) then (if 0<=i/\i<(t.length:Int) then (if 0<=i/\i<(k_.toNat:Int) then (if i.toNat<l.length then za8 k t k_ m (ej.wrap (i+1)) (l.set i.toNat ((gx t i).mat)) else none) else none) else none) else some l)
def zc6 (k:Nat) (t:List Rule) (k_:Int):Option (List Pat):=(if 0<=k_/\k_.toNat*161<=1000000000 then ((za8 k t k_ k 0 (fl k_.toNat (⟨zA 10,zA 10⟩:Pat)):Option (List Pat)).bind fun s_=>(if s_.length=k_.toNat then some s_ else none)) else none)
theorem zg4 (ax:Axs) (hx:NoAx ax) (k:Nat) (t:List Rule) (k_:Int) (v:List Pat) (H:zc6 k t k_=some v):Pure Try.prog (EE ax) [] 77 [zah t,.int .i64 k_] (lPat v):=by
 rw [zc6] at H;refine en [.tmp 4] 24 [0,1] (hx.no _ (by decide)) (fn77 ax) ?_;intro h hh;apply ek;refine rk [0,1] [] hh fun h hh=>?_;obtain ⟨g1,H⟩:=isg H;apply ek;refine rk [0,5] [] (f3 hh (z4p (k_.toNat)) ((show (vecC ePat (fl k_.toNat (⟨zA 10,zA 10⟩:Pat))).length=k_.toNat*20 from by rw [zdi (fun x=>zbv x),kh]))) fun h hh=>?_;repeat apply ek
 refine rk [0,5,10,11] [] hh fun h hh=>?_;obtain ⟨s_,H1,H⟩:=zae H;refine cu [5] 1 (fun h bs=>(h 5=.arr 0 20 0 k_.toNat k_.toNat (k_.toNat*20))/\bs=[.cells true (k_.toNat*20) (vecC ePat s_)]) ?_ ?_
 .skip;apply gl;refine jk [0,5,10,11] (fun m h bs=>∃ (i:Int) (l:List Pat),za8 k t k_ m i l=some s_/\(h 0=zah t/\h 5=.arr 0 20 0 k_.toNat k_.toNat (k_.toNat*20)/\h 10=.int .i64 (k_.toNat:Int)/\h 11=.int .i64 i)/\bs=[.cells true (k_.toNat*20) (vecC ePat l)]) ?_ k _ _ ?_;rotate_left
  .exact ⟨0,(fl k_.toNat (⟨zA 10,zA 10⟩:Pat)),H1,kq hh,rfl⟩
  clear hh h H1;rintro m h bs ⟨i,l,H1,hh,rfl⟩;rcases m with _|m
  .rw [za8] at H1;cases H1
  rw [za8] at H1;apply ek;refine rk [0,5,10,11,12] [] hh fun h hh=>?_;rcases isp H1 with ⟨c2,H1⟩|⟨c2,H1⟩;rotate_left
  .skip;apply ek;refine cf (f2 hh (zAb c2)) ?_;refine xk ?_;cases H1;exact ce hh ⟨kq hh,rfl⟩
  apply ek;refine ct (f2 hh (zAa c2)) ?_;refine sk ?_;apply ek;apply gl;apply ek;refine rk [0,5,6,10,11] [] hh fun h hh=>?_;obtain ⟨g3,H1⟩:=isg H1;obtain ⟨g4,H1⟩:=isg H1;obtain ⟨g5,H1⟩:=isg H1;refine rk [0,5,10,11] [] (f3 hh (zak g3) (show spl (vecC ePat l) (i.toNat*20) ((((gx t i).mat).mask).l.map (eo .i64)++((((gx t i).mat).bits).l.map (eo .i64)))=_ from zw2 ePat 20 ((gx t i).mat) (fun x=>zbv x) g5)) fun h hh=>?_;refine rk [0,5,10,11] [] hh fun h hh=>?_;exact rd m hh ⟨(ej.wrap (i+1)),(l.set i.toNat ((gx t i).mat)),H1,kq hh,rfl⟩
 clear hh h;rintro h bs ⟨hh,rfl⟩;apply ek;refine rk [4] [] hh fun h hh=>?_;obtain ⟨g6,H⟩:=isg H;refine pq 4 (b:=0) (e:=20) (off:=0) (len:=k_.toNat) (cap:=k_.toNat) (M:=(k_.toNat*20)) (s_.map ePat) (kq hh) (by rfl) (by omega) (by omega) (by rw [ge];exact ze6 (fun x=>zbv x) g6) (fun t ht=>by obtain ⟨x,_,rfl⟩:=i6.1 ht;first|rfl|exact zhj _|exact zbv _|exact zfs _|exact zbi _ | (rw [fc];rfl)) (by rw [fc]<;>exact g6) (by omega) ?_;rw [ze2 _ _ _ (by simp only [lzA]<;>omega)];simp only [scA];refine gk [4] hh fun h hh=>?_;cases H;exact rt hh
def za0 (k:Nat) (t:List Rule) (k_:Int):Nat->Int->(List Pat)->Option (List Pat)
 |0,_,_=>none
 |m+1,i,l=>(if i<(k_.toNat:Int) then (if 0<=i/\i<(t.length:Int) then (if 0<=i/\i<(k_.toNat:Int) then (if i.toNat<l.length then za0 k t k_ m (ej.wrap (i+1)) (l.set i.toNat ((gx t i).mat)) else none) else none) else none) else some l)
def zcr (k:Nat) (t:List Rule) (k_:Int):Option (List Pat×Nat):=(if 0<=k_/\k_.toNat*161<=1000000000 then ((za0 k t k_ k 0 (fl k_.toNat (⟨zA 10,zA 10⟩:Pat)):Option (List Pat)).bind fun s_=>some (s_,k_.toNat)) else none)
theorem zgg (ax:Axs) (hx:NoAx ax) (k:Nat) (t:List Rule) (k_:Int) (v:List Pat×Nat) (H:zcr k t k_=some v):Call Try.prog (EE ax) [] 77 [zah t,.int .i64 k_] (stL []) (tupT [.arr 0 20 0 v.2 v.2 (v.2*20)]) (stL [.cells false (v.2*20) (vecC ePat v.1)]):=by
 rw [zcr] at H;refine enBr [.tmp 4] 24 [0,1] (hx.no _ (by decide)) (fn77 ax) ?_;intro h hh;apply ek;refine rk [0,1] [] hh fun h hh=>?_;obtain ⟨g1,H⟩:=isg H;apply ek;refine rk [0,5] [] (f3 hh (z4p (k_.toNat)) ((show (vecC ePat (fl k_.toNat (⟨zA 10,zA 10⟩:Pat))).length=k_.toNat*20 from by rw [zdi (fun x=>zbv x),kh]))) fun h hh=>?_;repeat apply ek
 refine rk [0,5,10,11] [] hh fun h hh=>?_;obtain ⟨s_,H1,H⟩:=zae H;refine cu [5] 1 (fun h bs=>(h 5=.arr 0 20 0 k_.toNat k_.toNat (k_.toNat*20))/\bs=[.cells true (k_.toNat*20) (vecC ePat s_)]) ?_ ?_
 .skip;apply gl;refine jk [0,5,10,11] (fun m h bs=>∃ (i:Int) (l:List Pat),za0 k t k_ m i l=some s_/\(h 0=zah t/\h 5=.arr 0 20 0 k_.toNat k_.toNat (k_.toNat*20)/\h 10=.int .i64 (k_.toNat:Int)/\h 11=.int .i64 i)/\bs=[.cells true (k_.toNat*20) (vecC ePat l)]) ?_ k _ _ ?_;rotate_left
  .exact ⟨0,(fl k_.toNat (⟨zA 10,zA 10⟩:Pat)),H1,kq hh,rfl⟩
  clear hh h H1;rintro m h bs ⟨i,l,H1,hh,rfl⟩;rcases m with _|m
  .rw [za0] at H1;cases H1
  rw [za0] at H1;apply ek;refine rk [0,5,10,11,12] [] hh fun h hh=>?_;rcases isp H1 with ⟨c2,H1⟩|⟨c2,H1⟩;rotate_left
  .skip;apply ek;refine cf (f2 hh (zAb c2)) ?_;refine xk ?_;cases H1;exact ce hh ⟨kq hh,rfl⟩
  apply ek;refine ct (f2 hh (zAa c2)) ?_;refine sk ?_;apply ek;apply gl;apply ek;refine rk [0,5,6,10,11] [] hh fun h hh=>?_;obtain ⟨g3,H1⟩:=isg H1;obtain ⟨g4,H1⟩:=isg H1;obtain ⟨g5,H1⟩:=isg H1;refine rk [0,5,10,11] [] (f3 hh (zak g3) (show spl (vecC ePat l) (i.toNat*20) ((((gx t i).mat).mask).l.map (eo .i64)++((((gx t i).mat).bits).l.map (eo .i64)))=_ from zw2 ePat 20 ((gx t i).mat) (fun x=>zbv x) g5)) fun h hh=>?_;refine rk [0,5,10,11] [] hh fun h hh=>?_;exact rd m hh ⟨(ej.wrap (i+1)),(l.set i.toNat ((gx t i).mat)),H1,kq hh,rfl⟩
 clear hh h;rintro h bs ⟨hh,rfl⟩;apply ek;refine rk [4] [] hh fun h hh=>?_;refine uz 0 ?_;cases H;exact rtB hh
def zet (k:Nat) (h_:Ar 10) (x0:Bool) (x1:Ar 10):Option (Bool×Ar 10):=(if x0=true then ((zdk k h_ x1).bind fun bu=>(if bu<0 then some (true,h_) else some (true,x1))) else some (true,h_))
theorem znc (ax:Axs) (hx:NoAx ax) (k:Nat) (h_:Ar 10) (x0:Bool) (x1:Ar 10) (v:Bool×Ar 10) (H:zet k h_ x0 x1=some v):Call Try.prog (EE ax) [] 75 [.agg (h_.l.map (eo .i64)),.ptr 0 0 1,.ptr 1 0 10] (stL [.cells true 1 [.bool x0],.cells true 10 (x1.l.map (eo .i64))]) (tupT []) (stL [.cells true 1 [.bool v.1],.cells true 10 (v.2.l.map (eo .i64))]):=by
 rw [zet] at H;refine enB [] 13 [0,1,2] (hx.no _ (by decide)) (fn75 ax) ?_;intro h hh;apply ek;refine rk [1,2,3] [] hh fun h hh=>?_;rcases isb H with ⟨c1,H⟩|⟨c1,H⟩;rotate_left
 .skip;apply ek;refine rk [1,2,3,11] [] (f2 hh c1) fun h hh=>?_;refine ct hh ?_;refine rk [] [] (f2 hh c1) fun h hh=>?_;cases H;exact rnB hh
 obtain ⟨bu,e2,H⟩:=zae H;apply ek;refine rkc [1,2,3,11] [] [(.int .i64 bu,stL [.cells true 1 [.bool x0],.cells true 10 (x1.l.map (eo .i64)),.cells true 10 (h_.l.map (eo .i64))])] (f2 hh c1) ?_ ?_
 .exact ⟨f5 (je (zlk ax hx k h_ x1 bu e2 ) (by first|rfl|simp only [c1])),trivial⟩
 clear hh h;intro h hh;rcases isp H with ⟨c3,H⟩|⟨c3,H⟩;rotate_left
 .skip;refine cf (f2 hh (zAb c3)) ?_;refine sk ?_;cases H;exact rnB hh
 refine ct (f2 hh (zAa c3)) ?_;refine rk [] [] (f2 hh c1) fun h hh=>?_;cases H;exact rnB hh
def zbd (k:Nat) (t:List Rule) (u:List Rule) (i:Int):Nat->Int->(Ar 10)->Bool->Option (Ar 10×Bool)
 |0,_,_,_=>none
 |m+1,i2,x3,x4=>(if i2<((u++[(⟨0,⟨zA 10,zA 10⟩,-1,[]⟩:Rule)]).length:Int) then (if 0<=i2/\i2<((u++[(⟨0,⟨zA 10,zA 10⟩,-1,[]⟩:Rule)]).length:Int) then ((zgh k (⟨(gx (t++[(⟨0,⟨zA 10,zA 10⟩,-1,[]⟩:Rule)]) i).prio,((gx (t++[(⟨0,⟨zA 10,zA 10⟩,-1,[]⟩:Rule)]) i).mat),(gx (t++[(⟨0,⟨zA 10,zA 10⟩,-1,[]⟩:Rule)]) i).step,(gx (t++[(⟨0,⟨zA 10,zA 10⟩,-1,[]⟩:Rule)]) i).outs⟩:Rule) (⟨(gx (u++[(⟨0,⟨zA 10,zA 10⟩,-1,[]⟩:Rule)]) i2).prio,((gx (u++[(⟨0,⟨zA 10,zA 10⟩,-1,[]⟩:Rule)]) i2).mat),(gx (u++[(⟨0,⟨zA 10,zA 10⟩,-1,[]⟩:Rule)]) i2).step,(gx (u++[(⟨0,⟨zA 10,zA 10⟩,-1,[]⟩:Rule)]) i2).outs⟩:Rule)).bind fun aw=>(if aw=true then zbd k t u i m (ej.wrap (i2+1)) x3 x4 else ((zht k ((gx (t++[(⟨0,⟨zA 10,zA 10⟩,-1,[]⟩:Rule)]) i).mat) ((gx (u++[(⟨0,⟨zA 10,zA 10⟩,-1,[]⟩:Rule)]) i2).mat)).bind fun ah=>(if ah.2=true then ((((zcr k (t++[(⟨0,⟨zA 10,zA 10⟩,-1,[]⟩:Rule)]) i).bind fun rb=>((zc6 k (u++[(⟨0,⟨zA 10,zA 10⟩,-1,[]⟩:Rule)]) i2).bind fun ac=>(if (rb.2+ac.length)*161<=1000000000 then (if ac.length=0 then (if rb.1.length=rb.2 then ((zeo k ah.1 rb.1).bind fun bc=>some (bc.2,rb.1,rb.2,bc.1)) else none) else (if (rb.1++ac).length=rb.2+ac.length then ((zeo k ah.1 (rb.1++ac)).bind fun bk=>some (bk.2,rb.1++ac,rb.2+ac.length,bk.1)) else none)) else none))):Option (Bool×List Pat×Nat×Ar 10)).bind fun s_4=>(if s_4.1=true then ((zet k s_4.2.2.2 x4 x3).bind fun rb2=>zbd k t u i m (ej.wrap (i2+1)) rb2.2 rb2.1) else zbd k t u i m (ej.wrap (i2+1)) x3 x4)) else zbd k t u i m (ej.wrap (i2+1)) x3 x4)))) else none) else some (x3,x4))
def zcs (k:Nat) (t:List Rule) (u:List Rule):Nat->Int->(Ar 10)->Bool->Option (Ar 10×Bool)
 |0,_,_,_=>none
 |m+1,i,x,x2=>(if i<((t++[(⟨0,⟨zA 10,zA 10⟩,-1,[]⟩:Rule)]).length:Int) then (((if 0<=i/\i<((t++[(⟨0,⟨zA 10,zA 10⟩,-1,[]⟩:Rule)]).length:Int) then ((zbd k t u i k 0 x x2:Option (Ar 10×Bool)).bind fun s_3=>some (s_3.1,s_3.2)) else none):Option (Ar 10×Bool)).bind fun s_2=>zcs k t u m (ej.wrap (i+1)) s_2.1 s_2.2) else some (x,x2))
def zgi (k:Nat) (t:List Rule) (u:List Rule):Option (Ar 10×Bool):=(if t.length*201<=1000000000 then (if (t.length+1)*201<=1000000000 then (if u.length*201<=1000000000 then (if (u.length+1)*201<=1000000000 then (if (t++[(⟨0,⟨zA 10,zA 10⟩,-1,[]⟩:Rule)]).length=t.length+1 then (if (u++[(⟨0,⟨zA 10,zA 10⟩,-1,[]⟩:Rule)]).length=u.length+1 then ((zcs k t u k 0 (zA 10) false:Option (Ar 10×Bool)).bind fun s_=>some (s_.1,(!s_.2))) else none) else none) else none) else none) else none) else none)
theorem zrw (ax:Axs) (hx:NoAx ax) (k:Nat) (t:List Rule) (u:List Rule) (v:Ar 10×Bool) (H:zgi k t u=some v):Pure Try.prog (EE ax) [] 60 [zah t,zah u] (tupT [.agg (v.1.l.map (eo .i64)),.bool v.2]):=by
 rw [zgi] at H;refine enN [.cell 4 43,.tmp 5] 85 [0,1] (hx.no _ (by decide)) (fn60 ax) ?_;intro h hh;apply ek;refine rk [0,1,4] [] hh fun h hh=>?_;apply ek;refine rk [0,1,4,6] [] hh fun h hh=>?_;refine nz 1 22 1 ?_;refine zk 6 1 23 true (eo .i64 0 :: ((zA 10).l.map (eo .i64)++((zA 10).l.map (eo .i64)++[eo .i64 (-1),zbs []]))) [0,1,4,6] hh fun h hh=>?_;obtain ⟨g1,H⟩:=isg H;obtain ⟨g2,H⟩:=isg H;obtain ⟨g3,H⟩:=isg H;obtain ⟨g4,H⟩:=isg H;apply ek;refine dcg 1 [6] [] [] [(.arr 2 23 0 t.length t.length (t.length*23),stL [.cells true 10 ((zA 10).l.map (eo .i64)),.gone,.cells false (t.length*23) (vecC zao t)]),(.arr 3 23 0 u.length u.length (u.length*23),stL [.cells true 10 ((zA 10).l.map (eo .i64)),.gone,.cells false ((t.length+1)*23) (vecC zao (t++[(⟨0,⟨zA 10,zA 10⟩,-1,[]⟩:Rule)])),.cells false (u.length*23) (vecC zao u)])] [.cells true 10 ((zA 10).l.map (eo .i64)),.gone,.cells false ((t.length+1)*23) (vecC zao (t++[(⟨0,⟨zA 10,zA 10⟩,-1,[]⟩:Rule)])),.cells false ((u.length+1)*23) (vecC zao (u++[(⟨0,⟨zA 10,zA 10⟩,-1,[]⟩:Rule)]))] (fun h=>h 4=.ptr 0 0 10/\h 7=.arr 2 23 0 (t.length+1) (t.length+1) ((t.length+1)*23)/\h 8=.arr 3 23 0 (u.length+1) (u.length+1) ((u.length+1)*23)) (f2 hh ((show vecC zao [(⟨0,⟨zA 10,zA 10⟩,-1,[]⟩:Rule)]=(eo .i64 ((⟨0,⟨zA 10,zA 10⟩,-1,[]⟩:Rule).prio) :: ((((⟨0,⟨zA 10,zA 10⟩,-1,[]⟩:Rule).mat).mask).l.map (eo .i64)++((((⟨0,⟨zA 10,zA 10⟩,-1,[]⟩:Rule).mat).bits).l.map (eo .i64)++[eo .i64 ((⟨0,⟨zA 10,zA 10⟩,-1,[]⟩:Rule).step),zbs ((⟨0,⟨zA 10,zA 10⟩,-1,[]⟩:Rule).outs)]))) from zh9.trans rfl))) trivial ?_ ?_
 .exact ⟨(by have q:=qs (zj8 ax hx t g1) (by simp only [zbj,idsA,idsB,fm]) (by simp only [zbj,idsA,idsB,fm]) [.cells true 10 ((zA 10).l.map (eo .i64)),.gone];first|exact q | (simp only [i8,mq,zay,(show vecC zao [(⟨0,⟨zA 10,zA 10⟩,-1,[]⟩:Rule)]=(eo .i64 ((⟨0,⟨zA 10,zA 10⟩,-1,[]⟩:Rule).prio) :: ((((⟨0,⟨zA 10,zA 10⟩,-1,[]⟩:Rule).mat).mask).l.map (eo .i64)++((((⟨0,⟨zA 10,zA 10⟩,-1,[]⟩:Rule).mat).bits).l.map (eo .i64)++[eo .i64 ((⟨0,⟨zA 10,zA 10⟩,-1,[]⟩:Rule).step),zbs ((⟨0,⟨zA 10,zA 10⟩,-1,[]⟩:Rule).outs)]))) from zh9.trans rfl)] at q ⊢;exact q)),(by have q:=qs (zj8 ax hx u g3) (by simp only [zbj,idsA,idsB,fm]) (by simp only [zbj,idsA,idsB,fm]) [.cells true 10 ((zA 10).l.map (eo .i64)),.gone,.cells false ((t.length+1)*23) (vecC zao (t++[(⟨0,⟨zA 10,zA 10⟩,-1,[]⟩:Rule)]))];first|exact q | (simp only [i8,mq,zay,(show vecC zao [(⟨0,⟨zA 10,zA 10⟩,-1,[]⟩:Rule)]=(eo .i64 ((⟨0,⟨zA 10,zA 10⟩,-1,[]⟩:Rule).prio) :: ((((⟨0,⟨zA 10,zA 10⟩,-1,[]⟩:Rule).mat).mask).l.map (eo .i64)++((((⟨0,⟨zA 10,zA 10⟩,-1,[]⟩:Rule).mat).bits).l.map (eo .i64)++[eo .i64 ((⟨0,⟨zA 10,zA 10⟩,-1,[]⟩:Rule).step),zbs ((⟨0,⟨zA 10,zA 10⟩,-1,[]⟩:Rule).outs)]))) from zh9.trans rfl)] at q ⊢;exact q)),trivial⟩
 clear hh h;intro h hh;obtain ⟨g5,H⟩:=isg H;apply ek;refine pq 7 (b:=2) (e:=23) (off:=0) (len:=(t.length+1)) (cap:=(t.length+1)) (M:=((t.length+1)*23)) ((t++[(⟨0,⟨zA 10,zA 10⟩,-1,[]⟩:Rule)]).map zao) (kq hh) (by rfl) (by omega) (by omega) (by rw [ge];exact ze6 (e:=23) (fun x=>zbi x) g5) (fun t ht=>by obtain ⟨x,_,rfl⟩:=i6.1 ht;first|rfl|exact zhj _|exact zbv _|exact zfs _|exact zbi _ | (rw [fc];rfl)) (by rw [fc]<;>exact g5) (by omega) ?_;rw [ze2 _ _ _ (by simp only [lzA]<;>omega)];simp only [scA];refine gk [4,7,8] hh fun h hh=>?_;obtain ⟨g6,H⟩:=isg H;refine pq 8 (b:=3) (e:=23) (off:=0) (len:=(u.length+1)) (cap:=(u.length+1)) (M:=((u.length+1)*23)) ((u++[(⟨0,⟨zA 10,zA 10⟩,-1,[]⟩:Rule)]).map zao) (kq hh) (by rfl) (by omega) (by omega) (by rw [ge];exact ze6 (e:=23) (fun x=>zbi x) g6) (fun t ht=>by obtain ⟨x,_,rfl⟩:=i6.1 ht;first|rfl|exact zhj _|exact zbv _|exact zfs _|exact zbi _ | (rw [fc];rfl)) (by rw [fc]<;>exact g6) (by omega) ?_;rw [ze2 _ _ _ (by simp only [lzA]<;>omega)];simp only [scA];refine gk [4,7,8] hh fun h hh=>?_;refine rk [4,7,8,9] [] hh fun h hh=>?_;apply ek;refine rk [4,7,8,9,10] [] hh fun h hh=>?_;apply ek;refine rk [4,7,8,9,10,11] [] hh fun h hh=>?_;apply ek;refine rk [4,7,8,9,10,11,12,13] [] hh fun h hh=>?_;repeat apply ek
 refine rk [4,8,9,10,11,12,13,38,39,40] [] hh fun h hh=>?_;obtain ⟨s_,H1,H⟩:=zae H;refine cu [4,9,10] 6 (fun h bs=>(h 4=.ptr 0 0 10/\h 9=.ptr 4 0 10/\h 10=.ptr 5 0 1)/\bs=[.cells true 10 ((zA 10).l.map (eo .i64)),.gone,.gone,.gone,.cells true 10 (s_.1.l.map (eo .i64)),.cells true 1 [.bool s_.2]]) ?_ ?_
 .skip;apply gl;refine jk [4,8,9,10,11,12,13,38,39,40] (fun m h bs=>∃ (i:Int) (x:Ar 10) (x2:Bool),zcs k t u m i x x2=some s_/\(h 4=.ptr 0 0 10/\h 8=zah (u++[(⟨0,⟨zA 10,zA 10⟩,-1,[]⟩:Rule)])/\h 9=.ptr 4 0 10/\h 10=.ptr 5 0 1/\h 11=.fn 75 [] [.ptr 5 0 1,.ptr 4 0 10]/\h 12=.fn 77 [zah (t++[(⟨0,⟨zA 10,zA 10⟩,-1,[]⟩:Rule)])] []/\h 13=.fn 77 [zah (u++[(⟨0,⟨zA 10,zA 10⟩,-1,[]⟩:Rule)])] []/\h 38=zah (t++[(⟨0,⟨zA 10,zA 10⟩,-1,[]⟩:Rule)])/\h 39=.int .i64 ((t++[(⟨0,⟨zA 10,zA 10⟩,-1,[]⟩:Rule)]).length:Int)/\h 40=.int .i64 i)/\bs=[.cells true 10 ((zA 10).l.map (eo .i64)),.gone,.gone,.gone,.cells true 10 (x.l.map (eo .i64)),.cells true 1 [.bool x2]]) ?_ k _ _ ?_;rotate_left
  .exact ⟨0,(zA 10),false,H1,kq hh,rfl⟩
  clear hh h H1;rintro m h bs ⟨i,x,x2,H1,hh,rfl⟩;rcases m with _|m
  .rw [zcs] at H1;cases H1
  rw [zcs] at H1;apply ek;refine rk [4,8,9,10,11,12,13,38,39,40,41] [] hh fun h hh=>?_;rcases isp H1 with ⟨c7,H1⟩|⟨c7,H1⟩;rotate_left
  .skip;apply ek;refine cf (f2 hh (zAb c7)) ?_;refine xk ?_;cases H1;exact ce hh ⟨kq hh,rfl⟩
  apply ek;refine ct (f2 hh (zAa c7)) ?_;refine sk ?_;obtain ⟨s_2,H2,H1⟩:=zae H1;apply ek;refine cu [4,8,9,10,11,12,13,38,39,40] 6 (fun h bs=>(h 4=.ptr 0 0 10/\h 8=zah (u++[(⟨0,⟨zA 10,zA 10⟩,-1,[]⟩:Rule)])/\h 9=.ptr 4 0 10/\h 10=.ptr 5 0 1/\h 11=.fn 75 [] [.ptr 5 0 1,.ptr 4 0 10]/\h 12=.fn 77 [zah (t++[(⟨0,⟨zA 10,zA 10⟩,-1,[]⟩:Rule)])] []/\h 13=.fn 77 [zah (u++[(⟨0,⟨zA 10,zA 10⟩,-1,[]⟩:Rule)])] []/\h 38=zah (t++[(⟨0,⟨zA 10,zA 10⟩,-1,[]⟩:Rule)])/\h 39=.int .i64 ((t++[(⟨0,⟨zA 10,zA 10⟩,-1,[]⟩:Rule)]).length:Int)/\h 40=.int .i64 i)/\bs=[.cells true 10 ((zA 10).l.map (eo .i64)),.gone,.gone,.gone,.cells true 10 (s_2.1.l.map (eo .i64)),.cells true 1 [.bool s_2.2]]) ?_ ?_
  .skip;apply gl;obtain ⟨g8,H2⟩:=isg H2;apply ek;refine rk [4,8,9,10,11,12,13,14,15,38,39,40] [] (f2 hh (zak g8)) fun h hh=>?_;apply ek;refine rk [4,8,9,10,11,12,13,14,15,38,39,40,45,46,47] [] hh fun h hh=>?_;obtain ⟨s_3,H3,H2⟩:=zae H2;refine cu [4,8,9,10,11,12,13,38,39,40] 7 (fun h bs=>(h 4=.ptr 0 0 10/\h 8=zah (u++[(⟨0,⟨zA 10,zA 10⟩,-1,[]⟩:Rule)])/\h 9=.ptr 4 0 10/\h 10=.ptr 5 0 1/\h 11=.fn 75 [] [.ptr 5 0 1,.ptr 4 0 10]/\h 12=.fn 77 [zah (t++[(⟨0,⟨zA 10,zA 10⟩,-1,[]⟩:Rule)])] []/\h 13=.fn 77 [zah (u++[(⟨0,⟨zA 10,zA 10⟩,-1,[]⟩:Rule)])] []/\h 38=zah (t++[(⟨0,⟨zA 10,zA 10⟩,-1,[]⟩:Rule)])/\h 39=.int .i64 ((t++[(⟨0,⟨zA 10,zA 10⟩,-1,[]⟩:Rule)]).length:Int)/\h 40=.int .i64 i)/\bs=[.cells true 10 ((zA 10).l.map (eo .i64)),.gone,.gone,.gone,.cells true 10 (s_3.1.l.map (eo .i64)),.cells true 1 [.bool s_3.2],.cells true 23 (eo .i64 ((gx (t++[(⟨0,⟨zA 10,zA 10⟩,-1,[]⟩:Rule)]) i).prio) :: ((((gx (t++[(⟨0,⟨zA 10,zA 10⟩,-1,[]⟩:Rule)]) i).mat).mask).l.map (eo .i64)++((((gx (t++[(⟨0,⟨zA 10,zA 10⟩,-1,[]⟩:Rule)]) i).mat).bits).l.map (eo .i64)++[eo .i64 ((gx (t++[(⟨0,⟨zA 10,zA 10⟩,-1,[]⟩:Rule)]) i).step),zbs ((gx (t++[(⟨0,⟨zA 10,zA 10⟩,-1,[]⟩:Rule)]) i).outs)])))]) ?_ ?_
   .skip;apply gl;refine jk [4,8,9,10,11,12,13,14,15,38,39,40,45,46,47] (fun m h bs=>∃ (i2:Int) (x3:Ar 10) (x4:Bool),zbd k t u i m i2 x3 x4=some s_3/\(h 4=.ptr 0 0 10/\h 8=zah (u++[(⟨0,⟨zA 10,zA 10⟩,-1,[]⟩:Rule)])/\h 9=.ptr 4 0 10/\h 10=.ptr 5 0 1/\h 11=.fn 75 [] [.ptr 5 0 1,.ptr 4 0 10]/\h 12=.fn 77 [zah (t++[(⟨0,⟨zA 10,zA 10⟩,-1,[]⟩:Rule)])] []/\h 13=.fn 77 [zah (u++[(⟨0,⟨zA 10,zA 10⟩,-1,[]⟩:Rule)])] []/\h 14=.int .i64 i/\h 15=.ptr 6 0 23/\h 38=zah (t++[(⟨0,⟨zA 10,zA 10⟩,-1,[]⟩:Rule)])/\h 39=.int .i64 ((t++[(⟨0,⟨zA 10,zA 10⟩,-1,[]⟩:Rule)]).length:Int)/\h 40=.int .i64 i/\h 45=zah (u++[(⟨0,⟨zA 10,zA 10⟩,-1,[]⟩:Rule)])/\h 46=.int .i64 ((u++[(⟨0,⟨zA 10,zA 10⟩,-1,[]⟩:Rule)]).length:Int)/\h 47=.int .i64 i2)/\bs=[.cells true 10 ((zA 10).l.map (eo .i64)),.gone,.gone,.gone,.cells true 10 (x3.l.map (eo .i64)),.cells true 1 [.bool x4],.cells true 23 (eo .i64 ((gx (t++[(⟨0,⟨zA 10,zA 10⟩,-1,[]⟩:Rule)]) i).prio) :: ((((gx (t++[(⟨0,⟨zA 10,zA 10⟩,-1,[]⟩:Rule)]) i).mat).mask).l.map (eo .i64)++((((gx (t++[(⟨0,⟨zA 10,zA 10⟩,-1,[]⟩:Rule)]) i).mat).bits).l.map (eo .i64)++[eo .i64 ((gx (t++[(⟨0,⟨zA 10,zA 10⟩,-1,[]⟩:Rule)]) i).step),zbs ((gx (t++[(⟨0,⟨zA 10,zA 10⟩,-1,[]⟩:Rule)]) i).outs)])))]) ?_ k _ _ ?_;rotate_left
    .exact ⟨0,x,x2,H3,kq hh,rfl⟩
    clear hh h H3;rintro m h bs ⟨i2,x3,x4,H3,hh,rfl⟩;rcases m with _|m
    .rw [zbd] at H3;cases H3
    rw [zbd] at H3;apply ek;refine rk [4,8,9,10,11,12,13,14,15,38,39,40,45,46,47,48] [] hh fun h hh=>?_;rcases isp H3 with ⟨c9,H3⟩|⟨c9,H3⟩;rotate_left
    .skip;apply ek;refine cf (f2 hh (zAb c9)) ?_;refine xk ?_;cases H3;exact ce hh ⟨kq hh,rfl⟩
    apply ek;refine ct (f2 hh (zAa c9)) ?_;refine sk ?_;apply ek;apply gl;obtain ⟨g10,H3⟩:=isg H3;apply ek;refine rk [4,8,9,10,11,12,13,14,15,16,17,38,39,40,45,46,47] [] (f2 hh (zak g10)) fun h hh=>?_;obtain ⟨aw,e11,H3⟩:=zae H3;repeat apply ek
    refine rkp [4,8,9,10,11,12,13,14,15,16,17,38,39,40,45,46,47,54] [] [.bool aw] hh ?_ ?_
    .exact ⟨f5 ((zlg ax hx k (⟨(gx (t++[(⟨0,⟨zA 10,zA 10⟩,-1,[]⟩:Rule)]) i).prio,((gx (t++[(⟨0,⟨zA 10,zA 10⟩,-1,[]⟩:Rule)]) i).mat),(gx (t++[(⟨0,⟨zA 10,zA 10⟩,-1,[]⟩:Rule)]) i).step,(gx (t++[(⟨0,⟨zA 10,zA 10⟩,-1,[]⟩:Rule)]) i).outs⟩:Rule) (⟨(gx (u++[(⟨0,⟨zA 10,zA 10⟩,-1,[]⟩:Rule)]) i2).prio,((gx (u++[(⟨0,⟨zA 10,zA 10⟩,-1,[]⟩:Rule)]) i2).mat),(gx (u++[(⟨0,⟨zA 10,zA 10⟩,-1,[]⟩:Rule)]) i2).step,(gx (u++[(⟨0,⟨zA 10,zA 10⟩,-1,[]⟩:Rule)]) i2).outs⟩:Rule) aw e11 ).call _),trivial⟩
    clear hh h;intro h hh;rcases isb H3 with ⟨c12,H3⟩|⟨c12,H3⟩;rotate_left
    .skip;refine cf (f2 hh c12) ?_;refine sk ?_;obtain ⟨ah,e13,H3⟩:=zae H3;apply ek;refine rkc [4,8,9,10,11,12,13,14,15,16,18,19,38,39,40,45,46,47] [] [(.tup [ePat ah.1,.bool ah.2],stL [.cells true 10 ((zA 10).l.map (eo .i64)),.gone,.gone,.gone,.cells true 10 (x3.l.map (eo .i64)),.cells true 1 [.bool x4],.cells true 23 (eo .i64 ((gx (t++[(⟨0,⟨zA 10,zA 10⟩,-1,[]⟩:Rule)]) i).prio) :: ((((gx (t++[(⟨0,⟨zA 10,zA 10⟩,-1,[]⟩:Rule)]) i).mat).mask).l.map (eo .i64)++((((gx (t++[(⟨0,⟨zA 10,zA 10⟩,-1,[]⟩:Rule)]) i).mat).bits).l.map (eo .i64)++[eo .i64 ((gx (t++[(⟨0,⟨zA 10,zA 10⟩,-1,[]⟩:Rule)]) i).step),zbs ((gx (t++[(⟨0,⟨zA 10,zA 10⟩,-1,[]⟩:Rule)]) i).outs)]))),.cells true 23 (eo .i64 ((gx (u++[(⟨0,⟨zA 10,zA 10⟩,-1,[]⟩:Rule)]) i2).prio) :: ((((gx (u++[(⟨0,⟨zA 10,zA 10⟩,-1,[]⟩:Rule)]) i2).mat).mask).l.map (eo .i64)++((((gx (u++[(⟨0,⟨zA 10,zA 10⟩,-1,[]⟩:Rule)]) i2).mat).bits).l.map (eo .i64)++[eo .i64 ((gx (u++[(⟨0,⟨zA 10,zA 10⟩,-1,[]⟩:Rule)]) i2).step),zbs ((gx (u++[(⟨0,⟨zA 10,zA 10⟩,-1,[]⟩:Rule)]) i2).outs)])))])] (f2 hh c12) ?_ ?_
     .exact ⟨f5 (je (zqa ax hx k ((gx (t++[(⟨0,⟨zA 10,zA 10⟩,-1,[]⟩:Rule)]) i).mat) ((gx (u++[(⟨0,⟨zA 10,zA 10⟩,-1,[]⟩:Rule)]) i2).mat) ah e13 ) (by first|rfl|simp only [c12])),trivial⟩
     clear hh h;intro h hh;refine zk 18 8 20 true (ah.1.mask.l.map (eo .i64)++(ah.1.bits.l.map (eo .i64))) [4,8,9,10,11,12,13,14,15,16,18,19,38,39,40,45,46,47] hh fun h hh=>?_;apply ek;refine rk [4,8,9,10,11,12,13,14,15,16,18,38,39,40,45,46,47,63] [] (f2 hh c12) fun h hh=>?_;rcases isb H3 with ⟨c14,H3⟩|⟨c14,H3⟩;rotate_left
     .skip;refine cf (f2 hh c14) ?_;refine sk ?_;refine rk [4,8,9,10,11,12,13,14,15,38,39,40,45,46,47] [] (f3 hh c12 c14) fun h hh=>?_;exact rd m hh ⟨(ej.wrap (i2+1)),x3,x4,H3,kq hh,rfl⟩
     refine ct (f2 hh c14) ?_;obtain ⟨s_4,H4,H3⟩:=zae H3;apply ek;refine cu [4,8,9,10,11,12,13,14,15,20,21,38,39,40,45,46,47] 11 (fun h bs=>(h 4=.ptr 0 0 10/\h 8=zah (u++[(⟨0,⟨zA 10,zA 10⟩,-1,[]⟩:Rule)])/\h 9=.ptr 4 0 10/\h 10=.ptr 5 0 1/\h 11=.fn 75 [] [.ptr 5 0 1,.ptr 4 0 10]/\h 12=.fn 77 [zah (t++[(⟨0,⟨zA 10,zA 10⟩,-1,[]⟩:Rule)])] []/\h 13=.fn 77 [zah (u++[(⟨0,⟨zA 10,zA 10⟩,-1,[]⟩:Rule)])] []/\h 14=.int .i64 i/\h 15=.ptr 6 0 23/\h 20=.ptr 10 0 10/\h 21=.bool s_4.1/\h 38=zah (t++[(⟨0,⟨zA 10,zA 10⟩,-1,[]⟩:Rule)])/\h 39=.int .i64 ((t++[(⟨0,⟨zA 10,zA 10⟩,-1,[]⟩:Rule)]).length:Int)/\h 40=.int .i64 i/\h 45=zah (u++[(⟨0,⟨zA 10,zA 10⟩,-1,[]⟩:Rule)])/\h 46=.int .i64 ((u++[(⟨0,⟨zA 10,zA 10⟩,-1,[]⟩:Rule)]).length:Int)/\h 47=.int .i64 i2)/\bs=[.cells true 10 ((zA 10).l.map (eo .i64)),.gone,.gone,.gone,.cells true 10 (x3.l.map (eo .i64)),.cells true 1 [.bool x4],.cells true 23 (eo .i64 ((gx (t++[(⟨0,⟨zA 10,zA 10⟩,-1,[]⟩:Rule)]) i).prio) :: ((((gx (t++[(⟨0,⟨zA 10,zA 10⟩,-1,[]⟩:Rule)]) i).mat).mask).l.map (eo .i64)++((((gx (t++[(⟨0,⟨zA 10,zA 10⟩,-1,[]⟩:Rule)]) i).mat).bits).l.map (eo .i64)++[eo .i64 ((gx (t++[(⟨0,⟨zA 10,zA 10⟩,-1,[]⟩:Rule)]) i).step),zbs ((gx (t++[(⟨0,⟨zA 10,zA 10⟩,-1,[]⟩:Rule)]) i).outs)]))),.cells true 23 (eo .i64 ((gx (u++[(⟨0,⟨zA 10,zA 10⟩,-1,[]⟩:Rule)]) i2).prio) :: ((((gx (u++[(⟨0,⟨zA 10,zA 10⟩,-1,[]⟩:Rule)]) i2).mat).mask).l.map (eo .i64)++((((gx (u++[(⟨0,⟨zA 10,zA 10⟩,-1,[]⟩:Rule)]) i2).mat).bits).l.map (eo .i64)++[eo .i64 ((gx (u++[(⟨0,⟨zA 10,zA 10⟩,-1,[]⟩:Rule)]) i2).step),zbs ((gx (u++[(⟨0,⟨zA 10,zA 10⟩,-1,[]⟩:Rule)]) i2).outs)]))),.gone,.cells false (s_4.2.2.1*20) (vecC ePat s_4.2.1),.cells true 10 (s_4.2.2.2.l.map (eo .i64))]) ?_ ?_
     .skip;obtain ⟨rb,e15,H4⟩:=zae H4;obtain ⟨ac,e16,H4⟩:=zae H4;obtain ⟨g17,H4⟩:=isg H4;rcases isp H4 with ⟨c18,H4⟩|⟨c18,H4⟩;rotate_left
      .skip;obtain ⟨g21,H4⟩:=isg H4;obtain ⟨bk,e22,H4⟩:=zae H4;refine dcg 3 [18] [] [] [(.arr 9 20 0 rb.2 rb.2 (rb.2*20),stL [.cells true 10 ((zA 10).l.map (eo .i64)),.gone,.gone,.gone,.cells true 10 (x3.l.map (eo .i64)),.cells true 1 [.bool x4],.cells true 23 (eo .i64 ((gx (t++[(⟨0,⟨zA 10,zA 10⟩,-1,[]⟩:Rule)]) i).prio) :: ((((gx (t++[(⟨0,⟨zA 10,zA 10⟩,-1,[]⟩:Rule)]) i).mat).mask).l.map (eo .i64)++((((gx (t++[(⟨0,⟨zA 10,zA 10⟩,-1,[]⟩:Rule)]) i).mat).bits).l.map (eo .i64)++[eo .i64 ((gx (t++[(⟨0,⟨zA 10,zA 10⟩,-1,[]⟩:Rule)]) i).step),zbs ((gx (t++[(⟨0,⟨zA 10,zA 10⟩,-1,[]⟩:Rule)]) i).outs)]))),.cells true 23 (eo .i64 ((gx (u++[(⟨0,⟨zA 10,zA 10⟩,-1,[]⟩:Rule)]) i2).prio) :: ((((gx (u++[(⟨0,⟨zA 10,zA 10⟩,-1,[]⟩:Rule)]) i2).mat).mask).l.map (eo .i64)++((((gx (u++[(⟨0,⟨zA 10,zA 10⟩,-1,[]⟩:Rule)]) i2).mat).bits).l.map (eo .i64)++[eo .i64 ((gx (u++[(⟨0,⟨zA 10,zA 10⟩,-1,[]⟩:Rule)]) i2).step),zbs ((gx (u++[(⟨0,⟨zA 10,zA 10⟩,-1,[]⟩:Rule)]) i2).outs)]))),.gone,.cells false (rb.2*20) (vecC ePat rb.1)]),(lPat ac,stL [.cells true 10 ((zA 10).l.map (eo .i64)),.gone,.gone,.gone,.cells true 10 (x3.l.map (eo .i64)),.cells true 1 [.bool x4],.cells true 23 (eo .i64 ((gx (t++[(⟨0,⟨zA 10,zA 10⟩,-1,[]⟩:Rule)]) i).prio) :: ((((gx (t++[(⟨0,⟨zA 10,zA 10⟩,-1,[]⟩:Rule)]) i).mat).mask).l.map (eo .i64)++((((gx (t++[(⟨0,⟨zA 10,zA 10⟩,-1,[]⟩:Rule)]) i).mat).bits).l.map (eo .i64)++[eo .i64 ((gx (t++[(⟨0,⟨zA 10,zA 10⟩,-1,[]⟩:Rule)]) i).step),zbs ((gx (t++[(⟨0,⟨zA 10,zA 10⟩,-1,[]⟩:Rule)]) i).outs)]))),.cells true 23 (eo .i64 ((gx (u++[(⟨0,⟨zA 10,zA 10⟩,-1,[]⟩:Rule)]) i2).prio) :: ((((gx (u++[(⟨0,⟨zA 10,zA 10⟩,-1,[]⟩:Rule)]) i2).mat).mask).l.map (eo .i64)++((((gx (u++[(⟨0,⟨zA 10,zA 10⟩,-1,[]⟩:Rule)]) i2).mat).bits).l.map (eo .i64)++[eo .i64 ((gx (u++[(⟨0,⟨zA 10,zA 10⟩,-1,[]⟩:Rule)]) i2).step),zbs ((gx (u++[(⟨0,⟨zA 10,zA 10⟩,-1,[]⟩:Rule)]) i2).outs)]))),.gone,.cells false (rb.2*20) (vecC ePat rb.1)]),(.tup [.agg (bk.1.l.map (eo .i64)),.bool bk.2],stL [.cells true 10 ((zA 10).l.map (eo .i64)),.gone,.gone,.gone,.cells true 10 (x3.l.map (eo .i64)),.cells true 1 [.bool x4],.cells true 23 (eo .i64 ((gx (t++[(⟨0,⟨zA 10,zA 10⟩,-1,[]⟩:Rule)]) i).prio) :: ((((gx (t++[(⟨0,⟨zA 10,zA 10⟩,-1,[]⟩:Rule)]) i).mat).mask).l.map (eo .i64)++((((gx (t++[(⟨0,⟨zA 10,zA 10⟩,-1,[]⟩:Rule)]) i).mat).bits).l.map (eo .i64)++[eo .i64 ((gx (t++[(⟨0,⟨zA 10,zA 10⟩,-1,[]⟩:Rule)]) i).step),zbs ((gx (t++[(⟨0,⟨zA 10,zA 10⟩,-1,[]⟩:Rule)]) i).outs)]))),.cells true 23 (eo .i64 ((gx (u++[(⟨0,⟨zA 10,zA 10⟩,-1,[]⟩:Rule)]) i2).prio) :: ((((gx (u++[(⟨0,⟨zA 10,zA 10⟩,-1,[]⟩:Rule)]) i2).mat).mask).l.map (eo .i64)++((((gx (u++[(⟨0,⟨zA 10,zA 10⟩,-1,[]⟩:Rule)]) i2).mat).bits).l.map (eo .i64)++[eo .i64 ((gx (u++[(⟨0,⟨zA 10,zA 10⟩,-1,[]⟩:Rule)]) i2).step),zbs ((gx (u++[(⟨0,⟨zA 10,zA 10⟩,-1,[]⟩:Rule)]) i2).outs)]))),.gone,.cells false ((rb.2+ac.length)*20) (vecC ePat (rb.1++ac))])] [.cells true 10 ((zA 10).l.map (eo .i64)),.gone,.gone,.gone,.cells true 10 (x3.l.map (eo .i64)),.cells true 1 [.bool x4],.cells true 23 (eo .i64 ((gx (t++[(⟨0,⟨zA 10,zA 10⟩,-1,[]⟩:Rule)]) i).prio) :: ((((gx (t++[(⟨0,⟨zA 10,zA 10⟩,-1,[]⟩:Rule)]) i).mat).mask).l.map (eo .i64)++((((gx (t++[(⟨0,⟨zA 10,zA 10⟩,-1,[]⟩:Rule)]) i).mat).bits).l.map (eo .i64)++[eo .i64 ((gx (t++[(⟨0,⟨zA 10,zA 10⟩,-1,[]⟩:Rule)]) i).step),zbs ((gx (t++[(⟨0,⟨zA 10,zA 10⟩,-1,[]⟩:Rule)]) i).outs)]))),.cells true 23 (eo .i64 ((gx (u++[(⟨0,⟨zA 10,zA 10⟩,-1,[]⟩:Rule)]) i2).prio) :: ((((gx (u++[(⟨0,⟨zA 10,zA 10⟩,-1,[]⟩:Rule)]) i2).mat).mask).l.map (eo .i64)++((((gx (u++[(⟨0,⟨zA 10,zA 10⟩,-1,[]⟩:Rule)]) i2).mat).bits).l.map (eo .i64)++[eo .i64 ((gx (u++[(⟨0,⟨zA 10,zA 10⟩,-1,[]⟩:Rule)]) i2).step),zbs ((gx (u++[(⟨0,⟨zA 10,zA 10⟩,-1,[]⟩:Rule)]) i2).outs)]))),.gone,.cells false ((rb.2+ac.length)*20) (vecC ePat (rb.1++ac)),.cells true 10 (bk.1.l.map (eo .i64))] (fun h=>h 4=.ptr 0 0 10/\h 8=zah (u++[(⟨0,⟨zA 10,zA 10⟩,-1,[]⟩:Rule)])/\h 9=.ptr 4 0 10/\h 10=.ptr 5 0 1/\h 11=.fn 75 [] [.ptr 5 0 1,.ptr 4 0 10]/\h 12=.fn 77 [zah (t++[(⟨0,⟨zA 10,zA 10⟩,-1,[]⟩:Rule)])] []/\h 13=.fn 77 [zah (u++[(⟨0,⟨zA 10,zA 10⟩,-1,[]⟩:Rule)])] []/\h 14=.int .i64 i/\h 15=.ptr 6 0 23/\h 20=.ptr 10 0 10/\h 21=.bool bk.2/\h 38=zah (t++[(⟨0,⟨zA 10,zA 10⟩,-1,[]⟩:Rule)])/\h 39=.int .i64 ((t++[(⟨0,⟨zA 10,zA 10⟩,-1,[]⟩:Rule)]).length:Int)/\h 40=.int .i64 i/\h 45=zah (u++[(⟨0,⟨zA 10,zA 10⟩,-1,[]⟩:Rule)])/\h 46=.int .i64 ((u++[(⟨0,⟨zA 10,zA 10⟩,-1,[]⟩:Rule)]).length:Int)/\h 47=.int .i64 i2) (f3 hh c12 (f3 c14 (zoy ePat ac) (f2 (zdi (f:=ePat) (e:=20) (fun x=>zbv x) ac) (zkg (f:=ePat) (fun x=>z40 x) ac)))) trivial ?_ ?_
       .exact ⟨car [9] (zgg ax hx k (t++[(⟨0,⟨zA 10,zA 10⟩,-1,[]⟩:Rule)]) i rb e15),f5 (je (zg4 ax hx k (u++[(⟨0,⟨zA 10,zA 10⟩,-1,[]⟩:Rule)]) i2 ac e16 ) (by first|rfl|simp only [c12,c14])),(by have q:=f5 (Pure.lend (S:=stL [.cells true 10 ((zA 10).l.map (eo .i64)),.gone,.gone,.gone,.cells true 10 (x3.l.map (eo .i64)),.cells true 1 [.bool x4],.cells true 23 (eo .i64 ((gx (t++[(⟨0,⟨zA 10,zA 10⟩,-1,[]⟩:Rule)]) i).prio) :: ((((gx (t++[(⟨0,⟨zA 10,zA 10⟩,-1,[]⟩:Rule)]) i).mat).mask).l.map (eo .i64)++((((gx (t++[(⟨0,⟨zA 10,zA 10⟩,-1,[]⟩:Rule)]) i).mat).bits).l.map (eo .i64)++[eo .i64 ((gx (t++[(⟨0,⟨zA 10,zA 10⟩,-1,[]⟩:Rule)]) i).step),zbs ((gx (t++[(⟨0,⟨zA 10,zA 10⟩,-1,[]⟩:Rule)]) i).outs)]))),.cells true 23 (eo .i64 ((gx (u++[(⟨0,⟨zA 10,zA 10⟩,-1,[]⟩:Rule)]) i2).prio) :: ((((gx (u++[(⟨0,⟨zA 10,zA 10⟩,-1,[]⟩:Rule)]) i2).mat).mask).l.map (eo .i64)++((((gx (u++[(⟨0,⟨zA 10,zA 10⟩,-1,[]⟩:Rule)]) i2).mat).bits).l.map (eo .i64)++[eo .i64 ((gx (u++[(⟨0,⟨zA 10,zA 10⟩,-1,[]⟩:Rule)]) i2).step),zbs ((gx (u++[(⟨0,⟨zA 10,zA 10⟩,-1,[]⟩:Rule)]) i2).outs)]))),.gone,.cells false ((rb.2+ac.length)*20) (vecC ePat (rb.1++ac))]) (args:=[ePat ah.1,.arr 9 20 0 (rb.2+ac.length) (rb.2+ac.length) ((rb.2+ac.length)*20)]) (zk2 ax hx k ah.1 (rb.1++ac) bk e22 ) (eh (Or.inl rfl) (eh (z5d (fun x=>zbv x) (by decide) (by rfl) g21) (trivial))) (by first|rfl | (simp only [tupT,T.flat,T.flatL,z28,zl8,fm];done)));(try simp only [c12,c14] at q);first|exact q | (simp only [i8,mq,zay] at q ⊢;exact q)),trivial⟩
       clear hh h;intro h hh;cases H4;exact ce hh ⟨kq hh,rfl⟩
      obtain ⟨g19,H4⟩:=isg H4;obtain ⟨bc,e20,H4⟩:=zae H4;refine dcg 3 [18] [] [] [(.arr 9 20 0 rb.2 rb.2 (rb.2*20),stL [.cells true 10 ((zA 10).l.map (eo .i64)),.gone,.gone,.gone,.cells true 10 (x3.l.map (eo .i64)),.cells true 1 [.bool x4],.cells true 23 (eo .i64 ((gx (t++[(⟨0,⟨zA 10,zA 10⟩,-1,[]⟩:Rule)]) i).prio) :: ((((gx (t++[(⟨0,⟨zA 10,zA 10⟩,-1,[]⟩:Rule)]) i).mat).mask).l.map (eo .i64)++((((gx (t++[(⟨0,⟨zA 10,zA 10⟩,-1,[]⟩:Rule)]) i).mat).bits).l.map (eo .i64)++[eo .i64 ((gx (t++[(⟨0,⟨zA 10,zA 10⟩,-1,[]⟩:Rule)]) i).step),zbs ((gx (t++[(⟨0,⟨zA 10,zA 10⟩,-1,[]⟩:Rule)]) i).outs)]))),.cells true 23 (eo .i64 ((gx (u++[(⟨0,⟨zA 10,zA 10⟩,-1,[]⟩:Rule)]) i2).prio) :: ((((gx (u++[(⟨0,⟨zA 10,zA 10⟩,-1,[]⟩:Rule)]) i2).mat).mask).l.map (eo .i64)++((((gx (u++[(⟨0,⟨zA 10,zA 10⟩,-1,[]⟩:Rule)]) i2).mat).bits).l.map (eo .i64)++[eo .i64 ((gx (u++[(⟨0,⟨zA 10,zA 10⟩,-1,[]⟩:Rule)]) i2).step),zbs ((gx (u++[(⟨0,⟨zA 10,zA 10⟩,-1,[]⟩:Rule)]) i2).outs)]))),.gone,.cells false (rb.2*20) (vecC ePat rb.1)]),(lPat ac,stL [.cells true 10 ((zA 10).l.map (eo .i64)),.gone,.gone,.gone,.cells true 10 (x3.l.map (eo .i64)),.cells true 1 [.bool x4],.cells true 23 (eo .i64 ((gx (t++[(⟨0,⟨zA 10,zA 10⟩,-1,[]⟩:Rule)]) i).prio) :: ((((gx (t++[(⟨0,⟨zA 10,zA 10⟩,-1,[]⟩:Rule)]) i).mat).mask).l.map (eo .i64)++((((gx (t++[(⟨0,⟨zA 10,zA 10⟩,-1,[]⟩:Rule)]) i).mat).bits).l.map (eo .i64)++[eo .i64 ((gx (t++[(⟨0,⟨zA 10,zA 10⟩,-1,[]⟩:Rule)]) i).step),zbs ((gx (t++[(⟨0,⟨zA 10,zA 10⟩,-1,[]⟩:Rule)]) i).outs)]))),.cells true 23 (eo .i64 ((gx (u++[(⟨0,⟨zA 10,zA 10⟩,-1,[]⟩:Rule)]) i2).prio) :: ((((gx (u++[(⟨0,⟨zA 10,zA 10⟩,-1,[]⟩:Rule)]) i2).mat).mask).l.map (eo .i64)++((((gx (u++[(⟨0,⟨zA 10,zA 10⟩,-1,[]⟩:Rule)]) i2).mat).bits).l.map (eo .i64)++[eo .i64 ((gx (u++[(⟨0,⟨zA 10,zA 10⟩,-1,[]⟩:Rule)]) i2).step),zbs ((gx (u++[(⟨0,⟨zA 10,zA 10⟩,-1,[]⟩:Rule)]) i2).outs)]))),.gone,.cells false (rb.2*20) (vecC ePat rb.1)]),(.tup [.agg (bc.1.l.map (eo .i64)),.bool bc.2],stL [.cells true 10 ((zA 10).l.map (eo .i64)),.gone,.gone,.gone,.cells true 10 (x3.l.map (eo .i64)),.cells true 1 [.bool x4],.cells true 23 (eo .i64 ((gx (t++[(⟨0,⟨zA 10,zA 10⟩,-1,[]⟩:Rule)]) i).prio) :: ((((gx (t++[(⟨0,⟨zA 10,zA 10⟩,-1,[]⟩:Rule)]) i).mat).mask).l.map (eo .i64)++((((gx (t++[(⟨0,⟨zA 10,zA 10⟩,-1,[]⟩:Rule)]) i).mat).bits).l.map (eo .i64)++[eo .i64 ((gx (t++[(⟨0,⟨zA 10,zA 10⟩,-1,[]⟩:Rule)]) i).step),zbs ((gx (t++[(⟨0,⟨zA 10,zA 10⟩,-1,[]⟩:Rule)]) i).outs)]))),.cells true 23 (eo .i64 ((gx (u++[(⟨0,⟨zA 10,zA 10⟩,-1,[]⟩:Rule)]) i2).prio) :: ((((gx (u++[(⟨0,⟨zA 10,zA 10⟩,-1,[]⟩:Rule)]) i2).mat).mask).l.map (eo .i64)++((((gx (u++[(⟨0,⟨zA 10,zA 10⟩,-1,[]⟩:Rule)]) i2).mat).bits).l.map (eo .i64)++[eo .i64 ((gx (u++[(⟨0,⟨zA 10,zA 10⟩,-1,[]⟩:Rule)]) i2).step),zbs ((gx (u++[(⟨0,⟨zA 10,zA 10⟩,-1,[]⟩:Rule)]) i2).outs)]))),.gone,.cells false (rb.2*20) (vecC ePat rb.1)])] [.cells true 10 ((zA 10).l.map (eo .i64)),.gone,.gone,.gone,.cells true 10 (x3.l.map (eo .i64)),.cells true 1 [.bool x4],.cells true 23 (eo .i64 ((gx (t++[(⟨0,⟨zA 10,zA 10⟩,-1,[]⟩:Rule)]) i).prio) :: ((((gx (t++[(⟨0,⟨zA 10,zA 10⟩,-1,[]⟩:Rule)]) i).mat).mask).l.map (eo .i64)++((((gx (t++[(⟨0,⟨zA 10,zA 10⟩,-1,[]⟩:Rule)]) i).mat).bits).l.map (eo .i64)++[eo .i64 ((gx (t++[(⟨0,⟨zA 10,zA 10⟩,-1,[]⟩:Rule)]) i).step),zbs ((gx (t++[(⟨0,⟨zA 10,zA 10⟩,-1,[]⟩:Rule)]) i).outs)]))),.cells true 23 (eo .i64 ((gx (u++[(⟨0,⟨zA 10,zA 10⟩,-1,[]⟩:Rule)]) i2).prio) :: ((((gx (u++[(⟨0,⟨zA 10,zA 10⟩,-1,[]⟩:Rule)]) i2).mat).mask).l.map (eo .i64)++((((gx (u++[(⟨0,⟨zA 10,zA 10⟩,-1,[]⟩:Rule)]) i2).mat).bits).l.map (eo .i64)++[eo .i64 ((gx (u++[(⟨0,⟨zA 10,zA 10⟩,-1,[]⟩:Rule)]) i2).step),zbs ((gx (u++[(⟨0,⟨zA 10,zA 10⟩,-1,[]⟩:Rule)]) i2).outs)]))),.gone,.cells false (rb.2*20) (vecC ePat rb.1),.cells true 10 (bc.1.l.map (eo .i64))] (fun h=>h 4=.ptr 0 0 10/\h 8=zah (u++[(⟨0,⟨zA 10,zA 10⟩,-1,[]⟩:Rule)])/\h 9=.ptr 4 0 10/\h 10=.ptr 5 0 1/\h 11=.fn 75 [] [.ptr 5 0 1,.ptr 4 0 10]/\h 12=.fn 77 [zah (t++[(⟨0,⟨zA 10,zA 10⟩,-1,[]⟩:Rule)])] []/\h 13=.fn 77 [zah (u++[(⟨0,⟨zA 10,zA 10⟩,-1,[]⟩:Rule)])] []/\h 14=.int .i64 i/\h 15=.ptr 6 0 23/\h 20=.ptr 10 0 10/\h 21=.bool bc.2/\h 38=zah (t++[(⟨0,⟨zA 10,zA 10⟩,-1,[]⟩:Rule)])/\h 39=.int .i64 ((t++[(⟨0,⟨zA 10,zA 10⟩,-1,[]⟩:Rule)]).length:Int)/\h 40=.int .i64 i/\h 45=zah (u++[(⟨0,⟨zA 10,zA 10⟩,-1,[]⟩:Rule)])/\h 46=.int .i64 ((u++[(⟨0,⟨zA 10,zA 10⟩,-1,[]⟩:Rule)]).length:Int)/\h 47=.int .i64 i2) (f3 hh c12 (f3 c14 c18 (f3 (zoy ePat ac) (zdi (f:=ePat) (e:=20) (fun x=>zbv x) ac) (zkg (f:=ePat) (fun x=>z40 x) ac)))) trivial ?_ ?_
      .exact ⟨car [9] (zgg ax hx k (t++[(⟨0,⟨zA 10,zA 10⟩,-1,[]⟩:Rule)]) i rb e15),f5 (je (zg4 ax hx k (u++[(⟨0,⟨zA 10,zA 10⟩,-1,[]⟩:Rule)]) i2 ac e16 ) (by first|rfl|simp only [c12,c14])),(by have q:=f5 (Pure.lend (S:=stL [.cells true 10 ((zA 10).l.map (eo .i64)),.gone,.gone,.gone,.cells true 10 (x3.l.map (eo .i64)),.cells true 1 [.bool x4],.cells true 23 (eo .i64 ((gx (t++[(⟨0,⟨zA 10,zA 10⟩,-1,[]⟩:Rule)]) i).prio) :: ((((gx (t++[(⟨0,⟨zA 10,zA 10⟩,-1,[]⟩:Rule)]) i).mat).mask).l.map (eo .i64)++((((gx (t++[(⟨0,⟨zA 10,zA 10⟩,-1,[]⟩:Rule)]) i).mat).bits).l.map (eo .i64)++[eo .i64 ((gx (t++[(⟨0,⟨zA 10,zA 10⟩,-1,[]⟩:Rule)]) i).step),zbs ((gx (t++[(⟨0,⟨zA 10,zA 10⟩,-1,[]⟩:Rule)]) i).outs)]))),.cells true 23 (eo .i64 ((gx (u++[(⟨0,⟨zA 10,zA 10⟩,-1,[]⟩:Rule)]) i2).prio) :: ((((gx (u++[(⟨0,⟨zA 10,zA 10⟩,-1,[]⟩:Rule)]) i2).mat).mask).l.map (eo .i64)++((((gx (u++[(⟨0,⟨zA 10,zA 10⟩,-1,[]⟩:Rule)]) i2).mat).bits).l.map (eo .i64)++[eo .i64 ((gx (u++[(⟨0,⟨zA 10,zA 10⟩,-1,[]⟩:Rule)]) i2).step),zbs ((gx (u++[(⟨0,⟨zA 10,zA 10⟩,-1,[]⟩:Rule)]) i2).outs)]))),.gone,.cells false (rb.2*20) (vecC ePat rb.1)]) (args:=[ePat ah.1,.arr 9 20 0 rb.2 rb.2 (rb.2*20)]) (zk2 ax hx k ah.1 rb.1 bc e20 ) (eh (Or.inl rfl) (eh (z5d (fun x=>zbv x) (by decide) (by rfl) g19) (trivial))) (by first|rfl | (simp only [tupT,T.flat,T.flatL,z28,zl8,fm];done)));(try simp only [c12,c14] at q);first|exact q | (simp only [i8,mq,zay] at q ⊢;exact q)),trivial⟩
      clear hh h;intro h hh;cases H4;exact ce hh ⟨kq hh,rfl⟩
     clear hh h;rintro h bs ⟨hh,rfl⟩;apply ek;refine rk [4,8,9,10,11,12,13,14,15,20,38,39,40,45,46,47,76] [] (f3 hh c12 c14) fun h hh=>?_;rcases isb H3 with ⟨c23,H3⟩|⟨c23,H3⟩;rotate_left
     .skip;refine cf (f2 hh c23) ?_;refine sk ?_;refine rk [4,8,9,10,11,12,13,14,15,38,39,40,45,46,47] [] (f3 hh c12 (f2 c14 c23)) fun h hh=>?_;exact rd m hh ⟨(ej.wrap (i2+1)),x3,x4,H3,kq hh,rfl⟩
     refine ct (f2 hh c23) ?_;obtain ⟨rb2,e24,H3⟩:=zae H3;refine rkc [4,8,9,10,11,12,13,14,15,38,39,40,45,46,47] [] [(.tup [],stL [.cells true 10 ((zA 10).l.map (eo .i64)),.gone,.gone,.gone,.cells true 10 (rb2.2.l.map (eo .i64)),.cells true 1 [.bool rb2.1],.cells true 23 (eo .i64 ((gx (t++[(⟨0,⟨zA 10,zA 10⟩,-1,[]⟩:Rule)]) i).prio) :: ((((gx (t++[(⟨0,⟨zA 10,zA 10⟩,-1,[]⟩:Rule)]) i).mat).mask).l.map (eo .i64)++((((gx (t++[(⟨0,⟨zA 10,zA 10⟩,-1,[]⟩:Rule)]) i).mat).bits).l.map (eo .i64)++[eo .i64 ((gx (t++[(⟨0,⟨zA 10,zA 10⟩,-1,[]⟩:Rule)]) i).step),zbs ((gx (t++[(⟨0,⟨zA 10,zA 10⟩,-1,[]⟩:Rule)]) i).outs)]))),.cells true 23 (eo .i64 ((gx (u++[(⟨0,⟨zA 10,zA 10⟩,-1,[]⟩:Rule)]) i2).prio) :: ((((gx (u++[(⟨0,⟨zA 10,zA 10⟩,-1,[]⟩:Rule)]) i2).mat).mask).l.map (eo .i64)++((((gx (u++[(⟨0,⟨zA 10,zA 10⟩,-1,[]⟩:Rule)]) i2).mat).bits).l.map (eo .i64)++[eo .i64 ((gx (u++[(⟨0,⟨zA 10,zA 10⟩,-1,[]⟩:Rule)]) i2).step),zbs ((gx (u++[(⟨0,⟨zA 10,zA 10⟩,-1,[]⟩:Rule)]) i2).outs)]))),.gone,.cells false (s_4.2.2.1*20) (vecC ePat s_4.2.1),.cells true 10 (s_4.2.2.2.l.map (eo .i64))])] (f3 hh c12 (f2 c14 c23)) ?_ ?_
     .exact ⟨ca [5,4] (znc ax hx k s_4.2.2.2 x4 x3 rb2 e24),trivial⟩
     clear hh h;intro h hh;refine rk [4,8,9,10,11,12,13,14,15,38,39,40,45,46,47] [] (f3 hh c12 (f2 c14 c23)) fun h hh=>?_;exact rd m hh ⟨(ej.wrap (i2+1)),rb2.2,rb2.1,H3,kq hh,rfl⟩
    refine ct (f2 hh c12) ?_;refine xk ?_;refine rk [4,8,9,10,11,12,13,14,15,38,39,40,45,46,47] [] (f2 hh c12) fun h hh=>?_;exact rd m hh ⟨(ej.wrap (i2+1)),x3,x4,H3,kq hh,rfl⟩
   clear hh h;rintro h bs ⟨hh,rfl⟩;cases H2;exact ce hh ⟨kq hh,rfl⟩
  clear hh h;rintro h bs ⟨hh,rfl⟩;refine rk [4,8,9,10,11,12,13,38,39,40] [] hh fun h hh=>?_;exact rd m hh ⟨(ej.wrap (i+1)),s_2.1,s_2.2,H1,kq hh,rfl⟩
 clear hh h;rintro h bs ⟨hh,rfl⟩;apply ek;refine ds 3 [(4,some 0),(10,some 5)] [4,5] [] [] [] hh trivial trivial fun h hh=>?_;cases H;exact rtc hh
def zem (k:Nat) (i:Int):Nat->Int->Int->Option Int
 |0,_,_=>none
 |m+1,v_,k_=>(if 0<=i/\0<16 then (if k_<(i % 16) then (if 0<=v_/\0<2 then zem k i m (ej.wrap (v_ / 2)) (ej.wrap (k_+1)) else none) else some v_) else none)
def zii (k:Nat) (i:Int):Option Int:=((zem k i k 32768 0:Option Int).bind fun s_=>some s_)
theorem zn3 (ax:Axs) (hx:NoAx ax) (k:Nat) (i:Int) (v:Int) (H:zii k i=some v):Pure Try.prog (EE ax) [] 73 [.int .i64 i] (.int .i64 v):=by
 rw [zii] at H;refine en [.tmp 2] 14 [0] (hx.no _ (by decide)) (fn73 ax) ?_;intro h hh;apply ek;refine rk [0] [] hh fun h hh=>?_;apply ek;refine rk [0,3] [] hh fun h hh=>?_;repeat apply ek
 refine rk [0,3,4] [] hh fun h hh=>?_;obtain ⟨s_,H1,H⟩:=zae H;refine cu [3] 0 (fun h bs=>(h 3=.int .i64 s_)/\bs=[]) ?_ ?_
 .skip;apply gl;refine jk [0,3,4] (fun m h bs=>∃ (v_:Int) (k_:Int),zem k i m v_ k_=some s_/\(h 0=.int .i64 i/\h 3=.int .i64 v_/\h 4=.int .i64 k_)/\bs=[]) ?_ k _ _ ?_;rotate_left
  .exact ⟨32768,0,H1,kq hh,rfl⟩
  clear hh h H1;rintro m h bs ⟨v_,k_,H1,hh,rfl⟩;rcases m with _|m
  .rw [zem] at H1;cases H1
  rw [zem] at H1;obtain ⟨g1,H1⟩:=isg H1;repeat apply ek
  refine rk [0,3,4,8] [] hh fun h hh=>?_;rcases isp H1 with ⟨c2,H1⟩|⟨c2,H1⟩;rotate_left
  .skip;refine cf (f2 hh (zAb c2)) ?_;refine xk ?_;cases H1;exact ce hh ⟨kq hh,rfl⟩
  refine ct (f2 hh (zAa c2)) ?_;refine sk ?_;apply ek;apply gl;obtain ⟨g3,H1⟩:=isg H1;refine rk [0,3,4] [] hh fun h hh=>?_;refine rk [0,3,4] [] hh fun h hh=>?_;exact rd m hh ⟨(ej.wrap (v_ / 2)),(ej.wrap (k_+1)),H1,kq hh,rfl⟩
 clear hh h;rintro h bs ⟨hh,rfl⟩;apply ek;refine rk [2] [] hh fun h hh=>?_;cases H;exact rt hh
def zd0 (k:Nat) (h_:Ar 10) (i:Int):Option Int:=(if 0<=i/\0<16 then (if (0:Int)<=(ej.wrap (i / 16))/\(ej.wrap (i / 16))<(10:Int) then ((zii k i).bind fun aj=>(if (0:Int)<=(gx h_.l (ej.wrap (i / 16)))/\0<aj then (if (0:Int)<=(ej.wrap ((gx h_.l (ej.wrap (i / 16))) / aj))/\0<2 then some ((ej.wrap ((gx h_.l (ej.wrap (i / 16))) / aj)) % 2) else none) else none)) else none) else none)
theorem zkl (ax:Axs) (hx:NoAx ax) (k:Nat) (h_:Ar 10) (i:Int) (v:Int) (H:zd0 k h_ i=some v):Pure Try.prog (EE ax) [] 56 [.agg (h_.l.map (eo .i64)),.int .i64 i] (.int .i64 v):=by
 rw [zd0] at H;refine en [.tmp 4] 13 [0,1] (hx.no _ (by decide)) (fn56 ax) ?_;intro h hh;apply ek;refine rk [1,2] [] hh fun h hh=>?_;obtain ⟨g1,H⟩:=isg H;obtain ⟨g2,H⟩:=isg H;obtain ⟨aj,e3,H⟩:=zae H;obtain ⟨g4,H⟩:=isg H;obtain ⟨g5,H⟩:=isg H;apply ek;refine dk 6 [4] [.int .i64 aj] [] [] (f2 hh (arIx h_ g2)) ?_ trivial ?_
 .exact ⟨(zn3 ax hx k i aj e3 ).call _,trivial⟩
 clear hh h;intro h hh;cases H;exact rt hh
def zbt (k:Nat) (h_:Ar 10):Nat->Int->Option (Bool ⊕ Unit)
 |0,_=>none
 |m+1,i=>(if i<10 then (if 0<=i/\i<(10:Int) then (if (gx h_.l i)<0 then some (.inl false) else (if 65535<(gx h_.l i) then some (.inl false) else zbt k h_ m (ej.wrap (i+1)))) else none) else some (.inr ()))
def zex (k:Nat) (h_:Ar 10):Option Bool:=((zbt k h_ k 0:Option (Bool ⊕ Unit)).bind fun o=>kg (fun r=>some r) (fun s_=>some true) o)
theorem zj1 (ax:Axs) (hx:NoAx ax) (k:Nat) (h_:Ar 10) (v:Bool) (H:zex k h_=some v):Pure Try.prog (EE ax) [] 24 [.agg (h_.l.map (eo .i64))] (.bool v):=by
 rw [zex] at H;refine en [.tmp 2] 18 [0] (hx.no _ (by decide)) (fn24 ax) ?_;intro h hh;apply ek;refine rk [1] [] hh fun h hh=>?_;repeat apply ek
 refine rk [1,3] [] hh fun h hh=>?_;obtain ⟨o,H1,H⟩:=zae H;refine cu [] 1 (fun h bs=>∃ s_:Unit,o=.inr s_/\(True)/\bs=[.cells true 10 (h_.l.map (eo .i64))]) ?_ ?_
 .skip;apply gl;refine jk [1,3] (fun m h bs=>∃ (i:Int),zbt k h_ m i=some o/\(h 1=.ptr 0 0 10/\h 3=.int .i64 i)/\bs=[.cells true 10 (h_.l.map (eo .i64))]) ?_ k _ _ ?_;rotate_left
  .exact ⟨0,H1,kq hh,rfl⟩
  clear hh h H1;rintro m h bs ⟨i,H1,hh,rfl⟩;rcases m with _|m
  .rw [zbt] at H1;cases H1
  rw [zbt] at H1;repeat apply ek
  refine rk [1,3,5] [] hh fun h hh=>?_;rcases isp H1 with ⟨c1,H1⟩|⟨c1,H1⟩;rotate_left
  .skip;refine cf (f2 hh (zAb c1)) ?_;refine xk ?_;cases H1;exact ce hh ⟨_,rfl,kq hh,rfl⟩
  refine ct (f2 hh (zAa c1)) ?_;refine sk ?_;apply ek;apply gl;obtain ⟨g2,H1⟩:=isg H1;rcases isp H1 with ⟨c3,H1⟩|⟨c3,H1⟩;rotate_left
  .skip;apply ek;refine rk [1,3,17] [] (f3 hh (zAb c3) (arIx h_ g2)) fun h hh=>?_;rcases isp H1 with ⟨c4,H1⟩|⟨c4,H1⟩;rotate_left
   .skip;refine cf (f2 hh (zAb c4)) ?_;refine sk ?_;refine rk [1,3] [] hh fun h hh=>?_;exact rd m hh ⟨(ej.wrap (i+1)),H1,kq hh,rfl⟩
   refine ct (f2 hh (zAa c4)) ?_;apply ek;refine rk [2] [] hh fun h hh=>?_;cases H1;obtain rfl:=sinl H;exact rt hh
  apply ek;refine rk [1,3,17] [] (f3 hh (zAa c3) (arIx h_ g2)) fun h hh=>?_;refine ct hh ?_;apply ek;refine rk [2] [] hh fun h hh=>?_;cases H1;obtain rfl:=sinl H;exact rt hh
 clear hh h;rintro h bs ⟨s_,rfl,hh,rfl⟩;replace H:=sinr H;apply ek;refine rk [2] [] hh fun h hh=>?_;cases H;exact rt hh
def zc2 (k:Nat) (b:Ar 10) (m_:Ar 10):Nat->Int->Option (Bool ⊕ Unit)
 |0,_=>none
 |m+1,i=>(if i<10 then (if 0<=i/\i<(10:Int) then (if (iAnd .i64 (gx b.l i) (gx m_.l i))≠(gx b.l i) then some (.inl false) else zc2 k b m_ m (ej.wrap (i+1))) else none) else some (.inr ()))
def zio (k:Nat) (b:Ar 10) (m_:Ar 10):Option Bool:=((zc2 k b m_ k 0:Option (Bool ⊕ Unit)).bind fun o=>kg (fun r=>some r) (fun s_=>some true) o)
theorem zt5 (ax:Axs) (hx:NoAx ax) (k:Nat) (b:Ar 10) (m_:Ar 10) (v:Bool) (H:zio k b m_=some v):Pure Try.prog (EE ax) [] 79 [.agg (b.l.map (eo .i64)),.agg (m_.l.map (eo .i64))] (.bool v):=by
 rw [zio] at H;refine en [.tmp 4] 21 [0,1] (hx.no _ (by decide)) (fn79 ax) ?_;intro h hh;apply ek;refine rk [2,3] [] hh fun h hh=>?_;repeat apply ek
 refine rk [2,3,5] [] hh fun h hh=>?_;obtain ⟨o,H1,H⟩:=zae H;refine cu [] 2 (fun h bs=>∃ s_:Unit,o=.inr s_/\(True)/\bs=[.cells true 10 (b.l.map (eo .i64)),.cells true 10 (m_.l.map (eo .i64))]) ?_ ?_
 .skip;apply gl;refine jk [2,3,5] (fun m h bs=>∃ (i:Int),zc2 k b m_ m i=some o/\(h 2=.ptr 0 0 10/\h 3=.ptr 1 0 10/\h 5=.int .i64 i)/\bs=[.cells true 10 (b.l.map (eo .i64)),.cells true 10 (m_.l.map (eo .i64))]) ?_ k _ _ ?_;rotate_left
  .exact ⟨0,H1,kq hh,rfl⟩
  clear hh h H1;rintro m h bs ⟨i,H1,hh,rfl⟩;rcases m with _|m
  .rw [zc2] at H1;cases H1
  rw [zc2] at H1;repeat apply ek
  refine rk [2,3,5,7] [] hh fun h hh=>?_;rcases isp H1 with ⟨c1,H1⟩|⟨c1,H1⟩;rotate_left
  .skip;refine cf (f2 hh (zAb c1)) ?_;refine xk ?_;cases H1;exact ce hh ⟨_,rfl,kq hh,rfl⟩
  refine ct (f2 hh (zAa c1)) ?_;refine sk ?_;apply ek;apply gl;obtain ⟨g2,H1⟩:=isg H1;apply ek;refine dk 10 [2,3,5,20] [] [] [] (f3 hh (arIx b g2) (arIx m_ g2)) trivial trivial fun h hh=>?_;rcases isp H1 with ⟨c3,H1⟩|⟨c3,H1⟩;rotate_left
  .skip;refine cf (f2 hh (zAb c3)) ?_;refine sk ?_;refine rk [2,3,5] [] hh fun h hh=>?_;exact rd m hh ⟨(ej.wrap (i+1)),H1,kq hh,rfl⟩
  refine ct (f2 hh (zAa c3)) ?_;apply ek;refine rk [4] [] hh fun h hh=>?_;cases H1;obtain rfl:=sinl H;exact rt hh
 clear hh h;rintro h bs ⟨s_,rfl,hh,rfl⟩;replace H:=sinr H;apply ek;refine rk [4] [] hh fun h hh=>?_;cases H;exact rt hh
def zhd (k:Nat) (p:Pat):Option Bool:=((zex k p.mask).bind fun cz=>((zex k p.bits).bind fun da=>(if cz=true then (if da=true then ((zio k p.bits p.mask).bind fun db=>some db) else some false) else some false)))
theorem zkj (ax:Axs) (hx:NoAx ax) (k:Nat) (p:Pat) (v:Bool) (H:zhd k p=some v):Pure Try.prog (EE ax) [] 61 [ePat p] (.bool v):=by
 rw [zhd] at H;refine en [.tmp 2] 22 [0] (hx.no _ (by decide)) (fn61 ax) ?_;intro h hh;apply ek;refine rk [1] [] hh fun h hh=>?_;obtain ⟨cz,e1,H⟩:=zae H;apply ek;refine rkp [1,3] [] [.bool cz] hh ?_ ?_
 .exact ⟨f5 ((zj1 ax hx k p.mask cz e1 ).call _),trivial⟩
 clear hh h;intro h hh;obtain ⟨da,e2,H⟩:=zae H;apply ek;refine rkp [1,3,4] [] [.bool da] hh ?_ ?_
 .exact ⟨f5 ((zj1 ax hx k p.bits da e2 ).call _),trivial⟩
 clear hh h;intro h hh;rcases isb H with ⟨c3,H⟩|⟨c3,H⟩;rotate_left
 .skip;apply ek;refine rk [2] [] (f2 hh c3) fun h hh=>?_;cases H;exact rt hh
 rcases isb H with ⟨c4,H⟩|⟨c4,H⟩;rotate_left
 .skip;apply ek;refine rk [2] [] (f3 hh c3 c4) fun h hh=>?_;cases H;exact rt hh
 obtain ⟨db,e5,H⟩:=zae H;apply ek;refine rkp [2] [] [.bool db] (f3 hh c3 c4) ?_ ?_
 .exact ⟨f5 (je (zt5 ax hx k p.bits p.mask db e5 ) (by first|rfl|simp only [c3,c4])),trivial⟩
 clear hh h;intro h hh;cases H;exact rt hh
def zgp (k:Nat) (m_:Pat):Option Bool:=((zhd k (⟨m_.mask,m_.bits⟩:Pat)).bind fun ay=>some ay)
theorem zqv (ax:Axs) (hx:NoAx ax) (k:Nat) (m_:Pat) (v:Bool) (H:zgp k m_=some v):Pure Try.prog (EE ax) [] 62 [ePat m_] (.bool v):=by
 rw [zgp] at H;refine en [.tmp 2] 9 [0] (hx.no _ (by decide)) (fn62 ax) ?_;intro h hh;apply ek;refine rk [1] [] hh fun h hh=>?_;obtain ⟨ay,e1,H⟩:=zae H;apply ek;refine rkp [2] [] [.bool ay] hh ?_ ?_
 .exact ⟨f5 ((zkj ax hx k (⟨m_.mask,m_.bits⟩:Pat) ay e1 ).call _),trivial⟩
 clear hh h;intro h hh;cases H;exact rt hh
def zdp (k:Nat) (t:List Rule) (k_:Int):Nat->Int->(List Pat)->Nat->Option (List Pat×Nat)
 |0,_,_,_=>none
 |m+1,i,l,n=>(if i<k_ then (if 0<=i/\i<(t.length:Int) then (if (n+1)*161<=1000000000 then zdp k t k_ m (ej.wrap (i+1)) (l++[(gx t i).mat]) (n+1) else none) else none) else some (l,n))
def zhb (k:Nat) (t:List Rule) (k_:Int):Option (List Pat):=((zdp k t k_ k 0 [] 0:Option (List Pat×Nat)).bind fun s_=>(if s_.1.length=s_.2 then some s_.1 else none))
theorem zt3 (ax:Axs) (hx:NoAx ax) (k:Nat) (t:List Rule) (k_:Int) (v:List Pat) (H:zhb k t k_=some v):Pure Try.prog (EE ax) [] 44 [zah t,.int .i64 k_] (lPat v):=by
 rw [zhb] at H;refine en [.tmp 4] 21 [0,1] (hx.no _ (by decide)) (fn44 ax) ?_;intro h hh;apply ek;refine rk [0,1] [] hh fun h hh=>?_;apply ek;refine rk [0,1,5] [] hh fun h hh=>?_;refine vk 5 20 [0,1,5] hh fun h hh=>?_;repeat apply ek
 refine rk [0,1,5,6] [] hh fun h hh=>?_;obtain ⟨s_,H1,H⟩:=zae H;refine cu [5] 1 (fun h bs=>(h 5=.arr 0 20 0 s_.2 s_.2 (s_.2*20))/\bs=[.cells false (s_.2*20) (vecC ePat s_.1)]) ?_ ?_
 .skip;apply gl;refine jk [0,1,5,6] (fun m h bs=>∃ (i:Int) (l:List Pat) (n:Nat),zdp k t k_ m i l n=some s_/\(h 0=zah t/\h 1=.int .i64 k_/\h 5=.arr 0 20 0 n n (n*20)/\h 6=.int .i64 i)/\bs=[.cells false (n*20) (vecC ePat l)]) ?_ k _ _ ?_;rotate_left
  .exact ⟨0,[],0,H1,kq hh,rfl⟩
  clear hh h H1;rintro m h bs ⟨i,l,n,H1,hh,rfl⟩;rcases m with _|m
  .rw [zdp] at H1;cases H1
  rw [zdp] at H1;repeat apply ek
  refine rk [0,1,5,6,9] [] hh fun h hh=>?_;rcases isp H1 with ⟨c1,H1⟩|⟨c1,H1⟩;rotate_left
  .skip;refine cf (f2 hh (zAb c1)) ?_;refine xk ?_;cases H1;exact ce hh ⟨kq hh,rfl⟩
  refine ct (f2 hh (zAa c1)) ?_;refine sk ?_;apply ek;apply gl;obtain ⟨g2,H1⟩:=isg H1;obtain ⟨g3,H1⟩:=isg H1;refine rg [] [] [.cells false ((n+1)*20) (vecC ePat (l++[(gx t i).mat]))] (fun h=>h 0=zah t/\h 1=.int .i64 k_/\h 5=.arr 0 20 0 (n+1) (n+1) ((n+1)*20)/\h 6=.int .i64 i) (f3 hh (zak g2) ((show vecC ePat [(gx t i).mat]=((((gx t i).mat).mask).l.map (eo .i64)++((((gx t i).mat).bits).l.map (eo .i64))) from zh9.trans rfl))) trivial fun h hh=>?_;refine rk [0,1,5,6] [] hh fun h hh=>?_;exact rd m hh ⟨(ej.wrap (i+1)),(l++[(gx t i).mat]),(n+1),H1,kq hh,rfl⟩
 clear hh h;rintro h bs ⟨hh,rfl⟩;apply ek;refine rk [4] [] hh fun h hh=>?_;obtain ⟨g4,H⟩:=isg H;refine pq 4 (b:=0) (e:=20) (off:=0) (len:=s_.2) (cap:=s_.2) (M:=(s_.2*20)) (s_.1.map ePat) (kq hh) (by rfl) (by omega) (by omega) (by rw [ge];exact ze6 (fun x=>zbv x) g4) (fun t ht=>by obtain ⟨x,_,rfl⟩:=i6.1 ht;first|rfl|exact zhj _|exact zbv _|exact zfs _|exact zbi _ | (rw [fc];rfl)) (by rw [fc]<;>exact g4) (by omega) ?_;rw [ze2 _ _ _ (by simp only [lzA]<;>omega)];simp only [scA];refine gk [4] hh fun h hh=>?_;cases H;exact rt hh
def zho (k:Nat) (h_:Ar 10) (i:Int) (b:Int):Option (Ar 10):=(if 0<=i/\0<16 then (if (0:Int)<=(ej.wrap (i / 16))/\(ej.wrap (i / 16))<(10:Int) then ((zd0 k h_ i).bind fun am=>((zii k i).bind fun aj=>some (h_.set (ej.wrap (i / 16)) (ej.wrap ((gx h_.l (ej.wrap (i / 16)))+(ej.wrap ((ej.wrap (b - am))*aj))))))) else none) else none)
theorem z17 (ax:Axs) (hx:NoAx ax) (k:Nat) (h_:Ar 10) (i:Int) (b:Int) (v:Ar 10) (H:zho k h_ i b=some v):Pure Try.prog (EE ax) [] 57 [.agg (h_.l.map (eo .i64)),.int .i64 i,.int .i64 b] (.agg (v.l.map (eo .i64))):=by
 rw [zho] at H;refine en [.cell 6 43] 24 [0,1,2] (hx.no _ (by decide)) (fn57 ax) ?_;intro h hh;apply ek;refine rk [1,2,3,6] [] hh fun h hh=>?_;obtain ⟨g1,H⟩:=isg H;obtain ⟨g2,H⟩:=isg H;obtain ⟨am,e3,H⟩:=zae H;obtain ⟨aj,e4,H⟩:=zae H;apply ek;refine dk 13 [3,6] [.int .i64 am,.int .i64 aj] [] [] (f3 hh (arIx h_ g2) (yms (k:=.i64) h_ (ej.wrap ((gx h_.l (ej.wrap (i / 16)))+(ej.wrap ((ej.wrap (b - am))*aj)))) g2)) ?_ trivial ?_
 .exact ⟨(zkl ax hx k h_ i am e3 ).call _,(zn3 ax hx k i aj e4 ).call _,trivial⟩
 clear hh h;intro h hh;apply ek;refine rk [6] [] hh fun h hh=>?_;cases H;exact rtc hh
def znd (k:Nat) (q:Pat):Nat->Int->(Ar 10)->(Ar 10)->Option ((Pat×Bool) ⊕ (Ar 10×Ar 10))
 |0,_,_,_=>none
 |m+1,i,x,x2=>(if i<160 then ((zd0 k q.mask i).bind fun am=>(if am=0 then znd k q m (ej.wrap (i+1)) x x2 else ((((zd0 k x i).bind fun bg=>(if bg=1 then ((zd0 k x2 i).bind fun de=>((zd0 k q.bits i).bind fun d9=>some (decide (de≠d9)))) else some false)):Option Bool).bind fun s_2=>(if s_2=true then some (.inl ((⟨zA 10,zA 10⟩:Pat),false)) else ((zho k x i 1).bind fun bd=>((zd0 k q.bits i).bind fun ed=>((zho k x2 i ed).bind fun df=>znd k q m (ej.wrap (i+1)) bd df))))))) else some (.inr (x,x2)))
def ydv (k:Nat) (p:Pat) (q:Pat):Option (Pat×Bool):=((znd k q k 0 p.mask p.bits:Option ((Pat×Bool) ⊕ (Ar 10×Ar 10))).bind fun o=>kg (fun r=>some r) (fun s_=>some ((⟨s_.1,s_.2⟩:Pat),true)) o)
def zy1 (k:Nat) (p:Pat) (q:Pat):Option Bool:=((ydv k p q).bind fun ah=>some ah.2)
def zkk (k:Nat) (q:Pat):Nat->Int->(Ar 10)->(Ar 10)->(List Pat)->Nat->Option (Ar 10×Ar 10×List Pat×Nat)
 |0,_,_,_,_,_=>none
 |m+1,i,x,x2,l,n=>(if i<160 then ((((zd0 k q.mask i).bind fun am=>(if am=0 then some true else ((zd0 k x i).bind fun bg=>some (decide (bg=1))))):Option Bool).bind fun s_2=>(if s_2=true then zkk k q m (ej.wrap (i+1)) x x2 l n else ((zd0 k q.bits i).bind fun de=>((zho k x i 1).bind fun bd=>((zho k x2 i (ej.wrap (1 - de))).bind fun df=>(if (n+1)*161<=1000000000 then ((zho k df i de).bind fun ee=>zkk k q m (ej.wrap (i+1)) bd ee (l++[(⟨bd,df⟩:Pat)]) (n+1)) else none)))))) else some (x,x2,l,n))
def z7d (k:Nat) (p:Pat) (q:Pat):Option (List Pat):=((zy1 k p q).bind fun ba=>(if ba=true then ((zkk k q k 0 p.mask p.bits [] 0:Option (Ar 10×Ar 10×List Pat×Nat)).bind fun s_=>(if s_.2.2.1.length=s_.2.2.2 then some s_.2.2.1 else none)) else some [p]))
def zhc (k:Nat) (l:List Pat) (q:Pat):Nat->Int->(List Pat)->Nat->Option (List Pat×Nat)
 |0,_,_,_=>none
 |m+1,i,l2,n=>(if i<(l.length:Int) then (if 0<=i/\i<(l.length:Int) then ((z7d k (gx l i) q).bind fun dh=>(if (n+dh.length)*161<=1000000000 then (if dh.length=0 then zhc k l q m (ej.wrap (i+1)) l2 n else zhc k l q m (ej.wrap (i+1)) (l2++dh) (n+dh.length)) else none)) else none) else some (l2,n))
def zt6 (k:Nat) (l:List Pat) (q:Pat):Option (List Pat):=((zhc k l q k 0 [] 0:Option (List Pat×Nat)).bind fun s_=>(if s_.1.length=s_.2 then some s_.1 else none))
def zh6 (k:Nat) (a:Ar 10) (b:Ar 10):Nat->Int->Option (Int ⊕ Unit)
 |0,_=>none
 |m+1,i=>(if i<10 then (if 0<=i/\i<(10:Int) then (if (gx a.l i)<(gx b.l i) then some (.inl (-1)) else (if (gx b.l i)<(gx a.l i) then some (.inl 1) else zh6 k a b m (ej.wrap (i+1)))) else none) else some (.inr ()))
def zpj (k:Nat) (a:Ar 10) (b:Ar 10):Option Int:=((zh6 k a b k 0:Option (Int ⊕ Unit)).bind fun o=>kg (fun r=>some r) (fun s_=>some 0) o)
def zli (k:Nat) (l:List Pat):Nat->(List Pat)->Int->Option (List Pat)
 |0,_,_=>none
 |m+1,left,i=>(if i<(l.length:Int) then (if 0<=i/\i<(l.length:Int) then ((zt6 k left (gx l i)).bind fun ef=>zli k l m ef (ej.wrap (i+1))) else none) else some left)
def ziq (k:Nat) (s_:List Pat):Nat->Int->(Ar 10)->Option (Ar 10)
 |0,_,_=>none
 |m+1,i2,x=>(if i2<(s_.length:Int) then (if 0<=i2/\i2<(s_.length:Int) then ((zpj k ((gx s_ i2).bits) x).bind fun bu=>(if bu<0 then ziq k s_ m (ej.wrap (i2+1)) ((gx s_ i2).bits) else ziq k s_ m (ej.wrap (i2+1)) x)) else none) else some x)
def zy2 (k:Nat) (p:Pat) (l:List Pat):Option (Ar 10×Bool):=((zli k l k [p] 0:Option (List Pat)).bind fun s_=>(if (s_.length:Int)=0 then some ((zA 10),false) else (if (0:Int)<=0/\0<(s_.length:Int) then ((ziq k s_ k 1 ((gx s_ 0).bits):Option (Ar 10)).bind fun s_2=>some (s_2,true)) else none)))
def zyz (k:Nat) (t:List Rule) (k_:Int):Option (Ar 10×Bool):=(((if k_<0 then some true else some (decide ((t.length:Int)<=k_))):Option Bool).bind fun s_=>(if s_=true then some ((zA 10),false) else (if 0<=k_/\k_<(t.length:Int) then ((zhb k t k_).bind fun ac=>((zy2 k ((gx t k_).mat) ac).bind fun bc=>some (bc.1,bc.2))) else none)))
def zb7 (k:Nat) (l:List Pat):Nat->Int->Option (Bool ⊕ Unit)
 |0,_=>none
 |m+1,i=>(if i<(l.length:Int) then (if 0<=i/\i<(l.length:Int) then ((zhd k (gx l i)).bind fun ay=>(if ay=true then zb7 k l m (ej.wrap (i+1)) else some (.inl false))) else none) else some (.inr ()))
def zgq (k:Nat) (l:List Pat):Option Bool:=((zb7 k l k 0:Option (Bool ⊕ Unit)).bind fun o=>kg (fun r=>some r) (fun s_=>some true) o)
theorem zqw (ax:Axs) (hx:NoAx ax) (k:Nat) (l:List Pat) (v:Bool) (H:zgq k l=some v):Pure Try.prog (EE ax) [] 68 [lPat l] (.bool v):=by
 rw [zgq] at H;refine en [.tmp 2] 18 [0] (hx.no _ (by decide)) (fn68 ax) ?_;intro h hh;apply ek;refine rk [0] [] hh fun h hh=>?_;repeat apply ek
 refine rk [0,3] [] hh fun h hh=>?_;obtain ⟨o,H1,H⟩:=zae H;refine cu [] 0 (fun h bs=>∃ s_:Unit,o=.inr s_/\(True)/\bs=[]) ?_ ?_
 .skip;apply gl;refine jk [0,3] (fun m h bs=>∃ (i:Int),zb7 k l m i=some o/\(h 0=lPat l/\h 3=.int .i64 i)/\bs=[]) ?_ k _ _ ?_;rotate_left
  .exact ⟨0,H1,kq hh,rfl⟩
  clear hh h H1;rintro m h bs ⟨i,H1,hh,rfl⟩;rcases m with _|m
  .rw [zb7] at H1;cases H1
  rw [zb7] at H1;repeat apply ek
  refine rk [0,3,8] [] hh fun h hh=>?_;rcases isp H1 with ⟨c1,H1⟩|⟨c1,H1⟩;rotate_left
  .skip;refine cf (f2 hh (zAb c1)) ?_;refine xk ?_;cases H1;exact ce hh ⟨_,rfl,kq hh,rfl⟩
  refine ct (f2 hh (zAa c1)) ?_;refine sk ?_;apply ek;apply gl;obtain ⟨g2,H1⟩:=isg H1;obtain ⟨ay,e3,H1⟩:=zae H1;apply ek;refine rkp [0,3,4] [] [.bool ay] (f2 hh (zak g2)) ?_ ?_
  .exact ⟨f5 ((zkj ax hx k (gx l i) ay e3 ).call _),trivial⟩
  clear hh h;intro h hh;apply ek;refine rk [0,3,17] [] hh fun h hh=>?_;rcases isb H1 with ⟨c4,H1⟩|⟨c4,H1⟩;rotate_left
  .skip;refine ct (f2 hh c4) ?_;apply ek;refine rk [2] [] (f2 hh c4) fun h hh=>?_;cases H1;obtain rfl:=sinl H;exact rt hh
  refine cf (f2 hh c4) ?_;refine sk ?_;refine rk [0,3] [] (f2 hh c4) fun h hh=>?_;exact rd m hh ⟨(ej.wrap (i+1)),H1,kq hh,rfl⟩
 clear hh h;rintro h bs ⟨s_,rfl,hh,rfl⟩;replace H:=sinr H;apply ek;refine rk [2] [] hh fun h hh=>?_;cases H;exact rt hh
def zdj (k:Nat) (m_:Pat):Nat->Int->(Ar 10)->Option (Ar 10)
 |0,_,_=>none
 |m+1,i,x=>(if i<160 then ((zd0 k m_.mask i).bind fun am=>(if am=1 then ((zd0 k m_.bits i).bind fun bg=>((zho k x i bg).bind fun bd=>zdj k m_ m (ej.wrap (i+1)) bd)) else zdj k m_ m (ej.wrap (i+1)) x)) else some x)
def zj3 (k:Nat) (m_:Pat) (h_:Ar 10):Option (Ar 10):=((zdj k m_ k 0 h_:Option (Ar 10)).bind fun s_=>some s_)
theorem zxf (ax:Axs) (hx:NoAx ax) (k:Nat) (m_:Pat) (h_:Ar 10) (v:Ar 10) (H:zj3 k m_ h_=some v):Pure Try.prog (EE ax) [] 81 [ePat m_,.agg (h_.l.map (eo .i64))] (.agg (v.l.map (eo .i64))):=by
 rw [zj3] at H;refine en [.cell 4 43] 23 [0,1] (hx.no _ (by decide)) (fn81 ax) ?_;intro h hh;apply ek;refine rk [2,3,4] [] hh fun h hh=>?_;repeat apply ek
 refine rk [2,3,4,5] [] hh fun h hh=>?_;obtain ⟨s_,H1,H⟩:=zae H;refine cu [3,4] 3 (fun h bs=>(h 3=.ptr 1 0 10/\h 4=.ptr 2 0 10)/\bs=[.cells true 20 (m_.mask.l.map (eo .i64)++(m_.bits.l.map (eo .i64))),.cells true 10 (s_.l.map (eo .i64)),.cells true 10 ((zA 10).l.map (eo .i64))]) ?_ ?_
 .skip;apply gl;refine jk [2,3,4,5] (fun m h bs=>∃ (i:Int) (x:Ar 10),zdj k m_ m i x=some s_/\(h 2=.ptr 0 0 20/\h 3=.ptr 1 0 10/\h 4=.ptr 2 0 10/\h 5=.int .i64 i)/\bs=[.cells true 20 (m_.mask.l.map (eo .i64)++(m_.bits.l.map (eo .i64))),.cells true 10 (x.l.map (eo .i64)),.cells true 10 ((zA 10).l.map (eo .i64))]) ?_ k _ _ ?_;rotate_left
  .exact ⟨0,h_,H1,kq hh,rfl⟩
  clear hh h H1;rintro m h bs ⟨i,x,H1,hh,rfl⟩;rcases m with _|m
  .rw [zdj] at H1;cases H1
  rw [zdj] at H1;repeat apply ek
  refine rk [2,3,4,5,7] [] hh fun h hh=>?_;rcases isp H1 with ⟨c1,H1⟩|⟨c1,H1⟩;rotate_left
  .skip;refine cf (f2 hh (zAb c1)) ?_;refine xk ?_;cases H1;exact ce hh ⟨kq hh,rfl⟩
  refine ct (f2 hh (zAa c1)) ?_;refine sk ?_;apply ek;apply gl;obtain ⟨am,e2,H1⟩:=zae H1;apply ek;refine rkp [2,3,4,5,14] [] [.int .i64 am] hh ?_ ?_
  .exact ⟨f5 ((zkl ax hx k m_.mask i am e2 ).call _),trivial⟩
  clear hh h;intro h hh;rcases isp H1 with ⟨c3,H1⟩|⟨c3,H1⟩;rotate_left
  .skip;refine cf (f2 hh (zAb c3)) ?_;refine sk ?_;refine rk [2,3,4,5] [] hh fun h hh=>?_;exact rd m hh ⟨(ej.wrap (i+1)),x,H1,kq hh,rfl⟩
  refine ct (f2 hh (zAa c3)) ?_;obtain ⟨bg,e4,H1⟩:=zae H1;obtain ⟨bd,e5,H1⟩:=zae H1;refine dk 6 [2,3,4,5] [.int .i64 bg] [] [(.agg (bd.l.map (eo .i64)),stL [.cells true 20 (m_.mask.l.map (eo .i64)++(m_.bits.l.map (eo .i64))),.cells true 10 (x.l.map (eo .i64)),.cells true 10 ((zA 10).l.map (eo .i64))])] hh ?_ ?_ ?_
  .exact ⟨(zkl ax hx k m_.bits i bg e4 ).call _,trivial⟩
  .exact ⟨f5 ((z17 ax hx k x i bg bd e5 ).call _),trivial⟩
  clear hh h;intro h hh;refine rk [2,3,4,5] [] hh fun h hh=>?_;exact rd m hh ⟨(ej.wrap (i+1)),bd,H1,kq hh,rfl⟩
 clear hh h;rintro h bs ⟨hh,rfl⟩;apply ek;refine rk [4] [] hh fun h hh=>?_;cases H;exact rtc hh
def zd9 (k:Nat) (p:Pat):Nat->Int->Int->Option Int
 |0,_,_=>none
 |m+1,n,i=>(if i<160 then ((zd0 k p.mask i).bind fun am=>zd9 k p m (ej.wrap ((ej.wrap (n+1)) - am)) (ej.wrap (i+1))) else some n)
def zlj (k:Nat) (p:Pat):Option Int:=((zd9 k p k 0 0:Option Int).bind fun s_=>some s_)
theorem zy3 (ax:Axs) (hx:NoAx ax) (k:Nat) (p:Pat) (v:Int) (H:zlj k p=some v):Pure Try.prog (EE ax) [] 82 [ePat p] (.int .i64 v):=by
 rw [zlj] at H;refine en [.tmp 2] 17 [0] (hx.no _ (by decide)) (fn82 ax) ?_;intro h hh;apply ek;refine rk [1] [] hh fun h hh=>?_;apply ek;refine rk [1,3] [] hh fun h hh=>?_;repeat apply ek
 refine rk [1,3,4] [] hh fun h hh=>?_;obtain ⟨s_,H1,H⟩:=zae H;refine cu [3] 1 (fun h bs=>(h 3=.int .i64 s_)/\bs=[.cells true 20 (p.mask.l.map (eo .i64)++(p.bits.l.map (eo .i64)))]) ?_ ?_
 .skip;apply gl;refine jk [1,3,4] (fun m h bs=>∃ (n:Int) (i:Int),zd9 k p m n i=some s_/\(h 1=.ptr 0 0 20/\h 3=.int .i64 n/\h 4=.int .i64 i)/\bs=[.cells true 20 (p.mask.l.map (eo .i64)++(p.bits.l.map (eo .i64)))]) ?_ k _ _ ?_;rotate_left
  .exact ⟨0,0,H1,kq hh,rfl⟩
  clear hh h H1;rintro m h bs ⟨n,i,H1,hh,rfl⟩;rcases m with _|m
  .rw [zd9] at H1;cases H1
  rw [zd9] at H1;repeat apply ek
  refine rk [1,3,4,6] [] hh fun h hh=>?_;rcases isp H1 with ⟨c1,H1⟩|⟨c1,H1⟩;rotate_left
  .skip;refine cf (f2 hh (zAb c1)) ?_;refine xk ?_;cases H1;exact ce hh ⟨kq hh,rfl⟩
  refine ct (f2 hh (zAa c1)) ?_;refine sk ?_;apply ek;apply gl;obtain ⟨am,e2,H1⟩:=zae H1;refine rkp [1,3,4] [] [.int .i64 am] hh ?_ ?_
  .exact ⟨f5 ((zkl ax hx k p.mask i am e2 ).call _),trivial⟩
  clear hh h;intro h hh;refine rk [1,3,4] [] hh fun h hh=>?_;exact rd m hh ⟨(ej.wrap ((ej.wrap (n+1)) - am)),(ej.wrap (i+1)),H1,kq hh,rfl⟩
 clear hh h;rintro h bs ⟨hh,rfl⟩;apply ek;refine rk [2] [] hh fun h hh=>?_;cases H;exact rt hh
def zen (k:Nat) (l:List Pat):Nat->Int->(Ar 10)->Option (Ar 10)
 |0,_,_=>none
 |m+1,i,x=>(if i<(l.length:Int) then (if 0<=i/\i<(l.length:Int) then ((zj3 k (⟨(gx l i).mask,(gx l i).mask⟩:Pat) x).bind fun ag=>zen k l m (ej.wrap (i+1)) ag) else none) else some x)
def zj2 (k:Nat) (l:List Pat):Option Int:=((zen k l k 0 (zA 10):Option (Ar 10)).bind fun s_=>((zlj k (⟨s_,(zA 10)⟩:Pat)).bind fun di=>some (ej.wrap (160 - di))))
theorem zxe (ax:Axs) (hx:NoAx ax) (k:Nat) (l:List Pat) (v:Int) (H:zj2 k l=some v):Pure Try.prog (EE ax) [] 69 [lPat l] (.int .i64 v):=by
 rw [zj2] at H;refine en [.tmp 2] 30 [0] (hx.no _ (by decide)) (fn69 ax) ?_;intro h hh;apply ek;refine rk [0] [] hh fun h hh=>?_;apply ek;refine rk [0,3] [] hh fun h hh=>?_;repeat apply ek
 refine rk [0,3,4] [] hh fun h hh=>?_;obtain ⟨s_,H1,H⟩:=zae H;refine cu [3] 1 (fun h bs=>(h 3=.ptr 0 0 20)/\bs=[.cells true 20 (s_.l.map (eo .i64)++((zA 10).l.map (eo .i64)))]) ?_ ?_
 .skip;apply gl;refine jk [0,3,4] (fun m h bs=>∃ (i:Int) (x:Ar 10),zen k l m i x=some s_/\(h 0=lPat l/\h 3=.ptr 0 0 20/\h 4=.int .i64 i)/\bs=[.cells true 20 (x.l.map (eo .i64)++((zA 10).l.map (eo .i64)))]) ?_ k _ _ ?_;rotate_left
  .exact ⟨0,(zA 10),H1,kq hh,rfl⟩
  clear hh h H1;rintro m h bs ⟨i,x,H1,hh,rfl⟩;rcases m with _|m
  .rw [zen] at H1;cases H1
  rw [zen] at H1;repeat apply ek
  refine rk [0,3,4,9] [] hh fun h hh=>?_;rcases isp H1 with ⟨c1,H1⟩|⟨c1,H1⟩;rotate_left
  .skip;refine cf (f2 hh (zAb c1)) ?_;refine xk ?_;cases H1;exact ce hh ⟨kq hh,rfl⟩
  refine ct (f2 hh (zAa c1)) ?_;refine sk ?_;apply ek;apply gl;obtain ⟨g2,H1⟩:=isg H1;obtain ⟨ag,e3,H1⟩:=zae H1;refine dk 13 [0,3,4] [] [] [(.agg (ag.l.map (eo .i64)),stL [.cells true 20 (x.l.map (eo .i64)++((zA 10).l.map (eo .i64)))])] (f2 hh (zak g2)) trivial ?_ ?_
  .exact ⟨f5 ((zxf ax hx k (⟨(gx l i).mask,(gx l i).mask⟩:Pat) x ag e3 ).call _),trivial⟩
  clear hh h;intro h hh;refine rk [0,3,4] [] hh fun h hh=>?_;exact rd m hh ⟨(ej.wrap (i+1)),ag,H1,kq hh,rfl⟩
 clear hh h;rintro h bs ⟨hh,rfl⟩;obtain ⟨di,e4,H⟩:=zae H;apply ek;refine rkp [2] [] [.int .i64 di] hh ?_ ?_
 .exact ⟨f5 ((zy3 ax hx k (⟨s_,(zA 10)⟩:Pat) di e4 ).call _),trivial⟩
 clear hh h;intro h hh;cases H;exact rt hh
def zn4 (k:Nat) (l:List Pat) (most:Int):Option Bool:=((zgq k l).bind fun dj=>(if dj=true then (if (l.length:Int)<=most then ((zj2 k l).bind fun dl=>some (decide (dl<=12))) else some false) else some false))
theorem z18 (ax:Axs) (hx:NoAx ax) (k:Nat) (l:List Pat) (most:Int) (v:Bool) (H:zn4 k l most=some v):Pure Try.prog (EE ax) [] 53 [lPat l,.int .i64 most] (.bool v):=by
 rw [zn4] at H;refine en [.tmp 4] 20 [0,1] (hx.no _ (by decide)) (fn53 ax) ?_;intro h hh;apply ek;refine rk [0,1] [] hh fun h hh=>?_;obtain ⟨dj,e1,H⟩:=zae H;apply ek;refine rkp [0,1,5] [] [.bool dj] hh ?_ ?_
 .exact ⟨f5 ((zqw ax hx k l dj e1 ).call _),trivial⟩
 clear hh h;intro h hh;rcases isb H with ⟨c2,H⟩|⟨c2,H⟩;rotate_left
 .skip;apply ek;refine rk [4] [] (f2 hh c2) fun h hh=>?_;cases H;exact rt hh
 rcases isp H with ⟨c3,H⟩|⟨c3,H⟩;rotate_left
 .skip;apply ek;refine rk [4] [] (f3 hh c2 (zAb c3)) fun h hh=>?_;cases H;exact rt hh
 obtain ⟨dl,e4,H⟩:=zae H;apply ek;refine rkp [4] [] [.int .i64 dl] (f3 hh c2 (zAa c3)) ?_ ?_
 .exact ⟨f5 (je (zxe ax hx k l dl e4 ) (by first|rfl|simp only [c2])),trivial⟩
 clear hh h;intro h hh;cases H;exact rt hh
def zjx (k:Nat) (t:List Rule):Option Bool:=((zhb k t (t.length:Int)).bind fun ac=>((zn4 k ac 12).bind fun bh=>some bh))
theorem zxa (ax:Axs) (hx:NoAx ax) (k:Nat) (t:List Rule) (v:Bool) (H:zjx k t=some v):Pure Try.prog (EE ax) [] 30 [zah t] (.bool v):=by
 rw [zjx] at H;refine en [.tmp 2] 8 [0] (hx.no _ (by decide)) (fn30 ax) ?_;intro h hh;apply ek;refine rk [0] [] hh fun h hh=>?_;obtain ⟨ac,e1,H⟩:=zae H;obtain ⟨bh,e2,H⟩:=zae H;apply ek;refine rkp [2] [] [lPat ac,.bool bh] hh ?_ ?_
 .exact ⟨f5 ((zt3 ax hx k t (t.length:Int) ac e1 ).call _),f5 ((z18 ax hx k ac 12 bh e2 ).call _),trivial⟩
 clear hh h;intro h hh;cases H;exact rt hh
def zce (k:Nat) (x:Int):Option Int:=(if (0:Int)<=1 then (if (0:Int)<=2 then (if (0:Int)<=4 then (if (0:Int)<=8 then (if (0:Int)<=16 then (if (0:Int)<=32 then some (iAnd .i64 (ej.wrap (fh.wrap ((fh.wrap ((fh.wrap ((iAnd .u64 (fh.wrap ((iShr .u64 (fh.wrap ((iAnd .u64 (iShr .u64 (fh.wrap ((iAnd .u64 (iShr .u64 x 1) 6148914691236517205)+(iAnd .u64 x 6148914691236517205))) 2) 3689348814741910323)+(iAnd .u64 (fh.wrap ((iAnd .u64 (iShr .u64 x 1) 6148914691236517205)+(iAnd .u64 x 6148914691236517205))) 3689348814741910323))) 4)+(fh.wrap ((iAnd .u64 (iShr .u64 (fh.wrap ((iAnd .u64 (iShr .u64 x 1) 6148914691236517205)+(iAnd .u64 x 6148914691236517205))) 2) 3689348814741910323)+(iAnd .u64 (fh.wrap ((iAnd .u64 (iShr .u64 x 1) 6148914691236517205)+(iAnd .u64 x 6148914691236517205))) 3689348814741910323))))) 1085102592571150095)+(iShr .u64 (iAnd .u64 (fh.wrap ((iShr .u64 (fh.wrap ((iAnd .u64 (iShr .u64 (fh.wrap ((iAnd .u64 (iShr .u64 x 1) 6148914691236517205)+(iAnd .u64 x 6148914691236517205))) 2) 3689348814741910323)+(iAnd .u64 (fh.wrap ((iAnd .u64 (iShr .u64 x 1) 6148914691236517205)+(iAnd .u64 x 6148914691236517205))) 3689348814741910323))) 4)+(fh.wrap ((iAnd .u64 (iShr .u64 (fh.wrap ((iAnd .u64 (iShr .u64 x 1) 6148914691236517205)+(iAnd .u64 x 6148914691236517205))) 2) 3689348814741910323)+(iAnd .u64 (fh.wrap ((iAnd .u64 (iShr .u64 x 1) 6148914691236517205)+(iAnd .u64 x 6148914691236517205))) 3689348814741910323))))) 1085102592571150095) 8)))+(iShr .u64 (fh.wrap ((iAnd .u64 (fh.wrap ((iShr .u64 (fh.wrap ((iAnd .u64 (iShr .u64 (fh.wrap ((iAnd .u64 (iShr .u64 x 1) 6148914691236517205)+(iAnd .u64 x 6148914691236517205))) 2) 3689348814741910323)+(iAnd .u64 (fh.wrap ((iAnd .u64 (iShr .u64 x 1) 6148914691236517205)+(iAnd .u64 x 6148914691236517205))) 3689348814741910323))) 4)+(fh.wrap ((iAnd .u64 (iShr .u64 (fh.wrap ((iAnd .u64 (iShr .u64 x 1) 6148914691236517205)+(iAnd .u64 x 6148914691236517205))) 2) 3689348814741910323)+(iAnd .u64 (fh.wrap ((iAnd .u64 (iShr .u64 x 1) 6148914691236517205)+(iAnd .u64 x 6148914691236517205))) 3689348814741910323))))) 1085102592571150095)+(iShr .u64 (iAnd .u64 (fh.wrap ((iShr .u64 (fh.wrap ((iAnd .u64 (iShr .u64 (fh.wrap ((iAnd .u64 (iShr .u64 x 1) 6148914691236517205)+(iAnd .u64 x 6148914691236517205))) 2) 3689348814741910323)+(iAnd .u64 (fh.wrap ((iAnd .u64 (iShr .u64 x 1) 6148914691236517205)+(iAnd .u64 x 6148914691236517205))) 3689348814741910323))) 4)+(fh.wrap ((iAnd .u64 (iShr .u64 (fh.wrap ((iAnd .u64 (iShr .u64 x 1) 6148914691236517205)+(iAnd .u64 x 6148914691236517205))) 2) 3689348814741910323)+(iAnd .u64 (fh.wrap ((iAnd .u64 (iShr .u64 x 1) 6148914691236517205)+(iAnd .u64 x 6148914691236517205))) 3689348814741910323))))) 1085102592571150095) 8))) 16)))+(iShr .u64 (fh.wrap ((fh.wrap ((iAnd .u64 (fh.wrap ((iShr .u64 (fh.wrap ((iAnd .u64 (iShr .u64 (fh.wrap ((iAnd .u64 (iShr .u64 x 1) 6148914691236517205)+(iAnd .u64 x 6148914691236517205))) 2) 3689348814741910323)+(iAnd .u64 (fh.wrap ((iAnd .u64 (iShr .u64 x 1) 6148914691236517205)+(iAnd .u64 x 6148914691236517205))) 3689348814741910323))) 4)+(fh.wrap ((iAnd .u64 (iShr .u64 (fh.wrap ((iAnd .u64 (iShr .u64 x 1) 6148914691236517205)+(iAnd .u64 x 6148914691236517205))) 2) 3689348814741910323)+(iAnd .u64 (fh.wrap ((iAnd .u64 (iShr .u64 x 1) 6148914691236517205)+(iAnd .u64 x 6148914691236517205))) 3689348814741910323))))) 1085102592571150095)+(iShr .u64 (iAnd .u64 (fh.wrap ((iShr .u64 (fh.wrap ((iAnd .u64 (iShr .u64 (fh.wrap ((iAnd .u64 (iShr .u64 x 1) 6148914691236517205)+(iAnd .u64 x 6148914691236517205))) 2) 3689348814741910323)+(iAnd .u64 (fh.wrap ((iAnd .u64 (iShr .u64 x 1) 6148914691236517205)+(iAnd .u64 x 6148914691236517205))) 3689348814741910323))) 4)+(fh.wrap ((iAnd .u64 (iShr .u64 (fh.wrap ((iAnd .u64 (iShr .u64 x 1) 6148914691236517205)+(iAnd .u64 x 6148914691236517205))) 2) 3689348814741910323)+(iAnd .u64 (fh.wrap ((iAnd .u64 (iShr .u64 x 1) 6148914691236517205)+(iAnd .u64 x 6148914691236517205))) 3689348814741910323))))) 1085102592571150095) 8)))+(iShr .u64 (fh.wrap ((iAnd .u64 (fh.wrap ((iShr .u64 (fh.wrap ((iAnd .u64 (iShr .u64 (fh.wrap ((iAnd .u64 (iShr .u64 x 1) 6148914691236517205)+(iAnd .u64 x 6148914691236517205))) 2) 3689348814741910323)+(iAnd .u64 (fh.wrap ((iAnd .u64 (iShr .u64 x 1) 6148914691236517205)+(iAnd .u64 x 6148914691236517205))) 3689348814741910323))) 4)+(fh.wrap ((iAnd .u64 (iShr .u64 (fh.wrap ((iAnd .u64 (iShr .u64 x 1) 6148914691236517205)+(iAnd .u64 x 6148914691236517205))) 2) 3689348814741910323)+(iAnd .u64 (fh.wrap ((iAnd .u64 (iShr .u64 x 1) 6148914691236517205)+(iAnd .u64 x 6148914691236517205))) 3689348814741910323))))) 1085102592571150095)+(iShr .u64 (iAnd .u64 (fh.wrap ((iShr .u64 (fh.wrap ((iAnd .u64 (iShr .u64 (fh.wrap ((iAnd .u64 (iShr .u64 x 1) 6148914691236517205)+(iAnd .u64 x 6148914691236517205))) 2) 3689348814741910323)+(iAnd .u64 (fh.wrap ((iAnd .u64 (iShr .u64 x 1) 6148914691236517205)+(iAnd .u64 x 6148914691236517205))) 3689348814741910323))) 4)+(fh.wrap ((iAnd .u64 (iShr .u64 (fh.wrap ((iAnd .u64 (iShr .u64 x 1) 6148914691236517205)+(iAnd .u64 x 6148914691236517205))) 2) 3689348814741910323)+(iAnd .u64 (fh.wrap ((iAnd .u64 (iShr .u64 x 1) 6148914691236517205)+(iAnd .u64 x 6148914691236517205))) 3689348814741910323))))) 1085102592571150095) 8))) 16))) 32)))) 127) else none) else none) else none) else none) else none) else none)
theorem zje (ax:Axs) (hx:NoAx ax) (k:Nat) (x:Int) (v:Int) (H:zce k x=some v):Pure Try.prog (EE ax) [] 72 [.int .u64 x] (.int .i64 v):=by
 rw [zce] at H;refine en [.tmp 2] 35 [0] (hx.no _ (by decide)) (fn72 ax) ?_;intro h hh;apply ek;refine rk [0] [] hh fun h hh=>?_;obtain ⟨g1,H⟩:=isg H;apply ek;refine rk [0] [] (f2 hh (zvv (k:=.u64) (k':=.u64) (a:=x) g1)) fun h hh=>?_;obtain ⟨g2,H⟩:=isg H;apply ek;refine rk [0] [] (f2 hh (zvv (k:=.u64) (k':=.u64) (a:=(fh.wrap ((iAnd .u64 (iShr .u64 x 1) 6148914691236517205)+(iAnd .u64 x 6148914691236517205)))) g2)) fun h hh=>?_;obtain ⟨g3,H⟩:=isg H;apply ek;refine rk [0] [] (f2 hh (zvv (k:=.u64) (k':=.u64) (a:=(fh.wrap ((iAnd .u64 (iShr .u64 (fh.wrap ((iAnd .u64 (iShr .u64 x 1) 6148914691236517205)+(iAnd .u64 x 6148914691236517205))) 2) 3689348814741910323)+(iAnd .u64 (fh.wrap ((iAnd .u64 (iShr .u64 x 1) 6148914691236517205)+(iAnd .u64 x 6148914691236517205))) 3689348814741910323)))) g3)) fun h hh=>?_;obtain ⟨g4,H⟩:=isg H;apply ek;refine rk [0] [] (f2 hh (zvv (k:=.u64) (k':=.u64) (a:=(iAnd .u64 (fh.wrap ((iShr .u64 (fh.wrap ((iAnd .u64 (iShr .u64 (fh.wrap ((iAnd .u64 (iShr .u64 x 1) 6148914691236517205)+(iAnd .u64 x 6148914691236517205))) 2) 3689348814741910323)+(iAnd .u64 (fh.wrap ((iAnd .u64 (iShr .u64 x 1) 6148914691236517205)+(iAnd .u64 x 6148914691236517205))) 3689348814741910323))) 4)+(fh.wrap ((iAnd .u64 (iShr .u64 (fh.wrap ((iAnd .u64 (iShr .u64 x 1) 6148914691236517205)+(iAnd .u64 x 6148914691236517205))) 2) 3689348814741910323)+(iAnd .u64 (fh.wrap ((iAnd .u64 (iShr .u64 x 1) 6148914691236517205)+(iAnd .u64 x 6148914691236517205))) 3689348814741910323))))) 1085102592571150095)) g4)) fun h hh=>?_;obtain ⟨g5,H⟩:=isg H;apply ek;refine rk [0] [] (f2 hh (zvv (k:=.u64) (k':=.u64) (a:=(fh.wrap ((iAnd .u64 (fh.wrap ((iShr .u64 (fh.wrap ((iAnd .u64 (iShr .u64 (fh.wrap ((iAnd .u64 (iShr .u64 x 1) 6148914691236517205)+(iAnd .u64 x 6148914691236517205))) 2) 3689348814741910323)+(iAnd .u64 (fh.wrap ((iAnd .u64 (iShr .u64 x 1) 6148914691236517205)+(iAnd .u64 x 6148914691236517205))) 3689348814741910323))) 4)+(fh.wrap ((iAnd .u64 (iShr .u64 (fh.wrap ((iAnd .u64 (iShr .u64 x 1) 6148914691236517205)+(iAnd .u64 x 6148914691236517205))) 2) 3689348814741910323)+(iAnd .u64 (fh.wrap ((iAnd .u64 (iShr .u64 x 1) 6148914691236517205)+(iAnd .u64 x 6148914691236517205))) 3689348814741910323))))) 1085102592571150095)+(iShr .u64 (iAnd .u64 (fh.wrap ((iShr .u64 (fh.wrap ((iAnd .u64 (iShr .u64 (fh.wrap ((iAnd .u64 (iShr .u64 x 1) 6148914691236517205)+(iAnd .u64 x 6148914691236517205))) 2) 3689348814741910323)+(iAnd .u64 (fh.wrap ((iAnd .u64 (iShr .u64 x 1) 6148914691236517205)+(iAnd .u64 x 6148914691236517205))) 3689348814741910323))) 4)+(fh.wrap ((iAnd .u64 (iShr .u64 (fh.wrap ((iAnd .u64 (iShr .u64 x 1) 6148914691236517205)+(iAnd .u64 x 6148914691236517205))) 2) 3689348814741910323)+(iAnd .u64 (fh.wrap ((iAnd .u64 (iShr .u64 x 1) 6148914691236517205)+(iAnd .u64 x 6148914691236517205))) 3689348814741910323))))) 1085102592571150095) 8)))) g5)) fun h hh=>?_;obtain ⟨g6,H⟩:=isg H;apply ek;refine rk [0] [] (f2 hh (zvv (k:=.u64) (k':=.u64) (a:=(fh.wrap ((fh.wrap ((iAnd .u64 (fh.wrap ((iShr .u64 (fh.wrap ((iAnd .u64 (iShr .u64 (fh.wrap ((iAnd .u64 (iShr .u64 x 1) 6148914691236517205)+(iAnd .u64 x 6148914691236517205))) 2) 3689348814741910323)+(iAnd .u64 (fh.wrap ((iAnd .u64 (iShr .u64 x 1) 6148914691236517205)+(iAnd .u64 x 6148914691236517205))) 3689348814741910323))) 4)+(fh.wrap ((iAnd .u64 (iShr .u64 (fh.wrap ((iAnd .u64 (iShr .u64 x 1) 6148914691236517205)+(iAnd .u64 x 6148914691236517205))) 2) 3689348814741910323)+(iAnd .u64 (fh.wrap ((iAnd .u64 (iShr .u64 x 1) 6148914691236517205)+(iAnd .u64 x 6148914691236517205))) 3689348814741910323))))) 1085102592571150095)+(iShr .u64 (iAnd .u64 (fh.wrap ((iShr .u64 (fh.wrap ((iAnd .u64 (iShr .u64 (fh.wrap ((iAnd .u64 (iShr .u64 x 1) 6148914691236517205)+(iAnd .u64 x 6148914691236517205))) 2) 3689348814741910323)+(iAnd .u64 (fh.wrap ((iAnd .u64 (iShr .u64 x 1) 6148914691236517205)+(iAnd .u64 x 6148914691236517205))) 3689348814741910323))) 4)+(fh.wrap ((iAnd .u64 (iShr .u64 (fh.wrap ((iAnd .u64 (iShr .u64 x 1) 6148914691236517205)+(iAnd .u64 x 6148914691236517205))) 2) 3689348814741910323)+(iAnd .u64 (fh.wrap ((iAnd .u64 (iShr .u64 x 1) 6148914691236517205)+(iAnd .u64 x 6148914691236517205))) 3689348814741910323))))) 1085102592571150095) 8)))+(iShr .u64 (fh.wrap ((iAnd .u64 (fh.wrap ((iShr .u64 (fh.wrap ((iAnd .u64 (iShr .u64 (fh.wrap ((iAnd .u64 (iShr .u64 x 1) 6148914691236517205)+(iAnd .u64 x 6148914691236517205))) 2) 3689348814741910323)+(iAnd .u64 (fh.wrap ((iAnd .u64 (iShr .u64 x 1) 6148914691236517205)+(iAnd .u64 x 6148914691236517205))) 3689348814741910323))) 4)+(fh.wrap ((iAnd .u64 (iShr .u64 (fh.wrap ((iAnd .u64 (iShr .u64 x 1) 6148914691236517205)+(iAnd .u64 x 6148914691236517205))) 2) 3689348814741910323)+(iAnd .u64 (fh.wrap ((iAnd .u64 (iShr .u64 x 1) 6148914691236517205)+(iAnd .u64 x 6148914691236517205))) 3689348814741910323))))) 1085102592571150095)+(iShr .u64 (iAnd .u64 (fh.wrap ((iShr .u64 (fh.wrap ((iAnd .u64 (iShr .u64 (fh.wrap ((iAnd .u64 (iShr .u64 x 1) 6148914691236517205)+(iAnd .u64 x 6148914691236517205))) 2) 3689348814741910323)+(iAnd .u64 (fh.wrap ((iAnd .u64 (iShr .u64 x 1) 6148914691236517205)+(iAnd .u64 x 6148914691236517205))) 3689348814741910323))) 4)+(fh.wrap ((iAnd .u64 (iShr .u64 (fh.wrap ((iAnd .u64 (iShr .u64 x 1) 6148914691236517205)+(iAnd .u64 x 6148914691236517205))) 2) 3689348814741910323)+(iAnd .u64 (fh.wrap ((iAnd .u64 (iShr .u64 x 1) 6148914691236517205)+(iAnd .u64 x 6148914691236517205))) 3689348814741910323))))) 1085102592571150095) 8))) 16)))) g6)) ?_
 clear hh h;intro h hh;apply ek;refine rk [2] [] hh fun h hh=>?_;cases H;exact rt hh
def zcx (k:Nat) (x:Int):Option Int:=((zce k x).bind fun dm=>some dm)
theorem zkm (ax:Axs) (hx:NoAx ax) (k:Nat) (x:Int) (v:Int) (H:zcx k x=some v):Pure Try.prog (EE ax) [] 55 [.int .u64 x] (.int .i64 v):=by
 rw [zcx] at H;refine en [.tmp 2] 8 [0] (hx.no _ (by decide)) (fn55 ax) ?_;intro h hh;apply ek;refine rk [0] [] hh fun h hh=>?_;apply ek;refine cf hh ?_;refine sk ?_;obtain ⟨dm,e1,H⟩:=zae H;apply ek;refine rkp [2] [] [.int .i64 dm] hh ?_ ?_
 .exact ⟨f5 ((zje ax hx k x dm e1 ).call _),trivial⟩
 clear hh h;intro h hh;cases H;exact rt hh
def zep (k:Nat) (q:Pat):Nat->Int->Int->(Ar 10)->(Ar 10)->Option (Int×Ar 10×Ar 10)
 |0,_,_,_,_=>none
 |m+1,n,i,x,x2=>(if i<10 then (if 0<=i/\i<(10:Int) then ((zcx k (fh.wrap (iXor .i64 (gx x2.l i) (gx q.bits.l i)))).bind fun cd=>zep k q m (ej.wrap (n+cd)) (ej.wrap (i+1)) (x.set i (zgw .i64 (gx x.l i) (iXor .i64 (gx x2.l i) (gx q.bits.l i)))) (x2.set i (zgw .i64 (gx x2.l i) (iXor .i64 (gx x2.l i) (gx q.bits.l i))))) else none) else some (n,x,x2))
def zhh (k:Nat) (p:Pat) (q:Pat):Option (Pat×Bool):=(if p.mask=q.mask then ((zep k q k 0 0 p.mask p.bits:Option (Int×Ar 10×Ar 10)).bind fun s_=>(if s_.1≠1 then some ((⟨zA 10,zA 10⟩:Pat),false) else some ((⟨s_.2.1,s_.2.2⟩:Pat),true))) else some ((⟨zA 10,zA 10⟩:Pat),false))
theorem zn8 (ax:Axs) (hx:NoAx ax) (k:Nat) (p:Pat) (q:Pat) (v:Pat×Bool) (H:zhh k p q=some v):Pure Try.prog (EE ax) [] 34 [ePat p,ePat q] (tupT [ePat v.1,.bool v.2]):=by
 rw [zhh] at H;refine enN [.cell 4 56,.tmp 5] 53 [0,1] (hx.no _ (by decide)) (fn34 ax) ?_;intro h hh;apply ek;refine rk [2,3,4] [] hh fun h hh=>?_;apply ek;refine rk [2,3,4,6] [] hh fun h hh=>?_;repeat apply ek
 refine rk [2,3,4,6,13] [] (f2 hh ((aq43 ax p.mask q.mask).2)) fun h hh=>?_;rcases isp H with ⟨c1,H⟩|⟨c1,H⟩;rotate_left
 .skip;refine ct (f2 hh (zAb c1)) ?_;apply ek;refine rk [4,5] [] hh fun h hh=>?_;cases H;exact rtc hh
 refine cf (f2 hh (zAa c1)) ?_;refine sk ?_;repeat apply ek
 refine rk [2,3,4,6,15] [] hh fun h hh=>?_;obtain ⟨s_,H1,H⟩:=zae H;refine cu [2,4,6] 3 (fun h bs=>(h 2=.ptr 0 0 20/\h 4=.ptr 2 0 20/\h 6=.int .i64 s_.1)/\bs=[.cells true 20 (s_.2.1.l.map (eo .i64)++(s_.2.2.l.map (eo .i64))),.cells true 20 (q.mask.l.map (eo .i64)++(q.bits.l.map (eo .i64))),.cells true 20 ((zA 10).l.map (eo .i64)++((zA 10).l.map (eo .i64)))]) ?_ ?_
 .skip;apply gl;refine jk [2,3,4,6,15] (fun m h bs=>∃ (n:Int) (i:Int) (x:Ar 10) (x2:Ar 10),zep k q m n i x x2=some s_/\(h 2=.ptr 0 0 20/\h 3=.ptr 1 0 20/\h 4=.ptr 2 0 20/\h 6=.int .i64 n/\h 15=.int .i64 i)/\bs=[.cells true 20 (x.l.map (eo .i64)++(x2.l.map (eo .i64))),.cells true 20 (q.mask.l.map (eo .i64)++(q.bits.l.map (eo .i64))),.cells true 20 ((zA 10).l.map (eo .i64)++((zA 10).l.map (eo .i64)))]) ?_ k _ _ ?_;rotate_left
  .exact ⟨0,0,p.mask,p.bits,H1,kq hh,rfl⟩
  clear hh h H1;rintro m h bs ⟨n,i,x,x2,H1,hh,rfl⟩;rcases m with _|m
  .rw [zep] at H1;cases H1
  rw [zep] at H1;apply ek;refine rk [2,3,4,6,15,16] [] hh fun h hh=>?_;rcases isp H1 with ⟨c2,H1⟩|⟨c2,H1⟩;rotate_left
  .skip;apply ek;refine cf (f2 hh (zAb c2)) ?_;refine xk ?_;cases H1;exact ce hh ⟨kq hh,rfl⟩
  apply ek;refine ct (f2 hh (zAa c2)) ?_;refine sk ?_;apply ek;apply gl;apply ek;refine rk [2,3,4,6,7,15] [] hh fun h hh=>?_;obtain ⟨g3,H1⟩:=isg H1;apply ek;refine dk 8 [2,3,4,6,7,8,15] [] [] [] (f3 hh (zm8 (k:=.i64) (off:=10) (L:=(x.l.map (eo .i64)++(x2.l.map (eo .i64)))) (r:=[]) x2 g3) (zm8 (k:=.i64) (off:=10) (L:=(q.mask.l.map (eo .i64)++(q.bits.l.map (eo .i64)))) (r:=[]) q.bits g3)) trivial trivial fun h hh=>?_;obtain ⟨cd,e4,H1⟩:=zae H1;apply ek;refine rkp [2,3,4,6,7,8,15] [] [.int .i64 cd] hh ?_ ?_
  .exact ⟨f5 ((zkm ax hx k (fh.wrap (iXor .i64 (gx x2.l i) (gx q.bits.l i))) cd e4 ).call _),trivial⟩
  clear hh h;intro h hh;apply ek;refine rk [2,3,4,6,7,8,15] [] (f3 hh (zp0 (k:=.i64) (L:=(x.l.map (eo .i64)++(x2.l.map (eo .i64)))) (r:=(x2.l.map (eo .i64))) x g3) (z9t (k:=.i64) (L:=(x.l.map (eo .i64)++(x2.l.map (eo .i64)))) (r:=(x2.l.map (eo .i64))) (L2:=((x.set i (zgw .i64 (gx x.l i) (iXor .i64 (gx x2.l i) (gx q.bits.l i)))).l.map (eo .i64)++(x2.l.map (eo .i64)))) x (zgw .i64 (gx x.l i) (iXor .i64 (gx x2.l i) (gx q.bits.l i))) g3)) fun h hh=>?_;refine rk [2,3,4,6,15] [] (f3 hh (zm8 (k:=.i64) (off:=10) (L:=((x.set i (zgw .i64 (gx x.l i) (iXor .i64 (gx x2.l i) (gx q.bits.l i)))).l.map (eo .i64)++(x2.l.map (eo .i64)))) (r:=[]) x2 g3) (setAt (k:=.i64) (off:=10) (L:=((x.set i (zgw .i64 (gx x.l i) (iXor .i64 (gx x2.l i) (gx q.bits.l i)))).l.map (eo .i64)++(x2.l.map (eo .i64)))) (r:=[]) (L2:=((x.set i (zgw .i64 (gx x.l i) (iXor .i64 (gx x2.l i) (gx q.bits.l i)))).l.map (eo .i64)++((x2.set i (zgw .i64 (gx x2.l i) (iXor .i64 (gx x2.l i) (gx q.bits.l i)))).l.map (eo .i64)))) (p:=((x.set i (zgw .i64 (gx x.l i) (iXor .i64 (gx x2.l i) (gx q.bits.l i)))).l.map (eo .i64))) x2 (zgw .i64 (gx x2.l i) (iXor .i64 (gx x2.l i) (gx q.bits.l i))) g3)) fun h hh=>?_;refine rk [2,3,4,6,15] [] hh fun h hh=>?_;exact rd m hh ⟨(ej.wrap (n+cd)),(ej.wrap (i+1)),(x.set i (zgw .i64 (gx x.l i) (iXor .i64 (gx x2.l i) (gx q.bits.l i)))),(x2.set i (zgw .i64 (gx x2.l i) (iXor .i64 (gx x2.l i) (gx q.bits.l i)))),H1,kq hh,rfl⟩
 clear hh h;rintro h bs ⟨hh,rfl⟩;repeat apply ek
 refine rk [2,4,50] [] hh fun h hh=>?_;rcases isp H with ⟨c5,H⟩|⟨c5,H⟩;rotate_left
 .skip;refine cf (f2 hh (zAb c5)) ?_;refine sk ?_;apply ek;refine rk [4,5] [] hh fun h hh=>?_;cases H;exact rtc hh
 refine ct (f2 hh (zAa c5)) ?_;apply ek;refine rk [4,5] [] hh fun h hh=>?_;cases H;exact rtc hh
def zhr (k:Nat) (a:Rule) (b:Rule):Option Bool:=((zc7 k (⟨b.prio,b.mat,a.step,a.outs⟩:Rule) b).bind fun dn=>some dn)
theorem zry (ax:Axs) (hx:NoAx ax) (k:Nat) (a:Rule) (b:Rule) (v:Bool) (H:zhr k a b=some v):Pure Try.prog (EE ax) [] 33 [zao a,zao b] (.bool v):=by
 rw [zhr] at H;refine en [.tmp 4] 14 [0,1] (hx.no _ (by decide)) (fn33 ax) ?_;intro h hh;apply ek;refine rk [2,3] [] hh fun h hh=>?_;apply ek;refine ds 5 [(7,some 1),(9,some 0)] [2,3] [] [] [] hh trivial trivial fun h hh=>?_;obtain ⟨dn,e1,H⟩:=zae H;apply ek;refine rkp [4] [] [.bool dn] hh ?_ ?_
 .exact ⟨f5 ((zgo ax hx k (⟨b.prio,b.mat,a.step,a.outs⟩:Rule) b dn e1 ).call _),trivial⟩
 clear hh h;intro h hh;cases H;exact rt hh
def zbq (k:Nat) (t:List Rule) (fv:Pat):Nat->Int->(List Rule)->Nat->Option (List Rule×Nat)
 |0,_,_,_=>none
 |m+1,i,l,n=>(if i<(t.length:Int) then (if 0<=i/\i<(t.length:Int) then ((zht k ((gx t i).mat) fv).bind fun ah=>(if ah.2=true then (if (n+1)*201<=1000000000 then zbq k t fv m (ej.wrap (i+1)) (l++[(⟨(gx t i).prio,ah.1,(gx t i).step,(gx t i).outs⟩:Rule)]) (n+1) else none) else zbq k t fv m (ej.wrap (i+1)) l n)) else none) else some (l,n))
def zfp (k:Nat) (t:List Rule) (fv:Pat):Option (List Rule):=((zbq k t fv k 0 [] 0:Option (List Rule×Nat)).bind fun s_=>(if s_.1.length=s_.2 then some s_.1 else none))
theorem zk0 (ax:Axs) (hx:NoAx ax) (k:Nat) (t:List Rule) (fv:Pat) (v:List Rule) (H:zfp k t fv=some v):Pure Try.prog (EE ax) [] 58 [zah t,.cp (fv.mask.l.map (eo .i64)++(fv.bits.l.map (eo .i64)))] (zah v):=by
 rw [zfp] at H;refine en [.tmp 3] 31 [0,1] (hx.no _ (by decide)) (fn58 ax) ?_;intro h hh;apply ek;refine rk [0,1] [] hh fun h hh=>?_;apply ek;refine rk [0,1,4] [] hh fun h hh=>?_;refine vk 4 23 [0,1,4] hh fun h hh=>?_;repeat apply ek
 refine rk [1,4,9,10,11] [] hh fun h hh=>?_;obtain ⟨s_,H1,H⟩:=zae H;refine cu [4] 1 (fun h bs=>(h 4=.arr 0 23 0 s_.2 s_.2 (s_.2*23))/\bs=[.cells false (s_.2*23) (vecC zao s_.1)]) ?_ ?_
 .skip;apply gl;refine jk [1,4,9,10,11] (fun m h bs=>∃ (i:Int) (l:List Rule) (n:Nat),zbq k t fv m i l n=some s_/\(h 1=.cp (fv.mask.l.map (eo .i64)++(fv.bits.l.map (eo .i64)))/\h 4=.arr 0 23 0 n n (n*23)/\h 9=zah t/\h 10=.int .i64 (t.length:Int)/\h 11=.int .i64 i)/\bs=[.cells false (n*23) (vecC zao l)]) ?_ k _ _ ?_;rotate_left
  .exact ⟨0,[],0,H1,kq hh,rfl⟩
  clear hh h H1;rintro m h bs ⟨i,l,n,H1,hh,rfl⟩;rcases m with _|m
  .rw [zbq] at H1;cases H1
  rw [zbq] at H1;apply ek;refine rk [1,4,9,10,11,12] [] hh fun h hh=>?_;rcases isp H1 with ⟨c1,H1⟩|⟨c1,H1⟩;rotate_left
  .skip;apply ek;refine cf (f2 hh (zAb c1)) ?_;refine xk ?_;cases H1;exact ce hh ⟨kq hh,rfl⟩
  apply ek;refine ct (f2 hh (zAa c1)) ?_;refine sk ?_;apply ek;apply gl;obtain ⟨g2,H1⟩:=isg H1;apply ek;refine rk [1,4,6,9,10,11] [] (f2 hh (zak g2)) fun h hh=>?_;obtain ⟨ah,e3,H1⟩:=zae H1;apply ek;refine rkc [1,4,6,7,8,9,10,11] [] [(.tup [ePat ah.1,.bool ah.2],stL [.cells false (n*23) (vecC zao l),.cells true 23 (eo .i64 ((gx t i).prio) :: ((((gx t i).mat).mask).l.map (eo .i64)++((((gx t i).mat).bits).l.map (eo .i64)++[eo .i64 ((gx t i).step),zbs ((gx t i).outs)])))])] hh ?_ ?_
  .exact ⟨f5 ((zqa ax hx k ((gx t i).mat) fv ah e3 ).call _),trivial⟩
  clear hh h;intro h hh;apply ek;refine rk [1,4,6,7,9,10,11,22] [] hh fun h hh=>?_;rcases isb H1 with ⟨c4,H1⟩|⟨c4,H1⟩;rotate_left
  .skip;refine cf (f2 hh c4) ?_;refine sk ?_;refine rk [1,4,9,10,11] [] (f2 hh c4) fun h hh=>?_;exact rd m hh ⟨(ej.wrap (i+1)),l,n,H1,kq hh,rfl⟩
  refine ct (f2 hh c4) ?_;apply ek;refine rk [1,4,6,9,10,11] [] (f2 hh c4) fun h hh=>?_;obtain ⟨g5,H1⟩:=isg H1;refine rg [] [] [.cells false ((n+1)*23) (vecC zao (l++[(⟨(gx t i).prio,ah.1,(gx t i).step,(gx t i).outs⟩:Rule)])),.cells true 23 (eo .i64 ((gx t i).prio) :: (ah.1.mask.l.map (eo .i64)++(ah.1.bits.l.map (eo .i64)++[eo .i64 ((gx t i).step),zbs ((gx t i).outs)]))),.cells true 20 (ah.1.mask.l.map (eo .i64)++(ah.1.bits.l.map (eo .i64)))] (fun h=>h 1=.cp (fv.mask.l.map (eo .i64)++(fv.bits.l.map (eo .i64)))/\h 4=.arr 0 23 0 (n+1) (n+1) ((n+1)*23)/\h 9=zah t/\h 10=.int .i64 (t.length:Int)/\h 11=.int .i64 i) (f3 hh c4 ((show vecC zao [(⟨(gx t i).prio,ah.1,(gx t i).step,(gx t i).outs⟩:Rule)]=(eo .i64 ((⟨(gx t i).prio,ah.1,(gx t i).step,(gx t i).outs⟩:Rule).prio) :: ((((⟨(gx t i).prio,ah.1,(gx t i).step,(gx t i).outs⟩:Rule).mat).mask).l.map (eo .i64)++((((⟨(gx t i).prio,ah.1,(gx t i).step,(gx t i).outs⟩:Rule).mat).bits).l.map (eo .i64)++[eo .i64 ((⟨(gx t i).prio,ah.1,(gx t i).step,(gx t i).outs⟩:Rule).step),zbs ((⟨(gx t i).prio,ah.1,(gx t i).step,(gx t i).outs⟩:Rule).outs)]))) from zh9.trans rfl))) trivial fun h hh=>?_;refine rk [1,4,9,10,11] [] (f2 hh c4) fun h hh=>?_;exact rd m hh ⟨(ej.wrap (i+1)),(l++[(⟨(gx t i).prio,ah.1,(gx t i).step,(gx t i).outs⟩:Rule)]),(n+1),H1,kq hh,rfl⟩
 clear hh h;rintro h bs ⟨hh,rfl⟩;apply ek;refine rk [3] [] hh fun h hh=>?_;obtain ⟨g6,H⟩:=isg H;refine pq 3 (b:=0) (e:=23) (off:=0) (len:=s_.2) (cap:=s_.2) (M:=(s_.2*23)) (s_.1.map zao) (kq hh) (by rfl) (by omega) (by omega) (by rw [ge];exact ze6 (fun x=>zbi x) g6) (fun t ht=>by obtain ⟨x,_,rfl⟩:=i6.1 ht;first|rfl|exact zhj _|exact zbv _|exact zfs _|exact zbi _ | (rw [fc];rfl)) (by rw [fc]<;>exact g6) (by omega) ?_;rw [ze2 _ _ _ (by simp only [lzA]<;>omega)];simp only [scA];refine gk [3] hh fun h hh=>?_;cases H;exact rt hh
def zir (k:Nat) (t:List Rule) (u:List Rule) (p:Pat):Option Bool:=((zfp k t p).bind fun r1=>((zfp k u p).bind fun r12=>((zgi k r1 r12).bind fun cg=>some cg.2)))
theorem zt7 (ax:Axs) (hx:NoAx ax) (k:Nat) (t:List Rule) (u:List Rule) (p:Pat) (v:Bool) (H:zir k t u p=some v):Pure Try.prog (EE ax) [] 37 [zah t,zah u,ePat p] (.bool v):=by
 rw [zir] at H;refine en [.tmp 6] 22 [0,1,2] (hx.no _ (by decide)) (fn37 ax) ?_;intro h hh;apply ek;refine rk [0,1,5] [] hh fun h hh=>?_;refine zk 5 0 20 true (p.mask.l.map (eo .i64)++(p.bits.l.map (eo .i64))) [0,1,5] hh fun h hh=>?_;apply ek;refine rk [0,1,7] [] hh fun h hh=>?_;obtain ⟨r1,e1,H⟩:=zae H;obtain ⟨r12,e2,H⟩:=zae H;obtain ⟨cg,e3,H⟩:=zae H;apply ek;refine rkc [9] [] [(zah r1,stL [.gone]),(zah r12,stL [.gone]),(.tup [.agg (cg.1.l.map (eo .i64)),.bool cg.2],stL [.gone])] hh ?_ ?_
 .exact ⟨f5 ((zk0 ax hx k t p r1 e1 ).call _),f5 ((zk0 ax hx k u p r12 e2 ).call _),f5 ((zrw ax hx k r1 r12 cg e3 ).call _),trivial⟩
 clear hh h;intro h hh;apply ek;refine rk [6] [] hh fun h hh=>?_;cases H;exact rt hh
theorem bnd3 {n a b:Nat} (h:a<=b) (h2:b<=n):zbx n n (some (.int .i64 (a:Int))) (some (.int .i64 (b:Int))) (some (.int .i64 (n:Int)))=some (a,b,n):=by
  show (bif gd a b && gd b n && gd n n && (Option.isNone (some (Value.int .i64 (n:Int))) || Option.isSome (some (Value.int .i64 (b:Int)))) then some (a,b,n) else none)=_;rw [zar.2 h,zar.2 h2,zar.2 (fd n)];rfl
theorem bndH {n a:Nat} (h:a<=n):zbx n n none (some (.int .i64 (a:Int))) none=some (0,a,n):=by
  have:=ymo (n:=n) (j:=(a:Int)) (by omega)
  rwa [i5] at this
theorem bndL {n a:Nat} (h:a<=n):zbx n n (some (.int .i64 (a:Int))) none none=some (a,n,n):=by
  have:=ymn (n:=n) (i:=(a:Int)) (by omega)
  rwa [i5] at this
theorem bndB {m n:Nat} (h:m<=n):zbx m n (some (.int .i64 (m:Int))) (some (.int .i64 (n:Int))) none=some (m,n,n):=by
  show (bif gd m n && gd n n && gd n n && (Option.isNone (none:Option Value) || Option.isSome (some (Value.int .i64 (n:Int)))) then some (m,n,n) else none)=_;rw [zar.2 h,zar.2 (fd n)];rfl
def delL (l:List Rule) (a b:Nat):List Rule:=l.take a++l.drop b
def zll (k n:Nat) (l:List Rule) (i j:Int):Option (List Rule):=if l.length=n/\0<=i/\i<j/\j<=n/\n*201<=1000000000 then some (delL l i.toNat j.toNat) else none
theorem zc5 (x:Rule):(zao x).cells.length=23:=by
  show (eo .i64 x.prio :: (x.mat.mask.l.map (eo .i64)++(x.mat.bits.l.map (eo .i64)++[eo .i64 x.step,zbs x.outs]))).length=23;simp [x.mat.mask.h,x.mat.bits.h]
theorem z30 (l:List Rule) (n:Nat) (h:n<=l.length):(vecC zao l).take (n*23)=vecC zao (l.take n):=by
  conv=>lhs;rw [<- ip n l,zay]
  rw [kp (by rw [zdi zc5,gq];omega),gz (by rw [zdi zc5,gq];omega)]
theorem z31 (l:List Rule) (n:Nat) (h:n<=l.length):(vecC zao l).drop (n*23)=vecC zao (l.drop n):=by
  conv=>lhs;rw [<- ip n l,zay]
  rw [show n*23=(vecC zao (l.take n)).length from by rw [zdi zc5,gq,Nat.min_eq_left h],List.drop_left]
theorem zyd {l:List Rule} {a b:Nat} (h:a<=b) (h2:b<=l.length):(delL l a b).length=a+(l.length - b):=by
  unfold delL;rw [fi,gq,iw,Nat.min_eq_left (by omega)]
theorem ykt (ax:Axs) {l:List Rule} {n a b:Nat} {z:Bool} (hl:l.length=n) (h:a<b) (h2:b<=n) (hn:n*201<=1000000000) :
    zle (EE ax) (stL [.cells z (n*23) (vecC zao l)]) 28 (.arr 0 23 (b*23) (n - b) (n - b) (n*23)) (.arr 0 23 0 a n (n*23))=some (.arr 0 23 0 (a+(n - b)) n (n*23),stL [.cells z (n*23) (vecC zao (delL l a b++l.drop (a+(n - b))))]):=by
  have hbox:(stL [.cells z (n*23) (vecC zao l)]).box 0=.cells z (n*23) (vecC zao l):=rfl
  have hs:tSrc (stL [.cells z (n*23) (vecC zao l)]) 23 (.arr 0 23 (b*23) (n - b) (n - b) (n*23))=some (n - b,vecC zao (l.drop b)):=by
    unfold tSrc;simp only [hbox];rw [show fg (n*23) (n*23)=true from ij _,show fg 23 23=true from rfl,zar.2 (show b*23+(n - b)*23<=n*23 by omega),fm,fm,cond_true,z31 _ _ (by omega),gz (by rw [zdi zc5,iw,hl];exact fd _)]
  unfold zle;rw [el28 ax];simp only [hs,hbox];rw [zwq (by omega),show fg 23 0=false from rfl,show gd 1000 23=false from rfl,zkg zoh,show fg (n*23) (n*23)=true from ij _,show fg 23 23=true from rfl];simp only [gw,Bool.or_self,cond_false];rw [zar.2 (show a+(n - b)<=n by omega),cond_true];by_cases hb:n - b=0
  . rw [hb,jc,ij,cond_true];have e:b=n:=by omega
    have:delL l a b++l.drop a=l:=by
      unfold delL;rw [e,<- hl,List.drop_length,gn,ip]
    rw [this]
  . rw [show fg (n - b) 0=false from zh2 hb,cond_false,zar.2 (show 0+(a+(n - b))*23<=n*23 by omega),cond_true]
    have e:spl (vecC zao l) (0+a*23) (vecC zao (l.drop b))=vecC zao (delL l a b++l.drop (a+(n - b))):=by
      unfold spl delL;rw [zay,zay,ig,z30 _ _ (by omega),zdi zc5,iw,hl,<- i8,z31 _ _ (by omega)]
    rw [e,ze2 _ _ _ (by simp only [lzA]<;>omega)];simp only [scA]
def zR:List T:=eo .i64 0 :: ((zA 10).l.map (eo .i64)++((zA 10).l.map (eo .i64)++[eo .i64 0,T.nils]))
theorem yk4:zR.length=23:=rfl
theorem yki (ax:Axs) {l:List Rule} {n a b:Nat} {z:Bool} (hl:l.length=n) (h:a<b) (h2:b<=n) :
    zrv (EE ax) (stL [.cells z (n*23) (vecC zao (delL l a b++l.drop (a+(n - b))))]) 28 (.arr 0 23 ((a+(n - b))*23) (n - (a+(n - b))) (n - (a+(n - b))) (n*23))=some (.tup [],stL [.cells z (n*23) (vecC zao (delL l a b)++rep (n - (a+(n - b))) zR)]):=by
  have hd:=zyd (l:=l) (Nat.le_of_lt h) (by omega);rw [hl] at hd;generalize hm:a+(n - b)=m at hd ⊢;unfold zrv;rw [el28 ax];simp only;rw [z8o];simp only;rw [show (stL [.cells z (n*23) (vecC zao (delL l a b++l.drop m))]).box 0=.cells z (n*23) (vecC zao (delL l a b++l.drop m)) from rfl];simp only;rw [show fg (n*23) (n*23)=true from ij _,zwy,show fg 23 23=true from rfl,zab.2 (show 0<(n - m)*23 by omega),zar.2 (show m*23+(n - m)*23<=n*23 by omega)];simp only [fm,cond_true]
  have e:spl (vecC zao (delL l a b++l.drop m)) (m*23) (rep (n - m) zR)=vecC zao (delL l a b)++rep (n - m) zR:=by
    unfold spl;rw [z30 _ _ (by rw [fi,hd];omega),kp (by omega),gz (by omega),z2j,yk4];rw [List.drop_of_length_le (by rw [zdi zc5,fi,hd,iw,hl];omega),gn]
  rw [show (eo .i64 0 :: ((zA 10).l.map (eo .i64)++((zA 10).l.map (eo .i64)++[eo .i64 0,T.nils])))=zR from rfl,e,ze2 _ _ _ (by simp only [lzA]<;>omega)];simp only [scA]
theorem z9f (ax:Axs):∀ (own:List Nat) (ρ:Operand->T) (d:Option Tmp) (t ty:TypeId) (pos:String) (e:Array Go.Edge) (g:Option (Nat×Bool)) (S:TS) (x:Operand),zf0 Try.prog (EE ax) own ρ ⟨d,.call ⟨.builtin .clear,#[x],#[t]⟩,ty,pos,e,g⟩ S=zrv (EE ax) S t (ρ x):=fun own ρ d t ty pos e g S x=>yd0
theorem zu9 (ax:Axs) (hx:NoAx ax) (k n:Nat) (l:List Rule) (i j:Int) (v:List Rule) (H:zll k n l i j=some v) :
    Call Try.prog (EE ax) [] 31 [.arr 0 23 0 n n (n*23),.int .i64 i,.int .i64 j] (stL [.cells false (n*23) (vecC zao l)]) (tupT [zah v]) (stL [.gone]):=by
  unfold zll at H;obtain ⟨⟨hl,g0,g1,g2,g3⟩,H⟩:=isg H;obtain ⟨a,rfl⟩:=jp g0;obtain ⟨b,rfl⟩:=jp (show 0<=j by omega);cases H;rw [i5,i5];have hab:a<b:=by omega
  have hbn:b<=n:=by omega
  have hA:=ykt ax (z:=false) hl hab hbn g3;have hC:=yki ax (z:=false) hl hab hbn;have hD:=zyd (l:=l) (Nat.le_of_lt hab) (by omega);rw [hl] at hD;obtain ⟨m,hm⟩:∃ m,m=a+(n - b):=⟨_,rfl⟩;rw [<- hm] at hA hC hD;refine enB [.tmp 6] 33 [0,1,2] (hx.no _ (by decide)) (fn31 ax) ?_;intro h hh;apply ek;refine rk [0,1,2] [] hh fun h hh=>?_;apply ek;refine rk [0,1,2] [] (f2 hh (bnd3 (n:=n) (Nat.le_of_lt hab) hbn)) fun h hh=>?_;repeat apply ek
  refine rk [0,1,2,16] [] hh fun h hh=>?_;refine cf (f2 hh (zAb (show ¬ (a:Int)=(b:Int) by omega))) ?_;refine sk ?_;apply ek;refine rk [0,1,2,7] [] hh fun h hh=>?_;apply ek;refine dg 6 [] [] [] [.cells false (n*23) (vecC zao (delL l a b++l.drop m))] (fun h=>h 0=.arr 0 23 0 m n (n*23)/\h 7=.int .i64 (n:Int)) (f3 hh (bndH (n:=n) (a:=a) (by omega)) (f2 (bndL (n:=n) (a:=b) hbn) hA)) trivial trivial fun h hh=>?_;apply ek;refine rg [] [] [.cells false (n*23) (vecC zao (delL l a b)++rep (n - m) zR)] (fun h=>h 0=.arr 0 23 0 m n (n*23)) (f3 hh (bndB (m:=m) (n:=n) (by omega)) (f2 hC (z9f ax))) trivial fun h hh=>?_;refine pq 0 (b:=0) (e:=23) (off:=0) (len:=m) (cap:=n) (M:=n*23) ((delL l a b).map zao) (kq hh) (by rfl) (by omega) (by omega) ?_ ?_ ?_ (by omega) ?_
  . rw [ge,kp (by rw [zdi zc5,hD];exact fd _),gz (by rw [zdi zc5,hD];exact fd _)];rfl
  . intro t ht;obtain ⟨x,_,rfl⟩:=i6.1 ht;exact zc5 x
  . rw [fc,hD]
  rw [ze2 _ _ _ (by simp only [lzA]<;>omega)];simp only [scA];refine gk [0] hh fun h hh=>?_;apply ek;refine rk [6] [] hh fun h hh=>?_;exact rtB hh
theorem ya8 (r:Rule) (m:Pat):spl (zao r).cells 1 (m.mask.l.map (eo .i64)++(m.bits.l.map (eo .i64)))=(zao { r with mat:=m }).cells:=by
  have e1:(zao r).cells=eo .i64 r.prio :: (r.mat.mask.l.map (eo .i64)++(r.mat.bits.l.map (eo .i64)++[eo .i64 r.step,zbs r.outs])):=rfl;have e2:(zao { r with mat:=m }).cells=eo .i64 r.prio :: (m.mask.l.map (eo .i64)++(m.bits.l.map (eo .i64)++[eo .i64 r.step,zbs r.outs])):=rfl;rw [e1,e2];have h1:(m.mask.l.map (eo .i64)++m.bits.l.map (eo .i64)).length=20:=by simp [m.mask.h,m.bits.h]
  have h2:(r.mat.mask.l.map (eo .i64)++r.mat.bits.l.map (eo .i64)).length=20:=by simp [r.mat.mask.h,r.mat.bits.h]
  unfold spl;rw [h1,List.take_succ_cons,List.take_zero,show 1+20=20+1 from rfl,jw,<- fy (r.mat.mask.l.map (eo .i64)),<- h2,List.drop_left];simp
theorem yje {a b c xs:List T} {n j:Nat} (ha:a.length=n) (hj:j+xs.length<=b.length):spl (a++(b++c)) (n+j) xs=a++(spl b j xs++c):=by
  subst ha;unfold spl;rw [List.take_length_add_append,Nat.add_assoc,List.drop_length_add_append,kp (by omega),List.drop_append_of_le_length (by omega)];simp only [fy]
theorem z9s {l:List Rule} {i:Nat} (m:Pat) (h:i<l.length):spl (vecC zao l) (i*23+1) (m.mask.l.map (eo .i64)++(m.bits.l.map (eo .i64)))=vecC zao (l.set i { l.getD i default with mat:=m }):=by
  rw [<- zw2 zao 23 { l.getD i default with mat:=m } zc5 h];obtain ⟨h1,h2⟩:=zmi zao 23 zc5 h;have hc:=zc5 (l.getD i default);have hn:=zc5 { l.getD i default with mat:=m };have hm:(m.mask.l.map (eo .i64)++m.bits.l.map (eo .i64)).length=20:=by simp [m.mask.h,m.bits.h]
  rw [h1,z9k h2 (by rw [hn,hc]),yje h2 (by omega),ya8]
def zhe (k:Nat) (t:List Rule) (m_:Merg):Option (List Rule×Int):=(((if m_.i<0 then some true else some (decide ((t.length:Int)<=m_.i))):Option Bool).bind fun s_=>(if s_=true then some ([],1) else (if m_.kind=1 then (if m_.k≠0 then some ([],1) else (if t.length*201<=1000000000 then ((zll k t.length t m_.i (ej.wrap (m_.i+1))).bind fun dp=>some (dp,0)) else none)) else (((if m_.kind=2 then some true else some (decide (m_.kind=3))):Option Bool).bind fun s_2=>(if s_2=true then (((if m_.k<=m_.i then some true else (if (t.length:Int)<=m_.k then some true else (if 0<=m_.i/\m_.i<(t.length:Int) then (if 0<=m_.k/\m_.k<(t.length:Int) then ((zhr k (gx t m_.i) (gx t m_.k)).bind fun aw=>some (!aw)) else none) else none))):Option Bool).bind fun s_3=>(if s_3=true then some ([],1) else (if 0<=m_.i/\m_.i<(t.length:Int) then (if 0<=m_.k/\m_.k<(t.length:Int) then ((zhh k ((gx t m_.i).mat) ((gx t m_.k).mat)).bind fun af=>(if af.2=true then (if t.length*201<=1000000000 then (if m_.i.toNat<t.length then (if m_.k.toNat<(t.set m_.i.toNat ({ t.getD m_.i.toNat default with mat:=af.1 })).length then (((if m_.kind=3 then some m_.i else some m_.k):Option Int).bind fun s_4=>((zll k t.length ((t.set m_.i.toNat ({ t.getD m_.i.toNat default with mat:=af.1 })).set m_.k.toNat ({ (t.set m_.i.toNat ({ t.getD m_.i.toNat default with mat:=af.1 })).getD m_.k.toNat default with mat:=af.1 })) s_4 (ej.wrap (s_4+1))).bind fun bv=>some (bv,0))) else none) else none) else none) else some ([],1))) else none) else none))) else some ([],1))))))
theorem zm3 (ax:Axs) (hx:NoAx ax) (k:Nat) (t:List Rule) (m_:Merg) (v:List Rule×Int) (H:zhe k t m_=some v):Pure Try.prog (EE ax) [] 10 [zah t,zjo m_] (tupT [zah v.1,.int .i64 v.2]):=by
 rw [zhe] at H;refine enN [.tmp 4,.tmp 5] 108 [0,1] (hx.no _ (by decide)) (fn10 ax) ?_;intro h hh;apply ek;refine rk [0,3] [] hh fun h hh=>?_;refine zk 3 0 3 true [.int .i64 m_.kind,.int .i64 m_.i,.int .i64 m_.k] [0,3] hh fun h hh=>?_;obtain ⟨s_,H1,H⟩:=zae H;repeat apply ek
 refine cu [0,3,19] 1 (fun h bs=>(h 0=zah t/\h 3=.cp [.int .i64 m_.kind,.int .i64 m_.i,.int .i64 m_.k]/\h 19=.bool s_)/\bs=[.gone]) ?_ ?_
 .skip;rcases isp H1 with ⟨c1,H1⟩|⟨c1,H1⟩;rotate_left
  .skip;refine rk [0,3,19] [] (f3 hh (zAb c1) (zo3 ax)) fun h hh=>?_;cases H1;exact ce hh ⟨kq hh,rfl⟩
  refine rk [0,3,19] [] (f3 hh (zAa c1) (zo3 ax)) fun h hh=>?_;cases H1;exact ce hh ⟨kq hh,rfl⟩
 clear hh h;rintro h bs ⟨hh,rfl⟩;rcases isb H with ⟨c2,H⟩|⟨c2,H⟩;rotate_left
 .skip;refine cf (f2 hh c2) ?_;refine sk ?_;repeat apply ek
  refine rk [0,3,21] [] (f3 hh c2 (yhq ax)) fun h hh=>?_;apply gl;apply ek;refine rk [0,3,21,22] [] (f2 hh c2) fun h hh=>?_;rcases isp H with ⟨c3,H⟩|⟨c3,H⟩;rotate_left
  .skip;refine cf (f2 hh (zAb c3)) ?_;repeat apply ek
   refine rk [0,3,21,35] [] (f2 hh c2) fun h hh=>?_;obtain ⟨s_2,H1,H⟩:=zae H;refine cu [0,3,35] 1 (fun h bs=>(h 0=zah t/\h 3=.cp [.int .i64 m_.kind,.int .i64 m_.i,.int .i64 m_.k]/\h 35=.bool s_2)/\bs=[.gone]) ?_ ?_
   .skip;rcases isp H1 with ⟨c7,H1⟩|⟨c7,H1⟩;rotate_left
    .skip;refine cf (f2 hh (zAb c7)) ?_;refine rk [0,3,35] [] (f2 hh c2) fun h hh=>?_;cases H1;exact ce hh ⟨kq hh,rfl⟩
    refine ct (f2 hh (zAa c7)) ?_;refine sk ?_;cases H1;exact ce hh ⟨kq (f2 hh (zAa c7)),rfl⟩
   clear hh h;rintro h bs ⟨hh,rfl⟩;rcases isb H with ⟨c8,H⟩|⟨c8,H⟩;rotate_left
   .skip;refine cf (f2 hh c8) ?_;refine sk ?_;apply ek;refine rk [4,5] [] (f3 hh c2 c8) fun h hh=>?_;refine nk 4 23 [4,5] hh fun h hh=>?_;cases H;exact rt hh
   refine ct (f2 hh c8) ?_;obtain ⟨s_3,H1,H⟩:=zae H;repeat apply ek
   refine cu [0,3,63] 1 (fun h bs=>(h 0=zah t/\h 3=.cp [.int .i64 m_.kind,.int .i64 m_.i,.int .i64 m_.k]/\h 63=.bool s_3)/\bs=[.gone]) ?_ ?_
   .skip;rcases isp H1 with ⟨c9,H1⟩|⟨c9,H1⟩;rotate_left
    .skip;rcases isp H1 with ⟨c10,H1⟩|⟨c10,H1⟩;rotate_left
     .skip;obtain ⟨g11,H1⟩:=isg H1;obtain ⟨g12,H1⟩:=isg H1;obtain ⟨aw,e13,H1⟩:=zae H1;refine dk 23 [0,3,63] [] [] [(.bool aw,stL [.gone])] (f3 hh (zAb c9) (f3 (zAb c10) c2 (f3 c8 (zak g11) (f3 (zak g12) (zo3 ax) (ztd ax))))) trivial ?_ ?_
      .exact ⟨f5 (je (zry ax hx k (gx t m_.i) (gx t m_.k) aw e13 ) (by first|rfl|simp only [c2,c8])),trivial⟩
      clear hh h;intro h hh;cases H1;exact ce hh ⟨kq hh,rfl⟩
     refine dk 23 [0,3,63] [] [] [] (f3 hh (zAb c9) (f3 (zAa c10) c2 (f3 c8 (zo3 ax) (ztd ax)))) trivial trivial fun h hh=>?_;cases H1;exact ce hh ⟨kq hh,rfl⟩
    refine dk 23 [0,3,63] [] [] [] (f3 hh (zAa c9) (f3 c2 c8 (f2 (zo3 ax) (ztd ax)))) trivial trivial fun h hh=>?_;cases H1;exact ce hh ⟨kq hh,rfl⟩
   clear hh h;rintro h bs ⟨hh,rfl⟩;rcases isb H with ⟨c14,H⟩|⟨c14,H⟩;rotate_left
   .skip;refine cf (f2 hh c14) ?_;refine sk ?_;obtain ⟨g15,H⟩:=isg H;obtain ⟨g16,H⟩:=isg H;obtain ⟨af,e17,H⟩:=zae H;apply ek;refine dk 12 [0,3,6,7] [] [] [(.tup [ePat af.1,.bool af.2],stL [.gone])] (f3 hh c2 (f3 c8 c14 (f3 (zak g15) (zak g16) (f2 (zo3 ax) (ztd ax))))) trivial ?_ ?_
    .exact ⟨f5 (je (zn8 ax hx k ((gx t m_.i).mat) ((gx t m_.k).mat) af e17 ) (by first|rfl|simp only [c2,c8,c14])),trivial⟩
    clear hh h;intro h hh;refine zk 6 1 20 true (af.1.mask.l.map (eo .i64)++(af.1.bits.l.map (eo .i64))) [0,3,6,7] hh fun h hh=>?_;repeat apply ek
    refine rk [0,3,6,81] [] (f3 hh c2 (f2 c8 c14)) fun h hh=>?_;rcases isb H with ⟨c18,H⟩|⟨c18,H⟩;rotate_left
    .skip;refine ct (f2 hh c18) ?_;apply ek;refine rk [4,5] [] (f3 hh c2 (f3 c8 c14 c18)) fun h hh=>?_;refine nk 4 23 [4,5] hh fun h hh=>?_;cases H;exact rt hh
    refine cf (f2 hh c18) ?_;refine sk ?_;obtain ⟨g19,H⟩:=isg H;apply ek;refine rkc [3,6,8] [] [(.arr 2 23 0 t.length t.length (t.length*23),stL [.gone,.gone,.cells false (t.length*23) (vecC zao t)])] (f3 hh c2 (f3 c8 c14 c18)) ?_ ?_
    .exact ⟨(by have q:=qs (zj8 ax hx t g19) (by simp only [zbj,idsA,idsB,fm]) (by simp only [zbj,idsA,idsB,fm]) [.gone,.gone];(try simp only [c2,c8,c14,c18] at q);exact q),trivial⟩
    clear hh h;intro h hh;obtain ⟨g20,H⟩:=isg H;obtain ⟨g21,H⟩:=isg H;apply ek;refine ds 10 [(6,none),(88,none),(93,some 2)] [3,8] [] [] [] (f3 hh c2 (f3 c8 c14 (f3 c18 (z9s af.1 g20) (f3 (z9s af.1 g21) (zo3 ax) (ztd ax))))) trivial trivial fun h hh=>?_;apply ek;refine rk [3,8,9] [] (f3 hh c2 (f3 c8 c14 (f2 c18 (ztd ax)))) fun h hh=>?_;repeat apply ek
    refine rk [3,8,9,100] [] (f3 hh c2 (f3 c8 c14 (f2 c18 (yhq ax)))) fun h hh=>?_;obtain ⟨s_4,H1,H⟩:=zae H;refine cu [8,9] 3 (fun h bs=>(h 8=.arr 2 23 0 t.length t.length (t.length*23)/\h 9=.int .i64 s_4)/\bs=[.gone,.gone,.cells false (t.length*23) (vecC zao ((t.set m_.i.toNat ({ t.getD m_.i.toNat default with mat:=af.1 })).set m_.k.toNat ({ (t.set m_.i.toNat ({ t.getD m_.i.toNat default with mat:=af.1 })).getD m_.k.toNat default with mat:=af.1 })))]) ?_ ?_
    .skip;rcases isp H1 with ⟨c22,H1⟩|⟨c22,H1⟩;rotate_left
     .skip;refine cf (f2 hh (zAb c22)) ?_;refine sk ?_;cases H1;exact ce hh ⟨kq hh,rfl⟩
     refine ct (f2 hh (zAa c22)) ?_;refine rk [8,9] [] (f3 hh c2 (f3 c8 c14 (f2 c18 (zo3 ax)))) fun h hh=>?_;cases H1;exact ce hh ⟨kq hh,rfl⟩
    clear hh h;rintro h bs ⟨hh,rfl⟩;obtain ⟨bv,e23,H⟩:=zae H;apply ek;refine rkc [4,5] [] [(zah bv,stL [.gone,.gone,.gone])] (f3 hh c2 (f3 c8 c14 c18)) ?_ ?_
    .exact ⟨ca [2] (zu9 ax hx k t.length ((t.set m_.i.toNat ({ t.getD m_.i.toNat default with mat:=af.1 })).set m_.k.toNat ({ (t.set m_.i.toNat ({ t.getD m_.i.toNat default with mat:=af.1 })).getD m_.k.toNat default with mat:=af.1 })) s_4 (ej.wrap (s_4+1)) bv e23),trivial⟩
    clear hh h;intro h hh;cases H;exact rt hh
   refine ct (f2 hh c14) ?_;apply ek;refine rk [4,5] [] (f3 hh c2 (f2 c8 c14)) fun h hh=>?_;refine nk 4 23 [4,5] hh fun h hh=>?_;cases H;exact rt hh
  refine ct (f2 hh (zAa c3)) ?_;repeat apply ek
  refine rk [0,3,26] [] (f3 hh c2 (ztd ax)) fun h hh=>?_;rcases isp H with ⟨c4,H⟩|⟨c4,H⟩;rotate_left
  .skip;refine cf (f2 hh (zAb c4)) ?_;refine sk ?_;obtain ⟨g5,H⟩:=isg H;obtain ⟨dp,e6,H⟩:=zae H;apply ek;refine dc 1 [3] [4,5] [] [] [(.arr 1 23 0 t.length t.length (t.length*23),stL [.gone,.cells false (t.length*23) (vecC zao t)]),(zah dp,stL [.gone,.gone])] (f3 hh c2 (zo3 ax)) trivial ?_ ?_
   .exact ⟨(by have q:=qs (zj8 ax hx t g5) (by simp only [zbj,idsA,idsB,fm]) (by simp only [zbj,idsA,idsB,fm]) [.gone];(try simp only [c2] at q);exact q),ca [1] (zu9 ax hx k t.length t m_.i (ej.wrap (m_.i+1)) dp e6),trivial⟩
   clear hh h;intro h hh;cases H;exact rt hh
  refine ct (f2 hh (zAa c4)) ?_;apply ek;refine rk [4,5] [] (f2 hh c2) fun h hh=>?_;refine nk 4 23 [4,5] hh fun h hh=>?_;cases H;exact rt hh
 refine ct (f2 hh c2) ?_;apply ek;refine rk [4,5] [] (f2 hh c2) fun h hh=>?_;refine nk 4 23 [4,5] hh fun h hh=>?_;cases H;exact rt hh
def zea (k:Nat) (t:List Rule) (m_:Merg):Option (List Rule×Int):=((zhe k t m_).bind fun af=>(if af.2≠0 then some ([],af.2) else (if 0<=m_.i/\m_.i<(t.length:Int) then (((if m_.kind≠1 then (if 0<=m_.k/\m_.k<(t.length:Int) then ((zhh k ((gx t m_.i).mat) ((gx t m_.k).mat)).bind fun bj=>some (bj.1.mask,bj.1.bits)) else none) else some (((gx t m_.i).mat).mask,((gx t m_.i).mat).bits)):Option (Ar 10×Ar 10)).bind fun s_=>((zir k t af.1 (⟨s_.1,s_.2⟩:Pat)).bind fun dq=>(if dq=true then some (af.1,0) else some ([],7)))) else none)))
theorem zgr (ax:Axs) (hx:NoAx ax) (k:Nat) (t:List Rule) (m_:Merg) (v:List Rule×Int) (H:zea k t m_=some v):Pure Try.prog (EE ax) [] 12 [zah t,zjo m_] (tupT [zah v.1,.int .i64 v.2]):=by
 rw [zea] at H;refine enN [.tmp 4,.tmp 5] 44 [0,1] (hx.no _ (by decide)) (fn12 ax) ?_;intro h hh;apply ek;refine rk [0,3] [] hh fun h hh=>?_;obtain ⟨af,e1,H⟩:=zae H;apply ek;refine rkp [0,3,6,7] [] [.tup [zah af.1,.int .i64 af.2]] hh ?_ ?_
 .exact ⟨f5 ((zm3 ax hx k t m_ af e1 ).call _),trivial⟩
 clear hh h;intro h hh;repeat apply ek
 refine rk [0,3,6,7,16] [] hh fun h hh=>?_;rcases isp H with ⟨c2,H⟩|⟨c2,H⟩;rotate_left
 .skip;refine cf (f2 hh (zAb c2)) ?_;refine sk ?_;obtain ⟨g3,H⟩:=isg H;apply ek;refine rk [0,3,6,8] [] (f2 hh (zak g3)) fun h hh=>?_;repeat apply ek
  refine rk [0,3,6,8,26] [] hh fun h hh=>?_;obtain ⟨s_,H1,H⟩:=zae H;refine cu [0,6,8] 2 (fun h bs=>(h 0=zah t/\h 6=zah af.1/\h 8=.ptr 1 0 20)/\bs=[.cells true 3 [.int .i64 m_.kind,.int .i64 m_.i,.int .i64 m_.k],.cells true 20 (s_.1.l.map (eo .i64)++(s_.2.l.map (eo .i64)))]) ?_ ?_
  .skip;rcases isp H1 with ⟨c4,H1⟩|⟨c4,H1⟩;rotate_left
   .skip;refine cf (f2 hh (zAb c4)) ?_;refine sk ?_;cases H1;exact ce hh ⟨kq hh,rfl⟩
   refine ct (f2 hh (zAa c4)) ?_;obtain ⟨g5,H1⟩:=isg H1;obtain ⟨bj,e6,H1⟩:=zae H1;refine dk 7 [0,6,8] [] [] [(.tup [ePat bj.1,.bool bj.2],stL [.cells true 3 [.int .i64 m_.kind,.int .i64 m_.i,.int .i64 m_.k],.cells true 20 ((((gx t m_.i).mat).mask).l.map (eo .i64)++((((gx t m_.i).mat).bits).l.map (eo .i64)))])] (f2 hh (zak g5)) trivial ?_ ?_
   .exact ⟨f5 ((zn8 ax hx k ((gx t m_.i).mat) ((gx t m_.k).mat) bj e6 ).call _),trivial⟩
   clear hh h;intro h hh;cases H1;exact ce hh ⟨kq hh,rfl⟩
  clear hh h;rintro h bs ⟨hh,rfl⟩;obtain ⟨dq,e7,H⟩:=zae H;repeat apply ek
  refine rkp [6,42] [] [.bool dq] hh ?_ ?_
  .exact ⟨f5 ((zt7 ax hx k t af.1 (⟨s_.1,s_.2⟩:Pat) dq e7 ).call _),trivial⟩
  clear hh h;intro h hh;rcases isb H with ⟨c8,H⟩|⟨c8,H⟩;rotate_left
  .skip;refine ct (f2 hh c8) ?_;apply ek;refine rk [4,5] [] (f2 hh c8) fun h hh=>?_;refine nk 4 23 [4,5] hh fun h hh=>?_;cases H;exact rt hh
  refine cf (f2 hh c8) ?_;refine sk ?_;apply ek;refine rk [4,5] [] (f2 hh c8) fun h hh=>?_;cases H;exact rt hh
 refine ct (f2 hh (zAa c2)) ?_;apply ek;refine rk [4,5] [] hh fun h hh=>?_;refine nk 4 23 [4,5] hh fun h hh=>?_;cases H;exact rt hh
def zfc (k:Nat) (l:List Merg):Nat->(List Rule)->Int->Option (Int ⊕ (List Rule))
 |0,_,_=>none
 |m+1,t2,i=>(if i<(l.length:Int) then (if 0<=i/\i<(l.length:Int) then ((zea k t2 (gx l i)).bind fun ag=>(if ag.2≠0 then some (.inl ag.2) else zfc k l m ag.1 (ej.wrap (i+1)))) else none) else some (.inr t2))
def zi5 (k:Nat) (t:List Rule) (u:List Rule) (l:List Merg):Option Int:=((zfc k l k t 0:Option (Int ⊕ (List Rule))).bind fun o=>kg (fun r=>some r) (fun s_=>((znb k s_ u).bind fun du=>(if du=true then some 0 else some 7))) o)
theorem zfb (ax:Axs) (hx:NoAx ax) (k:Nat) (t:List Rule) (u:List Rule) (l:List Merg) (v:Int) (H:zi5 k t u l=some v):Pure Try.prog (EE ax) [] 16 [zah t,zah u,zlb l] (.int .i64 v):=by
 rw [zi5] at H;refine en [.tmp 6] 32 [0,1,2] (hx.no _ (by decide)) (fn16 ax) ?_;intro h hh;apply ek;refine rk [0,1,2] [] hh fun h hh=>?_;repeat apply ek
 refine rk [0,1,11,12,13] [] hh fun h hh=>?_;obtain ⟨o,H1,H⟩:=zae H;refine cu [0,1] 0 (fun h bs=>∃ s_:List Rule,o=.inr s_/\(h 0=zah s_/\h 1=zah u)/\bs=[]) ?_ ?_
 .skip;apply gl;refine jk [0,1,11,12,13] (fun m h bs=>∃ (t2:List Rule) (i:Int),zfc k l m t2 i=some o/\(h 0=zah t2/\h 1=zah u/\h 11=zlb l/\h 12=.int .i64 (l.length:Int)/\h 13=.int .i64 i)/\bs=[]) ?_ k _ _ ?_;rotate_left
  .exact ⟨t,0,H1,kq hh,rfl⟩
  clear hh h H1;rintro m h bs ⟨t2,i,H1,hh,rfl⟩;rcases m with _|m
  .rw [zfc] at H1;cases H1
  rw [zfc] at H1;apply ek;refine rk [0,1,11,12,13,14] [] hh fun h hh=>?_;rcases isp H1 with ⟨c1,H1⟩|⟨c1,H1⟩;rotate_left
  .skip;apply ek;refine cf (f2 hh (zAb c1)) ?_;refine xk ?_;cases H1;exact ce hh ⟨_,rfl,kq hh,rfl⟩
  apply ek;refine ct (f2 hh (zAa c1)) ?_;refine sk ?_;apply ek;apply gl;obtain ⟨g2,H1⟩:=isg H1;apply ek;refine rk [0,1,8,11,12,13] [] (f2 hh (zak g2)) fun h hh=>?_;obtain ⟨ag,e3,H1⟩:=zae H1;apply ek;refine rkp [1,9,10,11,12,13] [] [.tup [zah ag.1,.int .i64 ag.2]] hh ?_ ?_
  .exact ⟨f5 ((zgr ax hx k t2 (gx l i) ag e3 ).call _),trivial⟩
  clear hh h;intro h hh;repeat apply ek
  refine rk [1,9,10,11,12,13,24] [] hh fun h hh=>?_;rcases isp H1 with ⟨c4,H1⟩|⟨c4,H1⟩;rotate_left
  .skip;refine cf (f2 hh (zAb c4)) ?_;refine sk ?_;refine rk [0,1,11,12,13] [] hh fun h hh=>?_;refine rk [0,1,11,12,13] [] hh fun h hh=>?_;exact rd m hh ⟨ag.1,(ej.wrap (i+1)),H1,kq hh,rfl⟩
  refine ct (f2 hh (zAa c4)) ?_;apply ek;refine rk [6] [] hh fun h hh=>?_;cases H1;obtain rfl:=sinl H;exact rt hh
 clear hh h;rintro h bs ⟨s_,rfl,hh,rfl⟩;replace H:=sinr H;obtain ⟨du,e5,H⟩:=zae H;repeat apply ek
 refine rkp [31] [] [.bool du] hh ?_ ?_
 .exact ⟨f5 ((zt2 ax hx k s_ u du e5 ).call _),trivial⟩
 clear hh h;intro h hh;rcases isb H with ⟨c6,H⟩|⟨c6,H⟩;rotate_left
 .skip;refine ct (f2 hh c6) ?_;apply ek;refine rk [6] [] (f2 hh c6) fun h hh=>?_;cases H;exact rt hh
 refine cf (f2 hh c6) ?_;refine sk ?_;apply ek;refine rk [6] [] (f2 hh c6) fun h hh=>?_;cases H;exact rt hh
def zfa (k:Nat) (t:List Rule):List Merg->Option Bool
 |[]=>some true
 |m_ :: r_=>((zea k t m_).bind fun ag=>(if ag.2=0 then some false else zfa k t  r_ ))
def zi4 (k:Nat) (t:List Rule):Option Bool:=(if zsn t then zfa k t  (zqy t)  else none)
theorem ze9 (ax:Axs) (hx:NoAx ax) (k:Nat) (t:List Rule) (v:Bool) (H:zi4 k t=some v):Pure Try.prog (EE ax) [] 19 [zah t] (.bool v):=by
 rw [zi4] at H;refine en [.cell 2 4] 17 [0] (hx.no _ (by decide)) (fn19 ax) ?_;intro h hh;apply ek;refine rk [1,2] [] hh fun h hh=>?_;repeat apply ek
 refine rkp [1,2,7] [] [.fn 66 [] [.cp [zah t]]] hh ?_ ?_
 .exact ⟨f5 ((zvq ax hx t).call _),trivial⟩
 clear hh h;intro h hh;apply gl;obtain ⟨g1,H⟩:=isg H;refine rm [1,2,7] t (fun L bs=>zfa k t  L  = some v/\bs=[.cells true 1 [zah t],.cells true 1 [.bool false]]) (fun h=>h 1=.ptr 0 0 1/\h 2=.ptr 1 0 1/\h 7=.fn 66 [] [.cp [zah t]]) hh g1 ⟨H,rfl⟩ ?_ ?_
 .clear hh h H;rintro hO hhO m_ r_ bs1 ⟨H,rfl⟩;rw [zfa] at H;refine gk [1,2,8] hhO ?_;intro h hh;refine rk [1,2,3] [] hh fun h hh=>?_;apply gl;obtain ⟨ag,e2,H⟩:=zae H;apply ek;refine rkp [1,2,5] [] [.tup [zah ag.1,.int .i64 ag.2]] hh ?_ ?_
  .exact ⟨f5 ((zgr ax hx k t m_ ag e2 ).call _),trivial⟩
  clear hh h;intro h hh;apply ek;refine rk [1,2,16] [] hh fun h hh=>?_;rcases isp H with ⟨c3,H⟩|⟨c3,H⟩;rotate_left
  .skip;refine cf (f2 hh (zAb c3)) ?_;refine sk ?_;exact re hh ⟨H,rfl⟩
  refine ct (f2 hh (zAa c3)) ?_;apply ek;refine rk [2] [] hh fun h hh=>?_;cases H;refine xq ?_;clear hh h;revert hO;intro h hh;exact rqc hh
 clear hh h H;rintro h hh bs2 ⟨H,rfl⟩;rw [zfa] at H;apply ek;refine rk [2] [] hh fun h hh=>?_;cases H;exact rtc hh
def zb2 (k:Nat) (x:List Rule) (l:List Merg) (n:Nat) (kc:(List Rule)->(List Merg)->Nat->Option (List Rule×List Merg)):List Merg->Option (List Rule×List Merg)
 |[]=>(if l.length=n then some (x,l) else none)
 |m_ :: r_=>((zea k x m_).bind fun ag=>(if ag.2=0 then (if (n+1)*25<=1000000000 then kc ag.1 (l++[m_]) (n+1) else none) else zb2 k x l n kc  r_ ))
def zb1 (k:Nat)  : Nat->(List Rule)->(List Merg)->Nat->Option (List Rule×List Merg)
 |0,_,_,_=>none
 |m+1,x,l,n=>(if zsn x then zb2 k x l n (zb1 k  m)  (zqy x)  else none)
def zb8 (k:Nat) (t:List Rule):Option (List Rule×List Merg):=(if t.length*201<=1000000000 then (if t.length=t.length then zb1 k  k t [] 0 else none) else none)
theorem zc8 (ax:Axs) (hx:NoAx ax) (k:Nat) (t:List Rule) (v:List Rule×List Merg) (H:zb8 k t=some v):Pure Try.prog (EE ax) [] 23 [zah t] (tupT [zah v.1,zlb v.2]):=by
 rw [zb8] at H;refine enN [.tmp 2,.tmp 3] 28 [0] (hx.no _ (by decide)) (fn23 ax) ?_;intro h hh;apply ek;refine rk [1] [] hh fun h hh=>?_;apply TW.scope;apply ek;refine rk [1,4] [] hh fun h hh=>?_;refine vz 1 0 3 ?_;obtain ⟨g1,H⟩:=isg H;apply ek;refine rkc [1,4] [] [(.arr 3 23 0 t.length t.length (t.length*23),stL [.cells true 1 [zah t],.cells true 1 [.arr 2 3 0 0 0 0],.cells false 0 (vecC zjo []),.cells false (t.length*23) (vecC zao t)])] hh ?_ ?_
 .exact ⟨(by have q:=qs (zj8 ax hx t g1) (by simp only [zbj,idsA,idsB,fm]) (by simp only [zbj,idsA,idsB,fm]) [.cells true 1 [zah t],.cells true 1 [.arr 2 3 0 0 0 0],.cells false 0 (vecC zjo [])];exact q),trivial⟩
 clear hh h;intro h hh;obtain ⟨g2,H⟩:=isg H;apply ek;refine fz (e:=23) (len:=t.length) (M:=(t.length*23)) 0 3 0 (t.map zao) (by rw [ge];exact ze6 (e:=23) (fun x=>zbi x) g2) (fun t ht=>by obtain ⟨x,_,rfl⟩:=i6.1 ht;first|rfl|exact zhj _|exact zbv _|exact zfs _|exact zbi _ | (rw [fc];rfl)) (by rw [fc]<;>exact g2) ?_;refine lk ?_;apply gl;refine jk [1,4] (fun m h bs=>∃ (x:List Rule) (l:List Merg) (n:Nat),zb1 k  m x l n=some v/\(h 1=.ptr 0 0 1/\h 4=.ptr 1 0 1)/\bs=[.cells true 1 [zah x],.cells true 1 [.arr 2 3 0 n n (n*3)],.cells false (n*3) (vecC zjo l),.gone]) ?_ k _ _ ?_;rotate_left
 .exact ⟨t,[],0,H,kq hh,rfl⟩
 clear hh h H;rintro m h bs ⟨x,l,n,H,hh,rfl⟩;rcases m with _|m
 .rw [zb1] at H;cases H
 rw [zb1] at H;apply gl;repeat apply ek
 refine rkp [1,4,11] [] [.fn 66 [] [.cp [zah x]]] hh ?_ ?_
 .exact ⟨f5 ((zvq ax hx x).call _),trivial⟩
 clear hh h;intro h hh;apply gl;obtain ⟨g3,H⟩:=isg H;refine rm [1,4,11] x (fun L bs=>zb2 k x l n (zb1 k  m)  L  = some v/\bs=[.cells true 1 [zah x],.cells true 1 [.arr 2 3 0 n n (n*3)],.cells false (n*3) (vecC zjo l),.gone]) (fun h=>h 1=.ptr 0 0 1/\h 4=.ptr 1 0 1/\h 11=.fn 66 [] [.cp [zah x]]) hh g3 ⟨H,rfl⟩ ?_ ?_
 .clear hh h H;rintro hO hhO m_ r_ bs1 ⟨H,rfl⟩;rw [zb2] at H;refine gk [1,4,12] hhO ?_;intro h hh;refine rk [1,4,5] [] hh fun h hh=>?_;apply gl;obtain ⟨ag,e4,H⟩:=zae H;apply ek;refine rkp [1,4,5,6,7] [] [.tup [zah ag.1,.int .i64 ag.2]] hh ?_ ?_
  .exact ⟨f5 ((zgr ax hx k x m_ ag e4 ).call _),trivial⟩
  clear hh h;intro h hh;apply ek;refine rk [1,4,5,6,20] [] hh fun h hh=>?_;rcases isp H with ⟨c5,H⟩|⟨c5,H⟩;rotate_left
  .skip;refine cf (f2 hh (zAb c5)) ?_;refine sk ?_;exact re hh ⟨H,rfl⟩
  refine ct (f2 hh (zAa c5)) ?_;obtain ⟨g6,H⟩:=isg H;apply ek;refine rg [] [] [.cells true 1 [zah ag.1],.cells true 1 [.arr 2 3 0 (n+1) (n+1) ((n+1)*3)],.cells false ((n+1)*3) (vecC zjo (l++[m_])),.gone,.cells true 3 [.int .i64 m_.kind,.int .i64 m_.i,.int .i64 m_.k]] (fun h=>h 1=.ptr 0 0 1/\h 4=.ptr 1 0 1) (f3 hh (el40 ax) (sr40 ax)) trivial fun h hh=>?_;refine xm ?_;clear hh h;revert hO;intro h hh;exact rd m hh ⟨ag.1,(l++[m_]),(n+1),H,kq hh,rfl⟩
 clear hh h H;rintro h hh bs2 ⟨H,rfl⟩;rw [zb2] at H;apply ek;refine dk 2 [2,3] [] [] [] hh trivial trivial fun h hh=>?_;obtain ⟨g7,H⟩:=isg H;refine pq 3 (b:=2) (e:=3) (off:=0) (len:=n) (cap:=n) (M:=(n*3)) (l.map zjo) (kq hh) (by rfl) (by omega) (by omega) (by rw [ge];exact ze6 (fun _=>rfl) g7) (fun t ht=>by obtain ⟨x,_,rfl⟩:=i6.1 ht;first|rfl|exact zhj _|exact zbv _|exact zfs _|exact zbi _ | (rw [fc];rfl)) (by rw [fc]<;>exact g7) (by omega) ?_;rw [ze2 _ _ _ (by simp only [lzA]<;>omega)];simp only [scA];refine gk [2,3] hh fun h hh=>?_;cases H;exact rt hh
def zrz (k:Nat)  : Option Bool:=((zfo k [[49152,0,3],[49152,16384,3]]).bind fun ai=>((zfo k [[49152,0,3],[49152,16384,3],[32768,32768,3]]).bind fun cj=>((zfo k [[49152,49152,3],[32768,32768,3]]).bind fun ck=>((zfo k [[49152,0,3],[32768,0,(-1)],[49152,16384,3]]).bind fun cl=>((zfo k [[49152,0,3],[49152,16384,(-1)],[32768,32768,3]]).bind fun cn=>((zb8 k ai).bind fun ab=>((zb8 k cj).bind fun ak=>((zb8 k ck).bind fun au=>((zb8 k cl).bind fun bn=>((zb8 k cn).bind fun bo=>(((if (ab.1.length:Int)=1 then (if (ab.2.length:Int)=1 then (if (0:Int)<=0/\0<(ab.1.length:Int) then (if (((gx ab.1 0).mat).mask)=(mkAr 10 [32768]) then ((zi5 k ai ab.1 ab.2).bind fun av=>(if av=0 then (if (ak.1.length:Int)=1 then (if (ak.2.length:Int)=2 then (if (0:Int)<=0/\0<(ak.1.length:Int) then some (decide (((gx ak.1 0).mat)=(⟨zA 10,zA 10⟩:Pat))) else none) else some false) else some false) else some false)) else some false) else none) else some false) else some false):Option Bool).bind fun s_=>(((if (au.1.length:Int)=1 then (if (au.2.length:Int)=1 then (if (0:Int)<=0/\0<(au.2.length:Int) then (if (gx au.2 0)=(⟨1,0,0⟩:Merg) then (if (bn.1.length:Int)=1 then (if (bn.2.length:Int)=2 then (if (bo.1.length:Int)=2 then some (decide ((bo.2.length:Int)=1)) else some false) else some false) else some false) else some false) else none) else some false) else some false):Option Bool).bind fun s_2=>((zhe k ai (⟨2,1,0⟩:Merg)).bind fun af=>((zea k ai (⟨1,1,0⟩:Merg)).bind fun ag=>(if s_=true then (if s_2=true then (if af.2=1 then (if ag.2=7 then ((zi4 k ai).bind fun bp=>(if bp=true then some false else ((zi4 k ab.1).bind fun bw=>(if bw=true then ((zi5 k ai ai ab.2).bind fun be=>some (decide (be=7))) else some false)))) else some false) else some false) else some false) else some false)))))))))))))))
theorem zy6 (ax:Axs) (hx:NoAx ax) (hs:ax 9=none) (k:Nat)  (v:Bool) (H:zrz k  = some v):Pure Try.prog (EE ax) [] 9 [] (.bool v):=by
 rw [zrz] at H;refine en [.tmp 0] 187 [] hs (fn9 ax) ?_;intro h hh;apply ek;refine rk [] [] hh fun h hh=>?_;obtain ⟨ai,e1,H⟩:=zae H;apply ek;refine rkp [1] [] [zah ai] (f2 hh (el63 ax)) ?_ ?_
 .exact ⟨f5 ((zfm ax hx k [[49152,0,3],[49152,16384,3]] ai e1 ).call _),trivial⟩
 clear hh h;intro h hh;obtain ⟨cj,e2,H⟩:=zae H;apply ek;refine rkp [1,2] [] [zah cj] (f2 hh (el63 ax)) ?_ ?_
 .exact ⟨f5 ((zfm ax hx k [[49152,0,3],[49152,16384,3],[32768,32768,3]] cj e2 ).call _),trivial⟩
 clear hh h;intro h hh;obtain ⟨ck,e3,H⟩:=zae H;apply ek;refine rkp [1,2,3] [] [zah ck] (f2 hh (el63 ax)) ?_ ?_
 .exact ⟨f5 ((zfm ax hx k [[49152,49152,3],[32768,32768,3]] ck e3 ).call _),trivial⟩
 clear hh h;intro h hh;obtain ⟨cl,e4,H⟩:=zae H;apply ek;refine rkp [1,2,3,4] [] [zah cl] (f2 hh (el63 ax)) ?_ ?_
 .exact ⟨f5 ((zfm ax hx k [[49152,0,3],[32768,0,(-1)],[49152,16384,3]] cl e4 ).call _),trivial⟩
 clear hh h;intro h hh;obtain ⟨cn,e5,H⟩:=zae H;apply ek;refine rkp [1,2,3,4,5] [] [zah cn] (f2 hh (el63 ax)) ?_ ?_
 .exact ⟨f5 ((zfm ax hx k [[49152,0,3],[49152,16384,(-1)],[32768,32768,3]] cn e5 ).call _),trivial⟩
 clear hh h;intro h hh;obtain ⟨ab,e6,H⟩:=zae H;apply ek;refine rkp [1,2,3,4,5,6,7] [] [.tup [zah ab.1,zlb ab.2]] hh ?_ ?_
 .exact ⟨f5 ((zc8 ax hx k ai ab e6 ).call _),trivial⟩
 clear hh h;intro h hh;obtain ⟨ak,e7,H⟩:=zae H;apply ek;refine rkp [1,3,4,5,6,7,8,9] [] [.tup [zah ak.1,zlb ak.2]] hh ?_ ?_
 .exact ⟨f5 ((zc8 ax hx k cj ak e7 ).call _),trivial⟩
 clear hh h;intro h hh;obtain ⟨au,e8,H⟩:=zae H;apply ek;refine rkp [1,4,5,6,7,8,9,10,11] [] [.tup [zah au.1,zlb au.2]] hh ?_ ?_
 .exact ⟨f5 ((zc8 ax hx k ck au e8 ).call _),trivial⟩
 clear hh h;intro h hh;obtain ⟨bn,e9,H⟩:=zae H;apply ek;refine rkp [1,5,6,7,8,9,10,11,12,13] [] [.tup [zah bn.1,zlb bn.2]] hh ?_ ?_
 .exact ⟨f5 ((zc8 ax hx k cl bn e9 ).call _),trivial⟩
 clear hh h;intro h hh;obtain ⟨bo,e10,H⟩:=zae H;apply ek;refine rkp [1,6,7,8,9,10,11,12,13,14,15] [] [.tup [zah bo.1,zlb bo.2]] hh ?_ ?_
 .exact ⟨f5 ((zc8 ax hx k cn bo e10 ).call _),trivial⟩
 clear hh h;intro h hh;obtain ⟨s_,H1,H⟩:=zae H;apply ek;refine cu [1,6,7,10,11,12,13,14,15,16] 0 (fun h bs=>(h 1=zah ai/\h 6=zah ab.1/\h 7=zlb ab.2/\h 10=zah au.1/\h 11=zlb au.2/\h 12=zah bn.1/\h 13=zlb bn.2/\h 14=zah bo.1/\h 15=zlb bo.2/\h 16=.bool s_)/\bs=[]) ?_ ?_
 .skip;rcases isp H1 with ⟨c11,H1⟩|⟨c11,H1⟩;rotate_left
  .skip;refine rk [1,6,7,10,11,12,13,14,15,16] [] (f2 hh (zAb c11)) fun h hh=>?_;cases H1;exact ce hh ⟨kq hh,rfl⟩
  rcases isp H1 with ⟨c12,H1⟩|⟨c12,H1⟩;rotate_left
  .skip;refine rk [1,6,7,10,11,12,13,14,15,16] [] (f3 hh (zAa c11) (zAb c12)) fun h hh=>?_;cases H1;exact ce hh ⟨kq hh,rfl⟩
  obtain ⟨g13,H1⟩:=isg H1;rcases isp H1 with ⟨c14,H1⟩|⟨c14,H1⟩;rotate_left
  .skip;refine rk [1,6,7,10,11,12,13,14,15,16] [] (f3 hh (zAa c11) (f3 (zAa c12) (zAb c14) (f3 (zak g13) (ba43 ax) (f2 (bc43 ax) ((aq43 ax (((gx ab.1 0).mat).mask) (mkAr 10 [32768])).1))))) fun h hh=>?_;cases H1;exact ce hh ⟨kq hh,rfl⟩
  obtain ⟨av,e15,H1⟩:=zae H1;rcases isp H1 with ⟨c16,H1⟩|⟨c16,H1⟩;rotate_left
  .skip;refine rkp [1,6,7,10,11,12,13,14,15,16] [] [.int .i64 av] (f3 hh (zAa c11) (f3 (zAa c12) (zAa c14) (f3 (zAb c16) (zak g13) (f3 (ba43 ax) (bc43 ax) ((aq43 ax (((gx ab.1 0).mat).mask) (mkAr 10 [32768])).1))))) ?_ ?_
   .exact ⟨f5 ((zfb ax hx k ai ab.1 ab.2 av e15 ).call _),trivial⟩
   clear hh h;intro h hh;cases H1;exact ce hh ⟨kq hh,rfl⟩
  rcases isp H1 with ⟨c17,H1⟩|⟨c17,H1⟩;rotate_left
  .skip;refine rkp [1,6,7,10,11,12,13,14,15,16] [] [.int .i64 av] (f3 hh (zAa c11) (f3 (zAa c12) (zAa c14) (f3 (zAa c16) (zAb c17) (f3 (zak g13) (ba43 ax) (f2 (bc43 ax) ((aq43 ax (((gx ab.1 0).mat).mask) (mkAr 10 [32768])).1)))))) ?_ ?_
   .exact ⟨f5 ((zfb ax hx k ai ab.1 ab.2 av e15 ).call _),trivial⟩
   clear hh h;intro h hh;cases H1;exact ce hh ⟨kq hh,rfl⟩
  rcases isp H1 with ⟨c18,H1⟩|⟨c18,H1⟩;rotate_left
  .skip;refine rkp [1,6,7,10,11,12,13,14,15,16] [] [.int .i64 av] (f3 hh (zAa c11) (f3 (zAa c12) (zAa c14) (f3 (zAa c16) (zAa c17) (f3 (zAb c18) (zak g13) (f3 (ba43 ax) (bc43 ax) ((aq43 ax (((gx ab.1 0).mat).mask) (mkAr 10 [32768])).1)))))) ?_ ?_
   .exact ⟨f5 ((zfb ax hx k ai ab.1 ab.2 av e15 ).call _),trivial⟩
   clear hh h;intro h hh;cases H1;exact ce hh ⟨kq hh,rfl⟩
  obtain ⟨g19,H1⟩:=isg H1;refine rkp [1,6,7,10,11,12,13,14,15,16] [] [.int .i64 av] (f3 hh (zAa c11) (f3 (zAa c12) (zAa c14) (f3 (zAa c16) (zAa c17) (f3 (zAa c18) (zak g13) (f3 (ba43 ax) (bc43 ax) (f3 ((aq43 ax (((gx ab.1 0).mat).mask) (mkAr 10 [32768])).1) (zak g19) ((aq56 ax ((gx ak.1 0).mat) (⟨zA 10,zA 10⟩:Pat)).1))))))) ?_ ?_
  .exact ⟨f5 ((zfb ax hx k ai ab.1 ab.2 av e15 ).call _),trivial⟩
  clear hh h;intro h hh;cases H1;exact ce hh ⟨kq hh,rfl⟩
 clear hh h;rintro h bs ⟨hh,rfl⟩;obtain ⟨s_2,H1,H⟩:=zae H;apply ek;refine cu [1,6,7,16,17] 0 (fun h bs=>(h 1=zah ai/\h 6=zah ab.1/\h 7=zlb ab.2/\h 16=.bool s_/\h 17=.bool s_2)/\bs=[]) ?_ ?_
 .skip;rcases isp H1 with ⟨c20,H1⟩|⟨c20,H1⟩;rotate_left
  .skip;refine rk [1,6,7,16,17] [] (f2 hh (zAb c20)) fun h hh=>?_;cases H1;exact ce hh ⟨kq hh,rfl⟩
  rcases isp H1 with ⟨c21,H1⟩|⟨c21,H1⟩;rotate_left
  .skip;refine rk [1,6,7,16,17] [] (f3 hh (zAa c20) (zAb c21)) fun h hh=>?_;cases H1;exact ce hh ⟨kq hh,rfl⟩
  obtain ⟨g22,H1⟩:=isg H1;rcases isp H1 with ⟨c23,H1⟩|⟨c23,H1⟩;rotate_left
  .skip;refine rk [1,6,7,16,17] [] (f3 hh (zAa c20) (f3 (zAa c21) (zAb c23) (f2 (zak g22) ((aq30 ax (gx au.2 0) (⟨1,0,0⟩:Merg)).1)))) fun h hh=>?_;cases H1;exact ce hh ⟨kq hh,rfl⟩
  rcases isp H1 with ⟨c24,H1⟩|⟨c24,H1⟩;rotate_left
  .skip;refine rk [1,6,7,16,17] [] (f3 hh (zAa c20) (f3 (zAa c21) (zAa c23) (f3 (zAb c24) (zak g22) ((aq30 ax (gx au.2 0) (⟨1,0,0⟩:Merg)).1)))) fun h hh=>?_;cases H1;exact ce hh ⟨kq hh,rfl⟩
  rcases isp H1 with ⟨c25,H1⟩|⟨c25,H1⟩;rotate_left
  .skip;refine rk [1,6,7,16,17] [] (f3 hh (zAa c20) (f3 (zAa c21) (zAa c23) (f3 (zAa c24) (zAb c25) (f2 (zak g22) ((aq30 ax (gx au.2 0) (⟨1,0,0⟩:Merg)).1))))) fun h hh=>?_;cases H1;exact ce hh ⟨kq hh,rfl⟩
  rcases isp H1 with ⟨c26,H1⟩|⟨c26,H1⟩;rotate_left
  .skip;refine rk [1,6,7,16,17] [] (f3 hh (zAa c20) (f3 (zAa c21) (zAa c23) (f3 (zAa c24) (zAa c25) (f3 (zAb c26) (zak g22) ((aq30 ax (gx au.2 0) (⟨1,0,0⟩:Merg)).1))))) fun h hh=>?_;cases H1;exact ce hh ⟨kq hh,rfl⟩
  refine rk [1,6,7,16,17] [] (f3 hh (zAa c20) (f3 (zAa c21) (zAa c23) (f3 (zAa c24) (zAa c25) (f3 (zAa c26) (zak g22) ((aq30 ax (gx au.2 0) (⟨1,0,0⟩:Merg)).1))))) fun h hh=>?_;cases H1;exact ce hh ⟨kq hh,rfl⟩
 clear hh h;rintro h bs ⟨hh,rfl⟩;obtain ⟨af,e27,H⟩:=zae H;apply ek;refine rkp [1,6,7,16,17,19] [] [.tup [zah af.1,.int .i64 af.2]] hh ?_ ?_
 .exact ⟨f5 ((zm3 ax hx k ai (⟨2,1,0⟩:Merg) af e27 ).call _),trivial⟩
 clear hh h;intro h hh;obtain ⟨ag,e28,H⟩:=zae H;apply ek;refine rkp [1,6,7,16,17,19,21] [] [.tup [zah ag.1,.int .i64 ag.2]] hh ?_ ?_
 .exact ⟨f5 ((zgr ax hx k ai (⟨1,1,0⟩:Merg) ag e28 ).call _),trivial⟩
 clear hh h;intro h hh;rcases isb H with ⟨c29,H⟩|⟨c29,H⟩;rotate_left
 .skip;apply ek;refine rk [0] [] (f2 hh c29) fun h hh=>?_;cases H;exact rt hh
 rcases isb H with ⟨c30,H⟩|⟨c30,H⟩;rotate_left
 .skip;apply ek;refine rk [0] [] (f3 hh c29 c30) fun h hh=>?_;cases H;exact rt hh
 rcases isp H with ⟨c31,H⟩|⟨c31,H⟩;rotate_left
 .skip;apply ek;refine rk [0] [] (f3 hh c29 (f2 c30 (zAb c31))) fun h hh=>?_;cases H;exact rt hh
 rcases isp H with ⟨c32,H⟩|⟨c32,H⟩;rotate_left
 .skip;apply ek;refine rk [0] [] (f3 hh c29 (f3 c30 (zAa c31) (zAb c32))) fun h hh=>?_;cases H;exact rt hh
 obtain ⟨bp,e33,H⟩:=zae H;rcases isb H with ⟨c34,H⟩|⟨c34,H⟩;rotate_left
 .skip;obtain ⟨bw,e35,H⟩:=zae H;rcases isb H with ⟨c36,H⟩|⟨c36,H⟩;rotate_left
  .skip;apply ek;refine rkp [0] [] [.bool bp,.bool bw] (f3 hh c29 (f3 c30 (zAa c31) (f3 (zAa c32) c34 c36))) ?_ ?_
   .exact ⟨f5 (je (ze9 ax hx k ai bp e33 ) (by first|rfl|simp only [c29,c30,c34,c36])),f5 (je (ze9 ax hx k ab.1 bw e35 ) (by first|rfl|simp only [c29,c30,c34,c36])),trivial⟩
   clear hh h;intro h hh;cases H;exact rt hh
  obtain ⟨be,e37,H⟩:=zae H;apply ek;refine rkp [0] [] [.bool bp,.bool bw,.int .i64 be] (f3 hh c29 (f3 c30 (zAa c31) (f3 (zAa c32) c34 c36))) ?_ ?_
  .exact ⟨f5 (je (ze9 ax hx k ai bp e33 ) (by first|rfl|simp only [c29,c30,c34,c36])),f5 (je (ze9 ax hx k ab.1 bw e35 ) (by first|rfl|simp only [c29,c30,c34,c36])),f5 (je (zfb ax hx k ai ai ab.2 be e37 ) (by first|rfl|simp only [c29,c30,c34,c36])),trivial⟩
  clear hh h;intro h hh;cases H;exact rt hh
 apply ek;refine rkp [0] [] [.bool bp] (f3 hh c29 (f3 c30 (zAa c31) (f2 (zAa c32) c34))) ?_ ?_
 .exact ⟨f5 (je (ze9 ax hx k ai bp e33 ) (by first|rfl|simp only [c29,c30,c34])),trivial⟩
 clear hh h;intro h hh;cases H;exact rt hh
theorem zt8:zrz 200=some true:=by kernel_rfl
theorem zvf {ax:Axs} (hax:zph Try.prog GG LL ax) {f:FuncId} {fn:Func} {body:Code} (hfn:(EE ax).fn.at f=some fn) (hb:fn.body=some body) {args:List T} {vs:Array Value} {W:World} (h:RtL W args vs.toList) (hp:Pure Try.prog (EE ax) [] f args (.bool true)) :
    Calls Try.prog f vs W fun e W'=>e=.returned (.bool true)/\Below W.heap.size W W':=by
  obtain ⟨A,xs,k⟩:=entL (N:=W.heap.size) (G:=GG) (K:=[]) rfl (fun p hp=>by simp at hp) (fun g hg=>by simp [has,GG] at hg) h [];have e:([]:List Seg)++A++[]=A:=by simp
  have kr:=k.vr [];have kl:=k.vl [];have ka:=k.at_ [];rw [e] at kr kl ka;obtain ⟨r1,r2,r3,r4⟩:=z9h (G:=GG) (N:=W.heap.size) (K:=[]) (A:=A) rfl (fun p hp=>by simp at hp) (fun p hp=>by simp at hp) (fun g hg=>by simp [has,GG] at hg) ka
  have hT:TRel [] (Low W.heap.size) bx0 ts0 (St (W.heap.size+A.length) (famS W.heap.size [] A) 0 [] []) :=
    ⟨⟨_,rfl⟩,r2,fun f hf=>by have:f<W.heap.size:=hf;show f<W.heap.size+A.length;omega,fun f hf=>absurd hf zks,fun b b' l l' f hb=>by simp [bx0] at hb,fun b _=>rfl,fun b z N l hb=>by simp [ts0] at hb,fun b l hb=>by simp [ts0] at hb,fun x hx=>by simp at hx⟩
  obtain ⟨v,s2,A',β',e1,e2,e3,e4⟩:=hp.2.2 _ _ _ xs hT kl;cases e3;refine (yff yeo z5x hax hfn hb (args':=vs) e1 kr r1 r4 r2 r3).mono ?_;rintro e w' ⟨σ',v',rfl,k1,k2⟩;exact ⟨by rw [z4v 3 rfl k1],k2⟩
theorem z7h (w:World):Calls Try.prog 9 #[] w fun e w'=>e=.returned (.bool true)/\Below w.heap.size w w' :=
  zvf (zph.none yg0) (fn9 _) rfl .nil (zy6 (fun _=>none) ⟨fun _ _=>rfl⟩ rfl 200 true zt8)
noncomputable def axS:Axs:=yc6 9 (z1q (.bool true)) fun _=>none
theorem ymq:zph Try.prog GG LL axS:=(zph.none yg0).add (ymp (L:=LL) (ax:=fun _=>none) z5x (fn9 fun _=>none) rfl rfl z7h)
theorem yks:axS 9=some (z1q (.bool true)):=z8k _ _ _
theorem yc5:yky axS:=by
  refine ⟨fun f hf=>yfo _ _ fun h=>?_,rfl,rfl,fun A β s vargs hT hv=>?_⟩
  . subst h;rw [ij] at hf;cases hf
  . cases hv;exact ⟨.bool true,s,A,β,yfi (k:=z1q (.bool true)) yks rfl,hT,.bool true,Stp.refl⟩
theorem ybg {f:FuncId} {fn:Func} {body:Code} (hfn:(EE axS).fn.at f=some fn) (hb:fn.body=some body) {args:List T} {vs:Array Value} {W:World} (h:RtL W args vs.toList) (hp:Pure Try.prog (EE axS) [] f args (.bool true)) :
    Calls Try.prog f vs W fun e W'=>e=.returned (.bool true)/\Below W.heap.size W W':=zvf ymq hfn hb h hp
abbrev big:Nat:=9223372036854775808
theorem zcc (i:Nat) (h:i<9223372036854775807):ej.wrap ((i:Int)+1)=((i+1:Nat):Int):=by
  rw [wr64 (by omega)];push_cast;rfl
theorem zkc {α:Type} [Inhabited α] (l:List α) (i:Nat):gx l (i:Int)=l.getD i default:=rfl
theorem zg3 {α:Type} [Inhabited α] {l:List α} {i:Nat} (h:i<l.length):gx l (i:Int)=l[i]:=by
  rw [zkc,List.getD_eq_getElem?_getD,List.getElem?_eq_getElem h];rfl
section
variable {α β σ:Type}
def sumO (o:Option β):β ⊕ Unit:=match o with|some b=>.inl b|none=>.inr ()
theorem zps {L : Nat -> Int -> Option (β ⊕ Unit)} (n : Nat) (c : Nat -> Option β) (hn : n < big) (hs : ∀ m (j : Nat), j < n -> L (m + 1) (j : Int) = match c j with | some b => some (.inl b) | none => L m (ej.wrap ((j : Int) + 1)))
    (he:∀ m,L (m+1) (n:Int)=some (.inr ())) {k:Nat} (hk:n<k):L k 0=some (sumO ((ju n).findSome? c)):=by
  have key:∀ m j,j<=n->n - j<m->L m (j:Int)=some (sumO ((List.range' j (n - j)).findSome? c)):=by
    intro m
    induction m with
    |zero=>intro j h1 h2;omega
    |succ m ih =>
      intro j h1 h2;by_cases hj:j<n
      . rw [hs m j hj,show n - j=(n - (j+1))+1 by omega,pk,ow]
        cases hc:c j with
        |some b=>rfl
        |none =>
          simp only;rw [zcc j (by simp only [big] at hn;omega)];exact ih (j+1) (by omega) (by omega)
      . obtain rfl:j=n:=by omega
        rw [he,Nat.sub_self];rfl
  have:=key k 0 (Nat.zero_le _) (by omega);rw [List.range_eq_range'];exact this
theorem zqn {c:Nat->Option β} {d:α->Option β}:∀ (l:List α) (s:Nat),(∀ j (h:j<l.length),c (s+j)=d l[j])->(List.range' s l.length).findSome? c=l.findSome? d
  |[],s,_=>rfl
  |x :: l,s,h=>by
    rw [fq,pk,ow,ow];have h0:=h 0 (by simp);rw [jc] at h0;rw [h0];simp only [List.getElem_cons_zero];rw [zqn l (s+1) fun j hj=>by have:=h (j+1) (by simpa using hj);rw [show s+(j+1)=s+1+j by omega] at this;simpa using this]
theorem ybb {L : Nat -> Int -> Option (β ⊕ Unit)} (l : List α) (c : α -> Option β) (hn : l.length < big) (hs : ∀ m (j : Nat) (h : j < l.length), L (m + 1) (j : Int) = match c l[j] with | some b => some (.inl b) | none => L m (ej.wrap ((j : Int) + 1)))
    (he:∀ m,L (m+1) (l.length:Int)=some (.inr ())) {k:Nat} (hk:l.length<k):L k 0=some (sumO (l.findSome? c)):=by
  rw [zps l.length (fun j=>if h:j<l.length then c l[j] else none) hn (fun m j h=>by rw [hs m j h,dif_pos h]) he hk,List.range_eq_range'];rw [zqn l 0 fun j h=>by rw [ig,dif_pos h]]
theorem zl9 {c:α->Option β} {b:β} {q:α->Bool}:∀ (l:List α),(∀ x,x∈l->c x=if q x=true then none else some b)->l.findSome? c=if l.all q=true then none else some b
  |[],_=>rfl
  |x :: l,h=>by
    rw [ow,h x (.head _),List.all_cons]
    cases hq:q x with
    |true=>simp only [if_true,Bool.true_and];exact zl9 l fun y hy=>h y (.tail _ hy)
    |false=>rfl
theorem zom {L:Nat->Int->Option (β ⊕ Unit)} (l:List α) (b:β) (q:α->Bool) (hn:l.length<big) (hs:∀ m (j:Nat) (h:j<l.length),L (m+1) (j:Int)=if q l[j]=true then L m (ej.wrap ((j:Int)+1)) else some (.inl b))
    (he:∀ m,L (m+1) (l.length:Int)=some (.inr ())) {k:Nat} (hk:l.length<k):L k 0=some (if l.all q=true then .inr () else .inl b):=by
  rw [ybb l (fun x=>if q x=true then none else some b) hn (fun m j h=>by rw [hs m j h];cases q l[j]<;>rfl) he hk,zl9 l fun _ _=>rfl];cases l.all q<;>rfl
theorem zlz {L:Nat->Int->Option (β ⊕ Unit)} (n:Nat) (b:β) (q:Nat->Bool) (hn:n<big) (hs:∀ m (j:Nat),j<n->L (m+1) (j:Int)=if q j=true then L m (ej.wrap ((j:Int)+1)) else some (.inl b))
    (he:∀ m,L (m+1) (n:Int)=some (.inr ())) {k:Nat} (hk:n<k):L k 0=some (if (ju n).all q=true then .inr () else .inl b):=by
  rw [zps n (fun x=>if q x=true then none else some b) hn (fun m j h=>by rw [hs m j h];cases q j<;>rfl) he hk,zl9 _ fun _ _=>rfl];cases (ju n).all q<;>rfl
theorem zts {l:List α} {q:α->Bool}:l.all q=true↔∀ j (h:j<l.length),q l[j]=true:=by
  rw [List.all_eq_true];exact ⟨fun h j hj=>h _ (List.getElem_mem hj),fun h x hx=>by obtain ⟨j,hj,rfl⟩:=List.getElem_of_mem hx;exact h j hj⟩
def idxB (q:α->Bool) (l:List α):Int:=match l.findIdx? q with|some i=>(i:Int)|none=>-1
end
/-! words -/
theorem zrd {a b:Nat} (ha:a<9223372036854775808) (hb:b<9223372036854775808):iAnd .i64 (a:Int) (b:Int)=((a &&& b:Nat):Int):=by
  have h:a &&& b<=a:=Nat.and_le_left;show ej.wrap ((il 64 (a:Int) &&& il 64 (b:Int)).toNat:Int)=_;rw [BitVec.toNat_and,kv,kv];rw [show ((a:Int) % ((2 ^ 64:Nat):Int)).toNat=a by omega,show ((b:Int) % ((2 ^ 64:Nat):Int)).toNat=b by omega];exact wr64 (by omega)
theorem z5u {a b:Nat} (ha:a<9223372036854775808) (hb:b<9223372036854775808):iXor .i64 (a:Int) (b:Int)=((a ^^^ b:Nat):Int):=by
  have h:a ^^^ b<2 ^ 63:=Nat.xor_lt_two_pow (by omega) (by omega);show ej.wrap ((il 64 (a:Int) ^^^ il 64 (b:Int)).toNat:Int)=_;rw [BitVec.toNat_xor,kv,kv];rw [show ((a:Int) % ((2 ^ 64:Nat):Int)).toNat=a by omega,show ((b:Int) % ((2 ^ 64:Nat):Int)).toNat=b by omega];exact wr64 (by omega)
theorem z26 {a b:Nat} (ha:a<9223372036854775808) (hb:b<9223372036854775808):iOr .i64 (a:Int) (b:Int)=((a ||| b:Nat):Int):=by
  have h:a ||| b<2 ^ 63:=Nat.or_lt_two_pow (by omega) (by omega)
  show ej.wrap ((il 64 (a:Int) ||| il 64 (b:Int)).toNat:Int)=_;rw [BitVec.toNat_or,kv,kv];rw [show ((a:Int) % ((2 ^ 64:Nat):Int)).toNat=a by omega,show ((b:Int) % ((2 ^ 64:Nat):Int)).toNat=b by omega];exact wr64 (by omega)
theorem zs7 {a b:Nat} (ha:a<9223372036854775808) (hb:b<9223372036854775808):zgw .i64 (a:Int) (b:Int)=((a - (a &&& b):Nat):Int):=zwr ha hb
theorem own:ownKnob Try.prog.godebug=none:=by kernel_rfl
theorem z21:laidOutB Try.prog=true:=by kernel_rfl
def inI (x:Int):Prop:=-9223372036854775808<=x/\x<=9223372036854775807
theorem yfz {x:Int} (h:(Lit.int .i64 x).wf=true):inI x:=by
  simp only [Lit.wf,decide_eq_true_eq,IntKind.wrap,IntKind.bits,IntKind.signed] at h;simp at h;have e1:ej.min=-9223372036854775808:=by decide
  have e2:ej.max=9223372036854775807:=by decide
  unfold inI;omega
theorem cf_i {t:T} (h:conf (.int .i64) t):∃ n,t=.int .i64 n/\inI n:=by
  obtain ⟨n,rfl,hw⟩:=h;exact ⟨n,rfl,yfz hw⟩
theorem ykj {t:T} (h:conf .bool t):∃ b,t=.bool b/\True:=by
  obtain ⟨b,rfl⟩:=h;exact ⟨b,rfl,trivial⟩
theorem yin {t:T} (h:conf .str t):∃ s,t=.str s/\s.size<big:=by
  obtain ⟨s,rfl,hs⟩:=h;have hm:maxLen<big:=by decide
  exact ⟨s,rfl,by omega⟩
theorem yio {n:Nat} {t:T} (h:conf (.arr .i64 n) t):∃ a:Ar n,t=.agg (a.l.map (eo .i64))/\∀ y,y∈a.l->inI y:=by
  obtain ⟨a,rfl,hw⟩:=h;exact ⟨a,rfl,fun y hy=>yfz (hw y hy)⟩
theorem zmw {α:Type} {f:α->T} {sh:Sh} {p:α->Prop} (hf:∀ t,conf sh t->∃ x,t=f x/\p x) {t:T} (h:conf (.slice sh) t):∃ l:List α,t=.lst sh.sz (l.map f)/\(l.length<big/\∀ x,x∈l->p x):=by
  obtain ⟨l,rfl,hl,hall⟩:=h;have hm:maxLen<big:=by decide
  have key:∀ l:List T,(∀ x,x∈l->conf sh x)->∃ m:List α,l=m.map f/\∀ x,x∈m->p x:=by
    intro l
    induction l with
    |nil=>intro _;exact ⟨[],rfl,fun x hx=>by simp at hx⟩
    |cons t l ih =>
      intro hc;obtain ⟨x,rfl,hp⟩:=hf t (hc t (by simp));obtain ⟨m,rfl,hm⟩:=ih fun y hy=>hc y (by simp [hy]);refine ⟨x :: m,rfl,fun y hy=>?_⟩;rcases List.mem_cons.1 hy with rfl|hy
      . exact hp
      . exact hm y hy
  obtain ⟨m,rfl,hp⟩:=key l hall;rw [fc] at hl;exact ⟨m,rfl,by omega,hp⟩
def zxg:Sh:=.struct [(.arr .i64 10),(.arr .i64 10)]
def yi3 (x:Pat):Prop:=(∀ y,y∈x.mask.l->inI y)/\(∀ y,y∈x.bits.l->inI y)
theorem yip {t:T} (h:conf zxg t):∃ x:Pat,t=ePat x/\yi3 x:=by
  obtain ⟨cs,rfl,x0,r0,rfl,h0,x1,r1,rfl,h1,rfl⟩:=h;obtain ⟨a0,rfl,q0⟩:=yio h0;obtain ⟨a1,rfl,q1⟩:=yio h1;exact ⟨⟨a0,a1⟩,by first | (simp only [ePat,iq,ql,pr,zxg,gn,f6,ft,fy,jc,ff];done) | (simp only [ePat,iq,ql,pr,zxg,gn,f6,ft,fy,jc,ff];rfl),q0,q1⟩
def z7g:Sh:=.struct [(.int .i64),zxg]
def yk7 (x:Alt):Prop:=inI x.link/\yi3 x.mod
theorem yml {t:T} (h:conf z7g t):∃ x:Alt,t=eAlt x/\yk7 x:=by
  obtain ⟨cs,rfl,x0,r0,rfl,h0,x1,r1,rfl,h1,rfl⟩:=h;obtain ⟨a0,rfl,q0⟩:=cf_i h0;obtain ⟨a1,rfl,q1⟩:=yip h1;exact ⟨⟨a0,a1⟩,by first | (simp only [eAlt,ePat,iq,ql,pr,z7g,zxg,gn,f6,ft,fy,jc,ff];done) | (simp only [eAlt,ePat,iq,ql,pr,z7g,zxg,gn,f6,ft,fy,jc,ff];rfl),q0,q1⟩
def z38:Sh:=.struct [(.int .i64),zxg,(.int .i64),(.slice (.slice z7g))]
def z3y (x:Rule):Prop:=inI x.prio/\yi3 x.mat/\inI x.step/\(x.outs.length<big/\∀ y,y∈x.outs->(y.length<big/\∀ y',y'∈y->yk7 y'))
theorem ykk {t:T} (h:conf z38 t):∃ x:Rule,t=zao x/\z3y x:=by
  obtain ⟨cs,rfl,x0,r0,rfl,h0,x1,r1,rfl,h1,x2,r2,rfl,h2,x3,r3,rfl,h3,rfl⟩:=h;obtain ⟨a0,rfl,q0⟩:=cf_i h0;obtain ⟨a1,rfl,q1⟩:=yip h1;obtain ⟨a2,rfl,q2⟩:=cf_i h2;obtain ⟨a3,rfl,q3⟩:=zmw (fun _ hh=>zmw (fun _ hh=>yml hh) hh) h3;exact ⟨⟨a0,a1,a2,a3⟩,by first | (simp only [zao,ePat,zbs,lAlt,eAlt,iq,ql,pr,z38,zxg,z7g,gn,f6,ft,fy,jc,ff];done) | (simp only [zao,ePat,zbs,lAlt,eAlt,iq,ql,pr,z38,zxg,z7g,gn,f6,ft,fy,jc,ff];rfl),q0,q1,q2,q3⟩
def zu3:Sh:=.struct [.str,.bool,(.int .i64),(.int .i64)]
def yf0 (x:Node):Prop:=x.name.size<big/\True/\inI x.rules/\inI x.entries
theorem ykl {t:T} (h:conf zu3 t):∃ x:Node,t=zo6 x/\yf0 x:=by
  obtain ⟨cs,rfl,x0,r0,rfl,h0,x1,r1,rfl,h1,x2,r2,rfl,h2,x3,r3,rfl,h3,rfl⟩:=h;obtain ⟨a0,rfl,q0⟩:=yin h0;obtain ⟨a1,rfl,q1⟩:=ykj h1;obtain ⟨a2,rfl,q2⟩:=cf_i h2;obtain ⟨a3,rfl,q3⟩:=cf_i h3;exact ⟨⟨a0,a1,a2,a3⟩,by first | (simp only [zo6,iq,ql,pr,zu3,gn,f6,ft,fy,jc,ff];done) | (simp only [zo6,iq,ql,pr,zu3,gn,f6,ft,fy,jc,ff];rfl),q0,q1,q2,q3⟩
def zu4:Sh:=.struct [(.int .i64),(.int .i64),(.int .i64)]
def yf1 (x:Link):Prop:=inI x.frm/\inI x.to/\inI x.cap
theorem ykm {t:T} (h:conf zu4 t):∃ x:Link,t=zo7 x/\yf1 x:=by
  obtain ⟨cs,rfl,x0,r0,rfl,h0,x1,r1,rfl,h1,x2,r2,rfl,h2,rfl⟩:=h;obtain ⟨a0,rfl,q0⟩:=cf_i h0;obtain ⟨a1,rfl,q1⟩:=cf_i h1;obtain ⟨a2,rfl,q2⟩:=cf_i h2;exact ⟨⟨a0,a1,a2⟩,by first | (simp only [zo7,iq,ql,pr,zu4,gn,f6,ft,fy,jc,ff];done) | (simp only [zo7,iq,ql,pr,zu4,gn,f6,ft,fy,jc,ff];rfl),q0,q1,q2⟩
def zu5:Sh:=.struct [.str,(.int .i64)]
def yf2 (x:Edge):Prop:=x.name.size<big/\inI x.node
theorem ykn {t:T} (h:conf zu5 t):∃ x:Edge,t=zo8 x/\yf2 x:=by
  obtain ⟨cs,rfl,x0,r0,rfl,h0,x1,r1,rfl,h1,rfl⟩:=h;obtain ⟨a0,rfl,q0⟩:=yin h0;obtain ⟨a1,rfl,q1⟩:=cf_i h1;exact ⟨⟨a0,a1⟩,by first | (simp only [zo8,iq,ql,pr,zu5,gn,f6,ft,fy,jc,ff];done) | (simp only [zo8,iq,ql,pr,zu5,gn,f6,ft,fy,jc,ff];rfl),q0,q1⟩
def ydw:Sh:=.struct [(.slice zu3),(.slice zu4),(.slice zu5)]
def yi4 (x:Net):Prop:=(x.nodes.length<big/\∀ y,y∈x.nodes->yf0 y)/\(x.links.length<big/\∀ y,y∈x.links->yf1 y)/\(x.edges.length<big/\∀ y,y∈x.edges->yf2 y)
theorem ymk {t:T} (h:conf ydw t):∃ x:Net,t=eNet x/\yi4 x:=by
  obtain ⟨cs,rfl,x0,r0,rfl,h0,x1,r1,rfl,h1,x2,r2,rfl,h2,rfl⟩:=h;obtain ⟨a0,rfl,q0⟩:=zmw (fun _ hh=>ykl hh) h0;obtain ⟨a1,rfl,q1⟩:=zmw (fun _ hh=>ykm hh) h1;obtain ⟨a2,rfl,q2⟩:=zmw (fun _ hh=>ykn hh) h2;exact ⟨⟨a0,a1,a2⟩,by first | (simp only [eNet,zdt,zo6,zdu,zo7,zdv,zo8,iq,ql,pr,ydw,zu3,zu4,zu5,gn,f6,ft,fy,jc,ff];done) | (simp only [eNet,zdt,zo6,zdu,zo7,zdv,zo8,iq,ql,pr,ydw,zu3,zu4,zu5,gn,f6,ft,fy,jc,ff];rfl),q0,q1,q2⟩
end Go.Proofs.Ytkfnjbfnkpameaa
