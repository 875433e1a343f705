/- Part 9 of the proof of MergeDropsDropping (several texts in one; no further condition). -/
import Derived.Test.YtkfnjbfnkpameaaZG
import Derived.Test.YtkfnjbfnkpameaaZH
import Derived.KernelRfl
set_option linter.unusedSimpArgs false
set_option linter.unusedVariables false
set_option linter.unusedSectionVars false
namespace Go.Proofs.Ytkfnjbfnkpameaa
set_option maxHeartbeats 8000000
open _root_.And renaming intro->eh
open _root_.BitVec renaming toNat_ofInt->kv
open _root_.Bool renaming and_eq_true->ep,and_self->fm,eq_iff_iff->ld,false_eq_true->o8,false_or->lq,not_false->gm,not_true->gw,toNat_false->pt,true_and->ji
open _root_.Classical renaming byContradiction->js
open _root_.Int renaming eq_ofNat_of_zero_le->jp,toNat_natCast->i5
open Go.IntKind renaming i64->ej,u64->fh
open _root_.List renaming all_eq_true->gg,append_assoc->fy,append_nil->gn,cons_append->f6,drop_succ_cons->jw,drop_zero->ge,eq_nil_of_length_eq_zero->jb,flatten_cons->gj,flatten_nil->h9,getD_eq_getElem?_getD->fe,getElem?_append_right->gp,getElem?_cons_succ->ki,getElem?_cons_zero->gc,getElem?_eq_getElem->fb,getElem?_eq_none->jf,getElem_mem->lj,getElem_of_mem->ma,length_append->fi,length_cons->fq,length_filter_le->od,length_map->fc,length_nil->iu,length_replicate->kh,length_singleton->i4,length_take->gq,mem_append->iv,mem_filter->m9,mem_map->i6,mem_range->jv,mem_singleton->ke,nil_append->ft,range->ju,replicate->fl,replicate_succ->io,set_cons_succ->lc,set_cons_zero->kb,take_add_one->oe,take_length->me,take_of_length_le->gz
open _root_.Nat renaming add->o5,and_le_left->qa,beq_refl->ij,div->mf,div_le_self->qv,eq_of_beq_eq_true->et,eq_of_testBit_eq->nh,land->ol,le_refl->fd,le_trans->jj,log2->jm,lt_of_le_of_lt->ny,lt_of_lt_of_le->gr,lt_trichotomy->mu,mod->pg,mul->oz,not_lt_zero->lh,or_lt_two_pow->pf,pow_le_pow_right->ks,pow_lt_pow_right->oi,pow_succ->qt,reduceAdd->ff,reduceEqDiff->ez,reduceLT->gt,reduceLeDiff->jg,reduceMul->iy,reduceSub->ib,sub_self->ph,testBit_and->kx,testBit_lt_two_pow->l9,testBit_or->mn,xor_lt_two_pow->rn,zero_add->ig,zero_le->ik,zero_testBit->nr
open _root_.Option renaming bind_some->em,toList_some->n4
open _root_.Option.some renaming injEq->ei
open Go.Proofs.Ytkfnjbfnkpameaa.Pure renaming clr->je
open _root_.Sum renaming elim->kg
open Go.Proofs.Ytkfnjbfnkpameaa.T renaming int->eo,ren->qc,renL->nw,str->oy
open Go.Proofs.Ytkfnjbfnkpameaa.TW renaming block->gl,loopT->jk,seq->ek
open Go.Proofs.Ytkfnjbfnkpameaa.zan renaming call->f5
set_option maxRecDepth 100000
open Go Go.RowKit
def zei (k:Nat) (n:Net):Nat->Int->(List ByteArray)->Nat->Option (List ByteArray×Nat)
 |0,_,_,_=>none
 |m+1,i,l,n2=>(if i<(n.nodes.length:Int) then (if 0<=i/\i<(n.nodes.length:Int) then (if (n2+1)*17<=1000000000 then zei k n m (ej.wrap (i+1)) (l++[(gx n.nodes i).name]) (n2+1) else none) else none) else some (l,n2))
def zeh (k:Nat) (n:Net):Nat->Int->(List ByteArray)->Nat->Option (List ByteArray×Nat)
 |0,_,_,_=>none
 |m+1,i2,l2,n3=>(if i2<(n.edges.length:Int) then (if 0<=i2/\i2<(n.edges.length:Int) then (if (n3+1)*17<=1000000000 then zeh k n m (ej.wrap (i2+1)) (l2++[(gx n.edges i2).name]) (n3+1) else none) else none) else some (l2,n3))
def zjz (k:Nat) (n:Net):Option (List ByteArray×List ByteArray):=((zei k n k 0 [] 0:Option (List ByteArray×Nat)).bind fun s_=>((zeh k n k 0 [] 0:Option (List ByteArray×Nat)).bind fun s_2=>(if s_.1.length=s_.2 then (if s_2.1.length=s_2.2 then some (s_.1,s_2.1) else none) else none)))
theorem zxc (ax:Axs) (hx:NoAx ax) (k:Nat) (n:Net) (v:List ByteArray×List ByteArray) (H:zjz k n=some v):Pure Try.prog (EE ax) [] 50 [eNet n] (tupT [strs v.1,strs v.2]):=by
 rw [zjz] at H;refine enN [.tmp 2,.tmp 3] 42 [0] (hx.no _ (by decide)) (fn50 ax) ?_;intro h hh;apply ek;refine rk [1] [] hh fun h hh=>?_;apply ek;refine rk [1,4] [] hh fun h hh=>?_;refine vk 4 1 [1,4] hh fun h hh=>?_;apply ek;refine rk [1,4,5] [] hh fun h hh=>?_;refine vk 5 1 [1,4,5] hh fun h hh=>?_;repeat apply ek
 refine rk [1,4,5,6] [] hh fun h hh=>?_;obtain ⟨s_,H1,H⟩:=zae H;refine cu [1,4,5] 3 (fun h bs=>(h 1=.ptr 0 0 3/\h 4=.arr 1 1 0 s_.2 s_.2 s_.2/\h 5=.arr 2 1 0 0 0 0)/\bs=[.cells true 3 [zdt n.nodes,zdu n.links,zdv n.edges],.cells false s_.2 (s_.1.map oy),.cells false 0 ([].map oy)]) ?_ ?_
 .skip;apply gl;refine jk [1,4,5,6] (fun m h bs=>∃ (i:Int) (l:List ByteArray) (n2:Nat),zei k n m i l n2=some s_/\(h 1=.ptr 0 0 3/\h 4=.arr 1 1 0 n2 n2 n2/\h 5=.arr 2 1 0 0 0 0/\h 6=.int .i64 i)/\bs=[.cells true 3 [zdt n.nodes,zdu n.links,zdv n.edges],.cells false n2 (l.map oy),.cells false 0 ([].map oy)]) ?_ k _ _ ?_;rotate_left
  .exact ⟨0,[],0,H1,kq hh,rfl⟩
  clear hh h H1;rintro m h bs ⟨i,l,n2,H1,hh,rfl⟩;rcases m with _|m
  .rw [zei] at H1;cases H1
  rw [zei] at H1;repeat apply ek
  refine rk [1,4,5,6,12] [] hh fun h hh=>?_;rcases isp H1 with ⟨c1,H1⟩|⟨c1,H1⟩;rotate_left
  .skip;refine cf (f2 hh (zAb c1)) ?_;refine xk ?_;cases H1;exact ce hh ⟨kq hh,rfl⟩
  refine ct (f2 hh (zAa c1)) ?_;refine sk ?_;apply ek;apply gl;obtain ⟨g2,H1⟩:=isg H1;obtain ⟨g3,H1⟩:=isg H1;refine rg [] [] [.cells true 3 [zdt n.nodes,zdu n.links,zdv n.edges],.cells false (n2+1) ((l++[(gx n.nodes i).name]).map oy),.cells false 0 ([].map oy)] (fun h=>h 1=.ptr 0 0 3/\h 4=.arr 1 1 0 (n2+1) (n2+1) (n2+1)/\h 5=.arr 2 1 0 0 0 0/\h 6=.int .i64 i) (f2 hh (zak g2)) trivial fun h hh=>?_;refine rk [1,4,5,6] [] hh fun h hh=>?_;exact rd m hh ⟨(ej.wrap (i+1)),(l++[(gx n.nodes i).name]),(n2+1),H1,kq hh,rfl⟩
 clear hh h;rintro h bs ⟨hh,rfl⟩;repeat apply ek
 refine rk [1,4,5,7] [] hh fun h hh=>?_;obtain ⟨s_2,H1,H⟩:=zae H;refine cu [4,5] 3 (fun h bs=>(h 4=.arr 1 1 0 s_.2 s_.2 s_.2/\h 5=.arr 2 1 0 s_2.2 s_2.2 s_2.2)/\bs=[.cells true 3 [zdt n.nodes,zdu n.links,zdv n.edges],.cells false s_.2 (s_.1.map oy),.cells false s_2.2 (s_2.1.map oy)]) ?_ ?_
 .skip;apply gl;refine jk [1,4,5,7] (fun m h bs=>∃ (i2:Int) (l2:List ByteArray) (n3:Nat),zeh k n m i2 l2 n3=some s_2/\(h 1=.ptr 0 0 3/\h 4=.arr 1 1 0 s_.2 s_.2 s_.2/\h 5=.arr 2 1 0 n3 n3 n3/\h 7=.int .i64 i2)/\bs=[.cells true 3 [zdt n.nodes,zdu n.links,zdv n.edges],.cells false s_.2 (s_.1.map oy),.cells false n3 (l2.map oy)]) ?_ k _ _ ?_;rotate_left
  .exact ⟨0,[],0,H1,kq hh,rfl⟩
  clear hh h H1;rintro m h bs ⟨i2,l2,n3,H1,hh,rfl⟩;rcases m with _|m
  .rw [zeh] at H1;cases H1
  rw [zeh] at H1;repeat apply ek
  refine rk [1,4,5,7,28] [] hh fun h hh=>?_;rcases isp H1 with ⟨c4,H1⟩|⟨c4,H1⟩;rotate_left
  .skip;refine cf (f2 hh (zAb c4)) ?_;refine xk ?_;cases H1;exact ce hh ⟨kq hh,rfl⟩
  refine ct (f2 hh (zAa c4)) ?_;refine sk ?_;apply ek;apply gl;obtain ⟨g5,H1⟩:=isg H1;obtain ⟨g6,H1⟩:=isg H1;refine rg [] [] [.cells true 3 [zdt n.nodes,zdu n.links,zdv n.edges],.cells false s_.2 (s_.1.map oy),.cells false (n3+1) ((l2++[(gx n.edges i2).name]).map oy)] (fun h=>h 1=.ptr 0 0 3/\h 4=.arr 1 1 0 s_.2 s_.2 s_.2/\h 5=.arr 2 1 0 (n3+1) (n3+1) (n3+1)/\h 7=.int .i64 i2) (f2 hh (zak g5)) trivial fun h hh=>?_;refine rk [1,4,5,7] [] hh fun h hh=>?_;exact rd m hh ⟨(ej.wrap (i2+1)),(l2++[(gx n.edges i2).name]),(n3+1),H1,kq hh,rfl⟩
 clear hh h;rintro h bs ⟨hh,rfl⟩;apply ek;refine rk [2,3] [] hh fun h hh=>?_;obtain ⟨g7,H⟩:=isg H;obtain ⟨g8,H⟩:=isg H;refine TW.freeze 2 (b:=1) (e:=1) (off:=0) (len:=s_.2) (cap:=s_.2) (M:=s_.2) (s_.1.map oy) (kq hh) (by rfl) (by omega) (by omega) (by rw [ge,Nat.mul_one,zi0 (fun _=>rfl),gz (by rw [fc];omega)]) (fun t ht=>by obtain ⟨x,_,rfl⟩:=i6.1 ht;first|rfl|exact zhj _|exact zbv _|exact zfs _|exact zbi _ | (rw [fc];rfl)) (by rw [fc]<;>exact g7) (by omega) ?_;rw [ze2 _ _ _ (by simp only [lzA]<;>omega)];simp only [scA];refine gk [2,3] hh fun h hh=>?_;refine TW.freeze 3 (b:=2) (e:=1) (off:=0) (len:=s_2.2) (cap:=s_2.2) (M:=s_2.2) (s_2.1.map oy) (kq hh) (by rfl) (by omega) (by omega) (by rw [ge,Nat.mul_one,zi0 (fun _=>rfl),gz (by rw [fc];omega)]) (fun t ht=>by obtain ⟨x,_,rfl⟩:=i6.1 ht;first|rfl|exact zhj _|exact zbv _|exact zfs _|exact zbi _ | (rw [fc];rfl)) (by rw [fc]<;>exact g8) (by omega) ?_;rw [ze2 _ _ _ (by simp only [lzA]<;>omega)];simp only [scA];refine gk [2,3] hh fun h hh=>?_;cases H;exact rt hh
def zd8 (k:Nat) (s_:ByteArray):Nat->Int->Option (Bool ⊕ Unit)
 |0,_=>none
 |m+1,i=>(if i<(s_.size:Int) then (((if 0<=i/\i<(s_.size:Int) then (if 97<=((bx s_ i).toNat:Int) then some (decide (((bx s_ i).toNat:Int)<=122)) else some false) else none):Option Bool).bind fun s_3=>(((if 0<=i/\i<(s_.size:Int) then (if 48<=((bx s_ i).toNat:Int) then (if ((bx s_ i).toNat:Int)<=57 then some true else some (decide (((bx s_ i).toNat:Int)=95))) else some (decide (((bx s_ i).toNat:Int)=95))) else none):Option Bool).bind fun s_4=>(if s_3=true then zd8 k s_ m (ej.wrap (i+1)) else (if s_4=true then (if i=0 then some (.inl false) else zd8 k s_ m (ej.wrap (i+1))) else some (.inl false))))) else some (.inr ()))
def zlh (k:Nat) (s_:ByteArray):Option Bool:=((zd8 k s_ k 0:Option (Bool ⊕ Unit)).bind fun o=>kg (fun r=>some r) (fun s_2=>(if 1<=(s_.size:Int) then some (decide ((s_.size:Int)<=24)) else some false)) o)
theorem zy0 (ax:Axs) (hx:NoAx ax) (k:Nat) (s_:ByteArray) (v:Bool) (H:zlh k s_=some v):Pure Try.prog (EE ax) [] 67 [.str s_] (.bool v):=by
 rw [zlh] at H;refine en [.tmp 2] 56 [0] (hx.no _ (by decide)) (fn67 ax) ?_;intro h hh;apply ek;refine rk [0] [] hh fun h hh=>?_;repeat apply ek
 refine rk [0,3] [] hh fun h hh=>?_;obtain ⟨o,H1,H⟩:=zae H;refine cu [0] 0 (fun h bs=>∃ s_2:Unit,o=.inr s_2/\(h 0=.str s_)/\bs=[]) ?_ ?_
 .skip;apply gl;refine jk [0,3] (fun m h bs=>∃ (i:Int),zd8 k s_ m i=some o/\(h 0=.str s_/\h 3=.int .i64 i)/\bs=[]) ?_ k _ _ ?_;rotate_left
  .exact ⟨0,H1,kq hh,rfl⟩
  clear hh h H1;rintro m h bs ⟨i,H1,hh,rfl⟩;rcases m with _|m
  .rw [zd8] at H1;cases H1
  rw [zd8] at H1;repeat apply ek
  refine rk [0,3,9] [] hh fun h hh=>?_;rcases isp H1 with ⟨c1,H1⟩|⟨c1,H1⟩;rotate_left
  .skip;refine cf (f2 hh (zAb c1)) ?_;refine xk ?_;cases H1;exact ce hh ⟨_,rfl,kq hh,rfl⟩
  refine ct (f2 hh (zAa c1)) ?_;refine sk ?_;apply ek;apply gl;obtain ⟨s_3,H2,H1⟩:=zae H1;apply ek;refine cu [0,3,4] 0 (fun h bs=>(h 0=.str s_/\h 3=.int .i64 i/\h 4=.bool s_3)/\bs=[]) ?_ ?_
  .skip;obtain ⟨g2,H2⟩:=isg H2;rcases isp H2 with ⟨c3,H2⟩|⟨c3,H2⟩;rotate_left
   .skip;refine rk [0,3,4] [] (f3 hh (zAb c3) (zto g2)) fun h hh=>?_;cases H2;exact ce hh ⟨kq hh,rfl⟩
   refine rk [0,3,4] [] (f3 hh (zAa c3) (zto g2)) fun h hh=>?_;cases H2;exact ce hh ⟨kq hh,rfl⟩
  clear hh h;rintro h bs ⟨hh,rfl⟩;obtain ⟨s_4,H2,H1⟩:=zae H1;apply ek;refine cu [0,3,4,5] 0 (fun h bs=>(h 0=.str s_/\h 3=.int .i64 i/\h 4=.bool s_3/\h 5=.bool s_4)/\bs=[]) ?_ ?_
  .skip;obtain ⟨g4,H2⟩:=isg H2;rcases isp H2 with ⟨c5,H2⟩|⟨c5,H2⟩;rotate_left
   .skip;refine rk [0,3,4,5] [] (f3 hh (zAb c5) (zto g4)) fun h hh=>?_;cases H2;exact ce hh ⟨kq hh,rfl⟩
   rcases isp H2 with ⟨c6,H2⟩|⟨c6,H2⟩;rotate_left
   .skip;refine rk [0,3,4,5] [] (f3 hh (zAa c5) (f2 (zAb c6) (zto g4))) fun h hh=>?_;cases H2;exact ce hh ⟨kq hh,rfl⟩
   refine rk [0,3,4,5] [] (f3 hh (zAa c5) (f2 (zAa c6) (zto g4))) fun h hh=>?_;cases H2;exact ce hh ⟨kq hh,rfl⟩
  clear hh h;rintro h bs ⟨hh,rfl⟩;rcases isb H1 with ⟨c7,H1⟩|⟨c7,H1⟩;rotate_left
  .skip;rcases isb H1 with ⟨c8,H1⟩|⟨c8,H1⟩;rotate_left
   .skip;apply ek;refine rk [0,3,47] [] (f3 hh c7 c8) fun h hh=>?_;refine ct hh ?_;apply ek;refine rk [2] [] (f3 hh c7 c8) fun h hh=>?_;cases H1;obtain rfl:=sinl H;exact rt hh
   apply ek;refine rk [0,3,47] [] (f3 hh c7 c8) fun h hh=>?_;rcases isp H1 with ⟨c9,H1⟩|⟨c9,H1⟩;rotate_left
   .skip;refine cf (f2 hh (zAb c9)) ?_;refine sk ?_;refine rk [0,3] [] (f3 hh c7 c8) fun h hh=>?_;exact rd m hh ⟨(ej.wrap (i+1)),H1,kq hh,rfl⟩
   refine ct (f2 hh (zAa c9)) ?_;apply ek;refine rk [2] [] (f3 hh c7 c8) fun h hh=>?_;cases H1;obtain rfl:=sinl H;exact rt hh
  apply ek;refine rk [0,3,47] [] (f2 hh c7) fun h hh=>?_;refine cf hh ?_;refine sk ?_;refine rk [0,3] [] (f2 hh c7) fun h hh=>?_;exact rd m hh ⟨(ej.wrap (i+1)),H1,kq hh,rfl⟩
 clear hh h;rintro h bs ⟨s_2,rfl,hh,rfl⟩;replace H:=sinr H;rcases isp H with ⟨c10,H⟩|⟨c10,H⟩;rotate_left
 .skip;apply ek;refine rk [2] [] (f2 hh (zAb c10)) fun h hh=>?_;cases H;exact rt hh
 apply ek;refine rk [2] [] (f2 hh (zAa c10)) fun h hh=>?_;cases H;exact rt hh
def zef (k:Nat) (l:List ByteArray) (i:Int):Nat->Int->Option (Bool ⊕ Unit)
 |0,_=>none
 |m+1,k_=>(if k_<i then (if 0<=k_/\k_<(l.length:Int) then (if (gx l k_)=(gx l i) then some (.inl false) else zef k l i m (ej.wrap (k_+1))) else none) else some (.inr ()))
def zeg (k:Nat) (l:List ByteArray):Nat->Int->Option (Bool ⊕ Unit)
 |0,_=>none
 |m+1,i=>(if i<(l.length:Int) then (((if 0<=i/\i<(l.length:Int) then ((zlh k (gx l i)).bind fun dv=>(if dv=true then ((zef k l i k 0:Option (Bool ⊕ Unit)).bind fun o=>kg (fun r=>some (.inl r)) (fun s_3=>some (.inr ())) o) else some (.inl false))) else none):Option (Bool ⊕ Unit)).bind fun o2=>kg (fun r=>some (.inl r)) (fun s_2=>zeg k l m (ej.wrap (i+1))) o2) else some (.inr ()))
def zih (k:Nat) (l:List ByteArray):Option Bool:=((zeg k l k 0:Option (Bool ⊕ Unit)).bind fun o3=>kg (fun r=>some r) (fun s_=>some true) o3)
theorem zn2 (ax:Axs) (hx:NoAx ax) (k:Nat) (l:List ByteArray) (v:Bool) (H:zih k l=some v):Pure Try.prog (EE ax) [] 51 [strs l] (.bool v):=by
 rw [zih] at H;refine en [.tmp 2] 33 [0] (hx.no _ (by decide)) (fn51 ax) ?_;intro h hh;apply ek;refine rk [0] [] hh fun h hh=>?_;repeat apply ek
 refine rk [0,3] [] hh fun h hh=>?_;obtain ⟨o3,H1,H⟩:=zae H;refine cu [] 0 (fun h bs=>∃ s_:Unit,o3=.inr s_/\(True)/\bs=[]) ?_ ?_
 .skip;apply gl;refine jk [0,3] (fun m h bs=>∃ (i:Int),zeg k l m i=some o3/\(h 0=strs l/\h 3=.int .i64 i)/\bs=[]) ?_ k _ _ ?_;rotate_left
  .exact ⟨0,H1,kq hh,rfl⟩
  clear hh h H1;rintro m h bs ⟨i,H1,hh,rfl⟩;rcases m with _|m
  .rw [zeg] at H1;cases H1
  rw [zeg] at H1;repeat apply ek
  refine rk [0,3,9] [] hh fun h hh=>?_;rcases isp H1 with ⟨c1,H1⟩|⟨c1,H1⟩;rotate_left
  .skip;refine cf (f2 hh (zAb c1)) ?_;refine xk ?_;cases H1;exact ce hh ⟨_,rfl,kq hh,rfl⟩
  refine ct (f2 hh (zAa c1)) ?_;refine sk ?_;obtain ⟨o2,H2,H1⟩:=zae H1;apply ek;refine cu [0,3] 0 (fun h bs=>∃ s_2:Unit,o2=.inr s_2/\(h 0=strs l/\h 3=.int .i64 i)/\bs=[]) ?_ ?_
  .skip;apply gl;obtain ⟨g2,H2⟩:=isg H2;obtain ⟨dv,e3,H2⟩:=zae H2;apply ek;refine rkp [0,3,4] [] [.bool dv] (f2 hh (zak g2)) ?_ ?_
   .exact ⟨f5 ((zy0 ax hx k (gx l i) dv e3 ).call _),trivial⟩
   clear hh h;intro h hh;repeat apply ek
   refine rk [0,3,18] [] hh fun h hh=>?_;rcases isb H2 with ⟨c4,H2⟩|⟨c4,H2⟩;rotate_left
   .skip;refine ct (f2 hh c4) ?_;apply ek;refine rk [2] [] (f2 hh c4) fun h hh=>?_;cases H2;obtain rfl:=sinm H1;obtain rfl:=sinl H;exact rt hh
   refine cf (f2 hh c4) ?_;refine sk ?_;apply ek;refine rk [0,3,5] [] (f2 hh c4) fun h hh=>?_;obtain ⟨o,H3,H2⟩:=zae H2;refine cu [0,3] 0 (fun h bs=>∃ s_3:Unit,o=.inr s_3/\(h 0=strs l/\h 3=.int .i64 i)/\bs=[]) ?_ ?_
   .skip;apply gl;refine jk [0,3,5] (fun m h bs=>∃ (k_:Int),zef k l i m k_=some o/\(h 0=strs l/\h 3=.int .i64 i/\h 5=.int .i64 k_)/\bs=[]) ?_ k _ _ ?_;rotate_left
    .exact ⟨0,H3,kq hh,rfl⟩
    clear hh h H3;rintro m h bs ⟨k_,H3,hh,rfl⟩;rcases m with _|m
    .rw [zef] at H3;cases H3
    rw [zef] at H3;repeat apply ek
    refine rk [0,3,5,21] [] (f2 hh c4) fun h hh=>?_;rcases isp H3 with ⟨c5,H3⟩|⟨c5,H3⟩;rotate_left
    .skip;refine cf (f2 hh (zAb c5)) ?_;refine xk ?_;cases H3;exact ce hh ⟨_,rfl,kq hh,rfl⟩
    refine ct (f2 hh (zAa c5)) ?_;refine sk ?_;apply ek;apply gl;obtain ⟨g6,H3⟩:=isg H3;apply ek;refine dk 8 [0,3,5,32] [] [] [] (f3 hh c4 (f2 (zak g6) (zak g2))) trivial trivial fun h hh=>?_;rcases isp H3 with ⟨c7,H3⟩|⟨c7,H3⟩;rotate_left
    .skip;refine cf (f2 hh (zAb c7)) ?_;refine sk ?_;refine rk [0,3,5] [] (f2 hh c4) fun h hh=>?_;exact rd m hh ⟨(ej.wrap (k_+1)),H3,kq hh,rfl⟩
    refine ct (f2 hh (zAa c7)) ?_;apply ek;refine rk [2] [] (f2 hh c4) fun h hh=>?_;cases H3;obtain rfl:=sinm H2;obtain rfl:=sinm H1;obtain rfl:=sinl H;exact rt hh
   clear hh h;rintro h bs ⟨s_3,rfl,hh,rfl⟩;replace H2:=sinr H2;cases H2;exact ce hh ⟨_,rfl,kq hh,rfl⟩
  clear hh h;rintro h bs ⟨s_2,rfl,hh,rfl⟩;replace H1:=sinr H1;refine rk [0,3] [] hh fun h hh=>?_;exact rd m hh ⟨(ej.wrap (i+1)),H1,kq hh,rfl⟩
 clear hh h;rintro h bs ⟨s_,rfl,hh,rfl⟩;replace H:=sinr H;apply ek;refine rk [2] [] hh fun h hh=>?_;cases H;exact rt hh
def zf9 (k:Nat) (n:Net) (k_:Int):Option Bool:=(if 0<=k_ then some (decide (k_<(n.nodes.length:Int))) else some false)
theorem zb0 (ax:Axs) (hx:NoAx ax) (k:Nat) (n:Net) (k_:Int) (v:Bool) (H:zf9 k n k_=some v):Pure Try.prog (EE ax) [] 52 [eNet n,.int .i64 k_] (.bool v):=by
 rw [zf9] at H;refine en [.tmp 4] 14 [0,1] (hx.no _ (by decide)) (fn52 ax) ?_;intro h hh;apply ek;refine rk [1,2] [] hh fun h hh=>?_;rcases isp H with ⟨c1,H⟩|⟨c1,H⟩;rotate_left
 .skip;apply ek;refine rk [4] [] (f2 hh (zAb c1)) fun h hh=>?_;cases H;exact rt hh
 apply ek;refine rk [4] [] (f2 hh (zAa c1)) fun h hh=>?_;cases H;exact rt hh
def zel (k:Nat) (n:Net):Nat->Int->Option (Int ⊕ Unit)
 |0,_=>none
 |m+1,i=>(if i<(n.nodes.length:Int) then (if 0<=i/\i<(n.nodes.length:Int) then (if ((gx n.nodes i).rules)<0 then some (.inl 1) else (if 4000<((gx n.nodes i).rules) then some (.inl 1) else (if ((gx n.nodes i).entries)<0 then some (.inl 1) else (if 100000<((gx n.nodes i).entries) then some (.inl 1) else zel k n m (ej.wrap (i+1)))))) else none) else some (.inr ()))
def zek (k:Nat) (n:Net):Nat->Int->Option (Int ⊕ Unit)
 |0,_=>none
 |m+1,i2=>(if i2<(n.links.length:Int) then (if 0<=i2/\i2<(n.links.length:Int) then ((zf9 k n ((gx n.links i2).frm)).bind fun az=>(if az=true then ((zf9 k n ((gx n.links i2).to)).bind fun bf=>(if bf=true then (if ((gx n.links i2).frm)=((gx n.links i2).to) then some (.inl 1) else (if ((gx n.links i2).cap)<0 then some (.inl 1) else (if 1048576<((gx n.links i2).cap) then some (.inl 1) else zek k n m (ej.wrap (i2+1))))) else some (.inl 1))) else some (.inl 1))) else none) else some (.inr ()))
def zej (k:Nat) (n:Net):Nat->Int->Option (Int ⊕ Unit)
 |0,_=>none
 |m+1,i3=>(if i3<(n.edges.length:Int) then (if 0<=i3/\i3<(n.edges.length:Int) then ((zf9 k n ((gx n.edges i3).node)).bind fun dw=>(if dw=true then zej k n m (ej.wrap (i3+1)) else some (.inl 1))) else none) else some (.inr ()))
def zj0 (k:Nat) (n:Net):Option Int:=(((if 200<(n.nodes.length:Int) then some true else (if 2000<(n.links.length:Int) then some true else some (decide (400<(n.edges.length:Int))))):Option Bool).bind fun s_=>(if s_=true then some 2 else ((zjz k n).bind fun bq=>((zih k bq.1).bind fun dx=>((zih k bq.2).bind fun dy=>(((if dx=true then some (!dy) else some true):Option Bool).bind fun s_2=>(if s_2=true then some 4 else ((zel k n k 0:Option (Int ⊕ Unit)).bind fun o3=>kg (fun r=>some r) (fun s_3=>((zek k n k 0:Option (Int ⊕ Unit)).bind fun o2=>kg (fun r=>some r) (fun s_4=>((zej k n k 0:Option (Int ⊕ Unit)).bind fun o=>kg (fun r=>some r) (fun s_5=>some 0) o)) o2)) o3))))))))
theorem zxd (ax:Axs) (hx:NoAx ax) (k:Nat) (n:Net) (v:Int) (H:zj0 k n=some v):Pure Try.prog (EE ax) [] 29 [eNet n] (.int .i64 v):=by
 rw [zj0] at H;refine en [.tmp 2] 130 [0] (hx.no _ (by decide)) (fn29 ax) ?_;intro h hh;apply ek;refine rk [1] [] hh fun h hh=>?_;obtain ⟨s_,H1,H⟩:=zae H;repeat apply ek
 refine cu [1,27] 1 (fun h bs=>(h 1=.ptr 0 0 3/\h 27=.bool s_)/\bs=[.cells true 3 [zdt n.nodes,zdu n.links,zdv n.edges]]) ?_ ?_
 .skip;rcases isp H1 with ⟨c1,H1⟩|⟨c1,H1⟩;rotate_left
  .skip;rcases isp H1 with ⟨c2,H1⟩|⟨c2,H1⟩;rotate_left
   .skip;refine rk [1,27] [] (f3 hh (zAb c1) (zAb c2)) fun h hh=>?_;cases H1;exact ce hh ⟨kq hh,rfl⟩
   refine rk [1,27] [] (f3 hh (zAb c1) (zAa c2)) fun h hh=>?_;cases H1;exact ce hh ⟨kq hh,rfl⟩
  refine rk [1,27] [] (f2 hh (zAa c1)) fun h hh=>?_;cases H1;exact ce hh ⟨kq hh,rfl⟩
 clear hh h;rintro h bs ⟨hh,rfl⟩;rcases isb H with ⟨c3,H⟩|⟨c3,H⟩;rotate_left
 .skip;refine cf (f2 hh c3) ?_;refine sk ?_;obtain ⟨bq,e4,H⟩:=zae H;apply ek;refine rkp [1,3,4] [] [.tup [strs bq.1,strs bq.2]] (f2 hh c3) ?_ ?_
  .exact ⟨f5 (je (zxc ax hx k n bq e4 ) (by first|rfl|simp only [c3])),trivial⟩
  clear hh h;intro h hh;obtain ⟨dx,e5,H⟩:=zae H;apply ek;refine rkp [1,4,5] [] [.bool dx] (f2 hh c3) ?_ ?_
  .exact ⟨f5 (je (zn2 ax hx k bq.1 dx e5 ) (by first|rfl|simp only [c3])),trivial⟩
  clear hh h;intro h hh;obtain ⟨dy,e6,H⟩:=zae H;apply ek;refine rkp [1,5,6] [] [.bool dy] (f2 hh c3) ?_ ?_
  .exact ⟨f5 (je (zn2 ax hx k bq.2 dy e6 ) (by first|rfl|simp only [c3])),trivial⟩
  clear hh h;intro h hh;obtain ⟨s_2,H1,H⟩:=zae H;repeat apply ek
  refine cu [1,42] 1 (fun h bs=>(h 1=.ptr 0 0 3/\h 42=.bool s_2)/\bs=[.cells true 3 [zdt n.nodes,zdu n.links,zdv n.edges]]) ?_ ?_
  .skip;rcases isb H1 with ⟨c7,H1⟩|⟨c7,H1⟩;rotate_left
   .skip;refine rk [1,42] [] (f3 hh c7 c3) fun h hh=>?_;cases H1;exact ce hh ⟨kq hh,rfl⟩
   refine rk [1,42] [] (f3 hh c7 c3) fun h hh=>?_;cases H1;exact ce hh ⟨kq hh,rfl⟩
  clear hh h;rintro h bs ⟨hh,rfl⟩;rcases isb H with ⟨c8,H⟩|⟨c8,H⟩;rotate_left
  .skip;refine cf (f2 hh c8) ?_;refine sk ?_;repeat apply ek
   refine rk [1,7] [] (f3 hh c3 c8) fun h hh=>?_;obtain ⟨o3,H1,H⟩:=zae H;refine cu [1] 1 (fun h bs=>∃ s_3:Unit,o3=.inr s_3/\(h 1=.ptr 0 0 3)/\bs=[.cells true 3 [zdt n.nodes,zdu n.links,zdv n.edges]]) ?_ ?_
   .skip;apply gl;refine jk [1,7] (fun m h bs=>∃ (i:Int),zel k n m i=some o3/\(h 1=.ptr 0 0 3/\h 7=.int .i64 i)/\bs=[.cells true 3 [zdt n.nodes,zdu n.links,zdv n.edges]]) ?_ k _ _ ?_;rotate_left
    .exact ⟨0,H1,kq hh,rfl⟩
    clear hh h H1;rintro m h bs ⟨i,H1,hh,rfl⟩;rcases m with _|m
    .rw [zel] at H1;cases H1
    rw [zel] at H1;repeat apply ek
    refine rk [1,7,47] [] (f3 hh c3 c8) fun h hh=>?_;rcases isp H1 with ⟨c9,H1⟩|⟨c9,H1⟩;rotate_left
    .skip;refine cf (f2 hh (zAb c9)) ?_;refine xk ?_;cases H1;exact ce hh ⟨_,rfl,kq hh,rfl⟩
    refine ct (f2 hh (zAa c9)) ?_;refine sk ?_;apply ek;apply gl;obtain ⟨g10,H1⟩:=isg H1;apply ek;refine rk [1,7,8] [] (f3 hh c3 (f2 c8 (zak g10))) fun h hh=>?_;rcases isp H1 with ⟨c11,H1⟩|⟨c11,H1⟩;rotate_left
    .skip;rcases isp H1 with ⟨c12,H1⟩|⟨c12,H1⟩;rotate_left
     .skip;rcases isp H1 with ⟨c13,H1⟩|⟨c13,H1⟩;rotate_left
      .skip;apply ek;refine rk [1,7,72] [] (f3 hh (zAb c11) (f3 (zAb c12) (zAb c13) (f2 c3 c8))) fun h hh=>?_;rcases isp H1 with ⟨c14,H1⟩|⟨c14,H1⟩;rotate_left
       .skip;refine cf (f2 hh (zAb c14)) ?_;refine sk ?_;refine rk [1,7] [] (f3 hh c3 c8) fun h hh=>?_;exact rd m hh ⟨(ej.wrap (i+1)),H1,kq hh,rfl⟩
       refine ct (f2 hh (zAa c14)) ?_;apply ek;refine rk [2] [] (f3 hh c3 c8) fun h hh=>?_;cases H1;obtain rfl:=sinl H;exact rt hh
      apply ek;refine rk [1,7,72] [] (f3 hh (zAb c11) (f3 (zAb c12) (zAa c13) (f2 c3 c8))) fun h hh=>?_;refine ct hh ?_;apply ek;refine rk [2] [] (f3 hh c3 c8) fun h hh=>?_;cases H1;obtain rfl:=sinl H;exact rt hh
     apply ek;refine rk [1,7,72] [] (f3 hh (zAb c11) (f3 (zAa c12) c3 c8)) fun h hh=>?_;refine ct hh ?_;apply ek;refine rk [2] [] (f3 hh c3 c8) fun h hh=>?_;cases H1;obtain rfl:=sinl H;exact rt hh
    apply ek;refine rk [1,7,72] [] (f3 hh (zAa c11) (f2 c3 c8)) fun h hh=>?_;refine ct hh ?_;apply ek;refine rk [2] [] (f3 hh c3 c8) fun h hh=>?_;cases H1;obtain rfl:=sinl H;exact rt hh
   clear hh h;rintro h bs ⟨s_3,rfl,hh,rfl⟩;replace H:=sinr H;repeat apply ek
   refine rk [1,9] [] (f3 hh c3 c8) fun h hh=>?_;obtain ⟨o2,H1,H⟩:=zae H;refine cu [1] 1 (fun h bs=>∃ s_4:Unit,o2=.inr s_4/\(h 1=.ptr 0 0 3)/\bs=[.cells true 3 [zdt n.nodes,zdu n.links,zdv n.edges]]) ?_ ?_
   .skip;apply gl;refine jk [1,9] (fun m h bs=>∃ (i2:Int),zek k n m i2=some o2/\(h 1=.ptr 0 0 3/\h 9=.int .i64 i2)/\bs=[.cells true 3 [zdt n.nodes,zdu n.links,zdv n.edges]]) ?_ k _ _ ?_;rotate_left
    .exact ⟨0,H1,kq hh,rfl⟩
    clear hh h H1;rintro m h bs ⟨i2,H1,hh,rfl⟩;rcases m with _|m
    .rw [zek] at H1;cases H1
    rw [zek] at H1;repeat apply ek
    refine rk [1,9,77] [] (f3 hh c3 c8) fun h hh=>?_;rcases isp H1 with ⟨c15,H1⟩|⟨c15,H1⟩;rotate_left
    .skip;refine cf (f2 hh (zAb c15)) ?_;refine xk ?_;cases H1;exact ce hh ⟨_,rfl,kq hh,rfl⟩
    refine ct (f2 hh (zAa c15)) ?_;refine sk ?_;apply ek;apply gl;obtain ⟨g16,H1⟩:=isg H1;apply ek;refine rk [1,9,10] [] (f3 hh c3 (f2 c8 (zak g16))) fun h hh=>?_;obtain ⟨az,e17,H1⟩:=zae H1;rcases isb H1 with ⟨c18,H1⟩|⟨c18,H1⟩;rotate_left
    .skip;apply ek;refine rkp [1,9,113] [] [.bool az] (f3 hh c18 (f2 c3 c8)) ?_ ?_
     .exact ⟨f5 (je (zb0 ax hx k n ((gx n.links i2).frm) az e17 ) (by first|rfl|simp only [c3,c8,c18])),trivial⟩
     clear hh h;intro h hh;refine ct hh ?_;apply ek;refine rk [2] [] (f3 hh c3 (f2 c8 c18)) fun h hh=>?_;cases H1;obtain rfl:=sinl H;exact rt hh
    obtain ⟨bf,e19,H1⟩:=zae H1;rcases isb H1 with ⟨c20,H1⟩|⟨c20,H1⟩;rotate_left
    .skip;apply ek;refine rkp [1,9,113] [] [.bool az,.bool bf] (f3 hh c18 (f3 c20 c3 c8)) ?_ ?_
     .exact ⟨f5 (je (zb0 ax hx k n ((gx n.links i2).frm) az e17 ) (by first|rfl|simp only [c3,c8,c18,c20])),f5 (je (zb0 ax hx k n ((gx n.links i2).to) bf e19 ) (by first|rfl|simp only [c3,c8,c18,c20])),trivial⟩
     clear hh h;intro h hh;refine ct hh ?_;apply ek;refine rk [2] [] (f3 hh c3 (f3 c8 c18 c20)) fun h hh=>?_;cases H1;obtain rfl:=sinl H;exact rt hh
    rcases isp H1 with ⟨c21,H1⟩|⟨c21,H1⟩;rotate_left
    .skip;rcases isp H1 with ⟨c22,H1⟩|⟨c22,H1⟩;rotate_left
     .skip;apply ek;refine rkp [1,9,113] [] [.bool az,.bool bf] (f3 hh c18 (f3 c20 (zAb c21) (f3 (zAb c22) c3 c8))) ?_ ?_
      .exact ⟨f5 (je (zb0 ax hx k n ((gx n.links i2).frm) az e17 ) (by first|rfl|simp only [c3,c8,c18,c20])),f5 (je (zb0 ax hx k n ((gx n.links i2).to) bf e19 ) (by first|rfl|simp only [c3,c8,c18,c20])),trivial⟩
      clear hh h;intro h hh;rcases isp H1 with ⟨c23,H1⟩|⟨c23,H1⟩;rotate_left
      .skip;refine cf (f2 hh (zAb c23)) ?_;refine sk ?_;refine rk [1,9] [] (f3 hh c3 (f3 c8 c18 c20)) fun h hh=>?_;exact rd m hh ⟨(ej.wrap (i2+1)),H1,kq hh,rfl⟩
      refine ct (f2 hh (zAa c23)) ?_;apply ek;refine rk [2] [] (f3 hh c3 (f3 c8 c18 c20)) fun h hh=>?_;cases H1;obtain rfl:=sinl H;exact rt hh
     apply ek;refine rkp [1,9,113] [] [.bool az,.bool bf] (f3 hh c18 (f3 c20 (zAb c21) (f3 (zAa c22) c3 c8))) ?_ ?_
     .exact ⟨f5 (je (zb0 ax hx k n ((gx n.links i2).frm) az e17 ) (by first|rfl|simp only [c3,c8,c18,c20])),f5 (je (zb0 ax hx k n ((gx n.links i2).to) bf e19 ) (by first|rfl|simp only [c3,c8,c18,c20])),trivial⟩
     clear hh h;intro h hh;refine ct hh ?_;apply ek;refine rk [2] [] (f3 hh c3 (f3 c8 c18 c20)) fun h hh=>?_;cases H1;obtain rfl:=sinl H;exact rt hh
    apply ek;refine rkp [1,9,113] [] [.bool az,.bool bf] (f3 hh c18 (f3 c20 (zAa c21) (f2 c3 c8))) ?_ ?_
    .exact ⟨f5 (je (zb0 ax hx k n ((gx n.links i2).frm) az e17 ) (by first|rfl|simp only [c3,c8,c18,c20])),f5 (je (zb0 ax hx k n ((gx n.links i2).to) bf e19 ) (by first|rfl|simp only [c3,c8,c18,c20])),trivial⟩
    clear hh h;intro h hh;refine ct hh ?_;apply ek;refine rk [2] [] (f3 hh c3 (f3 c8 c18 c20)) fun h hh=>?_;cases H1;obtain rfl:=sinl H;exact rt hh
   clear hh h;rintro h bs ⟨s_4,rfl,hh,rfl⟩;replace H:=sinr H;repeat apply ek
   refine rk [1,11] [] (f3 hh c3 c8) fun h hh=>?_;obtain ⟨o,H1,H⟩:=zae H;refine cu [] 1 (fun h bs=>∃ s_5:Unit,o=.inr s_5/\(True)/\bs=[.cells true 3 [zdt n.nodes,zdu n.links,zdv n.edges]]) ?_ ?_
   .skip;apply gl;refine jk [1,11] (fun m h bs=>∃ (i3:Int),zej k n m i3=some o/\(h 1=.ptr 0 0 3/\h 11=.int .i64 i3)/\bs=[.cells true 3 [zdt n.nodes,zdu n.links,zdv n.edges]]) ?_ k _ _ ?_;rotate_left
    .exact ⟨0,H1,kq hh,rfl⟩
    clear hh h H1;rintro m h bs ⟨i3,H1,hh,rfl⟩;rcases m with _|m
    .rw [zej] at H1;cases H1
    rw [zej] at H1;repeat apply ek
    refine rk [1,11,118] [] (f3 hh c3 c8) fun h hh=>?_;rcases isp H1 with ⟨c24,H1⟩|⟨c24,H1⟩;rotate_left
    .skip;refine cf (f2 hh (zAb c24)) ?_;refine xk ?_;cases H1;exact ce hh ⟨_,rfl,kq hh,rfl⟩
    refine ct (f2 hh (zAa c24)) ?_;refine sk ?_;apply ek;apply gl;obtain ⟨g25,H1⟩:=isg H1;obtain ⟨dw,e26,H1⟩:=zae H1;apply ek;refine dk 7 [1,11,129] [] [] [(.bool dw,stL [.cells true 3 [zdt n.nodes,zdu n.links,zdv n.edges]])] (f3 hh c3 (f2 c8 (zak g25))) trivial ?_ ?_
    .exact ⟨f5 (je (zb0 ax hx k n ((gx n.edges i3).node) dw e26 ) (by first|rfl|simp only [c3,c8])),trivial⟩
    clear hh h;intro h hh;rcases isb H1 with ⟨c27,H1⟩|⟨c27,H1⟩;rotate_left
    .skip;refine ct (f2 hh c27) ?_;apply ek;refine rk [2] [] (f3 hh c3 (f2 c8 c27)) fun h hh=>?_;cases H1;obtain rfl:=sinl H;exact rt hh
    refine cf (f2 hh c27) ?_;refine sk ?_;refine rk [1,11] [] (f3 hh c3 (f2 c8 c27)) fun h hh=>?_;exact rd m hh ⟨(ej.wrap (i3+1)),H1,kq hh,rfl⟩
   clear hh h;rintro h bs ⟨s_5,rfl,hh,rfl⟩;replace H:=sinr H;apply ek;refine rk [2] [] (f3 hh c3 c8) fun h hh=>?_;cases H;exact rt hh
  refine ct (f2 hh c8) ?_;apply ek;refine rk [2] [] (f3 hh c3 c8) fun h hh=>?_;cases H;exact rt hh
 refine ct (f2 hh c3) ?_;apply ek;refine rk [2] [] (f2 hh c3) fun h hh=>?_;cases H;exact rt hh
def ze7 (k:Nat) (t:List Rule) (k_:Int):Nat->Int->Option (Bool ⊕ Unit)
 |0,_=>none
 |m+1,i=>(if i<(((gx t k_).outs).length:Int) then (if 0<=i/\i<(((gx t k_).outs).length:Int) then (if 10<((gx ((gx t k_).outs) i).length:Int) then some (.inl false) else ze7 k t k_ m (ej.wrap (i+1))) else none) else some (.inr ()))
def ze8 (k:Nat) (t:List Rule):Nat->Int->Option (Bool ⊕ Unit)
 |0,_=>none
 |m+1,k_=>(if k_<(t.length:Int) then (((if 0<=k_/\k_<(t.length:Int) then (if 20<(((gx t k_).outs).length:Int) then some (.inl false) else ((ze7 k t k_ k 0:Option (Bool ⊕ Unit)).bind fun o=>kg (fun r=>some (.inl r)) (fun s_3=>some (.inr ())) o)) else none):Option (Bool ⊕ Unit)).bind fun o2=>kg (fun r=>some (.inl r)) (fun s_2=>ze8 k t m (ej.wrap (k_+1))) o2) else some (.inr ()))
def zn1 (k:Nat) (t:List Rule) (most:Int):Option Bool:=((ze8 k t k 0:Option (Bool ⊕ Unit)).bind fun o3=>kg (fun r=>some r) (fun s_=>some (decide ((t.length:Int)<=most))) o3)
theorem z16 (ax:Axs) (hx:NoAx ax) (k:Nat) (t:List Rule) (most:Int) (v:Bool) (H:zn1 k t most=some v):Pure Try.prog (EE ax) [] 28 [zah t,.int .i64 most] (.bool v):=by
 rw [zn1] at H;refine en [.tmp 4] 44 [0,1] (hx.no _ (by decide)) (fn28 ax) ?_;intro h hh;apply ek;refine rk [0,1] [] hh fun h hh=>?_;repeat apply ek
 refine rk [0,1,5] [] hh fun h hh=>?_;obtain ⟨o3,H1,H⟩:=zae H;refine cu [0,1] 0 (fun h bs=>∃ s_:Unit,o3=.inr s_/\(h 0=zah t/\h 1=.int .i64 most)/\bs=[]) ?_ ?_
 .skip;apply gl;refine jk [0,1,5] (fun m h bs=>∃ (k_:Int),ze8 k t m k_=some o3/\(h 0=zah t/\h 1=.int .i64 most/\h 5=.int .i64 k_)/\bs=[]) ?_ k _ _ ?_;rotate_left
  .exact ⟨0,H1,kq hh,rfl⟩
  clear hh h H1;rintro m h bs ⟨k_,H1,hh,rfl⟩;rcases m with _|m
  .rw [ze8] at H1;cases H1
  rw [ze8] at H1;repeat apply ek
  refine rk [0,1,5,10] [] hh fun h hh=>?_;rcases isp H1 with ⟨c1,H1⟩|⟨c1,H1⟩;rotate_left
  .skip;refine cf (f2 hh (zAb c1)) ?_;refine xk ?_;cases H1;exact ce hh ⟨_,rfl,kq hh,rfl⟩
  refine ct (f2 hh (zAa c1)) ?_;refine sk ?_;obtain ⟨o2,H2,H1⟩:=zae H1;apply ek;refine cu [0,1,5] 0 (fun h bs=>∃ s_2:Unit,o2=.inr s_2/\(h 0=zah t/\h 1=.int .i64 most/\h 5=.int .i64 k_)/\bs=[]) ?_ ?_
  .skip;apply gl;obtain ⟨g2,H2⟩:=isg H2;repeat apply ek
   refine rk [0,1,5,19] [] (f2 hh (zak g2)) fun h hh=>?_;rcases isp H2 with ⟨c3,H2⟩|⟨c3,H2⟩;rotate_left
   .skip;refine cf (f2 hh (zAb c3)) ?_;refine sk ?_;apply ek;refine rk [0,1,5,6] [] hh fun h hh=>?_;obtain ⟨o,H3,H2⟩:=zae H2;refine cu [0,1,5] 0 (fun h bs=>∃ s_3:Unit,o=.inr s_3/\(h 0=zah t/\h 1=.int .i64 most/\h 5=.int .i64 k_)/\bs=[]) ?_ ?_
    .skip;apply gl;refine jk [0,1,5,6] (fun m h bs=>∃ (i:Int),ze7 k t k_ m i=some o/\(h 0=zah t/\h 1=.int .i64 most/\h 5=.int .i64 k_/\h 6=.int .i64 i)/\bs=[]) ?_ k _ _ ?_;rotate_left
     .exact ⟨0,H3,kq hh,rfl⟩
     clear hh h H3;rintro m h bs ⟨i,H3,hh,rfl⟩;rcases m with _|m
     .rw [ze7] at H3;cases H3
     rw [ze7] at H3;repeat apply ek
     refine rk [0,1,5,6,27] [] (f2 hh (zak g2)) fun h hh=>?_;rcases isp H3 with ⟨c4,H3⟩|⟨c4,H3⟩;rotate_left
     .skip;refine cf (f2 hh (zAb c4)) ?_;refine xk ?_;cases H3;exact ce hh ⟨_,rfl,kq hh,rfl⟩
     refine ct (f2 hh (zAa c4)) ?_;refine sk ?_;apply ek;apply gl;obtain ⟨g5,H3⟩:=isg H3;apply ek;refine rk [0,1,5,6,39] [] (f3 hh (zak g2) (zak g5)) fun h hh=>?_;rcases isp H3 with ⟨c6,H3⟩|⟨c6,H3⟩;rotate_left
     .skip;refine cf (f2 hh (zAb c6)) ?_;refine sk ?_;refine rk [0,1,5,6] [] hh fun h hh=>?_;exact rd m hh ⟨(ej.wrap (i+1)),H3,kq hh,rfl⟩
     refine ct (f2 hh (zAa c6)) ?_;apply ek;refine rk [4] [] hh fun h hh=>?_;cases H3;obtain rfl:=sinm H2;obtain rfl:=sinm H1;obtain rfl:=sinl H;exact rt hh
    clear hh h;rintro h bs ⟨s_3,rfl,hh,rfl⟩;replace H2:=sinr H2;cases H2;exact ce hh ⟨_,rfl,kq hh,rfl⟩
   refine ct (f2 hh (zAa c3)) ?_;apply ek;refine rk [4] [] hh fun h hh=>?_;cases H2;obtain rfl:=sinm H1;obtain rfl:=sinl H;exact rt hh
  clear hh h;rintro h bs ⟨s_2,rfl,hh,rfl⟩;replace H1:=sinr H1;refine rk [0,1,5] [] hh fun h hh=>?_;exact rd m hh ⟨(ej.wrap (k_+1)),H1,kq hh,rfl⟩
 clear hh h;rintro h bs ⟨s_,rfl,hh,rfl⟩;replace H:=sinr H;apply ek;refine rk [4] [] hh fun h hh=>?_;cases H;exact rt hh
def zc0 (k:Nat) (n:Net) (r:Rule) (k_:Int):Nat->Int->Option (Bool ⊕ Unit)
 |0,_=>none
 |m+1,i=>(if 0<=k_/\k_<(r.outs.length:Int) then (if i<((gx r.outs k_).length:Int) then (if 0<=i/\i<((gx r.outs k_).length:Int) then ((zgp k ((gx (gx r.outs k_) i).mod)).bind fun dz=>(if ((gx (gx r.outs k_) i).link)<(-1) then some (.inl false) else (if (n.links.length:Int)<=((gx (gx r.outs k_) i).link) then some (.inl false) else (if dz=true then zc0 k n r k_ m (ej.wrap (i+1)) else some (.inl false))))) else none) else some (.inr ())) else none)
def zc1 (k:Nat) (n:Net) (r:Rule):Nat->Int->Option (Bool ⊕ Unit)
 |0,_=>none
 |m+1,k_=>(if k_<(r.outs.length:Int) then (((((if 0<=k_/\k_<(r.outs.length:Int) then (if ((gx r.outs k_).length:Int)<1 then some true else some (decide (8<((gx r.outs k_).length:Int)))) else none):Option Bool).bind fun s_4=>(if s_4=true then some (.inl false) else ((zc0 k n r k_ k 0:Option (Bool ⊕ Unit)).bind fun o=>kg (fun r=>some (.inl r)) (fun s_5=>some (.inr ())) o))):Option (Bool ⊕ Unit)).bind fun o2=>kg (fun r=>some (.inl r)) (fun s_3=>zc1 k n r m (ej.wrap (k_+1))) o2) else some (.inr ()))
def zin (k:Nat) (n:Net) (steps:Int) (r:Rule):Option Bool:=((zhd k r.mat).bind fun ay=>(((if r.prio<1 then some true else (if 65535<r.prio then some true else (if ay=true then (if r.step<(-1) then some true else (if steps<=r.step then some true else some (decide (16<(r.outs.length:Int))))) else some true))):Option Bool).bind fun s_=>(if s_=true then some false else ((zc1 k n r k 0:Option (Bool ⊕ Unit)).bind fun o3=>kg (fun r=>some r) (fun s_2=>some true) o3))))
theorem zt4 (ax:Axs) (hx:NoAx ax) (k:Nat) (n:Net) (steps:Int) (r:Rule) (v:Bool) (H:zin k n steps r=some v):Pure Try.prog (EE ax) [] 38 [eNet n,.int .i64 steps,zao r] (.bool v):=by
 rw [zin] at H;refine en [.tmp 6] 103 [0,1,2] (hx.no _ (by decide)) (fn38 ax) ?_;intro h hh;apply ek;refine rk [1,3,5] [] hh fun h hh=>?_;obtain ⟨ay,e1,H⟩:=zae H;apply ek;refine rkp [1,3,5,7] [] [.bool ay] hh ?_ ?_
 .exact ⟨f5 ((zkj ax hx k r.mat ay e1 ).call _),trivial⟩
 clear hh h;intro h hh;obtain ⟨s_,H1,H⟩:=zae H;repeat apply ek
 refine cu [3,5,43] 2 (fun h bs=>(h 3=.ptr 0 0 3/\h 5=.ptr 1 0 23/\h 43=.bool s_)/\bs=[.cells true 3 [zdt n.nodes,zdu n.links,zdv n.edges],.cells true 23 (eo .i64 r.prio :: (r.mat.mask.l.map (eo .i64)++(r.mat.bits.l.map (eo .i64)++[eo .i64 r.step,zbs r.outs])))]) ?_ ?_
 .skip;rcases isp H1 with ⟨c2,H1⟩|⟨c2,H1⟩;rotate_left
  .skip;rcases isp H1 with ⟨c3,H1⟩|⟨c3,H1⟩;rotate_left
   .skip;rcases isb H1 with ⟨c4,H1⟩|⟨c4,H1⟩;rotate_left
    .skip;refine rk [3,5,43] [] (f3 hh (zAb c2) (f2 (zAb c3) c4)) fun h hh=>?_;cases H1;exact ce hh ⟨kq hh,rfl⟩
    rcases isp H1 with ⟨c5,H1⟩|⟨c5,H1⟩;rotate_left
    .skip;rcases isp H1 with ⟨c6,H1⟩|⟨c6,H1⟩;rotate_left
     .skip;refine rk [3,5,43] [] (f3 hh (zAb c2) (f3 (zAb c3) c4 (f2 (zAb c5) (zAb c6)))) fun h hh=>?_;cases H1;exact ce hh ⟨kq hh,rfl⟩
     refine rk [3,5,43] [] (f3 hh (zAb c2) (f3 (zAb c3) c4 (f2 (zAb c5) (zAa c6)))) fun h hh=>?_;cases H1;exact ce hh ⟨kq hh,rfl⟩
    refine rk [3,5,43] [] (f3 hh (zAb c2) (f3 (zAb c3) c4 (zAa c5))) fun h hh=>?_;cases H1;exact ce hh ⟨kq hh,rfl⟩
   refine rk [3,5,43] [] (f3 hh (zAb c2) (zAa c3)) fun h hh=>?_;cases H1;exact ce hh ⟨kq hh,rfl⟩
  refine rk [3,5,43] [] (f2 hh (zAa c2)) fun h hh=>?_;cases H1;exact ce hh ⟨kq hh,rfl⟩
 clear hh h;rintro h bs ⟨hh,rfl⟩;rcases isb H with ⟨c7,H⟩|⟨c7,H⟩;rotate_left
 .skip;refine cf (f2 hh c7) ?_;refine sk ?_;repeat apply ek
  refine rk [3,5,8] [] (f2 hh c7) fun h hh=>?_;obtain ⟨o3,H1,H⟩:=zae H;refine cu [] 2 (fun h bs=>∃ s_2:Unit,o3=.inr s_2/\(True)/\bs=[.cells true 3 [zdt n.nodes,zdu n.links,zdv n.edges],.cells true 23 (eo .i64 r.prio :: (r.mat.mask.l.map (eo .i64)++(r.mat.bits.l.map (eo .i64)++[eo .i64 r.step,zbs r.outs])))]) ?_ ?_
  .skip;apply gl;refine jk [3,5,8] (fun m h bs=>∃ (k_:Int),zc1 k n r m k_=some o3/\(h 3=.ptr 0 0 3/\h 5=.ptr 1 0 23/\h 8=.int .i64 k_)/\bs=[.cells true 3 [zdt n.nodes,zdu n.links,zdv n.edges],.cells true 23 (eo .i64 r.prio :: (r.mat.mask.l.map (eo .i64)++(r.mat.bits.l.map (eo .i64)++[eo .i64 r.step,zbs r.outs])))]) ?_ k _ _ ?_;rotate_left
   .exact ⟨0,H1,kq hh,rfl⟩
   clear hh h H1;rintro m h bs ⟨k_,H1,hh,rfl⟩;rcases m with _|m
   .rw [zc1] at H1;cases H1
   rw [zc1] at H1;repeat apply ek
   refine rk [3,5,8,48] [] (f2 hh c7) fun h hh=>?_;rcases isp H1 with ⟨c8,H1⟩|⟨c8,H1⟩;rotate_left
   .skip;refine cf (f2 hh (zAb c8)) ?_;refine xk ?_;cases H1;exact ce hh ⟨_,rfl,kq hh,rfl⟩
   refine ct (f2 hh (zAa c8)) ?_;refine sk ?_;obtain ⟨o2,H2,H1⟩:=zae H1;apply ek;refine cu [3,5,8] 2 (fun h bs=>∃ s_3:Unit,o2=.inr s_3/\(h 3=.ptr 0 0 3/\h 5=.ptr 1 0 23/\h 8=.int .i64 k_)/\bs=[.cells true 3 [zdt n.nodes,zdu n.links,zdv n.edges],.cells true 23 (eo .i64 r.prio :: (r.mat.mask.l.map (eo .i64)++(r.mat.bits.l.map (eo .i64)++[eo .i64 r.step,zbs r.outs])))]) ?_ ?_
   .skip;apply gl;obtain ⟨s_4,H3,H2⟩:=zae H2;repeat apply ek
    refine cu [3,5,8,66] 2 (fun h bs=>(h 3=.ptr 0 0 3/\h 5=.ptr 1 0 23/\h 8=.int .i64 k_/\h 66=.bool s_4)/\bs=[.cells true 3 [zdt n.nodes,zdu n.links,zdv n.edges],.cells true 23 (eo .i64 r.prio :: (r.mat.mask.l.map (eo .i64)++(r.mat.bits.l.map (eo .i64)++[eo .i64 r.step,zbs r.outs])))]) ?_ ?_
    .skip;obtain ⟨g9,H3⟩:=isg H3;rcases isp H3 with ⟨c10,H3⟩|⟨c10,H3⟩;rotate_left
     .skip;refine rk [3,5,8,66] [] (f3 hh (zAb c10) (f2 c7 (zak g9))) fun h hh=>?_;cases H3;exact ce hh ⟨kq hh,rfl⟩
     refine rk [3,5,8,66] [] (f3 hh (zAa c10) (f2 c7 (zak g9))) fun h hh=>?_;cases H3;exact ce hh ⟨kq hh,rfl⟩
    clear hh h;rintro h bs ⟨hh,rfl⟩;rcases isb H2 with ⟨c11,H2⟩|⟨c11,H2⟩;rotate_left
    .skip;refine cf (f2 hh c11) ?_;refine sk ?_;apply ek;refine rk [3,5,8,9] [] (f3 hh c7 c11) fun h hh=>?_;obtain ⟨o,H3,H2⟩:=zae H2;refine cu [3,5,8] 2 (fun h bs=>∃ s_5:Unit,o=.inr s_5/\(h 3=.ptr 0 0 3/\h 5=.ptr 1 0 23/\h 8=.int .i64 k_)/\bs=[.cells true 3 [zdt n.nodes,zdu n.links,zdv n.edges],.cells true 23 (eo .i64 r.prio :: (r.mat.mask.l.map (eo .i64)++(r.mat.bits.l.map (eo .i64)++[eo .i64 r.step,zbs r.outs])))]) ?_ ?_
     .skip;apply gl;refine jk [3,5,8,9] (fun m h bs=>∃ (i:Int),zc0 k n r k_ m i=some o/\(h 3=.ptr 0 0 3/\h 5=.ptr 1 0 23/\h 8=.int .i64 k_/\h 9=.int .i64 i)/\bs=[.cells true 3 [zdt n.nodes,zdu n.links,zdv n.edges],.cells true 23 (eo .i64 r.prio :: (r.mat.mask.l.map (eo .i64)++(r.mat.bits.l.map (eo .i64)++[eo .i64 r.step,zbs r.outs])))]) ?_ k _ _ ?_;rotate_left
      .exact ⟨0,H3,kq hh,rfl⟩
      clear hh h H3;rintro m h bs ⟨i,H3,hh,rfl⟩;rcases m with _|m
      .rw [zc0] at H3;cases H3
      rw [zc0] at H3;obtain ⟨g12,H3⟩:=isg H3;repeat apply ek
      refine rk [3,5,8,9,74] [] (f3 hh c7 (f2 c11 (zak g12))) fun h hh=>?_;rcases isp H3 with ⟨c13,H3⟩|⟨c13,H3⟩;rotate_left
      .skip;refine cf (f2 hh (zAb c13)) ?_;refine xk ?_;cases H3;exact ce hh ⟨_,rfl,kq hh,rfl⟩
      refine ct (f2 hh (zAa c13)) ?_;refine sk ?_;apply ek;apply gl;obtain ⟨g14,H3⟩:=isg H3;apply ek;refine rk [3,5,8,9,10] [] (f3 hh c7 (f3 c11 (zak g12) (zak g14))) fun h hh=>?_;obtain ⟨dz,e15,H3⟩:=zae H3;apply ek;refine rkp [3,5,8,9,10,11] [] [.bool dz] (f3 hh c7 c11) ?_ ?_
      .exact ⟨f5 (je (zqv ax hx k ((gx (gx r.outs k_) i).mod) dz e15 ) (by first|rfl|simp only [c7,c11])),trivial⟩
      clear hh h;intro h hh;rcases isp H3 with ⟨c16,H3⟩|⟨c16,H3⟩;rotate_left
      .skip;rcases isp H3 with ⟨c17,H3⟩|⟨c17,H3⟩;rotate_left
       .skip;apply ek;refine rk [3,5,8,9,102] [] (f3 hh (zAb c16) (f3 (zAb c17) c7 c11)) fun h hh=>?_;rcases isb H3 with ⟨c18,H3⟩|⟨c18,H3⟩;rotate_left
        .skip;refine ct (f2 hh c18) ?_;apply ek;refine rk [6] [] (f3 hh c7 (f2 c11 c18)) fun h hh=>?_;cases H3;obtain rfl:=sinm H2;obtain rfl:=sinm H1;obtain rfl:=sinl H;exact rt hh
        refine cf (f2 hh c18) ?_;refine sk ?_;refine rk [3,5,8,9] [] (f3 hh c7 (f2 c11 c18)) fun h hh=>?_;exact rd m hh ⟨(ej.wrap (i+1)),H3,kq hh,rfl⟩
       apply ek;refine rk [3,5,8,9,102] [] (f3 hh (zAb c16) (f3 (zAa c17) c7 c11)) fun h hh=>?_;refine ct hh ?_;apply ek;refine rk [6] [] (f3 hh c7 c11) fun h hh=>?_;cases H3;obtain rfl:=sinm H2;obtain rfl:=sinm H1;obtain rfl:=sinl H;exact rt hh
      apply ek;refine rk [3,5,8,9,102] [] (f3 hh (zAa c16) (f2 c7 c11)) fun h hh=>?_;refine ct hh ?_;apply ek;refine rk [6] [] (f3 hh c7 c11) fun h hh=>?_;cases H3;obtain rfl:=sinm H2;obtain rfl:=sinm H1;obtain rfl:=sinl H;exact rt hh
     clear hh h;rintro h bs ⟨s_5,rfl,hh,rfl⟩;replace H2:=sinr H2;cases H2;exact ce hh ⟨_,rfl,kq hh,rfl⟩
    refine ct (f2 hh c11) ?_;apply ek;refine rk [6] [] (f3 hh c7 c11) fun h hh=>?_;cases H2;obtain rfl:=sinm H1;obtain rfl:=sinl H;exact rt hh
   clear hh h;rintro h bs ⟨s_3,rfl,hh,rfl⟩;replace H1:=sinr H1;refine rk [3,5,8] [] (f2 hh c7) fun h hh=>?_;exact rd m hh ⟨(ej.wrap (k_+1)),H1,kq hh,rfl⟩
  clear hh h;rintro h bs ⟨s_2,rfl,hh,rfl⟩;replace H:=sinr H;apply ek;refine rk [6] [] (f2 hh c7) fun h hh=>?_;cases H;exact rt hh
 refine ct (f2 hh c7) ?_;apply ek;refine rk [6] [] (f2 hh c7) fun h hh=>?_;cases H;exact rt hh
def zco (k:Nat) (n:Net) (steps:Int) (t:List Rule):Nat->Int->Option ((Int×Int) ⊕ Unit)
 |0,_=>none
 |m+1,k_=>(if k_<(t.length:Int) then (if 0<=k_/\k_<(t.length:Int) then ((zin k n steps (gx t k_)).bind fun d6=>(if d6=true then (if 0<k_ then (if (0:Int)<=(ej.wrap (k_ - 1))/\(ej.wrap (k_ - 1))<(t.length:Int) then (if ((gx t (ej.wrap (k_ - 1))).prio)<=((gx t k_).prio) then some (.inl (k_,1)) else zco k n steps t m (ej.wrap (k_+1))) else none) else zco k n steps t m (ej.wrap (k_+1))) else some (.inl (k_,1)))) else none) else some (.inr ()))
def zjy (k:Nat) (n:Net) (steps:Int) (t:List Rule):Option (Int×Int):=(((if steps<0 then some true else some (decide (1000<steps))):Option Bool).bind fun s_=>(if s_=true then some (0,1) else (if 4000<(t.length:Int) then some (0,2) else ((zco k n steps t k 0:Option ((Int×Int) ⊕ Unit)).bind fun o=>kg (fun r=>some r) (fun s_2=>some (0,0)) o))))
theorem zxb (ax:Axs) (hx:NoAx ax) (k:Nat) (n:Net) (steps:Int) (t:List Rule) (v:Int×Int) (H:zjy k n steps t=some v):Pure Try.prog (EE ax) [] 15 [eNet n,.int .i64 steps,zah t] (tupT [.int .i64 v.1,.int .i64 v.2]):=by
 rw [zjy] at H;refine enN [.tmp 6,.tmp 7] 53 [0,1,2] (hx.no _ (by decide)) (fn15 ax) ?_;intro h hh;apply ek;refine rk [1,2,3] [] hh fun h hh=>?_;obtain ⟨s_,H1,H⟩:=zae H;repeat apply ek
 refine cu [1,2,3,15] 1 (fun h bs=>(h 1=.int .i64 steps/\h 2=zah t/\h 3=.ptr 0 0 3/\h 15=.bool s_)/\bs=[.cells true 3 [zdt n.nodes,zdu n.links,zdv n.edges]]) ?_ ?_
 .skip;rcases isp H1 with ⟨c1,H1⟩|⟨c1,H1⟩;rotate_left
  .skip;refine rk [1,2,3,15] [] (f2 hh (zAb c1)) fun h hh=>?_;cases H1;exact ce hh ⟨kq hh,rfl⟩
  refine rk [1,2,3,15] [] (f2 hh (zAa c1)) fun h hh=>?_;cases H1;exact ce hh ⟨kq hh,rfl⟩
 clear hh h;rintro h bs ⟨hh,rfl⟩;rcases isb H with ⟨c2,H⟩|⟨c2,H⟩;rotate_left
 .skip;refine cf (f2 hh c2) ?_;refine sk ?_;repeat apply ek
  refine rk [1,2,3,18] [] (f2 hh c2) fun h hh=>?_;rcases isp H with ⟨c3,H⟩|⟨c3,H⟩;rotate_left
  .skip;refine cf (f2 hh (zAb c3)) ?_;refine sk ?_;repeat apply ek
   refine rk [1,2,3,8] [] (f2 hh c2) fun h hh=>?_;obtain ⟨o,H1,H⟩:=zae H;refine cu [] 1 (fun h bs=>∃ s_2:Unit,o=.inr s_2/\(True)/\bs=[.cells true 3 [zdt n.nodes,zdu n.links,zdv n.edges]]) ?_ ?_
   .skip;apply gl;refine jk [1,2,3,8] (fun m h bs=>∃ (k_:Int),zco k n steps t m k_=some o/\(h 1=.int .i64 steps/\h 2=zah t/\h 3=.ptr 0 0 3/\h 8=.int .i64 k_)/\bs=[.cells true 3 [zdt n.nodes,zdu n.links,zdv n.edges]]) ?_ k _ _ ?_;rotate_left
    .exact ⟨0,H1,kq hh,rfl⟩
    clear hh h H1;rintro m h bs ⟨k_,H1,hh,rfl⟩;rcases m with _|m
    .rw [zco] at H1;cases H1
    rw [zco] at H1;repeat apply ek
    refine rk [1,2,3,8,22] [] (f2 hh c2) fun h hh=>?_;rcases isp H1 with ⟨c4,H1⟩|⟨c4,H1⟩;rotate_left
    .skip;refine cf (f2 hh (zAb c4)) ?_;refine xk ?_;cases H1;exact ce hh ⟨_,rfl,kq hh,rfl⟩
    refine ct (f2 hh (zAa c4)) ?_;refine sk ?_;apply ek;apply gl;obtain ⟨g5,H1⟩:=isg H1;obtain ⟨d6,e6,H1⟩:=zae H1;apply ek;refine dk 6 [1,2,3,8,9] [] [] [(.bool d6,stL [.cells true 3 [zdt n.nodes,zdu n.links,zdv n.edges]])] (f3 hh c2 (zak g5)) trivial ?_ ?_
    .exact ⟨f5 (je (zt4 ax hx k n steps (gx t k_) d6 e6 ) (by first|rfl|simp only [c2])),trivial⟩
    clear hh h;intro h hh;rcases isb H1 with ⟨c7,H1⟩|⟨c7,H1⟩;rotate_left
    .skip;apply ek;refine dk 17 [1,2,3,8,51] [] [] [] (f3 hh c7 c2) trivial trivial fun h hh=>?_;refine ct hh ?_;apply ek;refine rk [6,7] [] (f3 hh c2 c7) fun h hh=>?_;cases H1;obtain rfl:=sinl H;exact rt hh
    rcases isp H1 with ⟨c8,H1⟩|⟨c8,H1⟩;rotate_left
    .skip;apply ek;refine dk 17 [1,2,3,8,51] [] [] [] (f3 hh c7 (f2 (zAb c8) c2)) trivial trivial fun h hh=>?_;refine cf hh ?_;refine sk ?_;refine rk [1,2,3,8] [] (f3 hh c2 c7) fun h hh=>?_;exact rd m hh ⟨(ej.wrap (k_+1)),H1,kq hh,rfl⟩
    obtain ⟨g9,H1⟩:=isg H1;apply ek;refine dk 17 [1,2,3,8,51] [] [] [] (f3 hh c7 (f3 (zAa c8) c2 (f2 (zak g5) (zak g9)))) trivial trivial fun h hh=>?_;rcases isp H1 with ⟨c10,H1⟩|⟨c10,H1⟩;rotate_left
    .skip;refine cf (f2 hh (zAb c10)) ?_;refine sk ?_;refine rk [1,2,3,8] [] (f3 hh c2 c7) fun h hh=>?_;exact rd m hh ⟨(ej.wrap (k_+1)),H1,kq hh,rfl⟩
    refine ct (f2 hh (zAa c10)) ?_;apply ek;refine rk [6,7] [] (f3 hh c2 c7) fun h hh=>?_;cases H1;obtain rfl:=sinl H;exact rt hh
   clear hh h;rintro h bs ⟨s_2,rfl,hh,rfl⟩;replace H:=sinr H;apply ek;refine rk [6,7] [] (f2 hh c2) fun h hh=>?_;cases H;exact rt hh
  refine ct (f2 hh (zAa c3)) ?_;apply ek;refine rk [6,7] [] (f2 hh c2) fun h hh=>?_;cases H;exact rt hh
 refine ct (f2 hh c2) ?_;apply ek;refine rk [6,7] [] (f2 hh c2) fun h hh=>?_;cases H;exact rt hh
theorem gxA {n:Nat} (a:Ar n) {i:Nat} (h:i<n):gx a.l (i:Int)=a.l[i]'(by rw [a.h];exact h):=zg3 (by rw [a.h];exact h)
theorem ymu {n:Nat} (a:Ar n) (q:Int->Bool):((ju n).all fun j=>q (gx a.l (j:Int)))=a.l.all q:=by
  rw [ld,gg,zts];constructor
  . intro h j hj;have:=h j (jv.2 (by rw [a.h] at hj;exact hj))
    rwa [zg3 hj] at this
  . intro h j hj;have hj':j<a.l.length:=by rw [a.h];exact jv.1 hj
    rw [zg3 hj'];exact h j hj'
theorem yif {α:Type} [DecidableEq α] (a b:List α) (h:a.length=b.length):((ju a.length).all fun j=>decide (a[j]?=b[j]?))=decide (a=b):=by
  rw [ld,gg,decide_eq_true_eq];constructor
  . intro hh;apply List.ext_getElem?;intro i;by_cases hi:i<a.length
    . have:=hh i (jv.2 hi);simpa using this
    . rw [jf (by omega),jf (by omega)]
  . rintro rfl j _;simp
theorem lt10 {a:Nat} (h:a<10):(a:Int)<10:=by omega
theorem zbg {a b:Nat} (h:a<b):(a:Int)<(b:Int):=by omega
theorem znv {k:Nat} (a b:List (List Alt)) (f:(List Alt)->(List Alt)->Option Bool) (hf:∀ x,x∈a->∀ y,y∈b->f x y=some (decide (x=y))) (hl:a.length<big) (hk:a.length<k):zcd k a b f=some (decide (a=b)):=by
  unfold zcd;by_cases hlen:a.length=b.length
  . rw [zAd (by omega),zlz (L:=zat k a b f) a.length false (fun j=>decide (a[j]?=b[j]?)) hl (fun m j h=>by
      have h2:j<b.length:=by omega
      rw [zat,zAc (zbg h),zAc ⟨by omega,zbg h⟩,zAc ⟨by omega,zbg h2⟩,zg3 h,zg3 h2];rw [hf _ (lj h) _ (lj h2),em,fb h,fb h2]
      simp only [ei]) (fun m=>by rw [zat,zAd (by omega)]) hk,yif a b hlen,em]
    cases decide (a=b)<;>rfl
  . rw [zAc (by omega)];congr 1;exact (zAb fun h=>hlen (by rw [h])).symm
theorem zui {k:Nat} (a b:List Alt) (hl:a.length<big) (hk:a.length<k):zd2 k a b=some (decide (a=b)):=by
  unfold zd2;by_cases hlen:a.length=b.length
  . rw [zAd (by omega),zlz (L:=za6 k a b) a.length false (fun j=>decide (a[j]?=b[j]?)) hl (fun m j h=>by
      have h2:j<b.length:=by omega
      rw [za6,zAc (zbg h),zAc ⟨by omega,zbg h⟩,zAc ⟨by omega,zbg h2⟩,zg3 h,zg3 h2,fb h,fb h2]
      simp only [ei,decide_eq_true_eq]) (fun m=>by rw [za6,zAd (by omega)]) hk,yif a b hlen,em]
    cases decide (a=b)<;>rfl
  . rw [zAc (by omega)];congr 1;exact (zAb fun h=>hlen (by rw [h])).symm
/-! patterns -/
def zvd (x:Int):Bool:=decide (0<=x/\x<=65535)
def zac (h:Ar 10):Bool:=h.l.all zvd
def zw1 (p:Pat):Bool:=(ju 10).all fun i=>decide (iAnd .i64 (gx p.bits.l (i:Int)) (gx p.mask.l (i:Int))=gx p.bits.l (i:Int))
def zag (p:Pat):Bool:=zac p.mask && (zac p.bits && zw1 p)
theorem z7j {x:Int} (h:zvd x=true):∃ n:Nat,x=(n:Int)/\n<65536:=by
  have:=zAe h;exact ⟨x.toNat,by omega,by omega⟩
theorem zxj {h:Ar 10} (hr:zac h=true) {i:Nat} (hi:i<10):∃ n:Nat,gx h.l (i:Int)=(n:Int)/\n<65536:=by
  rw [gxA h hi];exact z7j (gg.1 hr _ (lj _))
theorem zod {k:Nat} (h:Ar 10) (hk:10<k):zex k h=some (zac h):=by
  unfold zex
  rw [zlz (L:=zbt k h) 10 false (fun i=>zvd (gx h.l (i:Int))) (by decide) (fun m j hj=>by
    rw [zbt,zAc (lt10 hj),zAc ⟨by omega,lt10 hj⟩];unfold zvd;by_cases c1:gx h.l (j:Int)<0
    . rw [zAc c1,zAd (by rw [decide_eq_true_eq];omega)]
    . rw [zAd c1];by_cases c2:65535<gx h.l (j:Int)
      . rw [zAc c2,zAd (by rw [decide_eq_true_eq];omega)]
      . rw [zAd c2,zAc (by rw [decide_eq_true_eq];omega)]) (fun m=>by rw [zbt];exact zAd (by decide)) hk,em,ymu]
  unfold zac;cases h.l.all zvd<;>rfl
theorem z7o {k:Nat} (p:Pat) (hk:10<k):zio k p.bits p.mask=some (zw1 p):=by
  unfold zio zw1
  rw [zlz (L:=zc2 k p.bits p.mask) 10 false (fun i=>decide (iAnd .i64 (gx p.bits.l (i:Int)) (gx p.mask.l (i:Int))=gx p.bits.l (i:Int))) (by decide) (fun m j hj=>by
    rw [zc2,zAc (lt10 hj),zAc ⟨by omega,lt10 hj⟩];by_cases c:iAnd .i64 (gx p.bits.l (j:Int)) (gx p.mask.l (j:Int))=gx p.bits.l (j:Int)
    . rw [zAd (fun h=>h c),zAc (zAa c)]
    . rw [zAc c,zAd (by rw [decide_eq_true_eq];exact c)]) (fun m=>by rw [zc2];exact zAd (by decide)) hk,em]
  cases (ju 10).all _<;>rfl
theorem zsd {k:Nat} (p:Pat) (hk:10<k):zhd k p=some (zag p):=by
  unfold zhd zag
  rw [zod _ hk,zod _ hk,em,em,z7o p hk];cases zac p.mask<;>cases zac p.bits<;>rfl
theorem zzg {k:Nat} (p:Pat) (hk:10<k):zgp k p=some (zag p):=by
  unfold zgp;rw [zsd _ hk];rfl
/-! rules and tables -/
def zm5 (r:Rule):Prop:=r.outs.length<big/\∀ l,l∈r.outs->l.length<big
def zoj (t:List Rule):Prop:=t.length<big/\∀ r,r∈t->zm5 r
theorem zrr {k:Nat} (a b:Rule) (ha:zm5 a) (hk:big<=k):zgh k a b=some (decide (a.step=b.step/\a.outs=b.outs)):=by
  unfold zgh;rw [znv a.outs b.outs _ (fun x hx y hy=>by unfold zf1;rw [zui x y (ha.2 x hx) (gr (ha.2 x hx) hk)];rfl) ha.1 (gr ha.1 hk)];by_cases c:a.step=b.step
  . rw [zAc c];simp [c]
  . rw [zAd c];simp [c]
theorem zt0 {k:Nat} (a b:Rule) (ha:zm5 a) (hk:big<=k):zc7 k a b=some (decide (a=b)):=by
  unfold zc7;rw [zrr a b ha hk];obtain ⟨p,m,s,o⟩:=a;obtain ⟨p2,m2,s2,o2⟩:=b;simp only [Rule.mk.injEq];by_cases c1:p=p2
  . rw [zAc c1];by_cases c2:m=m2
    . rw [zAc c2];simp [c1,c2]
    . rw [zAd c2];simp [c2]
  . rw [zAd c1];simp [c1]
def fAlt (n:Net) (a:Alt):Bool:=decide (-1<=a.link/\a.link<n.links.length) && zag a.mod
def fOut (n:Net) (l:List Alt):Bool:=decide (1<=l.length/\l.length<=8) && l.all (fAlt n)
def formed (n:Net) (steps:Int) (r:Rule):Bool:=decide (1<=r.prio/\r.prio<=65535) && (zag r.mat && (decide (-1<=r.step/\r.step<steps/\r.outs.length<=16) && r.outs.all (fOut n)))
theorem z7n {k:Nat} (n:Net) (steps:Int) (r:Rule) (hr:zm5 r) (hk:big<=k):zin k n steps r=some (formed n steps r):=by
  have hk10:10<k:=gr (by decide) hk;unfold zin formed;rw [zsd _ hk10,em]
  have hloop:zc1 k n r k 0=some (if r.outs.all (fOut n)=true then .inr () else .inl false):=by
    refine zom r.outs false (fOut n) hr.1 (fun m j h=>?_) (fun m=>by rw [zc1,zAd (by omega)]) (gr hr.1 hk);have hx:=hr.2 _ (lj h);rw [zc1,zAc (zbg h),zAc ⟨by omega,zbg h⟩,zg3 h];unfold fOut;by_cases c1:(r.outs[j].length:Int)<1
    . rw [zAc c1,zAb (by omega)];rfl
    . rw [zAd c1,em];by_cases c2:8<(r.outs[j].length:Int)
      . rw [zAa c2,zAb (by omega)];rfl
      . rw [zAb c2,zAa (by omega)];simp only [o8,if_false,ji]
        rw [zom (L:=zc0 k n r (j:Int)) r.outs[j] false (fAlt n) hx (fun m i hi=>by
          rw [zc0,zAc ⟨by omega,zbg h⟩,zg3 h,zAc (zbg hi),zAc ⟨by omega,zbg hi⟩,zg3 hi,zzg _ hk10,em];unfold fAlt;by_cases d1:r.outs[j][i].link < -1
          . rw [zAc d1,zAb (by omega)];rfl
          . rw [zAd d1];by_cases d2:(n.links.length:Int)<=r.outs[j][i].link
            . rw [zAc d2,zAb (by omega)];rfl
            . rw [zAd d2,zAa (by omega)];rfl) (fun m=>by rw [zc0,zAc ⟨by omega,zbg h⟩,zg3 h,zAd (by omega)]) (gr hx hk),em]
        cases r.outs[j].all (fAlt n)<;>rfl
  rw [hloop];by_cases c1:r.prio<1
  . rw [zAc c1,zAb (by omega)];rfl
  . rw [zAd c1];by_cases c2:65535<r.prio
    . rw [zAc c2,zAb (by omega)];rfl
    . rw [zAd c2,zAa (show 1<=r.prio/\r.prio<=65535 by omega)]
      cases zag r.mat with
      |false=>rfl
      |true =>
        simp only [if_true,ji];by_cases c3:r.step < -1
        . rw [zAc c3,zAb (by omega)];rfl
        . rw [zAd c3];by_cases c4:steps<=r.step
          . rw [zAc c4,zAb (by omega)];rfl
          . rw [zAd c4,em];by_cases c5:16<(r.outs.length:Int)
            . rw [zAa c5,zAb (by omega)];rfl
            . rw [zAb c5,zAa (by omega)];simp only [o8,if_false,ji];cases r.outs.all (fOut n)<;>rfl
theorem ze5 {α:Type} [Inhabited α] {l:List α} {i:Nat} (h:i<l.length):l.getD i default∈l:=by
  rw [fe,fb h];exact lj h
def zl0 (n:Net) (k:Int):Prop:=0<=k/\k<(n.nodes.length:Int)
instance (n:Net) (k:Int):Decidable (zl0 n k):=by unfold zl0;infer_instance
structure RightNet (n:Net):Prop where
  nodes:n.nodes.length<=10
  links:n.links.length<=24
  frm:∀ k,k<n.links.length->0<=(n.links.getD k default).frm/\(n.links.getD k default).frm<(n.nodes.length:Int)
  to:∀ k,k<n.links.length->0<=(n.links.getD k default).to/\(n.links.getD k default).to<(n.nodes.length:Int)
  apart:∀ k,k<n.links.length->(n.links.getD k default).frm≠(n.links.getD k default).to
  cap:∀ k,k<n.links.length->0<=(n.links.getD k default).cap/\(n.links.getD k default).cap<=1048576
theorem ykz (k:Nat) (s:ByteArray) (hs:s.size<9223372036854775808):∀ (m i:Nat),i<=s.size->s.size - i<m->∃ r,zd8 k s m (i:Int)=some r:=by
  intro m
  induction m with
  |zero=>intro i h1 h2;omega
  |succ m ih =>
    intro i h1 h2;rw [zd8];by_cases c:(i:Int)<(s.size:Int)
    . obtain ⟨r,hr⟩:=ih (i+1) (by omega) (by omega);have g:(0:Int)<=(i:Int)/\(i:Int)<(s.size:Int):=⟨by omega,c⟩
      have A1:∃ b,(if (0:Int)<=(i:Int)/\(i:Int)<(s.size:Int) then (if 97<=((bx s (i:Int)).toNat:Int) then some (decide (((bx s (i:Int)).toNat:Int)<=122)) else some false) else none)=some b:=by
        rw [zAc g];split<;>exact ⟨_,rfl⟩
      have A2:∃ b,(if (0:Int)<=(i:Int)/\(i:Int)<(s.size:Int) then (if 48<=((bx s (i:Int)).toNat:Int) then (if ((bx s (i:Int)).toNat:Int)<=57 then some true else some (decide (((bx s (i:Int)).toNat:Int)=95))) else some (decide (((bx s (i:Int)).toNat:Int)=95))) else none)=some b:=by
        rw [zAc g];split
        . split<;>exact ⟨_,rfl⟩
        . exact ⟨_,rfl⟩
      obtain ⟨b1,h1⟩:=A1;obtain ⟨b2,h2⟩:=A2;rw [zAc c,h1,h2,zcc i (by omega),hr];simp only [em]
      (repeat' split)<;>exact ⟨_,rfl⟩
    . rw [zAd c];exact ⟨_,rfl⟩
theorem yfs {k:Nat} (hk:9223372036854775808<=k) (s:ByteArray) (hs:s.size<9223372036854775808):∃ r,zlh k s=some r:=by
  obtain ⟨r,h⟩:=ykz k s hs k 0 (by omega) (by omega);rw [show ((0:Nat):Int)=0 from rfl] at h;unfold zlh;rw [h,em]
  cases r with
  |inl b=>exact ⟨_,rfl⟩
  |inr u=>simp only [Sum.elim_inr];split<;>exact ⟨_,rfl⟩
theorem yel (k:Nat) (l:List ByteArray) (e:Nat) (he:e<l.length) (hl:l.length<9223372036854775808):∀ (m i:Nat),i<=e->e - i<m->∃ r,zef k l (e:Int) m (i:Int)=some r:=by
  intro m
  induction m with
  |zero=>intro i h1 h2;omega
  |succ m ih =>
    intro i h1 h2;rw [zef];by_cases c:(i:Int)<(e:Int)
    . obtain ⟨r,hr⟩:=ih (i+1) (by omega) (by omega);rw [zAc c,zAc ⟨by omega,by omega⟩,zcc i (by omega),hr];split<;>exact ⟨_,rfl⟩
    . rw [zAd c];exact ⟨_,rfl⟩
theorem yem {k:Nat} (hk:9223372036854775808<=k) (l:List ByteArray) (hl:l.length<9223372036854775808) (hs:∀ s,s∈l->s.size<9223372036854775808):∀ (m i:Nat),i<=l.length->l.length - i<m->∃ r,zeg k l m (i:Int)=some r:=by
  intro m
  induction m with
  |zero=>intro i h1 h2;omega
  |succ m ih =>
    intro i h1 h2;rw [zeg];by_cases c:(i:Int)<(l.length:Int)
    . have hi:i<l.length:=by omega
      obtain ⟨r,hr⟩:=ih (i+1) (by omega) (by omega);obtain ⟨b,hb⟩:=yfs hk (l.getD i default) (hs _ (ze5 hi));obtain ⟨r1,h1⟩:=yel k l i hi hl k 0 (by omega) (by omega);rw [show ((0:Nat):Int)=0 from rfl] at h1;rw [zAc c,zAc ⟨by omega,c⟩,zcc i (by omega),zkc l i,hb,h1,hr]
      cases b with
      |false=>exact ⟨_,rfl⟩
      |true=>cases r1<;>exact ⟨_,rfl⟩
    . rw [zAd c];exact ⟨_,rfl⟩
theorem zz1 {k:Nat} (hk:9223372036854775808<=k) (l:List ByteArray) (hl:l.length<9223372036854775808) (hs:∀ s,s∈l->s.size<9223372036854775808):∃ r,zih k l=some r:=by
  obtain ⟨r,h⟩:=yem hk l hl hs k 0 (by omega) (by omega);rw [show ((0:Nat):Int)=0 from rfl] at h;unfold zih;rw [h,em];cases r<;>exact ⟨_,rfl⟩
theorem yfr (k:Nat) (n:Net) (hn:n.nodes.length<=1000) (hs:∀ x,x∈n.nodes->x.name.size<9223372036854775808):∀ (m i:Nat) (l:List ByteArray),i<=n.nodes.length->n.nodes.length - i<m->l.length=i->(∀ s,s∈l->s.size<9223372036854775808) ->
    ∃ l',zei k n m (i:Int) l i=some (l',l'.length)/\l'.length=n.nodes.length/\∀ s,s∈l'->s.size<9223372036854775808:=by
  intro m
  induction m with
  |zero=>intro i l h1 h2;omega
  |succ m ih =>
    intro i l h1 h2 h3 h4;rw [zei];by_cases c:(i:Int)<(n.nodes.length:Int)
    . have hi:i<n.nodes.length:=by omega
      rw [zAc c,zAc ⟨by omega,c⟩,zAc (by omega),zcc i (by omega),zkc n.nodes i];refine ih (i+1) _ (by omega) (by omega) (by simp [h3]) fun s hm=>?_;rcases iv.1 hm with q|q
      . exact h4 s q
      . simp only [ke] at q;subst q;exact hs _ (ze5 hi)
    . rw [zAd c];exact ⟨l,by rw [h3],by omega,h4⟩
theorem yfq (k:Nat) (n:Net) (hn:n.edges.length<=1000) (hs:∀ x,x∈n.edges->x.name.size<9223372036854775808):∀ (m i:Nat) (l:List ByteArray),i<=n.edges.length->n.edges.length - i<m->l.length=i->(∀ s,s∈l->s.size<9223372036854775808) ->
    ∃ l',zeh k n m (i:Int) l i=some (l',l'.length)/\l'.length=n.edges.length/\∀ s,s∈l'->s.size<9223372036854775808:=by
  intro m
  induction m with
  |zero=>intro i l h1 h2;omega
  |succ m ih =>
    intro i l h1 h2 h3 h4;rw [zeh];by_cases c:(i:Int)<(n.edges.length:Int)
    . have hi:i<n.edges.length:=by omega
      rw [zAc c,zAc ⟨by omega,c⟩,zAc (by omega),zcc i (by omega),zkc n.edges i];refine ih (i+1) _ (by omega) (by omega) (by simp [h3]) fun s hm=>?_;rcases iv.1 hm with q|q
      . exact h4 s q
      . simp only [ke] at q;subst q;exact hs _ (ze5 hi)
    . rw [zAd c];exact ⟨l,by rw [h3],by omega,h4⟩
theorem zl1 {k:Nat} {n:Net} (v:Int):zf9 k n v=some (decide (zl0 n v)):=by
  unfold zf9 zl0;by_cases h:0<=v
  . rw [zAc h];simp [h]
  . rw [zAd h];simp [h]
theorem ym6 (k:Nat) (n:Net) (hn:n.nodes.length<=1000):∀ (m i:Nat),i<=n.nodes.length->n.nodes.length - i<m->∃ r,zel k n m (i:Int)=some r/\(r=.inr ()\/r=.inl 1):=by
  intro m
  induction m with
  |zero=>intro i h1 h2;omega
  |succ m ih =>
    intro i h1 h2;rw [zel];by_cases c:(i:Int)<(n.nodes.length:Int)
    . obtain ⟨r,hr,hq⟩:=ih (i+1) (by omega) (by omega);rw [zAc c,zAc ⟨by omega,c⟩,zcc i (by omega),hr]
      (repeat' split)<;>first|exact ⟨_,rfl,.inr rfl⟩|exact ⟨_,rfl,hq⟩
    . rw [zAd c];exact ⟨_,rfl,.inl rfl⟩
def yi2 (n:Net) (l:Link):Prop:=zl0 n l.frm/\zl0 n l.to/\l.frm≠l.to/\0<=l.cap/\l.cap<=1048576
theorem ym5 (k:Nat) (n:Net) (hn:n.links.length<=10000):∀ (m i:Nat),i<=n.links.length->n.links.length - i<m->(∀ j,j<i->yi2 n (n.links.getD j default))->∃ r,zek k n m (i:Int)=some r/\((r=.inr ()/\∀ j,j<n.links.length->yi2 n (n.links.getD j default))\/r=.inl 1):=by
  intro m
  induction m with
  |zero=>intro i h1 h2;omega
  |succ m ih =>
    intro i h1 h2 h3;rw [zek];by_cases c:(i:Int)<(n.links.length:Int)
    . have hi:i<n.links.length:=by omega
      rw [zAc c,zAc ⟨by omega,c⟩,zcc i (by omega),zkc n.links i,zl1,zl1,em,em];by_cases q1:zl0 n (n.links.getD i default).frm
      . rw [zAc (zAa q1)];by_cases q2:zl0 n (n.links.getD i default).to
        . rw [zAc (zAa q2)];by_cases q3:(n.links.getD i default).frm=(n.links.getD i default).to
          . rw [zAc q3];exact ⟨_,rfl,.inr rfl⟩
          . rw [zAd q3];by_cases q4:(n.links.getD i default).cap<0
            . rw [zAc q4];exact ⟨_,rfl,.inr rfl⟩
            . rw [zAd q4];by_cases q5:1048576<(n.links.getD i default).cap
              . rw [zAc q5];exact ⟨_,rfl,.inr rfl⟩
              . rw [zAd q5];exact ih (i+1) (by omega) (by omega) fun j hj=>by rcases Nat.lt_succ_iff_lt_or_eq.1 hj with q|q;exact h3 j q;rw [q];exact ⟨q1,q2,q3,by omega,by omega⟩
        . rw [zAd (by simpa using q2)];exact ⟨_,rfl,.inr rfl⟩
      . rw [zAd (by simpa using q1)];exact ⟨_,rfl,.inr rfl⟩
    . rw [zAd c];exact ⟨_,rfl,.inl ⟨rfl,fun j hj=>h3 j (by omega)⟩⟩
theorem ym4 (k:Nat) (n:Net) (hn:n.edges.length<=1000):∀ (m i:Nat),i<=n.edges.length->n.edges.length - i<m->∃ r,zej k n m (i:Int)=some r/\(r=.inr ()\/r=.inl 1):=by
  intro m
  induction m with
  |zero=>intro i h1 h2;omega
  |succ m ih =>
    intro i h1 h2;rw [zej];by_cases c:(i:Int)<(n.edges.length:Int)
    . obtain ⟨r,hr,hq⟩:=ih (i+1) (by omega) (by omega);rw [zAc c,zAc ⟨by omega,c⟩,zcc i (by omega),hr,zl1,em];split
      . exact ⟨_,rfl,hq⟩
      . exact ⟨_,rfl,.inr rfl⟩
    . rw [zAd c];exact ⟨_,rfl,.inl rfl⟩
structure Held (n:Net):Prop where
  nodes:∀ x,x∈n.nodes->x.name.size<9223372036854775808
  edges:∀ x,x∈n.edges->x.name.size<9223372036854775808
def ye0 (t:List Rule) (j:Int):Int:=if j=0 then 65536 else (gx t (j - 1)).prio
def zox (n:Net) (steps:Int) (t:List Rule) (j:Nat):Bool:=formed n steps (t.getD j default) && decide ((t.getD j default).prio<ye0 t j)
def zpb (n:Net) (steps:Int) (t:List Rule):Int×Int :=
  if steps<0\/1000<steps then (0,1) else if 4000<t.length then (0,2) else
  match (ju t.length).findSome? (fun j=>if zox n steps t j=true then none else some ((j:Int),(1:Int))) with
  |some r=>r
  |none=>(0,0)
theorem yag {k:Nat} (n:Net) (steps:Int) (t:List Rule) (ht:zoj t) (hk:big<=k):zjy k n steps t=some (zpb n steps t):=by
  unfold zjy zpb
  have hloop:zco k n steps t k 0=some (sumO ((ju t.length).findSome? (fun j=>if zox n steps t j=true then none else some ((j:Int),(1:Int))))):=by
    refine zps (L:=zco k n steps t) t.length _ ht.1 (fun m j h=>?_) (fun m=>by rw [zco,zAd (by omega)]) (gr ht.1 hk);have hb:j<9223372036854775808:=by have:=ht.1;simp only [big] at this;omega
    rw [zco,zAc (zbg h),zAc ⟨by omega,zbg h⟩,zg3 h,z7n n steps _ (ht.2 _ (lj h)) hk,em]
    have hg:zox n steps t j=(formed n steps t[j] && decide (t[j].prio<ye0 t j)):=by
      unfold zox;rw [fe,fb h];rfl
    rw [hg]
    cases hf:formed n steps t[j] with
    |false=>rfl
    |true =>
      simp only [if_true,ji,decide_eq_true_eq];unfold ye0;by_cases c0:0<(j:Int)
      . have e1:ej.wrap ((j:Int) - 1)=((j - 1:Nat):Int):=by rw [wr64 (by omega)];omega
        have e2:(j:Int) - 1=((j - 1:Nat):Int):=by omega
        have h2:j - 1<t.length:=by omega
        rw [zAc c0,e1,zAc ⟨by omega,by omega⟩,zAd (show ¬ (j:Int)=0 by omega),e2,zg3 h2];by_cases c:t[j - 1].prio<=t[j].prio
        . rw [zAc c,zAd (by omega)]
        . rw [zAd c,zAc (by omega)]
      . have hp:t[j].prio<=65535:=by
          unfold formed at hf;simp only [ep,decide_eq_true_eq] at hf;exact hf.1.2
        rw [zAd c0,zAc (show (j:Int)=0 by omega),zAc (by omega)]
  rw [hloop];by_cases c1:steps<0
  . rw [zAc c1,zAc (show steps<0\/1000<steps from .inl c1)];rfl
  . rw [zAd c1];by_cases c2:1000<steps
    . rw [zAa c2,zAc (show steps<0\/1000<steps from .inr c2)];rfl
    . rw [zAb c2,zAd (show ¬ (steps<0\/1000<steps) by omega),em];simp only [o8,if_false];by_cases c3:4000<t.length
      . rw [zAc (by omega),zAc c3]
      . rw [zAd (by omega),zAd c3,em];cases (ju t.length).findSome? _<;>rfl
def fewT (t:List Rule) (most:Int):Bool:=t.all (fun r=>decide (r.outs.length<=20) && r.outs.all fun l=>decide (l.length<=10)) && decide ((t.length:Int)<=most)
theorem yjk {k:Nat} (t:List Rule) (most:Int) (ht:zoj t) (hk:big<=k):zn1 k t most=some (fewT t most):=by
  unfold zn1 fewT
  rw [zom (L:=ze8 k t) t false (fun r=>decide (r.outs.length<=20) && r.outs.all fun l=>decide (l.length<=10)) ht.1 (fun m j h=>by
    rw [ze8,zAc (zbg h),zAc ⟨by omega,zbg h⟩,zg3 h];by_cases c:20<(t[j].outs.length:Int)
    . rw [zAc c,zAb (by omega)];rfl
    . rw [zAd c,zAa (by omega)];have hr:=(ht.2 _ (lj h)).1
      rw [zom (L:=ze7 k t (j:Int)) t[j].outs false (fun l=>decide (l.length<=10)) hr (fun m i hi=>by
        rw [ze7,zg3 h,zAc (zbg hi),zAc ⟨by omega,zbg hi⟩,zg3 hi];by_cases d:10<(t[j].outs[i].length:Int)
        . rw [zAc d,zAb (by omega)];rfl
        . rw [zAd d,zAa (by omega)];rfl) (fun m=>by rw [ze7,zg3 h,zAd (by omega)]) (gr hr hk),em]
      simp only [ji]
      cases t[j].outs.all _<;>rfl) (fun m=>by rw [ze8,zAd (by omega)]) (gr ht.1 hk),em]
  cases t.all _<;>rfl
theorem zrq {a b:Nat} (ha:a<2 ^ 64) (hb:b<2 ^ 64) (i:Nat):(a - (a &&& b)).testBit i=(a.testBit i && !b.testBit i):=by
  rw [<- zns 64 ha hb,kx,show 2 ^ 64 - 1 - b=2 ^ 64 - (b+1) by omega,Nat.testBit_two_pow_sub_succ hb];by_cases hi:i<64
  . simp [hi]
  . have:a.testBit i=false:=l9 (gr ha (ks (by decide) (by omega)));simp [this]
theorem zq0 {a b:Nat} (ha:a<65536) (hb:b<65536) (h:∀ t,t<16->a.testBit t=b.testBit t):a=b:=by
  apply nh;intro t;by_cases ht:t<16
  . exact h t ht
  . have e:65536<=2 ^ t:=ks (n:=2) (by decide) (show 16<=t by omega);rw [l9 (gr ha e),l9 (gr hb e)]
theorem zus {t s:Nat}:(2 ^ t).testBit s=decide (t=s):=Nat.testBit_two_pow
theorem ydc {w t:Nat} (hw:w<65536) (ht:t<16) (h:w.testBit t=false):w+2 ^ t=w ||| 2 ^ t:=by
  have hp:2 ^ t<65536:=oi (by decide) ht;have ho:w ||| 2 ^ t<2 ^ 16:=pf hw hp
  have e1:(w ||| 2 ^ t) &&& 2 ^ t=2 ^ t:=by
    apply nh;intro s;rw [kx,mn];cases (2 ^ t).testBit s<;>simp
  have e2:(w ||| 2 ^ t) - ((w ||| 2 ^ t) &&& 2 ^ t)=w:=by
    apply nh;intro s;rw [zrq (by omega) (by omega),mn,zus];by_cases hs:t=s
    . subst hs;simp [h]
    . simp [hs]
  have e3:2 ^ t<=w ||| 2 ^ t:=Nat.right_le_or
  omega
theorem yjb {w t:Nat} (hw:w<65536) (ht:t<16) (h:w.testBit t=true):2 ^ t<=w/\∀ s,(w - 2 ^ t).testBit s=(w.testBit s && !decide (t=s)):=by
  have hp:2 ^ t<65536:=oi (by decide) ht
  have e1:w &&& 2 ^ t=2 ^ t:=by
    apply nh;intro s;rw [kx,zus];by_cases hs:t=s
    . subst hs;simp [h]
    . simp [hs]
  have h1:w &&& 2 ^ t<=w:=qa;refine ⟨by omega,fun s=>?_⟩;have:=zrq (a:=w) (b:=2 ^ t) (by omega) (by omega) s;rw [e1,zus] at this;exact this
/-! heads -/
def hw (h:Ar 10) (i:Nat):Nat:=(gx h.l (i:Int)).toNat
def hbit (h:Ar 10) (i:Nat):Bool:=(hw h (i / 16)).testBit (15 - i % 16)
theorem zbf {h:Ar 10} (hr:zac h=true) {i:Nat} (hi:i<10):gx h.l (i:Int)=(hw h i:Int)/\hw h i<65536:=by
  obtain ⟨n,h1,h2⟩:=zxj hr hi;unfold hw;rw [h1];exact ⟨by simp,by simpa using h2⟩
theorem z64 (j t:Nat) (hj:j<10) (ht:t<16):(16*j+(15 - t)) / 16=j/\15 - (16*j+(15 - t)) % 16=t/\16*j+(15 - t)<160:=by omega
theorem zjm (h:Ar 10) {j t:Nat} (hj:j<10) (ht:t<16):hbit h (16*j+(15 - t))=(hw h j).testBit t:=by
  obtain ⟨a,b,_⟩:=z64 j t hj ht;unfold hbit;rw [a,b]
theorem ymr {n:Nat} {a b:Ar n} (h:∀ j:Nat,j<n->gx a.l (j:Int)=gx b.l (j:Int)):a=b:=by
  apply Ar.ext';apply List.ext_getElem (by rw [a.h,b.h]);intro i h1 h2;have:=h i (by rw [<- a.h];exact h1)
  rwa [zg3 h1,zg3 h2] at this
theorem zow {a b:Ar 10} (ha:zac a=true) (hb:zac b=true) (h:∀ i,i<160->hbit a i=hbit b i):a=b:=by
  apply ymr;intro j hj;obtain ⟨a1,a2⟩:=zbf ha hj;obtain ⟨b1,b2⟩:=zbf hb hj;rw [a1,b1,zq0 a2 b2 fun t ht=>by rw [<- zjm a hj ht,<- zjm b hj ht];exact h _ (z64 j t hj ht).2.2]
theorem zhu {h:Ar 10} (hh:∀ j:Nat,j<10->∃ n:Nat,gx h.l (j:Int)=(n:Int)/\n<65536):zac h=true:=by
  unfold zac;rw [zts];intro j hj;have hj':j<10:=by rw [<- h.h];exact hj
  obtain ⟨n,h1,h2⟩:=hh j hj';rw [zg3 hj] at h1;rw [h1];exact zAa (by omega)
/-! one bit -/
theorem zuo {k i:Nat} (hi:i<160) (hk:16<k):zii k (i:Int)=some ((2 ^ (15 - i % 16):Nat):Int):=by
  have key:∀ m kk,kk<=i % 16->i % 16 - kk<m->zem k (i:Int) m ((2 ^ (15 - kk):Nat):Int) (kk:Int)=some ((2 ^ (15 - i % 16):Nat):Int):=by
    intro m
    induction m with
    |zero=>intro kk h1 h2;omega
    |succ m ih =>
      intro kk h1 h2;rw [zem,zAc ⟨by omega,by decide⟩];by_cases c:kk<i % 16
      . have hp:2 ^ (15 - kk)=2 ^ (15 - (kk+1))*2:=by rw [<- qt];congr 1;omega
        have hb:2 ^ (15 - kk)<=2 ^ 15:=ks (by decide) (by omega);rw [zAc (by omega),zAc ⟨by omega,by decide⟩,zcc kk (by omega)];have e:ej.wrap (((2 ^ (15 - kk):Nat):Int) / 2)=((2 ^ (15 - (kk+1)):Nat):Int):=by rw [wr64 (by omega)];omega
        rw [e];exact ih (kk+1) (by omega) (by omega)
      . rw [zAd (by omega),show kk=i % 16 by omega]
  unfold zii;have:=key k 0 (ik _) (by omega);rw [show ((2 ^ (15 - 0):Nat):Int)=32768 by decide] at this;rw [show (0:Int)=((0:Nat):Int) from rfl,this];rfl
theorem zwz {i:Nat} (hi:i<160):ej.wrap ((i:Int) / 16)=((i / 16:Nat):Int):=by rw [wr64 (by omega)];omega
theorem zrl {k i:Nat} {h:Ar 10} (hr:zac h=true) (hi:i<160) (hk:16<k):zd0 k h (i:Int)=some ((hbit h i).toNat:Int):=by
  unfold zd0;obtain ⟨a1,a2⟩:=zbf hr (i:=i / 16) (by omega);rw [zAc ⟨by omega,by decide⟩,zwz hi,zAc ⟨by omega,by omega⟩,zuo hi hk,em,a1];have hp:0<2 ^ (15 - i % 16):=Nat.two_pow_pos _;rw [zAc ⟨by omega,by omega⟩]
  have e:ej.wrap ((hw h (i / 16):Int) / ((2 ^ (15 - i % 16):Nat):Int))=((hw h (i / 16) / 2 ^ (15 - i % 16):Nat):Int):=by
    have:hw h (i / 16) / 2 ^ (15 - i % 16)<=hw h (i / 16):=qv _ _;rw [<- Int.natCast_ediv];generalize hw h (i / 16) / 2 ^ (15 - i % 16)=q at *;rw [wr64 (by omega)]
  rw [e];unfold hbit;rw [Nat.testBit_eq_decide_div_mod_eq];generalize hw h (i / 16) / 2 ^ (15 - i % 16)=q at *;rw [zAc ⟨by omega,by decide⟩];congr 1;by_cases c:q % 2=1
  . rw [zAa c];simp only [Bool.toNat_true];omega
  . rw [zAb c];simp only [pt];omega
/-! matching -/
def zax (p:Pat) (h:Ar 10):Bool:=(ju 160).all fun i=>!hbit p.mask i || (hbit p.bits i == hbit h i)
theorem za1 {p:Pat} {h:Ar 10}:zax p h=true↔∀ i,i<160->hbit p.mask i=true->hbit p.bits i=hbit h i:=by
  unfold zax;rw [gg];constructor
  . intro hh i hi hm;have:=hh i (jv.2 hi);rw [hm] at this;simpa using this
  . intro hh i hi;have:=hh i (jv.1 hi)
    cases hm:hbit p.mask i with
    |false=>rfl
    |true=>simpa using this hm
theorem zuk {b h m:Nat} (hb:b<65536) (hh:h<65536) (hm:m<65536):(b ^^^ h) &&& m=0↔∀ t,t<16->m.testBit t=true->b.testBit t=h.testBit t:=by
  constructor
  . intro h0 t ht h1;have:=congrArg (fun x=>Nat.testBit x t) h0;simp only [kx,Nat.testBit_xor,nr,h1,Bool.and_true] at this;revert this;cases b.testBit t<;>cases h.testBit t<;>simp
  . intro h0;apply zq0 (ny Nat.and_le_right hm) (by decide);intro t ht;simp only [kx,Nat.testBit_xor,nr]
    cases h1:m.testBit t with
    |false=>simp
    |true=>rw [h0 t ht h1];simp
theorem zam {p:Pat}:zag p=true↔zac p.mask=true/\zac p.bits=true/\∀ i,i<160->hbit p.bits i=true->hbit p.mask i=true:=by
  unfold zag
  simp only [ep];refine and_congr_right fun hm=>and_congr_right fun hb=>?_;unfold zw1;rw [gg]
  have key:∀ j:Nat,j<10->(decide (iAnd .i64 (gx p.bits.l (j:Int)) (gx p.mask.l (j:Int))=gx p.bits.l (j:Int))=true↔∀ t,t<16->(hw p.bits j).testBit t=true->(hw p.mask j).testBit t=true):=by
    intro j hj;obtain ⟨a1,a2⟩:=zbf hb hj;obtain ⟨b1,b2⟩:=zbf hm hj;rw [a1,b1,zrd (by omega) (by omega),decide_eq_true_eq];constructor
    . intro h t ht h1;have h':hw p.bits j &&& hw p.mask j=hw p.bits j:=by omega
      rw [<- h',kx] at h1;simp only [ep] at h1;exact h1.2
    . intro h;congr 1;apply zq0 (ny qa a2) a2;intro t ht;rw [kx]
      cases h1:(hw p.bits j).testBit t with
      |false=>rfl
      |true=>rw [h t ht h1];rfl
  constructor
  . intro h i hi h1;have:=(key (i / 16) (by omega)).1 (h _ (jv.2 (by omega))) (15 - i % 16) (by omega);exact this h1
  . intro h j hj;have hj':=jv.1 hj
    exact (key j hj').2 fun t ht h1=>by
      rw [<- zjm p.mask hj' ht];exact h _ (z64 j t hj' ht).2.2 (by rw [zjm p.bits hj' ht];exact h1)
theorem yl1 {a:Nat} (h:a<160):(a:Int)<160:=by omega
theorem z6z {a:Bool}:((a.toNat:Int)=1)↔a=true:=by cases a<;>decide
/-! rewriting -/
def ztx (m:Pat) (h x:Ar 10):Prop:=zac x=true/\∀ i,i<160->hbit x i=if hbit m.mask i=true then hbit m.bits i else hbit h i
theorem ztx.uniq {m:Pat} {h x y:Ar 10} (a:ztx m h x) (b:ztx m h y):x=y:=zow a.1 b.1 fun i hi=>by rw [a.2 i hi,b.2 i hi]
theorem zfi {n:Nat} {a:Ar n} {i:Nat} (v:Int) (hi:i<n):gx (a.set (i:Int) v).l (i:Int)=v:=by
  show (a.l.set i v).getD i default=v;rw [fe,List.getElem?_set_self (by rw [a.h];exact hi)];rfl
theorem zhx {n:Nat} {a:Ar n} {i j:Nat} (v:Int) (hj:j<n) (h:i≠j):gx (a.set (i:Int) v).l (j:Int)=gx a.l (j:Int):=by
  show (a.l.set i v).getD j default=a.l.getD j default;rw [fe,fe,List.getElem?_set_ne h]
theorem ydx {k i:Nat} {h:Ar 10} {b:Bool} (hr:zac h=true) (hi:i<160) (hk:16<k):∃ x,zho k h (i:Int) (b.toNat:Int)=some x/\zac x=true/\∀ j,j<160->hbit x j=if j=i then b else hbit h j:=by
  unfold zho;obtain ⟨a1,a2⟩:=zbf hr (i:=i / 16) (by omega);rw [zAc ⟨by omega,by decide⟩,zwz hi,zAc ⟨by omega,by omega⟩,zrl hr hi hk,em,zuo hi hk,em,a1];have ht:15 - i % 16<16:=by omega
  have hp:2 ^ (15 - i % 16)<65536:=oi (by decide) ht;have hpp:0<2 ^ (15 - i % 16):=Nat.two_pow_pos _;have hi10:i / 16<10:=by omega
  -- the new word
  have hnew:∃ w:Nat,ej.wrap ((hw h (i / 16):Int)+ej.wrap (ej.wrap ((b.toNat:Int) - ((hbit h i).toNat:Int))*((2 ^ (15 - i % 16):Nat):Int)))=(w:Int)/\w<65536/\∀ s,w.testBit s=if s=15 - i % 16 then b else (hw h (i / 16)).testBit s:=by
    cases hb:hbit h i with
    |false =>
      have hb':(hw h (i / 16)).testBit (15 - i % 16)=false:=hb
      cases b with
      |false =>
        refine ⟨hw h (i / 16),?_,a2,fun s=>?_⟩
        . simp only [pt,Int.natCast_zero,Int.sub_self];rw [wr64 (n:=0) (by omega),Int.zero_mul,wr64 (n:=0) (by omega),Int.add_zero,wr64 (by omega)]
        . by_cases hs:s=15 - i % 16
          . rw [zAc hs,hs,hb']
          . rw [zAd hs]
      |true =>
        refine ⟨hw h (i / 16)+2 ^ (15 - i % 16),?_,?_,fun s=>?_⟩
        . simp only [Bool.toNat_true,pt];rw [wr64 (n:=((1:Nat):Int) - ((0:Nat):Int)) (by omega),show ((1:Nat):Int) - ((0:Nat):Int)=1 by omega,Int.one_mul,wr64 (n:=((2 ^ (15 - i % 16):Nat):Int)) (by omega),wr64 (by omega)];omega
        . rw [ydc a2 ht hb'];exact pf (n:=16) a2 hp
        . rw [ydc a2 ht hb',mn,zus];by_cases hs:s=15 - i % 16
          . rw [zAc hs];simp [hs]
          . rw [zAd hs];simp [Ne.symm hs]
    |true =>
      have hb':(hw h (i / 16)).testBit (15 - i % 16)=true:=hb;obtain ⟨g1,g2⟩:=yjb a2 ht hb'
      cases b with
      |true =>
        refine ⟨hw h (i / 16),?_,a2,fun s=>?_⟩
        . simp only [Int.sub_self];rw [wr64 (n:=0) (by omega),Int.zero_mul,wr64 (n:=0) (by omega),Int.add_zero,wr64 (by omega)]
        . by_cases hs:s=15 - i % 16
          . rw [zAc hs,hs,hb']
          . rw [zAd hs]
      |false =>
        refine ⟨hw h (i / 16) - 2 ^ (15 - i % 16),?_,by omega,fun s=>?_⟩
        . simp only [Bool.toNat_true,pt];rw [wr64 (n:=((0:Nat):Int) - ((1:Nat):Int)) (by omega),show ((0:Nat):Int) - ((1:Nat):Int)=-1 by omega,wr64 (n:=-1*((2 ^ (15 - i % 16):Nat):Int)) (by omega),wr64 (by omega)];omega
        . rw [g2];by_cases hs:s=15 - i % 16
          . rw [zAc hs];simp [hs]
          . rw [zAd hs];simp [Ne.symm hs]
  obtain ⟨w,e1,e2,e3⟩:=hnew;refine ⟨_,rfl,?_,?_⟩
  . rw [e1];refine zhu fun j hj=>?_;by_cases hij:i / 16=j
    . subst hij;exact ⟨w,zfi _ hj,e2⟩
    . rw [zhx _ hj hij];exact ⟨_,(zbf hr hj).1,(zbf hr hj).2⟩
  . intro j hj;rw [e1];unfold hbit;have hj10:j / 16<10:=by omega
    by_cases hij:i / 16=j / 16
    . have:hw (h.set ((i / 16:Nat):Int) (w:Int)) (j / 16)=w:=by
        unfold hw;rw [<- hij,zfi _ hi10];rfl
      rw [this,e3,<- hij];by_cases hm:j=i
      . subst hm;rw [zAc rfl,zAc rfl]
      . rw [zAd hm,zAd (by omega)]
    . have:hw (h.set ((i / 16:Nat):Int) (w:Int)) (j / 16)=hw h (j / 16):=by
        unfold hw;rw [zhx _ hj10 hij]
      rw [this,zAd (fun hm=>hij (by rw [hm]))]
theorem yai {k:Nat} {m:Pat} {h:Ar 10} (hp:zag m=true) (hh:zac h=true) (hk:160<k):∃ x,zj3 k m h=some x/\ztx m h x:=by
  obtain ⟨pm,pb,pw⟩:=zam.1 hp
  have key:∀ fu i (x:Ar 10),i<=160->160 - i<fu->zac x=true->(∀ j,j<160->hbit x j=if j<i/\hbit m.mask j=true then hbit m.bits j else hbit h j)->∃ y,zdj k m fu (i:Int) x=some y/\ztx m h y:=by
    intro fu
    induction fu with
    |zero=>intro i x h1 h2;omega
    |succ fu ih =>
      intro i x h1 h2 h3 h4;rw [zdj];by_cases c:i<160
      . rw [zAc (yl1 c),zrl pm c (by omega),em,zrl pb c (by omega),zcc i (by omega)];by_cases d:hbit m.mask i=true
        . rw [zAc (z6z.2 d),em];obtain ⟨y,s1,s2,s3⟩:=ydx (b:=hbit m.bits i) h3 c (show 16<k by omega);rw [s1,em];refine ih (i+1) y (by omega) (by omega) s2 fun j hj=>?_;rw [s3 j hj];by_cases hji:j=i
          . subst hji;rw [zAc rfl,zAc ⟨by omega,d⟩]
          . rw [zAd hji,h4 j hj];by_cases hq:j<i/\hbit m.mask j=true
            . rw [zAc hq,zAc ⟨by omega,hq.2⟩]
            . rw [zAd hq,zAd (fun hh2=>hq ⟨by omega,hh2.2⟩)]
        . rw [zAd (fun hq=>d (z6z.1 hq))];refine ih (i+1) x (by omega) (by omega) h3 fun j hj=>?_;rw [h4 j hj];by_cases hji:j=i
          . subst hji;rw [zAd (fun hq=>d hq.2),zAd (fun hq=>d hq.2)]
          . by_cases hq:j<i/\hbit m.mask j=true
            . rw [zAc hq,zAc ⟨by omega,hq.2⟩]
            . rw [zAd hq,zAd (fun hh2=>hq ⟨by omega,hh2.2⟩)]
      . obtain rfl:i=160:=by omega
        rw [zAd (by decide)];refine ⟨x,rfl,h3,fun j hj=>?_⟩;rw [h4 j hj];by_cases hq:hbit m.mask j=true
        . rw [zAc ⟨hj,hq⟩,zAc hq]
        . rw [zAd (fun hh2=>hq hh2.2),zAd hq]
  obtain ⟨y,h1,h2⟩:=key k 0 h (by omega) (by omega) hh fun j hj=>by rw [zAd (fun hq=>lh _ hq.1)]
  refine ⟨y,?_,h2⟩;unfold zj3;rw [show (0:Int)=((0:Nat):Int) from rfl,h1];rfl
theorem z54 {α:Type} [Inhabited α] (q:α->Bool):∀ (l:List α),(l.find? q=none/\idxB q l=-1)\/∃ i:Nat,∃ h:i<l.length,idxB q l=(i:Int)/\l.find? q=some l[i]
  |[]=>.inl ⟨rfl,rfl⟩
  |x :: l=>by
    unfold idxB;rw [List.findIdx?_cons,List.find?_cons]
    cases hq:q x with
    |true=>exact .inr ⟨0,by simp,rfl,rfl⟩
    |false =>
      rcases z54 q l with ⟨h1,h2⟩|⟨i,hi,h1,h2⟩
      . left;unfold idxB at h2;refine ⟨h1,?_⟩
        cases hf:l.findIdx? q with
        |none=>rfl
        |some j=>rw [hf] at h2;simp at h2;try omega
      . right;unfold idxB at h1;refine ⟨i+1,by simpa using hi,?_,by simpa using h2⟩
        cases hf:l.findIdx? q with
        |none=>rw [hf] at h1;simp at h1;try omega
        |some j=>rw [hf] at h1;simp at h1 ⊢;omega
def yjy (t:List Rule) (h:Ar 10):Int:=idxB (fun r=>zax r.mat h) t
theorem zo2 {α β:Type} {c:α->Option β}:∀ {l:List α},l.findSome? c=none->∀ x,x∈l->c x=none
  |[],_,x,hx=>by cases hx
  |y :: l,h,x,hx=>by
    rw [List.findSome?_cons] at h
    cases hc:c y with
    |some b=>rw [hc] at h;cases h
    |none =>
      rw [hc] at h
      cases hx with
      |head=>exact hc
      |tail _ hx=>exact zo2 h x hx
theorem z1c {n:Net} {steps:Int} {t:List Rule} (h:(zpb n steps t).2=0):t.length<=4000/\∀ j,j<t.length->zox n steps t j=true:=by
  unfold zpb at h;by_cases c1:steps<0\/1000<steps
  . rw [zAc c1] at h;cases h
  . rw [zAd c1] at h;by_cases c2:4000<t.length
    . rw [zAc c2] at h;cases h
    . rw [zAd c2] at h;refine ⟨by omega,fun j hj=>?_⟩
      cases hf:(ju t.length).findSome? (fun j=>if zox n steps t j=true then none else some ((j:Int),(1:Int))) with
      |some r =>
        rw [hf] at h;obtain ⟨x,_,hx⟩:=List.exists_of_findSome?_eq_some hf;simp only at h;split at hx
        . cases hx
        . cases hx;cases h
      |none =>
        have:=zo2 hf j (jv.2 hj)
        cases hg:zox n steps t j with
        |true=>rfl
        |false=>rw [hg] at this;simp at this
theorem ycc {n:Net} {steps:Int} {t:List Rule} (h:(zpb n steps t).2=0):∀ r,r∈t->formed n steps r=true:=by
  intro r hr;obtain ⟨j,hj,rfl⟩:=ma hr;have:=(z1c h).2 j hj;unfold zox at this;rw [fe,fb hj] at this;simp only [ep] at this;exact this.1
theorem wru {n:Nat} (h:n<18446744073709551616):fh.wrap (n:Int)=(n:Int):=by
  show ((n:Int)) % (2 ^ 64:Int)=_;omega
theorem uAnd {a m:Nat} {c:Int} (hc:c=(m:Int)) (ha:a<18446744073709551616) (hm:m<18446744073709551616):iAnd .u64 (a:Int) c=((ol a m:Nat):Int):=by
  subst hc;have h:a &&& m<=a:=qa;show fh.wrap ((BitVec.ofInt 64 (a:Int) &&& BitVec.ofInt 64 (m:Int)).toNat:Int)=_;rw [BitVec.toNat_and,kv,kv];rw [show ((a:Int) % ((2 ^ 64:Nat):Int)).toNat=a by omega,show ((m:Int) % ((2 ^ 64:Nat):Int)).toNat=m by omega];exact wru (by omega)
theorem uShr {a:Nat} {c:Int} (s:Nat) (hc:c=(s:Int)) (hs:s<=64):iShr .u64 (a:Int) c=((mf a (2 ^ s):Nat):Int):=by
  subst hc;unfold iShr
  have e:min ((s:Int)).toNat fh.bits=s:=by
    show min ((s:Int)).toNat 64=s;omega
  rw [e,Int.fdiv_eq_ediv_of_nonneg _ (by exact Int.le_of_lt (Int.pow_pos (by decide)))];show (a:Int) / (2:Int) ^ s=((a / 2 ^ s:Nat):Int);rw [Int.natCast_ediv,Int.natCast_pow];rfl
theorem uAdd {a b:Nat}:fh.wrap ((a:Int)+(b:Int))=((pg (o5 a b) 18446744073709551616:Nat):Int):=by
  show ((a:Int)+(b:Int)) % (2 ^ 64:Int)=(((a+b) % 18446744073709551616:Nat):Int);omega
def stA (x:Nat):Nat:=pg (o5 (ol (mf x 2) 6148914691236517205) (ol x 6148914691236517205)) 18446744073709551616
def stB (x:Nat):Nat:=pg (o5 (ol (mf x 4) 3689348814741910323) (ol x 3689348814741910323)) 18446744073709551616
def stC (x:Nat):Nat:=ol (pg (o5 (mf x 16) x) 18446744073709551616) 1085102592571150095
def stD (s x:Nat):Nat:=pg (o5 x (mf x s)) 18446744073709551616
def popF (x:Nat):Nat:=stD 4294967296 (stD 65536 (stD 256 (stC (stB (stA x)))))
def popG (x:Nat):Nat:=ol (popF x) 127
theorem z49 (a:Nat):pg a 18446744073709551616<18446744073709551616:=Nat.mod_lt _ (by decide)
theorem zyq {k x:Nat} (hx:x<65536) (hf:popF x<9223372036854775808):zce k (x:Int)=some ((popG x:Nat):Int):=by
  unfold zce;rw [zAc (by decide),zAc (by decide),zAc (by decide),zAc (by decide),zAc (by decide),zAc (by decide)];rw [uShr (a:=x) (c:=1) 1 rfl (by decide)];have l1:mf x (2 ^ 1)<18446744073709551616:=ny (qv _ _) (by omega);rw [uAnd (a:=mf x (2 ^ 1)) (c:=6148914691236517205) (m:=6148914691236517205) rfl l1 (by decide),uAnd (a:=x) (c:=6148914691236517205) (m:=6148914691236517205) rfl (by omega) (by decide),uAdd];obtain ⟨a,ha⟩:∃ a,a=stA x:=⟨_,rfl⟩;rw [show pg (o5 (ol (mf x (2 ^ 1)) 6148914691236517205) (ol x 6148914691236517205)) 18446744073709551616=a from by rw [ha];rfl];have la:a<18446744073709551616:=by rw [ha];exact z49 _
  rw [uShr (a:=a) (c:=2) 2 rfl (by decide)];have l2:mf a (2 ^ 2)<18446744073709551616:=ny (qv _ _) la;rw [uAnd (a:=mf a (2 ^ 2)) (c:=3689348814741910323) (m:=3689348814741910323) rfl l2 (by decide),uAnd (a:=a) (c:=3689348814741910323) (m:=3689348814741910323) rfl la (by decide),uAdd];obtain ⟨b,hb⟩:∃ b,b=stB a:=⟨_,rfl⟩;rw [show pg (o5 (ol (mf a (2 ^ 2)) 3689348814741910323) (ol a 3689348814741910323)) 18446744073709551616=b from by rw [hb];rfl];rw [uShr (a:=b) (c:=4) 4 rfl (by decide),uAdd (a:=mf b (2 ^ 4)) (b:=b),uAnd (c:=1085102592571150095) (m:=1085102592571150095) rfl (z49 _) (by decide)];obtain ⟨c,hc⟩:∃ c,c=stC b:=⟨_,rfl⟩;rw [show ol (pg (o5 (mf b (2 ^ 4)) b) 18446744073709551616) 1085102592571150095=c from by rw [hc];rfl];rw [uShr (a:=c) (c:=8) 8 rfl (by decide),uAdd];obtain ⟨d,hd⟩:∃ d,d=stD 256 c:=⟨_,rfl⟩;rw [show pg (o5 c (mf c (2 ^ 8))) 18446744073709551616=d from by rw [hd];rfl];rw [uShr (a:=d) (c:=16) 16 rfl (by decide),uAdd];obtain ⟨e,he⟩:∃ e,e=stD 65536 d:=⟨_,rfl⟩;rw [show pg (o5 d (mf d (2 ^ 16))) 18446744073709551616=e from by rw [he];rfl];rw [uShr (a:=e) (c:=32) 32 rfl (by decide),uAdd];have hF:pg (o5 e (mf e (2 ^ 32))) 18446744073709551616=popF x:=by rw [he,hd,hc,hb,ha];rfl
  rw [hF,wr64 (by omega),show (127:Int)=((127:Nat):Int) from rfl,zrd hf (by decide)];rfl
def cntB (n x:Nat):Nat:=((ju n).filter fun t=>x.testBit t).length
theorem ycr (n x:Nat):cntB (n+1) x=x % 2+cntB n (x / 2):=by
  unfold cntB;rw [List.range_succ_eq_map,List.filter_cons,List.filter_map,Nat.testBit_zero]
  have e:((fun t=>x.testBit t) ∘ Nat.succ)=fun t=>(x / 2).testBit t:=by
    funext t;show x.testBit (t+1)=_;rw [Nat.testBit_succ]
  rw [e];by_cases h:x % 2=1
  . rw [zAc (zAa h),fq,fc];omega
  . rw [zAd (by simpa using h),fc];omega
def yil (x:Nat):Bool:=and (Nat.beq (popG (oz 2 x)) (popG x)) (and (Nat.beq (popG (Nat.succ (oz 2 x))) (Nat.succ (popG x))) (and (Nat.blt (popF (oz 2 x)) 9223372036854775808) (Nat.blt (popF (Nat.succ (oz 2 x))) 9223372036854775808)))
def yim:Bool:=(ju 128).all fun a=>(ju 256).all fun b=>yil (o5 (oz 256 a) b)
theorem z3k:yim=true:=by kernel_rfl
theorem ymi {x:Nat} (hx:x<32768):popG (2*x)=popG x/\popG (2*x+1)=popG x+1/\popF (2*x)<9223372036854775808/\popF (2*x+1)<9223372036854775808:=by
  have h:=z3k;unfold yim at h;have h1:=gg.1 h (x / 256) (jv.2 (by omega));have h2:=gg.1 h1 (x % 256) (jv.2 (by omega));rw [show o5 (oz 256 (x / 256)) (x % 256)=x from Nat.div_add_mod x 256] at h2;unfold yil at h2;obtain ⟨q1,h2⟩:=and_true' h2;obtain ⟨q2,h2⟩:=and_true' h2;obtain ⟨q3,q4⟩:=and_true' h2;exact ⟨et q1,et q2,zab.1 q3,zab.1 q4⟩
where
  and_true' {a b:Bool} (h:and a b=true):a=true/\b=true:=by cases a<;>cases b<;>simp_all
theorem yak:∀ n x,n<=16->x<2 ^ n->popG x=cntB n x/\popF x<9223372036854775808
  |0,x,_,h=>by
    obtain rfl:x=0:=by simpa using h
    exact ⟨by decide +kernel,by decide +kernel⟩
  |n+1,x,hn,h=>by
    have h2:x / 2<2 ^ n:=by rw [qt] at h;omega
    have h3:(2:Nat) ^ n<=2 ^ 15:=ks (by decide) (by omega);obtain ⟨i1,_⟩:=yak n (x / 2) (by omega) h2;obtain ⟨c1,c2,c3,c4⟩:=ymi (x:=x / 2) (by omega);rw [ycr,<- i1];by_cases h4:x % 2=1
    . rw [show x=2*(x / 2)+1 by omega];rw [show (2*(x / 2)+1) / 2=x / 2 by omega,show (2*(x / 2)+1) % 2=1 by omega];exact ⟨by omega,c4⟩
    . have e:x=2*(x / 2):=by omega
      rw [e];rw [show (2*(x / 2)) / 2=x / 2 by omega,show (2*(x / 2)) % 2=0 by omega];exact ⟨by omega,c3⟩
theorem zuh {k x:Nat} (hx:x<65536):zcx k (x:Int)=some ((cntB 16 x:Nat):Int):=by
  obtain ⟨h1,h2⟩:=yak 16 x (fd _) hx;unfold zcx;rw [zyq hx h2,h1];rfl
theorem z1a (x:Nat):cntB 16 x<=16/\((cntB 16 x=0/\∀ t,t<16->x.testBit t=false)\/(cntB 16 x=1/\∃ t,t<16/\x.testBit t=true/\∀ s,s<16->x.testBit s=true->s=t)\/(2<=cntB 16 x/\∃ s t,s<16/\t<16/\s≠t/\x.testBit s=true/\x.testBit t=true)):=by
  have hle:cntB 16 x<=16:=jj (od _ _) (by rw [List.length_range];exact fd _);refine ⟨hle,?_⟩;unfold cntB;have hmem:∀ t,t∈(ju 16).filter (fun t=>x.testBit t)↔t<16/\x.testBit t=true:=fun t=>by rw [m9,jv]
  have hnd:((ju 16).filter fun t=>x.testBit t).Nodup:=List.Pairwise.filter _ List.nodup_range;generalize (ju 16).filter (fun t=>x.testBit t)=L at hmem hnd
  match L,hmem,hnd with
  | [], hmem, _ => exact .inl ⟨rfl, fun t ht => by
      cases hb:x.testBit t with
      |false=>rfl
      |true=>exact absurd ((hmem t).2 ⟨ht,hb⟩) (by simp)⟩
  |[t],hmem,_=>exact .inr (.inl ⟨rfl,t,((hmem t).1 (.head _)).1,((hmem t).1 (.head _)).2,fun s hs hb=>by simpa using (hmem s).2 ⟨hs,hb⟩⟩)
  |s :: t :: L,hmem,hnd =>
    have h1:=(hmem s).1 (.head _);have h2:=(hmem t).1 (.tail _ (.head _));refine .inr (.inr ⟨by simp,s,t,h1.1,h2.1,fun e=>?_,h1.2,h2.2⟩);subst e;simp at hnd
def zd3 (p q:Pat):Bool:=(ju 160).all fun i=>!(hbit p.mask i && hbit q.mask i) || (hbit p.bits i == hbit q.bits i)
theorem zls {p q:Pat}:zd3 p q=true↔∀ i,i<160->hbit p.mask i=true->hbit q.mask i=true->hbit p.bits i=hbit q.bits i:=by
  unfold zd3;rw [gg];constructor
  . intro hh i hi hm hq;have:=hh i (jv.2 hi);rw [hm,hq] at this;simpa using this
  . intro hh i hi;have:=hh i (jv.1 hi)
    cases hm:hbit p.mask i with
    |false=>rfl
    |true =>
      cases hq:hbit q.mask i with
      |false=>rfl
      |true=>simpa using this hm hq
theorem zqt {k:Nat} {p q:Pat} (hp:zag p=true) (hq:zag q=true) (hk:10<k):zfq k p q=some (zd3 p q):=by
  obtain ⟨pm,pb,_⟩:=zam.1 hp;obtain ⟨qm,qb,_⟩:=zam.1 hq;unfold zfq
  rw [zlz (L:=zb9 k p q) 10 false (fun j=>decide ((hw p.bits j ^^^ hw q.bits j) &&& (hw p.mask j &&& hw q.mask j)=0)) (by decide) (fun m j hj=>by
    obtain ⟨a1,a2⟩:=zbf pb hj;obtain ⟨b1,b2⟩:=zbf pm hj;obtain ⟨c1,c2⟩:=zbf qb hj;obtain ⟨d1,d2⟩:=zbf qm hj;have hx:hw p.bits j ^^^ hw q.bits j<2 ^ 16:=rn a2 c2;have hy:(hw p.bits j ^^^ hw q.bits j) &&& hw p.mask j<=hw p.mask j:=Nat.and_le_right;rw [zb9,zAc (lt10 hj),zAc ⟨by omega,lt10 hj⟩,a1,b1,c1,d1,z5u (by omega) (by omega),zrd (by omega) (by omega),zrd (by omega) (by omega),Nat.and_assoc];by_cases c:(hw p.bits j ^^^ hw q.bits j) &&& (hw p.mask j &&& hw q.mask j)=0
    . rw [zAd (by omega),zAc (zAa c)]
    . rw [zAc (by omega),zAd (by rw [decide_eq_true_eq];exact c)]) (fun m=>by rw [zb9];exact zAd (by decide)) hk,em]
  have e:(ju 10).all (fun j=>decide ((hw p.bits j ^^^ hw q.bits j) &&& (hw p.mask j &&& hw q.mask j)=0))=zd3 p q:=by
    rw [ld,gg,zls];have hand:∀ j,j<10->hw p.mask j &&& hw q.mask j<65536:=fun j hj=>ny qa (zbf pm hj).2;constructor
    . intro hall i hi h1 h2;have:=zAe (hall (i / 16) (jv.2 (by omega)));refine (zuk (zbf pb (by omega)).2 (zbf qb (by omega)).2 (hand (i / 16) (by omega))).1 this (15 - i % 16) (by omega) ?_;rw [kx];unfold hbit at h1 h2;rw [h1,h2];rfl
    . intro hall j hj;have hj':=jv.1 hj;refine zAa ((zuk (zbf pb hj').2 (zbf qb hj').2 (hand j hj')).2 fun t ht h1=>?_);rw [kx,ep] at h1;rw [<- zjm p.bits hj' ht,<- zjm q.bits hj' ht];exact hall _ (z64 j t hj' ht).2.2 (by rw [zjm p.mask hj' ht];exact h1.1) (by rw [zjm q.mask hj' ht];exact h1.2)
  rw [e];cases zd3 p q<;>rfl
theorem z32 {a:Ar 10} {i w:Nat} (ha:zac a=true) (hi:i<160) (hw':w<65536):zac (a.set ((i / 16:Nat):Int) (w:Int))=true/\∀ j,j<160->hbit (a.set ((i / 16:Nat):Int) (w:Int)) j=if j / 16=i / 16 then w.testBit (15 - j % 16) else hbit a j:=by
  have hi10:i / 16<10:=by omega
  refine ⟨zhu fun j hj=>?_,fun j hj=>?_⟩
  . by_cases c:i / 16=j
    . subst c;exact ⟨w,zfi _ hi10,hw'⟩
    . rw [zhx _ hj c];exact ⟨_,(zbf ha hj).1,(zbf ha hj).2⟩
  . unfold hbit hw;by_cases c:i / 16=j / 16
    . rw [zAc c.symm,<- c,zfi _ hi10];rfl
    . rw [zAd (fun q=>c q.symm),zhx _ (by omega) c]
theorem z8z {i:Nat}:2 ^ (15 - i % 16)<65536:=show 2 ^ (15 - i % 16)<2 ^ 16 from oi (by decide) (by omega)
theorem ylv {a:Ar 10} {i:Nat} (ha:zac a=true) (hi:i<160):zac (a.set ((i / 16:Nat):Int) (iOr .i64 (gx a.l ((i / 16:Nat):Int)) ((2 ^ (15 - i % 16):Nat):Int)))=true/\∀ j,j<160->hbit (a.set ((i / 16:Nat):Int) (iOr .i64 (gx a.l ((i / 16:Nat):Int)) ((2 ^ (15 - i % 16):Nat):Int))) j=(decide (j=i) || hbit a j):=by
  obtain ⟨a1,a2⟩:=zbf ha (show i / 16<10 by omega);have h2:=z8z (i:=i);rw [a1,z26 (by omega) (by omega)];obtain ⟨r1,r2⟩:=z32 ha hi (w:=hw a (i / 16) ||| 2 ^ (15 - i % 16)) (pf (n:=16) a2 h2);refine ⟨r1,fun j hj=>?_⟩;rw [r2 j hj];by_cases c:j / 16=i / 16
  . rw [zAc c,mn,zus,<- c,Bool.or_comm];congr 1;exact decide_eq_decide.2 (by omega)
  . rw [zAd c,zAb (by intro q;subst q;exact c rfl),lq]
theorem yik {a:Ar 10} {i:Nat} (ha:zac a=true) (hi:i<160):zac (a.set ((i / 16:Nat):Int) (zgw .i64 (gx a.l ((i / 16:Nat):Int)) ((2 ^ (15 - i % 16):Nat):Int)))=true/\∀ j,j<160->hbit (a.set ((i / 16:Nat):Int) (zgw .i64 (gx a.l ((i / 16:Nat):Int)) ((2 ^ (15 - i % 16):Nat):Int))) j=(!decide (j=i) && hbit a j):=by
  obtain ⟨a1,a2⟩:=zbf ha (show i / 16<10 by omega);have h2:=z8z (i:=i);rw [a1,zs7 (by omega) (by omega)];obtain ⟨r1,r2⟩:=z32 ha hi (w:=hw a (i / 16) - (hw a (i / 16) &&& 2 ^ (15 - i % 16))) (by omega);refine ⟨r1,fun j hj=>?_⟩;rw [r2 j hj];by_cases c:j / 16=i / 16
  . rw [zAc c,zrq (by omega) (by omega),zus,<- c,Bool.and_comm];congr 2;exact decide_eq_decide.2 (by omega)
  . rw [zAd c,zAb (by intro q;subst q;exact c rfl),gm,ji]
theorem ymm {k i:Nat} (hi:i<160):zgc k (i:Int)=some ((2 ^ (15 - i % 16):Nat):Int):=by
  have e:ej.wrap (15 - ((i:Int) % 16))=((15 - i % 16:Nat):Int):=by rw [wr64 (by omega)];omega
  unfold zgc;rw [zAc ⟨by omega,by decide⟩,e,zAc (by omega)];have h2:=z8z (i:=i);unfold iShl
  have e2:min ((15 - i % 16:Nat):Int).toNat ej.bits=15 - i % 16:=by
    have:ej.bits=64:=rfl;rw [this];omega
  rw [e2,Int.one_mul,show ((2:Int) ^ (15 - i % 16))=((2 ^ (15 - i % 16):Nat):Int) by push_cast;rfl];generalize 2 ^ (15 - i % 16)=w at h2 ⊢;rw [wr64 (by omega)]
structure zwu (p:Pat) (i:Nat) (b:Bool) (r:Pat):Prop where
  mask:zac r.mask=true
  bits:zac r.bits=true
  hm:∀ j,j<160->hbit r.mask j=(decide (j=i) || hbit p.mask j)
  hb:∀ j,j<160->hbit r.bits j=if j=i then b else hbit p.bits j
theorem z61 {k i:Nat} {p:Pat} {b:Bool} (hp:zag p=true) (hi:i<160):∃ r,zhs k p (i:Int) (b.toNat:Int)=some r/\zwu p i b r:=by
  obtain ⟨pm,pb,_⟩:=zam.1 hp;have hw16:ej.wrap ((i:Int) / 16)=((i / 16:Nat):Int):=zwz hi;have hi10:i / 16<10:=by omega
  unfold zhs;rw [zAc ⟨by omega,by decide⟩,hw16,zAc ⟨by omega,by omega⟩,ymm hi,em,em];obtain ⟨m1,m2⟩:=ylv pm hi;obtain ⟨c1,c2⟩:=yik pb hi
  cases b with
  |false =>
    rw [zAd (by decide)];exact ⟨_,rfl,m1,c1,m2,fun j hj=>by rw [c2 j hj];by_cases q:j=i<;>simp [q]⟩
  |true =>
    rw [zAc (by decide),em];obtain ⟨o1,o2⟩:=ylv c1 hi;exact ⟨_,rfl,m1,o1,m2,fun j hj=>by rw [o2 j hj,c2 j hj];by_cases q:j=i<;>simp [q]⟩
/-! the first open bit -/
def ze4 (a b:Nat):Nat:=(a - (a &&& b)) % 65536
theorem zvg:∀ (l m:List Nat) (i:Nat),l.length=m.length->(zqx i l m=[]/\∀ s,s<l.length->ze4 (l.getD s 0) (m.getD s 0)=0)\/∃ s,s<l.length/\(∀ s',s'<s->ze4 (l.getD s' 0) (m.getD s' 0)=0)/\ze4 (l.getD s 0) (m.getD s 0)≠0/\∃ r,zqx i l m=(16*(i+s)+(15 - jm (ze4 (l.getD s 0) (m.getD s 0)))) :: r
  |[],m,i,h=>.inl ⟨by unfold zqx;rfl,fun s hs=>by simp at hs⟩
  |a :: l,[],i,h=>by simp at h
  |a :: l,b :: m,i,h=>by
    have e:zqx i (a :: l) (b :: m)=(zue 17 (ze4 a b)).map (fun x=>16*i+x)++zqx (i+1) l m:=by rw [zqx];rfl
    rw [e];by_cases c:ze4 a b=0
    . have e0:zue 17 (ze4 a b)=[]:=by rw [c];rfl
      rw [e0,List.map_nil,ft];rcases zvg l m (i+1) (by simpa using h) with ⟨h1,h2⟩|⟨s,h1,h2,h3,r,h4⟩
      . refine .inl ⟨h1,fun s hs=>?_⟩
        cases s with
        |zero=>exact c
        |succ s=>exact h2 s (by simpa using hs)
      . refine .inr ⟨s+1,by simpa using h1,fun s' hs'=>?_,h3,r,?_⟩
        . cases s' with
          |zero=>exact c
          |succ s'=>exact h2 s' (by omega)
        . rw [h4,List.getD_cons_succ,List.getD_cons_succ,show i+1+s=i+(s+1) by omega]
    . have e0:zue 17 (ze4 a b)=(15 - jm (ze4 a b)) :: zue 16 (ze4 a b - 2 ^ jm (ze4 a b)):=by rw [zue,zAd c]
      rw [e0];exact .inr ⟨0,by simp,fun s' hs'=>by omega,c,_,rfl⟩
theorem z7s {a b t:Nat} (ha:a<65536) (hb:b<65536) (ht:t<16):(ze4 a b).testBit t=(a.testBit t && !b.testBit t):=by
  unfold ze4;rw [Nat.mod_eq_of_lt (by omega),zrq (by omega) (by omega)]
theorem zz7 {a:Ar 10} {s:Nat} (hs:s<10):(zf4 a).getD s 0=hw a s:=by
  unfold zf4 hw;rw [zkc,fe,fe,List.getElem?_map]
  cases h:a.l[s]? with
  |none=>rw [List.getElem?_eq_none_iff] at h;have:=a.h;omega
  |some x=>rfl
def zg8 (q p:Pat) (i:Nat):Bool:=hbit q.mask i && !hbit p.mask i
theorem z7u {q p:Pat} (hq:zac q.mask=true) (hp:zac p.mask=true):(z7v q.mask p.mask=[]/\∀ i,i<160->zg8 q p i=false)\/∃ x r,z7v q.mask p.mask=x :: r/\x<160/\zg8 q p x=true/\∀ i,i<x->zg8 q p i=false:=by
  have hl:∀ a:Ar 10,(zf4 a).length=10:=fun a=>by unfold zf4;rw [fc,a.h]
  have hW:∀ s,s<10->ze4 ((zf4 q.mask).getD s 0) ((zf4 p.mask).getD s 0)=ze4 (hw q.mask s) (hw p.mask s):=fun s hs=>by rw [zz7 hs,zz7 hs]
  have bit:∀ i,i<160->zg8 q p i=(ze4 (hw q.mask (i / 16)) (hw p.mask (i / 16))).testBit (15 - i % 16):=fun i hi=>by
    rw [z7s (zbf hq (by omega)).2 (zbf hp (by omega)).2 (by omega)];rfl
  have zero:∀ s,s<10->ze4 ((zf4 q.mask).getD s 0) ((zf4 p.mask).getD s 0)=0->∀ i,i<160->i / 16=s->zg8 q p i=false:=fun s hs h0 i hi e=>by
    rw [bit i hi,e,<- hW s hs,h0,nr]
  rcases zvg (zf4 q.mask) (zf4 p.mask) 0 (by rw [hl,hl]) with ⟨h1,h2⟩|⟨s,h1,h2,h3,r,h4⟩
  . refine .inl ⟨h1,fun i hi=>zero (i / 16) (by omega) (h2 _ (by rw [hl];omega)) i hi rfl⟩
  . rw [hl] at h1;rw [hW s h1] at h3 h4;have hlt:ze4 (hw q.mask s) (hw p.mask s)<65536:=Nat.mod_lt _ (by decide);have hlog:jm (ze4 (hw q.mask s) (hw p.mask s))<16:=(Nat.log2_lt h3).2 hlt;have htop:(ze4 (hw q.mask s) (hw p.mask s)).testBit (jm (ze4 (hw q.mask s) (hw p.mask s)))=true:=Nat.testBit_log2 h3;have hup:∀ t,jm (ze4 (hw q.mask s) (hw p.mask s))<t->(ze4 (hw q.mask s) (hw p.mask s)).testBit t=false:=fun t ht=>l9 (gr (Nat.lt_log2_self) (ks (by decide) ht));generalize jm (ze4 (hw q.mask s) (hw p.mask s))=g at *;refine .inr ⟨16*(0+s)+(15 - g),r,h4,by omega,?_,fun i hi=>?_⟩
    . rw [bit _ (by omega),show (16*(0+s)+(15 - g)) / 16=s by omega,show 15 - (16*(0+s)+(15 - g)) % 16=g by omega];exact htop
    . by_cases c:i / 16=s
      . rw [bit i (by omega),c];exact hup _ (by omega)
      . exact zero (i / 16) (by omega) (h2 _ (by omega)) i (by omega) rfl
theorem z2r {a:Ar 10} (h:zac a=true):natM a:=by
  intro x hx;unfold zac at h;have:=gg.1 h x hx;unfold zvd at this;have:=zAe this;omega
def ltH (a b:Ar 10):Prop:=∃ i,i<160/\(∀ j,j<i->hbit a j=hbit b j)/\hbit a i=false/\hbit b i=true
structure Out (p:Pat) (l:List Pat) (h:Ar 10):Prop where
  right:zac h=true
  into:zax p h=true
  no:∀ q,q∈l->zax q h=false
structure ztw (p:Pat) (l:List Pat) (h:Ar 10):Prop where
  out:Out p l h
  least:∀ h',Out p l h'->¬ ltH h' h
def Res (p:Pat) (l:List Pat) (r:Ar 10×Bool):Prop:=(r.2=true/\ztw p l r.1)\/(r=(zA 10,false)/\∀ h,¬ Out p l h)
theorem zxz {a b:Ar 10} (ha:zac a=true) (hb:zac b=true):a=b\/ltH a b\/ltH b a:=by
  by_cases h:∃ i,i<160/\hbit a i≠hbit b i
  . right
    have key:∀ n,(∃ i,i<n/\hbit a i≠hbit b i)->∃ i,i<n/\(∀ j,j<i->hbit a j=hbit b j)/\hbit a i≠hbit b i:=by
      intro n
      induction n with
      |zero=>rintro ⟨i,hi,_⟩;omega
      |succ n ih =>
        rintro ⟨i,hi,hd⟩;by_cases h2:∃ i,i<n/\hbit a i≠hbit b i
        . obtain ⟨j,h3,h4,h5⟩:=ih h2;exact ⟨j,by omega,h4,h5⟩
        . refine ⟨i,hi,fun j hj=>?_,hd⟩;by_cases e:hbit a j=hbit b j
          . exact e
          . exact absurd ⟨j,by omega,e⟩ h2
    obtain ⟨i,h1,h2,h3⟩:=key 160 h
    cases e1:hbit a i with
    |false =>
      cases e2:hbit b i with
      |false=>rw [e1,e2] at h3;exact absurd rfl h3
      |true=>exact .inl ⟨i,h1,h2,e1,e2⟩
    |true =>
      cases e2:hbit b i with
      |true=>rw [e1,e2] at h3;exact absurd rfl h3
      |false=>exact .inr ⟨i,h1,fun j hj=>(h2 j hj).symm,e2,e1⟩
  . left
    exact zow ha hb fun i hi=>by
      by_cases e:hbit a i=hbit b i
      . exact e
      . exact absurd ⟨i,hi,e⟩ h
theorem ztw.uniq {p:Pat} {l:List Pat} {a b:Ar 10} (ha:ztw p l a) (hb:ztw p l b):a=b:=by
  rcases zxz ha.out.right hb.out.right with h|h|h
  . exact h
  . exact absurd h (hb.least _ ha.out)
  . exact absurd h (ha.least _ hb.out)
theorem Res.uniq {p:Pat} {l:List Pat} {r s:Ar 10×Bool} (hr:Res p l r) (hs:Res p l s):r=s:=by
  obtain ⟨r1,r2⟩:=r;obtain ⟨s1,s2⟩:=s;rcases hr with ⟨h1,h2⟩|⟨h1,h2⟩
  . rcases hs with ⟨h3,h4⟩|⟨h3,h4⟩
    . simp only at h1 h2 h3 h4;rw [h1,h3,h2.uniq h4]
    . exact absurd h2.out (h4 _)
  . rcases hs with ⟨h3,h4⟩|⟨h3,h4⟩
    . exact absurd h4.out (h2 _)
    . rw [h1,h3]
theorem zxs {p q:Pat} {h:Ar 10} (hp:zax p h=true) (hq:zax q h=true):zd3 p q=true :=
  zls.2 fun i hi h1 h2=>by rw [za1.1 hp i hi h1,za1.1 hq i hi h2]
theorem zix {p r:Pat} {i:Nat} {b:Bool} {h:Ar 10} (hi:i<160) (hpi:hbit p.mask i=false) (hf:zwu p i b r):zax r h=true↔zax p h=true/\hbit h i=b:=by
  rw [za1,za1];constructor
  . intro hm;refine ⟨fun j hj h1=>?_,?_⟩
    . have hne:j≠i:=by intro e;rw [e,hpi] at h1;cases h1
      have:=hm j hj (by rw [hf.hm j hj,h1];simp);rw [hf.hb j hj,zAd hne] at this;exact this
    . have:=hm i hi (by rw [hf.hm i hi];simp);rw [hf.hb i hi,zAc rfl] at this;exact this.symm
  . rintro ⟨hm,hb⟩ j hj h1;rw [hf.hb j hj];by_cases e:j=i
    . rw [zAc e,e,hb]
    . rw [zAd e];rw [hf.hm j hj,zAb e,lq] at h1;exact hm j hj h1
theorem z0t {p r:Pat} {i:Nat} {b:Bool} (hp:zag p=true) (hf:zwu p i b r):zag r=true:=by
  refine zam.2 ⟨hf.mask,hf.bits,fun j hj h1=>?_⟩;rw [hf.hm j hj];by_cases e:j=i
  . simp [e]
  . rw [hf.hb j hj,zAd e] at h1;rw [(zam.1 hp).2.2 j hj h1];simp
theorem z70 {p:Pat} {l:List Pat} (hp:zag p=true) (hn:∀ q,q∈l->zd3 p q=false):ztw p l p.bits:=by
  obtain ⟨pm,pb,pw⟩:=zam.1 hp;have hself:zax p p.bits=true:=za1.2 fun i _ _=>rfl;refine ⟨⟨pb,hself,fun q hq=>?_⟩,fun h' ho=>?_⟩
  . cases hm:zax q p.bits with
    |false=>rfl
    |true=>have:=zxs hself hm;rw [hn q hq] at this;cases this
  . rintro ⟨i,hi,_,h1,h2⟩;have:=za1.1 ho.into i hi (pw i hi h2);rw [h1,h2] at this;cases this
theorem Out.near {p:Pat} {l:List Pat} {h:Ar 10}:Out p l h↔Out p (l.filter (zd3 p)) h:=by
  constructor
  . exact fun ⟨a,b,c⟩=>⟨a,b,fun q hq=>c q (m9.1 hq).1⟩
  . refine fun ⟨a,b,c⟩=>⟨a,b,fun q hq=>?_⟩
    cases hm:zax q h with
    |false=>rfl
    |true =>
      have:=c q (m9.2 ⟨hq,zxs b hm⟩);rw [hm] at this;cases this
theorem Res.join {p p0 p1:Pat} {l:List Pat} {i:Nat} {r0 r1:Ar 10×Bool} (hi:i<160) (hpi:hbit p.mask i=false) (h0:zwu p i false p0) (h1:zwu p i true p1)
    (ho:∀ q,q∈l->∀ j,j<i->zg8 q p j=false) (k0:Res p0 l r0) (k1:r0.2=false->Res p1 l r1):Res p l (if r0.2=true then (r0.1,true) else (r1.1,r1.2)):=by
  rcases k0 with ⟨a,b⟩|⟨a,b⟩
  . rw [zAc a];refine .inl ⟨rfl,⟨⟨b.out.right,((zix hi hpi h0).1 b.out.into).1,b.out.no⟩,fun h' ho'=>?_⟩⟩;obtain ⟨bm,bi⟩:=(zix hi hpi h0).1 b.out.into;rintro ⟨j,hj,e1,e2,e3⟩
    cases hb:hbit h' i with
    |false=>exact b.least h' ⟨ho'.right,(zix hi hpi h0).2 ⟨ho'.into,hb⟩,ho'.no⟩ ⟨j,hj,e1,e2,e3⟩
    |true =>
      by_cases c1:j=i
      . subst c1;rw [bi] at e3;cases e3
      . by_cases c2:i<j
        . have:=e1 i c2;rw [hb,bi] at this;cases this
        . have hji:j<i:=by omega
          have hpj:hbit p.mask j=false:=by
            cases hm:hbit p.mask j with
            |false=>rfl
            |true =>
              have x1:=za1.1 ho'.into j hj hm;have x2:=za1.1 bm j hj hm;rw [x1,e2] at x2;rw [e3] at x2;cases x2
          obtain ⟨c3,c4⟩:=yik b.out.right hj;generalize r0.1.set ((j / 16:Nat):Int) _=h2 at c3 c4;refine b.least h2 ⟨c3,?_,fun q hq=>?_⟩ ⟨j,hj,fun s hs=>?_,?_,e3⟩
          . refine (zix hi hpi h0).2 ⟨za1.2 fun s hs hm=>?_,?_⟩
            . have hne:s≠j:=by intro e;rw [e,hpj] at hm;cases hm
              rw [c4 s hs,zAb hne,gm,ji];exact za1.1 bm s hs hm
            . rw [c4 i hi,zAb (by omega),gm,ji];exact bi
          . have hqj:hbit q.mask j=false:=by
              have:=ho q hq j hji;unfold zg8 at this;rw [hpj] at this;simpa using this
            cases hm:zax q h2 with
            |false=>rfl
            |true =>
              have:zax q r0.1=true:=za1.2 fun s hs hms=>by
                have hne:s≠j:=by intro e;rw [e,hqj] at hms;cases hms
                have x:=za1.1 hm s hs hms;rw [c4 s hs,zAb hne,gm,ji] at x;exact x
              rw [b.out.no q hq] at this;cases this
          . rw [c4 s (by omega),zAb (by omega),gm,ji]
          . rw [c4 j hj];simp
  . subst a;rw [zAd (by simp)];have k:=k1 rfl
    have split:∀ h,Out p l h->Out p1 l h:=fun h ho'=>by
      cases hb:hbit h i with
      |false=>exact absurd ⟨ho'.right,(zix hi hpi h0).2 ⟨ho'.into,hb⟩,ho'.no⟩ (b h)
      |true=>exact ⟨ho'.right,(zix hi hpi h1).2 ⟨ho'.into,hb⟩,ho'.no⟩
    rcases k with ⟨c,d⟩|⟨c,d⟩
    . exact .inl ⟨c,⟨⟨d.out.right,((zix hi hpi h1).1 d.out.into).1,d.out.no⟩,fun h' ho'=>d.least h' (split h' ho')⟩⟩
    . exact .inr ⟨by rw [c],fun h ho'=>d h (split h ho')⟩
theorem z5f {P:Nat->Prop}:∀ n,(∃ i,i<n/\P i)->∃ i,i<n/\P i/\∀ j,j<i->¬ P j
  |0,⟨i,hi,_⟩=>by omega
  |n+1,⟨i,hi,hp⟩=>by
    by_cases h:∃ i,i<n/\P i
    . obtain ⟨j,h1,h2,h3⟩:=z5f n h;exact ⟨j,by omega,h2,h3⟩
    . exact ⟨i,hi,hp,fun j hj hpj=>h ⟨j,by omega,hpj⟩⟩
theorem z69 {a b:Nat} (ha:a<65536) (hb:b<65536) (h:a≠b):∃ t,t<16/\(∀ s,t<s->a.testBit s=b.testBit s)/\a.testBit t≠b.testBit t:=by
  have hex:∃ u,u<16/\a.testBit (15 - u)≠b.testBit (15 - u):=by
    refine js fun hn=>h (zq0 ha hb fun t ht=>?_);refine js fun hd=>hn ⟨15 - t,by omega,?_⟩;rw [show 15 - (15 - t)=t by omega];exact hd
  obtain ⟨u,h1,h2,h3⟩:=z5f 16 hex;refine ⟨15 - u,by omega,fun s hs=>?_,h2⟩;by_cases hs16:s<16
  . have:=h3 (15 - s) (by omega);rw [show 15 - (15 - s)=s by omega] at this;exact js this
  . have e:65536<=2 ^ s:=ks (n:=2) (by decide) (show 16<=s by omega);rw [l9 (gr ha e),l9 (gr hb e)]
theorem z7z {a b t:Nat} (ha:a.testBit t=false) (hb:b.testBit t=true) (hs:∀ s,t<s->a.testBit s=b.testBit s):a<b:=by
  have e:a / 2 ^ (t+1)=b / 2 ^ (t+1):=by
    apply nh;intro i;rw [Nat.testBit_div_two_pow,Nat.testBit_div_two_pow];exact hs _ (by omega)
  rw [qt,<- Nat.div_div_eq_div_mul,<- Nat.div_div_eq_div_mul] at e;rw [Nat.testBit_eq_decide_div_mod_eq] at ha hb;have ha':=of_decide_eq_false ha;have hb':=zAe hb;apply Nat.lt_of_not_le;intro h;have:=Nat.div_le_div_right (c:=2 ^ t) h;omega
theorem zz9 {a b:Ar 10} (ha:zac a=true) (hb:zac b=true) {j:Nat} (hj:j<10) (he:∀ i,i<j->hw a i=hw b i) (hl:hw a j<hw b j):ltH a b:=by
  obtain ⟨t,h1,h2,h3⟩:=z69 (zbf ha hj).2 (zbf hb hj).2 (by omega)
  have hat:(hw a j).testBit t=false/\(hw b j).testBit t=true:=by
    cases e1:(hw a j).testBit t with
    |false =>
      cases e2:(hw b j).testBit t with
      |false=>rw [e1,e2] at h3;exact absurd rfl h3
      |true=>exact ⟨rfl,rfl⟩
    |true =>
      cases e2:(hw b j).testBit t with
      |true=>rw [e1,e2] at h3;exact absurd rfl h3
      |false =>
        have:=z7z e2 e1 fun s hs=>(h2 s hs).symm;omega
  refine ⟨16*j+(15 - t),by omega,fun s hs=>?_,?_,?_⟩
  . unfold hbit;by_cases c:s / 16=j
    . rw [c];exact h2 _ (by omega)
    . rw [he (s / 16) (by omega)]
  . rw [zjm a hj h1];exact hat.1
  . rw [zjm b hj h1];exact hat.2
theorem zvt {a:Ar 10}:¬ ltH a a:=by
  rintro ⟨i,_,_,h1,h2⟩;rw [h1] at h2;cases h2
theorem z0b {a b:Ar 10} (h:ltH a b):¬ ltH b a:=by
  obtain ⟨i,h1,h2,h3,h4⟩:=h;rintro ⟨j,k1,k2,k3,k4⟩;rcases mu i j with c|c|c
  . have:=k2 i c;rw [h3,h4] at this;cases this
  . subst c;rw [h3] at k4;cases k4
  . have:=h2 j c;rw [k3,k4] at this;cases this
theorem z0a {a b c:Ar 10} (h:ltH a b) (k:ltH b c):ltH a c:=by
  obtain ⟨i,h1,h2,h3,h4⟩:=h;obtain ⟨j,k1,k2,k3,k4⟩:=k;rcases mu i j with e|e|e
  . exact ⟨i,h1,fun s hs=>by rw [h2 s hs,k2 s (by omega)],h3,by rw [<- k2 i e];exact h4⟩
  . subst e;rw [h4] at k3;cases k3
  . exact ⟨j,k1,fun s hs=>by rw [h2 s (by omega),k2 s hs],by rw [h2 j e];exact k3,k4⟩
def Cmp (a b:Ar 10) (c:Int):Prop:=(c=-1/\ltH a b)\/(c=1/\ltH b a)\/(c=0/\a=b)
theorem Cmp.neg {a b:Ar 10} {c:Int} (h:Cmp a b c):c<0↔ltH a b:=by
  rcases h with ⟨rfl,h⟩|⟨rfl,h⟩|⟨rfl,rfl⟩
  . exact ⟨fun _=>h,fun _=>by decide⟩
  . exact ⟨fun q=>absurd q (by decide),fun q=>absurd q (z0b h)⟩
  . exact ⟨fun q=>absurd q (by decide),fun q=>absurd q zvt⟩
theorem Cmp.pos {a b:Ar 10} {c:Int} (h:Cmp a b c):0<c↔ltH b a:=by
  rcases h with ⟨rfl,h⟩|⟨rfl,h⟩|⟨rfl,rfl⟩
  . exact ⟨fun q=>absurd q (by decide),fun q=>absurd q (z0b h)⟩
  . exact ⟨fun _=>h,fun _=>by decide⟩
  . exact ⟨fun q=>absurd q (by decide),fun q=>absurd q zvt⟩
structure Meet (p q r:Pat):Prop where
  mask:zac r.mask=true
  bits:zac r.bits=true
  hm:∀ j,j<160->hbit r.mask j=(hbit p.mask j || hbit q.mask j)
  hb:∀ j,j<160->hbit r.bits j=if hbit q.mask j=true then hbit q.bits j else hbit p.bits j
structure AndI (p q:Pat) (i:Nat) (x y:Ar 10):Prop where
  rx:zac x=true
  ry:zac y=true
  hx:∀ j,j<160->hbit x j=(hbit p.mask j || (decide (j<i) && hbit q.mask j))
  hy:∀ j,j<160->hbit y j=if (decide (j<i) && hbit q.mask j)=true then hbit q.bits j else hbit p.bits j
  ok:∀ j,j<i->hbit p.mask j=true->hbit q.mask j=true->hbit p.bits j=hbit q.bits j
def ym8 (q:Pat) (i:Nat) (h:Ar 10):Prop:=∀ j,j<i->hbit q.mask j=true->hbit h j=hbit q.bits j
def Part (p q:Pat) (i:Nat) (r:Pat):Prop:=∀ h,zax r h=true↔zax p h=true/\ym8 q i h/\hbit h i≠hbit q.bits i
structure Parts (p q:Pat) (i:Nat) (l:List Pat):Prop where
  len:l.length<=i
  right:∀ r,r∈l->zag r=true
  mask:∀ r,r∈l->∀ j,j<160->hbit r.mask j=true->hbit p.mask j=true\/hbit q.mask j=true
  part:∀ r,r∈l->∃ j,j<i/\hbit q.mask j=true/\Part p q j r
  all:∀ h,zax p h=true->¬ ym8 q i h->∃ r,r∈l/\zax r h=true
  apart:l.Pairwise fun r s=>∀ h,¬ (zax r h=true/\zax s h=true)
structure Diff (p q:Pat) (l:List Pat):Prop where
  len:l.length<=160
  right:∀ r,r∈l->zag r=true
  mask:∀ r,r∈l->∀ j,j<160->hbit r.mask j=true->hbit p.mask j=true\/hbit q.mask j=true
  heads:∀ h,(∃ r,r∈l/\zax r h=true)↔zax p h=true/\zax q h=false
  apart:l.Pairwise fun r s=>∀ h,¬ (zax r h=true/\zax s h=true)
theorem yd2 {α:Type} (e:α) (f:Nat->α):rngF [] e f=e:=rfl
theorem yac {α:Type} (x:Nat) (r:List Nat) (e:α) (f:Nat->α):rngF (x :: r) e f=f x:=rfl
theorem z3a {α:Type} (g:α->Bool) {l:List α} {i:Nat} (h:i<l.length):(l.take (i+1)).filter g=(l.take i).filter g++(if g l[i]=true then [l[i]] else []):=by
  rw [oe,fb h,n4,List.filter_append];cases hg:g l[i]<;>simp [hg]
def ym3 (p:Pat) (l:List Pat) (o:(Ar 10×Bool) ⊕ (Int×List Pat×Nat)):Prop :=
  (o=.inl (zA 10,false)/\∃ q,q∈l/\zd3 p q=true/\∀ i,i<160->zg8 q p i=false) \/
  ∃ a:Nat,o=.inr ((a:Int),l.filter (zd3 p),(l.filter (zd3 p)).length)/\(∀ q,q∈l.filter (zd3 p)->∀ i,i<a->zg8 q p i=false)/\(l.filter (zd3 p)≠[]->a<160/\∃ q,q∈l.filter (zd3 p)/\zg8 q p a=true)
theorem z9w {k:Nat} {p:Pat} {l:List Pat} (hp:zag p=true) (hl:∀ q,q∈l->zag q=true) (hlen:l.length<=1000) (hk:big<=k):∃ o,zaw k p l k 160 0 [] 0=some o/\ym3 p l o:=by
  have key : ∀ m i (a : Nat), i <= l.length -> l.length - i < m -> a <= 160 -> (∀ q, q ∈ (l.take i).filter (zd3 p) -> ∀ j, j < a -> zg8 q p j = false) -> ((l.take i).filter (zd3 p) = [] -> a = 160) -> ((l.take i).filter (zd3 p) ≠ [] -> a < 160 /\ ∃ q, q ∈ (l.take i).filter (zd3 p) /\ zg8 q p a = true) ->
      ∃ o,zaw k p l m (a:Int) (i:Int) ((l.take i).filter (zd3 p)) ((l.take i).filter (zd3 p)).length=some o/\ym3 p l o:=by
    intro m
    induction m with
    |zero=>intro i a h1 h2;omega
    |succ m ih =>
      intro i a h1 h2 ha hI hE hN;rw [zaw];by_cases c:i<l.length
      . have hq:=hl _ (lj c);have hn:((l.take i).filter (zd3 p)).length<=1000:=jj (od _ _) (by rw [gq];omega);have hf:=z3a (zd3 p) c;rw [zAc (zbg c),zAc ⟨by omega,zbg c⟩,zg3 c,zqt hp hq (by simp only [big] at hk;omega),em,zcc i (by omega)]
        cases ho:zd3 p l[i] with
        |false =>
          rw [zAd (by simp)];rw [ho,zAd (by simp),gn] at hf;have:=ih (i+1) a (by omega) (by omega) ha;rw [hf] at this;exact this hI hE hN
        |true =>
          rw [ho,zAc rfl] at hf;rw [zAc rfl,zAc (by omega),zAc (z2r (zam.1 hq).1),zAc (z2r (zam.1 hp).1)];rcases z7u (zam.1 hq).1 (zam.1 hp).1 with ⟨e1,e2⟩|⟨x,r,e1,e2,e3,e4⟩
          . rw [e1,yd2,zAc (by decide)];exact ⟨_,rfl,.inl ⟨rfl,_,lj c,ho,e2⟩⟩
          . rw [e1,yac,zAd (by omega),show min (a:Int) (x:Int)=((min a x:Nat):Int) by omega];have:=ih (i+1) (min a x) (by omega) (by omega) (by omega);rw [hf,fi,i4] at this;refine this (fun q hq j hj=>?_) (fun h=>by simp at h) (fun _=>⟨by omega,?_⟩)
            . rcases iv.1 hq with h|h
              . exact hI q h j (by omega)
              . cases ke.1 h;exact e4 j (by omega)
            . by_cases cx:x<=a
              . exact ⟨_,iv.2 (.inr (ke.2 rfl)),by rw [Nat.min_eq_right cx];exact e3⟩
              . rw [Nat.min_eq_left (by omega)];have hne:(l.take i).filter (zd3 p)≠[]:=fun h=>by have:=hE h;omega
                obtain ⟨_,q,h3,h4⟩:=hN hne;exact ⟨q,iv.2 (.inl h3),h4⟩
      . obtain rfl:i=l.length:=by omega
        rw [zAd (by omega)];rw [me] at hI hN ⊢;exact ⟨_,rfl,.inr ⟨a,rfl,hI,hN⟩⟩
  exact key k 0 160 (ik _) (by simp only [big] at hk;omega) (fd _) (fun q hq=>by simp at hq) (fun _=>rfl) (fun h=>absurd rfl h)
theorem z9v {k:Nat} (hk:big<=k):∀ (m c:Nat) (p:Pat) (l:List Pat),c<=160->161 - c<=m->zag p=true->(∀ q,q∈l->zag q=true)->l.length<=1000->(∀ q,q∈l->∀ i,i<c->zg8 q p i=false)->∃ r,zbr k m p l=some r/\Res p l r:=by
  intro m
  induction m with
  |zero=>intro c p l h1 h2;omega
  |succ m ih =>
    intro c p l h1 h2 hp hl hlen hc;rw [zbr];obtain ⟨o,e,hF⟩:=z9w hp hl hlen hk;rw [e,em];rcases hF with ⟨rfl,q,hq,ho,hn⟩|⟨a,rfl,hI,hN⟩
    . refine ⟨_,rfl,.inr ⟨rfl,fun h hO=>?_⟩⟩
      have:zax q h=true:=za1.2 fun i hi hm=>by
        have hop:=hn i hi;unfold zg8 at hop;rw [hm] at hop;have hpm:hbit p.mask i=true:=by simpa using hop
        rw [<- za1.1 hO.into i hi hpm];exact (zls.1 ho i hi hpm hm).symm
      rw [hO.no q hq] at this;cases this
    . rw [Sum.elim_inr];have hnl:(l.filter (zd3 p)).length<=1000:=jj (od _ _) hlen;have hnr:∀ q,q∈l.filter (zd3 p)->zag q=true:=fun q hq=>hl q (m9.1 hq).1;by_cases hz:l.filter (zd3 p)=[]
      . rw [zAc (show (((l.filter (zd3 p)).length:Nat):Int)=0 by rw [hz];rfl)];unfold zkq;refine ⟨_,rfl,.inl ⟨rfl,z70 hp fun q hq=>?_⟩⟩
        cases ho:zd3 p q with
        |false=>rfl
        |true=>have:q∈l.filter (zd3 p):=m9.2 ⟨hq,ho⟩;rw [hz] at this;cases this
      . obtain ⟨a160,q0,hq0,hop⟩:=hN hz;have hpa:hbit p.mask a=false:=by unfold zg8 at hop;simp at hop;exact hop.2
        have hca:c<=a:=by
          apply Nat.le_of_not_lt;intro hlt;have:=hc q0 (m9.1 hq0).1 a hlt;rw [hop] at this;cases this
        have hlen0:¬ ((l.filter (zd3 p)).length:Int)=0:=by
          intro h;exact hz (jb (by omega))
        rw [zAd hlen0];obtain ⟨p0,f0,F0⟩:=z61 (k:=k) (b:=false) hp a160;obtain ⟨p1,f1,F1⟩:=z61 (k:=k) (b:=true) hp a160;have f0':zhs k p (a:Int) 0=some p0:=f0;have f1':zhs k p (a:Int) 1=some p1:=f1
        have next:∀ {b:Bool} {r:Pat},zwu p a b r->∀ q,q∈l.filter (zd3 p)->∀ i,i<a+1->zg8 q r i=false:=fun {b r} hF q hq i hi=>by
          unfold zg8;rw [hF.hm i (by omega)];by_cases e:i=a
          . simp [e]
          . have:=hI q hq i (by omega);unfold zg8 at this;rw [zAb e,lq];exact this
        obtain ⟨r0,e0,R0⟩:=ih (a+1) p0 _ (by omega) (by omega) (z0t hp F0) hnr hnl (next F0);rw [f0',em,zAc rfl,e0,em]
        cases hb:r0.2 with
        |true =>
          rw [zAc rfl];refine ⟨_,rfl,?_⟩;have:=Res.join (r1:=r0) a160 hpa F0 F1 hI R0 (fun h=>by rw [hb] at h;cases h);rw [hb,zAc rfl] at this;rcases this with ⟨x,y⟩|⟨x,y⟩
          . exact .inl ⟨x,⟨Out.near.2 y.out,fun h' ho'=>y.least h' (Out.near.1 ho')⟩⟩
          . exact .inr ⟨x,fun h ho'=>y h (Out.near.1 ho')⟩
        |false =>
          obtain ⟨r1,e1,R1⟩:=ih (a+1) p1 _ (by omega) (by omega) (z0t hp F1) hnr hnl (next F1);rw [zAd (by simp),f1',em,e1,em];refine ⟨_,rfl,?_⟩;have:=Res.join a160 hpa F0 F1 hI R0 (fun _=>R1);rw [hb,zAd (by simp)] at this;rcases this with ⟨x,y⟩|⟨x,y⟩
          . exact .inl ⟨x,⟨Out.near.2 y.out,fun h' ho'=>y.least h' (Out.near.1 ho')⟩⟩
          . exact .inr ⟨x,fun h ho'=>y h (Out.near.1 ho')⟩
theorem z1n {k:Nat} (hk:big<=k) {p:Pat} {l:List Pat} (hp:zag p=true) (hl:∀ q,q∈l->zag q=true) (hlen:l.length<=1000):∃ r,zeo k p l=some r/\Res p l r:=by
  obtain ⟨r,e,R⟩:=z9v hk k 0 p l (by omega) (by simp only [big] at hk;omega) hp hl hlen (fun q hq i hi=>by omega);refine ⟨r,?_,R⟩;unfold zeo zhg;rw [e];rfl
theorem zpw {α:Type} (f:α->Bool):∀ l:List α,(l.filter f).length+(l.filter fun x=>!f x).length=l.length
  |[]=>rfl
  |x :: l=>by
    have:=zpw f l;cases h:f x<;>simp [h]<;>omega
theorem z08 {α:Type} (b:α->Nat->Bool):∀ (F:List Nat) (L:List α),L.Pairwise (fun r s=>∃ j,j∈F/\b r j≠b s j)->L.length<=2 ^ F.length
  |[],[],_=>by simp
  |[],[x],_=>by simp
  |[],x :: y :: l,h=>by
    obtain ⟨j,hj,_⟩:=(List.pairwise_cons.1 h).1 y (.head _)
    cases hj
  |f :: F,L,h=>by
    have key:∀ g:α->Bool,(∀ x y,g x=true->g y=true->b x f=b y f)->(L.filter g).length<=2 ^ F.length:=fun g hg=>by
      refine z08 b F _ ?_;rw [List.pairwise_filter];refine h.imp ?_;intro x y hxy gx gy;obtain ⟨j,hj,hd⟩:=hxy;rcases List.mem_cons.1 hj with e|e
      . subst e;exact absurd (hg x y gx gy) hd
      . exact ⟨j,e,hd⟩
    have h1:=key (fun x=>b x f) (fun x y hx hy=>by rw [hx,hy])
    have h2:=key (fun x=>!b x f) (fun x y hx hy=>by
      have hx':b x f=false:=by simpa using hx
      have hy':b y f=false:=by simpa using hy
      rw [hx',hy'])
    have:=zpw (fun x=>b x f) L;rw [fq,qt];omega
structure ym7 (F:List Nat) (L:List Pat):Prop where
  right:∀ r,r∈L->zag r=true
  mask:∀ r,r∈L->∀ j,j<160->hbit r.mask j=true->j∈F
  apart:L.Pairwise fun r s=>∀ h,¬ (zax r h=true/\zax s h=true)
theorem ym7.few {F:List Nat} {L:List Pat} (h:ym7 F L) (hF:F.length<=12):L.length<=4096:=by
  refine jj (z08 (fun r j=>hbit r.bits j) F L ?_) (ks (n:=2) (by decide) hF);refine h.apart.imp_of_mem ?_;intro r s hr hs hd;refine js fun hn=>hd r.bits ⟨za1.2 fun i _ _=>rfl,za1.2 fun i hi hm=>?_⟩;refine js fun hne=>hn ⟨i,h.mask s hs i hi hm,fun e=>hne e.symm⟩
def bef (t:List Rule) (i:Nat):List Pat:=(t.take i).map fun r=>r.mat
theorem znr {t:List Rule} {i:Nat} (hi:i<=t.length):(bef t i).length=i:=by unfold bef;rw [fc,gq];omega
theorem zyk {t:List Rule} {i:Nat} (hi:i<t.length):bef t (i+1)=bef t i++[t[i].mat]:=by
  unfold bef;rw [oe,fb hi,n4,List.map_append];rfl
theorem zyv {k:Nat} (t:List Rule) (n:Nat) (hn:n<=t.length) (ht:t.length<=5000) (hk:big<=k):zc6 k t (n:Int)=some (bef t n):=by
  have key:∀ m j,j<=n->n - j<m->za8 k t (n:Int) m (j:Int) (bef t j++fl (n - j) (⟨zA 10,zA 10⟩:Pat))=some (bef t n):=by
    intro m
    induction m with
    |zero=>intro j h1 h2;omega
    |succ m ih =>
      intro j h1 h2;rw [za8];have hl:=znr (t:=t) (i:=j) (by omega);by_cases c:j<n
      . have ct:j<t.length:=by omega
        rw [zAc (by omega),zAc ⟨by omega,by omega⟩,zAc ⟨by omega,by omega⟩,zAc (by rw [fi,kh,hl];omega),zg3 ct,zcc j (by omega)];have:=ih (j+1) (by omega) (by omega);rw [zyk ct] at this;rw [show ((j:Int)).toNat=j by omega,List.set_append_right _ _ (by omega),hl,ph,show n - j=(n - (j+1))+1 by omega,io,kb];rw [fy] at this;exact this
      . obtain rfl:j=n:=by omega
        rw [zAd (by omega),ph,List.replicate_zero,gn]
  have:=key k 0 (ik _) (by simp only [big] at hk;omega);unfold zc6;rw [zAc ⟨by omega,by omega⟩];rw [show ((0:Nat):Int)=0 from rfl,show bef t 0=[] from rfl,ft,Nat.sub_zero] at this;rw [show ((n:Int)).toNat=n by omega,this,em,zAc (znr hn)]
theorem z7m {k:Nat} (t:List Rule) (n:Nat) (hn:n<=t.length) (ht:t.length<=5000) (hk:big<=k):zhb k t (n:Int)=some (bef t n):=by
  have key:∀ m j,j<=n->n - j<m->zdp k t (n:Int) m (j:Int) (bef t j) (bef t j).length=some (bef t n,(bef t n).length):=by
    intro m
    induction m with
    |zero=>intro j h1 h2;omega
    |succ m ih =>
      intro j h1 h2;rw [zdp];by_cases c:j<n
      . have ct:j<t.length:=by omega
        have hl:=znr (t:=t) (i:=j) (by omega);rw [zAc (by omega),zAc ⟨by omega,by omega⟩,zAc (by omega),zg3 ct,zcc j (by omega)];have:=ih (j+1) (by omega) (by omega);rw [zyk ct,fi,i4] at this;exact this
      . obtain rfl:j=n:=by omega
        rw [zAd (by omega)]
  have:=key k 0 (ik _) (by simp only [big] at hk;omega);unfold zhb;rw [show ((0:Nat):Int)=0 from rfl,show bef t 0=[] from rfl,show (([]:List Pat).length)=0 from rfl] at this;rw [this,em,zAc rfl]
structure Lit (t:List Rule) (F:List Nat):Prop where
  len:t.length<=1000
  right:∀ r,r∈t->zag r.mat=true
  few:F.length<=12
  mask:∀ r,r∈t->∀ j,j<160->hbit r.mat.mask j=true->j∈F
theorem z2x {t:List Rule} {i:Nat} {q:Pat} (h:q∈bef t i):∃ r,r∈t/\r.mat=q:=by
  unfold bef at h;obtain ⟨r,hr,rfl⟩:=i6.1 h;exact ⟨r,List.mem_of_mem_take hr,rfl⟩
theorem zzh {k:Nat} (l:List Pat) (hl:l.length<=1000) (hk:big<=k):zgq k l=some (l.all zag):=by
  unfold zgq
  rw [zom (L:=zb7 k l) l false zag (by simp only [big];omega) (fun m j h=>by
    rw [zb7,zAc (zbg h),zAc ⟨by omega,zbg h⟩,zg3 h,zsd _ (by simp only [big] at hk;omega),em]) (fun m=>by rw [zb7,zAd (by omega)]) (by simp only [big] at hk;omega),em]
  cases l.all zag<;>rfl
def zpu (x:Ar 10) (i:Nat):Nat:=((ju i).filter fun j=>!hbit x j).length
theorem z78 (x:Ar 10) (i:Nat):zpu x (i+1)+(hbit x i).toNat=zpu x i+1:=by
  unfold zpu;rw [List.range_succ,List.filter_append,fi];cases h:hbit x i<;>simp [List.filter,h]
theorem ye9 (x:Ar 10) (i:Nat):zpu x i<=i:=by
  unfold zpu;exact jj (od _ _) (by rw [List.length_range];exact fd _)
theorem yd5 {k:Nat} {p:Pat} (hp:zac p.mask=true) (hk:160<k):zlj k p=some ((zpu p.mask 160:Nat):Int):=by
  have key:∀ m i,i<=160->160 - i<m->zd9 k p m ((zpu p.mask i:Nat):Int) (i:Int)=some ((zpu p.mask 160:Nat):Int):=by
    intro m
    induction m with
    |zero=>intro i h1 h2;omega
    |succ m ih =>
      intro i h1 h2;rw [zd9];by_cases c:i<160
      . have h3:=z78 p.mask i;have h4:=ye9 p.mask i;rw [zAc (yl1 c),zrl hp c (by omega),em,zcc i (by omega),zcc _ (by omega)]
        have e:ej.wrap (((zpu p.mask i+1:Nat):Int) - ((hbit p.mask i).toNat:Int))=((zpu p.mask (i+1):Nat):Int):=by
          have:(hbit p.mask i).toNat<=1:=by cases hbit p.mask i<;>decide
          rw [wr64 (by omega)];omega
        rw [e];exact ih (i+1) (by omega) (by omega)
      . obtain rfl:i=160:=by omega
        rw [zAd (by decide)]
  have:=key k 0 (by omega) (by omega);unfold zlj;change zd9 k p k 0 0=_ at this;rw [this];rfl
theorem ydk:zac (zA 10)=true:=by decide
theorem yk5 (j:Nat):hbit (zA 10) j=false:=by
  have e:∀ i:Nat,hw (zA 10) i=0:=fun i=>by
    show ((fl 10 (0:Int)).getD i default).toNat=0;rw [fe,List.getElem?_replicate];by_cases h:i<10
    . rw [zAc h];rfl
    . rw [zAd h];rfl
  unfold hbit;rw [e,nr]
theorem yah {k:Nat} {l:List Pat} (hl:∀ q,q∈l->zag q=true) (hlen:l.length<=1000) (hk:big<=k):∃ F:List Nat,zj2 k l=some ((F.length:Nat):Int)/\∀ q,q∈l->∀ j,j<160->hbit q.mask j=true->j∈F:=by
  have hk160:160<k:=gr (by decide) hk
  have key:∀ m i x,i<=l.length->l.length - i<m->zac x=true->(∀ j,j<160->hbit x j=(l.take i).any fun q=>hbit q.mask j)->∃ y,zen k l m (i:Int) x=some y/\zac y=true/\∀ j,j<160->hbit y j=l.any fun q=>hbit q.mask j:=by
    intro m
    induction m with
    |zero=>intro i x h1 h2;omega
    |succ m ih =>
      intro i x h1 h2 hx hb;rw [zen];by_cases c:i<l.length
      . have hq:=(zam.1 (hl _ (lj c))).1;have hmod:zag ⟨l[i].mask,l[i].mask⟩=true:=zam.2 ⟨hq,hq,fun j _ h=>h⟩;obtain ⟨y,e,hA⟩:=yai (k:=k) hmod hx hk160;rw [zAc (zbg c),zAc ⟨by omega,zbg c⟩,zg3 c,e,em,zcc i (by omega)];refine ih (i+1) y (by omega) (by omega) hA.1 fun j hj=>?_;rw [hA.2 j hj,oe,fb c,n4,List.any_append,hb j hj];show (if hbit l[i].mask j=true then hbit l[i].mask j else _)=_
        cases hm:hbit l[i].mask j with
        |true=>simp [hm]
        |false=>simp [hm]
      . obtain rfl:i=l.length:=by omega
        rw [zAd (by omega)];rw [me] at hb;exact ⟨x,rfl,hx,hb⟩
  obtain ⟨y,e,hy,hb⟩:=key k 0 (zA 10) (ik _) (by simp only [big] at hk;omega) ydk (fun j hj=>by rw [yk5];rfl);refine ⟨(ju 160).filter (hbit y),?_,fun q hq j hj hm=>m9.2 ⟨jv.2 hj,by rw [hb j hj,List.any_eq_true];exact ⟨q,hq,hm⟩⟩⟩;unfold zj2;rw [show ((0:Nat):Int)=0 from rfl] at e;rw [e,em,yd5 (p:=⟨y,zA 10⟩) hy hk160,em];have h1:=zpw (hbit y) (ju 160);rw [List.length_range] at h1;have h2:zpu y 160=((ju 160).filter fun x=>!hbit y x).length:=rfl;rw [show zpu (⟨y,zA 10⟩:Pat).mask 160=zpu y 160 from rfl,wr64 (by omega)];congr 1;omega
theorem yjl {k:Nat} {l:List Pat} (hlen:l.length<=1000) (hk:big<=k):∃ b,zn4 k l 12=some b/\(b=true->(∀ q,q∈l->zag q=true)/\∃ F:List Nat,F.length<=12/\∀ q,q∈l->∀ j,j<160->hbit q.mask j=true->j∈F):=by
  unfold zn4;rw [zzh l hlen hk,em]
  cases hr:l.all zag with
  |false=>exact ⟨_,by rw [zAd (by simp)],fun h=>by cases h⟩
  |true =>
    have hl:=fun q hq=>(gg.1 hr) q hq;rw [zAc rfl];by_cases c:(l.length:Int)<=12
    . rw [zAc c];obtain ⟨F,e,hF⟩:=yah hl hlen hk;rw [e,em];refine ⟨_,rfl,fun h=>⟨hl,F,?_,hF⟩⟩;have:=zAe h;omega
    . rw [zAd c];exact ⟨_,rfl,fun h=>by cases h⟩
theorem yaf {k:Nat} {t:List Rule} (ht:t.length<=1000) (hk:big<=k):∃ b,zjx k t=some b/\(b=true->∃ F,Lit t F):=by
  unfold zjx;have hbl:=znr (t:=t) (i:=t.length) (fd _);obtain ⟨b,e,h⟩:=yjl (k:=k) (l:=bef t t.length) (by omega) hk;rw [z7m t t.length (fd _) (by omega) hk,em,e,em];refine ⟨b,rfl,fun hb=>?_⟩;obtain ⟨h1,F,h2,h3⟩:=h hb;have hm:∀ r,r∈t->r.mat∈bef t t.length:=fun r hr=>by unfold bef;rw [me];exact i6.2 ⟨r,hr,rfl⟩
  exact ⟨F,ht,fun r hr=>h1 _ (hm r hr),h2,fun r hr=>h3 _ (hm r hr)⟩
def Tri (D:Nat->Prop) (N n:Nat):Prop:=n<=N/\((n=0/\∀ i,i<N->¬ D i)\/(n=1/\∃ i,i<N/\D i/\∀ j,j<N->D j->j=i)\/(2<=n/\∃ i j,i<N/\j<N/\i≠j/\D i/\D j))
theorem Tri.zero {D:Nat->Prop}:Tri D 0 0:=⟨fd _,.inl ⟨rfl,fun i h=>absurd h (lh _)⟩⟩
theorem Tri.step {D:Nat->Prop} {N n c w:Nat} (h:Tri D N n) (hw:c<=w)
    (hc:(c=0/\∀ i,N<=i->i<N+w->¬ D i)\/(c=1/\∃ i,N<=i/\i<N+w/\D i/\∀ j,N<=j->j<N+w->D j->j=i)\/(2<=c/\∃ i j,i<N+w/\j<N+w/\i≠j/\D i/\D j)):Tri D (N+w) (n+c):=by
  obtain ⟨h0,h⟩:=h;refine ⟨by omega,?_⟩;rcases hc with ⟨rfl,c1⟩|⟨rfl,i,c1,c2,c3,c4⟩|⟨c0,i,j,c1⟩
  . rcases h with ⟨rfl,h1⟩|⟨rfl,i,h1,h2,h3⟩|⟨h1,i,j,h2,h3,h4⟩
    . exact .inl ⟨rfl,fun i hi=>by
        by_cases e:i<N
        . exact h1 i e
        . exact c1 i (by omega) hi⟩
    . exact .inr (.inl ⟨rfl,i,by omega,h2,fun j hj hd=>by
        by_cases e:j<N
        . exact h3 j e hd
        . exact absurd hd (c1 j (by omega) hj)⟩)
    . exact .inr (.inr ⟨by omega,i,j,by omega,by omega,h4⟩)
  . rcases h with ⟨rfl,h1⟩|⟨rfl,i',h1,h2,h3⟩|⟨h1,i',j',h2,h3,h4⟩
    . exact .inr (.inl ⟨rfl,i,c2,c3,fun j hj hd=>by
        by_cases e:j<N
        . exact absurd hd (h1 j e)
        . exact c4 j (by omega) hj hd⟩)
    . exact .inr (.inr ⟨by omega,i',i,by omega,c2,by omega,h2,c3⟩)
    . exact .inr (.inr ⟨by omega,i',j',by omega,by omega,h4⟩)
  . exact .inr (.inr ⟨by omega,i,j,c1⟩)
def Dp (p q:Pat) (i:Nat):Prop:=hbit p.bits i≠hbit q.bits i
def dW (p q:Pat) (w:Nat):Nat:=hw p.bits w ^^^ hw q.bits w
theorem zwv {p q:Pat} {i:Nat}:Dp p q i↔(dW p q (i / 16)).testBit (15 - i % 16)=true:=by
  unfold Dp dW hbit;rw [Nat.testBit_xor];cases (hw p.bits (i / 16)).testBit (15 - i % 16)<;>cases (hw q.bits (i / 16)).testBit (15 - i % 16)<;>simp
theorem ydl {p q:Pat} (w:Nat):(cntB 16 (dW p q w)=0/\∀ i,16*w<=i->i<16*w+16->¬ Dp p q i)\/(cntB 16 (dW p q w)=1/\∃ i,16*w<=i/\i<16*w+16/\Dp p q i/\∀ j,16*w<=j->j<16*w+16->Dp p q j->j=i)\/(2<=cntB 16 (dW p q w)/\∃ i j,i<16*w+16/\j<16*w+16/\i≠j/\Dp p q i/\Dp p q j):=by
  have hpos:∀ t,t<16->(16*w+(15 - t)) / 16=w/\15 - (16*w+(15 - t)) % 16=t:=fun t ht=>by omega
  rcases (z1a (dW p q w)).2 with ⟨h1,h2⟩|⟨h1,t,h2,h3,h4⟩|⟨h1,s,t,h2,h3,h4,h5,h6⟩
  . refine .inl ⟨h1,fun i a b hd=>?_⟩;rw [zwv,show i / 16=w by omega,h2 _ (by omega)] at hd;cases hd
  . refine .inr (.inl ⟨h1,16*w+(15 - t),by omega,by omega,?_,fun j a b hd=>?_⟩)
    . rw [zwv,(hpos t h2).1,(hpos t h2).2];exact h3
    . rw [zwv,show j / 16=w by omega] at hd;have:=h4 _ (by omega) hd;omega
  . refine .inr (.inr ⟨h1,16*w+(15 - s),16*w+(15 - t),by omega,by omega,by omega,?_,?_⟩)
    . rw [zwv,(hpos s h2).1,(hpos s h2).2];exact h5
    . rw [zwv,(hpos t h3).1,(hpos t h3).2];exact h6
theorem yka {p q:Pat} (hp:zac p.bits=true) (hq:zac q.bits=true) {w:Nat} (h:w<10):dW p q w<65536 :=
  rn (n:=16) (zbf hp h).2 (zbf hq h).2
structure zk6 (p q r:Pat) (i:Nat):Prop where
  eq:p.mask=q.mask
  lt:i<160
  ne:Dp p q i
  one:∀ j,j<160->j≠i->hbit p.bits j=hbit q.bits j
  rm:zac r.mask=true
  rb:zac r.bits=true
  mask:∀ j,j<160->hbit r.mask j=(hbit p.mask j && !decide (j=i))
  bits:∀ j,j<160->hbit r.bits j=(hbit p.bits j && !decide (j=i))
def zyr (p q:Pat) (r:Pat×Bool):Prop:=(r.2=true/\∃ i,zk6 p q r.1 i)\/(r=(⟨zA 10,zA 10⟩,false)/\¬ ∃ s i,zk6 p q s i)
theorem zk6.uniq {p q r s:Pat} {i j:Nat} (h:zk6 p q r i) (k:zk6 p q s j):r=s:=by
  have e:i=j:=by
    by_cases c:i=j
    . exact c
    . exact absurd (k.one i h.lt c) h.ne
  subst e;have a:=zow h.rm k.rm fun j hj=>by rw [h.mask j hj,k.mask j hj]
  have b:=zow h.rb k.rb fun j hj=>by rw [h.bits j hj,k.bits j hj]
  cases r;cases s;simp only at a b;rw [a,b]
theorem zyr.uniq {p q:Pat} {r s:Pat×Bool} (h:zyr p q r) (k:zyr p q s):r=s:=by
  rcases h with ⟨h1,i,h2⟩|⟨h1,h2⟩
  . rcases k with ⟨k1,j,k2⟩|⟨k1,k2⟩
    . have:=h2.uniq k2;cases r;cases s;simp only at h1 k1 this;rw [h1,k1,this]
    . exact absurd ⟨_,_,h2⟩ k2
  . rcases k with ⟨k1,j,k2⟩|⟨k1,k2⟩
    . exact absurd ⟨_,_,k2⟩ h2
    . rw [h1,k1]
theorem zk6.right {p q r:Pat} {i:Nat} (h:zk6 p q r i) (hp:zag p=true):zag r=true:=by
  refine zam.2 ⟨h.rm,h.rb,fun j hj hb=>?_⟩;rw [h.bits j hj] at hb;rw [h.mask j hj];simp only [ep] at hb ⊢;exact ⟨(zam.1 hp).2.2 j hj hb.1,hb.2⟩
theorem yj1 {k:Nat} {p q:Pat} (hp:zag p=true) (hq:zag q=true):∀ m j n (x x2:Ar 10),j<=10->10 - j<m->Tri (Dp p q) (16*j) n ->
    (∀ w:Nat,w<10->gx x.l (w:Int)=(if w<j then ((hw p.mask w - (hw p.mask w &&& dW p q w):Nat):Int) else (hw p.mask w:Int))) ->
    (∀ w:Nat,w<10->gx x2.l (w:Int)=(if w<j then ((hw p.bits w - (hw p.bits w &&& dW p q w):Nat):Int) else (hw p.bits w:Int))) ->
    ∃ n' x' x2',zep k q m (n:Int) (j:Int) x x2=some (((n':Nat):Int),x',x2')/\Tri (Dp p q) 160 n' /\
      (∀ w:Nat,w<10->gx x'.l (w:Int)=((hw p.mask w - (hw p.mask w &&& dW p q w):Nat):Int))/\(∀ w:Nat,w<10->gx x2'.l (w:Int)=((hw p.bits w - (hw p.bits w &&& dW p q w):Nat):Int)):=by
  obtain ⟨pm,pb,_⟩:=zam.1 hp;obtain ⟨qm,qb,_⟩:=zam.1 hq;intro m
  induction m with
  |zero=>intro j n x x2 h1 h2;omega
  |succ m ih =>
    intro j n x x2 h1 h2 hT hx hx2;rw [zep];by_cases c:j<10
    . obtain ⟨b1,b2⟩:=zbf pb c;obtain ⟨m1,m2⟩:=zbf pm c;obtain ⟨q1,q2⟩:=zbf qb c;have e1:=hx j c;have e2:=hx2 j c;rw [zAd (Nat.lt_irrefl _)] at e1 e2;have hd:=yka pb qb c;have hn:=hT.1;rw [zAc (by omega),zAc ⟨by omega,by omega⟩,e1,e2,q1,z5u (by omega) (by omega),show hw p.bits j ^^^ hw q.bits j=dW p q j from rfl,wru (by omega),zuh hd,em,zs7 (by omega) (by omega),zs7 (by omega) (by omega),zcc j (by omega)];have hc:=(z1a (dW p q j)).1;have ew:ej.wrap ((n:Int)+((cntB 16 (dW p q j):Nat):Int))=((n+cntB 16 (dW p q j):Nat):Int):=by rw [wr64 (by omega)];omega
      rw [ew];refine ih (j+1) _ _ _ (by omega) (by omega) ?_ ?_ ?_
      . have:=hT.step (w:=16) (c:=cntB 16 (dW p q j)) hc (ydl j);rw [show 16*(j+1)=16*j+16 by omega];exact this
      . intro w hw';by_cases ew:j=w
        . subst ew;rw [zfi _ c,zAc (by omega)]
        . rw [zhx _ hw' ew,hx w hw'];by_cases cw:w<j
          . rw [zAc cw,zAc (by omega)]
          . rw [zAd cw,zAd (by omega)]
      . intro w hw';by_cases ew:j=w
        . subst ew;rw [zfi _ c,zAc (by omega)]
        . rw [zhx _ hw' ew,hx2 w hw'];by_cases cw:w<j
          . rw [zAc cw,zAc (by omega)]
          . rw [zAd cw,zAd (by omega)]
    . obtain rfl:j=10:=by omega
      rw [zAd (by decide)];exact ⟨n,x,x2,rfl,hT,fun w hw'=>by rw [hx w hw',zAc hw'],fun w hw'=>by rw [hx2 w hw',zAc hw']⟩
theorem z1b {a y:Ar 10} {d:Nat->Nat} (ha:zac a=true) (hd:∀ w,w<10->d w<65536) (h:∀ w:Nat,w<10->gx y.l (w:Int)=((hw a w - (hw a w &&& d w):Nat):Int)):zac y=true/\∀ j,j<160->hbit y j=(hbit a j && !(d (j / 16)).testBit (15 - j % 16)):=by
  refine ⟨zhu fun j hj=>⟨_,h j hj,?_⟩,fun j hj=>?_⟩
  . have:=(zbf ha hj).2;omega
  . have e:hw y (j / 16)=hw a (j / 16) - (hw a (j / 16) &&& d (j / 16)):=by
      unfold hw;have:=h (j / 16) (by omega);rw [this];rfl
    unfold hbit;rw [e];have h1:=(zbf ha (show j / 16<10 by omega)).2;have h2:=hd (j / 16) (by omega);exact zrq (by omega) (by omega) _
theorem z1o {k:Nat} {p q:Pat} (hp:zag p=true) (hq:zag q=true) (hk:10<k):∃ r,zhh k p q=some r/\zyr p q r:=by
  obtain ⟨pm,pb,_⟩:=zam.1 hp;obtain ⟨qm,qb,_⟩:=zam.1 hq;unfold zhh;by_cases he:p.mask=q.mask
  . rw [zAc he];obtain ⟨n',x',x2',e,hT,h1,h2⟩:=yj1 (k:=k) hp hq k 0 0 p.mask p.bits (by omega) (by omega) Tri.zero (fun w hw'=>by rw [zAd (by omega)];exact (zbf pm hw').1) (fun w hw'=>by rw [zAd (by omega)];exact (zbf pb hw').1);rw [show ((0:Nat):Int)=0 from rfl] at e;rw [e,em];rcases hT.2 with ⟨hn,hT⟩|⟨hn,i,t1,t2,t3⟩|⟨hn,i,j,t1,t2,t3,t4,t5⟩
    . rw [zAc (by simp only;omega)];exact ⟨_,rfl,.inr ⟨rfl,fun ⟨s,i,hj⟩=>hT i hj.lt hj.ne⟩⟩
    . rw [zAd (by simp only;omega)];obtain ⟨r1,r2⟩:=z1b pm (fun w hw'=>yka pb qb hw') h1;obtain ⟨r3,r4⟩:=z1b pb (fun w hw'=>yka pb qb hw') h2
      have hbit1:∀ j,j<160->(dW p q (j / 16)).testBit (15 - j % 16)=decide (j=i):=fun j hj=>by
        rw [ld,<- zwv,decide_eq_true_eq];exact ⟨t3 j hj,fun e=>by rw [e];exact t2⟩
      refine ⟨_,rfl,.inl ⟨rfl,i,he,t1,t2,fun j hj hne=>?_,r1,r3,fun j hj=>?_,fun j hj=>?_⟩⟩
      . by_cases hd:hbit p.bits j=hbit q.bits j
        . exact hd
        . exact absurd (t3 j hj hd) hne
      . rw [r2 j hj,hbit1 j hj]
      . rw [r4 j hj,hbit1 j hj]
    . rw [zAc (by simp only;omega)];refine ⟨_,rfl,.inr ⟨rfl,fun ⟨s,a,hj⟩=>?_⟩⟩;by_cases c:i=a
      . exact t5 (hj.one j t2 (by omega))
      . exact t4 (hj.one i t1 c)
  . rw [zAd he];exact ⟨_,rfl,.inr ⟨rfl,fun ⟨s,i,hj⟩=>he hj.eq⟩⟩
def zn7 (k:Nat) (n:Net) (t:List Rule) (most:Int):Option Bool:=(((if 20<(n.nodes.length:Int) then some true else (if 60<(n.links.length:Int) then some true else some (decide (20<(n.edges.length:Int))))):Option Bool).bind fun s_=>(if s_=true then some false else ((zn1 k t most).bind fun bh=>(if bh=true then ((zj0 k n).bind fun av=>(if av≠0 then some false else ((zjy k n 1000 t).bind fun be=>((zjx k t).bind fun d7=>(if be.2=0 then some d7 else some false))))) else some false))))
theorem z2a (ax:Axs) (hx:NoAx ax) (k:Nat) (n:Net) (t:List Rule) (most:Int) (v:Bool) (H:zn7 k n t most=some v):Pure Try.prog (EE ax) [] 8 [eNet n,zah t,.int .i64 most] (.bool v):=by
 rw [zn7] at H;refine en [.tmp 6] 50 [0,1,2] (hx.no _ (by decide)) (fn8 ax) ?_;intro h hh;apply ek;refine rk [1,2,3] [] hh fun h hh=>?_;obtain ⟨s_,H1,H⟩:=zae H;repeat apply ek
 refine cu [1,2,3,27] 1 (fun h bs=>(h 1=zah t/\h 2=.int .i64 most/\h 3=.ptr 0 0 3/\h 27=.bool s_)/\bs=[.cells true 3 [zdt n.nodes,zdu n.links,zdv n.edges]]) ?_ ?_
 .skip;rcases isp H1 with ⟨c1,H1⟩|⟨c1,H1⟩;rotate_left
  .skip;rcases isp H1 with ⟨c2,H1⟩|⟨c2,H1⟩;rotate_left
   .skip;refine rk [1,2,3,27] [] (f3 hh (zAb c1) (zAb c2)) fun h hh=>?_;cases H1;exact ce hh ⟨kq hh,rfl⟩
   refine rk [1,2,3,27] [] (f3 hh (zAb c1) (zAa c2)) fun h hh=>?_;cases H1;exact ce hh ⟨kq hh,rfl⟩
  refine rk [1,2,3,27] [] (f2 hh (zAa c1)) fun h hh=>?_;cases H1;exact ce hh ⟨kq hh,rfl⟩
 clear hh h;rintro h bs ⟨hh,rfl⟩;rcases isb H with ⟨c3,H⟩|⟨c3,H⟩;rotate_left
 .skip;refine cf (f2 hh c3) ?_;refine sk ?_;obtain ⟨bh,e4,H⟩:=zae H;apply ek;refine rkp [1,3,7] [] [.bool bh] (f2 hh c3) ?_ ?_
  .exact ⟨f5 (je (z16 ax hx k t most bh e4 ) (by first|rfl|simp only [c3])),trivial⟩
  clear hh h;intro h hh;repeat apply ek
  refine rk [1,3,32] [] (f2 hh c3) fun h hh=>?_;rcases isb H with ⟨c5,H⟩|⟨c5,H⟩;rotate_left
  .skip;refine ct (f2 hh c5) ?_;apply ek;refine rk [6] [] (f3 hh c3 c5) fun h hh=>?_;cases H;exact rt hh
  refine cf (f2 hh c5) ?_;refine sk ?_;obtain ⟨av,e6,H⟩:=zae H;apply ek;refine rkp [1,3,8] [] [.int .i64 av] (f3 hh c3 c5) ?_ ?_
  .exact ⟨f5 (je (zxd ax hx k n av e6 ) (by first|rfl|simp only [c3,c5])),trivial⟩
  clear hh h;intro h hh;repeat apply ek
  refine rk [1,3,36] [] (f3 hh c3 c5) fun h hh=>?_;rcases isp H with ⟨c7,H⟩|⟨c7,H⟩;rotate_left
  .skip;refine cf (f2 hh (zAb c7)) ?_;refine sk ?_;obtain ⟨be,e8,H⟩:=zae H;apply ek;refine rkp [1,10] [] [.tup [.int .i64 be.1,.int .i64 be.2]] (f3 hh c3 c5) ?_ ?_
   .exact ⟨f5 (je (zxb ax hx k n 1000 t be e8 ) (by first|rfl|simp only [c3,c5])),trivial⟩
   clear hh h;intro h hh;obtain ⟨d7,e9,H⟩:=zae H;apply ek;refine rkp [10,11] [] [.bool d7] (f3 hh c3 c5) ?_ ?_
   .exact ⟨f5 (je (zxa ax hx k t d7 e9 ) (by first|rfl|simp only [c3,c5])),trivial⟩
   clear hh h;intro h hh;rcases isp H with ⟨c10,H⟩|⟨c10,H⟩;rotate_left
   .skip;apply ek;refine rk [6] [] (f3 hh (zAb c10) (f2 c3 c5)) fun h hh=>?_;cases H;exact rt hh
   apply ek;refine rk [6] [] (f3 hh (zAa c10) (f2 c3 c5)) fun h hh=>?_;cases H;exact rt hh
  refine ct (f2 hh (zAa c7)) ?_;apply ek;refine rk [6] [] (f3 hh c3 c5) fun h hh=>?_;cases H;exact rt hh
 refine ct (f2 hh c3) ?_;apply ek;refine rk [6] [] (f2 hh c3) fun h hh=>?_;cases H;exact rt hh
theorem yk1 {k:Nat} (hk:9223372036854775808<=k) (n:Net) (h1:n.nodes.length<=20) (h2:n.links.length<=60) (h3:n.edges.length<=20) (hh:Held n):∃ r,zj0 k n=some r:=by
  unfold zj0;rw [zAd (by omega),zAd (by omega),em,zAd (by simp only [decide_eq_true_eq];omega)];obtain ⟨l1,a1,a2,a3⟩:=yfr k n (by omega) hh.nodes k 0 [] (by omega) (by omega) rfl (fun s hs=>by simp at hs);obtain ⟨l2,b1,b2,b3⟩:=yfq k n (by omega) hh.edges k 0 [] (by omega) (by omega) rfl (fun s hs=>by simp at hs);obtain ⟨r1,c1⟩:=zz1 hk l1 (by omega) a3;obtain ⟨r2,c2⟩:=zz1 hk l2 (by omega) b3;obtain ⟨d1,e1,g1⟩:=ym6 k n (by omega) k 0 (by omega) (by omega);obtain ⟨d2,e2,g2⟩:=ym5 k n (by omega) k 0 (by omega) (by omega) (fun j hj=>by omega);obtain ⟨d3,e3,g3⟩:=ym4 k n (by omega) k 0 (by omega) (by omega);rw [show ((0:Nat):Int)=0 from rfl] at a1 b1 e1 e2 e3
  have hN:zjz k n=some (l1,l2):=by
    unfold zjz;rw [a1,b1];simp
  rw [hN,em];simp only [c1,c2,em,e1,e2,e3]
  cases r1 with
  |false=>exact ⟨4,rfl⟩
  |true =>
    cases r2 with
    |false=>exact ⟨4,rfl⟩
    |true =>
      rcases g1 with rfl|rfl
      . rcases g2 with ⟨rfl,hall⟩|rfl
        . rcases g3 with rfl|rfl
          . exact ⟨0,rfl⟩
          . exact ⟨1,rfl⟩
        . exact ⟨1,rfl⟩
      . exact ⟨1,rfl⟩
theorem yfa {t:List Rule} {most:Int} (h:fewT t most=true):(t.length:Int)<=most:=by
  unfold fewT at h;rw [ep] at h;exact zAe h.2
theorem yji {k:Nat} (hk:big<=k) (n:Net) (hn:Held n) (t:List Rule) (ht:zoj t) (most:Int) (hm:most<=1000) :
    ∃ b,zn7 k n t most=some b/\(b=true->(t.length:Int)<=most/\(zpb n 1000 t).2=0/\∃ F,Lit t F):=by
  unfold zn7;by_cases q1:20<(n.nodes.length:Int)
  . rw [zAc q1,em,zAc rfl];exact ⟨_,rfl,fun h=>by cases h⟩
  by_cases q2:60<(n.links.length:Int)
  . rw [zAd q1,zAc q2,em,zAc rfl];exact ⟨_,rfl,fun h=>by cases h⟩
  by_cases q3:20<(n.edges.length:Int)
  . rw [zAd q1,zAd q2,em,zAc (zAa q3)];exact ⟨_,rfl,fun h=>by cases h⟩
  rw [zAd q1,zAd q2,em,zAd (by simpa using q3),yjk t most ht hk,em]
  cases hf:fewT t most with
  |false=>rw [zAd (by simp)];exact ⟨_,rfl,fun h=>by cases h⟩
  |true =>
    have hlen:=yfa hf;obtain ⟨r,e⟩:=yk1 hk n (by omega) (by omega) (by omega) hn;rw [zAc rfl,e,em];by_cases q4:r=0
    . obtain ⟨b,eb,hb⟩:=yaf (k:=k) (t:=t) (by omega) hk;rw [zAd (fun h=>h q4),yag n 1000 t ht hk,em,eb,em];by_cases q5:(zpb n 1000 t).2=0
      . rw [zAc q5];exact ⟨b,rfl,fun h=>⟨hlen,q5,hb h⟩⟩
      . rw [zAd q5];exact ⟨_,rfl,fun h=>by cases h⟩
    . rw [zAc q4];exact ⟨_,rfl,fun h=>by cases h⟩
def hR (k:Nat) (t:List Rule) (i:Nat):Ar 10×Bool:=(zyz k t (i:Int)).getD (zA 10,false)
def keepI (f:Nat->Bool) (i:Nat):List Int:=((ju i).filter f).map fun j:Nat=>(j:Int)
def gone (k:Nat) (t:List Rule):List Int:=keepI (fun j=>!(hR k t j).2) t.length
theorem zp3 {k:Nat} {a b:Ar 10} (ha:zac a=true) (hb:zac b=true) (hk:10<k):∃ c,zdk k a b=some c/\Cmp a b c:=by
  have key:∀ m j,j<=10->10 - j<m->(∀ i,i<j->hw a i=hw b i)->∃ o,za9 k a.l b.l m (j:Int)=some o/\((∃ c,o=.inl c/\Cmp a b c)\/(o=.inr ()/\a=b)):=by
    intro m
    induction m with
    |zero=>intro j h1 h2;omega
    |succ m ih =>
      intro j h1 h2 h3;rw [za9,a.h,b.h];by_cases c:j<10
      . obtain ⟨a1,a2⟩:=zbf ha c;obtain ⟨b1,b2⟩:=zbf hb c;rw [zAc (by omega),zAc ⟨by omega,by omega⟩,zAd (by omega),zAc ⟨by omega,by omega⟩,a1,b1,zcc j (by omega)]
        have ec:zeu k (hw a j:Int) (hw b j:Int)=some (if hw a j<hw b j then -1 else if hw b j<hw a j then 1 else 0):=by
          unfold zeu zf2;simp only [em,ne_eq,not_true_eq_false,decide_false,o8,if_false];by_cases c1:hw a j<hw b j
          . rw [zAc (zbg c1),zAc c1]
          . rw [zAd (by omega),zAd c1];by_cases c2:hw b j<hw a j
            . rw [zAc (zbg c2),zAc c2]
            . rw [zAd (by omega),zAd c2]
        rw [ec,em];by_cases c1:hw a j<hw b j
        . rw [zAc c1,zAc (by decide)];exact ⟨_,rfl,.inl ⟨_,rfl,.inl ⟨rfl,zz9 ha hb c h3 c1⟩⟩⟩
        . rw [zAd c1];by_cases c2:hw b j<hw a j
          . rw [zAc c2,zAc (by decide)];exact ⟨_,rfl,.inl ⟨_,rfl,.inr (.inl ⟨rfl,zz9 hb ha c (fun i hi=>(h3 i hi).symm) c2⟩)⟩⟩
          . rw [zAd c2,zAd (by decide)]
            exact ih (j+1) (by omega) (by omega) fun i hi=>by
              by_cases e:i<j
              . exact h3 i e
              . obtain rfl:i=j:=by omega
                omega
      . obtain rfl:j=10:=by omega
        rw [zAd (by decide)];refine ⟨_,rfl,.inr ⟨rfl,zow ha hb fun i hi=>?_⟩⟩;unfold hbit;rw [h3 (i / 16) (by omega)]
  obtain ⟨o,e,h⟩:=key k 0 (by omega) (by omega) (fun i hi=>by omega);unfold zdk zee;rw [show ((0:Nat):Int)=0 from rfl] at e;rw [e,em];rcases h with ⟨c,rfl,h⟩|⟨rfl,h⟩
  . exact ⟨c,rfl,h⟩
  . rw [Sum.elim_inr,a.h,b.h,zAd (by decide)];exact ⟨0,rfl,.inr (.inr ⟨rfl,h⟩)⟩
theorem z62 {k:Nat} {p q:Pat} (hp:zag p=true) (hq:zag q=true) (hk:10<k):∃ r,zht k p q=some r/\((zd3 p q=false/\r.2=false)\/(zd3 p q=true/\r.2=true/\Meet p q r.1)):=by
  obtain ⟨pm,pb,pw⟩:=zam.1 hp;obtain ⟨qm,qb,qw⟩:=zam.1 hq
  have key:∀ (m i:Nat) (x y:Ar 10),i<=10->10 - i<m->(∀ s:Nat,s<10->gx x.l (s:Int)=((if s<i then hw p.mask s ||| hw q.mask s else hw p.mask s:Nat):Int)/\gx y.l (s:Int)=((if s<i then hw p.bits s ||| hw q.bits s else hw p.bits s:Nat):Int))->∃ x' y',zeb k q m (i:Int) x y=some (x',y')/\∀ s:Nat,s<10->gx x'.l (s:Int)=((hw p.mask s ||| hw q.mask s:Nat):Int)/\gx y'.l (s:Int)=((hw p.bits s ||| hw q.bits s:Nat):Int):=by
    intro m
    induction m with
    |zero=>intro i x y h1 h2;omega
    |succ m ih =>
      intro i x y h1 h2 hI;rw [zeb];by_cases c:i<10
      . obtain ⟨a1,a2⟩:=hI i c;rw [zAd (Nat.lt_irrefl i)] at a1 a2;obtain ⟨b1,b2⟩:=zbf qm c;obtain ⟨c1,c2⟩:=zbf qb c;have d1:=(zbf pm c).2;have d2:=(zbf pb c).2;rw [zAc (lt10 c),zAc ⟨by omega,lt10 c⟩,a1,a2,b1,c1,z26 (by omega) (by omega),z26 (by omega) (by omega),zcc i (by omega)];refine ih (i+1) _ _ (by omega) (by omega) fun s hs=>?_;by_cases e:s=i
        . subst e;rw [zfi _ c,zfi _ c,zAc (Nat.lt_succ_self s),zAc (Nat.lt_succ_self s)];exact ⟨rfl,rfl⟩
        . rw [zhx _ hs (fun h=>e h.symm),zhx _ hs (fun h=>e h.symm)];obtain ⟨h3,h4⟩:=hI s hs;rw [h3,h4];by_cases f:s<i
          . rw [zAc f,zAc f,zAc (by omega),zAc (by omega)];exact ⟨rfl,rfl⟩
          . rw [zAd f,zAd f,zAd (by omega),zAd (by omega)];exact ⟨rfl,rfl⟩
      . obtain rfl:i=10:=by omega
        rw [zAd (by decide)];refine ⟨x,y,rfl,fun s hs=>?_⟩;have:=hI s hs;rw [zAc hs,zAc hs] at this;exact this
  unfold zht;rw [zqt hp hq hk,em]
  cases ho:zd3 p q with
  |false=>exact ⟨_,by rw [zAd (by simp)],.inl ⟨rfl,rfl⟩⟩
  |true =>
    obtain ⟨x',y',e,hI⟩:=key k 0 p.mask p.bits (by omega) (by omega) fun s hs=>by
      rw [zAd (lh s),zAd (lh s)];exact ⟨(zbf pm hs).1,(zbf pb hs).1⟩
    rw [zAc rfl];change zeb k q k 0 p.mask p.bits=_ at e;rw [e,em];refine ⟨_,rfl,.inr ⟨rfl,rfl,?_⟩⟩;have lt:∀ {a b:Nat},a<65536->b<65536->a ||| b<65536:=fun {a b} ha hb=>pf (n:=16) ha hb
    have h1:zac x'=true:=zhu fun j hj=>⟨_,(hI j hj).1,lt (zbf pm hj).2 (zbf qm hj).2⟩;have h2:zac y'=true:=zhu fun j hj=>⟨_,(hI j hj).2,lt (zbf pb hj).2 (zbf qb hj).2⟩
    have b1:∀ j,j<160->hbit x' j=(hbit p.mask j || hbit q.mask j):=fun j hj=>by
      have:=(hI (j / 16) (by omega)).1;unfold hbit
      have e:hw x' (j / 16)=hw p.mask (j / 16) ||| hw q.mask (j / 16):=by
        unfold hw at this ⊢;rw [this];rfl
      rw [e,mn]
    have b2:∀ j,j<160->hbit y' j=(hbit p.bits j || hbit q.bits j):=fun j hj=>by
      have:=(hI (j / 16) (by omega)).2;unfold hbit
      have e:hw y' (j / 16)=hw p.bits (j / 16) ||| hw q.bits (j / 16):=by
        unfold hw at this ⊢;rw [this];rfl
      rw [e,mn]
    refine ⟨h1,h2,b1,fun j hj=>?_⟩;show hbit y' j=_;rw [b2 j hj]
    cases hm:hbit q.mask j with
    |true =>
      rw [zAc rfl]
      cases hpb:hbit p.bits j with
      |false=>rfl
      |true=>rw [<- zls.1 ho j hj (pw j hj hpb) hm,hpb];rfl
    |false =>
      rw [zAd (by simp)]
      cases hqb:hbit q.bits j with
      |false=>rw [Bool.or_false]
      |true=>rw [qw j hj hqb] at hm;cases hm
theorem Meet.right {p q r:Pat} (h:Meet p q r) (hp:zag p=true) (hq:zag q=true):zag r=true:=by
  obtain ⟨pm,pb,pw⟩:=zam.1 hp;obtain ⟨qm,qb,qw⟩:=zam.1 hq;refine zam.2 ⟨h.mask,h.bits,fun i hi hb=>?_⟩;rw [h.hb i hi] at hb;rw [h.hm i hi]
  cases hm:hbit q.mask i with
  |true=>exact Bool.or_true _
  |false=>rw [hm,zAd (by simp)] at hb;rw [pw i hi hb];rfl
theorem Meet.match {p q r:Pat} (h:Meet p q r) (ho:zd3 p q=true) (x:Ar 10):zax r x=true↔zax p x=true/\zax q x=true:=by
  rw [za1,za1,za1];constructor
  . intro hm;refine ⟨fun i hi h1=>?_,fun i hi h1=>?_⟩
    . have:=hm i hi (by rw [h.hm i hi,h1];rfl);rw [h.hb i hi] at this;by_cases c:hbit q.mask i=true
      . rw [zAc c] at this;rw [zls.1 ho i hi h1 c];exact this
      . rw [zAd c] at this;exact this
    . have:=hm i hi (by rw [h.hm i hi,h1];exact Bool.or_true _);rw [h.hb i hi,zAc h1] at this;exact this
  . rintro ⟨hp,hq⟩ i hi h1;rw [h.hb i hi];by_cases c:hbit q.mask i=true
    . rw [zAc c];exact hq i hi c
    . rw [zAd c];rw [h.hm i hi,Bool.or_eq_true] at h1;rcases h1 with h1|h1
      . exact hp i hi h1
      . exact absurd h1 c
theorem Meet.into {p q r:Pat} {F:List Nat} (h:Meet p q r) (hp:∀ j,j<160->hbit p.mask j=true->j∈F) (hq:∀ j,j<160->hbit q.mask j=true->j∈F):∀ j,j<160->hbit r.mask j=true->j∈F:=fun j hj hm=>by
  rw [h.hm j hj,Bool.or_eq_true] at hm;rcases hm with hm|hm
  . exact hp j hj hm
  . exact hq j hj hm
theorem ztz {k:Nat} (t:List Rule) (n:Nat) (hn:n<=t.length) (ht:t.length<=5000) (hk:big<=k):zcr k t (n:Int)=some (bef t n,n):=by
  have key:∀ m j,j<=n->n - j<m->za0 k t (n:Int) m (j:Int) (bef t j++fl (n - j) (⟨zA 10,zA 10⟩:Pat))=some (bef t n):=by
    intro m
    induction m with
    |zero=>intro j h1 h2;omega
    |succ m ih =>
      intro j h1 h2;rw [za0];have hl:=znr (t:=t) (i:=j) (by omega);by_cases c:j<n
      . have ct:j<t.length:=by omega
        rw [zAc (by omega),zAc ⟨by omega,by omega⟩,zAc ⟨by omega,by omega⟩,zAc (by rw [fi,kh,hl];omega),zg3 ct,zcc j (by omega)];have:=ih (j+1) (by omega) (by omega);rw [zyk ct] at this;rw [show ((j:Int)).toNat=j by omega,List.set_append_right _ _ (by omega),hl,ph,show n - j=(n - (j+1))+1 by omega,io,kb];rw [fy] at this;exact this
      . obtain rfl:j=n:=by omega
        rw [zAd (by omega),ph,List.replicate_zero,gn]
  have:=key k 0 (ik _) (by simp only [big] at hk;omega);unfold zcr;rw [zAc ⟨by omega,by omega⟩];rw [show ((0:Nat):Int)=0 from rfl,show bef t 0=[] from rfl,ft,Nat.sub_zero] at this;rw [show ((n:Int)).toNat=n by omega,this,em]
abbrev zwt (r s:Rule):Prop:=r.step=s.step/\r.outs=s.outs
structure Dif (a b:List Rule) (i j:Nat) (h:Ar 10):Prop where
  ne:¬ zwt (a.getD i default) (b.getD j default)
  one:Out (a.getD i default).mat (bef a i) h
  two:Out (b.getD j default).mat (bef b j) h
def U (n i j i' j':Nat):Prop:=j'<n/\(i'<i\/(i'=i/\j'<j))
def Acc (a b:List Rule) (P:Nat->Nat->Prop) (x:Ar 10) (f:Bool):Prop:=(f=true/\(∃ i j,P i j/\Dif a b i j x)/\∀ i j h,P i j->Dif a b i j h->¬ ltH h x)\/(f=false/\x=zA 10/\∀ i j h,P i j->¬ Dif a b i j h)
section
variable {a b:List Rule} {P P':Nat->Nat->Prop} {x y:Ar 10} {f:Bool} {i j:Nat}
theorem Acc.right (h:Acc a b P x f) (hf:f=true):zac x=true:=by
  rcases h with ⟨_,⟨i,j,_,d⟩,_⟩|⟨e,_,_⟩
  . exact d.one.right
  . rw [e] at hf;cases hf
theorem Acc.mono (h:Acc a b P x f) (h1:∀ i j,P i j->P' i j) (h2:∀ i j,P' i j->P i j):Acc a b P' x f:=by
  rcases h with ⟨e,⟨i,j,p,d⟩,l⟩|⟨e,z,n⟩
  . exact .inl ⟨e,⟨i,j,h1 _ _ p,d⟩,fun i j h p'=>l i j h (h2 _ _ p')⟩
  . exact .inr ⟨e,z,fun i j h p'=>n i j h (h2 _ _ p')⟩
theorem Acc.none (h:Acc a b P x f) (h1:∀ i j,P i j->P' i j) (h2:∀ i' j',P' i' j'->P i' j'\/(i'=i/\j'=j)) (hn:∀ h,¬ Dif a b i j h):Acc a b P' x f:=by
  rcases h with ⟨e,⟨i1,j1,p,d⟩,l⟩|⟨e,z,n⟩
  . refine .inl ⟨e,⟨i1,j1,h1 _ _ p,d⟩,fun i' j' h p' d'=>?_⟩;rcases h2 _ _ p' with q|⟨rfl,rfl⟩
    . exact l _ _ h q d'
    . exact absurd d' (hn h)
  . refine .inr ⟨e,z,fun i' j' h p' d'=>?_⟩;rcases h2 _ _ p' with q|⟨rfl,rfl⟩
    . exact n _ _ h q d'
    . exact hn h d'
theorem Acc.keep (h:Acc a b P x true) (h1:∀ i j,P i j->P' i j) (h2:∀ i' j',P' i' j'->P i' j'\/(i'=i/\j'=j)) (hy:Dif a b i j y) (hl:∀ h,Dif a b i j h->¬ ltH h y) (hc:¬ ltH y x):Acc a b P' x true:=by
  have hx:=h.right rfl;rcases h with ⟨e,⟨i1,j1,p,d⟩,l⟩|⟨e,_,_⟩
  . refine .inl ⟨rfl,⟨i1,j1,h1 _ _ p,d⟩,fun i' j' h p' d'=>?_⟩;rcases h2 _ _ p' with q|⟨rfl,rfl⟩
    . exact l _ _ h q d'
    . intro hlt;rcases zxz hy.one.right hx with w|w|w
      . rw [w] at hl;exact hl h d' hlt
      . exact hc w
      . exact hl h d' (z0a hlt w)
  . cases e
theorem Acc.take (h:Acc a b P x f) (h1:∀ i j,P i j->P' i j) (h2:∀ i' j',P' i' j'->P i' j'\/(i'=i/\j'=j)) (hp:P' i j) (hy:Dif a b i j y) (hl:∀ h,Dif a b i j h->¬ ltH h y) (hc:f=true->ltH y x):Acc a b P' y true:=by
  refine .inl ⟨rfl,⟨i,j,hp,hy⟩,fun i' j' h' p' d'=>?_⟩;rcases h2 _ _ p' with q|⟨rfl,rfl⟩
  . rcases h with ⟨e,_,l⟩|⟨_,_,n⟩
    . exact fun hlt=>l _ _ h' q d' (z0a hlt (hc e))
    . exact absurd d' (n _ _ h' q)
  . exact hl h' d'
theorem Acc.uniq {f g:Bool} (h:Acc a b P x f) (k:Acc a b P y g):x=y/\f=g:=by
  rcases h with ⟨e,⟨i1,j1,p,d⟩,l⟩|⟨e,z,n⟩<;>rcases k with ⟨e',⟨i2,j2,p',d'⟩,l'⟩|⟨e',z',n'⟩
  . refine ⟨?_,by rw [e,e']⟩;rcases zxz d.one.right d'.one.right with w|w|w
    . exact w
    . exact absurd w (l' _ _ _ p d)
    . exact absurd w (l _ _ _ p' d')
  . exact absurd d (n' _ _ _ p)
  . exact absurd d' (n _ _ _ p')
  . exact ⟨by rw [z,z'],by rw [e,e']⟩
theorem Dif.symm {h:Ar 10} (d:Dif a b i j h):Dif b a j i h:=⟨fun ⟨p,q⟩=>d.ne ⟨p.symm,q.symm⟩,d.two,d.one⟩
def znw (a b:List Rule) (x:Ar 10) (f:Bool):Prop:=Acc a b (fun i j=>i<a.length/\j<b.length) x f
theorem znw.symm (h:znw a b x f):znw b a x f:=by
  rcases h with ⟨e,⟨i1,j1,p,d⟩,l⟩|⟨e,z,n⟩
  . exact .inl ⟨e,⟨j1,i1,⟨p.2,p.1⟩,d.symm⟩,fun i j h p d=>l j i h ⟨p.2,p.1⟩ d.symm⟩
  . exact .inr ⟨e,z,fun i j h p d=>n j i h ⟨p.2,p.1⟩ d.symm⟩
theorem U.step {n i j:Nat} (hj:j<n):(∀ i' j',U n i j i' j'->U n i (j+1) i' j')/\(∀ i' j',U n i (j+1) i' j'->U n i j i' j'\/(i'=i/\j'=j))/\U n i (j+1) i j:=by
  unfold U;refine ⟨fun i' j' h=>?_,fun i' j' h=>?_,?_⟩<;>omega
theorem Acc.row {n:Nat} (h:Acc a b (U n i n) x f):Acc a b (U n (i+1) 0) x f:=h.mono (fun i' j' h=>by unfold U at h ⊢;omega) fun i' j' h=>by unfold U at h ⊢;omega
theorem Acc.all (h:Acc a b (U b.length a.length 0) x f):znw a b x f:=h.mono (fun i' j' h=>by unfold U at h;exact ⟨by omega,h.1⟩) fun i' j' h=>by unfold U;exact ⟨h.2,by omega⟩
theorem Acc.zero:Acc a b (U b.length 0 0) (zA 10) false:=.inr ⟨rfl,rfl,fun i j h p=>by unfold U at p;omega⟩
theorem zxt {p q m:Pat} {l1 l2:List Pat} {h:Ar 10} (hm:Meet p q m) (ho:zd3 p q=true):Out m (l1++l2) h↔Out p l1 h/\Out q l2 h:=by
  constructor
  . intro k;obtain ⟨k1,k2⟩:=(hm.match ho h).1 k.into;exact ⟨⟨k.right,k1,fun q hq=>k.no q (List.mem_append_left _ hq)⟩,⟨k.right,k2,fun q hq=>k.no q (List.mem_append_right _ hq)⟩⟩
  . rintro ⟨k1,k2⟩;exact ⟨k1.right,(hm.match ho h).2 ⟨k1.into,k2.into⟩,fun q hq=>(iv.1 hq).elim (k1.no q) (k2.no q)⟩
theorem yec {m:Pat} {r:Ar 10×Bool} (hne:¬ zwt (a.getD i default) (b.getD j default)) (hm:Meet (a.getD i default).mat (b.getD j default).mat m) (ho:zd3 (a.getD i default).mat (b.getD j default).mat=true) (hr:Res m (bef a i++bef b j) r):(r.2=true/\Dif a b i j r.1/\∀ h,Dif a b i j h->¬ ltH h r.1)\/(r.2=false/\∀ h,¬ Dif a b i j h):=by
  rcases hr with ⟨e,q⟩|⟨e,q⟩
  . obtain ⟨o1,o2⟩:=(zxt hm ho).1 q.out;exact .inl ⟨e,⟨hne,o1,o2⟩,fun h d=>q.least h ((zxt hm ho).2 ⟨d.one,d.two⟩)⟩
  . exact .inr ⟨by rw [e],fun h d=>q h ((zxt hm ho).2 ⟨d.one,d.two⟩)⟩
theorem yjq (ho:zd3 (a.getD i default).mat (b.getD j default).mat=false):∀ h,¬ Dif a b i j h:=fun h d=>by
  have:=zxs d.one.into d.two.into;rw [ho] at this;cases this
theorem yjj {O:Pat->List Pat->Option (Ar 10×Bool)} {m:Pat} {l1 l2:List Pat} {n1:Nat} {r:Ar 10×Bool} (e:l1.length=n1) (hb:(n1+l2.length)*161<=1000000000) (h:O m (l1++l2)=some r):(if (n1+l2.length)*161<=1000000000 then (if l2.length=0 then (if l1.length=n1 then ((O m l1).bind fun r=>some (r.2,l1,n1,r.1)) else none) else (if (l1++l2).length=n1+l2.length then ((O m (l1++l2)).bind fun r2=>some (r2.2,l1++l2,n1+l2.length,r2.1)) else none)) else none)=some (r.2,l1++l2,n1+l2.length,r.1):=by
  rw [zAc hb];by_cases c:l2.length=0
  . have:=jb c;subst this;rw [gn] at h;rw [zAc c,zAc e,h,em,gn];rfl
  . rw [zAd c,zAc (by rw [fi,e]),h,em]
theorem yd1 (r:Rule):(⟨r.prio,r.mat,r.step,r.outs⟩:Rule)=r:=rfl
theorem yl6 {k:Nat} {h x:Ar 10} {f:Bool} (hh:zac h=true) (hx:f=true->zac x=true) (hk:10<k):∃ y,zet k h f x=some (true,y)/\((y=h/\(f=true->ltH h x))\/(f=true/\y=x/\¬ ltH h x)):=by
  unfold zet
  cases f with
  |false=>exact ⟨h,by rw [zAd (by simp)],.inl ⟨rfl,fun q=>by cases q⟩⟩
  |true =>
    obtain ⟨c,e,hc⟩:=zp3 (k:=k) hh (hx rfl) hk;rw [zAc rfl,e,em];by_cases q:c<0
    . exact ⟨h,by rw [zAc q],.inl ⟨rfl,fun _=>hc.neg.1 q⟩⟩
    . exact ⟨x,by rw [zAd q],.inr ⟨rfl,rfl,fun w=>q (hc.neg.2 w)⟩⟩
end
def rst:Rule:=⟨0,⟨zA 10,zA 10⟩,-1,[]⟩
section
variable {k:Nat} {t u a b:List Rule} {F:List Nat}
theorem ybe (ha:Lit a F) (i:Nat):(∀ q,q∈bef a i->zag q=true)/\∀ q,q∈bef a i->∀ j,j<160->hbit q.mask j=true->j∈F :=
  ⟨fun q hq=>by obtain ⟨r,hr,rfl⟩:=z2x hq;exact ha.right r hr,fun q hq=>by obtain ⟨r,hr,rfl⟩:=z2x hq;exact ha.mask r hr⟩
theorem yle (ea:t++[(⟨0,⟨zA 10,zA 10⟩,-1,[]⟩:Rule)]=a) (eb:u++[(⟨0,⟨zA 10,zA 10⟩,-1,[]⟩:Rule)]=b) (ha:Lit a F) (hb:Lit b F) (la:a.length<=400) (lb:b.length<=400) (oa:∀ r,r∈a->zm5 r) (hk:big<=k) {i:Nat} (hi:i<a.length):∀ (m j:Nat) (x:Ar 10) (f:Bool),j<=b.length->b.length - j<m->Acc a b (U b.length i j) x f->∃ x' f',zbd k t u (i:Int) m (j:Int) x f=some (x',f')/\Acc a b (U b.length (i+1) 0) x' f':=by
  have hk10:10<k:=gr (by decide) hk;intro m
  induction m with
  |zero=>intro j x f h1 h2;omega
  |succ m ih =>
    intro j x f h1 h2 hA;rw [zbd];simp only [ea,eb,yd1];by_cases c:j<b.length
    . have hp:=ha.right _ (ze5 hi);have hq:=hb.right _ (ze5 c);obtain ⟨u1,u2,u3⟩:=U.step (i:=i) c;rw [zAc (zbg c),zAc ⟨by omega,zbg c⟩,zkc,zkc,zrr _ _ (oa _ (ze5 hi)) hk,em,zcc j (by omega)];by_cases al:zwt (a.getD i default) (b.getD j default)
      . rw [zAc (zAa al)];exact ih (j+1) x f (by omega) (by omega) (hA.none u1 u2 fun h d=>d.ne al)
      . rw [zAd (by rw [decide_eq_true_eq];exact al)];obtain ⟨r,e,hr⟩:=z62 (k:=k) hp hq hk10;rw [e,em];rcases hr with ⟨ho,h2⟩|⟨ho,h2,hm⟩
        . rw [h2,zAd (by simp)];exact ih (j+1) x f (by omega) (by omega) (hA.none u1 u2 (yjq ho))
        . obtain ⟨l1,l2⟩:=ybe ha i;obtain ⟨l3,l4⟩:=ybe hb j;have b1:=znr (t:=a) (i:=i) (by omega);have b2:=znr (t:=b) (i:=j) (by omega);obtain ⟨s,e2,hs⟩:=z1n hk (hm.right hp hq) (l:=bef a i++bef b j) (fun q h=>(iv.1 h).elim (l1 q) (l3 q)) (by rw [fi];omega);have er:=yjj (O:=zeo k) (n1:=i) b1 (by omega) e2;rw [h2,zAc rfl,ztz a i (by omega) (by omega) hk,em,zyv b j (by omega) (by omega) hk,em];dsimp only;rw [er,em];rcases yec al hm ho hs with ⟨q1,q2,q3⟩|⟨q1,q2⟩
          . rw [zAc q1];obtain ⟨y,ey,hy⟩:=yl6 (k:=k) (f:=f) q2.one.right hA.right hk10;dsimp only;rw [ey,em];refine ih (j+1) y true (by omega) (by omega) ?_;rcases hy with ⟨rfl,hc⟩|⟨rfl,rfl,hc⟩
            . exact hA.take u1 u2 u3 q2 q3 hc
            . exact hA.keep u1 u2 q2 q3 hc
          . rw [zAd (by rw [q1];simp)];exact ih (j+1) x f (by omega) (by omega) (hA.none u1 u2 q2)
    . obtain rfl:j=b.length:=by omega
      rw [zAd (by omega)];exact ⟨x,f,rfl,hA.row⟩
theorem ylf (ea:t++[(⟨0,⟨zA 10,zA 10⟩,-1,[]⟩:Rule)]=a) (eb:u++[(⟨0,⟨zA 10,zA 10⟩,-1,[]⟩:Rule)]=b) (ha:Lit a F) (hb:Lit b F) (la:a.length<=400) (lb:b.length<=400) (oa:∀ r,r∈a->zm5 r) (hk:big<=k):∀ (m i:Nat) (x:Ar 10) (f:Bool),i<=a.length->a.length - i<m->Acc a b (U b.length i 0) x f->∃ x' f',zcs k t u m (i:Int) x f=some (x',f')/\znw a b x' f':=by
  intro m
  induction m with
  |zero=>intro i x f h1 h2;omega
  |succ m ih =>
    intro i x f h1 h2 hA;rw [zcs];simp only [ea];by_cases c:i<a.length
    . obtain ⟨x1,f1,e,h⟩:=yle ea eb ha hb la lb oa hk c k 0 x f (ik _) (by simp only [big] at hk;omega) hA;change zbd k t u (i:Int) k 0 x f=_ at e;rw [zAc (zbg c),zAc ⟨by omega,zbg c⟩,e,em,em,zcc i (by omega)];exact ih (i+1) x1 f1 (by omega) (by omega) h
    . obtain rfl:i=a.length:=by omega
      rw [zAd (by omega)];exact ⟨x,f,rfl,hA.all⟩
theorem ybd (ht:Lit t F) (hl:t.length<=300):Lit (t++[rst]) F:=by
  refine ⟨by rw [fi,i4];omega,fun r hr=>?_,ht.few,fun r hr j hj h=>?_⟩
  . rcases iv.1 hr with q|q
    . exact ht.right r q
    . cases ke.1 q;decide
  . rcases iv.1 hr with q|q
    . exact ht.mask r q j hj h
    . cases ke.1 q
      have:hbit (zA 10) j=false:=by
        have z:∀ s,s<10->hw (zA 10) s=0:=by decide
        unfold hbit;rw [z (j / 16) (by omega)];exact nr _
      rw [show hbit rst.mat.mask j=hbit (zA 10) j from rfl,this] at h;cases h
theorem ylx (ht:zoj t):∀ r,r∈t++[rst]->zm5 r:=fun r hr=>by
  rcases iv.1 hr with q|q
  . exact ht.2 r q
  . cases ke.1 q;exact ⟨by decide,fun l hl=>by cases hl⟩
theorem z1z (ht:Lit t F) (hu:Lit u F) (lt:t.length<=300) (lu:u.length<=300) (ot:zoj t) (hk:big<=k):∃ x f,zgi k t u=some (x,!f)/\znw (t++[rst]) (u++[rst]) x f:=by
  obtain ⟨x,f,e,h⟩:=ylf (t:=t) (u:=u) rfl rfl (ybd ht lt) (ybd hu lu) (by simp;omega) (by simp;omega) (ylx ot) hk k 0 (zA 10) false (ik _) (by simp only [big] at hk;rw [fi,i4];omega) Acc.zero;refine ⟨x,f,?_,h⟩;unfold zgi;change zcs k t u k 0 (zA 10) false=_ at e;rw [zAc (by omega),zAc (by omega),zAc (by omega),zAc (by omega),zAc (by rw [fi,i4]),zAc (by rw [fi,i4]),e];rfl
end
theorem yeu (t:List Rule) (h:Ar 10):(yjy t h=-1/\t.find? (fun r=>zax r.mat h)=none)\/∃ i:Nat,∃ hi:i<t.length,yjy t h=(i:Int)/\t.find? (fun r=>zax r.mat h)=some t[i]/\zax t[i].mat h=true/\∀ j (hj:j<t.length),j<i->zax t[j].mat h=false:=by
  unfold yjy;rcases z54 (fun r:Rule=>zax r.mat h) t with ⟨e1,e2⟩|⟨i,hi,e1,e2⟩
  . exact .inl ⟨e2,e1⟩
  . refine .inr ⟨i,hi,e1,e2,?_⟩;unfold idxB at e1
    cases hf:t.findIdx? (fun r:Rule=>zax r.mat h) with
    |none=>rw [hf] at e1;simp only at e1;omega
    |some s =>
      rw [hf] at e1;simp only at e1;obtain rfl:s=i:=by omega
      obtain ⟨h1,h2,h3⟩:=List.findIdx?_eq_some_iff_getElem.1 hf;exact ⟨h2,fun j hj hji=>by simpa using h3 j hji⟩
theorem znm {t:List Rule} {i:Nat} (hi:i<=t.length) {q:Pat}:q∈bef t i↔∃ j,∃ hj:j<t.length,j<i/\t[j].mat=q:=by
  unfold bef;rw [i6];constructor
  . rintro ⟨r,hr,rfl⟩;obtain ⟨j,hj,rfl⟩:=ma hr;rw [gq] at hj;exact ⟨j,by omega,by omega,by rw [List.getElem_take]⟩
  . rintro ⟨j,hj,hji,rfl⟩;exact ⟨t[j],by rw [List.mem_take_iff_getElem];exact ⟨j,by omega,rfl⟩,rfl⟩
theorem yjs {t:List Rule} {i:Nat} (hi:i<t.length) {h:Ar 10}:Out t[i].mat (bef t i) h↔zac h=true/\zax t[i].mat h=true/\∀ j (hj:j<t.length),j<i->zax t[j].mat h=false:=by
  constructor
  . rintro ⟨a,b,c⟩;exact ⟨a,b,fun j hj hji=>c _ ((znm (by omega)).2 ⟨j,hj,hji,rfl⟩)⟩
  . rintro ⟨a,b,c⟩;refine ⟨a,b,fun q hq=>?_⟩;obtain ⟨j,hj,hji,rfl⟩:=(znm (by omega)).1 hq;exact c j hj hji
def hd (t:List Rule) (h:Ar 10):Int×List (List Alt):=match t.find? (fun r=>zax r.mat h) with|some r=>(r.step,r.outs)|none=>(-1,[])
theorem zpt (t:List Rule) {h:Ar 10} (hh:zac h=true):∃ i,i<(t++[rst]).length/\Out ((t++[rst]).getD i default).mat (bef (t++[rst]) i) h/\((t++[rst]).getD i default).step=(hd t h).1/\((t++[rst]).getD i default).outs=(hd t h).2:=by
  have hb:∀ i,i<=t.length->bef (t++[rst]) i=bef t i:=fun i hi=>by unfold bef;rw [List.take_append_of_le_length hi]
  have hr:zax rst.mat h=true:=za1.2 fun i hi hm=>by
    have z:∀ s,s<10->hw (zA 10) s=0:=by decide
    have:hbit rst.mat.mask i=false:=by
      show hbit (zA 10) i=false;unfold hbit;rw [z (i / 16) (by omega)];exact nr _
    rw [this] at hm;cases hm
  unfold hd;rcases yeu t h with ⟨_,e⟩|⟨i,hi,_,e,hm,hn⟩
  . refine ⟨t.length,by rw [fi,i4];omega,?_,?_⟩
    . rw [fe,gp (fd _),ph];refine ⟨hh,hr,fun q hq=>?_⟩;rw [hb _ (fd _)] at hq;obtain ⟨r,hr,rfl⟩:=z2x hq;have:=List.find?_eq_none.1 e r hr;simpa using this
    . rw [fe,gp (fd _),ph,e];exact ⟨rfl,rfl⟩
  . have eg:(t++[rst]).getD i default=t[i]:=by rw [fe,List.getElem?_append_left hi,fb hi];rfl
    refine ⟨i,by rw [fi,i4];omega,?_,?_⟩
    . rw [eg,hb _ (by omega)];exact (yjs hi).2 ⟨hh,hm,hn⟩
    . rw [eg,e];exact ⟨rfl,rfl⟩
theorem yap {a:List Rule} {i j:Nat} {h:Ar 10} (hi:i<a.length) (hj:j<a.length) (k1:Out (a.getD i default).mat (bef a i) h) (k2:Out (a.getD j default).mat (bef a j) h):i=j:=by
  have key:∀ {i j:Nat},i<a.length->i<j->j<a.length->Out (a.getD i default).mat (bef a i) h->Out (a.getD j default).mat (bef a j) h->False:=fun {i j} hi hij hj k1 k2=>by
    have:=k2.no _ ((znm (by omega)).2 ⟨i,hi,hij,rfl⟩);have e:=k1.into;rw [fe,fb hi] at e;rw [show (some a[i]).getD default=a[i] from rfl,this] at e;cases e
  rcases mu i j with c|c|c
  . exact (key hi c hj k1 k2).elim
  . exact c
  . exact (key hj c hi k2 k1).elim
theorem znw.same {t u:List Rule} {x:Ar 10} (h:znw (t++[rst]) (u++[rst]) x false) {y:Ar 10} (hy:zac y=true):hd t y=hd u y:=by
  obtain ⟨i,hi,o1,s1,w1⟩:=zpt t hy;obtain ⟨j,hj,o2,s2,w2⟩:=zpt u hy;rcases h with ⟨e,_,_⟩|⟨_,_,n⟩
  . cases e
  . refine js fun hne=>n i j y ⟨hi,hj⟩ ⟨fun q=>hne ?_,o1,o2⟩;exact Prod.ext (s1.symm.trans (q.1.trans s2)) (w1.symm.trans (q.2.trans w2))
theorem znw.differ {t u:List Rule} {x:Ar 10} (h:znw (t++[rst]) (u++[rst]) x true):zac x=true/\hd t x≠hd u x/\∀ y,zac y=true->ltH y x->hd t y=hd u y:=by
  rcases h with ⟨_,⟨i,j,⟨hi,hj⟩,d⟩,l⟩|⟨e,_,_⟩
  . refine ⟨d.one.right,fun e=>d.ne ?_,fun y hy hlt=>?_⟩
    . obtain ⟨i',hi',o1,s1,w1⟩:=zpt t d.one.right;obtain ⟨j',hj',o2,s2,w2⟩:=zpt u d.one.right;obtain rfl:=yap hi hi' d.one o1;obtain rfl:=yap hj hj' d.two o2;exact ⟨by rw [s1,s2,e],by rw [w1,w2,e]⟩
    . obtain ⟨i',hi',o1,s1,w1⟩:=zpt t hy;obtain ⟨j',hj',o2,s2,w2⟩:=zpt u hy;refine js fun hne=>l i' j' y ⟨hi',hj'⟩ ⟨fun q=>hne ?_,o1,o2⟩ hlt;exact Prod.ext (s1.symm.trans (q.1.trans s2)) (w1.symm.trans (q.2.trans w2))
  . cases e
theorem znw.of_same {t u:List Rule} {x:Ar 10} {f:Bool} (h:znw (t++[rst]) (u++[rst]) x f) (hs:∀ y,zac y=true->hd t y=hd u y):f=false:=by
  cases f with
  |false=>rfl
  |true =>
    obtain ⟨h1,h2,_⟩:=znw.differ h;exact absurd (hs x h1) h2
theorem z2u {k:Nat} (a b:Rule) (ha:zm5 a) (hk:big<=k):zhr k a b=some (decide (zwt a b)):=by
  unfold zhr;rw [zt0 _ b (show zm5 ⟨b.prio,b.mat,a.step,a.outs⟩ from ha) hk,em];congr 1;rw [ld,decide_eq_true_eq,decide_eq_true_eq];constructor
  . intro h;rw [<- h];exact ⟨rfl,rfl⟩
  . rintro ⟨h1,h2⟩;cases a;cases b;simp only at h1 h2;subst h1;subst h2;rfl
def putM (t:List Rule) (i:Nat) (m:Pat):List Rule:=t.set i { t.getD i default with mat:=m }
theorem zhp {t:List Rule} {i:Nat} {m:Pat}:(putM t i m).length=t.length:=by unfold putM;rw [List.length_set]
theorem zq5 {t:List Rule} {i x:Nat} {m:Pat} (hx:x<t.length):(putM t i m).getD x default=if x=i then { t.getD x default with mat:=m } else t.getD x default:=by
  unfold putM;rw [fe,List.getElem?_set];by_cases h:i=x
  . subst h;rw [zAc rfl,zAc hx,zAc rfl];rfl
  . rw [zAd h,zAd (fun e=>h e.symm),fe]
theorem yd7 {t:List Rule} {i j x:Nat} {m:Pat} (hx:x<t.length):(putM (putM t i m) j m).getD x default=if x=i\/x=j then { t.getD x default with mat:=m } else t.getD x default:=by
  rw [zq5 (by rw [zhp];exact hx),zq5 hx];by_cases h2:x=i
  . rw [zAc h2];by_cases h1:x=j
    . rw [zAc h1,zAc (Or.inr h1)]
    . rw [zAd h1,zAc (Or.inl h2)]
  . rw [zAd h2];by_cases h1:x=j
    . rw [zAc h1,zAc (Or.inr h1)]
    . rw [zAd h1,zAd (fun h=>h.elim h2 h1)]
def Jn (t:List Rule) (m:Merg) (u:List Rule):Prop :=
  (m.kind=1/\m.k=0/\∃ i:Nat,m.i=(i:Int)/\i<t.length/\u=delL t i (i+1)) \/
  (∃ (i j:Nat) (both:Pat) (b:Nat),m.i=(i:Int)/\m.k=(j:Int)/\i<j/\j<t.length/\zwt (t.getD i default) (t.getD j default)/\zk6 (t.getD i default).mat (t.getD j default).mat both b /\
    ((m.kind=2/\u=delL (putM (putM t i both) j both) j (j+1))\/(m.kind=3/\u=delL (putM (putM t i both) j both) i (i+1))))
theorem Jn.uniq {t u v:List Rule} {m:Merg} (h:Jn t m u) (k:Jn t m v):u=v:=by
  rcases h with ⟨a1,a2,i,a3,a4,a5⟩|⟨i,j,both,b,a1,a2,a3,a4,a5,a6,a7⟩
  . rcases k with ⟨b1,b2,i',b3,b4,b5⟩|⟨i',j',both',b',b1,b2,b3,b4,b5,b6,b7⟩
    . obtain rfl:i=i':=by omega
      rw [a5,b5]
    . rcases b7 with ⟨b7,_⟩|⟨b7,_⟩<;>omega
  . rcases k with ⟨b1,b2,i',b3,b4,b5⟩|⟨i',j',both',b',b1,b2,b3,b4,b5,b6,b7⟩
    . rcases a7 with ⟨a7,_⟩|⟨a7,_⟩<;>omega
    . obtain rfl:i=i':=by omega
      obtain rfl:j=j':=by omega
      obtain rfl:=a6.uniq b6;rcases a7 with ⟨a7,e1⟩|⟨a7,e1⟩<;>rcases b7 with ⟨b7,e2⟩|⟨b7,e2⟩
      . rw [e1,e2]
      . omega
      . omega
      . rw [e1,e2]
def ydh (t:List Rule) (m:Merg) (r:List Rule×Int):Prop:=(r.2=0/\Jn t m r.1)\/(r=([],1)/\∀ u,¬ Jn t m u)
theorem ydh.uniq {t:List Rule} {m:Merg} {r s:List Rule×Int} (h:ydh t m r) (k:ydh t m s):r=s:=by
  rcases h with ⟨h1,h2⟩|⟨h1,h2⟩
  . rcases k with ⟨k1,k2⟩|⟨k1,k2⟩
    . have:=h2.uniq k2;cases r;cases s;simp only at h1 k1 this;rw [h1,k1,this]
    . exact absurd h2 (k2 _)
  . rcases k with ⟨k1,k2⟩|⟨k1,k2⟩
    . exact absurd k2 (h2 _)
    . rw [h1,k1]
theorem z7y {k:Nat} {t:List Rule} {m:Merg} (ht:zoj t) (hr:∀ r,r∈t->zag r.mat=true) (hl:t.length<=1000) (hk:big<=k):∃ r,zhe k t m=some r/\ydh t m r:=by
  have hk10:10<k:=by simp only [big] at hk;omega
  unfold zhe;by_cases a1:m.i<0
  . rw [zAc a1,em,zAc rfl];exact ⟨_,rfl,.inr ⟨rfl,fun u h=>by rcases h with ⟨_,_,i,e,_⟩|⟨i,j,_,_,e,_⟩<;>omega⟩⟩
  by_cases a2:(t.length:Int)<=m.i
  . rw [zAd a1,em,zAc (zAa a2)];exact ⟨_,rfl,.inr ⟨rfl,fun u h=>by rcases h with ⟨_,_,i,e,_⟩|⟨i,j,_,_,e,_⟩<;>omega⟩⟩
  obtain ⟨i,hi⟩:=jp (show 0<=m.i by omega);have hi2:i<t.length:=by omega
  rw [zAd a1,em,zAd (by rw [decide_eq_true_eq];exact a2)];by_cases a3:m.kind=1
  . rw [zAc a3];by_cases a4:m.k=0
    . rw [zAd (fun h=>h a4),zAc (by omega),hi,zcc i (by omega)];unfold zll;rw [zAc ⟨rfl,by omega,by omega,by omega,by omega⟩,em,i5,i5];exact ⟨_,rfl,.inl ⟨rfl,.inl ⟨a3,a4,i,hi,hi2,rfl⟩⟩⟩
    . rw [zAc a4];exact ⟨_,rfl,.inr ⟨rfl,fun u h=>by rcases h with ⟨_,e,_⟩|⟨i,j,_,_,_,_,_,_,_,_,⟨e,_⟩|⟨e,_⟩⟩<;>omega⟩⟩
  rw [zAd a3];by_cases a5:m.kind=2\/m.kind=3
  rotate_left
  . rw [zAd (fun h=>a5 (.inl h)),em,zAd (by rw [decide_eq_true_eq];exact fun h=>a5 (.inr h))];exact ⟨_,rfl,.inr ⟨rfl,fun u h=>by rcases h with ⟨e,_⟩|⟨i,j,_,_,_,_,_,_,_,_,⟨e,_⟩|⟨e,_⟩⟩<;>omega⟩⟩
  have e5:(if m.kind=2 then some true else some (decide (m.kind=3)):Option Bool)=some true:=by
    by_cases c:m.kind=2
    . rw [zAc c]
    . rw [zAd c,zAa (a5.resolve_left c)]
  rw [e5,em,zAc rfl];by_cases a6:m.k<=m.i
  . rw [zAc a6,em,zAc rfl];exact ⟨_,rfl,.inr ⟨rfl,fun u h=>by rcases h with ⟨e,_⟩|⟨i,j,_,_,_,_,_,_⟩<;>omega⟩⟩
  by_cases a7:(t.length:Int)<=m.k
  . rw [zAd a6,zAc a7,em,zAc rfl];exact ⟨_,rfl,.inr ⟨rfl,fun u h=>by rcases h with ⟨e,_⟩|⟨i,j,_,_,_,_,_,_⟩<;>omega⟩⟩
  obtain ⟨j,hj⟩:=jp (show 0<=m.k by omega);have hj2:j<t.length:=by omega
  have hij:i<j:=by omega
  have mi:t.getD i default∈t:=ze5 hi2;have mj:t.getD j default∈t:=ze5 hj2;rw [zAd a6,zAd a7,zAc ⟨by omega,by omega⟩,zAc ⟨by omega,by omega⟩,hi,hj,zkc,zkc,z2u _ _ (ht.2 _ mi) hk,em,em];by_cases a8:zwt (t.getD i default) (t.getD j default)
  rotate_left
  . rw [zAb a8,zAc (show (!false)=true from rfl)];refine ⟨_,rfl,.inr ⟨rfl,fun u h=>?_⟩⟩;rcases h with ⟨e,_⟩|⟨i',j',_,_,b1,b2,_,_,b3,_⟩
    . omega
    . obtain rfl:i=i':=by have:(i:Int)=i':=hi.symm.trans b1;omega
      obtain rfl:j=j':=by have:(j:Int)=j':=hj.symm.trans b2;omega
      exact a8 b3
  obtain ⟨q,q1,q2⟩:=z1o (k:=k) (hr _ mi) (hr _ mj) hk10;rw [zAa a8,zAd (by simp),zAc ⟨by omega,by omega⟩,zAc ⟨by omega,by omega⟩,q1,em];rcases q2 with ⟨c1,b,c2⟩|⟨c1,c2⟩
  . rw [zAc c1,zAc (by omega),i5,i5,zAc hi2,zAc (by rw [List.length_set];exact hj2)];change ∃ r,((if m.kind=3 then some (i:Int) else some (j:Int)).bind fun s_4=>(zll k t.length (putM (putM t i q.1) j q.1) s_4 (ej.wrap (s_4+1))).bind fun bv=>some (bv,0))=some r/\ydh t m r;by_cases a9:m.kind=3
    . rw [zAc a9,em,zcc i (by omega)];unfold zll;rw [zAc ⟨by rw [zhp,zhp],by omega,by omega,by omega,by omega⟩,em,i5,i5];exact ⟨_,rfl,.inl ⟨rfl,.inr ⟨i,j,q.1,b,hi,hj,hij,hj2,a8,c2,.inr ⟨a9,rfl⟩⟩⟩⟩
    . rw [zAd a9,em,zcc j (by omega)];unfold zll;rw [zAc ⟨by rw [zhp,zhp],by omega,by omega,by omega,by omega⟩,em,i5,i5];exact ⟨_,rfl,.inl ⟨rfl,.inr ⟨i,j,q.1,b,hi,hj,hij,hj2,a8,c2,.inl ⟨a5.resolve_right a9,rfl⟩⟩⟩⟩
  . rw [c1,zAd (by simp)];refine ⟨_,rfl,.inr ⟨rfl,fun u h=>?_⟩⟩;rcases h with ⟨e,_⟩|⟨i',j',both,b',b1,b2,_,_,_,b3,_⟩
    . omega
    . obtain rfl:i=i':=by have:(i:Int)=i':=hi.symm.trans b1;omega
      obtain rfl:j=j':=by have:(j:Int)=j':=hj.symm.trans b2;omega
      exact c2 ⟨_,_,b3⟩
end Go.Proofs.Ytkfnjbfnkpameaa
