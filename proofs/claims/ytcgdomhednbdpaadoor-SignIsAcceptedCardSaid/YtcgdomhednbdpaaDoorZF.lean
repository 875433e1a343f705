/- Part 6 of the proof of SignIsAccepted (several texts in one; no further condition). -/
import Derived.Test.YtcgdomhednbdpaaDoorZE
import Derived.Test.YtcgdomhednbdpaaDoorZC
import Derived.Test.YtcgdomhednbdpaaDoorRows
import Derived.OpenShut
import Derived.MakeChecks
import Derived.Laws.BitsLemmas
import Derived.Laws.Bits64
set_option linter.unusedSimpArgs false
set_option linter.unusedVariables false
set_option linter.unusedSectionVars false
namespace Go.Proofs.YtcgdomhednbdpaaDoor
open Go Go.RowKit
def rx (e:List UInt32) (k w:UInt32):UInt32:=e.getD 3 0+mix32 (e.getD 0 0) 6 11 25+((e.getD 0 0 &&& e.getD 1 0) ^^^ (~~~(e.getD 0 0) &&& e.getD 2 0))+k+w
def ry (v:List UInt32):UInt32:=mix32 (v.getD 0 0) 2 13 22+((v.getD 0 0 &&& v.getD 1 0) ^^^ (v.getD 0 0 &&& v.getD 2 0) ^^^ (v.getD 1 0 &&& v.getD 2 0))
def rds (s w kt:List UInt32):Nat→List UInt32×List UInt32
 |0=>(s.take 4,s.drop 4)
 |t+1=>let p:=rds s w kt t;let x:=rx p.2 (kt.getD t 0) (w.getD t 0)
  ([x+ry p.1,p.1.getD 0 0,p.1.getD 1 0,p.1.getD 2 0],[p.1.getD 3 0+x,p.2.getD 0 0,p.2.getD 1 0,p.2.getD 2 0])
def fin (s v e:List UInt32):Nat→List UInt32
 |0=>s
 |i+1=>let p:=fin s v e i;let q:=p.set i (p.getD i 0+v.getD i 0)
  q.set (i+4) (q.getD (i+4) 0+e.getD i 0)
def comp (kt s:List UInt32) (bs:List UInt8):List UInt32:=let p:=rds s (sched bs 64) kt 64;fin s p.1 p.2 4
theorem rds_len (s w kt:List UInt32) (hs:s.length=8):∀ t,(rds s w kt t).1.length=4∧(rds s w kt t).2.length=4
 |0=>by simp [rds,hs]
 |t+1=>⟨rfl,rfl⟩
theorem fin_len (s v e:List UInt32):∀ i,(fin s v e i).length=s.length
 |0=>rfl
 |i+1=>by rw [fin];simp [fin_len s v e i]
theorem comp_len (kt s:List UInt32) (bs:List UInt8):(comp kt s bs).length=s.length:=fin_len _ _ _ _
set_option maxHeartbeats 4000000 in
theorem comp_run (ax : Axs) (hp : Plain ax) (hax : ax 66 = none) (kt s : List UInt32) (bs : List UInt8) (fb ub off len cap : Nat) (n : Nat) (g : Nat → Fam) (lim : Nat) (rd wr : List Nat) (hl : lim ≤ n) (hb : BSl g n fb ub off len cap bs) (h64 : len = 64) (hc1 : cap < 1000000000) (hs : s.length = 8) (hk : kt.length = 64)
    (hG:1<n) (hgl:rowOf (g 1).rows (1*1024)=some (wvs kt)) :
    ∃ n' g' rd',callR Tryd.prog (EE ax) 66 [.agg (wvs s).toArray,.slice (some (mkA fb ub off)) len cap] (St n g lim rd wr)=some (.agg (wvs (comp kt s bs)).toArray,St n' g' lim rd' wr)∧n≤n'∧n'≤n+7∧(∀ i,i<n→g' i=g i)∧(∀ x,x∈rd'→x∈rd∨((x=fb∨x=1)∧x<lim)):=by
  have hbl:=hb.lt
  suffices hh:∃ v s2,callR Tryd.prog (EE ax) 66 [.agg (wvs s).toArray,.slice (some (mkA fb ub off)) len cap] (St n g lim rd wr)=some (v,s2)∧v=.agg (wvs (comp kt s bs)).toArray∧∃ n' g' rd',s2=St n' g' lim rd' wr∧n≤n'∧n'≤n+7∧(∀ i,i<n→g' i=g i)∧(∀ x,x∈rd'→x∈rd∨((x=fb∨x=1)∧x<lim)) by
    obtain ⟨v,s2,h1,rfl,n',g',rd',rfl,h2⟩:=hh
    exact ⟨n',g',rd',h1,h2⟩
  refine callR_ex (fn:=Tryd.f66) 116 hax (fn66 ax) rfl Tryd.ntmps66 (by simp) ?_
  simp (disch:=omega) only [ofArgs_cons,ofArgs_nil,Nat.reduceAdd]
  repeat apply W.seq
  apply W.region
  · simp (disch:=first|omega | (simp (disch:=omega) [ev_tmp,ev_const,get_of,upd_same,upd_ne,Tryd.underlying3,Tryd.underlying47,Tryd.underlying5,Tryd.underlying68,Tryd.underlying43];done) | (apply inK_i64;omega) | (apply inK_u64;omega)) only [op_len,cond_true,cond_false,List.toList_toArray,List.map_cons,List.map_nil,some_map,none_map,ti3,ti47,ti5,ti68,ti43,alloc_st (ti69 ax),box_st,cells_agg,wB0,wB1]
    with_reducible rfl
  simp only [onN,onB]
  have hb2:BSl (fupd (fupd g n ⟨false,[(n*1024+0,wvs s)],none⟩) (n+1) ⟨false,[((n+1)*1024+0,List.replicate 8 (.int .u32 0))],none⟩) (n+1+1) fb ub off len cap bs:=by
    obtain ⟨cs,r1,r2⟩:=hb.row
    exact ⟨by omega,hb.tag,hb.fits,hb.size,cs,by rw [fupd_ne _ _ _ _ (by omega),fupd_ne _ _ _ _ (by omega)];exact r1,r2⟩
  obtain ⟨n1,g1,rd1,e1,k1,k2,k3,k4⟩:=sched_run ax hp bs fb ub off len cap (n+1+1) _ lim rd wr (by omega) hb2 h64 hc1
  have q1:g1 n=⟨false,[(n*1024+0,wvs s)],none⟩:=by rw [k3 n (by omega),fupd_ne _ _ _ _ (by omega),fupd_same]
  have q2:g1 (n+1)=⟨false,[((n+1)*1024+0,List.replicate 8 (vw 0))],none⟩:=by rw [k3 _ (by omega),fupd_same];rfl
  have q0:∀ i,i<n→g1 i=g i:=fun i hi=>by rw [k3 _ (by omega),fupd_ne _ _ _ _ (by omega),fupd_ne _ _ _ _ (by omega)]
  clear k3 hb2
  have S1:=st_all (n:=n1+1) (lim:=lim) (rd:=rd1) (wr:=wr) (ti90 ax) (g:=fupd g1 n1 ⟨false,[(n1*1024+0,List.replicate 64 (.int .u32 0))],none⟩) (f:=n1) (u:=n1*1024+0) (vs:=wvs (sched bs 64)) (fupd_same _ _ _) (by rw [wvs_len,sched_len]) (by simp) (wvs_one _)
  rw [fupd_fupd,ins_ge (f:=n1) _ (by omega)] at S1
  repeat apply W.seq
  apply W.region
  · simp (disch:=first|omega | (simp (disch:=omega) [ev_tmp,ev_const,get_of,upd_same,upd_ne,Tryd.underlying3,Tryd.underlying47,Tryd.underlying5,Tryd.underlying68,Tryd.underlying43];done) | (apply inK_i64;omega) | (apply inK_u64;omega)) only [op_len,cond_true,cond_false,List.toList_toArray,List.map_cons,List.map_nil,some_map,none_map,ti3,ti47,ti5,ti68,ti43,e1,alloc_st (ti90 ax),cells_agg,S1,wB0,wB1]
    with_reducible rfl
  simp only [onN,onB]
  have bd1:=bounds_h (len:=8) (cap:=8) (natOf_lit .i64 4) (by omega)
  have bd2:=bounds_l (len:=8) (cap:=8) (natOf_lit .i64 4) (by omega) (by omega)
  generalize hG2:fupd g1 n1 ⟨false,[(n1*1024+0,wvs (sched bs 64))],none⟩=g2
  have p1:g2 n=⟨false,[(n*1024+0,wvs s)],none⟩:=by rw [← hG2,fupd_ne _ _ _ _ (by omega)];exact q1
  have p2:g2 (n+1)=⟨false,[((n+1)*1024+0,List.replicate 8 (vw 0))],none⟩:=by rw [← hG2,fupd_ne _ _ _ _ (by omega)];exact q2
  have p3:g2 n1=⟨false,[(n1*1024+0,wvs (sched bs 64))],none⟩:=by rw [← hG2,fupd_same]
  have p0:∀ i,i<n→g2 i=g i:=fun i hi=>by rw [← hG2,fupd_ne _ _ _ _ (by omega)];exact q0 i hi
  clear hG2 q0 q1 q2 S1
  have D1:=ld_partq (n:=n1+1) (ti93 ax) rfl (g:=g2) (f:=n) (u:=n*1024+0) (off:=0+0*1) (cs:=wvs s) (by rw [p1];exact rowOf_one) (by rw [wvs_len];omega) (by omega)
  have D2:=ld_partq (n:=n1+1) (ti93 ax) rfl (g:=g2) (f:=n) (u:=n*1024+0) (off:=0+4*1) (cs:=wvs s) (by rw [p1];exact rowOf_one) (by rw [wvs_len];omega) (by omega)
  rw [show ((wvs s).drop (0+0*1)).take 4=wvs (s.take 4) by rw [wvs_drop,wvs_take];rfl] at D1
  rw [show ((wvs s).drop (0+4*1)).take 4=wvs (s.drop 4) by rw [wvs_drop,wvs_take,List.take_of_length_le (by simp;omega)]] at D2
  have E1:=st_allq (n:=n1+1+1+1) (ti93 ax) (g:=fupd (fupd g2 (n1+1) ⟨false,[((n1+1)*1024+0,List.replicate 4 (.int .u32 0))],none⟩) (n1+1+1) ⟨false,[((n1+1+1)*1024+0,List.replicate 4 (.int .u32 0))],none⟩) (f:=n1+1) (u:=(n1+1)*1024+0) (vs:=wvs (s.take 4)) (es:=none) (cs:=List.replicate 4 (.int .u32 0)) (by rw [fupd_ne _ _ _ _ (by omega),fupd_same]) (by rw [wvs_len];simp;omega) (by simp) (wvs_one _) (by omega)
  rw [fupd_comm _ _ _ _ _ (show n1+1+1≠n1+1 by omega),fupd_fupd] at E1
  have E2:=st_allq (n:=n1+1+1+1) (ti93 ax) (g:=fupd (fupd g2 (n1+1) ⟨false,[((n1+1)*1024+0,wvs (s.take 4))],none⟩) (n1+1+1) ⟨false,[((n1+1+1)*1024+0,List.replicate 4 (.int .u32 0))],none⟩) (f:=n1+1+1) (u:=(n1+1+1)*1024+0) (vs:=wvs (s.drop 4)) (es:=none) (cs:=List.replicate 4 (.int .u32 0)) (fupd_same _ _ _) (by rw [wvs_len];simp;omega) (by simp) (wvs_one _) (by omega)
  rw [fupd_fupd] at E2
  have I0:=fun l=>ins_ge (m:=lim) (f:=n) l (by omega)
  have I1:=fun l=>ins_ge (m:=lim) (f:=n1+1) l (by omega)
  have I2:=fun l=>ins_ge (m:=lim) (f:=n1+1+1) l (by omega)
  repeat apply W.seq
  apply W.draw_ex (ms:=[0,1,3,0,8,24,0,0,199,511])
  · kernel_rfl
  · simp (disch:=first|omega | (simp (disch:=omega) [ev_tmp,ev_const,get_of,upd_same,upd_ne,Tryd.underlying3,Tryd.underlying47,Tryd.underlying5,Tryd.underlying68,Tryd.underlying43];done) | (apply inK_i64;omega) | (apply inK_u64;omega)) only [op_len,cond_true,cond_false,List.toList_toArray,List.map_cons,List.map_nil,some_map,none_map,ti3,ti47,ti5,ti68,ti43,drawC_cons,drawC_nil,inner_st,thenD_some,consLg_some,insAll_nil,insAll_cons,slice_arr1 (ti69 ax) (ti68 ax) (by omega) bd1 (show (n*1024+0) % 1024=0 by omega),slice_arr1 (ti69 ax) (ti68 ax) (by omega) bd2 (show (n*1024+0) % 1024=0 by omega),s2a_eq (ti93 ax) (show 0<4 by omega) (show 4≤4 - 0 by omega),s2a_eq (ti93 ax) (show 0<4 by omega) (show 4≤8 - 4 by omega),D1,D2,alloc_st (ti93 ax),cells_agg,E1,E2,I0,I1,I2,wB0,wB1]
    with_reducible rfl
  · simp (disch:=first|decide | (apply clash_gen<;>intro f hf<;>simp at hf ⊢<;>omega)) only [calmAll_cons,calmAll_nil,calmAll_y0,calmOne_nil,calmOne_set,calmOne_ok,List.nil_append,List.cons_append,List.length_cons,List.length_nil,Nat.reduceAdd,nth_zero,nth_succ,Bool.and_self,Bool.and_true,Bool.true_and]
  simp only [onN,onB]
  have hKT:∀ rd,opLoad (EE ax) (St (n1+1+1+1) (fupd (fupd g2 (n1+1) ⟨false,[((n1+1)*1024+0,wvs (s.take 4))],none⟩) (n1+1+1) ⟨false,[((n1+1+1)*1024+0,wvs (s.drop 4))],none⟩) lim rd wr) 90 (.pointer (some (mkA 1 (1*1024) 0)))=some (.agg (wvs kt).toArray,St (n1+1+1+1) (fupd (fupd g2 (n1+1) ⟨false,[((n1+1)*1024+0,wvs (s.take 4))],none⟩) (n1+1+1) ⟨false,[((n1+1+1)*1024+0,wvs (s.drop 4))],none⟩) lim (ins lim rd 1) wr) :=
    fun rd=>ld_all (ti90 ax) rfl (by rw [fupd_ne _ _ _ _ (by omega),fupd_ne _ _ _ _ (by omega),p0 _ hG];exact hgl) (by rw [wvs_len,hk])
  repeat apply W.seq
  apply W.region
  · simp (disch:=first|omega | (simp (disch:=omega) [ev_tmp,ev_const,get_of,upd_same,upd_ne,Tryd.underlying3,Tryd.underlying47,Tryd.underlying5,Tryd.underlying68,Tryd.underlying43];done) | (apply inK_i64;omega) | (apply inK_u64;omega)) only [op_len,cond_true,cond_false,List.toList_toArray,List.map_cons,List.map_nil,some_map,none_map,ti3,ti47,ti5,ti68,ti43,hKT,wB0,wB1]
    with_reducible rfl
  simp only [onN,onB]
  repeat apply W.seq
  apply W.block
  refine W.loop (fun m fr s'=>∃ (t:Nat) (h:Nat→Value) (g':Nat→Fam) (rd':List Nat),t≤64∧m=64 - t∧fr=Fr.of 116 h∧s'=St (n1+1+1+1) g' lim rd' wr∧h 2=.pointer (some (mkA n (n*1024+0) 0))∧h 4=.pointer (some (mkA (n+1) ((n+1)*1024+0) 0))∧h 6=.pointer (some (mkA (n1+1) ((n1+1)*1024+0) 0))∧h 7=.pointer (some (mkA (n1+1+1) ((n1+1+1)*1024+0) 0))∧h 5=.pointer (some (mkA n1 (n1*1024+0) 0))∧h 21=.agg (wvs kt).toArray∧h 22=.int .i64 (t:Int)∧g' n=⟨false,[(n*1024+0,wvs s)],none⟩∧g' (n+1)=⟨false,[((n+1)*1024+0,List.replicate 8 (vw 0))],none⟩∧g' n1=⟨false,[(n1*1024+0,wvs (sched bs 64))],none⟩∧g' (n1+1)=⟨false,[((n1+1)*1024+0,wvs (rds s (sched bs 64) kt t).1)],none⟩∧g' (n1+1+1)=⟨false,[((n1+1+1)*1024+0,wvs (rds s (sched bs 64) kt t).2)],none⟩∧(∀ i,i<n→g' i=g i)∧(∀ x,x∈rd'→x∈rd∨((x=fb∨x=1)∧x<lim))) ?_ (64 - 0) _ _ ⟨0,_,_,_,by omega,rfl,rfl,rfl,?_,?_,?_,?_,?_,?_,?_,?_,?_,?_,?_,?_,?_,?_⟩
  case refine_2=>simp (disch:=omega) only [upd_same,upd_ne]
  case refine_3=>simp (disch:=omega) only [upd_same,upd_ne]
  case refine_4=>simp (disch:=omega) only [upd_same,upd_ne]
  case refine_5=>simp (disch:=omega) only [upd_same,upd_ne]
  case refine_6=>simp (disch:=omega) only [upd_same,upd_ne]
  case refine_7=>simp (disch:=omega) only [upd_same,upd_ne]
  case refine_8=>simp (disch:=omega) only [upd_same,upd_ne];rfl
  case refine_9=>rw [fupd_ne _ _ _ _ (by omega),fupd_ne _ _ _ _ (by omega)];exact p1
  case refine_10=>rw [fupd_ne _ _ _ _ (by omega),fupd_ne _ _ _ _ (by omega)];exact p2
  case refine_11=>rw [fupd_ne _ _ _ _ (by omega),fupd_ne _ _ _ _ (by omega)];exact p3
  case refine_12=>rw [fupd_ne _ _ _ _ (by omega),fupd_same];rfl
  case refine_13=>rw [fupd_same];rfl
  case refine_14=>intro i hi;rw [fupd_ne _ _ _ _ (by omega),fupd_ne _ _ _ _ (by omega)];exact p0 i hi
  case refine_15 =>
    intro x hx
    rcases mem_ins hx with hx|⟨hx,hq⟩
    · exact (k4 x hx).imp id fun k=>⟨.inl k.1,k.2⟩
    · exact .inr ⟨.inr hx,hq⟩
  clear p1 p2 p3 p0 hKT E1 E2 D1 D2
  rintro m fr s' ⟨t,h,g',rd',ht,rfl,rfl,rfl,h2,h4,h6,h7,h5,h21,h22,p1,p2,p3,p4,p5,p0,hrd⟩
  repeat apply W.seq
  apply W.region
  · simp (disch:=first|omega | (simp (disch:=omega) [ev_tmp,ev_const,get_of,upd_same,upd_ne,h22,Tryd.underlying3,Tryd.underlying47,Tryd.underlying5,Tryd.underlying68,Tryd.underlying43];done) | (apply inK_i64;omega) | (apply inK_u64;omega)) only [op_len,cond_true,cond_false,List.toList_toArray,List.map_cons,List.map_nil,some_map,none_map,ti3,ti47,ti5,ti68,ti43,oi_lss,h22,wB0,wB1]
    with_reducible rfl
  simp only [onN,onB]
  by_cases hlt:(t:Int)<64
  case neg =>
    repeat apply W.seq
    refine W.cond (b:=false) ?_ ?_
    · simp (disch:=omega) only [ev_tmp,get_of,upd_same,upd_ne,hlt,decide_true,decide_false]
    simp only [cond_true,cond_false]
    apply W.exit
    simp only [onN,onB,Nat.beq_refl,cond_true,cond_false,bexit]
    have hte:t=64:=by omega
    subst hte
    obtain ⟨l1,l2⟩:=rds_len s (sched bs 64) kt hs 64
    have hcomp:comp kt s bs=fin s (rds s (sched bs 64) kt 64).1 (rds s (sched bs 64) kt 64).2 4:=rfl
    generalize (rds s (sched bs 64) kt 64).1=V at *
    generalize (rds s (sched bs 64) kt 64).2=E at *
    repeat apply W.seq
    apply W.region
    · simp (disch:=first|omega | (simp (disch:=omega) [ev_tmp,ev_const,get_of,upd_same,upd_ne,Tryd.underlying3,Tryd.underlying47,Tryd.underlying5,Tryd.underlying68,Tryd.underlying43];done) | (apply inK_i64;omega) | (apply inK_u64;omega)) only [op_len,cond_true,cond_false,List.toList_toArray,List.map_cons,List.map_nil,some_map,none_map,ti3,ti47,ti5,ti68,ti43,wB0,wB1]
      with_reducible rfl
    simp only [onN,onB]
    repeat apply W.seq
    apply W.block
    refine W.loop (fun m fr s'=>∃ (t:Nat) (h:Nat→Value) (g':Nat→Fam) (rd':List Nat),t≤4∧m=4 - t∧fr=Fr.of 116 h∧s'=St (n1+1+1+1) g' lim rd' wr∧h 2=.pointer (some (mkA n (n*1024+0) 0))∧h 4=.pointer (some (mkA (n+1) ((n+1)*1024+0) 0))∧h 6=.pointer (some (mkA (n1+1) ((n1+1)*1024+0) 0))∧h 7=.pointer (some (mkA (n1+1+1) ((n1+1+1)*1024+0) 0))∧h 94=.int .i64 (t:Int)∧g' n=⟨false,[(n*1024+0,wvs (fin s V E t))],none⟩∧g' (n+1)=⟨false,[((n+1)*1024+0,List.replicate 8 (vw 0))],none⟩∧g' (n1+1)=⟨false,[((n1+1)*1024+0,wvs V)],none⟩∧g' (n1+1+1)=⟨false,[((n1+1+1)*1024+0,wvs E)],none⟩∧(∀ i,i<n→g' i=g i)∧(∀ x,x∈rd'→x∈rd∨((x=fb∨x=1)∧x<lim))) ?_ (4 - 0) _ _ ⟨0,_,_,_,by omega,rfl,rfl,rfl,?_,?_,?_,?_,?_,p1,p2,p4,p5,p0,hrd⟩
    case refine_2=>simp (disch:=omega) only [upd_same,upd_ne,h2]
    case refine_3=>simp (disch:=omega) only [upd_same,upd_ne,h4]
    case refine_4=>simp (disch:=omega) only [upd_same,upd_ne,h6]
    case refine_5=>simp (disch:=omega) only [upd_same,upd_ne,h7]
    case refine_6=>simp (disch:=omega) only [upd_same,upd_ne];rfl
    clear h2 h4 h6 h7 h5 h21 h22 p1 p2 p3 p4 p5 p0 hrd
    rintro m fr s' ⟨t,h,g',rd',ht,rfl,rfl,rfl,h2,h4,h6,h7,h94,p1,p2,p4,p5,p0,hrd⟩
    have hfl:=fin_len s V E t
    repeat apply W.seq
    apply W.region
    · simp (disch:=first|omega | (simp (disch:=omega) [ev_tmp,ev_const,get_of,upd_same,upd_ne,h94,Tryd.underlying3,Tryd.underlying47,Tryd.underlying5,Tryd.underlying68,Tryd.underlying43];done) | (apply inK_i64;omega) | (apply inK_u64;omega)) only [op_len,cond_true,cond_false,List.toList_toArray,List.map_cons,List.map_nil,some_map,none_map,ti3,ti47,ti5,ti68,ti43,oi_lss,h94,wB0,wB1]
      with_reducible rfl
    simp only [onN,onB]
    by_cases hl4:(t:Int)<4
    case neg =>
      repeat apply W.seq
      refine W.cond (b:=false) ?_ ?_
      · simp (disch:=omega) only [ev_tmp,get_of,upd_same,upd_ne,hl4,decide_true,decide_false]
      simp only [cond_true,cond_false]
      apply W.exit
      simp only [onN,onB,Nat.beq_refl,cond_true,cond_false,bexit]
      have hte:t=4:=by omega
      subst hte
      have L1:=ld_all (n:=n1+1+1+1) (lim:=lim) (rd:=rd') (wr:=wr) (ti69 ax) rfl (g:=g') (f:=n) (u:=n*1024+0) (cs:=wvs (fin s V E 4)) (by rw [p1];exact rowOf_one) (by rw [wvs_len,hfl,hs])
      rw [I0] at L1
      have S1:=st_all (n:=n1+1+1+1) (lim:=lim) (rd:=rd') (wr:=wr) (ti69 ax) (f:=n+1) (u:=(n+1)*1024+0) (vs:=wvs (fin s V E 4)) p2 (by rw [wvs_len,hfl,hs]) (by simp) (wvs_one _)
      rw [ins_ge (f:=n+1) _ (by omega)] at S1
      repeat apply W.seq
      apply W.region
      · simp (disch:=first|omega | (simp (disch:=omega) [ev_tmp,ev_const,get_of,upd_same,upd_ne,h2,h4,Tryd.underlying3,Tryd.underlying47,Tryd.underlying5,Tryd.underlying68,Tryd.underlying43];done) | (apply inK_i64;omega) | (apply inK_u64;omega)) only [op_len,cond_true,cond_false,List.toList_toArray,List.map_cons,List.map_nil,some_map,none_map,ti3,ti47,ti5,ti68,ti43,h2,h4,L1,cells_agg,S1,wB0,wB1]
        with_reducible rfl
      simp only [onN,onB]
      apply W.ret
      refine ⟨.inr rfl,[.agg (wvs (comp kt s bs)).toArray],St (n1+1+1+1) (fupd g' (n+1) ⟨false,[((n+1)*1024+0,wvs (comp kt s bs))],none⟩) lim rd' wr,?_,rfl,n1+1+1+1,_,rd',rfl,by omega,by omega,fun i hi=>by rw [fupd_ne _ _ _ _ (by omega)];exact p0 i hi,hrd⟩
      have L2:=ld_all (n:=n1+1+1+1) (lim:=lim) (rd:=rd') (wr:=wr) (ti69 ax) rfl (g:=fupd g' (n+1) ⟨false,[((n+1)*1024+0,wvs (fin s V E 4))],none⟩) (f:=n+1) (u:=(n+1)*1024+0) (cs:=wvs (fin s V E 4)) (by rw [fupd_same];exact rowOf_one) (by rw [wvs_len,hfl,hs])
      rw [ins_ge (f:=n+1) _ (by omega)] at L2
      rw [hcomp]
      simp (disch:=first|omega | (simp (disch:=omega) only [get_of,upd_same,upd_ne,h4];done)) only [resC_cell (ad:=mkA (n+1) ((n+1)*1024+0) 0),resC_nil,Tryd.results66,L2,resThen_some,resAdd_some]
    have ht4:t<4:=by omega
    repeat apply W.seq
    refine W.cond (b:=true) ?_ ?_
    · simp (disch:=omega) only [ev_tmp,get_of,upd_same,upd_ne,hl4,decide_true,decide_false]
    simp only [cond_true,cond_false]
    apply W.skip
    simp only [onN,onB]
    have hql:((fin s V E t).set t ((fin s V E t).getD t 0+V.getD t 0)).length=8:=by rw [List.length_set,hfl,hs]
    have A1:=ld_q (n:=n1+1+1+1) (ti68 ax) rfl (g:=g') (f:=n) (u:=n*1024+0) (off:=0+t) (cs:=wvs (fin s V E t)) (by rw [p1];exact rowOf_one) (by rw [Nat.zero_add];exact wvs_get (by omega)) (by omega)
    have A2:=ld_q (n:=n1+1+1+1) (ti68 ax) rfl (g:=g') (f:=n1+1) (u:=(n1+1)*1024+0) (off:=0+t) (cs:=wvs V) (by rw [p4];exact rowOf_one) (by rw [Nat.zero_add];exact wvs_get (by omega)) (by omega)
    have A3:=fun v hv=>st_q (n:=n1+1+1+1) (ti68 ax) (g:=g') (f:=n) (u:=n*1024+0) (off:=0+t) (v:=v) p1 (by rw [wvs_len];omega) hv (by omega)
    repeat apply W.seq
    apply W.block
    repeat apply W.seq
    apply W.region
    · simp (disch:=first|omega | (simp (disch:=omega) [ev_tmp,ev_const,get_of,upd_same,upd_ne,h94,Tryd.underlying3,Tryd.underlying47,Tryd.underlying5,Tryd.underlying68,Tryd.underlying43];done) | (apply inK_i64;omega) | (apply inK_u64;omega)) only [op_len,cond_true,cond_false,List.toList_toArray,List.map_cons,List.map_nil,some_map,none_map,ti3,ti47,ti5,ti68,ti43,h94,wB0,wB1]
      with_reducible rfl
    simp only [onN,onB]
    repeat apply W.seq
    apply W.last
    · kernel_rfl
    · simp (disch:=first|omega | (simp (disch:=omega) [ev_tmp,ev_const,get_of,upd_same,upd_ne,h2,h6,Tryd.underlying3,Tryd.underlying47,Tryd.underlying5,Tryd.underlying68,Tryd.underlying43];done) | (apply inK_i64;omega) | (apply inK_u64;omega)) only [op_len,cond_true,cond_false,List.toList_toArray,List.map_cons,List.map_nil,some_map,none_map,ti3,ti47,ti5,ti68,ti43,quietL_cons,quietL_one,inner_st,thenL_same,thenL_rd,lastL_some,insAll_nil,insAll_cons,h2,h6,natOf_nat,idx_arr (ti69 ax) (ti68 ax) (show t<8 by omega),idx_arr (ti93 ax) (ti68 ax) ht4,A1,A2,A3 _ (vw_one _),bw_add,cells_vw,I0,I1,wB0,wB1]
      with_reducible rfl
    simp only [onN,onB]
    have hN:fupd g' n ⟨false,[(n*1024+0,(wvs (fin s V E t)).set (0+t) (vw ((fin s V E t).getD t 0+V.getD t 0)))],none⟩=fupd g' n ⟨false,[(n*1024+0,wvs ((fin s V E t).set t ((fin s V E t).getD t 0+V.getD t 0)))],none⟩:=by rw [Nat.zero_add,wvs_set]
    rw [hN]
    have c4:(t:Int)+4=((t+4:Nat):Int):=by omega
    have B1:=ld_q (n:=n1+1+1+1) (ti68 ax) rfl (g:=fupd g' n ⟨false,[(n*1024+0,wvs ((fin s V E t).set t ((fin s V E t).getD t 0+V.getD t 0)))],none⟩) (f:=n) (u:=n*1024+0) (off:=0+(t+4)) (cs:=wvs ((fin s V E t).set t ((fin s V E t).getD t 0+V.getD t 0))) (by rw [fupd_same];exact rowOf_one) (by rw [Nat.zero_add];exact wvs_get (by omega)) (by omega)
    have B2:=ld_q (n:=n1+1+1+1) (ti68 ax) rfl (g:=fupd g' n ⟨false,[(n*1024+0,wvs ((fin s V E t).set t ((fin s V E t).getD t 0+V.getD t 0)))],none⟩) (f:=n1+1+1) (u:=(n1+1+1)*1024+0) (off:=0+t) (cs:=wvs E) (by rw [fupd_ne _ _ _ _ (by omega),p5];exact rowOf_one) (by rw [Nat.zero_add];exact wvs_get (by omega)) (by omega)
    have B3:=fun v hv=>st_q (n:=n1+1+1+1) (ti68 ax) (g:=fupd g' n ⟨false,[(n*1024+0,wvs ((fin s V E t).set t ((fin s V E t).getD t 0+V.getD t 0)))],none⟩) (f:=n) (u:=n*1024+0) (off:=0+(t+4)) (v:=v) (fupd_same _ _ _) (by rw [wvs_len];omega) hv (by omega)
    simp only [fupd_fupd] at B3
    repeat apply W.seq
    apply W.last
    · kernel_rfl
    · simp (disch:=first|omega | (simp (disch:=omega) [ev_tmp,ev_const,get_of,upd_same,upd_ne,h2,h7,Tryd.underlying3,Tryd.underlying47,Tryd.underlying5,Tryd.underlying68,Tryd.underlying43];done) | (apply inK_i64;omega) | (apply inK_u64;omega)) only [op_len,cond_true,cond_false,List.toList_toArray,List.map_cons,List.map_nil,some_map,none_map,ti3,ti47,ti5,ti68,ti43,quietL_cons,quietL_one,inner_st,thenL_same,thenL_rd,lastL_some,insAll_nil,insAll_cons,h2,h7,oi_add,c4,natOf_nat,idx_arr (ti69 ax) (ti68 ax) (show t+4<8 by omega),idx_arr (ti93 ax) (ti68 ax) ht4,B1,B2,B3 _ (vw_one _),bw_add,cells_vw,I0,I2,wB0,wB1]
      with_reducible rfl
    simp only [onN,onB]
    repeat apply W.seq
    apply W.region
    · simp (disch:=first|omega | (simp (disch:=omega) [ev_tmp,ev_const,get_of,upd_same,upd_ne,h94,Tryd.underlying3,Tryd.underlying47,Tryd.underlying5,Tryd.underlying68,Tryd.underlying43];done) | (apply inK_i64;omega) | (apply inK_u64;omega)) only [op_len,cond_true,cond_false,List.toList_toArray,List.map_cons,List.map_nil,some_map,none_map,ti3,ti47,ti5,ti68,ti43,oi_add,h94,wB0,wB1]
      with_reducible rfl
    simp only [onN,onB]
    refine ⟨4 - (t+1),by omega,t+1,_,_,rd',by omega,rfl,rfl,rfl,?_,?_,?_,?_,?_,?_,?_,?_,?_,?_,hrd⟩
    · simp (disch:=omega) only [upd_same,upd_ne,h2]
    · simp (disch:=omega) only [upd_same,upd_ne,h4]
    · simp (disch:=omega) only [upd_same,upd_ne,h6]
    · simp (disch:=omega) only [upd_same,upd_ne,h7]
    · simp (disch:=omega) only [upd_same,upd_ne];rfl
    · rw [fupd_same,Nat.zero_add,wvs_set];rfl
    · rw [fupd_ne _ _ _ _ (by omega)];exact p2
    · rw [fupd_ne _ _ _ _ (by omega)];exact p4
    · rw [fupd_ne _ _ _ _ (by omega)];exact p5
    · intro i hi;rw [fupd_ne _ _ _ _ (by omega)];exact p0 i hi
  have htl:t<64:=by omega
  obtain ⟨l1,l2⟩:=rds_len s (sched bs 64) kt hs t
  have hstep:rds s (sched bs 64) kt (t+1)=([rx (rds s (sched bs 64) kt t).2 (kt.getD t 0) ((sched bs 64).getD t 0)+ry (rds s (sched bs 64) kt t).1,(rds s (sched bs 64) kt t).1.getD 0 0,(rds s (sched bs 64) kt t).1.getD 1 0,(rds s (sched bs 64) kt t).1.getD 2 0],[(rds s (sched bs 64) kt t).1.getD 3 0+rx (rds s (sched bs 64) kt t).2 (kt.getD t 0) ((sched bs 64).getD t 0),(rds s (sched bs 64) kt t).2.getD 0 0,(rds s (sched bs 64) kt t).2.getD 1 0,(rds s (sched bs 64) kt t).2.getD 2 0]):=rfl
  generalize hV:(rds s (sched bs 64) kt t).1=V at *
  generalize hE:(rds s (sched bs 64) kt t).2=E at *
  repeat apply W.seq
  refine W.cond (b:=true) ?_ ?_
  · simp (disch:=omega) only [ev_tmp,get_of,upd_same,upd_ne,hlt,decide_true,decide_false]
  simp only [cond_true,cond_false]
  apply W.skip
  simp only [onN,onB]
  have hkt:(wvs kt).toArray.toList[t]?=some (vw (kt.getD t 0)):=by rw [List.toList_toArray];exact wvs_get (by omega)
  repeat apply W.seq
  apply W.block
  repeat apply W.seq
  apply W.region
  · simp (disch:=first|omega | (simp (disch:=omega) [ev_tmp,ev_const,get_of,upd_same,upd_ne,h21,h22,Tryd.underlying3,Tryd.underlying47,Tryd.underlying5,Tryd.underlying68,Tryd.underlying43];done) | (apply inK_i64;omega) | (apply inK_u64;omega)) only [op_len,cond_true,cond_false,List.toList_toArray,List.map_cons,List.map_nil,some_map,none_map,ti3,ti47,ti5,ti68,ti43,h21,h22,natOf_nat,idx_agg (ti90 ax) (ti68 ax) rfl htl hkt,wB0,wB1]
    with_reducible rfl
  simp only [onN,onB]
  have QV:=fun (k:Nat) (hk:k<4)=>ld_q (n:=n1+1+1+1) (ti68 ax) rfl (g:=g') (f:=n1+1) (u:=(n1+1)*1024+0) (off:=0+k) (cs:=wvs V) (by rw [p4];exact rowOf_one) (by rw [Nat.zero_add];exact wvs_get (by omega)) (by omega)
  have QE:=fun (k:Nat) (hk:k<4)=>ld_q (n:=n1+1+1+1) (ti68 ax) rfl (g:=g') (f:=n1+1+1) (u:=(n1+1+1)*1024+0) (off:=0+k) (cs:=wvs E) (by rw [p5];exact rowOf_one) (by rw [Nat.zero_add];exact wvs_get (by omega)) (by omega)
  have QW:=ld_q (n:=n1+1+1+1) (ti68 ax) rfl (g:=g') (f:=n1) (u:=n1*1024+0) (off:=0+t) (cs:=wvs (sched bs 64)) (by rw [p3];exact rowOf_one) (by rw [Nat.zero_add];exact wvs_get (by rw [sched_len];omega)) (by omega)
  have LV:=fun (rd:List Nat) (k:Nat) (hk:k<4)=>ld_one (n:=n1+1+1+1) (lim:=lim) (rd:=rd) (wr:=wr) (ti68 ax) rfl (g:=g') (f:=n1+1) (u:=(n1+1)*1024+0) (off:=0+k) (cs:=wvs V) (by rw [p4];exact rowOf_one) (by rw [Nat.zero_add];exact wvs_get (by omega))
  have LE:=fun (rd:List Nat) (k:Nat) (hk:k<4)=>ld_one (n:=n1+1+1+1) (lim:=lim) (rd:=rd) (wr:=wr) (ti68 ax) rfl (g:=g') (f:=n1+1+1) (u:=(n1+1+1)*1024+0) (off:=0+k) (cs:=wvs E) (by rw [p5];exact rowOf_one) (by rw [Nat.zero_add];exact wvs_get (by omega))
  have IW:=fun l=>ins_ge (m:=lim) (f:=n1) l (by omega)
  simp only [I1,I2] at LV LE
  have MIX:∀ x s,callR Tryd.prog (EE ax) 74 [vw x,.int .i64 6,.int .i64 11,.int .i64 25] s=some (vw (mix32 x 6 11 25),s):=fun x s=>mix_run ax hp x 6 11 25 (by omega) (by omega) (by omega) (by omega) (by omega) (by omega) s
  have MIY:∀ x s,callR Tryd.prog (EE ax) 74 [vw x,.int .i64 2,.int .i64 13,.int .i64 22] s=some (vw (mix32 x 2 13 22),s):=fun x s=>mix_run ax hp x 2 13 22 (by omega) (by omega) (by omega) (by omega) (by omega) (by omega) s
  repeat apply W.seq
  apply W.quiet
  · simp (disch:=first|omega | (simp (disch:=omega) [ev_tmp,ev_const,get_of,upd_same,upd_ne,h5,h7,Tryd.underlying3,Tryd.underlying47,Tryd.underlying5,Tryd.underlying68,Tryd.underlying43];done) | (apply inK_i64;omega) | (apply inK_u64;omega)) only [op_len,cond_true,cond_false,List.toList_toArray,List.map_cons,List.map_nil,some_map,none_map,ti3,ti47,ti5,ti68,ti43,quietC_cons,quietC_nil,inner_st,thenQ_same,thenQ_rd,h5,h7,natOf_nat,natOf_lit,idx_arr (ti90 ax) (ti68 ax) htl,idx_arr (ti93 ax) (ti68 ax) (show 0<4 by omega),idx_arr (ti93 ax) (ti68 ax) (show 1<4 by omega),idx_arr (ti93 ax) (ti68 ax) (show 2<4 by omega),idx_arr (ti93 ax) (ti68 ax) (show 3<4 by omega),QE 0 (by omega),QE 1 (by omega),QE 2 (by omega),QE 3 (by omega),QW,MIX,bw_add,bw_and,bw_xor,bw_not,I2,IW,wB0,wB1]
    with_reducible rfl
  simp only [onN,onB]
  repeat apply W.seq
  apply W.quiet
  · simp (disch:=first|omega | (simp (disch:=omega) [ev_tmp,ev_const,get_of,upd_same,upd_ne,h6,Tryd.underlying3,Tryd.underlying47,Tryd.underlying5,Tryd.underlying68,Tryd.underlying43];done) | (apply inK_i64;omega) | (apply inK_u64;omega)) only [op_len,cond_true,cond_false,List.toList_toArray,List.map_cons,List.map_nil,some_map,none_map,ti3,ti47,ti5,ti68,ti43,quietC_cons,quietC_nil,inner_st,thenQ_same,thenQ_rd,h6,natOf_lit,idx_arr (ti93 ax) (ti68 ax) (show 0<4 by omega),idx_arr (ti93 ax) (ti68 ax) (show 1<4 by omega),idx_arr (ti93 ax) (ti68 ax) (show 2<4 by omega),QV 0 (by omega),QV 1 (by omega),QV 2 (by omega),MIY,bw_add,bw_and,bw_xor,I1,wB0,wB1]
    with_reducible rfl
  simp only [onN,onB]
  have SE:=fun x=>st_all (n:=n1+1+1+1) (lim:=lim) (rd:=rd') (wr:=wr) (ti93 ax) (f:=n1+1+1) (u:=(n1+1+1)*1024+0) (vs:=[vw (V.getD 3 0+x),vw (E.getD 0 0),vw (E.getD 1 0),vw (E.getD 2 0)]) p5 rfl (by rw [wvs_len];omega) rfl
  simp only [I2] at SE
  repeat apply W.seq
  apply W.region
  · simp (disch:=first|omega | (simp (disch:=omega) [ev_tmp,ev_const,get_of,upd_same,upd_ne,h6,h7,cells_vw,Tryd.underlying3,Tryd.underlying47,Tryd.underlying5,Tryd.underlying68,Tryd.underlying43];done) | (apply inK_i64;omega) | (apply inK_u64;omega)) only [op_len,cond_true,cond_false,List.toList_toArray,List.map_cons,List.map_nil,some_map,none_map,ti3,ti47,ti5,ti68,ti43,h6,h7,natOf_lit,idx_arr (ti93 ax) (ti68 ax) (show 0<4 by omega),idx_arr (ti93 ax) (ti68 ax) (show 1<4 by omega),idx_arr (ti93 ax) (ti68 ax) (show 2<4 by omega),idx_arr (ti93 ax) (ti68 ax) (show 3<4 by omega),LV rd' 3 (by omega),LE rd' 0 (by omega),LE rd' 1 (by omega),LE rd' 2 (by omega),bw_add,build_arr4 (ti93 ax) (ti68 ax),cells_agg,SE,wB0,wB1]
    with_reducible rfl
  simp only [onN,onB]
  have p4':∀ x,fupd g' (n1+1+1) x (n1+1)=⟨false,[((n1+1)*1024+0,wvs V)],none⟩:=fun x=>by rw [fupd_ne _ _ _ _ (by omega)];exact p4
  have LV2:=fun (x:Fam) (k:Nat) (hk:k<4)=>ld_one (n:=n1+1+1+1) (lim:=lim) (rd:=rd') (wr:=wr) (ti68 ax) rfl (g:=fupd g' (n1+1+1) x) (f:=n1+1) (u:=(n1+1)*1024+0) (off:=0+k) (cs:=wvs V) (by rw [p4' x];exact rowOf_one) (by rw [Nat.zero_add];exact wvs_get (by omega))
  have SV:=fun fm x=>st_all (n:=n1+1+1+1) (lim:=lim) (rd:=rd') (wr:=wr) (ti93 ax) (f:=n1+1) (u:=(n1+1)*1024+0) (vs:=[vw x,vw (V.getD 0 0),vw (V.getD 1 0),vw (V.getD 2 0)]) (p4' fm) rfl (by rw [wvs_len];omega) rfl
  simp only [I1] at SV LV2
  repeat apply W.seq
  apply W.region
  · simp (disch:=first|omega | (simp (disch:=omega) [ev_tmp,ev_const,get_of,upd_same,upd_ne,h6,cells_vw,Tryd.underlying3,Tryd.underlying47,Tryd.underlying5,Tryd.underlying68,Tryd.underlying43];done) | (apply inK_i64;omega) | (apply inK_u64;omega)) only [op_len,cond_true,cond_false,List.toList_toArray,List.map_cons,List.map_nil,some_map,none_map,ti3,ti47,ti5,ti68,ti43,h6,natOf_lit,idx_arr (ti93 ax) (ti68 ax) (show 0<4 by omega),idx_arr (ti93 ax) (ti68 ax) (show 1<4 by omega),idx_arr (ti93 ax) (ti68 ax) (show 2<4 by omega),LV2 _ 0 (by omega),LV2 _ 1 (by omega),LV2 _ 2 (by omega),bw_add,build_arr4 (ti93 ax) (ti68 ax),cells_agg,SV,wB0,wB1]
    with_reducible rfl
  simp only [onN,onB]
  repeat apply W.seq
  apply W.region
  · simp (disch:=first|omega | (simp (disch:=omega) [ev_tmp,ev_const,get_of,upd_same,upd_ne,h22,Tryd.underlying3,Tryd.underlying47,Tryd.underlying5,Tryd.underlying68,Tryd.underlying43];done) | (apply inK_i64;omega) | (apply inK_u64;omega)) only [op_len,cond_true,cond_false,List.toList_toArray,List.map_cons,List.map_nil,some_map,none_map,ti3,ti47,ti5,ti68,ti43,oi_add,h22,wB0,wB1]
    with_reducible rfl
  simp only [onN,onB]
  refine ⟨64 - (t+1),by omega,t+1,_,_,rd',by omega,rfl,rfl,rfl,?_,?_,?_,?_,?_,?_,?_,?_,?_,?_,?_,?_,?_,hrd⟩
  · simp (disch:=omega) only [upd_same,upd_ne,h2]
  · simp (disch:=omega) only [upd_same,upd_ne,h4]
  · simp (disch:=omega) only [upd_same,upd_ne,h6]
  · simp (disch:=omega) only [upd_same,upd_ne,h7]
  · simp (disch:=omega) only [upd_same,upd_ne,h5]
  · simp (disch:=omega) only [upd_same,upd_ne,h21]
  · simp (disch:=omega) only [upd_same,upd_ne];rfl
  · rw [fupd_ne _ _ _ _ (by omega),fupd_ne _ _ _ _ (by omega)];exact p1
  · rw [fupd_ne _ _ _ _ (by omega),fupd_ne _ _ _ _ (by omega)];exact p2
  · rw [fupd_ne _ _ _ _ (by omega),fupd_ne _ _ _ _ (by omega)];exact p3
  · rw [fupd_same,hstep];rfl
  · rw [fupd_ne _ _ _ _ (by omega),fupd_same,hstep];rfl
  · intro i hi;rw [fupd_ne _ _ _ _ (by omega),fupd_ne _ _ _ _ (by omega)];exact p0 i hi
end Go.Proofs.YtcgdomhednbdpaaDoor
namespace Go.Proofs.YtcgdomhednbdpaaDoor
open Go Go.RowKit
noncomputable def fc {α:Type} (n:Nat) (k:Nat→α):α:=Nat.rec (k 0) (fun m _=>k (Nat.succ m)) n
theorem fc_eq {α:Type} (n:Nat) (k:Nat→α):fc n k=k n:=by cases n<;>rfl
def addN (x y:Nat):Nat:=Nat.mod (Nat.add x y) 4294967296
def rotN (x i:Nat):Nat:=Nat.lor (Nat.mod (Nat.shiftLeft x (32 - i)) 4294967296) (Nat.shiftRight x i)
def mixN (x i j k:Nat):Nat:=Nat.xor (Nat.xor (rotN x i) (rotN x j)) (rotN x k)
def rxN (a b c d k w:Nat):Nat:=addN (addN (addN (addN d (mixN a 6 11 25)) (Nat.xor (Nat.land a b) (Nat.land (Nat.sub 4294967295 a) c))) k) w
def ryN (a b c:Nat):Nat:=addN (mixN a 2 13 22) (Nat.xor (Nat.xor (Nat.land a b) (Nat.land a c)) (Nat.land b c))
def sg0N (p:Nat):Nat:=Nat.xor (Nat.xor (rotN p 7) (rotN p 18)) (Nat.shiftRight p 3)
def sg1N (p:Nat):Nat:=Nat.xor (Nat.xor (rotN p 17) (rotN p 19)) (Nat.shiftRight p 10)
def nxN (a b c d:Nat):Nat:=addN (addN (addN a (sg0N b)) c) (sg1N d)
def stN (a b:Nat):Nat:=Nat.lor (Nat.mod (Nat.shiftLeft a 8) 4294967296) b
def wdN (b:List Nat) (i:Nat):Nat:=stN (stN (stN (stN 0 (b.getD (i+0) 0)) (b.getD (i+1) 0)) (b.getD (i+2) 0)) (b.getD (i+3) 0)
noncomputable def extN:Nat→Nat→Nat→Nat→Nat→Nat→Nat→Nat→Nat→Nat→Nat→Nat→Nat→Nat→Nat→Nat→Nat→List Nat
  |0,w0,w1,w2,w3,w4,w5,w6,w7,w8,w9,w10,w11,w12,w13,w14,w15=>[w0,w1,w2,w3,w4,w5,w6,w7,w8,w9,w10,w11,w12,w13,w14,w15]
  |n+1,w0,w1,w2,w3,w4,w5,w6,w7,w8,w9,w10,w11,w12,w13,w14,w15=>fc (nxN w0 w1 w9 w14) fun x=>w0 :: extN n w1 w2 w3 w4 w5 w6 w7 w8 w9 w10 w11 w12 w13 w14 w15 x
noncomputable def rd8:List Nat→List Nat→Nat→Nat→Nat→Nat→Nat→Nat→Nat→Nat→List Nat
  |w :: ws,k :: ks,a,b,c,d,e,f,g,h=>fc (rxN e f g h k w) fun x=>fc (addN x (ryN a b c)) fun a'=>fc (addN d x) fun e'=>rd8 ws ks a' a b c e' e f g
  |_,_,a,b,c,d,e,f,g,h=>[a,b,c,d,e,f,g,h]
def sumN:List Nat→List Nat→List Nat
  |a :: l,b :: m=>addN a b :: sumN l m
  |_,_=>[]
noncomputable def compN (kt s b:List Nat):List Nat :=
  sumN s (rd8 (extN 48 (wdN b 0) (wdN b 4) (wdN b 8) (wdN b 12) (wdN b 16) (wdN b 20) (wdN b 24) (wdN b 28) (wdN b 32) (wdN b 36) (wdN b 40) (wdN b 44) (wdN b 48) (wdN b 52) (wdN b 56) (wdN b 60)) kt (s.getD 0 0) (s.getD 1 0) (s.getD 2 0) (s.getD 3 0) (s.getD 4 0) (s.getD 5 0) (s.getD 6 0) (s.getD 7 0))
theorem t_add (x y:UInt32):(x+y).toNat=addN x.toNat y.toNat:=UInt32.toNat_add x y
theorem t_and (x y:UInt32):(x &&& y).toNat=Nat.land x.toNat y.toNat:=UInt32.toNat_and x y
theorem t_or (x y:UInt32):(x ||| y).toNat=Nat.lor x.toNat y.toNat:=UInt32.toNat_or x y
theorem t_xor (x y:UInt32):(x ^^^ y).toNat=Nat.xor x.toNat y.toNat:=UInt32.toNat_xor x y
theorem t_not (x:UInt32):(~~~x).toNat=Nat.sub 4294967295 x.toNat:=by
  have:(~~~x).toNat=4294967295 - x.toNat:=by rw [UInt32.toNat_not];rfl
  exact this
theorem t_shl (x:UInt32) (n:Nat):(shl32 x n).toNat=Nat.mod (Nat.shiftLeft x.toNat n) 4294967296:=by
  show (x.toBitVec <<< n).toNat=_
  rw [BitVec.toNat_shiftLeft];rfl
theorem t_shr (x:UInt32) (n:Nat):(shr32 x n).toNat=Nat.shiftRight x.toNat n:=by
  show (x.toBitVec >>> n).toNat=_
  rw [BitVec.toNat_ushiftRight];rfl
theorem t_rot (x:UInt32) (i:Nat):(rotr32 x i).toNat=rotN x.toNat i:=by unfold rotr32 rotN;rw [t_or,t_shl,t_shr]
theorem t_mix (x:UInt32) (i j k:Nat):(mix32 x i j k).toNat=mixN x.toNat i j k:=by unfold mix32 mixN;rw [t_xor,t_xor,t_rot,t_rot,t_rot]
theorem t_rx (e:List UInt32) (k w:UInt32):(rx e k w).toNat=rxN (e.getD 0 0).toNat (e.getD 1 0).toNat (e.getD 2 0).toNat (e.getD 3 0).toNat k.toNat w.toNat:=by
  unfold rx rxN
  simp only [t_add,t_mix,t_xor,t_and,t_not]
theorem t_ry (v:List UInt32):(ry v).toNat=ryN (v.getD 0 0).toNat (v.getD 1 0).toNat (v.getD 2 0).toNat:=by
  unfold ry ryN
  simp only [t_add,t_mix,t_xor,t_and]
theorem t_nx (w:List UInt32) (t:Nat):(nextw w t).toNat=nxN (w.getD (t - 16) 0).toNat (w.getD (t - 15) 0).toNat (w.getD (t - 7) 0).toNat (w.getD (t - 2) 0).toNat:=by
  unfold nextw nxN sig0 sig1 sg0N sg1N
  simp only [t_add,t_xor,t_rot,t_shr]
theorem t_byte (x:UInt8):x.toUInt32.toNat=x.toNat:=UInt8.toNat_toUInt32 x
theorem getD_mapN (l:List UInt8) (i:Nat):(l.map UInt8.toNat).getD i 0=(l.getD i 0).toNat:=by
  rw [List.getD_eq_getElem?_getD,List.getD_eq_getElem?_getD,List.getElem?_map]
  cases l[i]?<;>rfl
theorem getW_map (l:List UInt32) (i:Nat):(l.map UInt32.toNat).getD i 0=(l.getD i 0).toNat:=by
  rw [List.getD_eq_getElem?_getD,List.getD_eq_getElem?_getD,List.getElem?_map]
  cases l[i]?<;>rfl
theorem t_word (bs:List UInt8) (t:Nat):(word bs t 4).toNat=wdN (bs.map UInt8.toNat) (4*t):=by
  unfold wdN
  simp only [getD_mapN]
  simp only [word,t_or,t_shl,t_byte]
  rfl
theorem sched_keep (bs:List UInt8) (i:Nat):∀ m,i<m→(sched bs m).getD i 0=(sched bs (i+1)).getD i 0
  |0,h=>by omega
  |m+1,h=>by
    by_cases hm:m=i
    · subst hm;rfl
    · rw [sched,List.getD_eq_getElem?_getD,List.getElem?_set_ne hm,← List.getD_eq_getElem?_getD]
      exact sched_keep bs i m (by omega)
theorem sched_get (bs:List UInt8) (i:Nat) (h:i<64):(sched bs 64).getD i 0=if i<16 then word bs i 4 else nextw (sched bs 64) i:=by
  rw [sched_keep bs i 64 h]
  conv=>lhs;rw [sched]
  rw [getD_set_same (by rw [sched_len];exact h)]
  by_cases h16:i<16
  · rw [if_pos h16,if_pos h16]
  · rw [if_neg h16,if_neg h16]
    have k:∀ j,j<i→(sched bs i).getD j 0=(sched bs 64).getD j 0:=fun j hj=>by rw [sched_keep bs j i hj,sched_keep bs j 64 (by omega)]
    unfold nextw
    rw [k _ (by omega),k _ (by omega),k _ (by omega),k _ (by omega)]
theorem drop_cons {α:Type} (l:List α) (t:Nat) (d:α) (h:t<l.length):l.drop t=l.getD t d :: l.drop (t+1):=by
  rw [List.drop_eq_getElem_cons h,List.getD_eq_getElem?_getD,List.getElem?_eq_getElem h];rfl
theorem ext_eq (bs:List UInt8):∀ j t,t+16+j=64→extN j ((sched bs 64).getD t 0).toNat ((sched bs 64).getD (t+1) 0).toNat ((sched bs 64).getD (t+2) 0).toNat ((sched bs 64).getD (t+3) 0).toNat ((sched bs 64).getD (t+4) 0).toNat ((sched bs 64).getD (t+5) 0).toNat ((sched bs 64).getD (t+6) 0).toNat ((sched bs 64).getD (t+7) 0).toNat ((sched bs 64).getD (t+8) 0).toNat ((sched bs 64).getD (t+9) 0).toNat ((sched bs 64).getD (t+10) 0).toNat ((sched bs 64).getD (t+11) 0).toNat ((sched bs 64).getD (t+12) 0).toNat ((sched bs 64).getD (t+13) 0).toNat ((sched bs 64).getD (t+14) 0).toNat ((sched bs 64).getD (t+15) 0).toNat=((sched bs 64).drop t).map UInt32.toNat
  |0,t,h=>by
    have hl:=sched_len bs 64
    have ht:t=48:=by omega
    subst ht
    rw [extN]
    rw [drop_cons (sched bs 64) 48 0 (by omega)];rw [drop_cons (sched bs 64) 49 0 (by omega)];rw [drop_cons (sched bs 64) 50 0 (by omega)];rw [drop_cons (sched bs 64) 51 0 (by omega)];rw [drop_cons (sched bs 64) 52 0 (by omega)];rw [drop_cons (sched bs 64) 53 0 (by omega)];rw [drop_cons (sched bs 64) 54 0 (by omega)];rw [drop_cons (sched bs 64) 55 0 (by omega)];rw [drop_cons (sched bs 64) 56 0 (by omega)];rw [drop_cons (sched bs 64) 57 0 (by omega)];rw [drop_cons (sched bs 64) 58 0 (by omega)];rw [drop_cons (sched bs 64) 59 0 (by omega)];rw [drop_cons (sched bs 64) 60 0 (by omega)];rw [drop_cons (sched bs 64) 61 0 (by omega)];rw [drop_cons (sched bs 64) 62 0 (by omega)];rw [drop_cons (sched bs 64) 63 0 (by omega)];
    rw [List.drop_of_length_le (by omega)]
    all_goals rfl
  |j+1,t,h=>by
    have hl:=sched_len bs 64
    rw [extN,fc_eq,drop_cons (sched bs 64) t 0 (by omega),List.map_cons]
    have e:=ext_eq bs j (t+1) (by omega)
    have hx:nxN ((sched bs 64).getD t 0).toNat ((sched bs 64).getD (t+1) 0).toNat ((sched bs 64).getD (t+9) 0).toNat ((sched bs 64).getD (t+14) 0).toNat=((sched bs 64).getD (t+1+15) 0).toNat:=by
      rw [sched_get bs (t+1+15) (by omega),if_neg (by omega),t_nx]
      rw [show t+1+15 - 16=t by omega,show t+1+15 - 15=t+1 by omega,show t+1+15 - 7=t+9 by omega,show t+1+15 - 2=t+14 by omega]
    rw [hx,← e]
theorem rd8_nil (ks:List Nat) (a b c d e f g h:Nat):rd8 [] ks a b c d e f g h=[a,b,c,d,e,f,g,h]:=by cases ks<;>rfl
theorem rd8_eq (s w kt : List UInt32) (hw : w.length = 64) (hk : kt.length = 64) : ∀ j t, t + j = 64 → rd8 ((w.drop t).map UInt32.toNat) ((kt.drop t).map UInt32.toNat) ((rds s w kt t).1.getD 0 0).toNat ((rds s w kt t).1.getD 1 0).toNat ((rds s w kt t).1.getD 2 0).toNat ((rds s w kt t).1.getD 3 0).toNat ((rds s w kt t).2.getD 0 0).toNat ((rds s w kt t).2.getD 1 0).toNat ((rds s w kt t).2.getD 2 0).toNat ((rds s w kt t).2.getD 3 0).toNat
    = [((rds s w kt 64).1.getD 0 0).toNat,((rds s w kt 64).1.getD 1 0).toNat,((rds s w kt 64).1.getD 2 0).toNat,((rds s w kt 64).1.getD 3 0).toNat,((rds s w kt 64).2.getD 0 0).toNat,((rds s w kt 64).2.getD 1 0).toNat,((rds s w kt 64).2.getD 2 0).toNat,((rds s w kt 64).2.getD 3 0).toNat]
  |0,t,h=>by
    have ht:t=64:=by omega
    subst ht
    rw [List.drop_of_length_le (by omega),List.map_nil,rd8_nil]
  |j+1,t,h=>by
    have e:=rd8_eq s w kt hw hk j (t+1) (by omega)
    rw [drop_cons w t 0 (by omega),drop_cons kt t 0 (by omega),List.map_cons,List.map_cons,rd8,fc_eq,fc_eq,fc_eq,← t_rx,← t_ry,← t_add,← t_add,← e]
    rfl
theorem len4 {l:List UInt32} (h:l.length=4):∃ a b c d,l=[a,b,c,d]:=by
  match l,h with
  |[a,b,c,d],_=>exact ⟨a,b,c,d,rfl⟩
theorem len8 {l:List UInt32} (h:l.length=8):∃ a b c d e f g k,l=[a,b,c,d,e,f,g,k]:=by
  match l,h with
  |[a,b,c,d,e,f,g,k],_=>exact ⟨a,b,c,d,e,f,g,k,rfl⟩
theorem comp_eq (kt s:List UInt32) (bs:List UInt8) (hs:s.length=8) (hk:kt.length=64):(comp kt s bs).map UInt32.toNat=compN (kt.map UInt32.toNat) (s.map UInt32.toNat) (bs.map UInt8.toNat):=by
  unfold compN
  have hx:extN 48 (wdN (bs.map UInt8.toNat) 0) (wdN (bs.map UInt8.toNat) 4) (wdN (bs.map UInt8.toNat) 8) (wdN (bs.map UInt8.toNat) 12) (wdN (bs.map UInt8.toNat) 16) (wdN (bs.map UInt8.toNat) 20) (wdN (bs.map UInt8.toNat) 24) (wdN (bs.map UInt8.toNat) 28) (wdN (bs.map UInt8.toNat) 32) (wdN (bs.map UInt8.toNat) 36) (wdN (bs.map UInt8.toNat) 40) (wdN (bs.map UInt8.toNat) 44) (wdN (bs.map UInt8.toNat) 48) (wdN (bs.map UInt8.toNat) 52) (wdN (bs.map UInt8.toNat) 56) (wdN (bs.map UInt8.toNat) 60)=(sched bs 64).map UInt32.toNat:=by
    have h:=ext_eq bs 48 0 rfl
    rw [List.drop_zero] at h
    rw [← h]
    have g:∀ i,i<16→((sched bs 64).getD i 0).toNat=wdN (bs.map UInt8.toNat) (4*i):=fun i hi=>by rw [sched_get bs i (by omega),if_pos hi,t_word]
    simp only [Nat.zero_add,g 0 (by omega),g 1 (by omega),g 2 (by omega),g 3 (by omega),g 4 (by omega),g 5 (by omega),g 6 (by omega),g 7 (by omega),g 8 (by omega),g 9 (by omega),g 10 (by omega),g 11 (by omega),g 12 (by omega),g 13 (by omega),g 14 (by omega),g 15 (by omega),Nat.reduceMul]
  rw [hx]
  have h:=rd8_eq s (sched bs 64) kt (sched_len _ _) hk 64 0 rfl
  rw [List.drop_zero,List.drop_zero] at h
  have d0:rds s (sched bs 64) kt 0=(s.take 4,s.drop 4):=rfl
  rw [d0] at h
  obtain ⟨l1,l2⟩:=rds_len s (sched bs 64) kt hs 64
  unfold comp
  generalize rds s (sched bs 64) kt 64=p at *
  obtain ⟨V,E⟩:=p
  obtain ⟨a,b,c,d,e,f,g,k,rfl⟩:=len8 hs
  obtain ⟨v0,v1,v2,v3,rfl⟩:=len4 l1
  obtain ⟨e0,e1,e2,e3,rfl⟩:=len4 l2
  simp only [getW_map]
  have h':rd8 ((sched bs 64).map UInt32.toNat) (kt.map UInt32.toNat) a.toNat b.toNat c.toNat d.toNat e.toNat f.toNat g.toNat k.toNat=[v0.toNat,v1.toNat,v2.toNat,v3.toNat,e0.toNat,e1.toNat,e2.toNat,e3.toNat]:=h
  show _=sumN _ (rd8 ((sched bs 64).map UInt32.toNat) (kt.map UInt32.toNat) a.toNat b.toNat c.toNat d.toNat e.toNat f.toNat g.toNat k.toNat)
  rw [h']
  show [_,_,_,_,_,_,_,_]=_
  rfl
end Go.Proofs.YtcgdomhednbdpaaDoor
namespace Go.Proofs.YtcgdomhednbdpaaDoor
open Go Go.RowKit
noncomputable def fcL {α:Type}:List Nat→(List Nat→α)→α
  |[],k=>k []
  |n :: l,k=>fc n fun n'=>fcL l fun l'=>k (n' :: l')
theorem fcL_eq {α:Type}:∀ (l:List Nat) (k:List Nat→α),fcL l k=k l
  |[],k=>rfl
  |n :: l,k=>by rw [fcL,fc_eq,fcL_eq l]
noncomputable def wordsN:List Value→Option (List Nat)
  |[]=>some []
  |.int .u32 (.ofNat n) :: l=>bif Nat.blt n 4294967296 then (match wordsN l with|some r=>some (n :: r)|none=>none) else none
  |_ :: _=>none
noncomputable def bytesN:List Value→Option (List Nat)
  |[]=>some []
  |.int .u8 (.ofNat n) :: l=>bif Nat.blt n 256 then (match bytesN l with|some r=>some (n :: r)|none=>none) else none
  |_ :: _=>none
theorem wordsN_out:∀ {l:List Value} {r:List Nat},wordsN l=some r→∃ w:List UInt32,l=wvs w∧r=w.map UInt32.toNat
  |[],r,h=>by simp [wordsN] at h;subst h;exact ⟨[],rfl,rfl⟩
  |v :: l,r,h=>by
    unfold wordsN at h
    split at h
    · simp_all
    · rename_i n l' heq
      simp only [List.cons.injEq] at heq
      obtain ⟨rfl,rfl⟩:=heq
      cases hb:Nat.blt n 4294967296 with
      |false=>rw [hb] at h;simp at h
      |true =>
        rw [hb] at h
        simp only [cond_true] at h
        have hn:=blt_iff.1 hb
        cases hq:wordsN l with
        |none=>rw [hq] at h;simp at h
        |some r' =>
          rw [hq] at h
          simp only [Option.some.injEq] at h
          subst h
          obtain ⟨w,rfl,rfl⟩:=wordsN_out hq
          have he:(UInt32.ofNat n).toNat=n:=UInt32.toNat_ofNat_of_lt' hn
          refine ⟨UInt32.ofNat n :: w,?_,?_⟩
          · show _=vw (UInt32.ofNat n) :: wvs w
            unfold vw
            rw [he];rfl
          · rw [List.map_cons,he]
    · simp at h
theorem bytesN_out:∀ {l:List Value} {r:List Nat},bytesN l=some r→∃ w:List UInt8,l=bvs w∧r=w.map UInt8.toNat
  |[],r,h=>by simp [bytesN] at h;subst h;exact ⟨[],rfl,rfl⟩
  |v :: l,r,h=>by
    unfold bytesN at h
    split at h
    · simp_all
    · rename_i n l' heq
      simp only [List.cons.injEq] at heq
      obtain ⟨rfl,rfl⟩:=heq
      cases hb:Nat.blt n 256 with
      |false=>rw [hb] at h;simp at h
      |true =>
        rw [hb] at h
        simp only [cond_true] at h
        have hn:=blt_iff.1 hb
        cases hq:bytesN l with
        |none=>rw [hq] at h;simp at h
        |some r' =>
          rw [hq] at h
          simp only [Option.some.injEq] at h
          subst h
          obtain ⟨w,rfl,rfl⟩:=bytesN_out hq
          have he:(UInt8.ofNat n).toNat=n:=UInt8.toNat_ofNat_of_lt' hn
          refine ⟨UInt8.ofNat n :: w,?_,?_⟩
          · show _=vb (UInt8.ofNat n) :: bvs w
            unfold vb
            rw [he];rfl
          · rw [List.map_cons,he]
    · simp at h
theorem wordsN_in:∀ (w:List UInt32),wordsN (wvs w)=some (w.map UInt32.toNat)
  |[]=>rfl
  |x :: w=>by
    show (bif Nat.blt x.toNat 4294967296 then (match wordsN (wvs w) with|some r=>some (x.toNat :: r)|none=>none) else none)=_
    rw [wordsN_in w,blt_ok x.toNat_lt];rfl
theorem bytesN_in:∀ (w:List UInt8),bytesN (bvs w)=some (w.map UInt8.toNat)
  |[]=>rfl
  |x :: w=>by
    show (bif Nat.blt x.toNat 256 then (match bytesN (bvs w) with|some r=>some (x.toNat :: r)|none=>none) else none)=_
    rw [bytesN_in w,blt_ok x.toNat_lt];rfl
noncomputable def natW (n:Nat):Value:=.int .u32 (.ofNat n)
theorem natW_map (w:List UInt32):(w.map UInt32.toNat).map natW=wvs w:=by rw [List.map_map];rfl
noncomputable def compOk (s:CS) (a:Addr) (u len cap:Nat) (sN bN kN:List Nat):Bool :=
  Nat.beq len 64 && (Nat.ble len cap && (Nat.blt cap 1000000000 && (Nat.beq sN.length 8 && (Nat.beq bN.length 64 && (Nat.beq kN.length 64 && (Nat.blt a.block s.n && (Nat.blt 1 s.n && (Nat.beq (u % 1024) 0 || Nat.beq (u % 1024) 2))))))))
noncomputable def hComp3 (s:CS) (a:Addr) (u len cap:Nat):Option (List Nat)→Option (List Nat)→Option (List Nat)→Option (Value×CS)
  | some sN, some bN, some kN => bif compOk s a u len cap sN bN kN then
      fcL sN fun sN=>fcL bN fun bN=>fcL kN fun kN=>fcL (compN kN sN bN) fun r=>some (.agg (r.map natW).toArray,{ s with n:=s.n+7,rd:=ins s.lim (ins s.lim s.rd a.block) 1 }) else none
  |_,_,_=>none
noncomputable def hComp2 (s:CS) (ws:List Value) (a:Addr) (u len cap:Nat):Option (List Value)→Option (List Value)→Option (Value×CS)
  |some cs,some kc=>hComp3 s a u len cap (wordsN ws) (bytesN ((cs.drop a.off).take 64)) (wordsN kc)
  |_,_=>none
noncomputable def hComp:List Value→CS→Option (Value×CS)
  |[.agg ws,.slice (some ⟨f,o,some u⟩) len cap],s=>hComp2 s ws.toList ⟨f,o,some u⟩ u len cap (rowOf (objAt s.obj f).rows u) (rowOf (objAt s.obj 1).rows (1*1024))
  |_,_=>none
theorem ins_in {lim f:Nat} {l:List Nat} (h:f<lim):f∈ins lim l f:=by
  rcases @ins_self lim l f with k|k
  · exact k
  · omega
theorem hComp_eq (kt st : List UInt32) (bs : List UInt8) (f u o len cap : Nat) (s : CS) (cs : List Value) (hr : rowOf (objAt s.obj f).rows u = some cs) (hc : (cs.drop o).take 64 = bvs bs) (hk : rowOf (objAt s.obj 1).rows (1 * 1024) = some (wvs kt)) (hs : st.length = 8) (hkt : kt.length = 64) (hb : bs.length = 64) (hlen : len = 64) (hcap : len ≤ cap) (hcap2 : cap < 1000000000) (hf : f < s.n) (hG : 1 < s.n) (hu : u % 1024 = 0 ∨ u % 1024 = 2) :
    hComp [.agg (wvs st).toArray,.slice (some (mkA f u o)) len cap] s=some (.agg (wvs (comp kt st bs)).toArray,{ s with n:=s.n+7,rd:=ins s.lim (ins s.lim s.rd f) 1 }):=by
  show hComp2 s (wvs st).toArray.toList (mkA f u o) u len cap _ _=_
  rw [hr,hk]
  show hComp3 s (mkA f u o) u len cap (wordsN (wvs st).toArray.toList) (bytesN ((cs.drop o).take 64)) (wordsN (wvs kt))=_
  rw [List.toList_toArray,hc,wordsN_in,wordsN_in,bytesN_in]
  unfold hComp3
  have hok:compOk s (mkA f u o) u len cap (st.map UInt32.toNat) (bs.map UInt8.toNat) (kt.map UInt32.toNat)=true:=by
    unfold compOk
    rw [List.length_map,List.length_map,List.length_map,beq_ok hlen,ble_ok hcap,blt_ok hcap2,beq_ok hs,beq_ok hb,beq_ok hkt,block_mk,blt_ok hf,blt_ok hG]
    rcases hu with hu|hu
    · rw [beq_ok hu];rfl
    · rw [beq_ok hu];simp
  simp only [hok,cond_true,fcL_eq]
  rw [← comp_eq kt st bs hs hkt,natW_map]
  rfl
theorem hComp_out {args : List Value} {s : CS} {r : Value × CS} (h : hComp args s = some r) : ∃ (kt st : List UInt32) (bs : List UInt8) (f u o len cap : Nat) (cs : List Value), args = [.agg (wvs st).toArray, .slice (some (mkA f u o)) len cap] ∧ r = (.agg (wvs (comp kt st bs)).toArray, { s with n := s.n + 7, rd := ins s.lim (ins s.lim s.rd f) 1 })
    ∧ rowOf (objAt s.obj f).rows u=some cs∧(cs.drop o).take 64=bvs bs∧rowOf (objAt s.obj 1).rows (1*1024)=some (wvs kt)∧st.length=8∧kt.length=64∧bs.length=64∧len=64∧len≤cap∧cap<1000000000∧f<s.n∧1<s.n∧(u % 1024=0∨u % 1024=2):=by
  unfold hComp at h
  split at h
  · rename_i ws f o u len cap
    cases h1:rowOf (objAt s.obj f).rows u with
    |none=>rw [h1] at h;simp [hComp2] at h
    |some cs =>
      cases h2:rowOf (objAt s.obj 1).rows (1*1024) with
      |none=>rw [h1,h2] at h;simp [hComp2] at h
      |some kc =>
        rw [h1,h2] at h
        simp only [hComp2] at h
        cases h3:wordsN ws.toList with
        |none=>rw [h3] at h;simp [hComp3] at h
        |some sN =>
          cases h4:bytesN ((cs.drop o).take 64) with
          |none=>rw [h3,h4] at h;simp [hComp3] at h
          |some bN =>
            cases h5:wordsN kc with
            |none=>rw [h3,h4,h5] at h;simp [hComp3] at h
            |some kN =>
              rw [h3,h4,h5] at h
              simp only [hComp3,fcL_eq] at h
              cases h6:compOk s ⟨f,o,some u⟩ u len cap sN bN kN with
              |false=>rw [h6] at h;simp at h
              |true =>
                rw [h6] at h
                simp only [cond_true,Option.some.injEq] at h
                obtain ⟨st,e1,rfl⟩:=wordsN_out h3
                obtain ⟨bs,e2,rfl⟩:=bytesN_out h4
                obtain ⟨kt,rfl,rfl⟩:=wordsN_out h5
                unfold compOk at h6
                simp only [Bool.and_eq_true,Bool.or_eq_true,List.length_map] at h6
                obtain ⟨a1,a2,a3,a4,a5,a6,a7,a8,a9⟩:=h6
                have b4:=Nat.eq_of_beq_eq_true a4
                have b6:=Nat.eq_of_beq_eq_true a6
                refine ⟨kt,st,bs,f,u,o,len,cap,cs,?_,?_,h1,e2,rfl,b4,b6,Nat.eq_of_beq_eq_true a5,Nat.eq_of_beq_eq_true a1,ble_iff.1 a2,blt_iff.1 a3,blt_iff.1 a7,blt_iff.1 a8,a9.imp Nat.eq_of_beq_eq_true Nat.eq_of_beq_eq_true⟩
                · rw [← e1];rfl
                · rw [← h,← comp_eq kt st bs b4 b6,natW_map]
  · simp at h
theorem hComp_ok:AxOk Tryd.prog GG 66 hComp:=by
  refine ax_of (L:=LL) (ax:=fun _=>none) mixed funcs_ok AxsOk.none rfl (fn66 fun _=>none) rfl ?_
  intro args s v s' h hI
  obtain ⟨kt,st,bs,f,u,o,len,cap,cs,rfl,hr,h1,h2,h3,h4,h5,h6,h7,h8,h9,h10,h11,h12⟩:=hComp_out h
  simp only [Prod.mk.injEq] at hr
  obtain ⟨rfl,rfl⟩:=hr
  have hb:BSl (objAt s.obj) s.n f u o len cap bs:=by
    refine ⟨h10,h12,h8,by omega,cs,h1,fun i hi=>?_⟩
    have:(bvs bs)[i]?=some (vb (bs.getD i 0)):=bvs_get (by omega)
    rw [← h2,List.getElem?_take_of_lt (by omega),List.getElem?_drop] at this
    exact this
  obtain ⟨n',g',rd',e1,k1,k2,k3,k4⟩:=comp_run (fun _=>none) (fun f _=>rfl) rfl kt st bs f u o len cap s.n (objAt s.obj) s.lim s.rd s.wr hI.lim hb h7 h9 h4 h5 h11 h3
  refine ⟨?_,rfl,rfl,rfl,?_,Nat.le_add_right _ _,St n' g' s.lim rd' s.wr,e1,k2,?_,fun x hx=>hx,fun f hf=>k3 f hf⟩
  · show (wvs (comp kt st bs)).toArray.toList.all (plainV 2)=true
    rw [List.toList_toArray];exact wvs_plain _
  · intro x hx;exact ins_mem (ins_mem hx)
  · intro x hx
    rcases k4 x hx with hx|⟨rfl|rfl,hq⟩
    · exact ins_mem (ins_mem hx)
    · exact ins_mem (ins_in hq)
    · exact ins_in hq
end Go.Proofs.YtcgdomhednbdpaaDoor
namespace Go.Proofs.YtcgdomhednbdpaaDoor
open Go Go.RowKit
def KK:List Nat:=[0x428a2f98,0x71374491,0xb5c0fbcf,0xe9b5dba5,0x3956c25b,0x59f111f1,0x923f82a4,0xab1c5ed5,
  0xd807aa98,0x12835b01,0x243185be,0x550c7dc3,0x72be5d74,0x80deb1fe,0x9bdc06a7,0xc19bf174,
  0xe49b69c1,0xefbe4786,0x0fc19dc6,0x240ca1cc,0x2de92c6f,0x4a7484aa,0x5cb0a9dc,0x76f988da,
  0x983e5152,0xa831c66d,0xb00327c8,0xbf597fc7,0xc6e00bf3,0xd5a79147,0x06ca6351,0x14292967,
  0x27b70a85,0x2e1b2138,0x4d2c6dfc,0x53380d13,0x650a7354,0x766a0abb,0x81c2c92e,0x92722c85,
  0xa2bfe8a1,0xa81a664b,0xc24b8b70,0xc76c51a3,0xd192e819,0xd6990624,0xf40e3585,0x106aa070,
  0x19a4c116,0x1e376c08,0x2748774c,0x34b0bcb5,0x391c0cb3,0x4ed8aa4a,0x5b9cca4f,0x682e6ff3,
  0x748f82ee,0x78a5636f,0x84c87814,0x8cc70208,0x90befffa,0xa4506ceb,0xbef9a3f7,0xc67178f2]
def KW:List UInt32:=KK.map UInt32.ofNat
noncomputable def kcells:List Value:=KK.map fun (n:Nat)=>Value.int .u32 (Int.ofNat n)
noncomputable def axC1:Axs:=axAdd 66 hComp fun _=>none
theorem axC1_ok:AxsOk Tryd.prog GG axC1:=AxsOk.none.add hComp_ok
end Go.Proofs.YtcgdomhednbdpaaDoor
namespace Go.Proofs.YtcgdomhednbdpaaDoor
open Go Go.RowKit
set_option maxRecDepth 100000
theorem kcells_eq:kcells=wvs KW:=by kernel_rfl
theorem KW_len:KW.length=64:=by kernel_rfl
theorem kcells_plain:kcells.all (plainV 3)=true:=by kernel_rfl
noncomputable abbrev axH:Axs:=axC1
theorem axH_ok:AxsOk Tryd.prog GG axH:=axC1_ok
theorem axH_plain:Plain axH:=by
  intro f hf
  have h2:f≠66:=by rintro rfl;exact absurd hf (by decide)
  unfold axH axC1
  rw [axAdd_ne _ _ h2]
section
variable {P:Program} {w:World} {H:Type} {enc:TypeId×Value→H} {base:Nat} {spare:Nat→Bool} {held:Bool}
theorem laid_words {t e : TypeId} {n : Nat} {k : IntKind} (ht : P.underlying t = some (.array n e)) (he : P.underlying e = some (.int k)) (hc : P.cellsOf e = 1) {fuel : Nat} {cs : List Value} {L : List Int} {q : List MemPlace} (h : DataW.trod enc P w base spare held fuel t cs = some (.agg (L.map fun x => .lit (.int k x)), q)) (hL : L.length = n) :
    ∀ (j:Nat) (x:Int),L[j]?=some x→cs[j]?=some (.int k x):=by
  intro j x hx
  obtain ⟨xs,m,rfl,hx1,hlen,hn,hel⟩:=DataW.trod_array ht h
  have hj:j<n:=by
    have:=(List.getElem?_eq_some_iff.1 hx).1
    omega
  have h0:=hel j hj
  rw [hc,Nat.mul_one] at h0
  have hxs:xs[j]?=some (xs[j]'(by omega)):=List.getElem?_eq_getElem (by omega)
  rw [hxs] at h0
  obtain ⟨z,e1,e2,_⟩:=DataW.trod_int he h0
  simp only [Prod.mk.injEq,DataW.agg.injEq] at hx1
  have hm:(L.map fun x=>DataW.lit (H:=H) (.int k x))[j]?=(xs.map (·.1))[j]?:=by rw [hx1.1]
  rw [List.getElem?_map,List.getElem?_map,hx,hxs,e2] at hm
  simp only [Option.map_some,Option.some.injEq,DataW.lit.injEq,Lit.int.injEq,true_and] at hm
  subst hm
  have:(cs.drop j)[0]?=((cs.drop j).take 1)[0]?:=by rw [List.getElem?_take_of_lt (by omega)]
  rw [e1] at this
  simpa using this
end
def KI:List Int:=KK.map fun (n:Nat)=>(n:Int)
theorem kcells_get (j:Nat) (u:Value) (h:kcells[j]?=some u):∃ x,KI[j]?=some x∧u=.int .u32 x:=by
  unfold kcells at h
  unfold KI
  rw [List.getElem?_map] at h ⊢
  cases hk:KK[j]? with
  |none=>rw [hk] at h;simp at h
  |some n=>rw [hk] at h;simp only [Option.map_some,Option.some.injEq] at h;exact ⟨(n:Int),rfl,h.symm⟩
theorem g_hash : Tryd.prog.globalNamed "interlace/hash.constants" = some 1 := by kernel_rfl
theorem tg_hash:(Tryd.prog.globals[1]?).map (·.type)=some 90:=by kernel_rfl
theorem globs_hash {W : World} (h : laidMetH Tryd.prog [("interlace/hash.constants", Rows.laid_interlace_hash_constants)] W) : GlobsAt W [(1, kcells)] ∧ ∀ g, has GG g = true → g < W.heap.size := by
  rw [MakeChecks.laidMetH_plain _ _ _ (by kernel_rfl)] at h
  obtain ⟨ps,⟨g0,t0,cs0,f0,p0,q0,hg0,ht0,hv0,hd0,_⟩,_,_⟩:=h
  obtain rfl:=Option.some.inj (g_hash.symm.trans hg0)
  obtain rfl:=Option.some.inj (tg_hash.symm.trans ht0)
  have hc:=laid_words (L:=KI) Tryd.underlying90 Tryd.underlying68 (by kernel_rfl) hd0 (by kernel_rfl)
  have hcell:∀ (j:Nat) (u:Value),kcells[j]?=some u→W.cell? ⟨1,j,none⟩=some u:=by
    intro j u hu
    obtain ⟨x,hx,rfl⟩:=kcells_get j u hu
    rw [World.var?_cell hg0 hv0 j,← Array.getElem?_toList]
    exact hc j x hx
  have hlt:1<W.heap.size:=by
    have:=hcell 0 (.int .u32 1116352408) (by kernel_rfl)
    by_cases hh:1<W.heap.size
    · exact hh
    · unfold World.cell? at this
      rw [Array.getElem?_eq_none (by simpa using hh)] at this
      simp at this
  refine ⟨fun p hp=>?_,fun g hg=>?_⟩
  · simp only [List.mem_singleton] at hp
    subst hp
    exact ⟨hlt,fun j u hu=>⟨hcell j u hu,List.all_eq_true.1 kcells_plain u (List.mem_of_getElem? hu)⟩⟩
  · have:=has_mem hg
    simp only [GG,List.mem_cons,List.not_mem_nil,or_false] at this
    omega
end Go.Proofs.YtcgdomhednbdpaaDoor
namespace Go.Proofs.YtcgdomhednbdpaaDoor
open Go Go.RowKit
def IVW:List UInt32:=[1779033703,3144134277,1013904242,2773480762,1359893119,2600822924,528734635,1541459225]
def blocks (M:List UInt8):Nat→List UInt32
  |0=>IVW
  |i+1=>comp KW (blocks M i) ((M.drop (64*i)).take 64)
theorem blocks_len (M:List UInt8):∀ i,(blocks M i).length=8
  |0=>rfl
  |i+1=>by rw [blocks,comp_len,blocks_len M i]
theorem blocks_app (M p:List UInt8):∀ i,64*i≤M.length→blocks (M++p) i=blocks M i
  |0,_=>rfl
  |i+1,h=>by
    rw [blocks,blocks,blocks_app M p i (by omega)]
    congr 1
    rw [List.drop_append_of_le_length (by omega),List.take_append_of_le_length (by rw [List.length_drop];omega)]
structure Repr (M:List UInt8) (st:List UInt32) (blk:List UInt8):Prop where
  eq:st=blocks M (M.length / 64)
  size:blk.length=64
  rest:blk.take (M.length % 64)=M.drop (64*(M.length / 64))
theorem Repr.start (blk:List UInt8) (h:blk.length=64):Repr [] IVW blk:=⟨rfl,h,rfl⟩
theorem Repr.len {M:List UInt8} {st:List UInt32} {blk:List UInt8} (h:Repr M st blk):st.length=8:=by rw [h.eq];exact blocks_len _ _
def lay (blk:List UInt8) (at':Nat) (p:List UInt8):List UInt8:=blk.take at'++p++blk.drop (at'+p.length)
theorem lay_len {blk p:List UInt8} {a:Nat} (h:a+p.length≤blk.length):(lay blk a p).length=blk.length:=by
  unfold lay
  rw [List.length_append,List.length_append,List.length_take,List.length_drop]
  omega
theorem Repr.more {M p:List UInt8} {st:List UInt32} {blk:List UInt8} (h:Repr M st blk) (hp:M.length % 64+p.length<64):Repr (M++p) st (lay blk (M.length % 64) p):=by
  have hb:=h.size
  have hl:(M++p).length=M.length+p.length:=List.length_append
  have hd:(M++p).length / 64=M.length / 64:=by rw [hl];omega
  have hm:(M++p).length % 64=M.length % 64+p.length:=by rw [hl];omega
  refine ⟨?_,by rw [lay_len (by omega),hb],?_⟩
  · rw [hd,blocks_app M p _ (by omega)];exact h.eq
  · rw [hd,hm]
    have ht:(blk.take (M.length % 64)).length=M.length % 64:=by rw [List.length_take];omega
    unfold lay
    rw [List.take_append_of_le_length (by rw [List.length_append,ht];omega),List.take_of_length_le (by rw [List.length_append,ht];omega),h.rest,List.drop_append_of_le_length (by omega)]
theorem Repr.full {M p:List UInt8} {st:List UInt32} {blk:List UInt8} (h:Repr M st blk) (hp:M.length % 64+p.length=64):Repr (M++p) (comp KW st (lay blk (M.length % 64) p)) (lay blk (M.length % 64) p):=by
  have hb:=h.size
  have hl:(M++p).length=M.length+p.length:=List.length_append
  have hd:(M++p).length / 64=M.length / 64+1:=by rw [hl];omega
  have hm:(M++p).length % 64=0:=by rw [hl];omega
  have hlay:lay blk (M.length % 64) p=((M++p).drop (64*(M.length / 64))).take 64:=by
    unfold lay
    rw [hp,List.drop_of_length_le (by omega),List.append_nil,h.rest,List.drop_append_of_le_length (by omega),List.take_of_length_le]
    rw [List.length_append,List.length_drop];omega
  refine ⟨?_,by rw [lay_len (by omega),hb],?_⟩
  · rw [hd,blocks,blocks_app M p _ (by omega),← h.eq,hlay]
  · rw [hm,hd,List.take_zero,List.drop_of_length_le (by rw [hl];omega)]
def zerosN (n:Nat):Nat:=(119 - n % 64) % 64
def lenB (n:Nat) (i:Nat):UInt8:=(shr64 (UInt64.ofNat (8*n)) (56 - 8*i)).toUInt8
def lens (n:Nat):Nat→List UInt8
  |0=>[]
  |i+1=>lens n i++[lenB n i]
def padB (n:Nat):List UInt8:=128 :: List.replicate (zerosN n) 0++lens n 8
theorem lens_len (n:Nat):∀ i,(lens n i).length=i
  |0=>rfl
  |i+1=>by rw [lens,List.length_append,lens_len n i];rfl
theorem padB_len (n:Nat):(padB n).length=zerosN n+9:=by unfold padB;simp [lens_len]
def outB (st:List UInt32) (i:Nat):UInt8:=(shr32 (st.getD (i / 4) 0) (24 - 8*(i % 4))).toUInt8
def outs (st:List UInt32):Nat→List UInt8
  |0=>[]
  |i+1=>outs st i++[outB st i]
theorem outs_len (st:List UInt32):∀ i,(outs st i).length=i
  |0=>rfl
  |i+1=>by rw [outs,List.length_append,outs_len st i];rfl
def shaW (M:List UInt8):List UInt32:=blocks (M++padB M.length) ((M++padB M.length).length / 64)
def sha (M:List UInt8):List UInt8:=outs (shaW M) 32
theorem sha_len (M:List UInt8):(sha M).length=32:=outs_len _ _
def cellsS (st:List UInt32) (blk:List UInt8) (c:Nat):List Value:=wvs st++(bvs blk++[.int .u64 (c:Int)])
section
variable {st:List UInt32} {blk:List UInt8} {c:Nat} (h8:st.length=8) (h64:blk.length=64)
include h8 h64
theorem cellsS_len:(cellsS st blk c).length=73:=by unfold cellsS;simp [wvs_len,bvs_len,h8,h64]
theorem cellsS_st:((cellsS st blk c).drop 0).take 8=wvs st:=by
  unfold cellsS
  rw [List.drop_zero,List.take_append_of_le_length (by rw [wvs_len];omega),List.take_of_length_le (by rw [wvs_len];omega)]
theorem cellsS_blk:((cellsS st blk c).drop 8).take 64=bvs blk:=by
  unfold cellsS
  rw [List.drop_append_of_le_length (by rw [wvs_len];omega),List.drop_of_length_le (by rw [wvs_len];omega),List.nil_append,List.take_append_of_le_length (by rw [bvs_len];omega),List.take_of_length_le (by rw [bvs_len];omega)]
theorem cellsS_word {i:Nat} (hi:i<8):(cellsS st blk c)[i]?=some (vw (st.getD i 0)):=by
  unfold cellsS
  rw [List.getElem?_append_left (by rw [wvs_len];omega)]
  exact wvs_get (by omega)
theorem cellsS_cnt:(cellsS st blk c)[72]?=some (.int .u64 (c:Int)):=by
  unfold cellsS
  rw [List.getElem?_append_right (by rw [wvs_len];omega),List.getElem?_append_right (by rw [bvs_len,wvs_len];omega),wvs_len,bvs_len,h8,h64]
  rfl
theorem cellsS_setc {c':Nat}:(cellsS st blk c).set 72 (.int .u64 (c':Int))=cellsS st blk c':=by
  unfold cellsS
  rw [List.set_append_right _ _ (by rw [wvs_len];omega),List.set_append_right _ _ (by rw [bvs_len,wvs_len];omega),wvs_len,bvs_len,h8,h64]
  rfl
theorem cellsS_lay {a:Nat} {p:List UInt8} (hp:a+p.length≤64):splice (cellsS st blk c) (8+a) (bvs p)=cellsS st (lay blk a p) c:=by
  unfold splice cellsS lay
  have e1:(wvs st++(bvs blk++[Value.int .u64 (c:Int)])).take (8+a)=wvs st++bvs (blk.take a):=by
    rw [List.take_append,List.take_of_length_le (by rw [wvs_len];omega),wvs_len,h8,show 8+a - 8=a by omega,List.take_append_of_le_length (by rw [bvs_len];omega),bvs_take]
  have e2:(wvs st++(bvs blk++[Value.int .u64 (c:Int)])).drop (8+a+(bvs p).length)=bvs (blk.drop (a+p.length))++[.int .u64 (c:Int)]:=by
    rw [bvs_len,List.drop_append,List.drop_of_length_le (by rw [wvs_len];omega),List.nil_append,wvs_len,h8,show 8+a+p.length - 8=a+p.length by omega,List.drop_append_of_le_length (by rw [bvs_len];omega),bvs_drop]
  rw [e1,e2,bvs_app,bvs_app]
  simp only [List.append_assoc]
theorem cellsS_state {st':List UInt32} (h':st'.length=8):splice (cellsS st blk c) 0 (wvs st')=cellsS st' blk c:=by
  unfold splice cellsS
  rw [List.take_zero,List.nil_append,Nat.zero_add,wvs_len,h',List.drop_append_of_le_length (by rw [wvs_len];omega),List.drop_of_length_le (by rw [wvs_len];omega),List.nil_append]
end
theorem cellsS_one (st:List UInt32) (blk:List UInt8) (c:Nat):(cellsS st blk c).all oneC=true:=by
  unfold cellsS
  rw [List.all_append,List.all_append,wvs_one,bvs_one]
  rfl
def strV (st:List UInt32) (blk:List UInt8) (c:Nat):Value:=.agg (cellsS st blk c).toArray
end Go.Proofs.YtcgdomhednbdpaaDoor
namespace Go.Proofs.YtcgdomhednbdpaaDoor
open Go Go.RowKit
set_option maxRecDepth 100000
noncomputable def tiS:TI:=((EE fun _=>none).ti.at 72).getD ⟨.bool,0,0,[]⟩
theorem tiS_at (ax:Axs):(EE ax).ti.at 72=some ⟨tiS.desc,73,tiS.bytes,cellsS (List.replicate 8 0) (List.replicate 64 0) 0⟩:=by kernel_rfl
theorem tiS_agg:aggT tiS.desc=true:=by kernel_rfl
theorem fa0 (ax:Axs) (s:CS) (f u off:Nat):opFieldAddr (EE ax) s 72 0 (.pointer (some (mkA f u off)))=some (.pointer (some (mkA f u (off+0))),s):=by kernel_rfl
theorem fa1 (ax:Axs) (s:CS) (f u off:Nat):opFieldAddr (EE ax) s 72 1 (.pointer (some (mkA f u off)))=some (.pointer (some (mkA f u (off+8))),s):=by kernel_rfl
theorem fa2 (ax:Axs) (s:CS) (f u off:Nat):opFieldAddr (EE ax) s 72 2 (.pointer (some (mkA f u off)))=some (.pointer (some (mkA f u (off+72))),s):=by kernel_rfl
theorem bld8 (ax:Axs) (s:CS) (fr:Fr):opBuild (EE ax) s (evalC fr) 69 [(0,.const (.int .u32 1779033703)),(1,.const (.int .u32 3144134277)),(2,.const (.int .u32 1013904242)),(3,.const (.int .u32 2773480762)),(4,.const (.int .u32 1359893119)),(5,.const (.int .u32 2600822924)),(6,.const (.int .u32 528734635)),(7,.const (.int .u32 1541459225))]=some (.agg (wvs IVW).toArray,s):=by kernel_rfl
theorem bldS (ax:Axs) (s:CS) (ρ:Operand→Value) (x:Operand) (hx:ρ x=.agg (wvs IVW).toArray):opBuild (EE ax) s ρ 72 [(0,x)]=some (strV IVW (List.replicate 64 0) 0,s):=by
 have h:opBuild (EE ax) s (fun _=>.agg (wvs IVW).toArray) 72 [(0,x)]=some (strV IVW (List.replicate 64 0) 0,s):=by kernel_rfl
 rw [← h]
 unfold opBuild
 simp only [partsOf,hx]
def RG (x:Nat):Prop:=x=1
theorem begin_run (ax : Axs) (hp : Plain ax) (n : Nat) (g : Nat → Fam) (lim : Nat) (rd wr : List Nat) (hl : lim ≤ n) :
    Ret Tryd.prog (EE ax) 52 [] n g lim rd wr (fun _=>False) (strV IVW (List.replicate 64 0) 0):=by
  have hax:ax 52=none:=hp _ (by decide)
  have S1:=st_all (n:=n+1) (lim:=lim) (rd:=rd) (wr:=wr) (tiS_at ax) (g:=fupd g n ⟨false,[(n*1024+0,cellsS (List.replicate 8 0) (List.replicate 64 0) 0)],none⟩) (f:=n) (u:=n*1024+0) (vs:=cellsS IVW (List.replicate 64 0) 0) (fupd_same _ _ _) (cellsS_len rfl rfl) (cellsS_len rfl rfl) (cellsS_one _ _ _)
  rw [fupd_fupd,ins_ge (f:=n) _ (by omega)] at S1
  refine Ret.of (fn:=Tryd.f52) 3 hax (fn52 ax) rfl Tryd.ntmps52 (by simp) ?_
  simp only [ofArgs_nil]
  repeat apply W.seq
  apply W.region
  · simp (disch:=first|omega | (simp (disch:=omega) [ev_tmp,ev_const,get_of,upd_same,upd_ne,Tryd.underlying3,Tryd.underlying47,Tryd.underlying5,Tryd.underlying68,Tryd.underlying63,Tryd.underlying9,Tryd.underlying43];done) | (apply inK_i64;omega) | (apply inK_u64;omega)) only [op_len,cond_true,cond_false,List.toList_toArray,List.map_cons,List.map_nil,some_map,none_map,ti3,ti47,ti5,ti68,ti63,alloc_st (tiS_at ax),wB0,wB1]
    with_reducible rfl
  simp only [onN,onB]
  repeat apply W.seq
  apply W.region
  · simp (disch:=first|omega | (simp (disch:=omega) [ev_tmp,ev_const,get_of,upd_same,upd_ne,Tryd.underlying3,Tryd.underlying47,Tryd.underlying5,Tryd.underlying68,Tryd.underlying63,Tryd.underlying9,Tryd.underlying43];done) | (apply inK_i64;omega) | (apply inK_u64;omega)|rfl) only [op_len,cond_true,cond_false,List.toList_toArray,List.map_cons,List.map_nil,some_map,none_map,ti3,ti47,ti5,ti68,ti63,bld8 ax,bldS ax,strV,cells_agg,S1,wB0,wB1]
    with_reducible rfl
  simp only [onN,onB]
  apply W.ret
  refine ⟨.inr rfl,n+1,fupd g n ⟨false,[(n*1024+0,cellsS IVW (List.replicate 64 0) 0)],none⟩,rd,?_,by omega,fun i hi=>fupd_ne _ _ _ _ (by omega),fun x hx=>.inl hx⟩
  have L2:=ld_all (n:=n+1) (lim:=lim) (rd:=rd) (wr:=wr) (tiS_at ax) tiS_agg (g:=fupd g n ⟨false,[(n*1024+0,cellsS IVW (List.replicate 64 0) 0)],none⟩) (f:=n) (u:=n*1024+0) (cs:=cellsS IVW (List.replicate 64 0) 0) (by rw [fupd_same];exact rowOf_one) (cellsS_len rfl rfl)
  rw [ins_ge (f:=n) _ (by omega)] at L2
  simp (disch:=first|omega | (simp (disch:=omega) only [get_of,upd_same,upd_ne];done)) only [resC_cell (ad:=mkA n (n*1024+0) 0),resC_nil,Tryd.results52,L2,resThen_some,resAdd_some]
  rfl
theorem str_len (b:ByteArray):b.data.toList.length=b.size:=by simp
theorem ext_drop (b:ByteArray) (k:Nat):(b.extract k b.size).data.toList=b.data.toList.drop k:=by
 simp only [ByteArray.data_extract,Array.toList_extract,List.extract_eq_take_drop]
 exact List.take_of_length_le (by simp)
theorem ext_size (b:ByteArray) (k:Nat) (h:k≤b.size):(b.extract k b.size).size=b.size - k:=by
 rw [← str_len,ext_drop,List.length_drop,str_len]
set_option maxHeartbeats 4000000 in
theorem add_run (ax : Axs) (hp : Plain ax) (hC : ax 66 = some hComp) (M : List UInt8) (st : List UInt32) (blk : List UInt8) (hR : Repr M st blk) (text : ByteArray) (hM : M.length + text.size < 1000000000000) (n : Nat) (g : Nat → Fam) (lim : Nat) (rd wr : List Nat) (hl : lim ≤ n) (hG : 1 < n) (hk : rowOf (g 1).rows (1 * 1024) = some (wvs KW)) :
    ∃ st' blk',Repr (M++text.data.toList) st' blk'∧Ret Tryd.prog (EE ax) 53 [strV st blk M.length,.string text] n g lim rd wr RG (strV st' blk' (M++text.data.toList).length):=by
  have hax:ax 53=none:=hp _ (by decide)
  suffices hh:∃ v s2,callR Tryd.prog (EE ax) 53 [strV st blk M.length,.string text] (St n g lim rd wr)=some (v,s2)∧∃ st' blk',Repr (M++text.data.toList) st' blk'∧v=strV st' blk' (M++text.data.toList).length∧∃ n' g' rd',s2=St n' g' lim rd' wr∧n≤n'∧(∀ i,i<n→g' i=g i)∧(∀ x,x∈rd'→x∈rd∨(RG x∧x<lim)) by
    obtain ⟨v,s2,h1,st',blk',h2,rfl,n',g',rd',rfl,h3⟩:=hh
    exact ⟨st',blk',h2,n',g',rd',h1,h3⟩
  refine callR_ex (fn:=Tryd.f53) 38 hax (fn53 ax) rfl Tryd.ntmps53 (by simp) ?_
  simp (disch:=omega) only [ofArgs_cons,ofArgs_nil,Nat.reduceAdd]
  repeat apply W.seq
  apply W.region
  · simp (disch:=first|omega | (simp (disch:=omega) [ev_tmp,ev_const,get_of,upd_same,upd_ne,Tryd.underlying3,Tryd.underlying47,Tryd.underlying5,Tryd.underlying68,Tryd.underlying63,Tryd.underlying9,Tryd.underlying43];done) | (apply inK_i64;omega) | (apply inK_u64;omega)) only [op_len,cond_true,cond_false,List.toList_toArray,List.map_cons,List.map_nil,some_map,none_map,ti3,ti47,ti5,ti68,ti63,alloc_st (tiS_at ax),box_st,strV,cells_agg,wB0,wB1]
    with_reducible rfl
  simp only [onN,onB]
  repeat apply W.seq
  apply W.block
  refine W.loop (fun m fr s=>∃ (done:List UInt8) (rest:ByteArray) (st1:List UInt32) (blk1:List UInt8) (h:Nat→Value) (n':Nat) (g':Nat→Fam) (rd':List Nat),text.data.toList=done++rest.data.toList∧m=rest.size∧Repr (M++done) st1 blk1∧fr=Fr.of 38 h∧s=St n' g' lim rd' wr∧n+2≤n'∧h 1=.string rest∧h 2=.pointer (some (mkA n (n*1024+0) 0))∧h 4=.pointer (some (mkA (n+1) ((n+1)*1024+0) 0))∧g' n=⟨false,[(n*1024+0,cellsS st1 blk1 (M++done).length)],none⟩∧g' (n+1)=⟨false,[((n+1)*1024+0,cellsS (List.replicate 8 0) (List.replicate 64 0) 0)],none⟩∧(∀ i,i<n→g' i=g i)∧(∀ x,x∈rd'→x∈rd∨(RG x∧x<lim))) ?_ text.size _ _ ⟨[],text,st,blk,_,n+1+1,_,rd,rfl,rfl,by rw [List.append_nil];exact hR,rfl,rfl,by omega,?_,?_,?_,?_,?_,?_,fun x hx=>.inl hx⟩
  case refine_2=>simp (disch:=omega) only [upd_same,upd_ne]
  case refine_3=>simp (disch:=omega) only [upd_same,upd_ne]
  case refine_4=>simp (disch:=omega) only [upd_same,upd_ne]
  case refine_5=>rw [fupd_ne _ _ _ _ (by omega),fupd_same,List.append_nil]
  case refine_6=>rw [fupd_same]
  case refine_7=>intro i hi;rw [fupd_ne _ _ _ _ (by omega),fupd_ne _ _ _ _ (by omega)]
  rintro m fr s ⟨done,rest,st1,blk1,h,n',g',rd',htx,rfl,hR1,rfl,rfl,hn,h1,h2,h4,p1,p2,p0,hrd⟩
  have hsz:text.size=done.length+rest.size:=by
    have:=congrArg List.length htx
    rw [List.length_append,str_len,str_len] at this
    exact this
  have hC1:(M++done).length=M.length+done.length:=List.length_append
  have l8:=hR1.len
  have l64:=hR1.size
  by_cases he:rest=⟨#[]⟩
  · subst he
    have x1:decide ((ByteArray.mk #[])=ByteArray.mk #[])=true:=decide_eq_true rfl
    repeat apply W.seq
    apply W.region
    · simp (disch:=first|omega | (simp (disch:=omega) [ev_tmp,ev_const,get_of,upd_same,upd_ne,h1,Tryd.underlying3,Tryd.underlying47,Tryd.underlying5,Tryd.underlying68,Tryd.underlying63,Tryd.underlying9,Tryd.underlying43];done) | (apply inK_i64;omega) | (apply inK_u64;omega)) only [op_len,cond_true,cond_false,List.toList_toArray,List.map_cons,List.map_nil,some_map,none_map,ti3,ti47,ti5,ti68,ti63,h1,os_neq,x1,Bool.not_true,wB0,wB1]
      with_reducible rfl
    simp only [onN,onB]
    repeat apply W.seq
    refine W.cond (b:=false) ?_ ?_
    · simp (disch:=omega) only [ev_tmp,get_of,upd_same,upd_ne,Bool.not_true,decide_true,decide_false]
    simp only [cond_true,cond_false]
    apply W.exit
    simp only [onN,onB,Nat.beq_refl,cond_true,cond_false,bexit]
    have L1:=ld_all (n:=n') (lim:=lim) (rd:=rd') (wr:=wr) (tiS_at ax) tiS_agg (g:=g') (f:=n) (u:=n*1024+0) (cs:=cellsS st1 blk1 (M++done).length) (by rw [p1];exact rowOf_one) (cellsS_len l8 l64)
    rw [ins_ge (f:=n) _ (by omega)] at L1
    have S1:=st_all (n:=n') (lim:=lim) (rd:=rd') (wr:=wr) (tiS_at ax) (f:=n+1) (u:=(n+1)*1024+0) (vs:=cellsS st1 blk1 (M++done).length) p2 (cellsS_len l8 l64) (cellsS_len rfl rfl) (cellsS_one _ _ _)
    rw [ins_ge (f:=n+1) _ (by omega)] at S1
    repeat apply W.seq
    apply W.region
    · simp (disch:=first|omega | (simp (disch:=omega) [ev_tmp,ev_const,get_of,upd_same,upd_ne,h2,h4,Tryd.underlying3,Tryd.underlying47,Tryd.underlying5,Tryd.underlying68,Tryd.underlying63,Tryd.underlying9,Tryd.underlying43];done) | (apply inK_i64;omega) | (apply inK_u64;omega)) only [op_len,cond_true,cond_false,List.toList_toArray,List.map_cons,List.map_nil,some_map,none_map,ti3,ti47,ti5,ti68,ti63,h2,h4,L1,cells_agg,S1,wB0,wB1]
      with_reducible rfl
    simp only [onN,onB]
    apply W.ret
    have hd:M++text.data.toList=M++done:=by rw [htx];simp
    refine ⟨.inr rfl,[strV st1 blk1 (M++done).length],St n' (fupd g' (n+1) ⟨false,[((n+1)*1024+0,cellsS st1 blk1 (M++done).length)],none⟩) lim rd' wr,?_,st1,blk1,by rw [hd];exact hR1,by rw [hd];rfl,n',_,rd',rfl,by omega,fun i hi=>by rw [fupd_ne _ _ _ _ (by omega)];exact p0 i hi,hrd⟩
    have L2:=ld_all (n:=n') (lim:=lim) (rd:=rd') (wr:=wr) (tiS_at ax) tiS_agg (g:=fupd g' (n+1) ⟨false,[((n+1)*1024+0,cellsS st1 blk1 (M++done).length)],none⟩) (f:=n+1) (u:=(n+1)*1024+0) (cs:=cellsS st1 blk1 (M++done).length) (by rw [fupd_same];exact rowOf_one) (cellsS_len l8 l64)
    rw [ins_ge (f:=n+1) _ (by omega)] at L2
    simp (disch:=first|omega | (simp (disch:=omega) only [get_of,upd_same,upd_ne,h4];done)) only [resC_cell (ad:=mkA (n+1) ((n+1)*1024+0) 0),resC_nil,Tryd.results53,L2,resThen_some,resAdd_some]
    rfl
  have x1:decide (rest=ByteArray.mk #[])=false:=decide_eq_false he
  have hr0:rest.size≠0:=by
    intro h0
    apply he
    apply ByteArray.ext
    apply Array.toList_inj.1
    have hz:rest.data.toList=[]:=List.eq_nil_of_length_eq_zero (by rw [str_len];exact h0)
    rw [hz]
  repeat apply W.seq
  apply W.region
  · simp (disch:=first|omega | (simp (disch:=omega) [ev_tmp,ev_const,get_of,upd_same,upd_ne,h1,Tryd.underlying3,Tryd.underlying47,Tryd.underlying5,Tryd.underlying68,Tryd.underlying63,Tryd.underlying9,Tryd.underlying43];done) | (apply inK_i64;omega) | (apply inK_u64;omega)) only [op_len,cond_true,cond_false,List.toList_toArray,List.map_cons,List.map_nil,some_map,none_map,ti3,ti47,ti5,ti68,ti63,h1,os_neq,x1,Bool.not_false,wB0,wB1]
    with_reducible rfl
  simp only [onN,onB]
  repeat apply W.seq
  refine W.cond (b:=true) ?_ ?_
  · simp (disch:=omega) only [ev_tmp,get_of,upd_same,upd_ne,Bool.not_false,decide_true,decide_false]
  simp only [cond_true,cond_false]
  apply W.skip
  simp only [onN,onB]
  generalize hN:M++done=N at *
  generalize hat:N.length % 64=at' at *
  have hat64:at'<64:=by omega
  have IG:=fun l=>ins_ge (m:=lim) (f:=n) l (by omega)
  have L1:=ld_one (n:=n') (lim:=lim) (rd:=rd') (wr:=wr) (ti63 ax) rfl (g:=g') (f:=n) (u:=n*1024+0) (off:=0+72) (cs:=cellsS st1 blk1 N.length) (by rw [p1];exact rowOf_one) (cellsS_cnt l8 l64)
  have cm:(N.length:Int) % 64=((at':Nat):Int):=by omega
  have cw:IntKind.i64.wrap ((at':Nat):Int)=((at':Nat):Int):=inK_i64 (by omega)
  repeat apply W.seq
  apply W.block
  repeat apply W.seq
  apply W.region
  · simp (disch:=first|omega | (simp (disch:=omega) [ev_tmp,ev_const,get_of,upd_same,upd_ne,h2,Tryd.underlying3,Tryd.underlying47,Tryd.underlying5,Tryd.underlying68,Tryd.underlying63,Tryd.underlying9,Tryd.underlying43];done) | (apply inK_i64;omega) | (apply inK_u64;omega)) only [op_len,cond_true,cond_false,List.toList_toArray,List.map_cons,List.map_nil,some_map,none_map,ti3,ti47,ti5,ti68,ti63,h2,fa2 ax,L1,IG,oi_rem,cm,opConvert,ti3,ti63,oc_int,cw,wB0,wB1]
    with_reducible rfl
  simp only [onN,onB]
  generalize hkk:min rest.size (64 - at')=k at *
  have hk0:k≠0:=by omega
  have bd1:=bounds_l (len:=64) (cap:=64) (natOf_nat .i64 at') (by omega) (by omega)
  have CP:=copy_str (lim:=lim) (rd:=rd') (wr:=wr) (n:=n') (el_u8 ax) rfl (f:=n) (u:=n*1024+0) (off:=0+8+at') (len:=64 - at') (cap:=64 - at') (b:=rest) p1 (by rw [hkk];exact hk0) (by rw [hkk,cellsS_len l8 l64];omega)
  have hpl:(rest.data.toList.take k).length=k:=by rw [List.length_take,str_len];omega
  rw [hkk,IG,show 0+8+at'=8+at' by omega,cellsS_lay l8 l64 (by rw [hpl];omega)] at CP
  repeat apply W.seq
  apply W.region
  · simp (disch:=first|omega | (simp (disch:=omega) [ev_tmp,ev_const,get_of,upd_same,upd_ne,h1,h2,Tryd.underlying3,Tryd.underlying47,Tryd.underlying5,Tryd.underlying68,Tryd.underlying63,Tryd.underlying9,Tryd.underlying43];done) | (apply inK_i64;omega) | (apply inK_u64;omega)) only [op_len,cond_true,cond_false,List.toList_toArray,List.map_cons,List.map_nil,some_map,none_map,ti3,ti47,ti5,ti68,ti63,h1,h2,fa1 ax,slice_arr1 (ti70 ax) (ti5 ax) (by omega) bd1 (show (n*1024+0) % 1024=0 by omega),Nat.mul_one,show 0+8+at'=8+at' by omega,op_copy,CP,wB0,wB1]
    with_reducible rfl
  simp only [onN,onB]
  generalize hpp:rest.data.toList.take k=p at *
  have bd2:=bounds_l (len:=rest.size) (cap:=rest.size) (natOf_nat .i64 k) (by omega) (Nat.le_refl _)
  repeat apply W.seq
  apply W.region
  · simp (disch:=first|omega | (simp (disch:=omega) [ev_tmp,ev_const,get_of,upd_same,upd_ne,h1,Tryd.underlying3,Tryd.underlying47,Tryd.underlying5,Tryd.underlying68,Tryd.underlying63,Tryd.underlying9,Tryd.underlying43];done) | (apply inK_i64;omega) | (apply inK_u64;omega)) only [op_len,cond_true,cond_false,List.toList_toArray,List.map_cons,List.map_nil,some_map,none_map,ti3,ti47,ti5,ti68,ti63,h1,slice_str (ti9 ax) bd2,wB0,wB1]
    with_reducible rfl
  simp only [onN,onB]
  have lb1:(lay blk1 at' p).length=64:=by rw [lay_len (by omega)];exact l64
  generalize hg2:fupd g' n ⟨false,[(n*1024+0,cellsS st1 (lay blk1 at' p) N.length)],none⟩=g2
  have r1:g2 n=⟨false,[(n*1024+0,cellsS st1 (lay blk1 at' p) N.length)],none⟩:=by rw [← hg2,fupd_same]
  have r2:g2 (n+1)=⟨false,[((n+1)*1024+0,cellsS (List.replicate 8 0) (List.replicate 64 0) 0)],none⟩:=by rw [← hg2,fupd_ne _ _ _ _ (by omega)];exact p2
  have r0:∀ i,i<n→g2 i=g i:=fun i hi=>by rw [← hg2,fupd_ne _ _ _ _ (by omega)];exact p0 i hi
  clear hg2 CP p1 p2 p0 L1
  have L2:=ld_one (n:=n') (lim:=lim) (rd:=rd') (wr:=wr) (ti63 ax) rfl (g:=g2) (f:=n) (u:=n*1024+0) (off:=0+72) (cs:=cellsS st1 (lay blk1 at' p) N.length) (by rw [r1];exact rowOf_one) (cellsS_cnt l8 lb1)
  have S2:=st_one (n:=n') (lim:=lim) (rd:=rd') (wr:=wr) (ti63 ax) (f:=n) (u:=n*1024+0) (off:=0+72) (v:=.int .u64 (((N.length+k:Nat):Nat):Int)) r1 (by rw [cellsS_len l8 lb1];omega) rfl
  rw [IG,show 0+72=72 by omega,cellsS_setc l8 lb1] at S2
  have cu:IntKind.u64.wrap ((k:Nat):Int)=((k:Nat):Int):=inK_u64 (by omega)
  have ca:(N.length:Int)+((k:Nat):Int)=((N.length+k:Nat):Int):=by omega
  repeat apply W.seq
  apply W.region
  · simp (disch:=first|omega | (simp (disch:=omega) [ev_tmp,ev_const,get_of,upd_same,upd_ne,h2,Tryd.underlying3,Tryd.underlying47,Tryd.underlying5,Tryd.underlying68,Tryd.underlying63,Tryd.underlying9,Tryd.underlying43];done) | (apply inK_i64;omega) | (apply inK_u64;omega) | (rw [ca];apply inK_u64;omega)) only [op_len,cond_true,cond_false,List.toList_toArray,List.map_cons,List.map_nil,some_map,none_map,ti3,ti47,ti5,ti68,ti63,h2,fa2 ax,L2,IG,opConvert,ti3,ti63,oc_int,cu,oi_add,ca,cells_int,S2,show 0+72=72 by omega,wB0,wB1]
    with_reducible rfl
  simp only [onN,onB]
  generalize hg3:fupd g2 n ⟨false,[(n*1024+0,cellsS st1 (lay blk1 at' p) (N.length+k))],none⟩=g3
  have q1:g3 n=⟨false,[(n*1024+0,cellsS st1 (lay blk1 at' p) (N.length+k))],none⟩:=by rw [← hg3,fupd_same]
  have q2:g3 (n+1)=⟨false,[((n+1)*1024+0,cellsS (List.replicate 8 0) (List.replicate 64 0) 0)],none⟩:=by rw [← hg3,fupd_ne _ _ _ _ (by omega)];exact r2
  have q0:∀ i,i<n→g3 i=g i:=fun i hi=>by rw [← hg3,fupd_ne _ _ _ _ (by omega)];exact r0 i hi
  clear hg3 r1 r2 r0 L2 S2
  have cb:((at':Nat):Int)+((k:Nat):Int)=((at'+k:Nat):Int):=by omega
  have hNp:M++(done++p)=N++p:=by rw [← hN,List.append_assoc]
  have hNl:(N++p).length=N.length+k:=by rw [List.length_append,hpl]
  have hrs:(rest.extract k rest.size).size=rest.size - k:=ext_size rest k (by omega)
  have htx':text.data.toList=(done++p)++(rest.extract k rest.size).data.toList:=by
    rw [ext_drop,htx,← hpp,List.append_assoc,List.take_append_drop]
  repeat apply W.seq
  apply W.region
  · simp (disch:=first|omega | (simp (disch:=omega) [ev_tmp,ev_const,get_of,upd_same,upd_ne,Tryd.underlying3,Tryd.underlying47,Tryd.underlying5,Tryd.underlying68,Tryd.underlying63,Tryd.underlying9,Tryd.underlying43];done) | (apply inK_i64;omega) | (apply inK_u64;omega) | (rw [cb];apply inK_i64;omega)) only [op_len,cond_true,cond_false,List.toList_toArray,List.map_cons,List.map_nil,some_map,none_map,ti3,ti47,ti5,ti68,ti63,oi_add,cb,oi_eql,wB0,wB1]
    with_reducible rfl
  simp only [onN,onB]
  by_cases hfull:at'+k=64
  case neg =>
    have x2:decide (((at'+k:Nat):Int)=64)=false:=decide_eq_false (by omega)
    repeat apply W.seq
    refine W.cond (b:=false) ?_ ?_
    · simp (disch:=omega) only [ev_tmp,get_of,upd_same,upd_ne,x2,decide_true,decide_false]
    simp only [cond_true,cond_false]
    apply W.skip
    simp only [onN,onB]
    refine ⟨rest.size - k,by omega,done++p,rest.extract k rest.size,st1,lay blk1 at' p,_,n',g3,rd',htx',hrs.symm,?_,rfl,rfl,hn,?_,?_,?_,?_,q2,q0,hrd⟩
    · rw [hNp]
      have:=Repr.more hR1 (p:=p) (by omega)
      rw [hat] at this
      exact this
    · simp (disch:=omega) only [upd_same,upd_ne]
    · simp (disch:=omega) only [upd_same,upd_ne,h2]
    · simp (disch:=omega) only [upd_same,upd_ne,h4]
    · rw [hNp,hNl];exact q1
  have x2:decide (((at'+k:Nat):Int)=64)=true:=decide_eq_true (by omega)
  repeat apply W.seq
  refine W.cond (b:=true) ?_ ?_
  · simp (disch:=omega) only [ev_tmp,get_of,upd_same,upd_ne,x2,decide_true,decide_false]
  simp only [cond_true,cond_false]
  have hgk:rowOf (g3 1).rows (1*1024)=some (wvs KW):=by rw [q0 _ hG];exact hk
  have bd3:=bounds_all (len:=64) (cap:=64) (Nat.le_refl _)
  have D1:=ld_partq (n:=n') (ti69 ax) rfl (g:=g3) (f:=n) (u:=n*1024+0) (off:=0+0) (cs:=cellsS st1 (lay blk1 at' p) (N.length+k)) (by rw [q1];exact rowOf_one) (by rw [cellsS_len l8 lb1];omega) (by omega)
  rw [show 0+0=0 by omega,cellsS_st l8 lb1] at D1
  have CR:=callR_ax (P:=Tryd.prog) (Γ:=EE ax) (s:=St n' g3 n' [] []) (show (EE ax).ax 66=some hComp from hC) (hComp_eq KW st1 (lay blk1 at' p) n (n*1024+0) 8 64 64 (St n' g3 n' [] []) (cellsS st1 (lay blk1 at' p) (N.length+k)) (by show rowOf (g3 n).rows _=_;rw [q1];exact rowOf_one) (cellsS_blk l8 lb1) hgk l8 KW_len lb1 rfl (Nat.le_refl _) (by omega) (show n<n' by omega) (show 1<n' by omega) (.inl (by omega)))
  have hq:∀ x,x∈ins n' (ins n' [] n) 1→x<n':=by
    intro x hx
    rcases mem_ins hx with hx|hx
    · rcases mem_ins hx with hx|hx
      · simp at hx
      · exact hx.2
    · exact hx.2
  have lc:(comp KW st1 (lay blk1 at' p)).length=8:=by rw [comp_len];exact l8
  have SP:=st_part (n:=n'+7) (lim:=n'+7) (rd:=[]) (wr:=[]) (ti69 ax) (f:=n) (u:=n*1024+0) (off:=0) (vs:=wvs (comp KW st1 (lay blk1 at' p))) q1 (by rw [wvs_len];exact lc) (by rw [cellsS_len l8 lb1];omega) (wvs_one _)
  rw [cellsS_state l8 lb1 lc,ins_lt (show n<n'+7 by omega)] at SP
  repeat apply W.seq
  apply W.last
  · kernel_rfl
  · simp (disch:=first|omega | (simp (disch:=omega) [ev_tmp,ev_const,get_of,upd_same,upd_ne,h2,Tryd.underlying3,Tryd.underlying47,Tryd.underlying5,Tryd.underlying68,Tryd.underlying63,Tryd.underlying9,Tryd.underlying43];done) | (apply inK_i64;omega) | (apply inK_u64;omega)) only [op_len,cond_true,cond_false,List.toList_toArray,List.map_cons,List.map_nil,some_map,none_map,ti3,ti47,ti5,ti68,ti63,quietL_cons,quietL_one,inner_st,thenL_same,thenL_rd,lastL_some,insAll_nil,insAll_cons,h2,fa0 ax,fa1 ax,show 0+0=0 by omega,D1,slice_arr1 (ti70 ax) (ti5 ax) (by omega) bd3 (show (n*1024+0) % 1024=0 by omega),show 0+8+0*1=8 by omega,show 64 - 0=64 by omega,CR,thenL_gen hq,cells_agg,SP,IG,wB0,wB1]
    with_reducible rfl
  simp only [onN,onB]
  refine ⟨rest.size - k,by omega,done++p,rest.extract k rest.size,comp KW st1 (lay blk1 at' p),lay blk1 at' p,_,n'+7,_,_,htx',hrs.symm,?_,rfl,rfl,by omega,?_,?_,?_,?_,?_,?_,?_⟩
  · rw [hNp]
    have:=Repr.full hR1 (p:=p) (by omega)
    rw [hat] at this
    exact this
  · simp (disch:=omega) only [upd_same,upd_ne]
  · simp (disch:=omega) only [upd_same,upd_ne,h2]
  · simp (disch:=omega) only [upd_same,upd_ne,h4]
  · rw [hNp,hNl,fupd_same]
  · rw [fupd_ne _ _ _ _ (by omega)];exact q2
  · intro i hi;rw [fupd_ne _ _ _ _ (by omega)];exact q0 i hi
  · intro x hx
    rcases insAll_mem rfl x hx with hx|⟨hx,hxl⟩
    · exact hrd x hx
    · rcases mem_ins hx with hx|hx
      · rcases mem_ins hx with hx|hx
        · simp at hx
        · omega
      · exact .inr ⟨hx.1,hxl⟩
end Go.Proofs.YtcgdomhednbdpaaDoor
namespace Go.Proofs.YtcgdomhednbdpaaDoor
open Go Go.RowKit
set_option maxRecDepth 100000
theorem q_of (c:Nat) (h:8*c<18446744073709551616):Value.int .u64 (8*(c:Int))=vq (UInt64.ofNat (8*c)):=by
 unfold vq
 have:(UInt64.ofNat (8*c)).toNat=8*c:=UInt64.toNat_ofNat_of_lt' h
 rw [this]
 first|rfl | (congr 1;omega)
theorem out_cells (st:List UInt32) (i:Nat) (h:i<32):(bvs (outs st i)++List.replicate (32 - i) (vb 0)).set i (vb (outB st i))=bvs (outs st (i+1))++List.replicate (32 - (i+1)) (vb 0):=by
 have e:32 - i=(32 - (i+1))+1:=by omega
 rw [e,List.replicate_succ,List.set_append_right _ _ (by rw [bvs_len,outs_len];omega),bvs_len,outs_len,Nat.sub_self,List.set_cons_zero,outs,bvs_app,List.append_assoc]
 rfl
set_option maxHeartbeats 4000000 in
theorem ssum_run (ax : Axs) (hp : Plain ax) (hC : ax 66 = some hComp) (M : List UInt8) (st : List UInt32) (blk : List UInt8) (hR : Repr M st blk) (hM : M.length < 100000000000) (n : Nat) (g : Nat → Fam) (lim : Nat) (rd wr : List Nat) (hl : lim ≤ n) (hG : 1 < n) (hk : rowOf (g 1).rows (1 * 1024) = some (wvs KW)) :
    Ret Tryd.prog (EE ax) 55 [strV st blk M.length] n g lim rd wr RG (.agg (bvs (sha M)).toArray):=by
  have hax:ax 55=none:=hp _ (by decide)
  have l8:=hR.len
  have l64:=hR.size
  refine Ret.of (fn:=Tryd.f55) 58 hax (fn55 ax) rfl Tryd.ntmps55 (by simp) ?_
  simp (disch:=omega) only [ofArgs_cons,ofArgs_nil,Nat.reduceAdd]
  repeat apply W.seq
  apply W.region
  · simp (disch:=first|omega | (simp (disch:=omega) [ev_tmp,ev_const,get_of,upd_same,upd_ne,Tryd.underlying3,Tryd.underlying47,Tryd.underlying5,Tryd.underlying68,Tryd.underlying63,Tryd.underlying9,Tryd.underlying43];done) | (apply inK_i64;omega) | (apply inK_u64;omega)) only [op_len,cond_true,cond_false,List.toList_toArray,List.map_cons,List.map_nil,some_map,none_map,ti3,ti47,ti5,ti68,ti63,alloc_st (ti76 ax),box_st,strV,cells_agg,wB0,wB1]
    with_reducible rfl
  simp only [onN,onB]
  have L1:=ld_one (n:=n+1+1) (lim:=lim) (rd:=rd) (wr:=wr) (ti63 ax) rfl (g:=fupd (fupd g n ⟨false,[(n*1024+0,cellsS st blk M.length)],none⟩) (n+1) ⟨false,[((n+1)*1024+0,List.replicate 32 (.int .u8 0))],none⟩) (f:=n) (u:=n*1024+0) (off:=0+72) (cs:=cellsS st blk M.length) (by rw [fupd_ne _ _ _ _ (by omega),fupd_same];exact rowOf_one) (cellsS_cnt l8 l64)
  have IG:=fun l=>ins_ge (m:=lim) (f:=n) l (by omega)
  repeat apply W.seq
  apply W.region
  · simp (disch:=first|omega | (simp (disch:=omega) [ev_tmp,ev_const,get_of,upd_same,upd_ne,Tryd.underlying3,Tryd.underlying47,Tryd.underlying5,Tryd.underlying68,Tryd.underlying63,Tryd.underlying9,Tryd.underlying43];done) | (apply inK_i64;omega) | (apply inK_u64;omega)) only [op_len,cond_true,cond_false,List.toList_toArray,List.map_cons,List.map_nil,some_map,none_map,ti3,ti47,ti5,ti68,ti63,fa2 ax,L1,IG,oi_mul,q_of M.length (by omega),wB0,wB1]
    with_reducible rfl
  simp only [onN,onB]
  have c128:Value.int .u8 128=vb 128:=rfl
  have c0:Value.int .u8 0=vb 0:=rfl
  repeat apply W.seq
  apply W.region
  · simp (disch:=first|omega | (simp (disch:=omega) [ev_tmp,ev_const,get_of,upd_same,upd_ne,cells_int,c128,vb_cells,Tryd.underlying3,Tryd.underlying47,Tryd.underlying5,Tryd.underlying68,Tryd.underlying63,Tryd.underlying9,Tryd.underlying43];done) | (apply inK_i64;omega) | (apply inK_u64;omega)) only [op_len,cond_true,cond_false,List.toList_toArray,List.map_cons,List.map_nil,some_map,none_map,ti3,ti47,ti5,ti68,ti63,build_one (ti43 ax) (ti5 ax) rfl rfl,c128,wB0,wB1]
    with_reducible rfl
  simp only [onN,onB]
  repeat apply W.seq
  apply W.block
  refine W.loop (fun m fr s=>∃ (z:Nat) (ao:Option Addr) (h:Nat→Value) (n':Nat) (g':Nat→Fam),z≤zerosN M.length∧m=zerosN M.length - z∧fr=Fr.of 58 h∧s=St n' g' lim rd wr∧n+2≤n'∧h 1=.pointer (some (mkA n (n*1024+0) 0))∧h 2=.pointer (some (mkA (n+1) ((n+1)*1024+0) 0))∧h 3=vq (UInt64.ofNat (8*M.length))∧h 4=.slice ao (1+z) (1+z)∧OwnX (n+2) g' n' 1 ao (1+z) (bvs (128 :: List.replicate z 0))∧g' n=⟨false,[(n*1024+0,cellsS st blk M.length)],none⟩∧g' (n+1)=⟨false,[((n+1)*1024+0,List.replicate 32 (vb 0))],none⟩∧(∀ i,i<n→g' i=g i)) ?_ (zerosN M.length - 0) _ _ ⟨0,_,_,_,_,Nat.zero_le _,rfl,rfl,rfl,by omega,?_,?_,?_,?_,.inr ⟨rfl,n+1+1,(n+1+1)*1024+0,[],rfl,?_,by omega,by omega,by omega,by omega⟩,?_,?_,?_⟩
  case refine_2=>simp (disch:=omega) only [upd_same,upd_ne]
  case refine_3=>simp (disch:=omega) only [upd_same,upd_ne]
  case refine_4=>simp (disch:=omega) only [upd_same,upd_ne]
  case refine_5=>simp (disch:=omega) only [upd_same,upd_ne]
  case refine_6=>rw [fupd_same];rfl
  case refine_7=>rw [fupd_ne _ _ _ _ (by omega),fupd_ne _ _ _ _ (by omega),fupd_same]
  case refine_8=>rw [fupd_ne _ _ _ _ (by omega),fupd_same];rfl
  case refine_9=>intro i hi;rw [fupd_ne _ _ _ _ (by omega),fupd_ne _ _ _ _ (by omega),fupd_ne _ _ _ _ (by omega)]
  clear L1
  rintro m fr s ⟨z,ao,h,n',g',hz,rfl,rfl,rfl,hn,h1,h2,h3,h4,hown,p1,p2,p0⟩
  have L1:=ld_one (n:=n') (lim:=lim) (rd:=rd) (wr:=wr) (ti63 ax) rfl (g:=g') (f:=n) (u:=n*1024+0) (off:=0+72) (cs:=cellsS st blk M.length) (by rw [p1];exact rowOf_one) (cellsS_cnt l8 l64)
  have cw:IntKind.i64.wrap ((M.length:Nat):Int)=((M.length:Nat):Int):=inK_i64 (by omega)
  have ca:((M.length:Nat):Int)+((1+z:Nat):Int)=((M.length+(1+z):Nat):Int):=by omega
  have cr:((M.length+(1+z):Nat):Int) % 64=(((M.length+(1+z)) % 64:Nat):Int):=by omega
  have hz64:z<64:=by unfold zerosN at hz;omega
  repeat apply W.seq
  apply W.region
  · simp (disch:=first|omega | (simp (disch:=omega) [ev_tmp,ev_const,get_of,upd_same,upd_ne,h1,h4,Tryd.underlying3,Tryd.underlying47,Tryd.underlying5,Tryd.underlying68,Tryd.underlying63,Tryd.underlying9,Tryd.underlying43];done) | (apply inK_i64;omega) | (apply inK_u64;omega) | (rw [ca];apply inK_i64;omega)) only [op_len,cond_true,cond_false,List.toList_toArray,List.map_cons,List.map_nil,some_map,none_map,ti3,ti47,ti5,ti68,ti63,h1,h4,fa2 ax,L1,IG,opConvert,ti3,ti63,oc_int,cw,len_sl (ti43 ax),oi_add,ca,oi_rem,cr,oi_neq,wB0,wB1]
    with_reducible rfl
  simp only [onN,onB]
  by_cases hend:z=zerosN M.length
  case neg =>
    have x1:decide ((((M.length+(1+z)) % 64:Nat):Int)≠56)=true:=decide_eq_true (by unfold zerosN at hz hend;omega)
    repeat apply W.seq
    refine W.cond (b:=true) ?_ ?_
    · simp (disch:=omega) only [ev_tmp,get_of,upd_same,upd_ne,x1,decide_true,decide_false]
    simp only [cond_true,cond_false]
    apply W.skip
    simp only [onN,onB]
    obtain ⟨ao',n2,g2,e1,o1,a1,a2,a3⟩:=OwnX.push (lim:=lim) (bytes:=1) (rd:=rd) (wr:=wr) (v:=vb 0) hown (by omega) (by omega) rfl (by omega)
    repeat apply W.seq
    apply W.block
    repeat apply W.seq
    apply W.region
    · simp (disch:=first|omega | (simp (disch:=omega) [ev_tmp,ev_const,get_of,upd_same,upd_ne,h4,cells_int,c0,vb_cells,Tryd.underlying3,Tryd.underlying47,Tryd.underlying5,Tryd.underlying68,Tryd.underlying63,Tryd.underlying9,Tryd.underlying43];done) | (apply inK_i64;omega) | (apply inK_u64;omega)) only [op_len,cond_true,cond_false,List.toList_toArray,List.map_cons,List.map_nil,some_map,none_map,ti3,ti47,ti5,ti68,ti63,h4,opConvert,op_append (src_u8 ax),build_one (ti43 ax) (ti5 ax) rfl rfl,app_sl (el_u8 ax),c0,e1,wB0,wB1]
      with_reducible rfl
    simp only [onN,onB]
    refine ⟨zerosN M.length - (z+1),by omega,z+1,ao',_,n2,g2,by omega,rfl,rfl,rfl,by omega,?_,?_,?_,?_,?_,by rw [a3 _ (by omega)];exact p1,by rw [a3 _ (by omega)];exact p2,fun i hi=>by rw [a3 _ (by omega)];exact p0 i hi⟩
    · simp (disch:=omega) only [upd_same,upd_ne,h1]
    · simp (disch:=omega) only [upd_same,upd_ne,h2]
    · simp (disch:=omega) only [upd_same,upd_ne,h3]
    · simp (disch:=omega) only [upd_same,upd_ne];rfl
    · have:bvs (128 :: List.replicate (z+1) 0)=bvs (128 :: List.replicate z 0)++[vb 0]:=by
        rw [List.replicate_succ',← List.cons_append,bvs_app];rfl
      rw [this];exact o1
  have x1:decide ((((M.length+(1+z)) % 64:Nat):Int)≠56)=false:=decide_eq_false (by unfold zerosN at hend;omega)
  repeat apply W.seq
  refine W.cond (b:=false) ?_ ?_
  · simp (disch:=omega) only [ev_tmp,get_of,upd_same,upd_ne,x1,decide_true,decide_false]
  simp only [cond_true,cond_false]
  apply W.exit
  simp only [onN,onB,Nat.beq_refl,cond_true,cond_false,bexit]
  repeat apply W.seq
  apply W.region
  · simp (disch:=first|omega | (simp (disch:=omega) [ev_tmp,ev_const,get_of,upd_same,upd_ne,Tryd.underlying3,Tryd.underlying47,Tryd.underlying5,Tryd.underlying68,Tryd.underlying63,Tryd.underlying9,Tryd.underlying43];done) | (apply inK_i64;omega) | (apply inK_u64;omega)) only [op_len,cond_true,cond_false,List.toList_toArray,List.map_cons,List.map_nil,some_map,none_map,ti3,ti47,ti5,ti68,ti63,wB0,wB1]
    with_reducible rfl
  simp only [onN,onB]
  repeat apply W.seq
  apply W.block
  have hz65:1+z≤64:=by omega
  refine W.loop (fun m fr s=>∃ (i:Nat) (ao:Option Addr) (h:Nat→Value) (n':Nat) (g':Nat→Fam),i≤8∧m=8 - i∧fr=Fr.of 58 h∧s=St n' g' lim rd wr∧n+2≤n'∧h 1=.pointer (some (mkA n (n*1024+0) 0))∧h 2=.pointer (some (mkA (n+1) ((n+1)*1024+0) 0))∧h 3=vq (UInt64.ofNat (8*M.length))∧h 4=.slice ao (1+z+i) (1+z+i)∧h 23=.int .i64 (i:Int)∧OwnX (n+2) g' n' 1 ao (1+z+i) (bvs (128 :: List.replicate z 0++lens M.length i))∧g' n=⟨false,[(n*1024+0,cellsS st blk M.length)],none⟩∧g' (n+1)=⟨false,[((n+1)*1024+0,List.replicate 32 (vb 0))],none⟩∧(∀ i,i<n→g' i=g i)) ?_ (8 - 0) _ _ ⟨0,ao,_,_,_,by omega,rfl,rfl,rfl,hn,?_,?_,?_,?_,?_,?_,p1,p2,p0⟩
  case refine_2=>simp (disch:=omega) only [upd_same,upd_ne,h1]
  case refine_3=>simp (disch:=omega) only [upd_same,upd_ne,h2]
  case refine_4=>simp (disch:=omega) only [upd_same,upd_ne,h3]
  case refine_5=>simp (disch:=omega) only [upd_same,upd_ne,h4];rfl
  case refine_6=>simp (disch:=omega) only [upd_same,upd_ne];rfl
  case refine_7=>rw [lens,List.append_nil];exact hown
  clear h1 h2 h3 h4 hown p1 p2 p0 L1
  rintro m fr s ⟨i,ao,h,n',g',hi,rfl,rfl,rfl,hn,h1,h2,h3,h4,h23,hown,p1,p2,p0⟩
  repeat apply W.seq
  apply W.region
  · simp (disch:=first|omega | (simp (disch:=omega) [ev_tmp,ev_const,get_of,upd_same,upd_ne,h23,Tryd.underlying3,Tryd.underlying47,Tryd.underlying5,Tryd.underlying68,Tryd.underlying63,Tryd.underlying9,Tryd.underlying43];done) | (apply inK_i64;omega) | (apply inK_u64;omega)) only [op_len,cond_true,cond_false,List.toList_toArray,List.map_cons,List.map_nil,some_map,none_map,ti3,ti47,ti5,ti68,ti63,oi_lss,h23,wB0,wB1]
    with_reducible rfl
  simp only [onN,onB]
  by_cases hi8:(i:Int)<8
  case pos =>
    repeat apply W.seq
    refine W.cond (b:=true) ?_ ?_
    · simp (disch:=omega) only [ev_tmp,get_of,upd_same,upd_ne,hi8,decide_true,decide_false]
    simp only [cond_true,cond_false]
    apply W.skip
    simp only [onN,onB]
    have c1:(8:Int)*((i:Nat):Int)=((8*i:Nat):Int):=by omega
    have c2:(56:Int) - ((8*i:Nat):Int)=((56 - 8*i:Nat):Int):=by omega
    obtain ⟨ao',n2,g2,e1,o1,a1,a2,a3⟩:=OwnX.push (lim:=lim) (bytes:=1) (rd:=rd) (wr:=wr) (v:=vb (lenB M.length i)) hown (by omega) (by omega) rfl (by omega)
    unfold lenB at e1
    repeat apply W.seq
    apply W.block
    repeat apply W.seq
    apply W.region
    · simp (disch:=first|omega | (simp (disch:=omega) [ev_tmp,ev_const,get_of,upd_same,upd_ne,h23,Tryd.underlying3,Tryd.underlying47,Tryd.underlying5,Tryd.underlying68,Tryd.underlying63,Tryd.underlying9,Tryd.underlying43];done) | (apply inK_i64;omega) | (apply inK_u64;omega)) only [op_len,cond_true,cond_false,List.toList_toArray,List.map_cons,List.map_nil,some_map,none_map,ti3,ti47,ti5,ti68,ti63,h23,wB0,wB1]
      with_reducible rfl
    simp only [onN,onB]
    repeat apply W.seq
    apply W.region
    · simp (disch:=first|omega | (simp (disch:=omega) [ev_tmp,ev_const,get_of,upd_same,upd_ne,h3,h4,h23,vb_cells,Tryd.underlying3,Tryd.underlying47,Tryd.underlying5,Tryd.underlying68,Tryd.underlying63,Tryd.underlying9,Tryd.underlying43];done) | (apply inK_i64;omega) | (apply inK_u64;omega) | (rw [c1];apply inK_i64;omega) | (rw [c2];apply inK_i64;omega)) only [op_len,cond_true,cond_false,List.toList_toArray,List.map_cons,List.map_nil,some_map,none_map,ti3,ti47,ti5,ti68,ti63,h3,h4,h23,oi_mul,c1,oi_sub,c2,bq_shr,conv_qb (ti63 ax) (ti5 ax),op_append (src_u8 ax),build_one (ti43 ax) (ti5 ax) rfl rfl,app_sl (el_u8 ax),e1,wB0,wB1]
      with_reducible rfl
    simp only [onN,onB]
    repeat apply W.seq
    apply W.region
    · simp (disch:=first|omega | (simp (disch:=omega) [ev_tmp,ev_const,get_of,upd_same,upd_ne,h23,Tryd.underlying3,Tryd.underlying47,Tryd.underlying5,Tryd.underlying68,Tryd.underlying63,Tryd.underlying9,Tryd.underlying43];done) | (apply inK_i64;omega) | (apply inK_u64;omega)) only [op_len,cond_true,cond_false,List.toList_toArray,List.map_cons,List.map_nil,some_map,none_map,ti3,ti47,ti5,ti68,ti63,oi_add,h23,wB0,wB1]
      with_reducible rfl
    simp only [onN,onB]
    refine ⟨8 - (i+1),by omega,i+1,ao',_,n2,g2,by omega,rfl,rfl,rfl,by omega,?_,?_,?_,?_,?_,?_,by rw [a3 _ (by omega)];exact p1,by rw [a3 _ (by omega)];exact p2,fun i hi=>by rw [a3 _ (by omega)];exact p0 i hi⟩
    · simp (disch:=omega) only [upd_same,upd_ne,h1]
    · simp (disch:=omega) only [upd_same,upd_ne,h2]
    · simp (disch:=omega) only [upd_same,upd_ne,h3]
    · simp (disch:=omega) only [upd_same,upd_ne];rfl
    · simp (disch:=omega) only [upd_same,upd_ne];rfl
    · rw [lens,← List.append_assoc,bvs_app];exact o1
  repeat apply W.seq
  refine W.cond (b:=false) ?_ ?_
  · simp (disch:=omega) only [ev_tmp,get_of,upd_same,upd_ne,hi8,decide_true,decide_false]
  simp only [cond_true,cond_false]
  apply W.exit
  simp only [onN,onB,Nat.beq_refl,cond_true,cond_false,bexit]
  have hi':i=8:=by omega
  subst hi'
  have hpad:128 :: List.replicate z 0++lens M.length 8=padB M.length:=by rw [hend];rfl
  rw [hpad] at hown
  have hpl:(padB M.length).length=1+z+8:=by rw [padB_len,hend];omega
  have F1:=hown.first (lim:=lim) (rd:=rd) (wr:=wr) (k:=1+z+8) (by omega) (Nat.le_refl _)
  rw [Nat.mul_one,List.take_of_length_le (by rw [bvs_len];omega)] at F1
  have CV:=fun ρ o=>conv_str (P:=Tryd.prog) (Γ:=EE ax) (ρ:=ρ) (o:=o) (ti43 ax) (ti9 ax) (ti5 ax) F1
  have L1:=ld_all (n:=n') (lim:=lim) (rd:=rd) (wr:=wr) (tiS_at ax) tiS_agg (g:=g') (f:=n) (u:=n*1024+0) (cs:=cellsS st blk M.length) (by rw [p1];exact rowOf_one) (cellsS_len l8 l64)
  rw [IG] at L1
  have hsize:(ByteArray.mk (padB M.length).toArray).size=1+z+8:=by show (padB M.length).toArray.size=_;rw [List.size_toArray];exact hpl
  obtain ⟨st2,blk2,hR2,n2,g2,rd2,e2,a1,a2,a3⟩:=add_run ax hp hC M st blk hR ⟨(padB M.length).toArray⟩ (by rw [hsize];omega) n' g' lim rd wr (by omega) (by omega) (by rw [p0 _ hG];exact hk)
  have hdl:(ByteArray.mk (padB M.length).toArray).data.toList=padB M.length:=List.toList_toArray ..
  rw [hdl] at hR2 e2
  have m8:=hR2.len
  have m64:=hR2.size
  have q1:g2 n=⟨false,[(n*1024+0,cellsS st blk M.length)],none⟩:=by rw [a2 _ (by omega)];exact p1
  have q2:g2 (n+1)=⟨false,[((n+1)*1024+0,List.replicate 32 (vb 0))],none⟩:=by rw [a2 _ (by omega)];exact p2
  have q0:∀ i,i<n→g2 i=g i:=fun i hi=>by rw [a2 _ (by omega)];exact p0 i hi
  have S1:=st_all (n:=n2) (lim:=lim) (rd:=rd2) (wr:=wr) (tiS_at ax) (f:=n) (u:=n*1024+0) (vs:=cellsS st2 blk2 (M++padB M.length).length) q1 (cellsS_len m8 m64) (cellsS_len l8 l64) (cellsS_one _ _ _)
  rw [IG] at S1
  have hW:st2=shaW M:=hR2.eq
  have hstr:∀ c:Nat,(Value.agg (cellsS st blk M.length).toArray)=strV st blk M.length:=fun _=>rfl
  unfold strV at e2
  repeat apply W.seq
  apply W.region
  · simp (disch:=first|omega | (simp (disch:=omega) [ev_tmp,ev_const,get_of,upd_same,upd_ne,h1,h4,Tryd.underlying3,Tryd.underlying47,Tryd.underlying5,Tryd.underlying68,Tryd.underlying63,Tryd.underlying9,Tryd.underlying43];done) | (apply inK_i64;omega) | (apply inK_u64;omega)) only [op_len,cond_true,cond_false,List.toList_toArray,List.map_cons,List.map_nil,some_map,none_map,ti3,ti47,ti5,ti68,ti63,h1,h4,L1,CV,e2,cells_agg,S1,wB0,wB1]
    with_reducible rfl
  simp only [onN,onB]
  generalize hg3:fupd g2 n ⟨false,[(n*1024+0,cellsS st2 blk2 (M++padB M.length).length)],none⟩=g3
  have r1:g3 n=⟨false,[(n*1024+0,cellsS st2 blk2 (M++padB M.length).length)],none⟩:=by rw [← hg3,fupd_same]
  have r2:g3 (n+1)=⟨false,[((n+1)*1024+0,List.replicate 32 (vb 0))],none⟩:=by rw [← hg3,fupd_ne _ _ _ _ (by omega)];exact q2
  have r0:∀ i,i<n→g3 i=g i:=fun i hi=>by rw [← hg3,fupd_ne _ _ _ _ (by omega)];exact q0 i hi
  clear hg3 q1 q2 q0 S1 L1 p1 p2 p0 F1 CV
  repeat apply W.seq
  apply W.region
  · simp (disch:=first|omega | (simp (disch:=omega) [ev_tmp,ev_const,get_of,upd_same,upd_ne,Tryd.underlying3,Tryd.underlying47,Tryd.underlying5,Tryd.underlying68,Tryd.underlying63,Tryd.underlying9,Tryd.underlying43];done) | (apply inK_i64;omega) | (apply inK_u64;omega)) only [op_len,cond_true,cond_false,List.toList_toArray,List.map_cons,List.map_nil,some_map,none_map,ti3,ti47,ti5,ti68,ti63,alloc_st (ti76 ax),wB0,wB1]
    with_reducible rfl
  simp only [onN,onB]
  repeat apply W.seq
  apply W.region
  · simp (disch:=first|omega | (simp (disch:=omega) [ev_tmp,ev_const,get_of,upd_same,upd_ne,Tryd.underlying3,Tryd.underlying47,Tryd.underlying5,Tryd.underlying68,Tryd.underlying63,Tryd.underlying9,Tryd.underlying43];done) | (apply inK_i64;omega) | (apply inK_u64;omega)) only [op_len,cond_true,cond_false,List.toList_toArray,List.map_cons,List.map_nil,some_map,none_map,ti3,ti47,ti5,ti68,ti63,wB0,wB1]
    with_reducible rfl
  simp only [onN,onB]
  repeat apply W.seq
  apply W.block
  refine W.loop (fun m fr s=>∃ (i:Nat) (h:Nat→Value) (g':Nat→Fam),i≤32∧m=32 - i∧fr=Fr.of 58 h∧s=St (n2+1) g' lim rd2 wr∧h 1=.pointer (some (mkA n (n*1024+0) 0))∧h 2=.pointer (some (mkA (n+1) ((n+1)*1024+0) 0))∧h 6=.pointer (some (mkA n2 (n2*1024+0) 0))∧h 40=.int .i64 (i:Int)∧g' n=⟨false,[(n*1024+0,cellsS st2 blk2 (M++padB M.length).length)],none⟩∧g' (n+1)=⟨false,[((n+1)*1024+0,List.replicate 32 (vb 0))],none⟩∧g' n2=⟨false,[(n2*1024+0,bvs (outs st2 i)++List.replicate (32 - i) (vb 0))],none⟩∧(∀ i,i<n→g' i=g i)) ?_ (32 - 0) _ _ ⟨0,_,_,by omega,rfl,rfl,rfl,?_,?_,?_,?_,?_,?_,?_,?_⟩
  case refine_2=>simp (disch:=omega) only [upd_same,upd_ne,h1]
  case refine_3=>simp (disch:=omega) only [upd_same,upd_ne,h2]
  case refine_4=>simp (disch:=omega) only [upd_same,upd_ne]
  case refine_5=>simp (disch:=omega) only [upd_same,upd_ne];rfl
  case refine_6=>rw [fupd_ne _ _ _ _ (by omega)];exact r1
  case refine_7=>rw [fupd_ne _ _ _ _ (by omega)];exact r2
  case refine_8=>rw [fupd_same];rfl
  case refine_9=>intro i hi;rw [fupd_ne _ _ _ _ (by omega)];exact r0 i hi
  clear r1 r2 r0 h1 h2 h3 h4 h23 hown
  rintro m fr s ⟨i,h,g',hi,rfl,rfl,rfl,h1,h2,h6,h40,p1,p2,p3,p0⟩
  repeat apply W.seq
  apply W.region
  · simp (disch:=first|omega | (simp (disch:=omega) [ev_tmp,ev_const,get_of,upd_same,upd_ne,h40,Tryd.underlying3,Tryd.underlying47,Tryd.underlying5,Tryd.underlying68,Tryd.underlying63,Tryd.underlying9,Tryd.underlying43];done) | (apply inK_i64;omega) | (apply inK_u64;omega)) only [op_len,cond_true,cond_false,List.toList_toArray,List.map_cons,List.map_nil,some_map,none_map,ti3,ti47,ti5,ti68,ti63,oi_lss,h40,wB0,wB1]
    with_reducible rfl
  simp only [onN,onB]
  by_cases hi32:(i:Int)<32
  case neg =>
    repeat apply W.seq
    refine W.cond (b:=false) ?_ ?_
    · simp (disch:=omega) only [ev_tmp,get_of,upd_same,upd_ne,hi32,decide_true,decide_false]
    simp only [cond_true,cond_false]
    apply W.exit
    simp only [onN,onB,Nat.beq_refl,cond_true,cond_false,bexit]
    have hi':i=32:=by omega
    subst hi'
    have hbl:(bvs (outs st2 32)++List.replicate (32 - 32) (vb 0))=bvs (sha M):=by
      rw [Nat.sub_self,List.replicate_zero,List.append_nil,hW];rfl
    rw [hbl] at p3
    have L1:=ld_all (n:=n2+1) (lim:=lim) (rd:=rd2) (wr:=wr) (ti76 ax) rfl (g:=g') (f:=n2) (u:=n2*1024+0) (cs:=bvs (sha M)) (by rw [p3];exact rowOf_one) (by rw [bvs_len,sha_len])
    rw [ins_ge (f:=n2) _ (by omega)] at L1
    have S1:=st_all (n:=n2+1) (lim:=lim) (rd:=rd2) (wr:=wr) (ti76 ax) (f:=n+1) (u:=(n+1)*1024+0) (vs:=bvs (sha M)) p2 (by rw [bvs_len,sha_len]) (by simp) (bvs_one _)
    rw [ins_ge (f:=n+1) _ (by omega)] at S1
    repeat apply W.seq
    apply W.region
    · simp (disch:=first|omega | (simp (disch:=omega) [ev_tmp,ev_const,get_of,upd_same,upd_ne,h2,h6,Tryd.underlying3,Tryd.underlying47,Tryd.underlying5,Tryd.underlying68,Tryd.underlying63,Tryd.underlying9,Tryd.underlying43];done) | (apply inK_i64;omega) | (apply inK_u64;omega)) only [op_len,cond_true,cond_false,List.toList_toArray,List.map_cons,List.map_nil,some_map,none_map,ti3,ti47,ti5,ti68,ti63,h2,h6,L1,cells_agg,S1,wB0,wB1]
      with_reducible rfl
    simp only [onN,onB]
    apply W.ret
    refine ⟨.inr rfl,n2+1,fupd g' (n+1) ⟨false,[((n+1)*1024+0,bvs (sha M))],none⟩,rd2,?_,by omega,fun i hi=>by rw [fupd_ne _ _ _ _ (by omega)];exact p0 i hi,a3⟩
    have L2:=ld_all (n:=n2+1) (lim:=lim) (rd:=rd2) (wr:=wr) (ti76 ax) rfl (g:=fupd g' (n+1) ⟨false,[((n+1)*1024+0,bvs (sha M))],none⟩) (f:=n+1) (u:=(n+1)*1024+0) (cs:=bvs (sha M)) (by rw [fupd_same];exact rowOf_one) (by rw [bvs_len,sha_len])
    rw [ins_ge (f:=n+1) _ (by omega)] at L2
    simp (disch:=first|omega | (simp (disch:=omega) only [get_of,upd_same,upd_ne,h2];done)) only [resC_cell (ad:=mkA (n+1) ((n+1)*1024+0) 0),resC_nil,Tryd.results55,L2,resThen_some,resAdd_some]
  repeat apply W.seq
  refine W.cond (b:=true) ?_ ?_
  · simp (disch:=omega) only [ev_tmp,get_of,upd_same,upd_ne,hi32,decide_true,decide_false]
  simp only [cond_true,cond_false]
  apply W.skip
  simp only [onN,onB]
  have hil:i<32:=by omega
  have d1:((i:Nat):Int) / 4=((i / 4:Nat):Int):=by omega
  have d2:((i:Nat):Int) % 4=((i % 4:Nat):Int):=by omega
  have d3:(8:Int)*((i % 4:Nat):Int)=((8*(i % 4):Nat):Int):=by omega
  have d4:(24:Int) - ((8*(i % 4):Nat):Int)=((24 - 8*(i % 4):Nat):Int):=by omega
  have L1:=ld_one (n:=n2+1) (lim:=lim) (rd:=rd2) (wr:=wr) (ti68 ax) rfl (g:=g') (f:=n) (u:=n*1024+0) (off:=i / 4) (cs:=cellsS st2 blk2 (M++padB M.length).length) (by rw [p1];exact rowOf_one) (cellsS_word m8 m64 (by omega))
  rw [IG] at L1
  have S1:=st_one (n:=n2+1) (lim:=lim) (rd:=rd2) (wr:=wr) (ti5 ax) (f:=n2) (u:=n2*1024+0) (off:=0+i) (v:=vb (outB st2 i)) p3 (by rw [List.length_append,bvs_len,outs_len,List.length_replicate];omega) rfl
  rw [ins_ge (f:=n2) _ (by omega),Nat.zero_add,out_cells st2 i hil] at S1
  unfold outB at S1
  repeat apply W.seq
  apply W.block
  repeat apply W.seq
  apply W.region
  · simp (disch:=first|omega | (simp (disch:=omega) [ev_tmp,ev_const,get_of,upd_same,upd_ne,h40,Tryd.underlying3,Tryd.underlying47,Tryd.underlying5,Tryd.underlying68,Tryd.underlying63,Tryd.underlying9,Tryd.underlying43];done) | (apply inK_i64;omega) | (apply inK_u64;omega)) only [op_len,cond_true,cond_false,List.toList_toArray,List.map_cons,List.map_nil,some_map,none_map,ti3,ti47,ti5,ti68,ti63,h40,wB0,wB1]
    with_reducible rfl
  simp only [onN,onB]
  repeat apply W.seq
  apply W.region
  · simp (disch:=first|omega | (simp (disch:=omega) [ev_tmp,ev_const,get_of,upd_same,upd_ne,h1,h6,h40,Tryd.underlying3,Tryd.underlying47,Tryd.underlying5,Tryd.underlying68,Tryd.underlying63,Tryd.underlying9,Tryd.underlying43];done) | (apply inK_i64;omega) | (apply inK_u64;omega) | (rw [d1];apply inK_i64;omega) | (rw [d3];apply inK_i64;omega) | (rw [d4];apply inK_i64;omega)) only [op_len,cond_true,cond_false,List.toList_toArray,List.map_cons,List.map_nil,some_map,none_map,ti3,ti47,ti5,ti68,ti63,h1,h6,h40,oi_quo,d1,oi_rem,d2,oi_mul,d3,oi_sub,d4,natOf_nat,fa0 ax,idx_arr (ti69 ax) (ti68 ax) (show i / 4<8 by omega),L1,bw_shr,conv_wb (ti68 ax) (ti5 ax),idx_arr (ti76 ax) (ti5 ax) hil,Nat.zero_add,cells_vb,S1,wB0,wB1]
    with_reducible rfl
  simp only [onN,onB]
  repeat apply W.seq
  apply W.region
  · simp (disch:=first|omega | (simp (disch:=omega) [ev_tmp,ev_const,get_of,upd_same,upd_ne,h40,Tryd.underlying3,Tryd.underlying47,Tryd.underlying5,Tryd.underlying68,Tryd.underlying63,Tryd.underlying9,Tryd.underlying43];done) | (apply inK_i64;omega) | (apply inK_u64;omega)) only [op_len,cond_true,cond_false,List.toList_toArray,List.map_cons,List.map_nil,some_map,none_map,ti3,ti47,ti5,ti68,ti63,oi_add,h40,wB0,wB1]
    with_reducible rfl
  simp only [onN,onB]
  refine ⟨32 - (i+1),by omega,i+1,_,_,by omega,rfl,rfl,rfl,?_,?_,?_,?_,?_,?_,?_,?_⟩
  · simp (disch:=omega) only [upd_same,upd_ne,h1]
  · simp (disch:=omega) only [upd_same,upd_ne,h2]
  · simp (disch:=omega) only [upd_same,upd_ne,h6]
  · simp (disch:=omega) only [upd_same,upd_ne];rfl
  · rw [fupd_ne _ _ _ _ (by omega)];exact p1
  · rw [fupd_ne _ _ _ _ (by omega)];exact p2
  · rw [fupd_same]
  · intro i hi;rw [fupd_ne _ _ _ _ (by omega)];exact p0 i hi
end Go.Proofs.YtcgdomhednbdpaaDoor
namespace Go.Proofs.YtcgdomhednbdpaaDoor
open Go Go.RowKit
set_option maxRecDepth 100000
def ByteArg (g:Nat→Fam) (n:Nat) (x:Option Addr) (len:Nat) (bs:List UInt8):Prop :=
  bs.length=len∧(len=0∨∃ f u off cs,x=some (mkA f u off)∧f<n∧rowOf (g f).rows u=some cs∧off+len≤cs.length∧(cs.drop off).take len=bvs bs)
def RB (x:Option Addr) (i:Nat):Prop:=∃ a,x=some a∧a.block=i
theorem ByteArg.first {g g' : Nat → Fam} {n N len cap lim : Nat} {rd wr : List Nat} {x : Option Addr} {bs : List UInt8} (h : ByteArg g n x len bs) (hg : ∀ i, i < n → g' i = g i) :
    ∃ rd',CS.firstCells (St N g' lim rd wr) 1 len (.slice x len cap)=some (bvs bs,St N g' lim rd' wr)∧∀ y,y∈rd'→y∈rd∨(RB x y∧y<n):=by
  obtain ⟨h1,h⟩:=h
  by_cases h0:len=0
  · subst h0
    have:bs=[]:=List.eq_nil_of_length_eq_zero h1
    subst this
    exact ⟨rd,first_zero (by simp),fun y hy=>.inl hy⟩
  · rcases h with h|⟨f,u,off,cs,rfl,hf,hr,hl,hc⟩
    · exact absurd h h0
    · refine ⟨ins lim rd f,?_,fun y hy=>?_⟩
      · rw [first_slq (cs:=cs) (by rw [hg f hf];exact hr) (by omega) (by omega),Nat.mul_one,hc]
      · rcases mem_ins hy with hy|hy
        · exact .inl hy
        · exact .inr ⟨⟨_,rfl,by rw [block_mk];exact hy.1.symm⟩,by omega⟩
set_option maxHeartbeats 1000000 in
theorem hsum_run (ax : Axs) (hp : Plain ax) (hC : ax 66 = some hComp) (x : Option Addr) (len cap : Nat) (bs : List UInt8) (hlen : len < 10000000000) (n : Nat) (g : Nat → Fam) (lim : Nat) (rd wr : List Nat) (hl : lim ≤ n) (hb : ByteArg g n x len bs) (hG : 1 < n) (hk : rowOf (g 1).rows (1 * 1024) = some (wvs KW)) :
    Ret Tryd.prog (EE ax) 61 [.slice x len cap] n g lim rd wr (fun i=>RG i∨(RB x i∧i<n)) (.agg (bvs (sha bs)).toArray):=by
  have hax:ax 61=none:=hp _ (by decide)
  refine Ret.of (fn:=Tryd.f61) 8 hax (fn61 ax) rfl Tryd.ntmps61 (by simp) ?_
  simp (disch:=omega) only [ofArgs_cons,ofArgs_nil,Nat.reduceAdd]
  repeat apply W.seq
  apply W.region
  · simp (disch:=first|omega | (simp (disch:=omega) [ev_tmp,ev_const,get_of,upd_same,upd_ne,Tryd.underlying3,Tryd.underlying47,Tryd.underlying5,Tryd.underlying68,Tryd.underlying63,Tryd.underlying9,Tryd.underlying43];done) | (apply inK_i64;omega) | (apply inK_u64;omega)) only [op_len,cond_true,cond_false,List.toList_toArray,List.map_cons,List.map_nil,some_map,none_map,ti3,ti47,ti5,ti68,ti63,alloc_st (ti76 ax),wB0,wB1]
    with_reducible rfl
  simp only [onN,onB]
  generalize hg0:fupd g n ⟨false,[(n*1024+0,List.replicate 32 (.int .u8 0))],none⟩=g0
  have p1:g0 n=⟨false,[(n*1024+0,List.replicate 32 (vb 0))],none⟩:=by rw [← hg0,fupd_same];rfl
  have p0:∀ i,i<n→g0 i=g i:=fun i hi=>by rw [← hg0,fupd_ne _ _ _ _ (by omega)]
  clear hg0
  obtain ⟨n1,g1,rd1,e1,a1,a2,a3⟩:=begin_run ax hp (n+1) g0 (n+1) [] [] (Nat.le_refl _)
  have q1:∀ y,y∈rd1→y<n+1:=fun y hy=>by rcases a3 y hy with h|h;simp at h;exact h.1.elim
  obtain ⟨rdc,ec,c3⟩:=hb.first (N:=n1) (g':=g1) (lim:=n1) (rd:=[]) (wr:=[]) (cap:=cap) (fun i hi=>by rw [a2 _ (by omega)];exact p0 i hi)
  have qc:∀ y,y∈rdc→y<n+1:=fun y hy=>by rcases c3 y hy with h|h;simp at h;omega
  have CV:=fun ρ o=>conv_str (P:=Tryd.prog) (Γ:=EE ax) (ρ:=ρ) (o:=o) (ti43 ax) (ti9 ax) (ti5 ax) ec
  have hsize:(ByteArray.mk bs.toArray).size=len:=by show bs.toArray.size=_;rw [List.size_toArray];exact hb.1
  have hdl:(ByteArray.mk bs.toArray).data.toList=bs:=List.toList_toArray ..
  obtain ⟨st2,blk2,hR2,n2,g2,rd2,e2,b1,b2,b3⟩:=add_run ax hp hC [] IVW (List.replicate 64 0) (Repr.start _ rfl) ⟨bs.toArray⟩ (by rw [hsize];simp;omega) n1 g1 n1 [] [] (Nat.le_refl _) (by omega) (by rw [a2 _ (by omega),p0 _ hG];exact hk)
  rw [hdl,List.nil_append] at hR2 e2
  rw [List.length_nil] at e2
  have q2:∀ y,y∈rd2→y<n+1:=fun y hy=>by
    rcases b3 y hy with h|h
    · simp at h
    · have:=h.1;unfold RG at this;omega
  obtain ⟨n3,g3,rd3,e3,d1,d2,d3⟩:=ssum_run ax hp hC bs st2 blk2 hR2 (by rw [hb.1];omega) n2 g2 n2 [] [] (Nat.le_refl _) (by omega) (by rw [b2 _ (by omega),a2 _ (by omega),p0 _ hG];exact hk)
  have q3:∀ y,y∈rd3→y<n+1:=fun y hy=>by
    rcases d3 y hy with h|h
    · simp at h
    · have:=h.1;unfold RG at this;omega
  have r1:g3 n=⟨false,[(n*1024+0,List.replicate 32 (vb 0))],none⟩:=by rw [d2 _ (by omega),b2 _ (by omega),a2 _ (by omega)];exact p1
  have r0:∀ i,i<n→g3 i=g i:=fun i hi=>by rw [d2 _ (by omega),b2 _ (by omega),a2 _ (by omega)];exact p0 i hi
  have S1:=st_allq (n:=n3) (ti76 ax) (g:=g3) (f:=n) (u:=n*1024+0) (vs:=bvs (sha bs)) r1 (by rw [bvs_len,sha_len]) (by simp) (bvs_one _) (by omega)
  have IG:=fun l=>ins_ge (m:=lim) (f:=n) l (by omega)
  repeat apply W.seq
  apply W.last
  · kernel_rfl
  · simp (disch:=first|omega | (simp (disch:=omega) [ev_tmp,ev_const,get_of,upd_same,upd_ne,Tryd.underlying3,Tryd.underlying47,Tryd.underlying5,Tryd.underlying68,Tryd.underlying63,Tryd.underlying9,Tryd.underlying43];done) | (apply inK_i64;omega) | (apply inK_u64;omega)) only [op_len,cond_true,cond_false,List.toList_toArray,List.map_cons,List.map_nil,some_map,none_map,ti3,ti47,ti5,ti68,ti63,quietL_cons,quietL_one,inner_st,thenL_same,thenL_rd,lastL_some,insAll_nil,insAll_cons,e1,CV,e2,e3,thenL_gen q1,thenL_gen qc,thenL_gen q2,thenL_gen q3,cells_agg,S1,IG,wB0,wB1]
    with_reducible rfl
  simp only [onN,onB]
  apply W.ret
  refine ⟨.inr rfl,n3,fupd g3 n ⟨false,[(n*1024+0,bvs (sha bs))],none⟩,insAll lim (insAll lim (insAll lim (insAll lim rd rd1) rdc) rd2) rd3,?_,by omega,fun i hi=>by rw [fupd_ne _ _ _ _ (by omega)];exact r0 i hi,?_⟩
  · have L2:=fun rd=>ld_all (n:=n3) (lim:=lim) (rd:=rd) (wr:=wr) (ti76 ax) rfl (g:=fupd g3 n ⟨false,[(n*1024+0,bvs (sha bs))],none⟩) (f:=n) (u:=n*1024+0) (cs:=bvs (sha bs)) (by rw [fupd_same];exact rowOf_one) (by rw [bvs_len,sha_len])
    simp only [IG] at L2
    simp (disch:=first|omega | (simp (disch:=omega) only [get_of,upd_same,upd_ne];done)) only [resC_cell (ad:=mkA n (n*1024+0) 0),resC_nil,Tryd.results61,L2,resThen_some,resAdd_some]
  · intro y hy
    rcases insAll_mem rfl y hy with hy|⟨hy,hyl⟩
    · rcases insAll_mem rfl y hy with hy|⟨hy,hyl⟩
      · rcases insAll_mem rfl y hy with hy|⟨hy,hyl⟩
        · rcases insAll_mem rfl y hy with hy|⟨hy,hyl⟩
          · exact .inl hy
          · rcases a3 y hy with h|h
            · simp at h
            · exact h.1.elim
        · rcases c3 y hy with h|h
          · simp at h
          · exact .inr ⟨.inr h,hyl⟩
      · rcases b3 y hy with h|h
        · simp at h
        · exact .inr ⟨.inl h.1,hyl⟩
    · rcases d3 y hy with h|h
      · simp at h
      · exact .inr ⟨.inl h.1,hyl⟩
end Go.Proofs.YtcgdomhednbdpaaDoor
namespace Go.Proofs.YtcgdomhednbdpaaDoor
open Go Go.RowKit
set_option maxRecDepth 100000
def xorL (b:List UInt8) (c:UInt8):Nat→List UInt8
 |0=>b
 |i+1=>(xorL b c i).set i ((xorL b c i).getD i 0 ^^^ c)
theorem xorL_len (b:List UInt8) (c:UInt8):∀ i,(xorL b c i).length=b.length
 |0=>rfl
 |i+1=>by rw [xorL,List.length_set,xorL_len b c i]
def padS (key:List UInt8) (c:UInt8):List UInt8:=xorL (lay (List.replicate 64 0) 0 key) c 64
theorem padS_len (key:List UInt8) (c:UInt8) (h:key.length≤64):(padS key c).length=64:=by
 unfold padS
 rw [xorL_len,lay_len (by simp;omega)];simp
theorem bvs_set (l:List UInt8) (k:Nat) (x:UInt8):(bvs l).set k (vb x)=bvs (l.set k x):=by
 unfold bvs
 rw [List.map_set]
set_option maxHeartbeats 1000000 in
theorem pad_run (ax : Axs) (hp : Plain ax) (c : UInt8) (key : ByteArray) (hkey : key.size ≤ 64) (f u : Nat) (n : Nat) (g : Nat → Fam) (lim : Nat) (rd wr : List Nat) (hl : lim ≤ n) (hf : f < n) (hr : rowOf (g f).rows u = some [.string key]) :
    Ret Tryd.prog (EE ax) 62 [vb c,.pointer (some (mkA f u 0))] n g lim rd wr (fun i=>i=f) (.string ⟨(padS key.data.toList c).toArray⟩):=by
  have hax:ax 62=none:=hp _ (by decide)
  refine Ret.of (fn:=Tryd.f62) 21 hax (fn62 ax) rfl Tryd.ntmps62 (by simp) ?_
  simp (disch:=omega) only [ofArgs_cons,ofArgs_nil,Nat.reduceAdd]
  repeat apply W.seq
  apply W.region
  · simp (disch:=first|omega | (simp (disch:=omega) [ev_tmp,ev_const,get_of,upd_same,upd_ne,Tryd.underlying3,Tryd.underlying47,Tryd.underlying5,Tryd.underlying68,Tryd.underlying63,Tryd.underlying9,Tryd.underlying43];done) | (apply inK_i64;omega) | (apply inK_u64;omega)) only [op_len,cond_true,cond_false,List.toList_toArray,List.map_cons,List.map_nil,some_map,none_map,ti3,ti47,ti5,ti68,ti63,wB0,wB1]
    with_reducible rfl
  simp only [onN,onB]
  repeat apply W.seq
  apply W.region
  · simp (disch:=first|omega | (simp (disch:=omega) [ev_tmp,ev_const,get_of,upd_same,upd_ne,Tryd.underlying3,Tryd.underlying47,Tryd.underlying5,Tryd.underlying68,Tryd.underlying63,Tryd.underlying9,Tryd.underlying43];done) | (apply inK_i64;omega) | (apply inK_u64;omega)) only [op_len,cond_true,cond_false,List.toList_toArray,List.map_cons,List.map_nil,some_map,none_map,ti3,ti47,ti5,ti68,ti63,alloc_st (ti70 ax),wB0,wB1]
    with_reducible rfl
  simp only [onN,onB]
  generalize hg0:fupd g n ⟨false,[(n*1024+0,List.replicate 64 (.int .u8 0))],none⟩=g0
  have p1:g0 n=⟨false,[(n*1024+0,bvs (List.replicate 64 0))],none⟩:=by rw [← hg0,fupd_same];rfl
  have p0:∀ i,i<n→g0 i=g i:=fun i hi=>by rw [← hg0,fupd_ne _ _ _ _ (by omega)]
  clear hg0
  have bd:=bounds_all (len:=64) (cap:=64) (Nat.le_refl _)
  have L1:=ld_q (n:=n+1) (ti9 ax) rfl (g:=g0) (f:=f) (u:=u) (off:=0) (cs:=[.string key]) (v:=.string key) (by rw [p0 _ hf];exact hr) rfl (by omega)
  have IG:=fun l=>ins_ge (m:=lim) (f:=n) l (by omega)
  repeat apply W.seq
  refine W.last_ex (fun fr s=>∃ h g',fr=Fr.of 21 h∧s=St (n+1) g' lim (ins lim rd f) wr∧h 0=vb c∧h 4=.pointer (some (mkA n (n*1024+0) 0))∧g' n=⟨false,[(n*1024+0,bvs (lay (List.replicate 64 0) 0 key.data.toList))],none⟩∧∀ i,i<n→g' i=g i) (by kernel_rfl) ?_ ?_
  · by_cases h0:min key.size 64=0
    · have CP:=fun s=>copy_zero (s:=s) (el_u8 ax) rfl (a:=some (mkA n (n*1024+0) (0+0*1))) (len:=64 - 0) (cap:=64 - 0) (b:=key) h0
      have hnil:key.data.toList=[]:=List.eq_nil_of_length_eq_zero (by rw [str_len];omega)
      apply Exists.intro
      apply And.intro
      · simp (disch:=first|omega | (simp (disch:=omega) [ev_tmp,ev_const,get_of,upd_same,upd_ne,Tryd.underlying3,Tryd.underlying47,Tryd.underlying5,Tryd.underlying68,Tryd.underlying63,Tryd.underlying9,Tryd.underlying43];done) | (apply inK_i64;omega) | (apply inK_u64;omega)) only [op_len,cond_true,cond_false,List.toList_toArray,List.map_cons,List.map_nil,some_map,none_map,ti3,ti47,ti5,ti68,ti63,quietL_cons,quietL_one,inner_st,thenL_same,thenL_rd,lastL_some,insAll_nil,insAll_cons,slice_arr1 (ti70 ax) (ti5 ax) (by omega) bd (show (n*1024+0) % 1024=0 by omega),L1,op_copy,CP,IG,wB0,wB1]
        with_reducible rfl
      · refine ⟨_,g0,rfl,rfl,?_,?_,?_,p0⟩
        · simp (disch:=omega) only [upd_same,upd_ne]
        · simp (disch:=omega) only [upd_same,upd_ne]
        · rw [hnil];exact p1
    · have CP:=copy_str (lim:=n+1) (rd:=[]) (wr:=[]) (n:=n+1) (el_u8 ax) rfl (f:=n) (u:=n*1024+0) (off:=0+0*1) (len:=64 - 0) (cap:=64 - 0) (b:=key) p1 h0 (by rw [bvs_len,List.length_replicate];omega)
      rw [ins_lt (show n<n+1 by omega)] at CP
      have hmin:min key.size (64 - 0)=key.size:=by omega
      have htk:key.data.toList.take key.size=key.data.toList:=List.take_of_length_le (by rw [str_len];omega)
      rw [hmin,htk] at CP
      apply Exists.intro
      apply And.intro
      · simp (disch:=first|omega | (simp (disch:=omega) [ev_tmp,ev_const,get_of,upd_same,upd_ne,Tryd.underlying3,Tryd.underlying47,Tryd.underlying5,Tryd.underlying68,Tryd.underlying63,Tryd.underlying9,Tryd.underlying43];done) | (apply inK_i64;omega) | (apply inK_u64;omega)) only [op_len,cond_true,cond_false,List.toList_toArray,List.map_cons,List.map_nil,some_map,none_map,ti3,ti47,ti5,ti68,ti63,quietL_cons,quietL_one,inner_st,thenL_same,thenL_rd,lastL_some,insAll_nil,insAll_cons,slice_arr1 (ti70 ax) (ti5 ax) (by omega) bd (show (n*1024+0) % 1024=0 by omega),L1,op_copy,CP,IG,wB0,wB1]
        with_reducible rfl
      · refine ⟨_,_,rfl,rfl,?_,?_,?_,fun i hi=>by rw [fupd_ne _ _ _ _ (by omega)];exact p0 i hi⟩
        · simp (disch:=omega) only [upd_same,upd_ne]
        · simp (disch:=omega) only [upd_same,upd_ne]
        · rw [fupd_same]
          have:splice (bvs (List.replicate 64 0)) (0+0*1) (bvs key.data.toList)=bvs (lay (List.replicate 64 0) 0 key.data.toList):=by
            unfold splice lay
            rw [bvs_len,bvs_app,bvs_app,bvs_take,bvs_drop]
          rw [this]
  rintro fr s ⟨h,g1,rfl,rfl,h0,h4,q1,q0⟩
  simp only [onN,onB]
  have hll:(lay (List.replicate 64 0) 0 key.data.toList).length=64:=by rw [lay_len (by rw [str_len];simp;omega)];simp
  generalize hB:lay (List.replicate 64 0) 0 key.data.toList=B at *
  repeat apply W.seq
  apply W.region
  · simp (disch:=first|omega | (simp (disch:=omega) [ev_tmp,ev_const,get_of,upd_same,upd_ne,Tryd.underlying3,Tryd.underlying47,Tryd.underlying5,Tryd.underlying68,Tryd.underlying63,Tryd.underlying9,Tryd.underlying43];done) | (apply inK_i64;omega) | (apply inK_u64;omega)) only [op_len,cond_true,cond_false,List.toList_toArray,List.map_cons,List.map_nil,some_map,none_map,ti3,ti47,ti5,ti68,ti63,wB0,wB1]
    with_reducible rfl
  simp only [onN,onB]
  repeat apply W.seq
  apply W.block
  refine W.loop (fun m fr s=>∃ (i:Nat) (h:Nat→Value) (g':Nat→Fam),i≤64∧m=64 - i∧fr=Fr.of 21 h∧s=St (n+1) g' lim (ins lim rd f) wr∧h 0=vb c∧h 4=.pointer (some (mkA n (n*1024+0) 0))∧h 9=.int .i64 (i:Int)∧g' n=⟨false,[(n*1024+0,bvs (xorL B c i))],none⟩∧∀ i,i<n→g' i=g i) ?_ (64 - 0) _ _ ⟨0,_,_,by omega,rfl,rfl,rfl,?_,?_,?_,q1,q0⟩
  case refine_2=>simp (disch:=omega) only [upd_same,upd_ne,h0]
  case refine_3=>simp (disch:=omega) only [upd_same,upd_ne,h4]
  case refine_4=>simp (disch:=omega) only [upd_same,upd_ne];rfl
  clear h0 h4 q1 q0
  rintro m fr s ⟨i,h,g',hi,rfl,rfl,rfl,h0,h4,h9,q1,q0⟩
  repeat apply W.seq
  apply W.region
  · simp (disch:=first|omega | (simp (disch:=omega) [ev_tmp,ev_const,get_of,upd_same,upd_ne,h9,Tryd.underlying3,Tryd.underlying47,Tryd.underlying5,Tryd.underlying68,Tryd.underlying63,Tryd.underlying9,Tryd.underlying43];done) | (apply inK_i64;omega) | (apply inK_u64;omega)) only [op_len,cond_true,cond_false,List.toList_toArray,List.map_cons,List.map_nil,some_map,none_map,ti3,ti47,ti5,ti68,ti63,oi_lss,h9,wB0,wB1]
    with_reducible rfl
  simp only [onN,onB]
  by_cases hi64:(i:Int)<64
  case neg =>
    repeat apply W.seq
    refine W.cond (b:=false) ?_ ?_
    · simp (disch:=omega) only [ev_tmp,get_of,upd_same,upd_ne,hi64,decide_true,decide_false]
    simp only [cond_true,cond_false]
    apply W.exit
    simp only [onN,onB,Nat.beq_refl,cond_true,cond_false,bexit]
    have hi':i=64:=by omega
    subst hi'
    have F1:=first_sl (n:=n+1) (lim:=lim) (rd:=ins lim rd f) (wr:=wr) (g:=g') (f:=n) (u:=n*1024+0) (off:=0+0*1) (len:=64 - 0) (cap:=64 - 0) (e:=1) (k:=64 - 0) (cs:=bvs (xorL B c 64)) (by rw [q1];exact rowOf_one) (by rw [bvs_len,xorL_len];omega) (by omega)
    rw [show ((bvs (xorL B c 64)).drop (0+0*1)).take ((64 - 0)*1)=bvs (xorL B c 64) from List.take_of_length_le (by rw [show (bvs (xorL B c 64)).drop (0+0*1)=bvs (xorL B c 64) from rfl,bvs_len,xorL_len];omega)] at F1
    have CV:=fun ρ o=>conv_str (P:=Tryd.prog) (Γ:=EE ax) (ρ:=ρ) (o:=o) (ti43 ax) (ti9 ax) (ti5 ax) F1
    repeat apply W.seq
    apply W.region
    · simp (disch:=first|omega | (simp (disch:=omega) [ev_tmp,ev_const,get_of,upd_same,upd_ne,h4,Tryd.underlying3,Tryd.underlying47,Tryd.underlying5,Tryd.underlying68,Tryd.underlying63,Tryd.underlying9,Tryd.underlying43];done) | (apply inK_i64;omega) | (apply inK_u64;omega)) only [op_len,cond_true,cond_false,List.toList_toArray,List.map_cons,List.map_nil,some_map,none_map,ti3,ti47,ti5,ti68,ti63,h4,slice_arr1 (ti70 ax) (ti5 ax) (by omega) bd (show (n*1024+0) % 1024=0 by omega),CV,wB0,wB1]
      with_reducible rfl
    simp only [onN,onB]
    apply W.ret
    refine ⟨.inr rfl,n+1,g',ins lim rd f,?_,by omega,q0,fun y hy=>?_⟩
    · simp (disch:=omega) only [resC,Tryd.results62,get_of,upd_same]
      rw [← hB];rfl
    · rcases mem_ins hy with hy|hy
      · exact .inl hy
      · exact .inr hy
  repeat apply W.seq
  refine W.cond (b:=true) ?_ ?_
  · simp (disch:=omega) only [ev_tmp,get_of,upd_same,upd_ne,hi64,decide_true,decide_false]
  simp only [cond_true,cond_false]
  apply W.skip
  simp only [onN,onB]
  have hil:i<64:=by omega
  have L1:=ld_one (n:=n+1) (lim:=lim) (rd:=ins lim rd f) (wr:=wr) (ti5 ax) rfl (g:=g') (f:=n) (u:=n*1024+0) (off:=0+i) (cs:=bvs (xorL B c i)) (by rw [q1];exact rowOf_one) (by rw [Nat.zero_add];exact bvs_get (by rw [xorL_len];omega))
  rw [IG] at L1
  have S1:=st_one (n:=n+1) (lim:=lim) (rd:=ins lim rd f) (wr:=wr) (ti5 ax) (f:=n) (u:=n*1024+0) (off:=0+i) (v:=vb ((xorL B c i).getD i 0 ^^^ c)) q1 (by rw [bvs_len,xorL_len];omega) rfl
  rw [IG] at S1
  repeat apply W.seq
  apply W.block
  repeat apply W.seq
  apply W.region
  · simp (disch:=first|omega | (simp (disch:=omega) [ev_tmp,ev_const,get_of,upd_same,upd_ne,h9,Tryd.underlying3,Tryd.underlying47,Tryd.underlying5,Tryd.underlying68,Tryd.underlying63,Tryd.underlying9,Tryd.underlying43];done) | (apply inK_i64;omega) | (apply inK_u64;omega)) only [op_len,cond_true,cond_false,List.toList_toArray,List.map_cons,List.map_nil,some_map,none_map,ti3,ti47,ti5,ti68,ti63,h9,wB0,wB1]
    with_reducible rfl
  simp only [onN,onB]
  repeat apply W.seq
  apply W.region
  · simp (disch:=first|omega | (simp (disch:=omega) [ev_tmp,ev_const,get_of,upd_same,upd_ne,h0,h4,Tryd.underlying3,Tryd.underlying47,Tryd.underlying5,Tryd.underlying68,Tryd.underlying63,Tryd.underlying9,Tryd.underlying43];done) | (apply inK_i64;omega) | (apply inK_u64;omega)) only [op_len,cond_true,cond_false,List.toList_toArray,List.map_cons,List.map_nil,some_map,none_map,ti3,ti47,ti5,ti68,ti63,h0,h4,natOf_nat,idx_arr (ti70 ax) (ti5 ax) hil,L1,bb_xor,cells_vb,S1,wB0,wB1]
    with_reducible rfl
  simp only [onN,onB]
  repeat apply W.seq
  apply W.region
  · simp (disch:=first|omega | (simp (disch:=omega) [ev_tmp,ev_const,get_of,upd_same,upd_ne,h9,Tryd.underlying3,Tryd.underlying47,Tryd.underlying5,Tryd.underlying68,Tryd.underlying63,Tryd.underlying9,Tryd.underlying43];done) | (apply inK_i64;omega) | (apply inK_u64;omega)) only [op_len,cond_true,cond_false,List.toList_toArray,List.map_cons,List.map_nil,some_map,none_map,ti3,ti47,ti5,ti68,ti63,oi_add,h9,wB0,wB1]
    with_reducible rfl
  simp only [onN,onB]
  refine ⟨64 - (i+1),by omega,i+1,_,_,by omega,rfl,rfl,rfl,?_,?_,?_,?_,fun i hi=>by rw [fupd_ne _ _ _ _ (by omega)];exact q0 i hi⟩
  · simp (disch:=omega) only [upd_same,upd_ne,h0]
  · simp (disch:=omega) only [upd_same,upd_ne,h4]
  · simp (disch:=omega) only [upd_same,upd_ne];rfl
  · rw [fupd_same,Nat.zero_add,bvs_set];rfl
end Go.Proofs.YtcgdomhednbdpaaDoor
namespace Go.Proofs.YtcgdomhednbdpaaDoor
open Go Go.RowKit
set_option maxRecDepth 100000
def keyK (key:List UInt8):List UInt8:=if 64<key.length then sha key else key
def macB (key text:List UInt8):List UInt8:=sha (padS (keyK key) 92++sha (padS (keyK key) 54++text))
theorem macB_len (key text:List UInt8):(macB key text).length=32:=sha_len _
theorem keyK_len (key:List UInt8):(keyK key).length≤64:=by unfold keyK;split;rw [sha_len];omega;omega
theorem mk_size (l:List UInt8):(ByteArray.mk l.toArray).size=l.length:=List.size_toArray ..
theorem mk_list (l:List UInt8):(ByteArray.mk l.toArray).data.toList=l:=List.toList_toArray ..
set_option maxHeartbeats 2000000 in
theorem mac_run (ax : Axs) (hp : Plain ax) (hC : ax 66 = some hComp) (key text : ByteArray) (hkey : key.size < 1000000000) (htext : text.size < 1000000000) (n : Nat) (g : Nat → Fam) (lim : Nat) (rd wr : List Nat) (hl : lim ≤ n) (hG : 1 < n) (hk : rowOf (g 1).rows (1 * 1024) = some (wvs KW)) :
    Ret Tryd.prog (EE ax) 49 [.string key,.string text] n g lim rd wr RG (.string ⟨(macB key.data.toList text.data.toList).toArray⟩):=by
  have hax:ax 49=none:=hp _ (by decide)
  refine Ret.of (fn:=Tryd.f49) 35 hax (fn49 ax) rfl Tryd.ntmps49 (by simp) ?_
  simp (disch:=omega) only [ofArgs_cons,ofArgs_nil,Nat.reduceAdd]
  have IG:=fun l=>ins_ge (m:=lim) (f:=n) l (by omega)
  repeat apply W.seq
  apply W.region
  · simp (disch:=first|omega | (simp (disch:=omega) [ev_tmp,ev_const,get_of,upd_same,upd_ne,Tryd.underlying3,Tryd.underlying47,Tryd.underlying5,Tryd.underlying68,Tryd.underlying63,Tryd.underlying9,Tryd.underlying43];done) | (apply inK_i64;omega) | (apply inK_u64;omega)) only [op_len,cond_true,cond_false,List.toList_toArray,List.map_cons,List.map_nil,some_map,none_map,ti3,ti47,ti5,ti68,ti63,List.map_toArray,List.nil_append,List.cons_append,List.append_nil,box_st,cells_str,wB0,wB1]
    with_reducible rfl
  simp only [onN,onB]
  generalize hg0:fupd g n ⟨false,[(n*1024+0,[Value.string key])],none⟩=g0
  have p1:g0 n=⟨false,[(n*1024+0,[.string key])],none⟩:=by rw [← hg0,fupd_same]
  have p0:∀ i,i<n→g0 i=g i:=fun i hi=>by rw [← hg0,fupd_ne _ _ _ _ (by omega)]
  clear hg0
  have bd:=bounds_all (len:=32) (cap:=32) (Nat.le_refl _)
  apply W.seq
  refine W.cut (fun fr s=>∃ (h:Nat→Value) (n1:Nat) (g1:Nat→Fam) (rd1:List Nat) (k:ByteArray),fr=Fr.of 35 h∧s=St n1 g1 lim rd1 wr∧n+1≤n1∧k.data.toList=keyK key.data.toList∧h 1=.string text∧h 2=.pointer (some (mkA n (n*1024+0) 0))∧g1 n=⟨false,[(n*1024+0,[.string k])],none⟩∧(∀ i,i<n→g1 i=g i)∧(∀ x,x∈rd1→x∈rd∨(RG x∧x<lim))) ?_ ?_
  · have L1:=ld_one (n:=n+1) (lim:=lim) (rd:=rd) (wr:=wr) (ti9 ax) rfl (g:=g0) (f:=n) (u:=n*1024+0) (off:=0) (cs:=[.string key]) (v:=.string key) (by rw [p1];exact rowOf_one) rfl
    rw [IG] at L1
    repeat apply W.seq
    apply W.region
    · simp (disch:=first|omega | (simp (disch:=omega) [ev_tmp,ev_const,get_of,upd_same,upd_ne,Tryd.underlying3,Tryd.underlying47,Tryd.underlying5,Tryd.underlying68,Tryd.underlying63,Tryd.underlying9,Tryd.underlying43];done) | (apply inK_i64;omega) | (apply inK_u64;omega)) only [op_len,cond_true,cond_false,List.toList_toArray,List.map_cons,List.map_nil,some_map,none_map,ti3,ti47,ti5,ti68,ti63,List.map_toArray,List.nil_append,List.cons_append,List.append_nil,L1,len_str (ti9 ax),oi_gtr,wB0,wB1]
      with_reducible rfl
    simp only [onN,onB]
    by_cases hbig:(64:Int)<key.size
    case neg =>
      repeat apply W.seq
      refine W.cond (b:=false) ?_ ?_
      · simp (disch:=omega) only [ev_tmp,get_of,upd_same,upd_ne,hbig,decide_true,decide_false]
      simp only [cond_true,cond_false]
      apply W.skip
      refine ⟨by first|rfl|trivial,_,n+1,g0,rd,key,rfl,rfl,by omega,?_,?_,?_,p1,p0,fun x hx=>.inl hx⟩
      · unfold keyK;rw [if_neg (by rw [str_len];omega)]
      · simp (disch:=omega) only [upd_same,upd_ne]
      · simp (disch:=omega) only [upd_same,upd_ne]
    repeat apply W.seq
    refine W.cond (b:=true) ?_ ?_
    · simp (disch:=omega) only [ev_tmp,get_of,upd_same,upd_ne,hbig,decide_true,decide_false]
    simp only [cond_true,cond_false]
    have CB:=fun ρ o=>conv_bytes (P:=Tryd.prog) (Γ:=EE ax) (ρ:=ρ) (o:=o) (n:=n+1) (g:=g0) (lim:=lim) (rd:=rd) (wr:=wr) (x:=key) (ti9 ax) (ti43 ax) (ti5 ax) (by omega)
    generalize hgb:fupd g0 (n+1) ⟨false,[((n+1)*1024+2,byteVs key)],none⟩=gb at CB
    have b1:gb n=⟨false,[(n*1024+0,[.string key])],none⟩:=by rw [← hgb,fupd_ne _ _ _ _ (by omega)];exact p1
    have b0:∀ i,i<n→gb i=g i:=fun i hi=>by rw [← hgb,fupd_ne _ _ _ _ (by omega)];exact p0 i hi
    have hba:ByteArg gb (n+1+1) (some (mkA (n+1) ((n+1)*1024+2) 0)) key.size key.data.toList:=by
      refine ⟨str_len key,.inr ⟨n+1,(n+1)*1024+2,0,byteVs key,rfl,by omega,?_,?_,?_⟩⟩
      · rw [← hgb,fupd_same];exact rowOf_one
      · rw [byteVs_eq,bvs_len,str_len];omega
      · rw [byteVs_eq,List.drop_zero,List.take_of_length_le (by rw [bvs_len,str_len];omega)]
    clear hgb
    obtain ⟨n2,g2,rd2,e2,a1,a2,a3⟩:=hsum_run ax hp hC (some (mkA (n+1) ((n+1)*1024+2) 0)) key.size key.size key.data.toList (by omega) (n+1+1) gb lim rd wr (by omega) hba (by omega) (by rw [b0 _ hG];exact hk)
    have S1:=st_all (n:=n2+1) (lim:=lim) (rd:=rd2) (wr:=wr) (ti76 ax) (g:=fupd g2 n2 ⟨false,[(n2*1024+0,List.replicate 32 (.int .u8 0))],none⟩) (f:=n2) (u:=n2*1024+0) (vs:=bvs (sha key.data.toList)) (fupd_same _ _ _) (by rw [bvs_len,sha_len]) (by simp) (bvs_one _)
    rw [fupd_fupd,ins_ge (f:=n2) _ (by omega)] at S1
    repeat apply W.seq
    apply W.region
    · simp (disch:=first|omega | (simp (disch:=omega) [ev_tmp,ev_const,get_of,upd_same,upd_ne,Tryd.underlying3,Tryd.underlying47,Tryd.underlying5,Tryd.underlying68,Tryd.underlying63,Tryd.underlying9,Tryd.underlying43];done) | (apply inK_i64;omega) | (apply inK_u64;omega)) only [op_len,cond_true,cond_false,List.toList_toArray,List.map_cons,List.map_nil,some_map,none_map,ti3,ti47,ti5,ti68,ti63,List.map_toArray,List.nil_append,List.cons_append,List.append_nil,L1,CB,e2,alloc_st (ti76 ax),cells_agg,S1,wB0,wB1]
      with_reducible rfl
    simp only [onN,onB]
    generalize hg3:fupd g2 n2 ⟨false,[(n2*1024+0,bvs (sha key.data.toList))],none⟩=g3
    have c1:g3 n=⟨false,[(n*1024+0,[.string key])],none⟩:=by rw [← hg3,fupd_ne _ _ _ _ (by omega),a2 _ (by omega)];exact b1
    have c2:g3 n2=⟨false,[(n2*1024+0,bvs (sha key.data.toList))],none⟩:=by rw [← hg3,fupd_same]
    have c0:∀ i,i<n→g3 i=g i:=fun i hi=>by rw [← hg3,fupd_ne _ _ _ _ (by omega),a2 _ (by omega)];exact b0 i hi
    clear hg3 S1
    have F1:=first_sl (n:=n2+1) (lim:=lim) (rd:=rd2) (wr:=wr) (g:=g3) (f:=n2) (u:=n2*1024+0) (off:=0+0*1) (len:=32 - 0) (cap:=32 - 0) (e:=1) (k:=32 - 0) (cs:=bvs (sha key.data.toList)) (by rw [c2];exact rowOf_one) (by rw [bvs_len,sha_len];omega) (by omega)
    rw [show ((bvs (sha key.data.toList)).drop (0+0*1)).take ((32 - 0)*1)=bvs (sha key.data.toList) from List.take_of_length_le (by rw [show (bvs (sha key.data.toList)).drop (0+0*1)=bvs (sha key.data.toList) from rfl,bvs_len,sha_len];omega)] at F1
    have CV:=fun ρ o=>conv_str (P:=Tryd.prog) (Γ:=EE ax) (ρ:=ρ) (o:=o) (ti43 ax) (ti9 ax) (ti5 ax) F1
    have S2:=st_one (n:=n2+1) (lim:=lim) (rd:=rd2) (wr:=wr) (ti9 ax) (f:=n) (u:=n*1024+0) (off:=0) (v:=.string ⟨(sha key.data.toList).toArray⟩) c1 (by simp) rfl
    rw [IG] at S2
    repeat apply W.seq
    apply W.region
    · simp (disch:=first|omega | (simp (disch:=omega) [ev_tmp,ev_const,get_of,upd_same,upd_ne,Tryd.underlying3,Tryd.underlying47,Tryd.underlying5,Tryd.underlying68,Tryd.underlying63,Tryd.underlying9,Tryd.underlying43];done) | (apply inK_i64;omega) | (apply inK_u64;omega)) only [op_len,cond_true,cond_false,List.toList_toArray,List.map_cons,List.map_nil,some_map,none_map,ti3,ti47,ti5,ti68,ti63,List.map_toArray,List.nil_append,List.cons_append,List.append_nil,slice_arr1 (ti76 ax) (ti5 ax) (by omega) bd (show (n2*1024+0) % 1024=0 by omega),CV,cells_str,S2,wB0,wB1]
      with_reducible rfl
    simp only [onN,onB]
    refine ⟨by first|rfl|trivial,_,n2+1,_,rd2,⟨(sha key.data.toList).toArray⟩,rfl,rfl,by omega,?_,?_,?_,fupd_same _ _ _,fun i hi=>by rw [fupd_ne _ _ _ _ (by omega)];exact c0 i hi,fun x hx=>?_⟩
    · unfold keyK;rw [if_pos (by rw [str_len];omega),mk_list]
    · simp (disch:=omega) only [upd_same,upd_ne]
    · simp (disch:=omega) only [upd_same,upd_ne]
    · rcases a3 x hx with h|⟨h|⟨⟨a,h1,h2⟩,_⟩,hl2⟩
      · exact .inl h
      · exact .inr ⟨h,hl2⟩
      · simp only [Option.some.injEq] at h1
        subst h1
        rw [block_mk] at h2
        omega
  clear p1 p0
  rintro fr s ⟨h,n1,g1,rd1,k,rfl,rfl,hn1,hkk,h1,h2,p1,p0,hrd1⟩
  have hks:k.size≤64:=by rw [← str_len,hkk];exact keyK_len _
  generalize hK:keyK key.data.toList=K at *
  repeat apply W.seq
  apply W.region
  · simp (disch:=first|omega | (simp (disch:=omega) [ev_tmp,ev_const,get_of,upd_same,upd_ne,h2,Tryd.underlying3,Tryd.underlying47,Tryd.underlying5,Tryd.underlying68,Tryd.underlying63,Tryd.underlying9,Tryd.underlying43];done) | (apply inK_i64;omega) | (apply inK_u64;omega)) only [op_len,cond_true,cond_false,List.toList_toArray,List.map_cons,List.map_nil,some_map,none_map,ti3,ti47,ti5,ti68,ti63,List.map_toArray,List.nil_append,List.cons_append,List.append_nil,cop_makeFunc,h2,wB0,wB1]
    with_reducible rfl
  simp only [onN,onB]
  obtain ⟨n2,g2,rd2,e2,a1,a2,a3⟩:=begin_run ax hp n1 g1 lim rd1 wr (by omega)
  obtain ⟨n3,g3,rd3,e3,b1,b2,b3⟩:=pad_run ax hp 54 k hks n (n*1024+0) n2 g2 lim rd2 wr (by omega) (by omega) (by rw [a2 _ (by omega),p1];exact rowOf_one)
  obtain ⟨st4,bl4,hR4,n4,g4,rd4,e4,d1,d2,d3⟩:=add_run ax hp hC [] IVW (List.replicate 64 0) (Repr.start _ rfl) ⟨(padS k.data.toList 54).toArray⟩ (by rw [mk_size,padS_len _ _ (by rw [str_len];exact hks)];simp) n3 g3 lim rd3 wr (by omega) (by omega) (by rw [b2 _ (by omega),a2 _ (by omega),p0 _ hG];exact hk)
  rw [mk_list,List.nil_append] at hR4 e4
  rw [List.length_nil] at e4
  have hpl:(padS k.data.toList 54).length=64:=padS_len _ _ (by rw [str_len];exact hks)
  obtain ⟨st5,bl5,hR5,n5,g5,rd5,e5,f1,f2,f3⟩:=add_run ax hp hC _ st4 bl4 hR4 text (by rw [hpl];omega) n4 g4 lim rd4 wr (by omega) (by omega) (by rw [d2 _ (by omega),b2 _ (by omega),a2 _ (by omega),p0 _ hG];exact hk)
  obtain ⟨n6,g6,rd6,e6,i1,i2,i3⟩:=ssum_run ax hp hC _ st5 bl5 hR5 (by rw [List.length_append,hpl,str_len];omega) n5 g5 lim rd5 wr (by omega) (by omega) (by rw [f2 _ (by omega),d2 _ (by omega),b2 _ (by omega),a2 _ (by omega),p0 _ hG];exact hk)
  generalize hS1:sha (padS k.data.toList 54++text.data.toList)=S1 at *
  have hSl:S1.length=32:=by rw [← hS1];exact sha_len _
  have c54:Value.int .u8 54=vb 54:=rfl
  have T1:=st_all (n:=n6+1) (lim:=lim) (rd:=rd6) (wr:=wr) (ti76 ax) (g:=fupd g6 n6 ⟨false,[(n6*1024+0,List.replicate 32 (.int .u8 0))],none⟩) (f:=n6) (u:=n6*1024+0) (vs:=bvs S1) (fupd_same _ _ _) (by rw [bvs_len,hSl]) (by simp) (bvs_one _)
  rw [fupd_fupd,ins_ge (f:=n6) _ (by omega)] at T1
  repeat apply W.seq
  apply W.region
  · simp (disch:=first|omega | (simp (disch:=omega) [ev_tmp,ev_const,get_of,upd_same,upd_ne,h1,Tryd.underlying3,Tryd.underlying47,Tryd.underlying5,Tryd.underlying68,Tryd.underlying63,Tryd.underlying9,Tryd.underlying43];done) | (apply inK_i64;omega) | (apply inK_u64;omega)) only [op_len,cond_true,cond_false,List.toList_toArray,List.map_cons,List.map_nil,some_map,none_map,ti3,ti47,ti5,ti68,ti63,List.map_toArray,List.nil_append,List.cons_append,List.append_nil,e2,cop_callv,opCall_func,c54,e3,e4,h1,e5,e6,alloc_st (ti76 ax),cells_agg,T1,wB0,wB1]
    with_reducible rfl
  simp only [onN,onB]
  generalize hg7:fupd g6 n6 ⟨false,[(n6*1024+0,bvs S1)],none⟩=g7
  have u1:g7 n=⟨false,[(n*1024+0,[.string k])],none⟩:=by rw [← hg7,fupd_ne _ _ _ _ (by omega),i2 _ (by omega),f2 _ (by omega),d2 _ (by omega),b2 _ (by omega),a2 _ (by omega)];exact p1
  have u2:g7 n6=⟨false,[(n6*1024+0,bvs S1)],none⟩:=by rw [← hg7,fupd_same]
  have u0:∀ i,i<n→g7 i=g i:=fun i hi=>by rw [← hg7,fupd_ne _ _ _ _ (by omega),i2 _ (by omega),f2 _ (by omega),d2 _ (by omega),b2 _ (by omega),a2 _ (by omega)];exact p0 i hi
  have hrd6:∀ x,x∈rd6→x∈rd∨(RG x∧x<lim):=by
    intro x hx
    rcases i3 x hx with hx|hx
    · rcases f3 x hx with hx|hx
      · rcases d3 x hx with hx|hx
        · rcases b3 x hx with hx|⟨rfl,hx⟩
          · rcases a3 x hx with hx|hx
            · exact hrd1 x hx
            · exact hx.1.elim
          · omega
        · exact .inr hx
      · exact .inr hx
    · exact .inr hx
  clear hg7 T1 e2 e3 e4 e5 e6 a3 b3 d3 f3 i3 hR4 hR5 p1 p0 hrd1
  -- the outer hash
  obtain ⟨m2,G2,r2,E2,A1,A2,A3⟩:=begin_run ax hp (n6+1) g7 (n6+1) [] [] (Nat.le_refl _)
  have Q2:∀ y,y∈r2→y<n6+1:=fun y hy=>by rcases A3 y hy with h|h;simp at h;exact h.1.elim
  obtain ⟨m3,G3,r3,E3,B1,B2,B3⟩:=pad_run ax hp 92 k hks n (n*1024+0) m2 G2 m2 [] [] (Nat.le_refl _) (by omega) (by rw [A2 _ (by omega),u1];exact rowOf_one)
  have Q3:∀ y,y∈r3→y<n6+1:=fun y hy=>by
    rcases B3 y hy with h|h
    · simp at h
    · omega
  obtain ⟨st4',bl4',hR4',m4,G4,r4,E4,D1,D2,D3⟩:=add_run ax hp hC [] IVW (List.replicate 64 0) (Repr.start _ rfl) ⟨(padS k.data.toList 92).toArray⟩ (by rw [mk_size,padS_len _ _ (by rw [str_len];exact hks)];simp) m3 G3 m3 [] [] (Nat.le_refl _) (by omega) (by rw [B2 _ (by omega),A2 _ (by omega),u0 _ hG];exact hk)
  rw [mk_list,List.nil_append] at hR4' E4
  rw [List.length_nil] at E4
  have hpl2:(padS k.data.toList 92).length=64:=padS_len _ _ (by rw [str_len];exact hks)
  have Q4:∀ y,y∈r4→y<n6+1:=fun y hy=>by
    rcases D3 y hy with h|h
    · simp at h
    · have:=h.1;unfold RG at this;omega
  have F1:=first_slq (n:=m4) (lim:=m4) (rd:=[]) (wr:=[]) (g:=G4) (f:=n6) (u:=n6*1024+0) (off:=0+0*1) (len:=32 - 0) (cap:=32 - 0) (e:=1) (k:=32 - 0) (cs:=bvs S1) (by rw [D2 _ (by omega),B2 _ (by omega),A2 _ (by omega),u2];exact rowOf_one) (by rw [bvs_len,hSl];omega) (by omega)
  rw [ins_lt (show n6<m4 by omega),show ((bvs S1).drop (0+0*1)).take ((32 - 0)*1)=bvs S1 from List.take_of_length_le (by rw [show (bvs S1).drop (0+0*1)=bvs S1 from rfl,bvs_len,hSl];omega)] at F1
  have CV:=fun ρ o=>conv_str (P:=Tryd.prog) (Γ:=EE ax) (ρ:=ρ) (o:=o) (ti43 ax) (ti9 ax) (ti5 ax) F1
  obtain ⟨st5',bl5',hR5',m5,G5,r5,E5,H1,H2,H3⟩:=add_run ax hp hC _ st4' bl4' hR4' ⟨S1.toArray⟩ (by rw [hpl2,mk_size,hSl];omega) m4 G4 m4 [] [] (Nat.le_refl _) (by omega) (by rw [D2 _ (by omega),B2 _ (by omega),A2 _ (by omega),u0 _ hG];exact hk)
  rw [mk_list] at hR5' E5
  have Q5:∀ y,y∈r5→y<n6+1:=fun y hy=>by
    rcases H3 y hy with h|h
    · simp at h
    · have:=h.1;unfold RG at this;omega
  obtain ⟨m6,G6,r6,E6,I1,I2,I3⟩:=ssum_run ax hp hC _ st5' bl5' hR5' (by rw [List.length_append,hpl2,hSl];omega) m5 G5 m5 [] [] (Nat.le_refl _) (by omega) (by rw [H2 _ (by omega),D2 _ (by omega),B2 _ (by omega),A2 _ (by omega),u0 _ hG];exact hk)
  have Q6:∀ y,y∈r6→y<n6+1:=fun y hy=>by
    rcases I3 y hy with h|h
    · simp at h
    · have:=h.1;unfold RG at this;omega
  have hmac:sha (padS k.data.toList 92++S1)=macB key.data.toList text.data.toList:=by
    unfold macB
    rw [hK,← hkk,hS1]
  rw [hmac] at E6
  have T2:=st_allq (n:=m6+1) (ti76 ax) (g:=fupd G6 m6 ⟨false,[(m6*1024+0,List.replicate 32 (.int .u8 0))],none⟩) (f:=m6) (u:=m6*1024+0) (vs:=bvs (macB key.data.toList text.data.toList)) (fupd_same _ _ _) (by rw [bvs_len,macB_len]) (by simp) (bvs_one _) (by omega)
  rw [fupd_fupd] at T2
  have c92:Value.int .u8 92=vb 92:=rfl
  have IM:=fun l=>ins_ge (m:=lim) (f:=m6) l (by omega)
  have IN:=fun l=>ins_ge (m:=lim) (f:=n6) l (by omega)
  repeat apply W.seq
  apply W.last
  · kernel_rfl
  · simp (disch:=first|omega | (simp (disch:=omega) [ev_tmp,ev_const,get_of,upd_same,upd_ne,Tryd.underlying3,Tryd.underlying47,Tryd.underlying5,Tryd.underlying68,Tryd.underlying63,Tryd.underlying9,Tryd.underlying43];done) | (apply inK_i64;omega) | (apply inK_u64;omega)) only [op_len,cond_true,cond_false,List.toList_toArray,List.map_cons,List.map_nil,some_map,none_map,ti3,ti47,ti5,ti68,ti63,quietL_cons,quietL_one,inner_st,thenL_same,thenL_rd,lastL_some,insAll_nil,insAll_cons,List.map_toArray,List.nil_append,List.cons_append,List.append_nil,E2,cop_callv,opCall_func,c92,E3,E4,slice_arr1 (ti76 ax) (ti5 ax) (by omega) bd (show (n6*1024+0) % 1024=0 by omega),CV,E5,E6,thenL_gen Q2,thenL_gen Q3,thenL_gen Q4,thenL_gen Q5,thenL_gen Q6,alloc_st (ti76 ax),cells_agg,T2,IM,IN,wB0,wB1]
    with_reducible rfl
  simp only [onN,onB]
  have F2:=fun rd=>first_sl (n:=m6+1) (lim:=lim) (rd:=rd) (wr:=wr) (g:=fupd G6 m6 ⟨false,[(m6*1024+0,bvs (macB key.data.toList text.data.toList))],none⟩) (f:=m6) (u:=m6*1024+0) (off:=0+0*1) (len:=32 - 0) (cap:=32 - 0) (e:=1) (k:=32 - 0) (cs:=bvs (macB key.data.toList text.data.toList)) (by rw [fupd_same];exact rowOf_one) (by rw [bvs_len,macB_len];omega) (by omega)
  have F3:=fun rd=>(F2 rd).trans (by rw [show ((bvs (macB key.data.toList text.data.toList)).drop (0+0*1)).take ((32 - 0)*1)=bvs (macB key.data.toList text.data.toList) from List.take_of_length_le (by rw [show (bvs (macB key.data.toList text.data.toList)).drop (0+0*1)=bvs (macB key.data.toList text.data.toList) from rfl,bvs_len,macB_len];omega)])
  have CW:=fun rd ρ o=>conv_str (P:=Tryd.prog) (Γ:=EE ax) (ρ:=ρ) (o:=o) (ti43 ax) (ti9 ax) (ti5 ax) (F3 rd)
  repeat apply W.seq
  apply W.region
  · simp (disch:=first|omega | (simp (disch:=omega) [ev_tmp,ev_const,get_of,upd_same,upd_ne,Tryd.underlying3,Tryd.underlying47,Tryd.underlying5,Tryd.underlying68,Tryd.underlying63,Tryd.underlying9,Tryd.underlying43];done) | (apply inK_i64;omega) | (apply inK_u64;omega)) only [op_len,cond_true,cond_false,List.toList_toArray,List.map_cons,List.map_nil,some_map,none_map,ti3,ti47,ti5,ti68,ti63,List.map_toArray,List.nil_append,List.cons_append,List.append_nil,slice_arr1 (ti76 ax) (ti5 ax) (by omega) bd (show (m6*1024+0) % 1024=0 by omega),CW,wB0,wB1]
    with_reducible rfl
  simp only [onN,onB]
  apply W.ret
  refine ⟨.inr rfl,m6+1,fupd G6 m6 ⟨false,[(m6*1024+0,bvs (macB key.data.toList text.data.toList))],none⟩,insAll lim (insAll lim (insAll lim (insAll lim (insAll lim rd6 r2) r3) r4) r5) r6,?_,by omega,fun i hi=>by rw [fupd_ne _ _ _ _ (by omega),I2 _ (by omega),H2 _ (by omega),D2 _ (by omega),B2 _ (by omega),A2 _ (by omega)];exact u0 i hi,?_⟩
  · simp (disch:=omega) only [resC,Tryd.results49,get_of,upd_same]
    all_goals rfl
  · intro y hy
    have hG':∀ {l:List Nat} {m:Nat},(∀ x,x∈l→x∈([]:List Nat)∨(RG x∧x<m))→y∈l→RG y:=fun hh hm=>by
      rcases hh y hm with h|h
      · simp at h
      · exact h.1
    rcases insAll_mem rfl y hy with hy|⟨hy,hyl⟩
    · rcases insAll_mem rfl y hy with hy|⟨hy,hyl⟩
      · rcases insAll_mem rfl y hy with hy|⟨hy,hyl⟩
        · rcases insAll_mem rfl y hy with hy|⟨hy,hyl⟩
          · rcases insAll_mem rfl y hy with hy|⟨hy,hyl⟩
            · exact hrd6 y hy
            · rcases A3 y hy with h|h
              · simp at h
              · exact h.1.elim
          · rcases B3 y hy with h|⟨rfl,h⟩
            · simp at h
            · omega
        · exact .inr ⟨hG' D3 hy,hyl⟩
      · exact .inr ⟨hG' H3 hy,hyl⟩
    · exact .inr ⟨hG' I3 hy,hyl⟩
end Go.Proofs.YtcgdomhednbdpaaDoor
namespace Go.Proofs.YtcgdomhednbdpaaDoor
open Go Go.RowKit
set_option maxRecDepth 100000
end Go.Proofs.YtcgdomhednbdpaaDoor
namespace Go.Proofs.YtcgdomhednbdpaaDoor
open Go Go.RowKit
set_option maxRecDepth 100000
end Go.Proofs.YtcgdomhednbdpaaDoor
namespace Go.Proofs.YtcgdomhednbdpaaDoor
open Go Go.RowKit
set_option maxRecDepth 100000
end Go.Proofs.YtcgdomhednbdpaaDoor
namespace Go.Proofs.YtcgdomhednbdpaaDoor
open Go Go.RowKit
set_option maxRecDepth 100000
theorem OwnX.barg {m n len:Nat} {g:Nat→Fam} {ao:Option Addr} {bs:List UInt8} (h:OwnX m g n 1 ao len (bvs bs)):ByteArg g n ao len bs:=by
  rcases h with ⟨h1,h⟩|⟨h1,f,u,rest,rfl,k2,k3,k4,k5,k6⟩
  · rw [bvs_len] at h1
    refine ⟨by omega,?_⟩
    rcases h with ⟨rfl,rfl⟩|⟨f,u,rest,rfl,k2,k3,k4,k5,k6⟩
    · exact .inl rfl
    · exact .inr ⟨f,u,0,bvs bs,rfl,k4,by rw [k2];simp [rowOf,Nat.beq_refl],by rw [bvs_len];omega,by rw [List.drop_zero,List.take_of_length_le (by rw [bvs_len];omega)]⟩
  · rw [bvs_len] at h1
    exact ⟨by omega,.inr ⟨f,u,0,bvs bs,rfl,k4,by rw [k2];simp [rowOf,Nat.beq_refl],by rw [bvs_len];omega,by rw [List.drop_zero,List.take_of_length_le (by rw [bvs_len];omega)]⟩⟩
theorem OwnX.blk {m n e len:Nat} {g:Nat→Fam} {ao:Option Addr} {cells:List Value} (h:OwnX m g n e ao len cells):∀ y,RB ao y→m≤y:=by
  rintro y ⟨a,rfl,rfl⟩
  rcases h with ⟨_,⟨h,_⟩|⟨f,u,rest,k1,k2,k3,_⟩⟩|⟨_,f,u,rest,k1,k2,k3,_⟩
  · simp at h
  · simp only [Option.some.injEq] at k1;subst k1;rw [block_mk];exact k3
  · simp only [Option.some.injEq] at k1;subst k1;rw [block_mk];exact k3
end Go.Proofs.YtcgdomhednbdpaaDoor
namespace Go.Proofs.YtcgdomhednbdpaaDoor
open Go Go.RowKit
set_option maxRecDepth 100000
def nilB:ByteArray:=⟨#[]⟩
def StrArg (g:Nat→Fam) (n:Nat) (x:Option Addr) (len cap:Nat) (ss:List ByteArray):Prop :=
  ss.length=len∧len≤cap∧((x=none∧len=0∧cap=0)∨∃ f u off,x=some (mkA f u off)∧True∧(len=0∨(f<n∧∃ cs,rowOf (g f).rows u=some cs∧∀ i,i<len→cs[off+i]?=some (.string (ss.getD i nilB)))))
theorem StrArg.keep {g g':Nat→Fam} {n n' len cap:Nat} {x:Option Addr} {ss:List ByteArray} (h:StrArg g n x len cap ss) (hg:∀ i,i<n→g' i=g i) (hn:n≤n'):StrArg g' n' x len cap ss:=by
  obtain ⟨h1,h2,h3⟩:=h
  refine ⟨h1,h2,h3.imp id ?_⟩
  rintro ⟨f,u,off,k1,k2,k3⟩
  refine ⟨f,u,off,k1,k2,k3.imp id ?_⟩
  rintro ⟨k4,cs,k5,k6⟩
  exact ⟨by omega,cs,by rw [hg f k4];exact k5,k6⟩
theorem StrArg.at {Γ : Env} {g : Nat → Fam} {n len cap i : Nat} {x : Option Addr} {ss : List ByteArray} {t e : TypeId} {z b b2 : Nat} {zs zs2 : List Value} (h : StrArg g n x len cap ss) (hi : i < len) (ht : Γ.ti.at t = some ⟨.slice e, z, b, zs⟩) (he : Γ.ti.at e = some ⟨.string, 1, b2, zs2⟩) :
    ∃ p f,RB x f∧f<n∧(∀ s,opIndexAddr Γ s t (.slice x len cap) (some i)=some (.pointer (some p),s))∧(∀ N (g':Nat→Fam) lim rd wr,(∀ j,j<n→g' j=g j)→opLoad Γ (St N g' lim rd wr) e (.pointer (some p))=some (.string (ss.getD i nilB),St N g' lim (ins lim rd f) wr)):=by
  obtain ⟨h1,h2,⟨rfl,h0,_⟩|⟨f,u,off,rfl,k2,k3⟩⟩:=h
  · omega
  · rcases k3 with k3|⟨k4,cs,k5,k6⟩
    · omega
    · exact ⟨mkA f u (off+i),f,⟨_,rfl,rfl⟩,k4,fun s=>idx_sl ht he hi,fun N g' lim rd wr hg=>ld_one he rfl (by rw [hg f k4];exact k5) (k6 i hi)⟩
theorem rk_ins {lim f:Nat} {rd rd0:List Nat} {R:Nat→Prop} (h:∀ x,x∈rd→x∈rd0∨(R x∧x<lim)) (hf:f<lim→R f):∀ x,x∈ins lim rd f→x∈rd0∨(R x∧x<lim):=by
  intro x hx
  rcases mem_ins hx with q|⟨rfl,q⟩
  · exact h x q
  · exact .inr ⟨hf q,q⟩
theorem rk_all {lim:Nat} {rd rd0 l:List Nat} {R:Nat→Prop} (h:∀ x,x∈rd→x∈rd0∨(R x∧x<lim)) (hl:∀ x,x∈l→x<lim→R x):∀ x,x∈insAll lim rd l→x∈rd0∨(R x∧x<lim):=by
  intro x hx
  rcases insAll_mem rfl x hx with q|⟨q,q2⟩
  · exact h x q
  · exact .inr ⟨hl x q q2,q2⟩
theorem own_ge {m n e len y:Nat} {g:Nat→Fam} {ao:Option Addr} {cells:List Value} (h:OwnX m g n e ao len cells) (hy:RB ao y):m≤y:=by
  obtain ⟨a,rfl,rfl⟩:=hy
  rcases h with ⟨_,h⟩|⟨_,f,u,rest,k1,_,k3,_⟩
  · rcases h with ⟨h,_⟩|⟨f,u,rest,k1,_,k3,_⟩
    · cases h
    · cases k1;exact k3
  · cases k1;exact k3
end Go.Proofs.YtcgdomhednbdpaaDoor
namespace Go.Proofs.YtcgdomhednbdpaaDoor.WM
def zig (n:Int):Nat:=if n<0 then (-1 - n).toNat*2+1 else n.toNat*2
theorem zig_lt {n:Int} (h1:-9223372036854775808≤n) (h2:n≤9223372036854775807):zig n<18446744073709551616:=by unfold zig;split<;>omega
def venc (z:Nat):List UInt8:=if h:z<128 then [UInt8.ofNat z] else UInt8.ofNat (z % 128+128) :: venc (z / 128)
  termination_by z
  decreasing_by omega
theorem venc_lt {z:Nat} (h:z<128):venc z=[UInt8.ofNat z]:=by rw [venc];simp [h]
theorem venc_ge {z:Nat} (h:¬ z<128):venc z=UInt8.ofNat (z % 128+128) :: venc (z / 128):=by rw [venc];simp [h]
def enc (n:Int):List UInt8:=venc (zig n)
theorem venc_len (k:Nat):∀ z,z<128 ^ (k+1)→(venc z).length≤k+1:=by
  induction k with
  |zero=>intro z h;rw [venc_lt (by simpa using h)];simp
  |succ k ih =>
    intro z h
    by_cases hz:z<128
    · rw [venc_lt hz];simp
    · rw [venc_ge hz]
      have:z / 128<128 ^ (k+1):=by
        rw [Nat.div_lt_iff_lt_mul (by decide)]
        rw [Nat.pow_succ] at h;omega
      have:=ih _ this
      simp;omega
theorem venc_len64 {z:Nat} (h:z<18446744073709551616):(venc z).length≤10:=venc_len 9 z (by omega)
theorem enc_len {n:Int} (h1:-9223372036854775808≤n) (h2:n≤9223372036854775807):(enc n).length≤10:=venc_len64 (zig_lt h1 h2)
theorem toNat_ofNat_lt {a:Nat} (h:a<256):(UInt8.ofNat a).toNat=a:=by
  rw [UInt8.toNat_ofNat'];exact Nat.mod_eq_of_lt h
/-! ### lengths, strings, lists -/
def many {α:Type} (one:List UInt8→Except Int (α×Nat)):Nat→List UInt8→Except Int (List α×Nat)
  |0,_=>.ok ([],0)
  |n+1,l=>match one l with
    |.error e=>.error e
    |.ok (x,u)=>match many one n (l.drop u) with
      |.error e=>.error e
      |.ok (xs,v)=>.ok (x :: xs,u+v)
structure Good {α:Type} (one:List UInt8→Except Int (α×Nat)) (en:α→List UInt8) (P:α→Prop) (least:Nat):Prop where
  round:∀ x t,P x→one (en x++t)=.ok (x,(en x).length)
  long:∀ x,P x→least≤(en x).length
/-! ### what is decoded is the encoding -/
end Go.Proofs.YtcgdomhednbdpaaDoor.WM
namespace Go.Proofs.YtcgdomhednbdpaaDoor
open Go Go.RowKit WM
theorem px_zero_u64 (a:Nat) (ha:a<18446744073709551616):bits .xor .u64 (a:Int) 0=a:=by
  have:=bits_xor_u64_nat a 0 ha (by decide)
  simpa using this
theorem px_ones_nat (b:Nat) (hb:b<2 ^ 64):b ^^^ (2 ^ 64 - 1)=2 ^ 64 - 1 - b:=by
  apply Nat.eq_of_testBit_eq
  intro i
  rw [Nat.testBit_xor,Nat.testBit_two_pow_sub_one,show 2 ^ 64 - 1 - b=2 ^ 64 - (b+1) by omega,Nat.testBit_two_pow_sub_succ hb]
  by_cases hi:i<64
  · simp [hi]
  · have:b.testBit i=false:=Nat.testBit_lt_two_pow (Nat.lt_of_lt_of_le hb (Nat.pow_le_pow_right (by decide) (by omega)))
    simp [hi,this]
theorem pzig_bits (n : Int) (h1 : -9223372036854775808 ≤ n) (h2 : n ≤ 9223372036854775807) :
    bits BinOp.xor IntKind.u64 (IntKind.u64.wrap (IntKind.u64.wrap n*2)) (IntKind.u64.wrap (n / 9223372036854775808))=(zig n:Int):=by
  unfold zig
  by_cases hn:n<0
  · rw [if_pos hn]
    have e1:IntKind.u64.wrap (IntKind.u64.wrap n*2)=(((2*n+18446744073709551616).toNat:Nat):Int):=by
      rw [IntKind.wrap_u64,IntKind.wrap_u64];omega
    have e2:IntKind.u64.wrap (n / 9223372036854775808)=((2 ^ 64 - 1:Nat):Int):=by
      rw [show n / 9223372036854775808=-1 by omega];decide
    rw [e1,e2,bits_xor_u64_nat _ _ (by omega) (by decide),px_ones_nat _ (by omega)]
    omega
  · rw [if_neg hn]
    have e1:IntKind.u64.wrap (IntKind.u64.wrap n*2)=((n.toNat*2:Nat):Int):=by
      rw [IntKind.wrap_u64,IntKind.wrap_u64];omega
    have e2:IntKind.u64.wrap (n / 9223372036854775808)=0:=by
      rw [show n / 9223372036854775808=0 by omega];decide
    rw [e1,e2,px_zero_u64 _ (by omega)]
theorem por128 (x:Nat):bits .or .u8 ((x:Int) % 256) 128=(((UInt8.ofNat (x % 128+128)).toNat:Nat):Int):=by
  rw [show ((x:Int) % 256)=((x % 256:Nat):Int) by omega,show (128:Int)=((128:Nat):Int) by rfl,u8_or_nat _ _ (by omega) (by decide)]
  rw [toNat_ofNat_lt (by omega)]
  congr 1
  by_cases h:x % 256<128
  · rw [Nat.or_comm,nat_join 7 128 (x % 256) (by decide) (by omega)];omega
  · have e:x % 256=128+(x % 256 - 128):=by omega
    have e2:128 ||| (x % 256 - 128)=x % 256:=by rw [nat_join 7 128 _ (by decide) (by omega)];omega
    rw [← e2,Nat.or_comm,← Nat.or_assoc,Nat.or_self,nat_join 7 128 _ (by decide) (by omega)];omega
theorem pzig (n : Int) (h1 : -9223372036854775808 ≤ n) (h2 : n ≤ 9223372036854775807) :
    IntKind.u64.wrap (BitVec.ofInt IntKind.u64.bits (IntKind.u64.wrap (IntKind.u64.wrap n*2 ^ (min (1:Int).toNat IntKind.u64.bits))) ^^^ BitVec.ofInt IntKind.u64.bits (IntKind.u64.wrap (n.fdiv (2 ^ (min (63:Int).toNat IntKind.i64.bits))))).toNat=(zig n:Int):=by
  have h:=pzig_bits n h1 h2
  rw [← h]
  have e1:(2:Int) ^ (min (1:Int).toNat IntKind.u64.bits)=2:=by decide
  have e2:(2:Int) ^ (min (63:Int).toNat IntKind.i64.bits)=9223372036854775808:=by decide
  rw [e1,e2,Int.fdiv_eq_ediv_of_nonneg _ (by decide)]
  rfl
theorem por (x:Nat):Value.int .u8 (IntKind.u8.wrap (BitVec.ofInt IntKind.u8.bits (IntKind.u8.wrap (x:Int)) ||| BitVec.ofInt IntKind.u8.bits 128).toNat)=vb (UInt8.ofNat (x % 128+128)):=by
  have h:=por128 x
  unfold vb
  rw [← h]
  rw [show IntKind.u8.wrap (x:Int)=(x:Int) % 256 by rw [IntKind.wrap_u8]]
  rfl
theorem pshr (x:Nat):Int.fdiv (x:Int) (2 ^ (min (7:Int).toNat IntKind.u64.bits))=((x / 128:Nat):Int):=by
  have e2:(2:Int) ^ (min (7:Int).toNat IntKind.u64.bits)=128:=by decide
  rw [e2,Int.fdiv_eq_ediv_of_nonneg _ (by decide)]
  omega
theorem plow (x:Nat) (h:x<128):Value.int .u8 (IntKind.u8.wrap (x:Int))=vb (UInt8.ofNat x):=by
  unfold vb
  rw [toNat_ofNat_lt (by omega),wrap8]
  congr 2
  omega
end Go.Proofs.YtcgdomhednbdpaaDoor
namespace Go.Proofs.YtcgdomhednbdpaaDoor
open Go Go.RowKit WM
theorem wint_run (ax : Axs) (hax : ax 26 = none) (m : Int) (m1 : -9223372036854775808 ≤ m) (m2 : m ≤ 9223372036854775807) (n : Nat) (g : Nat → Fam) (lim : Nat) (rd wr : List Nat) (hl : lim ≤ n) :
    ∃ ao n' g',callR Tryd.prog (EE ax) 26 [.int .i64 m] (St n g lim rd wr)=some (.slice ao (enc m).length (enc m).length,St n' g' lim rd wr)∧Made n g 1 ao (enc m).length (bvs (enc m)) n' g'∧n'≤n+22:=by
  suffices h:∃ v s2,callR Tryd.prog (EE ax) 26 [.int .i64 m] (St n g lim rd wr)=some (v,s2)∧∃ ao n' g',v=.slice ao (enc m).length (enc m).length∧s2=St n' g' lim rd wr∧Made n g 1 ao (enc m).length (bvs (enc m)) n' g'∧n'≤n+22 by
    obtain ⟨v,s2,h1,ao,n',g',rfl,rfl,h2,h3⟩:=h
    exact ⟨ao,n',g',h1,h2,h3⟩
  have hz:=pzig m m1 m2
  have hzl:=zig_lt m1 m2
  refine callR_ex (fn:=Tryd.f26) 27 hax (fn26 ax) rfl Tryd.ntmps26 (by simp) ?_
  simp (disch:=omega) only [ofArgs_cons,ofArgs_nil,Nat.reduceAdd]
  repeat apply W.seq
  apply W.region
  · simp (disch:=first|omega | (simp (disch:=omega) [ev_tmp,ev_const,get_of,upd_same,upd_ne,Tryd.underlying3,Tryd.underlying63,Tryd.underlying5,Tryd.underlying43];done) | (apply inK_i64;omega) | (apply inK_u64;omega)) only [op_len,cond_true,cond_false,List.toList_toArray,List.map_cons,List.map_nil,some_map,none_map,ti3,ti63,ti5,ti43,wB0,wB1]
    with_reducible rfl
  simp only [onN,onB]
  repeat apply W.seq
  apply W.region
  · simp (disch:=first|omega | (simp (disch:=omega) [ev_tmp,ev_const,get_of,upd_same,upd_ne,Tryd.underlying3,Tryd.underlying63,Tryd.underlying5,Tryd.underlying43];done) | (apply inK_i64;omega) | (apply inK_u64;omega)) only [op_len,cond_true,cond_false,List.toList_toArray,List.map_cons,List.map_nil,some_map,none_map,ti3,ti63,ti5,ti43,opConvert,ow_shl,ow_shr,ow_xor,oc_int,hz,wB0,wB1]
    with_reducible rfl
  simp only [onN,onB]
  repeat apply W.seq
  apply W.region
  · simp (disch:=first|omega | (simp (disch:=omega) [ev_tmp,ev_const,get_of,upd_same,upd_ne,Tryd.underlying3,Tryd.underlying63,Tryd.underlying5,Tryd.underlying43];done) | (apply inK_i64;omega) | (apply inK_u64;omega)) only [op_len,cond_true,cond_false,List.toList_toArray,List.map_cons,List.map_nil,some_map,none_map,ti3,ti63,ti5,ti43,wB0,wB1]
    with_reducible rfl
  simp only [onN,onB]
  apply W.seq
  apply W.block
  refine W.loop (fun k fr s=>∃ (zn:Nat) (pre:List UInt8) (ao:Option Addr) (n':Nat) (g':Nat→Fam) (h:Nat→Value),k=zn∧zn<18446744073709551616∧fr=Fr.of 27 h∧h 3=.int .u64 (zn:Int)∧h 4=.slice ao pre.length pre.length∧s=St n' g' lim rd wr∧OwnR n g' n' 1 ao pre.length (bvs pre)∧n≤n'∧n'≤n+2*pre.length∧(∀ i,i<n→g' i=g i)∧pre++venc zn=venc (zig m)) ?_ (zig m) _ _ ⟨zig m,[],none,n,g,_,rfl,hzl,rfl,?_,?_,rfl,OwnR.nil _ _ _ _,Nat.le_refl _,by simp,fun _ _=>rfl,rfl⟩
  case refine_2=>simp (disch:=omega) only [upd_same,upd_ne]
  case refine_3=>simp (disch:=omega) only [upd_same,upd_ne];rfl
  rintro zn fr s ⟨k,pre,ao,n',g',h,rfl,hzn,rfl,h3,h4,rfl,hown,hn1,hn2,hold,heq⟩
  have hlen:pre.length≤10:=by have:=venc_len64 hzl;rw [← heq] at this;simp at this;omega
  repeat apply W.seq
  apply W.region
  · simp (disch:=first|omega | (simp (disch:=omega) [ev_tmp,ev_const,get_of,upd_same,upd_ne,h3,Tryd.underlying3,Tryd.underlying63,Tryd.underlying5,Tryd.underlying43];done) | (apply inK_i64;omega) | (apply inK_u64;omega)) only [op_len,cond_true,cond_false,List.toList_toArray,List.map_cons,List.map_nil,some_map,none_map,ti3,ti63,ti5,ti43,oi_gtr,h3,wB0,wB1]
    with_reducible rfl
  simp only [onN,onB]
  by_cases hlt:(127:Int)<(zn:Int)
  case neg =>
    refine W.cond (b:=false) ?_ ?_
    · simp (disch:=omega) only [ev_tmp,get_of,upd_same,hlt,decide_false]
    simp only [cond_false]
    apply W.exit
    simp only [onN,onB,Nat.beq_refl,cond_true]
    obtain ⟨ao',n2,g2,e1,o1,l1,l2,l3⟩:=OwnR.append (bytes:=1) (y:=.slice (some (mkA n' (n'*1024+0) 0)) 1 1) (rd:=rd) (rd':=rd) (wr:=wr) (k:=1) (xs:=[vb (UInt8.ofNat zn)]) (hown.keep (n':=n'+1) (g':=fupd g' n' ⟨false,[(n'*1024+0,[vb (UInt8.ofNat zn)])],none⟩) (fun i _ hi=>fupd_ne _ _ _ _ (by omega)) (by omega)) (by omega) hl rfl
      (by rw [first_sl (cs:=[vb (UInt8.ofNat zn)]) (by rw [fupd_same];exact rowOf_one) (by simp) (by omega)];rfl) rfl rfl (by omega) (by omega)
    repeat apply W.seq
    apply W.region
    · simp (disch:=first|omega | (simp (disch:=omega) [ev_tmp,ev_const,get_of,upd_same,upd_ne,h3,h4,vb_cells,Tryd.underlying3,Tryd.underlying63,Tryd.underlying5,Tryd.underlying43];done) | (apply inK_i64;omega) | (apply inK_u64;omega)) only [op_len,cond_true,cond_false,List.toList_toArray,List.map_cons,List.map_nil,some_map,none_map,ti3,ti63,ti5,ti43,opConvert,oc_int,plow zn (by omega),op_append (src_u8 ax),build_one (ti43 ax) (ti5 ax) rfl rfl,app_sl (el_u8 ax),e1,h3,h4,wB0,wB1]
      with_reducible rfl
    simp only [onN,onB]
    apply W.ret
    refine ⟨.inr rfl,[.slice ao' (pre.length+1) (pre.length+1)],_,?_,ao',n2,g2,?_,rfl,?_,by omega⟩
    · simp (disch:=omega) only [resC,Tryd.results26,get_of,upd_same]
      all_goals rfl
    · have he:enc m=pre++[UInt8.ofNat zn]:=by unfold enc;rw [← heq,venc_lt (by omega)]
      rw [he,List.length_append];rfl
    · have he:enc m=pre++[UInt8.ofNat zn]:=by unfold enc;rw [← heq,venc_lt (by omega)]
      rw [he,List.length_append,bvs_app]
      exact ⟨o1,by omega,fun i hi=>by rw [l3 i hi,fupd_ne _ _ _ _ (by omega),hold i hi]⟩
  refine W.cond (b:=true) ?_ ?_
  · simp (disch:=omega) only [ev_tmp,get_of,upd_same,hlt,decide_true]
  simp only [cond_true]
  apply W.skip
  simp only [onN]
  obtain ⟨ao', n2, g2, e1, o1, l1, l2, l3⟩ := OwnR.append (bytes := 1) (y := .slice (some (mkA n' (n' * 1024 + 0) 0)) 1 1) (rd := rd) (rd' := rd) (wr := wr) (k := 1) (xs := [vb (UInt8.ofNat (zn % 128 + 128))]) (hown.keep (n' := n' + 1) (g' := fupd g' n' ⟨false, [(n' * 1024 + 0, [vb (UInt8.ofNat (zn % 128 + 128))])], none⟩) (fun i _ hi => fupd_ne _ _ _ _ (by omega)) (by omega)) (by omega) hl rfl
      (by rw [first_sl (cs:=[vb (UInt8.ofNat (zn % 128+128))]) (by rw [fupd_same];exact rowOf_one) (by simp) (by omega)];rfl) rfl rfl (by omega) (by omega)
  apply W.seq
  apply W.block
  repeat apply W.seq
  apply W.region
  · simp (disch:=first|omega | (simp (disch:=omega) [ev_tmp,ev_const,get_of,upd_same,upd_ne,h3,h4,vb_cells,Tryd.underlying3,Tryd.underlying63,Tryd.underlying5,Tryd.underlying43];done) | (apply inK_i64;omega) | (apply inK_u64;omega)) only [op_len,cond_true,cond_false,List.toList_toArray,List.map_cons,List.map_nil,some_map,none_map,ti3,ti63,ti5,ti43,opConvert,oc_int,ow_or,por zn,op_append (src_u8 ax),build_one (ti43 ax) (ti5 ax) rfl rfl,app_sl (el_u8 ax),e1,h3,h4,wB0,wB1]
    with_reducible rfl
  simp only [onN,onB]
  repeat apply W.seq
  apply W.region
  · simp (disch:=first|omega | (simp (disch:=omega) [ev_tmp,ev_const,get_of,upd_same,upd_ne,h3,Tryd.underlying3,Tryd.underlying63,Tryd.underlying5,Tryd.underlying43];done) | (apply inK_i64;omega) | (apply inK_u64;omega)) only [op_len,cond_true,cond_false,List.toList_toArray,List.map_cons,List.map_nil,some_map,none_map,ti3,ti63,ti5,ti43,ow_shr,pshr zn,h3,wB0,wB1]
    with_reducible rfl
  simp only [onN,onB]
  refine ⟨zn / 128,by omega,zn / 128,pre++[UInt8.ofNat (zn % 128+128)],ao',n2,g2,_,rfl,by omega,rfl,?_,?_,rfl,?_,by omega,?_,fun i hi=>by rw [l3 i hi,fupd_ne _ _ _ _ (by omega),hold i hi],?_⟩
  · simp (disch:=omega) only [upd_same,upd_ne]
  · simp (disch:=omega) only [upd_same,upd_ne]
    rw [List.length_append];rfl
  · rw [List.length_append,bvs_app];exact o1
  · rw [List.length_append];simp;omega
  · rw [← heq,venc_ge (show ¬ zn<128 by omega)];simp
end Go.Proofs.YtcgdomhednbdpaaDoor
namespace Go.Proofs.YtcgdomhednbdpaaDoor
open Go Go.RowKit WM
set_option maxRecDepth 100000
def encS (s:ByteArray):List UInt8:=enc (s.size:Int)++s.data.toList
set_option maxHeartbeats 1000000 in
theorem wbytes_run (ax : Axs) (hp : Plain ax) (s : ByteArray) (hsz : s.size < 1000000) (n : Nat) (g : Nat → Fam) (lim : Nat) (rd wr : List Nat) (hl : lim ≤ n) :
    ∃ ao n' g',callR Tryd.prog (EE ax) 54 [.string s] (St n g lim rd wr)=some (.slice ao (encS s).length (encS s).length,St n' g' lim rd wr)∧OwnX n g' n' 1 ao (encS s).length (bvs (encS s))∧n≤n'∧(∀ i,i<n→g' i=g i):=by
  have hax:ax 54=none:=hp _ (by decide)
  suffices hh:∃ v s2,callR Tryd.prog (EE ax) 54 [.string s] (St n g lim rd wr)=some (v,s2)∧∃ ao n' g',v=.slice ao (encS s).length (encS s).length∧s2=St n' g' lim rd wr∧OwnX n g' n' 1 ao (encS s).length (bvs (encS s))∧n≤n'∧(∀ i,i<n→g' i=g i) by
    obtain ⟨v,s2,h1,ao,n',g',rfl,rfl,h2⟩:=hh
    exact ⟨ao,n',g',h1,h2⟩
  obtain ⟨a1,n1,g1,e1,m1,b1⟩:=wint_run ax (hp _ (by decide)) (s.size:Int) (by omega) (by omega) n g lim rd wr hl
  have o1:OwnX n g1 n1 1 a1 (enc (s.size:Int)).length (bvs (enc (s.size:Int))):=.inl m1.own
  have l1:=m1.le
  have k1:=m1.old
  have h10:=enc_len (n:=(s.size:Int)) (by omega) (by omega)
  have ht:CS.firstCells (St n1 g1 lim rd wr) 1 s.size (.string s)=some (bvs s.data.toList,St n1 g1 lim rd wr):=by
    rw [first_str (Nat.le_refl _),ext_all];rfl
  obtain ⟨a2,n2,g2,e2,o2,l2,l2',k2⟩:=o1.append (bytes:=1) (k:=s.size) (y:=.string s) (by omega) hl rfl ht (by rw [bvs_len,str_len,Nat.mul_one]) (bvs_one _) (by omega) (by omega)
  have hlen:(encS s).length=(enc (s.size:Int)).length+s.size:=by unfold encS;rw [List.length_append,str_len]
  rw [← bvs_app] at o2
  refine callR_ex (fn:=Tryd.f54) 8 hax (fn54 ax) rfl Tryd.ntmps54 (by simp) ?_
  simp (disch:=omega) only [ofArgs_cons,ofArgs_nil,Nat.reduceAdd]
  repeat apply W.seq
  apply W.region
  · simp (disch:=first|omega | (simp (disch:=omega) [ev_tmp,ev_const,get_of,upd_same,upd_ne,Tryd.underlying3,Tryd.underlying47,Tryd.underlying5,Tryd.underlying63,Tryd.underlying9,Tryd.underlying43];done) | (apply inK_i64;omega) | (apply inK_u64;omega)) only [op_len,cond_true,cond_false,List.toList_toArray,List.map_cons,List.map_nil,some_map,none_map,ti3,ti47,ti5,ti63,wB0,wB1]
    with_reducible rfl
  simp only [onN,onB]
  repeat apply W.seq
  apply W.region
  · simp (disch:=first|omega | (simp (disch:=omega) [ev_tmp,ev_const,get_of,upd_same,upd_ne,Tryd.underlying3,Tryd.underlying47,Tryd.underlying5,Tryd.underlying63,Tryd.underlying9,Tryd.underlying43];done) | (apply inK_i64;omega) | (apply inK_u64;omega)) only [op_len,cond_true,cond_false,List.toList_toArray,List.map_cons,List.map_nil,some_map,none_map,ti3,ti47,ti5,ti63,len_str (ti9 ax),e1,op_append (src_str ax),app_sl (el_u8 ax),e2,wB0,wB1]
    with_reducible rfl
  simp only [onN,onB]
  apply W.ret
  refine ⟨.inr rfl,[.slice a2 ((enc (s.size:Int)).length+s.size) ((enc (s.size:Int)).length+s.size)],St n2 g2 lim rd wr,?_,a2,n2,g2,by rw [hlen];rfl,rfl,by rw [hlen];exact o2,by omega,fun i hi=>by rw [k2 _ hi,k1 _ hi]⟩
  simp (disch:=omega) only [resC,Tryd.results54,get_of,upd_same]
  all_goals rfl
end Go.Proofs.YtcgdomhednbdpaaDoor
namespace Go.Proofs.YtcgdomhednbdpaaDoor
open Go Go.RowKit WM
set_option maxRecDepth 100000
theorem tiD (ax:Axs):(EE ax).ti.at 23=some ⟨.array 16 5,16,16,List.replicate 16 (.int .u8 0)⟩:=by kernel_rfl
def byteOf (t:Int):UInt8:=UInt8.ofNat (t % 256).toNat
theorem byteOf_eq (t:Int):Value.int .u8 (IntKind.u8.wrap t)=vb (byteOf t):=by
  unfold vb byteOf
  have hlt:(t % 256).toNat<256:=by omega
  have h:(UInt8.ofNat (t % 256).toNat).toNat=(t % 256).toNat:=UInt8.toNat_ofNat_of_lt' hlt
  rw [h,IntKind.wrap_u8]
  congr 1
  omega
theorem conv_ib2 {P:Program} {Γ:Env} {ρ:Operand→Value} {s:CS} {src dst ty:TypeId} {d:Option Tmp} {pos:String} {e:Array Edge} {q:Option (Nat×Bool)} {x:Operand} {z b z2 b2:Nat} {zs zs2:List Value} {t:Int} (hs:Γ.ti.at src=some ⟨.int .i64,z,b,zs⟩) (hd:Γ.ti.at dst=some ⟨.int .u8,z2,b2,zs2⟩) (ps:(P.underlying src).isSome=true) (pd:P.underlying dst=some (.int .u8)) (hx:ρ x=.int .i64 t):opConvert P Γ ρ ⟨d,.convert src dst x,ty,pos,e,q⟩ s src dst (.int .i64 t)=some (vb (byteOf t),s):=by
  unfold opConvert
  rw [hs,hd]
  show orPure P ρ _ s (convI .u8 t)=_
  rw [oc_int ⟨_,hx⟩ ps pd,byteOf_eq]
def inpL (c:UInt8) (ss:List ByteArray):Nat→List UInt8
  |0=>[c]
  |i+1=>inpL c ss i++encS (ss.getD i nilB)
theorem encS_len (s:ByteArray) (h:s.size≤4000):(encS s).length≤4010:=by
  have:=enc_len (n:=(s.size:Int)) (by omega) (by omega)
  unfold encS
  rw [List.length_append,str_len];omega
theorem inpL_len (c:UInt8) (ss:List ByteArray) (h:∀ i,i<ss.length→(ss.getD i nilB).size≤4000):∀ i,i≤ss.length→(inpL c ss i).length≤1+4010*i
  |0,_=>by simp [inpL]
  |i+1,hi=>by
    have:=inpL_len c ss h i (by omega)
    have:=encS_len _ (h i (by omega))
    rw [inpL,List.length_append];omega
end Go.Proofs.YtcgdomhednbdpaaDoor
