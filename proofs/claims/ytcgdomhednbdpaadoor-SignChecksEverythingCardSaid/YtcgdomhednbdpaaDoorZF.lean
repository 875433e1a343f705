/- Part 6 of the proof of SignChecksEverything (several texts in one; no further condition). -/
import Derived.Test.YtcgdomhednbdpaaDoorZE
import Derived.Test.YtcgdomhednbdpaaDoorZC
import Derived.Test.YtcgdomhednbdpaaDoorRows
import Derived.OpenShut
import Derived.MakeChecks
set_option linter.unusedSimpArgs false
set_option linter.unusedVariables false
set_option linter.unusedSectionVars false
namespace Go.Proofs.YtcgdomhednbdpaaDoor
section
open Go Go.RowKit
def rx (e:List UInt32) (k w:UInt32):UInt32:=e.getD 3 0+zyy (e.getD 0 0) 6 11 25+((e.getD 0 0 &&& e.getD 1 0) ^^^ (~~~(e.getD 0 0) &&& e.getD 2 0))+k+w
def ry (v:List UInt32):UInt32:=zyy (v.getD 0 0) 2 13 22+((v.getD 0 0 &&& v.getD 1 0) ^^^ (v.getD 0 0 &&& v.getD 2 0) ^^^ (v.getD 1 0 &&& v.getD 2 0))
def rds (s w kt:List UInt32):Nat→List UInt32×List UInt32
 |0=>(s.take 4,s.drop 4)
 |t+1=>let p:=rds s w kt t;let x:=rx p.2 (kt.getD t 0) (w.getD t 0)
  ([x+ry p.1,p.1.getD 0 0,p.1.getD 1 0,p.1.getD 2 0],[p.1.getD 3 0+x,p.2.getD 0 0,p.2.getD 1 0,p.2.getD 2 0])
def fin (s v e:List UInt32):Nat→List UInt32
 |0=>s
 |i+1=>let p:=fin s v e i;let q:=p.set i (p.getD i 0+v.getD i 0)
  q.set (i+4) (q.getD (i+4) 0+e.getD i 0)
def comp (kt s:List UInt32) (bs:List UInt8):List UInt32:=let p:=rds s (zaj bs 64) kt 64;fin s p.1 p.2 4
theorem zr4 (s w kt:List UInt32) (hs:s.length=8):∀ t,(rds s w kt t).1.length=4∧(rds s w kt t).2.length=4
 |0=>by simp [rds,hs]
 |t+1=>⟨rfl,rfl⟩
theorem z10 (s v e:List UInt32):∀ i,(fin s v e i).length=s.length
 |0=>rfl
 |i+1=>by rw [fin];simp [z10 s v e i]
theorem z5g (kt s:List UInt32) (bs:List UInt8):(comp kt s bs).length=s.length:=z10 _ _ _ _
set_option maxHeartbeats 4000000 in
theorem yen (ax:Axs) (hp:zi5 ax) (hax:ax 66=none) (kt s:List UInt32) (bs:List UInt8) (fb ub off len cap:Nat) (n:Nat) (g:Nat→Fam) (lim:Nat) (rd wr:List Nat) (hl:lim≤n) (hb:BSl g n fb ub off len cap bs) (h64:len=64) (hc1:cap<1000000000) (hs:s.length=8) (hk:kt.length=64)
    (hG:1<n) (hgl:zat (g 1).rows (1*1024)=some (wvs kt)) :
    ∃ n' g' rd',za0 Tryd.prog (EE ax) 66 [.agg (wvs s).toArray,.slice (some (mkA fb ub off)) len cap] (St n g lim rd wr)=some (.agg (wvs (comp kt s bs)).toArray,St n' g' lim rd' wr)∧n≤n'∧n'≤n+7∧(∀ i,i<n→g' i=g i)∧(∀ x,x∈rd'→x∈rd∨((x=fb∨x=1)∧x<lim)):=by
  have hbl:=hb.lt
  suffices hh:∃ v s2,za0 Tryd.prog (EE ax) 66 [.agg (wvs s).toArray,.slice (some (mkA fb ub off)) len cap] (St n g lim rd wr)=some (v,s2)∧v=.agg (wvs (comp kt s bs)).toArray∧∃ n' g' rd',s2=St n' g' lim rd' wr∧n≤n'∧n'≤n+7∧(∀ i,i<n→g' i=g i)∧(∀ x,x∈rd'→x∈rd∨((x=fb∨x=1)∧x<lim)) by
    obtain ⟨v,s2,h1,rfl,n',g',rd',rfl,h2⟩:=hh;exact ⟨n',g',rd',h1,h2⟩
  refine zf1 (fn:=Tryd.f66) 116 hax (fn66 ax) rfl Tryd.ntmps66 (by simp) ?_;simp (disch:=omega) only [zaz,za6,Nat.reduceAdd];repeat apply W.seq
  apply W.region
  · simp (disch:=first|omega | (simp (disch:=omega) [wE];done) | (apply zac;omega) | (apply zad;omega)) only [ti3,ti47,ti5,ti68,ti43,za9 (ti69 ax),z50,zas,wB0,wB1,wC];with_reducible rfl
  simp only [onN,onB]
  have hb2:BSl (fupd (fupd g n ⟨false,[(n*1024+0,wvs s)],none⟩) (n+1) ⟨false,[((n+1)*1024+0,List.replicate 8 (.int .u32 0))],none⟩) (n+1+1) fb ub off len cap bs:=by
    obtain ⟨cs,r1,r2⟩:=hb.row;exact ⟨by omega,hb.tag,hb.fits,hb.size,cs,by rw [zae _ _ _ _ (by omega),zae _ _ _ _ (by omega)];exact r1,r2⟩
  obtain ⟨n1,g1,rd1,e1,k1,k2,k3,k4⟩:=z8o ax hp bs fb ub off len cap (n+1+1) _ lim rd wr (by omega) hb2 h64 hc1;have q1:g1 n=⟨false,[(n*1024+0,wvs s)],none⟩:=by rw [k3 n (by omega),zae _ _ _ _ (by omega),zaf]
  have q2:g1 (n+1)=⟨false,[((n+1)*1024+0,List.replicate 8 (vw 0))],none⟩:=by rw [k3 _ (by omega),zaf];rfl
  have q0:∀ i,i<n→g1 i=g i:=fun i hi=>by rw [k3 _ (by omega),zae _ _ _ _ (by omega),zae _ _ _ _ (by omega)]
  clear k3 hb2;have S1:=zen (n:=n1+1) (lim:=lim) (rd:=rd1) (wr:=wr) (ti90 ax) (g:=fupd g1 n1 ⟨false,[(n1*1024+0,List.replicate 64 (.int .u32 0))],none⟩) (f:=n1) (u:=n1*1024+0) (vs:=wvs (zaj bs 64)) (zaf _ _ _) (by rw [zav,zba]) (by simp) (zin _);rw [zcp,zau (f:=n1) _ (by omega)] at S1;repeat apply W.seq
  apply W.region
  · simp (disch:=first|omega | (simp (disch:=omega) [wE];done) | (apply zac;omega) | (apply zad;omega)) only [ti3,ti47,ti5,ti68,ti43,e1,za9 (ti90 ax),zas,S1,wB0,wB1,wC];with_reducible rfl
  simp only [onN,onB];have bd1:=z51 (len:=8) (cap:=8) (zfq .i64 4) (by omega);have bd2:=zq4 (len:=8) (cap:=8) (zfq .i64 4) (by omega) (by omega);generalize hG2:fupd g1 n1 ⟨false,[(n1*1024+0,wvs (zaj bs 64))],none⟩=g2;have p1:g2 n=⟨false,[(n*1024+0,wvs s)],none⟩:=by rw [← hG2,zae _ _ _ _ (by omega)];exact q1
  have p2:g2 (n+1)=⟨false,[((n+1)*1024+0,List.replicate 8 (vw 0))],none⟩:=by rw [← hG2,zae _ _ _ _ (by omega)];exact q2
  have p3:g2 n1=⟨false,[(n1*1024+0,wvs (zaj bs 64))],none⟩:=by rw [← hG2,zaf]
  have p0:∀ i,i<n→g2 i=g i:=fun i hi=>by rw [← hG2,zae _ _ _ _ (by omega)];exact q0 i hi
  clear hG2 q0 q1 q2 S1;have D1:=zwo (n:=n1+1) (ti93 ax) rfl (g:=g2) (f:=n) (u:=n*1024+0) (off:=0+0*1) (cs:=wvs s) (by rw [p1];exact zah) (by rw [zav];omega) (by omega);have D2:=zwo (n:=n1+1) (ti93 ax) rfl (g:=g2) (f:=n) (u:=n*1024+0) (off:=0+4*1) (cs:=wvs s) (by rw [p1];exact zah) (by rw [zav];omega) (by omega);rw [show ((wvs s).drop (0+0*1)).take 4=wvs (s.take 4) by rw [z2i,z2h];rfl] at D1;rw [show ((wvs s).drop (0+4*1)).take 4=wvs (s.drop 4) by rw [z2i,z2h,List.take_of_length_le (by simp;omega)]] at D2;have E1:=zor (n:=n1+1+1+1) (ti93 ax) (g:=fupd (fupd g2 (n1+1) ⟨false,[((n1+1)*1024+0,List.replicate 4 (.int .u32 0))],none⟩) (n1+1+1) ⟨false,[((n1+1+1)*1024+0,List.replicate 4 (.int .u32 0))],none⟩) (f:=n1+1) (u:=(n1+1)*1024+0) (vs:=wvs (s.take 4)) (es:=none) (cs:=List.replicate 4 (.int .u32 0)) (by rw [zae _ _ _ _ (by omega),zaf]) (by rw [zav];simp;omega) (by simp) (zin _) (by omega);rw [ya9 _ _ _ _ _ (show n1+1+1≠n1+1 by omega),zcp] at E1;have E2:=zor (n:=n1+1+1+1) (ti93 ax) (g:=fupd (fupd g2 (n1+1) ⟨false,[((n1+1)*1024+0,wvs (s.take 4))],none⟩) (n1+1+1) ⟨false,[((n1+1+1)*1024+0,List.replicate 4 (.int .u32 0))],none⟩) (f:=n1+1+1) (u:=(n1+1+1)*1024+0) (vs:=wvs (s.drop 4)) (es:=none) (cs:=List.replicate 4 (.int .u32 0)) (zaf _ _ _) (by rw [zav];simp;omega) (by simp) (zin _) (by omega);rw [zcp] at E2;have I0:=fun l=>zau (m:=lim) (f:=n) l (by omega);have I1:=fun l=>zau (m:=lim) (f:=n1+1) l (by omega);have I2:=fun l=>zau (m:=lim) (f:=n1+1+1) l (by omega);repeat apply W.seq
  apply W.draw_ex (ms:=[0,1,3,0,8,24,0,0,199,511])
  · kernel_rfl
  · simp (disch:=first|omega | (simp (disch:=omega) [wE];done) | (apply zac;omega) | (apply zad;omega)) only [ti3,ti47,ti5,ti68,ti43,zj4,zsz,zbq,zop,zna,zb8,zbn,zdm (ti69 ax) (ti68 ax) (by omega) bd1 (show (n*1024+0) % 1024=0 by omega),zdm (ti69 ax) (ti68 ax) (by omega) bd2 (show (n*1024+0) % 1024=0 by omega),z8z (ti93 ax) (show 0<4 by omega) (show 4≤4 - 0 by omega),z8z (ti93 ax) (show 0<4 by omega) (show 4≤8 - 4 by omega),D1,D2,za9 (ti93 ax),zas,E1,E2,I0,I1,I2,wB0,wB1,wC];with_reducible rfl
  · simp (disch:=first|decide | (apply zec<;>intro f hf<;>simp at hf ⊢<;>omega)) only [zgh,zkx,zpa,znb,zi2,zj6,List.nil_append,List.cons_append,List.length_cons,List.length_nil,Nat.reduceAdd,zwg,zwh,Bool.and_self,Bool.and_true,Bool.true_and]
  simp only [onN,onB]
  have hKT:∀ rd,zfp (EE ax) (St (n1+1+1+1) (fupd (fupd g2 (n1+1) ⟨false,[((n1+1)*1024+0,wvs (s.take 4))],none⟩) (n1+1+1) ⟨false,[((n1+1+1)*1024+0,wvs (s.drop 4))],none⟩) lim rd wr) 90 (.pointer (some (mkA 1 (1*1024) 0)))=some (.agg (wvs kt).toArray,St (n1+1+1+1) (fupd (fupd g2 (n1+1) ⟨false,[((n1+1)*1024+0,wvs (s.take 4))],none⟩) (n1+1+1) ⟨false,[((n1+1+1)*1024+0,wvs (s.drop 4))],none⟩) lim (ins lim rd 1) wr) :=
    fun rd=>ze5 (ti90 ax) rfl (by rw [zae _ _ _ _ (by omega),zae _ _ _ _ (by omega),p0 _ hG];exact hgl) (by rw [zav,hk])
  repeat apply W.seq
  apply W.region
  · simp (disch:=first|omega | (simp (disch:=omega) [wE];done) | (apply zac;omega) | (apply zad;omega)) only [ti3,ti47,ti5,ti68,ti43,hKT,wB0,wB1,wC];with_reducible rfl
  simp only [onN,onB];repeat apply W.seq
  apply W.block;refine W.loop (fun m fr s'=>∃ (t:Nat) (h:Nat→Value) (g':Nat→Fam) (rd':List Nat),t≤64∧m=64 - t∧fr=Fr.of 116 h∧s'=St (n1+1+1+1) g' lim rd' wr∧h 2=.pointer (some (mkA n (n*1024+0) 0))∧h 4=.pointer (some (mkA (n+1) ((n+1)*1024+0) 0))∧h 6=.pointer (some (mkA (n1+1) ((n1+1)*1024+0) 0))∧h 7=.pointer (some (mkA (n1+1+1) ((n1+1+1)*1024+0) 0))∧h 5=.pointer (some (mkA n1 (n1*1024+0) 0))∧h 21=.agg (wvs kt).toArray∧h 22=.int .i64 (t:Int)∧g' n=⟨false,[(n*1024+0,wvs s)],none⟩∧g' (n+1)=⟨false,[((n+1)*1024+0,List.replicate 8 (vw 0))],none⟩∧g' n1=⟨false,[(n1*1024+0,wvs (zaj bs 64))],none⟩∧g' (n1+1)=⟨false,[((n1+1)*1024+0,wvs (rds s (zaj bs 64) kt t).1)],none⟩∧g' (n1+1+1)=⟨false,[((n1+1+1)*1024+0,wvs (rds s (zaj bs 64) kt t).2)],none⟩∧(∀ i,i<n→g' i=g i)∧(∀ x,x∈rd'→x∈rd∨((x=fb∨x=1)∧x<lim))) ?_ (64 - 0) _ _ ⟨0,_,_,_,by omega,rfl,rfl,rfl,?_,?_,?_,?_,?_,?_,?_,?_,?_,?_,?_,?_,?_,?_⟩
  case refine_2=>simp (disch:=omega) only [zaa,zab]
  case refine_3=>simp (disch:=omega) only [zaa,zab]
  case refine_4=>simp (disch:=omega) only [zaa,zab]
  case refine_5=>simp (disch:=omega) only [zaa,zab]
  case refine_6=>simp (disch:=omega) only [zaa,zab]
  case refine_7=>simp (disch:=omega) only [zaa,zab]
  case refine_8=>simp (disch:=omega) only [zaa,zab];rfl
  case refine_9=>rw [zae _ _ _ _ (by omega),zae _ _ _ _ (by omega)];exact p1
  case refine_10=>rw [zae _ _ _ _ (by omega),zae _ _ _ _ (by omega)];exact p2
  case refine_11=>rw [zae _ _ _ _ (by omega),zae _ _ _ _ (by omega)];exact p3
  case refine_12=>rw [zae _ _ _ _ (by omega),zaf];rfl
  case refine_13=>rw [zaf];rfl
  case refine_14=>intro i hi;rw [zae _ _ _ _ (by omega),zae _ _ _ _ (by omega)];exact p0 i hi
  case refine_15 =>
    intro x hx;rcases zcf hx with hx|⟨hx,hq⟩
    · exact (k4 x hx).imp id fun k=>⟨.inl k.1,k.2⟩
    · exact .inr ⟨.inr hx,hq⟩
  clear p1 p2 p3 p0 hKT E1 E2 D1 D2;rintro m fr s' ⟨t,h,g',rd',ht,rfl,rfl,rfl,h2,h4,h6,h7,h5,h21,h22,p1,p2,p3,p4,p5,p0,hrd⟩;repeat apply W.seq
  apply W.region
  · simp (disch:=first|omega | (simp (disch:=omega) [wE,h22];done) | (apply zac;omega) | (apply zad;omega)) only [ti3,ti47,ti5,ti68,ti43,zgt,h22,wB0,wB1,wC];with_reducible rfl
  simp only [onN,onB];by_cases hlt:(t:Int)<64
  case neg =>
    repeat apply W.seq
    refine W.cond (b:=false) ?_ ?_
    · simp (disch:=omega) only [zaw,get_of,zaa,zab,hlt,decide_true,decide_false]
    simp only [cond_true,cond_false];apply W.exit;simp only [onN,onB,Nat.beq_refl,cond_true,cond_false,zmt];have hte:t=64:=by omega
    subst hte;obtain ⟨l1,l2⟩:=zr4 s (zaj bs 64) kt hs 64;have hcomp:comp kt s bs=fin s (rds s (zaj bs 64) kt 64).1 (rds s (zaj bs 64) kt 64).2 4:=rfl;generalize (rds s (zaj bs 64) kt 64).1=V at *;generalize (rds s (zaj bs 64) kt 64).2=E at *;repeat apply W.seq
    apply W.region
    · simp (disch:=first|omega | (simp (disch:=omega) [wE];done) | (apply zac;omega) | (apply zad;omega)) only [ti3,ti47,ti5,ti68,ti43,wB0,wB1,wC];with_reducible rfl
    simp only [onN,onB];repeat apply W.seq
    apply W.block;refine W.loop (fun m fr s'=>∃ (t:Nat) (h:Nat→Value) (g':Nat→Fam) (rd':List Nat),t≤4∧m=4 - t∧fr=Fr.of 116 h∧s'=St (n1+1+1+1) g' lim rd' wr∧h 2=.pointer (some (mkA n (n*1024+0) 0))∧h 4=.pointer (some (mkA (n+1) ((n+1)*1024+0) 0))∧h 6=.pointer (some (mkA (n1+1) ((n1+1)*1024+0) 0))∧h 7=.pointer (some (mkA (n1+1+1) ((n1+1+1)*1024+0) 0))∧h 94=.int .i64 (t:Int)∧g' n=⟨false,[(n*1024+0,wvs (fin s V E t))],none⟩∧g' (n+1)=⟨false,[((n+1)*1024+0,List.replicate 8 (vw 0))],none⟩∧g' (n1+1)=⟨false,[((n1+1)*1024+0,wvs V)],none⟩∧g' (n1+1+1)=⟨false,[((n1+1+1)*1024+0,wvs E)],none⟩∧(∀ i,i<n→g' i=g i)∧(∀ x,x∈rd'→x∈rd∨((x=fb∨x=1)∧x<lim))) ?_ (4 - 0) _ _ ⟨0,_,_,_,by omega,rfl,rfl,rfl,?_,?_,?_,?_,?_,p1,p2,p4,p5,p0,hrd⟩
    case refine_2=>simp (disch:=omega) only [zaa,zab,h2]
    case refine_3=>simp (disch:=omega) only [zaa,zab,h4]
    case refine_4=>simp (disch:=omega) only [zaa,zab,h6]
    case refine_5=>simp (disch:=omega) only [zaa,zab,h7]
    case refine_6=>simp (disch:=omega) only [zaa,zab];rfl
    clear h2 h4 h6 h7 h5 h21 h22 p1 p2 p3 p4 p5 p0 hrd;rintro m fr s' ⟨t,h,g',rd',ht,rfl,rfl,rfl,h2,h4,h6,h7,h94,p1,p2,p4,p5,p0,hrd⟩;have hfl:=z10 s V E t;repeat apply W.seq
    apply W.region
    · simp (disch:=first|omega | (simp (disch:=omega) [wE,h94];done) | (apply zac;omega) | (apply zad;omega)) only [ti3,ti47,ti5,ti68,ti43,zgt,h94,wB0,wB1,wC];with_reducible rfl
    simp only [onN,onB];by_cases hl4:(t:Int)<4
    case neg =>
      repeat apply W.seq
      refine W.cond (b:=false) ?_ ?_
      · simp (disch:=omega) only [zaw,get_of,zaa,zab,hl4,decide_true,decide_false]
      simp only [cond_true,cond_false];apply W.exit;simp only [onN,onB,Nat.beq_refl,cond_true,cond_false,zmt];have hte:t=4:=by omega
      subst hte;have L1:=ze5 (n:=n1+1+1+1) (lim:=lim) (rd:=rd') (wr:=wr) (ti69 ax) rfl (g:=g') (f:=n) (u:=n*1024+0) (cs:=wvs (fin s V E 4)) (by rw [p1];exact zah) (by rw [zav,hfl,hs]);rw [I0] at L1;have S1:=zen (n:=n1+1+1+1) (lim:=lim) (rd:=rd') (wr:=wr) (ti69 ax) (f:=n+1) (u:=(n+1)*1024+0) (vs:=wvs (fin s V E 4)) p2 (by rw [zav,hfl,hs]) (by simp) (zin _);rw [zau (f:=n+1) _ (by omega)] at S1;repeat apply W.seq
      apply W.region
      · simp (disch:=first|omega | (simp (disch:=omega) [wE,h2,h4];done) | (apply zac;omega) | (apply zad;omega)) only [ti3,ti47,ti5,ti68,ti43,h2,h4,L1,zas,S1,wB0,wB1,wC];with_reducible rfl
      simp only [onN,onB];apply W.ret;refine ⟨.inr rfl,[.agg (wvs (comp kt s bs)).toArray],St (n1+1+1+1) (fupd g' (n+1) ⟨false,[((n+1)*1024+0,wvs (comp kt s bs))],none⟩) lim rd' wr,?_,rfl,n1+1+1+1,_,rd',rfl,by omega,by omega,fun i hi=>by rw [zae _ _ _ _ (by omega)];exact p0 i hi,hrd⟩;have L2:=ze5 (n:=n1+1+1+1) (lim:=lim) (rd:=rd') (wr:=wr) (ti69 ax) rfl (g:=fupd g' (n+1) ⟨false,[((n+1)*1024+0,wvs (fin s V E 4))],none⟩) (f:=n+1) (u:=(n+1)*1024+0) (cs:=wvs (fin s V E 4)) (by rw [zaf];exact zah) (by rw [zav,hfl,hs]);rw [zau (f:=n+1) _ (by omega)] at L2;rw [hcomp];simp (disch:=first|omega | (simp (disch:=omega) only [get_of,zaa,zab,h4];done)) only [ze0 (ad:=mkA (n+1) ((n+1)*1024+0) 0),zgr,Tryd.results66,L2,zb5,zcn]
    have ht4:t<4:=by omega
    repeat apply W.seq
    refine W.cond (b:=true) ?_ ?_
    · simp (disch:=omega) only [zaw,get_of,zaa,zab,hl4,decide_true,decide_false]
    simp only [cond_true,cond_false];apply W.skip;simp only [onN,onB];have hql:((fin s V E t).set t ((fin s V E t).getD t 0+V.getD t 0)).length=8:=by rw [List.length_set,hfl,hs]
    have A1:=ld_q (n:=n1+1+1+1) (ti68 ax) rfl (g:=g') (f:=n) (u:=n*1024+0) (off:=0+t) (cs:=wvs (fin s V E t)) (by rw [p1];exact zah) (by rw [Nat.zero_add];exact zdi (by omega)) (by omega);have A2:=ld_q (n:=n1+1+1+1) (ti68 ax) rfl (g:=g') (f:=n1+1) (u:=(n1+1)*1024+0) (off:=0+t) (cs:=wvs V) (by rw [p4];exact zah) (by rw [Nat.zero_add];exact zdi (by omega)) (by omega);have A3:=fun v hv=>st_q (n:=n1+1+1+1) (ti68 ax) (g:=g') (f:=n) (u:=n*1024+0) (off:=0+t) (v:=v) p1 (by rw [zav];omega) hv (by omega);repeat apply W.seq
    apply W.block;repeat apply W.seq
    apply W.region
    · simp (disch:=first|omega | (simp (disch:=omega) [wE,h94];done) | (apply zac;omega) | (apply zad;omega)) only [ti3,ti47,ti5,ti68,ti43,h94,wB0,wB1,wC];with_reducible rfl
    simp only [onN,onB];repeat apply W.seq
    apply W.last
    · kernel_rfl
    · simp (disch:=first|omega | (simp (disch:=omega) [wE,h2,h6];done) | (apply zac;omega) | (apply zad;omega)) only [ti3,ti47,ti5,ti68,ti43,zcd,zcs,zbq,zdj,zgl,zdq,zb8,zbn,h2,h6,za5,zao (ti69 ax) (ti68 ax) (show t<8 by omega),zao (ti93 ax) (ti68 ax) ht4,A1,A2,A3 _ (zrc _),zk4,zhf,I0,I1,wB0,wB1,wC];with_reducible rfl
    simp only [onN,onB];have hN:fupd g' n ⟨false,[(n*1024+0,(wvs (fin s V E t)).set (0+t) (vw ((fin s V E t).getD t 0+V.getD t 0)))],none⟩=fupd g' n ⟨false,[(n*1024+0,wvs ((fin s V E t).set t ((fin s V E t).getD t 0+V.getD t 0)))],none⟩:=by rw [Nat.zero_add,zm3]
    rw [hN];have c4:(t:Int)+4=((t+4:Nat):Int):=by omega
    have B1:=ld_q (n:=n1+1+1+1) (ti68 ax) rfl (g:=fupd g' n ⟨false,[(n*1024+0,wvs ((fin s V E t).set t ((fin s V E t).getD t 0+V.getD t 0)))],none⟩) (f:=n) (u:=n*1024+0) (off:=0+(t+4)) (cs:=wvs ((fin s V E t).set t ((fin s V E t).getD t 0+V.getD t 0))) (by rw [zaf];exact zah) (by rw [Nat.zero_add];exact zdi (by omega)) (by omega);have B2:=ld_q (n:=n1+1+1+1) (ti68 ax) rfl (g:=fupd g' n ⟨false,[(n*1024+0,wvs ((fin s V E t).set t ((fin s V E t).getD t 0+V.getD t 0)))],none⟩) (f:=n1+1+1) (u:=(n1+1+1)*1024+0) (off:=0+t) (cs:=wvs E) (by rw [zae _ _ _ _ (by omega),p5];exact zah) (by rw [Nat.zero_add];exact zdi (by omega)) (by omega);have B3:=fun v hv=>st_q (n:=n1+1+1+1) (ti68 ax) (g:=fupd g' n ⟨false,[(n*1024+0,wvs ((fin s V E t).set t ((fin s V E t).getD t 0+V.getD t 0)))],none⟩) (f:=n) (u:=n*1024+0) (off:=0+(t+4)) (v:=v) (zaf _ _ _) (by rw [zav];omega) hv (by omega);simp only [zcp] at B3;repeat apply W.seq
    apply W.last
    · kernel_rfl
    · simp (disch:=first|omega | (simp (disch:=omega) [wE,h2,h7];done) | (apply zac;omega) | (apply zad;omega)) only [ti3,ti47,ti5,ti68,ti43,zcd,zcs,zbq,zdj,zgl,zdq,zb8,zbn,h2,h7,zd0,c4,za5,zao (ti69 ax) (ti68 ax) (show t+4<8 by omega),zao (ti93 ax) (ti68 ax) ht4,B1,B2,B3 _ (zrc _),zk4,zhf,I0,I2,wB0,wB1,wC];with_reducible rfl
    simp only [onN,onB];repeat apply W.seq
    apply W.region
    · simp (disch:=first|omega | (simp (disch:=omega) [wE,h94];done) | (apply zac;omega) | (apply zad;omega)) only [ti3,ti47,ti5,ti68,ti43,zd0,h94,wB0,wB1,wC];with_reducible rfl
    simp only [onN,onB];refine ⟨4 - (t+1),by omega,t+1,_,_,rd',by omega,rfl,rfl,rfl,?_,?_,?_,?_,?_,?_,?_,?_,?_,?_,hrd⟩
    · simp (disch:=omega) only [zaa,zab,h2]
    · simp (disch:=omega) only [zaa,zab,h4]
    · simp (disch:=omega) only [zaa,zab,h6]
    · simp (disch:=omega) only [zaa,zab,h7]
    · simp (disch:=omega) only [zaa,zab];rfl
    · rw [zaf,Nat.zero_add,zm3];rfl
    · rw [zae _ _ _ _ (by omega)];exact p2
    · rw [zae _ _ _ _ (by omega)];exact p4
    · rw [zae _ _ _ _ (by omega)];exact p5
    · intro i hi;rw [zae _ _ _ _ (by omega)];exact p0 i hi
  have htl:t<64:=by omega
  obtain ⟨l1,l2⟩:=zr4 s (zaj bs 64) kt hs t;have hstep:rds s (zaj bs 64) kt (t+1)=([rx (rds s (zaj bs 64) kt t).2 (kt.getD t 0) ((zaj bs 64).getD t 0)+ry (rds s (zaj bs 64) kt t).1,(rds s (zaj bs 64) kt t).1.getD 0 0,(rds s (zaj bs 64) kt t).1.getD 1 0,(rds s (zaj bs 64) kt t).1.getD 2 0],[(rds s (zaj bs 64) kt t).1.getD 3 0+rx (rds s (zaj bs 64) kt t).2 (kt.getD t 0) ((zaj bs 64).getD t 0),(rds s (zaj bs 64) kt t).2.getD 0 0,(rds s (zaj bs 64) kt t).2.getD 1 0,(rds s (zaj bs 64) kt t).2.getD 2 0]):=rfl;generalize hV:(rds s (zaj bs 64) kt t).1=V at *;generalize hE:(rds s (zaj bs 64) kt t).2=E at *;repeat apply W.seq
  refine W.cond (b:=true) ?_ ?_
  · simp (disch:=omega) only [zaw,get_of,zaa,zab,hlt,decide_true,decide_false]
  simp only [cond_true,cond_false];apply W.skip;simp only [onN,onB];have hkt:(wvs kt).toArray.toList[t]?=some (vw (kt.getD t 0)):=by rw [List.toList_toArray];exact zdi (by omega)
  repeat apply W.seq
  apply W.block;repeat apply W.seq
  apply W.region
  · simp (disch:=first|omega | (simp (disch:=omega) [wE,h21,h22];done) | (apply zac;omega) | (apply zad;omega)) only [ti3,ti47,ti5,ti68,ti43,h21,h22,za5,yh8 (ti90 ax) (ti68 ax) rfl htl hkt,wB0,wB1,wC];with_reducible rfl
  simp only [onN,onB];have QV:=fun (k:Nat) (hk:k<4)=>ld_q (n:=n1+1+1+1) (ti68 ax) rfl (g:=g') (f:=n1+1) (u:=(n1+1)*1024+0) (off:=0+k) (cs:=wvs V) (by rw [p4];exact zah) (by rw [Nat.zero_add];exact zdi (by omega)) (by omega);have QE:=fun (k:Nat) (hk:k<4)=>ld_q (n:=n1+1+1+1) (ti68 ax) rfl (g:=g') (f:=n1+1+1) (u:=(n1+1+1)*1024+0) (off:=0+k) (cs:=wvs E) (by rw [p5];exact zah) (by rw [Nat.zero_add];exact zdi (by omega)) (by omega);have QW:=ld_q (n:=n1+1+1+1) (ti68 ax) rfl (g:=g') (f:=n1) (u:=n1*1024+0) (off:=0+t) (cs:=wvs (zaj bs 64)) (by rw [p3];exact zah) (by rw [Nat.zero_add];exact zdi (by rw [zba];omega)) (by omega);have LV:=fun (rd:List Nat) (k:Nat) (hk:k<4)=>zhq (n:=n1+1+1+1) (lim:=lim) (rd:=rd) (wr:=wr) (ti68 ax) rfl (g:=g') (f:=n1+1) (u:=(n1+1)*1024+0) (off:=0+k) (cs:=wvs V) (by rw [p4];exact zah) (by rw [Nat.zero_add];exact zdi (by omega));have LE:=fun (rd:List Nat) (k:Nat) (hk:k<4)=>zhq (n:=n1+1+1+1) (lim:=lim) (rd:=rd) (wr:=wr) (ti68 ax) rfl (g:=g') (f:=n1+1+1) (u:=(n1+1+1)*1024+0) (off:=0+k) (cs:=wvs E) (by rw [p5];exact zah) (by rw [Nat.zero_add];exact zdi (by omega));have IW:=fun l=>zau (m:=lim) (f:=n1) l (by omega);simp only [I1,I2] at LV LE;have MIX:∀ x s,za0 Tryd.prog (EE ax) 74 [vw x,.int .i64 6,.int .i64 11,.int .i64 25] s=some (vw (zyy x 6 11 25),s):=fun x s=>z98 ax hp x 6 11 25 (by omega) (by omega) (by omega) (by omega) (by omega) (by omega) s;have MIY:∀ x s,za0 Tryd.prog (EE ax) 74 [vw x,.int .i64 2,.int .i64 13,.int .i64 22] s=some (vw (zyy x 2 13 22),s):=fun x s=>z98 ax hp x 2 13 22 (by omega) (by omega) (by omega) (by omega) (by omega) (by omega) s;repeat apply W.seq
  apply W.quiet
  · simp (disch:=first|omega | (simp (disch:=omega) [wE,h5,h7];done) | (apply zac;omega) | (apply zad;omega)) only [ti3,ti47,ti5,ti68,ti43,ze2,zgf,zbq,zgc,zkd,h5,h7,za5,zfq,zao (ti90 ax) (ti68 ax) htl,zao (ti93 ax) (ti68 ax) (show 0<4 by omega),zao (ti93 ax) (ti68 ax) (show 1<4 by omega),zao (ti93 ax) (ti68 ax) (show 2<4 by omega),zao (ti93 ax) (ti68 ax) (show 3<4 by omega),QE 0 (by omega),QE 1 (by omega),QE 2 (by omega),QE 3 (by omega),QW,MIX,zk4,z5y,zof,yks,I2,IW,wB0,wB1,wC];with_reducible rfl
  simp only [onN,onB];repeat apply W.seq
  apply W.quiet
  · simp (disch:=first|omega | (simp (disch:=omega) [wE,h6];done) | (apply zac;omega) | (apply zad;omega)) only [ti3,ti47,ti5,ti68,ti43,ze2,zgf,zbq,zgc,zkd,h6,zfq,zao (ti93 ax) (ti68 ax) (show 0<4 by omega),zao (ti93 ax) (ti68 ax) (show 1<4 by omega),zao (ti93 ax) (ti68 ax) (show 2<4 by omega),QV 0 (by omega),QV 1 (by omega),QV 2 (by omega),MIY,zk4,z5y,zof,I1,wB0,wB1,wC];with_reducible rfl
  simp only [onN,onB];have SE:=fun x=>zen (n:=n1+1+1+1) (lim:=lim) (rd:=rd') (wr:=wr) (ti93 ax) (f:=n1+1+1) (u:=(n1+1+1)*1024+0) (vs:=[vw (V.getD 3 0+x),vw (E.getD 0 0),vw (E.getD 1 0),vw (E.getD 2 0)]) p5 rfl (by rw [zav];omega) rfl;simp only [I2] at SE;repeat apply W.seq
  apply W.region
  · simp (disch:=first|omega | (simp (disch:=omega) [wE,h6,h7,zhf];done) | (apply zac;omega) | (apply zad;omega)) only [ti3,ti47,ti5,ti68,ti43,h6,h7,zfq,zao (ti93 ax) (ti68 ax) (show 0<4 by omega),zao (ti93 ax) (ti68 ax) (show 1<4 by omega),zao (ti93 ax) (ti68 ax) (show 2<4 by omega),zao (ti93 ax) (ti68 ax) (show 3<4 by omega),LV rd' 3 (by omega),LE rd' 0 (by omega),LE rd' 1 (by omega),LE rd' 2 (by omega),zk4,zvg (ti93 ax) (ti68 ax),zas,SE,wB0,wB1,wC];with_reducible rfl
  simp only [onN,onB];have p4':∀ x,fupd g' (n1+1+1) x (n1+1)=⟨false,[((n1+1)*1024+0,wvs V)],none⟩:=fun x=>by rw [zae _ _ _ _ (by omega)];exact p4
  have LV2:=fun (x:Fam) (k:Nat) (hk:k<4)=>zhq (n:=n1+1+1+1) (lim:=lim) (rd:=rd') (wr:=wr) (ti68 ax) rfl (g:=fupd g' (n1+1+1) x) (f:=n1+1) (u:=(n1+1)*1024+0) (off:=0+k) (cs:=wvs V) (by rw [p4' x];exact zah) (by rw [Nat.zero_add];exact zdi (by omega));have SV:=fun fm x=>zen (n:=n1+1+1+1) (lim:=lim) (rd:=rd') (wr:=wr) (ti93 ax) (f:=n1+1) (u:=(n1+1)*1024+0) (vs:=[vw x,vw (V.getD 0 0),vw (V.getD 1 0),vw (V.getD 2 0)]) (p4' fm) rfl (by rw [zav];omega) rfl;simp only [I1] at SV LV2;repeat apply W.seq
  apply W.region
  · simp (disch:=first|omega | (simp (disch:=omega) [wE,h6,zhf];done) | (apply zac;omega) | (apply zad;omega)) only [ti3,ti47,ti5,ti68,ti43,h6,zfq,zao (ti93 ax) (ti68 ax) (show 0<4 by omega),zao (ti93 ax) (ti68 ax) (show 1<4 by omega),zao (ti93 ax) (ti68 ax) (show 2<4 by omega),LV2 _ 0 (by omega),LV2 _ 1 (by omega),LV2 _ 2 (by omega),zk4,zvg (ti93 ax) (ti68 ax),zas,SV,wB0,wB1,wC];with_reducible rfl
  simp only [onN,onB];repeat apply W.seq
  apply W.region
  · simp (disch:=first|omega | (simp (disch:=omega) [wE,h22];done) | (apply zac;omega) | (apply zad;omega)) only [ti3,ti47,ti5,ti68,ti43,zd0,h22,wB0,wB1,wC];with_reducible rfl
  simp only [onN,onB];refine ⟨64 - (t+1),by omega,t+1,_,_,rd',by omega,rfl,rfl,rfl,?_,?_,?_,?_,?_,?_,?_,?_,?_,?_,?_,?_,?_,hrd⟩
  · simp (disch:=omega) only [zaa,zab,h2]
  · simp (disch:=omega) only [zaa,zab,h4]
  · simp (disch:=omega) only [zaa,zab,h6]
  · simp (disch:=omega) only [zaa,zab,h7]
  · simp (disch:=omega) only [zaa,zab,h5]
  · simp (disch:=omega) only [zaa,zab,h21]
  · simp (disch:=omega) only [zaa,zab];rfl
  · rw [zae _ _ _ _ (by omega),zae _ _ _ _ (by omega)];exact p1
  · rw [zae _ _ _ _ (by omega),zae _ _ _ _ (by omega)];exact p2
  · rw [zae _ _ _ _ (by omega),zae _ _ _ _ (by omega)];exact p3
  · rw [zaf,hstep];rfl
  · rw [zae _ _ _ _ (by omega),zaf,hstep];rfl
  · intro i hi;rw [zae _ _ _ _ (by omega),zae _ _ _ _ (by omega)];exact p0 i hi
end
section
open Go Go.RowKit
noncomputable def fc {α:Type} (n:Nat) (k:Nat→α):α:=Nat.rec (k 0) (fun m _=>k (Nat.succ m)) n
theorem ybg {α:Type} (n:Nat) (k:Nat→α):fc n k=k n:=by cases n<;>rfl
def addN (x y:Nat):Nat:=Nat.mod (Nat.add x y) 4294967296
def rotN (x i:Nat):Nat:=Nat.lor (Nat.mod (Nat.shiftLeft x (32 - i)) 4294967296) (Nat.shiftRight x i)
def mixN (x i j k:Nat):Nat:=Nat.xor (Nat.xor (rotN x i) (rotN x j)) (rotN x k)
def rxN (a b c d k w:Nat):Nat:=addN (addN (addN (addN d (mixN a 6 11 25)) (Nat.xor (Nat.land a b) (Nat.land (Nat.sub 4294967295 a) c))) k) w
def ryN (a b c:Nat):Nat:=addN (mixN a 2 13 22) (Nat.xor (Nat.xor (Nat.land a b) (Nat.land a c)) (Nat.land b c))
def sg0N (p:Nat):Nat:=Nat.xor (Nat.xor (rotN p 7) (rotN p 18)) (Nat.shiftRight p 3)
def sg1N (p:Nat):Nat:=Nat.xor (Nat.xor (rotN p 17) (rotN p 19)) (Nat.shiftRight p 10)
def nxN (a b c d:Nat):Nat:=addN (addN (addN a (sg0N b)) c) (sg1N d)
def stN (a b:Nat):Nat:=Nat.lor (Nat.mod (Nat.shiftLeft a 8) 4294967296) b
def wdN (b:List Nat) (i:Nat):Nat:=stN (stN (stN (stN 0 (b.getD (i+0) 0)) (b.getD (i+1) 0)) (b.getD (i+2) 0)) (b.getD (i+3) 0)
noncomputable def extN:Nat→Nat→Nat→Nat→Nat→Nat→Nat→Nat→Nat→Nat→Nat→Nat→Nat→Nat→Nat→Nat→Nat→List Nat
  |0,w0,w1,w2,w3,w4,w5,w6,w7,w8,w9,w10,w11,w12,w13,w14,w15=>[w0,w1,w2,w3,w4,w5,w6,w7,w8,w9,w10,w11,w12,w13,w14,w15]
  |n+1,w0,w1,w2,w3,w4,w5,w6,w7,w8,w9,w10,w11,w12,w13,w14,w15=>fc (nxN w0 w1 w9 w14) fun x=>w0 :: extN n w1 w2 w3 w4 w5 w6 w7 w8 w9 w10 w11 w12 w13 w14 w15 x
noncomputable def rd8:List Nat→List Nat→Nat→Nat→Nat→Nat→Nat→Nat→Nat→Nat→List Nat
  |w :: ws,k :: ks,a,b,c,d,e,f,g,h=>fc (rxN e f g h k w) fun x=>fc (addN x (ryN a b c)) fun a'=>fc (addN d x) fun e'=>rd8 ws ks a' a b c e' e f g
  |_,_,a,b,c,d,e,f,g,h=>[a,b,c,d,e,f,g,h]
def sumN:List Nat→List Nat→List Nat
  |a :: l,b :: m=>addN a b :: sumN l m
  |_,_=>[]
noncomputable def yir (kt s b:List Nat):List Nat :=
  sumN s (rd8 (extN 48 (wdN b 0) (wdN b 4) (wdN b 8) (wdN b 12) (wdN b 16) (wdN b 20) (wdN b 24) (wdN b 28) (wdN b 32) (wdN b 36) (wdN b 40) (wdN b 44) (wdN b 48) (wdN b 52) (wdN b 56) (wdN b 60)) kt (s.getD 0 0) (s.getD 1 0) (s.getD 2 0) (s.getD 3 0) (s.getD 4 0) (s.getD 5 0) (s.getD 6 0) (s.getD 7 0))
theorem z7o (x y:UInt32):(x+y).toNat=addN x.toNat y.toNat:=UInt32.toNat_add x y
theorem yji (x y:UInt32):(x &&& y).toNat=Nat.land x.toNat y.toNat:=UInt32.toNat_and x y
theorem t_or (x y:UInt32):(x ||| y).toNat=Nat.lor x.toNat y.toNat:=UInt32.toNat_or x y
theorem z7n (x y:UInt32):(x ^^^ y).toNat=Nat.xor x.toNat y.toNat:=UInt32.toNat_xor x y
theorem t_not (x:UInt32):(~~~x).toNat=Nat.sub 4294967295 x.toNat:=by
  have:(~~~x).toNat=4294967295 - x.toNat:=by rw [UInt32.toNat_not];rfl
  exact this
theorem yjf (x:UInt32) (n:Nat):(zkk x n).toNat=Nat.mod (Nat.shiftLeft x.toNat n) 4294967296:=by
  show (x.toBitVec <<< n).toNat=_;rw [BitVec.toNat_shiftLeft];rfl
theorem yje (x:UInt32) (n:Nat):(zx1 x n).toNat=Nat.shiftRight x.toNat n:=by
  show (x.toBitVec >>> n).toNat=_;rw [BitVec.toNat_ushiftRight];rfl
theorem yc8 (x:UInt32) (i:Nat):(zdf x i).toNat=rotN x.toNat i:=by unfold zdf rotN;rw [t_or,yjf,yje]
theorem yjg (x:UInt32) (i j k:Nat):(zyy x i j k).toNat=mixN x.toNat i j k:=by unfold zyy mixN;rw [z7n,z7n,yc8,yc8,yc8]
theorem t_rx (e:List UInt32) (k w:UInt32):(rx e k w).toNat=rxN (e.getD 0 0).toNat (e.getD 1 0).toNat (e.getD 2 0).toNat (e.getD 3 0).toNat k.toNat w.toNat:=by
  unfold rx rxN;simp only [z7o,yjg,z7n,yji,t_not]
theorem t_ry (v:List UInt32):(ry v).toNat=ryN (v.getD 0 0).toNat (v.getD 1 0).toNat (v.getD 2 0).toNat:=by
  unfold ry ryN;simp only [z7o,yjg,z7n,yji]
theorem t_nx (w:List UInt32) (t:Nat):(z90 w t).toNat=nxN (w.getD (t - 16) 0).toNat (w.getD (t - 15) 0).toNat (w.getD (t - 7) 0).toNat (w.getD (t - 2) 0).toNat:=by
  unfold z90 nxN sig0 sig1 sg0N sg1N;simp only [z7o,z7n,yc8,yje]
theorem yjh (x:UInt8):x.toUInt32.toNat=x.toNat:=UInt8.toNat_toUInt32 x
theorem ya7 (l:List UInt8) (i:Nat):(l.map UInt8.toNat).getD i 0=(l.getD i 0).toNat:=by
  rw [List.getD_eq_getElem?_getD,List.getD_eq_getElem?_getD,List.getElem?_map];cases l[i]?<;>rfl
theorem yef (l:List UInt32) (i:Nat):(l.map UInt32.toNat).getD i 0=(l.getD i 0).toNat:=by
  rw [List.getD_eq_getElem?_getD,List.getD_eq_getElem?_getD,List.getElem?_map];cases l[i]?<;>rfl
theorem yjd (bs:List UInt8) (t:Nat):(word bs t 4).toNat=wdN (bs.map UInt8.toNat) (4*t):=by
  unfold wdN;simp only [ya7];simp only [word,t_or,yjf,yjh];rfl
theorem zmb (bs:List UInt8) (i:Nat):∀ m,i<m→(zaj bs m).getD i 0=(zaj bs (i+1)).getD i 0
  |0,h=>by omega
  |m+1,h=>by
    by_cases hm:m=i
    · subst hm;rfl
    · rw [zaj,List.getD_eq_getElem?_getD,List.getElem?_set_ne hm,← List.getD_eq_getElem?_getD];exact zmb bs i m (by omega)
theorem zx2 (bs:List UInt8) (i:Nat) (h:i<64):(zaj bs 64).getD i 0=if i<16 then word bs i 4 else z90 (zaj bs 64) i:=by
  rw [zmb bs i 64 h]
  conv=>lhs;rw [zaj]
  rw [zn3 (by rw [zba];exact h)];by_cases h16:i<16
  · rw [if_pos h16,if_pos h16]
  · rw [if_neg h16,if_neg h16];have k:∀ j,j<i→(zaj bs i).getD j 0=(zaj bs 64).getD j 0:=fun j hj=>by rw [zmb bs j i hj,zmb bs j 64 (by omega)]
    unfold z90;rw [k _ (by omega),k _ (by omega),k _ (by omega),k _ (by omega)]
theorem zbo {α:Type} (l:List α) (t:Nat) (d:α) (h:t<l.length):l.drop t=l.getD t d :: l.drop (t+1):=by
  rw [List.drop_eq_getElem_cons h,List.getD_eq_getElem?_getD,List.getElem?_eq_getElem h];rfl
theorem ygj (bs:List UInt8):∀ j t,t+16+j=64→extN j ((zaj bs 64).getD t 0).toNat ((zaj bs 64).getD (t+1) 0).toNat ((zaj bs 64).getD (t+2) 0).toNat ((zaj bs 64).getD (t+3) 0).toNat ((zaj bs 64).getD (t+4) 0).toNat ((zaj bs 64).getD (t+5) 0).toNat ((zaj bs 64).getD (t+6) 0).toNat ((zaj bs 64).getD (t+7) 0).toNat ((zaj bs 64).getD (t+8) 0).toNat ((zaj bs 64).getD (t+9) 0).toNat ((zaj bs 64).getD (t+10) 0).toNat ((zaj bs 64).getD (t+11) 0).toNat ((zaj bs 64).getD (t+12) 0).toNat ((zaj bs 64).getD (t+13) 0).toNat ((zaj bs 64).getD (t+14) 0).toNat ((zaj bs 64).getD (t+15) 0).toNat=((zaj bs 64).drop t).map UInt32.toNat
  |0,t,h=>by
    have hl:=zba bs 64;have ht:t=48:=by omega
    subst ht;rw [extN];rw [zbo (zaj bs 64) 48 0 (by omega)];rw [zbo (zaj bs 64) 49 0 (by omega)];rw [zbo (zaj bs 64) 50 0 (by omega)];rw [zbo (zaj bs 64) 51 0 (by omega)];rw [zbo (zaj bs 64) 52 0 (by omega)];rw [zbo (zaj bs 64) 53 0 (by omega)];rw [zbo (zaj bs 64) 54 0 (by omega)];rw [zbo (zaj bs 64) 55 0 (by omega)];rw [zbo (zaj bs 64) 56 0 (by omega)];rw [zbo (zaj bs 64) 57 0 (by omega)];rw [zbo (zaj bs 64) 58 0 (by omega)];rw [zbo (zaj bs 64) 59 0 (by omega)];rw [zbo (zaj bs 64) 60 0 (by omega)];rw [zbo (zaj bs 64) 61 0 (by omega)];rw [zbo (zaj bs 64) 62 0 (by omega)];rw [zbo (zaj bs 64) 63 0 (by omega)];rw [List.drop_of_length_le (by omega)]
    all_goals rfl
  |j+1,t,h=>by
    have hl:=zba bs 64;rw [extN,ybg,zbo (zaj bs 64) t 0 (by omega),List.map_cons];have e:=ygj bs j (t+1) (by omega)
    have hx:nxN ((zaj bs 64).getD t 0).toNat ((zaj bs 64).getD (t+1) 0).toNat ((zaj bs 64).getD (t+9) 0).toNat ((zaj bs 64).getD (t+14) 0).toNat=((zaj bs 64).getD (t+1+15) 0).toNat:=by
      rw [zx2 bs (t+1+15) (by omega),if_neg (by omega),t_nx];rw [show t+1+15 - 16=t by omega,show t+1+15 - 15=t+1 by omega,show t+1+15 - 7=t+9 by omega,show t+1+15 - 2=t+14 by omega]
    rw [hx,← e]
theorem yhx (ks:List Nat) (a b c d e f g h:Nat):rd8 [] ks a b c d e f g h=[a,b,c,d,e,f,g,h]:=by cases ks<;>rfl
theorem yfk (s w kt:List UInt32) (hw:w.length=64) (hk:kt.length=64):∀ j t,t+j=64→rd8 ((w.drop t).map UInt32.toNat) ((kt.drop t).map UInt32.toNat) ((rds s w kt t).1.getD 0 0).toNat ((rds s w kt t).1.getD 1 0).toNat ((rds s w kt t).1.getD 2 0).toNat ((rds s w kt t).1.getD 3 0).toNat ((rds s w kt t).2.getD 0 0).toNat ((rds s w kt t).2.getD 1 0).toNat ((rds s w kt t).2.getD 2 0).toNat ((rds s w kt t).2.getD 3 0).toNat
    = [((rds s w kt 64).1.getD 0 0).toNat,((rds s w kt 64).1.getD 1 0).toNat,((rds s w kt 64).1.getD 2 0).toNat,((rds s w kt 64).1.getD 3 0).toNat,((rds s w kt 64).2.getD 0 0).toNat,((rds s w kt 64).2.getD 1 0).toNat,((rds s w kt 64).2.getD 2 0).toNat,((rds s w kt 64).2.getD 3 0).toNat]
  |0,t,h=>by
    have ht:t=64:=by omega
    subst ht;rw [List.drop_of_length_le (by omega),List.map_nil,yhx]
  |j+1,t,h=>by
    have e:=yfk s w kt hw hk j (t+1) (by omega);rw [zbo w t 0 (by omega),zbo kt t 0 (by omega),List.map_cons,List.map_cons,rd8,ybg,ybg,ybg,← t_rx,← t_ry,← z7o,← z7o,← e];rfl
theorem len4 {l:List UInt32} (h:l.length=4):∃ a b c d,l=[a,b,c,d]:=by
  match l,h with
  |[a,b,c,d],_=>exact ⟨a,b,c,d,rfl⟩
theorem len8 {l:List UInt32} (h:l.length=8):∃ a b c d e f g k,l=[a,b,c,d,e,f,g,k]:=by
  match l,h with
  |[a,b,c,d,e,f,g,k],_=>exact ⟨a,b,c,d,e,f,g,k,rfl⟩
theorem yb6 (kt s:List UInt32) (bs:List UInt8) (hs:s.length=8) (hk:kt.length=64):(comp kt s bs).map UInt32.toNat=yir (kt.map UInt32.toNat) (s.map UInt32.toNat) (bs.map UInt8.toNat):=by
  unfold yir
  have hx:extN 48 (wdN (bs.map UInt8.toNat) 0) (wdN (bs.map UInt8.toNat) 4) (wdN (bs.map UInt8.toNat) 8) (wdN (bs.map UInt8.toNat) 12) (wdN (bs.map UInt8.toNat) 16) (wdN (bs.map UInt8.toNat) 20) (wdN (bs.map UInt8.toNat) 24) (wdN (bs.map UInt8.toNat) 28) (wdN (bs.map UInt8.toNat) 32) (wdN (bs.map UInt8.toNat) 36) (wdN (bs.map UInt8.toNat) 40) (wdN (bs.map UInt8.toNat) 44) (wdN (bs.map UInt8.toNat) 48) (wdN (bs.map UInt8.toNat) 52) (wdN (bs.map UInt8.toNat) 56) (wdN (bs.map UInt8.toNat) 60)=(zaj bs 64).map UInt32.toNat:=by
    have h:=ygj bs 48 0 rfl;rw [List.drop_zero] at h;rw [← h];have g:∀ i,i<16→((zaj bs 64).getD i 0).toNat=wdN (bs.map UInt8.toNat) (4*i):=fun i hi=>by rw [zx2 bs i (by omega),if_pos hi,yjd]
    simp only [Nat.zero_add,g 0 (by omega),g 1 (by omega),g 2 (by omega),g 3 (by omega),g 4 (by omega),g 5 (by omega),g 6 (by omega),g 7 (by omega),g 8 (by omega),g 9 (by omega),g 10 (by omega),g 11 (by omega),g 12 (by omega),g 13 (by omega),g 14 (by omega),g 15 (by omega),Nat.reduceMul]
  rw [hx];have h:=yfk s (zaj bs 64) kt (zba _ _) hk 64 0 rfl;rw [List.drop_zero,List.drop_zero] at h;have d0:rds s (zaj bs 64) kt 0=(s.take 4,s.drop 4):=rfl;rw [d0] at h;obtain ⟨l1,l2⟩:=zr4 s (zaj bs 64) kt hs 64;unfold comp;generalize rds s (zaj bs 64) kt 64=p at *;obtain ⟨V,E⟩:=p;obtain ⟨a,b,c,d,e,f,g,k,rfl⟩:=len8 hs;obtain ⟨v0,v1,v2,v3,rfl⟩:=len4 l1;obtain ⟨e0,e1,e2,e3,rfl⟩:=len4 l2;simp only [yef];have h':rd8 ((zaj bs 64).map UInt32.toNat) (kt.map UInt32.toNat) a.toNat b.toNat c.toNat d.toNat e.toNat f.toNat g.toNat k.toNat=[v0.toNat,v1.toNat,v2.toNat,v3.toNat,e0.toNat,e1.toNat,e2.toNat,e3.toNat]:=h;show _=sumN _ (rd8 ((zaj bs 64).map UInt32.toNat) (kt.map UInt32.toNat) a.toNat b.toNat c.toNat d.toNat e.toNat f.toNat g.toNat k.toNat);rw [h'];show [_,_,_,_,_,_,_,_]=_;rfl
end
section
open Go Go.RowKit
noncomputable def fcL {α:Type}:List Nat→(List Nat→α)→α
  |[],k=>k []
  |n :: l,k=>fc n fun n'=>fcL l fun l'=>k (n' :: l')
theorem ybh {α:Type}:∀ (l:List Nat) (k:List Nat→α),fcL l k=k l
  |[],k=>rfl
  |n :: l,k=>by rw [fcL,ybg,ybh l]
noncomputable def zjs:List Value→Option (List Nat)
  |[]=>some []
  |.int .u32 (.ofNat n) :: l=>bif Nat.blt n 4294967296 then (match zjs l with|some r=>some (n :: r)|none=>none) else none
  |_ :: _=>none
noncomputable def zm2:List Value→Option (List Nat)
  |[]=>some []
  |.int .u8 (.ofNat n) :: l=>bif Nat.blt n 256 then (match zm2 l with|some r=>some (n :: r)|none=>none) else none
  |_ :: _=>none
theorem zom:∀ {l:List Value} {r:List Nat},zjs l=some r→∃ w:List UInt32,l=wvs w∧r=w.map UInt32.toNat
  |[],r,h=>by simp [zjs] at h;subst h;exact ⟨[],rfl,rfl⟩
  |v :: l,r,h=>by
    unfold zjs at h;split at h
    · simp_all
    · rename_i n l' heq;simp only [List.cons.injEq] at heq;obtain ⟨rfl,rfl⟩:=heq
      cases hb:Nat.blt n 4294967296 with
      |false=>rw [hb] at h;simp at h
      |true =>
        rw [hb] at h;simp only [cond_true] at h;have hn:=zai.1 hb
        cases hq:zjs l with
        |none=>rw [hq] at h;simp at h
        |some r' =>
          rw [hq] at h;simp only [Option.some.injEq] at h;subst h;obtain ⟨w,rfl,rfl⟩:=zom hq;have he:(UInt32.ofNat n).toNat=n:=UInt32.toNat_ofNat_of_lt' hn;refine ⟨UInt32.ofNat n :: w,?_,?_⟩
          · show _=vw (UInt32.ofNat n) :: wvs w;unfold vw;rw [he];rfl
          · rw [List.map_cons,he]
    · simp at h
theorem zve:∀ {l:List Value} {r:List Nat},zm2 l=some r→∃ w:List UInt8,l=bvs w∧r=w.map UInt8.toNat
  |[],r,h=>by simp [zm2] at h;subst h;exact ⟨[],rfl,rfl⟩
  |v :: l,r,h=>by
    unfold zm2 at h;split at h
    · simp_all
    · rename_i n l' heq;simp only [List.cons.injEq] at heq;obtain ⟨rfl,rfl⟩:=heq
      cases hb:Nat.blt n 256 with
      |false=>rw [hb] at h;simp at h
      |true =>
        rw [hb] at h;simp only [cond_true] at h;have hn:=zai.1 hb
        cases hq:zm2 l with
        |none=>rw [hq] at h;simp at h
        |some r' =>
          rw [hq] at h;simp only [Option.some.injEq] at h;subst h;obtain ⟨w,rfl,rfl⟩:=zve hq;have he:(UInt8.ofNat n).toNat=n:=UInt8.toNat_ofNat_of_lt' hn;refine ⟨UInt8.ofNat n :: w,?_,?_⟩
          · show _=vb (UInt8.ofNat n) :: bvs w;unfold vb;rw [he];rfl
          · rw [List.map_cons,he]
    · simp at h
theorem zra:∀ (w:List UInt32),zjs (wvs w)=some (w.map UInt32.toNat)
  |[]=>rfl
  |x :: w=>by
    show (bif Nat.blt x.toNat 4294967296 then (match zjs (wvs w) with|some r=>some (x.toNat :: r)|none=>none) else none)=_;rw [zra w,zgz x.toNat_lt];rfl
theorem z0j:∀ (w:List UInt8),zm2 (bvs w)=some (w.map UInt8.toNat)
  |[]=>rfl
  |x :: w=>by
    show (bif Nat.blt x.toNat 256 then (match zm2 (bvs w) with|some r=>some (x.toNat :: r)|none=>none) else none)=_;rw [z0j w,zgz x.toNat_lt];rfl
noncomputable def natW (n:Nat):Value:=.int .u32 (.ofNat n)
theorem z34 (w:List UInt32):(w.map UInt32.toNat).map natW=wvs w:=by rw [List.map_map];rfl
noncomputable def zz8 (s:CS) (a:Addr) (u len cap:Nat) (sN bN kN:List Nat):Bool :=
  Nat.beq len 64 && (Nat.ble len cap && (Nat.blt cap 1000000000 && (Nat.beq sN.length 8 && (Nat.beq bN.length 64 && (Nat.beq kN.length 64 && (Nat.blt a.block s.n && (Nat.blt 1 s.n && (Nat.beq (u % 1024) 0 || Nat.beq (u % 1024) 2))))))))
noncomputable def zsp (s:CS) (a:Addr) (u len cap:Nat):Option (List Nat)→Option (List Nat)→Option (List Nat)→Option (Value×CS)
  | some sN, some bN, some kN => bif zz8 s a u len cap sN bN kN then
      fcL sN fun sN=>fcL bN fun bN=>fcL kN fun kN=>fcL (yir kN sN bN) fun r=>some (.agg (r.map natW).toArray,{ s with n:=s.n+7,rd:=ins s.lim (ins s.lim s.rd a.block) 1 }) else none
  |_,_,_=>none
noncomputable def zzd (s:CS) (ws:List Value) (a:Addr) (u len cap:Nat):Option (List Value)→Option (List Value)→Option (Value×CS)
  |some cs,some kc=>zsp s a u len cap (zjs ws) (zm2 ((cs.drop a.off).take 64)) (zjs kc)
  |_,_=>none
noncomputable def zqe:List Value→CS→Option (Value×CS)
  |[.agg ws,.slice (some ⟨f,o,some u⟩) len cap],s=>zzd s ws.toList ⟨f,o,some u⟩ u len cap (zat (zag s.obj f).rows u) (zat (zag s.obj 1).rows (1*1024))
  |_,_=>none
theorem yf1 {lim f:Nat} {l:List Nat} (h:f<lim):f∈ins lim l f:=by
  rcases @zh6 lim l f with k|k
  · exact k
  · omega
theorem yec (kt st:List UInt32) (bs:List UInt8) (f u o len cap:Nat) (s:CS) (cs:List Value) (hr:zat (zag s.obj f).rows u=some cs) (hc:(cs.drop o).take 64=bvs bs) (hk:zat (zag s.obj 1).rows (1*1024)=some (wvs kt)) (hs:st.length=8) (hkt:kt.length=64) (hb:bs.length=64) (hlen:len=64) (hcap:len≤cap) (hcap2:cap<1000000000) (hf:f<s.n) (hG:1<s.n) (hu:u % 1024=0∨u % 1024=2) :
    zqe [.agg (wvs st).toArray,.slice (some (mkA f u o)) len cap] s=some (.agg (wvs (comp kt st bs)).toArray,{ s with n:=s.n+7,rd:=ins s.lim (ins s.lim s.rd f) 1 }):=by
  show zzd s (wvs st).toArray.toList (mkA f u o) u len cap _ _=_;rw [hr,hk];show zsp s (mkA f u o) u len cap (zjs (wvs st).toArray.toList) (zm2 ((cs.drop o).take 64)) (zjs (wvs kt))=_;rw [List.toList_toArray,hc,zra,zra,z0j];unfold zsp
  have hok:zz8 s (mkA f u o) u len cap (st.map UInt32.toNat) (bs.map UInt8.toNat) (kt.map UInt32.toNat)=true:=by
    unfold zz8;rw [List.length_map,List.length_map,List.length_map,zd1 hlen,zcl hcap,zgz hcap2,zd1 hs,zd1 hb,zd1 hkt,zdc,zgz hf,zgz hG];rcases hu with hu|hu
    · rw [zd1 hu];rfl
    · rw [zd1 hu];simp
  simp only [hok,cond_true,ybh];rw [← yb6 kt st bs hs hkt,z34];rfl
theorem ya2 {args:List Value} {s:CS} {r:Value×CS} (h:zqe args s=some r):∃ (kt st:List UInt32) (bs:List UInt8) (f u o len cap:Nat) (cs:List Value),args=[.agg (wvs st).toArray,.slice (some (mkA f u o)) len cap]∧r=(.agg (wvs (comp kt st bs)).toArray,{ s with n:=s.n+7,rd:=ins s.lim (ins s.lim s.rd f) 1 })
    ∧ zat (zag s.obj f).rows u=some cs∧(cs.drop o).take 64=bvs bs∧zat (zag s.obj 1).rows (1*1024)=some (wvs kt)∧st.length=8∧kt.length=64∧bs.length=64∧len=64∧len≤cap∧cap<1000000000∧f<s.n∧1<s.n∧(u % 1024=0∨u % 1024=2):=by
  unfold zqe at h;split at h
  · rename_i ws f o u len cap
    cases h1:zat (zag s.obj f).rows u with
    |none=>rw [h1] at h;simp [zzd] at h
    |some cs =>
      cases h2:zat (zag s.obj 1).rows (1*1024) with
      |none=>rw [h1,h2] at h;simp [zzd] at h
      |some kc =>
        rw [h1,h2] at h;simp only [zzd] at h
        cases h3:zjs ws.toList with
        |none=>rw [h3] at h;simp [zsp] at h
        |some sN =>
          cases h4:zm2 ((cs.drop o).take 64) with
          |none=>rw [h3,h4] at h;simp [zsp] at h
          |some bN =>
            cases h5:zjs kc with
            |none=>rw [h3,h4,h5] at h;simp [zsp] at h
            |some kN =>
              rw [h3,h4,h5] at h;simp only [zsp,ybh] at h
              cases h6:zz8 s ⟨f,o,some u⟩ u len cap sN bN kN with
              |false=>rw [h6] at h;simp at h
              |true =>
                rw [h6] at h;simp only [cond_true,Option.some.injEq] at h;obtain ⟨st,e1,rfl⟩:=zom h3;obtain ⟨bs,e2,rfl⟩:=zve h4;obtain ⟨kt,rfl,rfl⟩:=zom h5;unfold zz8 at h6;simp only [Bool.and_eq_true,Bool.or_eq_true,List.length_map] at h6;obtain ⟨a1,a2,a3,a4,a5,a6,a7,a8,a9⟩:=h6;have b4:=Nat.eq_of_beq_eq_true a4;have b6:=Nat.eq_of_beq_eq_true a6;refine ⟨kt,st,bs,f,u,o,len,cap,cs,?_,?_,h1,e2,rfl,b4,b6,Nat.eq_of_beq_eq_true a5,Nat.eq_of_beq_eq_true a1,zax.1 a2,zai.1 a3,zai.1 a7,zai.1 a8,a9.imp Nat.eq_of_beq_eq_true Nat.eq_of_beq_eq_true⟩
                · rw [← e1];rfl
                · rw [← h,← yb6 kt st bs b4 b6,z34]
  · simp at h
theorem yeb:AxOk Tryd.prog GG 66 zqe:=by
  refine ax_of (L:=LL) (ax:=fun _=>none) z97 zww zne.none rfl (fn66 fun _=>none) rfl ?_;intro args s v s' h hI;obtain ⟨kt,st,bs,f,u,o,len,cap,cs,rfl,hr,h1,h2,h3,h4,h5,h6,h7,h8,h9,h10,h11,h12⟩:=ya2 h;simp only [Prod.mk.injEq] at hr;obtain ⟨rfl,rfl⟩:=hr
  have hb:BSl (zag s.obj) s.n f u o len cap bs:=by
    refine ⟨h10,h12,h8,by omega,cs,h1,fun i hi=>?_⟩;have:(bvs bs)[i]?=some (vb (bs.getD i 0)):=zxg (by omega);rw [← h2,List.getElem?_take_of_lt (by omega),List.getElem?_drop] at this;exact this
  obtain ⟨n',g',rd',e1,k1,k2,k3,k4⟩:=yen (fun _=>none) (fun f _=>rfl) rfl kt st bs f u o len cap s.n (zag s.obj) s.lim s.rd s.wr hI.lim hb h7 h9 h4 h5 h11 h3;refine ⟨?_,rfl,rfl,rfl,?_,Nat.le_add_right _ _,St n' g' s.lim rd' s.wr,e1,k2,?_,fun x hx=>hx,fun f hf=>k3 f hf⟩
  · show (wvs (comp kt st bs)).toArray.toList.all (za3 2)=true;rw [List.toList_toArray];exact z67 _
  · intro x hx;exact zjo (zjo hx)
  · intro x hx;rcases k4 x hx with hx|⟨rfl|rfl,hq⟩
    · exact zjo (zjo hx)
    · exact zjo (yf1 hq)
    · exact yf1 hq
end
section
open Go Go.RowKit
def KK:List Nat:=[0x428a2f98,0x71374491,0xb5c0fbcf,0xe9b5dba5,0x3956c25b,0x59f111f1,0x923f82a4,0xab1c5ed5,
  0xd807aa98,0x12835b01,0x243185be,0x550c7dc3,0x72be5d74,0x80deb1fe,0x9bdc06a7,0xc19bf174,
  0xe49b69c1,0xefbe4786,0x0fc19dc6,0x240ca1cc,0x2de92c6f,0x4a7484aa,0x5cb0a9dc,0x76f988da,
  0x983e5152,0xa831c66d,0xb00327c8,0xbf597fc7,0xc6e00bf3,0xd5a79147,0x06ca6351,0x14292967,
  0x27b70a85,0x2e1b2138,0x4d2c6dfc,0x53380d13,0x650a7354,0x766a0abb,0x81c2c92e,0x92722c85,
  0xa2bfe8a1,0xa81a664b,0xc24b8b70,0xc76c51a3,0xd192e819,0xd6990624,0xf40e3585,0x106aa070,
  0x19a4c116,0x1e376c08,0x2748774c,0x34b0bcb5,0x391c0cb3,0x4ed8aa4a,0x5b9cca4f,0x682e6ff3,
  0x748f82ee,0x78a5636f,0x84c87814,0x8cc70208,0x90befffa,0xa4506ceb,0xbef9a3f7,0xc67178f2]
def KW:List UInt32:=KK.map UInt32.ofNat
noncomputable def zk2:List Value:=KK.map fun (n:Nat)=>Value.int .u32 (Int.ofNat n)
noncomputable def axC1:Axs:=z61 66 zqe fun _=>none
theorem yi2:zne Tryd.prog GG axC1:=zne.none.add yeb
end
section
open Go Go.RowKit
set_option maxRecDepth 100000
theorem zsj:zk2=wvs KW:=by kernel_rfl
theorem yg5:KW.length=64:=by kernel_rfl
theorem zpz:zk2.all (za3 3)=true:=by kernel_rfl
section
variable {P:Program} {w:World} {H:Type} {enc:TypeId×Value→H} {base:Nat} {spare:Nat→Bool} {held:Bool}
theorem zur {t e : TypeId} {n : Nat} {k : IntKind} (ht : P.underlying t = some (.array n e)) (he : P.underlying e = some (.int k)) (hc : P.cellsOf e = 1) {fuel : Nat} {cs : List Value} {L : List Int} {q : List MemPlace} (h : DataW.trod enc P w base spare held fuel t cs = some (.agg (L.map fun x => .lit (.int k x)), q)) (hL : L.length = n) :
    ∀ (j:Nat) (x:Int),L[j]?=some x→cs[j]?=some (.int k x):=by
  intro j x hx;obtain ⟨xs,m,rfl,hx1,hlen,hn,hel⟩:=DataW.trod_array ht h
  have hj:j<n:=by
    have:=(List.getElem?_eq_some_iff.1 hx).1;omega
  have h0:=hel j hj;rw [hc,Nat.mul_one] at h0;have hxs:xs[j]?=some (xs[j]'(by omega)):=List.getElem?_eq_getElem (by omega);rw [hxs] at h0;obtain ⟨z,e1,e2,_⟩:=DataW.trod_int he h0;simp only [Prod.mk.injEq,DataW.agg.injEq] at hx1;have hm:(L.map fun x=>DataW.lit (H:=H) (.int k x))[j]?=(xs.map (·.1))[j]?:=by rw [hx1.1]
  rw [List.getElem?_map,List.getElem?_map,hx,hxs,e2] at hm;simp only [Option.map_some,Option.some.injEq,DataW.lit.injEq,Lit.int.injEq,true_and] at hm;subst hm;have:(cs.drop j)[0]?=((cs.drop j).take 1)[0]?:=by rw [List.getElem?_take_of_lt (by omega)]
  rw [e1] at this;simpa using this
end
def KI:List Int:=KK.map fun (n:Nat)=>(n:Int)
theorem zut (j:Nat) (u:Value) (h:zk2[j]?=some u):∃ x,KI[j]?=some x∧u=.int .u32 x:=by
  unfold zk2 at h;unfold KI;rw [List.getElem?_map] at h ⊢
  cases hk:KK[j]? with
  |none=>rw [hk] at h;simp at h
  |some n=>rw [hk] at h;simp only [Option.map_some,Option.some.injEq] at h;exact ⟨(n:Int),rfl,h.symm⟩
theorem ykm : Tryd.prog.globalNamed "interlace/hash.constants" = some 1 := by kernel_rfl
theorem g_ref : Tryd.prog.globalNamed "interlace/interlaceref02.constants" = some 0 := by kernel_rfl
theorem yhd:(Tryd.prog.globals[1]?).map (·.type)=some 90:=by kernel_rfl
theorem yjc:(Tryd.prog.globals[0]?).map (·.type)=some 90:=by kernel_rfl
end
section
open Go Go.RowKit
def IVW:List UInt32:=[1779033703,3144134277,1013904242,2773480762,1359893119,2600822924,528734635,1541459225]
def za7 (M:List UInt8):Nat→List UInt32
  |0=>IVW
  |i+1=>comp KW (za7 M i) ((M.drop (64*i)).take 64)
theorem zmp (M:List UInt8):∀ i,(za7 M i).length=8
  |0=>rfl
  |i+1=>by rw [za7,z5g,zmp M i]
theorem zpe (M p:List UInt8):∀ i,64*i≤M.length→za7 (M++p) i=za7 M i
  |0,_=>rfl
  |i+1,h=>by
    rw [za7,za7,zpe M p i (by omega)];congr 1;rw [List.drop_append_of_le_length (by omega),List.take_append_of_le_length (by rw [List.length_drop];omega)]
structure Repr (M:List UInt8) (st:List UInt32) (blk:List UInt8):Prop where
  eq:st=za7 M (M.length / 64)
  size:blk.length=64
  rest:blk.take (M.length % 64)=M.drop (64*(M.length / 64))
theorem Repr.start (blk:List UInt8) (h:blk.length=64):Repr [] IVW blk:=⟨rfl,h,rfl⟩
theorem Repr.len {M:List UInt8} {st:List UInt32} {blk:List UInt8} (h:Repr M st blk):st.length=8:=by rw [h.eq];exact zmp _ _
def lay (blk:List UInt8) (at':Nat) (p:List UInt8):List UInt8:=blk.take at'++p++blk.drop (at'+p.length)
theorem zsi {blk p:List UInt8} {a:Nat} (h:a+p.length≤blk.length):(lay blk a p).length=blk.length:=by
  unfold lay;rw [List.length_append,List.length_append,List.length_take,List.length_drop];omega
theorem Repr.more {M p:List UInt8} {st:List UInt32} {blk:List UInt8} (h:Repr M st blk) (hp:M.length % 64+p.length<64):Repr (M++p) st (lay blk (M.length % 64) p):=by
  have hb:=h.size;have hl:(M++p).length=M.length+p.length:=List.length_append;have hd:(M++p).length / 64=M.length / 64:=by rw [hl];omega
  have hm:(M++p).length % 64=M.length % 64+p.length:=by rw [hl];omega
  refine ⟨?_,by rw [zsi (by omega),hb],?_⟩
  · rw [hd,zpe M p _ (by omega)];exact h.eq
  · rw [hd,hm];have ht:(blk.take (M.length % 64)).length=M.length % 64:=by rw [List.length_take];omega
    unfold lay;rw [List.take_append_of_le_length (by rw [List.length_append,ht];omega),List.take_of_length_le (by rw [List.length_append,ht];omega),h.rest,List.drop_append_of_le_length (by omega)]
theorem Repr.full {M p:List UInt8} {st:List UInt32} {blk:List UInt8} (h:Repr M st blk) (hp:M.length % 64+p.length=64):Repr (M++p) (comp KW st (lay blk (M.length % 64) p)) (lay blk (M.length % 64) p):=by
  have hb:=h.size;have hl:(M++p).length=M.length+p.length:=List.length_append;have hd:(M++p).length / 64=M.length / 64+1:=by rw [hl];omega
  have hm:(M++p).length % 64=0:=by rw [hl];omega
  have hlay:lay blk (M.length % 64) p=((M++p).drop (64*(M.length / 64))).take 64:=by
    unfold lay;rw [hp,List.drop_of_length_le (by omega),List.append_nil,h.rest,List.drop_append_of_le_length (by omega),List.take_of_length_le];rw [List.length_append,List.length_drop];omega
  refine ⟨?_,by rw [zsi (by omega),hb],?_⟩
  · rw [hd,za7,zpe M p _ (by omega),← h.eq,hlay]
  · rw [hm,hd,List.take_zero,List.drop_of_length_le (by rw [hl];omega)]
def zgb (n:Nat):Nat:=(119 - n % 64) % 64
def lenB (n:Nat) (i:Nat):UInt8:=(yjs (UInt64.ofNat (8*n)) (56 - 8*i)).toUInt8
def lens (n:Nat):Nat→List UInt8
  |0=>[]
  |i+1=>lens n i++[lenB n i]
def padB (n:Nat):List UInt8:=128 :: List.replicate (zgb n) 0++lens n 8
theorem z39 (n:Nat):∀ i,(lens n i).length=i
  |0=>rfl
  |i+1=>by rw [lens,List.length_append,z39 n i];rfl
theorem znt (n:Nat):(padB n).length=zgb n+9:=by unfold padB;simp [z39]
theorem yhy (M:List UInt8):(M++padB M.length).length % 64=0:=by
  rw [List.length_append,znt];unfold zgb;omega
def outB (st:List UInt32) (i:Nat):UInt8:=(zx1 (st.getD (i / 4) 0) (24 - 8*(i % 4))).toUInt8
def outs (st:List UInt32):Nat→List UInt8
  |0=>[]
  |i+1=>outs st i++[outB st i]
theorem zme (st:List UInt32):∀ i,(outs st i).length=i
  |0=>rfl
  |i+1=>by rw [outs,List.length_append,zme st i];rfl
def shaW (M:List UInt8):List UInt32:=za7 (M++padB M.length) ((M++padB M.length).length / 64)
def sha (M:List UInt8):List UInt8:=outs (shaW M) 32
theorem zd3 (M:List UInt8):(sha M).length=32:=zme _ _
def zaq (st:List UInt32) (blk:List UInt8) (c:Nat):List Value:=wvs st++(bvs blk++[.int .u64 (c:Int)])
section
variable {st:List UInt32} {blk:List UInt8} {c:Nat} (h8:st.length=8) (h64:blk.length=64)
include h8 h64
theorem za8:(zaq st blk c).length=73:=by unfold zaq;simp [zav,zam,h8,h64]
theorem ycb:((zaq st blk c).drop 0).take 8=wvs st:=by
  unfold zaq;rw [List.drop_zero,List.take_append_of_le_length (by rw [zav];omega),List.take_of_length_le (by rw [zav];omega)]
theorem z6x:((zaq st blk c).drop 8).take 64=bvs blk:=by
  unfold zaq;rw [List.drop_append_of_le_length (by rw [zav];omega),List.drop_of_length_le (by rw [zav];omega),List.nil_append,List.take_append_of_le_length (by rw [zam];omega),List.take_of_length_le (by rw [zam];omega)]
theorem z18 {i:Nat} (hi:i<8):(zaq st blk c)[i]?=some (vw (st.getD i 0)):=by
  unfold zaq;rw [List.getElem?_append_left (by rw [zav];omega)];exact zdi (by omega)
theorem zml:(zaq st blk c)[72]?=some (.int .u64 (c:Int)):=by
  unfold zaq;rw [List.getElem?_append_right (by rw [zav];omega),List.getElem?_append_right (by rw [zam,zav];omega),zav,zam,h8,h64];rfl
theorem z19 {c':Nat}:(zaq st blk c).set 72 (.int .u64 (c':Int))=zaq st blk c':=by
  unfold zaq;rw [List.set_append_right _ _ (by rw [zav];omega),List.set_append_right _ _ (by rw [zam,zav];omega),zav,zam,h8,h64];rfl
theorem z6w {a:Nat} {p:List UInt8} (hp:a+p.length≤64):splice (zaq st blk c) (8+a) (bvs p)=zaq st (lay blk a p) c:=by
  unfold splice zaq lay
  have e1:(wvs st++(bvs blk++[Value.int .u64 (c:Int)])).take (8+a)=wvs st++bvs (blk.take a):=by
    rw [List.take_append,List.take_of_length_le (by rw [zav];omega),zav,h8,show 8+a - 8=a by omega,List.take_append_of_le_length (by rw [zam];omega),zxf]
  have e2:(wvs st++(bvs blk++[Value.int .u64 (c:Int)])).drop (8+a+(bvs p).length)=bvs (blk.drop (a+p.length))++[.int .u64 (c:Int)]:=by
    rw [zam,List.drop_append,List.drop_of_length_le (by rw [zav];omega),List.nil_append,zav,h8,show 8+a+p.length - 8=a+p.length by omega,List.drop_append_of_le_length (by rw [zam];omega),z5z]
  rw [e1,e2,zd7,zd7];simp only [List.append_assoc]
theorem z0b {st':List UInt32} (h':st'.length=8):splice (zaq st blk c) 0 (wvs st')=zaq st' blk c:=by
  unfold splice zaq;rw [List.take_zero,List.nil_append,Nat.zero_add,zav,h',List.drop_append_of_le_length (by rw [zav];omega),List.drop_of_length_le (by rw [zav];omega),List.nil_append]
end
theorem zj5 (st:List UInt32) (blk:List UInt8) (c:Nat):(zaq st blk c).all oneC=true:=by
  unfold zaq;rw [List.all_append,List.all_append,zin,zfa];rfl
def strV (st:List UInt32) (blk:List UInt8) (c:Nat):Value:=.agg (zaq st blk c).toArray
end
section
open Go Go.RowKit
set_option maxRecDepth 100000
noncomputable def tiS:TI:=((EE fun _=>none).ti.at 72).getD ⟨.bool,0,0,[]⟩
theorem zi6 (ax:Axs):(EE ax).ti.at 72=some ⟨tiS.desc,73,tiS.bytes,zaq (List.replicate 8 0) (List.replicate 64 0) 0⟩:=by kernel_rfl
theorem zoo:aggT tiS.desc=true:=by kernel_rfl
theorem fa0 (ax:Axs) (s:CS) (f u off:Nat):zce (EE ax) s 72 0 (.pointer (some (mkA f u off)))=some (.pointer (some (mkA f u (off+0))),s):=by kernel_rfl
theorem fa1 (ax:Axs) (s:CS) (f u off:Nat):zce (EE ax) s 72 1 (.pointer (some (mkA f u off)))=some (.pointer (some (mkA f u (off+8))),s):=by kernel_rfl
theorem fa2 (ax:Axs) (s:CS) (f u off:Nat):zce (EE ax) s 72 2 (.pointer (some (mkA f u off)))=some (.pointer (some (mkA f u (off+72))),s):=by kernel_rfl
theorem bld8 (ax:Axs) (s:CS) (fr:Fr):zdn (EE ax) s (zeu fr) 69 [(0,.const (.int .u32 1779033703)),(1,.const (.int .u32 3144134277)),(2,.const (.int .u32 1013904242)),(3,.const (.int .u32 2773480762)),(4,.const (.int .u32 1359893119)),(5,.const (.int .u32 2600822924)),(6,.const (.int .u32 528734635)),(7,.const (.int .u32 1541459225))]=some (.agg (wvs IVW).toArray,s):=by kernel_rfl
theorem bldS (ax:Axs) (s:CS) (ρ:Operand→Value) (x:Operand) (hx:ρ x=.agg (wvs IVW).toArray):zdn (EE ax) s ρ 72 [(0,x)]=some (strV IVW (List.replicate 64 0) 0,s):=by
 have h:zdn (EE ax) s (fun _=>.agg (wvs IVW).toArray) 72 [(0,x)]=some (strV IVW (List.replicate 64 0) 0,s):=by kernel_rfl
 rw [← h];unfold zdn;simp only [zd4,hx]
def RG (x:Nat):Prop:=x=1
theorem zog (ax:Axs) (hp:zi5 ax) (n:Nat) (g:Nat→Fam) (lim:Nat) (rd wr:List Nat) (hl:lim≤n) :
    Ret Tryd.prog (EE ax) 52 [] n g lim rd wr (fun _=>False) (strV IVW (List.replicate 64 0) 0):=by
  have hax:ax 52=none:=hp _ (by decide);have S1:=zen (n:=n+1) (lim:=lim) (rd:=rd) (wr:=wr) (zi6 ax) (g:=fupd g n ⟨false,[(n*1024+0,zaq (List.replicate 8 0) (List.replicate 64 0) 0)],none⟩) (f:=n) (u:=n*1024+0) (vs:=zaq IVW (List.replicate 64 0) 0) (zaf _ _ _) (za8 rfl rfl) (za8 rfl rfl) (zj5 _ _ _);rw [zcp,zau (f:=n) _ (by omega)] at S1;refine Ret.of (fn:=Tryd.f52) 3 hax (fn52 ax) rfl Tryd.ntmps52 (by simp) ?_;simp only [za6];repeat apply W.seq
  apply W.region
  · simp (disch:=first|omega | (simp (disch:=omega) [wE];done) | (apply zac;omega) | (apply zad;omega)) only [ti3,ti47,ti5,ti68,ti63,za9 (zi6 ax),wB0,wB1,wC];with_reducible rfl
  simp only [onN,onB];repeat apply W.seq
  apply W.region
  · simp (disch:=first|omega | (simp (disch:=omega) [wE];done) | (apply zac;omega) | (apply zad;omega)|rfl) only [ti3,ti47,ti5,ti68,ti63,bld8 ax,bldS ax,strV,zas,S1,wB0,wB1,wC];with_reducible rfl
  simp only [onN,onB];apply W.ret;refine ⟨.inr rfl,n+1,fupd g n ⟨false,[(n*1024+0,zaq IVW (List.replicate 64 0) 0)],none⟩,rd,?_,by omega,fun i hi=>zae _ _ _ _ (by omega),fun x hx=>.inl hx⟩;have L2:=ze5 (n:=n+1) (lim:=lim) (rd:=rd) (wr:=wr) (zi6 ax) zoo (g:=fupd g n ⟨false,[(n*1024+0,zaq IVW (List.replicate 64 0) 0)],none⟩) (f:=n) (u:=n*1024+0) (cs:=zaq IVW (List.replicate 64 0) 0) (by rw [zaf];exact zah) (za8 rfl rfl);rw [zau (f:=n) _ (by omega)] at L2;simp (disch:=first|omega | (simp (disch:=omega) only [get_of,zaa,zab];done)) only [ze0 (ad:=mkA n (n*1024+0) 0),zgr,Tryd.results52,L2,zb5,zcn];rfl
theorem zcb (b:ByteArray):b.data.toList.length=b.size:=by simp
theorem z41 (b:ByteArray) (k:Nat):(b.extract k b.size).data.toList=b.data.toList.drop k:=by
 simp only [ByteArray.data_extract,Array.toList_extract,List.extract_eq_take_drop];exact List.take_of_length_le (by simp)
theorem yeh (b:ByteArray) (k:Nat) (h:k≤b.size):(b.extract k b.size).size=b.size - k:=by
 rw [← zcb,z41,List.length_drop,zcb]
set_option maxHeartbeats 4000000 in
theorem zl3 (ax:Axs) (hp:zi5 ax) (hC:ax 66=some zqe) (M:List UInt8) (st:List UInt32) (blk:List UInt8) (hR:Repr M st blk) (text:ByteArray) (hM:M.length+text.size<1000000000000) (n:Nat) (g:Nat→Fam) (lim:Nat) (rd wr:List Nat) (hl:lim≤n) (hG:1<n) (hk:zat (g 1).rows (1*1024)=some (wvs KW)) :
    ∃ st' blk',Repr (M++text.data.toList) st' blk'∧Ret Tryd.prog (EE ax) 53 [strV st blk M.length,.string text] n g lim rd wr RG (strV st' blk' (M++text.data.toList).length):=by
  have hax:ax 53=none:=hp _ (by decide)
  suffices hh:∃ v s2,za0 Tryd.prog (EE ax) 53 [strV st blk M.length,.string text] (St n g lim rd wr)=some (v,s2)∧∃ st' blk',Repr (M++text.data.toList) st' blk'∧v=strV st' blk' (M++text.data.toList).length∧∃ n' g' rd',s2=St n' g' lim rd' wr∧n≤n'∧(∀ i,i<n→g' i=g i)∧(∀ x,x∈rd'→x∈rd∨(RG x∧x<lim)) by
    obtain ⟨v,s2,h1,st',blk',h2,rfl,n',g',rd',rfl,h3⟩:=hh;exact ⟨st',blk',h2,n',g',rd',h1,h3⟩
  refine zf1 (fn:=Tryd.f53) 38 hax (fn53 ax) rfl Tryd.ntmps53 (by simp) ?_;simp (disch:=omega) only [zaz,za6,Nat.reduceAdd];repeat apply W.seq
  apply W.region
  · simp (disch:=first|omega | (simp (disch:=omega) [wE];done) | (apply zac;omega) | (apply zad;omega)) only [ti3,ti47,ti5,ti68,ti63,za9 (zi6 ax),z50,strV,zas,wB0,wB1,wC];with_reducible rfl
  simp only [onN,onB];repeat apply W.seq
  apply W.block;refine W.loop (fun m fr s=>∃ (done:List UInt8) (rest:ByteArray) (st1:List UInt32) (blk1:List UInt8) (h:Nat→Value) (n':Nat) (g':Nat→Fam) (rd':List Nat),text.data.toList=done++rest.data.toList∧m=rest.size∧Repr (M++done) st1 blk1∧fr=Fr.of 38 h∧s=St n' g' lim rd' wr∧n+2≤n'∧h 1=.string rest∧h 2=.pointer (some (mkA n (n*1024+0) 0))∧h 4=.pointer (some (mkA (n+1) ((n+1)*1024+0) 0))∧g' n=⟨false,[(n*1024+0,zaq st1 blk1 (M++done).length)],none⟩∧g' (n+1)=⟨false,[((n+1)*1024+0,zaq (List.replicate 8 0) (List.replicate 64 0) 0)],none⟩∧(∀ i,i<n→g' i=g i)∧(∀ x,x∈rd'→x∈rd∨(RG x∧x<lim))) ?_ text.size _ _ ⟨[],text,st,blk,_,n+1+1,_,rd,rfl,rfl,by rw [List.append_nil];exact hR,rfl,rfl,by omega,?_,?_,?_,?_,?_,?_,fun x hx=>.inl hx⟩
  case refine_2=>simp (disch:=omega) only [zaa,zab]
  case refine_3=>simp (disch:=omega) only [zaa,zab]
  case refine_4=>simp (disch:=omega) only [zaa,zab]
  case refine_5=>rw [zae _ _ _ _ (by omega),zaf,List.append_nil]
  case refine_6=>rw [zaf]
  case refine_7=>intro i hi;rw [zae _ _ _ _ (by omega),zae _ _ _ _ (by omega)]
  rintro m fr s ⟨done,rest,st1,blk1,h,n',g',rd',htx,rfl,hR1,rfl,rfl,hn,h1,h2,h4,p1,p2,p0,hrd⟩
  have hsz:text.size=done.length+rest.size:=by
    have:=congrArg List.length htx;rw [List.length_append,zcb,zcb] at this;exact this
  have hC1:(M++done).length=M.length+done.length:=List.length_append;have l8:=hR1.len;have l64:=hR1.size;by_cases he:rest=⟨#[]⟩
  · subst he;have x1:decide ((ByteArray.mk #[])=ByteArray.mk #[])=true:=decide_eq_true rfl;repeat apply W.seq
    apply W.region
    · simp (disch:=first|omega | (simp (disch:=omega) [wE,h1];done) | (apply zac;omega) | (apply zad;omega)) only [ti3,ti47,ti5,ti68,ti63,h1,yfq,x1,Bool.not_true,wB0,wB1,wC];with_reducible rfl
    simp only [onN,onB];repeat apply W.seq
    refine W.cond (b:=false) ?_ ?_
    · simp (disch:=omega) only [zaw,get_of,zaa,zab,Bool.not_true,decide_true,decide_false]
    simp only [cond_true,cond_false];apply W.exit;simp only [onN,onB,Nat.beq_refl,cond_true,cond_false,zmt];have L1:=ze5 (n:=n') (lim:=lim) (rd:=rd') (wr:=wr) (zi6 ax) zoo (g:=g') (f:=n) (u:=n*1024+0) (cs:=zaq st1 blk1 (M++done).length) (by rw [p1];exact zah) (za8 l8 l64);rw [zau (f:=n) _ (by omega)] at L1;have S1:=zen (n:=n') (lim:=lim) (rd:=rd') (wr:=wr) (zi6 ax) (f:=n+1) (u:=(n+1)*1024+0) (vs:=zaq st1 blk1 (M++done).length) p2 (za8 l8 l64) (za8 rfl rfl) (zj5 _ _ _);rw [zau (f:=n+1) _ (by omega)] at S1;repeat apply W.seq
    apply W.region
    · simp (disch:=first|omega | (simp (disch:=omega) [wE,h2,h4];done) | (apply zac;omega) | (apply zad;omega)) only [ti3,ti47,ti5,ti68,ti63,h2,h4,L1,zas,S1,wB0,wB1,wC];with_reducible rfl
    simp only [onN,onB];apply W.ret;have hd:M++text.data.toList=M++done:=by rw [htx];simp
    refine ⟨.inr rfl,[strV st1 blk1 (M++done).length],St n' (fupd g' (n+1) ⟨false,[((n+1)*1024+0,zaq st1 blk1 (M++done).length)],none⟩) lim rd' wr,?_,st1,blk1,by rw [hd];exact hR1,by rw [hd];rfl,n',_,rd',rfl,by omega,fun i hi=>by rw [zae _ _ _ _ (by omega)];exact p0 i hi,hrd⟩;have L2:=ze5 (n:=n') (lim:=lim) (rd:=rd') (wr:=wr) (zi6 ax) zoo (g:=fupd g' (n+1) ⟨false,[((n+1)*1024+0,zaq st1 blk1 (M++done).length)],none⟩) (f:=n+1) (u:=(n+1)*1024+0) (cs:=zaq st1 blk1 (M++done).length) (by rw [zaf];exact zah) (za8 l8 l64);rw [zau (f:=n+1) _ (by omega)] at L2;simp (disch:=first|omega | (simp (disch:=omega) only [get_of,zaa,zab,h4];done)) only [ze0 (ad:=mkA (n+1) ((n+1)*1024+0) 0),zgr,Tryd.results53,L2,zb5,zcn];rfl
  have x1:decide (rest=ByteArray.mk #[])=false:=decide_eq_false he
  have hr0:rest.size≠0:=by
    intro h0;apply he;apply ByteArray.ext;apply Array.toList_inj.1;have hz:rest.data.toList=[]:=List.eq_nil_of_length_eq_zero (by rw [zcb];exact h0);rw [hz]
  repeat apply W.seq
  apply W.region
  · simp (disch:=first|omega | (simp (disch:=omega) [wE,h1];done) | (apply zac;omega) | (apply zad;omega)) only [ti3,ti47,ti5,ti68,ti63,h1,yfq,x1,Bool.not_false,wB0,wB1,wC];with_reducible rfl
  simp only [onN,onB];repeat apply W.seq
  refine W.cond (b:=true) ?_ ?_
  · simp (disch:=omega) only [zaw,get_of,zaa,zab,Bool.not_false,decide_true,decide_false]
  simp only [cond_true,cond_false];apply W.skip;simp only [onN,onB];generalize hN:M++done=N at *;generalize hat:N.length % 64=at' at *;have hat64:at'<64:=by omega
  have IG:=fun l=>zau (m:=lim) (f:=n) l (by omega);have L1:=zhq (n:=n') (lim:=lim) (rd:=rd') (wr:=wr) (ti63 ax) rfl (g:=g') (f:=n) (u:=n*1024+0) (off:=0+72) (cs:=zaq st1 blk1 N.length) (by rw [p1];exact zah) (zml l8 l64);have cm:(N.length:Int) % 64=((at':Nat):Int):=by omega
  have cw:IntKind.i64.wrap ((at':Nat):Int)=((at':Nat):Int):=zac (by omega);repeat apply W.seq
  apply W.block;repeat apply W.seq
  apply W.region
  · simp (disch:=first|omega | (simp (disch:=omega) [wE,h2];done) | (apply zac;omega) | (apply zad;omega)) only [ti3,ti47,ti5,ti68,ti63,h2,fa2 ax,L1,IG,zui,cm,zak,ti3,ti63,zho,cw,wB0,wB1,wC];with_reducible rfl
  simp only [onN,onB];generalize hkk:min rest.size (64 - at')=k at *;have hk0:k≠0:=by omega
  have bd1:=zq4 (len:=64) (cap:=64) (za5 .i64 at') (by omega) (by omega);have CP:=z5b (lim:=lim) (rd:=rd') (wr:=wr) (n:=n') (zms ax) rfl (f:=n) (u:=n*1024+0) (off:=0+8+at') (len:=64 - at') (cap:=64 - at') (b:=rest) p1 (by rw [hkk];exact hk0) (by rw [hkk,za8 l8 l64];omega);have hpl:(rest.data.toList.take k).length=k:=by rw [List.length_take,zcb];omega
  rw [hkk,IG,show 0+8+at'=8+at' by omega,z6w l8 l64 (by rw [hpl];omega)] at CP;repeat apply W.seq
  apply W.region
  · simp (disch:=first|omega | (simp (disch:=omega) [wE,h1,h2];done) | (apply zac;omega) | (apply zad;omega)) only [ti3,ti47,ti5,ti68,ti63,h1,h2,fa1 ax,zdm (ti70 ax) (ti5 ax) (by omega) bd1 (show (n*1024+0) % 1024=0 by omega),Nat.mul_one,show 0+8+at'=8+at' by omega,z1n,CP,wB0,wB1,wC];with_reducible rfl
  simp only [onN,onB];generalize hpp:rest.data.toList.take k=p at *;have bd2:=zq4 (len:=rest.size) (cap:=rest.size) (za5 .i64 k) (by omega) (Nat.le_refl _);repeat apply W.seq
  apply W.region
  · simp (disch:=first|omega | (simp (disch:=omega) [wE,h1];done) | (apply zac;omega) | (apply zad;omega)) only [ti3,ti47,ti5,ti68,ti63,h1,z8f (ti9 ax) bd2,wB0,wB1,wC];with_reducible rfl
  simp only [onN,onB];have lb1:(lay blk1 at' p).length=64:=by rw [zsi (by omega)];exact l64
  generalize hg2:fupd g' n ⟨false,[(n*1024+0,zaq st1 (lay blk1 at' p) N.length)],none⟩=g2;have r1:g2 n=⟨false,[(n*1024+0,zaq st1 (lay blk1 at' p) N.length)],none⟩:=by rw [← hg2,zaf]
  have r2:g2 (n+1)=⟨false,[((n+1)*1024+0,zaq (List.replicate 8 0) (List.replicate 64 0) 0)],none⟩:=by rw [← hg2,zae _ _ _ _ (by omega)];exact p2
  have r0:∀ i,i<n→g2 i=g i:=fun i hi=>by rw [← hg2,zae _ _ _ _ (by omega)];exact p0 i hi
  clear hg2 CP p1 p2 p0 L1;have L2:=zhq (n:=n') (lim:=lim) (rd:=rd') (wr:=wr) (ti63 ax) rfl (g:=g2) (f:=n) (u:=n*1024+0) (off:=0+72) (cs:=zaq st1 (lay blk1 at' p) N.length) (by rw [r1];exact zah) (zml l8 lb1);have S2:=zpl (n:=n') (lim:=lim) (rd:=rd') (wr:=wr) (ti63 ax) (f:=n) (u:=n*1024+0) (off:=0+72) (v:=.int .u64 (((N.length+k:Nat):Nat):Int)) r1 (by rw [za8 l8 lb1];omega) rfl;rw [IG,show 0+72=72 by omega,z19 l8 lb1] at S2;have cu:IntKind.u64.wrap ((k:Nat):Int)=((k:Nat):Int):=zad (by omega);have ca:(N.length:Int)+((k:Nat):Int)=((N.length+k:Nat):Int):=by omega
  repeat apply W.seq
  apply W.region
  · simp (disch:=first|omega | (simp (disch:=omega) [wE,h2];done) | (apply zac;omega) | (apply zad;omega) | (rw [ca];apply zad;omega)) only [ti3,ti47,ti5,ti68,ti63,h2,fa2 ax,L2,IG,zak,ti3,ti63,zho,cu,zd0,ca,zlz,S2,show 0+72=72 by omega,wB0,wB1,wC];with_reducible rfl
  simp only [onN,onB];generalize hg3:fupd g2 n ⟨false,[(n*1024+0,zaq st1 (lay blk1 at' p) (N.length+k))],none⟩=g3;have q1:g3 n=⟨false,[(n*1024+0,zaq st1 (lay blk1 at' p) (N.length+k))],none⟩:=by rw [← hg3,zaf]
  have q2:g3 (n+1)=⟨false,[((n+1)*1024+0,zaq (List.replicate 8 0) (List.replicate 64 0) 0)],none⟩:=by rw [← hg3,zae _ _ _ _ (by omega)];exact r2
  have q0:∀ i,i<n→g3 i=g i:=fun i hi=>by rw [← hg3,zae _ _ _ _ (by omega)];exact r0 i hi
  clear hg3 r1 r2 r0 L2 S2;have cb:((at':Nat):Int)+((k:Nat):Int)=((at'+k:Nat):Int):=by omega
  have hNp:M++(done++p)=N++p:=by rw [← hN,List.append_assoc]
  have hNl:(N++p).length=N.length+k:=by rw [List.length_append,hpl]
  have hrs:(rest.extract k rest.size).size=rest.size - k:=yeh rest k (by omega)
  have htx':text.data.toList=(done++p)++(rest.extract k rest.size).data.toList:=by
    rw [z41,htx,← hpp,List.append_assoc,List.take_append_drop]
  repeat apply W.seq
  apply W.region
  · simp (disch:=first|omega | (simp (disch:=omega) [wE];done) | (apply zac;omega) | (apply zad;omega) | (rw [cb];apply zac;omega)) only [ti3,ti47,ti5,ti68,ti63,zd0,cb,yj9,wB0,wB1,wC];with_reducible rfl
  simp only [onN,onB];by_cases hfull:at'+k=64
  case neg =>
    have x2:decide (((at'+k:Nat):Int)=64)=false:=decide_eq_false (by omega);repeat apply W.seq
    refine W.cond (b:=false) ?_ ?_
    · simp (disch:=omega) only [zaw,get_of,zaa,zab,x2,decide_true,decide_false]
    simp only [cond_true,cond_false];apply W.skip;simp only [onN,onB];refine ⟨rest.size - k,by omega,done++p,rest.extract k rest.size,st1,lay blk1 at' p,_,n',g3,rd',htx',hrs.symm,?_,rfl,rfl,hn,?_,?_,?_,?_,q2,q0,hrd⟩
    · rw [hNp];have:=Repr.more hR1 (p:=p) (by omega);rw [hat] at this;exact this
    · simp (disch:=omega) only [zaa,zab]
    · simp (disch:=omega) only [zaa,zab,h2]
    · simp (disch:=omega) only [zaa,zab,h4]
    · rw [hNp,hNl];exact q1
  have x2:decide (((at'+k:Nat):Int)=64)=true:=decide_eq_true (by omega);repeat apply W.seq
  refine W.cond (b:=true) ?_ ?_
  · simp (disch:=omega) only [zaw,get_of,zaa,zab,x2,decide_true,decide_false]
  simp only [cond_true,cond_false];have hgk:zat (g3 1).rows (1*1024)=some (wvs KW):=by rw [q0 _ hG];exact hk
  have bd3:=zmo (len:=64) (cap:=64) (Nat.le_refl _);have D1:=zwo (n:=n') (ti69 ax) rfl (g:=g3) (f:=n) (u:=n*1024+0) (off:=0+0) (cs:=zaq st1 (lay blk1 at' p) (N.length+k)) (by rw [q1];exact zah) (by rw [za8 l8 lb1];omega) (by omega);rw [show 0+0=0 by omega,ycb l8 lb1] at D1;have CR:=z5s (P:=Tryd.prog) (Γ:=EE ax) (s:=St n' g3 n' [] []) (show (EE ax).ax 66=some zqe from hC) (yec KW st1 (lay blk1 at' p) n (n*1024+0) 8 64 64 (St n' g3 n' [] []) (zaq st1 (lay blk1 at' p) (N.length+k)) (by show zat (g3 n).rows _=_;rw [q1];exact zah) (z6x l8 lb1) hgk l8 yg5 lb1 rfl (Nat.le_refl _) (by omega) (show n<n' by omega) (show 1<n' by omega) (.inl (by omega)))
  have hq:∀ x,x∈ins n' (ins n' [] n) 1→x<n':=by
    intro x hx;rcases zcf hx with hx|hx
    · rcases zcf hx with hx|hx
      · simp at hx
      · exact hx.2
    · exact hx.2
  have lc:(comp KW st1 (lay blk1 at' p)).length=8:=by rw [z5g];exact l8
  have SP:=yhj (n:=n'+7) (lim:=n'+7) (rd:=[]) (wr:=[]) (ti69 ax) (f:=n) (u:=n*1024+0) (off:=0) (vs:=wvs (comp KW st1 (lay blk1 at' p))) q1 (by rw [zav];exact lc) (by rw [za8 l8 lb1];omega) (zin _);rw [z0b l8 lb1 lc,znz (show n<n'+7 by omega)] at SP;repeat apply W.seq
  apply W.last
  · kernel_rfl
  · simp (disch:=first|omega | (simp (disch:=omega) [wE,h2];done) | (apply zac;omega) | (apply zad;omega)) only [ti3,ti47,ti5,ti68,ti63,zcd,zcs,zbq,zdj,zgl,zdq,zb8,zbn,h2,fa0 ax,fa1 ax,show 0+0=0 by omega,D1,zdm (ti70 ax) (ti5 ax) (by omega) bd3 (show (n*1024+0) % 1024=0 by omega),show 0+8+0*1=8 by omega,show 64 - 0=64 by omega,CR,zfo hq,zas,SP,IG,wB0,wB1,wC];with_reducible rfl
  simp only [onN,onB];refine ⟨rest.size - k,by omega,done++p,rest.extract k rest.size,comp KW st1 (lay blk1 at' p),lay blk1 at' p,_,n'+7,_,_,htx',hrs.symm,?_,rfl,rfl,by omega,?_,?_,?_,?_,?_,?_,?_⟩
  · rw [hNp];have:=Repr.full hR1 (p:=p) (by omega);rw [hat] at this;exact this
  · simp (disch:=omega) only [zaa,zab]
  · simp (disch:=omega) only [zaa,zab,h2]
  · simp (disch:=omega) only [zaa,zab,h4]
  · rw [hNp,hNl,zaf]
  · rw [zae _ _ _ _ (by omega)];exact q2
  · intro i hi;rw [zae _ _ _ _ (by omega)];exact q0 i hi
  · intro x hx;rcases zbv rfl x hx with hx|⟨hx,hxl⟩
    · exact hrd x hx
    · rcases zcf hx with hx|hx
      · rcases zcf hx with hx|hx
        · simp at hx
        · omega
      · exact .inr ⟨hx.1,hxl⟩
end
section
open Go Go.RowKit
set_option maxRecDepth 100000
theorem q_of (c:Nat) (h:8*c<18446744073709551616):Value.int .u64 (8*(c:Int))=vq (UInt64.ofNat (8*c)):=by
 unfold vq;have:(UInt64.ofNat (8*c)).toNat=8*c:=UInt64.toNat_ofNat_of_lt' h;rw [this];first|rfl | (congr 1;omega)
theorem yja (n:Nat) (h:n<256):Value.int .u8 ((n:Nat):Int)=vb (UInt8.ofNat n):=by
 unfold vb;have:(UInt8.ofNat n).toNat=n:=UInt8.toNat_ofNat_of_lt' h;rw [this]
theorem zyn (st:List UInt32) (i:Nat) (h:i<32):(bvs (outs st i)++List.replicate (32 - i) (vb 0)).set i (vb (outB st i))=bvs (outs st (i+1))++List.replicate (32 - (i+1)) (vb 0):=by
 have e:32 - i=(32 - (i+1))+1:=by omega
 rw [e,List.replicate_succ,List.set_append_right _ _ (by rw [zam,zme];omega),zam,zme,Nat.sub_self,List.set_cons_zero,outs,zd7,List.append_assoc];rfl
set_option maxHeartbeats 4000000 in
theorem zql (ax:Axs) (hp:zi5 ax) (hC:ax 66=some zqe) (M:List UInt8) (st:List UInt32) (blk:List UInt8) (hR:Repr M st blk) (hM:M.length<100000000000) (n:Nat) (g:Nat→Fam) (lim:Nat) (rd wr:List Nat) (hl:lim≤n) (hG:1<n) (hk:zat (g 1).rows (1*1024)=some (wvs KW)) :
    Ret Tryd.prog (EE ax) 55 [strV st blk M.length] n g lim rd wr RG (.agg (bvs (sha M)).toArray):=by
  have hax:ax 55=none:=hp _ (by decide);have l8:=hR.len;have l64:=hR.size;refine Ret.of (fn:=Tryd.f55) 58 hax (fn55 ax) rfl Tryd.ntmps55 (by simp) ?_;simp (disch:=omega) only [zaz,za6,Nat.reduceAdd];repeat apply W.seq
  apply W.region
  · simp (disch:=first|omega | (simp (disch:=omega) [wE];done) | (apply zac;omega) | (apply zad;omega)) only [ti3,ti47,ti5,ti68,ti63,za9 (ti76 ax),z50,strV,zas,wB0,wB1,wC];with_reducible rfl
  simp only [onN,onB];have L1:=zhq (n:=n+1+1) (lim:=lim) (rd:=rd) (wr:=wr) (ti63 ax) rfl (g:=fupd (fupd g n ⟨false,[(n*1024+0,zaq st blk M.length)],none⟩) (n+1) ⟨false,[((n+1)*1024+0,List.replicate 32 (.int .u8 0))],none⟩) (f:=n) (u:=n*1024+0) (off:=0+72) (cs:=zaq st blk M.length) (by rw [zae _ _ _ _ (by omega),zaf];exact zah) (zml l8 l64);have IG:=fun l=>zau (m:=lim) (f:=n) l (by omega);repeat apply W.seq
  apply W.region
  · simp (disch:=first|omega | (simp (disch:=omega) [wE];done) | (apply zac;omega) | (apply zad;omega)) only [ti3,ti47,ti5,ti68,ti63,fa2 ax,L1,IG,znv,q_of M.length (by omega),wB0,wB1,wC];with_reducible rfl
  simp only [onN,onB];have c128:Value.int .u8 128=vb 128:=rfl;have c0:Value.int .u8 0=vb 0:=rfl;repeat apply W.seq
  apply W.region
  · simp (disch:=first|omega | (simp (disch:=omega) [wE,zlz,c128,zfw];done) | (apply zac;omega) | (apply zad;omega)) only [ti3,ti47,ti5,ti68,ti63,zed (ti43 ax) (ti5 ax) rfl rfl,c128,wB0,wB1,wC];with_reducible rfl
  simp only [onN,onB];repeat apply W.seq
  apply W.block;refine W.loop (fun m fr s=>∃ (z:Nat) (ao:Option Addr) (h:Nat→Value) (n':Nat) (g':Nat→Fam),z≤zgb M.length∧m=zgb M.length - z∧fr=Fr.of 58 h∧s=St n' g' lim rd wr∧n+2≤n'∧h 1=.pointer (some (mkA n (n*1024+0) 0))∧h 2=.pointer (some (mkA (n+1) ((n+1)*1024+0) 0))∧h 3=vq (UInt64.ofNat (8*M.length))∧h 4=.slice ao (1+z) (1+z)∧OwnX (n+2) g' n' 1 ao (1+z) (bvs (128 :: List.replicate z 0))∧g' n=⟨false,[(n*1024+0,zaq st blk M.length)],none⟩∧g' (n+1)=⟨false,[((n+1)*1024+0,List.replicate 32 (vb 0))],none⟩∧(∀ i,i<n→g' i=g i)) ?_ (zgb M.length - 0) _ _ ⟨0,_,_,_,_,Nat.zero_le _,rfl,rfl,rfl,by omega,?_,?_,?_,?_,.inr ⟨rfl,n+1+1,(n+1+1)*1024+0,[],rfl,?_,by omega,by omega,by omega,by omega⟩,?_,?_,?_⟩
  case refine_2=>simp (disch:=omega) only [zaa,zab]
  case refine_3=>simp (disch:=omega) only [zaa,zab]
  case refine_4=>simp (disch:=omega) only [zaa,zab]
  case refine_5=>simp (disch:=omega) only [zaa,zab]
  case refine_6=>rw [zaf];rfl
  case refine_7=>rw [zae _ _ _ _ (by omega),zae _ _ _ _ (by omega),zaf]
  case refine_8=>rw [zae _ _ _ _ (by omega),zaf];rfl
  case refine_9=>intro i hi;rw [zae _ _ _ _ (by omega),zae _ _ _ _ (by omega),zae _ _ _ _ (by omega)]
  clear L1;rintro m fr s ⟨z,ao,h,n',g',hz,rfl,rfl,rfl,hn,h1,h2,h3,h4,hown,p1,p2,p0⟩;have L1:=zhq (n:=n') (lim:=lim) (rd:=rd) (wr:=wr) (ti63 ax) rfl (g:=g') (f:=n) (u:=n*1024+0) (off:=0+72) (cs:=zaq st blk M.length) (by rw [p1];exact zah) (zml l8 l64);have cw:IntKind.i64.wrap ((M.length:Nat):Int)=((M.length:Nat):Int):=zac (by omega);have ca:((M.length:Nat):Int)+((1+z:Nat):Int)=((M.length+(1+z):Nat):Int):=by omega
  have cr:((M.length+(1+z):Nat):Int) % 64=(((M.length+(1+z)) % 64:Nat):Int):=by omega
  have hz64:z<64:=by unfold zgb at hz;omega
  repeat apply W.seq
  apply W.region
  · simp (disch:=first|omega | (simp (disch:=omega) [wE,h1,h4];done) | (apply zac;omega) | (apply zad;omega) | (rw [ca];apply zac;omega)) only [ti3,ti47,ti5,ti68,ti63,h1,h4,fa2 ax,L1,IG,zak,ti3,ti63,zho,cw,zsg (ti43 ax),zd0,ca,zui,cr,yfu,wB0,wB1,wC];with_reducible rfl
  simp only [onN,onB];by_cases hend:z=zgb M.length
  case neg =>
    have x1:decide ((((M.length+(1+z)) % 64:Nat):Int)≠56)=true:=decide_eq_true (by unfold zgb at hz hend;omega);repeat apply W.seq
    refine W.cond (b:=true) ?_ ?_
    · simp (disch:=omega) only [zaw,get_of,zaa,zab,x1,decide_true,decide_false]
    simp only [cond_true,cond_false];apply W.skip;simp only [onN,onB];obtain ⟨ao',n2,g2,e1,o1,a1,a2,a3⟩:=OwnX.push (lim:=lim) (bytes:=1) (rd:=rd) (wr:=wr) (v:=vb 0) hown (by omega) (by omega) rfl (by omega);repeat apply W.seq
    apply W.block;repeat apply W.seq
    apply W.region
    · simp (disch:=first|omega | (simp (disch:=omega) [wE,h4,zlz,c0,zfw];done) | (apply zac;omega) | (apply zad;omega)) only [ti3,ti47,ti5,ti68,ti63,h4,zak,zc8 (zlf ax),zed (ti43 ax) (ti5 ax) rfl rfl,zj9 (zms ax),c0,e1,wB0,wB1,wC];with_reducible rfl
    simp only [onN,onB];refine ⟨zgb M.length - (z+1),by omega,z+1,ao',_,n2,g2,by omega,rfl,rfl,rfl,by omega,?_,?_,?_,?_,?_,by rw [a3 _ (by omega)];exact p1,by rw [a3 _ (by omega)];exact p2,fun i hi=>by rw [a3 _ (by omega)];exact p0 i hi⟩
    · simp (disch:=omega) only [zaa,zab,h1]
    · simp (disch:=omega) only [zaa,zab,h2]
    · simp (disch:=omega) only [zaa,zab,h3]
    · simp (disch:=omega) only [zaa,zab];rfl
    · have:bvs (128 :: List.replicate (z+1) 0)=bvs (128 :: List.replicate z 0)++[vb 0]:=by
        rw [List.replicate_succ',← List.cons_append,zd7];rfl
      rw [this];exact o1
  have x1:decide ((((M.length+(1+z)) % 64:Nat):Int)≠56)=false:=decide_eq_false (by unfold zgb at hend;omega);repeat apply W.seq
  refine W.cond (b:=false) ?_ ?_
  · simp (disch:=omega) only [zaw,get_of,zaa,zab,x1,decide_true,decide_false]
  simp only [cond_true,cond_false];apply W.exit;simp only [onN,onB,Nat.beq_refl,cond_true,cond_false,zmt];repeat apply W.seq
  apply W.region
  · simp (disch:=first|omega | (simp (disch:=omega) [wE];done) | (apply zac;omega) | (apply zad;omega)) only [ti3,ti47,ti5,ti68,ti63,wB0,wB1,wC];with_reducible rfl
  simp only [onN,onB];repeat apply W.seq
  apply W.block;have hz65:1+z≤64:=by omega
  refine W.loop (fun m fr s=>∃ (i:Nat) (ao:Option Addr) (h:Nat→Value) (n':Nat) (g':Nat→Fam),i≤8∧m=8 - i∧fr=Fr.of 58 h∧s=St n' g' lim rd wr∧n+2≤n'∧h 1=.pointer (some (mkA n (n*1024+0) 0))∧h 2=.pointer (some (mkA (n+1) ((n+1)*1024+0) 0))∧h 3=vq (UInt64.ofNat (8*M.length))∧h 4=.slice ao (1+z+i) (1+z+i)∧h 23=.int .i64 (i:Int)∧OwnX (n+2) g' n' 1 ao (1+z+i) (bvs (128 :: List.replicate z 0++lens M.length i))∧g' n=⟨false,[(n*1024+0,zaq st blk M.length)],none⟩∧g' (n+1)=⟨false,[((n+1)*1024+0,List.replicate 32 (vb 0))],none⟩∧(∀ i,i<n→g' i=g i)) ?_ (8 - 0) _ _ ⟨0,ao,_,_,_,by omega,rfl,rfl,rfl,hn,?_,?_,?_,?_,?_,?_,p1,p2,p0⟩
  case refine_2=>simp (disch:=omega) only [zaa,zab,h1]
  case refine_3=>simp (disch:=omega) only [zaa,zab,h2]
  case refine_4=>simp (disch:=omega) only [zaa,zab,h3]
  case refine_5=>simp (disch:=omega) only [zaa,zab,h4];rfl
  case refine_6=>simp (disch:=omega) only [zaa,zab];rfl
  case refine_7=>rw [lens,List.append_nil];exact hown
  clear h1 h2 h3 h4 hown p1 p2 p0 L1;rintro m fr s ⟨i,ao,h,n',g',hi,rfl,rfl,rfl,hn,h1,h2,h3,h4,h23,hown,p1,p2,p0⟩;repeat apply W.seq
  apply W.region
  · simp (disch:=first|omega | (simp (disch:=omega) [wE,h23];done) | (apply zac;omega) | (apply zad;omega)) only [ti3,ti47,ti5,ti68,ti63,zgt,h23,wB0,wB1,wC];with_reducible rfl
  simp only [onN,onB];by_cases hi8:(i:Int)<8
  case pos =>
    repeat apply W.seq
    refine W.cond (b:=true) ?_ ?_
    · simp (disch:=omega) only [zaw,get_of,zaa,zab,hi8,decide_true,decide_false]
    simp only [cond_true,cond_false];apply W.skip;simp only [onN,onB];have c1:(8:Int)*((i:Nat):Int)=((8*i:Nat):Int):=by omega
    have c2:(56:Int) - ((8*i:Nat):Int)=((56 - 8*i:Nat):Int):=by omega
    obtain ⟨ao',n2,g2,e1,o1,a1,a2,a3⟩:=OwnX.push (lim:=lim) (bytes:=1) (rd:=rd) (wr:=wr) (v:=vb (lenB M.length i)) hown (by omega) (by omega) rfl (by omega);unfold lenB at e1;repeat apply W.seq
    apply W.block;repeat apply W.seq
    apply W.region
    · simp (disch:=first|omega | (simp (disch:=omega) [wE,h23];done) | (apply zac;omega) | (apply zad;omega)) only [ti3,ti47,ti5,ti68,ti63,h23,wB0,wB1,wC];with_reducible rfl
    simp only [onN,onB];repeat apply W.seq
    apply W.region
    · simp (disch:=first|omega | (simp (disch:=omega) [wE,h3,h4,h23,zfw];done) | (apply zac;omega) | (apply zad;omega) | (rw [c1];apply zac;omega) | (rw [c2];apply zac;omega)) only [ti3,ti47,ti5,ti68,ti63,h3,h4,h23,znv,c1,zlo,c2,ygp,yb2 (ti63 ax) (ti5 ax),zc8 (zlf ax),zed (ti43 ax) (ti5 ax) rfl rfl,zj9 (zms ax),e1,wB0,wB1,wC];with_reducible rfl
    simp only [onN,onB];repeat apply W.seq
    apply W.region
    · simp (disch:=first|omega | (simp (disch:=omega) [wE,h23];done) | (apply zac;omega) | (apply zad;omega)) only [ti3,ti47,ti5,ti68,ti63,zd0,h23,wB0,wB1,wC];with_reducible rfl
    simp only [onN,onB];refine ⟨8 - (i+1),by omega,i+1,ao',_,n2,g2,by omega,rfl,rfl,rfl,by omega,?_,?_,?_,?_,?_,?_,by rw [a3 _ (by omega)];exact p1,by rw [a3 _ (by omega)];exact p2,fun i hi=>by rw [a3 _ (by omega)];exact p0 i hi⟩
    · simp (disch:=omega) only [zaa,zab,h1]
    · simp (disch:=omega) only [zaa,zab,h2]
    · simp (disch:=omega) only [zaa,zab,h3]
    · simp (disch:=omega) only [zaa,zab];rfl
    · simp (disch:=omega) only [zaa,zab];rfl
    · rw [lens,← List.append_assoc,zd7];exact o1
  repeat apply W.seq
  refine W.cond (b:=false) ?_ ?_
  · simp (disch:=omega) only [zaw,get_of,zaa,zab,hi8,decide_true,decide_false]
  simp only [cond_true,cond_false];apply W.exit;simp only [onN,onB,Nat.beq_refl,cond_true,cond_false,zmt];have hi':i=8:=by omega
  subst hi';have hpad:128 :: List.replicate z 0++lens M.length 8=padB M.length:=by rw [hend];rfl
  rw [hpad] at hown;have hpl:(padB M.length).length=1+z+8:=by rw [znt,hend];omega
  have F1:=hown.first (lim:=lim) (rd:=rd) (wr:=wr) (k:=1+z+8) (by omega) (Nat.le_refl _)
  rw [Nat.mul_one,List.take_of_length_le (by rw [zam];omega)] at F1;have CV:=fun ρ o=>zjh (P:=Tryd.prog) (Γ:=EE ax) (ρ:=ρ) (o:=o) (ti43 ax) (ti9 ax) (ti5 ax) F1;have L1:=ze5 (n:=n') (lim:=lim) (rd:=rd) (wr:=wr) (zi6 ax) zoo (g:=g') (f:=n) (u:=n*1024+0) (cs:=zaq st blk M.length) (by rw [p1];exact zah) (za8 l8 l64);rw [IG] at L1;have hsize:(ByteArray.mk (padB M.length).toArray).size=1+z+8:=by show (padB M.length).toArray.size=_;rw [List.size_toArray];exact hpl
  obtain ⟨st2,blk2,hR2,n2,g2,rd2,e2,a1,a2,a3⟩:=zl3 ax hp hC M st blk hR ⟨(padB M.length).toArray⟩ (by rw [hsize];omega) n' g' lim rd wr (by omega) (by omega) (by rw [p0 _ hG];exact hk);have hdl:(ByteArray.mk (padB M.length).toArray).data.toList=padB M.length:=List.toList_toArray ..;rw [hdl] at hR2 e2;have m8:=hR2.len;have m64:=hR2.size;have q1:g2 n=⟨false,[(n*1024+0,zaq st blk M.length)],none⟩:=by rw [a2 _ (by omega)];exact p1
  have q2:g2 (n+1)=⟨false,[((n+1)*1024+0,List.replicate 32 (vb 0))],none⟩:=by rw [a2 _ (by omega)];exact p2
  have q0:∀ i,i<n→g2 i=g i:=fun i hi=>by rw [a2 _ (by omega)];exact p0 i hi
  have S1:=zen (n:=n2) (lim:=lim) (rd:=rd2) (wr:=wr) (zi6 ax) (f:=n) (u:=n*1024+0) (vs:=zaq st2 blk2 (M++padB M.length).length) q1 (za8 m8 m64) (za8 l8 l64) (zj5 _ _ _);rw [IG] at S1;have hW:st2=shaW M:=hR2.eq;have hstr:∀ c:Nat,(Value.agg (zaq st blk M.length).toArray)=strV st blk M.length:=fun _=>rfl;unfold strV at e2;repeat apply W.seq
  apply W.region
  · simp (disch:=first|omega | (simp (disch:=omega) [wE,h1,h4];done) | (apply zac;omega) | (apply zad;omega)) only [ti3,ti47,ti5,ti68,ti63,h1,h4,L1,CV,e2,zas,S1,wB0,wB1,wC];with_reducible rfl
  simp only [onN,onB];generalize hg3:fupd g2 n ⟨false,[(n*1024+0,zaq st2 blk2 (M++padB M.length).length)],none⟩=g3;have r1:g3 n=⟨false,[(n*1024+0,zaq st2 blk2 (M++padB M.length).length)],none⟩:=by rw [← hg3,zaf]
  have r2:g3 (n+1)=⟨false,[((n+1)*1024+0,List.replicate 32 (vb 0))],none⟩:=by rw [← hg3,zae _ _ _ _ (by omega)];exact q2
  have r0:∀ i,i<n→g3 i=g i:=fun i hi=>by rw [← hg3,zae _ _ _ _ (by omega)];exact q0 i hi
  clear hg3 q1 q2 q0 S1 L1 p1 p2 p0 F1 CV;repeat apply W.seq
  apply W.region
  · simp (disch:=first|omega | (simp (disch:=omega) [wE];done) | (apply zac;omega) | (apply zad;omega)) only [ti3,ti47,ti5,ti68,ti63,za9 (ti76 ax),wB0,wB1,wC];with_reducible rfl
  simp only [onN,onB];repeat apply W.seq
  apply W.region
  · simp (disch:=first|omega | (simp (disch:=omega) [wE];done) | (apply zac;omega) | (apply zad;omega)) only [ti3,ti47,ti5,ti68,ti63,wB0,wB1,wC];with_reducible rfl
  simp only [onN,onB];repeat apply W.seq
  apply W.block;refine W.loop (fun m fr s=>∃ (i:Nat) (h:Nat→Value) (g':Nat→Fam),i≤32∧m=32 - i∧fr=Fr.of 58 h∧s=St (n2+1) g' lim rd2 wr∧h 1=.pointer (some (mkA n (n*1024+0) 0))∧h 2=.pointer (some (mkA (n+1) ((n+1)*1024+0) 0))∧h 6=.pointer (some (mkA n2 (n2*1024+0) 0))∧h 40=.int .i64 (i:Int)∧g' n=⟨false,[(n*1024+0,zaq st2 blk2 (M++padB M.length).length)],none⟩∧g' (n+1)=⟨false,[((n+1)*1024+0,List.replicate 32 (vb 0))],none⟩∧g' n2=⟨false,[(n2*1024+0,bvs (outs st2 i)++List.replicate (32 - i) (vb 0))],none⟩∧(∀ i,i<n→g' i=g i)) ?_ (32 - 0) _ _ ⟨0,_,_,by omega,rfl,rfl,rfl,?_,?_,?_,?_,?_,?_,?_,?_⟩
  case refine_2=>simp (disch:=omega) only [zaa,zab,h1]
  case refine_3=>simp (disch:=omega) only [zaa,zab,h2]
  case refine_4=>simp (disch:=omega) only [zaa,zab]
  case refine_5=>simp (disch:=omega) only [zaa,zab];rfl
  case refine_6=>rw [zae _ _ _ _ (by omega)];exact r1
  case refine_7=>rw [zae _ _ _ _ (by omega)];exact r2
  case refine_8=>rw [zaf];rfl
  case refine_9=>intro i hi;rw [zae _ _ _ _ (by omega)];exact r0 i hi
  clear r1 r2 r0 h1 h2 h3 h4 h23 hown;rintro m fr s ⟨i,h,g',hi,rfl,rfl,rfl,h1,h2,h6,h40,p1,p2,p3,p0⟩;repeat apply W.seq
  apply W.region
  · simp (disch:=first|omega | (simp (disch:=omega) [wE,h40];done) | (apply zac;omega) | (apply zad;omega)) only [ti3,ti47,ti5,ti68,ti63,zgt,h40,wB0,wB1,wC];with_reducible rfl
  simp only [onN,onB];by_cases hi32:(i:Int)<32
  case neg =>
    repeat apply W.seq
    refine W.cond (b:=false) ?_ ?_
    · simp (disch:=omega) only [zaw,get_of,zaa,zab,hi32,decide_true,decide_false]
    simp only [cond_true,cond_false];apply W.exit;simp only [onN,onB,Nat.beq_refl,cond_true,cond_false,zmt];have hi':i=32:=by omega
    subst hi'
    have hbl:(bvs (outs st2 32)++List.replicate (32 - 32) (vb 0))=bvs (sha M):=by
      rw [Nat.sub_self,List.replicate_zero,List.append_nil,hW];rfl
    rw [hbl] at p3;have L1:=ze5 (n:=n2+1) (lim:=lim) (rd:=rd2) (wr:=wr) (ti76 ax) rfl (g:=g') (f:=n2) (u:=n2*1024+0) (cs:=bvs (sha M)) (by rw [p3];exact zah) (by rw [zam,zd3]);rw [zau (f:=n2) _ (by omega)] at L1;have S1:=zen (n:=n2+1) (lim:=lim) (rd:=rd2) (wr:=wr) (ti76 ax) (f:=n+1) (u:=(n+1)*1024+0) (vs:=bvs (sha M)) p2 (by rw [zam,zd3]) (by simp) (zfa _);rw [zau (f:=n+1) _ (by omega)] at S1;repeat apply W.seq
    apply W.region
    · simp (disch:=first|omega | (simp (disch:=omega) [wE,h2,h6];done) | (apply zac;omega) | (apply zad;omega)) only [ti3,ti47,ti5,ti68,ti63,h2,h6,L1,zas,S1,wB0,wB1,wC];with_reducible rfl
    simp only [onN,onB];apply W.ret;refine ⟨.inr rfl,n2+1,fupd g' (n+1) ⟨false,[((n+1)*1024+0,bvs (sha M))],none⟩,rd2,?_,by omega,fun i hi=>by rw [zae _ _ _ _ (by omega)];exact p0 i hi,a3⟩;have L2:=ze5 (n:=n2+1) (lim:=lim) (rd:=rd2) (wr:=wr) (ti76 ax) rfl (g:=fupd g' (n+1) ⟨false,[((n+1)*1024+0,bvs (sha M))],none⟩) (f:=n+1) (u:=(n+1)*1024+0) (cs:=bvs (sha M)) (by rw [zaf];exact zah) (by rw [zam,zd3]);rw [zau (f:=n+1) _ (by omega)] at L2;simp (disch:=first|omega | (simp (disch:=omega) only [get_of,zaa,zab,h2];done)) only [ze0 (ad:=mkA (n+1) ((n+1)*1024+0) 0),zgr,Tryd.results55,L2,zb5,zcn]
  repeat apply W.seq
  refine W.cond (b:=true) ?_ ?_
  · simp (disch:=omega) only [zaw,get_of,zaa,zab,hi32,decide_true,decide_false]
  simp only [cond_true,cond_false];apply W.skip;simp only [onN,onB];have hil:i<32:=by omega
  have d1:((i:Nat):Int) / 4=((i / 4:Nat):Int):=by omega
  have d2:((i:Nat):Int) % 4=((i % 4:Nat):Int):=by omega
  have d3:(8:Int)*((i % 4:Nat):Int)=((8*(i % 4):Nat):Int):=by omega
  have d4:(24:Int) - ((8*(i % 4):Nat):Int)=((24 - 8*(i % 4):Nat):Int):=by omega
  have L1:=zhq (n:=n2+1) (lim:=lim) (rd:=rd2) (wr:=wr) (ti68 ax) rfl (g:=g') (f:=n) (u:=n*1024+0) (off:=i / 4) (cs:=zaq st2 blk2 (M++padB M.length).length) (by rw [p1];exact zah) (z18 m8 m64 (by omega));rw [IG] at L1;have S1:=zpl (n:=n2+1) (lim:=lim) (rd:=rd2) (wr:=wr) (ti5 ax) (f:=n2) (u:=n2*1024+0) (off:=0+i) (v:=vb (outB st2 i)) p3 (by rw [List.length_append,zam,zme,List.length_replicate];omega) rfl;rw [zau (f:=n2) _ (by omega),Nat.zero_add,zyn st2 i hil] at S1;unfold outB at S1;repeat apply W.seq
  apply W.block;repeat apply W.seq
  apply W.region
  · simp (disch:=first|omega | (simp (disch:=omega) [wE,h40];done) | (apply zac;omega) | (apply zad;omega)) only [ti3,ti47,ti5,ti68,ti63,h40,wB0,wB1,wC];with_reducible rfl
  simp only [onN,onB];repeat apply W.seq
  apply W.region
  · simp (disch:=first|omega | (simp (disch:=omega) [wE,h1,h6,h40];done) | (apply zac;omega) | (apply zad;omega) | (rw [d1];apply zac;omega) | (rw [d3];apply zac;omega) | (rw [d4];apply zac;omega)) only [ti3,ti47,ti5,ti68,ti63,h1,h6,h40,z9x,d1,zui,d2,znv,d3,zlo,d4,za5,fa0 ax,zao (ti69 ax) (ti68 ax) (show i / 4<8 by omega),L1,z0l,yb1 (ti68 ax) (ti5 ax),zao (ti76 ax) (ti5 ax) hil,Nat.zero_add,zqz,S1,wB0,wB1,wC];with_reducible rfl
  simp only [onN,onB];repeat apply W.seq
  apply W.region
  · simp (disch:=first|omega | (simp (disch:=omega) [wE,h40];done) | (apply zac;omega) | (apply zad;omega)) only [ti3,ti47,ti5,ti68,ti63,zd0,h40,wB0,wB1,wC];with_reducible rfl
  simp only [onN,onB];refine ⟨32 - (i+1),by omega,i+1,_,_,by omega,rfl,rfl,rfl,?_,?_,?_,?_,?_,?_,?_,?_⟩
  · simp (disch:=omega) only [zaa,zab,h1]
  · simp (disch:=omega) only [zaa,zab,h2]
  · simp (disch:=omega) only [zaa,zab,h6]
  · simp (disch:=omega) only [zaa,zab];rfl
  · rw [zae _ _ _ _ (by omega)];exact p1
  · rw [zae _ _ _ _ (by omega)];exact p2
  · rw [zaf]
  · intro i hi;rw [zae _ _ _ _ (by omega)];exact p0 i hi
end
section
open Go Go.RowKit
set_option maxRecDepth 100000
def zhz (g:Nat→Fam) (n:Nat) (x:Option Addr) (len:Nat) (bs:List UInt8):Prop :=
  bs.length=len∧(len=0∨∃ f u off cs,x=some (mkA f u off)∧f<n∧zat (g f).rows u=some cs∧off+len≤cs.length∧(cs.drop off).take len=bvs bs)
def RB (x:Option Addr) (i:Nat):Prop:=∃ a,x=some a∧a.block=i
theorem zhz.first {g g':Nat→Fam} {n N len cap lim:Nat} {rd wr:List Nat} {x:Option Addr} {bs:List UInt8} (h:zhz g n x len bs) (hg:∀ i,i<n→g' i=g i) :
    ∃ rd',CS.firstCells (St N g' lim rd wr) 1 len (.slice x len cap)=some (bvs bs,St N g' lim rd' wr)∧∀ y,y∈rd'→y∈rd∨(RB x y∧y<n):=by
  obtain ⟨h1,h⟩:=h;by_cases h0:len=0
  · subst h0;have:bs=[]:=List.eq_nil_of_length_eq_zero h1;subst this;exact ⟨rd,zo6 (by simp),fun y hy=>.inl hy⟩
  · rcases h with h|⟨f,u,off,cs,rfl,hf,hr,hl,hc⟩
    · exact absurd h h0
    · refine ⟨ins lim rd f,?_,fun y hy=>?_⟩
      · rw [zn4 (cs:=cs) (by rw [hg f hf];exact hr) (by omega) (by omega),Nat.mul_one,hc]
      · rcases zcf hy with hy|hy
        · exact .inl hy
        · exact .inr ⟨⟨_,rfl,by rw [zdc];exact hy.1.symm⟩,by omega⟩
set_option maxHeartbeats 1000000 in
theorem yea (ax:Axs) (hp:zi5 ax) (hC:ax 66=some zqe) (x:Option Addr) (len cap:Nat) (bs:List UInt8) (hlen:len<10000000000) (n:Nat) (g:Nat→Fam) (lim:Nat) (rd wr:List Nat) (hl:lim≤n) (hb:zhz g n x len bs) (hG:1<n) (hk:zat (g 1).rows (1*1024)=some (wvs KW)) :
    Ret Tryd.prog (EE ax) 61 [.slice x len cap] n g lim rd wr (fun i=>RG i∨(RB x i∧i<n)) (.agg (bvs (sha bs)).toArray):=by
  have hax:ax 61=none:=hp _ (by decide);refine Ret.of (fn:=Tryd.f61) 8 hax (fn61 ax) rfl Tryd.ntmps61 (by simp) ?_;simp (disch:=omega) only [zaz,za6,Nat.reduceAdd];repeat apply W.seq
  apply W.region
  · simp (disch:=first|omega | (simp (disch:=omega) [wE];done) | (apply zac;omega) | (apply zad;omega)) only [ti3,ti47,ti5,ti68,ti63,za9 (ti76 ax),wB0,wB1,wC];with_reducible rfl
  simp only [onN,onB];generalize hg0:fupd g n ⟨false,[(n*1024+0,List.replicate 32 (.int .u8 0))],none⟩=g0;have p1:g0 n=⟨false,[(n*1024+0,List.replicate 32 (vb 0))],none⟩:=by rw [← hg0,zaf];rfl
  have p0:∀ i,i<n→g0 i=g i:=fun i hi=>by rw [← hg0,zae _ _ _ _ (by omega)]
  clear hg0;obtain ⟨n1,g1,rd1,e1,a1,a2,a3⟩:=zog ax hp (n+1) g0 (n+1) [] [] (Nat.le_refl _);have q1:∀ y,y∈rd1→y<n+1:=fun y hy=>by rcases a3 y hy with h|h;simp at h;exact h.1.elim
  obtain ⟨rdc,ec,c3⟩:=hb.first (N:=n1) (g':=g1) (lim:=n1) (rd:=[]) (wr:=[]) (cap:=cap) (fun i hi=>by rw [a2 _ (by omega)];exact p0 i hi)
  have qc:∀ y,y∈rdc→y<n+1:=fun y hy=>by rcases c3 y hy with h|h;simp at h;omega
  have CV:=fun ρ o=>zjh (P:=Tryd.prog) (Γ:=EE ax) (ρ:=ρ) (o:=o) (ti43 ax) (ti9 ax) (ti5 ax) ec;have hsize:(ByteArray.mk bs.toArray).size=len:=by show bs.toArray.size=_;rw [List.size_toArray];exact hb.1
  have hdl:(ByteArray.mk bs.toArray).data.toList=bs:=List.toList_toArray ..;obtain ⟨st2,blk2,hR2,n2,g2,rd2,e2,b1,b2,b3⟩:=zl3 ax hp hC [] IVW (List.replicate 64 0) (Repr.start _ rfl) ⟨bs.toArray⟩ (by rw [hsize];simp;omega) n1 g1 n1 [] [] (Nat.le_refl _) (by omega) (by rw [a2 _ (by omega),p0 _ hG];exact hk);rw [hdl,List.nil_append] at hR2 e2;rw [List.length_nil] at e2
  have q2:∀ y,y∈rd2→y<n+1:=fun y hy=>by
    rcases b3 y hy with h|h
    · simp at h
    · have:=h.1;unfold RG at this;omega
  obtain ⟨n3,g3,rd3,e3,d1,d2,d3⟩:=zql ax hp hC bs st2 blk2 hR2 (by rw [hb.1];omega) n2 g2 n2 [] [] (Nat.le_refl _) (by omega) (by rw [b2 _ (by omega),a2 _ (by omega),p0 _ hG];exact hk)
  have q3:∀ y,y∈rd3→y<n+1:=fun y hy=>by
    rcases d3 y hy with h|h
    · simp at h
    · have:=h.1;unfold RG at this;omega
  have r1:g3 n=⟨false,[(n*1024+0,List.replicate 32 (vb 0))],none⟩:=by rw [d2 _ (by omega),b2 _ (by omega),a2 _ (by omega)];exact p1
  have r0:∀ i,i<n→g3 i=g i:=fun i hi=>by rw [d2 _ (by omega),b2 _ (by omega),a2 _ (by omega)];exact p0 i hi
  have S1:=zor (n:=n3) (ti76 ax) (g:=g3) (f:=n) (u:=n*1024+0) (vs:=bvs (sha bs)) r1 (by rw [zam,zd3]) (by simp) (zfa _) (by omega);have IG:=fun l=>zau (m:=lim) (f:=n) l (by omega);repeat apply W.seq
  apply W.last
  · kernel_rfl
  · simp (disch:=first|omega | (simp (disch:=omega) [wE];done) | (apply zac;omega) | (apply zad;omega)) only [ti3,ti47,ti5,ti68,ti63,zcd,zcs,zbq,zdj,zgl,zdq,zb8,zbn,e1,CV,e2,e3,zfo q1,zfo qc,zfo q2,zfo q3,zas,S1,IG,wB0,wB1,wC];with_reducible rfl
  simp only [onN,onB];apply W.ret;refine ⟨.inr rfl,n3,fupd g3 n ⟨false,[(n*1024+0,bvs (sha bs))],none⟩,zeb lim (zeb lim (zeb lim (zeb lim rd rd1) rdc) rd2) rd3,?_,by omega,fun i hi=>by rw [zae _ _ _ _ (by omega)];exact r0 i hi,?_⟩
  · have L2:=fun rd=>ze5 (n:=n3) (lim:=lim) (rd:=rd) (wr:=wr) (ti76 ax) rfl (g:=fupd g3 n ⟨false,[(n*1024+0,bvs (sha bs))],none⟩) (f:=n) (u:=n*1024+0) (cs:=bvs (sha bs)) (by rw [zaf];exact zah) (by rw [zam,zd3]);simp only [IG] at L2;simp (disch:=first|omega | (simp (disch:=omega) only [get_of,zaa,zab];done)) only [ze0 (ad:=mkA n (n*1024+0) 0),zgr,Tryd.results61,L2,zb5,zcn]
  · intro y hy;rcases zbv rfl y hy with hy|⟨hy,hyl⟩
    · rcases zbv rfl y hy with hy|⟨hy,hyl⟩
      · rcases zbv rfl y hy with hy|⟨hy,hyl⟩
        · rcases zbv rfl y hy with hy|⟨hy,hyl⟩
          · exact .inl hy
          · rcases a3 y hy with h|h
            · simp at h
            · exact h.1.elim
        · rcases c3 y hy with h|h
          · simp at h
          · exact .inr ⟨.inr h,hyl⟩
      · rcases b3 y hy with h|h
        · simp at h
        · exact .inr ⟨.inl h.1,hyl⟩
    · rcases d3 y hy with h|h
      · simp at h
      · exact .inr ⟨.inl h.1,hyl⟩
end
section
open Go Go.RowKit
set_option maxRecDepth 100000
def xorL (b:List UInt8) (c:UInt8):Nat→List UInt8
 |0=>b
 |i+1=>(xorL b c i).set i ((xorL b c i).getD i 0 ^^^ c)
theorem zl4 (b:List UInt8) (c:UInt8):∀ i,(xorL b c i).length=b.length
 |0=>rfl
 |i+1=>by rw [xorL,List.length_set,zl4 b c i]
def padS (key:List UInt8) (c:UInt8):List UInt8:=xorL (lay (List.replicate 64 0) 0 key) c 64
theorem zqp (key:List UInt8) (c:UInt8) (h:key.length≤64):(padS key c).length=64:=by
 unfold padS;rw [zl4,zsi (by simp;omega)];simp
theorem yix (l:List UInt8) (k:Nat) (x:UInt8):(bvs l).set k (vb x)=bvs (l.set k x):=by
 unfold bvs;rw [List.map_set]
set_option maxHeartbeats 1000000 in
theorem z9m (ax:Axs) (hp:zi5 ax) (c:UInt8) (key:ByteArray) (hkey:key.size≤64) (f u:Nat) (n:Nat) (g:Nat→Fam) (lim:Nat) (rd wr:List Nat) (hl:lim≤n) (hf:f<n) (hr:zat (g f).rows u=some [.string key]) :
    Ret Tryd.prog (EE ax) 62 [vb c,.pointer (some (mkA f u 0))] n g lim rd wr (fun i=>i=f) (.string ⟨(padS key.data.toList c).toArray⟩):=by
  have hax:ax 62=none:=hp _ (by decide);refine Ret.of (fn:=Tryd.f62) 21 hax (fn62 ax) rfl Tryd.ntmps62 (by simp) ?_;simp (disch:=omega) only [zaz,za6,Nat.reduceAdd];repeat apply W.seq
  apply W.region
  · simp (disch:=first|omega | (simp (disch:=omega) [wE];done) | (apply zac;omega) | (apply zad;omega)) only [ti3,ti47,ti5,ti68,ti63,wB0,wB1,wC];with_reducible rfl
  simp only [onN,onB];repeat apply W.seq
  apply W.region
  · simp (disch:=first|omega | (simp (disch:=omega) [wE];done) | (apply zac;omega) | (apply zad;omega)) only [ti3,ti47,ti5,ti68,ti63,za9 (ti70 ax),wB0,wB1,wC];with_reducible rfl
  simp only [onN,onB];generalize hg0:fupd g n ⟨false,[(n*1024+0,List.replicate 64 (.int .u8 0))],none⟩=g0;have p1:g0 n=⟨false,[(n*1024+0,bvs (List.replicate 64 0))],none⟩:=by rw [← hg0,zaf];rfl
  have p0:∀ i,i<n→g0 i=g i:=fun i hi=>by rw [← hg0,zae _ _ _ _ (by omega)]
  clear hg0;have bd:=zmo (len:=64) (cap:=64) (Nat.le_refl _);have L1:=ld_q (n:=n+1) (ti9 ax) rfl (g:=g0) (f:=f) (u:=u) (off:=0) (cs:=[.string key]) (v:=.string key) (by rw [p0 _ hf];exact hr) rfl (by omega);have IG:=fun l=>zau (m:=lim) (f:=n) l (by omega);repeat apply W.seq
  refine W.last_ex (fun fr s=>∃ h g',fr=Fr.of 21 h∧s=St (n+1) g' lim (ins lim rd f) wr∧h 0=vb c∧h 4=.pointer (some (mkA n (n*1024+0) 0))∧g' n=⟨false,[(n*1024+0,bvs (lay (List.replicate 64 0) 0 key.data.toList))],none⟩∧∀ i,i<n→g' i=g i) (by kernel_rfl) ?_ ?_
  · by_cases h0:min key.size 64=0
    · have CP:=fun s=>ybx (s:=s) (zms ax) rfl (a:=some (mkA n (n*1024+0) (0+0*1))) (len:=64 - 0) (cap:=64 - 0) (b:=key) h0;have hnil:key.data.toList=[]:=List.eq_nil_of_length_eq_zero (by rw [zcb];omega);apply Exists.intro;apply And.intro
      · simp (disch:=first|omega | (simp (disch:=omega) [wE];done) | (apply zac;omega) | (apply zad;omega)) only [ti3,ti47,ti5,ti68,ti63,zcd,zcs,zbq,zdj,zgl,zdq,zb8,zbn,zdm (ti70 ax) (ti5 ax) (by omega) bd (show (n*1024+0) % 1024=0 by omega),L1,z1n,CP,IG,wB0,wB1,wC];with_reducible rfl
      · refine ⟨_,g0,rfl,rfl,?_,?_,?_,p0⟩
        · simp (disch:=omega) only [zaa,zab]
        · simp (disch:=omega) only [zaa,zab]
        · rw [hnil];exact p1
    · have CP:=z5b (lim:=n+1) (rd:=[]) (wr:=[]) (n:=n+1) (zms ax) rfl (f:=n) (u:=n*1024+0) (off:=0+0*1) (len:=64 - 0) (cap:=64 - 0) (b:=key) p1 h0 (by rw [zam,List.length_replicate];omega);rw [znz (show n<n+1 by omega)] at CP;have hmin:min key.size (64 - 0)=key.size:=by omega
      have htk:key.data.toList.take key.size=key.data.toList:=List.take_of_length_le (by rw [zcb];omega);rw [hmin,htk] at CP;apply Exists.intro;apply And.intro
      · simp (disch:=first|omega | (simp (disch:=omega) [wE];done) | (apply zac;omega) | (apply zad;omega)) only [ti3,ti47,ti5,ti68,ti63,zcd,zcs,zbq,zdj,zgl,zdq,zb8,zbn,zdm (ti70 ax) (ti5 ax) (by omega) bd (show (n*1024+0) % 1024=0 by omega),L1,z1n,CP,IG,wB0,wB1,wC];with_reducible rfl
      · refine ⟨_,_,rfl,rfl,?_,?_,?_,fun i hi=>by rw [zae _ _ _ _ (by omega)];exact p0 i hi⟩
        · simp (disch:=omega) only [zaa,zab]
        · simp (disch:=omega) only [zaa,zab]
        · rw [zaf]
          have:splice (bvs (List.replicate 64 0)) (0+0*1) (bvs key.data.toList)=bvs (lay (List.replicate 64 0) 0 key.data.toList):=by
            unfold splice lay;rw [zam,zd7,zd7,zxf,z5z]
          rw [this]
  rintro fr s ⟨h,g1,rfl,rfl,h0,h4,q1,q0⟩;simp only [onN,onB];have hll:(lay (List.replicate 64 0) 0 key.data.toList).length=64:=by rw [zsi (by rw [zcb];simp;omega)];simp
  generalize hB:lay (List.replicate 64 0) 0 key.data.toList=B at *;repeat apply W.seq
  apply W.region
  · simp (disch:=first|omega | (simp (disch:=omega) [wE];done) | (apply zac;omega) | (apply zad;omega)) only [ti3,ti47,ti5,ti68,ti63,wB0,wB1,wC];with_reducible rfl
  simp only [onN,onB];repeat apply W.seq
  apply W.block;refine W.loop (fun m fr s=>∃ (i:Nat) (h:Nat→Value) (g':Nat→Fam),i≤64∧m=64 - i∧fr=Fr.of 21 h∧s=St (n+1) g' lim (ins lim rd f) wr∧h 0=vb c∧h 4=.pointer (some (mkA n (n*1024+0) 0))∧h 9=.int .i64 (i:Int)∧g' n=⟨false,[(n*1024+0,bvs (xorL B c i))],none⟩∧∀ i,i<n→g' i=g i) ?_ (64 - 0) _ _ ⟨0,_,_,by omega,rfl,rfl,rfl,?_,?_,?_,q1,q0⟩
  case refine_2=>simp (disch:=omega) only [zaa,zab,h0]
  case refine_3=>simp (disch:=omega) only [zaa,zab,h4]
  case refine_4=>simp (disch:=omega) only [zaa,zab];rfl
  clear h0 h4 q1 q0;rintro m fr s ⟨i,h,g',hi,rfl,rfl,rfl,h0,h4,h9,q1,q0⟩;repeat apply W.seq
  apply W.region
  · simp (disch:=first|omega | (simp (disch:=omega) [wE,h9];done) | (apply zac;omega) | (apply zad;omega)) only [ti3,ti47,ti5,ti68,ti63,zgt,h9,wB0,wB1,wC];with_reducible rfl
  simp only [onN,onB];by_cases hi64:(i:Int)<64
  case neg =>
    repeat apply W.seq
    refine W.cond (b:=false) ?_ ?_
    · simp (disch:=omega) only [zaw,get_of,zaa,zab,hi64,decide_true,decide_false]
    simp only [cond_true,cond_false];apply W.exit;simp only [onN,onB,Nat.beq_refl,cond_true,cond_false,zmt];have hi':i=64:=by omega
    subst hi';have F1:=zhe (n:=n+1) (lim:=lim) (rd:=ins lim rd f) (wr:=wr) (g:=g') (f:=n) (u:=n*1024+0) (off:=0+0*1) (len:=64 - 0) (cap:=64 - 0) (e:=1) (k:=64 - 0) (cs:=bvs (xorL B c 64)) (by rw [q1];exact zah) (by rw [zam,zl4];omega) (by omega);rw [show ((bvs (xorL B c 64)).drop (0+0*1)).take ((64 - 0)*1)=bvs (xorL B c 64) from List.take_of_length_le (by rw [show (bvs (xorL B c 64)).drop (0+0*1)=bvs (xorL B c 64) from rfl,zam,zl4];omega)] at F1;have CV:=fun ρ o=>zjh (P:=Tryd.prog) (Γ:=EE ax) (ρ:=ρ) (o:=o) (ti43 ax) (ti9 ax) (ti5 ax) F1;repeat apply W.seq
    apply W.region
    · simp (disch:=first|omega | (simp (disch:=omega) [wE,h4];done) | (apply zac;omega) | (apply zad;omega)) only [ti3,ti47,ti5,ti68,ti63,h4,zdm (ti70 ax) (ti5 ax) (by omega) bd (show (n*1024+0) % 1024=0 by omega),CV,wB0,wB1,wC];with_reducible rfl
    simp only [onN,onB];apply W.ret;refine ⟨.inr rfl,n+1,g',ins lim rd f,?_,by omega,q0,fun y hy=>?_⟩
    · simp (disch:=omega) only [resC,Tryd.results62,get_of,zaa];rw [← hB];rfl
    · rcases zcf hy with hy|hy
      · exact .inl hy
      · exact .inr hy
  repeat apply W.seq
  refine W.cond (b:=true) ?_ ?_
  · simp (disch:=omega) only [zaw,get_of,zaa,zab,hi64,decide_true,decide_false]
  simp only [cond_true,cond_false];apply W.skip;simp only [onN,onB];have hil:i<64:=by omega
  have L1:=zhq (n:=n+1) (lim:=lim) (rd:=ins lim rd f) (wr:=wr) (ti5 ax) rfl (g:=g') (f:=n) (u:=n*1024+0) (off:=0+i) (cs:=bvs (xorL B c i)) (by rw [q1];exact zah) (by rw [Nat.zero_add];exact zxg (by rw [zl4];omega));rw [IG] at L1;have S1:=zpl (n:=n+1) (lim:=lim) (rd:=ins lim rd f) (wr:=wr) (ti5 ax) (f:=n) (u:=n*1024+0) (off:=0+i) (v:=vb ((xorL B c i).getD i 0 ^^^ c)) q1 (by rw [zam,zl4];omega) rfl;rw [IG] at S1;repeat apply W.seq
  apply W.block;repeat apply W.seq
  apply W.region
  · simp (disch:=first|omega | (simp (disch:=omega) [wE,h9];done) | (apply zac;omega) | (apply zad;omega)) only [ti3,ti47,ti5,ti68,ti63,h9,wB0,wB1,wC];with_reducible rfl
  simp only [onN,onB];repeat apply W.seq
  apply W.region
  · simp (disch:=first|omega | (simp (disch:=omega) [wE,h0,h4];done) | (apply zac;omega) | (apply zad;omega)) only [ti3,ti47,ti5,ti68,ti63,h0,h4,za5,zao (ti70 ax) (ti5 ax) hil,L1,ykx,zqz,S1,wB0,wB1,wC];with_reducible rfl
  simp only [onN,onB];repeat apply W.seq
  apply W.region
  · simp (disch:=first|omega | (simp (disch:=omega) [wE,h9];done) | (apply zac;omega) | (apply zad;omega)) only [ti3,ti47,ti5,ti68,ti63,zd0,h9,wB0,wB1,wC];with_reducible rfl
  simp only [onN,onB];refine ⟨64 - (i+1),by omega,i+1,_,_,by omega,rfl,rfl,rfl,?_,?_,?_,?_,fun i hi=>by rw [zae _ _ _ _ (by omega)];exact q0 i hi⟩
  · simp (disch:=omega) only [zaa,zab,h0]
  · simp (disch:=omega) only [zaa,zab,h4]
  · simp (disch:=omega) only [zaa,zab];rfl
  · rw [zaf,Nat.zero_add,yix];rfl
end
section
open Go Go.RowKit
set_option maxRecDepth 100000
def keyK (key:List UInt8):List UInt8:=if 64<key.length then sha key else key
def macB (key text:List UInt8):List UInt8:=sha (padS (keyK key) 92++sha (padS (keyK key) 54++text))
theorem zwm (key text:List UInt8):(macB key text).length=32:=zd3 _
theorem yd6 (key:List UInt8):(keyK key).length≤64:=by unfold keyK;split;rw [zd3];omega;omega
theorem zsa (l:List UInt8):(ByteArray.mk l.toArray).size=l.length:=List.size_toArray ..
theorem zo1 (l:List UInt8):(ByteArray.mk l.toArray).data.toList=l:=List.toList_toArray ..
set_option maxHeartbeats 2000000 in
theorem yh3 (ax:Axs) (hp:zi5 ax) (hC:ax 66=some zqe) (key text:ByteArray) (hkey:key.size<1000000000) (htext:text.size<1000000000) (n:Nat) (g:Nat→Fam) (lim:Nat) (rd wr:List Nat) (hl:lim≤n) (hG:1<n) (hk:zat (g 1).rows (1*1024)=some (wvs KW)) :
    Ret Tryd.prog (EE ax) 49 [.string key,.string text] n g lim rd wr RG (.string ⟨(macB key.data.toList text.data.toList).toArray⟩):=by
  have hax:ax 49=none:=hp _ (by decide);refine Ret.of (fn:=Tryd.f49) 35 hax (fn49 ax) rfl Tryd.ntmps49 (by simp) ?_;simp (disch:=omega) only [zaz,za6,Nat.reduceAdd];have IG:=fun l=>zau (m:=lim) (f:=n) l (by omega);repeat apply W.seq
  apply W.region
  · simp (disch:=first|omega | (simp (disch:=omega) [wE];done) | (apply zac;omega) | (apply zad;omega)) only [ti3,ti47,ti5,ti68,ti63,List.map_toArray,List.nil_append,List.cons_append,List.append_nil,z50,z0a,wB0,wB1,wC];with_reducible rfl
  simp only [onN,onB];generalize hg0:fupd g n ⟨false,[(n*1024+0,[Value.string key])],none⟩=g0;have p1:g0 n=⟨false,[(n*1024+0,[.string key])],none⟩:=by rw [← hg0,zaf]
  have p0:∀ i,i<n→g0 i=g i:=fun i hi=>by rw [← hg0,zae _ _ _ _ (by omega)]
  clear hg0;have bd:=zmo (len:=32) (cap:=32) (Nat.le_refl _);apply W.seq;refine W.cut (fun fr s=>∃ (h:Nat→Value) (n1:Nat) (g1:Nat→Fam) (rd1:List Nat) (k:ByteArray),fr=Fr.of 35 h∧s=St n1 g1 lim rd1 wr∧n+1≤n1∧k.data.toList=keyK key.data.toList∧h 1=.string text∧h 2=.pointer (some (mkA n (n*1024+0) 0))∧g1 n=⟨false,[(n*1024+0,[.string k])],none⟩∧(∀ i,i<n→g1 i=g i)∧(∀ x,x∈rd1→x∈rd∨(RG x∧x<lim))) ?_ ?_
  · have L1:=zhq (n:=n+1) (lim:=lim) (rd:=rd) (wr:=wr) (ti9 ax) rfl (g:=g0) (f:=n) (u:=n*1024+0) (off:=0) (cs:=[.string key]) (v:=.string key) (by rw [p1];exact zah) rfl;rw [IG] at L1;repeat apply W.seq
    apply W.region
    · simp (disch:=first|omega | (simp (disch:=omega) [wE];done) | (apply zac;omega) | (apply zad;omega)) only [ti3,ti47,ti5,ti68,ti63,List.map_toArray,List.nil_append,List.cons_append,List.append_nil,L1,z1s (ti9 ax),yfv,wB0,wB1,wC];with_reducible rfl
    simp only [onN,onB];by_cases hbig:(64:Int)<key.size
    case neg =>
      repeat apply W.seq
      refine W.cond (b:=false) ?_ ?_
      · simp (disch:=omega) only [zaw,get_of,zaa,zab,hbig,decide_true,decide_false]
      simp only [cond_true,cond_false];apply W.skip;refine ⟨by first|rfl|trivial,_,n+1,g0,rd,key,rfl,rfl,by omega,?_,?_,?_,p1,p0,fun x hx=>.inl hx⟩
      · unfold keyK;rw [if_neg (by rw [zcb];omega)]
      · simp (disch:=omega) only [zaa,zab]
      · simp (disch:=omega) only [zaa,zab]
    repeat apply W.seq
    refine W.cond (b:=true) ?_ ?_
    · simp (disch:=omega) only [zaw,get_of,zaa,zab,hbig,decide_true,decide_false]
    simp only [cond_true,cond_false];have CB:=fun ρ o=>z6v (P:=Tryd.prog) (Γ:=EE ax) (ρ:=ρ) (o:=o) (n:=n+1) (g:=g0) (lim:=lim) (rd:=rd) (wr:=wr) (x:=key) (ti9 ax) (ti43 ax) (ti5 ax) (by omega);generalize hgb:fupd g0 (n+1) ⟨false,[((n+1)*1024+2,zfv key)],none⟩=gb at CB;have b1:gb n=⟨false,[(n*1024+0,[.string key])],none⟩:=by rw [← hgb,zae _ _ _ _ (by omega)];exact p1
    have b0:∀ i,i<n→gb i=g i:=fun i hi=>by rw [← hgb,zae _ _ _ _ (by omega)];exact p0 i hi
    have hba:zhz gb (n+1+1) (some (mkA (n+1) ((n+1)*1024+2) 0)) key.size key.data.toList:=by
      refine ⟨zcb key,.inr ⟨n+1,(n+1)*1024+2,0,zfv key,rfl,by omega,?_,?_,?_⟩⟩
      · rw [← hgb,zaf];exact zah
      · rw [zs7,zam,zcb];omega
      · rw [zs7,List.drop_zero,List.take_of_length_le (by rw [zam,zcb];omega)]
    clear hgb;obtain ⟨n2,g2,rd2,e2,a1,a2,a3⟩:=yea ax hp hC (some (mkA (n+1) ((n+1)*1024+2) 0)) key.size key.size key.data.toList (by omega) (n+1+1) gb lim rd wr (by omega) hba (by omega) (by rw [b0 _ hG];exact hk);have S1:=zen (n:=n2+1) (lim:=lim) (rd:=rd2) (wr:=wr) (ti76 ax) (g:=fupd g2 n2 ⟨false,[(n2*1024+0,List.replicate 32 (.int .u8 0))],none⟩) (f:=n2) (u:=n2*1024+0) (vs:=bvs (sha key.data.toList)) (zaf _ _ _) (by rw [zam,zd3]) (by simp) (zfa _);rw [zcp,zau (f:=n2) _ (by omega)] at S1;repeat apply W.seq
    apply W.region
    · simp (disch:=first|omega | (simp (disch:=omega) [wE];done) | (apply zac;omega) | (apply zad;omega)) only [ti3,ti47,ti5,ti68,ti63,List.map_toArray,List.nil_append,List.cons_append,List.append_nil,L1,CB,e2,za9 (ti76 ax),zas,S1,wB0,wB1,wC];with_reducible rfl
    simp only [onN,onB];generalize hg3:fupd g2 n2 ⟨false,[(n2*1024+0,bvs (sha key.data.toList))],none⟩=g3;have c1:g3 n=⟨false,[(n*1024+0,[.string key])],none⟩:=by rw [← hg3,zae _ _ _ _ (by omega),a2 _ (by omega)];exact b1
    have c2:g3 n2=⟨false,[(n2*1024+0,bvs (sha key.data.toList))],none⟩:=by rw [← hg3,zaf]
    have c0:∀ i,i<n→g3 i=g i:=fun i hi=>by rw [← hg3,zae _ _ _ _ (by omega),a2 _ (by omega)];exact b0 i hi
    clear hg3 S1;have F1:=zhe (n:=n2+1) (lim:=lim) (rd:=rd2) (wr:=wr) (g:=g3) (f:=n2) (u:=n2*1024+0) (off:=0+0*1) (len:=32 - 0) (cap:=32 - 0) (e:=1) (k:=32 - 0) (cs:=bvs (sha key.data.toList)) (by rw [c2];exact zah) (by rw [zam,zd3];omega) (by omega);rw [show ((bvs (sha key.data.toList)).drop (0+0*1)).take ((32 - 0)*1)=bvs (sha key.data.toList) from List.take_of_length_le (by rw [show (bvs (sha key.data.toList)).drop (0+0*1)=bvs (sha key.data.toList) from rfl,zam,zd3];omega)] at F1;have CV:=fun ρ o=>zjh (P:=Tryd.prog) (Γ:=EE ax) (ρ:=ρ) (o:=o) (ti43 ax) (ti9 ax) (ti5 ax) F1;have S2:=zpl (n:=n2+1) (lim:=lim) (rd:=rd2) (wr:=wr) (ti9 ax) (f:=n) (u:=n*1024+0) (off:=0) (v:=.string ⟨(sha key.data.toList).toArray⟩) c1 (by simp) rfl;rw [IG] at S2;repeat apply W.seq
    apply W.region
    · simp (disch:=first|omega | (simp (disch:=omega) [wE];done) | (apply zac;omega) | (apply zad;omega)) only [ti3,ti47,ti5,ti68,ti63,List.map_toArray,List.nil_append,List.cons_append,List.append_nil,zdm (ti76 ax) (ti5 ax) (by omega) bd (show (n2*1024+0) % 1024=0 by omega),CV,z0a,S2,wB0,wB1,wC];with_reducible rfl
    simp only [onN,onB];refine ⟨by first|rfl|trivial,_,n2+1,_,rd2,⟨(sha key.data.toList).toArray⟩,rfl,rfl,by omega,?_,?_,?_,zaf _ _ _,fun i hi=>by rw [zae _ _ _ _ (by omega)];exact c0 i hi,fun x hx=>?_⟩
    · unfold keyK;rw [if_pos (by rw [zcb];omega),zo1]
    · simp (disch:=omega) only [zaa,zab]
    · simp (disch:=omega) only [zaa,zab]
    · rcases a3 x hx with h|⟨h|⟨⟨a,h1,h2⟩,_⟩,hl2⟩
      · exact .inl h
      · exact .inr ⟨h,hl2⟩
      · simp only [Option.some.injEq] at h1;subst h1;rw [zdc] at h2;omega
  clear p1 p0;rintro fr s ⟨h,n1,g1,rd1,k,rfl,rfl,hn1,hkk,h1,h2,p1,p0,hrd1⟩;have hks:k.size≤64:=by rw [← zcb,hkk];exact yd6 _
  generalize hK:keyK key.data.toList=K at *;repeat apply W.seq
  apply W.region
  · simp (disch:=first|omega | (simp (disch:=omega) [wE,h2];done) | (apply zac;omega) | (apply zad;omega)) only [ti3,ti47,ti5,ti68,ti63,List.map_toArray,List.nil_append,List.cons_append,List.append_nil,zz2,h2,wB0,wB1,wC];with_reducible rfl
  simp only [onN,onB];obtain ⟨n2,g2,rd2,e2,a1,a2,a3⟩:=zog ax hp n1 g1 lim rd1 wr (by omega);obtain ⟨n3,g3,rd3,e3,b1,b2,b3⟩:=z9m ax hp 54 k hks n (n*1024+0) n2 g2 lim rd2 wr (by omega) (by omega) (by rw [a2 _ (by omega),p1];exact zah);obtain ⟨st4,bl4,hR4,n4,g4,rd4,e4,d1,d2,d3⟩:=zl3 ax hp hC [] IVW (List.replicate 64 0) (Repr.start _ rfl) ⟨(padS k.data.toList 54).toArray⟩ (by rw [zsa,zqp _ _ (by rw [zcb];exact hks)];simp) n3 g3 lim rd3 wr (by omega) (by omega) (by rw [b2 _ (by omega),a2 _ (by omega),p0 _ hG];exact hk);rw [zo1,List.nil_append] at hR4 e4;rw [List.length_nil] at e4;have hpl:(padS k.data.toList 54).length=64:=zqp _ _ (by rw [zcb];exact hks);obtain ⟨st5,bl5,hR5,n5,g5,rd5,e5,f1,f2,f3⟩:=zl3 ax hp hC _ st4 bl4 hR4 text (by rw [hpl];omega) n4 g4 lim rd4 wr (by omega) (by omega) (by rw [d2 _ (by omega),b2 _ (by omega),a2 _ (by omega),p0 _ hG];exact hk);obtain ⟨n6,g6,rd6,e6,i1,i2,i3⟩:=zql ax hp hC _ st5 bl5 hR5 (by rw [List.length_append,hpl,zcb];omega) n5 g5 lim rd5 wr (by omega) (by omega) (by rw [f2 _ (by omega),d2 _ (by omega),b2 _ (by omega),a2 _ (by omega),p0 _ hG];exact hk);generalize hS1:sha (padS k.data.toList 54++text.data.toList)=S1 at *;have hSl:S1.length=32:=by rw [← hS1];exact zd3 _
  have c54:Value.int .u8 54=vb 54:=rfl;have T1:=zen (n:=n6+1) (lim:=lim) (rd:=rd6) (wr:=wr) (ti76 ax) (g:=fupd g6 n6 ⟨false,[(n6*1024+0,List.replicate 32 (.int .u8 0))],none⟩) (f:=n6) (u:=n6*1024+0) (vs:=bvs S1) (zaf _ _ _) (by rw [zam,hSl]) (by simp) (zfa _);rw [zcp,zau (f:=n6) _ (by omega)] at T1;repeat apply W.seq
  apply W.region
  · simp (disch:=first|omega | (simp (disch:=omega) [wE,h1];done) | (apply zac;omega) | (apply zad;omega)) only [ti3,ti47,ti5,ti68,ti63,List.map_toArray,List.nil_append,List.cons_append,List.append_nil,e2,zz5,zr8,c54,e3,e4,h1,e5,e6,za9 (ti76 ax),zas,T1,wB0,wB1,wC];with_reducible rfl
  simp only [onN,onB];generalize hg7:fupd g6 n6 ⟨false,[(n6*1024+0,bvs S1)],none⟩=g7;have u1:g7 n=⟨false,[(n*1024+0,[.string k])],none⟩:=by rw [← hg7,zae _ _ _ _ (by omega),i2 _ (by omega),f2 _ (by omega),d2 _ (by omega),b2 _ (by omega),a2 _ (by omega)];exact p1
  have u2:g7 n6=⟨false,[(n6*1024+0,bvs S1)],none⟩:=by rw [← hg7,zaf]
  have u0:∀ i,i<n→g7 i=g i:=fun i hi=>by rw [← hg7,zae _ _ _ _ (by omega),i2 _ (by omega),f2 _ (by omega),d2 _ (by omega),b2 _ (by omega),a2 _ (by omega)];exact p0 i hi
  have hrd6:∀ x,x∈rd6→x∈rd∨(RG x∧x<lim):=by
    intro x hx;rcases i3 x hx with hx|hx
    · rcases f3 x hx with hx|hx
      · rcases d3 x hx with hx|hx
        · rcases b3 x hx with hx|⟨rfl,hx⟩
          · rcases a3 x hx with hx|hx
            · exact hrd1 x hx
            · exact hx.1.elim
          · omega
        · exact .inr hx
      · exact .inr hx
    · exact .inr hx
  clear hg7 T1 e2 e3 e4 e5 e6 a3 b3 d3 f3 i3 hR4 hR5 p1 p0 hrd1
  -- the outer hash
  obtain ⟨m2,G2,r2,E2,A1,A2,A3⟩:=zog ax hp (n6+1) g7 (n6+1) [] [] (Nat.le_refl _);have Q2:∀ y,y∈r2→y<n6+1:=fun y hy=>by rcases A3 y hy with h|h;simp at h;exact h.1.elim
  obtain ⟨m3,G3,r3,E3,B1,B2,B3⟩:=z9m ax hp 92 k hks n (n*1024+0) m2 G2 m2 [] [] (Nat.le_refl _) (by omega) (by rw [A2 _ (by omega),u1];exact zah)
  have Q3:∀ y,y∈r3→y<n6+1:=fun y hy=>by
    rcases B3 y hy with h|h
    · simp at h
    · omega
  obtain ⟨st4',bl4',hR4',m4,G4,r4,E4,D1,D2,D3⟩:=zl3 ax hp hC [] IVW (List.replicate 64 0) (Repr.start _ rfl) ⟨(padS k.data.toList 92).toArray⟩ (by rw [zsa,zqp _ _ (by rw [zcb];exact hks)];simp) m3 G3 m3 [] [] (Nat.le_refl _) (by omega) (by rw [B2 _ (by omega),A2 _ (by omega),u0 _ hG];exact hk);rw [zo1,List.nil_append] at hR4' E4;rw [List.length_nil] at E4;have hpl2:(padS k.data.toList 92).length=64:=zqp _ _ (by rw [zcb];exact hks)
  have Q4:∀ y,y∈r4→y<n6+1:=fun y hy=>by
    rcases D3 y hy with h|h
    · simp at h
    · have:=h.1;unfold RG at this;omega
  have F1:=zn4 (n:=m4) (lim:=m4) (rd:=[]) (wr:=[]) (g:=G4) (f:=n6) (u:=n6*1024+0) (off:=0+0*1) (len:=32 - 0) (cap:=32 - 0) (e:=1) (k:=32 - 0) (cs:=bvs S1) (by rw [D2 _ (by omega),B2 _ (by omega),A2 _ (by omega),u2];exact zah) (by rw [zam,hSl];omega) (by omega);rw [znz (show n6<m4 by omega),show ((bvs S1).drop (0+0*1)).take ((32 - 0)*1)=bvs S1 from List.take_of_length_le (by rw [show (bvs S1).drop (0+0*1)=bvs S1 from rfl,zam,hSl];omega)] at F1;have CV:=fun ρ o=>zjh (P:=Tryd.prog) (Γ:=EE ax) (ρ:=ρ) (o:=o) (ti43 ax) (ti9 ax) (ti5 ax) F1;obtain ⟨st5',bl5',hR5',m5,G5,r5,E5,H1,H2,H3⟩:=zl3 ax hp hC _ st4' bl4' hR4' ⟨S1.toArray⟩ (by rw [hpl2,zsa,hSl];omega) m4 G4 m4 [] [] (Nat.le_refl _) (by omega) (by rw [D2 _ (by omega),B2 _ (by omega),A2 _ (by omega),u0 _ hG];exact hk);rw [zo1] at hR5' E5
  have Q5:∀ y,y∈r5→y<n6+1:=fun y hy=>by
    rcases H3 y hy with h|h
    · simp at h
    · have:=h.1;unfold RG at this;omega
  obtain ⟨m6,G6,r6,E6,I1,I2,I3⟩:=zql ax hp hC _ st5' bl5' hR5' (by rw [List.length_append,hpl2,hSl];omega) m5 G5 m5 [] [] (Nat.le_refl _) (by omega) (by rw [H2 _ (by omega),D2 _ (by omega),B2 _ (by omega),A2 _ (by omega),u0 _ hG];exact hk)
  have Q6:∀ y,y∈r6→y<n6+1:=fun y hy=>by
    rcases I3 y hy with h|h
    · simp at h
    · have:=h.1;unfold RG at this;omega
  have hmac:sha (padS k.data.toList 92++S1)=macB key.data.toList text.data.toList:=by
    unfold macB;rw [hK,← hkk,hS1]
  rw [hmac] at E6;have T2:=zor (n:=m6+1) (ti76 ax) (g:=fupd G6 m6 ⟨false,[(m6*1024+0,List.replicate 32 (.int .u8 0))],none⟩) (f:=m6) (u:=m6*1024+0) (vs:=bvs (macB key.data.toList text.data.toList)) (zaf _ _ _) (by rw [zam,zwm]) (by simp) (zfa _) (by omega);rw [zcp] at T2;have c92:Value.int .u8 92=vb 92:=rfl;have IM:=fun l=>zau (m:=lim) (f:=m6) l (by omega);have IN:=fun l=>zau (m:=lim) (f:=n6) l (by omega);repeat apply W.seq
  apply W.last
  · kernel_rfl
  · simp (disch:=first|omega | (simp (disch:=omega) [wE];done) | (apply zac;omega) | (apply zad;omega)) only [ti3,ti47,ti5,ti68,ti63,zcd,zcs,zbq,zdj,zgl,zdq,zb8,zbn,List.map_toArray,List.nil_append,List.cons_append,List.append_nil,E2,zz5,zr8,c92,E3,E4,zdm (ti76 ax) (ti5 ax) (by omega) bd (show (n6*1024+0) % 1024=0 by omega),CV,E5,E6,zfo Q2,zfo Q3,zfo Q4,zfo Q5,zfo Q6,za9 (ti76 ax),zas,T2,IM,IN,wB0,wB1,wC];with_reducible rfl
  simp only [onN,onB];have F2:=fun rd=>zhe (n:=m6+1) (lim:=lim) (rd:=rd) (wr:=wr) (g:=fupd G6 m6 ⟨false,[(m6*1024+0,bvs (macB key.data.toList text.data.toList))],none⟩) (f:=m6) (u:=m6*1024+0) (off:=0+0*1) (len:=32 - 0) (cap:=32 - 0) (e:=1) (k:=32 - 0) (cs:=bvs (macB key.data.toList text.data.toList)) (by rw [zaf];exact zah) (by rw [zam,zwm];omega) (by omega);have F3:=fun rd=>(F2 rd).trans (by rw [show ((bvs (macB key.data.toList text.data.toList)).drop (0+0*1)).take ((32 - 0)*1)=bvs (macB key.data.toList text.data.toList) from List.take_of_length_le (by rw [show (bvs (macB key.data.toList text.data.toList)).drop (0+0*1)=bvs (macB key.data.toList text.data.toList) from rfl,zam,zwm];omega)]);have CW:=fun rd ρ o=>zjh (P:=Tryd.prog) (Γ:=EE ax) (ρ:=ρ) (o:=o) (ti43 ax) (ti9 ax) (ti5 ax) (F3 rd);repeat apply W.seq
  apply W.region
  · simp (disch:=first|omega | (simp (disch:=omega) [wE];done) | (apply zac;omega) | (apply zad;omega)) only [ti3,ti47,ti5,ti68,ti63,List.map_toArray,List.nil_append,List.cons_append,List.append_nil,zdm (ti76 ax) (ti5 ax) (by omega) bd (show (m6*1024+0) % 1024=0 by omega),CW,wB0,wB1,wC];with_reducible rfl
  simp only [onN,onB];apply W.ret;refine ⟨.inr rfl,m6+1,fupd G6 m6 ⟨false,[(m6*1024+0,bvs (macB key.data.toList text.data.toList))],none⟩,zeb lim (zeb lim (zeb lim (zeb lim (zeb lim rd6 r2) r3) r4) r5) r6,?_,by omega,fun i hi=>by rw [zae _ _ _ _ (by omega),I2 _ (by omega),H2 _ (by omega),D2 _ (by omega),B2 _ (by omega),A2 _ (by omega)];exact u0 i hi,?_⟩
  · simp (disch:=omega) only [resC,Tryd.results49,get_of,zaa];all_goals rfl
  · intro y hy
    have hG':∀ {l:List Nat} {m:Nat},(∀ x,x∈l→x∈([]:List Nat)∨(RG x∧x<m))→y∈l→RG y:=fun hh hm=>by
      rcases hh y hm with h|h
      · simp at h
      · exact h.1
    rcases zbv rfl y hy with hy|⟨hy,hyl⟩
    · rcases zbv rfl y hy with hy|⟨hy,hyl⟩
      · rcases zbv rfl y hy with hy|⟨hy,hyl⟩
        · rcases zbv rfl y hy with hy|⟨hy,hyl⟩
          · rcases zbv rfl y hy with hy|⟨hy,hyl⟩
            · exact hrd6 y hy
            · rcases A3 y hy with h|h
              · simp at h
              · exact h.1.elim
          · rcases B3 y hy with h|⟨rfl,h⟩
            · simp at h
            · omega
        · exact .inr ⟨hG' D3 hy,hyl⟩
      · exact .inr ⟨hG' H3 hy,hyl⟩
    · exact .inr ⟨hG' I3 hy,hyl⟩
end
section
open Go Go.RowKit
set_option maxRecDepth 100000
theorem yjt (x y:UInt32) (n:Nat):zkk (x ||| y) n=zkk x n ||| zkk y n:=by
 unfold zkk;apply UInt32.toBitVec_inj.1;show (x.toBitVec ||| y.toBitVec) <<< n=x.toBitVec <<< n ||| y.toBitVec <<< n
 exact BitVec.shiftLeft_or_distrib ..
theorem yhm (x:UInt32) (m n:Nat):zkk (zkk x m) n=zkk x (m+n):=by
 unfold zkk;apply UInt32.toBitVec_inj.1;show x.toBitVec <<< m <<< n=x.toBitVec <<< (m+n);exact (BitVec.shiftLeft_add ..).symm
theorem ydb (n:Nat):zkk 0 n=0:=by
 unfold zkk;apply UInt32.toBitVec_inj.1;show (0#32) <<< n=0#32;exact BitVec.zero_shiftLeft ..
theorem yg7 (bs:List UInt8) (t:Nat):zkk (bs.getD (4*t) 0).toUInt32 24 ||| zkk (bs.getD (4*t+1) 0).toUInt32 16 ||| zkk (bs.getD (4*t+2) 0).toUInt32 8 ||| (bs.getD (4*t+3) 0).toUInt32=word bs t 4:=by
 simp only [word,ydb,yjt,yhm,UInt32.zero_or,Nat.reduceAdd,Nat.add_zero]
set_option maxHeartbeats 4000000 in
theorem z69 (ax:Axs) (hp:zi5 ax) (bs:List UInt8) (fb ub off len cap:Nat) (n:Nat) (g:Nat→Fam) (lim:Nat) (rd wr:List Nat) (hl:lim≤n) (hb:BSl g n fb ub off len cap bs) (h64:len=64) :
    Ret Tryd.prog (EE ax) 71 [.slice (some (mkA fb ub off)) len cap] n g lim rd wr (fun i=>i=fb) (.agg (wvs (zaj bs 64)).toArray):=by
  have hax:ax 71=none:=hp _ (by decide);obtain ⟨cs,hrow,hcs⟩:=hb.row;have hbl:=hb.lt;have hbc:=hb.fits;refine Ret.of (fn:=Tryd.f71) 101 hax (fn71 ax) rfl Tryd.ntmps71 (by simp) ?_;simp (disch:=omega) only [zaz,za6,Nat.reduceAdd];repeat apply W.seq
  apply W.region
  · simp (disch:=first|omega | (simp (disch:=omega) [wE];done) | (apply zac;omega) | (apply zad;omega)) only [ti3,ti47,ti5,ti68,za9 (ti90 ax),wB0,wB1,wC];with_reducible rfl
  simp only [onN,onB];repeat apply W.seq
  apply W.region
  · simp (disch:=first|omega | (simp (disch:=omega) [wE];done) | (apply zac;omega) | (apply zad;omega)) only [ti3,ti47,ti5,ti68,za9 (ti90 ax),wB0,wB1,wC];with_reducible rfl
  simp only [onN,onB];have IG:=fun l=>zau (m:=lim) (f:=n+1) l (by omega);apply W.seq;refine W.cut (fun fr s=>∃ (t:Nat) (h:Nat→Value) (g':Nat→Fam) (rd':List Nat),t=16∧fr=Fr.of 101 h∧s=St (n+2) g' lim rd' wr∧h 0=.slice (some (mkA fb ub off)) len cap∧h 2=.pointer (some (mkA n (n*1024+0) 0))∧h 3=.pointer (some (mkA (n+1) ((n+1)*1024+0) 0))∧g' (n+1)=⟨false,[((n+1)*1024+0,wvs (zaj bs t))],none⟩∧g' n=⟨false,[(n*1024+0,List.replicate 64 (vw 0))],none⟩∧(∀ i,i<n→g' i=g i)∧(∀ x,x∈rd'→x∈rd∨(x=fb∧x<lim))) ?_ ?_
  · skip;repeat apply W.seq
    apply W.region
    · simp (disch:=first|omega | (simp (disch:=omega) [wE];done) | (apply zac;omega) | (apply zad;omega)) only [ti3,ti47,ti5,ti68,wB0,wB1,wC];with_reducible rfl
    simp only [onN,onB];repeat apply W.seq
    apply W.block;refine W.loop (fun m fr s=>∃ (t:Nat) (h:Nat→Value) (g':Nat→Fam) (rd':List Nat),t≤16∧m=16 - t∧fr=Fr.of 101 h∧s=St (n+2) g' lim rd' wr∧h 0=.slice (some (mkA fb ub off)) len cap∧h 2=.pointer (some (mkA n (n*1024+0) 0))∧h 3=.pointer (some (mkA (n+1) ((n+1)*1024+0) 0))∧h 4=.int .i64 (t:Int)∧g' (n+1)=⟨false,[((n+1)*1024+0,wvs (zaj bs t))],none⟩∧g' n=⟨false,[(n*1024+0,List.replicate 64 (vw 0))],none⟩∧(∀ i,i<n→g' i=g i)∧(∀ x,x∈rd'→x∈rd∨(x=fb∧x<lim))) ?_ (16 - 0) _ _ ⟨0,_,_,rd,by omega,rfl,rfl,rfl,?_,?_,?_,?_,?_,?_,?_,fun x hx=>.inl hx⟩
    case refine_2=>simp (disch:=omega) only [zaa,zab]
    case refine_3=>simp (disch:=omega) only [zaa,zab]
    case refine_4=>simp (disch:=omega) only [zaa,zab]
    case refine_5=>simp (disch:=omega) only [zaa,zab];rfl
    case refine_6=>rw [zaf];rfl
    case refine_7=>rw [zae _ _ _ _ (by omega),zaf];rfl
    case refine_8=>intro i hi;rw [zae _ _ _ _ (by omega),zae _ _ _ _ (by omega)]
    rintro m fr s ⟨t,h,g',rd',ht,rfl,rfl,rfl,h0,h2,h3,h4,hw,hz,hg,hrd⟩;repeat apply W.seq
    apply W.region
    · simp (disch:=first|omega | (simp (disch:=omega) [wE,h4];done) | (apply zac;omega) | (apply zad;omega)) only [ti3,ti47,ti5,ti68,zgt,h4,wB0,wB1,wC];with_reducible rfl
    simp only [onN,onB];by_cases hlt:(t:Int)<16
    case neg =>
      repeat apply W.seq
      refine W.cond (b:=false) ?_ ?_
      · simp (disch:=omega) only [zaw,get_of,zaa,zab,hlt,decide_true,decide_false]
      simp only [cond_true,cond_false];apply W.exit;simp only [onN,onB,Nat.beq_refl,cond_true];exact ⟨by first|rfl|trivial,t,_,g',rd',by omega,rfl,rfl,by simp (disch:=omega) only [zaa,zab,h0],by simp (disch:=omega) only [zaa,zab,h2],by simp (disch:=omega) only [zaa,zab,h3],hw,hz,hg,hrd⟩
    have htl:t<16:=by omega
    repeat apply W.seq
    refine W.cond (b:=true) ?_ ?_
    · simp (disch:=omega) only [zaw,get_of,zaa,zab,hlt,decide_true,decide_false]
    simp only [cond_true,cond_false];apply W.skip;simp only [onN,onB];have c0:(4:Int)*(t:Int)=((4*t:Nat):Int):=by omega
    have c1:((4*t:Nat):Int)+1=((4*t+1:Nat):Int):=by omega
    have c2:((4*t:Nat):Int)+2=((4*t+2:Nat):Int):=by omega
    have c3:((4*t:Nat):Int)+3=((4*t+3:Nat):Int):=by omega
    have LB:=fun (k:Nat) (hk:k<64)=>ld_q (n:=n+2) (ti5 ax) rfl (g:=g') (f:=fb) (u:=ub) (off:=off+k) (cs:=cs) (by rw [hg fb hbl];exact hrow) (hcs k (by omega)) (by omega);have C1:=fun v hv=>st_q (n:=n+2) (ti68 ax) (g:=g') (f:=n+1) (u:=(n+1)*1024+0) (off:=0+t) (v:=v) hw (by rw [zav,zba];omega) hv (by omega);repeat apply W.seq
    apply W.block;repeat apply W.seq
    apply W.last
    · kernel_rfl
    · simp (disch:=first|omega | (simp (disch:=omega) [wE,h0,h3,h4];done) | (apply zac;omega) | (apply zad;omega) | (rw [c0];apply zac;omega) | (rw [c1];apply zac;omega) | (rw [c2];apply zac;omega) | (rw [c3];apply zac;omega)) only [ti3,ti47,ti5,ti68,zcd,zcs,zbq,zdj,zgl,zdq,zb8,zbn,h0,h3,h4,znv,c0,zd0,c1,c2,c3,za5,zuv (ti43 ax) (ti5 ax) (show 4*t<len by omega),zuv (ti43 ax) (ti5 ax) (show 4*t+1<len by omega),zuv (ti43 ax) (ti5 ax) (show 4*t+2<len by omega),zuv (ti43 ax) (ti5 ax) (show 4*t+3<len by omega),LB (4*t) (by omega),LB (4*t+1) (by omega),LB (4*t+2) (by omega),LB (4*t+3) (by omega),yb3 (ti5 ax) (ti68 ax),z5x,yew,zao (ti90 ax) (ti68 ax) (show t<64 by omega),zhf,yg7 bs t,C1 _ (zrc _),IG,wB0,wB1,wC];with_reducible rfl
    simp only [onN,onB];repeat apply W.seq
    apply W.region
    · simp (disch:=first|omega | (simp (disch:=omega) [wE,h4];done) | (apply zac;omega) | (apply zad;omega)) only [ti3,ti47,ti5,ti68,zd0,h4,wB0,wB1,wC];with_reducible rfl
    simp only [onN,onB];refine ⟨16 - (t+1),by omega,t+1,_,_,_,by omega,rfl,rfl,rfl,?_,?_,?_,?_,?_,?_,?_,?_⟩
    · simp (disch:=omega) only [zaa,zab,h0]
    · simp (disch:=omega) only [zaa,zab,h2]
    · simp (disch:=omega) only [zaa,zab,h3]
    · simp (disch:=omega) only [zaa,zab];rfl
    · rw [zaf,Nat.zero_add,zm3,zaj,if_pos (by omega)]
    · rw [zae _ _ _ _ (by omega)];exact hz
    · intro i hi;rw [zae _ _ _ _ (by omega)];exact hg i hi
    · intro x hx;rcases zcf hx with hx|hx
      · rcases zcf hx with hx|hx
        · rcases zcf hx with hx|hx
          · rcases zcf hx with hx|hx
            · exact hrd x hx
            · exact .inr hx
          · exact .inr hx
        · exact .inr hx
      · exact .inr hx
  rintro fr s ⟨t,h,g',rd',rfl,rfl,rfl,h0,h2,h3,hw,hz,hg,hrd⟩;apply W.seq;refine W.cut (fun fr s=>∃ (t:Nat) (h:Nat→Value) (g':Nat→Fam) (rd':List Nat),t=64∧fr=Fr.of 101 h∧s=St (n+2) g' lim rd' wr∧h 0=.slice (some (mkA fb ub off)) len cap∧h 2=.pointer (some (mkA n (n*1024+0) 0))∧h 3=.pointer (some (mkA (n+1) ((n+1)*1024+0) 0))∧g' (n+1)=⟨false,[((n+1)*1024+0,wvs (zaj bs t))],none⟩∧g' n=⟨false,[(n*1024+0,List.replicate 64 (vw 0))],none⟩∧(∀ i,i<n→g' i=g i)∧(∀ x,x∈rd'→x∈rd∨(x=fb∧x<lim))) ?_ ?_
  · skip;repeat apply W.seq
    apply W.region
    · simp (disch:=first|omega | (simp (disch:=omega) [wE];done) | (apply zac;omega) | (apply zad;omega)) only [ti3,ti47,ti5,ti68,wB0,wB1,wC];with_reducible rfl
    simp only [onN,onB];repeat apply W.seq
    apply W.block;refine W.loop (fun m fr s=>∃ (t:Nat) (h:Nat→Value) (g':Nat→Fam) (rd':List Nat),16≤t∧t≤64∧m=64 - t∧fr=Fr.of 101 h∧s=St (n+2) g' lim rd' wr∧h 0=.slice (some (mkA fb ub off)) len cap∧h 2=.pointer (some (mkA n (n*1024+0) 0))∧h 3=.pointer (some (mkA (n+1) ((n+1)*1024+0) 0))∧h 5=.int .i64 (t:Int)∧g' (n+1)=⟨false,[((n+1)*1024+0,wvs (zaj bs t))],none⟩∧g' n=⟨false,[(n*1024+0,List.replicate 64 (vw 0))],none⟩∧(∀ i,i<n→g' i=g i)∧(∀ x,x∈rd'→x∈rd∨(x=fb∧x<lim))) ?_ (64 - 16) _ _ ⟨16,_,_,rd',by omega,by omega,rfl,rfl,rfl,?_,?_,?_,?_,hw,hz,hg,hrd⟩
    case refine_2=>simp (disch:=omega) only [zaa,zab,h0]
    case refine_3=>simp (disch:=omega) only [zaa,zab,h2]
    case refine_4=>simp (disch:=omega) only [zaa,zab,h3]
    case refine_5=>simp (disch:=omega) only [zaa,zab];rfl
    clear h0 h2 h3 hw hz hg hrd;rintro m fr s ⟨t,h,g',rd',ht16,ht,rfl,rfl,rfl,h0,h2,h3,h5,hw,hz,hg,hrd⟩;repeat apply W.seq
    apply W.region
    · simp (disch:=first|omega | (simp (disch:=omega) [wE,h5];done) | (apply zac;omega) | (apply zad;omega)) only [ti3,ti47,ti5,ti68,zgt,h5,wB0,wB1,wC];with_reducible rfl
    simp only [onN,onB];by_cases hlt:(t:Int)<64
    case neg =>
      repeat apply W.seq
      refine W.cond (b:=false) ?_ ?_
      · simp (disch:=omega) only [zaw,get_of,zaa,zab,hlt,decide_true,decide_false]
      simp only [cond_true,cond_false];apply W.exit;simp only [onN,onB,Nat.beq_refl,cond_true];exact ⟨by first|rfl|trivial,t,_,g',rd',by omega,rfl,rfl,by simp (disch:=omega) only [zaa,zab,h0],by simp (disch:=omega) only [zaa,zab,h2],by simp (disch:=omega) only [zaa,zab,h3],hw,hz,hg,hrd⟩
    have htl:t<64:=by omega
    repeat apply W.seq
    refine W.cond (b:=true) ?_ ?_
    · simp (disch:=omega) only [zaw,get_of,zaa,zab,hlt,decide_true,decide_false]
    simp only [cond_true,cond_false];apply W.skip;simp only [onN,onB];have c15:(t:Int) - 15=((t - 15:Nat):Int):=by omega
    have c2:(t:Int) - 2=((t - 2:Nat):Int):=by omega
    have c16:(t:Int) - 16=((t - 16:Nat):Int):=by omega
    have c7:(t:Int) - 7=((t - 7:Nat):Int):=by omega
    have LQ:=fun (k:Nat) (hk:k<64)=>ld_q (n:=n+2) (ti68 ax) rfl (g:=g') (f:=n+1) (u:=(n+1)*1024+0) (off:=0+k) (cs:=wvs (zaj bs t)) (by rw [hw];exact zah) (by rw [Nat.zero_add];exact zdi (by rw [zba];exact hk)) (by omega);have R7:∀ x s,za0 Tryd.prog (EE ax) 72 [vw x,.int .i64 7] s=some (vw (zdf x 7),s):=fun x s=>zhd ax hp x 7 (by omega) (by omega) s;have R18:∀ x s,za0 Tryd.prog (EE ax) 72 [vw x,.int .i64 18] s=some (vw (zdf x 18),s):=fun x s=>zhd ax hp x 18 (by omega) (by omega) s;have R17:∀ x s,za0 Tryd.prog (EE ax) 72 [vw x,.int .i64 17] s=some (vw (zdf x 17),s):=fun x s=>zhd ax hp x 17 (by omega) (by omega) s;have R19:∀ x s,za0 Tryd.prog (EE ax) 72 [vw x,.int .i64 19] s=some (vw (zdf x 19),s):=fun x s=>zhd ax hp x 19 (by omega) (by omega) s;repeat apply W.seq
    apply W.block;repeat apply W.seq
    apply W.quiet
    · simp (disch:=first|omega | (simp (disch:=omega) [wE,h3,h5];done) | (apply zac;omega) | (apply zad;omega)) only [ti3,ti47,ti5,ti68,ze2,zgf,zbq,zgc,zkd,h3,h5,zlo,c15,za5,zao (ti90 ax) (ti68 ax) (show t - 15<64 by omega),LQ (t - 15) (by omega),R7,R18,zof,zq3,IG,wB0,wB1,wC];with_reducible rfl
    simp only [onN,onB];repeat apply W.seq
    apply W.quiet
    · simp (disch:=first|omega | (simp (disch:=omega) [wE,h3,h5];done) | (apply zac;omega) | (apply zad;omega)) only [ti3,ti47,ti5,ti68,ze2,zgf,zbq,zgc,zkd,h3,h5,zlo,c2,za5,zao (ti90 ax) (ti68 ax) (show t - 2<64 by omega),LQ (t - 2) (by omega),R17,R19,zof,zq3,IG,wB0,wB1,wC];with_reducible rfl
    simp only [onN,onB];have C1:=fun v hv=>st_q (n:=n+2) (ti68 ax) (g:=g') (f:=n+1) (u:=(n+1)*1024+0) (off:=0+t) (v:=v) hw (by rw [zav,zba];omega) hv (by omega);repeat apply W.seq
    apply W.last
    · kernel_rfl
    · simp (disch:=first|omega | (simp (disch:=omega) [wE,h3,h5];done) | (apply zac;omega) | (apply zad;omega)) only [ti3,ti47,ti5,ti68,zcd,zcs,zbq,zdj,zgl,zdq,zb8,zbn,h3,h5,zlo,c16,c7,za5,zao (ti90 ax) (ti68 ax) (show t - 16<64 by omega),zao (ti90 ax) (ti68 ax) (show t - 7<64 by omega),zao (ti90 ax) (ti68 ax) htl,LQ (t - 16) (by omega),LQ (t - 7) (by omega),IG,zk4,zhf,C1 _ (zrc _),wB0,wB1,wC];with_reducible rfl
    simp only [onN,onB];repeat apply W.seq
    apply W.region
    · simp (disch:=first|omega | (simp (disch:=omega) [wE,h5];done) | (apply zac;omega) | (apply zad;omega)) only [ti3,ti47,ti5,ti68,zd0,h5,wB0,wB1,wC];with_reducible rfl
    simp only [onN,onB];refine ⟨64 - (t+1),by omega,t+1,_,_,rd',by omega,by omega,rfl,rfl,rfl,?_,?_,?_,?_,?_,?_,?_,hrd⟩
    · simp (disch:=omega) only [zaa,zab,h0]
    · simp (disch:=omega) only [zaa,zab,h2]
    · simp (disch:=omega) only [zaa,zab,h3]
    · simp (disch:=omega) only [zaa,zab];rfl
    · rw [zaf,Nat.zero_add,zm3,zaj,if_neg (by omega)];rfl
    · rw [zae _ _ _ _ (by omega)];exact hz
    · intro i hi;rw [zae _ _ _ _ (by omega)];exact hg i hi
  clear h0 h2 h3 hw hz hg hrd;rintro fr s ⟨t,h,g',rd',rfl,rfl,rfl,h0,h2,h3,hw,hz,hg,hrd⟩;have L1:=ze5 (n:=n+2) (lim:=lim) (rd:=rd') (wr:=wr) (ti90 ax) rfl (g:=g') (f:=n+1) (u:=(n+1)*1024+0) (cs:=wvs (zaj bs 64)) (by rw [hw];exact zah) (by rw [zav,zba]);rw [zau (f:=n+1) _ (by omega)] at L1;have S1:=zen (n:=n+2) (lim:=lim) (rd:=rd') (wr:=wr) (ti90 ax) (f:=n) (u:=n*1024+0) (vs:=wvs (zaj bs 64)) hz (by rw [zav,zba]) (by simp) (zin _);rw [zau (f:=n) _ (by omega)] at S1;repeat apply W.seq
  apply W.region
  · simp (disch:=first|omega | (simp (disch:=omega) [wE,h2,h3];done) | (apply zac;omega) | (apply zad;omega)) only [ti3,ti47,ti5,ti68,h2,h3,L1,zas,S1,wB0,wB1,wC];with_reducible rfl
  simp only [onN,onB];apply W.ret;refine ⟨.inr rfl,n+2,fupd g' n ⟨false,[(n*1024+0,wvs (zaj bs 64))],none⟩,rd',?_,by omega,fun i hi=>by rw [zae _ _ _ _ (by omega)];exact hg i hi,hrd⟩;have L2:=ze5 (n:=n+2) (lim:=lim) (rd:=rd') (wr:=wr) (ti90 ax) rfl (g:=fupd g' n ⟨false,[(n*1024+0,wvs (zaj bs 64))],none⟩) (f:=n) (u:=n*1024+0) (cs:=wvs (zaj bs 64)) (by rw [zaf];exact zah) (by rw [zav,zba]);rw [zau (f:=n) _ (by omega)] at L2;simp (disch:=first|omega | (simp (disch:=omega) only [get_of,zaa,zab,h2];done)) only [ze0 (ad:=mkA n (n*1024+0) 0),zgr,Tryd.results71,L2,zb5,zcn]
end
section
open Go Go.RowKit
set_option maxRecDepth 100000
theorem zhz.first2 {g g':Nat→Fam} {n N len cap lim:Nat} {rd wr:List Nat} {x:Option Addr} {bs:List UInt8} (h:zhz g n x len bs) (hg:∀ i,i<n→g' i=g i) :
    ∃ rd',CS.firstCells (St N g' lim rd wr) 1 len (.slice x len cap)=some (bvs bs,St N g' lim rd' wr)∧∀ y,y∈rd'→y∈rd∨((RB x y∧y<n)∧y<lim):=by
  obtain ⟨h1,h⟩:=h;by_cases h0:len=0
  · subst h0;have:bs=[]:=List.eq_nil_of_length_eq_zero h1;subst this;exact ⟨rd,zo6 (by simp),fun y hy=>.inl hy⟩
  · rcases h with h|⟨f,u,off,cs,rfl,hf,hr,hl,hc⟩
    · exact absurd h h0
    · refine ⟨ins lim rd f,?_,fun y hy=>?_⟩
      · rw [zn4 (cs:=cs) (by rw [hg f hf];exact hr) (by omega) (by omega),Nat.mul_one,hc]
      · rcases zcf hy with hy|hy
        · exact .inl hy
        · exact .inr ⟨⟨⟨_,rfl,by rw [zdc];exact hy.1.symm⟩,by omega⟩,hy.2⟩
theorem z6z {Γ:Env} {ρ:Operand→Value} {n lim:Nat} {g:Nat→Fam} {rd wr:List Nat} {t e:TypeId} {z b:Nat} {zs:List Value} {j:TI} (ht:Γ.ti.at t=some ⟨.slice e,z,b,zs⟩) (he:Γ.ti.at e=some j) (hj:j.size=1) :
    za4 Γ (St n g lim rd wr) ρ t 0 []=some (.slice (some (mkA n (n*1024+0) 0)) 0 0,St (n+1) (fupd g n ⟨false,[(n*1024+0,[])],none⟩) lim rd wr):=by
  unfold za4 zb7;rw [ht];simp only [he,hj,zd4];simp [zl0,zm9,zhp,zdy,zcl,zgz]
set_option maxHeartbeats 2000000 in
theorem z6j (ax:Axs) (hp:zi5 ax) (x:Option Addr) (len cap:Nat) (bs:List UInt8) (hlen:len<100000000) (n:Nat) (g:Nat→Fam) (lim:Nat) (rd wr:List Nat) (hl:lim≤n) (hb:zhz g n x len bs) :
    ∃ ao n' g' rd',za0 Tryd.prog (EE ax) 70 [.slice x len cap] (St n g lim rd wr)=some (.slice ao (bs++padB len).length (bs++padB len).length,St n' g' lim rd' wr)∧OwnX n g' n' 1 ao (bs++padB len).length (bvs (bs++padB len))∧n≤n'∧(∀ i,i<n→g' i=g i)∧(∀ y,y∈rd'→y∈rd∨((RB x y∧y<n)∧y<lim)):=by
  have hax:ax 70=none:=hp _ (by decide);have hbl:=hb.1
  suffices hh:∃ v s2,za0 Tryd.prog (EE ax) 70 [.slice x len cap] (St n g lim rd wr)=some (v,s2)∧∃ ao n' g' rd',v=.slice ao (bs++padB len).length (bs++padB len).length∧s2=St n' g' lim rd' wr∧OwnX n g' n' 1 ao (bs++padB len).length (bvs (bs++padB len))∧n≤n'∧(∀ i,i<n→g' i=g i)∧(∀ y,y∈rd'→y∈rd∨((RB x y∧y<n)∧y<lim)) by
    obtain ⟨v,s2,h1,ao,n',g',rd',rfl,rfl,h2⟩:=hh;exact ⟨ao,n',g',rd',h1,h2⟩
  refine zf1 (fn:=Tryd.f70) 37 hax (fn70 ax) rfl Tryd.ntmps70 (by simp) ?_;simp (disch:=omega) only [zaz,za6,Nat.reduceAdd];repeat apply W.seq
  apply W.region
  · simp (disch:=first|omega | (simp (disch:=omega) [wE];done) | (apply zac;omega) | (apply zad;omega)) only [ti3,ti47,ti5,ti68,ti63,wB0,wB1,wC];with_reducible rfl
  simp only [onN,onB];generalize hg0:fupd g n ⟨false,[(n*1024+0,[])],none⟩=g0;have z0:OwnX n g0 (n+1) 1 (some (mkA n (n*1024+0) 0)) 0 []:=.inr ⟨rfl,n,n*1024+0,[],rfl,by rw [← hg0,zaf],by omega,by omega,by omega,by omega⟩;have p0:∀ i,i<n→g0 i=g i:=fun i hi=>by rw [← hg0,zae _ _ _ _ (by omega)]
  obtain ⟨rd1,ec,hrd1⟩:=hb.first2 (N:=n+1) (g':=g0) (lim:=lim) (rd:=rd) (wr:=wr) (cap:=cap) p0;obtain ⟨ao1,n1,g1,e1,o1,a1,a2,a3⟩:=z0.append (bytes:=1) (k:=len) (y:=.slice x len cap) (by omega) hl rfl ec (by rw [zam];omega) (zfa _) (by omega) (by omega);rw [List.nil_append,Nat.zero_add] at o1;simp only [Nat.zero_add] at e1;repeat apply W.seq
  apply W.region
  · simp (disch:=first|omega | (simp (disch:=omega) [wE];done) | (apply zac;omega) | (apply zad;omega)) only [ti3,ti47,ti5,ti68,ti63,z6z (ti43 ax) (ti5 ax) rfl,hg0,zc8 (zlf ax),zj9 (zms ax),e1,wB0,wB1,wC];with_reducible rfl
  simp only [onN,onB];have c128:Value.int .u8 128=vb 128:=rfl;have c0:Value.int .u8 0=vb 0:=rfl;obtain ⟨ao2,n2,g2,e2,o2,b1,b2,b3⟩:=OwnX.push (lim:=lim) (bytes:=1) (rd:=rd1) (wr:=wr) (v:=vb 128) o1 (by omega) hl rfl (by omega);repeat apply W.seq
  apply W.region
  · simp (disch:=first|omega | (simp (disch:=omega) [wE,zlz,c128,zfw];done) | (apply zac;omega) | (apply zad;omega)) only [ti3,ti47,ti5,ti68,ti63,zc8 (zlf ax),zed (ti43 ax) (ti5 ax) rfl rfl,zj9 (zms ax),c128,e2,wB0,wB1,wC];with_reducible rfl
  simp only [onN,onB]
  have o2':OwnX n g2 n2 1 ao2 (len+1) (bvs (bs++128 :: List.replicate 0 0)):=by
    have:bvs (bs++128 :: List.replicate 0 0)=bvs bs++[vb 128]:=by rw [zd7];rfl
    rw [this];exact o2
  repeat apply W.seq
  apply W.block;refine W.loop (fun m fr s=>∃ (z:Nat) (ao:Option Addr) (h:Nat→Value) (n':Nat) (g':Nat→Fam),z≤zgb len∧m=zgb len - z∧fr=Fr.of 37 h∧s=St n' g' lim rd1 wr∧n≤n'∧h 0=.slice x len cap∧h 3=.slice ao (len+1+z) (len+1+z)∧OwnX n g' n' 1 ao (len+1+z) (bvs (bs++128 :: List.replicate z 0))∧(∀ i,i<n→g' i=g i)) ?_ (zgb len - 0) _ _ ⟨0,ao2,_,n2,g2,Nat.zero_le _,rfl,rfl,rfl,by omega,?_,?_,o2',fun i hi=>by rw [b3 _ (by omega),a3 _ (by omega)];exact p0 i hi⟩
  case refine_2=>simp (disch:=omega) only [zaa,zab]
  case refine_3=>simp (disch:=omega) only [zaa,zab,Nat.add_zero]
  clear e1 e2 o1 o2 o2' z0 ec;rintro m fr s ⟨z,ao,h,n',g',hz,rfl,rfl,rfl,hn,h0,h3,hown,hg⟩;have cr:((len+1+z:Nat):Int) % 64=(((len+1+z) % 64:Nat):Int):=by omega
  have hz64:z<64:=by unfold zgb at hz;omega
  repeat apply W.seq
  apply W.region
  · simp (disch:=first|omega | (simp (disch:=omega) [wE,h3];done) | (apply zac;omega) | (apply zad;omega)) only [ti3,ti47,ti5,ti68,ti63,h3,zsg (ti43 ax),zui,cr,yfu,wB0,wB1,wC];with_reducible rfl
  simp only [onN,onB];by_cases hend:z=zgb len
  case neg =>
    have x1:decide ((((len+1+z) % 64:Nat):Int)≠56)=true:=decide_eq_true (by unfold zgb at hz hend;omega);repeat apply W.seq
    refine W.cond (b:=true) ?_ ?_
    · simp (disch:=omega) only [zaw,get_of,zaa,zab,x1,decide_true,decide_false]
    simp only [cond_true,cond_false];apply W.skip;simp only [onN,onB];obtain ⟨ao',m2,G2,e1,o1,d1,d2,d3⟩:=OwnX.push (lim:=lim) (bytes:=1) (rd:=rd1) (wr:=wr) (v:=vb 0) hown (by omega) hl rfl (by omega);repeat apply W.seq
    apply W.block;repeat apply W.seq
    apply W.region
    · simp (disch:=first|omega | (simp (disch:=omega) [wE,h3,zlz,c0,zfw];done) | (apply zac;omega) | (apply zad;omega)) only [ti3,ti47,ti5,ti68,ti63,h3,zc8 (zlf ax),zed (ti43 ax) (ti5 ax) rfl rfl,zj9 (zms ax),c0,e1,wB0,wB1,wC];with_reducible rfl
    simp only [onN,onB];refine ⟨zgb len - (z+1),by omega,z+1,ao',_,m2,G2,by omega,rfl,rfl,rfl,by omega,?_,?_,?_,fun i hi=>by rw [d3 _ (by omega)];exact hg i hi⟩
    · simp (disch:=omega) only [zaa,zab,h0]
    · simp (disch:=omega) only [zaa,zab];rfl
    · have:bvs (bs++128 :: List.replicate (z+1) 0)=bvs (bs++128 :: List.replicate z 0)++[vb 0]:=by
        rw [List.replicate_succ',← List.cons_append,← List.append_assoc,zd7];rfl
      rw [this];exact o1
  have x1:decide ((((len+1+z) % 64:Nat):Int)≠56)=false:=decide_eq_false (by unfold zgb at hend;omega);repeat apply W.seq
  refine W.cond (b:=false) ?_ ?_
  · simp (disch:=omega) only [zaw,get_of,zaa,zab,x1,decide_true,decide_false]
  simp only [cond_true,cond_false];apply W.exit;simp only [onN,onB,Nat.beq_refl,cond_true,cond_false,zmt];have cu:IntKind.u64.wrap ((len:Nat):Int)=((len:Nat):Int):=zad (by omega);repeat apply W.seq
  apply W.region
  · simp (disch:=first|omega | (simp (disch:=omega) [wE,h0];done) | (apply zac;omega) | (apply zad;omega)) only [ti3,ti47,ti5,ti68,ti63,h0,zsg (ti43 ax),zak,ti3,ti63,zho,cu,znv,q_of len (by omega),wB0,wB1,wC];with_reducible rfl
  simp only [onN,onB];repeat apply W.seq
  apply W.region
  · simp (disch:=first|omega | (simp (disch:=omega) [wE];done) | (apply zac;omega) | (apply zad;omega)) only [ti3,ti47,ti5,ti68,ti63,wB0,wB1,wC];with_reducible rfl
  simp only [onN,onB];repeat apply W.seq
  apply W.block;refine W.loop (fun m fr s=>∃ (i:Nat) (ao:Option Addr) (h:Nat→Value) (n':Nat) (g':Nat→Fam),i≤8∧m=8 - i∧fr=Fr.of 37 h∧s=St n' g' lim rd1 wr∧n≤n'∧h 4=vq (UInt64.ofNat (8*len))∧h 3=.slice ao (len+1+z+i) (len+1+z+i)∧h 5=.int .i64 (i:Int)∧OwnX n g' n' 1 ao (len+1+z+i) (bvs (bs++(128 :: List.replicate z 0++lens len i)))∧(∀ i,i<n→g' i=g i)) ?_ (8 - 0) _ _ ⟨0,ao,_,_,_,by omega,rfl,rfl,rfl,hn,?_,?_,?_,?_,hg⟩
  case refine_2=>simp (disch:=omega) only [zaa,zab]
  case refine_3=>simp (disch:=omega) only [zaa,zab,h3];rfl
  case refine_4=>simp (disch:=omega) only [zaa,zab];rfl
  case refine_5=>rw [lens,List.append_nil];exact hown
  clear h0 h3 hown hg;rintro m fr s ⟨i,ao,h,n',g',hi,rfl,rfl,rfl,hn,h4,h3,h5,hown,hg⟩;repeat apply W.seq
  apply W.region
  · simp (disch:=first|omega | (simp (disch:=omega) [wE,h5];done) | (apply zac;omega) | (apply zad;omega)) only [ti3,ti47,ti5,ti68,ti63,zgt,h5,wB0,wB1,wC];with_reducible rfl
  simp only [onN,onB];by_cases hi8:(i:Int)<8
  case pos =>
    repeat apply W.seq
    refine W.cond (b:=true) ?_ ?_
    · simp (disch:=omega) only [zaw,get_of,zaa,zab,hi8,decide_true,decide_false]
    simp only [cond_true,cond_false];apply W.skip;simp only [onN,onB];have c1:(8:Int)*((i:Nat):Int)=((8*i:Nat):Int):=by omega
    have c2:(56:Int) - ((8*i:Nat):Int)=((56 - 8*i:Nat):Int):=by omega
    obtain ⟨ao',m2,G2,e1,o1,d1,d2,d3⟩:=OwnX.push (lim:=lim) (bytes:=1) (rd:=rd1) (wr:=wr) (v:=vb (lenB len i)) hown (by omega) hl rfl (by omega);unfold lenB at e1;repeat apply W.seq
    apply W.block;repeat apply W.seq
    apply W.region
    · simp (disch:=first|omega | (simp (disch:=omega) [wE,h3,h4,h5,zfw];done) | (apply zac;omega) | (apply zad;omega) | (rw [c1];apply zac;omega) | (rw [c2];apply zac;omega)) only [ti3,ti47,ti5,ti68,ti63,h3,h4,h5,znv,c1,zlo,c2,ygp,yb2 (ti63 ax) (ti5 ax),zc8 (zlf ax),zed (ti43 ax) (ti5 ax) rfl rfl,zj9 (zms ax),e1,wB0,wB1,wC];with_reducible rfl
    simp only [onN,onB];repeat apply W.seq
    apply W.region
    · simp (disch:=first|omega | (simp (disch:=omega) [wE,h5];done) | (apply zac;omega) | (apply zad;omega)) only [ti3,ti47,ti5,ti68,ti63,zd0,h5,wB0,wB1,wC];with_reducible rfl
    simp only [onN,onB];refine ⟨8 - (i+1),by omega,i+1,ao',_,m2,G2,by omega,rfl,rfl,rfl,by omega,?_,?_,?_,?_,fun i hi=>by rw [d3 _ (by omega)];exact hg i hi⟩
    · simp (disch:=omega) only [zaa,zab,h4]
    · simp (disch:=omega) only [zaa,zab];rfl
    · simp (disch:=omega) only [zaa,zab];rfl
    · rw [lens,← List.append_assoc,← List.append_assoc,zd7,List.append_assoc];exact o1
  repeat apply W.seq
  refine W.cond (b:=false) ?_ ?_
  · simp (disch:=omega) only [zaw,get_of,zaa,zab,hi8,decide_true,decide_false]
  simp only [cond_true,cond_false];apply W.exit;simp only [onN,onB,Nat.beq_refl,cond_true,cond_false,zmt];have hi':i=8:=by omega
  subst hi';have hpad:128 :: List.replicate z 0++lens len 8=padB len:=by rw [hend];rfl
  rw [hpad] at hown;have hpl:(bs++padB len).length=len+1+z+8:=by rw [List.length_append,znt,hend,hbl];omega
  repeat apply W.seq
  apply W.region
  · simp (disch:=first|omega | (simp (disch:=omega) [wE,h3];done) | (apply zac;omega) | (apply zad;omega)) only [ti3,ti47,ti5,ti68,ti63,h3,wB0,wB1,wC];with_reducible rfl
  simp only [onN,onB];apply W.ret;refine ⟨.inr rfl,[.slice ao (len+1+z+8) (len+1+z+8)],St n' g' lim rd1 wr,?_,ao,n',g',rd1,by rw [hpl];rfl,rfl,by rw [hpl];exact hown,hn,hg,hrd1⟩;simp (disch:=omega) only [resC,Tryd.results70,get_of,zaa];all_goals rfl
end
end Go.Proofs.YtcgdomhednbdpaaDoor
