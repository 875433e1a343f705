/- Part 7 of the proof of SignChecksEverything (several texts in one; no further condition). -/
import Derived.Test.YtcgdomhednbdpaaDoorZF
import Derived.Laws.BitsLemmas
import Derived.Test.YtcgdomhednbdpaaDoorZC
import Derived.Laws.Bits64
import Derived.Test.YtcgdomhednbdpaaDoorZE
set_option linter.unusedSimpArgs false
set_option linter.unusedVariables false
set_option linter.unusedSectionVars false
namespace Go.Proofs.YtcgdomhednbdpaaDoor
section
open Go Go.RowKit
set_option maxRecDepth 100000
theorem yi8 (x:UInt32):x ^^^ 4294967295 = ~~~x:=by
 apply UInt32.toBitVec_inj.1;show x.toBitVec ^^^ 4294967295#32 = ~~~x.toBitVec;have:(4294967295#32)=BitVec.allOnes 32:=by decide
 rw [this,BitVec.xor_allOnes]
def smW (s v:List UInt32):Nat→List UInt32
 |0=>s
 |i+1=>(smW s v i).set i ((smW s v i).getD i 0+v.getD i 0)
theorem z8c (s v:List UInt32):∀ i,(smW s v i).length=s.length
 |0=>rfl
 |i+1=>by rw [smW,List.length_set,z8c s v i]
theorem yjp (s V E:List UInt32) (hs:s.length=8) (hV:V.length=4) (hE:E.length=4):smW s (V++E) 8=fin s V E 4:=by
 obtain ⟨a,b,c,d,e,f,g,k,rfl⟩:=len8 hs;obtain ⟨v0,v1,v2,v3,rfl⟩:=len4 hV;obtain ⟨e0,e1,e2,e3,rfl⟩:=len4 hE;rfl
theorem z60 {Γ:Env} {s:CS} {ρ:Operand→Value} {ty e:TypeId} {b2 b3:Nat} {z0 z1 z2 z3 z4 z5 z6 z7:Value} {z8:List Value} {d:TypeDesc} {x0 x1 x2 x3 x4 x5 x6 x7:Operand} (ha:Γ.ti.at ty=some ⟨.array 8 e,8,b2,[z0,z1,z2,z3,z4,z5,z6,z7]⟩) (he:Γ.ti.at e=some ⟨d,1,b3,z8⟩) (h0:(ρ x0).cells=#[ρ x0]) (h1:(ρ x1).cells=#[ρ x1]) (h2:(ρ x2).cells=#[ρ x2]) (h3:(ρ x3).cells=#[ρ x3]) (h4:(ρ x4).cells=#[ρ x4]) (h5:(ρ x5).cells=#[ρ x5]) (h6:(ρ x6).cells=#[ρ x6]) (h7:(ρ x7).cells=#[ρ x7]) :
    zdn Γ s ρ ty [(0,x0),(1,x1),(2,x2),(3,x3),(4,x4),(5,x5),(6,x6),(7,x7)]=some (.agg #[ρ x0,ρ x1,ρ x2,ρ x3,ρ x4,ρ x5,ρ x6,ρ x7],s):=by
  unfold zdn;rw [ha];simp only [he,zd4,zeo,h0,h1,h2,h3,h4,h5,h6,h7];rfl
set_option maxHeartbeats 8000000 in
theorem ydi (ax:Axs) (hp:zi5 ax) (x:Option Addr) (len cap:Nat) (bs:List UInt8) (hlen:len<10000000) (n:Nat) (g:Nat→Fam) (lim:Nat) (rd wr:List Nat) (hl:lim≤n) (hb:zhz g n x len bs) (hG:0<n) (hk:zat (g 0).rows (0*1024)=some (wvs KW)) :
    Ret Tryd.prog (EE ax) 65 [.slice x len cap] n g lim rd wr (fun y=>y=0∨(RB x y∧y<n)) (.agg (bvs (sha bs)).toArray):=by
  have hax:ax 65=none:=hp _ (by decide);have hbl:=hb.1;refine Ret.of (fn:=Tryd.f65) 148 hax (fn65 ax) rfl Tryd.ntmps65 (by simp) ?_;simp (disch:=omega) only [zaz,za6,Nat.reduceAdd];repeat apply W.seq
  apply W.region
  · simp (disch:=first|omega | (simp (disch:=omega) [wE];done) | (apply zac;omega) | (apply zad;omega)) only [ti3,ti47,ti5,ti68,ti63,za9 (ti76 ax),wB0,wB1,wC];with_reducible rfl
  simp only [onN,onB];have S1:=zen (n:=n+1+1) (lim:=lim) (rd:=rd) (wr:=wr) (ti69 ax) (g:=fupd (fupd g n ⟨false,[(n*1024+0,List.replicate 32 (.int .u8 0))],none⟩) (n+1) ⟨false,[((n+1)*1024+0,List.replicate 8 (.int .u32 0))],none⟩) (f:=n+1) (u:=(n+1)*1024+0) (vs:=wvs IVW) (zaf _ _ _) rfl (by simp) (zin _);rw [zcp,zau (f:=n+1) _ (by omega)] at S1;repeat apply W.seq
  apply W.region
  · simp (disch:=first|omega | (simp (disch:=omega) [wE];done) | (apply zac;omega) | (apply zad;omega)) only [ti3,ti47,ti5,ti68,ti63,bld8 ax,za9 (ti69 ax),zas,S1,wB0,wB1,wC];with_reducible rfl
  simp only [onN,onB];generalize hg0:fupd (fupd g n ⟨false,[(n*1024+0,List.replicate 32 (.int .u8 0))],none⟩) (n+1) ⟨false,[((n+1)*1024+0,wvs IVW)],none⟩=g0;have p2:g0 n=⟨false,[(n*1024+0,List.replicate 32 (vb 0))],none⟩:=by rw [← hg0,zae _ _ _ _ (by omega),zaf];rfl
  have p1:g0 (n+1)=⟨false,[((n+1)*1024+0,wvs IVW)],none⟩:=by rw [← hg0,zaf]
  have p0:∀ i,i<n→g0 i=g i:=fun i hi=>by rw [← hg0,zae _ _ _ _ (by omega),zae _ _ _ _ (by omega)]
  clear hg0 S1
  have hb2:zhz g0 (n+1+1) x len bs:=by
    refine ⟨hb.1,hb.2.imp id ?_⟩;rintro ⟨f,u,off,cs,rfl,h1,h2,h3⟩;exact ⟨f,u,off,cs,rfl,by omega,by rw [p0 f h1];exact h2,h3⟩
  have hRBn:∀ y,RB x y→len≠0→y<n:=by
    rintro y ⟨a,rfl,rfl⟩ h0;rcases hb.2 with h|⟨f,u,off,cs,he,h1,_⟩
    · exact absurd h h0
    · simp only [Option.some.injEq] at he;subst he;exact h1
  obtain ⟨ao,n2,g2,rd2,e2,o2,a1,a2,a3⟩:=z6j ax hp x len cap bs (by omega) (n+1+1) g0 lim rd wr (by omega) hb2;repeat apply W.seq
  apply W.region
  · simp (disch:=first|omega | (simp (disch:=omega) [wE];done) | (apply zac;omega) | (apply zad;omega)) only [ti3,ti47,ti5,ti68,ti63,e2,wB0,wB1,wC];with_reducible rfl
  simp only [onN,onB];generalize hQ:bs++padB len=Q at *;have hQm:Q.length % 64=0:=by rw [← hQ,← hbl];exact yhy bs
  have hQl:Q.length<20000000:=by rw [← hQ,List.length_append,znt,hbl];unfold zgb;omega
  have hQ0:Q.length≠0:=by rw [← hQ,List.length_append,znt];omega
  obtain ⟨f,u,rest,rfl,of1,of2,of3,otag⟩:∃ f u rest,ao=some (mkA f u 0)∧g2 f=⟨false,(u,bvs Q) :: rest,none⟩∧n+1+1≤f∧f<n2∧(u % 1024=0∨u % 1024=2):=by
    rcases o2 with ⟨_,⟨_,h0⟩|⟨f,u,rest,k1,k2,k3,k4,k5,k6⟩⟩|⟨_,f,u,rest,k1,k2,k3,k4,k5,k6⟩
    · exact absurd h0 hQ0
    · exact ⟨f,u,rest,k1,k2,k3,k4,.inr k6⟩
    · exact ⟨f,u,rest,k1,k2,k3,k4,.inl k6⟩
  have hrd2:∀ y,y∈rd2→y∈rd∨((y=0∨(RB x y∧y<n))∧y<lim):=by
    intro y hy;rcases a3 y hy with h|⟨⟨h,_⟩,h2⟩
    · exact .inl h
    · exact .inr ⟨.inr ⟨h,by omega⟩,h2⟩
  apply W.seq;refine W.cut (fun fr s=>∃ (h:Nat→Value) (n':Nat) (g':Nat→Fam) (rd':List Nat),fr=Fr.of 148 h∧s=St n' g' lim rd' wr∧n2≤n'∧h 4=.slice (some (mkA f u 0)) Q.length Q.length∧h 2=.pointer (some (mkA n (n*1024+0) 0))∧h 3=.pointer (some (mkA (n+1) ((n+1)*1024+0) 0))∧g' n=⟨false,[(n*1024+0,List.replicate 32 (vb 0))],none⟩∧g' (n+1)=⟨false,[((n+1)*1024+0,wvs (za7 Q (Q.length / 64)))],none⟩∧g' f=⟨false,(u,bvs Q) :: rest,none⟩∧(∀ i,i<n→g' i=g i)∧(∀ y,y∈rd'→y∈rd∨((y=0∨(RB x y∧y<n))∧y<lim))) ?_ ?_
  · skip;repeat apply W.seq
    apply W.region
    · simp (disch:=first|omega | (simp (disch:=omega) [wE];done) | (apply zac;omega) | (apply zad;omega)) only [ti3,ti47,ti5,ti68,ti63,wB0,wB1,wC];with_reducible rfl
    simp only [onN,onB];repeat apply W.seq
    apply W.block;refine W.loop (fun m fr s=>∃ (i:Nat) (h:Nat→Value) (n':Nat) (g':Nat→Fam) (rd':List Nat),64*i≤Q.length∧m=Q.length - 64*i∧fr=Fr.of 148 h∧s=St n' g' lim rd' wr∧n2≤n'∧h 4=.slice (some (mkA f u 0)) Q.length Q.length∧h 2=.pointer (some (mkA n (n*1024+0) 0))∧h 3=.pointer (some (mkA (n+1) ((n+1)*1024+0) 0))∧h 5=.int .i64 ((64*i:Nat):Int)∧g' n=⟨false,[(n*1024+0,List.replicate 32 (vb 0))],none⟩∧g' (n+1)=⟨false,[((n+1)*1024+0,wvs (za7 Q i))],none⟩∧g' f=⟨false,(u,bvs Q) :: rest,none⟩∧(∀ i,i<n→g' i=g i)∧(∀ y,y∈rd'→y∈rd∨((y=0∨(RB x y∧y<n))∧y<lim))) ?_ (Q.length - 64*0) _ _ ⟨0,_,n2,g2,rd2,by omega,rfl,rfl,rfl,Nat.le_refl _,?_,?_,?_,?_,by rw [a2 _ (by omega)];exact p2,by rw [a2 _ (by omega)];exact p1,of1,fun i hi=>by rw [a2 _ (by omega)];exact p0 i hi,hrd2⟩
    case refine_2=>simp (disch:=omega) only [zaa,zab]
    case refine_3=>simp (disch:=omega) only [zaa,zab]
    case refine_4=>simp (disch:=omega) only [zaa,zab]
    case refine_5=>simp (disch:=omega) only [zaa,zab];rfl
    clear e2 o2 of1 p0 p1 p2 hrd2 a2 a3 hb2;rintro m fr s ⟨i,h,n',g',rd',hi,rfl,rfl,rfl,hn,h4,h2,h3,h5,q2,q1,qf,q0,hrd⟩;repeat apply W.seq
    apply W.region
    · simp (disch:=first|omega | (simp (disch:=omega) [wE,h4,h5];done) | (apply zac;omega) | (apply zad;omega)) only [ti3,ti47,ti5,ti68,ti63,h4,h5,zsg (ti43 ax),zgt,wB0,wB1,wC];with_reducible rfl
    simp only [onN,onB];by_cases hlt:((64*i:Nat):Int)<(Q.length:Int)
    case neg =>
      repeat apply W.seq
      refine W.cond (b:=false) ?_ ?_
      · simp (disch:=omega) only [zaw,get_of,zaa,zab,hlt,decide_true,decide_false]
      simp only [cond_true,cond_false];apply W.exit;simp only [onN,onB,Nat.beq_refl,cond_true];have hie:i=Q.length / 64:=by omega
      exact ⟨by first|rfl|trivial,_,n',g',rd',rfl,rfl,hn,by simp (disch:=omega) only [zaa,zab,h4],by simp (disch:=omega) only [zaa,zab,h2],by simp (disch:=omega) only [zaa,zab,h3],q2,by rw [← hie];exact q1,qf,q0,hrd⟩
    repeat apply W.seq
    refine W.cond (b:=true) ?_ ?_
    · simp (disch:=omega) only [zaw,get_of,zaa,zab,hlt,decide_true,decide_false]
    simp only [cond_true,cond_false];apply W.skip;simp only [onN,onB];have hil:64*i+64≤Q.length:=by omega
    have c1:((64*i:Nat):Int)+64=((64*i+64:Nat):Int):=by omega
    have c4:64*i+64 - 64*i=64:=by omega
    have hbd:=z0m (len:=Q.length) (cap:=Q.length) (za5 .i64 (64*i)) (za5 .i64 (64*i+64)) (by omega) (by omega);generalize hBk:(Q.drop (64*i)).take 64=bk at *;have hbk:bk.length=64:=by rw [← hBk,List.length_take,List.length_drop];omega
    have hbsl:BSl g' n' f u (0+64*i) 64 (Q.length - 64*i) bk:=by
      refine ⟨by omega,otag,by omega,hbk,bvs Q,by rw [qf];simp [zat,Nat.beq_refl],fun j hj=>?_⟩;rw [zxg (by omega),← hBk];congr 2;rw [List.getD_eq_getElem?_getD,List.getD_eq_getElem?_getD,List.getElem?_take_of_lt (by omega),List.getElem?_drop,Nat.zero_add]
    obtain ⟨n3,g3,rd3,e3,b1,b2,b3⟩:=z69 ax hp bk f u (0+64*i) 64 (Q.length - 64*i) n' g' lim rd' wr (by omega) hbsl rfl;have S1:=zen (n:=n3+1) (lim:=lim) (rd:=rd3) (wr:=wr) (ti90 ax) (g:=fupd g3 n3 ⟨false,[(n3*1024+0,List.replicate 64 (.int .u32 0))],none⟩) (f:=n3) (u:=n3*1024+0) (vs:=wvs (zaj bk 64)) (zaf _ _ _) (by rw [zav,zba]) (by simp) (zin _);rw [zcp,zau (f:=n3) _ (by omega)] at S1;repeat apply W.seq
    apply W.block;repeat apply W.seq
    apply W.region
    · simp (disch:=first|omega | (simp (disch:=omega) [wE,h4,h5];done) | (apply zac;omega) | (apply zad;omega) | (rw [c1];apply zac;omega)) only [ti3,ti47,ti5,ti68,ti63,h4,h5,zd0,c1,z2u (ti43 ax) (ti5 ax) hbd otag,Nat.mul_one,c4,e3,za9 (ti90 ax),zas,S1,wB0,wB1,wC];with_reducible rfl
    simp only [onN,onB];have hbl8:=zmp Q i;have L1:=ze5 (n:=n3+1) (lim:=lim) (rd:=rd3) (wr:=wr) (ti69 ax) rfl (g:=fupd g3 n3 ⟨false,[(n3*1024+0,wvs (zaj bk 64))],none⟩) (f:=n+1) (u:=(n+1)*1024+0) (cs:=wvs (za7 Q i)) (by rw [zae _ _ _ _ (by omega),b2 _ (by omega),q1];exact zah) (by rw [zav,hbl8]);rw [zau (f:=n+1) _ (by omega)] at L1;have S2:=zen (n:=n3+1+1) (lim:=lim) (rd:=rd3) (wr:=wr) (ti69 ax) (g:=fupd (fupd g3 n3 ⟨false,[(n3*1024+0,wvs (zaj bk 64))],none⟩) (n3+1) ⟨false,[((n3+1)*1024+0,List.replicate 8 (.int .u32 0))],none⟩) (f:=n3+1) (u:=(n3+1)*1024+0) (vs:=wvs (za7 Q i)) (zaf _ _ _) (by rw [zav,hbl8]) (by simp) (zin _);rw [zcp,zau (f:=n3+1) _ (by omega)] at S2;repeat apply W.seq
    apply W.region
    · simp (disch:=first|omega | (simp (disch:=omega) [wE,h3];done) | (apply zac;omega) | (apply zad;omega)) only [ti3,ti47,ti5,ti68,ti63,h3,L1,za9 (ti69 ax),zas,S2,wB0,wB1,wC];with_reducible rfl
    simp only [onN,onB];generalize hg4:fupd (fupd g3 n3 ⟨false,[(n3*1024+0,wvs (zaj bk 64))],none⟩) (n3+1) ⟨false,[((n3+1)*1024+0,wvs (za7 Q i))],none⟩=g4;have w1:g4 n3=⟨false,[(n3*1024+0,wvs (zaj bk 64))],none⟩:=by rw [← hg4,zae _ _ _ _ (by omega),zaf]
    have w2:g4 (n3+1)=⟨false,[((n3+1)*1024+0,wvs (za7 Q i))],none⟩:=by rw [← hg4,zaf]
    have w0:∀ j,j<n'→g4 j=g' j:=fun j hj=>by rw [← hg4,zae _ _ _ _ (by omega),zae _ _ _ _ (by omega),b2 _ hj]
    clear hg4 S1 S2 L1
    have hrd3:∀ y,y∈rd3→y∈rd∨((y=0∨(RB x y∧y<n))∧y<lim):=by
      intro y hy;rcases b3 y hy with hy|⟨rfl,hy⟩
      · exact hrd y hy
      · omega
    have v2:g4 n=⟨false,[(n*1024+0,List.replicate 32 (vb 0))],none⟩:=by rw [w0 _ (by omega)];exact q2
    have v1:g4 (n+1)=⟨false,[((n+1)*1024+0,wvs (za7 Q i))],none⟩:=by rw [w0 _ (by omega)];exact q1
    have vf:g4 f=⟨false,(u,bvs Q) :: rest,none⟩:=by rw [w0 _ (by omega)];exact qf
    have v0:∀ j,j<n→g4 j=g j:=fun j hj=>by rw [w0 _ (by omega)];exact q0 j hj
    clear w0 q2 q1 qf q0 hrd b2 b3 e3 hbsl hbd
    -- the rounds
    apply W.seq;refine W.cut (fun fr s=>∃ (h:Nat→Value) (g':Nat→Fam) (rd':List Nat),fr=Fr.of 148 h∧s=St (n3+1+1) g' lim rd' wr∧h 4=.slice (some (mkA f u 0)) Q.length Q.length∧h 2=.pointer (some (mkA n (n*1024+0) 0))∧h 3=.pointer (some (mkA (n+1) ((n+1)*1024+0) 0))∧h 5=.int .i64 ((64*i:Nat):Int)∧h 7=.pointer (some (mkA (n3+1) ((n3+1)*1024+0) 0))∧g' n=⟨false,[(n*1024+0,List.replicate 32 (vb 0))],none⟩∧g' (n+1)=⟨false,[((n+1)*1024+0,wvs (za7 Q i))],none⟩∧g' (n3+1)=⟨false,[((n3+1)*1024+0,wvs ((rds (za7 Q i) (zaj bk 64) KW 64).1++(rds (za7 Q i) (zaj bk 64) KW 64).2))],none⟩∧g' f=⟨false,(u,bvs Q) :: rest,none⟩∧(∀ i,i<n→g' i=g i)∧(∀ y,y∈rd'→y∈rd∨((y=0∨(RB x y∧y<n))∧y<lim))) ?_ ?_
    · skip;repeat apply W.seq
      apply W.region
      · simp (disch:=first|omega | (simp (disch:=omega) [wE];done) | (apply zac;omega) | (apply zad;omega)) only [ti3,ti47,ti5,ti68,ti63,wB0,wB1,wC];with_reducible rfl
      simp only [onN,onB];repeat apply W.seq
      apply W.block;refine W.loop (fun m fr s=>∃ (t:Nat) (h:Nat→Value) (g':Nat→Fam) (rd':List Nat),t≤64∧m=64 - t∧fr=Fr.of 148 h∧s=St (n3+1+1) g' lim rd' wr∧h 4=.slice (some (mkA f u 0)) Q.length Q.length∧h 2=.pointer (some (mkA n (n*1024+0) 0))∧h 3=.pointer (some (mkA (n+1) ((n+1)*1024+0) 0))∧h 5=.int .i64 ((64*i:Nat):Int)∧h 6=.pointer (some (mkA n3 (n3*1024+0) 0))∧h 7=.pointer (some (mkA (n3+1) ((n3+1)*1024+0) 0))∧h 8=.int .i64 (t:Int)∧g' n=⟨false,[(n*1024+0,List.replicate 32 (vb 0))],none⟩∧g' (n+1)=⟨false,[((n+1)*1024+0,wvs (za7 Q i))],none⟩∧g' n3=⟨false,[(n3*1024+0,wvs (zaj bk 64))],none⟩∧g' (n3+1)=⟨false,[((n3+1)*1024+0,wvs ((rds (za7 Q i) (zaj bk 64) KW t).1++(rds (za7 Q i) (zaj bk 64) KW t).2))],none⟩∧g' f=⟨false,(u,bvs Q) :: rest,none⟩∧(∀ i,i<n→g' i=g i)∧(∀ y,y∈rd'→y∈rd∨((y=0∨(RB x y∧y<n))∧y<lim))) ?_ (64 - 0) _ _ ⟨0,_,g4,rd3,by omega,rfl,rfl,rfl,?_,?_,?_,?_,?_,?_,?_,v2,v1,w1,?_,vf,v0,hrd3⟩
      case refine_2=>simp (disch:=omega) only [zaa,zab,h4]
      case refine_3=>simp (disch:=omega) only [zaa,zab,h2]
      case refine_4=>simp (disch:=omega) only [zaa,zab,h3]
      case refine_5=>simp (disch:=omega) only [zaa,zab,h5]
      case refine_6=>simp (disch:=omega) only [zaa,zab]
      case refine_7=>simp (disch:=omega) only [zaa,zab]
      case refine_8=>simp (disch:=omega) only [zaa,zab];rfl
      case refine_9=>rw [w2];simp only [rds,List.take_append_drop]
      clear h4 h2 h3 h5 v2 v1 w1 w2 vf v0 hrd3;rintro m fr s ⟨t,h,g',rd',ht,rfl,rfl,rfl,h4,h2,h3,h5,h6,h7,h8,q2,q1,qw,qv,qf,q0,hrd⟩;repeat apply W.seq
      apply W.region
      · simp (disch:=first|omega | (simp (disch:=omega) [wE,h8];done) | (apply zac;omega) | (apply zad;omega)) only [ti3,ti47,ti5,ti68,ti63,zgt,h8,wB0,wB1,wC];with_reducible rfl
      simp only [onN,onB];by_cases hl64:(t:Int)<64
      case neg =>
        repeat apply W.seq
        refine W.cond (b:=false) ?_ ?_
        · simp (disch:=omega) only [zaw,get_of,zaa,zab,hl64,decide_true,decide_false]
        simp only [cond_true,cond_false];apply W.exit;simp only [onN,onB,Nat.beq_refl,cond_true];have hte:t=64:=by omega
        subst hte;exact ⟨by first|rfl|trivial,_,g',rd',rfl,rfl,by simp (disch:=omega) only [zaa,zab,h4],by simp (disch:=omega) only [zaa,zab,h2],by simp (disch:=omega) only [zaa,zab,h3],by simp (disch:=omega) only [zaa,zab,h5],by simp (disch:=omega) only [zaa,zab,h7],q2,q1,qv,qf,q0,hrd⟩
      repeat apply W.seq
      refine W.cond (b:=true) ?_ ?_
      · simp (disch:=omega) only [zaw,get_of,zaa,zab,hl64,decide_true,decide_false]
      simp only [cond_true,cond_false];apply W.skip;simp only [onN,onB];have htl:t<64:=by omega
      obtain ⟨l1,l2⟩:=zr4 (za7 Q i) (zaj bk 64) KW hbl8 t;have hstep:rds (za7 Q i) (zaj bk 64) KW (t+1)=([rx (rds (za7 Q i) (zaj bk 64) KW t).2 (KW.getD t 0) ((zaj bk 64).getD t 0)+ry (rds (za7 Q i) (zaj bk 64) KW t).1,(rds (za7 Q i) (zaj bk 64) KW t).1.getD 0 0,(rds (za7 Q i) (zaj bk 64) KW t).1.getD 1 0,(rds (za7 Q i) (zaj bk 64) KW t).1.getD 2 0],[(rds (za7 Q i) (zaj bk 64) KW t).1.getD 3 0+rx (rds (za7 Q i) (zaj bk 64) KW t).2 (KW.getD t 0) ((zaj bk 64).getD t 0),(rds (za7 Q i) (zaj bk 64) KW t).2.getD 0 0,(rds (za7 Q i) (zaj bk 64) KW t).2.getD 1 0,(rds (za7 Q i) (zaj bk 64) KW t).2.getD 2 0]):=rfl;generalize (rds (za7 Q i) (zaj bk 64) KW t).1=V at *;generalize (rds (za7 Q i) (zaj bk 64) KW t).2=E at *;obtain ⟨v0,v1,v2,v3,rfl⟩:=len4 l1;obtain ⟨e0,e1,e2,e3,rfl⟩:=len4 l2;have QV:=fun (j:Nat) (y:UInt32) (hy:(wvs ([v0,v1,v2,v3]++[e0,e1,e2,e3]))[j]?=some (vw y))=>ld_q (n:=n3+1+1) (ti68 ax) rfl (g:=g') (f:=n3+1) (u:=(n3+1)*1024+0) (off:=0+j) (cs:=wvs ([v0,v1,v2,v3]++[e0,e1,e2,e3])) (v:=vw y) (by rw [qv];exact zah) (by rw [Nat.zero_add];exact hy) (by omega);have LV:=fun (j:Nat) (y:UInt32) (hy:(wvs ([v0,v1,v2,v3]++[e0,e1,e2,e3]))[j]?=some (vw y)) (rd:List Nat)=>zhq (n:=n3+1+1) (lim:=lim) (rd:=rd) (wr:=wr) (ti68 ax) rfl (g:=g') (f:=n3+1) (u:=(n3+1)*1024+0) (off:=0+j) (cs:=wvs ([v0,v1,v2,v3]++[e0,e1,e2,e3])) (v:=vw y) (by rw [qv];exact zah) (by rw [Nat.zero_add];exact hy);have QK:=ld_q (n:=n3+1+1) (ti68 ax) rfl (g:=g') (f:=0) (u:=0*1024) (off:=0+t) (cs:=wvs KW) (by rw [q0 _ hG];exact hk) (by rw [Nat.zero_add];exact zdi (by rw [yg5];omega)) (by omega);have QW:=ld_q (n:=n3+1+1) (ti68 ax) rfl (g:=g') (f:=n3) (u:=n3*1024+0) (off:=0+t) (cs:=wvs (zaj bk 64)) (by rw [qw];exact zah) (by rw [Nat.zero_add];exact zdi (by rw [zba];omega)) (by omega);have I1:=fun l=>zau (m:=lim) (f:=n3+1) l (by omega);have I3:=fun l=>zau (m:=lim) (f:=n3) l (by omega);simp only [I1] at LV;have cff:Value.int .u32 4294967295=vw 4294967295:=rfl;have R6:∀ x s,za0 Tryd.prog (EE ax) 72 [vw x,.int .i64 6] s=some (vw (zdf x 6),s):=fun x s=>zhd ax hp x 6 (by omega) (by omega) s;have R11:∀ x s,za0 Tryd.prog (EE ax) 72 [vw x,.int .i64 11] s=some (vw (zdf x 11),s):=fun x s=>zhd ax hp x 11 (by omega) (by omega) s;have R25:∀ x s,za0 Tryd.prog (EE ax) 72 [vw x,.int .i64 25] s=some (vw (zdf x 25),s):=fun x s=>zhd ax hp x 25 (by omega) (by omega) s;have R2:∀ x s,za0 Tryd.prog (EE ax) 72 [vw x,.int .i64 2] s=some (vw (zdf x 2),s):=fun x s=>zhd ax hp x 2 (by omega) (by omega) s;have R13:∀ x s,za0 Tryd.prog (EE ax) 72 [vw x,.int .i64 13] s=some (vw (zdf x 13),s):=fun x s=>zhd ax hp x 13 (by omega) (by omega) s;have R22:∀ x s,za0 Tryd.prog (EE ax) 72 [vw x,.int .i64 22] s=some (vw (zdf x 22),s):=fun x s=>zhd ax hp x 22 (by omega) (by omega) s;repeat apply W.seq
      apply W.block;repeat apply W.seq
      apply W.quiet
      · simp (disch:=first|omega | (simp (disch:=omega) [wE,h6,h7,h8,cff];done) | (apply zac;omega) | (apply zad;omega)) only [ti3,ti47,ti5,ti68,ti63,ze2,zgf,zbq,zgc,zkd,h6,h7,h8,za5,zfq,zao (ti69 ax) (ti68 ax) (show 4<8 by omega),zao (ti69 ax) (ti68 ax) (show 5<8 by omega),zao (ti69 ax) (ti68 ax) (show 6<8 by omega),zao (ti69 ax) (ti68 ax) (show 7<8 by omega),zao (ti90 ax) (ti68 ax) htl,QV 4 e0 rfl,QV 5 e1 rfl,QV 6 e2 rfl,QV 7 e3 rfl,QK,QW,R6,R11,R25,cff,zof,z5y,zk4,yi8,I1,I3,wB0,wB1,wC];with_reducible rfl
      simp only [onN,onB];repeat apply W.seq
      apply W.quiet
      · simp (disch:=first|omega | (simp (disch:=omega) [wE,h7];done) | (apply zac;omega) | (apply zad;omega)) only [ti3,ti47,ti5,ti68,ti63,ze2,zgf,zbq,zgc,zkd,h7,zfq,zao (ti69 ax) (ti68 ax) (show 0<8 by omega),zao (ti69 ax) (ti68 ax) (show 1<8 by omega),zao (ti69 ax) (ti68 ax) (show 2<8 by omega),QV 0 v0 rfl,QV 1 v1 rfl,QV 2 v2 rfl,R2,R13,R22,zof,z5y,zk4,I1,wB0,wB1,wC];with_reducible rfl
      simp only [onN,onB];have SE:=fun a b rd=>zen (n:=n3+1+1) (lim:=lim) (rd:=rd) (wr:=wr) (ti69 ax) (f:=n3+1) (u:=(n3+1)*1024+0) (vs:=[vw a,vw v0,vw v1,vw v2,vw b,vw e0,vw e1,vw e2]) qv rfl rfl rfl;simp only [I1] at SE;repeat apply W.seq
      apply W.region
      · simp (disch:=first|omega | (simp (disch:=omega) [wE,h7,zhf];done) | (apply zac;omega) | (apply zad;omega)) only [ti3,ti47,ti5,ti68,ti63,h7,zfq,zao (ti69 ax) (ti68 ax) (show 0<8 by omega),zao (ti69 ax) (ti68 ax) (show 1<8 by omega),zao (ti69 ax) (ti68 ax) (show 2<8 by omega),zao (ti69 ax) (ti68 ax) (show 3<8 by omega),zao (ti69 ax) (ti68 ax) (show 4<8 by omega),zao (ti69 ax) (ti68 ax) (show 5<8 by omega),zao (ti69 ax) (ti68 ax) (show 6<8 by omega),LV 0 v0 rfl,LV 1 v1 rfl,LV 2 v2 rfl,LV 3 v3 rfl,LV 4 e0 rfl,LV 5 e1 rfl,LV 6 e2 rfl,zk4,z60 (ti69 ax) (ti68 ax),zas,SE,wB0,wB1,wC];with_reducible rfl
      simp only [onN,onB];repeat apply W.seq
      apply W.region
      · simp (disch:=first|omega | (simp (disch:=omega) [wE,h8];done) | (apply zac;omega) | (apply zad;omega)) only [ti3,ti47,ti5,ti68,ti63,zd0,h8,wB0,wB1,wC];with_reducible rfl
      simp only [onN,onB];refine ⟨64 - (t+1),by omega,t+1,_,_,_,by omega,rfl,rfl,rfl,?_,?_,?_,?_,?_,?_,?_,?_,?_,?_,?_,?_,?_,?_⟩
      · simp (disch:=omega) only [zaa,zab,h4]
      · simp (disch:=omega) only [zaa,zab,h2]
      · simp (disch:=omega) only [zaa,zab,h3]
      · simp (disch:=omega) only [zaa,zab,h5]
      · simp (disch:=omega) only [zaa,zab,h6]
      · simp (disch:=omega) only [zaa,zab,h7]
      · simp (disch:=omega) only [zaa,zab];rfl
      · rw [zae _ _ _ _ (by omega)];exact q2
      · rw [zae _ _ _ _ (by omega)];exact q1
      · rw [zae _ _ _ _ (by omega)];exact qw
      · rw [zaf,hstep];rfl
      · rw [zae _ _ _ _ (by omega)];exact qf
      · intro i hi;rw [zae _ _ _ _ (by omega)];exact q0 i hi
      · intro y hy;rcases zcf hy with hy|⟨rfl,hy⟩
        · exact hrd y hy
        · exact .inr ⟨.inl rfl,hy⟩
    clear h4 h2 h3 h5 v2 v1 w1 w2 vf v0 hrd3;rintro fr s ⟨h,g',rd',rfl,rfl,h4,h2,h3,h5,h7,q2,q1,qv,qf,q0,hrd⟩;obtain ⟨l1,l2⟩:=zr4 (za7 Q i) (zaj bk 64) KW hbl8 64
    have hcomp:za7 Q (i+1)=smW (za7 Q i) ((rds (za7 Q i) (zaj bk 64) KW 64).1++(rds (za7 Q i) (zaj bk 64) KW 64).2) 8:=by
      rw [yjp _ _ _ hbl8 l1 l2,za7,hBk];rfl
    have lv:((rds (za7 Q i) (zaj bk 64) KW 64).1++(rds (za7 Q i) (zaj bk 64) KW 64).2).length=8:=by rw [List.length_append,l1,l2]
    generalize ((rds (za7 Q i) (zaj bk 64) KW 64).1++(rds (za7 Q i) (zaj bk 64) KW 64).2)=VV at *;repeat apply W.seq
    apply W.region
    · simp (disch:=first|omega | (simp (disch:=omega) [wE];done) | (apply zac;omega) | (apply zad;omega)) only [ti3,ti47,ti5,ti68,ti63,wB0,wB1,wC];with_reducible rfl
    simp only [onN,onB];repeat apply W.seq
    apply W.block;refine W.loop (fun m fr s=>∃ (t:Nat) (h:Nat→Value) (g':Nat→Fam) (rd':List Nat),t≤8∧m=8 - t∧fr=Fr.of 148 h∧s=St (n3+1+1) g' lim rd' wr∧h 4=.slice (some (mkA f u 0)) Q.length Q.length∧h 2=.pointer (some (mkA n (n*1024+0) 0))∧h 3=.pointer (some (mkA (n+1) ((n+1)*1024+0) 0))∧h 5=.int .i64 ((64*i:Nat):Int)∧h 7=.pointer (some (mkA (n3+1) ((n3+1)*1024+0) 0))∧h 11=.int .i64 (t:Int)∧g' n=⟨false,[(n*1024+0,List.replicate 32 (vb 0))],none⟩∧g' (n+1)=⟨false,[((n+1)*1024+0,wvs (smW (za7 Q i) VV t))],none⟩∧g' (n3+1)=⟨false,[((n3+1)*1024+0,wvs VV)],none⟩∧g' f=⟨false,(u,bvs Q) :: rest,none⟩∧(∀ i,i<n→g' i=g i)∧(∀ y,y∈rd'→y∈rd∨((y=0∨(RB x y∧y<n))∧y<lim))) ?_ (8 - 0) _ _ ⟨0,_,g',rd',by omega,rfl,rfl,rfl,?_,?_,?_,?_,?_,?_,q2,q1,qv,qf,q0,hrd⟩
    case refine_2=>simp (disch:=omega) only [zaa,zab,h4]
    case refine_3=>simp (disch:=omega) only [zaa,zab,h2]
    case refine_4=>simp (disch:=omega) only [zaa,zab,h3]
    case refine_5=>simp (disch:=omega) only [zaa,zab,h5]
    case refine_6=>simp (disch:=omega) only [zaa,zab,h7]
    case refine_7=>simp (disch:=omega) only [zaa,zab];rfl
    clear h4 h2 h3 h5 h7 q2 q1 qv qf q0 hrd;rintro m fr s ⟨t,h,g',rd',ht,rfl,rfl,rfl,h4,h2,h3,h5,h7,h11,q2,q1,qv,qf,q0,hrd⟩;repeat apply W.seq
    apply W.region
    · simp (disch:=first|omega | (simp (disch:=omega) [wE,h11];done) | (apply zac;omega) | (apply zad;omega)) only [ti3,ti47,ti5,ti68,ti63,zgt,h11,wB0,wB1,wC];with_reducible rfl
    simp only [onN,onB];by_cases hl8:(t:Int)<8
    case neg =>
      repeat apply W.seq
      refine W.cond (b:=false) ?_ ?_
      · simp (disch:=omega) only [zaw,get_of,zaa,zab,hl8,decide_true,decide_false]
      simp only [cond_true,cond_false];apply W.exit;simp only [onN,onB,Nat.beq_refl,cond_true,cond_false,zmt];have hte:t=8:=by omega
      subst hte;have c6:((64*i:Nat):Int)+64=((64*(i+1):Nat):Int):=by omega
      repeat apply W.seq
      apply W.region
      · simp (disch:=first|omega | (simp (disch:=omega) [wE,h5];done) | (apply zac;omega) | (apply zad;omega) | (rw [c6];apply zac;omega)) only [ti3,ti47,ti5,ti68,ti63,zd0,h5,c6,wB0,wB1,wC];with_reducible rfl
      simp only [onN,onB];refine ⟨Q.length - 64*(i+1),by omega,i+1,_,n3+1+1,g',rd',by omega,rfl,rfl,rfl,by omega,?_,?_,?_,?_,q2,by rw [hcomp];exact q1,qf,q0,hrd⟩
      · simp (disch:=omega) only [zaa,zab,h4]
      · simp (disch:=omega) only [zaa,zab,h2]
      · simp (disch:=omega) only [zaa,zab,h3]
      · simp (disch:=omega) only [zaa,zab]
    repeat apply W.seq
    refine W.cond (b:=true) ?_ ?_
    · simp (disch:=omega) only [zaw,get_of,zaa,zab,hl8,decide_true,decide_false]
    simp only [cond_true,cond_false];apply W.skip;simp only [onN,onB];have htl:t<8:=by omega
    have hsl:=z8c (za7 Q i) VV t;have A1:=ld_q (n:=n3+1+1) (ti68 ax) rfl (g:=g') (f:=n+1) (u:=(n+1)*1024+0) (off:=0+t) (cs:=wvs (smW (za7 Q i) VV t)) (by rw [q1];exact zah) (by rw [Nat.zero_add];exact zdi (by omega)) (by omega);have A2:=ld_q (n:=n3+1+1) (ti68 ax) rfl (g:=g') (f:=n3+1) (u:=(n3+1)*1024+0) (off:=0+t) (cs:=wvs VV) (by rw [qv];exact zah) (by rw [Nat.zero_add];exact zdi (by omega)) (by omega);have A3:=fun v hv=>st_q (n:=n3+1+1) (ti68 ax) (g:=g') (f:=n+1) (u:=(n+1)*1024+0) (off:=0+t) (v:=v) q1 (by rw [zav];omega) hv (by omega);have J1:=fun l=>zau (m:=lim) (f:=n3+1) l (by omega);have J2:=fun l=>zau (m:=lim) (f:=n+1) l (by omega);repeat apply W.seq
    apply W.block;repeat apply W.seq
    apply W.last
    · kernel_rfl
    · simp (disch:=first|omega | (simp (disch:=omega) [wE,h3,h7,h11];done) | (apply zac;omega) | (apply zad;omega)) only [ti3,ti47,ti5,ti68,ti63,zcd,zcs,zbq,zdj,zgl,zdq,zb8,zbn,h3,h7,h11,za5,zao (ti69 ax) (ti68 ax) htl,A1,A2,A3 _ (zrc _),zk4,zhf,J1,J2,wB0,wB1,wC];with_reducible rfl
    simp only [onN,onB];repeat apply W.seq
    apply W.region
    · simp (disch:=first|omega | (simp (disch:=omega) [wE,h11];done) | (apply zac;omega) | (apply zad;omega)) only [ti3,ti47,ti5,ti68,ti63,zd0,h11,wB0,wB1,wC];with_reducible rfl
    simp only [onN,onB];refine ⟨8 - (t+1),by omega,t+1,_,_,rd',by omega,rfl,rfl,rfl,?_,?_,?_,?_,?_,?_,?_,?_,?_,?_,?_,hrd⟩
    · simp (disch:=omega) only [zaa,zab,h4]
    · simp (disch:=omega) only [zaa,zab,h2]
    · simp (disch:=omega) only [zaa,zab,h3]
    · simp (disch:=omega) only [zaa,zab,h5]
    · simp (disch:=omega) only [zaa,zab,h7]
    · simp (disch:=omega) only [zaa,zab];rfl
    · rw [zae _ _ _ _ (by omega)];exact q2
    · rw [zaf,Nat.zero_add,zm3];rfl
    · rw [zae _ _ _ _ (by omega)];exact qv
    · rw [zae _ _ _ _ (by omega)];exact qf
    · intro i hi;rw [zae _ _ _ _ (by omega)];exact q0 i hi
  clear e2 o2 of1 p0 p1 p2 hrd2 a2 a3 hb2;rintro fr s ⟨h,n',g',rd',rfl,rfl,hn,h4,h2,h3,q2,q1,qf,q0,hrd⟩;have hsha:sha bs=outs (za7 Q (Q.length / 64)) 32:=by unfold sha shaW;rw [hbl,hQ]
  have m8:=zmp Q (Q.length / 64);generalize za7 Q (Q.length / 64)=st2 at *;repeat apply W.seq
  apply W.region
  · simp (disch:=first|omega | (simp (disch:=omega) [wE];done) | (apply zac;omega) | (apply zad;omega)) only [ti3,ti47,ti5,ti68,ti63,za9 (ti76 ax),wB0,wB1,wC];with_reducible rfl
  simp only [onN,onB];repeat apply W.seq
  apply W.region
  · simp (disch:=first|omega | (simp (disch:=omega) [wE];done) | (apply zac;omega) | (apply zad;omega)) only [ti3,ti47,ti5,ti68,ti63,wB0,wB1,wC];with_reducible rfl
  simp only [onN,onB];repeat apply W.seq
  apply W.block;refine W.loop (fun m fr s=>∃ (i:Nat) (h:Nat→Value) (g2:Nat→Fam),i≤32∧m=32 - i∧fr=Fr.of 148 h∧s=St (n'+1) g2 lim rd' wr∧h 2=.pointer (some (mkA n (n*1024+0) 0))∧h 3=.pointer (some (mkA (n+1) ((n+1)*1024+0) 0))∧h 12=.pointer (some (mkA n' (n'*1024+0) 0))∧h 13=.int .i64 (i:Int)∧g2 n=⟨false,[(n*1024+0,List.replicate 32 (vb 0))],none⟩∧g2 (n+1)=⟨false,[((n+1)*1024+0,wvs st2)],none⟩∧g2 n'=⟨false,[(n'*1024+0,bvs (outs st2 i)++List.replicate (32 - i) (vb 0))],none⟩∧(∀ i,i<n→g2 i=g i)) ?_ (32 - 0) _ _ ⟨0,_,_,by omega,rfl,rfl,rfl,?_,?_,?_,?_,?_,?_,?_,?_⟩
  case refine_2=>simp (disch:=omega) only [zaa,zab,h2]
  case refine_3=>simp (disch:=omega) only [zaa,zab,h3]
  case refine_4=>simp (disch:=omega) only [zaa,zab]
  case refine_5=>simp (disch:=omega) only [zaa,zab];rfl
  case refine_6=>rw [zae _ _ _ _ (by omega)];exact q2
  case refine_7=>rw [zae _ _ _ _ (by omega)];exact q1
  case refine_8=>rw [zaf];rfl
  case refine_9=>intro i hi;rw [zae _ _ _ _ (by omega)];exact q0 i hi
  clear q2 q1 qf q0 h4 h2 h3;rintro m fr s ⟨i,h,g2,hi,rfl,rfl,rfl,h2,h3,h12,h13,p2,p1,p3,p0⟩;repeat apply W.seq
  apply W.region
  · simp (disch:=first|omega | (simp (disch:=omega) [wE,h13];done) | (apply zac;omega) | (apply zad;omega)) only [ti3,ti47,ti5,ti68,ti63,zgt,h13,wB0,wB1,wC];with_reducible rfl
  simp only [onN,onB];by_cases hi32:(i:Int)<32
  case neg =>
    repeat apply W.seq
    refine W.cond (b:=false) ?_ ?_
    · simp (disch:=omega) only [zaw,get_of,zaa,zab,hi32,decide_true,decide_false]
    simp only [cond_true,cond_false];apply W.exit;simp only [onN,onB,Nat.beq_refl,cond_true,cond_false,zmt];have hi':i=32:=by omega
    subst hi'
    have hbl:(bvs (outs st2 32)++List.replicate (32 - 32) (vb 0))=bvs (sha bs):=by
      rw [Nat.sub_self,List.replicate_zero,List.append_nil,hsha]
    rw [hbl] at p3;have L1:=ze5 (n:=n'+1) (lim:=lim) (rd:=rd') (wr:=wr) (ti76 ax) rfl (g:=g2) (f:=n') (u:=n'*1024+0) (cs:=bvs (sha bs)) (by rw [p3];exact zah) (by rw [zam,zd3]);rw [zau (f:=n') _ (by omega)] at L1;have S1:=zen (n:=n'+1) (lim:=lim) (rd:=rd') (wr:=wr) (ti76 ax) (f:=n) (u:=n*1024+0) (vs:=bvs (sha bs)) p2 (by rw [zam,zd3]) (by simp) (zfa _);rw [zau (f:=n) _ (by omega)] at S1;repeat apply W.seq
    apply W.region
    · simp (disch:=first|omega | (simp (disch:=omega) [wE,h2,h12];done) | (apply zac;omega) | (apply zad;omega)) only [ti3,ti47,ti5,ti68,ti63,h2,h12,L1,zas,S1,wB0,wB1,wC];with_reducible rfl
    simp only [onN,onB];apply W.ret;refine ⟨.inr rfl,n'+1,fupd g2 n ⟨false,[(n*1024+0,bvs (sha bs))],none⟩,rd',?_,by omega,fun i hi=>by rw [zae _ _ _ _ (by omega)];exact p0 i hi,hrd⟩;have L2:=ze5 (n:=n'+1) (lim:=lim) (rd:=rd') (wr:=wr) (ti76 ax) rfl (g:=fupd g2 n ⟨false,[(n*1024+0,bvs (sha bs))],none⟩) (f:=n) (u:=n*1024+0) (cs:=bvs (sha bs)) (by rw [zaf];exact zah) (by rw [zam,zd3]);rw [zau (f:=n) _ (by omega)] at L2;simp (disch:=first|omega | (simp (disch:=omega) only [get_of,zaa,zab,h2];done)) only [ze0 (ad:=mkA n (n*1024+0) 0),zgr,Tryd.results65,L2,zb5,zcn]
  repeat apply W.seq
  refine W.cond (b:=true) ?_ ?_
  · simp (disch:=omega) only [zaw,get_of,zaa,zab,hi32,decide_true,decide_false]
  simp only [cond_true,cond_false];apply W.skip;simp only [onN,onB];have hil:i<32:=by omega
  have d1:((i:Nat):Int) / 4=((i / 4:Nat):Int):=by omega
  have d2:((i:Nat):Int) % 4=((i % 4:Nat):Int):=by omega
  have d3:(8:Int)*((i % 4:Nat):Int)=((8*(i % 4):Nat):Int):=by omega
  have d4:(24:Int) - ((8*(i % 4):Nat):Int)=((24 - 8*(i % 4):Nat):Int):=by omega
  have L1:=zhq (n:=n'+1) (lim:=lim) (rd:=rd') (wr:=wr) (ti68 ax) rfl (g:=g2) (f:=n+1) (u:=(n+1)*1024+0) (off:=i / 4) (cs:=wvs st2) (by rw [p1];exact zah) (zdi (by omega));rw [zau (f:=n+1) _ (by omega)] at L1;have S1:=zpl (n:=n'+1) (lim:=lim) (rd:=rd') (wr:=wr) (ti5 ax) (f:=n') (u:=n'*1024+0) (off:=0+i) (v:=vb (outB st2 i)) p3 (by rw [List.length_append,zam,zme,List.length_replicate];omega) rfl;rw [zau (f:=n') _ (by omega),Nat.zero_add,zyn st2 i hil] at S1;unfold outB at S1;repeat apply W.seq
  apply W.block;repeat apply W.seq
  apply W.region
  · simp (disch:=first|omega | (simp (disch:=omega) [wE,h3,h12,h13];done) | (apply zac;omega) | (apply zad;omega) | (rw [d1];apply zac;omega) | (rw [d3];apply zac;omega) | (rw [d4];apply zac;omega)) only [ti3,ti47,ti5,ti68,ti63,h3,h12,h13,z9x,d1,zui,d2,znv,d3,zlo,d4,za5,zao (ti69 ax) (ti68 ax) (show i / 4<8 by omega),L1,z0l,yb1 (ti68 ax) (ti5 ax),zao (ti76 ax) (ti5 ax) hil,Nat.zero_add,zqz,S1,wB0,wB1,wC];with_reducible rfl
  simp only [onN,onB];repeat apply W.seq
  apply W.region
  · simp (disch:=first|omega | (simp (disch:=omega) [wE,h13];done) | (apply zac;omega) | (apply zad;omega)) only [ti3,ti47,ti5,ti68,ti63,zd0,h13,wB0,wB1,wC];with_reducible rfl
  simp only [onN,onB];refine ⟨32 - (i+1),by omega,i+1,_,_,by omega,rfl,rfl,rfl,?_,?_,?_,?_,?_,?_,?_,?_⟩
  · simp (disch:=omega) only [zaa,zab,h2]
  · simp (disch:=omega) only [zaa,zab,h3]
  · simp (disch:=omega) only [zaa,zab,h12]
  · simp (disch:=omega) only [zaa,zab];rfl
  · rw [zae _ _ _ _ (by omega)];exact p2
  · rw [zae _ _ _ _ (by omega)];exact p1
  · rw [zaf]
  · intro i hi;rw [zae _ _ _ _ (by omega)];exact p0 i hi
end
section
open Go Go.RowKit
set_option maxRecDepth 100000
theorem OwnX.barg {m n len:Nat} {g:Nat→Fam} {ao:Option Addr} {bs:List UInt8} (h:OwnX m g n 1 ao len (bvs bs)):zhz g n ao len bs:=by
 rcases h with ⟨h1,h⟩|⟨h1,f,u,rest,rfl,k2,k3,k4,k5,k6⟩
 ·rw [zam] at h1;refine ⟨by omega,?_⟩;rcases h with ⟨rfl,rfl⟩|⟨f,u,rest,rfl,k2,k3,k4,k5,k6⟩
  ·exact .inl rfl
  ·exact .inr ⟨f,u,0,bvs bs,rfl,k4,by rw [k2];simp [zat,Nat.beq_refl],by rw [zam];omega,by rw [List.drop_zero,List.take_of_length_le (by rw [zam];omega)]⟩
 ·rw [zam] at h1;exact ⟨by omega,.inr ⟨f,u,0,bvs bs,rfl,k4,by rw [k2];simp [zat,Nat.beq_refl],by rw [zam];omega,by rw [List.drop_zero,List.take_of_length_le (by rw [zam];omega)]⟩⟩
theorem OwnX.blk {m n e len:Nat} {g:Nat→Fam} {ao:Option Addr} {cells:List Value} (h:OwnX m g n e ao len cells):∀ y,RB ao y→m≤y:=by
 rintro y ⟨a,rfl,rfl⟩;rcases h with ⟨_,⟨h,_⟩|⟨f,u,rest,k1,k2,k3,_⟩⟩|⟨_,f,u,rest,k1,k2,k3,_⟩
 ·simp at h
 ·simp only [Option.some.injEq] at k1;subst k1;rw [zdc];exact k3
 ·simp only [Option.some.injEq] at k1;subst k1;rw [zdc];exact k3
end
section
open Go Go.RowKit
set_option maxRecDepth 100000
def nilB:ByteArray:=⟨#[]⟩
def zoj (g:Nat→Fam) (n:Nat) (x:Option Addr) (len cap:Nat) (ss:List ByteArray):Prop :=
  ss.length=len∧len≤cap∧((x=none∧len=0∧cap=0)∨∃ f u off,x=some (mkA f u off)∧True∧(len=0∨(f<n∧∃ cs,zat (g f).rows u=some cs∧∀ i,i<len→cs[off+i]?=some (.string (ss.getD i nilB)))))
theorem zoj.keep {g g':Nat→Fam} {n n' len cap:Nat} {x:Option Addr} {ss:List ByteArray} (h:zoj g n x len cap ss) (hg:∀ i,i<n→g' i=g i) (hn:n≤n'):zoj g' n' x len cap ss:=by
  obtain ⟨h1,h2,h3⟩:=h;refine ⟨h1,h2,h3.imp id ?_⟩;rintro ⟨f,u,off,k1,k2,k3⟩;refine ⟨f,u,off,k1,k2,k3.imp id ?_⟩;rintro ⟨k4,cs,k5,k6⟩;exact ⟨by omega,cs,by rw [hg f k4];exact k5,k6⟩
theorem zoj.at {Γ:Env} {g:Nat→Fam} {n len cap i:Nat} {x:Option Addr} {ss:List ByteArray} {t e:TypeId} {z b b2:Nat} {zs zs2:List Value} (h:zoj g n x len cap ss) (hi:i<len) (ht:Γ.ti.at t=some ⟨.slice e,z,b,zs⟩) (he:Γ.ti.at e=some ⟨.string,1,b2,zs2⟩) :
    ∃ p f,RB x f∧f<n∧(∀ s,za2 Γ s t (.slice x len cap) (some i)=some (.pointer (some p),s))∧(∀ N (g':Nat→Fam) lim rd wr,(∀ j,j<n→g' j=g j)→zfp Γ (St N g' lim rd wr) e (.pointer (some p))=some (.string (ss.getD i nilB),St N g' lim (ins lim rd f) wr)):=by
  obtain ⟨h1,h2,⟨rfl,h0,_⟩|⟨f,u,off,rfl,k2,k3⟩⟩:=h
  · omega
  · rcases k3 with k3|⟨k4,cs,k5,k6⟩
    · omega
    · exact ⟨mkA f u (off+i),f,⟨_,rfl,rfl⟩,k4,fun s=>zuv ht he hi,fun N g' lim rd wr hg=>zhq he rfl (by rw [hg f k4];exact k5) (k6 i hi)⟩
theorem z88 {lim f:Nat} {rd rd0:List Nat} {R:Nat→Prop} (h:∀ x,x∈rd→x∈rd0∨(R x∧x<lim)) (hf:f<lim→R f):∀ x,x∈ins lim rd f→x∈rd0∨(R x∧x<lim):=by
  intro x hx;rcases zcf hx with q|⟨rfl,q⟩
  · exact h x q
  · exact .inr ⟨hf q,q⟩
theorem z3g {lim:Nat} {rd rd0 l:List Nat} {R:Nat→Prop} (h:∀ x,x∈rd→x∈rd0∨(R x∧x<lim)) (hl:∀ x,x∈l→x<lim→R x):∀ x,x∈zeb lim rd l→x∈rd0∨(R x∧x<lim):=by
  intro x hx;rcases zbv rfl x hx with q|⟨q,q2⟩
  · exact h x q
  · exact .inr ⟨hl x q q2,q2⟩
theorem yfl {m n e len y:Nat} {g:Nat→Fam} {ao:Option Addr} {cells:List Value} (h:OwnX m g n e ao len cells) (hy:RB ao y):m≤y:=by
  obtain ⟨a,rfl,rfl⟩:=hy;rcases h with ⟨_,h⟩|⟨_,f,u,rest,k1,_,k3,_⟩
  · rcases h with ⟨h,_⟩|⟨f,u,rest,k1,_,k3,_⟩
    · cases h
    · cases k1;exact k3
  · cases k1;exact k3
end
section
namespace WM
def zig (n:Int):Nat:=if n<0 then (-1 - n).toNat*2+1 else n.toNat*2
theorem zxm {n:Int} (h1:-9223372036854775808≤n) (h2:n≤9223372036854775807):zig n<18446744073709551616:=by unfold zig;split<;>omega
def venc (z:Nat):List UInt8:=if h:z<128 then [UInt8.ofNat z] else UInt8.ofNat (z % 128+128) :: venc (z / 128)
  termination_by z
  decreasing_by omega
theorem zkc {z:Nat} (h:z<128):venc z=[UInt8.ofNat z]:=by rw [venc];simp [h]
theorem zm4 {z:Nat} (h:¬ z<128):venc z=UInt8.ofNat (z % 128+128) :: venc (z / 128):=by rw [venc];simp [h]
def enc (n:Int):List UInt8:=venc (zig n)
theorem ycz (k:Nat):∀ z,z<128 ^ (k+1)→(venc z).length≤k+1:=by
  induction k with
  |zero=>intro z h;rw [zkc (by simpa using h)];simp
  |succ k ih =>
    intro z h;by_cases hz:z<128
    · rw [zkc hz];simp
    · rw [zm4 hz]
      have:z / 128<128 ^ (k+1):=by
        rw [Nat.div_lt_iff_lt_mul (by decide)];rw [Nat.pow_succ] at h;omega
      have:=ih _ this;simp;omega
theorem zl5 {z:Nat} (h:z<18446744073709551616):(venc z).length≤10:=ycz 9 z (by omega)
theorem venc_pos (z:Nat):0<(venc z).length:=by
  by_cases hz:z<128
  · rw [zkc hz];simp
  · rw [zm4 hz];simp
theorem zo8 {n:Int} (h1:-9223372036854775808≤n) (h2:n≤9223372036854775807):(enc n).length≤10:=zl5 (zxm h1 h2)
theorem zde {a:Nat} (h:a<256):(UInt8.ofNat a).toNat=a:=by
  rw [UInt8.toNat_ofNat'];exact Nat.mod_eq_of_lt h
/-! ### lengths, strings, lists -/
def many {α:Type} (one:List UInt8→Except Int (α×Nat)):Nat→List UInt8→Except Int (List α×Nat)
  |0,_=>.ok ([],0)
  |n+1,l=>match one l with
    |.error e=>.error e
    |.ok (x,u)=>match many one n (l.drop u) with
      |.error e=>.error e
      |.ok (xs,v)=>.ok (x :: xs,u+v)
def encL {α:Type} (one:α→List UInt8) (xs:List α):List UInt8:=enc xs.length++xs.flatMap one
structure Good {α:Type} (one:List UInt8→Except Int (α×Nat)) (en:α→List UInt8) (P:α→Prop) (least:Nat):Prop where
  round:∀ x t,P x→one (en x++t)=.ok (x,(en x).length)
  long:∀ x,P x→least≤(en x).length
/-! ### what is decoded is the encoding -/
end WM
end
section
open Go Go.RowKit WM
theorem z1i (a:Nat) (ha:a<18446744073709551616):bits .xor .u64 (a:Int) 0=a:=by
  have:=bits_xor_u64_nat a 0 ha (by decide);simpa using this
theorem z1j (b:Nat) (hb:b<2 ^ 64):b ^^^ (2 ^ 64 - 1)=2 ^ 64 - 1 - b:=by
  apply Nat.eq_of_testBit_eq;intro i;rw [Nat.testBit_xor,Nat.testBit_two_pow_sub_one,show 2 ^ 64 - 1 - b=2 ^ 64 - (b+1) by omega,Nat.testBit_two_pow_sub_succ hb];by_cases hi:i<64
  · simp [hi]
  · have:b.testBit i=false:=Nat.testBit_lt_two_pow (Nat.lt_of_lt_of_le hb (Nat.pow_le_pow_right (by decide) (by omega)));simp [hi,this]
theorem z9h (n:Int) (h1:-9223372036854775808≤n) (h2:n≤9223372036854775807) :
    bits BinOp.xor IntKind.u64 (IntKind.u64.wrap (IntKind.u64.wrap n*2)) (IntKind.u64.wrap (n / 9223372036854775808))=(zig n:Int):=by
  unfold zig;by_cases hn:n<0
  · rw [if_pos hn]
    have e1:IntKind.u64.wrap (IntKind.u64.wrap n*2)=(((2*n+18446744073709551616).toNat:Nat):Int):=by
      rw [IntKind.wrap_u64,IntKind.wrap_u64];omega
    have e2:IntKind.u64.wrap (n / 9223372036854775808)=((2 ^ 64 - 1:Nat):Int):=by
      rw [show n / 9223372036854775808=-1 by omega];decide
    rw [e1,e2,bits_xor_u64_nat _ _ (by omega) (by decide),z1j _ (by omega)];omega
  · rw [if_neg hn]
    have e1:IntKind.u64.wrap (IntKind.u64.wrap n*2)=((n.toNat*2:Nat):Int):=by
      rw [IntKind.wrap_u64,IntKind.wrap_u64];omega
    have e2:IntKind.u64.wrap (n / 9223372036854775808)=0:=by
      rw [show n / 9223372036854775808=0 by omega];decide
    rw [e1,e2,z1i _ (by omega)]
theorem yj3 (x:Nat):bits .or .u8 ((x:Int) % 256) 128=(((UInt8.ofNat (x % 128+128)).toNat:Nat):Int):=by
  rw [show ((x:Int) % 256)=((x % 256:Nat):Int) by omega,show (128:Int)=((128:Nat):Int) by rfl,u8_or_nat _ _ (by omega) (by decide)];rw [zde (by omega)];congr 1;by_cases h:x % 256<128
  · rw [Nat.or_comm,nat_join 7 128 (x % 256) (by decide) (by omega)];omega
  · have e:x % 256=128+(x % 256 - 128):=by omega
    have e2:128 ||| (x % 256 - 128)=x % 256:=by rw [nat_join 7 128 _ (by decide) (by omega)];omega
    rw [← e2,Nat.or_comm,← Nat.or_assoc,Nat.or_self,nat_join 7 128 _ (by decide) (by omega)];omega
theorem pzig (n:Int) (h1:-9223372036854775808≤n) (h2:n≤9223372036854775807) :
    IntKind.u64.wrap (BitVec.ofInt IntKind.u64.bits (IntKind.u64.wrap (IntKind.u64.wrap n*2 ^ (min (1:Int).toNat IntKind.u64.bits))) ^^^ BitVec.ofInt IntKind.u64.bits (IntKind.u64.wrap (n.fdiv (2 ^ (min (63:Int).toNat IntKind.i64.bits))))).toNat=(zig n:Int):=by
  have h:=z9h n h1 h2;rw [← h];have e1:(2:Int) ^ (min (1:Int).toNat IntKind.u64.bits)=2:=by decide
  have e2:(2:Int) ^ (min (63:Int).toNat IntKind.i64.bits)=9223372036854775808:=by decide
  rw [e1,e2,Int.fdiv_eq_ediv_of_nonneg _ (by decide)];rfl
theorem por (x:Nat):Value.int .u8 (IntKind.u8.wrap (BitVec.ofInt IntKind.u8.bits (IntKind.u8.wrap (x:Int)) ||| BitVec.ofInt IntKind.u8.bits 128).toNat)=vb (UInt8.ofNat (x % 128+128)):=by
  have h:=yj3 x;unfold vb;rw [← h];rw [show IntKind.u8.wrap (x:Int)=(x:Int) % 256 by rw [IntKind.wrap_u8]];rfl
theorem pshr (x:Nat):Int.fdiv (x:Int) (2 ^ (min (7:Int).toNat IntKind.u64.bits))=((x / 128:Nat):Int):=by
  have e2:(2:Int) ^ (min (7:Int).toNat IntKind.u64.bits)=128:=by decide
  rw [e2,Int.fdiv_eq_ediv_of_nonneg _ (by decide)];omega
theorem plow (x:Nat) (h:x<128):Value.int .u8 (IntKind.u8.wrap (x:Int))=vb (UInt8.ofNat x):=by
  unfold vb;rw [zde (by omega),ycx];congr 2;omega
end
section
open Go Go.RowKit WM
theorem ycy (ax:Axs) (hax:ax 26=none) (m:Int) (m1:-9223372036854775808≤m) (m2:m≤9223372036854775807) (n:Nat) (g:Nat→Fam) (lim:Nat) (rd wr:List Nat) (hl:lim≤n) :
    ∃ ao n' g',za0 Tryd.prog (EE ax) 26 [.int .i64 m] (St n g lim rd wr)=some (.slice ao (enc m).length (enc m).length,St n' g' lim rd wr)∧Made n g 1 ao (enc m).length (bvs (enc m)) n' g'∧n'≤n+22:=by
  suffices h:∃ v s2,za0 Tryd.prog (EE ax) 26 [.int .i64 m] (St n g lim rd wr)=some (v,s2)∧∃ ao n' g',v=.slice ao (enc m).length (enc m).length∧s2=St n' g' lim rd wr∧Made n g 1 ao (enc m).length (bvs (enc m)) n' g'∧n'≤n+22 by
    obtain ⟨v,s2,h1,ao,n',g',rfl,rfl,h2,h3⟩:=h;exact ⟨ao,n',g',h1,h2,h3⟩
  have hz:=pzig m m1 m2;have hzl:=zxm m1 m2;refine zf1 (fn:=Tryd.f26) 27 hax (fn26 ax) rfl Tryd.ntmps26 (by simp) ?_;simp (disch:=omega) only [zaz,za6,Nat.reduceAdd];repeat apply W.seq
  apply W.region
  · simp (disch:=first|omega | (simp (disch:=omega) [wE];done) | (apply zac;omega) | (apply zad;omega)) only [ti3,ti63,ti5,ti43,wB0,wB1,wC];with_reducible rfl
  simp only [onN,onB];repeat apply W.seq
  apply W.region
  · simp (disch:=first|omega | (simp (disch:=omega) [wE];done) | (apply zac;omega) | (apply zad;omega)) only [ti3,ti63,ti5,ti43,zak,yfm,z3q,z9q,zho,hz,wB0,wB1,wC];with_reducible rfl
  simp only [onN,onB];repeat apply W.seq
  apply W.region
  · simp (disch:=first|omega | (simp (disch:=omega) [wE];done) | (apply zac;omega) | (apply zad;omega)) only [ti3,ti63,ti5,ti43,wB0,wB1,wC];with_reducible rfl
  simp only [onN,onB];apply W.seq;apply W.block;refine W.loop (fun k fr s=>∃ (zn:Nat) (pre:List UInt8) (ao:Option Addr) (n':Nat) (g':Nat→Fam) (h:Nat→Value),k=zn∧zn<18446744073709551616∧fr=Fr.of 27 h∧h 3=.int .u64 (zn:Int)∧h 4=.slice ao pre.length pre.length∧s=St n' g' lim rd wr∧OwnR n g' n' 1 ao pre.length (bvs pre)∧n≤n'∧n'≤n+2*pre.length∧(∀ i,i<n→g' i=g i)∧pre++venc zn=venc (zig m)) ?_ (zig m) _ _ ⟨zig m,[],none,n,g,_,rfl,hzl,rfl,?_,?_,rfl,OwnR.nil _ _ _ _,Nat.le_refl _,by simp,fun _ _=>rfl,rfl⟩
  case refine_2=>simp (disch:=omega) only [zaa,zab]
  case refine_3=>simp (disch:=omega) only [zaa,zab];rfl
  rintro zn fr s ⟨k,pre,ao,n',g',h,rfl,hzn,rfl,h3,h4,rfl,hown,hn1,hn2,hold,heq⟩;have hlen:pre.length≤10:=by have:=zl5 hzl;rw [← heq] at this;simp at this;omega
  repeat apply W.seq
  apply W.region
  · simp (disch:=first|omega | (simp (disch:=omega) [wE,h3];done) | (apply zac;omega) | (apply zad;omega)) only [ti3,ti63,ti5,ti43,yfv,h3,wB0,wB1,wC];with_reducible rfl
  simp only [onN,onB];by_cases hlt:(127:Int)<(zn:Int)
  case neg =>
    refine W.cond (b:=false) ?_ ?_
    · simp (disch:=omega) only [zaw,get_of,zaa,hlt,decide_false]
    simp only [cond_false];apply W.exit;simp only [onN,onB,Nat.beq_refl,cond_true]
    obtain ⟨ao',n2,g2,e1,o1,l1,l2,l3⟩:=OwnR.append (bytes:=1) (y:=.slice (some (mkA n' (n'*1024+0) 0)) 1 1) (rd:=rd) (rd':=rd) (wr:=wr) (k:=1) (xs:=[vb (UInt8.ofNat zn)]) (hown.keep (n':=n'+1) (g':=fupd g' n' ⟨false,[(n'*1024+0,[vb (UInt8.ofNat zn)])],none⟩) (fun i _ hi=>zae _ _ _ _ (by omega)) (by omega)) (by omega) hl rfl
      (by rw [zhe (cs:=[vb (UInt8.ofNat zn)]) (by rw [zaf];exact zah) (by simp) (by omega)];rfl) rfl rfl (by omega) (by omega)
    repeat apply W.seq
    apply W.region
    · simp (disch:=first|omega | (simp (disch:=omega) [wE,h3,h4,zfw];done) | (apply zac;omega) | (apply zad;omega)) only [ti3,ti63,ti5,ti43,zak,zho,plow zn (by omega),zc8 (zlf ax),zed (ti43 ax) (ti5 ax) rfl rfl,zj9 (zms ax),e1,h3,h4,wB0,wB1,wC];with_reducible rfl
    simp only [onN,onB];apply W.ret;refine ⟨.inr rfl,[.slice ao' (pre.length+1) (pre.length+1)],_,?_,ao',n2,g2,?_,rfl,?_,by omega⟩
    · simp (disch:=omega) only [resC,Tryd.results26,get_of,zaa];all_goals rfl
    · have he:enc m=pre++[UInt8.ofNat zn]:=by unfold enc;rw [← heq,zkc (by omega)]
      rw [he,List.length_append];rfl
    · have he:enc m=pre++[UInt8.ofNat zn]:=by unfold enc;rw [← heq,zkc (by omega)]
      rw [he,List.length_append,zd7];exact ⟨o1,by omega,fun i hi=>by rw [l3 i hi,zae _ _ _ _ (by omega),hold i hi]⟩
  refine W.cond (b:=true) ?_ ?_
  · simp (disch:=omega) only [zaw,get_of,zaa,hlt,decide_true]
  simp only [cond_true];apply W.skip;simp only [onN]
  obtain ⟨ao', n2, g2, e1, o1, l1, l2, l3⟩ := OwnR.append (bytes := 1) (y := .slice (some (mkA n' (n' * 1024 + 0) 0)) 1 1) (rd := rd) (rd' := rd) (wr := wr) (k := 1) (xs := [vb (UInt8.ofNat (zn % 128 + 128))]) (hown.keep (n' := n' + 1) (g' := fupd g' n' ⟨false, [(n' * 1024 + 0, [vb (UInt8.ofNat (zn % 128 + 128))])], none⟩) (fun i _ hi => zae _ _ _ _ (by omega)) (by omega)) (by omega) hl rfl
      (by rw [zhe (cs:=[vb (UInt8.ofNat (zn % 128+128))]) (by rw [zaf];exact zah) (by simp) (by omega)];rfl) rfl rfl (by omega) (by omega)
  apply W.seq;apply W.block;repeat apply W.seq
  apply W.region
  · simp (disch:=first|omega | (simp (disch:=omega) [wE,h3,h4,zfw];done) | (apply zac;omega) | (apply zad;omega)) only [ti3,ti63,ti5,ti43,zak,zho,yj5,por zn,zc8 (zlf ax),zed (ti43 ax) (ti5 ax) rfl rfl,zj9 (zms ax),e1,h3,h4,wB0,wB1,wC];with_reducible rfl
  simp only [onN,onB];repeat apply W.seq
  apply W.region
  · simp (disch:=first|omega | (simp (disch:=omega) [wE,h3];done) | (apply zac;omega) | (apply zad;omega)) only [ti3,ti63,ti5,ti43,z3q,pshr zn,h3,wB0,wB1,wC];with_reducible rfl
  simp only [onN,onB];refine ⟨zn / 128,by omega,zn / 128,pre++[UInt8.ofNat (zn % 128+128)],ao',n2,g2,_,rfl,by omega,rfl,?_,?_,rfl,?_,by omega,?_,fun i hi=>by rw [l3 i hi,zae _ _ _ _ (by omega),hold i hi],?_⟩
  · simp (disch:=omega) only [zaa,zab]
  · simp (disch:=omega) only [zaa,zab];rw [List.length_append];rfl
  · rw [List.length_append,zd7];exact o1
  · rw [List.length_append];simp;omega
  · rw [← heq,zm4 (show ¬ zn<128 by omega)];simp
end
section
open Go Go.RowKit WM
set_option maxRecDepth 100000
def encS (s:ByteArray):List UInt8:=enc (s.size:Int)++s.data.toList
set_option maxHeartbeats 1000000 in
theorem z54 (ax:Axs) (hp:zi5 ax) (s:ByteArray) (hsz:s.size<1000000) (n:Nat) (g:Nat→Fam) (lim:Nat) (rd wr:List Nat) (hl:lim≤n) :
    ∃ ao n' g',za0 Tryd.prog (EE ax) 54 [.string s] (St n g lim rd wr)=some (.slice ao (encS s).length (encS s).length,St n' g' lim rd wr)∧OwnX n g' n' 1 ao (encS s).length (bvs (encS s))∧n≤n'∧(∀ i,i<n→g' i=g i):=by
  have hax:ax 54=none:=hp _ (by decide)
  suffices hh:∃ v s2,za0 Tryd.prog (EE ax) 54 [.string s] (St n g lim rd wr)=some (v,s2)∧∃ ao n' g',v=.slice ao (encS s).length (encS s).length∧s2=St n' g' lim rd wr∧OwnX n g' n' 1 ao (encS s).length (bvs (encS s))∧n≤n'∧(∀ i,i<n→g' i=g i) by
    obtain ⟨v,s2,h1,ao,n',g',rfl,rfl,h2⟩:=hh;exact ⟨ao,n',g',h1,h2⟩
  obtain ⟨a1,n1,g1,e1,m1,b1⟩:=ycy ax (hp _ (by decide)) (s.size:Int) (by omega) (by omega) n g lim rd wr hl;have o1:OwnX n g1 n1 1 a1 (enc (s.size:Int)).length (bvs (enc (s.size:Int))):=.inl m1.own;have l1:=m1.le;have k1:=m1.old;have h10:=zo8 (n:=(s.size:Int)) (by omega) (by omega)
  have ht:CS.firstCells (St n1 g1 lim rd wr) 1 s.size (.string s)=some (bvs s.data.toList,St n1 g1 lim rd wr):=by
    rw [zlt (Nat.le_refl _),ybi];rfl
  obtain ⟨a2,n2,g2,e2,o2,l2,l2',k2⟩:=o1.append (bytes:=1) (k:=s.size) (y:=.string s) (by omega) hl rfl ht (by rw [zam,zcb,Nat.mul_one]) (zfa _) (by omega) (by omega);have hlen:(encS s).length=(enc (s.size:Int)).length+s.size:=by unfold encS;rw [List.length_append,zcb]
  rw [← zd7] at o2;refine zf1 (fn:=Tryd.f54) 8 hax (fn54 ax) rfl Tryd.ntmps54 (by simp) ?_;simp (disch:=omega) only [zaz,za6,Nat.reduceAdd];repeat apply W.seq
  apply W.region
  · simp (disch:=first|omega | (simp (disch:=omega) [wE];done) | (apply zac;omega) | (apply zad;omega)) only [ti3,ti47,ti5,ti63,wB0,wB1,wC];with_reducible rfl
  simp only [onN,onB];repeat apply W.seq
  apply W.region
  · simp (disch:=first|omega | (simp (disch:=omega) [wE];done) | (apply zac;omega) | (apply zad;omega)) only [ti3,ti47,ti5,ti63,z1s (ti9 ax),e1,zc8 (z78 ax),zj9 (zms ax),e2,wB0,wB1,wC];with_reducible rfl
  simp only [onN,onB];apply W.ret;refine ⟨.inr rfl,[.slice a2 ((enc (s.size:Int)).length+s.size) ((enc (s.size:Int)).length+s.size)],St n2 g2 lim rd wr,?_,a2,n2,g2,by rw [hlen];rfl,rfl,by rw [hlen];exact o2,by omega,fun i hi=>by rw [k2 _ hi,k1 _ hi]⟩;simp (disch:=omega) only [resC,Tryd.results54,get_of,zaa];all_goals rfl
theorem z64 (m:Nat):zig (m:Int)=2*m:=by unfold zig;split<;>omega
set_option maxHeartbeats 2000000 in
theorem ydk (ax:Axs) (hp:zi5 ax) (m:Nat) (hm:m<1000000000) (n:Nat) (g:Nat→Fam) (lim:Nat) (rd wr:List Nat) (hl:lim≤n) :
    ∃ ao n' g',za0 Tryd.prog (EE ax) 24 [.int .i64 (m:Int)] (St n g lim rd wr)=some (.slice ao (enc (m:Int)).length (enc (m:Int)).length,St n' g' lim rd wr)∧OwnX n g' n' 1 ao (enc (m:Int)).length (bvs (enc (m:Int)))∧n≤n'∧(∀ i,i<n→g' i=g i):=by
  have hax:ax 24=none:=hp _ (by decide)
  suffices hh:∃ v s2,za0 Tryd.prog (EE ax) 24 [.int .i64 (m:Int)] (St n g lim rd wr)=some (v,s2)∧∃ ao n' g',v=.slice ao (enc (m:Int)).length (enc (m:Int)).length∧s2=St n' g' lim rd wr∧OwnX n g' n' 1 ao (enc (m:Int)).length (bvs (enc (m:Int)))∧n≤n'∧(∀ i,i<n→g' i=g i) by
    obtain ⟨v,s2,h1,ao,n',g',rfl,rfl,h2⟩:=hh;exact ⟨ao,n',g',h1,h2⟩
  have hzl:=zxm (n:=(m:Int)) (by omega) (by omega);refine zf1 (fn:=Tryd.f24) 31 hax (fn24 ax) rfl Tryd.ntmps24 (by simp) ?_;simp (disch:=omega) only [zaz,za6,Nat.reduceAdd];repeat apply W.seq
  apply W.region
  · simp (disch:=first|omega | (simp (disch:=omega) [wE];done) | (apply zac;omega) | (apply zad;omega)) only [ti3,ti47,ti5,ti63,wB0,wB1,wC];with_reducible rfl
  simp only [onN,onB];have cu:IntKind.u64.wrap ((m:Nat):Int)=((m:Nat):Int):=zad (by omega);have c2:((m:Nat):Int)*2=((2*m:Nat):Int):=by omega
  repeat apply W.seq
  apply W.region
  · simp (disch:=first|omega | (simp (disch:=omega) [wE];done) | (apply zac;omega) | (apply zad;omega) | (rw [c2];apply zad;omega)) only [ti3,ti47,ti5,ti63,zak,zho,cu,znv,c2,wB0,wB1,wC];with_reducible rfl
  simp only [onN,onB];have xn:decide (((m:Nat):Int)<0)=false:=decide_eq_false (by omega);repeat apply W.seq
  apply W.region
  · simp (disch:=first|omega | (simp (disch:=omega) [wE];done) | (apply zac;omega) | (apply zad;omega)) only [ti3,ti47,ti5,ti63,zgt,xn,wB0,wB1,wC];with_reducible rfl
  simp only [onN,onB];repeat apply W.seq
  refine W.cond (b:=false) ?_ ?_
  · simp (disch:=omega) only [zaw,get_of,zaa,zab,cond_true,decide_true,decide_false]
  simp only [cond_true,cond_false];apply W.skip;simp only [onN,onB];repeat apply W.seq
  apply W.region
  · simp (disch:=first|omega | (simp (disch:=omega) [wE];done) | (apply zac;omega) | (apply zad;omega)) only [ti3,ti47,ti5,ti63,wB0,wB1,wC];with_reducible rfl
  simp only [onN,onB];repeat apply W.seq
  apply W.block;refine W.loop (fun k fr s=>∃ (zn:Nat) (pre:List UInt8) (ao:Option Addr) (n':Nat) (g':Nat→Fam) (h:Nat→Value),k=zn∧zn<18446744073709551616∧fr=Fr.of 31 h∧h 3=.int .u64 (zn:Int)∧h 4=.slice ao pre.length pre.length∧s=St n' g' lim rd wr∧OwnX n g' n' 1 ao pre.length (bvs pre)∧n≤n'∧(∀ i,i<n→g' i=g i)∧pre++venc zn=venc (2*m)) ?_ (2*m) _ _ ⟨2*m,[],none,n,g,_,rfl,by omega,rfl,?_,?_,rfl,.inl (OwnR.nil _ _ _ _),Nat.le_refl _,fun _ _=>rfl,rfl⟩
  case refine_2=>simp (disch:=omega) only [zaa,zab]
  case refine_3=>simp (disch:=omega) only [zaa,zab];rfl
  rintro zn fr s ⟨k,pre,ao,n',g',h,rfl,hzn,rfl,h3,h4,rfl,hown,hn1,hold,heq⟩;have hlen:pre.length≤10:=by have:=zl5 (z:=2*m) (by omega);rw [← heq] at this;simp at this;omega
  have henc:enc (m:Int)=venc (2*m):=by unfold enc;rw [z64]
  repeat apply W.seq
  apply W.region
  · simp (disch:=first|omega | (simp (disch:=omega) [wE,h3];done) | (apply zac;omega) | (apply zad;omega)) only [ti3,ti47,ti5,ti63,yj8,h3,wB0,wB1,wC];with_reducible rfl
  simp only [onN,onB];by_cases hlt:(128:Int)≤(zn:Int)
  case neg =>
    repeat apply W.seq
    refine W.cond (b:=false) ?_ ?_
    · simp (disch:=omega) only [zaw,get_of,zaa,zab,hlt,decide_true,decide_false]
    simp only [cond_true,cond_false];apply W.exit;simp only [onN,onB,Nat.beq_refl,cond_true,cond_false,zmt];obtain ⟨ao',n2,g2,e1,o1,l1,l2,l3⟩:=OwnX.push (lim:=lim) (bytes:=1) (rd:=rd) (wr:=wr) (v:=vb (UInt8.ofNat zn)) hown (by omega) hl rfl (by omega);repeat apply W.seq
    apply W.region
    · simp (disch:=first|omega | (simp (disch:=omega) [wE,h3,h4,zfw];done) | (apply zac;omega) | (apply zad;omega)) only [ti3,ti47,ti5,ti63,zak,zho,plow zn (by omega),zc8 (zlf ax),zed (ti43 ax) (ti5 ax) rfl rfl,zj9 (zms ax),e1,h3,h4,wB0,wB1,wC];with_reducible rfl
    simp only [onN,onB];apply W.ret;have he:enc (m:Int)=pre++[UInt8.ofNat zn]:=by rw [henc,← heq,zkc (by omega)]
    refine ⟨.inr rfl,[.slice ao' (pre.length+1) (pre.length+1)],St n2 g2 lim rd wr,?_,ao',n2,g2,by rw [he,List.length_append];rfl,rfl,?_,by omega,fun i hi=>by rw [l3 i hi,hold i hi]⟩
    · simp (disch:=omega) only [resC,Tryd.results24,get_of,zaa];all_goals rfl
    · rw [he,List.length_append,zd7];exact o1
  repeat apply W.seq
  refine W.cond (b:=true) ?_ ?_
  · simp (disch:=omega) only [zaw,get_of,zaa,zab,hlt,decide_true,decide_false]
  simp only [cond_true,cond_false];apply W.skip;simp only [onN,onB];have d1:((zn:Nat):Int) % 128=((zn % 128:Nat):Int):=by omega
  have d2:IntKind.u8.wrap ((zn % 128:Nat):Int)=((zn % 128:Nat):Int):=z4d (by omega);have d3:((zn % 128:Nat):Int)+128=((zn % 128+128:Nat):Int):=by omega
  have d4:((zn:Nat):Int) / 128=((zn / 128:Nat):Int):=by omega
  obtain ⟨ao',n2,g2,e1,o1,l1,l2,l3⟩:=OwnX.push (lim:=lim) (bytes:=1) (rd:=rd) (wr:=wr) (v:=vb (UInt8.ofNat (zn % 128+128))) hown (by omega) hl rfl (by omega);repeat apply W.seq
  apply W.block;repeat apply W.seq
  apply W.region
  · simp (disch:=first|omega | (simp (disch:=omega) [wE,h3,h4,zfw];done) | (apply zac;omega) | (apply zad;omega) | (rw [d3];apply z4d;omega)) only [ti3,ti47,ti5,ti63,zak,zho,zui,d1,d2,zd0,d3,yja (zn % 128+128) (by omega),zc8 (zlf ax),zed (ti43 ax) (ti5 ax) rfl rfl,zj9 (zms ax),e1,h3,h4,wB0,wB1,wC];with_reducible rfl
  simp only [onN,onB];repeat apply W.seq
  apply W.region
  · simp (disch:=first|omega | (simp (disch:=omega) [wE,h3];done) | (apply zac;omega) | (apply zad;omega) | (rw [d4];apply zad;omega)) only [ti3,ti47,ti5,ti63,z9x,d4,h3,wB0,wB1,wC];with_reducible rfl
  simp only [onN,onB];refine ⟨zn / 128,by omega,zn / 128,pre++[UInt8.ofNat (zn % 128+128)],ao',n2,g2,_,rfl,by omega,rfl,?_,?_,rfl,?_,by omega,fun i hi=>by rw [l3 i hi,hold i hi],?_⟩
  · simp (disch:=omega) only [zaa,zab]
  · simp (disch:=omega) only [zaa,zab];rw [List.length_append];rfl
  · rw [List.length_append,zd7];exact o1
  · rw [← heq,zm4 (show ¬ zn<128 by omega)];simp
set_option maxHeartbeats 1000000 in
theorem z6i (ax:Axs) (hp:zi5 ax) (s:ByteArray) (hsz:s.size<1000000) (n:Nat) (g:Nat→Fam) (lim:Nat) (rd wr:List Nat) (hl:lim≤n) :
    ∃ ao n' g',za0 Tryd.prog (EE ax) 67 [.string s] (St n g lim rd wr)=some (.slice ao (encS s).length (encS s).length,St n' g' lim rd wr)∧OwnX n g' n' 1 ao (encS s).length (bvs (encS s))∧n≤n'∧(∀ i,i<n→g' i=g i):=by
  have hax:ax 67=none:=hp _ (by decide)
  suffices hh:∃ v s2,za0 Tryd.prog (EE ax) 67 [.string s] (St n g lim rd wr)=some (v,s2)∧∃ ao n' g',v=.slice ao (encS s).length (encS s).length∧s2=St n' g' lim rd wr∧OwnX n g' n' 1 ao (encS s).length (bvs (encS s))∧n≤n'∧(∀ i,i<n→g' i=g i) by
    obtain ⟨v,s2,h1,ao,n',g',rfl,rfl,h2⟩:=hh;exact ⟨ao,n',g',h1,h2⟩
  obtain ⟨a1,n1,g1,e1,o1,l1,k1⟩:=ydk ax hp s.size (by omega) n g lim rd wr hl;have h10:=zo8 (n:=(s.size:Int)) (by omega) (by omega)
  have ht:CS.firstCells (St n1 g1 lim rd wr) 1 s.size (.string s)=some (bvs s.data.toList,St n1 g1 lim rd wr):=by
    rw [zlt (Nat.le_refl _),ybi];rfl
  obtain ⟨a2,n2,g2,e2,o2,l2,l2',k2⟩:=o1.append (bytes:=1) (k:=s.size) (y:=.string s) (by omega) hl rfl ht (by rw [zam,zcb,Nat.mul_one]) (zfa _) (by omega) (by omega);have hlen:(encS s).length=(enc (s.size:Int)).length+s.size:=by unfold encS;rw [List.length_append,zcb]
  rw [← zd7] at o2;refine zf1 (fn:=Tryd.f67) 8 hax (fn67 ax) rfl Tryd.ntmps67 (by simp) ?_;simp (disch:=omega) only [zaz,za6,Nat.reduceAdd];repeat apply W.seq
  apply W.region
  · simp (disch:=first|omega | (simp (disch:=omega) [wE];done) | (apply zac;omega) | (apply zad;omega)) only [ti3,ti47,ti5,ti63,wB0,wB1,wC];with_reducible rfl
  simp only [onN,onB];repeat apply W.seq
  apply W.region
  · simp (disch:=first|omega | (simp (disch:=omega) [wE];done) | (apply zac;omega) | (apply zad;omega)) only [ti3,ti47,ti5,ti63,z1s (ti9 ax),e1,zc8 (z78 ax),zj9 (zms ax),e2,wB0,wB1,wC];with_reducible rfl
  simp only [onN,onB];apply W.ret;refine ⟨.inr rfl,[.slice a2 ((enc (s.size:Int)).length+s.size) ((enc (s.size:Int)).length+s.size)],St n2 g2 lim rd wr,?_,a2,n2,g2,by rw [hlen];rfl,rfl,by rw [hlen];exact o2,by omega,fun i hi=>by rw [k2 _ hi,k1 _ hi]⟩;simp (disch:=omega) only [resC,Tryd.results67,get_of,zaa];all_goals rfl
end
section
open Go Go.RowKit WM
set_option maxRecDepth 100000
theorem tiD (ax:Axs):(EE ax).ti.at 23=some ⟨.array 16 5,16,16,List.replicate 16 (.int .u8 0)⟩:=by kernel_rfl
theorem bld16 (ax:Axs) (s:CS) (ρ:Operand→Value):zdn (EE ax) s ρ 23 []=some (.agg (List.replicate 16 (.int .u8 0)).toArray,s):=by kernel_rfl
def zdb (t:Int):UInt8:=UInt8.ofNat (t % 256).toNat
theorem z0k (t:Int):Value.int .u8 (IntKind.u8.wrap t)=vb (zdb t):=by
  unfold vb zdb;have hlt:(t % 256).toNat<256:=by omega
  have h:(UInt8.ofNat (t % 256).toNat).toNat=(t % 256).toNat:=UInt8.toNat_ofNat_of_lt' hlt;rw [h,IntKind.wrap_u8];congr 1;omega
theorem yem {P:Program} {Γ:Env} {ρ:Operand→Value} {s:CS} {src dst ty:TypeId} {d:Option Tmp} {pos:String} {e:Array Edge} {q:Option (Nat×Bool)} {x:Operand} {z b z2 b2:Nat} {zs zs2:List Value} {t:Int} (hs:Γ.ti.at src=some ⟨.int .i64,z,b,zs⟩) (hd:Γ.ti.at dst=some ⟨.int .u8,z2,b2,zs2⟩) (ps:(P.underlying src).isSome=true) (pd:P.underlying dst=some (.int .u8)) (hx:ρ x=.int .i64 t):zak P Γ ρ ⟨d,.convert src dst x,ty,pos,e,q⟩ s src dst (.int .i64 t)=some (vb (zdb t),s):=by
  unfold zak;rw [hs,hd];show zea P ρ _ s (zto .u8 t)=_;rw [zho ⟨_,hx⟩ ps pd,z0k]
def inpL (c:UInt8) (ss:List ByteArray):Nat→List UInt8
  |0=>[c]
  |i+1=>inpL c ss i++encS (ss.getD i nilB)
theorem zw0 (s:ByteArray) (h:s.size≤4000):(encS s).length≤4010:=by
  have:=zo8 (n:=(s.size:Int)) (by omega) (by omega);unfold encS;rw [List.length_append,zcb];omega
theorem zn0 (c:UInt8) (ss:List ByteArray) (h:∀ i,i<ss.length→(ss.getD i nilB).size≤4000):∀ i,i≤ss.length→(inpL c ss i).length≤1+4010*i
  |0,_=>by simp [inpL]
  |i+1,hi=>by
    have:=zn0 c ss h i (by omega);have:=zw0 _ (h i (by omega));rw [inpL,List.length_append];omega
set_option maxHeartbeats 2000000 in
theorem yh7 (ax:Axs) (hp:zi5 ax) (tag:Int) (x:Option Addr) (len cap:Nat) (ss:List ByteArray) (h12:len≤12) (h400:∀ i,i<len→(ss.getD i nilB).size≤4000) (n:Nat) (g:Nat→Fam) (lim:Nat) (rd wr:List Nat) (hl:lim≤n) (hs:zoj g n x len cap ss) :
    ∃ ao n' g' rd',za0 Tryd.prog (EE ax) 57 [.int .i64 tag,.slice x len cap] (St n g lim rd wr)=some (.slice ao (inpL (zdb tag) ss len).length (inpL (zdb tag) ss len).length,St n' g' lim rd' wr)∧OwnX n g' n' 1 ao (inpL (zdb tag) ss len).length (bvs (inpL (zdb tag) ss len))∧n≤n'∧(∀ i,i<n→g' i=g i)∧(∀ y,y∈rd'→y∈rd∨(RB x y∧y<lim)):=by
  have hax:ax 57=none:=hp _ (by decide);have hsl:=hs.1
  suffices hh:∃ v s2,za0 Tryd.prog (EE ax) 57 [.int .i64 tag,.slice x len cap] (St n g lim rd wr)=some (v,s2)∧∃ ao n' g' rd',v=.slice ao (inpL (zdb tag) ss len).length (inpL (zdb tag) ss len).length∧s2=St n' g' lim rd' wr∧OwnX n g' n' 1 ao (inpL (zdb tag) ss len).length (bvs (inpL (zdb tag) ss len))∧n≤n'∧(∀ i,i<n→g' i=g i)∧(∀ y,y∈rd'→y∈rd∨(RB x y∧y<lim)) by
    obtain ⟨v,s2,h1,ao,n',g',rd',rfl,rfl,h2⟩:=hh;exact ⟨ao,n',g',rd',h1,h2⟩
  refine zf1 (fn:=Tryd.f57) 24 hax (fn57 ax) rfl Tryd.ntmps57 (by simp) ?_;simp (disch:=omega) only [zaz,za6,Nat.reduceAdd];generalize hc:zdb tag=c at *;repeat apply W.seq
  apply W.region
  · simp (disch:=first|omega | (simp (disch:=omega) [wE];done) | (apply zac;omega) | (apply zad;omega)) only [ti3,ti47,ti5,wB0,wB1,wC];with_reducible rfl
  simp only [onN,onB];repeat apply W.seq
  apply W.region
  · simp (disch:=first|omega | (simp (disch:=omega) [wE,zfw];done) | (apply zac;omega) | (apply zad;omega)) only [ti3,ti47,ti5,zak,zho,z0k,hc,zed (ti43 ax) (ti5 ax) rfl rfl,wB0,wB1,wC];with_reducible rfl
  simp only [onN,onB];repeat apply W.seq
  apply W.region
  · simp (disch:=first|omega | (simp (disch:=omega) [wE];done) | (apply zac;omega) | (apply zad;omega)) only [ti3,ti47,ti5,wB0,wB1,wC];with_reducible rfl
  simp only [onN,onB];repeat apply W.seq
  apply W.block;refine W.loop (fun m fr s=>∃ (i:Nat) (ao:Option Addr) (h:Nat→Value) (N:Nat) (g':Nat→Fam) (rd':List Nat),i≤len∧m=len - i∧fr=Fr.of 24 h∧s=St N g' lim rd' wr∧n≤N∧h 1=.slice x len cap∧h 6=.int .i64 (i:Int)∧h 5=.slice ao (inpL c ss i).length (inpL c ss i).length∧OwnX n g' N 1 ao (inpL c ss i).length (bvs (inpL c ss i))∧(∀ i,i<n→g' i=g i)∧(∀ y,y∈rd'→y∈rd∨(RB x y∧y<lim))) ?_ (len - 0) _ _ ⟨0,_,_,n+1,_,rd,by omega,rfl,rfl,rfl,by omega,?_,?_,?_,.inr ⟨rfl,n,n*1024+0,[],rfl,zaf _ _ _,by omega,by omega,by omega,by omega⟩,fun i hi=>zae _ _ _ _ (by omega),fun y hy=>.inl hy⟩
  case refine_2=>simp (disch:=omega) only [zaa,zab]
  case refine_3=>simp (disch:=omega) only [zaa,zab];rfl
  case refine_4=>simp (disch:=omega) only [zaa,zab];rfl
  rintro m fr s ⟨i,ao,h,N,g',rd',hi,rfl,rfl,rfl,hN,h1,h6,h5,hown,p0,pr⟩;repeat apply W.seq
  apply W.region
  · simp (disch:=first|omega | (simp (disch:=omega) [wE,h1,h6];done) | (apply zac;omega) | (apply zad;omega)) only [ti3,ti47,ti5,h1,h6,zsg (ti56 ax),zgt,wB0,wB1,wC];with_reducible rfl
  simp only [onN,onB];by_cases hlt:(i:Int)<(len:Int)
  case neg =>
    repeat apply W.seq
    refine W.cond (b:=false) ?_ ?_
    · simp (disch:=omega) only [zaw,get_of,zaa,zab,hlt,decide_true,decide_false]
    simp only [cond_true,cond_false];apply W.exit;simp only [onN,onB,Nat.beq_refl,cond_true,cond_false,zmt];have hie:i=len:=by omega
    subst hie;repeat apply W.seq
    apply W.region
    · simp (disch:=first|omega | (simp (disch:=omega) [wE,h5];done) | (apply zac;omega) | (apply zad;omega)) only [ti3,ti47,ti5,h5,wB0,wB1,wC];with_reducible rfl
    simp only [onN,onB];apply W.ret;refine ⟨.inr rfl,[.slice ao (inpL c ss i).length (inpL c ss i).length],St N g' lim rd' wr,?_,ao,N,g',rd',rfl,rfl,hown,hN,p0,pr⟩;simp (disch:=omega) only [resC,Tryd.results57,get_of,zaa];all_goals rfl
  repeat apply W.seq
  refine W.cond (b:=true) ?_ ?_
  · simp (disch:=omega) only [zaw,get_of,zaa,zab,hlt,decide_true,decide_false]
  simp only [cond_true,cond_false];apply W.skip;simp only [onN,onB];have hil:i<len:=by omega
  obtain ⟨pp,pf,hpr,hpf,A1,A2⟩:=hs.at (Γ:=EE ax) (i:=i) hil (ti56 ax) (ti9 ax);have A3:=A2 N g' lim rd' wr p0;have hsi:=h400 i hil;obtain ⟨a2,n2,g2,e2,o2,l2,k2⟩:=z6i ax hp (ss.getD i nilB) (by omega) N g' lim (ins lim rd' pf) wr (by omega);have hel:=zw0 _ hsi;have hil2:=zn0 c ss (fun i hi=>h400 i (by omega)) i (by omega);have F1:=o2.first (lim:=lim) (rd:=ins lim rd' pf) (wr:=wr) (k:=(encS (ss.getD i nilB)).length) (by omega) (Nat.le_refl _)
  rw [Nat.mul_one,List.take_of_length_le (by rw [zam];exact Nat.le_refl _)] at F1;have hown2:=hown.keep (n':=n2) (g':=g2) (fun j _ hj=>k2 j hj) l2;obtain ⟨a3,n3,g3,e3,o3,l3,l3',k3⟩:=hown2.append (bytes:=1) (k:=(encS (ss.getD i nilB)).length) (y:=.slice a2 (encS (ss.getD i nilB)).length (encS (ss.getD i nilB)).length) (by omega) hl rfl F1 (by rw [zam,Nat.mul_one]) (zfa _) (by omega) (by omega);rw [← zd7] at o3;repeat apply W.seq
  apply W.block;repeat apply W.seq
  apply W.region
  · simp (disch:=first|omega | (simp (disch:=omega) [wE,h1,h5,h6];done) | (apply zac;omega) | (apply zad;omega)) only [ti3,ti47,ti5,h1,h5,h6,za5,A1,A3,e2,zc8 (zlf ax),zj9 (zms ax),e3,wB0,wB1,wC];with_reducible rfl
  simp only [onN,onB];repeat apply W.seq
  apply W.region
  · simp (disch:=first|omega | (simp (disch:=omega) [wE,h6];done) | (apply zac;omega) | (apply zad;omega)) only [ti3,ti47,ti5,zd0,h6,wB0,wB1,wC];with_reducible rfl
  simp only [onN,onB];refine ⟨len - (i+1),by omega,i+1,a3,_,n3,g3,_,by omega,rfl,rfl,rfl,by omega,?_,?_,?_,?_,fun j hj=>by rw [k3 _ (by omega),k2 _ (by omega)];exact p0 j hj,z88 pr (fun _=>hpr)⟩
  · simp (disch:=omega) only [zaa,zab,h1]
  · simp (disch:=omega) only [zaa,zab];rfl
  · simp (disch:=omega) only [zaa,zab,inpL,List.length_append]
  · rw [inpL,List.length_append];exact o3
theorem ybs (M:List UInt8) (i:Nat) (h:i<16):(bvs ((sha M).take i)++List.replicate (16 - i) (vb 0)).set i (vb ((sha M).getD i 0))=bvs ((sha M).take (i+1))++List.replicate (16 - (i+1)) (vb 0):=by
  have hl:=zd3 M;have e:16 - i=(16 - (i+1))+1:=by omega
  rw [e,List.replicate_succ,List.set_append_right _ _ (by rw [zam,List.length_take];omega),zam,List.length_take,show i - min i (sha M).length=0 by omega,List.set_cons_zero,List.take_add_one,zd7,List.append_assoc];have:(sha M)[i]?.toList=[(sha M).getD i 0]:=by rw [List.getD_eq_getElem?_getD,List.getElem?_eq_getElem (by omega)];rfl
  rw [this];rfl
set_option maxHeartbeats 2000000 in
theorem z8k (ax:Axs) (hp:zi5 ax) (x:Option Addr) (len cap:Nat) (bs:List UInt8) (hlen:len<1000000) (n:Nat) (g:Nat→Fam) (lim:Nat) (rd wr:List Nat) (hl:lim≤n) (hb:zhz g n x len bs) (hG:0<n) (hk:zat (g 0).rows (0*1024)=some (wvs KW)) :
    ∃ n' g' rd',za0 Tryd.prog (EE ax) 56 [.slice x len cap] (St n g lim rd wr)=some (.agg (bvs ((sha bs).take 16)).toArray,St n' g' lim rd' wr)∧n≤n'∧(∀ i,i<n→g' i=g i)∧(∀ y,y∈rd'→y∈rd∨((y=0∨RB x y)∧y<lim)):=by
  have hax:ax 56=none:=hp _ (by decide)
  suffices hh:∃ v s2,za0 Tryd.prog (EE ax) 56 [.slice x len cap] (St n g lim rd wr)=some (v,s2)∧v=.agg (bvs ((sha bs).take 16)).toArray∧∃ n' g' rd',s2=St n' g' lim rd' wr∧n≤n'∧(∀ i,i<n→g' i=g i)∧(∀ y,y∈rd'→y∈rd∨((y=0∨RB x y)∧y<lim)) by
    obtain ⟨v,s2,h1,rfl,n',g',rd',rfl,h2⟩:=hh;exact ⟨n',g',rd',h1,h2⟩
  have hsl:=zd3 bs;refine zf1 (fn:=Tryd.f56) 19 hax (fn56 ax) rfl Tryd.ntmps56 (by simp) ?_;simp (disch:=omega) only [zaz,za6,Nat.reduceAdd];repeat apply W.seq
  apply W.region
  · simp (disch:=first|omega | (simp (disch:=omega) [wE];done) | (apply zac;omega) | (apply zad;omega)) only [ti3,ti47,ti5,za9 (tiD ax),wB0,wB1,wC];with_reducible rfl
  simp only [onN,onB];generalize hg0:fupd g n ⟨false,[(n*1024+0,List.replicate 16 (.int .u8 0))],none⟩=g0;have p1:g0 n=⟨false,[(n*1024+0,List.replicate 16 (vb 0))],none⟩:=by rw [← hg0,zaf];rfl
  have p0:∀ i,i<n→g0 i=g i:=fun i hi=>by rw [← hg0,zae _ _ _ _ (by omega)]
  clear hg0
  have hb2:zhz g0 (n+1) x len bs:=by
    refine ⟨hb.1,hb.2.imp id ?_⟩;rintro ⟨f,u,off,cs,rfl,h1,h2,h3⟩;exact ⟨f,u,off,cs,rfl,by omega,by rw [p0 f h1];exact h2,h3⟩
  obtain ⟨n2,g2,rd2,e2,a1,a2,a3⟩:=ydi ax hp x len cap bs (by omega) (n+1) g0 lim rd wr (by omega) hb2 (by omega) (by rw [p0 _ hG];exact hk);have S1:=zen (n:=n2+1) (lim:=lim) (rd:=rd2) (wr:=wr) (ti76 ax) (g:=fupd g2 n2 ⟨false,[(n2*1024+0,List.replicate 32 (.int .u8 0))],none⟩) (f:=n2) (u:=n2*1024+0) (vs:=bvs (sha bs)) (zaf _ _ _) (by rw [zam,hsl]) (by simp) (zfa _);rw [zcp,zau (f:=n2) _ (by omega)] at S1;repeat apply W.seq
  apply W.region
  · simp (disch:=first|omega | (simp (disch:=omega) [wE];done) | (apply zac;omega) | (apply zad;omega)) only [ti3,ti47,ti5,e2,za9 (ti76 ax),zas,S1,wB0,wB1,wC];with_reducible rfl
  simp only [onN,onB];have S2:=zen (n:=n2+1+1) (lim:=lim) (rd:=rd2) (wr:=wr) (tiD ax) (g:=fupd (fupd g2 n2 ⟨false,[(n2*1024+0,bvs (sha bs))],none⟩) (n2+1) ⟨false,[((n2+1)*1024+0,List.replicate 16 (.int .u8 0))],none⟩) (f:=n2+1) (u:=(n2+1)*1024+0) (vs:=List.replicate 16 (.int .u8 0)) (zaf _ _ _) (by simp) (by simp) rfl;rw [zcp,zau (f:=n2+1) _ (by omega)] at S2;repeat apply W.seq
  apply W.region
  · simp (disch:=first|omega | (simp (disch:=omega) [wE];done) | (apply zac;omega) | (apply zad;omega)) only [ti3,ti47,ti5,bld16 ax,za9 (tiD ax),zas,S2,wB0,wB1,wC];with_reducible rfl
  simp only [onN,onB];generalize hg3:fupd (fupd g2 n2 ⟨false,[(n2*1024+0,bvs (sha bs))],none⟩) (n2+1) ⟨false,[((n2+1)*1024+0,List.replicate 16 (.int .u8 0))],none⟩=g3;have q1:g3 n=⟨false,[(n*1024+0,List.replicate 16 (vb 0))],none⟩:=by rw [← hg3,zae _ _ _ _ (by omega),zae _ _ _ _ (by omega),a2 _ (by omega)];exact p1
  have q2:g3 n2=⟨false,[(n2*1024+0,bvs (sha bs))],none⟩:=by rw [← hg3,zae _ _ _ _ (by omega),zaf]
  have q3:g3 (n2+1)=⟨false,[((n2+1)*1024+0,bvs ((sha bs).take 0)++List.replicate (16 - 0) (vb 0))],none⟩:=by rw [← hg3,zaf];rfl
  have q0:∀ i,i<n→g3 i=g i:=fun i hi=>by rw [← hg3,zae _ _ _ _ (by omega),zae _ _ _ _ (by omega),a2 _ (by omega)];exact p0 i hi
  clear hg3 S1 S2 e2 p1 p0;repeat apply W.seq
  apply W.region
  · simp (disch:=first|omega | (simp (disch:=omega) [wE];done) | (apply zac;omega) | (apply zad;omega)) only [ti3,ti47,ti5,wB0,wB1,wC];with_reducible rfl
  simp only [onN,onB];repeat apply W.seq
  apply W.block;refine W.loop (fun m fr s=>∃ (i:Nat) (h:Nat→Value) (g':Nat→Fam),i≤16∧m=16 - i∧fr=Fr.of 19 h∧s=St (n2+1+1) g' lim rd2 wr∧h 2=.pointer (some (mkA n (n*1024+0) 0))∧h 3=.pointer (some (mkA n2 (n2*1024+0) 0))∧h 4=.pointer (some (mkA (n2+1) ((n2+1)*1024+0) 0))∧h 5=.int .i64 (i:Int)∧g' n=⟨false,[(n*1024+0,List.replicate 16 (vb 0))],none⟩∧g' n2=⟨false,[(n2*1024+0,bvs (sha bs))],none⟩∧g' (n2+1)=⟨false,[((n2+1)*1024+0,bvs ((sha bs).take i)++List.replicate (16 - i) (vb 0))],none⟩∧(∀ i,i<n→g' i=g i)) ?_ (16 - 0) _ _ ⟨0,_,g3,by omega,rfl,rfl,rfl,?_,?_,?_,?_,q1,q2,q3,q0⟩
  case refine_2=>simp (disch:=omega) only [zaa,zab]
  case refine_3=>simp (disch:=omega) only [zaa,zab]
  case refine_4=>simp (disch:=omega) only [zaa,zab]
  case refine_5=>simp (disch:=omega) only [zaa,zab];rfl
  clear q1 q2 q3 q0;rintro m fr s ⟨i,h,g',hi,rfl,rfl,rfl,h2,h3,h4,h5,q1,q2,q3,q0⟩;repeat apply W.seq
  apply W.region
  · simp (disch:=first|omega | (simp (disch:=omega) [wE,h5];done) | (apply zac;omega) | (apply zad;omega)) only [ti3,ti47,ti5,zgt,h5,wB0,wB1,wC];with_reducible rfl
  simp only [onN,onB];by_cases hl16:(i:Int)<16
  case neg =>
    repeat apply W.seq
    refine W.cond (b:=false) ?_ ?_
    · simp (disch:=omega) only [zaw,get_of,zaa,zab,hl16,decide_true,decide_false]
    simp only [cond_true,cond_false];apply W.exit;simp only [onN,onB,Nat.beq_refl,cond_true,cond_false,zmt];have hi':i=16:=by omega
    subst hi';have hbl:bvs ((sha bs).take 16)++List.replicate (16 - 16) (vb 0)=bvs ((sha bs).take 16):=by rw [Nat.sub_self,List.replicate_zero,List.append_nil]
    rw [hbl] at q3;have h16:(bvs ((sha bs).take 16)).length=16:=by rw [zam,List.length_take];omega
    have L1:=ze5 (n:=n2+1+1) (lim:=lim) (rd:=rd2) (wr:=wr) (tiD ax) rfl (g:=g') (f:=n2+1) (u:=(n2+1)*1024+0) (cs:=bvs ((sha bs).take 16)) (by rw [q3];exact zah) h16;rw [zau (f:=n2+1) _ (by omega)] at L1;have S1:=zen (n:=n2+1+1) (lim:=lim) (rd:=rd2) (wr:=wr) (tiD ax) (f:=n) (u:=n*1024+0) (vs:=bvs ((sha bs).take 16)) q1 h16 (by simp) (zfa _);rw [zau (f:=n) _ (by omega)] at S1;repeat apply W.seq
    apply W.region
    · simp (disch:=first|omega | (simp (disch:=omega) [wE,h2,h4];done) | (apply zac;omega) | (apply zad;omega)) only [ti3,ti47,ti5,h2,h4,L1,zas,S1,wB0,wB1,wC];with_reducible rfl
    simp only [onN,onB];apply W.ret;refine ⟨.inr rfl,[.agg (bvs ((sha bs).take 16)).toArray],St (n2+1+1) (fupd g' n ⟨false,[(n*1024+0,bvs ((sha bs).take 16))],none⟩) lim rd2 wr,?_,rfl,n2+1+1,_,rd2,rfl,by omega,fun i hi=>by rw [zae _ _ _ _ (by omega)];exact q0 i hi,fun y hy=>(a3 y hy).imp id fun q=>⟨q.1.imp id fun q=>q.1,q.2⟩⟩;have L2:=ze5 (n:=n2+1+1) (lim:=lim) (rd:=rd2) (wr:=wr) (tiD ax) rfl (g:=fupd g' n ⟨false,[(n*1024+0,bvs ((sha bs).take 16))],none⟩) (f:=n) (u:=n*1024+0) (cs:=bvs ((sha bs).take 16)) (by rw [zaf];exact zah) h16;rw [zau (f:=n) _ (by omega)] at L2;simp (disch:=first|omega | (simp (disch:=omega) only [get_of,zaa,zab,h2];done)) only [ze0 (ad:=mkA n (n*1024+0) 0),zgr,Tryd.results56,L2,zb5,zcn]
  repeat apply W.seq
  refine W.cond (b:=true) ?_ ?_
  · simp (disch:=omega) only [zaw,get_of,zaa,zab,hl16,decide_true,decide_false]
  simp only [cond_true,cond_false];apply W.skip;simp only [onN,onB];have hil:i<16:=by omega
  have L1:=zhq (n:=n2+1+1) (lim:=lim) (rd:=rd2) (wr:=wr) (ti5 ax) rfl (g:=g') (f:=n2) (u:=n2*1024+0) (off:=0+i) (cs:=bvs (sha bs)) (by rw [q2];exact zah) (by rw [Nat.zero_add];exact zxg (by omega));rw [zau (f:=n2) _ (by omega)] at L1;have S1:=zpl (n:=n2+1+1) (lim:=lim) (rd:=rd2) (wr:=wr) (ti5 ax) (f:=n2+1) (u:=(n2+1)*1024+0) (off:=0+i) (v:=vb ((sha bs).getD i 0)) q3 (by rw [List.length_append,zam,List.length_take,List.length_replicate];omega) rfl;rw [zau (f:=n2+1) _ (by omega)] at S1;repeat apply W.seq
  apply W.block;repeat apply W.seq
  apply W.region
  · simp (disch:=first|omega | (simp (disch:=omega) [wE,h3,h4,h5];done) | (apply zac;omega) | (apply zad;omega)) only [ti3,ti47,ti5,h3,h4,h5,za5,zao (ti76 ax) (ti5 ax) (show i<32 by omega),zao (tiD ax) (ti5 ax) hil,L1,zqz,S1,wB0,wB1,wC];with_reducible rfl
  simp only [onN,onB];repeat apply W.seq
  apply W.region
  · simp (disch:=first|omega | (simp (disch:=omega) [wE,h5];done) | (apply zac;omega) | (apply zad;omega)) only [ti3,ti47,ti5,zd0,h5,wB0,wB1,wC];with_reducible rfl
  simp only [onN,onB];refine ⟨16 - (i+1),by omega,i+1,_,_,by omega,rfl,rfl,rfl,?_,?_,?_,?_,?_,?_,?_,?_⟩
  · simp (disch:=omega) only [zaa,zab,h2]
  · simp (disch:=omega) only [zaa,zab,h3]
  · simp (disch:=omega) only [zaa,zab,h4]
  · simp (disch:=omega) only [zaa,zab];rfl
  · rw [zae _ _ _ _ (by omega)];exact q1
  · rw [zae _ _ _ _ (by omega)];exact q2
  · rw [zaf,Nat.zero_add,ybs bs i hil]
  · intro i hi;rw [zae _ _ _ _ (by omega)];exact q0 i hi
set_option maxHeartbeats 1000000 in
theorem yhu (ax:Axs) (hp:zi5 ax) (tag:Int) (x:Option Addr) (len cap:Nat) (ss:List ByteArray) (h12:len≤12) (h400:∀ i,i<len→(ss.getD i nilB).size≤4000) (n:Nat) (g:Nat→Fam) (lim:Nat) (rd wr:List Nat) (hl:lim≤n) (hs:zoj g n x len cap ss) (hG:0<n) (hk:zat (g 0).rows (0*1024)=some (wvs KW)) :
    ∃ n' g' rd',za0 Tryd.prog (EE ax) 36 [.int .i64 tag,.slice x len cap] (St n g lim rd wr)=some (.agg (bvs ((sha (inpL (zdb tag) ss len)).take 16)).toArray,St n' g' lim rd' wr)∧n≤n'∧(∀ i,i<n→g' i=g i)∧(∀ y,y∈rd'→y∈rd∨((y=0∨RB x y)∧y<lim)):=by
  have hax:ax 36=none:=hp _ (by decide);have hsl:=hs.1;have hil:=zn0 (zdb tag) ss (fun i hi=>h400 i (by omega)) len (by omega)
  suffices hh:∃ v s2,za0 Tryd.prog (EE ax) 36 [.int .i64 tag,.slice x len cap] (St n g lim rd wr)=some (v,s2)∧v=.agg (bvs ((sha (inpL (zdb tag) ss len)).take 16)).toArray∧∃ n' g' rd',s2=St n' g' lim rd' wr∧n≤n'∧(∀ i,i<n→g' i=g i)∧(∀ y,y∈rd'→y∈rd∨((y=0∨RB x y)∧y<lim)) by
    obtain ⟨v,s2,h1,rfl,n',g',rd',rfl,h2⟩:=hh;exact ⟨n',g',rd',h1,h2⟩
  refine zf1 (fn:=Tryd.f36) 9 hax (fn36 ax) rfl Tryd.ntmps36 (by simp) ?_;simp (disch:=omega) only [zaz,za6,Nat.reduceAdd];repeat apply W.seq
  apply W.region
  · simp (disch:=first|omega | (simp (disch:=omega) [wE];done) | (apply zac;omega) | (apply zad;omega)) only [ti3,ti47,ti5,za9 (tiD ax),wB0,wB1,wC];with_reducible rfl
  simp only [onN,onB];generalize hg0:fupd g n ⟨false,[(n*1024+0,List.replicate 16 (.int .u8 0))],none⟩=g0;have p1:g0 n=⟨false,[(n*1024+0,List.replicate 16 (vb 0))],none⟩:=by rw [← hg0,zaf];rfl
  have p0:∀ i,i<n→g0 i=g i:=fun i hi=>by rw [← hg0,zae _ _ _ _ (by omega)]
  clear hg0;obtain ⟨a2,n2,g2,rd2,e2,o2,l2,k2,r2⟩:=yh7 ax hp tag x len cap ss h12 h400 (n+1) g0 lim rd wr (by omega) (hs.keep p0 (by omega));obtain ⟨n3,g3,rd3,e3,l3,k3,r3⟩:=z8k ax hp a2 (inpL (zdb tag) ss len).length (inpL (zdb tag) ss len).length (inpL (zdb tag) ss len) (by omega) n2 g2 lim rd2 wr (by omega) o2.barg (by omega) (by rw [k2 _ (by omega),p0 _ hG];exact hk);have h16:(bvs ((sha (inpL (zdb tag) ss len)).take 16)).length=16:=by rw [zam,List.length_take,zd3];rfl
  have S1:=zen (n:=n3) (lim:=lim) (rd:=rd3) (wr:=wr) (tiD ax) (g:=g3) (f:=n) (u:=n*1024+0) (vs:=bvs ((sha (inpL (zdb tag) ss len)).take 16)) (cs:=List.replicate 16 (vb 0)) (es:=none) (by rw [k3 _ (by omega),k2 _ (by omega)];exact p1) h16 (by simp) (zfa _);rw [zau (f:=n) _ (by omega)] at S1;repeat apply W.seq
  apply W.region
  · simp (disch:=first|omega | (simp (disch:=omega) [wE];done) | (apply zac;omega) | (apply zad;omega)) only [ti3,ti47,ti5,e2,e3,zas,S1,wB0,wB1,wC];with_reducible rfl
  simp only [onN,onB];apply W.ret
  refine ⟨.inr rfl,[.agg (bvs ((sha (inpL (zdb tag) ss len)).take 16)).toArray],St n3 (fupd g3 n ⟨false,[(n*1024+0,bvs ((sha (inpL (zdb tag) ss len)).take 16))],none⟩) lim rd3 wr,?_,rfl,n3,_,rd3,rfl,by omega,fun i hi=>by rw [zae _ _ _ _ (by omega),k3 _ (by omega),k2 _ (by omega)];exact p0 i hi,fun y hy=>by
    rcases r3 y hy with q|⟨q|q,q2⟩
    · exact (r2 y q).imp id fun q=>⟨.inr q.1,q.2⟩
    · exact .inr ⟨.inl q,q2⟩
    · have:=yfl o2 q;omega⟩
  have L2:=ze5 (n:=n3) (lim:=lim) (rd:=rd3) (wr:=wr) (tiD ax) rfl (g:=fupd g3 n ⟨false,[(n*1024+0,bvs ((sha (inpL (zdb tag) ss len)).take 16))],none⟩) (f:=n) (u:=n*1024+0) (cs:=bvs ((sha (inpL (zdb tag) ss len)).take 16)) (by rw [zaf];exact zah) h16;rw [zau (f:=n) _ (by omega)] at L2;simp (disch:=first|omega | (simp (disch:=omega) only [get_of,zaa,zab];done)) only [ze0 (ad:=mkA n (n*1024+0) 0),zgr,Tryd.results36,L2,zb5,zcn]
end
section
open Go Go.RowKit WM
set_option maxRecDepth 100000
set_option maxHeartbeats 4000000 in
theorem yka (ax:Axs) (hp:zi5 ax) (hC:ax 66=some zqe) (tag:Int) (x:Option Addr) (len cap:Nat) (ss:List ByteArray) (h12:len≤12) (h400:∀ i,i<len→(ss.getD i nilB).size≤4000) (n:Nat) (g:Nat→Fam) (lim:Nat) (rd wr:List Nat) (hl:lim≤n) (hs:zoj g n x len cap ss) (hG:1<n) (hk:zat (g 1).rows (1*1024)=some (wvs KW)) :
    ∃ n' g' rd',za0 Tryd.prog (EE ax) 34 [.int .i64 tag,.slice x len cap] (St n g lim rd wr)=some (.agg (bvs ((sha (inpL (zdb tag) ss len)).take 16)).toArray,St n' g' lim rd' wr)∧n≤n'∧(∀ i,i<n→g' i=g i)∧(∀ y,y∈rd'→y∈rd∨((y=1∨RB x y)∧y<lim)):=by
  have hax:ax 34=none:=hp _ (by decide);have hsl:=hs.1
  suffices hh:∃ v s2,za0 Tryd.prog (EE ax) 34 [.int .i64 tag,.slice x len cap] (St n g lim rd wr)=some (v,s2)∧v=.agg (bvs ((sha (inpL (zdb tag) ss len)).take 16)).toArray∧∃ n' g' rd',s2=St n' g' lim rd' wr∧n≤n'∧(∀ i,i<n→g' i=g i)∧(∀ y,y∈rd'→y∈rd∨((y=1∨RB x y)∧y<lim)) by
    obtain ⟨v,s2,h1,rfl,n',g',rd',rfl,h2⟩:=hh;exact ⟨n',g',rd',h1,h2⟩
  refine zf1 (fn:=Tryd.f34) 32 hax (fn34 ax) rfl Tryd.ntmps34 (by simp) ?_;simp (disch:=omega) only [zaz,za6,Nat.reduceAdd];generalize hc:zdb tag=c at *;repeat apply W.seq
  apply W.region
  · simp (disch:=first|omega | (simp (disch:=omega) [wE];done) | (apply zac;omega) | (apply zad;omega)) only [ti3,ti47,ti5,ti63,za9 (tiD ax),wB0,wB1,wC];with_reducible rfl
  simp only [onN,onB];generalize hg0:fupd g n ⟨false,[(n*1024+0,List.replicate 16 (.int .u8 0))],none⟩=g0;have p1:g0 n=⟨false,[(n*1024+0,List.replicate 16 (vb 0))],none⟩:=by rw [← hg0,zaf];rfl
  have p0:∀ i,i<n→g0 i=g i:=fun i hi=>by rw [← hg0,zae _ _ _ _ (by omega)]
  clear hg0;obtain ⟨n1,g1,rd1,e1,a1,a2,a3⟩:=zog ax hp (n+1) g0 (n+1) [] [] (Nat.le_refl _);generalize hgB:fupd g1 n1 ⟨false,[(n1*1024+0,[vb c])],none⟩=gB;have F1:=zn4 (n:=n1+1) (lim:=n1+1) (rd:=[]) (wr:=[]) (g:=gB) (f:=n1) (u:=n1*1024+0) (off:=0) (len:=1) (cap:=1) (e:=1) (k:=1) (cs:=[vb c]) (by rw [← hgB,zaf];exact zah) (by simp) (by omega);rw [znz (show n1<n1+1 by omega),show ([vb c].drop 0).take (1*1)=bvs [c] from rfl] at F1;have CV:=fun ρ o=>zjh (P:=Tryd.prog) (Γ:=EE ax) (ρ:=ρ) (o:=o) (ti43 ax) (ti9 ax) (ti5 ax) F1;have hb0:∀ i,i<n→gB i=g i:=fun i hi=>by rw [← hgB,zae _ _ _ _ (by omega),a2 _ (by omega)];exact p0 i hi
  have hbn:gB n=⟨false,[(n*1024+0,List.replicate 16 (vb 0))],none⟩:=by rw [← hgB,zae _ _ _ _ (by omega),a2 _ (by omega)];exact p1
  obtain ⟨st2,bl2,hR2,f5,g2,rd2,e2,b1,b2,b3⟩:=zl3 ax hp hC [] IVW (List.replicate 64 0) (Repr.start _ rfl) ⟨[c].toArray⟩ (by rw [zsa];simp) (n1+1) gB (n1+1) [] [] (Nat.le_refl _) (by omega) (by rw [hb0 _ hG];exact hk);rw [zo1,List.nil_append] at hR2 e2;rw [List.length_nil] at e2;have m8:=hR2.len;have m64:=hR2.size;have S1:=zor (n:=f5+1) (zi6 ax) (g:=fupd g2 f5 ⟨false,[(f5*1024+0,zaq (List.replicate 8 0) (List.replicate 64 0) 0)],none⟩) (f:=f5) (u:=f5*1024+0) (vs:=zaq st2 bl2 [c].length) (zaf _ _ _) (za8 m8 m64) (za8 rfl rfl) (zj5 _ _ _) (by omega);rw [zcp] at S1;unfold strV at e1 e2;have I5:=fun l=>zau (m:=lim) (f:=f5) l (by omega);repeat apply W.seq
  apply W.draw_ex (ms:=[0,0,2,6,14,31,0,127])
  · kernel_rfl
  · simp (disch:=first|omega | (simp (disch:=omega) [wE,zfw];done) | (apply zac;omega) | (apply zad;omega)) only [ti3,ti47,ti5,ti63,zj4,zsz,zbq,zop,zna,zb8,zbn,e1,yem (ti3 ax) (ti5 ax),hc,zed (ti43 ax) (ti5 ax) rfl rfl,hgB,CV,e2,za9 (zi6 ax),zas,S1,I5,wB0,wB1,wC];with_reducible rfl
  · simp (disch:=first|decide | (apply zec<;>intro f hf<;>first|omega | (simp at hf;done) | (simp;done) | (simp at hf;omega) | (simp at hf ⊢;omega))) only [zgh,zkx,zpa,znb,zi2,zj6,List.nil_append,List.cons_append,List.length_cons,List.length_nil,Nat.reduceAdd,zwg,zwh,Bool.and_self,Bool.and_true,Bool.true_and]
  simp only [onN,onB];generalize hg3:fupd g2 f5 ⟨false,[(f5*1024+0,zaq st2 bl2 [c].length)],none⟩=g3;have q5:g3 f5=⟨false,[(f5*1024+0,zaq st2 bl2 (inpL c ss 0).length)],none⟩:=by rw [← hg3,zaf];rfl
  have q1:g3 n=⟨false,[(n*1024+0,List.replicate 16 (vb 0))],none⟩:=by rw [← hg3,zae _ _ _ _ (by omega),b2 _ (by omega)];exact hbn
  have q0:∀ i,i<n→g3 i=g i:=fun i hi=>by rw [← hg3,zae _ _ _ _ (by omega),b2 _ (by omega)];exact hb0 i hi
  clear hg3 S1 e1 e2 CV F1 hbn hb0 hgB p1 p0 a2 b2;apply W.seq;refine W.cut (fun fr s=>∃ (h:Nat→Value) (N:Nat) (g':Nat→Fam) (rd':List Nat),fr=Fr.of 32 h∧s=St N g' lim rd' wr∧f5<N∧h 4=.pointer (some (mkA n (n*1024+0) 0))∧h 5=.pointer (some (mkA f5 (f5*1024+0) 0))∧g' n=⟨false,[(n*1024+0,List.replicate 16 (vb 0))],none⟩∧(∀ i,i<n→g' i=g i)∧(∀ y,y∈rd'→y∈rd∨((y=1∨RB x y)∧y<lim))∧∃ st bl,Repr (inpL c ss len) st bl∧g' f5=⟨false,[(f5*1024+0,zaq st bl (inpL c ss len).length)],none⟩) ?_ ?_
  · skip;repeat apply W.seq
    apply W.region
    · simp (disch:=first|omega | (simp (disch:=omega) [wE];done) | (apply zac;omega) | (apply zad;omega)) only [ti3,ti47,ti5,ti63,zsg (ti56 ax),wB0,wB1,wC];with_reducible rfl
    simp only [onN,onB];repeat apply W.seq
    apply W.block;refine W.loop (fun m fr s=>∃ (i:Nat) (h:Nat→Value) (N:Nat) (g':Nat→Fam) (rd':List Nat),i≤len∧m=len - i∧fr=Fr.of 32 h∧s=St N g' lim rd' wr∧f5<N∧h 4=.pointer (some (mkA n (n*1024+0) 0))∧h 5=.pointer (some (mkA f5 (f5*1024+0) 0))∧h 15=.slice x len cap∧h 16=.int .i64 (len:Int)∧h 17=.int .i64 (i:Int)∧g' n=⟨false,[(n*1024+0,List.replicate 16 (vb 0))],none⟩∧(∀ i,i<n→g' i=g i)∧(∀ y,y∈rd'→y∈rd∨((y=1∨RB x y)∧y<lim))∧∃ st bl,Repr (inpL c ss i) st bl∧g' f5=⟨false,[(f5*1024+0,zaq st bl (inpL c ss i).length)],none⟩) ?_ (len - 0) _ _ ⟨0,_,f5+1,g3,_,by omega,rfl,rfl,rfl,by omega,?_,?_,?_,?_,?_,q1,q0,?_,st2,bl2,hR2,q5⟩;rotate_right
    · exact (z3g (z88 (z3g (fun y hy=>.inl hy) (fun y hy _=>by rcases a3 y hy with q|q;exact absurd q List.not_mem_nil;exact q.1.elim)) (fun _=>by omega)) (fun y hy _=>by rcases b3 y hy with q|q;exact absurd q List.not_mem_nil;exact .inl q.1))
    case refine_2=>simp (disch:=omega) only [zaa,zab]
    case refine_3=>simp (disch:=omega) only [zaa,zab]
    case refine_4=>simp (disch:=omega) only [zaa,zab]
    case refine_5=>simp (disch:=omega) only [zaa,zab]
    case refine_6=>simp (disch:=omega) only [zaa,zab];rfl
    clear q5 q1 q0;rintro m fr s ⟨i,h,N,g',rd',hi,rfl,rfl,rfl,hN,h4,h5,h15,h16,h17,q1,q0,qr,st,bl,hR,q5⟩;repeat apply W.seq
    apply W.region
    · simp (disch:=first|omega | (simp (disch:=omega) [wE,h16,h17];done) | (apply zac;omega) | (apply zad;omega)) only [ti3,ti47,ti5,ti63,h16,h17,zgt,wB0,wB1,wC];with_reducible rfl
    simp only [onN,onB];by_cases hlt:(i:Int)<(len:Int)
    case neg =>
      repeat apply W.seq
      refine W.cond (b:=false) ?_ ?_
      · simp (disch:=omega) only [zaw,get_of,zaa,zab,hlt,decide_true,decide_false]
      simp only [cond_true,cond_false];apply W.exit;simp only [onN,onB,Nat.beq_refl,cond_true];have hie:i=len:=by omega
      subst hie;exact ⟨by first|rfl|trivial,_,N,g',rd',rfl,rfl,hN,by simp (disch:=omega) only [zaa,zab,h4],by simp (disch:=omega) only [zaa,zab,h5],q1,q0,qr,st,bl,hR,q5⟩
    repeat apply W.seq
    refine W.cond (b:=true) ?_ ?_
    · simp (disch:=omega) only [zaw,get_of,zaa,zab,hlt,decide_true,decide_false]
    simp only [cond_true,cond_false];apply W.skip;simp only [onN,onB];have hil:i<len:=by omega
    obtain ⟨pp,pf,hpr,hpf,A1,A2⟩:=hs.at (Γ:=EE ax) (i:=i) hil (ti56 ax) (ti9 ax);have A3:=A2 N g' lim rd' wr q0;have hsi:=h400 i hil;have hel:=zw0 _ hsi;have hil2:=zn0 c ss (fun i hi=>h400 i (by omega)) i (by omega);repeat apply W.seq
    apply W.block;repeat apply W.seq
    apply W.region
    · simp (disch:=first|omega | (simp (disch:=omega) [wE,h15,h17];done) | (apply zac;omega) | (apply zad;omega)) only [ti3,ti47,ti5,ti63,h15,h17,za5,A1,A3,wB0,wB1,wC];with_reducible rfl
    simp only [onN,onB];have l8:=hR.len;have l64:=hR.size;have L1:=ze5 (n:=N) (lim:=N) (rd:=[]) (wr:=[]) (zi6 ax) zoo (g:=g') (f:=f5) (u:=f5*1024+0) (cs:=zaq st bl (inpL c ss i).length) (by rw [q5];exact zah) (za8 l8 l64);rw [znz (show f5<N by omega)] at L1;obtain ⟨a2,n2,g2,e2,o2,l2,k2⟩:=z54 ax hp (ss.getD i nilB) (by omega) N g' N [] [] (Nat.le_refl _);obtain ⟨rdc,ec,rc⟩:=o2.barg.first (N:=n2) (g':=g2) (lim:=n2) (rd:=[]) (wr:=[]) (cap:=(encS (ss.getD i nilB)).length) (fun _ _=>rfl)
    have CV:=fun ρ o=>zjh (P:=Tryd.prog) (Γ:=EE ax) (ρ:=ρ) (o:=o) (ti43 ax) (ti9 ax) (ti5 ax) ec;obtain ⟨st3,bl3,hR3,n3,g3',rd3,e3,l3,k3,r3⟩:=zl3 ax hp hC (inpL c ss i) st bl hR ⟨(encS (ss.getD i nilB)).toArray⟩ (by rw [zsa];omega) n2 g2 n2 [] [] (Nat.le_refl _) (by omega) (by rw [k2 _ (by omega),q0 _ hG];exact hk);rw [zo1] at hR3 e3;unfold strV at e3;have S1:=zor (n:=n3) (zi6 ax) (g:=g3') (f:=f5) (u:=f5*1024+0) (vs:=zaq st3 bl3 (inpL c ss i++encS (ss.getD i nilB)).length) (cs:=zaq st bl (inpL c ss i).length) (es:=none) (by rw [k3 _ (by omega),k2 _ (by omega)];exact q5) (za8 hR3.len hR3.size) (za8 l8 l64) (zj5 _ _ _) (by omega);repeat apply W.seq
    apply W.draw_ex (ms:=[0,0,2,6,15,31])
    · kernel_rfl
    · simp (disch:=first|omega | (simp (disch:=omega) [wE,h5];done) | (apply zac;omega) | (apply zad;omega)) only [ti3,ti47,ti5,ti63,zj4,zsz,zbq,zop,zna,zb8,zbn,h5,L1,e2,CV,e3,zas,S1,I5,wB0,wB1,wC];with_reducible rfl
    · simp (disch:=first|decide | (apply zec<;>intro f hf<;>first|omega | (simp at hf;done) | (simp;done) | (simp at hf;omega) | (simp at hf ⊢;omega))) only [zgh,zkx,zpa,znb,zi2,zj6,List.nil_append,List.cons_append,List.length_cons,List.length_nil,Nat.reduceAdd,zwg,zwh,Bool.and_self,Bool.and_true,Bool.true_and]
    simp only [onN,onB];repeat apply W.seq
    apply W.region
    · simp (disch:=first|omega | (simp (disch:=omega) [wE,h17];done) | (apply zac;omega) | (apply zad;omega)) only [ti3,ti47,ti5,ti63,zd0,h17,wB0,wB1,wC];with_reducible rfl
    simp only [onN,onB];refine ⟨len - (i+1),by omega,i+1,_,n3,_,_,by omega,rfl,rfl,rfl,by omega,?_,?_,?_,?_,?_,?_,fun j hj=>by rw [zae _ _ _ _ (by omega),k3 _ (by omega),k2 _ (by omega)];exact q0 j hj,z3g (z3g (z88 qr (fun _=>.inr hpr)) (fun y hy _=>by rcases rc y hy with q|q;exact absurd q List.not_mem_nil;have:=yfl o2 q.1;omega)) (fun y hy _=>by rcases r3 y hy with q|q;exact absurd q List.not_mem_nil;exact .inl q.1),st3,bl3,hR3,?_⟩
    · simp (disch:=omega) only [zaa,zab,h4]
    · simp (disch:=omega) only [zaa,zab,h5]
    · simp (disch:=omega) only [zaa,zab,h15]
    · simp (disch:=omega) only [zaa,zab,h16]
    · simp (disch:=omega) only [zaa,zab];rfl
    · rw [zae _ _ _ _ (by omega),k3 _ (by omega),k2 _ (by omega)];exact q1
    · rw [zaf];rfl
  clear q5 q1 q0;rintro fr s ⟨h,N,g',rd',rfl,rfl,hN,h4,h5,q1,q0,qr,st,bl,hR,q5⟩;have hil2:=zn0 c ss (fun i hi=>h400 i (by omega)) len (by omega);generalize inpL c ss len=M at *;have L1:=ze5 (n:=N) (lim:=lim) (rd:=rd') (wr:=wr) (zi6 ax) zoo (g:=g') (f:=f5) (u:=f5*1024+0) (cs:=zaq st bl M.length) (by rw [q5];exact zah) (za8 hR.len hR.size);rw [I5] at L1;obtain ⟨n4,g4,rd4,e4,l4,k4,r4⟩:=zql ax hp hC M st bl hR (by omega) N g' lim rd' wr (by omega) (by omega) (by rw [q0 _ hG];exact hk);unfold strV at e4;have hsh:=zd3 M;have S1:=zen (n:=n4+1) (lim:=lim) (rd:=rd4) (wr:=wr) (ti76 ax) (g:=fupd g4 n4 ⟨false,[(n4*1024+0,List.replicate 32 (.int .u8 0))],none⟩) (f:=n4) (u:=n4*1024+0) (vs:=bvs (sha M)) (zaf _ _ _) (by rw [zam,hsh]) (by simp) (zfa _);rw [zcp,zau (f:=n4) _ (by omega)] at S1;repeat apply W.seq
  apply W.region
  · simp (disch:=first|omega | (simp (disch:=omega) [wE,h5];done) | (apply zac;omega) | (apply zad;omega)) only [ti3,ti47,ti5,ti63,h5,L1,e4,za9 (ti76 ax),zas,S1,wB0,wB1,wC];with_reducible rfl
  simp only [onN,onB];generalize hg5:fupd g4 n4 ⟨false,[(n4*1024+0,bvs (sha M))],none⟩=g5;have v1:g5 n=⟨false,[(n*1024+0,List.replicate 16 (vb 0))],none⟩:=by rw [← hg5,zae _ _ _ _ (by omega),k4 _ (by omega)];exact q1
  have v8:g5 n4=⟨false,[(n4*1024+0,bvs (sha M))],none⟩:=by rw [← hg5,zaf]
  have v0:∀ i,i<n→g5 i=g i:=fun i hi=>by rw [← hg5,zae _ _ _ _ (by omega),k4 _ (by omega)];exact q0 i hi
  clear hg5 S1 L1;have bd:=z51 (len:=32) (cap:=32) (zfq .i64 16) (by omega);have L2:=yaf (n:=n4+1) (lim:=lim) (rd:=rd4) (wr:=wr) (tiD ax) rfl (g:=g5) (f:=n4) (u:=n4*1024+0) (off:=0+0*1) (cs:=bvs (sha M)) (by rw [v8];exact zah) (by rw [zam,hsh];omega);rw [zau (f:=n4) _ (by omega),show ((bvs (sha M)).drop (0+0*1)).take 16=bvs ((sha M).take 16) by rw [show (bvs (sha M)).drop (0+0*1)=bvs (sha M) from rfl,zxf]] at L2;have h16l:(bvs ((sha M).take 16)).length=16:=by rw [zam,List.length_take];omega
  have S2:=zen (n:=n4+1) (lim:=lim) (rd:=rd4) (wr:=wr) (tiD ax) (f:=n) (u:=n*1024+0) (vs:=bvs ((sha M).take 16)) v1 h16l (by simp) (zfa _);rw [zau (f:=n) _ (by omega)] at S2;repeat apply W.seq
  apply W.region
  · simp (disch:=first|omega | (simp (disch:=omega) [wE,h4];done) | (apply zac;omega) | (apply zad;omega)) only [ti3,ti47,ti5,ti63,h4,zdm (ti76 ax) (ti5 ax) (by omega) bd (show (n4*1024+0) % 1024=0 by omega),z8z (tiD ax) (show 0<16 by omega) (show 16≤16 - 0 by omega),L2,zas,S2,wB0,wB1,wC];with_reducible rfl
  simp only [onN,onB];apply W.ret
  refine ⟨.inr rfl,[.agg (bvs ((sha M).take 16)).toArray],St (n4+1) (fupd g5 n ⟨false,[(n*1024+0,bvs ((sha M).take 16))],none⟩) lim rd4 wr,?_,rfl,n4+1,_,rd4,rfl,by omega,fun i hi=>by rw [zae _ _ _ _ (by omega)];exact v0 i hi,fun y hy=>by
    rcases r4 y hy with q|⟨q,q2⟩
    · exact qr y q
    · exact .inr ⟨.inl q,q2⟩⟩
  have L3:=ze5 (n:=n4+1) (lim:=lim) (rd:=rd4) (wr:=wr) (tiD ax) rfl (g:=fupd g5 n ⟨false,[(n*1024+0,bvs ((sha M).take 16))],none⟩) (f:=n) (u:=n*1024+0) (cs:=bvs ((sha M).take 16)) (by rw [zaf];exact zah) h16l;rw [zau (f:=n) _ (by omega)] at L3;simp (disch:=first|omega | (simp (disch:=omega) only [get_of,zaa,zab,h4];done)) only [ze0 (ad:=mkA n (n*1024+0) 0),zgr,Tryd.results34,L3,zb5,zcn]
end
section
open Go Go.RowKit
set_option maxRecDepth 100000
abbrev Dg:=Ar 16
noncomputable def GLs:List (Nat×List Value):=[(0,zk2),(1,zk2)]
theorem bz23 (ax:Axs):∀ (ρ:Operand→T),zpk (EE ax) ρ 23 []=some (.agg ((zA 16).l.map (T.int .u8))):=fun _=>rfl
theorem yky (ax:Axs):∀ (h:Nat→T),zpk (EE ax) (zda GLs h) 23 [(0,.const (.int .u8 255)),(1,.const (.int .u8 16))]=some (.agg ((mkAr 16 [255,16,0,0,0,0,0,0,0,0,0,0,0,0,0,0]).l.map (T.int .u8))):=fun _=>rfl
theorem isu8 (ax:Axs):isU8 (EE ax) 5=true:=by kernel_rfl
def digB (l:List Dg):List Int:=2*(l.length:Int) :: l.flatMap fun d=>d.l
structure Pl (ax:Axs):Prop where
  dig:∀ l:List Dg,(0<l.length∧l.length<64∧∀ d∈l,∀ x∈d.l,0≤x∧x<256)→Pure Tryd.prog (EE ax) GLs 59 [.lst 16 (l.map (eAr .u8))] (.lst 1 ((digB l).map (T.int .u8)))
  no:zi5 ax
  comp:ax 66=some zqe
  can:zga (axC (EE ax))
def ints (l:List Int):T:=.lst 1 (l.map (T.int .i64))
def byts (l:List Int):T:=.lst 1 (l.map (T.int .u8))
def strs (l:List ByteArray):T:=.lst 1 (l.map T.str)
def digs (l:List Dg):T:=.lst 16 (l.map (eAr .u8))
def zs0 (l:List (List Dg)):T:=.lst 1 (l.map digs)
theorem zkv {α:Type} {n:Nat} {f:α→T} (h:∀ x,(f x).ids n=true):∀ (l:List α),T.idsL n (l.map f)=true
  |[]=>rfl
  |x :: l=>by simp only [List.map_cons,T.idsL,h,zkv h l,Bool.and_self]
theorem z4f {n:Nat} (l:List Int):(ints l).ids n=true:=zp0 l
theorem zws {n:Nat} (l:List Int):(byts l).ids n=true:=zp0 l
theorem zqu {n:Nat} (l:List ByteArray):(strs l).ids n=true:=zkv (fun _=>rfl) l
theorem zn1 {n:Nat} (l:List Dg):(digs l).ids n=true:=zkv (fun x=>z4g x) l
theorem zy9 {n:Nat} (l:List (List Dg)):(zs0 l).ids n=true:=zkv (fun x=>zn1 x) l
theorem yas {n:Nat} (l:List ByteArray):T.idsL n (l.map T.str)=true:=zkv (fun _=>rfl) l
theorem yau {n:Nat} (l:List Dg):T.idsL n (l.map (eAr .u8))=true:=zkv (fun x=>z4g x) l
theorem yat {n:Nat} (l:List (List Dg)):T.idsL n (l.map digs)=true:=zkv (fun x=>zn1 x) l
theorem zwt {k:IntKind} {m:Nat} (l:List Int):(T.agg (l.map (T.int k))).ids m=true:=zp0 l
theorem yar {n:Nat}:∀ (l:List Dg),T.idsL n (vecC (eAr .u8) l)=true
  |[]=>rfl
  |x :: l=>by
    have:=yar (n:=n) l;unfold vecC at this ⊢;rw [List.map_cons,List.flatMap_cons,ziz,this,zn6,zp0];rfl
theorem idsA:type_of% (And.intro (And.intro (And.intro (@z4f) (@zws)) (And.intro (@zqu) (@zn1))) (And.intro (And.intro (@zy9) (@yas)) (And.intro (@yau) (@yat)))):=And.intro (And.intro (And.intro (@z4f) (@zws)) (And.intro (@zqu) (@zn1))) (And.intro (And.intro (@zy9) (@yas)) (And.intro (@yau) (@yat)))
theorem idsB:type_of% (And.intro (And.intro (@z4g) (@zp0)) (And.intro (@yar) (@zwt))):=And.intro (And.intro (@z4g) (@zp0)) (And.intro (@yar) (@zwt))
theorem celD (x:List Dg):(digs x).cells=[digs x]:=Eq.trans rfl rfl
theorem oneD (x:List Dg):T.one (digs x)=true:=Eq.trans rfl rfl
theorem eqA:type_of% (And.intro (And.intro (And.intro (@ints.eq_1) (And.intro (@byts.eq_1) (@strs.eq_1))) (And.intro (@digs.eq_1) (And.intro (@zs0.eq_1) (@ybp)))) (And.intro (And.intro (@yi7) (And.intro (@Ar.len) (@ygs))) (And.intro (And.intro (@zw2) (@ykz)) (And.intro (@zoe) (@zxj))))):=And.intro (And.intro (And.intro (@ints.eq_1) (And.intro (@byts.eq_1) (@strs.eq_1))) (And.intro (@digs.eq_1) (And.intro (@zs0.eq_1) (@ybp)))) (And.intro (And.intro (@yi7) (And.intro (@Ar.len) (@ygs))) (And.intro (And.intro (@zw2) (@ykz)) (And.intro (@zoe) (@zxj))))
theorem eqB:type_of% (And.intro (And.intro (And.intro (@ygq) (@sub0)) (And.intro (@z2o) (@zq0))) (And.intro (And.intro (@z7m) (@ycp)) (And.intro (@ycs) (And.intro (@celD) (@oneD))))):=And.intro (And.intro (And.intro (@ygq) (@sub0)) (And.intro (@z2o) (@zq0))) (And.intro (And.intro (@z7m) (@ycp)) (And.intro (@ycs) (And.intro (@celD) (@oneD))))
theorem Pure.clr {P:Program} {Γ:Env} {GL:List (Nat×List Value)} {f:FuncId} {args:List T} {v v2:T} {S:TS} (k:Pure P Γ GL f args v) (e:v=v2):za1 P Γ GL f args S v2:=e ▸ k.call S
end
section
open Go Go.RowKit
theorem z7x {P:Program} {Γ:Env} {S:TS} {t:TypeId} {op:BinOp} {x y:Operand} {m n:Bool}:tBin P Γ S t op x y (.bool m) (.bool n)=(Γ.ti.at t).bind fun i=>match i.desc,op with|.bool,.eql=>some (.bool (m == n))|.bool,.neq=>some (.bool (!(m == n)))|_,_=>none:=by
  unfold tBin;cases Γ.ti.at t<;>rfl
theorem ykt:(true == true)=true:=Eq.trans rfl rfl
theorem yku:(true == false)=false:=Eq.trans rfl rfl
theorem ykv:(false == true)=false:=Eq.trans rfl rfl
theorem ykw:(false == false)=true:=Eq.trans rfl rfl
end
section
open Go Go.RowKit
def atR (rl:List Nat) (i:Nat):Nat:=rl.getD i 0
def memB:List Nat→Nat→Bool
  |[],_=>false
  |y :: l,x=>Nat.beq y x || memB l x
def zun:List Nat→Bool
  |[]=>true
  |x :: l=>!(memB l x) && zun l
def rlOk (n0 n1 m m':Nat) (rl:List Nat):Bool :=
  Nat.ble n0 n1 && (Nat.beq rl.length n1 && (Nat.ble m m' && (rl.all (fun x=>Nat.blt x m') && ((rl.take n0).all (fun x=>Nat.blt x m) && ((rl.drop n0).all (fun x=>Nat.ble m x) && zun rl)))))
def PreL (ρ:Nat→Nat) (n:Nat) (bs:List Box):List Nat→List Box→Prop
  |r :: rl,b :: bl=>(bs.getD r .gone=zdz ρ b∧zgx n b=true)∧PreL ρ n bs rl bl
  |_,_=>True
def zts (rl:List Nat):Nat→List Box→List Box→Prop
  |i,a :: l,b :: m=>(memB rl i=true∨b=a)∧zts rl (i+1) l m
  |i,[],b :: m=>memB rl i=true∧zts rl (i+1) [] m
  |_,_,[]=>True
theorem PreL.get {ρ:Nat→Nat} {n:Nat} {bs:List Box}:∀ {rl:List Nat} {bl:List Box},PreL ρ n bs rl bl→∀ i,i<rl.length→i<bl.length→bs.getD (rl.getD i 0) .gone=zdz ρ (bl.getD i .gone)∧zgx n (bl.getD i .gone)=true
  |r :: rl,b :: bl,h,0,_,_=>h.1
  |r :: rl,b :: bl,h,i+1,h1,h2=>PreL.get (rl:=rl) (bl:=bl) h.2 i (by simpa using h1) (by simpa using h2)
theorem zts.get {rl:List Nat}:∀ {i:Nat} {l m:List Box},zts rl i l m→l.length≤m.length→∀ b,memB rl (i+b)=false→m.getD b .gone=l.getD b .gone
  |i,a :: l,b :: m,h,hl,0,hm=>by
    rcases h.1 with q|q
    · rw [Nat.add_zero] at hm;rw [hm] at q;cases q
    · exact q
  |i,a :: l,b :: m,h,hl,k+1,hm=>zts.get (l:=l) (m:=m) h.2 (by simpa using hl) k (by rw [show i+1+k=i+(k+1) by omega];exact hm)
  |i,[],b :: m,h,hl,0,hm=>by have q:=h.1;rw [Nat.add_zero] at hm;rw [hm] at q;cases q
  |i,[],b :: m,h,hl,k+1,hm=>zts.get (l:=[]) (m:=m) h.2 (Nat.zero_le _) k (by rw [show i+1+k=i+(k+1) by omega];exact hm)
  |i,[],[],h,hl,k,hm=>rfl
theorem zq6 {p:Nat→Bool}:∀ {l:List Nat},l.all p=true→∀ i,i<l.length→p (l.getD i 0)=true
  |x :: l,h,0,_=>by simp only [List.all_cons,Bool.and_eq_true] at h;exact h.1
  |x :: l,h,i+1,hi=>by
    simp only [List.all_cons,Bool.and_eq_true] at h;exact zq6 (l:=l) h.2 i (by simpa using hi)
theorem zwk:∀ {l:List Nat} {i:Nat},i<l.length→memB l (l.getD i 0)=true
  |x :: l,0,_=>by show (Nat.beq x x || memB l x)=true;rw [Nat.beq_refl];rfl
  |x :: l,i+1,h=>by
    show (Nat.beq x (l.getD i 0) || memB l (l.getD i 0))=true;rw [zwk (l:=l) (by simpa using h),Bool.or_true]
theorem zum:∀ {l:List Nat},zun l=true→∀ i j,i<l.length→j<l.length→l.getD i 0=l.getD j 0→i=j
  |x :: l,h,0,0,_,_,_=>rfl
  |x :: l,h,0,j+1,_,hj,e=>by
    simp only [zun,Bool.and_eq_true,Bool.not_eq_true'] at h;have:=zwk (l:=l) (i:=j) (by simpa using hj);rw [show l.getD j 0=x from e.symm] at this;rw [h.1] at this;cases this
  |x :: l,h,i+1,0,hi,_,e=>by
    simp only [zun,Bool.and_eq_true,Bool.not_eq_true'] at h;have:=zwk (l:=l) (i:=i) (by simpa using hi);rw [show l.getD i 0=x from e] at this;rw [h.1] at this;cases this
  |x :: l,h,i+1,j+1,hi,hj,e=>by
    simp only [zun,Bool.and_eq_true] at h;rw [zum (l:=l) h.2 i j (by simpa using hi) (by simpa using hj) e]
theorem z75 {bs:List Box} {b:Nat} (h:bs.length≤b):(stL bs).box b=.gone:=by
  show bs.getD b .gone=.gone;rw [List.getD_eq_getElem?_getD,List.getElem?_eq_none h];rfl
theorem yid {rl:List Nat} {bs0 bs1 bs bs':List Box} (h1:rlOk bs0.length bs1.length bs.length bs'.length rl=true) (h4:PreL (atR rl) bs0.length bs rl bs0) (h5:PreL (atR rl) bs1.length bs' rl bs1) (h6:zts rl 0 bs bs'):Fits (atR rl) (stL bs0) (stL bs1) (stL bs) (stL bs'):=by
  unfold rlOk at h1;simp only [Bool.and_eq_true] at h1;obtain ⟨a1,a2,a3,a4,a5,a6,a7⟩:=h1;have a1:=zax.1 a1;have a2:=Nat.eq_of_beq_eq_true a2;have a3:=zax.1 a3;refine ⟨a1,fun b hb=>z75 hb,fun i hi=>?_,fun i hi hj=>?_,fun i hi=>?_,a3,fun i j hi hj e=>?_,fun i hi=>?_,fun i hi=>?_,fun b hb=>?_⟩
  · have hi:i<bs0.length:=hi;have:=zq6 a5 i (by rw [List.length_take];omega);rw [List.getD_eq_getElem?_getD,List.getElem?_take,if_pos hi,← List.getD_eq_getElem?_getD] at this;exact zai.1 this
  · have hi:bs0.length≤i:=hi;have hj:i<bs1.length:=hj;have:=zq6 a6 (i - bs0.length) (by rw [List.length_drop];omega);rw [List.getD_eq_getElem?_getD,List.getElem?_drop,show bs0.length+(i - bs0.length)=i by omega,← List.getD_eq_getElem?_getD] at this;exact zax.1 this
  · have hi:i<bs1.length:=hi;exact zai.1 (zq6 a4 i (by omega))
  · exact zum a7 i j (by rw [a2];exact hi) (by rw [a2];exact hj) e
  · have hi:i<bs0.length:=hi;exact h4.get i (by omega) hi
  · have hi:i<bs1.length:=hi;exact h5.get i (by omega) hi
  · refine h6.get a3 b ?_;rw [Nat.zero_add]
    cases hm:memB rl b with
    |false=>rfl
    |true =>
      exfalso
      have key:∀ {l:List Nat},memB l b=true→∃ i,i<l.length∧l.getD i 0=b:=by
        intro l
        induction l with
        |nil=>intro h;cases h
        |cons x l ih =>
          intro h;simp only [memB,Bool.or_eq_true] at h;rcases h with h|h
          · exact ⟨0,by simp,Nat.eq_of_beq_eq_true h⟩
          · obtain ⟨i,h1,h2⟩:=ih h;exact ⟨i+1,by simpa using h1,h2⟩
      obtain ⟨i,q1,q2⟩:=key hm;exact hb i (by show i<bs1.length;omega) q2
theorem Call.at {P:Program} {Γ:Env} {GL:List (Nat×List Value)} {f:FuncId} {args args':List T} {v v':T} {bs0 bs1 bs bs':List Box} (rl:List Nat) (k:Call P Γ GL f args (stL bs0) v (stL bs1)) (h1:rlOk bs0.length bs1.length bs.length bs'.length rl=true) (h2:T.idsL bs0.length args=true) (h3:v.ids bs1.length=true) (h4:PreL (atR rl) bs0.length bs rl bs0) (h5:PreL (atR rl) bs1.length bs' rl bs1) (h6:zts rl 0 bs bs') (ea:T.renL (atR rl) args=args') (ev:v.ren (atR rl)=v'):Call P Γ GL f args' (stL bs) v' (stL bs'):=by
  subst ea ev;exact Call.frame k h2 h3 (yid h1 h4 h5 h6)
end
section
open Go Go.RowKit
noncomputable def lsOf (o:Oper):Option (Nat×Nat):=match o.op with
 |.load _ (.tmp a)=>some (0,a)
 |.store _ (.tmp a) _=>some (1,a)
 |.alloc _=>(match o.dst with|some d=>some (2,d)|none=>none)
 |.box _ _=>(match o.dst with|some d=>some (2,d)|none=>none)
 |.makeSlice _ _ _=>(match o.dst with|some d=>some (2,d)|none=>none)
 |.buildSlice _ _ _=>(match o.dst with|some d=>some (2,d)|none=>none)
 |_=>none
noncomputable def zqd (a:Nat) (l:List Oper):Bool:=l.all fun o=>match o.dst with|some d=>!(Nat.beq d a)|none=>true
noncomputable def znp (k a:Nat) (o:Oper) (l:List Oper):Bool:=zqd a l && (Nat.beq k 2 || zqd a [o])
noncomputable def z1p:List (Nat×Option Nat)→Nat→Option (Option Nat)
 |[],_=>none
 |(a,b) :: l,x=>bif Nat.beq a x then some b else z1p l x
noncomputable def zsl (bx:List (Nat×Option Nat)) (o:Oper) (l:List Oper):Option (Nat×Option Nat):=match lsOf o with
 |some (w,a)=>bif znp w a o l then (match z1p bx a with|some b=>some (w,b)|none=>none) else none
 |none=>none
noncomputable def tagS (bx:List (Nat×Option Nat)):Nat→List Oper→List (Bool×Oper×Option (Nat×Option Nat))
 |_,[]=>[]
 |0,o :: l=>(true,o,zsl bx o l) :: tagS bx 0 l
 |k+1,o :: l=>(false,o,zsl bx o l) :: tagS bx k l
noncomputable def z9r:Option Nat→Option Nat→Bool
 |some a,some b=>!(Nat.beq a b)
 |none,none=>false
 |_,_=>true
noncomputable def z6q (p q:Option (Nat×Option Nat)):Bool:=match p,q with
 |some (w1,b1),some (w2,b2)=>Nat.ble w2 1 && ((Nat.beq w1 0 && Nat.beq w2 0) || z9r b1 b2)
 |_,_=>false
noncomputable def zlq (Γ:Env) (o:Oper):Bool:=match o.op with
 |.call ⟨.builtin .len,_,ts⟩=>(match ts.toList with | [t]=>(match Γ.ti.at t with|some i=>(match i.desc with|.slice _=>true|.string=>true|_=>false)|none=>false)|_=>false)
 |.call ⟨.builtin .min,_,_⟩=>true
 |.call ⟨.builtin .max,_,_⟩=>true
 |_=>false
noncomputable def z4b (Γ:Env) (x y:Bool×Oper×Option (Nat×Option Nat)):Bool:=y.1 && !(zhu x.2.1.op || (zh4 y.2.1.op || (zlq Γ x.2.1 || (zlq Γ y.2.1 || z6q x.2.2 y.2.2))))
noncomputable def zsy (Γ:Env) (k:Nat) (bx:List (Nat×Option Nat)) (ops:List Oper):Bool:=zi1 ops.length ops && zem (z4b Γ) [] (tagS bx k ops) (zcr ops [])
def adr1 (S:TS):T→Option Nat→Prop
 |.ptr b _ N,some c=>b=c∧S.has b N=true
 |.cp _,none=>True
 |.arr b _ _ _ _ N,some c=>b=c∧S.has b N=true
 |_,_=>False
def zvl (bx:List (Nat×Option Nat)) (h:Nat→T) (S:TS):Prop:=match bx with
 |[]=>True
 |(a,b) :: l=>adr1 S (h a) b∧zvl l h S
theorem zl7 {bx:List (Nat×Option Nat)}:∀ {k:Nat} {ops:List Oper} {i:Nat} {o:Oper},ops[i]?=some o→(tagS bx k ops)[i]?=some (decide (k≤i),o,zsl bx o (ops.drop (i+1)))
 |_,[],i,o,h=>by simp at h
 |0,x :: l,i,o,h=>by
  cases i with
  |zero=>simp only [List.getElem?_cons_zero,Option.some.injEq] at h;subst h;rfl
  |succ i =>
   have:=zl7 (bx:=bx) (k:=0) (ops:=l) (i:=i) (by simpa using h)
   simpa [tagS] using this
 |k+1,x :: l,i,o,h=>by
  cases i with
  |zero=>simp only [List.getElem?_cons_zero,Option.some.injEq] at h;subst h;rfl
  |succ i =>
   have:=zl7 (bx:=bx) (k:=k) (ops:=l) (i:=i) (by simpa using h);simpa [tagS] using this
theorem zzs {Γ:Env} {k:Nat} {bx:List (Nat×Option Nat)} {ops:List Oper} (hd:zsy Γ k bx ops=true) {i j:Nat} {x y:Oper} (hij:i<j) (hkj:k≤j) (hx:ops[i]?=some x) (hy:ops[j]?=some y):Nat.testBit (nth 0 (zcr ops []) j) i=true∨zhu x.op=true∨zh4 y.op=true∨zlq Γ x=true∨zlq Γ y=true∨z6q (zsl bx x (ops.drop (i+1))) (zsl bx y (ops.drop (j+1)))=true:=by
 unfold zsy at hd;simp only [Bool.and_eq_true] at hd;rcases ze8 hd.2 i j _ _ hij (Nat.zero_le _) (by simpa using zl7 hx) (by simpa using zl7 hy) with q|q
 ·exact .inl q
 ·unfold z4b at q;rw [decide_eq_true hkj] at q;simp only [Bool.true_and,Bool.not_eq_false',Bool.or_eq_true] at q;exact .inr q
theorem yeg {bx:List (Nat×Option Nat)} {x y:Oper} {l m:List Oper} (h:z6q (zsl bx x l) (zsl bx y m)=true):∃ w1 a1 b1 w2 a2 b2,lsOf x=some (w1,a1)∧znp w1 a1 x l=true∧z1p bx a1=some b1∧lsOf y=some (w2,a2)∧znp w2 a2 y m=true∧z1p bx a2=some b2∧w2≤1∧((w1=0∧w2=0)∨z9r b1 b2=true):=by
 have key:∀ {o:Oper} {l:List Oper} {w b},zsl bx o l=some (w,b)→∃ a,lsOf o=some (w,a)∧znp w a o l=true∧z1p bx a=some b:=by
  intro o l w b h;unfold zsl at h;split at h
  ·rename_i w' a' h1
   cases h2:znp w' a' o l with
   |false=>rw [h2] at h;simp at h
   |true =>
    rw [h2,cond_true] at h;split at h
    ·rename_i b' h3;cases h;exact ⟨a',h1,h2,h3⟩
    ·simp at h
  ·simp at h
 cases h1:zsl bx x l with
 |none=>rw [h1] at h;simp [z6q] at h
 |some p =>
  cases h2:zsl bx y m with
  |none=>rw [h1,h2] at h;simp [z6q] at h
  |some q =>
   obtain ⟨w1,b1⟩:=p;obtain ⟨w2,b2⟩:=q;rw [h1,h2] at h;obtain ⟨a1,c1,c2,c3⟩:=key h1;obtain ⟨a2,d1,d2,d3⟩:=key h2;simp only [z6q,Bool.or_eq_true,Bool.and_eq_true] at h;refine ⟨w1,a1,b1,w2,a2,b2,c1,c2,c3,d1,d2,d3,zax.1 h.1,?_⟩;rcases h.2 with q|q
   ·exact .inl ⟨Nat.eq_of_beq_eq_true q.1,Nat.eq_of_beq_eq_true q.2⟩
   ·exact .inr q
theorem zxk {h:Nat→T} {S:TS}:∀ {bx:List (Nat×Option Nat)} {a:Nat} {b:Option Nat},zvl bx h S→z1p bx a=some b→adr1 S (h a) b
 |(a',b') :: l,a,b,k,e=>by
  unfold z1p at e
  cases hb:Nat.beq a' a with
  |true =>
   rw [hb,cond_true] at e;cases e;rw [← Nat.eq_of_beq_eq_true hb];exact k.1
  |false =>
   rw [hb,cond_false] at e;exact zxk k.2 e
section
variable {GL:List (Nat×List Value)} {A A' A0:Nat→Prop} {β β':Bx} {S S':TS} {s s0 s' s2:CS} {P:Program} {Γ:Env} {N:Nat} {h h':Nat→T} {call:zdg}
def IsAd (v:Value) (ad:Addr):Prop:=v=.pointer (some ad)∨∃ n c,v=.slice (some ad) n c
def ycv (fr:Fr) (w:Nat) (a:Nat) (x:Lg):Prop:=(x.rd=[]∧x.wr=[]∧x.lo=x.hi)∨∃ ad,IsAd (fr.get a) ad∧(∀ y,y∈x.rd→y=ad.block)∧(∀ y,y∈x.wr→y=ad.block)∧(x.lo=x.hi∨(x.hi=x.lo+1∧x.lo=ad.block))∧(w=0→x.wr=[])∧(w≤1→x.lo=x.hi)
theorem z4v {fr:Fr} {d:Option Tmp} {v:Value} {a:Nat} (h5:fr.nt≤512) (hd:(match d with|some d=>!(Nat.beq d a)|none=>true)=true):(putC fr d v).get a=fr.get a:=by
 cases d with
 |none=>rfl
 |some d =>
  refine Fr.get_put_other v h5 fun e=>?_;subst e;simp at hd
theorem zw5 {ops:List Oper} {a:Nat}:∀ {l:List Oper} {fr fr':Fr} {s s':CS} {L:List Lg},drawC P Γ call ops l fr s=some (L,fr',s')→fr.nt≤512→zqd a l=true→fr'.get a=fr.get a
 |[],fr,fr',s,s',L,hc,_,_=>by
  simp only [drawC,Option.some.injEq,Prod.mk.injEq] at hc;rw [hc.2.1]
 |o :: l,fr,fr',s,s',L,hc,h5,hn=>by
  simp only [drawC] at hc;unfold zqd at hn;rw [List.all_cons,Bool.and_eq_true] at hn;split at hc
  ·rename_i fr1 t h1;split at hc
   ·rename_i logs fr2 s2 h2;cases hc
    have e:∃ v,fr1=putC fr o.dst v:=by
     unfold zbj at h1
     cases hw:zb9 ops fr o with
     |false =>
      rw [hw] at h1;simp only [cond_false,Option.some.injEq,Prod.mk.injEq] at h1;exact ⟨_,h1.1.symm⟩
     |true =>
      rw [hw,cond_true] at h1;split at h1
      ·cases h1;exact ⟨_,rfl⟩
      ·simp at h1
    obtain ⟨v,rfl⟩:=e;rw [zw5 h2 (by rw [zwb];exact h5) hn.2];exact z4v h5 hn.1
   ·simp at hc
  ·simp at hc
theorem yao {lim n y:Nat} (h:y∈ins lim [] n):y=n:=by
 unfold ins at h
 cases hb:Nat.blt n lim with
 |false=>rw [hb] at h;simp at h
 |true =>
  rw [hb] at h;have:has ([]:List Nat) n=false:=rfl;rw [cond_true,this,cond_false] at h;simpa using h
theorem z92 {s s1:CS} {tag:Nat} {cs:List Value} {a:Addr} (h:s.newRow tag cs=some (a,s1)):s1.rd=s.rd∧s1.wr=s.wr∧s1.n=s.n+1∧a.block=s.n:=by
 unfold CS.newRow at h;generalize (zh0 s.obj s.n:Bool)=b at h
 cases b with
 |true=>cases h;exact ⟨rfl,rfl,rfl,rfl⟩
 |false=>cases h
theorem z9j {s s1:CS} {tag:Nat} {cs:List Value} {v:Value} (h:ptrC (s.inner.newRow tag cs)=some (v,s1)):s1.rd=[]∧s1.wr=[]∧s1.n=s.n+1∧∃ ad,IsAd v ad∧ad.block=s.n:=by
 unfold ptrC at h;split at h
 ·rename_i x hx;cases h;obtain ⟨a,t⟩:=x;obtain ⟨h1,h2,h3,h4⟩:=z92 hx;exact ⟨h1,h2,h3,a,.inl rfl,h4⟩
 ·simp at h
theorem zxz {s s1:CS} {tag l c:Nat} {cs:List Value} {v:Value} (h:zdy l c (s.inner.newRow tag cs)=some (v,s1)):s1.rd=[]∧s1.wr=[]∧s1.n=s.n+1∧∃ ad,IsAd v ad∧ad.block=s.n:=by
 unfold zdy at h;split at h
 ·rename_i x hx;cases h;obtain ⟨a,t⟩:=x;obtain ⟨h1,h2,h3,h4⟩:=z92 hx;exact ⟨h1,h2,h3,a,.inr ⟨_,_,rfl⟩,h4⟩
 ·simp at h
theorem ykc {o:Oper} {fr:Fr} {s s1:CS} {v:Value} {w:Nat} {a:Nat} (ho:lsOf o=some (w,a)) (hc:cop P Γ call (zeu fr) o s.inner=some (v,s1)):(w≤1∧s1.n=s.n∧∃ ad,fr.get a=.pointer (some ad)∧(w=0→s1.wr=[])∧(∀ y,y∈s1.rd→y=ad.block)∧(∀ y,y∈s1.wr→y=ad.block))∨(w=2∧o.dst=some a∧s1.rd=[]∧s1.wr=[]∧s1.n=s.n+1∧∃ ad,IsAd v ad∧ad.block=s.n):=by
 unfold lsOf at ho;split at ho
 ·rename_i t a' hop;cases ho;unfold cop at hc;rw [hop] at hc;simp only [zeu] at hc;unfold zfp at hc;split at hc
  ·rename_i ad had;split at hc
   ·rename_i i hi;unfold CS.loadVar at hc;split at hc
    ·rename_i cs s3 hr;split at hc
     ·cases hc;unfold CS.readRow at hr;split at hr
      ·cases hr;exact .inl ⟨by omega,rfl,ad,had,fun _=>rfl,fun y hy=>yao hy,fun y hy=>by cases hy⟩
      ·simp at hr
     ·simp at hc
    ·simp at hc
   ·simp at hc
  ·simp at hc
 ·rename_i t a' vv hop;cases ho;unfold cop at hc;rw [hop] at hc;change ze4 Γ s.inner t (zeu fr vv).cells.toList (fr.get a)=_ at hc;generalize (zeu fr vv).cells.toList=vs at hc;unfold ze4 at hc;split at hc
  ·rename_i ad had;split at hc
   ·rename_i i hi
    cases hb:Nat.beq vs.length i.size with
    |false=>rw [hb] at hc;simp at hc
    |true =>
     rw [hb,cond_true] at hc;unfold ztn at hc;split at hc
     ·rename_i s2 hw;cases hc;unfold CS.write at hw;split at hw
      ·generalize ((Nat.ble _ _ && vs.all oneC):Bool)=bb at hw
       cases bb with
       |true =>
        cases hw;exact .inl ⟨by omega,rfl,ad,had,fun e=>(by cases e),fun y hy=>(by cases hy),fun y hy=>yao hy⟩
       |false=>cases hw
      ·simp at hw
     ·simp at hc
   ·simp at hc
  ·simp at hc
 ·rename_i e hop;split at ho
  ·rename_i d hd;cases ho;refine .inr ⟨rfl,hd,?_⟩;unfold cop at hc;rw [hop] at hc;simp only at hc;unfold ziw at hc;split at hc
   ·exact z9j hc
   ·simp at hc
  ·simp at ho
 ·rename_i e x hop;split at ho
  ·rename_i d hd;cases ho;refine .inr ⟨rfl,hd,?_⟩;unfold cop at hc;rw [hop] at hc;exact z9j hc
  ·simp at ho
 ·rename_i e l c hop;split at ho
  ·rename_i d hd;cases ho;refine .inr ⟨rfl,hd,?_⟩;unfold cop at hc;rw [hop] at hc;simp only at hc;unfold zd6 at hc;split at hc
   ·rename_i j l' c' _ _ _
    cases hb:(Nat.ble l' c' && Nat.ble (c'*(j.bytes+1)) 1000000000 && Nat.blt 0 j.size) with
    |false=>rw [hb] at hc;simp at hc
    |true =>
     rw [hb,cond_true] at hc;exact zxz hc
   ·simp at hc
  ·simp at ho
 ·rename_i e n parts hop;split at ho
  ·rename_i d hd;cases ho;refine .inr ⟨rfl,hd,?_⟩;unfold cop at hc;rw [hop] at hc;simp only at hc;unfold za4 at hc;split at hc
   ·rename_i j _
    cases hb:(Nat.ble (n*j.size) 16777216 && Nat.blt 0 j.size) with
    |false=>rw [hb] at hc;simp at hc
    |true =>
     rw [hb,cond_true] at hc;split at hc
     ·exact zxz hc
     ·simp at hc
   ·simp at hc
  ·simp at ho
 ·simp at ho
theorem zw4 {ops:List Oper}:∀ {l:List Oper} {fr fr':Fr} {s s':CS} {L:List Lg},drawC P Γ call ops l fr s=some (L,fr',s')→fr.nt≤512→zfl fr.nt l=true→∀ (j:Nat) (o:Oper) (x:Lg) (w:Nat) (a:Nat),l[j]?=some o→L[j]?=some x→lsOf o=some (w,a)→znp w a o (l.drop (j+1))=true→ycv fr' w a x
 |[],fr,fr',s,s',L,hc,_,_,j,o,x,w,a,hj,_,_,_=>by simp at hj
 |o :: l,fr,fr',s,s',L,hc,h5,hdo,j,o',x,w,a,hj,hx,ho,hn=>by
  have hc0:=hc;simp only [drawC] at hc;split at hc
  ·rename_i fr1 t h1;split at hc
   ·rename_i logs fr2 s2 h2;cases hc
    have hfr:∃ v,fr1=putC fr o.dst v:=by
     unfold zbj at h1
     cases hw:zb9 ops fr o with
     |false =>
      rw [hw] at h1;simp only [cond_false,Option.some.injEq,Prod.mk.injEq] at h1;exact ⟨_,h1.1.symm⟩
     |true =>
      rw [hw,cond_true] at h1;split at h1
      ·cases h1;exact ⟨_,rfl⟩
      ·simp at h1
    have hnt:fr1.nt=fr.nt:=by obtain ⟨v,rfl⟩:=hfr;exact zwb _ _ _
    unfold zfl at hdo;rw [List.all_cons,Bool.and_eq_true] at hdo
    cases j with
    |zero =>
     simp only [List.getElem?_cons_zero,Option.some.injEq] at hj hx;subst hj;subst hx;unfold znp at hn;simp only [Bool.and_eq_true,Bool.or_eq_true] at hn;obtain ⟨hn1,hn2⟩:=hn;have hg1:=zw5 h2 (by rw [hnt];exact h5) (show zqd a l=true by simpa using hn1);unfold zbj at h1
     cases hw:zb9 ops fr o with
     |false =>
      rw [hw] at h1;simp only [cond_false,Option.some.injEq,Prod.mk.injEq] at h1;rw [← h1.2];exact .inl ⟨rfl,rfl,rfl⟩
     |true =>
      rw [hw,cond_true] at h1;split at h1
      ·rename_i v s1 hcop;cases h1;rcases ykc ho hcop with ⟨q0,q1,ad,q2,q3,q4,q5⟩|⟨q0,q1,q2,q3,q4,ad,q5,q6⟩
       ·have hn3:zqd a [o]=true:=by
         rcases hn2 with q|q
         ·have:=Nat.eq_of_beq_eq_true q;omega
         ·exact q
        have e:(putC fr o.dst v).get a=fr.get a:=z4v h5 (by unfold zqd at hn3;rw [List.all_cons,Bool.and_eq_true] at hn3;exact hn3.1);refine .inr ⟨ad,.inl (by rw [hg1,e];exact q2),q4,q5,.inl q1.symm,q3,fun _=>q1.symm⟩
       ·subst q0
        have e:(putC fr o.dst v).get a=v:=by
         rw [q1];refine Fr.get_put_same v ?_ h5;have:=hdo.1;rw [q1] at this;exact zai.1 this
        refine .inr ⟨ad,by rw [hg1,e];exact q5,fun y hy=>?_,fun y hy=>?_,.inr ⟨q4,q6.symm⟩,fun h=>(by cases h),fun h=>by omega⟩
        ·simp only [q2] at hy;cases hy
        ·simp only [q3] at hy;cases hy
      ·simp at h1
    |succ j=>exact zw4 h2 (by rw [hnt];exact h5) (by rw [hnt];exact hdo.2) j o' x w a (by simpa using hj) (by simpa using hx) ho (by simpa using hn)
   ·simp at hc
  ·simp at hc
theorem yh9 {o:Oper} {ρ:Operand→Value} {s s1:CS} {v:Value} (hm:zlq Γ o=true) (hc:cop P Γ call ρ o s=some (v,s1)):s1=s:=by
 unfold zlq at hm;split at hm
 ·rename_i args ts hop;unfold cop at hc;rw [hop] at hc;simp only at hc;unfold zc9 at hc;simp only at hc;split at hc
  ·rename_i x t _ hts;rw [hts] at hm;simp only at hm;unfold ziv at hc;split at hc
   ·rename_i i hi;rw [hi] at hm;simp only at hm;split at hc
    ·cases hc;rfl
    ·cases hc;rfl
    ·cases hc;rfl
    ·cases hc;rfl
    ·rename_i hd _;rw [hd] at hm;simp at hm
    ·simp at hc
   ·simp at hc
  ·simp at hc
 ·rename_i args ts hop;unfold cop at hc;rw [hop] at hc;exact zj0 hc
 ·rename_i args ts hop;unfold cop at hc;rw [hop] at hc;exact zj0 hc
 ·simp at hm
theorem zlv {ops:List Oper}:∀ {l:List Oper} {fr fr':Fr} {s s':CS} {L:List Lg},drawC P Γ call ops l fr s=some (L,fr',s')→∀ (j:Nat) (o:Oper) (x:Lg),l[j]?=some o→L[j]?=some x→zlq Γ o=true→x.rd=[]∧x.wr=[]∧x.lo=x.hi
 |[],fr,fr',s,s',L,hc,j,o,x,hj,_,_=>by simp at hj
 |o :: l,fr,fr',s,s',L,hc,j,o',x,hj,hx,hm=>by
  simp only [drawC] at hc;split at hc
  ·rename_i fr1 t h1;split at hc
   ·rename_i logs fr2 s2 h2;cases hc
    cases j with
    |zero =>
     simp only [List.getElem?_cons_zero,Option.some.injEq] at hj hx;subst hj;subst hx;unfold zbj at h1
     cases hw:zb9 ops fr o with
     |false =>
      rw [hw] at h1;simp only [cond_false,Option.some.injEq,Prod.mk.injEq] at h1;rw [← h1.2];exact ⟨rfl,rfl,rfl⟩
     |true =>
      rw [hw,cond_true] at h1;split at h1
      ·rename_i v s1 hcop;cases h1;rw [yh9 hm hcop];exact ⟨rfl,rfl,rfl⟩
      ·simp at h1
    |succ j=>exact zlv h2 j o' x (by simpa using hj) (by simpa using hx) hm
   ·simp at hc
  ·simp at hc
def FamOf (A:Nat→Prop) (β:Bx) (f:Nat):Option Nat→Prop
 |some b=>∃ u N',β b=some (.live f u N')
 |none=>A f
theorem z2f {S:TS} {s:CS} {fr:Fr} (hF:FrOk A β (zag s.obj) N h fr) (hT:TRel GL A β S s) {a:Nat} {b:Option Nat} (k:adr1 S (h a) b) {ad:Addr} (e:IsAd (fr.get a) ad):FamOf A β ad.block b:=by
 have hv:=hF.slot a;generalize fr.get a=v at hv e;generalize h a=t at hv k
 cases b with
 |none =>
  cases t with
  |cp l=>cases hv with|cp q1 q2 q3=>(rcases e with e|⟨n,c,e⟩<;>cases e);exact q1
  |_=>exact k.elim
 |some c =>
  cases t with
  |ptr b' off N' =>
   obtain ⟨rfl,k2⟩:=k;obtain ⟨z,l,hS⟩:=TS.has_ok k2;obtain ⟨f,u,q1,q2⟩:=ziu hT hS hv;subst q1;rcases e with e|⟨n,c,e⟩<;>cases e;exact ⟨u,N',q2⟩
  |arr b' e' off len cap N' =>
   obtain ⟨rfl,k2⟩:=k;obtain ⟨z,l,hS⟩:=TS.has_ok k2;rcases zf8 hT hS hv with ⟨f,u,q1,q2,_⟩|⟨q1,_⟩
   ·subst q1;rcases e with e|⟨n,c,e⟩<;>cases e;exact ⟨u,N',q2⟩
   ·subst q1
    rcases e with e|⟨n,c,e⟩<;>cases e
  |_=>exact k.elim
theorem yh4 {S:TS} {s:CS} {fr:Fr} (hF:FrOk A β (zag s.obj) N h fr) (hT:TRel GL A β S s) {a1 a2:Nat} {b1 b2:Option Nat} {w1 w2:Nat} {x y:Lg} (k1:adr1 S (h a1) b1) (k2:adr1 S (h a2) b2) (hw:w2≤1) (hne:(w1=0∧w2=0)∨z9r b1 b2=true) (z1:ycv fr w1 a1 x) (z2:ycv fr w2 a2 y):clash x y=false:=by
 obtain ⟨rx,wx,lo,hi⟩:=x;obtain ⟨ry,wy,lo',hi'⟩:=y;simp only [ycv] at z1 z2;rcases z1 with ⟨p1,p2,p3⟩|⟨ad1,p1,p2,p3,p4,p5,p6⟩
 ·exact zg9 p1 p2 p3
 rcases z2 with ⟨q1,q2,_⟩|⟨ad2,q1,q2,q3,q4,q5,q6⟩
 ·exact zg8 q1 q2
 have g1:=z2f hF hT k1 p1;have g2:=z2f hF hT k2 q1;rcases hne with ⟨rfl,rfl⟩|hne
 ·have e1:=p5 rfl;have e2:=q5 rfl;have e3:=p6 (by omega);subst e1;subst e2;subst e3;exact zec (fun f hf=>by cases hf) (fun f _=>by simp) (fun f _=>by omega) (fun f hf=>by cases hf)
 ·have hb:ad1.block≠ad2.block:=by
   intro hb
   cases b1 with
   |none =>
    cases b2 with
    |none=>simp [z9r] at hne
    |some b2 =>
     obtain ⟨u,M,g2⟩:=g2;exact (hT.dis ad2.block ⟨b2,.inl ⟨u,M,g2⟩⟩).2 (hb ▸ g1)
   |some b1 =>
    obtain ⟨u1,M1,g1⟩:=g1
    cases b2 with
    |none=>exact (hT.dis ad1.block ⟨b1,.inl ⟨u1,M1,g1⟩⟩).2 (hb ▸ g2)
    |some b2 =>
     obtain ⟨u2,M2,g2⟩:=g2;have:=hT.inj b1 b2 _ _ ad1.block g1 g2 rfl (by rw [hb];rfl);subst this;simp [z9r] at hne
  refine zec (fun f hf=>⟨fun hf2=>?_,fun hf2=>?_⟩) (fun f hf hf2=>?_) (fun f hf=>?_) (fun f hf=>?_)
  ·exact hb ((p3 f hf).symm.trans (q2 f hf2))
  ·exact hb ((p3 f hf).symm.trans (q3 f hf2))
  ·exact hb ((p2 f hf).symm.trans (q3 f hf2))
  ·have:=q2 f hf;rcases p4 with p4|⟨p4,p7⟩<;>omega
  ·have:=q3 f hf;rcases p4 with p4|⟨p4,p7⟩<;>omega
theorem TW.drawS (hE:zcm P Γ) {id:Nat} {ops:Array Oper} {Q:Exit→(Nat→T)→TS→Prop} (k:Nat) (bx:List (Nat×Option Nat)) (outsP:List T) (own:List Nat) (outs:List (T×TS)) {h1:Nat→T} {ob1 ob2:Prop} (hd:zfl N ops.toList=true) (hoS:zsy Γ k bx ops.toList=true)
    (hp:runP P Γ GL ops.toList (ops.toList.take k) h S outsP=some (ob1,h1)) (hob1:ob1) (hr:runT P Γ GL own ops.toList (ops.toList.drop k) h1 S outs=some (ob2,h',S')) (hob2:ob2) (hbx:zvl bx h' S') (hq:Q .normal h' S'):TW P Γ GL N (.region id ops true) h S Q:=fun A β fr s hF hT=>by
  have hok:zi1 ops.toList.length ops.toList=true:=by
    unfold zsy at hoS;simp only [Bool.and_eq_true] at hoS;exact hoS.1
  have hsplit:ops.toList=ops.toList.take k++ops.toList.drop k:=(List.take_append_drop k _).symm
  have hdd:zfl N (ops.toList.take k)=true∧zfl N (ops.toList.drop k)=true:=by
    unfold zfl at hd ⊢;rw [hsplit,List.all_append,Bool.and_eq_true] at hd;exact hd
  have I0:zok GL ops.toList A β S s N [] h fr s:=by
    refine ⟨hF.nt,hF.le,hT,fun t=>⟨0,(hF.slot t).mono (fun f hf=>.inl hf) (fun _ _=>rfl) (Bx.le_refl _),fun j o _ _ _ m hm=>by simp at hm⟩,fun k x hx=>by simp at hx,fun k m x y _ hx=>by simp at hx,fun f hf=>(hT.dis f hf).1,hT.alt,?_,hT.le⟩;exact ⟨Can.refl _,fun _ h=>h,fun _ h=>.inl h,fun _ _=>rfl,fun _ h=>.inl h,fun _ h=>h⟩
  obtain ⟨M1,fr1,s1,d1,I1,m1⟩:=z3n hE hok I0 (fun j o hj=>by
    rw [List.length_nil,Nat.zero_add];rw [List.getElem?_take] at hj;split at hj
    · exact hj
    · simp at hj) hdd.1 hp hob1
  rw [List.nil_append] at I1
  -- behind the first part all may lean on all
  let D:Nat:=2 ^ M1.length - 1
  have hDall:∀ m,m<M1.length→Nat.testBit D m=true:=fun m hm=>by
    show Nat.testBit (2 ^ M1.length - 1) m=true;rw [Nat.testBit_two_pow_sub_one];exact decide_eq_true hm
  have hT1:TRel GL (SupL A M1 D) β S s1:=by
    refine I1.rel.more _ (fun f hf=>.inl hf) (fun f hf=>?_) (fun f hf ho=>?_)
    · rcases hf with q|⟨m,x,_,q2,_,q4⟩
      · exact I1.rel.alt f q
      · have:=(I1.log m x q2).2.2.1;omega
    · rcases hf with q|⟨m,x,_,q2,q3,q4⟩
      · exact (I1.rel.dis f ho).2 q
      · have:=(I1.log m x q2).1;have:=I1.own f ho;omega
  have hF1:FrOk (SupL A M1 D) β (zag s1.obj) N h1 fr1:=⟨I1.nt,I1.le,fun t=>by
    obtain ⟨E,e1,_⟩:=I1.slot t
    exact e1.mono (fun f hf=>SupL.sub (fun m hm _=>hDall m hm) hf) (fun _ _=>rfl) (Bx.le_refl _)⟩
  have hS1:Stp A β s (SupL A M1 D) β s1:=by
    refine ⟨I1.calm.can,fun f hf=>.inl hf,fun f hf=>?_,fun f hf=>.inl hf,fun f hf _=>I1.calm.keep f hf,Bx.le_refl _,I1.calm.rd,fun x hx=>.inl (I1.calm.wr x hx)⟩;rcases hf with q|⟨m,x,_,q2,q3,_⟩
    · exact .inl q
    · have:=(I1.log m x q2).1;exact .inr (.inl (by omega))
  obtain ⟨M2,fr2,s2,d2,L2⟩:=zwc hE hdd.2 hF1 hT1 hr hob2;have hdraw:=zjg d1 d2;rw [← hsplit] at hdraw;obtain ⟨f1,f2⟩:=zqy hdraw;have L2':=L2;obtain ⟨A2,β2,hF2,hT2,_⟩:=L2';refine W.draw hdraw ?_ ⟨h',S',Left.trans (h':=h) (fr':=fr) hT.le hS1 L2,hq⟩;refine zxd rfl (zmn fun i j x y hij _ hx hy=>?_);simp only [List.nil_append] at hx hy;have hjl:j<ops.toList.length:=by rw [← f1];exact (List.getElem?_eq_some_iff.1 hy).1
  have ho1:ops.toList[i]?=some (ops.toList[i]'(by omega)):=List.getElem?_eq_getElem _;have ho2:ops.toList[j]?=some (ops.toList[j]'hjl):=List.getElem?_eq_getElem _;by_cases hkj:k≤j
  · rcases zzs hoS hij hkj ho1 ho2 with q|q|q|q|q|q
    · exact .inl q
    · obtain ⟨a,b,c⟩:=(f2 i _ x ho1 hx).1 q;exact .inr (zg9 a b c)
    · obtain ⟨a,b⟩:=(f2 j _ y ho2 hy).2 q;exact .inr (zg8 a b)
    · obtain ⟨a,b,c⟩:=zlv hdraw i _ x ho1 hx q;exact .inr (zg9 a b c)
    · obtain ⟨a,b,c⟩:=zlv hdraw j _ y ho2 hy q;exact .inr (zg8 a b)
    · obtain ⟨w1,a1,b1,w2,a2,b2,g1,g2,g3,g4,g5,g6,g7,g8⟩:=yeg q;have z1:=zw4 hdraw (by rw [hF.nt];exact hF.le) (by rw [hF.nt];exact hd) i _ x w1 a1 ho1 hx g1 g2;have z2:=zw4 hdraw (by rw [hF.nt];exact hF.le) (by rw [hF.nt];exact hd) j _ y w2 a2 ho2 hy g4 g5;exact .inr (yh4 hF2 hT2 (zxk hbx g3) (zxk hbx g6) g7 g8 z1 z2)
  · have hjM:j<M1.length:=by rw [m1,List.length_take];omega
    rw [List.getElem?_append_left (by omega)] at hx;rw [List.getElem?_append_left hjM] at hy;by_cases hbit:Nat.testBit (nth 0 (zcr ops.toList []) j) i=true
    · exact .inl hbit
    · right;obtain ⟨x1,x2,x3,x4,x5⟩:=I1.log i x hx;obtain ⟨y1,y2,y3,y4,y5⟩:=I1.log j y hy;obtain ⟨rx,wx,lo,hi⟩:=x;obtain ⟨ry,wy,lo',hi'⟩:=y;simp only at x1 x2 x3 x4 x5 y1 y2 y3 y4 y5;subst x4;subst y4;refine zec (fun f hf=>by simp at hf) (fun f _=>by simp) (fun f hf=>?_) (fun f hf=>by simp at hf);obtain ⟨g1,g2⟩:=y5 f hf;rcases g2 with (g2|⟨m,z,g3,g4,g5,g6⟩)|g2
      · have:=I1.base f g2;omega
      · by_cases hmi:m=i
        · subst hmi;exact absurd g3 hbit
        · by_cases hlt:m<i
          · have:=I1.apart m i z _ hlt g4 hx;simp only at this;omega
          · have:=I1.apart i m _ z (by omega) hx g4;simp only at this;omega
      · have:=I1.own f g2;omega
end
end
section
open Go Go.RowKit
section
variable {GL:List (Nat×List Value)} {A A' A2:Nat→Prop} {β β' β2:Bx} {S S' S2:TS} {s s' s2:CS} {P:Program} {Γ:Env} {N:Nat} {h h' h2:Nat→T} {Q R:Exit→(Nat→T)→TS→Prop}
theorem z1l (hE:zcm P Γ) {own:List Nat} {ops:List Oper} {N:Nat}:∀ {l:List Oper} {h h':Nat→T} {S S':TS} {outs:List (T×TS)} {ob:Prop} {A:Nat→Prop} {β:Bx} {fr:Fr} {s:CS},zfl N l=true→FrOk A β (zag s.obj) N h fr→TRel GL A β S s→runT P Γ GL own ops l h S outs=some (ob,h',S')→ob →
    ∃ M fr' s',drawC P Γ (za0 P Γ) ops l fr s=some (M,fr',s')∧Left GL A β s N fr' s' h' S'∧∀ x,x∈M→∀ f,f∈x.wr→Own β f∨s.n≤f
  |[],h,h',S,S',outs,ob,A,β,fr,s,hd,hF,hT,hr,hob=>by
    simp only [runT,Option.some.injEq,Prod.mk.injEq] at hr;obtain ⟨rfl,rfl,rfl⟩:=hr;exact ⟨[],fr,s,rfl,⟨A,β,hF,hT,Stp.refl⟩,fun x hx=>by simp at hx⟩
  |o :: l,h,h',S,S',outs,ob,A,β,fr,s,hd,hF,hT,hr,hob=>by
    have hd':zfl N l=true∧∀ t,o.dst=some t→t<N:=by
      unfold zfl at hd ⊢;rw [List.all_cons,Bool.and_eq_true] at hd;refine ⟨hd.2,fun t ht=>?_⟩;have:=hd.1;rw [ht] at this;exact zai.1 this
    have hTi:=hT.inner
    have go:∀ {t:T} {S1:TS} {r:Option (Value×CS)} {l':List (T×TS)} {ob':Prop},Ok GL A β s.inner r t S1→(cop P Γ (za0 P Γ) (zeu fr) o s.inner=r)→zb9 ops fr o=true→runT P Γ GL own ops l (putT h o.dst t) S1 l'=some (ob',h',S')→ob'→∃ M fr' s',drawC P Γ (za0 P Γ) ops (o :: l) fr s=some (M,fr',s')∧Left GL A β s N fr' s' h' S'∧∀ x,x∈M→∀ f,f∈x.wr→Own β f∨s.n≤f:=by
      rintro t S1 r l' ob' ⟨v,s1,A1,β1,rfl,k1,k2,k3⟩ hc hw hrun hob';have hF1:FrOk A1 β1 (zag s1.obj) N h fr:=hF.mono k3.sub (Stp.old (s:=s.inner) hTi k3) k3.bx;have hS:Stp A β s A1 β1 (s.outer s1):=k3.outer hT.inv;obtain ⟨M,fr',s',e1,e2,e3⟩:=z1l hE hd'.1 (s:=s.outer s1) (hF1.put hd'.2 k2) (k1.outer (Nat.le_trans hT.le k3.can.n)) hrun hob';refine ⟨⟨s1.rd,s1.wr,s.n,s1.n⟩ :: M,fr',s',?_,Left.trans (h':=h) (fr':=fr) hT.le hS e2,fun x hx f hf=>?_⟩;rotate_left
      · rcases List.mem_cons.1 hx with rfl|hx
        · rcases k3.wr f hf with q|q
          · exact absurd q (by simp [CS.inner])
          · exact .inl q.2
        · rcases e3 x hx f hf with q|q
          · rcases hS.own f q with r|r
            · exact .inl r
            · exact .inr r
          · exact .inr (Nat.le_trans hS.can.n q)
      rw [drawC]
      have:zbj P Γ (za0 P Γ) ops o fr s.inner=some (putC fr o.dst v,s1):=by
        unfold zbj;rw [hw,cond_true,hc]
      rw [this];simp only;rw [e1]
    unfold runT at hr;split at hr
    · simp at hr
    · rename_i hg;have hw:=zhr hF hg;have hS:Stp A β s A β (s.outer s.inner):=Stp.outer hT.inv Stp.refl;obtain ⟨M,fr',s',e1,e2,e3⟩:=z1l hE hd'.1 (s:=s.outer s.inner) (hF.put hd'.2 VT.undf) (hTi.outer hT.le) hr hob;refine ⟨⟨[],[],s.n,s.n⟩ :: M,fr',s',?_,Left.trans (h':=h) (fr':=fr) hT.le hS e2,fun x hx f hf=>?_⟩;rotate_left
      · rcases List.mem_cons.1 hx with rfl|hx
        · simp at hf
        · rcases e3 x hx f hf with q|q
          · exact .inl q
          · exact .inr q
      rw [drawC]
      have:zbj P Γ (za0 P Γ) ops o fr s.inner=some (putC fr o.dst undef,s.inner):=by
        unfold zbj;rw [hw,cond_false]
      rw [this];simp only;rw [e1];rfl
    · rename_i hg;have hw:=zhr hF hg;split at hr
      · rename_i f args tys ho;split at hr
        · rename_i r outs';split at hr
          · rename_i p hp;unfold zxe at hp;split at hp
            · rename_i k first cap hf
              simp only [Option.some.injEq] at hp;subst hp
              cases hrun:runT P Γ GL own ops l (putT h o.dst r.1) r.2 outs' with
              |none=>rw [hrun] at hr;simp [andT] at hr
              |some q =>
                obtain ⟨q1,q2,q3⟩:=q;rw [hrun] at hr;simp only [andT,Option.some.injEq,Prod.mk.injEq] at hr;obtain ⟨rfl,rfl,rfl⟩:=hr;have hfv:=hF.eval hT f;rw [hf] at hfv;generalize e1:zeu fr f=vf at hfv
                cases hfv with
                |fn h1 h2 =>
                  rename_i va vc;have hargs:=zth (hF.eval hT) args.toList;have hcall:=hob.1 A β s.inner _ hTi ((h1.append hargs).append h2);refine go hcall ?_ hw hrun hob.2;unfold cop;simp only [ho,e1];unfold zjd;rfl
            · simp at hp
          · simp at hr
        · simp at hr
      · split at hr
        · rename_i t S1 hst;exact go (zvw hE hTi (hF.eval hT) hst) rfl hw hr hob
        · simp at hr
def isCp:T→Prop
 |.cp _=>True
 |_=>False
def yi5 (h:Nat→T):List Nat→Prop
 |[]=>True
 |a :: l=>isCp (h a)∧yi5 h l
theorem zzx {h:Nat→T} {a:Nat}:∀ {l:List Nat},yi5 h l→a∈l→∃ m,h a=.cp m
 |[],_,ha=>by simp at ha
 |b :: l,k,ha=>by
  rcases List.mem_cons.1 ha with rfl|ha
  ·have:=k.1;unfold isCp at this;split at this
   ·next m e=>exact ⟨m,e⟩
   ·exact this.elim
  ·exact zzx k.2 ha
noncomputable def ybw (cs:List Nat) (all:List Oper) (o:Oper):Bool:=match lsOf o with
 |some (0,a)=>cs.any (Nat.beq a) && zqd a all
 |_=>false
noncomputable def z4c (Γ:Env) (cs:List Nat) (all:List Oper) (x y:Bool×Oper×Option (Nat×Option Nat)):Bool:=y.1 && !(zhu x.2.1.op || (zh4 y.2.1.op || (zlq Γ x.2.1 || (zlq Γ y.2.1 || ybw cs all x.2.1))))
noncomputable def zw6 (Γ:Env) (k:Nat) (cs:List Nat) (ops:List Oper):Bool:=zi1 ops.length ops && zem (z4c Γ cs ops) [] (tagS [] k ops) (zcr ops [])
theorem z6u {cs:List Nat} {all:List Oper} {o:Oper} (h:ybw cs all o=true):∃ a,lsOf o=some (0,a)∧a∈cs∧zqd a all=true:=by
 unfold ybw at h;split at h
 ·next a e =>
  rw [Bool.and_eq_true] at h;obtain ⟨b,hb,hab⟩:=List.any_eq_true.1 h.1;have:a=b:=Nat.eq_of_beq_eq_true hab;subst this;exact ⟨a,e,hb,h.2⟩
 ·simp at h
theorem z8e {a:Nat} {all:List Oper} {i:Nat} {o:Oper} (h:zqd a all=true) (ho:all[i]?=some o):znp 0 a o (all.drop (i+1))=true:=by
 unfold znp;unfold zqd at h ⊢;rw [List.all_eq_true] at h;rw [Bool.and_eq_true,Bool.or_eq_true];refine ⟨List.all_eq_true.2 fun x hx=>h x (List.mem_of_mem_drop hx),.inr ?_⟩;rw [List.all_cons,List.all_nil,Bool.and_true];exact h o (List.mem_of_getElem? ho)
theorem zzt {Γ:Env} {k:Nat} {cs:List Nat} {ops:List Oper} (hd:zw6 Γ k cs ops=true) {i j:Nat} {x y:Oper} (hij:i<j) (hkj:k≤j) (hx:ops[i]?=some x) (hy:ops[j]?=some y):Nat.testBit (nth 0 (zcr ops []) j) i=true∨zhu x.op=true∨zh4 y.op=true∨zlq Γ x=true∨zlq Γ y=true∨∃ a,lsOf x=some (0,a)∧a∈cs∧zqd a ops=true:=by
 unfold zw6 at hd;simp only [Bool.and_eq_true] at hd;rcases ze8 hd.2 i j _ _ hij (Nat.zero_le _) (by simpa using zl7 hx) (by simpa using zl7 hy) with q|q
 ·exact .inl q
 ·unfold z4c at q;rw [decide_eq_true hkj] at q;simp only [Bool.true_and,Bool.not_eq_false',Bool.or_eq_true] at q;rcases q with q|q|q|q|q
  ·exact .inr (.inl q)
  ·exact .inr (.inr (.inl q))
  ·exact .inr (.inr (.inr (.inl q)))
  ·exact .inr (.inr (.inr (.inr (.inl q))))
  ·exact .inr (.inr (.inr (.inr (.inr (z6u q)))))
theorem TW.drawC (hE:zcm P Γ) {id:Nat} {ops:Array Oper} {Q:Exit→(Nat→T)→TS→Prop} (k:Nat) (cs:List Nat) (outsP:List T) (own:List Nat) (outs:List (T×TS)) {h1:Nat→T} {ob1 ob2:Prop} (hd:zfl N ops.toList=true) (hoS:zw6 Γ k cs ops.toList=true)
    (hp:runP P Γ GL ops.toList (ops.toList.take k) h S outsP=some (ob1,h1)) (hob1:ob1) (hr:runT P Γ GL own ops.toList (ops.toList.drop k) h1 S outs=some (ob2,h',S')) (hob2:ob2) (hcs:yi5 h cs) (hq:Q .normal h' S'):TW P Γ GL N (.region id ops true) h S Q:=fun A β fr s hF hT=>by
  have hok:zi1 ops.toList.length ops.toList=true:=by
    unfold zw6 at hoS;simp only [Bool.and_eq_true] at hoS;exact hoS.1
  have hsplit:ops.toList=ops.toList.take k++ops.toList.drop k:=(List.take_append_drop k _).symm
  have hdd:zfl N (ops.toList.take k)=true∧zfl N (ops.toList.drop k)=true:=by
    unfold zfl at hd ⊢;rw [hsplit,List.all_append,Bool.and_eq_true] at hd;exact hd
  have I0:zok GL ops.toList A β S s N [] h fr s:=by
    refine ⟨hF.nt,hF.le,hT,fun t=>⟨0,(hF.slot t).mono (fun f hf=>.inl hf) (fun _ _=>rfl) (Bx.le_refl _),fun j o _ _ _ m hm=>by simp at hm⟩,fun k x hx=>by simp at hx,fun k m x y _ hx=>by simp at hx,fun f hf=>(hT.dis f hf).1,hT.alt,?_,hT.le⟩;exact ⟨Can.refl _,fun _ h=>h,fun _ h=>.inl h,fun _ _=>rfl,fun _ h=>.inl h,fun _ h=>h⟩
  obtain ⟨M1,fr1,s1,d1,I1,m1⟩:=z3n hE hok I0 (fun j o hj=>by
    rw [List.length_nil,Nat.zero_add];rw [List.getElem?_take] at hj;split at hj
    · exact hj
    · simp at hj) hdd.1 hp hob1
  rw [List.nil_append] at I1
  -- behind the first part all may lean on all
  let D:Nat:=2 ^ M1.length - 1
  have hDall:∀ m,m<M1.length→Nat.testBit D m=true:=fun m hm=>by
    show Nat.testBit (2 ^ M1.length - 1) m=true;rw [Nat.testBit_two_pow_sub_one];exact decide_eq_true hm
  have hT1:TRel GL (SupL A M1 D) β S s1:=by
    refine I1.rel.more _ (fun f hf=>.inl hf) (fun f hf=>?_) (fun f hf ho=>?_)
    · rcases hf with q|⟨m,x,_,q2,_,q4⟩
      · exact I1.rel.alt f q
      · have:=(I1.log m x q2).2.2.1;omega
    · rcases hf with q|⟨m,x,_,q2,q3,q4⟩
      · exact (I1.rel.dis f ho).2 q
      · have:=(I1.log m x q2).1;have:=I1.own f ho;omega
  have hF1:FrOk (SupL A M1 D) β (zag s1.obj) N h1 fr1:=⟨I1.nt,I1.le,fun t=>by
    obtain ⟨E,e1,_⟩:=I1.slot t
    exact e1.mono (fun f hf=>SupL.sub (fun m hm _=>hDall m hm) hf) (fun _ _=>rfl) (Bx.le_refl _)⟩
  have hS1:Stp A β s (SupL A M1 D) β s1:=by
    refine ⟨I1.calm.can,fun f hf=>.inl hf,fun f hf=>?_,fun f hf=>.inl hf,fun f hf _=>I1.calm.keep f hf,Bx.le_refl _,I1.calm.rd,fun x hx=>.inl (I1.calm.wr x hx)⟩;rcases hf with q|⟨m,x,_,q2,q3,_⟩
    · exact .inl q
    · have:=(I1.log m x q2).1;exact .inr (.inl (by omega))
  obtain ⟨M2,fr2,s2,d2,L2,W2⟩:=z1l hE hdd.2 hF1 hT1 hr hob2;have hdraw:=zjg d1 d2;rw [← hsplit] at hdraw;obtain ⟨f1,f2⟩:=zqy hdraw;have L2':=L2;obtain ⟨A2,β2,hF2,hT2,_⟩:=L2';refine W.draw hdraw ?_ ⟨h',S',Left.trans (h':=h) (fr':=fr) hT.le hS1 L2,hq⟩;refine zxd rfl (zmn fun i j x y hij _ hx hy=>?_);simp only [List.nil_append] at hx hy;have hjl:j<ops.toList.length:=by rw [← f1];exact (List.getElem?_eq_some_iff.1 hy).1
  have ho1:ops.toList[i]?=some (ops.toList[i]'(by omega)):=List.getElem?_eq_getElem _;have ho2:ops.toList[j]?=some (ops.toList[j]'hjl):=List.getElem?_eq_getElem _;by_cases hkj:k≤j
  · rcases zzt hoS hij hkj ho1 ho2 with q|q|q|q|q|⟨a1,q1,q2,q3⟩
    · exact .inl q
    · obtain ⟨a,b,c⟩:=(f2 i _ x ho1 hx).1 q;exact .inr (zg9 a b c)
    · obtain ⟨a,b⟩:=(f2 j _ y ho2 hy).2 q;exact .inr (zg8 a b)
    · obtain ⟨a,b,c⟩:=zlv hdraw i _ x ho1 hx q;exact .inr (zg9 a b c)
    · obtain ⟨a,b,c⟩:=zlv hdraw j _ y ho2 hy q;exact .inr (zg8 a b)
    · have z1:=zw4 hdraw (by rw [hF.nt];exact hF.le) (by rw [hF.nt];exact hd) i _ x 0 a1 ho1 hx q1 (z8e q3 ho1)
      have hyM:y∈M2:=by
        have hm1:M1.length≤j:=by rw [m1,List.length_take];omega
        rw [List.getElem?_append_right hm1] at hy;exact List.mem_of_getElem? hy
      have ga:=zw5 hdraw (by rw [hF.nt];exact hF.le) q3;obtain ⟨l,hl⟩:=zzx hcs q2;obtain ⟨rx,wx,lo,hi⟩:=x;obtain ⟨ry,wy,lo',hi'⟩:=y;simp only [ycv] at z1;rcases z1 with ⟨p1,p2,p3⟩|⟨ad1,p1,p2,p3,p4,p5,p6⟩
      · exact .inr (zg9 p1 p2 p3)
      · rw [ga] at p1;have fa:A ad1.block:=z2f (S:=S) (b:=none) hF hT (by rw [hl];trivial) p1;have e5:=p5 trivial;have e6:=p6 (by omega);refine .inr (zec (fun f hf=>by simp [e5] at hf) (fun f hf hw=>?_) (fun f _=>by omega) (fun f _=>by omega));rw [p2 f hf] at hw;rcases W2 _ hyM _ hw with r|r
        · exact (hT.dis _ r).2 fa
        · have:=hT.alt _ fa;have:=I1.calm.can.n;omega
  · have hjM:j<M1.length:=by rw [m1,List.length_take];omega
    rw [List.getElem?_append_left (by omega)] at hx;rw [List.getElem?_append_left hjM] at hy;by_cases hbit:Nat.testBit (nth 0 (zcr ops.toList []) j) i=true
    · exact .inl hbit
    · right;obtain ⟨x1,x2,x3,x4,x5⟩:=I1.log i x hx;obtain ⟨y1,y2,y3,y4,y5⟩:=I1.log j y hy;obtain ⟨rx,wx,lo,hi⟩:=x;obtain ⟨ry,wy,lo',hi'⟩:=y;simp only at x1 x2 x3 x4 x5 y1 y2 y3 y4 y5;subst x4;subst y4;refine zec (fun f hf=>by simp at hf) (fun f _=>by simp) (fun f hf=>?_) (fun f hf=>by simp at hf);obtain ⟨g1,g2⟩:=y5 f hf;rcases g2 with (g2|⟨m,z,g3,g4,g5,g6⟩)|g2
      · have:=I1.base f g2;omega
      · by_cases hmi:m=i
        · subst hmi;exact absurd g3 hbit
        · by_cases hlt:m<i
          · have:=I1.apart m i z _ hlt g4 hx;simp only at this;omega
          · have:=I1.apart i m _ z (by omega) hx g4;simp only at this;omega
      · have:=I1.own f g2;omega
end
end
end Go.Proofs.YtcgdomhednbdpaaDoor
