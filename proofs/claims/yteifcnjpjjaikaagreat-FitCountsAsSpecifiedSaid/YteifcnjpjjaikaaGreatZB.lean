/- Part 2 of the proof of FitCountsAsSpecified (several texts in one; no further condition). -/
import Derived.Test.YteifcnjpjjaikaaGreatZA
import Derived.OrdersIn
import Derived.TacticsIn
import Derived.Scope
import Derived.RangeFuncSeq
import Derived.LoopNIn
import Derived.RangeFuncRecord
set_option linter.unusedSimpArgs false
set_option linter.unusedVariables false
set_option linter.unusedSectionVars false
namespace Go.Proofs.YteifcnjpjjaikaaGreat
open Go.Proofs.YteifcnjpjjaikaaGreat.Addr renaming plus->pq,ver->ol
open _root_.Array renaming getD_eq_getD_getElem?->iu,getElem?_eq_getElem->iz,getElem?_eq_some_iff->mn,getElem?_modify->la,getElem?_replicate->lj,getElem?_toList->gq,length_toList->gn,replicate->oa,toList_inj->j0,toList_map->lw,toList_modify->m5
open _root_.Bool renaming and_eq_true->dr,or_eq_false_iff->jl,or_eq_true->jm
open Go.Builtin renaming append_->m9,firstCells->i5,len_->my,zeroCells->ko
open Go.Proofs.YteifcnjpjjaikaaGreat.CS renaming firstCells->gz,readMapO->pz
open Go.Proofs.YteifcnjpjjaikaaGreat.Can renaming refl->f5
open _root_.Classical renaming byContradiction->lc
open Go.Proofs.YteifcnjpjjaikaaGreat.Did renaming same->pe
open Go.Proofs.YteifcnjpjjaikaaGreat.DidV renaming same->mw
open Go.Exit renaming normal->kh
open Go.Proofs.YteifcnjpjjaikaaGreat.Ext renaming refl->m8
open Go.Fence renaming wide->li
open Go.Proofs.YteifcnjpjjaikaaGreat.Fr renaming ofArgs->mi
open Go.Instr renaming checkKey->mo,findAsking->nq,findKey->jv,findNow->jb,keyThatStays->ma,lookup->ku,mapUpdate->md,sameBits->lu,sameNow->n4
open _root_.List renaming all_eq_true->ez,any_eq_false->nj,countP_cons->nu,eq_nil_of_length_eq_zero->gv,flatten_cons->fm,getElem?_append_left->eu,getElem?_append_right->fq,getElem?_cons_succ->ji,getElem?_cons_zero->fl,getElem?_eq_getElem->dv,getElem?_eq_none->ic,getElem?_eq_some_iff->d9,isEmpty_iff->nr,length_append->er,mem_cons->ib,mem_of_getElem?->gi,replicate->ew,replicate_succ->gu
open Go renaming MapEntry->i9,Operand->d8,Program->ep,TypeDesc->je,TypeId->ed,execOp->jo,run_underlying->ee
open _root_.Nat renaming add_mul->ig,add_zero->gm,beq->d7,ble->fg,blt->fb,eq_of_beq_eq_true->dx,le_refl->dz,le_trans->i8,lt_of_lt_of_le->ei,lt_trichotomy->nl,testBit->ft,zero_add->fz,zero_le->fw
open Go.Op renaming operands->eg
open _root_.Option.some renaming injEq->dp
open _root_.Prod.mk renaming injEq->du
open Go.Region renaming binds->jp
open Go.Result renaming andThen_ok->js
open Go.Sem renaming run_bind->ks
open _root_.UInt8 renaming ofNat->py
open Go.Proofs.YteifcnjpjjaikaaGreat.VR renaming mk->n6,ofBool->pr,ofInt->m7,undef->om
open Go.World renaming freeze->ni,shape?->ox
open Go Go.RowKit
section
variable {P:ep} {Γ:Env} {σ:Sg} {V:Nat->Prop} {s s':CS} {w:World} {v:Value}
theorem zf3 {s s':CS} {a:Addr} {tag:Nat} {cs:List Value} (ht:tag<1024) (h:s.newRow tag cs=some (a,s')):Can s s':=by
  obtain ⟨h1,_,h2⟩:=zu1 h;exact zrp h1 (by intro p hp;simp at hp;subst hp;simp;omega) h2
theorem RL.ints {σ:Sg} (b:ByteArray):RL (VR σ) (zix b) (zix b):=RL.of rfl fun i x y hx hy=>by
  rw [hx] at hy;cases hy;unfold zix at hx;rw [List.getElem?_map] at hx
  cases h:b.data.toList[i]? with
  |none=>rw [h] at hx;simp at hx
  |some c=>rw [h] at hx;simp at hx;rw [<- hx];exact m7 _ _
theorem zgt {s1:CS} {size n:Nat} {y y':Value} {new:List Value} (hr:Rel σ V s w) (h:s.firstCells size n y=some (new,s1)) (hV:zbi V s1) (hn:∃ m,lenC y=some m/\n<=m) (hy:VR σ y y') :
    ∃ new',(∀ w0:World,w0.heap=w.heap->(i5 size n y').run P w0=.ok new'.toArray w0)/\RL (VR σ) new new'/\new'.length=n*size/\Can s s1/\Rel σ V s1 w/\Ext σ V s w σ s1 w:=by
  obtain ⟨m,hm,hnm⟩:=hn;unfold gz at h
  cases y with
  |slice x n0 c =>
    simp only [lenC,dp] at hm;subst hm;simp only at h
    cases hb:d7 (n*size) 0 with
    |true =>
      rw [hb] at h;simp only [cond_true,dp,du] at h;obtain ⟨rfl,rfl⟩:=h;have h0:n*size=0:=dx hb;refine ⟨[],fun w0 _=>?_,trivial,h0.symm,f5 _,hr,m8 _ _ _ _⟩
      cases x with
      |none=>obtain ⟨_,_,rfl⟩:=hy.out;simp [i5]
      |some a=>obtain ⟨_,_,_,_,_,_,rfl,_⟩:=hy.out;simp [i5,h0,loadCells,loadCellsFrom]
    |false =>
      rw [hb] at h;simp only [cond_false] at h
      cases x with
      |none=>simp at h
      |some a =>
        simp only at h
        cases hq:s.readRow a with
        |none=>rw [hq] at h;simp at h
        |some p =>
          obtain ⟨cs,s2⟩:=p;rw [hq] at h;simp only at h
          cases hc:cut cs a.off (n*size) with
          |none=>rw [hc] at h;simp at h
          |some l =>
            rw [hc] at h;simp only [dp,du] at h;obtain ⟨rfl,rfl⟩:=h;obtain ⟨b,o,z,hσ,a',c',rfl,h3,h4,h5,h6,_⟩:=hy.out;have hrow:=z73 hq hr hV hσ;obtain ⟨l',e1,e2,e3⟩:=hrow.part hc
            have hne:c'≠0:=by
              rintro rfl;have:n=0:=by omega
              subst this;simp at hb
            have:=h6 hne;subst this;refine ⟨l',fun w0 hw0=>?_,e3,e1,z0b hq,z0a hq hr,z74 hq⟩
            have:=run_loadCells_list (P:=P) w0 ⟨b,o+a.off,none⟩ l' (fun j v hj=>by
              rw [Addr.add_lit];have:=e2 j v hj;unfold World.cell? at this ⊢
              rw [hw0];exact this)
            rw [e1] at this
            simp [i5,this]
  |string b =>
    simp only [lenC,dp] at hm;subst hm;simp only at h
    cases hb:(d7 size 1 && fg n b.size) with
    |false=>rw [hb] at h;simp at h
    |true =>
      rw [hb] at h;simp only [cond_true,dp,du] at h;obtain ⟨rfl,rfl⟩:=h;rw [dr] at hb;have h1:size=1:=dx hb.1;subst h1;obtain rfl:=hy.str;refine ⟨zix (b.extract 0 n),fun w0 _=>?_,RL.ints _,?_,f5 _,hr,m8 _ _ _ _⟩
      . simp only [i5,Sem.run_pure];congr 1;unfold zix;apply j0.1;simp
      . unfold zix;rw [List.length_map,gn];show (b.extract 0 n).size=n*1;rw [ByteArray.size_extract];omega
  |_=>simp at h
theorem zel {s1:CS} {size n:Nat} {y:Value} {new:List Value} (h:s.firstCells size n y=some (new,s1)):Can s s1/\(Rel σ V s w->Rel σ V s1 w)/\s1.n=s.n/\s1.obj=s.obj:=by
  unfold gz at h;split at h
  . rename_i x n0 c
    cases hb:d7 (n*size) 0 with
    |true =>
      rw [hb] at h;simp only [cond_true,dp,du] at h;obtain ⟨rfl,rfl⟩:=h;exact ⟨f5 _,fun k=>k,rfl,rfl⟩
    |false =>
      rw [hb] at h;simp only [cond_false] at h
      cases x with
      |none=>simp at h
      |some a =>
        simp only at h
        cases hq:s.readRow a with
        |none=>rw [hq] at h;simp at h
        |some p =>
          obtain ⟨cs,s2⟩:=p;rw [hq] at h;simp only at h
          cases hc:cut cs a.off (n*size) with
          |none=>rw [hc] at h;simp at h
          |some l =>
            rw [hc] at h;simp only [dp,du] at h;obtain ⟨rfl,rfl⟩:=h;refine ⟨z0b hq,fun k=>z0a hq k,?_,?_⟩<;>rw [(zg6 hq).2]
  . rename_i b
    cases hb:(d7 size 1 && fg n b.size) with
    |false=>rw [hb] at h;simp at h
    |true =>
      rw [hb] at h;simp only [cond_true,dp,du] at h;obtain ⟨rfl,rfl⟩:=h;exact ⟨f5 _,fun k=>k,rfl,rfl⟩
  . simp at h
theorem z8n {y y':Value} {n:Nat} (h:lenC y=some n) (hy:VR σ y y'):∀ w0:World,(Builtin.lenOf y').run P w0=.ok n w0:=by
  intro w0;unfold lenC at h;split at h
  . rename_i x m c;simp only [dp] at h;subst h
    cases x with
    |none=>obtain ⟨rfl,_,rfl⟩:=hy.out;rfl
    |some a=>obtain ⟨_,_,_,_,_,_,rfl,_⟩:=hy.out;rfl
  . simp only [dp] at h;subst h;obtain rfl:=hy.str;rfl
  . simp at h
theorem ycz (hE:zcv P Γ) {t:ed} (h:srcT Γ t=true):(∃ e',P.underlying t=some (.slice e'))\/P.underlying t=some .string:=by
  unfold srcT at h
  cases hi:Γ.ti.at t with
  |none=>rw [hi] at h;simp at h
  |some i =>
    rw [hi] at h;have hu:=(hE.ti _ _ hi).und;simp only at h;split at h
    . rename_i e hd;rw [hd] at hu;exact .inl ⟨e,hu⟩
    . rename_i hd;rw [hd] at hu;exact .inr hu
    . simp at h
theorem zmx {t tx ty e:ed} {i:TypeInfo} (ht:P.underlying t=some (.slice e)) (hi:P.info? e=some i) {base:Option Addr} {len cap:Nat} {x:Value} (hs:Src P i.size tx x 0 [] w) (hc:len<=cap) :
    (m9 #[t,tx] ty #[.slice base len cap,x]).run P w=.ok (.slice base len cap) w:=by
  have h1:(i5 i.size 0 x).run P w=.ok #[] w:=hs.cells
  cases base with
  |none=>rcases hs.kind with ⟨e',hk⟩|hk<;>simp [m9,ee ht,ee hk,sizeOf,typeInfo,hi,hs.len,hc,h1]
  |some a=>rcases hs.kind with ⟨e',hk⟩|hk<;>simp [m9,ee ht,ee hk,sizeOf,typeInfo,hi,hs.len,hc,h1,storeCells]
theorem z6d {z:Array Value} {n m:Nat} (hz:z.size=m):(ko z n).size=n*m:=by simp [ko,hz]
theorem zul {t tx ty e:ed} {ie:TypeInfo} {z:Value} (hu:P.underlying t=some (.slice e)) (g1:P.info? e=some ie) (g4:ie.zero=some z) (hzs:z.cells.size=ie.size) (hsz:0<ie.size)
    {base:Option Addr} {len cap n:Nat} {olds news:List Value} {y':Value} (hold:(i5 ie.size len (.slice base len cap)).run P w.drew=.ok olds.toArray w.drew) (hs:Src P ie.size tx y' n news w) (hol:olds.length=len*ie.size)
    (hg:cap<len+n) (h5:len+n<=1000000000) (h6:(len+n)*ie.bytes<=1000000000) :
    ∃ (C:Array Value) (more:List Value) (newCap:Nat),(m9 #[t,tx] ty #[.slice base len cap,y']).run P w=.ok (.slice (some ⟨w.heap.size,0,none⟩) (len+n) newCap) (w.drew.alloc (.cells C e)) /\
      C.toList=(olds++news)++more/\C.size=newCap*ie.size/\len+n<=newCap/\newCap<=maxLen:=by
  have hr:=run_append_grow_src (P:=P) w t tx ty e ie z hu g1 g4 base len cap olds hold y' n news hs hg (by omega) (growslice_fits hg (by omega));have h1:=grownCap_ge w (len+n) cap e;have h2:=grownCap_le_maxLen w (len+n) cap e (by unfold maxLen;omega);refine ⟨_,_,_,hr,by rw [Array.toList_append],?_,h1,h2⟩;rw [Array.size_append,z6d hzs];simp only [List.size_toArray,er,hol,hs.newsLen];rw [<- ig,<- ig];congr 1;omega
set_option maxHeartbeats 1000000 in
theorem ybt (hE:zcv P Γ) (hr:Rel σ V s w) (hV:zbi V s') (hF:zd1 σ s.n s'.n) {t tx ty:ed} {x x' y y':Value} (h:zc3 Γ s t y x=some (v,s')) (htx:srcT Γ tx=true) (hx:VR σ x x') (hy:VR σ y y') :
    DidV σ V s w ((m9 #[t,tx] ty #[x',y']).run P w) v s':=by
  unfold zc3 at h;split at h
  . rename_i base len cap
    cases hi:zc0 Γ t with
    |none=>rw [hi] at h;simp at h
    |some j =>
      rw [hi] at h;simp only at h;obtain ⟨e,hu,hti⟩:=znd hE hi;obtain ⟨ie,z,g1,g2,g3,g4,g5,g6⟩:=hti.info;have hzs:z.cells.size=j.size:=by rw [<- gn,g5];exact hti.len
      unfold CS.append at h
      cases hn:lenC y with
      |none=>rw [hn] at h;simp at h
      |some n =>
        rw [hn] at h;simp only at h
        cases hq:s.firstCells j.size n y with
        |none=>rw [hq] at h;simp at h
        |some p =>
          obtain ⟨new,s1⟩:=p;rw [hq] at h;simp only at h
          cases hb:(fb 1000000000 ((len+n)*(j.bytes+1)) || d7 j.size 0 || fg 1000 j.size || !(new.all oneC)) with
          |true=>rw [hb] at h;simp at h
          |false =>
            rw [hb] at h;simp only [cond_false] at h;simp only [jl] at hb;obtain ⟨⟨⟨hb1,hb2⟩,hb3⟩,hb4⟩:=hb
            have q1:(len+n)*(j.bytes+1)<=1000000000:=by
              by_cases hh:(len+n)*(j.bytes+1)<=1000000000
              . exact hh
              . rw [zac.2 (by omega)] at hb1;simp at hb1
            have q2:j.size≠0:=by rintro h0;rw [h0] at hb2;simp at hb2
            have q3:j.size<1000:=by
              by_cases hh:j.size<1000
              . exact hh
              . rw [zax.2 (by omega)] at hb3;simp at hb3
            have q4:new.all oneC=true:=by simpa using hb4
            have q5:len+n<=1000000000:=i8 (Nat.le_mul_of_pos_right _ (by omega)) q1;have q6:(len+n)*j.bytes<=1000000000:=i8 (Nat.mul_le_mul_left _ (by omega)) q1;obtain ⟨c1,k1,n1,o1⟩:=zel (σ:=σ) (V:=V) (w:=w) hq;have hr1:=k1 hr
            -- what is appended, once the plain machine's later steps are known to keep the log
            have hsrc:Can s1 s'->∃ new',Src P ie.size tx y' n new' w/\RL (VR σ) new new'/\new'.length=n*j.size/\Ext σ V s w σ s1 w:=by
              intro hc;obtain ⟨new',e1,e2,e3,_,_,e4⟩:=zgt (P:=P) hr hq (hV.back hc) ⟨n,hn,dz _⟩ hy;refine ⟨new',⟨ycz hE htx,z8n hn hy,?_,?_,?_,e2.one q4⟩,e2,e3,e4⟩
              . rw [g2];exact e1 w rfl
              . rw [g2];exact e1 w.drew rfl
              . rw [g2];exact e3
            have q6':(len+n)*ie.bytes<=1000000000:=by rw [g3];exact q6
            have htag:∀ m,(m*1024+(j.size+1)) % 1024=j.size+1:=fun m=>by omega
            cases base with
            |none =>
              simp only at h;obtain ⟨rfl,rfl,rfl⟩:=hx.out
              cases hn0:d7 n 0 with
              |true =>
                rw [hn0] at h;simp only [cond_true,dp,du] at h;obtain ⟨rfl,rfl⟩:=h;have h0:n=0:=dx hn0;subst h0;obtain ⟨new',hs,_,e3,e4⟩:=hsrc (f5 _);have:new'=[]:=gv (by simpa using e3);subst this;exact ⟨σ,w,_,zmx hu g1 hs (dz _),hx,hr1,e4⟩
              |false =>
                rw [hn0] at h;simp only [cond_false,fz] at h
                have hn1:0<n:=by
                  rcases Nat.eq_zero_or_pos n with h0|h0
                  . rw [h0] at hn0;simp at hn0
                  . exact h0
                obtain ⟨a,h1,rfl⟩:=zhw h;have c2:Can s1 s':=zf3 (by omega) h1;obtain ⟨new',hs,e2,e3,e4⟩:=hsrc c2;obtain ⟨C,more,newCap,r1,r2,r3,r4,r5⟩:=zul (P:=P) (w:=w) (ty:=ty) hu g1 g4 (by rw [hzs,g2]) (by omega) (base:=none) (len:=0) (cap:=0) (olds:=[]) (by simp [i5]) hs (by simp) (by omega) (by omega) (by simpa using q6');simp only [fz,List.nil_append] at r1 r2 r4;obtain ⟨rfl,_,m1,m2,m3⟩:=zji (w0:=w.drew) h1 hr1 (hF.mono (by omega) (dz _)) (by omega) ⟨rfl,rfl,rfl,rfl⟩ C e (0,0) (by intro j _;simp) new' more r2 e2;refine ⟨_,_,_,r1,?_,m1,e4.trans m2 c1 c2 hF hr.none⟩;refine n6 ⟨_,_,_,m3,_,newCap,rfl,dz _,r4,r5,fun _=>rfl,fun h0=>?_,fun _ _=>?_⟩
                . exfalso;have:(s1.n*1024+(j.size+1)) % 1024=0:=h0;omega
                . show 0+0+newCap*((s1.n*1024+(j.size+1)) % 1024 - 1)<=C.size;rw [htag,r3,g2]
                  simp
            |some a =>
              simp only at h;obtain ⟨b,o,zz,hσ,a',c',rfl,v1,v2,v3,v4,v5,v6⟩:=hx.out
              cases hroom:fg (len+n) cap with
              |true =>
                rw [hroom] at h;simp only [cond_true] at h;have hle:=zax.1 hroom
                cases hn0:d7 n 0 with
                |true =>
                  rw [hn0] at h;simp only [cond_true,dp,du] at h;obtain ⟨rfl,rfl⟩:=h;have h0:n=0:=dx hn0;subst h0;obtain ⟨new',hs,_,e3,e4⟩:=hsrc (f5 _);have:new'=[]:=gv (by simpa using e3);subst this;exact ⟨σ,w,_,zmx hu g1 hs (by omega),hx,hr1,e4⟩
                |false =>
                  rw [hn0] at h;simp only [cond_false] at h
                  have hn1:0<n:=by
                    rcases Nat.eq_zero_or_pos n with h0|h0
                    . rw [h0] at hn0;simp at hn0
                    . exact h0
                  cases hw:s1.write (pq a (len*j.size)) new with
                  |none=>rw [hw] at h;simp at h
                  |some s2 =>
                    rw [hw] at h;simp only [dp,du] at h;obtain ⟨rfl,rfl⟩:=h;have c2:Can s1 s2:=z1n hr1 hw;obtain ⟨new',hs,e2,e3,e4⟩:=hsrc c2;have:=v4 (by omega);subst this;obtain ⟨w1,w2,w3,w4,w5⟩:=zmo hw hr1 hV (a:=pq a (len*j.size)) hσ e2;have hoff:o+(pq a (len*j.size)).off=o+a.off+len*ie.size:=by rw [g2];show o+(a.off+len*j.size)=_;omega
                    rw [hoff] at w1 w2 w4 w5;have hrun:=run_append_room_src (P:=P) w t tx ty e ie hu g1 b (o+a.off) len c' y' n new' hs (by omega) w1 w2;refine ⟨σ,_,_,hrun,?_,w4,e4.trans w5 c1 c2 hF hr.none⟩;exact n6 ⟨b,o,zz,hσ,_,c',rfl,hle,v2,v3,fun _=>rfl,v5,v6⟩
              |false =>
                rw [hroom] at h;simp only [cond_false] at h
                have hgt:cap<len+n:=by
                  by_cases hh:len+n<=cap
                  . rw [zax.2 hh] at hroom;simp at hroom
                  . omega
                -- the old cells
                cases hold:(bif d7 len 0 then some ([],s1) else s1.firstCells j.size len (.slice (some a) len cap)) with
                |none=>rw [hold] at h;simp at h
                |some p =>
                  obtain ⟨old,s2⟩:=p;rw [hold] at h;simp only at h
                  have keep2:Can s1 s2/\Rel σ V s2 w/\s2.n=s1.n/\s2.obj=s1.obj:=by
                    cases hl0:d7 len 0 with
                    |true =>
                      rw [hl0] at hold;simp only [cond_true,dp,du] at hold;obtain ⟨_,rfl⟩:=hold;exact ⟨f5 _,hr1,rfl,rfl⟩
                    |false =>
                      rw [hl0] at hold;simp only [cond_false] at hold;obtain ⟨x1,x2,x3,x4⟩:=zel (σ:=σ) (V:=V) (w:=w) hold;exact ⟨x1,x2 hr1,x3,x4⟩
                  obtain ⟨c2,hr2,n2,o2⟩:=keep2
                  have holds:zbi V s2->∃ old',(∀ w0:World,w0.heap=w.heap->(i5 ie.size len (.slice (some a') len c')).run P w0=.ok old'.toArray w0)/\RL (VR σ) old old'/\old'.length=len*ie.size/\Ext σ V s1 w σ s2 w:=by
                    intro hV2
                    cases hl0:d7 len 0 with
                    |true =>
                      rw [hl0] at hold;simp only [cond_true,dp,du] at hold;obtain ⟨rfl,rfl⟩:=hold;have:len=0:=dx hl0;subst this;exact ⟨[],fun w0 _=>by simp [i5,loadCells,loadCellsFrom],trivial,by simp,m8 _ _ _ _⟩
                    |false =>
                      rw [hl0] at hold;simp only [cond_false] at hold;obtain ⟨old',e1,e2,e3,_,_,e4⟩:=zgt (P:=P) hr1 hold hV2 ⟨len,rfl,dz _⟩ hx;exact ⟨old',fun w0 hw0=>by rw [g2];exact e1 w0 hw0,e2,by rw [g2];exact e3,e4⟩
                  have hF2:zd1 σ s2.n s'.n:=hF.mono (by omega) (dz _)
                  cases ht0:d7 (ol a % 1024) 0 with
                  |true =>
                    rw [ht0] at h;simp only [cond_true] at h;have htg:ol a % 1024=0:=dx ht0;obtain ⟨a2,h1,rfl⟩:=zhw h;have c3:Can s2 s':=zf3 (by omega) h1;obtain ⟨new',hs,e2,e3,e4⟩:=hsrc (c2.trans c3);obtain ⟨old',f1,f2,f3,f4⟩:=holds (hV.back c3);obtain ⟨C,more,newCap,r1,r2,r3,r4,r5⟩:=zul (P:=P) (w:=w) (ty:=ty) hu g1 g4 (by rw [hzs,g2]) (by omega) (f1 w.drew rfl) hs f3 (by rw [v5 htg];omega) q5 q6';obtain ⟨rfl,_,m1,m2,m3⟩:=zji (w0:=w.drew) h1 hr2 hF2 (by omega) ⟨rfl,rfl,rfl,rfl⟩ C e (0,0) (by intro j _;simp) _ more r2 (f2.append e2);refine ⟨_,_,_,r1,?_,m1,(e4.trans f4 c1 c2 (hF.mono (dz _) (by have:=c3.n;omega)) hr.none).trans m2 (c1.trans c2) c3 hF hr.none⟩;refine n6 ⟨_,_,_,m3,_,newCap,rfl,dz _,r4,r5,fun _=>rfl,fun h0=>?_,fun _ _=>?_⟩
                    . exfalso;have:(s2.n*1024+(j.size+1)) % 1024=0:=h0;omega
                    . show 0+0+newCap*((s2.n*1024+(j.size+1)) % 1024 - 1)<=C.size;rw [htag,r3,g2]
                      simp
                  |false =>
                    rw [ht0] at h;simp only [cond_false] at h
                    cases ht1:d7 (ol a % 1024) (j.size+1) with
                    |false=>rw [ht1] at h;simp at h
                    |true =>
                      rw [ht1] at h;simp only [cond_true] at h;have htg:ol a % 1024=j.size+1:=dx ht1;have c3:Can s2 s':=yi6 hr2 (by omega) h;obtain ⟨new',hs,e2,e3,e4⟩:=hsrc (c2.trans c3);obtain ⟨old',f1,f2,f3,f4⟩:=holds (hV.back c3);obtain ⟨cs,x1,x2,x3,x4,x5⟩:=zm9 h;have hext:=e4.trans f4 c1 c2 (hF.mono (dz _) (by have:=c3.n;omega)) hr.none;by_cases hin:len+n<=c'
                      . -- in place
                        have:=v4 (by omega);subst this;have hb6:=v6 (by omega) (by omega);rw [htg] at hb6;simp only [Nat.add_sub_cancel] at hb6;have hmul:(len+n)*j.size<=c'*j.size:=Nat.mul_le_mul_right _ hin;rw [ig] at hmul;have hnl:new.length=n*j.size:=by rw [e2.length];exact e3
                        have holdd:old=cs.drop a.off:=by
                          have hdl:(cs.drop a.off).length=len*j.size:=by rw [List.length_drop];omega
                          cases hl0:d7 len 0 with
                          |true =>
                            rw [hl0] at hold;simp only [cond_true,dp,du] at hold;have:len=0:=dx hl0;subst this;rw [<- hold.1];exact (gv (by simpa using hdl)).symm
                          |false =>
                            rw [hl0] at hold;simp only [cond_false] at hold;unfold gz at hold;simp only at hold
                            cases hz0:d7 (len*j.size) 0 with
                            |true =>
                              exfalso;have h0:=dx hz0;rcases Nat.mul_eq_zero.1 h0 with h0|h0
                              . rw [h0] at hl0;simp at hl0
                              . exact q2 h0
                            |false =>
                              rw [hz0] at hold;simp only [cond_false] at hold
                              cases hq2:s1.readRow a with
                              |none=>rw [hq2] at hold;simp at hold
                              |some p2 =>
                                obtain ⟨cs2,s3⟩:=p2;rw [hq2] at hold;simp only at hold;have hrow2:=(zg6 hq2).1;rw [o2] at x2;rw [x2] at hrow2;cases hrow2
                                cases hcut:cut cs a.off (len*j.size) with
                                |none=>rw [hcut] at hold;simp at hold
                                |some l =>
                                  rw [hcut] at hold;simp only [dp,du] at hold;rw [<- hold.1];unfold cut at hcut;dsimp only at hcut;rw [List.take_of_length_le (by omega)] at hcut
                                  cases hbq:d7 (cs.drop a.off).length (len*j.size) with
                                  |false=>rw [hbq] at hcut;simp at hcut
                                  |true=>rw [hbq] at hcut;simp only [cond_true,dp] at hcut;exact hcut.symm
                        rw [x3] at h;obtain ⟨y1,y2,y3,y4,y5,y6,y7⟩:=yn1 h hr2 hV hF2 (by omega) hσ x2 holdd (by omega) e2 q4 (by omega);have hrun:=run_append_room_src (P:=P) w t tx ty e ie hu g1 b (o+a.off) len c' y' n new' hs hin (by rw [g2,show o+a.off+len*j.size=o+cs.length by omega];exact y2) (by rw [g2,show o+a.off+len*j.size=o+cs.length by omega];exact y3);rw [g2,show o+a.off+len*j.size=o+cs.length by omega] at hrun;subst y1;refine ⟨_,_,_,hrun,?_,y5,hext.trans y6 (c1.trans c2) c3 hF hr.none⟩;refine n6 ⟨b,o+a.off,zz,y7,_,c',rfl,dz _,hin,v3,fun _=>rfl,fun h0=>?_,fun _ _=>?_⟩
                        . exfalso;have:(s2.n*1024+(j.size+1)) % 1024=0:=h0;omega
                        . show o+a.off+0+c'*((s2.n*1024+(j.size+1)) % 1024 - 1)<=zz;rw [htag];simp only [Nat.add_sub_cancel];omega
                      . obtain ⟨C,more,newCap,r1,r2,r3,r4,r5⟩:=zul (P:=P) (w:=w) (ty:=ty) hu g1 g4 (by rw [hzs,g2]) (by omega) (f1 w.drew rfl) hs f3 (by omega) q5 q6';obtain ⟨rfl,m1,m2,m3⟩:=yi5 (w0:=w.drew) h hr2 hV hF2 (by omega) ⟨rfl,rfl,rfl,rfl⟩ C e _ more r2 (f2.append e2);refine ⟨_,_,_,r1,?_,m1,hext.trans m2 (c1.trans c2) c3 hF hr.none⟩;refine n6 ⟨_,_,_,m3,_,newCap,rfl,dz _,r4,r5,fun _=>rfl,fun h0=>?_,fun _ _=>?_⟩
                        . exfalso;have:(s2.n*1024+(j.size+1)) % 1024=0:=h0;omega
                        . show 0+0+newCap*((s2.n*1024+(j.size+1)) % 1024 - 1)<=C.size;rw [htag,r3,g2];simp
  . simp at h
end
section
variable {P:ep} {Γ:Env} {σ:Sg} {V:Nat->Prop} {s s':CS} {w:World} {v:Value}
theorem z0m (hE:zcv P Γ) {e:ed} (h:isU8 Γ e=true):P.underlying e=some (.int .u8):=by
  unfold isU8 at h
  cases hi:Γ.ti.at e with
  |none=>rw [hi] at h;simp at h
  |some i =>
    rw [hi] at h;simp only at h;have hu:=(hE.ti _ _ hi).und;split at h
    . rename_i hd;rw [hd] at hu;exact hu
    . simp at h
theorem z4y:∀ {l l':List Value} {r:List UInt8},z1f l=some r->RL (VR σ) l l'->∃ ns:List Int,l'=ns.map (Value.int .u8)/\r=ns.map fun n=>py n.toNat
  |[],[],r,h,_=>by simp only [z1f,dp] at h;exact ⟨[],rfl,h.symm⟩
  |x :: l,y :: m,r,h,⟨a,b⟩=>by
    unfold z1f at h;split at h
    . rename_i hq;simp at hq
    . rename_i k l2 heq;simp only [List.cons.injEq] at heq;obtain ⟨rfl,rfl⟩:=heq
      cases hl:z1f l with
      |none=>rw [hl] at h;simp at h
      |some r2 =>
        rw [hl] at h;simp only [dp] at h;obtain ⟨ns,e1,e2⟩:=z4y hl b;refine ⟨k :: ns,?_,?_⟩
        . rw [VR.int a,e1];rfl
        . rw [<- h,e2];rfl
    . simp at h
  |[],_ :: _,_,_,h=>h.elim
  |_ :: _,[],_,_,h=>h.elim
theorem zik {b n k:Nat} (h:k≠b):(w.freeze ⟨b,n,none⟩ 1).heap[k]?=w.heap[k]?:=by
  unfold ni;rw [zAd (by decide)];simp only [la];rw [zAd (Ne.symm h)]
theorem zvt {b n:Nat}:(w.freeze ⟨b,n,none⟩ 1).heap.size=w.heap.size:=by
  unfold ni;rw [zAd (by decide)];simp
theorem zvv {b n:Nat}:(w.freeze ⟨b,n,none⟩ 1).heap[b]?=(w.heap[b]?).map fun
    |.cells c elem (lo,hi)=>.cells c elem (if lo == hi then (n,n+1) else (min lo n,max hi (n+1)))
    |o=>o:=by
  unfold ni;rw [zAd (by decide)];simp only [la,if_true];rfl
theorem zvu {b n:Nat} (x:Addr):(w.freeze ⟨b,n,none⟩ 1).cell? x=w.cell? x:=by
  unfold World.cell?;by_cases h:x.block=b
  . rw [h,zvv]
    cases w.heap[b]? with
    |none=>rfl
    |some x=>cases x<;>rfl
  . rw [zik h]
theorem yis {ro:Bool} {b b' o z:Nat} {cs:List Value} {el:ed} {n:Nat} (hsh:w.shape? b=some (el,n)) (h:zs3 σ w ro b' o z cs):zs3 σ (w.freeze ⟨b,n,none⟩ 1) ro b' o z cs:=by
  by_cases hb:b'=b
  . subst hb;refine ⟨h.1,fun j hj=>by rw [zvu];exact h.2.1 j hj,fun hr=>⟨fun j hj=>?_,fun c e lo hi k=>?_⟩,fun j u hj=>?_⟩
    case refine_2 =>
      have hup:=(h.2.2.1 hr).2;unfold ox at hsh;rw [zvv] at k
      cases hx:w.heap[b']? with
      |none=>rw [hx] at k;simp at k
      |some x =>
        rw [hx] at k hsh
        cases x with
        |cells c2 e2 fr =>
          obtain ⟨lo2,hi2⟩:=fr;have h1:=hup c2 e2 lo2 hi2 hx;simp only [Option.map_some,dp,Obj.cells.injEq] at k;obtain ⟨_,_,k⟩:=k;split at k
          . cases k;omega
          . cases k;omega
        |_=>simp at k
    . have hc:=h.2.1 j hj;have hf:=(h.2.2.1 hr).1;have hup:=(h.2.2.1 hr).2;unfold ox at hsh;unfold World.frozen?;rw [zvv]
      cases hx:w.heap[b']? with
      |none=>rw [hx] at hsh;simp at hsh
      |some x =>
        rw [hx] at hsh
        cases x with
        |cells c e2 fr =>
          obtain ⟨lo,hi⟩:=fr;simp only [dp,du] at hsh
          have hz:∀ i,i<z->i<c.size:=by
            intro i hi2;have:=h.2.1 i hi2;unfold World.cell? at this;rw [hx] at this;simp only [Option.isSome_none,Bool.false_eq_true,if_false] at this;exact (mn.1 (Option.eq_some_iff_get_eq.2 ⟨this,rfl⟩)).1
          have hj1:=hz j hj;have hup1:=hup c e2 lo hi hx
          have hnf:∀ i,i<z->¬ (lo<=i/\i<hi):=by
            intro i hi2;have:=hf i hi2;unfold World.frozen? at this;rw [hx] at this;simpa using this
          simp only [Option.map_some];by_cases hlh:lo=hi
          . rw [zAc (by simpa using hlh)];simp only [Bool.and_eq_false_iff,decide_eq_false_iff_not];omega
          . rw [zAd (by simpa using hlh)];simp only [Bool.and_eq_false_iff,decide_eq_false_iff_not];have h1:=hnf j hj;by_cases hlo:lo<z
            . have h2:=hnf lo hlo;by_cases h3:j<lo
              . left;omega
              . right;have:hi<=lo:=by omega
                omega
            . left;omega
        |_=>simp at hsh
    . obtain ⟨u',k1,k2⟩:=h.2.2.2 j u hj;exact ⟨u',by rw [zvu];exact k1,k2⟩
  . exact h.keep (zik hb)
theorem yit {f:Nat} {x:Fam} {b:Nat} {el:ed} {n:Nat} (hsh:w.shape? b=some (el,n)) (h:zhc σ w f x):zhc σ (w.freeze ⟨b,n,none⟩ 1) f x:=by
  refine ⟨fun p hp b' o z hs=>yis hsh (h.rows p hp b' o z hs),h.desc,fun es he b' o z hs=>?_,fun L hL=>?_⟩;rotate_left
  . obtain ⟨b',rec,h1,h2,h3⟩:=h.lp L hL;refine ⟨b',rec,h1,?_,h3⟩;by_cases hb:b'=b
    . subst hb;unfold ox at hsh;rw [h2] at hsh;simp at hsh
    . rw [zik hb];exact h2
  obtain ⟨ents,clock,h1,h2⟩:=h.es es he b' o z hs;refine ⟨ents,clock,?_,h2⟩;by_cases hb:b'=b
  . subst hb;unfold ox at hsh;rw [h1] at hsh;simp at hsh
  . rw [zik hb];exact h1
theorem yiu {src:ed} {e:ed} (u1:P.underlying src=some (.slice e)) (he:P.underlying e=some (.int .u8)) (hr:Rel σ V s w) (hV:zbi V s') {a:Addr} {n c:Nat} (hn:0<n) (h:s.write a []=some s') {x:Value} (vx:VR σ (.slice (some a) n c) x):DidV σ V s w ((convert src src x).run P w) (.slice (some a) n c) s':=by
  obtain ⟨b,o,z,hσ,a',c',rfl,hnc,hcc,_,ha,_⟩:=vx.out;have hw:=zmo (vs':=[]) h hr hV hσ trivial;obtain ⟨_,_,_,hr',he'⟩:=hw;have hset:w.setCells b (o+a.off) []=w:=rfl;rw [hset] at hr' he';obtain ⟨cs,h1,h2,_⟩:=zkt h
  have hVf:V a.block:=by
    obtain ⟨_,_,_,_,_,hs⟩:=zkt h;refine zp4 hV (s:=s) ?_ ?_
    . rw [hs]
    . rw [hs]
  have hab:a'.block=b:=by rw [ha (by omega)]
  have hrun:∀ el k,w.shape? b=some (el,k)->(convert src src (.slice (some a') n c')).run P w=.ok (.slice (some a') n c') (w.freeze ⟨b,k,none⟩ 1):=by
    intro el k hk;simp [convert,ee u1,ee he,markStringish,hab,hk]
  have hrun0:w.shape? b=none->(convert src src (.slice (some a') n c')).run P w=.ok (.slice (some a') n c') w:=by
    intro hk;simp [convert,ee u1,ee he,markStringish,hab,hk]
  cases hsh:w.shape? b with
  |none=>exact ⟨σ,w,_,hrun0 hsh,vx,hr',he'⟩
  |some q =>
    obtain ⟨el,k⟩:=q;refine ⟨σ,_,_,hrun el k hsh,vx,⟨hr'.inj,fun f u b1 o1 z1 hk=>by rw [zvt];exact hr'.lt f u b1 o1 z1 hk,fun f hf=>yit hsh (hr'.fam f hf),hr'.none,hr'.vers⟩,?_⟩;refine ⟨he'.le,he'.new,he'.old,by rw [zvt];exact dz _,fun k2 hk2 hq=>?_,⟨?_,?_,?_⟩⟩
    . refine zik ?_;rintro rfl;rcases hq _ _ _ _ hσ with hv|hv
      . exact hv hVf
      . rw [h1] at hv;simp at hv
    . unfold ni;rw [zAd (by decide)]
    . unfold ni;rw [zAd (by decide)]
    . unfold ni;rw [zAd (by decide)]
theorem zyv:∀ (ns:List Int) (r:ByteArray),ns.foldl (fun r n=>r.push (py n.toNat)) r=⟨r.data++(ns.map fun n=>py n.toNat).toArray⟩
  |[],r=>by simp
  |n :: ns,r=>by
    simp only [List.foldl_cons,List.map_cons];rw [zyv ns];simp [ByteArray.push]
theorem z6o (hE:zcv P Γ) (hr:Rel σ V s w) (hV:zbi V s') (hF:zd1 σ s.n s'.n) {ρ ρ':d8->Value} {o:Oper} {src dst:ed} {x:d8} (ho:o.op=.convert src dst x) (h:zdy P Γ ρ o s src dst (ρ x)=some (v,s'))
    (hρ:∀ x,x∈o.op.operands.toList->VR σ (ρ x) (ρ' x)):Did σ V s w ((jo ρ' o).run P w) v s':=by
  have vx:VR σ (ρ x) (ρ' x):=hρ x (by rw [ho];simp [eg]);have hex:(jo ρ' o)=(do pure (.value (<- convert src dst (ρ' x)))):=by simp [jo,ho]
  have hsel:∀ cs b,o.op≠.select cs b:=by intro cs b;rw [ho];simp
  unfold zdy at h
  cases hi:Γ.ti.at src with
  |none=>rw [hi] at h;simp at h
  |some i =>
    cases hj:Γ.ti.at dst with
    |none=>rw [hi,hj] at h;simp at h
    |some j =>
      rw [hi,hj] at h;simp only at h;have ti:=hE.ti _ _ hi;have tj:=hE.ti _ _ hj;split at h
      . rename_i k1 n hx;split at h
        . rename_i k hd;refine zrl hr hsel h hρ fun y hy=>?_;rw [hx] at vx;obtain ⟨h1,h2⟩:=yg5 (w:=w) (σ:=σ) ti tj hd (k1:=k1) hy;refine ⟨?_,h2⟩;rw [hex,vx.int];simp [h1]
        . simp at h
      . rename_i b hx;rw [hx] at vx;have hx2:=vx.str;rw [hex,hx2];apply DidV.up;split at h
        . rename_i e hd1 hd2;have u1:=ti.und;have u2:=tj.und;rw [hd1] at u1;rw [hd2] at u2
          cases hb:(isU8 Γ e && fg b.size 1000000000) with
          |false=>rw [hb] at h;simp at h
          |true =>
            rw [hb] at h;simp only [cond_true] at h;rw [dr] at hb;have he:=z0m hE hb.1;have hle:=zax.1 hb.2;obtain ⟨a,h1,rfl⟩:=zhw h;have hrun:=run_bytes_of_string (P:=P) w src dst e b u1 u2 he;have hcap:=grownCap_ge w b.size 0 e;have hcap2:=grownCap_le_maxLen w b.size 0 e (by unfold maxLen;omega)
            have hsz:(bytesRow b (grownCap w b.size 0 e)).size=grownCap w b.size 0 e:=by
              simp [bytesRow];show b.size+_=_;omega
            obtain ⟨rfl,_,m1,m2,m3⟩:=zji (w0:=w.drew) h1 hr hF (by decide) ⟨rfl,rfl,rfl,rfl⟩ (bytesRow b (grownCap w b.size 0 e)) e ((bytesRow b (grownCap w b.size 0 e)).size,(bytesRow b (grownCap w b.size 0 e)).size+1) (by intro j hj;simp only;omega)
              (zix b) (ew (grownCap w b.size 0 e - b.size) (.int .u8 0)) (by simp [bytesRow,zix]) (RL.ints b)
            refine ⟨_,_,_,hrun,n6 ⟨_,_,_,m3,_,grownCap w b.size 0 e,rfl,dz _,hcap,hcap2,fun _=>rfl,fun h0=>?_,fun _ _=>?_⟩,m1,m2⟩
            . exfalso;have:(s.n*1024+2) % 1024=0:=h0;omega
            . show 0+0+grownCap w b.size 0 e*((s.n*1024+2) % 1024 - 1)<=_;rw [hsz,show (s.n*1024+2) % 1024=2 by omega];omega
        . rename_i hd1 hd2;have u1:=ti.und;have u2:=tj.und;rw [hd1] at u1;rw [hd2] at u2;simp only [dp,du] at h;obtain ⟨rfl,rfl⟩:=h;refine mw hr ?_ (VR.ofStr _);simp [convert,ee u1,ee u2]
        . simp at h
      . rename_i x0 n c hx;rw [hx] at vx;rw [hex];apply DidV.up;split at h
        . rename_i e hd1 hd2;have u1:=ti.und;have u2:=tj.und;rw [hd1] at u1;rw [hd2] at u2
          cases hb:isU8 Γ e with
          |false=>rw [hb] at h;simp at h
          |true =>
            rw [hb] at h;simp only [cond_true] at h;have he:=z0m hE hb;unfold strC at h
            cases hq:s.firstCells 1 n (.slice x0 n c) with
            |none=>rw [hq] at h;simp at h
            |some p =>
              obtain ⟨l,s1⟩:=p;rw [hq] at h;simp only at h
              cases hl:z1f l with
              |none=>rw [hl] at h;simp at h
              |some r =>
                rw [hl] at h;simp only [dp,du] at h;obtain ⟨rfl,rfl⟩:=h;obtain ⟨new',e1,e2,e3,_,e5,e6⟩:=zgt (P:=P) hr hq hV ⟨n,rfl,dz _⟩ vx;obtain ⟨ns,f1,f2⟩:=z4y hl e2;refine ⟨σ,w,_,?_,VR.ofStr _,e5,e6⟩
                cases x0 with
                |none =>
                  obtain ⟨rfl,_,hv⟩:=vx.out;rw [hv,run_convert_bytes_nil w src e u1 he 0 0 dst u2]
                  have:ns=[]:=by
                    have:new'=[]:=gv (by simpa using e3);rw [this] at f1;exact (List.map_eq_nil_iff.1 f1.symm)
                  subst this;subst f2;rfl
                |some a =>
                  obtain ⟨_,_,_,_,a',c',hv,_⟩:=vx.out;rw [hv];rw [run_convert_bytes_string w src dst e _ n c' u1 he u2];have e1w:=e1 w rfl;rw [hv] at e1w
                  have hload:(loadCells a' n).run P w=.ok (ns.map (Value.int .u8)).toArray w:=by
                    rw [<- f1];simpa [i5] using e1w
                  rw [run_bytesToString w a' n c' ns hload,zyv,f2];have he0:ByteArray.empty.data=#[]:=rfl;rw [he0];simp
        . rename_i e e2 hd1 hd2;have u1:=ti.und;rw [hd1] at u1
          cases x0 with
          |none=>simp at h
          |some a =>
            simp only at h
            cases hb:(d7 src dst && (fb 0 n && isU8 Γ e)) with
            |false=>rw [hb] at h;simp [ye0] at h
            |true =>
              rw [hb] at h;rw [dr,dr] at hb;have hsd:=dx hb.1;subst hsd
              cases hq:s.write a [] with
              |none=>rw [hq] at h;simp [ye0] at h
              |some s1 =>
                rw [hq] at h;simp only [cond_true,ye0,dp,du] at h;obtain ⟨rfl,rfl⟩:=h;exact yiu u1 (z0m hE hb.2.2) hr hV (zac.1 hb.2.1) hq vx
        . simp at h
      . obtain ⟨h1,rfl⟩:=zhl h;obtain ⟨h2,h3⟩:=zp8 (w:=w) hsel h1 hρ;exact pe hr h2 h3
theorem yjg (hE:zcv P Γ) (hr:Rel σ V s w) (hV:zbi V s') (hF:zd1 σ s.n s'.n) {t tx ty:ed} {x x' y y':Value} (h:zp9 Γ s t y x=some (v,s')) (hx:VR σ x x') (hy:VR σ y y') :
    DidV σ V s w ((Builtin.copy_ #[t,tx] ty #[x',y']).run P w) v s':=by
  unfold zp9 at h;split at h
  . rename_i base len cap
    cases hi:zc0 Γ t with
    |none=>rw [hi] at h;simp at h
    |some j =>
      cases hm:lenC y with
      |none=>rw [hi,hm] at h;simp at h
      |some m =>
        rw [hi,hm] at h;simp only at h;obtain ⟨e,hu,hti⟩:=znd hE hi;unfold ybn at h
        cases hq:s.firstCells j.size (min m len) y with
        |none=>rw [hq] at h;simp at h
        |some p =>
          obtain ⟨cs,s1⟩:=p;rw [hq] at h;simp only at h;obtain ⟨c1,k1,n1,o1⟩:=zel (σ:=σ) (V:=V) (w:=w) hq;have hlen:∀ w0,(Builtin.lenOf y').run P w0=.ok m w0:=z8n hm hy;have hmin:Nat.min m len=min m len:=rfl
          cases hz:d7 (min m len*j.size) 0 with
          |true =>
            rw [hz] at h;simp only [cond_true,dp,du] at h;obtain ⟨rfl,rfl⟩:=h;obtain ⟨new',e1,e2,e3,_,e5,e6⟩:=zgt (P:=P) hr hq hV ⟨m,hm,Nat.min_le_left _ _⟩ hy;have h0:=dx hz;have hnil:new'=[]:=gv (by omega);subst hnil;have e1w:=e1 w rfl;refine ⟨σ,w,.int .i64 ((min m len:Nat):Int),?_,m7 _ _,e5,e6⟩
            cases base with
            |none =>
              obtain ⟨rfl,rfl,rfl⟩:=hx.out;simp [Builtin.copy_,ee hu,hlen,zcr hti,hmin,goInt] at e1w ⊢;rw [e1w];rfl
            |some a =>
              obtain ⟨_,_,_,_,a',c',rfl,_⟩:=hx.out
              simp [Builtin.copy_,ee hu,hlen,zcr hti,hmin,goInt,e1w,storeCells]
          |false =>
            rw [hz] at h;simp only [cond_false] at h
            cases base with
            |none=>simp at h
            |some a =>
              simp only at h
              cases hw:s1.write a cs with
              |none=>rw [hw] at h;simp at h
              |some s2 =>
                rw [hw] at h;simp only [dp,du] at h;obtain ⟨rfl,rfl⟩:=h;have hr1:=k1 hr;have c2:Can s1 s2:=z1n hr1 hw;obtain ⟨new',e1,e2,e3,_,_,e6⟩:=zgt (P:=P) hr hq (hV.back c2) ⟨m,hm,Nat.min_le_left _ _⟩ hy;obtain ⟨b,o,z,hσ,a',c',rfl,v1,v2,v3,v4,v5,v6⟩:=hx.out
                have hne:c'≠0:=by
                  rintro rfl;have:len=0:=by omega
                  subst this;simp at hz
                have:=v4 hne;subst this;obtain ⟨w1,w2,w3,w4,w5⟩:=zmo hw hr1 hV hσ e2;have hst:=run_storeCells_cells (P:=P) b (o+a.off) new' 0 w (by simpa using w1) (by simpa using w2) w3;simp only [gm] at hst;have e1w:=e1 w rfl;refine ⟨σ,_,.int .i64 ((min m len:Nat):Int),?_,m7 _ _,w4,e6.trans w5 c1 c2 hF hr.none⟩;simp [Builtin.copy_,ee hu,hlen,zcr hti,hmin,goInt,e1w,hst]
  . simp at h
theorem z87 {l:List Value}:∀ (n i:Nat),i<n*l.length->(ew n l).flatten[i]?=l[i % l.length]?
  |0,i,h=>by omega
  |n+1,i,h=>by
    rw [gu,fm];rw [ig] at h;by_cases c:i<l.length
    . rw [eu c,Nat.mod_eq_of_lt c]
    . rw [fq (by omega),z87 n (i - l.length) (by omega)];congr 1;rw [Nat.mod_eq_sub_mod (show i>=l.length by omega)]
theorem zwk (z:Array Value) (n:Nat):(ko z n).toList=(ew n z.toList).flatten:=by
  apply List.ext_getElem?;intro i;by_cases c:i<n*z.size
  . rw [z87 n i (by simpa using c)]
    have hz:0<z.size:=by
      rcases Nat.eq_zero_or_pos z.size with h|h
      . rw [h] at c;omega
      . exact h
    have hm:i % z.size<z.size:=Nat.mod_lt _ hz;simp [ko,c,hm]
  . rw [ic (by simp [ko];omega),ic (by simp;omega)]
theorem yg9 (hE:zcv P Γ) (hr:Rel σ V s w) (hV:zbi V s') {t ty:ed} {x x':Value} (h:zo9 Γ s t x=some (v,s')) (hx:VR σ x x') :
    DidV σ V s w ((Builtin.clear_ #[t] ty #[x']).run P w) v s':=by
  unfold zo9 at h;split at h
  . rename_i a len cap
    cases hi:zc0 Γ t with
    |none=>rw [hi] at h;simp at h
    |some j =>
      rw [hi] at h;simp only at h;obtain ⟨e,hu,hti⟩:=znd hE hi;obtain ⟨zv,hz1,_,hz2⟩:=zuk hti;unfold z9t at h
      cases hz:fb 0 (len*j.zero.length) with
      |false=>rw [hz] at h;simp at h
      |true =>
        rw [hz] at h;simp only [cond_true] at h
        cases hw:s.write a (ew len j.zero).flatten with
        |none=>rw [hw] at h;simp at h
        |some s2 =>
          rw [hw] at h;simp only [dp,du] at h;obtain ⟨rfl,rfl⟩:=h;obtain ⟨b,o,z,hσ,a',c',rfl,v1,v2,v3,v4,v5,v6⟩:=hx.out;have hz:=zac.1 hz;have hl0:len≠0:=by rintro rfl;simp at hz
          have hne:c'≠0:=by omega
          have:=v4 hne;subst this
          have e2:RL (VR σ) (ew len j.zero).flatten (ko zv.cells len).toList:=by
            rw [zwk,hz1]
            have rr:∀ n:Nat,RL (VR σ) (ew n j.zero).flatten (ew n j.zero).flatten:=fun n=>by
              induction n with
              |zero=>exact trivial
              |succ n ih =>
                rw [gu,fm];exact (hti.refl σ).append ih
            exact rr len
          obtain ⟨w1,w2,w3,w4,w5⟩:=zmo hw hr hV hσ e2;have hst:=run_storeCells_cells (P:=P) b (o+a.off) (ko zv.cells len).toList 0 w (by simpa using w1) (by simpa using w2) w3;simp only [gm] at hst;refine ⟨σ,_,.tuple #[],?_,om,w4,w5⟩
          cases len with
          |zero=>exact absurd rfl hl0
          |succ len=>simp [Builtin.clear_,ee hu,hz2,hst]
  . simp at h
theorem EL.length {R:Value->Value->Prop}:∀ {l:List (Value×Value)} {m:List i9},EL R l m->l.length=m.length
  |[],[],_=>rfl
  |(_,_) :: l,_ :: m,⟨_,_,_,d⟩=>by simp [EL.length d]
  |[],_ :: _,h=>h.elim
  |_ :: _,[],h=>h.elim
theorem ynu (hE:zcv P Γ) (hr:Rel σ V s w) (hV:zbi V s') {t ty:ed} {x x':Value} (h:zmk Γ s t x=some (v,s')) (hx:VR σ x x'):DidV σ V s w ((my #[t] ty #[x']).run P w) v s':=by
  unfold zmk at h
  cases hi:Γ.ti.at t with
  |none=>rw [hi] at h;simp at h
  |some i =>
    rw [hi] at h;simp only at h;have hu:=(hE.ti _ _ hi).und;split at h
    . rename_i b hd;rw [hd] at hu;simp only [dp,du] at h;obtain ⟨rfl,rfl⟩:=h;obtain rfl:=hx.str;exact mw hr (by simp [my,ee hu,goInt]) (m7 _ _)
    . rename_i n e hd;rw [hd] at hu;simp only [dp,du] at h;obtain ⟨rfl,rfl⟩:=h;exact mw hr (by simp [my,ee hu,goInt]) (m7 _ _)
    . rename_i e a n c hd;rw [hd] at hu;simp only [dp,du] at h;obtain ⟨rfl,rfl⟩:=h
      cases a with
      |none=>obtain ⟨rfl,_,rfl⟩:=hx.out;exact mw hr (by simp [my,ee hu,goInt]) (m7 _ _)
      |some a=>obtain ⟨_,_,_,_,_,_,rfl,_⟩:=hx.out;exact mw hr (by simp [my,ee hu,goInt]) (m7 _ _)
    . rename_i k e hd;rw [hd] at hu;simp only [dp,du] at h;obtain ⟨rfl,rfl⟩:=h;obtain rfl:=hx.out;exact mw hr (by simp [my,ee hu,goInt]) (m7 _ _)
    . rename_i k e r hd;rw [hd] at hu;unfold z56 at h
      cases hq:s.readMap r with
      |none=>rw [hq] at h;simp at h
      |some p =>
        obtain ⟨es,s1⟩:=p;rw [hq] at h;simp only [dp,du] at h;obtain ⟨rfl,rfl⟩:=h;obtain ⟨b,o,z,hσ,rfl⟩:=hx.out;obtain ⟨⟨ents,clock,hb,hel,hbn⟩,_,h3,h4⟩:=znt hq hr hV hσ;refine ⟨σ,w,.int .i64 (es.length:Int),?_,m7 _ _,h3,h4⟩;have:es.length=ents.size:=by rw [hel.length,gn]
        have hg:(getObj b).run P w=.ok (.map ents clock) w:=by simp [getObj,Sem.run,hb]
        simp [my,ee hu,goInt,hg,this]
    . simp at h
theorem z96 (a b:ByteArray):(a == b)=(a.data.toList == b.data.toList):=by
  cases a with|mk x =>
  cases b with|mk y =>
  show (x == y)=(x.toList == y.toList);rw [Bool.eq_iff_iff,beq_iff_eq,beq_iff_eq];exact ⟨fun h=>by rw [h],fun h=>j0.1 h⟩
theorem znx {kind : je} {k k' : Value} {b : Bool} (hk : match kind, k with | .int a, .int c _ => d7 (ikN a) (ikN c) = true | .string, .string _ => True | .bool, .bool _ => True | _, _ => False) (h : zvd k k' = some b) :
    n4 kind k k'=some b/\(b=true->k'=k):=by
  unfold zvd at h;split at h
  . rename_i k1 a k2 c;rw [zb0] at h;split at h
    . rename_i hq;have:=z59 hq;subst this;simp only [dp] at h;split at hk
      . rename_i heq;cases heq;refine ⟨by simp [n4,h],fun hb=>?_⟩;subst hb;simp at h;rw [h]
      . rename_i heq;simp at heq
      . rename_i heq;simp at heq
      . exact hk.elim
    . simp at h
  . rename_i a c;simp only [dp] at h;split at hk
    . rename_i heq;simp at heq
    . refine ⟨by simp only [n4,z96,h],fun hb=>?_⟩;subst hb;rw [beq_iff_eq] at h;cases a;cases c;exact congrArg (fun x=>Value.string ⟨x⟩) (j0.1 h).symm
    . rename_i heq;simp at heq
    . exact hk.elim
  . rename_i a c;simp only [dp] at h;split at hk
    . rename_i heq;simp at heq
    . rename_i heq;simp at heq
    . refine ⟨by simp [n4,h],fun hb=>?_⟩;subst hb;simp at h;rw [h]
    . exact hk.elim
  . simp at h
def zgj (kind:je) (k:Value):Prop:=match kind,k with|.int a,.int c _=>d7 (ikN a) (ikN c)=true|.string,.string _=>True|.bool,.bool _=>True|_,_=>False
theorem zvc {t:ed} {k:Value} (h:keyV Γ t k=true):∃ i,Γ.ti.at t=some i/\zgj i.desc k:=by
  unfold keyV at h
  cases hi:Γ.ti.at t with
  |none=>rw [hi] at h;simp at h
  |some i =>
    rw [hi] at h;simp only at h;refine ⟨i,rfl,?_⟩;unfold zgj;split at h<;>simp_all
theorem yfu {kind:je} {k:Value} (hk:zgj kind k) {R:Value->Value->Prop}:∀ {es:List (Value×Value)} {ents:List i9} {r:Option Value} (i:Nat),zos k es=some r->EL R es ents ->
    match r with
    |some v=>∃ j v',jb kind k ents i=some (some (j,v'))/\R v v'
    |none=>jb kind k ents i=some none
  |[],[],r,i,h,_=>by simp only [zos,dp] at h;subst h;rfl
  |(k',v) :: es,e :: ents,r,i,h,⟨a,_,c,d⟩=>by
    simp only [zos] at h
    cases hq:zvd k k' with
    |none=>rw [hq] at h;simp at h
    |some b =>
      obtain ⟨h1,_⟩:=znx hk hq;rw [hq] at h
      cases b with
      |true =>
        simp only [dp] at h;subst h;exact ⟨i,e.val,by simp only [jb,a,h1],c⟩
      |false =>
        simp only at h;have:=yfu hk (i+1) h d
        cases r with
        |none=>simp only at this ⊢;simp only [jb,a,h1];exact this
        |some v0=>obtain ⟨j,v',h2,h3⟩:=this;exact ⟨j,v',by simp only [jb,a,h1];exact h2,h3⟩
  |[],_ :: _,_,_,_,h=>h.elim
  |_ :: _,[],_,_,_,h=>h.elim
theorem z17 {kt:ed} {i:TI} (hi:TIOk P kt i) {k:Value} (hk:zgj i.desc k) (b:Bool) (n:Nat):(mo b (n+1) kt k).run P w=.ok () w:=by
  have hu:=hi.und;unfold zgj at hk
  cases hd:i.desc with
  |int a=>rw [hd] at hk hu;cases k<;>first|exact hk.elim|simp [mo,ee hu]
  |string=>rw [hd] at hk hu;cases k<;>first|exact hk.elim|simp [mo,ee hu]
  |bool=>rw [hd] at hk hu;cases k<;>first|exact hk.elim|simp [mo,ee hu]
  |_=>rw [hd] at hk;exact hk.elim
theorem ze2 {kt:ed} {i:TI} (hi:TIOk P kt i) {k:Value} (hk:zgj i.desc k) (b:Bool):(mo b 10000 kt k).run P w=.ok () w:=z17 hi hk b 9999
theorem zgj.self {kind:je} {k k':Value} (h:zgj kind k) (hv:VR σ k k'):k'=k:=by
  unfold zgj at h;split at h
  . exact hv.int
  . exact hv.str
  . exact hv.bool
  . exact h.elim
theorem zgj.plain {kind:je} {k:Value} (h:zgj kind k):zav 3 k=true:=by
  unfold zgj at h;split at h
  . rfl
  . rfl
  . rfl
  . exact h.elim
theorem zts {i:TI} {t:ed} (hi:TIOk P t i) {z:Value} (h:ztt i=some z):∃ z',(∀ w,(zeroValue t).run P w=.ok z' w)/\∀ σ,VR σ z z':=by
  obtain ⟨z',h1,h2,h3⟩:=zuk (P:=P) hi;refine ⟨z',h3,fun σ=>?_⟩;have hr:=hi.refl σ;unfold ztt at h;unfold z7d at h2
  cases ha:aggT i.desc with
  |true =>
    rw [ha] at h;simp only [cond_true,dp] at h;subst h;split at h2
    . rename_i cs;have hc:cs.toList=i.zero:=h1;refine n6 ⟨cs,rfl,?_⟩;rw [hc];simpa using hr
    . simp at h2
    . rw [ha] at h2;simp at h2
  |false =>
    rw [ha] at h;simp only [cond_false] at h;split at h
    . rename_i z0 hz;simp only [dp] at h;subst h;have hc:z'.cells.toList=[z0]:=by rw [h1,hz]
      have:z'=z0:=by
        split at h2
        . rw [ha] at h2;simp at h2
        . simp at h2
        . rename_i hn1 hn2
          cases z' with
          |agg cs=>exact absurd rfl (hn1 cs)
          |_=>simp [Value.cells] at hc;exact hc
      rw [this];rw [hz] at hr;exact hr.1
    . simp at h
theorem ya8 (hE:zcv P Γ) (hr:Rel σ V s w) (hV:zbi V s') {t:ed} {ok:Bool} {x x' k k':Value} (h:zgx Γ s t x k ok=some (v,s')) (hx:VR σ x x') (hk:VR σ k k'):DidV σ V s w ((ku t x' k' ok).run P w) v s':=by
  unfold zgx at h;split at h
  . rename_i r
    cases hi:Γ.ti.at t with
    |none=>rw [hi] at h;simp at h
    |some i =>
      rw [hi] at h;simp only at h;have hu:=(hE.ti _ _ hi).und;split at h
      . rename_i kt e hd;rw [hd] at hu;rw [zb0] at h;split at h
        . rename_i hkv;obtain ⟨ik,hik,hfit⟩:=zvc hkv;have htk:=hE.ti _ _ hik;have huk:=htk.und;have hkk:=hfit.self hk;subst hkk
          cases hj:Γ.ti.at e with
          |none=>rw [hj] at h;simp at h
          |some j =>
            rw [hj] at h;simp only at h
            -- the entries
            have key : ∀ (es : List (Value × Value)) (s1 : CS), z54 k' ok (ztt j) (some (es, s1)) = some (v, s') -> s' = s1 /\ ∀ (ents : Array i9), EL (VR σ) es ents.toList -> ∃ (fr : Option (Nat × Value)) (z' : Value),
                (∀ w0:World,(jv kt k' ents.toList).run P w0=.ok fr w0)/\(∀ w0:World,(zeroValue e).run P w0=.ok z' w0) /\
                ((∃ jj v',fr=some (jj,v')/\VR σ v (if ok then .tuple #[v',.bool true] else v'))\/(fr=none/\VR σ v (if ok then .tuple #[z',.bool false] else z'))):=by
              intro es s1 hl;unfold z54 at hl;simp only at hl
              cases hz:ztt j with
              |none=>rw [hz] at hl;simp at hl
              |some z =>
                cases hg:zos k' es with
                |none=>rw [hz,hg] at hl;simp at hl
                |some r0 =>
                  rw [hz,hg] at hl;simp only [dp,du] at hl;obtain ⟨rfl,rfl⟩:=hl;refine ⟨rfl,fun ents hel=>?_⟩;obtain ⟨z',hz1,hz2⟩:=zts (hE.ti _ _ hj) hz;have hgr:=yfu hfit 0 hg hel
                  cases r0 with
                  |none =>
                    simp only at hgr;refine ⟨none,z',fun w0=>by simp [jv,ee huk,hgr],hz1,.inr ⟨rfl,?_⟩⟩;cases ok
                    . exact hz2 σ
                    . exact n6 ⟨_,rfl,hz2 σ,pr _,trivial⟩
                  |some v0 =>
                    simp only at hgr;obtain ⟨jj,v',g1,g2⟩:=hgr;refine ⟨some (jj,v'),z',fun w0=>by simp [jv,ee huk,g1],hz1,.inl ⟨jj,v',rfl,?_⟩⟩;cases ok
                    . exact g2
                    . exact n6 ⟨_,rfl,g2,pr _,trivial⟩
            cases r with
            |none =>
              obtain rfl:=hx.out;simp only at h;obtain ⟨rfl,hf⟩:=key _ _ h;obtain ⟨fr,z',g1,g2,g3⟩:=hf #[] trivial;rcases g3 with ⟨jj,v',rfl,g4⟩|⟨rfl,g4⟩
              . refine mw hr ?_ g4;have g1':=g1 w;simp at g1';simp [ku,ee hu,ze2 htk hfit,g1']
              . refine mw hr ?_ g4;have g1':=g1 w;simp at g1'
                simp [ku,ee hu,ze2 htk hfit,g1',g2]
            |some r =>
              simp only at h
              cases hq:s.readMap r with
              |none=>rw [hq] at h;simp [z54] at h
              |some p =>
                obtain ⟨es,s1⟩:=p;rw [hq] at h;obtain ⟨rfl,hf⟩:=key _ _ h;obtain ⟨b,o,z,hσ,rfl⟩:=hx.out;obtain ⟨⟨ents,clock,hb,hel,hbn⟩,_,h3,h4⟩:=znt hq hr hV hσ;obtain ⟨fr,z',g1,g2,g3⟩:=hf ents hel;have hg:(getObj b).run P w=.ok (.map ents clock) w:=by simp [getObj,Sem.run,hb]
                rcases g3 with ⟨jj,v',rfl,g4⟩|⟨rfl,g4⟩
                . exact ⟨σ,w,_,by simp [ku,ee hu,ze2 htk hfit,hg,g1],g4,h3,h4⟩
                . exact ⟨σ,w,_,by simp [ku,ee hu,ze2 htk hfit,hg,g1,g2],g4,h3,h4⟩
        . simp at h
      . simp at h
  . simp at h
theorem zp3 {kind:je} {k:Value} (h:zgj kind k) (n:Nat):lu n k k=true:=by
  unfold zgj at h;split at h
  . cases n<;>simp [lu]
  . cases n<;>simp [lu,z96]
  . cases n<;>simp [lu]
  . exact h.elim
theorem yc7 {kind:je} {k v v':Value} (hk:zgj kind k) {R:Value->Value->Prop} (hv:R v v'):∀ {es es':List (Value×Value)} {ents:List i9} (i:Nat),zmf k v es=some es'->EL R es ents ->
    (∃ j val e,jb kind k ents i=some (some (i+j,val))/\ents[j]?=some e/\e.key=k/\EL R es' (ents.modify j fun e=>{ e with key:=k,val:=v' })) \/
    (jb kind k ents i=some none/\∀ c,EL R es' (ents++[{ key:=k,val:=v',born:=c }]))
  |[],es',[],i,h,_=>by
    simp only [zmf,dp] at h;subst h;exact .inr ⟨rfl,fun c=>⟨rfl,hk.plain,hv,trivial⟩⟩
  |(k',v0) :: es,es',e :: ents,i,h,⟨a,b,c,d⟩=>by
    simp only [zmf] at h
    cases hq:zvd k k' with
    |none=>rw [hq] at h;simp at h
    |some bb =>
      obtain ⟨h1,h2⟩:=znx hk hq;rw [hq] at h
      cases bb with
      |true =>
        simp only [dp] at h;subst h;refine .inl ⟨0,e.val,e,by simp only [jb,a,h1];rfl,rfl,by rw [a];exact h2 rfl,?_⟩;exact ⟨rfl,hk.plain,hv,d⟩
      |false =>
        simp only at h
        cases hm:zmf k v es with
        |none=>rw [hm] at h;simp at h
        |some es2 =>
          rw [hm] at h;simp only [dp] at h;subst h;rcases yc7 hk hv (i+1) hm d with ⟨j,val,e2,g1,g2,g3,g4⟩|⟨g1,g2⟩
          . refine .inl ⟨j+1,val,e2,?_,g2,g3,⟨a,b,c,g4⟩⟩;simp only [jb,a,h1];rw [g1,show i+1+j=i+(j+1) by omega]
          . exact .inr ⟨by simp only [jb,a,h1];exact g1,fun cc=>⟨a,b,c,g2 cc⟩⟩
  |[],_,_ :: _,_,_,h=>h.elim
  |_ :: _,_,[],_,_,h=>h.elim
theorem zqd (hE:zcv P Γ) (hr:Rel σ V s w) (hV:zbi V s') {t:ed} {x x' k k' y y':Value} (h:zc6 Γ s t k y x=some (v,s')) (hx:VR σ x x') (hk:VR σ k k') (hy:VR σ y y') :
    Did σ V s w ((do md t x' k' y';pure .skip:Sem Next).run P w) v s':=by
  unfold zc6 at h;split at h
  . rename_i r
    cases hi:Γ.ti.at t with
    |none=>rw [hi] at h;simp at h
    |some i =>
      rw [hi] at h;simp only at h;have hu:=(hE.ti _ _ hi).und;split at h
      . rename_i kt e hd;rw [hd] at hu;rw [zb0] at h;split at h
        . rename_i hkv;obtain ⟨ik,hik,hfit⟩:=zvc hkv;have htk:=hE.ti _ _ hik;have huk:=htk.und;have hkk:=hfit.self hk;subst hkk
          cases hw:s.setMap r k' y with
          |none=>rw [hw] at h;simp [zl5] at h
          |some s1 =>
            rw [hw] at h;simp only [zl5,dp,du] at h;obtain ⟨rfl,rfl⟩:=h;obtain ⟨b,o,z,hσ,rfl⟩:=hx.out;obtain ⟨es,s2,es',h1,h2,h3,_⟩:=zlp hw
            have hVr:V r:=by
              have:=(zlp hw);obtain ⟨_,_,_,q1,_,_,q4⟩:=this;obtain ⟨_,q5⟩:=zdx q1;refine hV r ?_;rcases zi5 (lim:=s.lim) (l:=s.wr) (n:=r) with kk|kk
              . exact .inr (.inl (by rw [q4];exact kk))
              . exact .inr (.inr (by rw [q4,q5];exact kk))
            obtain ⟨h4,_⟩:=zdx h1;obtain ⟨ents,clock,hb,hel,hbn⟩:=(hr.fam r hVr).es es h4 b o z hσ;have hg:(getObj b).run P w=.ok (.map ents clock) w:=by simp [getObj,Sem.run,hb]
            have hset:∀ en cl,(setObj b (.map en cl)).run P w=.ok () { w with heap:=w.heap.setIfInBounds b (.map en cl) }:=fun en cl=>by simp [setObj,Sem.run,hb]
            rcases yc7 hfit hy 0 h3 hel with ⟨j,val,e0,g1,g2,g3,g4⟩|⟨g1,g2⟩
            . have hrel:=zxp (w':={ w with heap:=w.heap.setIfInBounds b (.map (ents.modify j fun e=>{ e with key:=k',val:=y' }) clock) }) hw hr hV hσ (fun es0 es0' q1 q2=>by
                rw [h4] at q1;cases q1;rw [h3] at q2;cases q2
                exact ⟨_,clock,rfl,by rw [m5];exact g4,hbn.modify fun _=>rfl⟩)
              refine ⟨σ,_,.skip,undef,?_,.inr ⟨rfl,rfl⟩,om,hrel.2.1,hrel.2.2⟩;rw [fz] at g1;have hf:(jv kt k' ents.toList).run P w=.ok (some (j,val)) w:=by simp [jv,ee huk,g1]
              rw [gq] at g2;have hold:((ents[j]?).map (·.key)).getD k'=k':=by rw [g2];simpa using g3
              have hks:(ma k' k').run P w=.ok k' w:=by simp [ma,zp3 hfit]
              simp [md,ee hu,hg,ze2 htk hfit,hf];rw [show (Option.map (fun x=>x.key) ents[j]?).getD k'=k' from hold,hks];simp [hset]
            . have hrel:=zxp (w':={ w with heap:=w.heap.setIfInBounds b (.map (ents.push { key:=k',val:=y',born:=clock }) (clock+1)) }) hw hr hV hσ (fun es0 es0' q1 q2=>by
                rw [h4] at q1;cases q1;rw [h3] at q2;cases q2
                exact ⟨_,clock+1,rfl,by rw [Array.toList_push];exact g2 clock,hbn.push rfl⟩)
              refine ⟨σ,_,.skip,undef,?_,.inr ⟨rfl,rfl⟩,om,hrel.2.1,hrel.2.2⟩;have hf:(jv kt k' ents.toList).run P w=.ok none w:=by simp [jv,ee huk,g1]
              simp [md,ee hu,hg,ze2 htk hfit,hf,hset]
        . simp at h
      . simp at h
  . simp at h
structure KeyOk (P:ep) (kt:ed) (k:Value) (eq:Value->Option Bool):Prop where
  check:∀ (b:Bool) (w:World),(mo b 10000 kt k).run P w=.ok () w
  plain:zav 3 k=true
  stays:∀ k',eq k'=some true->∀ w:World,(ma k' k).run P w=.ok k w
  find:∀ {R:Value->Value->Prop} {es:List (Value×Value)} {ents:List i9} {r:Option (Nat×Value)},EL R es ents->zd3 eq es 0=some r ->
    ∃ r',(∀ w:World,(jv kt k ents).run P w=.ok r' w)/\match r with
      |none=>r'=none
      |some (j,v)=>∃ v' k0,r'=some (j,v')/\R v v'/\es[j]?=some (k0,v)/\eq k0=some true
theorem z3x {kind:je} {k:Value} (hk:zgj kind k) {R:Value->Value->Prop}:∀ {es:List (Value×Value)} {ents:List i9} {r:Option (Nat×Value)} (i:Nat),EL R es ents->zd3 (zvd k) es i=some r ->
    ∃ r',jb kind k ents i=some r'/\match r with
      |none=>r'=none
      |some (j,v)=>∃ v' k0,r'=some (j,v')/\R v v'/\i<=j/\es[j - i]?=some (k0,v)/\zvd k k0=some true
  |[],[],r,i,_,h=>by simp only [zd3,dp] at h;subst h;exact ⟨none,rfl,rfl⟩
  |(k',v) :: es,e :: ents,r,i,⟨a,_,c,d⟩,h=>by
    simp only [zd3] at h
    cases hq:zvd k k' with
    |none=>rw [hq] at h;simp at h
    |some b =>
      obtain ⟨h1,_⟩:=znx hk hq;rw [hq] at h
      cases b with
      |true =>
        simp only [dp] at h;subst h;exact ⟨some (i,e.val),by simp only [jb,a,h1],e.val,k',rfl,c,dz _,by simp,hq⟩
      |false =>
        simp only at h;obtain ⟨r',g1,g2⟩:=z3x hk (i+1) d h;refine ⟨r',by simp only [jb,a,h1];exact g1,?_⟩
        cases r with
        |none=>exact g2
        |some p =>
          obtain ⟨j,v0⟩:=p;obtain ⟨v',k0,g3,g4,g5,g6,g7⟩:=g2;refine ⟨v',k0,g3,g4,by omega,?_,g7⟩;rw [show j - i=(j - (i+1))+1 by omega,ji];exact g6
  |[],_ :: _,_,_,h,_=>h.elim
  |_ :: _,[],_,_,h,_=>h.elim
theorem z3w {kt:ed} {k:Value} {R:Value->Value->Prop}:∀ {es:List (Value×Value)} {ents:List i9} {r:Option (Nat×Value)} (i:Nat),EL R es ents->zd3 (eqW P kt k) es i=some r ->
    ∃ r',(∀ w:World,(nq kt k ents i).run P w=.ok r' w)/\match r with
      |none=>r'=none
      |some (j,v)=>∃ v' k0,r'=some (j,v')/\R v v'/\i<=j/\es[j - i]?=some (k0,v)/\eqW P kt k k0=some true
  |[],[],r,i,_,h=>by simp only [zd3,dp] at h;subst h;exact ⟨none,fun w=>rfl,rfl⟩
  |(k',v) :: es,e :: ents,r,i,⟨a,_,c,d⟩,h=>by
    simp only [zd3] at h
    cases hq:eqW P kt k k' with
    |none=>rw [hq] at h;simp at h
    |some b =>
      have h1:zch P (Op.equal kt k k')=some b:=by
        unfold eqW at hq;split at hq
        . rename_i he;rw [zb0] at hq;split at hq
          . simp only [dp] at hq;rw [<- hq];exact he
          . simp at hq
        . rename_i he;simp only [dp] at hq;rw [<- hq];exact he
        . simp at hq
      have h2:∀ w:World,(Op.equal kt k e.key).run P w=.ok b w:=fun w=>by rw [a];exact zv2 h1 w
      rw [hq] at h
      cases b with
      |true =>
        simp only [dp] at h;subst h;exact ⟨some (i,e.val),fun w=>by simp [nq,h2],e.val,k',rfl,c,dz _,by simp,hq⟩
      |false =>
        simp only at h;obtain ⟨r',g1,g2⟩:=z3w (i+1) d h;refine ⟨r',fun w=>by simp [nq,h2,g1],?_⟩
        cases r with
        |none=>exact g2
        |some p =>
          obtain ⟨j,v0⟩:=p;obtain ⟨v',k0,g3,g4,g5,g6,g7⟩:=g2;refine ⟨v',k0,g3,g4,by omega,?_,g7⟩;rw [show j - i=(j - (i+1))+1 by omega,ji];exact g6
  |[],_ :: _,_,_,h,_=>h.elim
  |_ :: _,[],_,_,h,_=>h.elim
theorem ygs (hE:zcv P Γ) {kt:ed} {k:Value} {eq:Value->Option Bool} (h:eqK P Γ kt k=some eq):KeyOk P kt k eq:=by
  unfold eqK at h;rw [zb0] at h;split at h
  . rename_i hkv;simp only [dp] at h;subst h;obtain ⟨ik,hik,hfit⟩:=zvc hkv;have htk:=hE.ti _ _ hik;refine ⟨fun b w=>ze2 htk hfit b,hfit.plain,fun k' hq w=>?_,fun {R es ents r} hel hf=>?_⟩
    . have:=(znx hfit hq).2 rfl;subst this;simp [ma,zp3 hfit]
    . obtain ⟨r',g1,g2⟩:=z3x hfit 0 hel hf;refine ⟨r',fun w=>by simp [jv,ee htk.und,g1],?_⟩
      cases r with
      |none=>exact g2
      |some p=>obtain ⟨j,v⟩:=p;obtain ⟨v',k0,g3,g4,_,g6,g7⟩:=g2;exact ⟨v',k0,g3,g4,by simpa using g6,g7⟩
  . rw [zb0] at h;split at h
    . rename_i hq;simp only [dr] at hq;obtain ⟨hw,hkw⟩:=hq;simp only [dp] at h;subst h;unfold keyW at hkw;simp only [dr] at hkw;obtain ⟨hp,hc1,hc2⟩:=hkw;have hc:∀ b:Bool,keyC P b kt k=true:=fun b=>by cases b;exact hc1;exact hc2
      unfold zsv at hw
      cases hi:Γ.ti.at kt with
      |none=>rw [hi] at hw;simp at hw
      |some ik =>
        rw [hi] at hw;simp only at hw;have hu:=(hE.ti _ _ hi).und;refine ⟨fun b w=>?_,hp,fun k' hq w=>?_,fun {R es ents r} hel hf=>?_⟩
        . have:=hc b;unfold keyC at this;split at this
          . rename_i u he;exact zv2 he w
          . simp at this
        . unfold eqW at hq;split at hq
          . rw [zb0] at hq;split at hq
            . rename_i hs;simp [ma,hs]
            . simp at hq
          . simp at hq
          . simp at hq
        . obtain ⟨r',g1,g2⟩:=z3w 0 hel hf;refine ⟨r',fun w=>?_,?_⟩
          . cases ents with
            |nil =>
              have:r'=none:=by have:=g1 w;simp [nq] at this;exact this.symm
              subst this
              simp [jv,ee hu,jb]
            |cons e ents =>
              have hs:n4 ik.desc k e.key=none:=by
                unfold aggT at hw;cases hd:ik.desc<;>rw [hd] at hw<;>first | (simp at hw;done)|rfl
              simp only [jv];simp [ee hu,jb,hs,g1]
          . cases r with
            |none=>exact g2
            |some p=>obtain ⟨j,v⟩:=p;obtain ⟨v',k0,g3,g4,_,g6,g7⟩:=g2;exact ⟨v',k0,g3,g4,by simpa using g6,g7⟩
    . simp at h
theorem EL.get {R:Value->Value->Prop}:∀ {l:List (Value×Value)} {m:List i9} {j:Nat} {k v:Value},EL R l m->l[j]?=some (k,v)->∃ e,m[j]?=some e/\e.key=k/\zav 3 k=true/\R v e.val
  |(_,_) :: _,e :: _,0,k,v,⟨a,b,c,_⟩,h=>by simp at h;obtain ⟨rfl,rfl⟩:=h;exact ⟨e,rfl,a,b,c⟩
  |(_,_) :: _,_ :: _,j+1,k,v,⟨_,_,_,d⟩,h=>by
    obtain ⟨e,h1,h2⟩:=EL.get (j:=j) d (by simpa using h);exact ⟨e,by simpa using h1,h2⟩
  |[],_,_,_,_,_,h=>by simp at h
  |_ :: _,[],_,_,_,h,_=>h.elim
theorem EL.put {R:Value->Value->Prop} {k v v':Value} (hk:zav 3 k=true) (hv:R v v'):∀ {l:List (Value×Value)} {m:List i9} (j:Nat),EL R l m->EL R (l.set j (k,v)) (m.modify j fun e=>{ e with key:=k,val:=v' })
  |[],[],_,_=>by simp;trivial
  |(_,_) :: _,e :: _,0,⟨_,_,_,d⟩=>⟨rfl,hk,hv,d⟩
  |(_,_) :: _,e :: _,j+1,⟨a,b,c,d⟩=>⟨a,b,c,EL.put hk hv j d⟩
  |[],_ :: _,_,h=>h.elim
  |_ :: _,[],_,h=>h.elim
theorem EL.snoc {R:Value->Value->Prop} {k:Value} {v:Value} {e:i9} (hk:zav 3 k=true) (he:e.key=k) (hv:R v e.val):∀ {l:List (Value×Value)} {m:List i9},EL R l m->EL R (l++[(k,v)]) (m++[e])
  |[],[],_=>⟨he,hk,hv,trivial⟩
  |(_,_) :: _,_ :: _,⟨a,b,c,d⟩=>⟨a,b,c,EL.snoc hk he hv d⟩
  |[],_ :: _,h=>h.elim
  |_ :: _,[],h=>h.elim
theorem zrs (hE:zcv P Γ) {t kt e:ed} (h:zqf Γ t=some (kt,e)):P.underlying t=some (.map kt e):=by
  unfold zqf at h
  cases hi:Γ.ti.at t with
  |none=>rw [hi] at h;simp at h
  |some i =>
    rw [hi] at h;simp only at h;have hu:=(hE.ti _ _ hi).und;split at h
    . rename_i hd;simp only [dp,du] at h;obtain ⟨rfl,rfl⟩:=h;rw [hd] at hu;exact hu
    . simp at h
theorem z50 (hE:zcv P Γ) (hr:Rel σ V s w) (hV:zbi V s') {t:ed} {ok:Bool} {x x' k k':Value} (h:zft P Γ s t x k ok=some (v,s')) (hx:VR σ x x') (hk:VR σ k k'):DidV σ V s w ((ku t x' k' ok).run P w) v s':=by
  unfold zft at h;split at h
  . rename_i r kt e hts;have hu:=zrs hE hts;split at h
    . rename_i eq j heq hj;have hK:=ygs hE heq;have hkk:=znu 3 hK.plain hk;subst hkk
      have main : ∀ (es : List (Value × Value)) (s1 : CS), z52 eq ok (ztt j) (some (es, s1)) = some (v, s') -> s' = s1 /\ ∀ (ents : Array i9), EL (VR σ) es ents.toList -> ∃ (fr : Option (Nat × Value)) (z' : Value),
          (∀ w0:World,(jv kt k' ents.toList).run P w0=.ok fr w0)/\(∀ w0:World,(zeroValue e).run P w0=.ok z' w0) /\
          ((∃ jj v',fr=some (jj,v')/\VR σ v (if ok then .tuple #[v',.bool true] else v'))\/(fr=none/\VR σ v (if ok then .tuple #[z',.bool false] else z'))):=by
        intro es s1 hl;unfold z52 at hl;simp only at hl
        cases hz:ztt j with
        |none=>rw [hz] at hl;simp at hl
        |some z =>
          cases hg:zd3 eq es 0 with
          |none=>rw [hz,hg] at hl;simp at hl
          |some r0 =>
            rw [hz,hg] at hl;simp only [dp,du] at hl;obtain ⟨rfl,rfl⟩:=hl;refine ⟨rfl,fun ents hel=>?_⟩;obtain ⟨z',hz1,hz2⟩:=zts (hE.ti _ _ hj) hz;obtain ⟨fr,g1,g2⟩:=hK.find hel hg
            cases r0 with
            |none =>
              simp only at g2;refine ⟨fr,z',g1,hz1,.inr ⟨g2,?_⟩⟩;cases ok
              . exact hz2 σ
              . exact n6 ⟨_,rfl,hz2 σ,pr _,trivial⟩
            |some p =>
              obtain ⟨jj,v0⟩:=p;obtain ⟨v',k0,g3,g4,_⟩:=g2;refine ⟨fr,z',g1,hz1,.inl ⟨jj,v',g3,?_⟩⟩;cases ok
              . exact g4
              . exact n6 ⟨_,rfl,g4,pr _,trivial⟩
      cases r with
      |none =>
        obtain rfl:=hx.out;simp only [pz] at h;obtain ⟨rfl,hf⟩:=main _ _ h;obtain ⟨fr,z',g1,g2,g3⟩:=hf #[] trivial;rcases g3 with ⟨jj,v',rfl,g4⟩|⟨rfl,g4⟩
        . refine mw hr ?_ g4;have g1':=g1 w;simp at g1';simp [ku,ee hu,hK.check,g1']
        . refine mw hr ?_ g4;have g1':=g1 w;simp at g1'
          simp [ku,ee hu,hK.check,g1',g2]
      |some r =>
        simp only [pz] at h
        cases hq:s.readMap r with
        |none=>rw [hq] at h;simp [z52] at h
        |some p =>
          obtain ⟨es,s1⟩:=p;rw [hq] at h;obtain ⟨rfl,hf⟩:=main _ _ h;obtain ⟨b,o,z,hσ,rfl⟩:=hx.out;obtain ⟨⟨ents,clock,hb,hel,hbn⟩,_,h3,h4⟩:=znt hq hr hV hσ;obtain ⟨fr,z',g1,g2,g3⟩:=hf ents hel;have hg:(getObj b).run P w=.ok (.map ents clock) w:=by simp [getObj,Sem.run,hb]
          rcases g3 with ⟨jj,v',rfl,g4⟩|⟨rfl,g4⟩
          . exact ⟨σ,w,_,by simp [ku,ee hu,hK.check,hg,g1],g4,h3,h4⟩
          . exact ⟨σ,w,_,by simp [ku,ee hu,hK.check,hg,g1,g2],g4,h3,h4⟩
    . simp at h
  . simp at h
theorem z5r {es es':List (Value×Value)} {r:Nat} {s1:CS} (h1:s.readMap r=some (es,s1)) (h2:s1.putEs r es'=some s') (hr:Rel σ V s w) (hV:zbi V s') {b o z:Nat} (hσ:σ r (r*1024)=some (b,o,z)) :
    ∃ (ents:Array i9) (clock:Nat),w.heap[b]?=some (.map ents clock)/\EL (VR σ) es ents.toList/\Born ents clock/\∀ (en:Array i9) (cl:Nat),EL (VR σ) es' en.toList->Born en cl ->
      (setObj b (.map en cl)).run P w=.ok () { w with heap:=w.heap.setIfInBounds b (.map en cl) }/\Can s s'/\Rel σ V s' { w with heap:=w.heap.setIfInBounds b (.map en cl) }/\Ext σ V s w σ s' { w with heap:=w.heap.setIfInBounds b (.map en cl) }:=by
  obtain ⟨_,q2⟩:=zri h2
  have hVf:V r:=by
    refine hV r ?_;subst q2;rcases zi5 (lim:=s1.lim) (l:=s1.wr) (n:=r) with k|k
    . exact .inr (.inl k)
    . exact .inr (.inr k)
  have hc1:Can s s1:=by obtain ⟨_,rfl⟩:=zdx h1;exact z08 s r
  have hn1:s1.n=s.n:=by obtain ⟨_,rfl⟩:=zdx h1;rfl
  have hn2:s'.n=s1.n:=by subst q2;rfl
  have hV1:zbi V s1:=fun f hf=>hV f (by
    subst q2;rcases hf with q|q|q
    . exact .inl q
    . exact .inr (.inl (zpd q))
    . exact .inr (.inr q))
  obtain ⟨⟨ents,clock,hb,hel,hbn⟩,_,h3,h4⟩:=znt h1 hr hV1 hσ;refine ⟨ents,clock,hb,hel,hbn,fun en cl k1 k2=>?_⟩;obtain ⟨p1,p2,p3⟩:=yd3 h2 h3 hVf hσ k1 k2;exact ⟨by simp [setObj,Sem.run,hb],hc1.trans p1,p2,h4.trans p3 hc1 p1 (fun f u hu=>by omega) hr.none⟩
theorem EL.putKey {R:Value->Value->Prop} {k v:Value} (hk:zav 3 k=true):∀ {l:List (Value×Value)} {m:List i9} (j:Nat) {k0:Value},l[j]?=some (k0,v)->EL R l m->EL R (l.set j (k,v)) (m.modify j fun e=>{ e with key:=k })
  |[],_,_,_,h,_=>by simp at h
  |(_,_) :: _,e :: _,0,_,h,⟨_,_,c,d⟩=>by
    simp at h;obtain ⟨_,rfl⟩:=h;exact ⟨rfl,hk,c,d⟩
  |(_,_) :: _,e :: _,j+1,_,h,⟨a,b,c,d⟩=>⟨a,b,c,EL.putKey hk j (by simpa using h) d⟩
  |_ :: _,[],_,_,_,h=>h.elim
theorem EL.putVal {R:Value->Value->Prop} {v v':Value} (hv:R v v'):∀ {l:List (Value×Value)} {m:List i9} (j:Nat) {k v0:Value},l[j]?=some (k,v0)->EL R l m->EL R (l.set j (k,v)) (m.modify j fun e=>{ e with val:=v' })
  |[],_,_,_,_,h,_=>by simp at h
  |(_,_) :: _,e :: _,0,_,_,h,⟨a,b,_,d⟩=>by
    simp at h;obtain ⟨rfl,_⟩:=h;exact ⟨a,b,hv,d⟩
  |(_,_) :: _,e :: _,j+1,_,_,h,⟨a,b,c,d⟩=>⟨a,b,c,EL.putVal hv j (by simpa using h) d⟩
  |_ :: _,[],_,_,_,_,h=>h.elim
theorem zor (hE:zcv P Γ) (hr:Rel σ V s w) (hV:zbi V s') {t:ed} {x x' k k' y y':Value} (h:zdl P Γ s t k y x=some (v,s')) (hx:VR σ x x') (hk:VR σ k k') (hy:VR σ y y') :
    Did σ V s w ((do md t x' k' y';pure .skip:Sem Next).run P w) v s':=by
  unfold zdl at h;split at h
  . rename_i r kt e hts;have hu:=zrs hE hts;split at h
    . rename_i eq es s1 heq hq;have hK:=ygs hE heq;have hkk:=znu 3 hK.plain hk;subst hkk;split at h
      . rename_i f hf
        cases hw:s1.putEs r (ya2 es k' y f) with
        |none=>rw [hw] at h;simp [zl5] at h
        |some s2 =>
          rw [hw] at h;simp only [zl5,dp,du] at h;obtain ⟨rfl,rfl⟩:=h;obtain ⟨b,o,z,hσ,rfl⟩:=hx.out;obtain ⟨ents,clock,hb,hel,hbn,hput⟩:=z5r (P:=P) hq hw hr hV hσ;have hg:(getObj b).run P w=.ok (.map ents clock) w:=by simp [getObj,Sem.run,hb]
          obtain ⟨fr,g1,g2⟩:=hK.find hel hf
          cases f with
          |none =>
            simp only at g2;subst g2;obtain ⟨p1,_,p3,p4⟩:=hput (ents.push { key:=k',val:=y',born:=clock }) (clock+1) (by rw [Array.toList_push];exact EL.snoc (e:={ key:=k',val:=y',born:=clock }) hK.plain rfl hy hel) (hbn.push rfl);refine ⟨σ,_,.skip,undef,?_,.inr ⟨rfl,rfl⟩,om,p3,p4⟩
            simp [md,ee hu,hg,hK.check,g1,p1]
          |some p =>
            obtain ⟨j,v0⟩:=p;obtain ⟨v',k0,g3,g4,g5,g6⟩:=g2;subst g3;obtain ⟨e0,q1,q2,_,_⟩:=EL.get hel g5;rw [gq] at q1;have hold:((ents[j]?).map (·.key)).getD k'=k0:=by rw [q1];simpa using q2
            obtain ⟨p1,_,p3,p4⟩:=hput (ents.modify j fun e=>{ e with key:=k',val:=y' }) clock (by rw [m5];exact EL.put hK.plain hy j hel) (hbn.modify fun _=>rfl);refine ⟨σ,_,.skip,undef,?_,.inr ⟨rfl,rfl⟩,om,p3,p4⟩;simp [md,ee hu,hg,hK.check,g1];rw [show (Option.map (fun x=>x.key) ents[j]?).getD k'=k0 from hold,hK.stays k0 g6];simp [p1]
      . simp at h
    . simp at h
  . simp at h
theorem z28 (hE:zcv P Γ) (hr:Rel σ V s w) (hV:zbi V s') {t:ed} {x x' k k':Value} (h:zg8 P Γ s t k x=some (v,s')) (hx:VR σ x x') (hk:VR σ k k') :
    DidV σ V s w ((Instr.mapEntry t x' k').run P w) v s':=by
  unfold zg8 at h;split at h
  . rename_i r kt e hts;have hu:=zrs hE hts;split at h
    . rename_i eq j es s1 heq hj hq;have hK:=ygs hE heq;have hkk:=znu 3 hK.plain hk;subst hkk;split at h
      . rename_i f z hf hz
        cases hw:s1.putEs r (ya2 es k' (ym3 z f) f) with
        |none=>rw [hw] at h;simp [ya3] at h
        |some s2 =>
          rw [hw] at h;simp only [ya3,dp,du] at h;obtain ⟨rfl,rfl⟩:=h;obtain ⟨b,o,z0,hσ,rfl⟩:=hx.out;obtain ⟨ents,clock,hb,hel,hbn,hput⟩:=z5r (P:=P) hq hw hr hV hσ;have hg:(getObj b).run P w=.ok (.map ents clock) w:=by simp [getObj,Sem.run,hb]
          obtain ⟨fr,g1,g2⟩:=hK.find hel hf;obtain ⟨z',hz1,hz2⟩:=zts (hE.ti _ _ hj) hz
          cases f with
          |none =>
            simp only at g2;subst g2;obtain ⟨p1,_,p3,p4⟩:=hput (ents.push { key:=k',val:=z',born:=clock }) (clock+1) (by rw [Array.toList_push];exact EL.snoc (e:={ key:=k',val:=z',born:=clock }) hK.plain rfl (hz2 σ) hel) (hbn.push rfl);refine ⟨σ,_,.tuple #[z',goInt clock],?_,?_,p3,p4⟩
            . simp [Instr.mapEntry,ee hu,hg,hK.check,g1,p1,hz1]
            . refine n6 ⟨_,rfl,hz2 σ,?_,trivial⟩;have:es.length=clock:=by rw [hel.length,hbn.1,gn]
              rw [this];exact m7 _ _
          |some p =>
            obtain ⟨jj,v0⟩:=p;obtain ⟨v',k0,g3,g4,g5,g6⟩:=g2;subst g3;obtain ⟨e0,q1,q2,_,_⟩:=EL.get hel g5;rw [gq] at q1;have hold:((ents[jj]?).map (·.key)).getD k'=k0:=by rw [q1];simpa using q2
            have hborn:(Option.map (fun x=>(x.born:Int)) ents[jj]?).getD 0=(jj:Int):=by rw [q1];simp [hbn.2 jj e0 q1]
            obtain ⟨p1,_,p3,p4⟩:=hput (ents.modify jj fun e=>{ e with key:=k' }) clock (by rw [m5];exact EL.putKey hK.plain jj g5 hel) (hbn.modify fun _=>rfl);refine ⟨σ,_,.tuple #[v',goInt jj],?_,?_,p3,p4⟩
            . simp [Instr.mapEntry,ee hu,hg,hK.check,g1];rw [show (Option.map (fun x=>x.key) ents[jj]?).getD k'=k0 from hold,hK.stays k0 g6,hborn];simp [p1]
            . exact n6 ⟨_,rfl,g4,m7 _ _,trivial⟩
      . simp at h
    . simp at h
  . simp at h
theorem zwt (hr:Rel σ V s w) (hV:zbi V s') {t:ed} {x x' st st' y y':Value} (h:zfu s st y x=some (v,s')) (hx:VR σ x x') (hst:VR σ st st') (hy:VR σ y y') :
    Did σ V s w ((do Instr.entryStore t x' st' y';pure .skip:Sem Next).run P w) v s':=by
  unfold zfu at h;split at h
  . rename_i r;split at h
    . rename_i j es s1 hj hq;split at h
      . rename_i k0 v0 hes
        cases hw:s1.putEs r (es.set j (k0,y)) with
        |none=>rw [hw] at h;simp [zl5] at h
        |some s2 =>
          rw [hw] at h;simp only [zl5,dp,du] at h;obtain ⟨rfl,rfl⟩:=h;obtain ⟨b,o,z0,hσ,rfl⟩:=hx.out;obtain ⟨ents,clock,hb,hel,hbn,hput⟩:=z5r (P:=P) hq hw hr hV hσ;have hg:(getObj b).run P w=.ok (.map ents clock) w:=by simp [getObj,Sem.run,hb]
          obtain ⟨e0,q1,q2,_,_⟩:=EL.get hel hes;rw [gq] at q1
          have hst2:∃ ik,st'=.int ik (j:Int):=by
            unfold zgs at hj;split at hj
            . rename_i ik n;simp only [dp] at hj;subst hj;exact ⟨ik,hst.int⟩
            . simp at hj
          obtain ⟨ik,rfl⟩:=hst2
          have hfind:ents.findIdx? (fun e=>(e.born:Int) == (j:Int))=some j:=by
            obtain ⟨hlt,he⟩:=mn.1 q1;rw [Array.findIdx?_eq_some_iff_getElem];refine ⟨hlt,?_,fun i hi=>?_⟩
            . have:=hbn.2 j ents[j] (by simp [hlt]);simp [this]
            . have:=hbn.2 i ents[i] (by simp [show i<ents.size by omega]);simp [this];omega
          obtain ⟨p1,_,p3,p4⟩:=hput (ents.modify j fun e=>{ e with val:=y' }) clock (by rw [m5];exact EL.putVal hy j hes hel) (hbn.modify fun _=>rfl);refine ⟨σ,_,.skip,undef,?_,.inr ⟨rfl,rfl⟩,om,p3,p4⟩;simp [Instr.entryStore,hg,asInt,asIntOf,hfind,p1]
      . simp at h
    . simp at h
  . simp at h
end
structure CInv (s:CS):Prop where
  none:∀ f,s.n<=f->zaa s.obj f=zdr
  vers:∀ f p,p∈(zaa s.obj f).rows->p.1 / 1024<s.n
  lim:s.lim<=s.n
theorem CInv.lt {s:CS} (h:CInv s) {f:Nat} (hr:(zaa s.obj f).ro=false):f<s.n:=by
  by_cases hn:f<s.n
  . exact hn
  . rw [h.none f (by omega)] at hr;simp [zdr] at hr
theorem CInv.next {s s':CS} (h:CInv s) (c:Can s s'):CInv s':=⟨c.none h.none,c.vers h.vers,by rw [c.lim];exact i8 h.lim c.n⟩
theorem zi8 {s s':CS} {a:Addr} {vs:List Value} (hI:CInv s) (h:s.write a vs=some s'):Can s s':=by
  obtain ⟨cs,h1,h2,h3,_,h4⟩:=zkt h;exact zlx (x:=⟨false,[(ol a,splice cs a.off vs)],none,none⟩) h1 rfl (hI.lt h1) s.n (dz _) (fun hv p hp=>by simp at hp;subst hp;have:=hv _ _ (zjs h2);exact this) (by rw [h4])
theorem z3q {s s':CS} {a:Addr} {tag stop need:Nat} {cells:List Value} {v:Value} (hI:CInv s) (ht:tag<1024) (h:s.grow a tag stop need cells=some (v,s')):Can s s':=by
  obtain ⟨cs,h1,h2,_,_,h4⟩:=zm9 h;obtain ⟨_,_,d2,_⟩:=zj0 h2
  exact zlx (x:=⟨false,(s.n*1024+tag,cells) :: zgu (zaa s.obj a.block).rows (ol a),none,none⟩) h1 rfl (hI.lt h1) (s.n+1) (by omega) (fun hv p hp=>by
    rcases ib.1 hp with rfl|hp
    . simp only;omega
    . have:=hv _ p (d2 p hp);omega) (by rw [h4])
theorem yau {s s':CS} {r:Nat} {k v:Value} (hI:CInv s) (h:s.setMap r k v=some s'):Can s s':=by
  obtain ⟨es,s1,es',h1,h2,hms,h3⟩:=zlp h;obtain ⟨h4,rfl⟩:=zdx h1;have:=zlx (s':={ s with n:=s.n,obj:=zal s.obj r ⟨false,[],some es',none⟩,wr:=ins s.lim s.wr r }) h2 rfl (hI.lt h2) s.n (dz _) (fun _ p hp=>by simp at hp) rfl;rw [h3];exact ⟨this.n,this.lim,fun _ h=>zpd h,this.wr,this.same,this.ro,this.none,this.vers,this.wlt⟩
theorem zdm {s s':CS} {r:Nat} {es:List (Value×Value)} (h:s.readMap r=some (es,s')):Can s s':=by
  obtain ⟨_,rfl⟩:=zdx h;exact z08 s r
section
variable {P:ep} {Γ:Env} {s s':CS} {v:Value}
theorem zlu {x:Option Value} (h:retC s x=some (v,s')):Can s s':=by rw [(zhl h).2];exact f5 _
theorem z77 {x:Option (Addr×CS)} (hx:∀ a s1,x=some (a,s1)->Can s s1) (h:ptrC x=some (v,s')):Can s s':=by
  obtain ⟨a,h1,_⟩:=zux h;exact hx _ _ h1
theorem zk6 {x:Option (Addr×CS)} {len cap:Nat} (hx:∀ a s1,x=some (a,s1)->Can s s1) (h:zhp len cap x=some (v,s')):Can s s':=by
  obtain ⟨a,h1,_⟩:=zhw h;exact hx _ _ h1
theorem zpb {i:TI} {a:Addr} (h:s.loadVar i a=some (v,s')):Can s s':=by
  unfold CS.loadVar at h
  cases hq:s.readRow a with
  |none=>rw [hq] at h;simp at h
  |some p =>
    obtain ⟨cs,s1⟩:=p;rw [hq] at h;simp only at h;split at h
    . simp only [dp,du] at h;rw [<- h.2];exact z0b hq
    . simp at h
theorem zrm {ρ:d8->Value} {o:Oper} {x:Option Value} (h:zf9 P ρ o s x=some (v,s')):Can s s':=by
  unfold zf9 at h
  cases x with
  |some y=>simp only [dp,du] at h;rw [<- h.2];exact f5 _
  |none=>exact zlu h
theorem z9q {size:Nat} {e:Bool} {a:Addr} {x:Option (Nat×Nat×Nat)} (h:cutC s size e a x=some (v,s')):Can s s':=by
  obtain ⟨_,_,_,_,_,_,rfl⟩:=zv5 h;exact f5 _
theorem zza {d:je} {a:Addr} {lo hi mx:Option Value} (h:zov Γ s d a lo hi mx=some (v,s')):Can s s':=by
  unfold zov at h;split at h
  . split at h
    . rw [zb0] at h;split at h
      . exact z9q h
      . simp at h
    . simp at h
  . simp at h
theorem ybu (hI:CInv s) {size bytes:Nat} {base:Option Addr} {len cap:Nat} {y:Value} (h:s.append size bytes base len cap y=some (v,s')):Can s s':=by
  unfold CS.append at h;split at h
  . simp at h
  . rename_i n hn;split at h
    . simp at h
    . rename_i new s1 hq;have c1:=(zel (σ:=fun _ _=>none) (V:=fun _=>True) (w:=default) hq).1;have hI1:=hI.next c1
      simp only at h
      cases hb:(fb 1000000000 ((len+n)*(bytes+1)) || d7 size 0 || fg 1000 size || !(new.all oneC)) with
      |true=>rw [hb] at h;simp at h
      |false =>
        rw [hb] at h;simp only [cond_false] at h
        have hsz:size<1000:=by
          by_cases hh:size<1000
          . exact hh
          . simp only [jl] at hb;rw [zax.2 (by omega)] at hb;simp at hb
        cases base with
        |none =>
          simp only at h
          cases hn0:d7 n 0 with
          |true=>rw [hn0] at h;simp only [cond_true,dp,du] at h;rw [<- h.2];exact c1
          |false=>rw [hn0] at h;simp only [cond_false] at h;exact c1.trans (zk6 (fun a s2 hx=>zf3 (by omega) hx) h)
        |some a =>
          simp only at h
          cases hroom:fg (len+n) cap with
          |true =>
            rw [hroom] at h;simp only [cond_true] at h
            cases hn0:d7 n 0 with
            |true=>rw [hn0] at h;simp only [cond_true,dp,du] at h;rw [<- h.2];exact c1
            |false =>
              rw [hn0] at h;simp only [cond_false] at h
              cases hw:s1.write (pq a (len*size)) new with
              |none=>rw [hw] at h;simp at h
              |some s2 =>
                rw [hw] at h;simp only [dp,du] at h;rw [<- h.2];exact c1.trans (zi8 hI1 hw)
          |false =>
            rw [hroom] at h;simp only [cond_false] at h
            cases hold:(bif d7 len 0 then some ([],s1) else s1.firstCells size len (.slice (some a) len cap)) with
            |none=>rw [hold] at h;simp at h
            |some p =>
              obtain ⟨old,s2⟩:=p;rw [hold] at h;simp only at h
              have c2:Can s1 s2:=by
                cases hl0:d7 len 0 with
                |true =>
                  rw [hl0] at hold;simp only [cond_true,dp,du] at hold;rw [<- hold.2];exact f5 _
                |false =>
                  rw [hl0] at hold;simp only [cond_false] at hold;exact (zel (σ:=fun _ _=>none) (V:=fun _=>True) (w:=default) hold).1
              refine c1.trans (c2.trans ?_)
              cases ht0:d7 (ol a % 1024) 0 with
              |true=>rw [ht0] at h;simp only [cond_true] at h;exact zk6 (fun a s2 hx=>zf3 (by omega) hx) h
              |false =>
                rw [ht0] at h;simp only [cond_false] at h
                cases ht1:d7 (ol a % 1024) (size+1) with
                |true=>rw [ht1] at h;simp only [cond_true] at h;exact z3q (hI1.next c2) (by omega) h
                |false=>rw [ht1] at h;simp at h
theorem zou {s1:CS} {size n:Nat} {y:Value} {new:List Value} (h:s.firstCells size n y=some (new,s1)):Can s s1:=(zel (σ:=fun _ _=>none) (V:=fun _=>True) (w:=default) h).1
theorem zbm {x:Value} {s1:CS} (h:some (x,s1)=some (v,s')) (c:Can s s1):Can s s':=by
  simp only [dp,du] at h;rw [<- h.2];exact c
theorem zdp {α:Type} {b:Bool} {x:Option α} {y:α} (h:(bif b then x else none)=some y):b=true/\x=some y:=by
  cases b
  . simp at h
  . exact ⟨rfl,h⟩
theorem za8 {α:Type} {b:Bool} {x:Option α} {y:α} (h:sel b x none=some y):b=true/\x=some y:=by
  cases b
  . simp [sel] at h
  . exact ⟨rfl,h⟩
theorem zq1 {x:Option CS} (hx:∀ s1,x=some s1->Can s s1) (h:zl5 x=some (v,s')):Can s s':=by
  cases x with
  |none=>simp [zl5] at h
  |some s1=>exact (hx s1 rfl).trans (zbm h (f5 _))
theorem yg1 (hI:CInv s) {size n:Nat} {base:Option Addr} {x:Option (List Value×CS)} (hx:∀ cs s1,x=some (cs,s1)->Can s s1) (h:ybn size n base x=some (v,s')):Can s s':=by
  unfold ybn at h
  cases x with
  |none=>simp at h
  |some p =>
    obtain ⟨cs,s1⟩:=p;simp only at h;have c1:=hx cs s1 rfl
    cases hb:d7 (n*size) 0 with
    |true=>rw [hb] at h;exact c1.trans (zbm h (f5 _))
    |false =>
      rw [hb] at h;simp only [cond_false] at h
      cases base with
      |none=>simp at h
      |some a =>
        simp only at h
        cases hw:s1.write a cs with
        |none=>rw [hw] at h;simp at h
        |some s2=>rw [hw] at h;exact c1.trans ((zi8 (hI.next c1) hw).trans (zbm h (f5 _)))
theorem zu4 (hI:CInv s) {t:ed} {k y x:Value} (h:zc6 Γ s t k y x=some (v,s')):Can s s':=by
  unfold zc6 at h;split at h
  . split at h
    . split at h
      . obtain ⟨_,h⟩:=za8 h;exact zq1 (fun s1 hw=>yau hI hw) h
      . simp at h
    . simp at h
  . simp at h
theorem zp6 {r:Nat} {es:List (Value×Value)} (hI:CInv s) (h:s.putEs r es=some s'):Can s s':=by
  obtain ⟨h2,h3⟩:=zri h;subst h3;exact zlx (s':={ s with n:=s.n,obj:=zal s.obj r ⟨false,[],some es,none⟩,wr:=ins s.lim s.wr r }) h2 rfl (hI.lt h2) s.n (dz _) (fun _ p hp=>by simp at hp) rfl
theorem z2e {r:Option Nat} {es:List (Value×Value)} (h:s.readMapO r=some (es,s')):Can s s':=by
  cases r with
  |none=>simp only [pz,dp,du] at h;rw [<- h.2];exact f5 _
  |some r=>exact zdm h
theorem z51 {t:ed} {x k:Value} {ok:Bool} (h:zft P Γ s t x k ok=some (v,s')):Can s s':=by
  unfold zft at h;split at h
  . split at h
    . unfold z52 at h;split at h
      . rename_i es s1 hq;split at h
        . exact (z2e hq).trans (zbm h (f5 _))
        . simp at h
      . simp at h
    . simp at h
  . simp at h
theorem zx9 (hI:CInv s) {t:ed} {k y x:Value} (h:zdl P Γ s t k y x=some (v,s')):Can s s':=by
  unfold zdl at h;split at h
  . split at h
    . rename_i eq es s1 heq hq;split at h
      . exact (zdm hq).trans (zq1 (fun s2 hw=>zp6 (hI.next (zdm hq)) hw) h)
      . simp at h
    . simp at h
  . simp at h
theorem yeh {x:Option CS} {y:Value} (hx:∀ s1,x=some s1->Can s s1) (h:ya3 y x=some (v,s')):Can s s':=by
  cases x with
  |none=>simp [ya3] at h
  |some s1=>exact (hx s1 rfl).trans (zbm h (f5 _))
theorem z29 (hI:CInv s) {t:ed} {k x:Value} (h:zg8 P Γ s t k x=some (v,s')):Can s s':=by
  unfold zg8 at h;split at h
  . split at h
    . rename_i eq j es s1 heq hj hq;split at h
      . exact (zdm hq).trans (yeh (fun s2 hw=>zp6 (hI.next (zdm hq)) hw) h)
      . simp at h
    . simp at h
  . simp at h
theorem zwu (hI:CInv s) {st y x:Value} (h:zfu s st y x=some (v,s')):Can s s':=by
  unfold zfu at h;split at h
  . split at h
    . rename_i j es s1 hj hq;split at h
      . exact (zdm hq).trans (zq1 (fun s2 hw=>zp6 (hI.next (zdm hq)) hw) h)
      . simp at h
    . simp at h
  . simp at h
theorem zi3 {α:Type} {a b:Option α} {x:α} (h:orW a b=some x):a=some x\/b=some x:=by
  cases a with
  |none=>exact .inr h
  |some y=>exact .inl h
theorem yoa (hI:CInv s) {call:zc1} (hcall:∀ f args s v s',call f args s=some (v,s')->CInv s->Can s s') {ρ:d8->Value} {o:Oper} (h:cop P Γ call ρ o s=some (v,s')):Can s s':=by
  unfold cop at h;split at h
  . exact zbm h (f5 _)
  . exact zbm h (f5 _)
  . unfold zse at h;split at h
    . exact zbm h (f5 _)
    . simp at h
  . unfold zko at h;split at h
    . exact z77 (fun a s1 hx=>zf3 (by omega) hx) h
    . simp at h
  . exact z77 (fun a s1 hx=>zf3 (by omega) hx) h
  . unfold zio at h;split at h
    . split at h
      . obtain ⟨_,h⟩:=za8 h;obtain ⟨_,_,_,rfl⟩:=znh h;exact f5 _
      . split at h
        . obtain ⟨_,_,_,rfl⟩:=znh h;exact f5 _
        . simp at h
      . simp at h
    . simp at h
  . unfold zce at h;split at h
    . obtain ⟨_,h⟩:=zdp h;split at h
      . exact zk6 (fun a s1 hx=>zf3 (by omega) hx) h
      . simp at h
    . simp at h
  . unfold zop at h;split at h
    . split at h
      . exact zpb h
      . simp at h
    . simp at h
  . unfold zkm at h;split at h
    . split at h
      . obtain ⟨_,h⟩:=zdp h;exact zq1 (fun s1 hw=>zi8 hI hw) h
      . simp at h
    . simp at h
  . unfold zjh at h;split at h
    . exact zbm h (f5 _)
    . exact zbm h (f5 _)
    . simp at h
  . unfold zwr at h;split at h
    . split at h
      . split at h
        . obtain ⟨_,h⟩:=zdp h;exact zbm h (f5 _)
        . simp at h
      . simp at h
    . simp at h
  . exact zbm h (f5 _)
  . unfold ze3 at h;split at h
    . obtain ⟨_,h⟩:=zdp h;exact zk6 (fun a s1 hx=>zf3 (by omega) hx) h
    . simp at h
  . unfold zdo at h;split at h
    . split at h
      . split at h
        . obtain ⟨_,h⟩:=zdp h;unfold z9p at h;split at h
          . exact zbm h (f5 _)
          . simp at h
        . simp at h
      . split at h
        . split at h
          . split at h
            . split at h
              . exact zbm h (f5 _)
              . simp at h
            . simp at h
          . split at h
            . exact z9q h
            . simp at h
        . simp at h
      . split at h
        . split at h
          . exact zza h
          . simp at h
        . exact zza h
      . simp at h
    . simp at h
  . unfold zc7 at h;split at h
    . split at h
      . split at h
        . split at h
          . rename_i off size _
            cases hb:d7 size 0 with
            |true=>rw [hb] at h;simp at h
            |false=>rw [hb] at h;exact zbm h (f5 _)
          . simp at h
        . simp at h
      . simp at h
    . simp at h
  . unfold zm4 at h;split at h
    . split at h
      . split at h
        . split at h
          . split at h
            . exact zlu h
            . simp at h
          . simp at h
        . simp at h
      . simp at h
    . simp at h
  . unfold zbr at h;split at h
    . split at h
      . split at h
        . split at h
          . rw [(znp h).2.2];exact f5 _
          . simp at h
        . simp at h
      . split at h
        . split at h
          . rw [(znp h).2.2];exact f5 _
          . simp at h
        . simp at h
      . simp at h
    . simp at h
  . unfold zkn at h;split at h
    . split at h
      . split at h
        . split at h
          . obtain ⟨_,h⟩:=zdp h;exact zlu h
          . simp at h
        . simp at h
      . split at h
        . split at h
          . exact zbm h (f5 _)
          . simp at h
        . simp at h
      . simp at h
    . simp at h
  . unfold zgr at h;split at h
    . exact zlu h
    . simp at h
  . exact zrm h
  . unfold zdy at h;split at h
    . split at h
      . split at h
        . exact zrm h
        . simp at h
      . split at h
        . obtain ⟨_,h⟩:=zdp h;exact zk6 (fun a s1 hx=>zf3 (by omega) hx) h
        . exact zbm h (f5 _)
        . simp at h
      . split at h
        . obtain ⟨_,h⟩:=zdp h;rename_i a n c _ _ _ _;unfold strC at h;split at h
          . split at h
            . rename_i l s1 hq _ _ _;exact (zou hq).trans (zbm h (f5 _))
            . simp at h
          . simp at h
        . split at h
          . unfold ye0 at h;split at h
            . rename_i s1 hq;obtain ⟨_,hq⟩:=zdp hq;exact (zi8 hI hq).trans (zbm h (f5 _))
            . simp at h
          . simp at h
        . simp at h
      . exact zlu h
    . simp at h
  . unfold zld at h;split at h
    . exact zbm h (f5 _)
    . exact zrm h
  . obtain ⟨hn,_,hs⟩:=z3a h;exact zrp hn (fun p hp=>by simp at hp) hs
  . rcases zi3 h with h|h;rotate_left
    . exact z51 h
    unfold zgx at h;split at h
    . split at h
      . split at h
        . obtain ⟨_,h⟩:=za8 h;split at h
          . unfold z54 at h;split at h
            . rename_i es s1 hq
              have c:Can s s1:=by
                split at hq
                . simp only [dp,du] at hq;rw [<- hq.2];exact f5 _
                . exact zdm hq
              split at h
              . exact c.trans (zbm h (f5 _))
              . simp at h
            . simp at h
          . simp at h
        . simp at h
      . simp at h
    . simp at h
  . rcases zi3 h with h|h
    . exact zu4 hI h
    . exact zx9 hI h
  . rcases zi3 h with h|h
    . exact zu4 hI h
    . exact zx9 hI h
  . exact z29 hI h
  . exact zwu hI h
  . unfold z0f at h;split at h
    . split at h
      . simp at h
      . exact zbm h (f5 _)
    . simp at h
  . split at h
    . unfold zme at h;split at h
      . exact hcall _ _ _ _ _ h hI
      . obtain ⟨_,h⟩:=za8 h;exact hcall _ _ _ _ _ h hI
      . simp at h
    . unfold zfv at h;split at h
      . split at h
        . obtain ⟨_,h⟩:=za8 h;unfold zc3 at h;split at h
          . split at h
            . exact ybu hI h
            . simp at h
          . simp at h
        . simp at h
      . split at h
        . unfold zp9 at h;split at h
          . split at h
            . exact yg1 hI (fun cs s1 hq=>zou hq) h
            . simp at h
          . simp at h
        . simp at h
      . split at h
        . unfold zo9 at h;split at h
          . split at h
            . unfold z9t at h;obtain ⟨_,h⟩:=zdp h;split at h
              . rename_i hw;simp only [dp,du] at h;obtain ⟨_,rfl⟩:=h;exact zi8 hI hw
              . simp at h
            . simp at h
          . simp at h
        . simp at h
      . split at h
        . unfold zmk at h;split at h
          . split at h
            . exact zbm h (f5 _)
            . exact zbm h (f5 _)
            . exact zbm h (f5 _)
            . exact zbm h (f5 _)
            . unfold z56 at h;split at h
              . rename_i hq;exact (zdm hq).trans (zbm h (f5 _))
              . simp at h
            . simp at h
          . simp at h
        . simp at h
      . exact zlu h
      . exact zlu h
      . simp at h
    . simp at h
  . simp at h
end
section
variable {P:ep} {Γ:Env} {σ:Sg} {V:Nat->Prop} {s s':CS} {w:World} {v:Value}
theorem RL.mapOps {ρ ρ':d8->Value}:∀ {l:List d8},(∀ x,x∈l->VR σ (ρ x) (ρ' x))->RL (VR σ) (l.map ρ) (l.map ρ')
  |[],_=>trivial
  |x :: l,h=>⟨h x (by simp),RL.mapOps fun y hy=>h y (by simp [hy])⟩
def yqt (P:ep) (σ:Sg) (V:Nat->Prop) (s:CS) (w:World) (call:zc1) (m:Sem Next) (v:Value) (s':CS):Prop :=
  ((∃ f args args',m.run P w=(callFunc f args').run P w/\RL (VR σ) args args'.toList/\call f args s=some (v,s'))\/∃ d b args args',m.run P w=(Instr.yield b args').run P w/\σ d (lpAt d)=some (b,0,0)/\RL (VR σ) args args'.toList/\call (zkf d) (.chan none :: args) s=some (v,s'))\/Did σ V s w (m.run P w) v s'
theorem ydr {R:Value->Value->Prop} {xs:Array Value} (h:RL R [] xs.toList):xs=#[]:=by
  cases hq:xs.toList with
  |nil=>exact Array.toList_eq_nil_iff.1 hq
  |cons _ _=>rw [hq] at h;exact absurd h (by simp [RL])
theorem yix {α:Type} {xs:Array α} {a b:α} (h:xs.toList=[a,b]):xs=#[a,b]:=j0.1 h
theorem yiy {α:Type} {xs:Array α} {a:α} (h:xs.toList=[a]):xs=#[a]:=j0.1 h
theorem zrn {ρ ρ':d8->Value} {x:Option d8} (h:∀ y,x=some y->VR σ (ρ y) (ρ' y)):OptR σ (x.map ρ) (x.map ρ'):=by
  cases x with
  |none=>trivial
  |some y=>exact h y rfl
theorem yjp (hE:zcv P Γ) (hr:Rel σ V s w) (hV:zbi V s') (hF:zd1 σ s.n s'.n) {call:zc1} {ρ ρ':d8->Value} {o:Oper} {c:Call} (ho:o.op=.call c) (hρ:∀ x,x∈o.op.operands.toList->VR σ (ρ x) (ρ' x))
    (h:(match c.callee with
      |.value f=>zme call s (c.args.toList.map ρ) (ρ f)
      |.builtin b=>zfv P Γ ρ o s b c.args.toList c.argTypes.toList
      |_=>none)=some (v,s')):yqt P σ V s w call (jo ρ' o) v s':=by
  have hargs:∀ x,x∈c.args.toList->VR σ (ρ x) (ρ' x):=fun x hx=>hρ x (by rw [ho];simp [eg,Call.operands];right;simpa using hx);have hex:jo ρ' o=(do let d <- resolve ρ' c o.type;invoke d.target d.args):=by simp [jo,ho]
  have hsel:∀ cs b,o.op≠.select cs b:=by intro cs b;rw [ho];simp
  split at h
  . rename_i f hc;have hf:VR σ (ρ f) (ρ' f):=hρ f (by rw [ho];simp [eg,Call.operands,hc]);unfold zme at h;split at h
    . rename_i g first captured hfn
      rw [hfn] at hf;obtain ⟨fn',first',captured',hf',hfn',h1,h2⟩:=hf.out;obtain rfl:=FnR.func hfn';refine .inl (.inl ⟨g,_,first'++c.args.map ρ'++captured',?_,?_,h⟩)
      . rw [hex];simp [resolve,hc,hf',Deferred.ofValue,invoke,Array.append_assoc]
      . simp only [Array.toList_append,lw];exact (h1.append (RL.mapOps hargs)).append h2
    . rename_i d first captured hfn
      rw [hfn] at hf;obtain ⟨fn',first',captured',hf',⟨b,hb,rfl⟩,h1,h2⟩:=hf.out;obtain ⟨hnil,h⟩:=za8 h;rw [dr,nr,nr] at hnil;rw [hnil.1] at h1;rw [hnil.2] at h2;obtain rfl:=ydr h1;obtain rfl:=ydr h2;refine .inl (.inr ⟨d,b,_,c.args.map ρ',?_,hb,?_,h⟩)
      . rw [hex];simp [resolve,hc,hf',Deferred.ofValue,invoke]
      . rw [lw];exact RL.mapOps hargs
    . simp at h
  . rename_i b hc;right;have hres:(resolve ρ' c o.type)=pure { target:=.builtin b c.argTypes o.type (c.args.map fun|.const _=>true|_=>false),args:=c.args.map ρ' }:=by unfold resolve;rw [hc];rfl
    unfold zfv at h;split at h
    . split at h
      . rename_i x y t tx ha ht;obtain ⟨htx,h⟩:=za8 h;have vx:=hargs x (by rw [ha];simp);have vy:=hargs y (by rw [ha];simp);have hd:=ybt (ty:=o.type) hE hr hV hF h htx vx vy;rw [hex,hres];rw [yix ha,yix ht];have:=hd.up;simpa [invoke,builtin] using this
      . simp at h
    . split at h
      . rename_i x y t tx ha ht;have vx:=hargs x (by rw [ha];simp);have vy:=hargs y (by rw [ha];simp);have hd:=yjg (ty:=o.type) (tx:=tx) hE hr hV hF h vx vy;rw [hex,hres];rw [yix ha,yix ht];have:=hd.up;simpa [invoke,builtin] using this
      . simp at h
    . split at h
      . rename_i x t ha ht;have vx:=hargs x (by rw [ha];simp);have hd:=yg9 (ty:=o.type) hE hr hV h vx;rw [hex,hres];rw [yiy ha,yiy ht];have:=hd.up;simpa [invoke,builtin] using this
      . simp at h
    . split at h
      . rename_i x t ha ht;have vx:=hargs x (by rw [ha];simp);have hd:=ynu (ty:=o.type) hE hr hV h vx;rw [hex,hres];rw [yiy ha,yiy ht];have:=hd.up;simpa [invoke,builtin] using this
      . simp at h
    . obtain ⟨h1,rfl⟩:=zhl h;obtain ⟨h2,h3⟩:=zp8 (w:=w) hsel h1 hρ;exact pe hr h2 h3
    . obtain ⟨h1,rfl⟩:=zhl h;obtain ⟨h2,h3⟩:=zp8 (w:=w) hsel h1 hρ;exact pe hr h2 h3
    . simp at h
  . simp at h
theorem yn9 (hE:zcv P Γ) (hr:Rel σ V s w) (hV:zbi V s') (hF:zd1 σ s.n s'.n) {call:zc1} {ρ ρ':d8->Value} {o:Oper} (hρ:∀ x,x∈o.op.operands.toList->VR σ (ρ x) (ρ' x))
    (h:cop P Γ call ρ o s=some (v,s')):yqt P σ V s w call (jo ρ' o) v s':=by
  obtain ⟨dst,op,type,pos,after,guard⟩:=o;unfold cop at h;simp only at hρ h
  cases op with
  |move x =>
    simp only [dp,du] at h;obtain ⟨rfl,rfl⟩:=h;exact .inr (pe hr rfl (hρ x (by simp [eg])))
  |assign x =>
    simp only [dp,du] at h;obtain ⟨rfl,rfl⟩:=h;exact .inr (pe hr rfl (hρ x (by simp [eg])))
  |pick c a b=>exact .inr (yif (P:=P) hr h (hρ a (by simp [eg])) (hρ b (by simp [eg])) (hρ c (by simp [eg])))
  |alloc e=>exact .inr (yhn hE hr hF h).up
  |box e x=>exact .inr (yom (P:=P) (e:=e) hr hF h (hρ x (by simp [eg]))).up
  |build t parts=>exact .inr (yhe hE hr h (fun p hp=>hρ p.2 (by simp [eg];exact ⟨p.1,by simpa using hp⟩))).up
  |buildSlice t n parts=>exact .inr (zwv hE hr hF h (fun p hp=>hρ p.2 (by simp [eg];exact ⟨p.1,by simpa using hp⟩))).up
  |load t x=>exact .inr (yiw hE hr hV h (hρ x (by simp [eg]))).up
  |store t x y=>exact .inr (ycu hE hr hV h (hρ x (by simp [eg])) (hρ y (by simp [eg])))
  |nilCheck x=>exact .inr (z2z (P:=P) hr rfl h (hρ x (by simp [eg])))
  |sliceToArrayPointer t x=>exact .inr (ynk hE hr h (hρ x (by simp [eg]))).up
  |makeFunc fn first captured =>
    cases fn with
    |func f =>
      simp only [dp,du] at h;obtain ⟨rfl,rfl⟩:=h;refine .inr (pe (v':=.func (.func f) (first.map ρ') (captured.map ρ')) hr (by simp [jo,Instr.makeFunc]) (n6 ⟨_,_,_,rfl,rfl,?_,?_⟩))
      . simp only [lw];exact RL.mapOps fun x hx=>hρ x (by simp [eg];left;simpa using hx)
      . simp only [lw];exact RL.mapOps fun x hx=>hρ x (by simp [eg];right;simpa using hx)
    |_=>simp at h
  |makeSlice t l c=>exact .inr (z0j hE hr hF h (hρ l (by simp [eg])) (hρ c (by simp [eg]))).up
  |slice t x lo hi mx =>
    refine .inr (yc3 hE hr h (hρ x (by simp [eg])) (zrn fun y hy=>hρ y ?_) (zrn fun y hy=>hρ y ?_) (zrn fun y hy=>hρ y ?_)).up
    . simp [eg,hy]
    . simp [eg,hy]
    . simp [eg,hy]
  |fieldAddr t x k=>exact .inr (z0t hE hr h (hρ x (by simp [eg]))).up
  |field t x k=>exact .inr (yf8 hE hr h (hρ x (by simp [eg]))).up
  |indexAddr t x ix=>exact .inr (z0n hE hr h (hρ x (by simp [eg])) (hρ ix (by simp [eg]))).up
  |index t x ix=>exact .inr (yfh hE hr h (hρ x (by simp [eg])) (hρ ix (by simp [eg]))).up
  |extract x k=>exact .inr (z6g (P:=P) hr h (hρ x (by simp [eg]))).up
  |unOp op t x =>
    refine .inr (zrl hr (by intro cs b;simp) h hρ fun y hy=>?_);obtain ⟨h1,h2⟩:=ym4 (P:=P) (w:=w) hy (hρ x (by simp [eg]));exact ⟨by simp [jo,h1],h2⟩
  |convert src dst x=>exact .inr (z6o hE hr hV hF rfl h hρ)
  |binOp op t x y yt=>exact .inr (yop hE hr rfl h hρ)
  |makeMap t r =>
    cases r with
    |some r=>simp at h
    |none =>
      obtain ⟨rfl,_,h3,h4,h5⟩:=yiv (w:=w) h hr hF;refine .inr ⟨_,_,.value (.map (some w.heap.size)),_,?_,.inl rfl,n6 ⟨_,_,_,h5,rfl⟩,h3,h4⟩;simp [jo,Instr.makeMap,newObj];rfl
  |lookup t x k ok =>
    rcases zi3 h with h|h
    . exact .inr (ya8 hE hr hV h (hρ x (by simp [eg])) (hρ k (by simp [eg]))).up
    . exact .inr (z50 hE hr hV h (hρ x (by simp [eg])) (hρ k (by simp [eg]))).up
  |mapUpdate t m k x =>
    rcases zi3 h with h|h
    . exact .inr (zqd hE hr hV h (hρ m (by simp [eg])) (hρ k (by simp [eg])) (hρ x (by simp [eg])))
    . exact .inr (zor hE hr hV h (hρ m (by simp [eg])) (hρ k (by simp [eg])) (hρ x (by simp [eg])))
  |insert t m k x =>
    rcases zi3 h with h|h
    . exact .inr (zqd hE hr hV h (hρ m (by simp [eg])) (hρ k (by simp [eg])) (hρ x (by simp [eg])))
    . exact .inr (zor hE hr hV h (hρ m (by simp [eg])) (hρ k (by simp [eg])) (hρ x (by simp [eg])))
  |mapEntry t m k=>exact .inr (z28 hE hr hV h (hρ m (by simp [eg])) (hρ k (by simp [eg]))).up
  |entryStore t m st x=>exact .inr (zwt hr hV h (hρ m (by simp [eg])) (hρ st (by simp [eg])) (hρ x (by simp [eg])))
  |makeInterface t x=>exact .inr (ye1 hE hr h (hρ x (by simp [eg]))).up
  |call c=>exact yjp hE hr hV hF rfl hρ h
  |_=>simp at h
end
def zil (G:List Nat) (σ:Sg):Prop:=∀ g,has G g=true->∃ z,σ g (g*1024)=some (g,0,z)
theorem zil.up {G:List Nat} {σ σ':Sg} (h:zil G σ) (k:Sg.le σ σ'):zil G σ':=fun g hg=>let ⟨z,hz⟩:=h g hg;⟨z,k _ _ _ hz⟩
theorem Fr.put_nt (fr:Fr) (t:Nat) (v:Value):(fr.put t v).nt=fr.nt:=by
  unfold Fr.put;rw [zb0];split<;>rfl
theorem Fr.get_put_same {fr:Fr} {t:Nat} (v:Value) (h:t<fr.nt) (h5:fr.nt<=512):(fr.put t v).get t=v:=by
  unfold Fr.put Fr.get;rw [zac.2 h,za7,zac.2 (show t<512 by omega),za7];exact Tr.get_set_same _ _ _ _
theorem Fr.get_put_other {fr:Fr} {t u:Nat} (v:Value) (h5:fr.nt<=512) (hne:t≠u):(fr.put t v).get u=fr.get u:=by
  unfold Fr.put Fr.get;rw [zb0 (fb t fr.nt)];split
  . rename_i h;have h:=zac.1 h;rw [zb0,zb0];split
    . rename_i hu;have hu:=zac.1 hu;exact Tr.get_set_other _ 9 _ _ _ hne (by show t<512;omega) (by show u<512;exact hu)
    . rfl
  . rfl
theorem Act.put_size (a:Act) (d:Option Tmp) (v:Value):(a.put d v).tmps.size=a.tmps.size:=by cases d<;>simp [Act.put]
theorem Act.put_defers' (a:Act) (d:Option Tmp) (v:Value):(a.put d v).defers=a.defers:=by cases d<;>rfl
theorem Act.getD_put_same {a:Act} {t:Nat} (v:Value) (h:t<a.tmps.size):(a.put (some t) v).tmps.getD t undef=v:=by
  simp [Act.put,h]
theorem Act.getD_put_other {a:Act} {t u:Nat} (v:Value) (hne:t≠u):(a.put (some t) v).tmps.getD u undef=a.tmps.getD u undef:=by
  simp [Act.put,Array.getElem?_setIfInBounds_ne hne]
theorem FrR.put {σ:Sg} {fr:Fr} {a:Act} {v v':Value} (h:FrR σ fr a) (hv:VR σ v v') {d:Option Tmp} (hd:∀ t,d=some t->t<fr.nt):FrR σ (putC fr d v) (a.put d v'):=by
  cases d with
  |none=>exact h
  |some t =>
    have ht:=hd t rfl;refine ⟨by rw [Act.put_size];show (fr.put t v).nt=_;rw [Fr.put_nt];exact h.size,by show (fr.put t v).nt<=512;rw [Fr.put_nt];exact h.small,fun u=>?_⟩;show VR σ ((fr.put t v).get u) _;by_cases htu:t=u
    . subst htu;rw [Fr.get_put_same v ht h.small,Act.getD_put_same v' (by rw [<- h.size];exact ht)];exact hv
    . rw [Fr.get_put_other v h.small htu,Act.getD_put_other v' htu];exact h.val u
theorem zqw {G:List Nat} {σ:Sg} {fr:Fr} {a:Act} (hG:zil G σ) {x:d8} (hx:zgq G x=true) (h:∀ t,x=.tmp t->VR σ (fr.get t) (a.tmps.getD t undef)):VR σ (zgf fr x) (a.eval x):=by
  cases x with
  |tmp t=>exact h t rfl
  |const v=>exact zwy hx
  |global g =>
    obtain ⟨z,hz⟩:=hG g hx;refine n6 ⟨g,0,z,?_,rfl⟩;exact hz
  |func f=>exact n6 ⟨_,#[],#[],rfl,rfl,trivial,trivial⟩
theorem yjd (ops:Array Oper) (j:Nat):zpg ops.toList j=(ops[j]?).bind (·.dst):=by
  unfold zpg;rw [gq];cases ops[j]?<;>rfl
theorem VR.boolR {σ:Sg} {v:Value} {b:Bool} (h:VR σ v (.bool b)):v=.bool b:=by
  have:=h.out
  cases v with
  |bool a=>have:=VR.bool h;simpa using this.symm
  |pointer a=>cases a with
    |none=>simp [zpi] at this
    |some a=>obtain ⟨_,_,_,_,hq⟩:=this;simp at hq
  |slice a n c=>cases a with
    |none=>obtain ⟨_,_,hq⟩:=this;simp at hq
    |some a=>obtain ⟨_,_,_,_,_,_,hq,_⟩:=this;simp at hq
  |map r=>cases r with
    |none=>simp [zpi] at this
    |some r=>obtain ⟨_,_,_,_,hq⟩:=this;simp at hq
  |func fn xs ys=>obtain ⟨_,_,_,hq,_⟩:=this;simp at hq
  |iface t x=>obtain ⟨_,hq,_⟩:=this;simp at hq
  |agg xs=>obtain ⟨_,hq,_⟩:=this;simp at hq
  |tuple xs=>obtain ⟨_,hq,_⟩:=this;simp at hq
  |int k n=>simp [zpi] at this
  |string s=>simp [zpi] at this
  |nilFunc=>simp [zpi] at this
  |nilIface=>simp [zpi] at this
  |float k b=>exact this.elim
  |complex k a b=>exact this.elim
  |chan r=>exact this.elim
theorem yam {σ:Sg} {fr:Fr} {a:Act} {ops:Array Oper} {o:Oper} (h:∀ g b d,o.guard=some (g,b)->zpg ops.toList g=some d->d<a.tmps.size/\VR σ (fr.get d) (a.tmps.getD d undef)) :
    Region.wanted o (yielded ops a.tmps)=zc4 ops.toList fr o:=by
  unfold zc4;unfold Region.wanted
  cases hg:o.guard with
  |none=>rfl
  |some p =>
    obtain ⟨j,want⟩:=p;simp only;unfold yielded;rw [<- yjd]
    cases hd:zpg ops.toList j with
    |none=>rfl
    |some d =>
      simp only [Option.bind_some];obtain ⟨hlt,hv⟩:=h j want d hg hd;have hget:a.tmps[d]?=some (a.tmps.getD d undef):=by simp [hlt]
      rw [hget];generalize a.tmps.getD d undef=u at hv;split
      . rename_i b hb;simp only [dp] at hb;subst hb;rw [hv.boolR];simp
      . rename_i hn;split
        . rename_i b hb;rw [hb] at hv;exact absurd (congrArg some hv.bool) (hn b)
        . rfl
def FnOk (P:ep) (G:List Nat) (call:zc1):Prop:=∀ f (args:List Value) (args':Array Value) s v s' w σ V,call f args s=some (v,s')->RL (VR σ) args args'.toList->Rel σ V s w->zbi V s'->zd1 σ s.n s'.n->CInv s->zil G σ ->
  ∃ x,(callFunc f args').run P w=.ok (.enter x args') w/\Calls P x args' w fun e w'=>∃ σ' v',e=.returned v'/\VR σ' v v'/\Rel σ' V s' w'/\Ext σ V s w σ' s' w'
def yqo (P:ep) (G:List Nat) (call:zc1):Prop:=∀ d b (args:List Value) (args':Array Value) s v s' w σ V kd,call (zkf d) (.chan none :: args) s=some (v,s')->σ d (lpAt d)=some (b,0,0)->RL (VR σ) args args'.toList->Rel σ V s w->zbi V s'->zd1 σ s.n s'.n->CInv s->zil G σ ->
  YieldAt li kd P b args' w fun e w'=>∃ σ' v',e=.returned v'/\VR σ' v v'/\Rel σ' V s' w'/\Ext σ V s w σ' s' w'
structure z44 (P:ep) (G:List Nat) (call:zc1):Prop where
  fn:FnOk P G call
  yld:yqo P G call
def ze4 (call:zc1):Prop:=∀ f args s v s',call f args s=some (v,s')->CInv s->Can s s'
section
variable {P:ep} {Γ:Env} {σ:Sg} {V:Nat->Prop} {s s':CS} {w:World} {G:List Nat} {call:zc1}
theorem zms {ops:List Oper} {o:Oper} {fr fr':Fr} (hc:ze4 call) (hI:CInv s) (h:zcj P Γ call ops o fr s=some (fr',s')):Can s s':=by
  unfold zcj at h
  cases hw:zc4 ops fr o with
  |false=>rw [hw] at h;simp only [cond_false,dp,du] at h;rw [<- h.2];exact f5 _
  |true =>
    rw [hw] at h;simp only [cond_true] at h
    cases hq:cop P Γ call (zgf fr) o s with
    |none=>rw [hq] at h;simp at h
    |some p =>
      obtain ⟨v,s1⟩:=p;rw [hq] at h;simp only [dp,du] at h;rw [<- h.2];exact yoa hI (fun f args s v s' h1 h2=>hc f args s v s' h1 h2) hq
def zjl (r:Option Nat):Fence:={ li with round:=r }
theorem ymn {r:Option Nat} {n:Nat} {f:FuncId} {args:Array Value} {w:World} {R:Ending->World->Prop}:CallsIn (zjl r) n P f args w R↔Calls P f args w R:=callsIn_wide
theorem ypk {r:Option Nat} {m n:Nat} {l:Nat} {f:FuncId} {tmps:Array Value} {assign body:Code} {w:World} {R:Ending->World->Prop} (h:RoundIn li m P l f tmps assign body w R):RoundIn (zjl r) n P l f tmps assign body w R:=⟨trivial,fun c cs _=>h.2 c cs (room_wide _)⟩
theorem yda {r:Option Nat} {o:Oper} {ρ:d8->Value} {ρ':d8->Value} {p:Value×CS} (h:cop P Γ call ρ o s=some p):o.semAt r ρ'=jo ρ' o:=by
  cases r with
  |none=>exact Oper.semAt_none _ _
  |some l =>
    refine Oper.semAt_some l _ _ fun c hc=>?_;unfold cop at h;rw [hc] at h;simp at h
variable {r:Option Nat} {kd:Nat}
theorem ycv (hE:zcv P Γ) (hC:z44 P G call) (hr:Rel σ V s w) (hV:zbi V s') (hF:zd1 σ s.n s'.n) (hI:CInv s) (hG:zil G σ) {ops:Array Oper} {o:Oper} {fr fr':Fr} {a:Act} (hops:o.op.operands.toList.all (zgq G)=true)
    (hnames:∀ t,Operand.tmp t∈o.op.operands.toList->VR σ (fr.get t) (a.tmps.getD t undef)) (hguard:∀ g b d,o.guard=some (g,b)->zpg ops.toList g=some d->d<a.tmps.size/\VR σ (fr.get d) (a.tmps.getD d undef))
    (h:zcj P Γ call ops.toList o fr s=some (fr',s')) {K:Act->World->Prop} {Q:Exit->Act->World->Prop}
    (hK:∀ σ' v v' w',fr'=putC fr o.dst v->VR σ' v v'->Rel σ' V s' w'->Ext σ V s w σ' s' w'->K (a.put o.dst v') w') :
    if Region.wanted o (yielded ops a.tmps) then o.wpIn (zjl r) kd P a w K Q else (∀ f,o.about P w a.eval=some f->(zjl r).fn f)/\K (a.put o.dst undef) w:=by
  rw [yam (fr:=fr) hguard];unfold zcj at h
  cases hw:zc4 ops.toList fr o with
  |false =>
    rw [hw] at h;simp only [cond_false,dp,du] at h;obtain ⟨rfl,rfl⟩:=h;rw [zAd (by simp)];exact ⟨fun _ _=>trivial,hK σ undef undef w rfl om hr (m8 _ _ _ _)⟩
  |true =>
    rw [hw] at h;simp only [cond_true] at h;rw [zAc rfl]
    cases hq:cop P Γ call (zgf fr) o s with
    |none=>rw [hq] at h;simp at h
    |some p =>
      obtain ⟨v,s1⟩:=p;rw [hq] at h;simp only [dp,du] at h;obtain ⟨rfl,rfl⟩:=h;have hρ:∀ x,x∈o.op.operands.toList->VR σ (zgf fr x) (a.eval x):=fun x hx=>zqw hG (ez.1 hops x hx) fun t ht=>hnames t (by rw [<- ht];exact hx);refine ⟨fun _ _=>trivial,?_⟩;show o.uponIn (zjl r) kd P a K Q ((o.semAt r a.eval).run P w);rw [yda hq];rcases yn9 hE hr hV hF hρ hq with (⟨f,args,args',h1,h2,h3⟩|⟨dd,b,args,args',h1,h2,h3,h4⟩)|⟨σ',w',nx,v',h1,h2,h3,h4,h5⟩;rotate_left
      . obtain ⟨fn0,tmps,assign,body,hy,hR⟩:=hC.yld dd b args args' s v s1 w σ V (kd - 1) h4 h2 h3 hr hV hF hI hG;rw [h1,hy,Oper.uponIn_round];refine ⟨fun hd=>absurd hd (by simp [zjl,li]),ypk (hR.mono ?_)⟩;rintro e w' ⟨σ',v',rfl,k1,k2,k3⟩;exact hK σ' v v' w' rfl k1 k2 k3
      rotate_left
      . obtain ⟨x,h4,h5⟩:=hC.fn f args args' s v s1 w σ V h3 h2 hr hV hF hI hG;rw [h1,h4,Oper.uponIn_enter];refine ⟨fun hd=>absurd hd (by simp [zjl,li]),ymn.2 (h5.mono ?_)⟩;rintro e w' ⟨σ',v',rfl,k1,k2,k3⟩;exact hK σ' v v' w' rfl k1 k2 k3
      . rw [h1];rcases h2 with rfl|⟨rfl,rfl⟩
        . exact hK σ' v v' w' rfl h3 h4 h5
        . exact hK σ' v undef w' rfl h3 h4 h5
theorem z5l {ops:List Oper} (hc:ze4 call):∀ {l:List Oper} {fr fr':Fr} {s s':CS},CInv s->runC P Γ call ops l fr s=some (fr',s')->Can s s'
  |[],fr,fr',s,s',hI,h=>by simp only [runC,dp,du] at h;rw [<- h.2];exact f5 _
  |o :: l,fr,fr',s,s',hI,h=>by
    simp only [runC] at h
    cases hq:zcj P Γ call ops o fr s with
    |none=>rw [hq] at h;simp at h
    |some p =>
      obtain ⟨fr1,s1⟩:=p;rw [hq] at h;have c1:=zms hc hI hq;exact c1.trans (z5l hc (hI.next c1) h)
theorem ykq (hE:zcv P Γ) (hC:z44 P G call) (hc:ze4 call) {ops:Array Oper} {Q:Exit->Act->World->Prop}:∀ {l:List Oper} {σ:Sg} {fr fr':Fr} {s s':CS} {w:World} {a:Act},(∀ o,o∈l->zj8 G fr.nt o=true)->(∀ o,o∈ops.toList->zj8 G fr.nt o=true) ->
    Rel σ V s w->zbi V s'->zd1 σ s.n s'.n->CInv s->zil G σ->FrR σ fr a->runC P Γ call ops.toList l fr s=some (fr',s') ->
    (∀ σ' a' w',FrR σ' fr' a'->a'.defers=a.defers->Rel σ' V s' w'->Ext σ V s w σ' s' w'->Q .normal a' w')->wpListIn (zjl r) kd P ops Q l a w
  |[],σ,fr,fr',s,s',w,a,hl,hl2,hr,hV,hF,hI,hG,hfr,h,hQ=>by
    simp only [runC,dp,du] at h;obtain ⟨rfl,rfl⟩:=h;exact hQ σ a w hfr rfl hr (m8 _ _ _ _)
  |o :: l,σ,fr,fr',s,s',w,a,hl,hl2,hr,hV,hF,hI,hG,hfr,h,hQ=>by
    simp only [runC] at h
    cases hq:zcj P Γ call ops.toList o fr s with
    |none=>rw [hq] at h;simp at h
    |some p =>
      obtain ⟨fr1,s1⟩:=p;rw [hq] at h;simp only at h;have c1:=zms hc hI hq;have hI1:=hI.next c1
      have c2:=z5l hc hI1 h;have ho:=hl o (by simp);unfold zj8 at ho;rw [dr] at ho;unfold wpListIn;refine ycv hE hC hr (hV.back c2) (hF.mono (dz _) c2.n) hI hG ho.1 (fun t _=>hfr.val t) ?_ hq ?_
      . intro g b d _ hd;refine ⟨?_,hfr.val d⟩;unfold zpg at hd
        cases hog:ops.toList[g]? with
        |none=>rw [hog] at hd;simp at hd
        |some og =>
          rw [hog] at hd;simp only at hd;have:=hl2 og (gi hog);unfold zj8 at this;rw [dr,hd] at this;rw [<- hfr.size];exact zac.1 this.2
      . intro σ' v v' w' hf hv hr' he';subst hf
        have hd:∀ t,o.dst=some t->t<fr.nt:=by
          intro t ht;have:=ho.2;rw [ht] at this;exact zac.1 this
        have hfr':=(hfr.up he'.le).put (v:=v) (v':=v') hv (d:=o.dst) hd
        have hnt:(putC fr o.dst v).nt=fr.nt:=by
          cases o.dst with
          |none=>rfl
          |some t=>exact Fr.put_nt _ _ _
        refine ykq hE hC hc (l:=l) (by rw [hnt];exact fun o' ho'=>hl o' (by simp [ho'])) (by rw [hnt];exact hl2) hr' hV (hF.next he' c1) hI1 (hG.up he'.le) hfr' h ?_;intro σ2 a2 w2 k1 k2 k3 k4;exact hQ σ2 a2 w2 k1 (by rw [k2,Act.put_defers']) k3 (he'.trans k4 c1 c2 hF hI.none)
end
theorem zl0 {lim:Nat}:∀ {xs l:List Nat} {f:Nat},f∈l->f∈zve lim l xs
  |[],_,_,h=>h
  |_ :: xs,_,_,h=>zl0 (xs:=xs) (zpd h)
theorem zjj {lim:Nat}:∀ {xs l:List Nat} {f:Nat},f∈xs->f<lim->f∈zve lim l xs
  |x :: xs,l,f,h,hl=>by
    rcases ib.1 h with rfl|h
    . refine zl0 (xs:=xs) ?_;rcases zi5 (lim:=lim) (l:=l) (n:=f) with h|h
      . exact h
      . omega
    . exact zjj (xs:=xs) h hl
theorem zpa:∀ {l:List Nat} {n:Nat},n∈l->has l n=true
  |x :: l,n,h=>by
    simp only [has]
    cases hb:d7 x n with
    |true=>rfl
    |false =>
      simp only [cond_false];rcases ib.1 h with rfl|h
      . rw [Nat.beq_refl] at hb;simp at hb
      . exact zpa h
theorem zrq {a b:List Nat} (h:meet a b=false) {f:Nat} (ha:f∈a):f ∉ b:=by
  intro hb;unfold meet at h;rw [nj] at h;exact h f ha (zpa hb)
theorem zr2 {lo hi:Nat} {l:List Nat} (h:zw2 lo hi l=false) {f:Nat} (hf:f∈l):¬ (lo<=f/\f<hi):=by
  intro hb;unfold zw2 at h;rw [nj] at h;exact h f hf (by rw [zax.2 hb.1,zac.2 hb.2];rfl)
theorem z8i {α:Type} (d:α):∀ (l:List α) (j i:Nat),nth d (l.take j) i=if i<j then nth d l i else d
  |[],j,i=>by simp [nth]
  |x :: l,0,i=>by simp [nth]
  |x :: l,j+1,0=>by simp [nth]
  |x :: l,j+1,i+1=>by
    simp only [List.take_succ_cons,nth];rw [z8i d l j i];by_cases h:i<j
    . rw [zAc h,zAc (by omega)]
    . rw [zAd h,zAd (by omega)]
theorem zx3 {α:Type} (d:α):∀ (l m:List α) (i:Nat),nth d (l++m) (l.length+i)=nth d m i
  |[],m,i=>by simp
  |x :: l,m,i=>by
    show nth d (x :: (l++m)) ((l.length+1)+i)=_;rw [show l.length+1+i=(l.length+i)+1 by omega];exact zx3 d l m i
theorem zx8:∀ (l:List Oper) (ms:List Nat),(∃ r,zdq l ms=ms++r)/\∀ (k:Nat) (o:Oper),l[k]?=some o->nth 0 (zdq l ms) (ms.length+k)=zoq ((zdq l ms).take (ms.length+k)) o.after.toList
  |[],ms=>⟨⟨[],by simp [zdq]⟩,fun k o h=>by simp at h⟩
  |o :: l,ms=>by
    obtain ⟨⟨r,hr⟩,hs⟩:=zx8 l (ms++[zoq ms o.after.toList]);refine ⟨⟨zoq ms o.after.toList :: r,by simp only [zdq];rw [hr];simp⟩,fun k o' h=>?_⟩;simp only [zdq]
    cases k with
    |zero =>
      simp only [fl,dp] at h;subst h;rw [hr,List.append_assoc,zx3]
      simp only [gm,List.take_left,List.singleton_append,nth]
    |succ k =>
      have:=hs k o' (by simpa using h);rw [er,List.length_singleton,show ms.length+1+k=ms.length+(k+1) by omega] at this;exact this
theorem zrr:∀ {es:List Edge} {ms:List Nat} {i:Nat},ft (zoq ms es) i=true->∃ e,e∈es/\jp .any e=true/\(i=e.on\/ft (nth 0 ms e.on) i=true)
  |e :: es,ms,i,h=>by
    simp only [zoq] at h
    cases hb:jp .any e with
    |false =>
      rw [hb] at h;obtain ⟨e',h1,h2,h3⟩:=zrr (es:=es) h;exact ⟨e',by simp [h1],h2,h3⟩
    |true =>
      rw [hb] at h;have h':ft (2 ^ e.on ||| nth 0 ms e.on ||| zoq ms es) i=true:=h;rw [Nat.testBit_or,Nat.testBit_or,jm,jm] at h';rcases h' with (h' | h')|h'
      . refine ⟨e,by simp,hb,.inl ?_⟩;rw [Nat.testBit_two_pow] at h';exact (of_decide_eq_true h').symm
      . exact ⟨e,by simp,hb,.inr h'⟩
      . obtain ⟨e',h1,h2,h3⟩:=zrr (es:=es) h';exact ⟨e',by simp [h1],h2,h3⟩
  |[],ms,i,h=>by simp [zoq] at h
theorem zu2 {ops:List Oper} {E:Nat->Prop} (hE:∀ (j:Nat) (o:Oper),ops[j]?=some o->E j->∀ e,e∈o.after.toList->jp .any e=true->E e.on) :
    ∀ (j:Nat) (o:Oper),ops[j]?=some o->(∀ e,e∈o.after.toList->jp .any e=true->E e.on)->∀ i,ft (nth 0 (zdq ops []) j) i=true->E i:=by
  intro j
  induction j using Nat.strongRecOn with
  |_ j ih =>
    intro o ho hp i hi;have:=(zx8 ops []).2 j o ho;simp only [List.length_nil,fz] at this;rw [this] at hi;obtain ⟨e,h1,h2,h3⟩:=zrr hi;have he:=hp e h1 h2;rcases h3 with rfl|h3
    . exact he
    . rw [z8i] at h3;split at h3
      . rename_i hlt;have hj:=(d9.1 ho).1;obtain ⟨o',ho'⟩:∃ o',ops[e.on]?=some o':=⟨_,dv (by omega)⟩;exact ih e.on hlt o' ho' (hE e.on o' ho' he) i h3
      . simp at h3
theorem zsr {α:Type} {bad:α->α->Bool} {m:Nat} {y:α}:∀ {l:List α} {i:Nat},zh3 bad m y l i=true->∀ (k:Nat) (x:α),l[k]?=some x->ft m (i+k)=true\/bad x y=false
  |x :: l,i,h,k,x',hk=>by
    simp only [zh3,dr,jm] at h
    cases k with
    |zero =>
      simp only [fl,dp] at hk;subst hk;rcases h.1 with h|h
      . exact .inl h
      . exact .inr (by simpa using h)
    |succ k =>
      have:=zsr h.2 k x' (by simpa using hk)
      rwa [show i+1+k=i+(k+1) by omega] at this
  |[],_,_,k,x,hk=>by simp at hk
theorem zf0 {α:Type} {bad:α->α->Bool} {ms:List Nat}:∀ {l done:List α},zgh bad done l ms=true->∀ (i j:Nat) (x y:α),i<j->done.length<=j->(done++l)[i]?=some x->(done++l)[j]?=some y->ft (nth 0 ms j) i=true\/bad x y=false
  |[],done,_,i,j,x,y,hij,hd,hx,hy=>by
    have:=(d9.1 hy).1;simp at this;omega
  |z :: l,done,h,i,j,x,y,hij,hd,hx,hy=>by
    simp only [zgh,dr] at h;by_cases hj:j=done.length
    . subst hj;rw [fq (dz _)] at hy;simp only [Nat.sub_self,fl,dp] at hy;subst hy;rw [eu hij] at hx;have:=zsr h.1 i x hx;simpa using this
    . exact zf0 h.2 i j x y hij (by simp;omega) (by simpa using hx) (by simpa using hy)
theorem zy4:∀ {l:List Oper} {i:Nat},z0x l i=true->∀ (k:Nat) (o:Oper),l[k]?=some o->∀ e,e∈o.after.toList->jp .any e=true->e.on<i+k
  |o :: l,i,h,k,o',hk,e,he,hb=>by
    simp only [z0x,dr] at h
    cases k with
    |zero =>
      simp only [fl,dp] at hk;subst hk;have:=ez.1 h.1 e he;rw [hb] at this;simp only [Bool.not_true,Bool.false_or] at this;have:=zac.1 this;omega
    |succ k =>
      have:=zy4 h.2 k o' (by simpa using hk) e he hb;omega
  |[],_,_,k,o,hk,_,_,_=>by simp at hk
theorem zw7 {ops:List Oper} {x y:Oper} (h:zw8 ops x y=false) {d:Nat} (hx:x.dst=some d):d ∉ zfh ops y/\y.dst≠some d:=by
  unfold zw8 at h;rw [hx,jl] at h;simp only [jl] at h;refine ⟨fun k=>by rw [zpa k] at h;simp at h,fun k=>?_⟩;rw [k] at h;simp at h
theorem z1o {ops:List Oper} {x y:Oper} (h:zw8 ops x y=false) {d:Nat} (hy:y.dst=some d):d ∉ zfh ops x:=by
  unfold zw8 at h;rw [hy,jl] at h;intro k;have h2:has (zfh ops x) d=false:=h.2;rw [zpa k] at h2;simp at h2
theorem z6s {x y:Lg} (h:clash x y=false):(∀ f,f∈x.wr->f ∉ y.rd/\f ∉ y.wr)/\(∀ f,f∈x.rd->f ∉ y.wr)/\(∀ f,(f∈y.rd\/f∈y.wr)->¬ (x.lo<=f/\f<x.hi)):=by
  unfold clash at h;simp only [jl] at h;obtain ⟨⟨⟨⟨h1,h2⟩,h3⟩,h4⟩,h5⟩:=h;exact ⟨fun f hf=>⟨zrq h1 hf,zrq h2 hf⟩,fun f hf=>zrq h3 hf,fun f hf=>hf.elim (zr2 h4) (zr2 h5)⟩
theorem z24 (p:Nat->Prop):∀ n,(∀ k,k<n->¬ p k)\/∃ m,m<n/\p m/\∀ k,k<n->p k->k<=m
  |0=>.inl fun k hk=>by omega
  |n+1=>by
    by_cases hp:p n
    . exact .inr ⟨n,by omega,hp,fun k hk _=>by omega⟩
    . rcases z24 p n with h|⟨m,h1,h2,h3⟩
      . refine .inl fun k hk hpk=>?_;by_cases hkn:k=n
        . subst hkn;exact hp hpk
        . exact h k (by omega) hpk
      . refine .inr ⟨m,by omega,h2,fun k hk hpk=>?_⟩;by_cases hkn:k=n
        . subst hkn;exact absurd hpk hp
        . exact h3 k (by omega) hpk
structure yqp (P:ep) (Γ:Env) (call:zc1) (ops l:List Oper) (fr:Fr) (s:CS) (logs:List Lg) (fr':Fr) (s':CS) (F:Nat->Fr) (S T:Nat->CS):Prop where
  f0:F 0=fr
  s0:S 0=s
  fN:F l.length=fr'
  sN:S l.length=s'
  len:logs.length=l.length
  step:∀ (i:Nat) (o:Oper),l[i]?=some o->zcj P Γ call ops o (F i) (S i).inner=some (F (i+1),T i)/\S (i+1)=(S i).outer (T i)/\logs[i]?=some ⟨(T i).rd,(T i).wr,(S i).n,(T i).n⟩
section
variable {P:ep} {Γ:Env} {call:zc1}
theorem zy6 {ops:List Oper}:∀ {l:List Oper} {fr fr':Fr} {s s':CS} {logs:List Lg},drawC P Γ call ops l fr s=some (logs,fr',s')->∃ F S T,yqp P Γ call ops l fr s logs fr' s' F S T
  |[],fr,fr',s,s',logs,h=>by
    simp only [drawC,dp,du] at h;obtain ⟨rfl,rfl,rfl⟩:=h;exact ⟨fun _=>fr,fun _=>s,fun _=>s,rfl,rfl,rfl,rfl,rfl,fun i o h=>by simp at h⟩
  |o :: l,fr,fr',s,s',logs,h=>by
    simp only [drawC] at h
    cases hq:zcj P Γ call ops o fr s.inner with
    |none=>rw [hq] at h;simp at h
    |some p =>
      obtain ⟨fr1,t⟩:=p;rw [hq] at h;simp only at h
      cases hd:drawC P Γ call ops l fr1 (s.outer t) with
      |none=>rw [hd] at h;simp at h
      |some q =>
        obtain ⟨logs1,fr2,s2⟩:=q;rw [hd] at h;simp only [dp,du] at h;obtain ⟨rfl,rfl,rfl⟩:=h;obtain ⟨F,S,T,ht⟩:=zy6 hd;refine ⟨fun i=>match i with|0=>fr|i+1=>F i,fun i=>match i with|0=>s|i+1=>S i,fun i=>match i with|0=>t|i+1=>T i,rfl,rfl,ht.fN,ht.sN,by simp [ht.len],?_⟩;intro i o' ho'
        cases i with
        |zero =>
          simp only [fl,dp] at ho';subst ho';refine ⟨?_,?_,rfl⟩
          . show zcj P Γ call ops o fr s.inner=some (F 0,t);rw [ht.f0];exact hq
          . show S 0=s.outer t;exact ht.s0
        |succ i=>exact ht.step i o' (by simpa using ho')
theorem zig {s:CS} (h:CInv s):CInv s.inner:=⟨h.none,h.vers,dz _⟩
theorem zlc {s t:CS} (hI:CInv s) (h:Can s.inner t):Can s (s.outer t):=by
  refine ⟨h.n,rfl,fun f hf=>zl0 hf,fun f hf=>zl0 hf,?_,h.ro,h.none,h.vers,?_⟩
  . intro f hn hl hw;exact h.same f hn hn fun hf=>hw (zjj hf hl)
  . have hall:∀ (xs l:List Nat),(∀ f,f∈l->f<s.lim)->∀ f,f∈zve s.lim l xs->f<s.lim:=by
      intro xs
      induction xs with
      |nil=>intro l h f hf;exact h f hf
      |cons x xs ih=>intro l h f hf;exact ih _ (fun g hg=>(zjw hg).elim (h g) (fun k=>k.2)) f hf
    exact fun h f hf=>hall _ _ h f hf
end
section
variable {P:ep} {Γ:Env} {call:zc1} {G:List Nat}
structure Calm (P:ep) (Γ:Env) (G:List Nat) (call:zc1) (l:List Oper) (logs:List Lg) (F:Nat->Fr) (S T:Nat->CS):Prop where
  step:∀ (i:Nat) (o:Oper),l[i]?=some o->zcj P Γ call l o (F i) (S i).inner=some (F (i+1),T i)/\S (i+1)=(S i).outer (T i)
  inv:∀ i,i<=l.length->CInv (S i)
  can:∀ i,i<l.length->Can (S i).inner (T i)
  oper:∀ (i:Nat) (o:Oper),l[i]?=some o->zj8 G (F 0).nt o=true
  edge:∀ (i:Nat) (o:Oper),l[i]?=some o->∀ e,e∈o.after.toList->jp .any e=true->e.on<i
  touch:∀ (i j:Nat) (x y:Oper),i<j->l[i]?=some x->l[j]?=some y->ft (nth 0 (zdq l []) j) i=true\/zw8 l x y=false
  clash:∀ (i j:Nat),i<j->j<l.length->ft (nth 0 (zdq l []) j) i=true \/
    ((∀ f,f∈(T i).wr->f ∉ (T j).rd/\f ∉ (T j).wr)/\(∀ f,f∈(T i).rd->f ∉ (T j).wr)/\(∀ f,(f∈(T j).rd\/f∈(T j).wr)->¬ ((S i).n<=f/\f<(T i).n)))
variable {l:List Oper} {logs:List Lg} {F:Nat->Fr} {S T:Nat->CS}
theorem Calm.next (c:Calm P Γ G call l logs F S T) {i:Nat} (hi:i<l.length):S (i+1)=(S i).outer (T i):=(c.step i _ (dv hi)).2
theorem Calm.n_next (c:Calm P Γ G call l logs F S T) {i:Nat} (hi:i<l.length):(S (i+1)).n=(T i).n:=by rw [c.next hi];rfl
theorem Calm.obj_next (c:Calm P Γ G call l logs F S T) {i:Nat} (hi:i<l.length):(S (i+1)).obj=(T i).obj:=by rw [c.next hi];rfl
theorem Calm.can' (c:Calm P Γ G call l logs F S T) {i:Nat} (hi:i<l.length):Can (S i) (S (i+1)):=by rw [c.next hi];exact zlc (c.inv i (by omega)) (c.can i hi)
theorem Calm.cans (c:Calm P Γ G call l logs F S T):∀ {i j:Nat},i<=j->j<=l.length->Can (S i) (S j):=by
  intro i j hij
  induction j with
  | zero => intro _; have : i = 0 := by omega
            subst this;exact f5 _
  |succ j ih =>
    intro hj;by_cases h:i=j+1
    . subst h;exact f5 _
    . exact (ih (by omega) (by omega)).trans (c.can' (by omega))
theorem Calm.n_mono (c:Calm P Γ G call l logs F S T) {i j:Nat} (hij:i<=j) (hj:j<=l.length):(S i).n<=(S j).n:=(c.cans hij hj).n
theorem Calm.nt (c:Calm P Γ G call l logs F S T):∀ i,i<=l.length->(F i).nt=(F 0).nt:=by
  intro i
  induction i with
  |zero=>intro _;rfl
  |succ i ih =>
    intro hi;have h:=(c.step i _ (dv (show i<l.length by omega))).1;unfold zcj at h
    have hput:∀ v,(putC (F i) (l[i]'(by omega)).dst v).nt=(F i).nt:=by
      intro v
      cases (l[i]'(by omega)).dst with
      |none=>rfl
      |some t=>exact Fr.put_nt _ _ _
    cases hw:zc4 l (F i) (l[i]'(by omega)) with
    |false=>rw [hw] at h;simp only [cond_false,dp,du] at h;rw [<- h.1,hput];exact ih (by omega)
    |true =>
      rw [hw] at h;simp only [cond_true] at h;split at h
      . simp only [dp,du] at h;rw [<- h.1,hput];exact ih (by omega)
      . simp at h
theorem Calm.slot_next (c:Calm P Γ G call l logs F S T) (h5:(F 0).nt<=512) {i:Nat} {o:Oper} (ho:l[i]?=some o) {t:Nat} (ht:o.dst≠some t):(F (i+1)).get t=(F i).get t:=by
  have hi:=(d9.1 ho).1;have h:=(c.step i o ho).1;have h5':(F i).nt<=512:=by rw [c.nt i (by omega)];exact h5
  have hput:∀ v,(putC (F i) o.dst v).get t=(F i).get t:=by
    intro v
    cases hd:o.dst with
    |none=>rfl
    |some d =>
      refine Fr.get_put_other _ h5' ?_;rintro rfl;exact ht hd
  unfold zcj at h
  cases hw:zc4 l (F i) o with
  |false=>rw [hw] at h;simp only [cond_false,dp,du] at h;rw [<- h.1];exact hput _
  |true =>
    rw [hw] at h;simp only [cond_true] at h;split at h
    . simp only [dp,du] at h;rw [<- h.1];exact hput _
    . simp at h
theorem Calm.slot_keep (c:Calm P Γ G call l logs F S T) (h5:(F 0).nt<=512) {t:Nat}:∀ {p q:Nat},p<=q->q<=l.length->(∀ (k:Nat) (o:Oper),p<=k->k<q->l[k]?=some o->o.dst≠some t)->(F q).get t=(F p).get t:=by
  intro p q hpq
  induction q with
  | zero => intro _ _; have : p = 0 := by omega
            subst this;rfl
  |succ q ih =>
    intro hq hk;by_cases h:p=q+1
    . subst h;rfl
    . have ho:l[q]?=some l[q]:=dv (by omega);rw [c.slot_next h5 ho (hk q _ (by omega) (by omega) ho)];exact ih (by omega) (by omega) fun k o h1 h2 h3=>hk k o h1 (by omega) h3
def Sets (S T:Nat->CS) (i f:Nat):Prop:=f∈(T i).wr\/((S i).n<=f/\f<(S (i+1)).n)
theorem Calm.obj_same (c:Calm P Γ G call l logs F S T) {i:Nat} (hi:i<l.length) {f:Nat} (hf:¬ Sets S T i f):zaa (S (i+1)).obj f=zaa (S i).obj f:=by
  rw [c.obj_next hi];have hc:=c.can i hi;by_cases hn:f<(S i).n
  . exact hc.same f hn hn fun k=>hf (.inl k)
  . have h2:¬ f<(S (i+1)).n:=fun k=>hf (.inr ⟨by omega,k⟩);rw [c.n_next hi] at h2;rw [hc.none (zig (c.inv i (by omega))).none f (by omega),(c.inv i (by omega)).none f (by omega)]
theorem Calm.obj_keep (c:Calm P Γ G call l logs F S T) {f:Nat}:∀ {p q:Nat},p<=q->q<=l.length->(∀ k,p<=k->k<q->¬ Sets S T k f)->zaa (S q).obj f=zaa (S p).obj f:=by
  intro p q hpq
  induction q with
  | zero => intro _ _; have : p = 0 := by omega
            subst this;rfl
  |succ q ih =>
    intro hq hk;by_cases h:p=q+1
    . subst h;rfl
    . rw [c.obj_same (by omega) (hk q (by omega) (by omega))];exact ih (by omega) (by omega) fun k h1 h2=>hk k h1 (by omega)
def On (E:Array Bool) (i:Nat):Prop:=E.getD i false=true
structure DInv (V:Nat->Prop) (l:List Oper) (F:Nat->Fr) (S T:Nat->CS) (σ0:Sg) (w0:World) (a0:Act) (E:Array Bool) (σ:Sg) (a:Act) (w:World):Prop where
  ext:Ext σ0 V (S 0) w0 σ (S l.length) w
  inj:∀ f u b o z f' u' o' z',σ f u=some (b,o,z)->σ f' u'=some (b,o',z')->f=f'
  lt:∀ f u b o z,σ f u=some (b,o,z)->b<w.heap.size
  new:∀ f u,σ0 f u=none->σ f u≠none->∃ i,i<l.length/\On E i/\(S i).n<=u / 1024/\u / 1024<(S (i+1)).n/\f<(S (i+1)).n/\((S i).n<=f\/f∈(T i).rd\/f∈(T i).wr)
  slots0:∀ t,(∀ (i:Nat) (o:Oper),On E i->l[i]?=some o->o.dst≠some t)->VR σ ((F 0).get t) (a.tmps.getD t undef)
  slots:∀ (t i:Nat) (o:Oper),On E i->l[i]?=some o->o.dst=some t->(∀ (j:Nat) (oj:Oper),On E j->l[j]?=some oj->oj.dst=some t->j<=i)->VR σ ((F (i+1)).get t) (a.tmps.getD t undef)
  fam0:∀ f,V f->(∀ i,i<l.length->On E i->¬ Sets S T i f)->zhc σ w f (zaa (S 0).obj f)
  fam:∀ f i,V f->i<l.length->On E i->Sets S T i f->(∀ j,j<l.length->On E j->Sets S T j f->j<=i)->zhc σ w f (zaa (S (i+1)).obj f)
  asize:a.tmps.size=(F 0).nt
  defers:a.defers=a0.defers
  down:∀ (j:Nat) (o:Oper),On E j->l[j]?=some o->∀ e,e∈o.after.toList->jp .any e=true->On E e.on
  size:E.size=l.length
end
section
variable {P:ep} {Γ:Env} {call:zc1} {G:List Nat} {l:List Oper} {logs:List Lg} {F:Nat->Fr} {S T:Nat->CS} {V:Nat->Prop} {σ0 σ:Sg} {w0 w:World} {a0 a:Act} {E:Array Bool}
theorem zhc.ofNone {f:Nat}:zhc σ w f zdr:=⟨fun p hp=>by simp [zdr] at hp,fun _=>trivial,fun es he=>by simp [zdr] at he,fun L hL=>by simp [zdr] at hL⟩
theorem yps {E:Array Bool} {i j:Nat} (hi:i<E.size):On (E.setIfInBounds i true) j↔j=i\/On E j:=by
  unfold On;by_cases h:i=j
  . subst h;simp [hi]
  . rw [getD_set_ne false h];constructor
    . exact .inr
    . rintro (k|k)
      . exact absurd k.symm h
      . exact k
theorem z4u (c:Calm P Γ G call l logs F S T) (d:DInv V l F S T σ0 w0 a0 E σ a w) {i k:Nat} {o:Oper} (ho:l[i]?=some o) (hp:∀ e,e∈o.after.toList->jp .any e=true->On E e.on) (hb:ft (nth 0 (zdq l []) i) k=true):On E k :=
  zu2 (ops:=l) (E:=On E) (fun j o' ho' hj=>d.down j o' hj ho') i o ho hp k hb
theorem zni (c:Calm P Γ G call l logs F S T) (d:DInv V l F S T σ0 w0 a0 E σ a w) {i k:Nat} {ok:Oper} (hk:l[k]?=some ok) (hon:On E k) (hb:ft (nth 0 (zdq l []) k) i=true):On E i :=
  zu2 (ops:=l) (E:=On E) (fun j o' ho' hj=>d.down j o' hj ho') k ok hk (d.down k ok hon hk) i hb
theorem z10 (c:Calm P Γ G call l logs F S T) (h5:(F 0).nt<=512) (d:DInv V l F S T σ0 w0 a0 E σ a w) {i:Nat} {o:Oper} (ho:l[i]?=some o) (hoff:¬ On E i) (hp:∀ e,e∈o.after.toList->jp .any e=true->On E e.on)
    {t:Nat} (ht:t∈zfh l o):VR σ ((F i).get t) (a.tmps.getD t undef):=by
  have hi:=(d9.1 ho).1
  have hlow:∀ (k:Nat) (x:Oper),k<i->l[k]?=some x->x.dst=some t->On E k:=by
    intro k x hk hx hd;rcases c.touch k i x o hk hx ho with hb|hb
    . exact z4u c d ho hp hb
    . exact absurd ht (zw7 hb hd).1
  have hhigh:∀ (k:Nat) (x:Oper),On E k->l[k]?=some x->x.dst=some t->k<i:=by
    intro k x hon hx hd;rcases nl k i with h|h|h
    . exact h
    . subst h;exact absurd hon hoff
    . exfalso;rcases c.touch i k o x h ho hx with hb|hb
      . exact hoff (zni c d hx hon hb)
      . exact (z1o hb hd) ht
  rcases z24 (fun k=>∃ x,l[k]?=some x/\x.dst=some t) i with hnone|⟨m,hm,⟨x,hx,hd⟩,hmax⟩
  . rw [c.slot_keep h5 (fw i) (by omega) (fun k ok _ hk hok hd=>hnone k hk ⟨ok,hok,hd⟩)];refine d.slots0 t fun k ok hon hok hd=>?_;exact hnone k (hhigh k ok hon hok hd) ⟨ok,hok,hd⟩
  . rw [c.slot_keep h5 (show m+1<=i by omega) (by omega) (fun k ok hk1 hk2 hok hd2=>by
      have:=hmax k hk2 ⟨ok,hok,hd2⟩
      omega)]
    refine d.slots t m x (hlow m x hm hx hd) hx hd fun j oj hon hoj hdj=>?_;exact hmax j (hhigh j oj hon hoj hdj) ⟨oj,hoj,hdj⟩
theorem z0u (c:Calm P Γ G call l logs F S T) (d:DInv V l F S T σ0 w0 a0 E σ a w) {i:Nat} {o:Oper} (ho:l[i]?=some o) (hoff:¬ On E i) (hp:∀ e,e∈o.after.toList->jp .any e=true->On E e.on)
    {f:Nat} (hf:f∈(T i).rd\/f∈(T i).wr) (hlt:f<(S i).n):(∀ k,k<i->Sets S T k f->On E k)/\(∀ k,k<l.length->On E k->Sets S T k f->k<i):=by
  have hi:=(d9.1 ho).1;constructor
  . intro k hk hs;rcases c.clash k i hk hi with hb|⟨h1,h2,h3⟩
    . exact z4u c d ho hp hb
    . exfalso;rcases hs with hs|hs
      . rcases hf with hf|hf
        . exact (h1 f hs).1 hf
        . exact (h1 f hs).2 hf
      . rw [c.n_next (by omega)] at hs;exact h3 f hf hs
  . intro k hkl hon hs;rcases nl k i with h|h|h
    . exact h
    . subst h;exact absurd hon hoff
    . exfalso;have hk:l[k]?=some l[k]:=dv hkl;rcases c.clash i k h hkl with hb|⟨h1,h2,h3⟩
      . exact hoff (zni c d hk hon hb)
      . rcases hs with hs|hs
        . rcases hf with hf|hf
          . exact h2 f hf hs
          . exact (h1 f hf).2 hs
        . have:=c.n_mono (show i<=k by omega) (by omega);omega
theorem yp4 (c:Calm P Γ G call l logs F S T) (d:DInv V l F S T σ0 w0 a0 E σ a w) {i:Nat} {o:Oper} (ho:l[i]?=some o) (hoff:¬ On E i) (hp:∀ e,e∈o.after.toList->jp .any e=true->On E e.on)
    {f:Nat} (hV:V f) (hf:f∈(T i).rd\/f∈(T i).wr) (hlt:f<(S i).n):zhc σ w f (zaa (S i).obj f):=by
  have hi:=(d9.1 ho).1;obtain ⟨h1,h2⟩:=z0u c d ho hoff hp hf hlt;rcases z24 (fun k=>Sets S T k f) i with hnone|⟨m,hm,hs,hmax⟩
  . rw [c.obj_keep (fw i) (by omega) (fun k _ hk=>hnone k hk)];exact d.fam0 f hV fun k hk hon hs=>hnone k (h2 k hk hon hs) hs
  . rw [c.obj_keep (show m+1<=i by omega) (by omega) (fun k hk1 hk2 hs2=>by have:=hmax k hk2 hs2;omega)];exact d.fam f m hV (by omega) (h1 m hm hs) hs fun j hj hon hs2=>hmax j (h2 j hj hon hs2) hs2
def Vi (V:Nat->Prop) (S T:Nat->CS) (i:Nat):Nat->Prop:=fun f=>V f/\(f∈(T i).rd\/f∈(T i).wr\/(S i).n<=f)
theorem yib (c:Calm P Γ G call l logs F S T) (d:DInv V l F S T σ0 w0 a0 E σ a w) {i:Nat} {o:Oper} (ho:l[i]?=some o) (hoff:¬ On E i) (hp:∀ e,e∈o.after.toList->jp .any e=true->On E e.on) :
    Rel σ (Vi V S T i) (S i).inner w:=by
  have hi:=(d9.1 ho).1;have hI:=c.inv i (by omega);refine ⟨d.inj,d.lt,?_,hI.none,hI.vers⟩;intro f hf;show zhc σ w f (zaa (S i).obj f);by_cases hlt:f<(S i).n
  . refine yp4 c d ho hoff hp hf.1 ?_ hlt;rcases hf.2 with h|h|h
    . exact .inl h
    . exact .inr h
    . omega
  . rw [hI.none f (by omega)];exact zhc.ofNone
theorem ybh (c:Calm P Γ G call l logs F S T) (hF:zd1 σ0 (S 0).n (S l.length).n) (d:DInv V l F S T σ0 w0 a0 E σ a w) {i:Nat} (hi:i<l.length) (hoff:¬ On E i):zd1 σ (S i).n (T i).n:=by
  rw [<- c.n_next hi];intro f u hf;have h0:=c.n_mono (fw i) (by omega);have h1:=c.n_mono (show i+1<=l.length by omega) (dz _)
  cases hs:σ f u with
  |none=>rfl
  |some p =>
    exfalso;have hn:σ0 f u=none:=hF f u (by omega);obtain ⟨k,hk,hon,h2,h3,h4,h5⟩:=d.new f u hn (by rw [hs];simp);have hkk:l[k]?=some l[k]:=dv hk;rcases nl k i with h|h|h
    . have:=c.n_mono (show k+1<=i by omega) (by omega);omega
    . subst h;exact hoff hon
    . have:=c.n_mono (show i+1<=k by omega) (by omega);rcases hf with hf|hf
      . rcases c.clash i k h hk with hb|⟨q1,q2,q3⟩
        . exact hoff (zni c d hkk hon hb)
        . rw [<- c.n_next hi] at q3;rcases h5 with h5|h5
          . omega
          . exact q3 f h5 hf
      . omega
set_option maxHeartbeats 1000000 in
theorem ygz (c:Calm P Γ G call l logs F S T) (h5:(F 0).nt<=512) (hF:zd1 σ0 (S 0).n (S l.length).n) (hw0:∀ i,i<l.length->∀ f,f∈(T i).wr->f<(S i).n) (d:DInv V l F S T σ0 w0 a0 E σ a w)
    {i:Nat} {o:Oper} (ho:l[i]?=some o) (hoff:¬ On E i) (hp:∀ e,e∈o.after.toList->jp .any e=true->On E e.on)
    {σ':Sg} {w':World} {v v':Value} (hput:F (i+1)=putC (F i) o.dst v) (hv:VR σ' v v') (hr':Rel σ' (Vi V S T i) (T i) w') (he':Ext σ (Vi V S T i) (S i).inner w σ' (T i) w') :
    DInv V l F S T σ0 w0 a0 (E.setIfInBounds i true) σ' (a.put o.dst v') w':=by
  have hi:=(d9.1 ho).1;have hiE:i<E.size:=by rw [d.size];exact hi
  have hI:=c.inv i (by omega);have hI0:=c.inv 0 (by omega);have hS0i:=c.n_mono (fw i) (by omega);have hSiN:=c.n_mono (show i+1<=l.length by omega) (dz _);have hTn:=c.n_next hi;have hobj:=c.obj_next hi;have hcan0:=c.cans (fw i) (by omega)
  have hro:∀ f u p,σ0 f u=some p->(zaa (S i).obj f).ro=(zaa (S 0).obj f).ro:=by
    intro f u p hs;by_cases hlt:f<(S 0).n
    . exact hcan0.ro f hlt
    . by_cases h2:f<(S l.length).n
      . rw [hF f u (.inl ⟨by omega,h2⟩)] at hs;simp at hs
      . rw [hI0.none f (by omega),hI.none f (by have:=c.n_mono (show i<=l.length by omega) (dz _);omega)]
  have hon:∀ j,On (E.setIfInBounds i true) j↔j=i\/On E j:=fun j=>yps hiE
  -- setters of a family that operation i sets stand before it
  have hset:∀ f,Sets S T i f->∀ j,j<l.length->On E j->Sets S T j f->j<=i:=by
    intro f hs j hj honj hsj;rcases nl j i with h|h|h
    . omega
    . omega
    . exfalso;have hjj:l[j]?=some l[j]:=dv hj;have hij:=c.n_mono (show i+1<=j by omega) (by omega);rcases c.clash i j h hj with hb|⟨q1,q2,q3⟩
      . exact hoff (zni c d hjj honj hb)
      . rw [<- hTn] at q3;rcases hs with hs|hs
        . rcases hsj with hsj|hsj
          . exact (q1 f hs).2 hsj
          . have:=hw0 i hi f hs;have:=c.n_mono (show i<=j by omega) (by omega);omega
        . rcases hsj with hsj|hsj
          . exact q3 f (.inr hsj) hs
          . omega
  -- a family that operation i does not set
  have hunset:∀ f x,V f->¬ Sets S T i f->zhc σ w f x->(f∈(T i).rd\/f∈(T i).wr->f<(S i).n->x=zaa (S i).obj f)->zhc σ' w' f x:=by
    intro f x hVf hns hx hsame;by_cases ht:(f∈(T i).rd\/f∈(T i).wr)/\f<(S i).n
    . have hVi:Vi V S T i f:=⟨hVf,ht.1.elim (fun h=>.inl h) (fun h=>.inr (.inl h))⟩;have:=hr'.fam f hVi;rw [<- hobj,c.obj_same hi hns,<- hsame ht.1 ht.2] at this;exact this
    . refine hx.move he'.le ?_ ?_
      . intro u _
        cases h1:σ f u with
        |some p=>exact he'.le f u p h1
        |none =>
          cases h2:σ' f u with
          |none=>rfl
          |some p =>
            exfalso;obtain ⟨g1,g2,g3,g4⟩:=he'.new f u h1 (by rw [h2];simp);have g3':f<(T i).n:=g3;have hge:¬ (S i).n<=f:=fun k=>hns (.inr ⟨k,by rw [hTn];exact g3'⟩);rcases g4 with g4|g4
            . exact hge g4
            . rcases g4.2 with g|g|g
              . exact ht ⟨.inl g,by omega⟩
              . exact ht ⟨.inr g,by omega⟩
              . exact hge g
      . intro u b oo z hs;refine he'.frame b (d.lt _ _ _ _ _ hs) ?_;intro f' u' o' z' hs';have hff:=d.inj _ _ _ _ _ _ _ _ _ hs' hs;subst hff;by_cases hge:(S i).n<=f'
        . right;show (zaa (S i).obj f').ro=true;rw [hI.none f' hge];rfl
        . left;intro hVi;rcases hVi.2 with g|g|g
          . exact ht ⟨.inl g,by omega⟩
          . exact ht ⟨.inr g,by omega⟩
          . exact hge g
  refine ⟨⟨?_,?_,?_,?_,?_,d.ext.st.trans he'.st⟩,hr'.inj,hr'.lt,?_,?_,?_,?_,?_,?_,?_,?_,?_⟩
  . exact fun f u p hs=>he'.le f u p (d.ext.le f u p hs)
  . intro f u h0 h2
    cases h1:σ f u with
    |some p=>exact d.ext.new f u h0 (by rw [h1];simp)
    |none =>
      obtain ⟨g1,g2,g3,g4⟩:=he'.new f u h1 h2;have g1':(S i).n<=u / 1024:=g1;refine ⟨by omega,by omega,by omega,?_⟩;rcases g4 with g4|g4
      . have g4':(S i).n<=f:=g4;exact .inl (by omega)
      . exact .inr g4.1
  . intro f u b oo z h0 h2 hb
    cases h1:σ f u with
    |some p =>
      have:=he'.le f u p h1;rw [h2] at this;cases this;exact d.ext.old f u b oo z h0 h1 hb
    |none =>
      obtain ⟨u0,o0,z0,hs,hVi,hr0⟩:=he'.old f u b oo z h1 h2 (ei hb d.ext.size)
      cases h3:σ0 f u0 with
      |none=>exact d.ext.old f u0 b o0 z0 h3 hs hb
      |some p =>
        have:=d.ext.le f u0 p h3;rw [hs] at this;cases this;exact ⟨u0,o0,z0,h3,hVi.1,by rw [<- hro f u0 _ h3];exact hr0⟩
  . exact i8 d.ext.size he'.size
  . intro b hb hq;rw [he'.frame b (ei hb d.ext.size) ?_,d.ext.frame b hb hq];intro f u oo z h1
    cases h0:σ0 f u with
    |some p =>
      have:=d.ext.le f u p h0;rw [h1] at this;cases this;rcases hq f u oo z h0 with hv|hr0
      . exact .inl fun k=>hv k.1
      . exact .inr (by show (zaa (S i).obj f).ro=true;rw [hro f u _ h0];exact hr0)
    |none =>
      obtain ⟨u0,o0,z0,hs,hVf,hr0⟩:=d.ext.old f u b oo z h0 h1 hb;rcases hq f u0 o0 z0 hs with hv|hr2
      . exact absurd hVf hv
      . rw [hr0] at hr2;simp at hr2
  . intro f u h0 h2
    cases h1:σ f u with
    |some p =>
      obtain ⟨k,hk,honk,rest⟩:=d.new f u h0 (by rw [h1];simp);exact ⟨k,hk,(hon k).2 (.inr honk),rest⟩
    |none =>
      obtain ⟨g1,g2,g3,g4⟩:=he'.new f u h1 h2;have g1':(S i).n<=u / 1024:=g1;refine ⟨i,hi,(hon i).2 (.inl rfl),g1',by omega,by omega,?_⟩;rcases g4 with g4|g4
      . exact .inl g4
      . rcases g4.2 with g|g|g
        . exact .inr (.inl g)
        . exact .inr (.inr g)
        . exact .inl g
  . intro t hno;have hdt:o.dst≠some t:=hno i o ((hon i).2 (.inl rfl)) ho
    have hsame:(a.put o.dst v').tmps.getD t undef=a.tmps.getD t undef:=by
      cases hd:o.dst with
      |none=>rfl
      |some q=>exact Act.getD_put_other v' (by rintro rfl;exact hdt hd)
    rw [hsame];exact (d.slots0 t fun j oj honj hoj=>hno j oj ((hon j).2 (.inr honj)) hoj).mono he'.le
  . intro t j oj honj hoj hdj hmax;rcases (hon j).1 honj with rfl|honj'
    . -- the operation itself
      rw [ho] at hoj;cases hoj;have hoper:=c.oper _ _ ho;unfold zj8 at hoper;rw [dr,hdj] at hoper;have hlt:t<(F 0).nt:=zac.1 hoper.2;rw [hput,hdj];have e1:(putC (F j) (some t) v).get t=v:=Fr.get_put_same v (by rw [c.nt j (by omega)];exact hlt) (by rw [c.nt j (by omega)];exact h5);rw [e1,Act.getD_put_same v' (by rw [d.asize];exact hlt)];exact hv
    . -- an earlier one: operation i does not set this slot
      have hdt:o.dst≠some t:=by
        intro hd;have hij:=hmax i o ((hon i).2 (.inl rfl)) ho hd;have hne:i≠j:=by rintro rfl;exact hoff honj'
        rcases c.touch i j o oj (by omega) ho hoj with hb|hb
        . exact hoff (zni c d hoj honj' hb)
        . exact (zw7 hb hd).2 hdj
      have hsame:(a.put o.dst v').tmps.getD t undef=a.tmps.getD t undef:=by
        cases hd:o.dst with
        |none=>rfl
        |some q=>exact Act.getD_put_other v' (by rintro rfl;exact hdt hd)
      rw [hsame];exact (d.slots t j oj honj' hoj hdj fun k ok honk hok hdk=>hmax k ok ((hon k).2 (.inr honk)) hok hdk).mono he'.le
  . intro f hVf hno;have hns:¬ Sets S T i f:=hno i hi ((hon i).2 (.inl rfl));refine hunset f _ hVf hns (d.fam0 f hVf fun k hk honk=>hno k hk ((hon k).2 (.inr honk))) ?_;intro ht hlt;obtain ⟨h1,h2⟩:=z0u c d ho hoff hp ht hlt;exact (c.obj_keep (fw i) (by omega) fun k _ hk hs=>hno k (by omega) ((hon k).2 (.inr (h1 k hk hs))) hs).symm
  . intro f j hVf hj honj hsj hmax;by_cases hsi:Sets S T i f
    . have h1:=hmax i hi ((hon i).2 (.inl rfl)) hsi
      have hji:j=i:=by
        rcases (hon j).1 honj with h|h
        . exact h
        . have:=hset f hsi j hj h hsj;omega
      subst hji;rw [hobj];refine hr'.fam f ⟨hVf,?_⟩;rcases hsi with h|h
      . exact .inr (.inl h)
      . exact .inr (.inr h.1)
    . have honj':On E j:=by
        rcases (hon j).1 honj with rfl|h
        . exact absurd hsj hsi
        . exact h
      refine hunset f _ hVf hsi (d.fam f j hVf hj honj' hsj fun k hk honk hsk=>hmax k hk ((hon k).2 (.inr honk)) hsk) ?_;intro ht hlt;obtain ⟨h1,h2⟩:=z0u c d ho hoff hp ht hlt;have hji:=h2 j hj honj' hsj
      exact (c.obj_keep (show j+1<=i by omega) (by omega) fun k hk1 hk2 hs=>by
        have:=hmax k (by omega) ((hon k).2 (.inr (h1 k hk2 hs))) hs
        omega).symm
  . rw [Act.put_size];exact d.asize
  . rw [Act.put_defers'];exact d.defers
  . intro j oj honj hoj e he hb;rcases (hon j).1 honj with rfl|honj'
    . rw [ho] at hoj;cases hoj;exact (hon _).2 (.inr (hp e he hb))
    . exact (hon _).2 (.inr (d.down j oj honj' hoj e he hb))
  . simp [d.size]
end
section
variable {P:ep} {Γ:Env} {call:zc1} {G:List Nat}
theorem z4a {α:Type} {p q:α->Bool}:∀ {l:List α},(∀ x,x∈l->q x=true->p x=true)->(∃ x,x∈l/\p x=true/\q x=false)->l.countP q<l.countP p
  |[],_,h=>by obtain ⟨x,hx,_⟩:=h;simp at hx
  |y :: l,h,⟨x,hx,hp,hq⟩=>by
    have hle:∀ (l:List α),(∀ x,x∈l->q x=true->p x=true)->l.countP q<=l.countP p:=by
      intro l
      induction l with
      |nil=>intro _;simp
      |cons z l ih =>
        intro h;have h1:=ih fun x hx=>h x (by simp [hx]);have h2:=h z (by simp);rw [nu,nu]
        cases hqz:q z with
        |false=>simp;omega
        |true=>rw [h2 hqz];simp;omega
    rw [nu,nu];rcases ib.1 hx with rfl|hx
    . rw [hp,hq];have:=hle l fun z hz=>h z (by simp [hz]);simp;omega
    . have h1:=z4a (fun z hz=>h z (by simp [hz])) ⟨x,hx,hp,hq⟩;have h2:=h y (by simp)
      cases hqy:q y with
      |false=>simp;omega
      |true=>rw [h2 hqy];simp;omega
def cnt (l:List Oper) (E:Array Bool):Nat:=(List.range l.length).countP fun i=>!E.getD i false
theorem yof {l:List Oper} {E:Array Bool} {i:Nat} (hs:E.size=l.length) (hi:i<l.length) (hoff:¬ On E i):cnt l (E.setIfInBounds i true)<cnt l E:=by
  unfold cnt;refine z4a ?_ ⟨i,by simpa using hi,?_,?_⟩
  . intro x _ hx;by_cases h:i=x
    . subst h;simp [hs,hi] at hx
    . rw [getD_set_ne false h] at hx;exact hx
  . unfold On at hoff;simpa using hoff
  . simp [hs,hi]
theorem yol {l:List Oper} {fr fr':Fr} {s s':CS} {logs:List Lg} {F:Nat->Fr} {S T:Nat->CS} (hc:ze4 call) (ht:yqp P Γ call l l fr s logs fr' s' F S T) (hI:CInv s) (hoper:l.all (zj8 G fr.nt)=true) (htidy:tidy l=true) (hcalm:calm s.n l logs=true) :
    Calm P Γ G call l logs F S T:=by
  have hinv:∀ i,i<=l.length->CInv (S i):=by
    intro i
    induction i with
    |zero=>intro _;rw [ht.s0];exact hI
    |succ i ih =>
      intro hi;obtain ⟨h1,h2,_⟩:=ht.step i _ (dv (show i<l.length by omega));have h3:=ih (by omega);rw [h2];exact h3.next (zlc h3 (zms hc (zig h3) h1))
  have hcan:∀ i,i<l.length->Can (S i).inner (T i):=fun i hi=>zms hc (zig (hinv i (by omega))) (ht.step i _ (dv hi)).1
  have hmono:∀ i j,i<=j->j<=l.length->(S i).n<=(S j).n:=by
    intro i j hij
    induction j with
    | zero => intro _; have : i = 0 := by omega
              subst this;exact dz _
    |succ j ih =>
      intro hj;by_cases h:i=j+1
      . subst h;exact dz _
      . refine i8 (ih (by omega) (by omega)) ?_;rw [(ht.step j _ (dv (show j<l.length by omega))).2.1];exact (hcan j (by omega)).n
  unfold tidy at htidy;rw [dr] at htidy;refine ⟨fun i o ho=>⟨(ht.step i o ho).1,(ht.step i o ho).2.1⟩,hinv,hcan,fun i o ho=>?_,fun i o ho e he hb=>?_,fun i j x y hij hx hy=>?_,fun i j hij hj=>?_⟩
  . rw [ht.f0];exact ez.1 hoper o (gi ho)
  . have:=zy4 htidy.1 i o ho e he hb;omega
  . exact zf0 htidy.2 i j x y hij (fw _) (by simpa using hx) (by simpa using hy)
  . have hli:=(ht.step i _ (dv (show i<l.length by omega))).2.2;have hlj:=(ht.step j _ (dv hj)).2.2;unfold calm at hcalm;rw [cond_eq_ite] at hcalm;split at hcalm
    . rename_i hq;right;have hqi:=ez.1 hq _ (gi hli);have hqj:=ez.1 hq _ (gi hlj);simp only [dr,nr] at hqi hqj;refine ⟨fun f hf=>by rw [hqi.1] at hf;simp at hf,fun f _ hf=>by rw [hqj.1] at hf;simp at hf,?_⟩;rintro f (hf|hf) hr
      . have:=zac.1 (ez.1 hqj.2 f hf);have h0:=hmono 0 i (fw _) (by omega);rw [ht.s0] at h0;omega
      . rw [hqj.1] at hf;simp at hf
    . rcases zf0 hcalm i j _ _ hij (fw _) (by simpa using hli) (by simpa using hlj) with h|h
      . exact .inl h
      . exact .inr (z6s h)
theorem zhc.world {σ:Sg} {w w':World} {f:Nat} {x:Fam} (h:zhc σ w f x) (hw:w'.heap=w.heap):zhc σ w' f x :=
  h.move (fun _ _ _ k=>k) (fun _ _=>rfl) (fun _ b _ _ _=>by rw [hw])
theorem Rel.world {σ:Sg} {V:Nat->Prop} {s:CS} {w w':World} (h:Rel σ V s w) (hw:w'.heap=w.heap):Rel σ V s w' :=
  ⟨h.inj,fun f u b o z k=>by rw [hw];exact h.lt f u b o z k,fun f hf=>(h.fam f hf).world hw,h.none,h.vers⟩
set_option maxHeartbeats 1000000 in
theorem yn7 {r:Option Nat} {kd:Nat} (hm:P.follows .mixedOrders=true) (hE:zcv P Γ) (hC:z44 P G call) (hc:ze4 call) {σ:Sg} {V:Nat->Prop} {s s':CS} {w:World} {a:Act} {fr fr':Fr} {id:Nat} {ops:Array Oper} {logs:List Lg} {Q:Exit->Act->World->Prop}
    (hr:Rel σ V s w) (hV:zbi V s') (hF:zd1 σ s.n s'.n) (hI:CInv s) (hG:zil G σ) (hfr:FrR σ fr a) (hoper:ops.toList.all (zj8 G fr.nt)=true) (htidy:tidy ops.toList=true)
    (h:drawC P Γ call ops.toList ops.toList fr s=some (logs,fr',s')) (hcalm:calm s.n ops.toList logs=true)
    (hQ:∀ σ' a' w',FrR σ' fr' a'->a'.defers=a.defers->Rel σ' V s' w'->Ext σ V s w σ' s' w'->Q .normal a' w'):(Code.region id ops true).wpIn (zjl r) kd P Q a w:=by
  obtain ⟨F,S,T,ht⟩:=zy6 h;have c:=yol hc ht hI hoper htidy hcalm;have h5:(F 0).nt<=512:=by rw [ht.f0];exact hfr.small
  have hF0:zd1 σ (S 0).n (S ops.toList.length).n:=by rw [ht.s0,ht.sN];exact hF
  have hwlt:∀ i,i<ops.toList.length->∀ f,f∈(T i).wr->f<(S i).n:=by
    intro i hi f hf;have:=(c.can i hi).wlt (fun g hg=>by simp [CS.inner] at hg) f hf;rw [(c.can i hi).lim] at this;exact this
  have hlim:∀ i,i<=ops.toList.length->(S i).lim=s.lim:=by
    intro i
    induction i with
    |zero=>intro _;rw [ht.s0]
    |succ i ih=>intro hi;rw [c.next (by omega)];exact ih (by omega)
  -- what an operation touches is covered
  have hVt:∀ i,i<ops.toList.length->∀ f,(f∈(T i).rd\/f∈(T i).wr\/(S i).n<=f)->V f:=by
    intro i hi f hf;have hcs:=c.cans (show i+1<=ops.toList.length by omega) (dz _);refine hV f ?_;rw [<- ht.sN];by_cases hl:f<s.lim
    . rcases hf with hf|hf|hf
      . exact .inl (hcs.rd f (by rw [c.next hi];exact zjj hf (by rw [hlim i (by omega)];exact hl)))
      . exact .inr (.inl (hcs.wr f (by rw [c.next hi];exact zjj hf (by rw [hlim i (by omega)];exact hl))))
      . have h1:=c.n_mono (fw i) (by omega);rw [ht.s0] at h1;have:=hI.lim;omega
    . exact .inr (.inr (by rw [hlim _ (dz _)];omega))
  refine wpIn_region_any hm ?_
  -- the end: all has been done
  have hend:∀ (E:Array Bool) (σ1:Sg) (a1:Act) (w1:World),DInv V ops.toList F S T σ w a E σ1 a1 w1->(∀ i,i<ops.toList.length->On E i)->Q .normal a1 w1:=by
    intro E σ1 a1 w1 d hall;refine hQ σ1 a1 w1 ⟨?_,by rw [<- ht.fN,c.nt _ (dz _)];exact h5,fun t=>?_⟩ d.defers ⟨d.inj,d.lt,fun f hf=>?_,?_,?_⟩ ?_
    . rw [d.asize,<- ht.fN,c.nt _ (dz _)]
    . rw [<- ht.fN];rcases z24 (fun k=>∃ x,ops.toList[k]?=some x/\x.dst=some t) ops.toList.length with hnone|⟨m,hm1,⟨x,hx,hd⟩,hmax⟩
      . rw [c.slot_keep h5 (fw _) (dz _) (fun k ok _ hk hok hd=>hnone k hk ⟨ok,hok,hd⟩)];exact d.slots0 t fun i o _ ho hd=>hnone i (d9.1 ho).1 ⟨o,ho,hd⟩
      . rw [c.slot_keep h5 (show m+1<=_ by omega) (dz _) (fun k ok hk1 hk2 hok hd2=>by have:=hmax k hk2 ⟨ok,hok,hd2⟩;omega)];exact d.slots t m x (hall m hm1) hx hd fun j oj _ hoj hdj=>hmax j (d9.1 hoj).1 ⟨oj,hoj,hdj⟩
    . rw [<- ht.sN];rcases z24 (fun k=>Sets S T k f) ops.toList.length with hnone|⟨m,hm1,hs,hmax⟩
      . rw [c.obj_keep (fw _) (dz _) fun k _ hk=>hnone k hk];exact d.fam0 f hf fun i hi _=>hnone i hi
      . rw [c.obj_keep (show m+1<=_ by omega) (dz _) fun k hk1 hk2 hs2=>by have:=hmax k hk2 hs2;omega];exact d.fam f m hf hm1 (hall m hm1) hs fun j hj _ hsj=>hmax j hj hsj
    . rw [<- ht.sN];exact (c.inv _ (dz _)).none
    . rw [<- ht.sN];exact (c.inv _ (dz _)).vers
    . have:=d.ext;rw [ht.s0,ht.sN] at this;exact this
  have key:∀ (fuel:Nat) (E:Array Bool) (σ1:Sg) (a1:Act) (w1:World),DInv V ops.toList F S T σ w a E σ1 a1 w1->cnt ops.toList E<=fuel->wpAnyIn (zjl r) kd P .any ops Q fuel E a1 w1:=by
    intro fuel
    -- where nothing is ready, all has been done
    have hready:∀ (E:Array Bool) (σ1:Sg) (a1:Act) (w1:World),DInv V ops.toList F S T σ w a E σ1 a1 w1->Region.ready .any ops E=[]->∀ i,i<ops.toList.length->On E i:=by
      intro E σ1 a1 w1 d hnil i
      induction i using Nat.strongRecOn with
      |_ i ih =>
        intro hi;refine lc fun hoff=>?_;have ho:ops.toList[i]?=some ops.toList[i]:=dv hi
        have:i∈Region.ready .any ops E:=by
          rw [mem_ready];refine ⟨?_,ops.toList[i],by rw [<- gq];exact ho,fun e he hb=>?_⟩
          . unfold On at hoff;have hsz:i<E.size:=by rw [d.size];exact hi
            simp only [iu,iz hsz,Option.getD_some] at hoff ⊢;simpa using hoff
          . have:=c.edge i _ ho e (by simpa using he) hb;exact ih e.on this (by omega)
        rw [hnil] at this;simp at this
    induction fuel with
    |zero =>
      intro E σ1 a1 w1 d hcnt
      have hall:∀ i,i<ops.toList.length->On E i:=by
        intro i hi;refine lc fun hoff=>?_
        have:0<cnt ops.toList E:=by
          unfold cnt;rw [List.countP_pos_iff];exact ⟨i,by simpa using hi,by unfold On at hoff;simpa using hoff⟩
        omega
      refine ⟨?_,hend E σ1 a1 w1 d hall⟩;rw [List.eq_nil_iff_forall_not_mem];intro i hi;obtain ⟨h1,o,ho,_⟩:=mem_ready.1 hi;have hlt:i<ops.toList.length:=by rw [gn];exact (mn.1 ho).1
      have:=hall i hlt;unfold On at this;have hsz:i<E.size:=by rw [d.size];exact hlt
      simp only [iu,iz hsz,Option.getD_some] at h1 this;rw [this] at h1
      simp at h1
    |succ fuel ih =>
      intro E σ1 a1 w1 d hcnt;refine ⟨fun hnil=>hend E σ1 a1 w1 d (hready E σ1 a1 w1 d hnil),fun i hi=>?_⟩;obtain ⟨h1,o,ho,hp⟩:=mem_ready.1 hi;have ho':ops.toList[i]?=some o:=by rw [gq];exact ho
      have hlt:=(d9.1 ho').1
      have hoff:¬ On E i:=by
        unfold On;have hsz:i<E.size:=by rw [d.size];exact hlt
        simp only [iu,iz hsz,Option.getD_some] at h1 ⊢;rw [h1];simp
      have hp':∀ e,e∈o.after.toList->jp .any e=true->On E e.on:=fun e he hb=>hp e (by simpa using he) hb;obtain ⟨hstep,hnext⟩:=c.step i o ho';have hoperi:=c.oper i o ho';unfold zj8 at hoperi;rw [dr] at hoperi;have hrel:=yib c d ho' hoff hp'
      have hcov:zbi (Vi V S T i) (T i):=by
        intro f hf
        have hf':f∈(T i).rd\/f∈(T i).wr\/(S i).n<=f:=by
          rcases hf with hf|hf|hf
          . exact .inl hf
          . exact .inr (.inl hf)
          . rw [(c.can i hlt).lim] at hf;exact .inr (.inr hf)
        exact ⟨hVt i hlt f hf',hf'⟩
      have hfresh:zd1 σ1 (S i).inner.n (T i).n:=ybh c hF0 d hlt hoff;have hGi:zil G σ1:=hG.up d.ext.le;unfold wpOpIn;rw [ho];simp only;refine ycv (fr:=F i) hE hC hrel hcov hfresh (zig (c.inv i (by omega))) hGi hoperi.1 ?_ ?_ hstep ?_
      . intro t htm;refine z10 c h5 d ho' hoff hp' ?_;unfold zfh;refine List.mem_append_left _ (List.mem_filterMap.2 ⟨.tmp t,htm,rfl⟩)
      . intro g b dd hg hd;refine ⟨?_,z10 c h5 d ho' hoff hp' ?_⟩
        . unfold zpg at hd
          cases hog:ops.toList[g]? with
          |none=>rw [hog] at hd;simp at hd
          |some og =>
            rw [hog] at hd;simp only at hd;have:=c.oper g og hog;unfold zj8 at this;rw [dr,hd] at this;rw [d.asize];exact zac.1 this.2
        . unfold zfh;refine List.mem_append_right _ ?_;rw [hg];simp only;rw [hd];simp
      . intro σ' v v' w' hput hv hr' he';refine ih _ σ' _ w' (ygz c h5 hF0 hwlt d ho' hoff hp' hput hv hr' he') ?_;have:=yof d.size hlt hoff;omega
  refine key ops.size (oa ops.size false) σ a _ ?_ ?_
  . refine ⟨?_,hr.inj,fun f u b o z k=>hr.lt f u b o z k,fun f u h0 h1=>absurd h0 h1,fun t _=>by rw [ht.f0];exact hfr.val t,?_,?_,?_,by rw [ht.f0];exact hfr.size.symm,rfl,?_,by simp⟩
    . refine ⟨fun _ _ _ k=>k,fun _ _ k1 k2=>absurd k1 k2,fun _ _ _ _ _ k1 k2=>by rw [k1] at k2;simp at k2,dz _,fun _ _ _=>rfl,⟨rfl,rfl,rfl⟩⟩
    . intro t i o hon;unfold On at hon;simp only [iu,lj] at hon;split at hon<;>simp at hon
    . intro f hf _;rw [ht.s0];exact (hr.fam f hf).world rfl
    . intro f i _ _ hon;unfold On at hon;simp only [iu,lj] at hon;split at hon<;>simp at hon
    . intro j o hon;unfold On at hon;simp only [iu,lj] at hon;split at hon<;>simp at hon
  . unfold cnt;refine i8 List.countP_le_length ?_;simp
end
section
variable {P:ep} {Γ:Env} {G:List Nat}
theorem zuw (fr:Fr) (d:Option Tmp) (v:Value):(putC fr d v).nt=fr.nt:=by
  cases d with
  |none=>rfl
  |some t=>exact Fr.put_nt _ _ _
theorem z69 {call:zc1} {ops:List Oper} {o:Oper} {fr fr':Fr} {s s':CS} (h:zcj P Γ call ops o fr s=some (fr',s')):fr'.nt=fr.nt:=by
  unfold zcj at h
  cases hw:zc4 ops fr o with
  |false=>rw [hw] at h;simp only [cond_false,dp,du] at h;rw [<- h.1,zuw]
  |true =>
    rw [hw] at h;simp only [cond_true] at h;split at h
    . simp only [dp,du] at h;rw [<- h.1,zuw]
    . simp at h
theorem ydq {call:zc1} {ops:List Oper}:∀ {l:List Oper} {fr fr':Fr} {s s':CS},runC P Γ call ops l fr s=some (fr',s')->fr'.nt=fr.nt
  |[],fr,fr',s,s',h=>by simp only [runC,dp,du] at h;rw [<- h.1]
  |o :: l,fr,fr',s,s',h=>by
    simp only [runC] at h;split at h
    . rename_i h1;rw [ydq h,z69 h1]
    . simp at h
theorem z9n {call:zc1} {ops:List Oper}:∀ {l:List Oper} {fr fr':Fr} {s s':CS} {logs:List Lg},drawC P Γ call ops l fr s=some (logs,fr',s')->fr'.nt=fr.nt
  |[],fr,fr',s,s',logs,h=>by simp only [drawC,dp,du] at h;rw [<- h.2.1]
  |o :: l,fr,fr',s,s',logs,h=>by
    simp only [drawC] at h;split at h
    . rename_i h1;split at h
      . rename_i h2;simp only [dp,du] at h;rw [<- h.2.1,z9n h2,z69 h1]
      . simp at h
    . simp at h
theorem z9m {call:zc1} (hc:ze4 call) {ops:List Oper}:∀ {l:List Oper} {fr fr':Fr} {s s':CS} {logs:List Lg},CInv s->drawC P Γ call ops l fr s=some (logs,fr',s')->Can s s'
  |[],fr,fr',s,s',logs,hI,h=>by simp only [drawC,dp,du] at h;rw [<- h.2.2];exact f5 _
  |o :: l,fr,fr',s,s',logs,hI,h=>by
    simp only [drawC] at h;split at h
    . rename_i h1;split at h
      . rename_i h2;simp only [dp,du] at h;have c1:=zlc hI (zms hc (zig hI) h1);rw [<- h.2.2];exact c1.trans (z9m hc (hI.next c1) h2)
      . simp at h
    . simp at h
theorem zns {fr:Fr}:∀ {l:List ResultVar} {s s':CS} {vs:List Value},resC Γ fr s l=some (vs,s')->Can s s'
  |[],s,s',vs,h=>by simp only [resC,dp,du] at h;rw [<- h.2];exact f5 _
  |.tmp t :: l,s,s',vs,h=>by
    simp only [resC] at h;split at h
    . rename_i h1;simp only [dp,du] at h;rw [<- h.2];exact zns h1
    . simp at h
  |.cell a t :: l,s,s',vs,h=>by
    simp only [resC] at h;split at h
    . split at h
      . rename_i h1;split at h
        . rename_i h2;simp only [dp,du] at h;rw [<- h.2];exact (zpb h1).trans (zns h2)
        . simp at h
      . simp at h
    . simp at h
def Exit.known:Exit->Prop
  |.normal=>True
  |.exit _=>True
  |.ret=>True
  |_=>False
theorem zm0:∀ (ps:List Tmp) (vs:List Value) (fr:Fr),(zp7 fr ps vs).nt=fr.nt
  |[],_,_=>rfl
  |_ :: _,[],_=>rfl
  |p :: ps,v :: vs,fr=>by rw [zp7,zm0 ps vs,Fr.put_nt]
def yqw (it:Nat->Option It):Prop:=∀ f i,it f=some i->∀ caps s k s',i.key caps s=some (k,s')->CInv s->Can s s'/\s'.obj=s.obj/\s'.n=s.n
theorem zmy {run:Code->Fr->CS->Option (Exit×Fr×CS)} {key:CS->Option (List Nat×CS)} {k0:List Nat} {ps:List Tmp} {a b:Code} {fr:Fr}
    (hrun:∀ c fr s e fr' s',run c fr s=some (e,fr',s')->fr'.nt=fr.nt/\Exit.known e/\(CInv s->Can s s')) (hk:∀ s k s',key s=some (k,s')->CInv s->Can s s'):∀ (xs:List (List Value)) (s:CS) (e:Exit) (s':CS),zin run key k0 ps a b fr xs s=some (e,s')->Exit.known e/\(CInv s->Can s s')
  |[],s,e,s',h=>by
    simp only [zin,dp,du] at h;obtain ⟨rfl,rfl⟩:=h;exact ⟨trivial,fun _=>f5 _⟩
  |x :: xs,s,e,s',h=>by
    rw [zin] at h;obtain ⟨_,h⟩:=za8 h;split at h
    . rename_i h1;obtain ⟨_,_,q3⟩:=hrun _ _ _ _ _ _ h1;split at h
      . rename_i h2;obtain ⟨_,_,r3⟩:=hrun _ _ _ _ _ _ h2;split at h
        . rename_i h3;obtain ⟨_,h⟩:=za8 h;obtain ⟨t1,t2⟩:=zmy hrun hk xs _ _ _ h;refine ⟨t1,fun hI=>?_⟩;have c1:=q3 hI;have c2:=r3 (hI.next c1);have c12:=c1.trans c2;have c3:=hk _ _ _ h3 (hI.next c12);exact (c12.trans c3).trans (t2 (hI.next (c12.trans c3)))
        . simp at h
      . rename_i h2;obtain ⟨_,_,r3⟩:=hrun _ _ _ _ _ _ h2;simp only [dp,du] at h;obtain ⟨rfl,rfl⟩:=h;exact ⟨trivial,fun hI=>(q3 hI).trans (r3 (hI.next (q3 hI)))⟩
      . rename_i h2;obtain ⟨_,_,r3⟩:=hrun _ _ _ _ _ _ h2;simp only [dp,du] at h;obtain ⟨rfl,rfl⟩:=h;exact ⟨trivial,fun hI=>(q3 hI).trans (r3 (hI.next (q3 hI)))⟩
      . simp at h
    . simp at h
theorem zmw {s:CS} {d:Nat} {x:Option Lp} (hro:(zaa s.obj d).ro=false) (hI:CInv s):Can s (s.setLp d x) :=
  zlx (x:=⟨false,[],none,x⟩) hro rfl (hI.lt hro) s.n (dz _) (fun _ p hp=>by simp at hp) rfl
theorem z7f {s:CS} {d:Nat} {x:Option Lp} (hro:(zaa s.obj d).ro=false):(zaa (s.setLp d x).obj d).ro=false:=by
  unfold CS.setLp;simp only;rw [zbd _ (zj9 hro)]
theorem ztu {run:Code->Fr->CS->Option (Exit×Fr×CS)} {d:Nat} {args:List Value} {s s':CS} {v:Value} (h:zmn run (zkf d) (.chan none :: args) s=some (v,s')) :
    ∃ L fr1 s1 e fr2 s2 st,(zaa s.obj d).lp=some L/\(zaa s.obj d).ro=false/\L.st=none/\args.length=L.ps.length/\run L.a (zp7 L.fr L.ps args) (s.setLp d none).inner=some (.normal,fr1,s1)/\run L.b fr1 s1=some (e,fr2,s2) /\
      d ∉ s2.rd/\d ∉ s2.wr/\zsh e=some st/\v=.bool (match st with|none=>true|some _=>false)/\s'=((s.setLp d none).outer s2).setLp d (some { L with st:=st }):=by
  unfold zmn at h;simp only at h;obtain ⟨_,h⟩:=za8 h;rw [show Nat.sub (zkf d) 1099511627776=d by show d+1099511627776 - 1099511627776=d;omega] at h;unfold yb4 at h;split at h
  . rename_i L hL;obtain ⟨hc,h⟩:=za8 h;rw [dr,dr] at hc;unfold yb6 at h;split at h
    . rename_i fr1 s1 h1;split at h
      . rename_i e fr2 s2 h2;obtain ⟨hd,h⟩:=za8 h;rw [dr] at hd;split at h
        . rename_i st hst;simp only [dp,du] at h;refine ⟨L,fr1,s1,e,fr2,s2,st,hL,by simpa using hc.1,?_,dx hc.2.2,h1,h2,fun k=>?_,fun k=>?_,hst,h.1.symm,h.2.symm⟩
          . cases hq:L.st with
            |none=>rfl
            |some _=>rw [hq] at hc;simp at hc
          . rw [zpa k] at hd;simp at hd
          . rw [zpa k] at hd;simp at hd
        . simp at h
      . simp at h
    . simp at h
  . simp at h
theorem z1m {run:Code->Fr->CS->Option (Exit×Fr×CS)} {f:Nat} {args:List Value} {s:CS} {r:Value×CS} (h:zmn run f args s=some r):∃ d xs,f=zkf d/\args=.chan none :: xs:=by
  unfold zmn at h;split at h
  . obtain ⟨hb,_⟩:=za8 h;have:=zax.1 hb;exact ⟨f - 1099511627776,_,by show f=f - 1099511627776+1099511627776;omega,rfl⟩
  . simp at h
theorem zus {call:zc1} {gf:FuncId} {first caps:List Value} {ps:List Tmp} {a b:Code} {fr fr':Fr} {s s':CS} {e:Exit} (h:zsc call gf first caps ps a b fr s=some (e,fr',s')) :
    ∃ v s2 L,zif s.obj s.n=true/\first=[]/\(∀ p,p∈ps->p<fr.nt)/\zcs [] fr.nt a=true/\zcs [] fr.nt b=true/\call gf (.func (.yield s.n) #[] #[] :: caps) { s with n:=s.n+1,obj:=zal s.obj s.n ⟨false,[],none,some ⟨fr,ps,a,b,none⟩⟩ }=some (v,s2) /\
      (zaa s2.obj s.n).lp=some L/\ynp L.st=some e/\fr'=fr/\s'=s2.setLp s.n none:=by
  unfold zsc at h;obtain ⟨hc,h⟩:=za8 h;rw [dr,dr,dr,dr,nr] at hc;split at h
  . rename_i v s2 h1;split at h
    . rename_i L hL;split at h
      . rename_i e1 he;simp only [dp,du] at h;obtain ⟨rfl,rfl,rfl⟩:=h;exact ⟨v,s2,L,hc.1,hc.2.1,fun p hp=>zac.1 (ez.1 hc.2.2.1 p hp),hc.2.2.2.1,hc.2.2.2.2,h1,hL,he,rfl,rfl⟩
      . simp at h
    . simp at h
  . simp at h
theorem zw0 {run:Code->Fr->CS->Option (Exit×Fr×CS)} (hrun:∀ c fr s e fr' s',run c fr s=some (e,fr',s')->fr'.nt=fr.nt/\Exit.known e/\(CInv s->Can s s')):ze4 (zmn run):=by
  intro f args s v s' h hI;obtain ⟨d,xs,rfl,rfl⟩:=z1m h;obtain ⟨L,fr1,s1,e,fr2,s2,st,_,hro,_,_,h1,h2,_,_,_,_,rfl⟩:=ztu h;have k1:=zmw (x:=none) hro hI;have hI1:=hI.next k1
  have k2:=(hrun _ _ _ _ _ _ h1).2.2 (zig hI1);have k3:=(hrun _ _ _ _ _ _ h2).2.2 ((zig hI1).next k2);have k4:=k1.trans (zlc hI1 (k2.trans k3));refine k4.trans (zmw ?_ (hI.next k4));rw [k4.ro d (hI.lt hro),hro]
theorem yax {call:zc1} (hcall:ze4 call) {gf:FuncId} {first caps:List Value} {ps:List Tmp} {a b:Code} {fr fr':Fr} {s s':CS} {e:Exit} (h:zsc call gf first caps ps a b fr s=some (e,fr',s')):fr'.nt=fr.nt/\Exit.known e/\(CInv s->Can s s'):=by
  obtain ⟨v,s2,L,hn,_,_,_,_,h1,hL,he,rfl,rfl⟩:=zus h;refine ⟨rfl,?_,fun hI=>?_⟩
  . unfold ynp at he;split at he
    . cases he;trivial
    . cases he;trivial
    . cases he;trivial
    . cases he
  . have k1:Can s { s with n:=s.n+1,obj:=zal s.obj s.n ⟨false,[],none,some ⟨fr',ps,a,b,none⟩⟩ }:=zrp hn (fun p hp=>by simp at hp) rfl;have k2:=hcall _ _ _ _ _ h1 (hI.next k1);have k3:=k1.trans k2;refine k3.trans (zmw ?_ (hI.next k3));rw [k2.ro s.n (Nat.lt_succ_self _)];show (zaa (zal s.obj s.n _) s.n).ro=false;rw [zbd _ hn]
theorem z4m {run:Code->Fr->CS->Option (Exit×Fr×CS)} (hA:ze4 (axC Γ)) (hrun:∀ c fr s e fr' s',run c fr s=some (e,fr',s')->fr'.nt=fr.nt/\Exit.known e/\(CInv s->Can s s')):ze4 (zod Γ run):=by
  intro f args s v s' h hI;unfold zod at h;split at h
  . rename_i hx hax;exact hA f args s v s' (by unfold axC;rw [hax];exact h) hI
  split at h
  . split at h
    . split at h
      . rename_i h1;obtain ⟨_,h1⟩:=za8 h1;split at h
        . rename_i h2;simp only [dp,du] at h;have c1:=(hrun _ _ _ _ _ _ h1).2.2 hI;rw [<- h.2];exact c1.trans (zns h2)
        . simp at h
      . rename_i h1;obtain ⟨_,h1⟩:=za8 h1;split at h
        . rename_i h2;simp only [dp,du] at h;have c1:=(hrun _ _ _ _ _ _ h1).2.2 hI;rw [<- h.2];exact c1.trans (zns h2)
        . simp at h
      . simp at h
    . simp at h
  . exact zw0 hrun _ _ _ _ _ h hI
theorem zq2 (hA:ze4 (axC Γ)) (hIt:yqw Γ.it):∀ (n:Nat),(∀ c fr s e fr' s',cm P Γ n c fr s=some (e,fr',s')->fr'.nt=fr.nt/\Exit.known e/\(CInv s->Can s s'))/\ze4 (zd6 P Γ n):=by
  intro n
  induction n with
  |zero=>exact ⟨fun c fr s e fr' s' h=>by simp [cm] at h,z4m hA fun c fr s e fr' s' h=>by simp [cm] at h⟩
  |succ n ih =>
    obtain ⟨ih1,ih2⟩:=ih
    have hcode:∀ c fr s e fr' s',cm P Γ (n+1) c fr s=some (e,fr',s')->fr'.nt=fr.nt/\Exit.known e/\(CInv s->Can s s'):=by
      intro c fr s e fr' s' h
      cases c with
      |skip=>simp only [cm,dp,du] at h;obtain ⟨rfl,rfl,rfl⟩:=h;exact ⟨rfl,trivial,fun _=>f5 _⟩
      |label lb=>simp only [cm,dp,du] at h;obtain ⟨rfl,rfl,rfl⟩:=h;exact ⟨rfl,trivial,fun _=>f5 _⟩
      |exit id=>simp only [cm,dp,du] at h;obtain ⟨rfl,rfl,rfl⟩:=h;exact ⟨rfl,trivial,fun _=>f5 _⟩
      |ret=>simp only [cm,dp,du] at h;obtain ⟨rfl,rfl,rfl⟩:=h;exact ⟨rfl,trivial,fun _=>f5 _⟩
      |region id ops draw =>
        have h' : (bif draw then match drawC P Γ (zd6 P Γ n) ops.toList ops.toList fr s with
            |some (logs,fr,t)=>bif calm s.n ops.toList logs then some (kh,fr,t) else none
            |none=>none
          else match runC P Γ (zd6 P Γ n) ops.toList ops.toList fr s with
            |some (fr,s)=>some (kh,fr,s)
            |none=>none)=some (e,fr',s'):=h
        cases draw with
        |true =>
          simp only [cond_true] at h';split at h'
          . rename_i hd;obtain ⟨_,h'⟩:=zdp h';simp only [dp,du] at h';obtain ⟨rfl,rfl,rfl⟩:=h';exact ⟨z9n hd,trivial,fun hI=>z9m ih2 hI hd⟩
          . simp at h'
        |false =>
          simp only [cond_false] at h';split at h'
          . rename_i hd;simp only [dp,du] at h';obtain ⟨rfl,rfl,rfl⟩:=h';exact ⟨ydq hd,trivial,fun hI=>z5l ih2 hI hd⟩
          . simp at h'
      |seq a b =>
        simp only [cm] at h;split at h
        . rename_i h1;obtain ⟨q1,q2,q3⟩:=ih1 _ _ _ _ _ _ h1;obtain ⟨r1,r2,r3⟩:=ih1 _ _ _ _ _ _ h;exact ⟨by rw [r1,q1],r2,fun hI=>(q3 hI).trans (r3 (hI.next (q3 hI)))⟩
        . exact ih1 _ _ _ _ _ _ h
      |cond c t e' =>
        simp only [cm] at h;split at h
        . exact ih1 _ _ _ _ _ _ h
        . simp at h
      |block id b =>
        simp only [cm] at h;split at h
        . rename_i h1;simp only [dp,du] at h;obtain ⟨rfl,rfl,rfl⟩:=h;obtain ⟨q1,q2,q3⟩:=ih1 _ _ _ _ _ _ h1;refine ⟨q1,?_,q3⟩;have hk:∀ x:Bool,∀ i:Nat,Exit.known (bif x then kh else Exit.exit i):=fun x i=>by cases x<;>trivial
          exact hk _ _
        . exact ih1 _ _ _ _ _ _ h
      |loop b =>
        simp only [cm] at h;split at h
        . rename_i h1;obtain ⟨q1,q2,q3⟩:=ih1 _ _ _ _ _ _ h1;obtain ⟨r1,r2,r3⟩:=ih1 _ _ _ _ _ _ h;exact ⟨by rw [r1,q1],r2,fun hI=>(q3 hI).trans (r3 (hI.next (q3 hI)))⟩
        . exact ih1 _ _ _ _ _ _ h
      |scope b=>simp only [cm] at h;exact ih1 _ _ _ _ _ _ h
      |rangeFunc g ps a b =>
        rw [cm] at h;split at h
        . split at h
          . rename_i gf first caps hgv i hit
            unfold z2f at h;simp only [hit] at h;split at h
            . rename_i i' hit' hfirst;simp only [dp] at hit';subst hit';split at h
              . rename_i h1;split at h
                . rename_i h2;simp only [dp,du] at h;obtain ⟨rfl,rfl,rfl⟩:=h;obtain ⟨t1,t2⟩:=zmy ih1 (fun s k s' q hI=>(hIt _ _ hit _ _ _ _ q hI).1) _ _ _ _ h2;refine ⟨rfl,t1,fun hI=>?_⟩;have c1:=(hIt _ _ hit _ _ _ _ h1 hI).1;exact c1.trans (t2 (hI.next c1))
                . simp at h
              . simp at h
            . simp at h
          . exact yax ih2 h
        . simp at h
      |goto lb=>simp [cm] at h
      |refuse why=>simp [cm] at h
    exact ⟨hcode,z4m hA hcode⟩
def z2d (tmps:Array Value):ResultVar->Sem Value
  |.tmp t=>pure (tmps.getD t undef)
  |.cell a t=>do loadVar t (<- asAddr (tmps.getD a undef))
theorem z5o (hE:zcv P Γ) {σ:Sg} {V:Nat->Prop} {w:World} {fr:Fr} {a:Act} (hfr:FrR σ fr a):∀ {l:List ResultVar} {s s':CS} {vs:List Value},Rel σ V s w->zbi V s'->CInv s->zd1 σ s.n s'.n->resC Γ fr s l=some (vs,s') ->
    ∃ vs',(l.mapM (z2d a.tmps)).run P w=.ok vs' w/\RL (VR σ) vs vs'/\Rel σ V s' w/\Ext σ V s w σ s' w
  |[],s,s',vs,hr,hV,hI,hF,h=>by
    simp only [resC,dp,du] at h;obtain ⟨rfl,rfl⟩:=h;exact ⟨[],by simp,trivial,hr,m8 _ _ _ _⟩
  |.tmp t :: l,s,s',vs,hr,hV,hI,hF,h=>by
    simp only [resC] at h;split at h
    . rename_i vs1 s1 h1;simp only [dp,du] at h;obtain ⟨rfl,rfl⟩:=h;obtain ⟨vs',e1,e2,e3,e4⟩:=z5o hE hfr hr hV hI hF h1;refine ⟨a.tmps.getD t undef :: vs',?_,⟨hfr.val t,e2⟩,e3,e4⟩;simp [List.mapM_cons,z2d,e1]
    . simp at h
  |.cell q t :: l,s,s',vs,hr,hV,hI,hF,h=>by
    simp only [resC] at h;split at h
    . rename_i ad i hq hi;split at h
      . rename_i v1 s1 h1;split at h
        . rename_i vs1 s2 h2;simp only [dp,du] at h;obtain ⟨rfl,rfl⟩:=h;have c2:=zns h2;have c1:=zpb h1;have hv:=hfr.val q;rw [hq] at hv;obtain ⟨b,o,z,hσ,he⟩:=hv.ptr;obtain ⟨v',f1,f2,f3,f4⟩:=zu7 hE hr hi h1 (hV.back c2) hσ;obtain ⟨vs',e1,e2,e3,e4⟩:=z5o hE hfr f3 hV (hI.next c1) (hF.mono c1.n (dz _)) h2;refine ⟨v' :: vs',?_,⟨f2,e2⟩,e3,f4.trans e4 c1 c2 hF hr.none⟩;simp only [List.mapM_cons,ks,z2d,he,asAddr,Sem.run_pure,js,f1,e1]
        . simp at h
      . simp at h
    . simp at h
theorem z5n (hE:zcv P Γ) {σ:Sg} {V:Nat->Prop} {w:World} {fr:Fr} {a:Act} (hfr:FrR σ fr a) {fn:Func} {s s':CS} {vs:List Value} (hr:Rel σ V s w) (hV:zbi V s') (hI:CInv s) (hF:zd1 σ s.n s'.n) (h:resC Γ fr s fn.results.toList=some (vs,s')) :
    ∃ v',(results fn a.tmps).run P w=.ok v' w/\VR σ (tupC vs) v'/\Rel σ V s' w/\Ext σ V s w σ s' w:=by
  obtain ⟨vs',e1,e2,e3,e4⟩:=z5o hE hfr hr hV hI hF h
  have hm:(results fn a.tmps)=(do let vs <- fn.results.mapM (z2d a.tmps);pure (if h:vs.size=1 then vs[0] else .tuple vs)):=by
    unfold results;congr 1
  have hrun:(fn.results.mapM (z2d a.tmps)).run P w=.ok vs'.toArray w:=by
    rw [Array.mapM_eq_mapM_toList];simp [ks,e1]
  refine ⟨if h:vs'.toArray.size=1 then vs'.toArray[0] else .tuple vs'.toArray,?_,?_,e3,e4⟩
  . rw [hm];simp only [ks,hrun,js,Sem.run_pure]
  . have hl:=e2.length;unfold tupC;split
    . rename_i v
      cases vs' with
      |nil=>simp at hl
      |cons v' r =>
        cases r with
        |nil=>simp;exact e2.1
        |cons _ _=>simp at hl
    . rename_i hne;rw [dif_neg]
      . exact n6 ⟨_,rfl,by simpa using e2⟩
      . intro h1;simp at h1;rw [<- hl] at h1
        match vs,h1 with
        |[v],_=>exact hne v rfl
theorem zqb:∀ (l:List Value) (i:Nat) (fr:Fr),(mi l i fr).nt=fr.nt
  |[],_,_=>rfl
  |v :: l,i,fr=>by simp only [mi];rw [zqb l (i+1),Fr.put_nt]
theorem zx2:∀ (l:List Value) (i:Nat) (fr:Fr),fr.nt<=512->i+l.length<=fr.nt->∀ t,(mi l i fr).get t=if i<=t/\t<i+l.length then l.getD (t - i) undef else fr.get t
  |[],i,fr,_,_,t=>by rw [zAd (by simp)];rfl
  |v :: l,i,fr,h5,hl,t=>by
    simp only [mi];simp only [List.length_cons] at hl;rw [zx2 l (i+1) (fr.put i v) (by rw [Fr.put_nt];exact h5) (by rw [Fr.put_nt];omega) t];by_cases h1:t=i
    . subst h1;rw [zAd (by omega),zAc (by simp),Fr.get_put_same v (by omega) h5];simp
    . rw [Fr.get_put_other v h5 (Ne.symm h1)];by_cases h2:i+1<=t/\t<i+1+l.length
      . rw [zAc h2,zAc (by simp;omega)];rw [show t - i=(t - (i+1))+1 by omega];simp
      . rw [zAd h2,zAd (by simp;omega)]
theorem ygu {σ:Sg} {args:List Value} {args':Array Value} {nt:Nat} (h5:nt<=512) (hl:args.length<=nt) (hr:RL (VR σ) args args'.toList):FrR σ (mi args 0 ⟨nt,Tr.all undef 9⟩) { tmps:=args'++oa (nt - args'.size) undef,defers:=[] }:=by
  have hlen:args.length=args'.size:=by rw [hr.length,gn]
  refine ⟨?_,by rw [zqb];exact h5,fun t=>?_⟩
  . rw [zqb];simp;omega
  . rw [zx2 args 0 _ h5 (by simpa using hl) t]
    have hund:(⟨nt,Tr.all undef 9⟩:Fr).get t=undef:=by
      unfold Fr.get;rw [zb0];split
      . exact Tr.get_all _ _ _
      . rfl
    by_cases h:t<args.length
    . rw [zAc ⟨by omega,by omega⟩];obtain ⟨y,hy,hv⟩:=hr.at (dv h);have e1:args.getD (t - 0) undef=args[t]:=by simp [h]
      rw [e1]
      have e2:(args'++oa (nt - args'.size) undef).getD t undef=y:=by
        rw [gq] at hy;simp only [iu];rw [Array.getElem?_append_left (by omega),hy];rfl
      rw [e2];exact hv
    . rw [zAd (by omega),hund]
      have e2:(args'++oa (nt - args'.size) undef).getD t undef=undef:=by
        simp only [iu];rw [Array.getElem?_append_right (by omega),lj];split<;>rfl
      rw [e2];exact om
end
end Go.Proofs.YteifcnjpjjaikaaGreat
