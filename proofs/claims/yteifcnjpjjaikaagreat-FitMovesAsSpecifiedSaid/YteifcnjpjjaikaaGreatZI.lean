/- Part 9 of the proof of FitMovesAsSpecified (several texts in one; no further condition). -/
import Derived.Test.YteifcnjpjjaikaaGreatZH
import Derived.Test.YteifcnjpjjaikaaGreatZF
set_option linter.unusedSimpArgs false
set_option linter.unusedVariables false
set_option linter.unusedSectionVars false
namespace Go.Proofs.YteifcnjpjjaikaaGreat
set_option maxHeartbeats 8000000
open _root_.And renaming intro->dr
open _root_.Bool renaming and_eq_true->dz,and_self->ef,false_and->m4,false_or->g0,not_false->gd,not_true->ge,or_self->iq,or_true->ip,toNat_false->o7,true_or->ig
open Go.Proofs.YteifcnjpjjaikaaGreat.Call renaming enter->rn
open _root_.Classical renaming byContradiction->l6
open _root_.Eq renaming trans->eg
open Go.Instr renaming sameBits->mr
open Go.IntKind renaming i64->dx
open _root_.List renaming all_eq_true->fe,append_assoc->ew,append_nil->fo,cons_append->fk,drop_eq_getElem_cons->jd,drop_of_length_le->gu,drop_succ_cons->jh,drop_zero->fl,ext_getElem?->oi,flatten_cons->f5,flatten_nil->ff,getD_eq_getElem?_getD->eh,getElem?_append_right->gi,getElem?_cons_succ->jb,getElem?_cons_zero->fp,getElem?_eq_getElem->d6,getElem?_eq_some_iff->ek,getElem?_set->pq,getElem?_set_self->qc,getElem_mem->fi,length_append->ep,length_cons->et,length_map->ed,length_nil->gb,length_singleton->iw,length_take->gh,map_congr_left->ph,map_cons->gj,mem_cons->ij,mem_map->ic,mem_of_getElem?->gv,mem_range->ks,nil_append->eu,range->iz,replicate->el,set_cons_succ->jo,set_cons_zero->ju,take_of_length_le->fx
open _root_.Nat renaming and_le_left->qh,eq_of_testBit_eq->nj,le_refl->ee,lt_of_le_of_lt->po,lt_of_lt_of_le->fb,lt_or_ge->jl,not_lt_zero->pf,or_lt_two_pow->pr,reduceAdd->d8,reduceEqDiff->d9,reduceLT->fm,reduceLeDiff->jk,reduceMul->fw,reduceSub->gp,testBit_and->jw,testBit_or->my,testBit_two_pow_sub_one->jp,zero_add->fy,zero_le->ft
open _root_.Option renaming bind->rf,bind_some->dw
open _root_.Option.some renaming injEq->du
open Go.Proofs.YteifcnjpjjaikaaGreat.Pure renaming clr->f6
open _root_.Sum renaming elim->il
open Go.Proofs.YteifcnjpjjaikaaGreat.T renaming int->dy,lst->rm,ren->pg,renL->ne
open Go.Proofs.YteifcnjpjjaikaaGreat.TS renaming add_ne->l7,add_same->m6,set_ne->gr,set_same->im
open Go.Proofs.YteifcnjpjjaikaaGreat.TW renaming block->ey,cond->pt,freeze->lw,loopT->gt,region->i7,ret->qn,seq->dv,skip->qy
open Go.Proofs.YteifcnjpjjaikaaGreat.zap renaming call->fc
open Go.Proofs.YteifcnjpjjaikaaGreat.zmu renaming one->pu
open Go.Proofs.YteifcnjpjjaikaaGreat.zo4 renaming refl->pa
set_option maxRecDepth 100000
open Go Go.RowKit
def exB (r:Rule):Bool:=decide (gx r.mat.mask.l 0=65535) && decide (gx r.mat.mask.l 9=65535)
def zee (r:Rule):Spot:=⟨gx r.mat.bits.l 0,gx r.mat.bits.l 9⟩
theorem ya3 (k:Nat) (r:Rule):zlq k r=some (zee r,exB r):=by
  rw [zlq,zAc (by omega),zAc (by omega)];unfold zee exB;split<;>simp_all
def addS (s:Spot) (i:Int):List (Spot×List Int)->List (Spot×List Int)
  |[]=>[(s,[i])]
  |(s',l) :: r=>if s=s' then (s',l++[i]) :: r else (s',l) :: addS s i r
def coll:List Rule->Int->List (Spot×List Int)->List (Spot×List Int)
  |[],_,a=>a
  |r :: l,i,a=>coll l (i+1) (if exB r=true then addS (zee r) i a else a)
def yf5 (k:Nat) (t:List Rule):List (Spot×List Int)->Option (List zfe)
  |[]=>some []
  |(s,l) :: r=>(zbu k t (fun x=>zf7 k x s)).bind fun m=>(yf5 k t r).bind fun q=>some (if m=true then q else ⟨s.port,s.tag,l⟩ :: q)
def ziv (k:Nat) (t:List Rule):Option (List zfe):=if t.length<1000000 then yf5 k t (coll t 0 []) else none
theorem z5w:∀ (l:List Rule) (r:Rule) (i:Int) (a:List (Spot×List Int)),coll (l++[r]) i a=if exB r=true then addS (zee r) (i+(l.length:Int)) (coll l i a) else coll l i a
  |[],r,i,a=>by simp [coll]
  |x :: l,r,i,a=>by
    rw [fk,coll,coll,z5w l r (i+1)];have e:i+1+(l.length:Int)=i+((x :: l).length:Int):=by rw [et];omega
    rw [e]
theorem yb2 (s:Spot) (i:Int):∀ a:List (Spot×List Int),(addS s i a).length<=a.length+1
  |[]=>ee _
  |(s',l) :: r=>by
    unfold addS;split
    . simp
    . have:=yb2 s i r;simp only [et];omega
theorem z2m:∀ (l:List Rule) (i:Int) (a:List (Spot×List Int)),(coll l i a).length<=a.length+l.length
  |[],i,a=>ee _
  |x :: l,i,a=>by
    rw [coll];have h1:=z2m l (i+1) (if exB x=true then addS (zee x) i a else a)
    have h2:(if exB x=true then addS (zee x) i a else a).length<=a.length+1:=by
      split
      . exact yb2 _ _ _
      . omega
    rw [et];omega
theorem yjl {s:Spot} {i:Int}:∀ {a:List (Spot×List Int)} {n:Nat},(∀ p,p∈a->p.2.length<=n)->∀ p,p∈addS s i a->p.2.length<=n+1
  |[],n,h,p,hp=>by simp [addS] at hp;subst hp;simp
  |(s',l) :: r,n,h,p,hp=>by
    unfold addS at hp;split at hp
    . rcases ij.1 hp with rfl|hp
      . have:=h _ (.head _);simp only [ep,iw];simp only at this;omega
      . exact Nat.le_succ_of_le (h p (.tail _ hp))
    . rcases ij.1 hp with rfl|hp
      . exact Nat.le_succ_of_le (h _ (.head _))
      . exact yjl (fun p hp=>h p (.tail _ hp)) p hp
theorem yi1:∀ (l:List Rule) (i:Int) (a:List (Spot×List Int)) (n:Nat),(∀ p,p∈a->p.2.length<=n)->∀ p,p∈coll l i a->p.2.length<=n+l.length
  |[],i,a,n,h=>h
  |x :: l,i,a,n,h=>by
    rw [coll,et]
    have:=yi1 l (i+1) (if exB x=true then addS (zee x) i a else a) (n+1) (by
      split
      . exact yjl h
      . exact fun p hp=>Nat.le_succ_of_le (h p hp))
    intro p hp;have:=this p hp;omega
theorem yjk {s:Spot} {i:Int}:∀ {a:List (Spot×List Int)},(∀ p,p∈a->p.2≠[])->∀ p,p∈addS s i a->p.2≠[]
  |[],h,p,hp=>by simp [addS] at hp;subst hp;simp
  |(s',l) :: r,h,p,hp=>by
    unfold addS at hp;split at hp
    . rcases ij.1 hp with rfl|hp
      . simp
      . exact h p (.tail _ hp)
    . rcases ij.1 hp with rfl|hp
      . exact h _ (.head _)
      . exact yjk (fun p hp=>h p (.tail _ hp)) p hp
theorem yi0:∀ (l:List Rule) (i:Int) (a:List (Spot×List Int)),(∀ p,p∈a->p.2≠[])->∀ p,p∈coll l i a->p.2≠[]
  |[],i,a,h=>h
  |x :: l,i,a,h=>by
    rw [coll];refine yi0 l _ _ ?_;split
    . exact yjk h
    . exact h
def entT (b:Nat->Nat):Nat->List (Spot×List Int)->List (T×T)
  |_,[]=>[]
  |j,(s,l) :: r=>(zed s,.arr (b j) 1 0 l.length l.length l.length) :: entT b (j+1) r
def kV (s:Spot):Value:=.agg ⟨[.int .i64 s.port,.int .i64 s.tag]⟩
theorem ycd:zhj Tryz.prog 10000 106=some (true,[.int .i64,.int .i64]):=by kernel_rfl
theorem yph (s:Spot):mr 10000 (kV s) (kV s)=true:=by
  show mr (9998+1+1) (kV s) (kV s)=true;simp [mr,kV]
theorem yeo (s s':Spot):eqW Tryz.prog 106 (kV s) (kV s')=some (decide (s=s')):=by
  have h:=yob (P:=Tryz.prog) 10000 ycd (xs:=[.int .i64 s.port,.int .i64 s.tag]) (ys:=[.int .i64 s'.port,.int .i64 s'.tag]) (by simp [zf9,ckV]) (by simp [zf9,ckV])
  have e:zdg Tryz.prog (Op.equal 106 (kV s) (kV s'))=some (decide (s=s')):=by
    refine h.trans ?_;obtain ⟨p,t⟩:=s;obtain ⟨p',t'⟩:=s';simp [eqVs,zto];by_cases h1:p=p'<;>by_cases h2:t=t'<;>simp [h1,h2]
  unfold eqW;rw [e];by_cases hs:s=s'
  . subst hs;rw [zAa rfl];simp only;rw [yph,zbr]
  . rw [zAb hs]
theorem z81 (ax:Axs) (s:Spot):eqK Tryz.prog (EE ax) 106 (kV s)=some (eqW Tryz.prog 106 (kV s)):=by
  have h1:zxr (EE ax) 106=true:=by unfold zxr;rw [z6t];rfl
  have h2:keyV (EE ax) 106 (kV s)=false:=z4t h1;have h3:∀ b,keyC Tryz.prog b 106 (kV s)=true:=fun b=>by cases b<;>rfl
  unfold eqK;rw [h2,h1,zqm];unfold keyW;rw [h3,h3];rfl
def zrg (s:Spot):List (Spot×List Int)->Nat->Option (Nat×List Int)
  |[],_=>none
  |(s',l) :: r,j=>if s=s' then some (j,l) else zrg s r (j+1)
theorem zz5 {s:Spot}:∀ {a:List (Spot×List Int)} {j k:Nat} {l:List Int},zrg s a j=some (k,l)->j<=k/\a[k - j]?=some (s,l)/\∀ i,addS s i a=a.set (k - j) (s,l++[i])
  |[],j,k,l,h=>by simp [zrg] at h
  |(s',l') :: r,j,k,l,h=>by
    unfold zrg at h;split at h
    . rename_i hs;simp only [du,Prod.mk.injEq] at h;obtain ⟨rfl,rfl⟩:=h;subst hs;refine ⟨ee _,by simp,fun i=>?_⟩;rw [addS,zAc rfl];simp
    . rename_i hs;obtain ⟨h1,h2,h3⟩:=zz5 h;have e:k - j=(k - (j+1))+1:=by omega
      refine ⟨by omega,by rw [e,jb];exact h2,fun i=>?_⟩;rw [addS,zAd hs,e,jo,h3]
theorem zz6 {s:Spot}:∀ {a:List (Spot×List Int)} {j:Nat},zrg s a j=none->∀ i,addS s i a=a++[(s,[i])]
  |[],j,h=>fun i=>rfl
  |(s',l') :: r,j,h=>by
    unfold zrg at h;split at h
    . simp at h
    . rename_i hs;intro i;rw [addS,zAd hs,zz6 h i];rfl
def arrT (b:Nat->Nat) (p:Nat×List Int):Nat×T:=(p.1,.arr (b p.1) 1 0 p.2.length p.2.length p.2.length)
theorem zm9 (s:Spot) (b:Nat->Nat):∀ (a:List (Spot×List Int)) (j:Nat),zp6 (eqW Tryz.prog 106 (kV s)) (entT b j a) j=some ((zrg s a j).map (arrT b))
  |[],j=>rfl
  |(s',l) :: r,j=>by
    have hk:zq2 (zed s')=some (kV s'):=rfl;rw [entT,zp6,hk];simp only;rw [yeo,zrg];by_cases hs:s=s'
    . rw [zAa hs,zAc hs];rfl
    . rw [zAb hs,zAd hs];exact zm9 s b r (j+1)
theorem ygz (ax:Axs):zwc (EE ax) 98=some (106,37):=by unfold zwc;rw [ti98]
theorem zv6 (ax:Axs) (S:TS) (x:T) (l:List T) (ok:Bool):zdx (EE ax) S 98 x (.agg l) ok=none:=by
  unfold zdx;rw [ti98];simp only;unfold zix;rw [z6t];rfl
theorem yry (ax:Axs) (S:TS):∀ x y:Operand,tBin Tryz.prog (EE ax) S 37 .eql x y .nils .nils=some (.bool true):=fun x y=>by
  unfold tBin;simp only [ti37];rfl
theorem yrz (ax:Axs) {S:TS} {b N n:Nat} {z:Bool} {l:List T} (h:S.box b=.cells z N l) (hN:0<N):∀ x y:Operand,tBin Tryz.prog (EE ax) S 37 .eql x y (.arr b 1 0 n n N) .nils=some (.bool false):=fun x y=>by
  unfold tBin;simp only [ti37]
  have:tNil S (.slice 3) (.arr b 1 0 n n N)=some false:=by
    show (bif S.has b N && Nat.blt 0 N then some false else none)=_;have e:S.has b N=true:=by unfold TS.has;rw [h];exact Nat.beq_refl N
    rw [e,zaj.2 hN];rfl
  rw [this];rfl
theorem zv5 (ax : Axs) {S : TS} {m : List (T × T)} (hm : S.box 0 = .map m) (s : Spot) : zik Tryz.prog (EE ax) S 98 (.mp 0) (.agg [.int .i64 s.port, .int .i64 s.tag]) false = match zp6 (eqW Tryz.prog 106 (kV s)) m 0 with
    |some r=>some (zti false .nils (r.map (·.2)))
    |none=>none:=by
  have hk:zq2 (.agg [.int .i64 s.port,.int .i64 s.tag])=some (kV s):=rfl;have hw:zxr (EE ax) 106=true:=by unfold zxr;rw [z6t];rfl
  have hz:ze4 ⟨.slice 3,1,24,[.slice none 0 0]⟩=some .nils:=rfl;unfold zik;rw [ygz,hk];simp only;rw [hw,zbr,z81,ti37];simp only [hz,hm];cases zp6 (eqW Tryz.prog 106 (kV s)) m 0<;>rfl
theorem z0a (ax : Axs) {S : TS} {m : List (T × T)} (hm : S.box 0 = .map m) (s : Spot) : zin Tryz.prog (EE ax) S 98 (.agg [.int .i64 s.port, .int .i64 s.tag]) (.mp 0) = match zp6 (eqW Tryz.prog 106 (kV s)) m 0 with
    |some f=>some (tEnt m .nils f,S.set 0 (.map (yma m (zed s) (yl7 .nils f) f)))
    |none=>none:=by
  have hk:zq2 (.agg [.int .i64 s.port,.int .i64 s.tag])=some (kV s):=rfl;have hz:ze4 ⟨.slice 3,1,24,[.slice none 0 0]⟩=some .nils:=rfl;unfold zin;rw [ygz,hk];simp only;rw [z81,ti37];simp only [hm,hz];cases zp6 (eqW Tryz.prog 106 (kV s)) m 0<;>rfl
theorem ya8 (b:Nat->Nat):∀ (a:List (Spot×List Int)) (j:Nat),(entT b j a).length=a.length
  |[],j=>rfl
  |(s,l) :: r,j=>by rw [entT,et,et,ya8 b r]
theorem z5l (b:Nat->Nat) (s:Spot) (l:List Int):∀ (a:List (Spot×List Int)) (j:Nat),entT b j (a++[(s,l)])=entT b j a++[(zed s,.arr (b (j+a.length)) 1 0 l.length l.length l.length)]
  |[],j=>rfl
  |(s',l') :: r,j=>by
    rw [fk,entT,entT,z5l b s l r,et,show j+1+r.length=j+(r.length+1) by omega];rfl
theorem z0c {b b':Nat->Nat}:∀ (a:List (Spot×List Int)) (j:Nat),(∀ k,j<=k->k<j+a.length->b k=b' k)->entT b j a=entT b' j a
  |[],j,h=>rfl
  |(s,l) :: r,j,h=>by
    rw [entT,entT,h j (ee _) (by simp),z0c r (j+1) fun k h1 h2=>h k (by omega) (by rw [et];omega)]
theorem ya7 (b:Nat->Nat) (s:Spot) (l:List Int):∀ (a:List (Spot×List Int)) (j k:Nat),k<a.length->entT b j (a.set k (s,l))=(entT b j a).set k (zed s,.arr (b (j+k)) 1 0 l.length l.length l.length)
  |[],j,k,h=>by simp at h
  |(s',l') :: r,j,0,h=>rfl
  |(s',l') :: r,j,k+1,h=>by
    rw [jo,entT,entT,ya7 b s l r (j+1) k (by simpa using h),jo,show j+1+k=j+(k+1) by omega]
structure BInv (S:TS) (a:List (Spot×List Int)) (b:Nat->Nat):Prop where
  map:S.box 0=.map (entT b 0 a)
  ord:S.box 1=.cells false (a.length*2) (vecC zed (a.map (·.1)))
  val:∀ j p,a[j]?=some p->S.box (b j)=.cells false p.2.length (p.2.map (dy .i64))
  inj:∀ j j',j<a.length->j'<a.length->b j=b j'->j=j'
  at_:∀ j,j<a.length->2<=b j/\b j<S.n
  two:2<=S.n
theorem BInv.ext {S S1:TS} {a:List (Spot×List Int)} {b:Nat->Nat} (h:BInv S a b) (hn:S.n<=S1.n) (hb:∀ c,c<S.n->S1.box c=S.box c):BInv S1 a b:=by
  have h2:=h.two;refine ⟨by rw [hb 0 (by omega)];exact h.map,by rw [hb 1 (by omega)];exact h.ord,fun j p hj=>?_,h.inj,fun j hj=>⟨(h.at_ j hj).1,fb (h.at_ j hj).2 hn⟩,by omega⟩
  have hjl:j<a.length:=by
    rcases jl j a.length with q|q
    . exact q
    . rw [List.getElem?_eq_none q] at hj;simp at hj
  rw [hb _ (h.at_ j hjl).2];exact h.val j p hj
section
variable {ax:Axs} {N:Nat} {h h':Nat->T} {S S':TS} {Q:Exit->(Nat->T)->TS->Prop} {F:Prop} {C:(Nat->T)->Prop} {R:(Nat->T)->Prop}
theorem TSas {S:TS} {d c:Nat} {x y:Box} (h:c≠S.n) (h2:c≠d):((S.set d y).add x).box c=S.box c:=by
  rw [l7 _ _ (show c≠(S.set d y).n from h),gr _ _ h2]
theorem z8r (S:TS) (x:Box):(S.add x).n=S.n+1:=eg rfl rfl
theorem z8q (S:TS) (b:Nat) (x:Box):(S.set b x).n=S.n:=eg rfl rfl
theorem zpw {x:TypeId} {y z:Operand}:zc0 (.mapEntry x y z)=false:=eg rfl rfl
theorem zmp {x:TypeId} {y z w:Operand}:zc0 (.entryStore x y z w)=false:=eg rfl rfl
theorem rkS {id:Nat} {ops:Array Oper} {ob:Prop} {S3:TS} (K own:List Nat) (outs:List (T×TS)) (f:F) (ho:ob) (hq:∀ h2,C h2->R h2) (hd:zff N ops.toList=true:=by kernel_rfl) (hr:F->runT Tryz.prog (EE ax) [] own ops.toList ops.toList h S outs=some (ob,h',S3):=by intro q;simp (maxSteps:=900000) (disch:=first|omega|decide | (simp only [lzA,d8,fm];done)|fail) only [m6,im,z8r,z8q,l7,gr,ypo,ypp,zpq,zmj,zpw,zmp,b0,b1,b2,b3,b4,b5,b6,b7,b8,d8,gp,d9,fw,reduceIte,reduceCtorEq,tB0,tB1,tB2,tB3,zgx,zgw,ze5,zl5,zl6,zl7,zl8,dw,aggO,zbg,za1,zdk,zao,zd7,zaq,zac,zal,zbk,el,f5,ff,zb1,zb0,zcs,znt,zwt,zry,zix,z0v,z0u,zcq,zcn,zco,ze4,zdm,zdl,zfb,zfa,zb4,za7,zb3,zb6,za8,zb5,q,eqA,eqB,eqsA,eqsB,apA,apB,tSrc];with_reducible rfl) (hC:F->∀ h2,KP h' h2 K->C h2:=by intro q h2 k;simp only [KP,zbd,d9,reduceIte,ge,gd,q] at k;first|exact k|exact trivial) (hR:∀ h2,R h2->Q .normal h2 (S3):=by intro h2 k;first | (simp only [onT,onTB];exact k)|exact k):TW Tryz.prog (EE ax) [] N (.region id ops false) h S Q :=
  i7 (zbt ax) own outs hd (hr f) ho (hR _ (hq _ (hC f _ (KP.refl _ K))))
theorem rdS {id:Nat} {ops:Array Oper} {ob1 ob2:Prop} {S3:TS} {h1:Nat->T} (n:Nat) (K:List Nat) (outsP:List T) (own:List Nat) (outs:List (T×TS)) (f:F) (ho1:ob1) (ho2:ob2) (hq:∀ h2,C h2->R h2) (hd:zff N ops.toList=true:=by kernel_rfl) (hok:zjd n ops.toList=true:=by kernel_rfl) (hp:F->runP Tryz.prog (EE ax) [] ops.toList (ops.toList.take n) h S outsP=some (ob1,h1):=by intro q;simp (maxSteps:=900000) (disch:=first|omega|decide | (simp only [lzA,d8,fm];done)|fail) only [m6,im,z8r,z8q,l7,gr,ypo,ypp,zpq,zmj,zpw,zmp,b0,b1,b2,b3,b4,b5,b6,b7,b8,d8,gp,d9,fw,reduceIte,reduceCtorEq,tB0,tB1,tB2,tB3,zgx,zgw,ze5,zl5,zl6,zl7,zl8,dw,aggO,zbg,za1,zdk,zao,zd7,zaq,zac,zal,zbk,el,f5,ff,zb1,zb0,zcs,znt,zwt,zry,zix,z0v,z0u,zcq,zcn,zco,ze4,zdm,zdl,zfb,zfa,zb4,za7,zb3,zb6,za8,zb5,q,eqA,eqB,eqsA,eqsB,apA,apB,tSrc];with_reducible rfl) (hr:F->runT Tryz.prog (EE ax) [] own ops.toList (ops.toList.drop n) h1 S outs=some (ob2,h',S3):=by intro q;simp (maxSteps:=900000) (disch:=first|omega|decide | (simp only [lzA,d8,fm];done)|fail) only [m6,im,z8r,z8q,l7,gr,ypo,ypp,zpq,zmj,zpw,zmp,b0,b1,b2,b3,b4,b5,b6,b7,b8,d8,gp,d9,fw,reduceIte,reduceCtorEq,tB0,tB1,tB2,tB3,zgx,zgw,ze5,zl5,zl6,zl7,zl8,dw,aggO,zbg,za1,zdk,zao,zd7,zaq,zac,zal,zbk,el,f5,ff,zb1,zb0,zcs,znt,zwt,zry,zix,z0v,z0u,zcq,zcn,zco,ze4,zdm,zdl,zfb,zfa,zb4,za7,zb3,zb6,za8,zb5,q,eqA,eqB,eqsA,eqsB,apA,apB,tSrc];with_reducible rfl) (hC:F->∀ h2,KP h' h2 K->C h2:=by intro q h2 k;simp only [KP,zbd,d9,reduceIte,ge,gd,q] at k;first|exact k|exact trivial) (hR:∀ h2,R h2->Q .normal h2 (S3):=by intro h2 k;first | (simp only [onT,onTB];exact k)|exact k):TW Tryz.prog (EE ax) [] N (.region id ops true) h S Q :=
  TW.draw (zbt ax) n outsP own outs hd hok (hp f) ho1 (hr f) ho2 (hR _ (hq _ (hC f _ (KP.refl _ K))))
end
theorem TRel.freezeM {GL:List (Nat×List Value)} {A:Nat->Prop} {β:Bx} {S:TS} {s:CS} (hT:TRel GL A β S s) {bm b e len M j:Nat} {z:Bool} {cs:List T} {l:List (T×T)} {k:T} (L:List T) (hm:S.box bm=.map l) (hj:l[j]?=some (k,.arr b e 0 len len M)) (hS:S.box b=.cells z M cs) (he:0<e) (hoff:0+len*e<=M) (hL:(cs.drop 0).take (len*e)=L.flatMap T.cells) (hs:∀ t,t∈L->t.cells.length=e) (hlen:L.length=len) :
    ∃ A' β',TRel GL A' β' ((S.set b .gone).set bm (.map (l.set j (k,.lst e L)))) s/\Stp A β s A' β' s:=by
  have hne:bm≠b:=fun hh=>by rw [hh,hS] at hm;cases hm
  obtain ⟨A',β',k1,k2,k3⟩:=hT.freeze hS;obtain ⟨r,es,q1,q2,q3⟩:=hT.maps bm l hm;obtain ⟨v,w,g1,g2,g3⟩:=VM.get q3 hj;have hw:=k3 g3 he hoff hL hs hlen (ee _);have hv:=k2.vt hT g2;obtain ⟨r',es',p1,p2,p3⟩:=k1.maps bm l (by rw [gr _ _ hne];exact hm)
  have hr:r'=r:=by
    obtain ⟨l2,h1,h2⟩:=k2.bx bm _ q1;rw [p1] at h1;cases h1;exact h2.symm
  subst hr;have hes:es'=es:=by rw [q2] at p2;cases p2;rfl
  subst hes;have hvm:=VM.set hv hw j p3
  have hse:es'.set j (v,w)=es':=by
    apply oi;intro q;rw [pq];split
    . rename_i hq;subst hq;rw [zAc (ek.1 g1).1,g1]
    . rfl
  rw [hse] at hvm;refine ⟨A',β',⟨k1.inr,k1.inv,k1.alt,k1.dis,k1.inj,k1.next,fun b' z' N' l' hb=>?_,fun b' l' hb=>?_,k1.glob⟩,k2⟩
  . by_cases hbb:b'=bm
    . subst hbb;rw [im] at hb;cases hb
    . rw [gr _ _ hbb] at hb;exact k1.cells b' z' N' l' hb
  . by_cases hbb:b'=bm
    . subst hbb;rw [im] at hb;cases hb;exact ⟨r',es',p1,p2,hvm⟩
    . rw [gr _ _ hbb] at hb;exact k1.maps b' l' hb
theorem TW.freezeM {P:Program} {Γ:Env} {GL:List (Nat×List Value)} {N:Nat} {h:Nat->T} {S:TS} {Q:Exit->(Nat->T)->TS->Prop} {c:Code} {bm b e len M j:Nat} {z:Bool} {cs:List T} {l:List (T×T)} {k:T} (L:List T) (hm:S.box bm=.map l) (hj:l[j]?=some (k,.arr b e 0 len len M)) (hS:S.box b=.cells z M cs) (he:0<e) (hoff:0+len*e<=M) (hL:(cs.drop 0).take (len*e)=L.flatMap T.cells) (hs:∀ t,t∈L->t.cells.length=e) (hlen:L.length=len)
    (k:TW P Γ GL N c h ((S.set b .gone).set bm (.map (l.set j (k,.lst e L)))) Q):TW P Γ GL N c h S Q:=by
  intro A β fr s hF hT;obtain ⟨A',β',k1,k2⟩:=hT.freezeM L hm hj hS he hoff hL hs hlen;have hF':FrOk A' β' (zaa s.obj) N h fr:=⟨hF.nt,hF.le,fun u=>k2.vt hT (hF.slot u)⟩;refine (k A' β' fr s hF' k1).mono ?_;rintro e2 fr2 s2 ⟨h2,S2,l2,q2⟩;exact ⟨h2,S2,Left.trans (h':=h) (fr':=fr) hT.le k2 l2,q2⟩
def entZ:List (Spot×List Int)->List (T×T)
  |[]=>[]
  |(s,l) :: r=>(zed s,ints l) :: entZ r
theorem ya6:∀ a:List (Spot×List Int),(entZ a).length=a.length
  |[]=>rfl
  |(s,l) :: r=>by rw [entZ,et,et,ya6 r]
theorem z5k (s:Spot) (l:List Int):∀ a:List (Spot×List Int),entZ (a++[(s,l)])=entZ a++[(zed s,ints l)]
  |[]=>rfl
  |(s',l') :: r=>by rw [fk,entZ,entZ,z5k s l r];rfl
theorem yhw {ax:Axs} {N:Nat} {h:Nat->T} {Q:Exit->(Nat->T)->TS->Prop} {c:Code} {a:List (Spot×List Int)} {b:Nat->Nat} {x:Box}:∀ (n k:Nat) (S:TS),k+n=a.length->S.box 0=.map (entZ (a.take k)++entT b k (a.drop k))->(∀ j p,k<=j->a[j]?=some p->S.box (b j)=.cells false p.2.length (p.2.map (dy .i64)))->(∀ j j',j<a.length->j'<a.length->b j=b j'->j=j')->(∀ j,j<a.length->2<=b j)->S.box 1=x ->
    (∀ S':TS,S'.n=S.n->S'.box 0=.map (entZ a)->S'.box 1=x->TW Tryz.prog (EE ax) [] N c h S' Q)->TW Tryz.prog (EE ax) [] N c h S Q
  |0,k,S,hk,hm,hv,hi,h2,h1,K=>by
    refine K S rfl ?_ h1;rw [hm,fx (by omega),gu (by omega)];rw [entT,fo]
  |n+1,k,S,hk,hm,hv,hi,h2,h1,K=>by
    have hkl:k<a.length:=by omega
    obtain ⟨⟨s,l⟩,hp⟩:∃ p,a[k]=p:=⟨_,rfl⟩;have hak:a[k]?=some (s,l):=by rw [d6 hkl,hp]
    have hd:a.drop k=(s,l) :: a.drop (k+1):=by rw [jd hkl,hp]
    have ht:a.take (k+1)=a.take k++[(s,l)]:=by rw [List.take_add_one,hak];rfl
    have hlk:(entZ (a.take k)).length=k:=by rw [ya6,gh];omega
    have hbk:=h2 k hkl;rw [hd,entT] at hm;have hval:=hv k _ (ee _) hak;refine TW.freezeM (bm:=0) (b:=b k) (e:=1) (len:=l.length) (M:=l.length) (j:=k) (k:=zed s) (l.map (dy .i64)) hm (by rw [gi (by omega),hlk,Nat.sub_self];rfl) hval (by omega) (by omega) ?_ ?_ (by simp) ?_
    . rw [fl,fx (by simp),zfc fun _=>rfl]
    . intro t ht;simp only [ic] at ht;obtain ⟨i,_,rfl⟩:=ht;rfl
    . refine yhw n (k+1) _ (by omega) ?_ (fun j p hj hp=>?_) hi h2 ?_ fun S' e1 e2 e3=>K S' e1 e2 e3
      . rw [im,ht,z5k,List.set_append_right _ _ (by omega),hlk,Nat.sub_self,ju,ew];rfl
      . have hjl:j<a.length:=(ek.1 hp).1;have:=h2 j hjl;rw [gr _ _ (by omega),gr _ _ (fun hh=>by have:=hi _ _ hjl hkl hh;omega)];exact hv j p (by omega) hp
      . rw [gr _ _ (by omega),gr _ _ (by omega)];exact h1
theorem zxn (s:Spot) (i:Int):∀ a:List (Spot×List Int),(addS s i a).map (·.1)=if s∈a.map (·.1) then a.map (·.1) else a.map (·.1)++[s]
  |[]=>by simp [addS]
  |(s',l) :: r=>by
    unfold addS;by_cases h:s=s'
    . subst h;rw [zAc rfl];simp
    . rw [zAd h,gj,zxn s i r];by_cases h2:s∈r.map (·.1)
      . rw [zAc h2,zAc (by rw [gj];exact .tail _ h2)];rfl
      . rw [zAd h2,zAd (by
          rw [gj];intro q;rcases ij.1 q with q|q
          . exact h q
          . exact h2 q)];rfl
theorem z0k:∀ (l:List Rule) (i:Int) (a:List (Spot×List Int)),(a.map (·.1)).Nodup->((coll l i a).map (·.1)).Nodup
  |[],i,a,h=>h
  |x :: l,i,a,h=>by
    rw [coll];refine z0k l _ _ ?_;split
    . rw [zxn];split
      . exact h
      . rename_i hn;rw [List.nodup_append];exact ⟨h,by simp,fun x hx y hy hxy=>hn (by simp at hy;rw [<- hy,<- hxy];exact hx)⟩
    . exact h
theorem yaz {s:Spot} {l:List Int}:∀ {a:List (Spot×List Int)} {i j:Nat},(a.map (·.1)).Nodup->a[i]?=some (s,l)->zrg s a j=some (j+i,l)
  |[],i,j,_,h=>by simp at h
  |(s',l') :: r,0,j,_,h=>by
    simp at h;obtain ⟨rfl,rfl⟩:=h;rw [zrg,zAc rfl];rfl
  |(s',l') :: r,i+1,j,hn,h=>by
    rw [gj,List.nodup_cons] at hn;have hm:r[i]?=some (s,l):=by simpa using h
    have hne:s≠s':=fun hh=>hn.1 (by rw [<- hh];exact ic.2 ⟨(s,l),gv hm,rfl⟩);rw [zrg,zAd hne,yaz hn.2 hm,show j+1+i=j+(i+1) by omega]
theorem zyn (s:Spot):∀ (a:List (Spot×List Int)) (j:Nat),zp6 (eqW Tryz.prog 106 (kV s)) (entZ a) j=some ((zrg s a j).map fun p=>(p.1,ints p.2))
  |[],j=>rfl
  |(s',l) :: r,j=>by
    have hk:zq2 (zed s')=some (kV s'):=rfl;rw [entZ,zp6,hk];simp only;rw [yeo,zrg];by_cases hs:s=s'
    . rw [zAa hs,zAc hs];rfl
    . rw [zAb hs,zAd hs];exact zyn s r (j+1)
theorem zu8 (ax:Axs) (hx:NoAx ax) (k:Nat) (t:List Rule) (v:List zfe) (H:ziv k t=some v):Pure Tryz.prog (EE ax) [] 20 [zag t] (ztc v):=by
  unfold ziv at H;obtain ⟨hlen,H⟩:=isg H;refine en [.tmp 2] 68 [0] (hx.no _ (by decide)) (fn20 ax) ?_;intro h hh;apply dv;refine rk [0] [] hh fun h hh=>?_;apply dv;refine rk [0,3] [] hh fun h hh=>?_;apply dv;refine rk [0,3,4] [] hh fun h hh=>?_;repeat apply dv
  refine rk [0,3,4,14,15,16] [] hh fun h hh=>?_;refine TW.vec 4 2 hh.2.2.1 ?_;have hb0:BInv ((stL [.map []]).add (.cells false 0 [])) [] (fun _=>0):=⟨rfl,rfl,fun j p hj=>by simp at hj,fun j j' hj=>absurd hj (pf _),fun j hj=>absurd hj (pf _),ee _⟩;refine TW.mono (Q:=fun e h' S'=>e=.normal/\∃ b,BInv S' (coll t 0 []) b/\h' 0=zag t/\h' 3=.mp 0/\h' 4=.arr 1 2 0 (coll t 0 []).length (coll t 0 []).length ((coll t 0 []).length*2)) ?_ ?_
  . apply ey;refine TW.loop (fun m h S=>∃ (i:Nat) (b:Nat->Nat),m+i=t.length/\BInv S (coll (t.take i) 0 []) b/\h 0=zag t/\h 3=.mp 0/\h 4=.arr 1 2 0 (coll (t.take i) 0 []).length (coll (t.take i) 0 []).length ((coll (t.take i) 0 []).length*2)/\h 14=.lst 23 (t.map zai)/\h 15=.int .i64 (t.length:Int)/\h 16=.int .i64 (i:Int)) ?_ t.length _ _ ?_;rotate_left
    . refine ⟨0,fun _=>0,by omega,hb0,?_⟩;obtain ⟨q1,q2,q3,q4,q5,q6⟩:=hh;exact ⟨q1,q2,rfl,q4,q5,q6⟩
    clear hb0 hh h;rintro m h S ⟨i,b,hmi,hB,hh⟩;apply dv;generalize ha:coll (t.take i) 0 []=a at hB hh;refine rkS [0,3,4,14,15,16,17] [] [] hh trivial fun h hh=>?_;by_cases c:(i:Int)<t.length
    rotate_left
    . apply dv;refine cf (f2 hh (zAb c)) ?_;refine TW.exit ?_;refine ⟨rfl,b,?_,?_⟩
      . have:t.take i=t:=fx (by omega);rw [this] at ha;rw [ha];exact hB
      . have:t.take i=t:=fx (by omega);rw [this] at ha;rw [ha];exact ⟨hh.1,hh.2.1,hh.2.2.1⟩
    have hi:i<t.length:=by omega
    apply dv;refine ct (f2 hh (zAa c)) ?_;refine sk ?_;apply dv;refine TW.mono (Q:=fun e h' S'=>e=.normal/\∃ b',BInv S' (coll (t.take (i+1)) 0 []) b'/\h' 0=zag t/\h' 3=.mp 0/\h' 4=.arr 1 2 0 (coll (t.take (i+1)) 0 []).length (coll (t.take (i+1)) 0 []).length ((coll (t.take (i+1)) 0 []).length*2)/\h' 14=.lst 23 (t.map zai)/\h' 15=.int .i64 (t.length:Int)/\h' 16=.int .i64 (i:Int)) ?_ ?_;rotate_left
    . rintro e h2 S2 ⟨rfl,bb,hB2,hh2⟩;refine rkS [0,3,4,14,15,16] [] [] hh2 trivial ?_;clear hh2 h2;intro h2 hh2;refine ⟨m - 1,by omega,i+1,bb,by omega,hB2,?_⟩;have:dx.wrap ((i:Int)+1)=((i+1:Nat):Int):=by rw [wr64 (by omega)];omega
      rw [this] at hh2;exact hh2
    apply ey;apply dv;have hti:t[i]?=some t[i]:=d6 hi;generalize hr:t[i]=r at hti;refine rkS [0,3,4,5,6,14,15,16] [] [] (f3 hh hB.map hti) trivial fun h hh=>?_;generalize hS1:TS.set _ _ _=S1;have en1:S1.n=S.n+1:=by rw [<- hS1];rfl
    have en0:=hB.two;have eb1:S1.box S.n=.cells true 23 (dy .i64 r.prio :: (r.mat.mask.l.map (dy .i64)++(r.mat.bits.l.map (dy .i64)++[dy .i64 r.step,zbb r.outs]))):=by rw [<- hS1,im];rfl
    have hB1:BInv S1 a b:=hB.ext (by omega) fun c hc=>by rw [<- hS1,gr _ _ (by omega),l7 _ _ (by omega)]
    clear hS1 hB;apply dv;refine rkS [0,3,4,5,7,8,14,15,16] [] [(.tup [zed (zee r),.bool (exB r)],S1)] (f3 hh eb1 (z6t ax)) ?_ ?_
    . exact ⟨fc ((zql ax hx k r _ (ya3 k r)).call _),trivial⟩
    clear hh h;intro h hh;generalize hS2:TS.set _ _ _=S2;have en2:S2.n=S1.n+1:=by rw [<- hS2];rfl
    generalize hs:zee r=s at hS2 hh;have eb2:S2.box S1.n=.cells true 2 [.int .i64 s.port,.int .i64 s.tag]:=by rw [<- hS2,im]
    have hB2:BInv S2 a b:=hB1.ext (by omega) fun c hc=>by rw [<- hS2,gr _ _ (by omega),l7 _ _ (by omega)]
    clear hS2 eb1 hB1
    have hnext:coll (t.take (i+1)) 0 []=if exB r=true then addS s i a else a:=by
      rw [<- ha,<- hs,List.take_add_one,hti];have hl:(t.take i).length=i:=by rw [gh];omega
      have:=z5w (t.take i) r 0 [];rw [hl] at this;simpa using this
    apply dv;refine rkS [0,3,4,5,7,8,14,15,16,26] [] [] hh trivial fun h hh=>?_
    cases he:exB r with
    |false =>
      rw [he] at hh hnext;refine cf hh ?_;refine sk ?_;rw [hnext];exact ⟨by first|rfl|trivial,b,hB2,hh.1,hh.2.1,hh.2.2.1,hh.2.2.2.2.2.2.1,hh.2.2.2.2.2.2.2.1,hh.2.2.2.2.2.2.2.2.1⟩
    |true =>
      rw [he] at hh hnext;refine ct hh ?_
      have hal:a.length<1000000:=by
        have:=z2m (t.take i) 0 [];rw [ha,gh] at this;simp at this;omega
      have hlp:∀ p,p∈a->p.2.length<1000000:=fun p hp=>by
        have:=yi1 (t.take i) 0 [] 0 (fun p hp=>by simp at hp) p (by rw [ha];exact hp);rw [gh] at this;omega
      cases hf:zrg s a 0 with
      |none =>
        have hlook:zik Tryz.prog (EE ax) S2 98 (.mp 0) (.agg [.int .i64 s.port,.int .i64 s.tag]) false=some .nils:=by
          rw [zv5 ax hB2.map,zm9,hf];rfl
        repeat apply dv
        refine rkS [0,3,4,5,7,14,15,16,30] [] [] (f3 hh eb2 (f3 (zv6 ax S2) hlook (yry ax S2))) trivial fun h hh=>?_;refine ct hh ?_;refine rkS [0,3,4,5,7,14,15,16] [] [] (f3 hh eb2 (f3 hB2.ord (el99 ax) (sr99 ax))) trivial fun h hh=>?_;generalize hS3:TS.set _ _ _=S3;have en3:S3.n=S2.n:=by rw [<- hS3];rfl
        have eb3:S3.box S1.n=.cells true 2 [.int .i64 s.port,.int .i64 s.tag]:=by rw [<- hS3,gr _ _ (by have:=hB2.two;omega)];exact eb2
        have em3:S3.box 0=.map (entT b 0 a):=by rw [<- hS3,gr _ _ (by omega)];exact hB2.map
        have eo3:S3.box 1=.cells false (a.length*2+2) (vecC zed (a.map (·.1))++[.int .i64 s.port,.int .i64 s.tag]):=by rw [<- hS3,im]
        have ex3:∀ c,c≠1->S3.box c=S2.box c:=fun c hc=>by rw [<- hS3,gr _ _ hc]
        clear hS3 eb2 hlook
        have hent:zin Tryz.prog (EE ax) S3 98 (.agg [.int .i64 s.port,.int .i64 s.tag]) (.mp 0)=some (.tup [.nils,.int .i64 (.ofNat (entT b 0 a).length)],S3.set 0 (.map (entT b 0 a++[(zed s,.nils)]))):=by
          rw [z0a ax em3,zm9,hf];rfl
        have hst:∀ (x:T) (y:Box),zge ((S3.set 0 (.map (entT b 0 a++[(.agg [.int .i64 s.port,.int .i64 s.tag],.nils)]))).add y) (.int .i64 (.ofNat (entT b 0 a).length)) x (.mp 0)=some (((S3.set 0 (.map (entT b 0 a++[(.agg [.int .i64 s.port,.int .i64 s.tag],.nils)]))).add y).set 0 (.map (entT b 0 a++[(zed s,x)]))):=fun x y=>by
          simp only [zge];rw [l7 _ _ (show 0≠(S3.set 0 (.map (entT b 0 a++[(.agg [.int .i64 s.port,.int .i64 s.tag],.nils)]))).n by show 0≠S3.n;omega),im];simp only;rw [gi (ee _)];simp [zed]
        refine rkS [0,3,4,14,15,16] [] [] (f3 hh eb3 (f3 hent hst (f3 (el37 ax) (sr37 ax) en3))) trivial fun h hh=>?_;rw [hnext,zAc rfl,zz6 hf];have hlen:(a++[(s,[(i:Int)])]).length=a.length+1:=by simp
        refine ⟨trivial,fun j=>if j=a.length then S2.n else b j,⟨?_,?_,fun j p hj=>?_,fun j j' hj hj' hjj=>?_,fun j hj=>?_,?_⟩,?_⟩
        . rw [im,z5l,fy,zAc rfl];congr 1;rw [z0c (b':=fun j=>if j=a.length then S2.n else b j) a 0 fun k _ hk=>(zAd (by omega)).symm];rfl
        . rw [gr _ _ (by omega),TSas (show 1≠S3.n by have:=hB2.two;omega) (by omega),eo3,hlen,List.map_append,zcb,show (a.length+1)*2=a.length*2+2 by omega];rfl
        . rcases jl j a.length with q|q
          . rw [List.getElem?_append_left q] at hj;have hj2:=hB2.at_ j q;simp only [zAd (Nat.ne_of_lt q)];rw [gr _ _ (by omega),TSas (show b j≠S3.n by omega) (by omega),ex3 _ (by omega)];exact hB2.val j p hj
          . have hj0:j=a.length:=by
              have:=(ek.1 hj).1;rw [hlen] at this;omega
            subst hj0;simp at hj;subst hj;rw [zAc rfl,gr _ _ (by have:=hB2.two;omega),<- en3];exact m6 _ _
        . rw [hlen] at hj hj';split at hjj<;>split at hjj
          . omega
          . have:=(hB2.at_ j' (by omega)).2;omega
          . have:=(hB2.at_ j (by omega)).2;omega
          . exact hB2.inj j j' (by omega) (by omega) hjj
        . rw [hlen] at hj;show 2<=(if j=a.length then S2.n else b j)/\(if j=a.length then S2.n else b j)<S3.n+1;split
          . have:=hB2.two;omega
          . have:=hB2.at_ j (by omega);omega
        . show 2<=S3.n+1;omega
        . rw [hlen,show (a.length+1)*2=a.length*2+2 by omega];exact hh
      |some p =>
        obtain ⟨j,l⟩:=p;obtain ⟨_,hj,hadd⟩:=zz5 hf;rw [Nat.sub_zero] at hj hadd
        have hlook:zik Tryz.prog (EE ax) S2 98 (.mp 0) (.agg [.int .i64 s.port,.int .i64 s.tag]) false=some (.arr (b j) 1 0 l.length l.length l.length):=by
          rw [zv5 ax hB2.map,zm9,hf];rfl
        have hval:=hB2.val j _ hj;simp only at hval;have hl0:0<l.length:=List.length_pos_iff.2 (by rw [<- ha] at hj;exact yi0 _ _ _ (fun p hp=>by simp at hp) _ (gv hj));repeat apply dv
        refine rkS [0,3,4,5,7,14,15,16,30] [] [] (f3 hh eb2 (f3 (zv6 ax S2) hlook (yrz ax (n:=l.length) hval hl0))) trivial fun h hh=>?_;have hjl:j<a.length:=(ek.1 hj).1;have hbj:=hB2.at_ j hjl;have hll:l.length<1000000:=hlp _ (gv hj)
        have hent:zin Tryz.prog (EE ax) S2 98 (.agg [.int .i64 s.port,.int .i64 s.tag]) (.mp 0)=some (.tup [.arr (b j) 1 0 l.length l.length l.length,.int .i64 (.ofNat j)],S2.set 0 (.map ((entT b 0 a).set j (zed s,.arr (b j) 1 0 l.length l.length l.length)))):=by
          rw [z0a ax hB2.map,zm9,hf];rfl
        have hst:∀ (x:T) (y:Box),zge ((S2.set 0 (.map ((entT b 0 a).set j (.agg [.int .i64 s.port,.int .i64 s.tag],.arr (b j) 1 0 l.length l.length l.length)))).set (b j) y) (.int .i64 (.ofNat j)) x (.mp 0)=some (((S2.set 0 (.map ((entT b 0 a).set j (.agg [.int .i64 s.port,.int .i64 s.tag],.arr (b j) 1 0 l.length l.length l.length)))).set (b j) y).set 0 (.map ((entT b 0 a).set j (zed s,x)))):=fun x y=>by
          simp only [zge];rw [gr _ _ (show 0≠b j by omega),im];simp only;rw [qc (by rw [ya8];exact hjl)];simp [zed]
        refine cf hh ?_;refine sk ?_;refine rkS [0,3,4,14,15,16] [] [] (f3 hh eb2 (f3 hent hst (f3 (el37 ax) (sr37 ax) hval))) trivial fun h hh=>?_;rw [hnext,zAc rfl,hadd];have hlen:(a.set j (s,l++[(i:Int)])).length=a.length:=by simp
        refine ⟨trivial,b,⟨?_,?_,fun j' p hj'=>?_,fun j j' hj hj'=>hB2.inj j j' (by rw [hlen] at hj;exact hj) (by rw [hlen] at hj';exact hj'),fun j hj=>hB2.at_ j (by rw [hlen] at hj;exact hj),hB2.two⟩,?_⟩
        . rw [im,ya7 _ _ _ _ _ _ hjl,fy];simp [zed]
        . rw [gr _ _ (by omega),gr _ _ (by omega),gr _ _ (by omega),hB2.ord,hlen];congr 2;rw [List.map_set];apply oi;intro q;rw [pq];split
          . rename_i hq;subst hq;rw [ed,zAc hjl,List.getElem?_map,hj];rfl
          . rfl
        . rw [pq] at hj';split at hj'
          . rename_i hq;subst hq;first|rw [zAc hjl] at hj' | skip
            simp only [du] at hj';subst hj';rw [gr _ _ (by omega),im];simp
          . rename_i hq;have hj2:j'<a.length:=(ek.1 hj').1;have hb2:=hB2.at_ j' hj2;rw [gr _ _ (by omega),gr _ _ (fun hh=>hq (hB2.inj _ _ hj2 hjl hh).symm),gr _ _ (by omega)];exact hB2.val j' p hj'
        . rw [hlen];exact hh
  . clear hh h hb0;rintro e h S ⟨rfl,b,hB,hh⟩;generalize ha:coll t 0 []=a at hB hh H;have hnd:(a.map (·.1)).Nodup:=by rw [<- ha];exact z0k _ _ _ List.nodup_nil
    have hal:a.length<1000000:=by
      have:=z2m t 0 [];rw [ha] at this;simp at this;omega
    simp only [onT];refine lw 4 (L:=(a.map (·.1)).map zed) hh.2.2 hB.ord (by decide) (by omega) ?_ ?_ (by simp) (ee _) ?_
    . rw [fl];exact zgd (fun _=>rfl) (by simp)
    . intro t ht;simp only [ic] at ht;obtain ⟨i,_,rfl⟩:=ht;rfl
    refine yhw (a:=a) (b:=b) (x:=.gone) a.length 0 _ (by omega) ?_ ?_ hB.inj (fun j hj=>(hB.at_ j hj).1) ?_ ?_
    . rw [gr _ _ (by omega),hB.map];rfl
    . intro j p _ hj;have:=hB.at_ j (ek.1 hj).1;rw [gr _ _ (by omega)];exact hB.val j p hj
    . rw [im]
    intro S' en em eo;have en2:2<=S'.n:=by rw [en];exact hB.two
    have hh2:(tupd h 4 (.lst 2 ((a.map (·.1)).map zed))) 0=zag t/\(tupd h 4 (.lst 2 ((a.map (·.1)).map zed))) 3=.mp 0/\(tupd h 4 (.lst 2 ((a.map (·.1)).map zed))) 4=.lst 2 ((a.map (·.1)).map zed):=⟨hh.1,hh.2.1,rfl⟩;generalize tupd h 4 (.lst 2 ((a.map (·.1)).map zed))=h' at hh2;clear hh h hB en;apply dv;refine rkS [0,3,4,9] [] [] hh2 trivial ?_;clear hh2 h';intro h hh;repeat apply dv
    refine TW.vec 9 3 hh.2.2.2 ?_;have hh2:(tupd h 9 (.arr S'.n 3 0 0 0 0)) 0=zag t/\(tupd h 9 (.arr S'.n 3 0 0 0 0)) 3=.mp 0/\(tupd h 9 (.arr S'.n 3 0 0 0 0)) 4=.lst 2 ((a.map (·.1)).map zed)/\(tupd h 9 (.arr S'.n 3 0 0 0 0)) 9=.arr S'.n 3 0 0 0 (0*3):=⟨hh.1,hh.2.1,hh.2.2.1,rfl⟩;generalize tupd h 9 (.arr S'.n 3 0 0 0 0)=h' at hh2;clear hh h;generalize hbo:S'.n=bo at hh2 en2;generalize hS:S'.add (.cells false 0 [])=S;have eb:S.box bo=.cells false (([]:List zfe).length*3) (vecC zgy []):=by rw [<- hS,<- hbo,m6];rfl
    have em2:S.box 0=.map (entZ a):=by rw [<- hS,l7 _ _ (by omega)];exact em
    have en3:bo<S.n:=by rw [<- hS];show bo<S'.n+1;omega
    clear hS em eo hbo;refine rkS [0,3,9,44,45,46] [] [] (f2 hh2 (ti99 ax)) trivial ?_;clear hh2 h';intro h hh;refine TW.mono (Q:=fun e h' S'=>e=.normal/\S'.box bo=.cells false (v.length*3) (vecC zgy v)/\h' 9=.arr bo 3 0 v.length v.length (v.length*3)) ?_ ?_;rotate_left
    . rintro e h2 S2 ⟨rfl,eb2,hh2⟩;simp only [onT];apply dv;refine lw 9 (L:=v.map zgy) hh2 eb2 (by decide) (by omega) ?_ ?_ (by simp) (ee _) ?_
      . rw [fl];exact zgd (fun _=>rfl) rfl
      . intro t ht;simp only [ic] at ht;obtain ⟨i,_,rfl⟩:=ht;rfl
      have hh3:(tupd h2 9 (.lst 3 (v.map zgy))) 9=ztc v:=rfl;generalize tupd h2 9 (.lst 3 (v.map zgy))=h3 at hh3;refine rkS [2] [] [] hh3 trivial ?_;intro h4 hh4;exact rt hh4
    apply ey;refine TW.loop (fun m h S=>∃ (i:Nat) (w rest:List zfe),m+i=a.length/\yf5 k t (a.drop i)=some rest/\w++rest=v/\w.length<=i/\S.box 0=.map (entZ a)/\S.box bo=.cells false (w.length*3) (vecC zgy w)/\bo<S.n/\h 0=zag t/\h 3=.mp 0/\h 9=.arr bo 3 0 w.length w.length (w.length*3)/\h 44=.lst 2 ((a.map (·.1)).map zed)/\h 45=.int .i64 (a.length:Int)/\h 46=.int .i64 (i:Int)) ?_ a.length _ _ ?_;rotate_left
    . exact ⟨0,[],v,by omega,H,rfl,ee _,em2,eb,en3,hh⟩
    clear hh h eb em2 en3 H S;rintro m h S ⟨i,w,rest,hmi,H,hv,hwi,em,eb,en,hh⟩;apply dv;refine rkS [0,3,9,44,45,46,47] [] [] hh trivial fun h hh=>?_;by_cases c:(i:Int)<a.length
    rotate_left
    . apply dv;refine cf (f2 hh (zAb c)) ?_;refine TW.exit ?_;rw [gu (by omega)] at H;cases H;rw [fo] at hv;subst hv;exact ⟨rfl,eb,hh.2.2.1⟩
    have hi:i<a.length:=by omega
    apply dv;refine ct (f2 hh (zAa c)) ?_;refine sk ?_;apply dv;obtain ⟨⟨s,l⟩,hp⟩:∃ p,a[i]=p:=⟨_,rfl⟩;have hak:a[i]?=some (s,l):=by rw [d6 hi,hp]
    rw [jd hi,hp,yf5] at H;obtain ⟨mx,hmx,H⟩:=zad H;obtain ⟨q,hq,H⟩:=zad H;cases H;refine TW.mono (Q:=fun e h' S'=>e=.normal/\∃ w':List zfe,w'++q=v/\w'.length<=i+1/\S'.box 0=.map (entZ a)/\S'.box bo=.cells false (w'.length*3) (vecC zgy w')/\bo<S'.n/\h' 0=zag t/\h' 3=.mp 0/\h' 9=.arr bo 3 0 w'.length w'.length (w'.length*3)/\h' 44=.lst 2 ((a.map (·.1)).map zed)/\h' 45=.int .i64 (a.length:Int)/\h' 46=.int .i64 (i:Int)) ?_ ?_;rotate_left
    . rintro e h2 S2 ⟨rfl,w',hv',hw',em',eb',en',hh2⟩;refine rkS [0,3,9,44,45,46] [] [] hh2 trivial ?_;clear hh2 h2;intro h2 hh2;refine ⟨m - 1,by omega,i+1,w',q,by omega,hq,hv',hw',em',eb',en',?_⟩;have:dx.wrap ((i:Int)+1)=((i+1:Nat):Int):=by rw [wr64 (by omega)];omega
      rw [this] at hh2;exact hh2
    apply ey;apply dv;refine rkS [0,3,9,11,44,45,46] [] [] (f3 hh hak (f2 (ti99 ax) (z6t ax))) trivial fun h hh=>?_;generalize hS1:TS.set _ _ _=S1;have en1:S1.n=S.n+1:=by rw [<- hS1];rfl
    have ep1:S1.box S.n=.cells true 2 [.int .i64 s.port,.int .i64 s.tag]:=by rw [<- hS1,im]
    have ex1:∀ c,c<S.n->S1.box c=S.box c:=fun c hc=>by rw [<- hS1,gr _ _ (by omega),l7 _ _ (by omega)]
    clear hS1;refine TW.freezeP 11 hh.2.2.2.1 ep1 ?_;generalize hS2:S1.set S.n .gone=S2;have em2:S2.box 0=.map (entZ a):=by rw [<- hS2,gr _ _ (by omega),ex1 _ (by omega)];exact em
    have eb2:S2.box bo=.cells false (w.length*3) (vecC zgy w):=by rw [<- hS2,gr _ _ (by omega),ex1 _ (by omega)];exact eb
    have eo2:bo<S2.n:=by rw [<- hS2];show bo<S1.n;omega
    clear hS2 ex1 ep1;have hh2:(tupd h 11 (.cp [.int .i64 s.port,.int .i64 s.tag])) 0=zag t/\(tupd h 11 (.cp [.int .i64 s.port,.int .i64 s.tag])) 3=.mp 0/\(tupd h 11 (.cp [.int .i64 s.port,.int .i64 s.tag])) 9=.arr bo 3 0 w.length w.length (w.length*3)/\(tupd h 11 (.cp [.int .i64 s.port,.int .i64 s.tag])) 11=.cp [.int .i64 s.port,.int .i64 s.tag]/\(tupd h 11 (.cp [.int .i64 s.port,.int .i64 s.tag])) 44=.lst 2 ((a.map (·.1)).map zed)/\(tupd h 11 (.cp [.int .i64 s.port,.int .i64 s.tag])) 45=.int .i64 (a.length:Int)/\(tupd h 11 (.cp [.int .i64 s.port,.int .i64 s.tag])) 46=.int .i64 (i:Int):=⟨hh.1,hh.2.1,hh.2.2.1,rfl,hh.2.2.2.2⟩;generalize tupd h 11 (.cp [.int .i64 s.port,.int .i64 s.tag])=h' at hh2;clear hh h;apply dv;refine rkS [0,3,9,11,12,44,45,46] [] [(.bool mx,S2)] hh2 ?_ ?_
    . exact ⟨fc ((zjf ax hx k t (fun x=>zf7 k x s) mx hmx 54 [.cp [.int .i64 s.port,.int .i64 s.tag]] rfl (fun y w hw=>zr4 ax hx k y s w hw)).call _),trivial⟩
    clear hh2 h';intro h hh;apply dv;refine rkS [0,3,9,11,44,45,46,54] [] [] hh trivial fun h hh=>?_
    cases mx with
    |true =>
      refine cf hh ?_;refine sk ?_;exact ⟨by first|rfl|trivial,w,hv,by omega,em2,eb2,eo2,hh.1,hh.2.1,hh.2.2.1,hh.2.2.2.2.1,hh.2.2.2.2.2.1,hh.2.2.2.2.2.2.1⟩
    |false =>
      refine ct hh ?_
      have hlook:zik Tryz.prog (EE ax) S2 98 (.mp 0) (.agg [.int .i64 s.port,.int .i64 s.tag]) false=some (ints l):=by
        rw [zv5 ax em2,zyn,yaz hnd hak];rfl
      refine rdS 10 [0,3,9,44,45,46] [] [] [] (f3 hh em2 (f3 eb2 (f3 (zv6 ax S2) hlook (ti78 ax)) (f3 (f3 (el45 ax) (sr45 ax) (bt78 ax)) (f2 (z74 ax) (yh4 ax)) (f3 (yfu ax) (yft ax) (yrp ax))))) trivial trivial ?_;intro h2 hh2;have hl1:(w++[(⟨s.port,s.tag,l⟩:zfe)]).length=w.length+1:=by simp
      refine ⟨trivial,w++[⟨s.port,s.tag,l⟩],?_,?_,?_,?_,?_,?_⟩
      . rw [ew];exact hv
      . rw [hl1];omega
      . rw [gr _ _ (by omega)];exact em2
      . rw [im,hl1,zcb,show (w.length+1)*3=w.length*3+3 by omega];rfl
      . exact eo2
      . rw [hl1,show (w.length+1)*3=w.length*3+3 by omega];exact hh2
def zft (k:Nat) (i:Int):Nat->Int->Int->Option Int
 |0,_,_=>none
 |m+1,v_,k_=>(if 0<=i/\0<16 then (if k_<(i % 16) then (if 0<=v_/\0<2 then zft k i m (dx.wrap (v_ / 2)) (dx.wrap (k_+1)) else none) else some v_) else none)
def zjo (k:Nat) (i:Int):Option Int:=((zft k i k 32768 0:Option Int).bind fun s_=>some s_)
theorem zqd (ax:Axs) (hx:NoAx ax) (k:Nat) (i:Int) (v:Int) (H:zjo k i=some v):Pure Tryz.prog (EE ax) [] 132 [.int .i64 i] (.int .i64 v):=by
 rw [zjo] at H;refine en [.tmp 2] 14 [0] (hx.no _ (by decide)) (fn132 ax) ?_;intro h hh;apply dv;refine rk [0] [] hh fun h hh=>?_;apply dv;refine rk [0,3] [] hh fun h hh=>?_;repeat apply dv
 refine rk [0,3,4] [] hh fun h hh=>?_;obtain ⟨s_,H1,H⟩:=zad H;refine cu [3] 0 (fun h bs=>(h 3=.int .i64 s_)/\bs=[]) ?_ ?_
 .skip;apply ey;refine gt [0,3,4] (fun m h bs=>∃ (v_:Int) (k_:Int),zft k i m v_ k_=some s_/\(h 0=.int .i64 i/\h 3=.int .i64 v_/\h 4=.int .i64 k_)/\bs=[]) ?_ k _ _ ?_;rotate_left
  .exact ⟨32768,0,H1,kq hh,rfl⟩
  clear hh h H1;rintro m h bs ⟨v_,k_,H1,hh,rfl⟩;rcases m with _|m
  .rw [zft] at H1;cases H1
  rw [zft] at H1;obtain ⟨g1,H1⟩:=isg H1;repeat apply dv
  refine rk [0,3,4,8] [] hh fun h hh=>?_;rcases isp H1 with ⟨c2,H1⟩|⟨c2,H1⟩;rotate_left
  .skip;refine cf (f2 hh (zAb c2)) ?_;refine xk ?_;cases H1;exact ce hh ⟨kq hh,rfl⟩
  refine ct (f2 hh (zAa c2)) ?_;refine sk ?_;apply dv;apply ey;obtain ⟨g3,H1⟩:=isg H1;refine rk [0,3,4] [] hh fun h hh=>?_;refine rk [0,3,4] [] hh fun h hh=>?_;exact rd m hh ⟨(dx.wrap (v_ / 2)),(dx.wrap (k_+1)),H1,kq hh,rfl⟩
 clear hh h;rintro h bs ⟨hh,rfl⟩;apply dv;refine rk [2] [] hh fun h hh=>?_;cases H;exact rt hh
def zhd (k:Nat) (h_:Ar 10) (i:Int):Option Int:=(if 0<=i/\0<16 then (if (0:Int)<=(dx.wrap (i / 16))/\(dx.wrap (i / 16))<(10:Int) then ((zjo k i).bind fun bg=>(if (0:Int)<=(gx h_.l (dx.wrap (i / 16)))/\0<bg then (if (0:Int)<=(dx.wrap ((gx h_.l (dx.wrap (i / 16))) / bg))/\0<2 then some ((dx.wrap ((gx h_.l (dx.wrap (i / 16))) / bg)) % 2) else none) else none)) else none) else none)
theorem zfu (ax:Axs) (hx:NoAx ax) (k:Nat) (h_:Ar 10) (i:Int) (v:Int) (H:zhd k h_ i=some v):Pure Tryz.prog (EE ax) [] 119 [.agg (h_.l.map (dy .i64)),.int .i64 i] (.int .i64 v):=by
 rw [zhd] at H;refine en [.tmp 4] 13 [0,1] (hx.no _ (by decide)) (fn119 ax) ?_;intro h hh;apply dv;refine rk [1,2] [] hh fun h hh=>?_;obtain ⟨g1,H⟩:=isg H;obtain ⟨g2,H⟩:=isg H;obtain ⟨bg,e3,H⟩:=zad H;obtain ⟨g4,H⟩:=isg H;obtain ⟨g5,H⟩:=isg H;apply dv;refine dk 6 [4] [.int .i64 bg] [] [] (f2 hh (arIx h_ g2)) ?_ trivial ?_
 .exact ⟨(zqd ax hx k i bg e3 ).call _,trivial⟩
 clear hh h;intro h hh;cases H;exact rt hh
def zkk (k:Nat) (h_:Ar 10) (i:Int) (b:Int):Option (Ar 10):=(if 0<=i/\0<16 then (if (0:Int)<=(dx.wrap (i / 16))/\(dx.wrap (i / 16))<(10:Int) then ((zhd k h_ i).bind fun au=>((zjo k i).bind fun bg=>some (h_.set (dx.wrap (i / 16)) (dx.wrap ((gx h_.l (dx.wrap (i / 16)))+(dx.wrap ((dx.wrap (b - au))*bg))))))) else none) else none)
theorem zpm (ax:Axs) (hx:NoAx ax) (k:Nat) (h_:Ar 10) (i:Int) (b:Int) (v:Ar 10) (H:zkk k h_ i b=some v):Pure Tryz.prog (EE ax) [] 120 [.agg (h_.l.map (dy .i64)),.int .i64 i,.int .i64 b] (.agg (v.l.map (dy .i64))):=by
 rw [zkk] at H;refine en [.cell 6 60] 24 [0,1,2] (hx.no _ (by decide)) (fn120 ax) ?_;intro h hh;apply dv;refine rk [1,2,3,6] [] hh fun h hh=>?_;obtain ⟨g1,H⟩:=isg H;obtain ⟨g2,H⟩:=isg H;obtain ⟨au,e3,H⟩:=zad H;obtain ⟨bg,e4,H⟩:=zad H;apply dv;refine dk 13 [3,6] [.int .i64 au,.int .i64 bg] [] [] (f3 hh (arIx h_ g2) (yqr (k:=.i64) h_ (dx.wrap ((gx h_.l (dx.wrap (i / 16)))+(dx.wrap ((dx.wrap (b - au))*bg)))) g2)) ?_ trivial ?_
 .exact ⟨(zfu ax hx k h_ i au e3 ).call _,(zqd ax hx k i bg e4 ).call _,trivial⟩
 clear hh h;intro h hh;apply dv;refine rk [6] [] hh fun h hh=>?_;cases H;exact rtc hh
def zeq (k:Nat) (m_:Pat):Nat->Int->(Ar 10)->Option (Ar 10)
 |0,_,_=>none
 |m+1,i,x=>(if i<160 then ((zhd k m_.mask i).bind fun au=>(if au=1 then ((zhd k m_.bits i).bind fun bh=>((zkk k x i bh).bind fun bi=>zeq k m_ m (dx.wrap (i+1)) bi)) else zeq k m_ m (dx.wrap (i+1)) x)) else some x)
def zjq (k:Nat) (m_:Pat) (h_:Ar 10):Option (Ar 10):=((zeq k m_ k 0 h_:Option (Ar 10)).bind fun s_=>some s_)
theorem zqf (ax:Axs) (hx:NoAx ax) (k:Nat) (m_:Pat) (h_:Ar 10) (v:Ar 10) (H:zjq k m_ h_=some v):Pure Tryz.prog (EE ax) [] 104 [ePat m_,.agg (h_.l.map (dy .i64))] (.agg (v.l.map (dy .i64))):=by
 rw [zjq] at H;refine en [.cell 4 60] 23 [0,1] (hx.no _ (by decide)) (fn104 ax) ?_;intro h hh;apply dv;refine rk [2,3,4] [] hh fun h hh=>?_;repeat apply dv
 refine rk [2,3,4,5] [] hh fun h hh=>?_;obtain ⟨s_,H1,H⟩:=zad H;refine cu [3,4] 3 (fun h bs=>(h 3=.ptr 1 0 10/\h 4=.ptr 2 0 10)/\bs=[.cells true 20 (m_.mask.l.map (dy .i64)++(m_.bits.l.map (dy .i64))),.cells true 10 (s_.l.map (dy .i64)),.cells true 10 ((zA 10).l.map (dy .i64))]) ?_ ?_
 .skip;apply ey;refine gt [2,3,4,5] (fun m h bs=>∃ (i:Int) (x:Ar 10),zeq k m_ m i x=some s_/\(h 2=.ptr 0 0 20/\h 3=.ptr 1 0 10/\h 4=.ptr 2 0 10/\h 5=.int .i64 i)/\bs=[.cells true 20 (m_.mask.l.map (dy .i64)++(m_.bits.l.map (dy .i64))),.cells true 10 (x.l.map (dy .i64)),.cells true 10 ((zA 10).l.map (dy .i64))]) ?_ k _ _ ?_;rotate_left
  .exact ⟨0,h_,H1,kq hh,rfl⟩
  clear hh h H1;rintro m h bs ⟨i,x,H1,hh,rfl⟩;rcases m with _|m
  .rw [zeq] at H1;cases H1
  rw [zeq] at H1;repeat apply dv
  refine rk [2,3,4,5,7] [] hh fun h hh=>?_;rcases isp H1 with ⟨c1,H1⟩|⟨c1,H1⟩;rotate_left
  .skip;refine cf (f2 hh (zAb c1)) ?_;refine xk ?_;cases H1;exact ce hh ⟨kq hh,rfl⟩
  refine ct (f2 hh (zAa c1)) ?_;refine sk ?_;apply dv;apply ey;obtain ⟨au,e2,H1⟩:=zad H1;apply dv;refine rkp [2,3,4,5,14] [] [.int .i64 au] hh ?_ ?_
  .exact ⟨fc ((zfu ax hx k m_.mask i au e2 ).call _),trivial⟩
  clear hh h;intro h hh;rcases isp H1 with ⟨c3,H1⟩|⟨c3,H1⟩;rotate_left
  .skip;refine cf (f2 hh (zAb c3)) ?_;refine sk ?_;refine rk [2,3,4,5] [] hh fun h hh=>?_;exact rd m hh ⟨(dx.wrap (i+1)),x,H1,kq hh,rfl⟩
  refine ct (f2 hh (zAa c3)) ?_;obtain ⟨bh,e4,H1⟩:=zad H1;obtain ⟨bi,e5,H1⟩:=zad H1;refine dk 6 [2,3,4,5] [.int .i64 bh] [] [(.agg (bi.l.map (dy .i64)),stL [.cells true 20 (m_.mask.l.map (dy .i64)++(m_.bits.l.map (dy .i64))),.cells true 10 (x.l.map (dy .i64)),.cells true 10 ((zA 10).l.map (dy .i64))])] hh ?_ ?_ ?_
  .exact ⟨(zfu ax hx k m_.bits i bh e4 ).call _,trivial⟩
  .exact ⟨fc ((zpm ax hx k x i bh bi e5 ).call _),trivial⟩
  clear hh h;intro h hh;refine rk [2,3,4,5] [] hh fun h hh=>?_;exact rd m hh ⟨(dx.wrap (i+1)),bi,H1,kq hh,rfl⟩
 clear hh h;rintro h bs ⟨hh,rfl⟩;apply dv;refine rk [4] [] hh fun h hh=>?_;cases H;exact rtc hh
def zhh (k:Nat) (c:zam) (most:Int):Nat->Int->Int->Option (Bool ⊕ Int)
 |0,_,_=>none
 |m+1,count,i=>(if i<(c.tables.length:Int) then (if 0<=i/\i<(c.tables.length:Int) then ((zqa k (gx c.tables i) most).bind fun az=>(if az=true then zhh k c most m (dx.wrap (count+((gx c.tables i).length:Int))) (dx.wrap (i+1)) else some (.inl false))) else none) else some (.inr count))
def zoe (k:Nat) (c:zam) (most:Int):Option Bool:=((zhh k c most k 0 0:Option (Bool ⊕ Int)).bind fun o=>il (fun r=>some r) (fun s_=>(if s_<=most then (if (c.steps.length:Int)<=40 then some (decide ((c.tables.length:Int)<=40)) else some false) else some false)) o)
theorem zu1 (ax:Axs) (hx:NoAx ax) (k:Nat) (c:zam) (most:Int) (v:Bool) (H:zoe k c most=some v):Pure Tryz.prog (EE ax) [] 7 [zds c,.int .i64 most] (.bool v):=by
 rw [zoe] at H;refine en [.tmp 4] 47 [0,1] (hx.no _ (by decide)) (fn7 ax) ?_;intro h hh;apply dv;refine rk [1,2] [] hh fun h hh=>?_;apply dv;refine rk [1,2,5] [] hh fun h hh=>?_;repeat apply dv
 refine rk [1,2,5,6] [] hh fun h hh=>?_;obtain ⟨o,H1,H⟩:=zad H;refine cu [1,2,5] 1 (fun h bs=>∃ s_:Int,o=.inr s_/\(h 1=.int .i64 most/\h 2=.ptr 0 0 3/\h 5=.int .i64 s_)/\bs=[.cells true 3 [.int .i64 c.version,zak c.tables,zah c.steps]]) ?_ ?_
 .skip;apply ey;refine gt [1,2,5,6] (fun m h bs=>∃ (count:Int) (i:Int),zhh k c most m count i=some o/\(h 1=.int .i64 most/\h 2=.ptr 0 0 3/\h 5=.int .i64 count/\h 6=.int .i64 i)/\bs=[.cells true 3 [.int .i64 c.version,zak c.tables,zah c.steps]]) ?_ k _ _ ?_;rotate_left
  .exact ⟨0,0,H1,kq hh,rfl⟩
  clear hh h H1;rintro m h bs ⟨count,i,H1,hh,rfl⟩;rcases m with _|m
  .rw [zhh] at H1;cases H1
  rw [zhh] at H1;repeat apply dv
  refine rk [1,2,5,6,12] [] hh fun h hh=>?_;rcases isp H1 with ⟨c1,H1⟩|⟨c1,H1⟩;rotate_left
  .skip;refine cf (f2 hh (zAb c1)) ?_;refine xk ?_;cases H1;exact ce hh ⟨_,rfl,kq hh,rfl⟩
  refine ct (f2 hh (zAa c1)) ?_;refine sk ?_;apply dv;apply ey;obtain ⟨g2,H1⟩:=isg H1;obtain ⟨az,e3,H1⟩:=zad H1;apply dv;refine rkp [1,2,5,6,7] [] [.bool az] (f2 hh (zaf g2)) ?_ ?_
  .exact ⟨fc ((z61 ax hx k (gx c.tables i) most az e3 ).call _),trivial⟩
  clear hh h;intro h hh;repeat apply dv
  refine rk [1,2,5,6,23] [] hh fun h hh=>?_;rcases isb H1 with ⟨c4,H1⟩|⟨c4,H1⟩;rotate_left
  .skip;refine ct (f2 hh c4) ?_;apply dv;refine rk [4] [] (f2 hh c4) fun h hh=>?_;cases H1;obtain rfl:=sinl H;exact rt hh
  refine cf (f2 hh c4) ?_;refine sk ?_;refine rk [1,2,5,6] [] (f3 hh c4 (zaf g2)) fun h hh=>?_;refine rk [1,2,5,6] [] (f2 hh c4) fun h hh=>?_;exact rd m hh ⟨(dx.wrap (count+((gx c.tables i).length:Int))),(dx.wrap (i+1)),H1,kq hh,rfl⟩
 clear hh h;rintro h bs ⟨s_,rfl,hh,rfl⟩;replace H:=sinr H;rcases isp H with ⟨c5,H⟩|⟨c5,H⟩;rotate_left
 .skip;apply dv;refine rk [4] [] (f2 hh (zAb c5)) fun h hh=>?_;cases H;exact rt hh
 rcases isp H with ⟨c6,H⟩|⟨c6,H⟩;rotate_left
 .skip;apply dv;refine rk [4] [] (f3 hh (zAa c5) (zAb c6)) fun h hh=>?_;cases H;exact rt hh
 apply dv;refine rk [4] [] (f3 hh (zAa c5) (zAa c6)) fun h hh=>?_;cases H;exact rt hh
def zlc (k:Nat) (r:Rule):Option Bool:=(if (0:Int)<=0/\0<(10:Int) then (if (gx r.mat.mask.l 0)=65535 then (if (0:Int)<=9/\9<(10:Int) then some (decide ((gx r.mat.mask.l 9)=65535)) else none) else some false) else none)
theorem z07 (ax:Axs) (hx:NoAx ax) (k:Nat) (r:Rule) (v:Bool) (H:zlc k r=some v):Pure Tryz.prog (EE ax) [] 56 [zai r] (.bool v):=by
 rw [zlc] at H;refine en [.tmp 2] 15 [0] (hx.no _ (by decide)) (fn56 ax) ?_;intro h hh;apply dv;refine rk [1] [] hh fun h hh=>?_;obtain ⟨g1,H⟩:=isg H;rcases isp H with ⟨c2,H⟩|⟨c2,H⟩;rotate_left
 .skip;apply dv;refine rk [2] [] (f3 hh (zAb c2) (zn4 (k:=.i64) (off:=1) (L:=(dy .i64 r.prio :: (r.mat.mask.l.map (dy .i64)++(r.mat.bits.l.map (dy .i64)++[dy .i64 r.step,rm 1 (r.outs.map lAlt)])))) (r:=(r.mat.bits.l.map (dy .i64)++[dy .i64 r.step,rm 1 (r.outs.map lAlt)])) r.mat.mask g1)) fun h hh=>?_;cases H;exact rt hh
 obtain ⟨g3,H⟩:=isg H;apply dv;refine rk [2] [] (f3 hh (zAa c2) (f2 (zn4 (k:=.i64) (off:=1) (L:=(dy .i64 r.prio :: (r.mat.mask.l.map (dy .i64)++(r.mat.bits.l.map (dy .i64)++[dy .i64 r.step,rm 1 (r.outs.map lAlt)])))) (r:=(r.mat.bits.l.map (dy .i64)++[dy .i64 r.step,rm 1 (r.outs.map lAlt)])) r.mat.mask g1) (zn4 (k:=.i64) (off:=1) (L:=(dy .i64 r.prio :: (r.mat.mask.l.map (dy .i64)++(r.mat.bits.l.map (dy .i64)++[dy .i64 r.step,rm 1 (r.outs.map lAlt)])))) (r:=(r.mat.bits.l.map (dy .i64)++[dy .i64 r.step,rm 1 (r.outs.map lAlt)])) r.mat.mask g3))) fun h hh=>?_;cases H;exact rt hh
def zmg (k:Nat) (port:Int) (tag:Int):Option Pat:=(if (0:Int)<=0/\0<(10:Int) then (if (0:Int)<=9/\9<(10:Int) then some (⟨((zA 10).set 0 65535).set 9 65535,((zA 10).set 0 port).set 9 tag⟩:Pat) else none) else none)
theorem zlf (ax:Axs) (hx:NoAx ax) (k:Nat) (port:Int) (tag:Int) (v:Pat) (H:zmg k port tag=some v):Pure Tryz.prog (EE ax) [] 70 [.int .i64 port,.int .i64 tag] (ePat v):=by
 rw [zmg] at H;refine en [.cell 4 101] 17 [0,1] (hx.no _ (by decide)) (fn70 ax) ?_;intro h hh;apply dv;refine rk [0,1,4] [] hh fun h hh=>?_;apply dv;refine rk [0,1,4,5] [] hh fun h hh=>?_;obtain ⟨g1,H⟩:=isg H;apply dv;refine rk [0,1,4,5] [] (f2 hh (yez (k:=.i64) (L:=((zA 10).l.map (dy .i64)++((zA 10).l.map (dy .i64)))) (r:=((zA 10).l.map (dy .i64))) (L2:=(((zA 10).set 0 65535).l.map (dy .i64)++((zA 10).l.map (dy .i64)))) (zA 10) 65535 g1)) fun h hh=>?_;obtain ⟨g2,H⟩:=isg H;apply dv;refine rk [0,1,4,5] [] (f2 hh (yez (k:=.i64) (L:=(((zA 10).set 0 65535).l.map (dy .i64)++((zA 10).l.map (dy .i64)))) (r:=((zA 10).l.map (dy .i64))) (L2:=((((zA 10).set 0 65535).set 9 65535).l.map (dy .i64)++((zA 10).l.map (dy .i64)))) ((zA 10).set 0 65535) 65535 g2)) fun h hh=>?_;apply dv;refine rk [1,4,5] [] (f2 hh (setAt (k:=.i64) (off:=10) (L:=((((zA 10).set 0 65535).set 9 65535).l.map (dy .i64)++((zA 10).l.map (dy .i64)))) (r:=[]) (L2:=((((zA 10).set 0 65535).set 9 65535).l.map (dy .i64)++(((zA 10).set 0 port).l.map (dy .i64)))) (p:=((((zA 10).set 0 65535).set 9 65535).l.map (dy .i64))) (zA 10) port g1)) fun h hh=>?_;apply dv;refine rk [4,5] [] (f2 hh (setAt (k:=.i64) (off:=10) (L:=((((zA 10).set 0 65535).set 9 65535).l.map (dy .i64)++(((zA 10).set 0 port).l.map (dy .i64)))) (r:=[]) (L2:=((((zA 10).set 0 65535).set 9 65535).l.map (dy .i64)++((((zA 10).set 0 port).set 9 tag).l.map (dy .i64)))) (p:=((((zA 10).set 0 65535).set 9 65535).l.map (dy .i64))) ((zA 10).set 0 port) tag g2)) fun h hh=>?_;apply dv;refine rk [4] [] hh fun h hh=>?_;cases H;exact rtc hh
def zgh (k:Nat) (q:Pat):Nat->Int->(Ar 10)->(Ar 10)->Option ((Pat×Bool) ⊕ (Ar 10×Ar 10))
 |0,_,_,_=>none
 |m+1,i,x,x2=>(if i<160 then ((zhd k q.mask i).bind fun au=>(if au=0 then zgh k q m (dx.wrap (i+1)) x x2 else ((((zhd k x i).bind fun bh=>(if bh=1 then ((zhd k x2 i).bind fun dl=>((zhd k q.bits i).bind fun dm=>some (decide (dl≠dm)))) else some false)):Option Bool).bind fun s_2=>(if s_2=true then some (.inl ((⟨zA 10,zA 10⟩:Pat),false)) else ((zkk k x i 1).bind fun bi=>((zhd k q.bits i).bind fun cg=>((zkk k x2 i cg).bind fun ci=>zgh k q m (dx.wrap (i+1)) bi ci))))))) else some (.inr (x,x2)))
def zqg (k:Nat) (p:Pat) (q:Pat):Option (Pat×Bool):=((zgh k q k 0 p.mask p.bits:Option ((Pat×Bool) ⊕ (Ar 10×Ar 10))).bind fun o=>il (fun r=>some r) (fun s_=>some ((⟨s_.1,s_.2⟩:Pat),true)) o)
theorem z62 (ax:Axs) (hx:NoAx ax) (k:Nat) (p:Pat) (q:Pat) (v:Pat×Bool) (H:zqg k p q=some v):Pure Tryz.prog (EE ax) [] 101 [ePat p,ePat q] (tupT [ePat v.1,.bool v.2]):=by
 rw [zqg] at H;refine enN [.cell 4 101,.tmp 5] 48 [0,1] (hx.no _ (by decide)) (fn101 ax) ?_;intro h hh;apply dv;refine rk [2,3,4] [] hh fun h hh=>?_;repeat apply dv
 refine rk [2,3,4,6] [] hh fun h hh=>?_;obtain ⟨o,H1,H⟩:=zad H;refine cu [2,4] 3 (fun h bs=>∃ s_:Ar 10×Ar 10,o=.inr s_/\(h 2=.ptr 0 0 20/\h 4=.ptr 2 0 20)/\bs=[.cells true 20 (s_.1.l.map (dy .i64)++(s_.2.l.map (dy .i64))),.cells true 20 (q.mask.l.map (dy .i64)++(q.bits.l.map (dy .i64))),.cells true 20 ((zA 10).l.map (dy .i64)++((zA 10).l.map (dy .i64)))]) ?_ ?_
 .skip;apply ey;refine gt [2,3,4,6] (fun m h bs=>∃ (i:Int) (x:Ar 10) (x2:Ar 10),zgh k q m i x x2=some o/\(h 2=.ptr 0 0 20/\h 3=.ptr 1 0 20/\h 4=.ptr 2 0 20/\h 6=.int .i64 i)/\bs=[.cells true 20 (x.l.map (dy .i64)++(x2.l.map (dy .i64))),.cells true 20 (q.mask.l.map (dy .i64)++(q.bits.l.map (dy .i64))),.cells true 20 ((zA 10).l.map (dy .i64)++((zA 10).l.map (dy .i64)))]) ?_ k _ _ ?_;rotate_left
  .exact ⟨0,p.mask,p.bits,H1,kq hh,rfl⟩
  clear hh h H1;rintro m h bs ⟨i,x,x2,H1,hh,rfl⟩;rcases m with _|m
  .rw [zgh] at H1;cases H1
  rw [zgh] at H1;repeat apply dv
  refine rk [2,3,4,6,8] [] hh fun h hh=>?_;rcases isp H1 with ⟨c1,H1⟩|⟨c1,H1⟩;rotate_left
  .skip;refine cf (f2 hh (zAb c1)) ?_;refine xk ?_;cases H1;exact ce hh ⟨_,rfl,kq hh,rfl⟩
  refine ct (f2 hh (zAa c1)) ?_;refine sk ?_;apply dv;apply ey;obtain ⟨au,e2,H1⟩:=zad H1;repeat apply dv
  refine rkp [2,3,4,6,15] [] [.int .i64 au] hh ?_ ?_
  .exact ⟨fc ((zfu ax hx k q.mask i au e2 ).call _),trivial⟩
  clear hh h;intro h hh;rcases isp H1 with ⟨c3,H1⟩|⟨c3,H1⟩;rotate_left
  .skip;refine cf (f2 hh (zAb c3)) ?_;refine sk ?_;obtain ⟨s_2,H2,H1⟩:=zad H1;repeat apply dv
   refine cu [2,3,4,6,31] 3 (fun h bs=>(h 2=.ptr 0 0 20/\h 3=.ptr 1 0 20/\h 4=.ptr 2 0 20/\h 6=.int .i64 i/\h 31=.bool s_2)/\bs=[.cells true 20 (x.l.map (dy .i64)++(x2.l.map (dy .i64))),.cells true 20 (q.mask.l.map (dy .i64)++(q.bits.l.map (dy .i64))),.cells true 20 ((zA 10).l.map (dy .i64)++((zA 10).l.map (dy .i64)))]) ?_ ?_
   .skip;obtain ⟨bh,e4,H2⟩:=zad H2;rcases isp H2 with ⟨c5,H2⟩|⟨c5,H2⟩;rotate_left
    .skip;refine dk 12 [2,3,4,6,31] [.int .i64 bh] [] [] (f2 hh (zAb c5)) ?_ trivial ?_
     .exact ⟨(zfu ax hx k x i bh e4 ).call _,trivial⟩
     clear hh h;intro h hh;cases H2;exact ce hh ⟨kq hh,rfl⟩
    obtain ⟨dl,e6,H2⟩:=zad H2;obtain ⟨dm,e7,H2⟩:=zad H2;refine dk 12 [2,3,4,6,31] [.int .i64 bh,.int .i64 dl] [] [(.int .i64 dm,stL [.cells true 20 (x.l.map (dy .i64)++(x2.l.map (dy .i64))),.cells true 20 (q.mask.l.map (dy .i64)++(q.bits.l.map (dy .i64))),.cells true 20 ((zA 10).l.map (dy .i64)++((zA 10).l.map (dy .i64)))])] (f2 hh (zAa c5)) ?_ ?_ ?_
    .exact ⟨(zfu ax hx k x i bh e4 ).call _,(zfu ax hx k x2 i dl e6 ).call _,trivial⟩
    .exact ⟨fc ((zfu ax hx k q.bits i dm e7 ).call _),trivial⟩
    clear hh h;intro h hh;cases H2;exact ce hh ⟨kq hh,rfl⟩
   clear hh h;rintro h bs ⟨hh,rfl⟩;rcases isb H1 with ⟨c8,H1⟩|⟨c8,H1⟩;rotate_left
   .skip;refine cf (f2 hh c8) ?_;refine sk ?_;obtain ⟨bi,e9,H1⟩:=zad H1;apply dv;refine rkc [2,3,4,6] [] [(.agg (bi.l.map (dy .i64)),stL [.cells true 20 (x.l.map (dy .i64)++(x2.l.map (dy .i64))),.cells true 20 (q.mask.l.map (dy .i64)++(q.bits.l.map (dy .i64))),.cells true 20 ((zA 10).l.map (dy .i64)++((zA 10).l.map (dy .i64)))])] (f2 hh c8) ?_ ?_
    .exact ⟨fc (f6 (zpm ax hx k x i 1 bi e9 ) (by first|rfl|simp only [c8])),trivial⟩
    clear hh h;intro h hh;obtain ⟨cg,e10,H1⟩:=zad H1;obtain ⟨ci,e11,H1⟩:=zad H1;refine dk 7 [2,3,4,6] [.int .i64 cg] [] [(.agg (ci.l.map (dy .i64)),stL [.cells true 20 (bi.l.map (dy .i64)++(x2.l.map (dy .i64))),.cells true 20 (q.mask.l.map (dy .i64)++(q.bits.l.map (dy .i64))),.cells true 20 ((zA 10).l.map (dy .i64)++((zA 10).l.map (dy .i64)))])] (f2 hh c8) ?_ ?_ ?_
    .exact ⟨f6 (zfu ax hx k q.bits i cg e10 ) (by first|rfl|simp only [c8]),trivial⟩
    .exact ⟨fc (f6 (zpm ax hx k x2 i cg ci e11 ) (by first|rfl|simp only [c8])),trivial⟩
    clear hh h;intro h hh;refine rk [2,3,4,6] [] (f2 hh c8) fun h hh=>?_;exact rd m hh ⟨(dx.wrap (i+1)),bi,ci,H1,kq hh,rfl⟩
   refine ct (f2 hh c8) ?_;apply dv;refine rk [4,5] [] (f2 hh c8) fun h hh=>?_;cases H1;obtain rfl:=sinl H;exact rtc hh
  refine ct (f2 hh (zAa c3)) ?_;refine xk ?_;refine rk [2,3,4,6] [] hh fun h hh=>?_;exact rd m hh ⟨(dx.wrap (i+1)),x,x2,H1,kq hh,rfl⟩
 clear hh h;rintro h bs ⟨s_,rfl,hh,rfl⟩;replace H:=sinr H;apply dv;refine rk [4,5] [] hh fun h hh=>?_;cases H;exact rtc hh
def zfj (k:Nat) (p:Pat) (q:Pat):Option Bool:=((zqg k p q).bind fun cj=>some cj.2)
theorem znf (ax:Axs) (hx:NoAx ax) (k:Nat) (p:Pat) (q:Pat) (v:Bool) (H:zfj k p q=some v):Pure Tryz.prog (EE ax) [] 76 [ePat p,ePat q] (.bool v):=by
 rw [zfj] at H;refine en [.tmp 4] 14 [0,1] (hx.no _ (by decide)) (fn76 ax) ?_;intro h hh;apply dv;refine rk [2,3] [] hh fun h hh=>?_;obtain ⟨cj,e1,H⟩:=zad H;apply dv;refine rkc [6] [] [(.tup [ePat cj.1,.bool cj.2],stL [.cells true 20 (p.mask.l.map (dy .i64)++(p.bits.l.map (dy .i64))),.cells true 20 (q.mask.l.map (dy .i64)++(q.bits.l.map (dy .i64)))])] hh ?_ ?_
 .exact ⟨fc ((z62 ax hx k p q cj e1 ).call _),trivial⟩
 clear hh h;intro h hh;apply dv;refine rk [4] [] hh fun h hh=>?_;cases H;exact rt hh
def zdy (k:Nat) (t:List Rule) (port:Int) (tag:Int):Nat->Int->(List Int)->Nat->Option ((List Int) ⊕ (List Int×Nat))
 |0,_,_,_=>none
 |m+1,i,l,n=>(if i<(t.length:Int) then (if 0<=i/\i<(t.length:Int) then ((zmg k port tag).bind fun rAt=>((zfj k ((gx t i).mat) rAt).bind fun ay=>(if ay=true then ((zlc k (gx t i)).bind fun bt=>(if bt=true then (if (n+1)*9<=1000000000 then zdy k t port tag m (dx.wrap (i+1)) (l++[i]) (n+1) else none) else some (.inl []))) else zdy k t port tag m (dx.wrap (i+1)) l n))) else none) else some (.inr (l,n)))
def zjm (k:Nat) (t:List Rule) (port:Int) (tag:Int):Option (List Int):=((zdy k t port tag k 0 [] 0:Option ((List Int) ⊕ (List Int×Nat))).bind fun o=>il (fun r=>some r) (fun s_=>(if s_.1.length=s_.2 then some s_.1 else none)) o)
theorem z1a (ax:Axs) (hx:NoAx ax) (k:Nat) (t:List Rule) (port:Int) (tag:Int) (v:List Int) (H:zjm k t port tag=some v):Pure Tryz.prog (EE ax) [] 28 [zag t,.int .i64 port,.int .i64 tag] (ints v):=by
 rw [zjm] at H;refine en [.tmp 6] 40 [0,1,2] (hx.no _ (by decide)) (fn28 ax) ?_;intro h hh;apply dv;refine rk [0,1,2] [] hh fun h hh=>?_;apply dv;refine rk [0,1,2,7] [] hh fun h hh=>?_;refine vk 7 1 [0,1,2,7] hh fun h hh=>?_;repeat apply dv
 refine rk [0,1,2,7,8] [] hh fun h hh=>?_;obtain ⟨o,H1,H⟩:=zad H;refine cu [7] 1 (fun h bs=>∃ s_:List Int×Nat,o=.inr s_/\(h 7=.arr 0 1 0 s_.2 s_.2 s_.2)/\bs=[.cells false s_.2 (s_.1.map (dy .i64))]) ?_ ?_
 .skip;apply ey;refine gt [0,1,2,7,8] (fun m h bs=>∃ (i:Int) (l:List Int) (n:Nat),zdy k t port tag m i l n=some o/\(h 0=zag t/\h 1=.int .i64 port/\h 2=.int .i64 tag/\h 7=.arr 0 1 0 n n n/\h 8=.int .i64 i)/\bs=[.cells false n (l.map (dy .i64))]) ?_ k _ _ ?_;rotate_left
  .exact ⟨0,[],0,H1,kq hh,rfl⟩
  clear hh h H1;rintro m h bs ⟨i,l,n,H1,hh,rfl⟩;rcases m with _|m
  .rw [zdy] at H1;cases H1
  rw [zdy] at H1;repeat apply dv
  refine rk [0,1,2,7,8,14] [] hh fun h hh=>?_;rcases isp H1 with ⟨c1,H1⟩|⟨c1,H1⟩;rotate_left
  .skip;refine cf (f2 hh (zAb c1)) ?_;refine xk ?_;cases H1;exact ce hh ⟨_,rfl,kq hh,rfl⟩
  refine ct (f2 hh (zAa c1)) ?_;refine sk ?_;apply dv;apply ey;obtain ⟨g2,H1⟩:=isg H1;obtain ⟨rAt,e3,H1⟩:=zad H1;obtain ⟨ay,e4,H1⟩:=zad H1;apply dv;refine dk 8 [0,1,2,7,8,9] [ePat rAt] [] [(.bool ay,stL [.cells false n (l.map (dy .i64))])] (f2 hh (zaf g2)) ?_ ?_ ?_
  .exact ⟨(zlf ax hx k port tag rAt e3 ).call _,trivial⟩
  .exact ⟨fc ((znf ax hx k ((gx t i).mat) rAt ay e4 ).call _),trivial⟩
  clear hh h;intro h hh;repeat apply dv
  refine rk [0,1,2,7,8,27] [] hh fun h hh=>?_;rcases isb H1 with ⟨c5,H1⟩|⟨c5,H1⟩;rotate_left
  .skip;refine ct (f2 hh c5) ?_;refine xk ?_;refine rk [0,1,2,7,8] [] (f2 hh c5) fun h hh=>?_;exact rd m hh ⟨(dx.wrap (i+1)),l,n,H1,kq hh,rfl⟩
  refine cf (f2 hh c5) ?_;refine sk ?_;obtain ⟨bt,e6,H1⟩:=zad H1;apply dv;refine rkp [0,1,2,7,8,10] [] [.bool bt] (f3 hh c5 (zaf g2)) ?_ ?_
  .exact ⟨fc (f6 (z07 ax hx k (gx t i) bt e6 ) (by first|rfl|simp only [c5])),trivial⟩
  clear hh h;intro h hh;repeat apply dv
  refine rk [0,1,2,7,8,34] [] (f2 hh c5) fun h hh=>?_;rcases isb H1 with ⟨c7,H1⟩|⟨c7,H1⟩;rotate_left
  .skip;refine ct (f2 hh c7) ?_;apply dv;refine rk [6] [] (f3 hh c5 c7) fun h hh=>?_;refine nk 6 1 [6] hh fun h hh=>?_;cases H1;obtain rfl:=sinl H;exact rt hh
  refine cf (f2 hh c7) ?_;refine sk ?_;obtain ⟨g8,H1⟩:=isg H1;refine rg [] [] [.cells false (n+1) ((l++[i]).map (dy .i64))] (fun h=>h 0=zag t/\h 1=.int .i64 port/\h 2=.int .i64 tag/\h 7=.arr 0 1 0 (n+1) (n+1) (n+1)/\h 8=.int .i64 i) (f3 hh c5 c7) trivial fun h hh=>?_;refine rk [0,1,2,7,8] [] (f3 hh c5 c7) fun h hh=>?_;exact rd m hh ⟨(dx.wrap (i+1)),(l++[i]),(n+1),H1,kq hh,rfl⟩
 clear hh h;rintro h bs ⟨s_,rfl,hh,rfl⟩;replace H:=sinr H;apply dv;refine rk [6] [] hh fun h hh=>?_;obtain ⟨g9,H⟩:=isg H;refine lw 6 (b:=0) (e:=1) (off:=0) (len:=s_.2) (cap:=s_.2) (M:=s_.2) (s_.1.map (dy .i64)) (kq hh) (by rfl) (by omega) (by omega) (by rw [fl,Nat.mul_one,zfc (fun _=>rfl),fx (by rw [ed];omega)]) (fun t ht=>by obtain ⟨x,_,rfl⟩:=ic.1 ht;first|rfl|exact zg2 _|exact ze3 _|exact zca _|exact zbc _ | (rw [ed];rfl)) (by rw [ed]<;>exact g9) (by omega) ?_;rw [zgb _ _ _ (by simp only [lzA]<;>omega)];simp only [scA];refine gk [6] hh fun h hh=>?_;cases H;exact rt hh
structure zty (c:zam):Prop where
  tabs:c.tables.length<big
  tab:∀ t,t∈c.tables->z4e t
  steps:c.steps.length<big
  keys:∀ s,s∈c.steps->s.key.length<big
def zm0 (n:Net) (c:zam):Bool:=decide (c.tables.length=n.nodes.length) && (decide (c.steps.length<=1000) && c.tables.all fun t=>decide ((zm4 n (c.steps.length:Int) t).2=0))
theorem z3z {k:Nat} (n:Net) (c:zam) (hc:zty c) (hk:big<=k):zjl k n c=some (zm0 n c):=by
  unfold zjl zm0;by_cases h1:c.tables.length=n.nodes.length
  . rw [zAd (by omega),zAa h1,dw];by_cases h2:c.steps.length<=1000
    . rw [zAd (by simp only [decide_eq_true_eq];omega),zAa h2]
      rw [zom (L:=zem k n c) c.tables false (fun t=>decide ((zm4 n (c.steps.length:Int) t).2=0)) hc.tabs (fun m j h=>by
        rw [zem,zAc (zae h),zAc ⟨by omega,zae h⟩,zbz h,yfp n _ _ (hc.tab _ (fi h)) hk,dw];by_cases q:(zm4 n (c.steps.length:Int) c.tables[j]).2=0
        . rw [zAd (fun h=>h q),zAc (zAa q)]
        . rw [zAc q,zAd (by simpa using q)]) (fun m=>by rw [zem,zAd (by omega)]) (fb hc.tabs hk),dw]
      simp only [Bool.true_and];cases (c.tables.all fun t=>decide ((zm4 n (c.steps.length:Int) t).2=0))<;>rfl
    . rw [zAc (by simp only [decide_eq_true_eq];omega),zAb h2];rfl
  . rw [zAc (by omega),zAb h1];rfl
theorem zo7 {k:Nat} (a b:List (List Rule)) (f:List Rule->List Rule->Option Bool) (hf:∀ x,x∈a->∀ y,y∈b->f x y=some (decide (x=y))) (hl:a.length<big) (hk:a.length<k):zcx k a b f=some (decide (a=b)):=by
  unfold zcx;by_cases hlen:a.length=b.length
  . rw [zAd (by omega),zea (L:=zax k a b f) a.length false (fun j=>decide (a[j]?=b[j]?)) hl (fun m j h=>by
      have h2:j<b.length:=by omega
      rw [zax,zAc (zae h),zAc ⟨by omega,zae h⟩,zAc ⟨by omega,zae h2⟩,zbz h,zbz h2];rw [hf _ (fi h) _ (fi h2),dw,d6 h,d6 h2]
      simp only [du]) (fun m=>by rw [zax,zAd (by omega)]) hk,zm3 a b hlen,dw]
    cases decide (a=b)<;>rfl
  . rw [zAc (by omega)];congr 1;exact (zAb fun h=>hlen (by rw [h])).symm
theorem zp1 {k:Nat} (a b:List zc1) (f:zc1->zc1->Option Bool) (hf:∀ x,x∈a->∀ y,y∈b->f x y=some (decide (x=y))) (hl:a.length<big) (hk:a.length<k):zdb k a b f=some (decide (a=b)):=by
  unfold zdb;by_cases hlen:a.length=b.length
  . rw [zAd (by omega),zea (L:=za2 k a b f) a.length false (fun j=>decide (a[j]?=b[j]?)) hl (fun m j h=>by
      have h2:j<b.length:=by omega
      rw [za2,zAc (zae h),zAc ⟨by omega,zae h⟩,zAc ⟨by omega,zae h2⟩,zbz h,zbz h2];rw [hf _ (fi h) _ (fi h2),dw,d6 h,d6 h2]
      simp only [du]) (fun m=>by rw [za2,zAd (by omega)]) hk,zm3 a b hlen,dw]
    cases decide (a=b)<;>rfl
  . rw [zAc (by omega)];congr 1;exact (zAb fun h=>hlen (by rw [h])).symm
theorem zsp {k:Nat} (a b:List ByteArray) (hl:a.length<big) (hk:a.length<k):zdt k a b=some (decide (a=b)):=by
  unfold zdt;by_cases hlen:a.length=b.length
  . rw [zAd (by omega),zea (L:=zbh k a b) a.length false (fun j=>decide (a[j]?=b[j]?)) hl (fun m j h=>by
      have h2:j<b.length:=by omega
      rw [zbh,zAc (zae h),zAc ⟨by omega,zae h⟩,zAc ⟨by omega,zae h2⟩,zbz h,zbz h2,d6 h,d6 h2]
      simp only [du,decide_eq_true_eq]) (fun m=>by rw [zbh,zAd (by omega)]) hk,zm3 a b hlen,dw]
    cases decide (a=b)<;>rfl
  . rw [zAc (by omega)];congr 1;exact (zAb fun h=>hlen (by rw [h])).symm
theorem z04 (a b:zc1):a=b↔a.kind=b.kind/\a.var=b.var/\a.field=b.field/\a.n=b.n/\a.m=b.m/\a.key=b.key:=by
  constructor
  . rintro rfl;exact ⟨rfl,rfl,rfl,rfl,rfl,rfl⟩
  . obtain ⟨a1,a2,a3,a4,a5,a6⟩:=a;obtain ⟨b1,b2,b3,b4,b5,b6⟩:=b;rintro ⟨rfl,rfl,rfl,rfl,rfl,rfl⟩;rfl
theorem yh1 {k:Nat} (a b:zc1) (ha:a.key.length<big) (hk:big<=k):zie k a b=some (decide (a=b)):=by
  unfold zie;rw [zsp _ _ ha (fb ha hk)];by_cases h:a=b
  . rw [zAa h];obtain ⟨h1,h2,h3,h4,h5,h6⟩:=(z04 a b).1 h;rw [zAc h1,zAc h2,zAc h3,zAc h4,zAc h5,dw,zAa h6]
  . rw [zAb h];repeat' split
    all_goals first|rfl|skip
    rename_i h1 h2 h3 h4 h5;rw [dw,zAb (fun h6=>h ((z04 a b).2 ⟨h1,h2,h3,h4,h5,h6⟩))]
theorem z3w {k:Nat} (a b:zc1) (ha:a.key.length<big) (hk:big<=k):zhy k a b=some (decide (a=b)):=by
  have hloop:a.key.length=b.key.length->(zci k a b k 0:Option (Bool ⊕ Unit))=some (if decide (a.key=b.key)=true then .inr () else .inl false):=fun hlen=>by
    rw [zea (L:=zci k a b) a.key.length false (fun j=>decide (a.key[j]?=b.key[j]?)) ha (fun m j h=>by
      have h2:j<b.key.length:=by omega
      rw [zci,zAc (zae h),zAc ⟨by omega,zae h⟩,zAc ⟨by omega,zae h2⟩,zbz h,zbz h2,d6 h,d6 h2]
      simp only [du,decide_eq_true_eq]) (fun m=>by rw [zci,zAd (by omega)]) (fb ha hk),zm3 a.key b.key hlen]
  unfold zhy;by_cases h:a=b
  . rw [zAa h];obtain ⟨h1,h2,h3,h4,h5,h6⟩:=(z04 a b).1 h;rw [zAd (fun q=>q h1),zAc h2,zAc h3,zAd (fun q=>q h4),zAd (fun q=>q h5),dw,zAd (by simp [h6]),hloop (by rw [h6]),zAa h6];rfl
  . rw [zAb h];by_cases h1:a.kind=b.kind
    . rw [zAd (fun q=>q h1)];by_cases h2:a.var=b.var
      . rw [zAc h2];by_cases h3:a.field=b.field
        . rw [zAc h3];by_cases h4:a.n=b.n
          . rw [zAd (fun q=>q h4)];by_cases h5:a.m=b.m
            . rw [zAd (fun q=>q h5),dw];by_cases hlen:a.key.length=b.key.length
              . rw [zAd (by simp [hlen]),hloop hlen,zAb (fun h6=>h ((z04 a b).2 ⟨h1,h2,h3,h4,h5,h6⟩))];rfl
              . rw [zAc (by simp only [decide_eq_true_eq];omega)]
            . rw [zAc h5];rfl
          . rw [zAc h4];rfl
        . rw [zAd h3];rfl
      . rw [zAd h2];rfl
    . rw [zAc h1];rfl
theorem zxd (c d:zam):c=d↔c.version=d.version/\c.tables=d.tables/\c.steps=d.steps:=by
  constructor
  . rintro rfl;exact ⟨rfl,rfl,rfl⟩
  . obtain ⟨a1,a2,a3⟩:=c;obtain ⟨b1,b2,b3⟩:=d;rintro ⟨rfl,rfl,rfl⟩;rfl
theorem yk4 {k:Nat} (c d:zam) (hc:zty c) (hk:big<=k):zls k c d=some (decide (c=d)):=by
  unfold zls;rw [zo7 c.tables d.tables _ (fun x hx y _=>yca x y (hc.tab x hx) hk) hc.tabs (fb hc.tabs hk)];rw [zp1 c.steps d.steps _ (fun x hx y _=>yh1 x y (hc.keys x hx) hk) hc.steps (fb hc.steps hk)];by_cases h1:c.version=d.version
  . rw [zAc h1,dw];by_cases h2:c.tables=d.tables
    . rw [zAc (zAa h2),dw];congr 1;rw [decide_eq_decide];exact ⟨fun h3=>(zxd c d).2 ⟨h1,h2,h3⟩,fun h=>((zxd c d).1 h).2.2⟩
    . rw [zAd (by simpa using h2),zAb (fun h=>h2 ((zxd c d).1 h).2.1)]
  . rw [zAd h1,zAb (fun h=>h1 ((zxd c d).1 h).1)]
theorem z1q {k:Nat} (c d:zam) (hc:zty c) (hk:big<=k):zjy k c d=some (decide (c=d)):=by
  have l0:c.tables.length=d.tables.length->(zel k c d k 0:Option (Bool ⊕ Unit))=some (if decide (c.tables=d.tables)=true then .inr () else .inl false):=fun hlen=>by
    rw [zea (L:=zel k c d) c.tables.length false (fun j=>decide (c.tables[j]?=d.tables[j]?)) hc.tabs (fun m j h=>by
      have h2:j<d.tables.length:=by omega
      rw [zel,zAc (zae h),zAc ⟨by omega,zae h⟩,zAc ⟨by omega,zae h2⟩,zbz h,zbz h2,yj6 _ _ (hc.tab _ (fi h)) hk,dw,d6 h,d6 h2]
      simp only [du,decide_eq_true_eq]) (fun m=>by rw [zel,zAd (by omega)]) (fb hc.tabs hk),zm3 c.tables d.tables hlen]
  have l1:c.steps.length=d.steps.length->(zek k c d k 0:Option (Bool ⊕ Unit))=some (if decide (c.steps=d.steps)=true then .inr () else .inl false):=fun hlen=>by
    rw [zea (L:=zek k c d) c.steps.length false (fun j=>decide (c.steps[j]?=d.steps[j]?)) hc.steps (fun m j h=>by
      have h2:j<d.steps.length:=by omega
      rw [zek,zAc (zae h),zAc ⟨by omega,zae h⟩,zAc ⟨by omega,zae h2⟩,zbz h,zbz h2,z3w _ _ (hc.keys _ (fi h)) hk,dw,d6 h,d6 h2]
      simp only [du,decide_eq_true_eq]) (fun m=>by rw [zek,zAd (by omega)]) (fb hc.steps hk),zm3 c.steps d.steps hlen]
  unfold zjy;by_cases h1:c.version=d.version
  . rw [zAd (fun q=>q h1)];by_cases h2:c.tables.length=d.tables.length
    . rw [zAd (by omega),dw];by_cases h3:c.steps.length=d.steps.length
      . rw [zAd (by simp only [decide_eq_true_eq];omega),l0 h2,dw];by_cases h4:c.tables=d.tables
        . rw [zAc (zAa h4)];show (rf _ _)=_;rw [l1 h3,dw];by_cases h5:c.steps=d.steps
          . rw [zAc (zAa h5),zAa ((zxd c d).2 ⟨h1,h4,h5⟩)];rfl
          . rw [zAd (by simpa using h5),zAb (fun h=>h5 ((zxd c d).1 h).2.2)];rfl
        . rw [zAd (by simpa using h4),zAb (fun h=>h4 ((zxd c d).1 h).2.1)];rfl
      . rw [zAc (by simp only [decide_eq_true_eq];omega),zAb (fun h=>h3 (by rw [h]))]
    . rw [zAc (by omega),zAb (fun h=>h2 (by rw [h]))];rfl
  . rw [zAc h1,zAb (fun h=>h1 (by rw [h]))];rfl
theorem yfm {k:Nat} (c:zam) (most:Int) (hc:zty c) (hk:big<=k):∃ r,zoe k c most=some r/\(r=true->c.tables.length<=40/\c.steps.length<=40/\∀ t,t∈c.tables->(t.length:Int)<=most):=by
  have key:∀ (m i:Nat) (q:Int),i<=c.tables.length->c.tables.length - i<m->(∀ j (h:j<c.tables.length),j<i->(c.tables[j].length:Int)<=most)->∃ o,zhh k c most m q (i:Int)=some o/\(o=.inl false\/(∃ q',o=.inr q'/\∀ j (h:j<c.tables.length),(c.tables[j].length:Int)<=most)):=by
    intro m
    induction m with
    |zero=>intro i q h1 h2;omega
    |succ m ih =>
      intro i q h1 h2 hp;rw [zhh];by_cases hi:i<c.tables.length
      . rw [zAc (zae hi),zAc ⟨by omega,zae hi⟩,zbz hi,ypi _ most (hc.tab _ (fi hi)) hk,dw]
        cases hf:fewT c.tables[i] most with
        |false=>exact ⟨_,rfl,.inl rfl⟩
        |true =>
          rw [zAc rfl,zc7 i (by have:=hc.tabs;simp only [big] at this;omega)];refine ih (i+1) _ (by omega) (by omega) fun j h hj=>?_;rcases jl j i with w|w
          . exact hp j h w
          . have:j=i:=by omega
            subst this;unfold fewT at hf;simp only [dz,decide_eq_true_eq] at hf;exact hf.2
      . rw [zAd (by omega)];exact ⟨_,rfl,.inr ⟨_,rfl,fun j h=>hp j h (by omega)⟩⟩
  obtain ⟨o,h1,h2⟩:=key k 0 0 (ft _) (by have:=hc.tabs;omega) (fun j _ h=>by omega);unfold zoe;rw [show ((0:Nat):Int)=0 from rfl] at h1;rw [h1,dw];rcases h2 with rfl|⟨q,rfl,h3⟩
  . exact ⟨false,rfl,fun h=>by cases h⟩
  . show ∃ r,(if q<=most then (if (c.steps.length:Int)<=40 then some (decide ((c.tables.length:Int)<=40)) else some false) else some false)=some r/\_;split
    . split
      . refine ⟨_,rfl,fun h=>?_⟩;simp only [decide_eq_true_eq] at h;refine ⟨by omega,by omega,fun t ht=>?_⟩;obtain ⟨j,hj,rfl⟩:=List.getElem_of_mem ht;exact h3 j hj
      . exact ⟨false,rfl,fun h=>by cases h⟩
    . exact ⟨false,rfl,fun h=>by cases h⟩
structure Small (n:Net) (c:zam):Prop where
  len:c.tables.length=n.nodes.length
  nodes:n.nodes.length<=10
  tabs:∀ j,j<c.tables.length->(c.tables.getD j default).length<=4000
  rules:∀ j,j<n.nodes.length->0<=(n.nodes.getD j default).rules/\(n.nodes.getD j default).rules<=4000
section
variable {k:Nat} {n:Net} {c:zam} (hS:Small n c) (hk:big<=k)
include hS hk
end
/-! bits of words -/
theorem z6u {a b:Nat} (ha:a<2 ^ 64) (hb:b<2 ^ 64) (i:Nat):(a - (a &&& b)).testBit i=(a.testBit i && !b.testBit i):=by
  rw [<- zxl 64 ha hb,jw,show 2 ^ 64 - 1 - b=2 ^ 64 - (b+1) by omega,Nat.testBit_two_pow_sub_succ hb];by_cases hi:i<64
  . simp [hi]
  . have:a.testBit i=false:=Nat.testBit_lt_two_pow (fb ha (Nat.pow_le_pow_right (by decide) (by omega)));simp [this]
theorem zt0 {a b:Nat} (ha:a<65536) (hb:b<65536) (h:∀ t,t<16->a.testBit t=b.testBit t):a=b:=by
  apply nj;intro t;by_cases ht:t<16
  . exact h t ht
  . have e:65536<=2 ^ t:=Nat.pow_le_pow_right (n:=2) (by decide) (show 16<=t by omega);rw [Nat.testBit_lt_two_pow (fb ha e),Nat.testBit_lt_two_pow (fb hb e)]
theorem z8w {t s:Nat}:(2 ^ t).testBit s=decide (t=s):=Nat.testBit_two_pow
theorem yjj {w t:Nat} (hw:w<65536) (ht:t<16) (h:w.testBit t=false):w+2 ^ t=w ||| 2 ^ t:=by
  have hp:2 ^ t<65536:=Nat.pow_lt_pow_right (by decide) ht;have ho:w ||| 2 ^ t<2 ^ 16:=pr hw hp
  have e1:(w ||| 2 ^ t) &&& 2 ^ t=2 ^ t:=by
    apply nj;intro s;rw [jw,my];cases (2 ^ t).testBit s<;>simp
  have e2:(w ||| 2 ^ t) - ((w ||| 2 ^ t) &&& 2 ^ t)=w:=by
    apply nj;intro s;rw [z6u (by omega) (by omega),my,z8w];by_cases hs:t=s
    . subst hs;simp [h]
    . simp [hs]
  have e3:2 ^ t<=w ||| 2 ^ t:=Nat.right_le_or
  omega
theorem ypc {w t:Nat} (hw:w<65536) (ht:t<16) (h:w.testBit t=true):2 ^ t<=w/\∀ s,(w - 2 ^ t).testBit s=(w.testBit s && !decide (t=s)):=by
  have hp:2 ^ t<65536:=Nat.pow_lt_pow_right (by decide) ht
  have e1:w &&& 2 ^ t=2 ^ t:=by
    apply nj;intro s;rw [jw,z8w];by_cases hs:t=s
    . subst hs;simp [h]
    . simp [hs]
  have h1:w &&& 2 ^ t<=w:=qh;refine ⟨by omega,fun s=>?_⟩;have:=z6u (a:=w) (b:=2 ^ t) (by omega) (by omega) s;rw [e1,z8w] at this;exact this
/-! heads -/
def hw (h:Ar 10) (i:Nat):Nat:=(gx h.l (i:Int)).toNat
def hbit (h:Ar 10) (i:Nat):Bool:=(hw h (i / 16)).testBit (15 - i % 16)
theorem zd6 {h:Ar 10} (hr:zaz h=true) {i:Nat} (hi:i<10):gx h.l (i:Int)=(hw h i:Int)/\hw h i<65536:=by
  obtain ⟨n,h1,h2⟩:=zqq hr hi;unfold hw;rw [h1];exact ⟨by simp,by simpa using h2⟩
theorem z6h (j t:Nat) (hj:j<10) (ht:t<16):(16*j+(15 - t)) / 16=j/\15 - (16*j+(15 - t)) % 16=t/\16*j+(15 - t)<160:=by omega
theorem zj7 (h:Ar 10) {j t:Nat} (hj:j<10) (ht:t<16):hbit h (16*j+(15 - t))=(hw h j).testBit t:=by
  obtain ⟨a,b,_⟩:=z6h j t hj ht;unfold hbit;rw [a,b]
theorem ysw {n:Nat} {a b:Ar n} (h:∀ j:Nat,j<n->gx a.l (j:Int)=gx b.l (j:Int)):a=b:=by
  apply Ar.ext';apply List.ext_getElem (by rw [a.h,b.h]);intro i h1 h2;have:=h i (by rw [<- a.h];exact h1)
  rwa [zbz h1,zbz h2] at this
theorem yku {a b:Ar 10} (ha:zaz a=true) (hb:zaz b=true) (h:∀ i,i<160->hbit a i=hbit b i):a=b:=by
  apply ysw;intro j hj;obtain ⟨a1,a2⟩:=zd6 ha hj;obtain ⟨b1,b2⟩:=zd6 hb hj;rw [a1,b1,zt0 a2 b2 fun t ht=>by rw [<- zj7 a hj ht,<- zj7 b hj ht];exact h _ (z6h j t hj ht).2.2]
theorem zkn {h:Ar 10} (hh:∀ j:Nat,j<10->∃ n:Nat,gx h.l (j:Int)=(n:Int)/\n<65536):zaz h=true:=by
  unfold zaz;rw [zxm];intro j hj;have hj':j<10:=by rw [<- h.h];exact hj
  obtain ⟨n,h1,h2⟩:=hh j hj';rw [zbz hj] at h1;rw [h1];exact zAa (by omega)
/-! one bit -/
theorem zyg {k i:Nat} (hi:i<160) (hk:16<k):zjo k (i:Int)=some ((2 ^ (15 - i % 16):Nat):Int):=by
  have key:∀ m kk,kk<=i % 16->i % 16 - kk<m->zft k (i:Int) m ((2 ^ (15 - kk):Nat):Int) (kk:Int)=some ((2 ^ (15 - i % 16):Nat):Int):=by
    intro m
    induction m with
    |zero=>intro kk h1 h2;omega
    |succ m ih =>
      intro kk h1 h2;rw [zft,zAc ⟨by omega,by decide⟩];by_cases c:kk<i % 16
      . have hp:2 ^ (15 - kk)=2 ^ (15 - (kk+1))*2:=by rw [<- Nat.pow_succ];congr 1;omega
        have hb:2 ^ (15 - kk)<=2 ^ 15:=Nat.pow_le_pow_right (by decide) (by omega);rw [zAc (by omega),zAc ⟨by omega,by decide⟩,zc7 kk (by omega)];have e:dx.wrap (((2 ^ (15 - kk):Nat):Int) / 2)=((2 ^ (15 - (kk+1)):Nat):Int):=by rw [wr64 (by omega)];omega
        rw [e];exact ih (kk+1) (by omega) (by omega)
      . rw [zAd (by omega),show kk=i % 16 by omega]
  unfold zjo;have:=key k 0 (ft _) (by omega);rw [show ((2 ^ (15 - 0):Nat):Int)=32768 by decide] at this;rw [show (0:Int)=((0:Nat):Int) from rfl,this];rfl
theorem z8t {i:Nat} (hi:i<160):dx.wrap ((i:Int) / 16)=((i / 16:Nat):Int):=by rw [wr64 (by omega)];omega
theorem zmv {k i:Nat} {h:Ar 10} (hr:zaz h=true) (hi:i<160) (hk:16<k):zhd k h (i:Int)=some ((hbit h i).toNat:Int):=by
  unfold zhd;obtain ⟨a1,a2⟩:=zd6 hr (i:=i / 16) (by omega);rw [zAc ⟨by omega,by decide⟩,z8t hi,zAc ⟨by omega,by omega⟩,zyg hi hk,dw,a1];have hp:0<2 ^ (15 - i % 16):=Nat.two_pow_pos _;rw [zAc ⟨by omega,by omega⟩]
  have e:dx.wrap ((hw h (i / 16):Int) / ((2 ^ (15 - i % 16):Nat):Int))=((hw h (i / 16) / 2 ^ (15 - i % 16):Nat):Int):=by
    have:hw h (i / 16) / 2 ^ (15 - i % 16)<=hw h (i / 16):=Nat.div_le_self _ _;rw [<- Int.natCast_ediv];generalize hw h (i / 16) / 2 ^ (15 - i % 16)=q at *;rw [wr64 (by omega)]
  rw [e];unfold hbit;rw [Nat.testBit_eq_decide_div_mod_eq];generalize hw h (i / 16) / 2 ^ (15 - i % 16)=q at *;rw [zAc ⟨by omega,by decide⟩];congr 1;by_cases c:q % 2=1
  . rw [zAa c];simp only [Bool.toNat_true];omega
  . rw [zAb c];simp only [o7];omega
/-! matching -/
theorem zyc {b h m:Nat} (hb:b<65536) (hh:h<65536) (hm:m<65536):(b ^^^ h) &&& m=0↔∀ t,t<16->m.testBit t=true->b.testBit t=h.testBit t:=by
  constructor
  . intro h0 t ht h1;have:=congrArg (fun x=>Nat.testBit x t) h0;simp only [jw,Nat.testBit_xor,Nat.zero_testBit,h1,Bool.and_true] at this;revert this;cases b.testBit t<;>cases h.testBit t<;>simp
  . intro h0;apply zt0 (po Nat.and_le_right hm) (by decide);intro t ht;simp only [jw,Nat.testBit_xor,Nat.zero_testBit]
    cases h1:m.testBit t with
    |false=>simp
    |true=>rw [h0 t ht h1];simp
theorem zb2 {p:Pat}:zas p=true↔zaz p.mask=true/\zaz p.bits=true/\∀ i,i<160->hbit p.bits i=true->hbit p.mask i=true:=by
  unfold zas
  simp only [dz];refine and_congr_right fun hm=>and_congr_right fun hb=>?_;unfold zrw;rw [fe]
  have key:∀ j:Nat,j<10->(decide (iAnd .i64 (gx p.bits.l (j:Int)) (gx p.mask.l (j:Int))=gx p.bits.l (j:Int))=true↔∀ t,t<16->(hw p.bits j).testBit t=true->(hw p.mask j).testBit t=true):=by
    intro j hj;obtain ⟨a1,a2⟩:=zd6 hb hj;obtain ⟨b1,b2⟩:=zd6 hm hj;rw [a1,b1,zud (by omega) (by omega),decide_eq_true_eq];constructor
    . intro h t ht h1;have h':hw p.bits j &&& hw p.mask j=hw p.bits j:=by omega
      rw [<- h',jw] at h1;simp only [dz] at h1;exact h1.2
    . intro h;congr 1;apply zt0 (po qh a2) a2;intro t ht;rw [jw]
      cases h1:(hw p.bits j).testBit t with
      |false=>rfl
      |true=>rw [h t ht h1];rfl
  constructor
  . intro h i hi h1;have:=(key (i / 16) (by omega)).1 (h _ (ks.2 (by omega))) (15 - i % 16) (by omega);exact this h1
  . intro h j hj;have hj':=ks.1 hj
    exact (key j hj').2 fun t ht h1=>by
      rw [<- zj7 p.mask hj' ht];exact h _ (z6h j t hj' ht).2.2 (by rw [zj7 p.bits hj' ht];exact h1)
theorem yr0 {a:Nat} (h:a<160):(a:Int)<160:=by omega
theorem ybv {a b:Bool}:((a.toNat:Int)≠(b.toNat:Int))↔a≠b:=by cases a<;>cases b<;>decide
theorem zrq {a:Bool}:((a.toNat:Int)=1)↔a=true:=by cases a<;>decide
/-! rewriting -/
def zsq (m:Pat) (h x:Ar 10):Prop:=zaz x=true/\∀ i,i<160->hbit x i=if hbit m.mask i=true then hbit m.bits i else hbit h i
theorem zsq.uniq {m:Pat} {h x y:Ar 10} (a:zsq m h x) (b:zsq m h y):x=y:=yku a.1 b.1 fun i hi=>by rw [a.2 i hi,b.2 i hi]
theorem zih {n:Nat} {a:Ar n} {i:Nat} (v:Int) (hi:i<n):gx (a.set (i:Int) v).l (i:Int)=v:=by
  show (a.l.set i v).getD i default=v;rw [eh,qc (by rw [a.h];exact hi)];rfl
theorem zl2 {n:Nat} {a:Ar n} {i j:Nat} (v:Int) (hj:j<n) (h:i≠j):gx (a.set (i:Int) v).l (j:Int)=gx a.l (j:Int):=by
  show (a.l.set i v).getD j default=a.l.getD j default;rw [eh,eh,List.getElem?_set_ne h]
theorem ydc {k:Nat} {m:Pat} {h:Ar 10} (hp:zas m=true) (hh:zaz h=true) (hk:10<k):∃ x,zj2 k m h=some x/\zsq m h x:=by
  obtain ⟨pm,pb,pw⟩:=zb2.1 hp
  have hfold:=z4r (L:=zd5 k m) 10 (fun x i=>x.set (i:Int) (iOr .i64 (z7y .i64 (gx x.l (i:Int)) (gx m.mask.l (i:Int))) (gx m.bits.l (i:Int))))
    (fun j x=>∀ i:Nat,i<10->gx x.l (i:Int)=if i<j then ((((hw h i - (hw h i &&& hw m.mask i)) ||| hw m.bits i:Nat)):Int) else (hw h i:Int)) (by decide)
    (fun fu j x hj hI=>by
      obtain ⟨a1,a2⟩:=zd6 pb hj;obtain ⟨b1,b2⟩:=zd6 pm hj;obtain ⟨c1,c2⟩:=zd6 hh hj;refine ⟨by rw [zd5,zAc (lt10 hj),zAc ⟨by omega,lt10 hj⟩],fun i hi=>?_⟩;by_cases hij:j=i
      . subst hij;have h0:=hI j hj;rw [zAd (Nat.lt_irrefl j)] at h0;rw [zih _ hi,zAc (Nat.lt_succ_self j),h0,b1,a1,yhm (by omega) (by omega),yhl (by omega) (by omega)]
      . rw [zl2 _ hi hij,hI i hi];by_cases hlt:i<j
        . rw [zAc hlt,zAc (by omega)]
        . rw [zAd hlt,zAd (by omega)]) (fun fu x _=>by rw [zd5];exact zAd (by decide)) hk (s:=h) (fun i hi=>by rw [zAd (pf i)];exact (zd6 hh hi).1)
  obtain ⟨h1,h2⟩:=hfold;refine ⟨_,by unfold zj2;rw [h1];rfl,?_⟩;generalize (iz 10).foldl _ h=x at h2 ⊢;have hx:∀ i:Nat,i<10->gx x.l (i:Int)=((((hw h i - (hw h i &&& hw m.mask i)) ||| hw m.bits i:Nat)):Int):=fun i hi=>by rw [h2 i hi,zAc hi]
  have hlt:∀ i,i<10->((hw h i - (hw h i &&& hw m.mask i)) ||| hw m.bits i)<65536:=fun i hi=>pr (n:=16) (by have:=(zd6 hh hi).2;omega) (zd6 pb hi).2;refine ⟨zkn fun j hj=>⟨_,hx j hj,hlt j hj⟩,fun i hi=>?_⟩;have hi10:i / 16<10:=by omega
  have e1:hw x (i / 16)=(hw h (i / 16) - (hw h (i / 16) &&& hw m.mask (i / 16))) ||| hw m.bits (i / 16):=by
    unfold hw;rw [hx (i / 16) hi10];rfl
  have hpw:=pw i hi;unfold hbit at hpw ⊢;rw [e1,my,z6u (by have:=(zd6 hh hi10).2;omega) (by have:=(zd6 pm hi10).2;omega)]
  cases hm:(hw m.mask (i / 16)).testBit (15 - i % 16) with
  |true=>simp
  |false =>
    cases hb:(hw m.bits (i / 16)).testBit (15 - i % 16) with
    |true=>rw [hpw hb] at hm;cases hm
    |false=>simp
theorem z1h {k i:Nat} {h:Ar 10} {b:Bool} (hr:zaz h=true) (hi:i<160) (hk:16<k):∃ x,zkk k h (i:Int) (b.toNat:Int)=some x/\zaz x=true/\∀ j,j<160->hbit x j=if j=i then b else hbit h j:=by
  unfold zkk;obtain ⟨a1,a2⟩:=zd6 hr (i:=i / 16) (by omega);rw [zAc ⟨by omega,by decide⟩,z8t hi,zAc ⟨by omega,by omega⟩,zmv hr hi hk,dw,zyg hi hk,dw,a1];have ht:15 - i % 16<16:=by omega
  have hp:2 ^ (15 - i % 16)<65536:=Nat.pow_lt_pow_right (by decide) ht;have hpp:0<2 ^ (15 - i % 16):=Nat.two_pow_pos _;have hi10:i / 16<10:=by omega
  -- the new word
  have hnew:∃ w:Nat,dx.wrap ((hw h (i / 16):Int)+dx.wrap (dx.wrap ((b.toNat:Int) - ((hbit h i).toNat:Int))*((2 ^ (15 - i % 16):Nat):Int)))=(w:Int)/\w<65536/\∀ s,w.testBit s=if s=15 - i % 16 then b else (hw h (i / 16)).testBit s:=by
    cases hb:hbit h i with
    |false =>
      have hb':(hw h (i / 16)).testBit (15 - i % 16)=false:=hb
      cases b with
      |false =>
        refine ⟨hw h (i / 16),?_,a2,fun s=>?_⟩
        . simp only [o7,Int.natCast_zero,Int.sub_self];rw [wr64 (n:=0) (by omega),Int.zero_mul,wr64 (n:=0) (by omega),Int.add_zero,wr64 (by omega)]
        . by_cases hs:s=15 - i % 16
          . rw [zAc hs,hs,hb']
          . rw [zAd hs]
      |true =>
        refine ⟨hw h (i / 16)+2 ^ (15 - i % 16),?_,?_,fun s=>?_⟩
        . simp only [Bool.toNat_true,o7];rw [wr64 (n:=((1:Nat):Int) - ((0:Nat):Int)) (by omega),show ((1:Nat):Int) - ((0:Nat):Int)=1 by omega,Int.one_mul,wr64 (n:=((2 ^ (15 - i % 16):Nat):Int)) (by omega),wr64 (by omega)];omega
        . rw [yjj a2 ht hb'];exact pr (n:=16) a2 hp
        . rw [yjj a2 ht hb',my,z8w];by_cases hs:s=15 - i % 16
          . rw [zAc hs];simp [hs]
          . rw [zAd hs];simp [Ne.symm hs]
    |true =>
      have hb':(hw h (i / 16)).testBit (15 - i % 16)=true:=hb;obtain ⟨g1,g2⟩:=ypc a2 ht hb'
      cases b with
      |true =>
        refine ⟨hw h (i / 16),?_,a2,fun s=>?_⟩
        . simp only [Int.sub_self];rw [wr64 (n:=0) (by omega),Int.zero_mul,wr64 (n:=0) (by omega),Int.add_zero,wr64 (by omega)]
        . by_cases hs:s=15 - i % 16
          . rw [zAc hs,hs,hb']
          . rw [zAd hs]
      |false =>
        refine ⟨hw h (i / 16) - 2 ^ (15 - i % 16),?_,by omega,fun s=>?_⟩
        . simp only [Bool.toNat_true,o7];rw [wr64 (n:=((0:Nat):Int) - ((1:Nat):Int)) (by omega),show ((0:Nat):Int) - ((1:Nat):Int)=-1 by omega,wr64 (n:=-1*((2 ^ (15 - i % 16):Nat):Int)) (by omega),wr64 (by omega)];omega
        . rw [g2];by_cases hs:s=15 - i % 16
          . rw [zAc hs];simp [hs]
          . rw [zAd hs];simp [Ne.symm hs]
  obtain ⟨w,e1,e2,e3⟩:=hnew;refine ⟨_,rfl,?_,?_⟩
  . rw [e1];refine zkn fun j hj=>?_;by_cases hij:i / 16=j
    . subst hij;exact ⟨w,zih _ hj,e2⟩
    . rw [zl2 _ hj hij];exact ⟨_,(zd6 hr hj).1,(zd6 hr hj).2⟩
  . intro j hj;rw [e1];unfold hbit;have hj10:j / 16<10:=by omega
    by_cases hij:i / 16=j / 16
    . have:hw (h.set ((i / 16:Nat):Int) (w:Int)) (j / 16)=w:=by
        unfold hw;rw [<- hij,zih _ hi10];rfl
      rw [this,e3,<- hij];by_cases hm:j=i
      . subst hm;rw [zAc rfl,zAc rfl]
      . rw [zAd hm,zAd (by omega)]
    . have:hw (h.set ((i / 16:Nat):Int) (w:Int)) (j / 16)=hw h (j / 16):=by
        unfold hw;rw [zl2 _ hj10 hij]
      rw [this,zAd (fun hm=>hij (by rw [hm]))]
theorem z33 {k:Nat} {m:Pat} {h:Ar 10} (hp:zas m=true) (hh:zaz h=true) (hk:160<k):∃ x,zjq k m h=some x/\zsq m h x:=by
  obtain ⟨pm,pb,pw⟩:=zb2.1 hp
  have key:∀ fu i (x:Ar 10),i<=160->160 - i<fu->zaz x=true->(∀ j,j<160->hbit x j=if j<i/\hbit m.mask j=true then hbit m.bits j else hbit h j)->∃ y,zeq k m fu (i:Int) x=some y/\zsq m h y:=by
    intro fu
    induction fu with
    |zero=>intro i x h1 h2;omega
    |succ fu ih =>
      intro i x h1 h2 h3 h4;rw [zeq];by_cases c:i<160
      . rw [zAc (yr0 c),zmv pm c (by omega),dw,zmv pb c (by omega),zc7 i (by omega)];by_cases d:hbit m.mask i=true
        . rw [zAc (zrq.2 d),dw];obtain ⟨y,s1,s2,s3⟩:=z1h (b:=hbit m.bits i) h3 c (show 16<k by omega);rw [s1,dw];refine ih (i+1) y (by omega) (by omega) s2 fun j hj=>?_;rw [s3 j hj];by_cases hji:j=i
          . subst hji;rw [zAc rfl,zAc ⟨by omega,d⟩]
          . rw [zAd hji,h4 j hj];by_cases hq:j<i/\hbit m.mask j=true
            . rw [zAc hq,zAc ⟨by omega,hq.2⟩]
            . rw [zAd hq,zAd (fun hh2=>hq ⟨by omega,hh2.2⟩)]
        . rw [zAd (fun hq=>d (zrq.1 hq))];refine ih (i+1) x (by omega) (by omega) h3 fun j hj=>?_;rw [h4 j hj];by_cases hji:j=i
          . subst hji;rw [zAd (fun hq=>d hq.2),zAd (fun hq=>d hq.2)]
          . by_cases hq:j<i/\hbit m.mask j=true
            . rw [zAc hq,zAc ⟨by omega,hq.2⟩]
            . rw [zAd hq,zAd (fun hh2=>hq ⟨by omega,hh2.2⟩)]
      . obtain rfl:i=160:=by omega
        rw [zAd (by decide)];refine ⟨x,rfl,h3,fun j hj=>?_⟩;rw [h4 j hj];by_cases hq:hbit m.mask j=true
        . rw [zAc ⟨hj,hq⟩,zAc hq]
        . rw [zAd (fun hh2=>hq hh2.2),zAd hq]
  obtain ⟨y,h1,h2⟩:=key k 0 h (by omega) (by omega) hh fun j hj=>by rw [zAd (fun hq=>pf _ hq.1)]
  refine ⟨y,?_,h2⟩;unfold zjq;rw [show (0:Int)=((0:Nat):Int) from rfl,h1];rfl
def zk5 (p q:Pat):Bool:=(iz 160).all fun i=>!(hbit p.mask i && hbit q.mask i) || (hbit p.bits i == hbit q.bits i)
theorem znn {p q:Pat}:zk5 p q=true↔∀ i,i<160->hbit p.mask i=true->hbit q.mask i=true->hbit p.bits i=hbit q.bits i:=by
  unfold zk5;rw [fe];constructor
  . intro hh i hi hm hq;have:=hh i (ks.2 hi);rw [hm,hq] at this;simpa using this
  . intro hh i hi;have:=hh i (ks.1 hi)
    cases hm:hbit p.mask i with
    |false=>rfl
    |true =>
      cases hq:hbit q.mask i with
      |false=>rfl
      |true=>simpa using this hm hq
theorem z6g {k:Nat} {p q:Pat} (hp:zas p=true) (hq:zas q=true) (hk:10<k):zfv k p q=some (zk5 p q):=by
  obtain ⟨pm,pb,_⟩:=zb2.1 hp;obtain ⟨qm,qb,_⟩:=zb2.1 hq;unfold zfv
  rw [zea (L:=zc5 k p q) 10 false (fun j=>decide ((hw p.bits j ^^^ hw q.bits j) &&& (hw p.mask j &&& hw q.mask j)=0)) (by decide) (fun m j hj=>by
    obtain ⟨a1,a2⟩:=zd6 pb hj;obtain ⟨b1,b2⟩:=zd6 pm hj;obtain ⟨c1,c2⟩:=zd6 qb hj;obtain ⟨d1,d2⟩:=zd6 qm hj;have hx:hw p.bits j ^^^ hw q.bits j<2 ^ 16:=Nat.xor_lt_two_pow a2 c2;have hy:(hw p.bits j ^^^ hw q.bits j) &&& hw p.mask j<=hw p.mask j:=Nat.and_le_right;rw [zc5,zAc (lt10 hj),zAc ⟨by omega,lt10 hj⟩,a1,b1,c1,d1,ykt (by omega) (by omega),zud (by omega) (by omega),zud (by omega) (by omega),Nat.and_assoc];by_cases c:(hw p.bits j ^^^ hw q.bits j) &&& (hw p.mask j &&& hw q.mask j)=0
    . rw [zAd (by omega),zAc (zAa c)]
    . rw [zAc (by omega),zAd (by rw [decide_eq_true_eq];exact c)]) (fun m=>by rw [zc5];exact zAd (by decide)) hk,dw]
  have e:(iz 10).all (fun j=>decide ((hw p.bits j ^^^ hw q.bits j) &&& (hw p.mask j &&& hw q.mask j)=0))=zk5 p q:=by
    rw [Bool.eq_iff_iff,fe,znn];have hand:∀ j,j<10->hw p.mask j &&& hw q.mask j<65536:=fun j hj=>po qh (zd6 pm hj).2;constructor
    . intro hall i hi h1 h2;have:=zAe (hall (i / 16) (ks.2 (by omega)));refine (zyc (zd6 pb (by omega)).2 (zd6 qb (by omega)).2 (hand (i / 16) (by omega))).1 this (15 - i % 16) (by omega) ?_;rw [jw];unfold hbit at h1 h2;rw [h1,h2];rfl
    . intro hall j hj;have hj':=ks.1 hj;refine zAa ((zyc (zd6 pb hj').2 (zd6 qb hj').2 (hand j hj')).2 fun t ht h1=>?_);rw [jw,dz] at h1;rw [<- zj7 p.bits hj' ht,<- zj7 q.bits hj' ht];exact hall _ (z6h j t hj' ht).2.2 (by rw [zj7 p.mask hj' ht];exact h1.1) (by rw [zj7 q.mask hj' ht];exact h1.2)
  rw [e];cases zk5 p q<;>rfl
structure Meet (p q r:Pat):Prop where
  mask:zaz r.mask=true
  bits:zaz r.bits=true
  hm:∀ j,j<160->hbit r.mask j=(hbit p.mask j || hbit q.mask j)
  hb:∀ j,j<160->hbit r.bits j=if hbit q.mask j=true then hbit q.bits j else hbit p.bits j
theorem z6e {a:Bool}:((a.toNat:Int)=0)↔a=false:=by cases a<;>decide
structure AndI (p q:Pat) (i:Nat) (x y:Ar 10):Prop where
  rx:zaz x=true
  ry:zaz y=true
  hx:∀ j,j<160->hbit x j=(hbit p.mask j || (decide (j<i) && hbit q.mask j))
  hy:∀ j,j<160->hbit y j=if (decide (j<i) && hbit q.mask j)=true then hbit q.bits j else hbit p.bits j
  ok:∀ j,j<i->hbit p.mask j=true->hbit q.mask j=true->hbit p.bits j=hbit q.bits j
theorem ypj {k:Nat} {p q:Pat} (hp:zas p=true) (hq:zas q=true) (hk:160<k):∃ r,zqg k p q=some r/\((zk5 p q=false/\r.2=false)\/(zk5 p q=true/\r.2=true/\Meet p q r.1)):=by
  obtain ⟨pm,pb,pw⟩:=zb2.1 hp;obtain ⟨qm,qb,qw⟩:=zb2.1 hq
  have key:∀ m i x y,i<=160->160 - i<m->AndI p q i x y->∃ o,zgh k q m (i:Int) x y=some o/\((∃ r,o=.inl r/\r.2=false/\zk5 p q=false)\/∃ x y,o=.inr (x,y)/\AndI p q 160 x y):=by
    intro m
    induction m with
    |zero=>intro i x y h1 h2;omega
    |succ m ih =>
      intro i x y h1 h2 hI;rw [zgh];by_cases c:i<160
      . rw [zAc (yr0 c),zmv qm c (by omega),dw,zc7 i (by omega)];by_cases c1:hbit q.mask i=false
        . rw [zAc (z6e.2 c1)]
          have hd:∀ j,(decide (j<i+1) && hbit q.mask j)=(decide (j<i) && hbit q.mask j):=fun j=>by
            by_cases e:j=i
            . subst e;rw [c1];simp
            . rw [show decide (j<i+1)=decide (j<i) from decide_eq_decide.2 (by omega)]
          refine ih (i+1) x y (by omega) (by omega) ⟨hI.rx,hI.ry,fun j hj=>by rw [hd,hI.hx j hj],fun j hj=>by rw [hd,hI.hy j hj],fun j hj h3 h4=>?_⟩;by_cases e:j=i
          . rw [e,c1] at h4;cases h4
          . exact hI.ok j (by omega) h3 h4
        . have c1':hbit q.mask i=true:=by simpa using c1
          have xi:hbit x i=hbit p.mask i:=by rw [hI.hx i c];simp
          have yi:hbit y i=hbit p.bits i:=by rw [hI.hy i c,zAd (by simp)]
          rw [zAd (fun h=>c1 (z6e.1 h)),zmv hI.rx c (by omega),dw,zmv hI.ry c (by omega),dw,zmv qb c (by omega),dw,xi,yi];by_cases c2:hbit p.mask i=true/\hbit p.bits i≠hbit q.bits i
          . rw [zAc (zrq.2 c2.1),dw,zAc (zAa (ybv.2 c2.2))];refine ⟨_,rfl,.inl ⟨_,rfl,rfl,?_⟩⟩
            cases ho:zk5 p q with
            |false=>rfl
            |true=>exact absurd (znn.1 ho i c c2.1 c1') c2.2
          . have e2:(if ((hbit p.mask i).toNat:Int)=1 then some (decide (((hbit p.bits i).toNat:Int)≠((hbit q.bits i).toNat:Int))) else some false)=some false:=by
              by_cases c3:hbit p.mask i=true
              . have:hbit p.bits i=hbit q.bits i:=l6 fun h=>c2 ⟨c3,h⟩;rw [zAc (zrq.2 c3),zAb (fun h=>(ybv.1 h) this)]
              . rw [zAd (fun h=>c3 (zrq.1 h))]
            rw [e2,dw,zAd (by simp)];obtain ⟨x2,s1,s2,s3⟩:=z1h (k:=k) (b:=true) hI.rx c (by omega);obtain ⟨y2,t1,t2,t3⟩:=z1h (k:=k) (b:=hbit q.bits i) hI.ry c (by omega);have s1':zkk k x (i:Int) 1=some x2:=s1;rw [s1',dw,dw,t1,dw];refine ih (i+1) x2 y2 (by omega) (by omega) ⟨s2,t2,fun j hj=>?_,fun j hj=>?_,fun j hj h3 h4=>?_⟩
            . rw [s3 j hj];by_cases e:j=i
              . subst e;rw [zAc rfl,c1'];simp
              . rw [zAd e,hI.hx j hj,show decide (j<i+1)=decide (j<i) from decide_eq_decide.2 (by omega)]
            . rw [t3 j hj];by_cases e:j=i
              . subst e;rw [zAc rfl,c1',zAc (by simp)]
              . rw [zAd e,hI.hy j hj,show decide (j<i+1)=decide (j<i) from decide_eq_decide.2 (by omega)]
            . by_cases e:j=i
              . subst e;exact l6 fun h=>c2 ⟨h3,h⟩
              . exact hI.ok j (by omega) h3 h4
      . obtain rfl:i=160:=by omega
        rw [zAd (by decide)];exact ⟨_,rfl,.inr ⟨x,y,rfl,hI⟩⟩
  obtain ⟨o,e,h⟩:=key k 0 p.mask p.bits (by omega) (by omega) ⟨pm,pb,fun j hj=>by simp,fun j hj=>by simp,fun j hj=>by omega⟩;unfold zqg;rw [show ((0:Nat):Int)=0 from rfl] at e;rw [e,dw];rcases h with ⟨r,rfl,h1,h2⟩|⟨x,y,rfl,hI⟩
  . exact ⟨r,rfl,.inl ⟨h2,h1⟩⟩
  . refine ⟨_,rfl,.inr ⟨znn.2 fun i hi=>hI.ok i hi,rfl,hI.rx,hI.ry,fun j hj=>?_,fun j hj=>?_⟩⟩
    . rw [hI.hx j hj];simp [hj]
    . rw [hI.hy j hj];simp [hj]
theorem zvo {k:Nat} {p q:Pat} (hp:zas p=true) (hq:zas q=true) (hk:160<k):zfj k p q=some (zk5 p q):=by
  obtain ⟨r,e,h⟩:=ypj hp hq hk;unfold zfj;rw [e,dw];rcases h with ⟨h1,h2⟩|⟨h1,h2,_⟩<;>rw [h1,h2]
def spP (s:Spot):Pat:=⟨((zA 10).set 0 65535).set 9 65535,((zA 10).set 0 s.port).set 9 s.tag⟩
theorem z1f (s:Spot):(spP s).mask.l=[65535,0,0,0,0,0,0,0,0,65535]:=rfl
theorem z83 (s:Spot):(spP s).bits.l=[s.port,0,0,0,0,0,0,0,0,s.tag]:=rfl
theorem ysy {x:Int} (h:zcz x=true):iAnd .i64 x 65535=x:=by
  obtain ⟨n,rfl,hn⟩:=zoh h;rw [show (65535:Int)=((65535:Nat):Int) from rfl,zud (by omega) (by omega)];congr 1;exact Nat.and_two_pow_sub_one_of_lt_two_pow (n:=16) hn
theorem zln {s:Spot} (hp:zcz s.port=true) (ht:zcz s.tag=true):zas (spP s)=true:=by
  unfold zas
  have h1:zaz (spP s).mask=true:=by unfold zaz;rw [z1f];rfl
  have h2:zaz (spP s).bits=true:=by
    unfold zaz;rw [z83];simp only [List.all_cons,List.all_nil,hp,ht];rfl
  have h3:zrw (spP s)=true:=by
    unfold zrw;rw [z1f,z83,fe];intro i hi;have hi:=ks.1 hi;have z:iAnd .i64 0 0=0:=rfl;rw [decide_eq_true_eq];rcases i with _|_|_|_|_|_|_|_|_|_|i
    . exact ysy hp
    . exact z
    . exact z
    . exact z
    . exact z
    . exact z
    . exact z
    . exact z
    . exact z
    . exact ysy ht
    . omega
  rw [h1,h2,h3];rfl
theorem z82 (s:Spot) {i:Nat} (hi:i<160):hbit (spP s).mask i=decide (i / 16=0\/i / 16=9):=by
  unfold hbit hw;have hj:i / 16<10:=by omega
  have hb:15 - i % 16<16:=by omega
  rw [z1f];generalize 15 - i % 16=t at hb;generalize i / 16=j at hj
  have e1:((65535:Int)).toNat.testBit t=true:=by
    show (65535:Nat).testBit t=true;rw [show (65535:Nat)=2 ^ 16 - 1 from rfl,jp];exact zAa hb
  have e0:((0:Int)).toNat.testBit t=false:=Nat.zero_testBit t;rcases j with _|_|_|_|_|_|_|_|_|_|j
  . exact e1
  . exact e0
  . exact e0
  . exact e0
  . exact e0
  . exact e0
  . exact e0
  . exact e0
  . exact e0
  . exact e1
  . omega
theorem zwu {h:Ar 10} {j t:Nat} (hj:j<10) (ht:t<16) (hf:gx h.l (j:Int)=65535):hbit h (16*j+(15 - t))=true:=by
  rw [zj7 h hj ht];unfold hw;rw [hf];show (65535:Nat).testBit t=true;rw [show (65535:Nat)=2 ^ 16 - 1 from rfl,jp];exact zAa ht
theorem zy7 {r:Rule} {s:Spot} (hr:zas r.mat=true) (hp:zcz s.port=true) (ht:zcz s.tag=true) (he:exB r=true):zk5 r.mat (spP s)=decide (zee r=s):=by
  obtain ⟨pm,pb,_⟩:=zb2.1 hr;obtain ⟨sm,sb,_⟩:=zb2.1 (zln hp ht);unfold exB at he;simp only [dz,decide_eq_true_eq] at he
  have word:∀ j:Nat,(j=0\/j=9)->(∀ i,i<160->hbit r.mat.mask i=true->hbit (spP s).mask i=true->hbit r.mat.bits i=hbit (spP s).bits i)->gx r.mat.bits.l (j:Int)=gx (spP s).bits.l (j:Int):=by
    intro j hj0 h;have hj:j<10:=by omega
    obtain ⟨a1,a2⟩:=zd6 pb hj;obtain ⟨b1,b2⟩:=zd6 sb hj;rw [a1,b1];congr 1;refine zt0 a2 b2 fun t ht'=>?_;have hi:=z6h j t hj ht';have:=h (16*j+(15 - t)) hi.2.2 (zwu hj ht' (by rcases hj0 with rfl|rfl;exact he.1;exact he.2)) (by rw [z82 s hi.2.2,hi.1];exact zAa hj0);rw [zj7 _ hj ht',zj7 _ hj ht'] at this;exact this
  by_cases hs:zee r=s
  . rw [zAa hs,znn];intro i hi _ h2;rw [z82 s hi,decide_eq_true_eq] at h2;unfold hbit
    have e:hw r.mat.bits (i / 16)=hw (spP s).bits (i / 16):=by
      unfold hw;rw [<- hs];rcases h2 with h2|h2<;>rw [h2]<;>rfl
    rw [e]
  . rw [zAb hs]
    cases ho:zk5 r.mat (spP s) with
    |false=>rfl
    |true =>
      have h:=znn.1 ho;have h0:=word 0 (.inl rfl) h;have h9:=word 9 (.inr rfl) h;refine absurd ?_ hs;unfold zee;obtain ⟨p,t⟩:=s;have e0:gx r.mat.bits.l 0=p:=h0;have e9:gx r.mat.bits.l 9=t:=h9;rw [e0,e9]
def qs (s:Spot) (r:Rule):Bool:=exB r && decide (zee r=s)
def idxF (q:Rule->Bool):List Rule->Int->List Int
  |[],_=>[]
  |r :: l,i=>if q r=true then i :: idxF q l (i+1) else idxF q l (i+1)
theorem z4x (q:Rule->Bool) (r:Rule):∀ (l:List Rule) (i:Int),idxF q (l++[r]) i=idxF q l i++(if q r=true then [i+(l.length:Int)] else [])
  |[],i=>by simp [idxF]
  |x :: l,i=>by
    rw [fk,idxF,idxF,z4x q r l,et];have e:i+1+(l.length:Int)=i+((l.length+1:Nat):Int):=by omega
    rw [e];split<;>rfl
theorem z17 (q:Rule->Bool):∀ (l:List Rule) (i:Int),(idxF q l i).length<=l.length
  |[],i=>ee _
  |x :: l,i=>by
    rw [idxF];have:=z17 q l (i+1);split<;>simp only [et]<;>omega
theorem z7v (q:Rule->Bool):∀ (l:List Rule) (i:Int) (x:Int),x∈idxF q l i->i<=x
  |[],i,x,h=>by simp [idxF] at h
  |y :: l,i,x,h=>by
    rw [idxF] at h;split at h
    . rcases ij.1 h with rfl|h
      . exact Int.le_refl _
      . have:=z7v q l _ x h;omega
    . have:=z7v q l _ x h;omega
def zks:List Rule->List Spot->List Spot
  |[],K=>K
  |r :: l,K=>zks l (if exB r=true/\zee r ∉ K then K++[zee r] else K)
def zrx (a:List (Spot×List Int)) (s:Spot):List Int:=match a.find? (fun p=>decide (p.1=s)) with|some p=>p.2|none=>[]
theorem yb1 (s0:Spot) (i:Int) (s:Spot):∀ a:List (Spot×List Int),zrx (addS s0 i a) s=if s=s0 then zrx a s++[i] else zrx a s
  |[]=>by
    unfold addS zrx;by_cases h:s=s0
    . subst h;simp
    . rw [zAd h];simp [Ne.symm h]
  |(s',l) :: r=>by
    unfold addS;by_cases h:s0=s'
    . rw [zAc h];subst h;unfold zrx;by_cases h2:s=s0
      . subst h2;simp
      . simp [Ne.symm h2,h2]
    . rw [zAd h];have ih:=yb1 s0 i s r;unfold zrx at ih ⊢;by_cases h2:s'=s
      . subst h2;rw [zAd (fun q=>h q.symm)];simp
      . simp only [List.find?_cons,zAb h2];exact ih
theorem zyh:∀ {a:List (Spot×List Int)},(a.map (·.1)).Nodup->a=(a.map (·.1)).map fun s=>(s,zrx a s)
  |[],_=>rfl
  |(s,l) :: r,h=>by
    rw [gj,List.nodup_cons] at h;rw [gj,gj];have e1:zrx ((s,l) :: r) s=l:=by unfold zrx;simp
    rw [e1];congr 1;have ih:=zyh h.2
    conv=>lhs;rw [ih]
    apply ph;intro x hx;have hne:s≠x:=fun q=>h.1 (by rw [q];exact hx);have:zrx ((s,l) :: r) x=zrx r x:=by unfold zrx;simp [hne]
    rw [this]
theorem z8e:∀ (l:List Rule) (i:Int) (a:List (Spot×List Int)),(a.map (·.1)).Nodup->coll l i a=(zks l (a.map (·.1))).map fun s=>(s,zrx a s++idxF (qs s) l i)
  |[],i,a,h=>by
    rw [coll,zks];simp only [idxF,fo];exact zyh h
  |r :: l,i,a,h=>by
    rw [coll,zks]
    cases he:exB r with
    |false =>
      rw [zAd (by simp),zAd (by simp),z8e l (i+1) a h];apply ph;intro s _;rw [idxF,zAd (by unfold qs;rw [he];simp)]
    |true =>
      rw [zAc rfl];have hk:=zxn (zee r) i a
      have hn:((addS (zee r) i a).map (·.1)).Nodup:=by
        rw [hk];split
        . exact h
        . rename_i hn;rw [List.nodup_append];exact ⟨h,by simp,fun x hx y hy hxy=>hn (by simp at hy;rw [<- hy,<- hxy];exact hx)⟩
      rw [z8e l (i+1) _ hn,hk]
      have e:(if zee r∈a.map (·.1) then a.map (·.1) else a.map (·.1)++[zee r])=(if true=true/\zee r ∉ a.map (·.1) then a.map (·.1)++[zee r] else a.map (·.1)):=by
        by_cases q:zee r∈a.map (·.1)
        . rw [zAc q,zAd (fun h=>h.2 q)]
        . rw [zAd q,zAc ⟨rfl,q⟩]
      rw [e];apply ph;intro s _;rw [yb1,idxF];by_cases q:s=zee r
      . rw [zAc q,zAc (by unfold qs;rw [he,zAa q.symm];rfl),ew];rfl
      . rw [zAd q,zAd (by unfold qs;rw [zAb (fun h=>q h.symm)];simp)]
def zq1 (t:List Rule) (s:Spot):Bool:=t.any fun r=>!exB r && zk5 r.mat (spP s)
def z2u (t:List Rule) (s:Spot):Option zfe:=if zq1 t s=true then none else some ⟨s.port,s.tag,idxF (qs s) t 0⟩
def zxg (t:List Rule):List zfe:=(zks t []).filterMap (z2u t)
theorem zon:∀ (l:List Rule) (K:List Spot) (s:Spot),s∈zks l K↔s∈K\/∃ r,r∈l/\exB r=true/\zee r=s
  |[],K,s=>by simp [zks]
  |r :: l,K,s=>by
    rw [zks,zon l];by_cases h:exB r=true/\zee r ∉ K
    . rw [zAc h];constructor
      . rintro (q|⟨x,hx,q⟩)
        . rcases List.mem_append.1 q with q|q
          . exact .inl q
          . simp at q;exact .inr ⟨r,.head _,h.1,q.symm⟩
        . exact .inr ⟨x,.tail _ hx,q⟩
      . rintro (q|⟨x,hx,q⟩)
        . exact .inl (List.mem_append_left _ q)
        . rcases ij.1 hx with rfl|hx
          . exact .inl (List.mem_append_right _ (by simp [q.2]))
          . exact .inr ⟨x,hx,q⟩
    . rw [zAd h];constructor
      . rintro (q|⟨x,hx,q⟩)
        . exact .inl q
        . exact .inr ⟨x,.tail _ hx,q⟩
      . rintro (q|⟨x,hx,q⟩)
        . exact .inl q
        . rcases ij.1 hx with rfl|hx
          . refine .inl ?_;by_cases hm:zee x∈K
            . rw [<- q.2];exact hm
            . exact absurd ⟨q.1,hm⟩ h
          . exact .inr ⟨x,hx,q⟩
theorem zp0 {k:Nat} (l:List Rule) (f:Rule->Option Bool) (q:Rule->Bool) (hf:∀ x,x∈l->f x=some (q x)) (hl:l.length<big) (hk:l.length<k):zda k l f=some (idxB q l):=by
  unfold zda;exact zl0 l q hl (fun m j h=>by rw [zbi,zAc (zae h),zAc ⟨by omega,zae h⟩,zbz h,hf _ (fi h),dw]) (fun m=>by rw [zbi,zAd (by omega)]) hk
theorem zm7 {k:Nat} (l:List Rule) (f:Rule->Option Bool) (q:Rule->Bool) (hf:∀ x,x∈l->f x=some (q x)) (hl:l.length<big) (hk:l.length<k):zbu k l f=some (l.any q):=by
  unfold zbu;rw [zp0 l f q hf hl hk,dw,zt9]
theorem yce {r:Rule} (h:zas r.mat=true):zcz (zee r).port=true/\zcz (zee r).tag=true:=by
  obtain ⟨_,pb,_⟩:=zb2.1 h;unfold zaz at pb;rw [fe] at pb
  have key:∀ j:Nat,j<10->zcz (gx r.mat.bits.l (j:Int))=true:=fun j hj=>by
    rw [gxA _ hj];exact pb _ (fi _)
  exact ⟨key 0 (by omega),key 9 (by omega)⟩
theorem z99 {k:Nat} {r:Rule} {s:Spot} (hr:zas r.mat=true) (hp:zcz s.port=true) (ht:zcz s.tag=true) (hk:big<=k):ze7 k s r=some (zk5 r.mat (spP s)):=by
  unfold ze7 zbm;rw [dw];show rf (zfv k r.mat (spP s)) _=_;rw [z6g hr (zln hp ht) (by simp only [big] at hk;omega),dw]
theorem ykk {k:Nat} {t:List Rule} {s:Spot} (hr:∀ r,r∈t->zas r.mat=true) (hl:t.length<big) (hp:zcz s.port=true) (ht:zcz s.tag=true) (hk:big<=k):zbu k t (fun x=>zf7 k x s)=some (zq1 t s):=by
  refine zm7 t _ _ (fun r hm=>?_) hl (fb hl hk);unfold zf7;rw [ya3,dw]
  cases he:exB r with
  |true=>rfl
  |false =>
    rw [zAd (by simp),z99 (hr r hm) hp ht hk,dw];rfl
theorem ycu {t:List Rule} (hr:∀ r,r∈t->zas r.mat=true) {s:Spot} (hs:s∈zks t []):zcz s.port=true/\zcz s.tag=true:=by
  rcases (zon t [] s).1 hs with h|⟨r,hm,_,rfl⟩
  . simp at h
  . exact yce (hr r hm)
theorem z73 {k:Nat} {t:List Rule} (hr:∀ r,r∈t->zas r.mat=true) (hl:t.length<1000000) (hk:big<=k):ziv k t=some (zxg t):=by
  have hlb:t.length<big:=by simp only [big];omega
  unfold ziv zxg;rw [zAc hl,z8e t 0 [] List.nodup_nil];have hK:=fun s (h:s∈zks t [])=>ycu hr h;rw [List.map_nil];generalize zks t []=K at hK
  induction K with
  |nil=>rfl
  |cons s K ih =>
    obtain ⟨h1,h2⟩:=hK s (.head _);rw [gj,yf5,ykk hr hlb h1 h2 hk,dw,ih fun x hx=>hK x (.tail _ hx),dw,List.filterMap_cons];unfold z2u
    cases zq1 t s with
    |true=>rfl
    |false=>rfl
theorem yfk (k:Nat) (r:Rule):zlc k r=some (exB r):=by
  unfold zlc exB;rw [zAc (by omega)];by_cases h:gx r.mat.mask.l 0=65535
  . rw [zAc h,zAc (by omega),zAa h,Bool.true_and]
  . rw [zAd h,zAb h,m4]
theorem zvn (k:Nat) (p t:Int):zmg k p t=some (spP ⟨p,t⟩):=by
  unfold zmg;rw [zAc (by omega),zAc (by omega)];rfl
theorem yfn {k:Nat} {t:List Rule} {s:Spot} (hr:∀ r,r∈t->zas r.mat=true) (hl:t.length<1000000) (hp:zcz s.port=true) (ht:zcz s.tag=true) (hk:big<=k):zjm k t s.port s.tag=some (if zq1 t s=true then [] else idxF (qs s) t 0):=by
  have key:∀ (m j:Nat),j<=t.length->t.length - j<m->zdy k t s.port s.tag m (j:Int) (idxF (qs s) (t.take j) 0) (idxF (qs s) (t.take j) 0).length=some (if ((t.drop j).any fun r=>!exB r && zk5 r.mat (spP s))=true then .inl [] else .inr (idxF (qs s) t 0,(idxF (qs s) t 0).length)):=by
    intro m
    induction m with
    |zero=>intro j h1 h2;omega
    |succ m ih =>
      intro j h1 h2;rw [zdy];rcases jl j t.length with h|h
      . have hm:t[j]∈t:=fi h;have hx:=hr _ hm;rw [zAc (zae h),zAc ⟨by omega,zae h⟩,zbz h,zvn,dw];show rf (zfj k t[j].mat (spP s)) _=_;rw [zvo hx (zln hp ht) (by simp only [big] at hk;omega),dw,yfk,dw,jd h,List.any_cons,zc7 j (by omega)];have ih2:=ih (j+1) (by omega) (by omega);rw [<- List.take_append_getElem h,z4x,gh,Nat.min_eq_left h1] at ih2;have hle:=z17 (qs s) (t.take j) 0;rw [gh] at hle
        cases ho:zk5 t[j].mat (spP s) with
        |false =>
          have hq:qs s t[j]=false:=by
            unfold qs
            cases he:exB t[j] with
            |false=>rfl
            |true=>rw [<- zy7 hx hp ht he,ho];rfl
          rw [hq] at ih2;simp only [Bool.false_eq_true,if_false,fo] at ih2;rw [zAd (by simp),Bool.and_false,g0];exact ih2
        |true =>
          rw [zAc rfl,Bool.and_true]
          cases he:exB t[j] with
          |false=>rfl
          |true =>
            have hq:qs s t[j]=true:=by
              unfold qs;rw [<- zy7 hx hp ht he,ho,he];rfl
            rw [hq] at ih2;simp only [if_true,Int.zero_add,ep,iw] at ih2;rw [zAc rfl,zAc (by omega)];exact ih2
      . obtain rfl:j=t.length:=by omega
        rw [zAd (by omega),List.drop_length,List.take_length];rfl
  have:=key k 0 (ft _) (by simp only [big] at hk;omega);rw [List.take_zero,fl] at this;unfold zjm;have e:(zdy k t s.port s.tag k 0 [] 0:Option ((List Int) ⊕ (List Int×Nat)))=_:=this;rw [e,dw];show il _ _ (if zq1 t s=true then _ else _)=_
  cases zq1 t s with
  |true=>rfl
  |false =>
    show (if (idxF (qs s) t 0).length=(idxF (qs s) t 0).length then some (idxF (qs s) t 0) else none)=_;rw [zAc rfl];rfl
theorem z16 {q:Rule->Bool}:∀ {l:List Rule} {i:Int},idxF q l i=[]↔∀ r,r∈l->q r=false
  |[],i=>by simp [idxF]
  |x :: l,i=>by
    rw [idxF]
    cases hq:q x with
    |true =>
      rw [zAc rfl];constructor
      . intro h;cases h
      . intro h;have:=h x (.head _);rw [hq] at this;cases this
    |false =>
      rw [zAd (by simp),z16];constructor
      . intro h r hr;rcases ij.1 hr with rfl|hr
        . exact hq
        . exact h r hr
      . intro h r hr;exact h r (.tail _ hr)
theorem ycv:∀ (l:List Rule) (K:List Spot),(zks l K).length<=K.length+l.length:=by
  intro l
  induction l with
  |nil=>intro K;exact ee _
  |cons x l ih =>
    intro K;rw [zks,et];by_cases c:exB x=true/\zee x ∉ K
    . have:=ih (K++[zee x]);rw [zAc c];rw [ep,iw] at this;omega
    . have:=ih K;rw [zAd c];omega
set_option maxHeartbeats 4000000 in
theorem zxx (ax:Axs) (hx:NoAx ax) (l:List Alt) (hl:l.length*169<=1000000000):Call Tryz.prog (EE ax) [] 63 [lAlt l] ts0 (.arr 0 21 0 l.length l.length (l.length*21)) (stL [.cells false (l.length*21) (vecC eAlt l)]):=by
  refine rn (fn:=Tryz.f63) 8 (hx.no _ (by decide)) (fn63 ax) rfl Tryz.ntmps63 (by decide) (by simp) (ft _) (by rfl) ?_;simp only [zke,zmt,d8]
  cases l with
  |nil =>
    refine TW.lst0 0 21 (by omega) (by rfl) ?_ ?_
    . rw [zk9];apply dv;apply i7 (zbt ax) [] []
      . kernel_rfl
      . simp (disch:=first|omega|decide | (simp only [lzA,d8,fm];done)|fail) only [b0,b1,b2,b3,b4,b5,b6,b7,b8,d8,d9,fw,reduceIte,reduceCtorEq,eqA,eqB,eqsA,eqsB,zuu ax,zw4,zxu,tNil,tBin,zan,zac,apA,tSrc,zal,za1,zbk,zdk,zbg,el,ff,zb4,za7,zb3,zb6,za8,zb5,ip,ig,g0,iq];with_reducible rfl
      . exact trivial
      simp only [onT,onTB];repeat apply dv
      apply i7 (zbt ax) [] []
      . kernel_rfl
      . simp (disch:=first|omega|decide | (simp only [lzA,d8,fm];done)|fail) only [b0,b1,b2,b3,b4,b5,b6,b7,b8,d8,d9,fw,reduceIte,reduceCtorEq,eqA,eqB,eqsA,eqsB,zuu ax,zw4,zxu,tNil,tBin,zan,zac,apA,tSrc,zal,za1,zbk,zdk,zbg,el,ff,zb4,za7,zb3,zb6,za8,zb5,ip,ig,g0,iq];with_reducible rfl
      . exact trivial
      simp only [onT,onTB];refine pt (b:=true) ?_ ?_
      . simp only [zkc,zfz,zhl,zbd,d9,reduceIte,ef]
      simp only [cond_true,cond_false];apply dv;apply i7 (zbt ax) [] []
      . kernel_rfl
      . simp (disch:=first|omega|decide | (simp only [lzA,d8,fm];done)|fail) only [b0,b1,b2,b3,b4,b5,b6,b7,b8,d8,d9,fw,reduceIte,reduceCtorEq,eqA,eqB,eqsA,eqsB,zuu ax,zw4,zxu,tNil,tBin,zan,zac,apA,tSrc,zal,za1,zbk,zdk,zbg,el,ff,zb4,za7,zb3,zb6,za8,zb5,ip,ig,g0,iq];with_reducible rfl
      . exact trivial
      simp only [onT,onTB];refine TW.vec 2 21 (by first|rfl | (simp only [zbd,d9,reduceIte];done)) ?_;rw [zu0];simp only [scB,d8];apply qn;exact ⟨.inr rfl,_,rfl,_,pa _ _,pu (by simp only [zbw,idsA,idsB,idsC,ef])⟩
    . rw [zk9];apply dv;apply i7 (zbt ax) [] []
      . kernel_rfl
      . simp (disch:=first|omega|decide | (simp only [lzA,d8,fm];done)|fail) only [b0,b1,b2,b3,b4,b5,b6,b7,b8,d8,d9,fw,reduceIte,reduceCtorEq,eqA,eqB,eqsA,eqsB,zuu ax,zw4,zxu,tNil,tBin,zan,zac,apA,tSrc,zal,za1,zbk,zdk,zbg,el,ff,zb4,za7,zb3,zb6,za8,zb5,ip,ig,g0,iq];with_reducible rfl
      . exact trivial
      simp only [onT,onTB];repeat apply dv
      apply i7 (zbt ax) [] []
      . kernel_rfl
      . simp (disch:=first|omega|decide | (simp only [lzA,d8,fm];done)|fail) only [b0,b1,b2,b3,b4,b5,b6,b7,b8,d8,d9,fw,reduceIte,reduceCtorEq,eqA,eqB,eqsA,eqsB,zuu ax,zw4,zxu,tNil,tBin,zan,zac,apA,tSrc,zal,za1,zbk,zdk,zbg,el,ff,zb4,za7,zb3,zb6,za8,zb5,ip,ig,g0,iq];with_reducible rfl
      . exact trivial
      simp only [onT,onTB];refine pt (b:=false) ?_ ?_
      . simp only [zkc,zfz,zhl,zbd,d9,reduceIte,m4,ef]
      simp only [cond_true,cond_false];apply qy;simp only [onT,onTB];apply dv;apply i7 (zbt ax) [5] []
      . kernel_rfl
      . simp (disch:=first|omega|decide | (simp only [lzA,d8,fm];done)|fail) only [b0,b1,b2,b3,b4,b5,b6,b7,b8,d8,d9,fw,reduceIte,reduceCtorEq,eqA,eqB,eqsA,eqsB,zuu ax,zw4,zxu,tNil,tBin,zan,zac,apA,tSrc,zal,za1,zbk,zdk,zbg,el,ff,zb4,za7,zb3,zb6,za8,zb5,ip,ig,g0,iq];with_reducible rfl
      . exact trivial
      simp only [onT,onTB];refine TW.unz 0 (by rfl) ?_;rw [zgb _ _ _ (by simp only [lzA]<;>omega)];simp only [scA];apply qn;exact ⟨.inr rfl,_,rfl,_,pa _ _,pu (by simp only [zbw,idsA,idsB,idsC,ef])⟩
  |cons x r =>
    have hn:∀ S:TS,tNil S (.slice 123) (rm 21 ((x :: r).map eAlt))=some false:=fun _=>rfl;have hn0:∀ S:TS,tNil S (.slice 123) .nils=some true:=fun _=>rfl;have hb0:Nat.ble (x :: r).length 0=false:=rfl;have hb1:Nat.blt 0 (x :: r).length=true:=rfl;generalize x :: r=L at hl hn hb0 hb1 ⊢;rw [zk9];apply dv;apply i7 (zbt ax) [] []
    . kernel_rfl
    . simp (disch:=first|omega|decide | (simp only [lzA,d8,fm];done)|fail) only [b0,b1,b2,b3,b4,b5,b6,b7,b8,d8,d9,fw,reduceIte,reduceCtorEq,eqA,eqB,eqsA,eqsB,zuu ax,zw4,zxu,tBin,zan,zac,apA,tSrc,zal,za1,zbk,zdk,zbg,el,ff,zb4,za7,zb3,zb6,za8,zb5,ip,ig,g0,iq,zkt eAlt L,zhv (f:=eAlt) (e:=21) (fun x=>zca x) L,zje (f:=eAlt) (fun x=>z1w x) L,hn,hn0,hb0,hb1,cond_true,cond_false];with_reducible rfl
    . exact trivial
    simp only [onT,onTB];repeat apply dv
    apply i7 (zbt ax) [] []
    . kernel_rfl
    . simp (disch:=first|omega|decide | (simp only [lzA,d8,fm];done)|fail) only [b0,b1,b2,b3,b4,b5,b6,b7,b8,d8,d9,fw,reduceIte,reduceCtorEq,eqA,eqB,eqsA,eqsB,zuu ax,zw4,zxu,tBin,zan,zac,apA,tSrc,zal,za1,zbk,zdk,zbg,el,ff,zb4,za7,zb3,zb6,za8,zb5,ip,ig,g0,iq,zkt eAlt L,zhv (f:=eAlt) (e:=21) (fun x=>zca x) L,zje (f:=eAlt) (fun x=>z1w x) L,hn,hn0,hb0,hb1,cond_true,cond_false];with_reducible rfl
    . exact trivial
    simp only [onT,onTB];refine pt (b:=false) ?_ ?_
    . simp only [zkc,zfz,zhl,zbd,d9,reduceIte,m4,ef]
    simp only [cond_true,cond_false];apply qy;simp only [onT,onTB];apply dv;apply i7 (zbt ax) [5] []
    . kernel_rfl
    . simp (disch:=first|omega|decide | (simp only [lzA,d8,fm];done)|fail) only [b0,b1,b2,b3,b4,b5,b6,b7,b8,d8,d9,fw,reduceIte,reduceCtorEq,eqA,eqB,eqsA,eqsB,zuu ax,zw4,zxu,tBin,zan,zac,apA,tSrc,zal,za1,zbk,zdk,zbg,el,ff,zb4,za7,zb3,zb6,za8,zb5,ip,ig,g0,iq,zkt eAlt L,zhv (f:=eAlt) (e:=21) (fun x=>zca x) L,zje (f:=eAlt) (fun x=>z1w x) L,hn,hn0,hb0,hb1,cond_true,cond_false];with_reducible rfl
    . exact trivial
    simp only [onT,onTB];apply qn;exact ⟨.inr rfl,_,rfl,_,pa _ _,pu (by simp only [zbw,idsA,idsB,idsC,ef])⟩
set_option maxHeartbeats 4000000 in
theorem zxy (ax:Axs) (hx:NoAx ax) (l:List Rule) (hl:l.length*201<=1000000000):Call Tryz.prog (EE ax) [] 65 [zag l] ts0 (.arr 0 23 0 l.length l.length (l.length*23)) (stL [.cells false (l.length*23) (vecC zai l)]):=by
  refine rn (fn:=Tryz.f65) 8 (hx.no _ (by decide)) (fn65 ax) rfl Tryz.ntmps65 (by decide) (by simp) (ft _) (by rfl) ?_;simp only [zke,zmt,d8]
  cases l with
  |nil =>
    refine TW.lst0 0 23 (by omega) (by rfl) ?_ ?_
    . rw [zk9];apply dv;apply i7 (zbt ax) [] []
      . kernel_rfl
      . simp (disch:=first|omega|decide | (simp only [lzA,d8,fm];done)|fail) only [b0,b1,b2,b3,b4,b5,b6,b7,b8,d8,d9,fw,reduceIte,reduceCtorEq,eqA,eqB,eqsA,eqsB,ti41 ax,el41,sr41,tNil,tBin,zan,zac,apA,tSrc,zal,za1,zbk,zdk,zbg,el,ff,zb4,za7,zb3,zb6,za8,zb5,ip,ig,g0,iq];with_reducible rfl
      . exact trivial
      simp only [onT,onTB];repeat apply dv
      apply i7 (zbt ax) [] []
      . kernel_rfl
      . simp (disch:=first|omega|decide | (simp only [lzA,d8,fm];done)|fail) only [b0,b1,b2,b3,b4,b5,b6,b7,b8,d8,d9,fw,reduceIte,reduceCtorEq,eqA,eqB,eqsA,eqsB,ti41 ax,el41,sr41,tNil,tBin,zan,zac,apA,tSrc,zal,za1,zbk,zdk,zbg,el,ff,zb4,za7,zb3,zb6,za8,zb5,ip,ig,g0,iq];with_reducible rfl
      . exact trivial
      simp only [onT,onTB];refine pt (b:=true) ?_ ?_
      . simp only [zkc,zfz,zhl,zbd,d9,reduceIte,ef]
      simp only [cond_true,cond_false];apply dv;apply i7 (zbt ax) [] []
      . kernel_rfl
      . simp (disch:=first|omega|decide | (simp only [lzA,d8,fm];done)|fail) only [b0,b1,b2,b3,b4,b5,b6,b7,b8,d8,d9,fw,reduceIte,reduceCtorEq,eqA,eqB,eqsA,eqsB,ti41 ax,el41,sr41,tNil,tBin,zan,zac,apA,tSrc,zal,za1,zbk,zdk,zbg,el,ff,zb4,za7,zb3,zb6,za8,zb5,ip,ig,g0,iq];with_reducible rfl
      . exact trivial
      simp only [onT,onTB];refine TW.vec 2 23 (by first|rfl | (simp only [zbd,d9,reduceIte];done)) ?_;rw [zu0];simp only [scB,d8];apply qn;exact ⟨.inr rfl,_,rfl,_,pa _ _,pu (by simp only [zbw,idsA,idsB,idsC,ef])⟩
    . rw [zk9];apply dv;apply i7 (zbt ax) [] []
      . kernel_rfl
      . simp (disch:=first|omega|decide | (simp only [lzA,d8,fm];done)|fail) only [b0,b1,b2,b3,b4,b5,b6,b7,b8,d8,d9,fw,reduceIte,reduceCtorEq,eqA,eqB,eqsA,eqsB,ti41 ax,el41,sr41,tNil,tBin,zan,zac,apA,tSrc,zal,za1,zbk,zdk,zbg,el,ff,zb4,za7,zb3,zb6,za8,zb5,ip,ig,g0,iq];with_reducible rfl
      . exact trivial
      simp only [onT,onTB];repeat apply dv
      apply i7 (zbt ax) [] []
      . kernel_rfl
      . simp (disch:=first|omega|decide | (simp only [lzA,d8,fm];done)|fail) only [b0,b1,b2,b3,b4,b5,b6,b7,b8,d8,d9,fw,reduceIte,reduceCtorEq,eqA,eqB,eqsA,eqsB,ti41 ax,el41,sr41,tNil,tBin,zan,zac,apA,tSrc,zal,za1,zbk,zdk,zbg,el,ff,zb4,za7,zb3,zb6,za8,zb5,ip,ig,g0,iq];with_reducible rfl
      . exact trivial
      simp only [onT,onTB];refine pt (b:=false) ?_ ?_
      . simp only [zkc,zfz,zhl,zbd,d9,reduceIte,m4,ef]
      simp only [cond_true,cond_false];apply qy;simp only [onT,onTB];apply dv;apply i7 (zbt ax) [5] []
      . kernel_rfl
      . simp (disch:=first|omega|decide | (simp only [lzA,d8,fm];done)|fail) only [b0,b1,b2,b3,b4,b5,b6,b7,b8,d8,d9,fw,reduceIte,reduceCtorEq,eqA,eqB,eqsA,eqsB,ti41 ax,el41,sr41,tNil,tBin,zan,zac,apA,tSrc,zal,za1,zbk,zdk,zbg,el,ff,zb4,za7,zb3,zb6,za8,zb5,ip,ig,g0,iq];with_reducible rfl
      . exact trivial
      simp only [onT,onTB];refine TW.unz 0 (by rfl) ?_;rw [zgb _ _ _ (by simp only [lzA]<;>omega)];simp only [scA];apply qn;exact ⟨.inr rfl,_,rfl,_,pa _ _,pu (by simp only [zbw,idsA,idsB,idsC,ef])⟩
  |cons x r =>
    have hn:∀ S:TS,tNil S (.slice 104) (rm 23 ((x :: r).map zai))=some false:=fun _=>rfl;have hn0:∀ S:TS,tNil S (.slice 104) .nils=some true:=fun _=>rfl;have hb0:Nat.ble (x :: r).length 0=false:=rfl;have hb1:Nat.blt 0 (x :: r).length=true:=rfl;generalize x :: r=L at hl hn hb0 hb1 ⊢;rw [zk9];apply dv;apply i7 (zbt ax) [] []
    . kernel_rfl
    . simp (disch:=first|omega|decide | (simp only [lzA,d8,fm];done)|fail) only [b0,b1,b2,b3,b4,b5,b6,b7,b8,d8,d9,fw,reduceIte,reduceCtorEq,eqA,eqB,eqsA,eqsB,ti41 ax,el41,sr41,tBin,zan,zac,apA,tSrc,zal,za1,zbk,zdk,zbg,el,ff,zb4,za7,zb3,zb6,za8,zb5,ip,ig,g0,iq,zkt zai L,zhv (f:=zai) (e:=23) (fun x=>zbc x) L,zje (f:=zai) (fun x=>znq x) L,hn,hn0,hb0,hb1,cond_true,cond_false];with_reducible rfl
    . exact trivial
    simp only [onT,onTB];repeat apply dv
    apply i7 (zbt ax) [] []
    . kernel_rfl
    . simp (disch:=first|omega|decide | (simp only [lzA,d8,fm];done)|fail) only [b0,b1,b2,b3,b4,b5,b6,b7,b8,d8,d9,fw,reduceIte,reduceCtorEq,eqA,eqB,eqsA,eqsB,ti41 ax,el41,sr41,tBin,zan,zac,apA,tSrc,zal,za1,zbk,zdk,zbg,el,ff,zb4,za7,zb3,zb6,za8,zb5,ip,ig,g0,iq,zkt zai L,zhv (f:=zai) (e:=23) (fun x=>zbc x) L,zje (f:=zai) (fun x=>znq x) L,hn,hn0,hb0,hb1,cond_true,cond_false];with_reducible rfl
    . exact trivial
    simp only [onT,onTB];refine pt (b:=false) ?_ ?_
    . simp only [zkc,zfz,zhl,zbd,d9,reduceIte,m4,ef]
    simp only [cond_true,cond_false];apply qy;simp only [onT,onTB];apply dv;apply i7 (zbt ax) [5] []
    . kernel_rfl
    . simp (disch:=first|omega|decide | (simp only [lzA,d8,fm];done)|fail) only [b0,b1,b2,b3,b4,b5,b6,b7,b8,d8,d9,fw,reduceIte,reduceCtorEq,eqA,eqB,eqsA,eqsB,ti41 ax,el41,sr41,tBin,zan,zac,apA,tSrc,zal,za1,zbk,zdk,zbg,el,ff,zb4,za7,zb3,zb6,za8,zb5,ip,ig,g0,iq,zkt zai L,zhv (f:=zai) (e:=23) (fun x=>zbc x) L,zje (f:=zai) (fun x=>znq x) L,hn,hn0,hb0,hb1,cond_true,cond_false];with_reducible rfl
    . exact trivial
    simp only [onT,onTB];apply qn;exact ⟨.inr rfl,_,rfl,_,pa _ _,pu (by simp only [zbw,idsA,idsB,idsC,ef])⟩
theorem zx3 (l:List (List Rule)):(l.map zag).flatMap T.cells=l.map zag:=zfc fun _=>rfl
theorem zx5 (l:List (List Rule)):(l.map zag).all T.one=true:=by
  rw [fe];intro x hx;obtain ⟨y,_,rfl⟩:=ic.1 hx;rfl
set_option maxHeartbeats 4000000 in
theorem z1j (ax:Axs) (hx:NoAx ax) (l:List (List Rule)) (hl:l.length*25<=1000000000):Call Tryz.prog (EE ax) [] 66 [zak l] ts0 (.arr 0 1 0 l.length l.length l.length) (stL [.cells false l.length (l.map zag)]):=by
  refine rn (fn:=Tryz.f66) 8 (hx.no _ (by decide)) (fn66 ax) rfl Tryz.ntmps66 (by decide) (by simp) (ft _) (by rfl) ?_;simp only [zke,zmt,d8]
  cases l with
  |nil =>
    refine TW.lst0 0 1 (by omega) (by rfl) ?_ ?_
    . rw [zk9];apply dv;apply i7 (zbt ax) [] []
      . kernel_rfl
      . simp (disch:=first|omega|decide | (simp only [lzA,d8,fm];done)|fail) only [b0,b1,b2,b3,b4,b5,b6,b7,b8,d8,d9,fw,reduceIte,reduceCtorEq,eqA,eqB,eqsA,eqsB,ti27 ax,el27,sr27,tNil,tBin,zan,zac,apA,tSrc,zal,za1,zbk,zdk,zbg,el,ff,zb4,za7,zb3,zb6,za8,zb5,zx3,zx5,ip,ig,g0,iq];with_reducible rfl
      . exact trivial
      simp only [onT,onTB];repeat apply dv
      apply i7 (zbt ax) [] []
      . kernel_rfl
      . simp (disch:=first|omega|decide | (simp only [lzA,d8,fm];done)|fail) only [b0,b1,b2,b3,b4,b5,b6,b7,b8,d8,d9,fw,reduceIte,reduceCtorEq,eqA,eqB,eqsA,eqsB,ti27 ax,el27,sr27,tNil,tBin,zan,zac,apA,tSrc,zal,za1,zbk,zdk,zbg,el,ff,zb4,za7,zb3,zb6,za8,zb5,zx3,zx5,ip,ig,g0,iq];with_reducible rfl
      . exact trivial
      simp only [onT,onTB];refine pt (b:=true) ?_ ?_
      . simp only [zkc,zfz,zhl,zbd,d9,reduceIte,ef]
      simp only [cond_true,cond_false];apply dv;apply i7 (zbt ax) [] []
      . kernel_rfl
      . simp (disch:=first|omega|decide | (simp only [lzA,d8,fm];done)|fail) only [b0,b1,b2,b3,b4,b5,b6,b7,b8,d8,d9,fw,reduceIte,reduceCtorEq,eqA,eqB,eqsA,eqsB,ti27 ax,el27,sr27,tNil,tBin,zan,zac,apA,tSrc,zal,za1,zbk,zdk,zbg,el,ff,zb4,za7,zb3,zb6,za8,zb5,zx3,zx5,ip,ig,g0,iq];with_reducible rfl
      . exact trivial
      simp only [onT,onTB];refine TW.vec 2 1 (by first|rfl | (simp only [zbd,d9,reduceIte];done)) ?_;rw [zu0];simp only [scB,d8];apply qn;exact ⟨.inr rfl,_,rfl,_,pa _ _,pu (by simp only [zbw,idsA,idsB,idsC,ef])⟩
    . rw [zk9];apply dv;apply i7 (zbt ax) [] []
      . kernel_rfl
      . simp (disch:=first|omega|decide | (simp only [lzA,d8,fm];done)|fail) only [b0,b1,b2,b3,b4,b5,b6,b7,b8,d8,d9,fw,reduceIte,reduceCtorEq,eqA,eqB,eqsA,eqsB,ti27 ax,el27,sr27,tNil,tBin,zan,zac,apA,tSrc,zal,za1,zbk,zdk,zbg,el,ff,zb4,za7,zb3,zb6,za8,zb5,zx3,zx5,ip,ig,g0,iq];with_reducible rfl
      . exact trivial
      simp only [onT,onTB];repeat apply dv
      apply i7 (zbt ax) [] []
      . kernel_rfl
      . simp (disch:=first|omega|decide | (simp only [lzA,d8,fm];done)|fail) only [b0,b1,b2,b3,b4,b5,b6,b7,b8,d8,d9,fw,reduceIte,reduceCtorEq,eqA,eqB,eqsA,eqsB,ti27 ax,el27,sr27,tNil,tBin,zan,zac,apA,tSrc,zal,za1,zbk,zdk,zbg,el,ff,zb4,za7,zb3,zb6,za8,zb5,zx3,zx5,ip,ig,g0,iq];with_reducible rfl
      . exact trivial
      simp only [onT,onTB];refine pt (b:=false) ?_ ?_
      . simp only [zkc,zfz,zhl,zbd,d9,reduceIte,m4,ef]
      simp only [cond_true,cond_false];apply qy;simp only [onT,onTB];apply dv;apply i7 (zbt ax) [5] []
      . kernel_rfl
      . simp (disch:=first|omega|decide | (simp only [lzA,d8,fm];done)|fail) only [b0,b1,b2,b3,b4,b5,b6,b7,b8,d8,d9,fw,reduceIte,reduceCtorEq,eqA,eqB,eqsA,eqsB,ti27 ax,el27,sr27,tNil,tBin,zan,zac,apA,tSrc,zal,za1,zbk,zdk,zbg,el,ff,zb4,za7,zb3,zb6,za8,zb5,zx3,zx5,ip,ig,g0,iq];with_reducible rfl
      . exact trivial
      simp only [onT,onTB];refine TW.unz 0 (by rfl) ?_;rw [zgb _ _ _ (by simp only [lzA]<;>omega)];simp only [scA];apply qn;exact ⟨.inr rfl,_,rfl,_,pa _ _,pu (by simp only [zbw,idsA,idsB,idsC,ef])⟩
  |cons x r =>
    rw [zk9];simp only [et] at hl;apply dv;apply i7 (zbt ax) [] []
    . kernel_rfl
    . simp (disch:=first|omega|decide | (simp only [lzA,d8,fm];done)|fail) only [b0,b1,b2,b3,b4,b5,b6,b7,b8,d8,d9,fw,reduceIte,reduceCtorEq,eqA,eqB,eqsA,eqsB,ti27 ax,el27,sr27,tNil,tBin,zan,zac,apA,tSrc,zal,za1,zbk,zdk,zbg,el,ff,zb4,za7,zb3,zb6,za8,zb5,zx3,zx5,ip,ig,g0,iq];with_reducible rfl
    . exact trivial
    simp only [onT,onTB];repeat apply dv
    apply i7 (zbt ax) [] []
    . kernel_rfl
    . simp (disch:=first|omega|decide | (simp only [lzA,d8,fm];done)|fail) only [b0,b1,b2,b3,b4,b5,b6,b7,b8,d8,d9,fw,reduceIte,reduceCtorEq,eqA,eqB,eqsA,eqsB,ti27 ax,el27,sr27,tNil,tBin,zan,zac,apA,tSrc,zal,za1,zbk,zdk,zbg,el,ff,zb4,za7,zb3,zb6,za8,zb5,zx3,zx5,ip,ig,g0,iq];with_reducible rfl
    . exact trivial
    simp only [onT,onTB];refine pt (b:=false) ?_ ?_
    . simp only [zkc,zfz,zhl,zbd,d9,reduceIte,m4,ef]
    simp only [cond_true,cond_false];apply qy;simp only [onT,onTB];apply dv;apply i7 (zbt ax) [5] []
    . kernel_rfl
    . simp (disch:=first|omega|decide | (simp only [lzA,d8,fm];done)|fail) only [b0,b1,b2,b3,b4,b5,b6,b7,b8,d8,d9,fw,reduceIte,reduceCtorEq,eqA,eqB,eqsA,eqsB,ti27 ax,el27,sr27,tNil,tBin,zan,zac,apA,tSrc,zal,za1,zbk,zdk,zbg,el,ff,zb4,za7,zb3,zb6,za8,zb5,zx3,zx5,ip,ig,g0,iq];with_reducible rfl
    . exact trivial
    simp only [onT,onTB];apply qn;exact ⟨.inr rfl,_,rfl,_,pa _ _,pu (by simp only [zbw,idsA,idsB,idsC,ef])⟩
theorem ygp (r:Alt) (m:Pat):spl (eAlt r).cells 1 (m.mask.l.map (dy .i64)++(m.bits.l.map (dy .i64)))=(eAlt { r with mod:=m }).cells:=by
  have e1:(eAlt r).cells=dy .i64 r.link :: (r.mod.mask.l.map (dy .i64)++(r.mod.bits.l.map (dy .i64))):=rfl;have e2:(eAlt { r with mod:=m }).cells=dy .i64 r.link :: (m.mask.l.map (dy .i64)++(m.bits.l.map (dy .i64))):=rfl;rw [e1,e2];have h1:(m.mask.l.map (dy .i64)++m.bits.l.map (dy .i64)).length=20:=by simp [m.mask.h,m.bits.h]
  have h2:(r.mod.mask.l.map (dy .i64)++r.mod.bits.l.map (dy .i64)).length=20:=by simp [r.mod.mask.h,r.mod.bits.h]
  unfold spl;rw [h1,List.take_succ_cons,List.take_zero,show 1+20=20+1 from rfl,jh,gu (by omega)];simp
theorem ypd {a b c xs:List T} {n j:Nat} (ha:a.length=n) (hj:j+xs.length<=b.length):spl (a++(b++c)) (n+j) xs=a++(spl b j xs++c):=by
  subst ha;unfold spl;rw [List.take_length_add_append,Nat.add_assoc,List.drop_length_add_append,List.take_append_of_le_length (by omega),List.drop_append_of_le_length (by omega)];simp only [ew]
theorem ypf {l:List Alt} {i:Nat} (m:Pat) (h:i<l.length):spl (vecC eAlt l) (i*21+1) (m.mask.l.map (dy .i64)++(m.bits.l.map (dy .i64)))=vecC eAlt (l.set i { l.getD i default with mod:=m }):=by
  rw [<- z8v eAlt 21 { l.getD i default with mod:=m } zca h];obtain ⟨h1,h2⟩:=zjj eAlt 21 zca h;have hc:=zca (l.getD i default);have hn:=zca { l.getD i default with mod:=m };have hm:(m.mask.l.map (dy .i64)++m.bits.l.map (dy .i64)).length=20:=by simp [m.mask.h,m.bits.h]
  rw [h1,z64 h2 (by rw [hn,hc]),ypd h2 (by rw [ep,ed,ed,m.mask.h,m.bits.h,hc];omega),ygp]
def zlp (k:Nat) (link:Int) (tag:Int):Option (List (List Alt)):=((zbm k (⟨link,tag⟩:Spot)).bind fun ai=>some [[(⟨link,ai⟩:Alt)]])
theorem zsx (ax:Axs) (hx:NoAx ax) (k:Nat) (link:Int) (tag:Int) (v:List (List Alt)) (H:zlp k link tag=some v):Pure Tryz.prog (EE ax) [] 62 [.int .i64 link,.int .i64 tag] (zbb v):=by
 rw [zlp] at H;refine en [.tmp 4] 15 [0,1] (hx.no _ (by decide)) (fn62 ax) ?_;intro h hh;apply dv;refine rk [0,1] [] hh fun h hh=>?_;obtain ⟨ai,e1,H⟩:=zad H;apply dv;refine rkc [0,5] [] [(ePat ai,stL [])] hh ?_ ?_
 .exact ⟨fc ((zdv ax hx k (⟨link,tag⟩:Spot) ai e1 ).call _),trivial⟩
 clear hh h;intro h hh;apply dv;refine rk [4] [] hh fun h hh=>?_;cases H;exact rt hh
def zid (k:Nat) (b:zfe) (fv:Spot):Option Bool:=(if b.port=fv.port then some (decide (b.tag=fv.tag)) else some false)
theorem zo9 (ax:Axs) (hx:NoAx ax) (k:Nat) (b:zfe) (fv:Spot) (v:Bool) (H:zid k b fv=some v):Pure Tryz.prog (EE ax) [] 92 [zgy b,.cp [.int .i64 fv.port,.int .i64 fv.tag]] (.bool v):=by
 rw [zid] at H;refine en [.tmp 3] 16 [0,1] (hx.no _ (by decide)) (fn92 ax) ?_;intro h hh;apply dv;refine rk [1,2] [] hh fun h hh=>?_;rcases isp H with ⟨c1,H⟩|⟨c1,H⟩;rotate_left
 .skip;apply dv;refine rk [3] [] (f3 hh (zAb c1) (z74 ax)) fun h hh=>?_;cases H;exact rt hh
 apply dv;refine rk [3] [] (f3 hh (zAa c1) (f2 (z74 ax) (yh4 ax))) fun h hh=>?_;cases H;exact rt hh
def zbf (k:Nat) (s_:List zfe) (f_:zfe->Option Bool):Nat->Int->Option (Int ⊕ Unit)
 |0,_=>none
 |m+1,i=>(if i<(s_.length:Int) then (if 0<=i/\i<(s_.length:Int) then ((f_ (gx s_ i)).bind fun r=>(if r=true then some (.inl i) else zbf k s_ f_ m (dx.wrap (i+1)))) else none) else some (.inr ()))
def zcw (k:Nat) (s_:List zfe) (f_:zfe->Option Bool):Option Int:=((zbf k s_ f_ k 0:Option (Int ⊕ Unit)).bind fun o=>il (fun r=>some r) (fun s_2=>some (-1)) o)
theorem zkg (ax:Axs) (hx:NoAx ax) (k:Nat) (s_:List zfe) (f_:zfe->Option Bool) (v:Int) (H:zcw k s_ f_=some v) (f__f:Nat) (f__c:List T) (f__i:T.idsL 0 f__c=true) (f__h:∀ (y0:zfe) (w:Bool),f_ y0=some w->Pure Tryz.prog (EE ax) [] f__f ([]++[zgy y0]++f__c) (.bool w)):Pure Tryz.prog (EE ax) [] 91 [ztc s_,.fn f__f [] f__c] (.int .i64 v):=by
 rw [zcw] at H;refine en (ha:=by simp only [zbw,zct,idsA,idsB,idsC,f__i,ef]) [.tmp 4] 19 [0,1] (hx.no _ (by decide)) (fn91 ax) ?_;intro h hh;apply dv;refine rk [0,1] [] hh fun h hh=>?_;repeat apply dv
 refine rk [0,1,7,8] [] hh fun h hh=>?_;obtain ⟨o,H1,H⟩:=zad H;refine cu [] 0 (fun h bs=>∃ s_2:Unit,o=.inr s_2/\(True)/\bs=[]) ?_ ?_
 .skip;apply ey;refine gt [0,1,7,8] (fun m h bs=>∃ (i:Int),zbf k s_ f_ m i=some o/\(h 0=ztc s_/\h 1=.fn f__f [] f__c/\h 7=.int .i64 (s_.length:Int)/\h 8=.int .i64 i)/\bs=[]) ?_ k _ _ ?_;rotate_left
  .exact ⟨0,H1,kq hh,rfl⟩
  clear hh h H1;rintro m h bs ⟨i,H1,hh,rfl⟩;rcases m with _|m
  .rw [zbf] at H1;cases H1
  rw [zbf] at H1;apply dv;refine rk [0,1,7,8,9] [] hh fun h hh=>?_;rcases isp H1 with ⟨c1,H1⟩|⟨c1,H1⟩;rotate_left
  .skip;apply dv;refine cf (f2 hh (zAb c1)) ?_;refine xk ?_;cases H1;exact ce (f2 hh ((fun m=>zch (ft m) f__i))) ⟨_,rfl,kq hh,rfl⟩
  apply dv;refine ct (f2 hh (zAa c1)) ?_;refine sk ?_;apply dv;apply ey;apply dv;refine rk [0,1,5,7,8] [] hh fun h hh=>?_;obtain ⟨g2,H1⟩:=isg H1;obtain ⟨r,e3,H1⟩:=zad H1;apply dv;refine rkp [0,1,5,7,8,16] [] [.bool r] (f2 hh (zaf g2)) ?_ ?_
  .exact ⟨fc ((f__h (gx s_ i) r e3).call _),trivial⟩
  clear hh h;intro h hh;rcases isb H1 with ⟨c4,H1⟩|⟨c4,H1⟩;rotate_left
  .skip;refine cf (f2 hh c4) ?_;refine sk ?_;refine rk [0,1,7,8] [] (f2 hh c4) fun h hh=>?_;exact rd m (f2 hh ((fun m=>zch (ft m) f__i))) ⟨(dx.wrap (i+1)),H1,kq hh,rfl⟩
  refine ct (f2 hh c4) ?_;apply dv;refine rk [4] [] (f2 hh c4) fun h hh=>?_;cases H1;obtain rfl:=sinl H;exact rt hh
 clear hh h;rintro h bs ⟨s_2,rfl,hh,rfl⟩;replace H:=sinr H;apply dv;refine rk [4] [] hh fun h hh=>?_;cases H;exact rt hh
def zng (k:Nat) (t:List Rule) (s_:Spot):Option (zfe×Bool):=((ziv k t).bind fun cb=>((zcw k cb (fun y=>zid k y s_)).bind fun ac=>(if ac<0 then some ((⟨0,0,[]⟩:zfe),false) else (if 0<=ac/\ac<(cb.length:Int) then some ((gx cb ac),true) else none))))
theorem z3h (ax:Axs) (hx:NoAx ax) (k:Nat) (t:List Rule) (s_:Spot) (v:zfe×Bool) (H:zng k t s_=some v):Pure Tryz.prog (EE ax) [] 58 [zag t,zed s_] (tupT [zgy v.1,.bool v.2]):=by
 rw [zng] at H;refine enN [.cell 4 78,.tmp 5] 20 [0,1] (hx.no _ (by decide)) (fn58 ax) ?_;intro h hh;apply dv;refine rk [0,3,4] [] hh fun h hh=>?_;refine zk 3 0 2 true [.int .i64 s_.port,.int .i64 s_.tag] [0,3,4] hh fun h hh=>?_;obtain ⟨cb,e1,H⟩:=zad H;apply dv;refine rkp [3,4,6] [] [ztc cb] hh ?_ ?_
 .exact ⟨fc ((zu8 ax hx k t cb e1 ).call _),trivial⟩
 clear hh h;intro h hh;obtain ⟨ac,e2,H⟩:=zad H;apply dv;refine rkp [4,6,7] [] [.int .i64 ac] hh ?_ ?_
 .exact ⟨fc ((zkg ax hx k cb (fun y=>zid k y s_) ac e2 92 [.cp [.int .i64 s_.port,.int .i64 s_.tag]] (by simp only [zbw,zct,idsA,idsB,idsC,ef]) (fun y w hw=>by first|exact zo9 ax hx k y s_ w hw|exact (zo9 ax hx k y s_ w hw))).call _),trivial⟩
 clear hh h;intro h hh;repeat apply dv
 refine rk [4,6,7,14] [] hh fun h hh=>?_;rcases isp H with ⟨c3,H⟩|⟨c3,H⟩;rotate_left
 .skip;refine cf (f2 hh (zAb c3)) ?_;refine sk ?_;obtain ⟨g4,H⟩:=isg H;apply dv;refine rk [4,5] [] (f2 hh (zaf g4)) fun h hh=>?_;cases H;exact rtc hh
 refine ct (f2 hh (zAa c3)) ?_;apply dv;refine rk [4,5] [] hh fun h hh=>?_;refine nz 1 2 1 ?_;cases H;exact rtc hh
def zf6 (k:Nat) (s_:Rule) (fv:Rule):Option Bool:=((zd8 k (⟨fv.prio,fv.mat,s_.step,s_.outs⟩:Rule) fv).bind fun aw=>some aw)
theorem zlr (ax:Axs) (hx:NoAx ax) (k:Nat) (s_:Rule) (fv:Rule) (v:Bool) (H:zf6 k s_ fv=some v):Pure Tryz.prog (EE ax) [] 95 [zai s_,.cp (dy .i64 fv.prio :: (fv.mat.mask.l.map (dy .i64)++(fv.mat.bits.l.map (dy .i64)++[dy .i64 fv.step,zbb fv.outs])))] (.bool v):=by
 rw [zf6] at H;refine en [.tmp 3] 13 [0,1] (hx.no _ (by decide)) (fn95 ax) ?_;intro h hh;apply dv;refine rk [1,2] [] hh fun h hh=>?_;apply dv;refine ds 5 [(6,none),(8,some 0)] [1,2] [] [] [] hh trivial trivial fun h hh=>?_;obtain ⟨aw,e1,H⟩:=zad H;apply dv;refine rkp [3] [] [.bool aw] hh ?_ ?_
 .exact ⟨fc ((zhx ax hx k (⟨fv.prio,fv.mat,s_.step,s_.outs⟩:Rule) fv aw e1 ).call _),trivial⟩
 clear hh h;intro h hh;cases H;exact rt hh
def zbe (k:Nat) (s_:List Rule) (f_:Rule->Option Bool):Nat->Int->Option (Int ⊕ Unit)
 |0,_=>none
 |m+1,i=>(if i<(s_.length:Int) then (if 0<=i/\i<(s_.length:Int) then ((f_ (gx s_ i)).bind fun r=>(if r=true then some (.inl i) else zbe k s_ f_ m (dx.wrap (i+1)))) else none) else some (.inr ()))
def zcv (k:Nat) (s_:List Rule) (f_:Rule->Option Bool):Option Int:=((zbe k s_ f_ k 0:Option (Int ⊕ Unit)).bind fun o=>il (fun r=>some r) (fun s_2=>some (-1)) o)
theorem zkf (ax:Axs) (hx:NoAx ax) (k:Nat) (s_:List Rule) (f_:Rule->Option Bool) (v:Int) (H:zcv k s_ f_=some v) (f__f:Nat) (f__c:List T) (f__i:T.idsL 0 f__c=true) (f__h:∀ (y0:Rule) (w:Bool),f_ y0=some w->Pure Tryz.prog (EE ax) [] f__f ([]++[zai y0]++f__c) (.bool w)):Pure Tryz.prog (EE ax) [] 94 [zag s_,.fn f__f [] f__c] (.int .i64 v):=by
 rw [zcv] at H;refine en (ha:=by simp only [zbw,zct,idsA,idsB,idsC,f__i,ef]) [.tmp 4] 19 [0,1] (hx.no _ (by decide)) (fn94 ax) ?_;intro h hh;apply dv;refine rk [0,1] [] hh fun h hh=>?_;repeat apply dv
 refine rk [0,1,7,8] [] hh fun h hh=>?_;obtain ⟨o,H1,H⟩:=zad H;refine cu [] 0 (fun h bs=>∃ s_2:Unit,o=.inr s_2/\(True)/\bs=[]) ?_ ?_
 .skip;apply ey;refine gt [0,1,7,8] (fun m h bs=>∃ (i:Int),zbe k s_ f_ m i=some o/\(h 0=zag s_/\h 1=.fn f__f [] f__c/\h 7=.int .i64 (s_.length:Int)/\h 8=.int .i64 i)/\bs=[]) ?_ k _ _ ?_;rotate_left
  .exact ⟨0,H1,kq hh,rfl⟩
  clear hh h H1;rintro m h bs ⟨i,H1,hh,rfl⟩;rcases m with _|m
  .rw [zbe] at H1;cases H1
  rw [zbe] at H1;apply dv;refine rk [0,1,7,8,9] [] hh fun h hh=>?_;rcases isp H1 with ⟨c1,H1⟩|⟨c1,H1⟩;rotate_left
  .skip;apply dv;refine cf (f2 hh (zAb c1)) ?_;refine xk ?_;cases H1;exact ce (f2 hh ((fun m=>zch (ft m) f__i))) ⟨_,rfl,kq hh,rfl⟩
  apply dv;refine ct (f2 hh (zAa c1)) ?_;refine sk ?_;apply dv;apply ey;apply dv;refine rk [0,1,5,7,8] [] hh fun h hh=>?_;obtain ⟨g2,H1⟩:=isg H1;obtain ⟨r,e3,H1⟩:=zad H1;apply dv;refine rkp [0,1,5,7,8,16] [] [.bool r] (f2 hh (zaf g2)) ?_ ?_
  .exact ⟨fc ((f__h (gx s_ i) r e3).call _),trivial⟩
  clear hh h;intro h hh;rcases isb H1 with ⟨c4,H1⟩|⟨c4,H1⟩;rotate_left
  .skip;refine cf (f2 hh c4) ?_;refine sk ?_;refine rk [0,1,7,8] [] (f2 hh c4) fun h hh=>?_;exact rd m (f2 hh ((fun m=>zch (ft m) f__i))) ⟨(dx.wrap (i+1)),H1,kq hh,rfl⟩
  refine ct (f2 hh c4) ?_;apply dv;refine rk [4] [] (f2 hh c4) fun h hh=>?_;cases H1;obtain rfl:=sinl H;exact rt hh
 clear hh h;rintro h bs ⟨s_2,rfl,hh,rfl⟩;replace H:=sinr H;apply dv;refine rk [4] [] hh fun h hh=>?_;cases H;exact rt hh
def zcg (k:Nat) (t:List Rule) (b:zfe):Nat->Int->(List Rule)->Nat->(List Int)->Nat->Option (List Rule×Nat×List Int×Nat)
 |0,_,_,_,_,_=>none
 |m+1,i,l,n,l2,n2=>(if i<(b.rules.length:Int) then (if 0<=i/\i<(b.rules.length:Int) then (if (0:Int)<=(gx b.rules i)/\(gx b.rules i)<(t.length:Int) then ((zkj k (⟨(gx t (gx b.rules i)).prio,((gx t (gx b.rules i)).mat),(gx t (gx b.rules i)).step,(gx t (gx b.rules i)).outs⟩:Rule)).bind fun ba=>(if ba=true then (if (n2+1)*9<=1000000000 then zcg k t b m (dx.wrap (i+1)) l n (l2++[(-1)]) (n2+1) else none) else (if l.length=n then ((zcv k l (fun y=>zf6 k y (⟨(gx t (gx b.rules i)).prio,((gx t (gx b.rules i)).mat),(gx t (gx b.rules i)).step,(gx t (gx b.rules i)).outs⟩:Rule))).bind fun am=>(if am<0 then (if (n+1)*201<=1000000000 then (if (n2+1)*9<=1000000000 then zcg k t b m (dx.wrap (i+1)) (l++[(⟨(gx t (gx b.rules i)).prio,((gx t (gx b.rules i)).mat),(gx t (gx b.rules i)).step,(gx t (gx b.rules i)).outs⟩:Rule)]) (n+1) (l2++[(n:Int)]) (n2+1) else none) else none) else (if (n2+1)*9<=1000000000 then zcg k t b m (dx.wrap (i+1)) l n (l2++[am]) (n2+1) else none))) else none))) else none) else none) else some (l,n,l2,n2))
def zit (k:Nat) (t:List Rule) (b:zfe):Option (List Rule×List Int):=((zcg k t b k 0 [] 0 [] 0:Option (List Rule×Nat×List Int×Nat)).bind fun s_=>(if s_.1.length=s_.2.1 then (if s_.2.2.1.length=s_.2.2.2 then some (s_.1,s_.2.2.1) else none) else none))
theorem zu7 (ax:Axs) (hx:NoAx ax) (k:Nat) (t:List Rule) (b:zfe) (v:List Rule×List Int) (H:zit k t b=some v):Pure Tryz.prog (EE ax) [] 59 [zag t,zgy b] (tupT [zag v.1,ints v.2]):=by
 rw [zit] at H;refine enN [.tmp 4,.tmp 5] 46 [0,1] (hx.no _ (by decide)) (fn59 ax) ?_;intro h hh;apply dv;refine rk [0,3] [] hh fun h hh=>?_;apply dv;refine rk [0,3,6] [] hh fun h hh=>?_;refine vk 6 23 [0,3,6] hh fun h hh=>?_;apply dv;refine rk [0,3,6,7] [] hh fun h hh=>?_;refine vk 7 1 [0,3,6,7] hh fun h hh=>?_;repeat apply dv
 refine rk [0,6,7,13,14,15] [] hh fun h hh=>?_;obtain ⟨s_,H1,H⟩:=zad H;refine cu [6,7] 3 (fun h bs=>(h 6=.arr 1 23 0 s_.2.1 s_.2.1 (s_.2.1*23)/\h 7=.arr 2 1 0 s_.2.2.2 s_.2.2.2 s_.2.2.2)/\bs=[.cells true 3 [.int .i64 b.port,.int .i64 b.tag,ints b.rules],.cells false (s_.2.1*23) (vecC zai s_.1),.cells false s_.2.2.2 (s_.2.2.1.map (dy .i64))]) ?_ ?_
 .skip;apply ey;refine gt [0,6,7,13,14,15] (fun m h bs=>∃ (i:Int) (l:List Rule) (n:Nat) (l2:List Int) (n2:Nat),zcg k t b m i l n l2 n2=some s_/\(h 0=zag t/\h 6=.arr 1 23 0 n n (n*23)/\h 7=.arr 2 1 0 n2 n2 n2/\h 13=ints b.rules/\h 14=.int .i64 (b.rules.length:Int)/\h 15=.int .i64 i)/\bs=[.cells true 3 [.int .i64 b.port,.int .i64 b.tag,ints b.rules],.cells false (n*23) (vecC zai l),.cells false n2 (l2.map (dy .i64))]) ?_ k _ _ ?_;rotate_left
  .exact ⟨0,[],0,[],0,H1,kq hh,rfl⟩
  clear hh h H1;rintro m h bs ⟨i,l,n,l2,n2,H1,hh,rfl⟩;rcases m with _|m
  .rw [zcg] at H1;cases H1
  rw [zcg] at H1;apply dv;refine rk [0,6,7,13,14,15,16] [] hh fun h hh=>?_;rcases isp H1 with ⟨c1,H1⟩|⟨c1,H1⟩;rotate_left
  .skip;apply dv;refine cf (f2 hh (zAb c1)) ?_;refine xk ?_;cases H1;exact ce hh ⟨kq hh,rfl⟩
  apply dv;refine ct (f2 hh (zAa c1)) ?_;refine sk ?_;apply dv;apply ey;obtain ⟨g2,H1⟩:=isg H1;apply dv;refine rk [0,6,7,9,13,14,15] [] (f2 hh (zaf g2)) fun h hh=>?_;obtain ⟨g3,H1⟩:=isg H1;apply dv;refine rk [0,6,7,10,13,14,15] [] (f2 hh (zaf g3)) fun h hh=>?_;refine zk 10 3 23 true (dy .i64 ((gx t (gx b.rules i)).prio) :: ((((gx t (gx b.rules i)).mat).mask).l.map (dy .i64)++((((gx t (gx b.rules i)).mat).bits).l.map (dy .i64)++[dy .i64 ((gx t (gx b.rules i)).step),zbb ((gx t (gx b.rules i)).outs)]))) [0,6,7,10,13,14,15] hh fun h hh=>?_;obtain ⟨ba,e4,H1⟩:=zad H1;repeat apply dv
  refine rkp [0,6,7,10,13,14,15,24] [] [.bool ba] hh ?_ ?_
  .exact ⟨fc ((zuz ax hx k (⟨(gx t (gx b.rules i)).prio,((gx t (gx b.rules i)).mat),(gx t (gx b.rules i)).step,(gx t (gx b.rules i)).outs⟩:Rule) ba e4 ).call _),trivial⟩
  clear hh h;intro h hh;rcases isb H1 with ⟨c5,H1⟩|⟨c5,H1⟩;rotate_left
  .skip;refine cf (f2 hh c5) ?_;refine sk ?_;obtain ⟨g7,H1⟩:=isg H1;obtain ⟨am,e8,H1⟩:=zad H1;apply dv;refine rkp [0,6,7,10,11,13,14,15] [] [.int .i64 am] (f2 hh c5) ?_ ?_
   .exact ⟨(by have q:=fc (Pure.lend (S:=stL [.cells true 3 [.int .i64 b.port,.int .i64 b.tag,ints b.rules],.cells false (n*23) (vecC zai l),.cells false n2 (l2.map (dy .i64)),.gone]) (args:=[.arr 1 23 0 n n (n*23),.fn 95 [] [.cp (dy .i64 ((gx t (gx b.rules i)).prio) :: ((((gx t (gx b.rules i)).mat).mask).l.map (dy .i64)++((((gx t (gx b.rules i)).mat).bits).l.map (dy .i64)++[dy .i64 ((gx t (gx b.rules i)).step),zbb ((gx t (gx b.rules i)).outs)])))]]) (zkf ax hx k l (fun y=>zf6 k y (⟨(gx t (gx b.rules i)).prio,((gx t (gx b.rules i)).mat),(gx t (gx b.rules i)).step,(gx t (gx b.rules i)).outs⟩:Rule)) am e8 95 [.cp (dy .i64 ((gx t (gx b.rules i)).prio) :: ((((gx t (gx b.rules i)).mat).mask).l.map (dy .i64)++((((gx t (gx b.rules i)).mat).bits).l.map (dy .i64)++[dy .i64 ((gx t (gx b.rules i)).step),zbb ((gx t (gx b.rules i)).outs)])))] (by simp only [zbw,zct,idsA,idsB,idsC,ef]) (fun y w hw=>by first|exact zlr ax hx k y (⟨(gx t (gx b.rules i)).prio,((gx t (gx b.rules i)).mat),(gx t (gx b.rules i)).step,(gx t (gx b.rules i)).outs⟩:Rule) w hw|exact (zlr ax hx k y (⟨(gx t (gx b.rules i)).prio,((gx t (gx b.rules i)).mat),(gx t (gx b.rules i)).step,(gx t (gx b.rules i)).outs⟩:Rule) w hw))) (dr (yab (fun x=>zbc x) (by decide) (by rfl) g7) (dr (Or.inl rfl) (trivial))) rfl);(try simp only [c5] at q);exact q),trivial⟩
   clear hh h;intro h hh;repeat apply dv
   refine rk [0,6,7,10,11,13,14,15,32] [] (f2 hh c5) fun h hh=>?_;rcases isp H1 with ⟨c9,H1⟩|⟨c9,H1⟩;rotate_left
   .skip;refine cf (f2 hh (zAb c9)) ?_;refine sk ?_;obtain ⟨g12,H1⟩:=isg H1;refine rg [] [] [.cells true 3 [.int .i64 b.port,.int .i64 b.tag,ints b.rules],.cells false (n*23) (vecC zai l),.cells false (n2+1) ((l2++[am]).map (dy .i64)),.gone] (fun h=>h 0=zag t/\h 6=.arr 1 23 0 n n (n*23)/\h 7=.arr 2 1 0 (n2+1) (n2+1) (n2+1)/\h 13=ints b.rules/\h 14=.int .i64 (b.rules.length:Int)/\h 15=.int .i64 i) (f2 hh c5) trivial fun h hh=>?_;refine rk [0,6,7,13,14,15] [] (f2 hh c5) fun h hh=>?_;exact rd m hh ⟨(dx.wrap (i+1)),l,n,(l2++[am]),(n2+1),H1,kq hh,rfl⟩
   refine ct (f2 hh (zAa c9)) ?_;apply dv;refine rk [0,6,7,10,11,13,14,15] [] (f2 hh c5) fun h hh=>?_;obtain ⟨g10,H1⟩:=isg H1;refine rg [] [] [.cells true 3 [.int .i64 b.port,.int .i64 b.tag,ints b.rules],.cells false ((n+1)*23) (vecC zai (l++[(⟨(gx t (gx b.rules i)).prio,((gx t (gx b.rules i)).mat),(gx t (gx b.rules i)).step,(gx t (gx b.rules i)).outs⟩:Rule)])),.cells false n2 (l2.map (dy .i64)),.gone] (fun h=>h 0=zag t/\h 6=.arr 1 23 0 (n+1) (n+1) ((n+1)*23)/\h 7=.arr 2 1 0 n2 n2 n2/\h 11=.int .i64 (n:Int)/\h 13=ints b.rules/\h 14=.int .i64 (b.rules.length:Int)/\h 15=.int .i64 i) (f3 hh c5 ((show vecC zai [(⟨(gx t (gx b.rules i)).prio,((gx t (gx b.rules i)).mat),(gx t (gx b.rules i)).step,(gx t (gx b.rules i)).outs⟩:Rule)]=(dy .i64 ((⟨(gx t (gx b.rules i)).prio,((gx t (gx b.rules i)).mat),(gx t (gx b.rules i)).step,(gx t (gx b.rules i)).outs⟩:Rule).prio) :: ((((⟨(gx t (gx b.rules i)).prio,((gx t (gx b.rules i)).mat),(gx t (gx b.rules i)).step,(gx t (gx b.rules i)).outs⟩:Rule).mat).mask).l.map (dy .i64)++((((⟨(gx t (gx b.rules i)).prio,((gx t (gx b.rules i)).mat),(gx t (gx b.rules i)).step,(gx t (gx b.rules i)).outs⟩:Rule).mat).bits).l.map (dy .i64)++[dy .i64 ((⟨(gx t (gx b.rules i)).prio,((gx t (gx b.rules i)).mat),(gx t (gx b.rules i)).step,(gx t (gx b.rules i)).outs⟩:Rule).step),zbb ((⟨(gx t (gx b.rules i)).prio,((gx t (gx b.rules i)).mat),(gx t (gx b.rules i)).step,(gx t (gx b.rules i)).outs⟩:Rule).outs)]))) from zga.trans rfl))) trivial fun h hh=>?_;obtain ⟨g11,H1⟩:=isg H1;refine rg [] [] [.cells true 3 [.int .i64 b.port,.int .i64 b.tag,ints b.rules],.cells false ((n+1)*23) (vecC zai (l++[(⟨(gx t (gx b.rules i)).prio,((gx t (gx b.rules i)).mat),(gx t (gx b.rules i)).step,(gx t (gx b.rules i)).outs⟩:Rule)])),.cells false (n2+1) ((l2++[(n:Int)]).map (dy .i64)),.gone] (fun h=>h 0=zag t/\h 6=.arr 1 23 0 (n+1) (n+1) ((n+1)*23)/\h 7=.arr 2 1 0 (n2+1) (n2+1) (n2+1)/\h 13=ints b.rules/\h 14=.int .i64 (b.rules.length:Int)/\h 15=.int .i64 i) (f2 hh c5) trivial fun h hh=>?_;refine rk [0,6,7,13,14,15] [] (f2 hh c5) fun h hh=>?_;exact rd m hh ⟨(dx.wrap (i+1)),(l++[(⟨(gx t (gx b.rules i)).prio,((gx t (gx b.rules i)).mat),(gx t (gx b.rules i)).step,(gx t (gx b.rules i)).outs⟩:Rule)]),(n+1),(l2++[(n:Int)]),(n2+1),H1,kq hh,rfl⟩
  refine ct (f2 hh c5) ?_;obtain ⟨g6,H1⟩:=isg H1;apply dv;refine rg [] [] [.cells true 3 [.int .i64 b.port,.int .i64 b.tag,ints b.rules],.cells false (n*23) (vecC zai l),.cells false (n2+1) ((l2++[(-1)]).map (dy .i64)),.gone] (fun h=>h 0=zag t/\h 6=.arr 1 23 0 n n (n*23)/\h 7=.arr 2 1 0 (n2+1) (n2+1) (n2+1)/\h 13=ints b.rules/\h 14=.int .i64 (b.rules.length:Int)/\h 15=.int .i64 i) (f2 hh c5) trivial fun h hh=>?_;refine xk ?_;refine rk [0,6,7,13,14,15] [] (f2 hh c5) fun h hh=>?_;exact rd m hh ⟨(dx.wrap (i+1)),l,n,(l2++[(-1)]),(n2+1),H1,kq hh,rfl⟩
 clear hh h;rintro h bs ⟨hh,rfl⟩;apply dv;refine rk [4,5] [] hh fun h hh=>?_;obtain ⟨g13,H⟩:=isg H;obtain ⟨g14,H⟩:=isg H;refine lw 4 (b:=1) (e:=23) (off:=0) (len:=s_.2.1) (cap:=s_.2.1) (M:=(s_.2.1*23)) (s_.1.map zai) (kq hh) (by rfl) (by omega) (by omega) (by rw [fl];exact zgd (fun x=>zbc x) g13) (fun t ht=>by obtain ⟨x,_,rfl⟩:=ic.1 ht;first|rfl|exact zg2 _|exact ze3 _|exact zca _|exact zbc _ | (rw [ed];rfl)) (by rw [ed]<;>exact g13) (by omega) ?_;rw [zgb _ _ _ (by simp only [lzA]<;>omega)];simp only [scA];refine gk [4,5] hh fun h hh=>?_;refine lw 5 (b:=2) (e:=1) (off:=0) (len:=s_.2.2.2) (cap:=s_.2.2.2) (M:=s_.2.2.2) (s_.2.2.1.map (dy .i64)) (kq hh) (by rfl) (by omega) (by omega) (by rw [fl,Nat.mul_one,zfc (fun _=>rfl),fx (by rw [ed];omega)]) (fun t ht=>by obtain ⟨x,_,rfl⟩:=ic.1 ht;first|rfl|exact zg2 _|exact ze3 _|exact zca _|exact zbc _ | (rw [ed];rfl)) (by rw [ed]<;>exact g14) (by omega) ?_;rw [zgb _ _ _ (by simp only [lzA]<;>omega)];simp only [scA];refine gk [4,5] hh fun h hh=>?_;cases H;exact rt hh
end Go.Proofs.YteifcnjpjjaikaaGreat
