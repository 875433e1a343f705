/- Part 3 of the proof of FitCountsAsSpecified (several texts in one; no further condition). -/
import Derived.Test.YteifcnjpjjaikaaGreatZB
import Derived.RangeFuncNested
import Derived.RangeFuncIn
import Derived.Laws.Strings
set_option linter.unusedSimpArgs false
set_option linter.unusedVariables false
set_option linter.unusedSectionVars false
namespace Go.Proofs.YteifcnjpjjaikaaGreat
noncomputable section
open _root_.Array renaming length_toList->gn
open _root_.BitVec renaming ofInt->ge
open _root_.Bool renaming and_eq_true->dr,and_true->mj
open Go.Proofs.YteifcnjpjjaikaaGreat.CS renaming append->kc,firstCells->gz,newRow->pt,readRow->p9
open Go.Proofs.YteifcnjpjjaikaaGreat.Can renaming refl->f5
open Go.Code renaming wpIn_mono->ja
open _root_.Eq renaming trans->d6
open Go.Exit renaming normal->kh
open Go.Proofs.YteifcnjpjjaikaaGreat.Ext renaming refl->m8
open Go.Fence renaming wide->li
open Go.Proofs.YteifcnjpjjaikaaGreat.Fr renaming ofArgs->mi
open Go renaming FuncId->jz,IntKind->fx,Operand->d8,Program->ep,TypeDesc->je,TypeId->ed,execOp->jo
open _root_.List renaming all_cons->ii,all_eq_true->ez,any_eq_false->nj,drop_eq_getElem_cons->jr,drop_succ_cons->ir,drop_zero->fp,flatMap_cons->ij,getElem?_eq_getElem->dv,getElem?_eq_some_iff->d9,length_append->er,length_cons->eh,length_drop->gp,length_take->fi,mem_append->pa,mem_cons->ib,mem_cons_of_mem->lf,mem_of_getElem?->gi,mem_singleton->kb,take_append->nv,take_of_length_le->fk,take_succ_cons->jy
open _root_.Nat renaming add->ph,add_mul->ig,beq->d7,beq_refl->gw,ble->fg,blt->fb,eq_of_beq_eq_true->dx,le_max_left->mf,le_max_right->lz,le_of_eq->iy,le_refl->dz,le_trans->i8,lt_of_lt_of_le->ei,mul_le_mul_right->jw,testBit->ft
open Go.Op renaming operands->eg
open _root_.Option.some renaming inj->me,injEq->dp
open _root_.Prod.mk renaming injEq->du
open Go.Proofs.YteifcnjpjjaikaaGreat.Sg renaming add_other->pk
open Go.Proofs.YteifcnjpjjaikaaGreat.Tr renaming all->p8
open Go.World renaming putObj_heap_other->gj,putObj_heap_same->kw,putObj_size->lh
open Go Go.RowKit
section
variable {P:ep} {Γ:Env} {G:List Nat}
def Mk (σ:Sg) (w:World) (D:Nat):Prop:=w.heap[D]?=some (.deferred (some []))/\∀ f u o z,σ f u≠some (D,o,z)
def mark (D:Nat):Deferred:={ target:=.collected D,args:=#[] }
def znk (σ:Sg) (w:World) (B:Nat) (ds ds':List Deferred):Prop:=∃ Ds:List Nat,ds'=Ds.map mark++ds/\Ds.Nodup/\∀ D,D∈Ds->Mk σ w D/\B<=D
theorem znk.refl (σ:Sg) (w:World) (B:Nat) (ds:List Deferred):znk σ w B ds ds:=⟨[],rfl,.nil,fun _ h=>by simp at h⟩
theorem znk.of_eq {σ:Sg} {w:World} {B:Nat} {ds ds':List Deferred} (h:ds'=ds):znk σ w B ds ds':=by rw [h];exact znk.refl ..
theorem Ext.free {σ σ':Sg} {V:Nat->Prop} {s s':CS} {w w':World} (h:Ext σ V s w σ' s' w') {D:Nat} (hD:D<w.heap.size) (hf:∀ f u o z,σ f u≠some (D,o,z)):w'.heap[D]?=w.heap[D]?/\∀ f u o z,σ' f u≠some (D,o,z):=by
  refine ⟨h.frame D hD fun f u o z k=>absurd k (hf f u o z),fun f u o z k=>?_⟩
  cases h0:σ f u with
  |none =>
    obtain ⟨u0,o0,z0,h1,_⟩:=h.old f u D o z h0 k hD;exact hf _ _ _ _ h1
  |some p =>
    have:=h.le f u p h0;rw [k] at this;rw [<- me this] at h0;exact hf _ _ _ _ h0
theorem za6 {w:World} {D:Nat} {o:Obj} (h:w.heap[D]?=some o):D<w.heap.size:=(Array.getElem?_eq_some_iff.1 h).1
theorem Mk.next {σ σ':Sg} {V:Nat->Prop} {s s':CS} {w w':World} {D:Nat} (h:Mk σ w D) (k:Ext σ V s w σ' s' w'):Mk σ' w' D:=by
  obtain ⟨h1,h2⟩:=k.free (za6 h.1) h.2;exact ⟨h1.trans h.1,h2⟩
theorem znk.trans {σ σ1:Sg} {V:Nat->Prop} {s s1:CS} {w w1:World} {B:Nat} {ds ds1 ds2:List Deferred} (h:znk σ w B ds ds1) (k:Ext σ V s w σ1 s1 w1) (h2:znk σ1 w1 w.heap.size ds1 ds2) (hB:B<=w.heap.size):znk σ1 w1 B ds ds2:=by
  obtain ⟨D1,rfl,n1,a1⟩:=h;obtain ⟨D2,rfl,n2,a2⟩:=h2;refine ⟨D2++D1,by rw [List.map_append,List.append_assoc],?_,fun D hD=>?_⟩
  . rw [List.nodup_append];refine ⟨n2,n1,fun x hx y hy=>?_⟩;have:=(a2 x hx).2;have:=za6 (a1 y hy).1.1;omega
  . rcases pa.1 hD with q|q
    . exact ⟨(a2 D q).1,i8 hB (a2 D q).2⟩
    . exact ⟨(a1 D q).1.next k,(a1 D q).2⟩
theorem Ext.apart {σ σ':Sg} {V:Nat->Prop} {s s':CS} {w w':World} (h:Ext σ V s w σ' s' w') {D:Nat} (hD:D<w.heap.size) (hf:∀ f u o z,σ f u=some (D,o,z)->¬ V f):w'.heap[D]?=w.heap[D]?/\∀ f u o z,σ' f u=some (D,o,z)->¬ V f:=by
  refine ⟨h.frame D hD fun f u o z k=>.inl (hf f u o z k),fun f u o z k=>?_⟩
  cases h0:σ f u with
  |none =>
    obtain ⟨u0,o0,z0,h1,_⟩:=h.old f u D o z h0 k hD;exact hf _ _ _ _ h1
  |some p =>
    have:=h.le f u p h0;rw [k] at this;rw [<- me this] at h0;exact hf _ _ _ _ h0
def znj (σ:Sg) (V:Nat->Prop) (w:World):Option Nat->Prop
  |none=>True
  |some l=>(∃ r0,w.heap[l]?=some (.loop r0))/\∀ f u o z,σ f u=some (l,o,z)->¬ V f
theorem znj.next {σ σ':Sg} {V:Nat->Prop} {s s':CS} {w w':World} {r:Option Nat} (h:znj σ V w r) (k:Ext σ V s w σ' s' w'):znj σ' V w' r:=by
  cases r with
  |none=>trivial
  |some l =>
    obtain ⟨⟨r0,h1⟩,h2⟩:=h;obtain ⟨k1,k2⟩:=k.apart (za6 h1) h2;exact ⟨⟨r0,k1.trans h1⟩,k2⟩
def Post (V:Nat->Prop) (σ:Sg) (s:CS) (w:World) (a:Act) (e:Exit) (fr':Fr) (s':CS):Exit->Act->World->Prop :=
  fun e' a' w'=>e'=e/\∃ σ',FrR σ' fr' a'/\znk σ' w' w.heap.size a.defers a'.defers/\Rel σ' V s' w'/\Ext σ V s w σ' s' w'
def yal (P:ep) (Γ:Env) (G:List Nat) (n:Nat):Prop:=∀ c fr s e fr' s' σ V w a r kd,cm P Γ n c fr s=some (e,fr',s')->zcs G fr.nt c=true->Rel σ V s w->zbi V s'->zd1 σ s.n s'.n->CInv s->zil G σ->FrR σ fr a->znj σ V w r ->
  c.wpIn (zjl r) kd P (Post V σ s w a e fr' s') a w
def ymx (P:ep) (Γ:Env) (G:List Nat) (n:Nat):Prop:=∀ b fr s e fr' s' σ V w a r kd,cm P Γ n (.loop b) fr s=some (e,fr',s')->zcs G fr.nt b=true->Rel σ V s w->zbi V s'->zd1 σ s.n s'.n->CInv s->zil G σ->FrR σ fr a->znj σ V w r ->
  Code.roundsIn (zjl r) kd P b (Post V σ s w a e fr' s') n a w
theorem Post.chain {V:Nat->Prop} {σ σ1:Sg} {s s1 s':CS} {w w1:World} {a a1:Act} {e:Exit} {fr':Fr} (he:Ext σ V s w σ1 s1 w1) (hd:znk σ1 w1 w.heap.size a.defers a1.defers) (c1:Can s s1) (c2:Can s1 s') (hF:zd1 σ s.n s'.n) (hn:∀ f,s.n<=f->zaa s.obj f=zdr) {x:Exit} {a2:Act} {w2:World}
    (h:Post V σ1 s1 w1 a1 e fr' s' x a2 w2):Post V σ s w a e fr' s' x a2 w2:=by
  obtain ⟨rfl,σ2,h1,h2,h3,h4⟩:=h;exact ⟨rfl,σ2,h1,hd.trans h4 h2 he.size,h3,he.trans h4 c1 c2 hF hn⟩
theorem Rel.to {σ:Sg} {V:Nat->Prop} {s:CS} {w w':World} (h:Rel σ V s w) (hs:w.heap.size<=w'.heap.size) (hb:∀ f u b o z,σ f u=some (b,o,z)->w'.heap[b]?=w.heap[b]?):Rel σ V s w' :=
  ⟨h.inj,fun f u b o z k=>ei (h.lt f u b o z k) hs,fun f hf=>(h.fam f hf).move (fun _ _ _ k=>k) (fun _ _=>rfl) fun u b o z k=>hb f u b o z k,h.none,h.vers⟩
theorem Rel.state {σ:Sg} {V:Nat->Prop} {s s1:CS} {w:World} (h:Rel σ V s w) (ho:s1.obj=s.obj) (hn:s1.n=s.n):Rel σ V s1 w :=
  ⟨h.inj,h.lt,fun f hf=>by rw [ho];exact h.fam f hf,fun f hf=>by rw [ho];exact h.none f (by rw [<- hn];exact hf),fun f p hp=>by rw [hn];rw [ho] at hp;exact h.vers f p hp⟩
theorem Ext.to {σ σ':Sg} {V:Nat->Prop} {s s':CS} {w w' w2:World} (h:Ext σ V s w σ' s' w') (hs:w'.heap.size<=w2.heap.size) (hb:∀ b,b<w.heap.size->w2.heap[b]?=w'.heap[b]?) (hst:Same w' w2):Ext σ V s w σ' s' w2 :=
  ⟨h.le,h.new,h.old,i8 h.size hs,fun b k1 k2=>(hb b k1).trans (h.frame b k1 k2),h.st.trans hst⟩
theorem Ext.state {σ σ':Sg} {V:Nat->Prop} {s s' s2:CS} {w w':World} (h:Ext σ V s w σ' s' w') (hn:s2.n=s'.n):Ext σ V s w σ' s2 w' :=
  ⟨h.le,fun f u k1 k2=>by rw [hn];exact h.new f u k1 k2,h.old,h.size,h.frame,h.st⟩
theorem z75 (w:World) (D:Nat) (o:Obj):Same w (w.putObj D o):=⟨rfl,rfl,rfl⟩
theorem Rel.putObj {σ:Sg} {V:Nat->Prop} {s:CS} {w:World} (h:Rel σ V s w) {D:Nat} (o:Obj) (hf:∀ f u o z,σ f u≠some (D,o,z)):Rel σ V s (w.putObj D o) :=
  h.to (iy lh.symm) fun f u b o' z k=>gj fun e=>by subst e;exact hf _ _ _ _ k
theorem Ext.putObj {σ σ':Sg} {V:Nat->Prop} {s s':CS} {w w':World} (h:Ext σ V s w σ' s' w') {D:Nat} (o:Obj) (hD:w.heap.size<=D):Ext σ V s w σ' s' (w'.putObj D o) :=
  h.to (iy lh.symm) (fun b hb=>gj (by omega)) (z75 _ _ _)
theorem zu9 {fn:Func} {tmps:Array Value} {R:Ending->World->Prop} {σ:Sg} {V:Nat->Prop} {s:CS} {σ0:Sg} {s0:CS} {w0:World}:∀ (Ds:List Nat) (w:World),Ds.Nodup->(∀ D,D∈Ds->Mk σ w D/\w0.heap.size<=D)->Rel σ V s w->Ext σ0 V s0 w0 σ s w ->
    (∀ w',Rel σ V s w'->Ext σ0 V s0 w0 σ s w'->∃ v,(results fn tmps).run P w'=.ok v w'/\R (.returned v) w')->LeavesInM (zjl none) 0 P fn tmps R (Ds.map mark) .returning w
  |[],w,_,_,hr,he,h=>h w hr he
  |D :: Ds,w,hn,hm,hr,he,h=>by
    obtain ⟨⟨m1,m2⟩,m3⟩:=hm D (.head _);refine ⟨by simp,.inl ⟨D,_,rfl,run_takeDeferred m1,?_⟩⟩;have hn':=List.nodup_cons.1 hn;refine zu9 Ds _ hn'.2 (fun D' hD'=>?_) (hr.putObj _ m2) (he.putObj _ m3) h;obtain ⟨⟨k1,k2⟩,k3⟩:=hm D' (.tail _ hD');have hne:D'≠D:=by rintro rfl;exact hn'.1 hD'
    exact ⟨⟨(gj hne).trans k1,k2⟩,k3⟩
theorem yfw {L:List Nat} {ax:Axs} (hL:zjz P G L=true) {f:Nat} {fn:Func} (h:(zd0 P L ax).fn.at f=some fn):z86 G fn=true/\P.funcs[f]?=some fn:=by
  have h1:=Tab.at_mk _ _ _ h;rw [zb0] at h1;split at h1
  . rename_i hf;refine ⟨?_,h1⟩;unfold zjz at hL;have:=ez.1 hL f (z0q hf);rw [h1] at this;exact this
  . simp at h1
def Now (i:It) (caps':Array Value) (k:List Nat) (W:World):Prop:=∃ σ V s s1 caps,RL (VR σ) caps caps'.toList/\Rel σ V s W/\zbi V s1/\CInv s/\i.key caps s=some (k,s1)
structure ItOk (P:ep) (gf:Nat) (i:It):Prop where
  can:∀ caps s k s',i.key caps s=some (k,s')->CInv s->Can s s'/\s'.obj=s.obj/\s'.n=s.n
  plain:∀ k x,x∈i.xs k->∀ σ,RL (VR σ) x x
  enter:∀ args w,(callFunc gf args).run P w=.ok (.enter gf args) w
  runs:∀ (caps':Array Value) (k:List Nat) (kd l:Nat) (J:List (Nat×Obj)->Nat->World->Prop) (Jx:World->Prop) (W:World),
    (∀ K j W1,J K j W1->Now i caps' k W1)->(∀ K j W1 W2,J K j W1->Below W1.heap.size W1 W2->J K j W2)->(∀ W1 W2,Jx W1->Below W1.heap.size W1 W2->Jx W2) ->
    (∀ K j W1 W2 b o,J K j W1->Below W1.heap.size W1 W2->W1.heap.size<=b->W2.heap[b]?=some o->J ((b,o) :: K) j W2)->(∀ K j W1 b o,J K j W1->(b,o)∈K->W1.heap[b]?=some o) ->
    (∀ kd' K j x W1,(i.xs k)[j]?=some x->J K j W1->YieldAt li kd' P l x.toArray W1 fun e W'=>(e=.returned (.bool true)/\J K (j+1) W')\/(e=.returned (.bool false)/\Jx W')) ->
    J [] 0 W->CallsIn li kd P gf (#[.func (.yield l) #[] #[]]++caps') W fun e W'=>(∃ v,e=.returned v)/\((∃ K,J K (i.xs k).length W')\/Jx W')
def z43 (P:ep) (L:List Nat):Prop:=∀ gf i,yfd P L gf=some i->ItOk P gf i
theorem z43.can {L:List Nat} (h:z43 P L):yqw (yfd P L):=fun f i hi caps s k s' hk hI=>(h f i hi).can caps s k s' hk hI
theorem z13:∀ {l m:List Nat},zxq l m=true->m=l
  |[],[],_=>rfl
  |a :: l,b :: m,h=>by
    simp only [zxq,dr] at h;rw [z13 h.2,dx h.1]
  |[],_ :: _,h=>by simp [zxq] at h
  |_ :: _,[],h=>by simp [zxq] at h
theorem zrj {σ:Sg}:∀ (ps:List Tmp) (x y:List Value) (fr:Fr) (tmps:Array Value),FrR σ fr { tmps:=tmps,defers:=[] }->(∀ p,p∈ps->p<fr.nt)->RL (VR σ) x y ->
    FrR σ (zp7 fr ps x) { tmps:=(ps.zip y).foldl (fun t (p,v)=>t.setIfInBounds p v) tmps,defers:=[] }
  |[],x,y,fr,tmps,h,_,_=>h
  |p :: ps,[],[],fr,tmps,h,_,_=>h
  |p :: ps,[],_ :: _,fr,tmps,h,_,hx=>hx.elim
  |p :: ps,_ :: _,[],fr,tmps,h,_,hx=>hx.elim
  |p :: ps,v :: x,v' :: y,fr,tmps,h,hp,hx=>by
    have h1:=h.put (v:=v) (v':=v') hx.1 (d:=some p) fun t ht=>by rw [<- me ht];exact hp p (.head _)
    exact zrj ps x y (fr.put p v) (tmps.setIfInBounds p v') h1 (fun q hq=>by rw [Fr.put_nt];exact hp q (.tail _ hq)) hx.2
theorem FrR.act {σ:Sg} {fr:Fr} {a a':Act} (h:FrR σ fr a) (ht:a'.tmps=a.tmps):FrR σ fr a':=⟨by rw [ht];exact h.size,h.small,fun t=>by rw [ht];exact h.val t⟩
theorem zy2 {σ:Sg} {V:Nat->Prop} {w:World} {r:Option Nat} (hr:znj σ V w r) (fn:jz) (tmps:Array Value) (ps:Array Tmp) (a b:Code) :
    ∃ (L:Nat) (Ds:List Nat) (W:World) (rec:Loop),(Instr.enterLoop fn tmps ps a b r).run P w=.ok (L,Ds.map mark) W/\Below w.heap.size w W/\w.heap.size<=L/\W.heap[L]?=some (.loop rec) /\
      (rec.state=.ready/\rec.pending=none/\rec.fn=fn/\rec.tmps=tmps/\rec.params=ps/\rec.assign=a/\rec.body=b)/\Ds.Nodup/\∀ D,D∈Ds->w.heap.size<=D/\D≠L/\W.heap[D]?=some (.deferred (some [])):=by
  cases r with
  |none =>
    have hA:=World.alloc_heap_new (w.alloc (.deferred (some []))) (.loop { state:=.ready,pending:=none,fn:=fn,tmps:=tmps,params:=ps,assign:=a,body:=b,defers:=w.heap.size });rw [World.size_alloc] at hA
    have hD:((w.alloc (.deferred (some []))).alloc (.loop { state:=.ready,pending:=none,fn:=fn,tmps:=tmps,params:=ps,assign:=a,body:=b,defers:=w.heap.size })).heap[w.heap.size]?=some (.deferred (some [])) :=
      (Below.heap_alloc _ _ _ (by simp)).trans (World.alloc_heap_new w _)
    refine ⟨w.heap.size+1,[w.heap.size],_,_,run_enterLoop_outer _ _ _ _ _,((Below.refl _ w).alloc (dz _) _).alloc (by simp) _,by omega,hA,⟨rfl,rfl,rfl,rfl,rfl,rfl,rfl⟩,by simp,fun D hD'=>?_⟩;rw [kb] at hD';subst hD';exact ⟨dz _,by omega,hD⟩
  |some l =>
    obtain ⟨⟨r0,h0⟩,_⟩:=hr;refine ⟨w.heap.size,[],_,_,run_enterLoop_inner h0 _ _ _ _ _,(Below.refl _ w).alloc (dz _) _,dz _,World.alloc_heap_new w _,⟨rfl,rfl,rfl,rfl,rfl,rfl,rfl⟩,.nil,fun D hD=>by simp at hD⟩
set_option maxHeartbeats 1000000 in
theorem yic {Γ:Env} {n:Nat} {L0:List Nat} (hA:ze4 (axC Γ)) (hIt:z43 P L0) (hΓ:Γ.it=yfd P L0) (hc:yal P Γ G n) {g:d8} {ps:Array Tmp} {x y:Code} {fr fr':Fr} {s s':CS} {e:Exit} {σ:Sg} {V:Nat->Prop} {w:World} {a:Act} {r:Option Nat} {kd:Nat}
    (h:z2f (cm P Γ n) Γ.it (zgf fr g) ps.toList x y fr s=some (e,fr',s')) (hg:zgq G g=true) (hps:∀ p,p∈ps.toList->p<fr.nt) (hx:zcs G fr.nt x=true) (hy:zcs G fr.nt y=true)
    (hr:Rel σ V s w) (hV:zbi V s') (hF:zd1 σ s.n s'.n) (hI:CInv s) (hG:zil G σ) (hfr:FrR σ fr a) (hR:znj σ V w r):(Code.rangeFunc g ps x y).wpIn (zjl r) kd P (Post V σ s w a e fr' s') a w:=by
  have hfacts:=(zq2 (P:=P) (Γ:=Γ) hA (by rw [hΓ];exact hIt.can) n).1;have hv:VR σ (zgf fr g) (a.eval g):=zqw hG hg fun t _=>hfr.val t;unfold z2f at h;split at h
  . rename_i gf first caps hgv
    split at h
    . rename_i i hit hfirst;rw [hΓ] at hit;have hi:=hIt gf i hit;split at h
      . rename_i k s1 hk;split at h
        . rename_i e1 s2 hrounds;simp only [dp,du] at h;obtain ⟨rfl,rfl,rfl⟩:=h;rw [hgv] at hv;obtain ⟨fn',first',caps',hav,hfn',hf1,hf2⟩:=hv.out;obtain rfl:=FnR.func hfn'
          have hfe:first'=#[]:=by
            rw [hfirst] at hf1
            cases hq:first'.toList with
            |nil=>exact Array.toList_eq_nil_iff.1 hq
            |cons _ _=>rw [hq] at hf1;exact absurd hf1 (by simp [RL])
          subst hfe;obtain ⟨c1,o1,n1⟩:=hi.can _ _ _ _ hk hI;have hrf:=fun xs t e t'=>zmy (run:=cm P Γ n) (key:=i.key caps.toList) (k0:=k) (ps:=ps.toList) (a:=x) (b:=y) (fr:=fr) hfacts (fun s k s' q hI=>(hi.can _ _ _ _ q hI).1) xs t e t';refine wpIn_rangeFunc ?_;intro fn hfn;obtain ⟨L,Ds,W,rec,he,hb,hL,hWL,⟨hr1,hr2,hr3,hr4,hr5,hr6,hr7⟩,hnd,hDs⟩:=zy2 (P:=P) hR fn a.tmps ps x y;have hLW:=za6 hWL;have hfreeL:∀ f u o z,σ f u≠some (L,o,z):=fun f u o z q=>by have:=hr.lt f u L o z q;omega
          have hfreeD:∀ D,w.heap.size<=D->∀ f u o z,σ f u≠some (D,o,z):=fun D hD f u o z q=>by have:=hr.lt f u D o z q;omega
          refine ⟨L,Ds.map mark,W,{ target:=.fn (.func gf) caps',args:=#[.func (.yield L) #[] #[]] },W,gf,#[.func (.yield L) #[] #[]]++caps',W,he,?_,fun _ _=>trivial,?_,fun hd=>absurd hd (by simp [zjl,li]),?_⟩
          . simp only [resolve,hav];simp [go_sem]
          . simp [invoke,go_sem,hi.enter]
          -- between two rounds
          let J:List (Nat×Obj)->Nat->World->Prop:=fun K j W1=>∃ σ1 t sj,i.key caps.toList t=some (k,sj)/\CInv t/\Can s sj/\zin (cm P Γ n) (i.key caps.toList) k ps.toList x y fr ((i.xs k).drop j) sj=some (e1,s2)/\Rel σ1 V t W1/\Rel σ1 V sj W1/\Ext σ V s w σ1 sj W1/\W1.heap[L]?=some (.loop rec)/\(∀ f u o z,σ1 f u≠some (L,o,z))/\(∀ D,D∈Ds->Mk σ1 W1 D)/\∀ p,p∈K->W1.heap[p.1]?=some p.2/\p.1≠L/\∀ f u o z,σ1 f u≠some (p.1,o,z)
          let Jx:World->Prop:=fun W1=>∃ σ1 c,z3e e1=some c/\Rel σ1 V s2 W1/\Ext σ V s w σ1 s2 W1/\W1.heap[L]?=some (.loop { rec with state:=.done,pending:=some c })/\(∀ f u o z,σ1 f u≠some (L,o,z))/\∀ D,D∈Ds->Mk σ1 W1 D
          have hMkb:∀ {σ1 W1 W2 D},Mk σ1 W1 D->Below W1.heap.size W1 W2->Mk σ1 W2 D:=fun h b=>⟨(b.block _ (za6 h.1)).trans h.1,h.2⟩;have hExb:∀ {σ1 sj W1 W2},Ext σ V s w σ1 sj W1->Below W1.heap.size W1 W2->Ext σ V s w σ1 sj W2:=fun h b=>h.to b.size (fun q hq=>b.block q (ei hq h.size)) ⟨b.os,b.tape,b.output⟩;have hRb:∀ {σ1 sj W1 W2},Rel σ1 V sj W1->Below W1.heap.size W1 W2->Rel σ1 V sj W2:=fun h b=>h.to b.size fun f u q o z hq=>b.block q (h.lt f u q o z hq);have hcall:=hi.runs caps' k (kd - 1) L J Jx W ?_ ?_ ?_ ?_ ?_ ?_ ?_
          . show CallsIn li (kd - 1) P gf _ W _;refine hcall.mono ?_;rintro q W1 ⟨⟨v,rfl⟩,⟨K,hJ⟩|hJ⟩
            . obtain ⟨σ1,t,sj,j1,j2,j3,j4,j5,j6,j7,j8,j9,j10,_⟩:=hJ;rw [List.drop_of_length_le (dz _)] at j4;simp only [zin,dp,du] at j4;obtain ⟨rfl,rfl⟩:=j4;refine ⟨none,W1.putObj L (.loop { rec with state:=.exhausted }),?_,⟨rfl,σ1,(hfr.up j7.le).act rfl,⟨Ds,rfl,hnd,fun D hD=>?_⟩,j6.putObj _ j9,j7.putObj _ hL⟩⟩
              . have:=run_endLoop (P:=P) j8 (by rw [hr1];simp);exact this.trans (by rw [hr2])
              . obtain ⟨d1,d2,_⟩:=hDs D hD;exact ⟨⟨(gj d2).trans (j10 D hD).1,(j10 D hD).2⟩,d1⟩
            . obtain ⟨σ1,c,j1,j2,j3,j4,j5,j6⟩:=hJ;refine ⟨some c,_,run_endLoop (P:=P) j4 (by simp),?_⟩
              have hq:Post V σ s w a e1 fr s2 e1 { a with defers:=Ds.map mark++a.defers } (W1.putObj L (.loop { rec with state:=.exhausted,pending:=some c })):=by
                refine ⟨rfl,σ1,(hfr.up j3.le).act rfl,⟨Ds,rfl,hnd,fun D hD=>?_⟩,j2.putObj _ j5,j3.putObj _ hL⟩;obtain ⟨d1,d2,_⟩:=hDs D hD;exact ⟨⟨(gj d2).trans (j6 D hD).1,(j6 D hD).2⟩,d1⟩
              cases e1 with
              |ret=>cases j1;exact wpIn_ret hq
              |exit id=>cases j1;exact wpIn_exit hq
              |normal=>cases j1
              |goto lb=>cases j1
              |panic ch=>cases j1
              |outgrown=>cases j1
          . -- the iterator reads as it did
            rintro K j W1 ⟨σ1,t,sj,j1,j2,j3,j4,j5,j6,j7,_⟩;refine ⟨σ1,V,t,sj,caps.toList,hf2.up j7.le,j5,hV.back ?_,j2,j1⟩;exact (hrf _ _ _ _ j4).2 (j2.next (hi.can _ _ _ _ j1 j2).1)
          . rintro K j W1 W2 ⟨σ1,t,sj,j1,j2,j3,j4,j5,j6,j7,j8,j9,j10,j11⟩ b;exact ⟨σ1,t,sj,j1,j2,j3,j4,hRb j5 b,hRb j6 b,hExb j7 b,(b.block _ (za6 j8)).trans j8,j9,fun D hD=>hMkb (j10 D hD) b,fun p hp=>⟨(b.block _ (za6 (j11 p hp).1)).trans (j11 p hp).1,(j11 p hp).2⟩⟩
          . rintro W1 W2 ⟨σ1,c,j1,j2,j3,j4,j5,j6⟩ b;exact ⟨σ1,c,j1,hRb j2 b,hExb j3 b,(b.block _ (za6 j4)).trans j4,j5,fun D hD=>hMkb (j6 D hD) b⟩
          . -- a new row is kept
            rintro K j W1 W2 nb no ⟨σ1,t,sj,j1,j2,j3,j4,j5,j6,j7,j8,j9,j10,j11⟩ b hnb hno;refine ⟨σ1,t,sj,j1,j2,j3,j4,hRb j5 b,hRb j6 b,hExb j7 b,(b.block _ (za6 j8)).trans j8,j9,fun D hD=>hMkb (j10 D hD) b,fun p hp=>?_⟩;rcases ib.1 hp with rfl|hp
            . have hl8:=za6 j8;exact ⟨hno,fun e=>by have:nb=L:=e;omega,fun f u o z q=>by have:=j5.lt f u nb o z q;omega⟩
            . exact ⟨(b.block _ (za6 (j11 p hp).1)).trans (j11 p hp).1,(j11 p hp).2⟩
          . rintro K j W1 nb no ⟨σ1,t,sj,j1,j2,j3,j4,j5,j6,j7,j8,j9,j10,j11⟩ hp;exact (j11 _ hp).1
          . -- one round
            rintro kd' K j xv W1 hxj ⟨σ1,t,sj,j1,j2,j3,j4,j5,j6,j7,j8,j9,j10,j11⟩;have hlt:=(d9.1 hxj).1;have hxe:=(d9.1 hxj).2;rw [jr hlt,hxe,zin] at j4;obtain ⟨hlen,j4⟩:=za8 j4;have hlen:=dx hlen;have hpl:=hi.plain k xv (gi hxj);have ct:=(hi.can _ _ _ _ j1 j2).1;have hIj:=j2.next ct
            -- the assignments
            split at j4
            . rename_i fr1 t1 h1;obtain ⟨q1,_,q3⟩:=hfacts _ _ _ _ _ _ h1;have d1:=q3 hIj
              -- the body
              have hbody:∃ eb fr2 t2,cm P Γ n y fr1 t1=some (eb,fr2,t2)/\((eb=.normal/\∃ t3,i.key caps.toList t2=some (k,t3)/\zin (cm P Γ n) (i.key caps.toList) k ps.toList x y fr ((i.xs k).drop (j+1)) t3=some (e1,s2))\/(eb=e1/\t2=s2/\∃ c,z3e e1=some c)):=by
                split at j4
                . rename_i fr2 t2 h2;split at j4
                  . rename_i k1 t3 h3;obtain ⟨hsame,j4⟩:=za8 j4;rw [z13 hsame] at h3;exact ⟨_,_,_,h2,.inl ⟨rfl,t3,h3,j4⟩⟩
                  . simp at j4
                . rename_i fr2 t2 h2;simp only [dp,du] at j4;obtain ⟨rfl,rfl⟩:=j4;exact ⟨_,_,_,h2,.inr ⟨rfl,rfl,_,rfl⟩⟩
                . rename_i id fr2 t2 h2;simp only [dp,du] at j4;obtain ⟨rfl,rfl⟩:=j4;exact ⟨_,_,_,h2,.inr ⟨rfl,rfl,_,rfl⟩⟩
                . simp at j4
              obtain ⟨eb,fr2,t2,h2,hend⟩:=hbody;obtain ⟨p1,_,p3⟩:=hfacts _ _ _ _ _ _ h2;have d2:=p3 (hIj.next d1)
              have d3:Can t2 s2:=by
                rcases hend with ⟨_,t3,h3,h4⟩|⟨_,rfl,_⟩
                . have cc:=(hi.can _ _ _ _ h3 ((hIj.next d1).next d2)).1;exact cc.trans ((hrf _ _ _ _ h4).2 (((hIj.next d1).next d2).next cc))
                . exact f5 _
              have hFj:zd1 σ1 sj.n s2.n:=hF.next j7 j3
              refine ⟨rec.fn,_,rec.assign,rec.body,run_yield j8 (by rw [hr5];simpa using hlen),roundIn_of_wpIn trivial ?_⟩;rw [hr4,hr5,hr6,hr7]
              have htm:((ps.zip xv.toArray).foldl (fun tmps (t,a)=>tmps.setIfInBounds t a) a.tmps)=(ps.toList.zip xv).foldl (fun t (p,v)=>t.setIfInBounds p v) a.tmps:=by
                rw [<- Array.foldl_toList,Array.toList_zip]
              rw [htm];have hfr1:FrR σ1 (zp7 fr ps.toList xv) { tmps:=(ps.toList.zip xv).foldl (fun t (p,v)=>t.setIfInBounds p v) a.tmps,defers:=[] }:=zrj ps.toList xv xv fr a.tmps ((hfr.up j7.le).act rfl) hps (hpl σ1);refine ja ?_ (hc x (zp7 fr ps.toList xv) sj _ fr1 t1 σ1 V W1 _ (some L) kd' h1 (by rw [zm0];exact hx) j6 (hV.back (d2.trans d3)) (hFj.mono (dz _) (d2.trans d3).n) hIj (hG.up j7.le) hfr1 ⟨⟨rec,j8⟩,fun f u o z q=>absurd q (j9 f u o z)⟩);rintro ea a3 W3 ⟨rfl,σ2,k1,_,k3,k4⟩;obtain ⟨f1,f2⟩:=k4.free (za6 j8) j9;have hl3:=f1.trans j8;refine ⟨_,run_beginRound hl3 hr1,?_⟩;have hE3:Ext σ V s w σ2 t1 W3:=j7.trans k4 j3 d1 (hF.mono (dz _) (d2.trans d3).n) hI.none;have hE4:Ext σ V s w σ2 t1 (W3.putObj L (.loop { rec with state:=.busy })):=hE3.putObj _ hL;have hl4:(W3.putObj L (.loop { rec with state:=.busy })).heap[L]?=some (.loop { rec with state:=.busy }):=kw (za6 hl3);have hm4:∀ D,D∈Ds->Mk σ2 (W3.putObj L (.loop { rec with state:=.busy })) D:=fun D hD=>⟨(gj (hDs D hD).2.1).trans ((j10 D hD).next k4).1,((j10 D hD).next k4).2⟩;have hFt:zd1 σ2 t1.n s2.n:=hF.next hE3 (j3.trans d1)
              refine ja ?_ (hc y fr1 t1 eb fr2 t2 σ2 V _ a3 (some L) kd' h2 (by rw [q1,zm0];exact hy) (k3.putObj _ f2) (hV.back d3) (hFt.mono (dz _) d3.n) (hIj.next d1) (hG.up hE3.le) k1 ⟨⟨_,hl4⟩,fun f u o z q=>absurd q (f2 f u o z)⟩);rintro e5 a5 W5 ⟨rfl,σ3,l1,_,l3,l4⟩;obtain ⟨g1,g2⟩:=l4.free (za6 hl4) f2;have hl5:=g1.trans hl4;have hE5:Ext σ V s w σ3 t2 W5:=hE4.trans l4 (j3.trans d1) d2 (hF.mono (dz _) d3.n) hI.none;have hm5:∀ D,D∈Ds->Mk σ3 W5 D:=fun D hD=>(hm4 D hD).next l4
              rcases hend with ⟨rfl,t3,h3,h4⟩|⟨rfl,rfl,c,hcj⟩
              . refine ⟨_,_,run_endRound none hl5,.inl ⟨rfl,?_⟩⟩
                have hrec:({ { rec with state:=.busy } with state:=.ready,pending:=none }:Loop)=rec:=by
                  cases rec;simp only at hr1 hr2;rw [hr1,hr2]
                obtain ⟨cc,oo,nn⟩:=hi.can _ _ _ _ h3 ((hIj.next d1).next d2);show J K (j+1) (W5.putObj L (.loop ({ { rec with state:=.busy } with state:=.ready,pending:=none }:Loop)));rw [hrec];refine ⟨σ3,t2,t3,h3,(hIj.next d1).next d2,(j3.trans (d1.trans d2)).trans cc,h4,l3.putObj _ g2,(l3.putObj _ g2).state oo nn,(hE5.putObj _ hL).state nn,kw (za6 hl5),g2,fun D hD=>?_,fun p hp=>?_⟩
                . exact ⟨(gj (hDs D hD).2.1).trans (hm5 D hD).1,(hm5 D hD).2⟩
                . obtain ⟨q1,q2,q3⟩:=j11 p hp;obtain ⟨u1,u2⟩:=k4.free (za6 q1) q3;have u3:=(gj (o:=.loop { rec with state:=.busy }) (w:=W3) q2).trans (u1.trans q1);obtain ⟨v1,v2⟩:=l4.free (za6 u3) u2;exact ⟨(gj q2).trans (v1.trans u3),q2,v2⟩
              . have hfin:∀ c',z3e e5=some c'->Jx (W5.putObj L (.loop ({ { rec with state:=.busy } with state:=.done,pending:=some c' }:Loop))):=fun c' hc' =>
                  ⟨σ3,c',hc',l3.putObj _ g2,hE5.putObj _ hL,kw (za6 hl5),g2,fun D hD=>⟨(gj (hDs D hD).2.1).trans (hm5 D hD).1,(hm5 D hD).2⟩⟩
                cases e5 with
                |ret=>exact ⟨_,_,run_endRound (some .ret) hl5,.inr ⟨rfl,hfin _ rfl⟩⟩
                |exit id=>exact ⟨_,_,run_endRound (some (.exit id)) hl5,.inr ⟨rfl,hfin _ rfl⟩⟩
                |normal=>cases hcj
                |goto lb=>cases hcj
                |panic ch=>cases hcj
                |outgrown=>cases hcj
            . simp at j4
          . -- at the beginning
            refine ⟨σ,s,s1,hk,hI,c1,hrounds,hRb hr ?_,(hRb hr ?_).state o1 n1,(Ext.state (hExb (m8 σ V s w) hb) n1),hWL,hfreeL,fun D hD=>?_,fun p hp=>absurd hp (by simp)⟩
            . exact hb
            . exact hb
            . exact ⟨(hDs D hD).2.2,hfreeD D (hDs D hD).1⟩
        . simp at h
      . simp at h
    . simp at h
  . simp at h
theorem zm3 {G:List Nat} {x:d8} (h:zgq [] x=true):zgq G x=true:=by
  cases x with
  |global g=>simp [zgq,has] at h
  |_=>exact h
theorem yel {G:List Nat} {nt:Nat} {o:Oper} (h:zj8 [] nt o=true):zj8 G nt o=true:=by
  unfold zj8 at h ⊢;rw [dr] at h ⊢;exact ⟨ez.2 fun x hx=>zm3 (ez.1 h.1 x hx),h.2⟩
theorem zfy {G:List Nat} {nt:Nat}:∀ {c:Code},zcs [] nt c=true->zcs G nt c=true
  |.region _ ops draw,h=>by
    simp only [zcs,dr] at h ⊢;exact ⟨ez.2 fun x hx=>yel (ez.1 h.1 x hx),h.2⟩
  |.seq a b,h=>by simp only [zcs,dr] at h ⊢;exact ⟨zfy h.1,zfy h.2⟩
  |.cond c a b,h=>by simp only [zcs,dr] at h ⊢;exact ⟨⟨zm3 h.1.1,zfy h.1.2⟩,zfy h.2⟩
  |.block _ b,h=>by simp only [zcs] at h ⊢;exact zfy h
  |.loop b,h=>by simp only [zcs] at h ⊢;exact zfy h
  |.scope b,h=>by simp only [zcs] at h ⊢;exact zfy h
  |.rangeFunc g ps a b,h=>by simp only [zcs,dr] at h ⊢;exact ⟨⟨⟨zm3 h.1.1.1,h.1.1.2⟩,zfy h.1.2⟩,zfy h.2⟩
  |.skip,_=>rfl
  |.label _,_=>rfl
  |.exit _,_=>rfl
  |.ret,_=>rfl
  |.goto _,_=>rfl
  |.refuse _,_=>rfl
theorem Rel.putApart {σ:Sg} {V:Nat->Prop} {s:CS} {w:World} (h:Rel σ V s w) {D:Nat} (o:Obj) (hf:∀ f u o z,σ f u=some (D,o,z)->¬ V f):Rel σ V s (w.putObj D o) :=
  ⟨h.inj,fun f u b o' z k=>by rw [lh];exact h.lt f u b o' z k,fun f hV=>(h.fam f hV).move (fun _ _ _ k=>k) (fun _ _=>rfl) fun u b o' z k=>gj fun e=>by subst e;exact hf _ _ _ _ k hV,h.none,h.vers⟩
theorem Ext.widen {σ σ':Sg} {V V':Nat->Prop} {s s':CS} {w w':World} (h:Ext σ V' s w σ' s' w') (hv:∀ f,V' f->V f):Ext σ V s w σ' s' w' :=
  ⟨h.le,fun f u a b=>let ⟨x,y,z,q⟩:=h.new f u a b;⟨x,y,z,q.imp id (hv f)⟩,fun f u b o z k1 k2 k3=>let ⟨u0,o0,z0,a,b,c⟩:=h.old f u b o z k1 k2 k3;⟨u0,o0,z0,a,hv _ b,c⟩,h.size,
    fun b hb hq=>h.frame b hb fun f u o z k=>(hq f u o z k).imp (fun n v=>n (hv f v)) id,h.st⟩
theorem Ext.putSeen {σ σ':Sg} {V:Nat->Prop} {s s':CS} {w w':World} (h:Ext σ V s w σ' s' w') {D:Nat} (o:Obj) (hp:∃ f u o z,σ f u=some (D,o,z)/\V f/\(zaa s.obj f).ro=false):Ext σ V s w σ' s' (w'.putObj D o) :=
  ⟨h.le,h.new,h.old,i8 h.size (iy lh.symm),fun b hb hq=>by
    obtain ⟨f,u,o1,z,p1,p2,p3⟩:=hp;refine d6 (gj fun e=>?_) (h.frame b hb hq);subst e;rcases hq f u o1 z p1 with q|q
    . exact q p2
    . rw [p3] at q;simp at q,h.st.trans (z75 _ _ _)⟩
theorem Ext.from {σ σ':Sg} {V:Nat->Prop} {s s1 s' s2:CS} {w w':World} (h:Ext σ V s1 w σ' s2 w') (hn:s1.n=s.n) (hro:∀ f,(zaa s1.obj f).ro=(zaa s.obj f).ro) (hn2:s'.n=s2.n):Ext σ V s w σ' s' w' :=
  ⟨h.le,fun f u a b=>by rw [<- hn,hn2];exact h.new f u a b,fun f u b o z k1 k2 k3=>let ⟨u0,o0,z0,a,b,c⟩:=h.old f u b o z k1 k2 k3;⟨u0,o0,z0,a,b,by rw [<- hro];exact c⟩,h.size,
    fun b hb hq=>h.frame b hb fun f u o z k=>by rw [hro];exact hq f u o z k,h.st⟩
theorem yc8 {s:CS} {d:Nat} {x:Option Lp} (hro:(zaa s.obj d).ro=false) (f:Nat):(zaa (s.setLp d x).obj f).ro=(zaa s.obj f).ro:=by
  show (zaa (zal s.obj d _) f).ro=_;by_cases h:d=f
  . subst h;rw [zbd _ (zj9 hro),hro]
  . rw [zak _ (zj9 hro) h]
set_option maxHeartbeats 1000000 in
theorem yh0 {n:Nat} (hfacts:∀ c fr s e fr' s',cm P Γ n c fr s=some (e,fr',s')->fr'.nt=fr.nt/\Exit.known e/\(CInv s->Can s s')) (hc:yal P Γ G n):yqo P G (zmn (cm P Γ n)):=by
  intro d b args args' s v s' w σ V kd h hb hl hr hV hF hI hG;have hI':=hI.next (zw0 hfacts _ _ _ _ _ h hI)
  obtain ⟨L,fr1,s1,e,fr2,s2,st,hL,hro,hst,hlen,h1,h2,hd1,hd2,hle,rfl,rfl⟩:=ztu h;have hdn:=hI.lt hro;have hI1:=hI.next (zmw (x:=none) hro hI)
  have hIi:=zig hI1;obtain ⟨q1,_,q3⟩:=hfacts _ _ _ _ _ _ h1;obtain ⟨p1,_,p3⟩:=hfacts _ _ _ _ _ _ h2;have c1:=q3 hIi;have c2:=p3 (hIi.next c1);have c12:=c1.trans c2;have hro2:(zaa s2.obj d).ro=false:=by rw [c12.ro d hdn];exact z7f hro
  have hVd:V d:=by
    refine hV d ?_;rcases zi5 (lim:=((s.setLp d none).outer s2).lim) (l:=((s.setLp d none).outer s2).wr) (n:=d) with k|k
    . exact .inr (.inl k)
    . exact .inr (.inr k)
  obtain ⟨b',rec,a1,a2,a3,a4,a5,a6,⟨a7,a8,a9⟩,a10,_⟩:=(hr.fam d hVd).lp L hL;rw [hb] at a1;cases a1;obtain ⟨r1,r2⟩:=a10 hst;have hap:∀ f u o z,σ f u=some (b,o,z)->¬ (V f/\f≠d):=fun f u o z k q=>q.2 (hr.inj _ _ _ _ _ _ _ _ _ k hb)
  have hrel:Rel σ (fun f=>V f/\f≠d) (s.setLp d none).inner w:=by
    refine ⟨hr.inj,hr.lt,fun f hf=>?_,hIi.none,hIi.vers⟩;show zhc σ w f (zaa (zal s.obj d _) f);rw [zak _ (zj9 hro) (Ne.symm hf.2)];exact hr.fam f hf.1
  have hlim2:s2.lim=s.n:=c12.lim
  have hcov:zbi (fun f=>V f/\f≠d) s2:=by
    intro f hf;refine ⟨?_,?_⟩
    . by_cases hfl:f<s.lim
      . have hlt:f<(s.setLp d none).lim:=hfl;refine hV f ?_;rcases hf with hf|hf|hf
        . exact .inl (zjj hf hlt)
        . exact .inr (.inl (zpd (zjj hf hlt)))
        . have:=hI.lim;omega
      . exact hV f (.inr (.inr (Nat.le_of_not_lt hfl)))
    . rintro rfl;rcases hf with hf|hf|hf
      . exact hd1 hf
      . exact hd2 hf
      . omega
  have hfi:zd1 σ (s.setLp d none).inner.n s2.n:=hF;have hfr:=zrj L.ps args args'.toList L.fr rec.tmps a6 a9 hl;have hsz:args'.size=rec.params.size:=by rw [<- gn,<- gn,a3,<- hlen,hl.length]
  refine ⟨rec.fn,_,rec.assign,rec.body,run_yield a2 hsz,roundIn_of_wpIn trivial ?_⟩
  have htm:((rec.params.zip args').foldl (fun tmps (t,a)=>tmps.setIfInBounds t a) rec.tmps)=(L.ps.zip args'.toList).foldl (fun t (p,v)=>t.setIfInBounds p v) rec.tmps:=by
    rw [<- Array.foldl_toList,Array.toList_zip,a3]
  rw [htm,a4,a5];refine ja ?_ (hc L.a _ _ _ fr1 s1 σ (fun f=>V f/\f≠d) w _ (some b) kd h1 (by rw [zm0];exact zfy a7) hrel (hcov.back c2) (hfi.mono (dz _) c2.n) hIi hG hfr ⟨⟨rec,a2⟩,hap⟩);rintro ea a3' W3 ⟨rfl,σ2,k1,_,k3,k4⟩;obtain ⟨f1,f2⟩:=k4.apart (za6 a2) hap;have hl3:=f1.trans a2;refine ⟨_,run_beginRound hl3 r1,?_⟩;have hl4:(W3.putObj b (.loop { rec with state:=.busy })).heap[b]?=some (.loop { rec with state:=.busy }):=kw (za6 hl3);have hplace:∃ f u o z,σ f u=some (b,o,z)/\V f/\(zaa (s.setLp d none).inner.obj f).ro=false:=⟨d,lpAt d,0,0,hb,hVd,z7f hro⟩;have E4:=(k4.widen (V:=V) fun f q=>q.1).putSeen (.loop { rec with state:=.busy }) hplace;refine ja ?_ (hc L.b fr1 s1 e fr2 s2 σ2 (fun f=>V f/\f≠d) _ a3' (some b) kd h2 (by rw [q1,zm0];exact zfy a8) (k3.putApart _ f2) hcov (hfi.next k4 c1) (hIi.next c1) (hG.up k4.le) k1 ⟨⟨_,hl4⟩,f2⟩);rintro e5 a5' W5 ⟨rfl,σ3,l1,_,l3,l4⟩;obtain ⟨g1,g2⟩:=l4.apart (za6 hl4) f2;have hl5:=g1.trans hl4;have E5:=E4.trans (l4.widen (V:=V) fun f q=>q.1) c1 c2 hfi hIi.none;have hb3:σ3 d (lpAt d)=some (b,0,0):=E5.le _ _ _ hb
  have hfin : ∀ (o : Loop), o.params = rec.params -> o.assign = rec.assign -> o.body = rec.body -> o.tmps = rec.tmps -> (st = none -> o.state = .ready /\ o.pending = none) -> (∀ e, st = some e -> o.state = .done /\ ∃ c, z3e e = some c /\ o.pending = some c) ->
      Rel σ3 V (((s.setLp d none).outer s2).setLp d (some { L with st:=st })) (W5.putObj b (.loop o))/\Ext σ V s w σ3 (((s.setLp d none).outer s2).setLp d (some { L with st:=st })) (W5.putObj b (.loop o)):=by
    intro o o1 o2 o3 o4 o5 o6;refine ⟨⟨l3.inj,fun f u b' o' z k=>by rw [lh];exact l3.lt f u b' o' z k,fun f hf=>?_,hI'.none,hI'.vers⟩,(E5.putSeen (.loop o) hplace).from rfl (fun f=>yc8 hro f) rfl⟩;show zhc σ3 _ f (zaa (zal s2.obj d _) f);by_cases hfd:d=f
    . subst hfd;rw [zbd _ (zj9 hro2)];refine ⟨fun p hp=>by simp at hp,fun _=>trivial,fun es he=>by simp at he,fun L' hL'=>?_⟩;simp only [dp] at hL';subst hL';exact ⟨b,o,hb3,kw (za6 hl5),by rw [o1];exact a3,o2.trans a4,o3.trans a5,by rw [o4];exact a6.up E5.le,⟨a7,a8,a9⟩,o5,o6⟩
    . rw [zak _ (zj9 hro2) hfd];exact (l3.fam f ⟨hf,Ne.symm hfd⟩).move (fun _ _ _ k=>k) (fun _ _=>rfl) fun u b' o' z k=>gj fun q=>by subst q;exact g2 _ _ _ _ k ⟨hf,Ne.symm hfd⟩
  cases e5 with
  |normal =>
    simp only [zsh,dp] at hle;subst hle;obtain ⟨x1,x2⟩:=hfin { { rec with state:=.busy } with state:=.ready,pending:=none } rfl rfl rfl rfl (fun _=>⟨rfl,rfl⟩) (fun _ k=>by simp at k);exact ⟨_,_,run_endRound none hl5,σ3,_,rfl,VR.mk rfl,x1,x2⟩
  |ret =>
    simp only [zsh,dp] at hle;subst hle;obtain ⟨x1,x2⟩:=hfin { { rec with state:=.busy } with state:=.done,pending:=some .ret } rfl rfl rfl rfl (fun k=>by simp at k) (fun e k=>by cases k;exact ⟨rfl,_,rfl,rfl⟩);exact ⟨_,_,run_endRound (some .ret) hl5,σ3,_,rfl,VR.mk rfl,x1,x2⟩
  |exit id =>
    simp only [zsh,dp] at hle;subst hle;obtain ⟨x1,x2⟩:=hfin { { rec with state:=.busy } with state:=.done,pending:=some (.exit id) } rfl rfl rfl rfl (fun k=>by simp at k) (fun e k=>by cases k;exact ⟨rfl,_,rfl,rfl⟩);exact ⟨_,_,run_endRound (some (.exit id)) hl5,σ3,_,rfl,VR.mk rfl,x1,x2⟩
  |goto lb=>simp [zsh] at hle
  |panic ch=>simp [zsh] at hle
  |outgrown=>simp [zsh] at hle
set_option maxHeartbeats 1000000 in
theorem ydv {n:Nat} (hcall:z44 P G (zod Γ (cm P Γ n))) (hcan:ze4 (zod Γ (cm P Γ n))) {g:d8} {ps:Array Tmp} {x y:Code} {fr fr':Fr} {s s':CS} {e:Exit} {σ:Sg} {V:Nat->Prop} {w:World} {a:Act} {r:Option Nat} {kd:Nat} {gf:jz} {first caps:Array Value}
    (hgv:zgf fr g=.func (.func gf) first caps) (h:zsc (zod Γ (cm P Γ n)) gf first.toList caps.toList ps.toList x y fr s=some (e,fr',s')) (hg:zgq G g=true)
    (hr:Rel σ V s w) (hV:zbi V s') (hF:zd1 σ s.n s'.n) (hI:CInv s) (hG:zil G σ) (hfr:FrR σ fr a) (hR:znj σ V w r):(Code.rangeFunc g ps x y).wpIn (zjl r) kd P (Post V σ s w a e fr' s') a w:=by
  have hv:VR σ (zgf fr g) (a.eval g):=zqw hG hg fun t _=>hfr.val t;obtain ⟨v,s2,L2,hn,hfirst,hps,hx,hy,h1,hL2,hout,rfl,rfl⟩:=zus h;rw [hgv] at hv;obtain ⟨fn',first',caps',hav,hfn',hf1,hf2⟩:=hv.out;obtain rfl:=FnR.func hfn';rw [hfirst] at hf1;obtain rfl:=ydr hf1;have c1:Can s { s with n:=s.n+1,obj:=zal s.obj s.n ⟨false,[],none,some ⟨fr',ps.toList,x,y,none⟩⟩ }:=zrp hn (fun p hp=>by simp at hp) rfl;have hI0:=hI.next c1
  have c2:=hcan _ _ _ _ _ h1 hI0
  have hro2:(zaa s2.obj s.n).ro=false:=by
    rw [c2.ro s.n (Nat.lt_succ_self _)];show (zaa (zal s.obj s.n _) s.n).ro=false;rw [zbd _ hn]
  have c3:Can s2 (s2.setLp s.n none):=zmw hro2 (hI0.next c2);have hVn:V s.n:=hV s.n (.inr (.inr (by rw [(c1.trans (c2.trans c3)).lim];exact hI.lim)));have hns:s.n+1<=s2.n:=c2.n;refine wpIn_rangeFunc ?_;intro fn hfn;obtain ⟨L,Ds,W,rec,hent,hb,hL,hWL,⟨hr1,hr2,hr3,hr4,hr5,hr6,hr7⟩,hnd,hDs⟩:=zy2 (P:=P) hR fn a.tmps ps x y;have hRW:Rel σ V s W:=hr.to hb.size fun f u b o z q=>hb.block b (hr.lt f u b o z q);have h0:σ s.n (lpAt s.n)=none:=hF s.n _ (.inl ⟨dz _,hns⟩);have hle:=Sg.le_add (p:=(L,0,0)) h0;have hadd:(σ.add s.n (lpAt s.n) (L,0,0)) s.n (lpAt s.n)=some (L,0,0):=Sg.add_same _ _ _ _
  have hcase:∀ f u b o z,(σ.add s.n (lpAt s.n) (L,0,0)) f u=some (b,o,z)->(f=s.n/\b=L)\/(σ f u=some (b,o,z)/\b<w.heap.size):=by
    intro f u b o z q;by_cases hc:f=s.n/\u=lpAt s.n
    . obtain ⟨rfl,rfl⟩:=hc;rw [hadd] at q;cases q;exact .inl ⟨rfl,rfl⟩
    . rw [pk _ _ hc] at q;exact .inr ⟨q,hr.lt _ _ _ _ _ q⟩
  have hR0:Rel (σ.add s.n (lpAt s.n) (L,0,0)) V { s with n:=s.n+1,obj:=zal s.obj s.n ⟨false,[],none,some ⟨fr',ps.toList,x,y,none⟩⟩ } W:=by
    refine ⟨?_,?_,?_,hI0.none,hI0.vers⟩
    . intro f u b o z f' u' o' z' q1 q2;rcases hcase _ _ _ _ _ q1 with ⟨q3,q4⟩|⟨q3,q4⟩<;>rcases hcase _ _ _ _ _ q2 with ⟨q5,q6⟩|⟨q5,q6⟩
      . rw [q3,q5]
      . omega
      . omega
      . exact hr.inj _ _ _ _ _ _ _ _ _ q3 q5
    . intro f u b o z q;have:=za6 hWL;have:=hb.size;rcases hcase _ _ _ _ _ q with ⟨_,q⟩|⟨_,q⟩<;>omega
    . intro f hf;show zhc _ W f (zaa (zal s.obj s.n _) f);by_cases hfn:s.n=f
      . subst hfn;rw [zbd _ hn];refine ⟨fun p hp=>by simp at hp,fun _=>trivial,fun es he=>by simp at he,fun Lq hq=>?_⟩;simp only [dp] at hq;subst hq;exact ⟨L,rec,hadd,hWL,by rw [hr5],hr6,hr7,(hfr.up hle).act hr4,⟨hx,hy,hps⟩,fun _=>⟨hr1,hr2⟩,fun e k=>by simp at k⟩
      . rw [zak _ hn hfn];exact (hRW.fam f hf).move hle (fun u _=>pk _ _ fun q=>hfn q.1.symm) (fun _ _ _ _ _=>rfl)
  have hE0:Ext σ V s w (σ.add s.n (lpAt s.n) (L,0,0)) { s with n:=s.n+1,obj:=zal s.obj s.n ⟨false,[],none,some ⟨fr',ps.toList,x,y,none⟩⟩ } W:=by
    refine ⟨hle,fun f u k1 k2=>?_,fun f u b o z k1 k2 k3=>?_,hb.size,fun b k1 k2=>hb.block b k1,⟨hb.os,hb.tape,hb.output⟩⟩
    . by_cases hc:f=s.n/\u=lpAt s.n
      . obtain ⟨rfl,rfl⟩:=hc;unfold lpAt;refine ⟨by omega,?_,?_,.inl (dz _)⟩
        . show _<s.n+1;omega
        . show _<s.n+1;omega
      . rw [pk _ _ hc] at k2;exact absurd k1 k2
    . rcases hcase _ _ _ _ _ k2 with ⟨_,q⟩|⟨q,_⟩
      . omega
      . rw [k1] at q;simp at q
  have hF0:=hF.next hE0 c1
  obtain ⟨xf,hen,hcl⟩:=hcall.fn gf _ (#[.func (.yield L) #[] #[]]++caps') _ v s2 W _ V h1 (by
    rw [Array.toList_append]
    exact ⟨VR.mk ⟨.yield L,#[],#[],rfl,⟨L,hadd,rfl⟩,trivial,trivial⟩,hf2.up hle⟩) hR0 (hV.back c3) hF0 hI0 (hG.up hle)
  refine ⟨L,Ds.map mark,W,{ target:=.fn (.func gf) caps',args:=#[.func (.yield L) #[] #[]] },W,xf,#[.func (.yield L) #[] #[]]++caps',W,hent,?_,fun _ _=>trivial,?_,fun hd=>absurd hd (by simp [zjl,li]),?_⟩
  . simp only [resolve,hav];simp [go_sem]
  . simp [invoke,go_sem,hen]
  . show CallsIn li (kd - 1) P xf _ W _;refine (callsIn_wide.2 hcl).mono ?_;rintro q W1 ⟨σ1,v1,rfl,k1,k2,k3⟩;have hL1:σ1 s.n (lpAt s.n)=some (L,0,0):=k3.le _ _ _ hadd;obtain ⟨b',rec',a1,a2,a3,a4,a5,a6,a7,a8,a9⟩:=(k2.fam s.n hVn).lp L2 hL2;rw [hL1] at a1;cases a1
    have hfin:∀ o,Post V σ s w a e fr' (s2.setLp s.n none) e { a with defers:=Ds.map mark++a.defers } (W1.putObj L o):=by
      intro o;refine ⟨rfl,σ1,(hfr.up fun f u p q=>k3.le _ _ _ (hle _ _ _ q)).act rfl,⟨Ds,rfl,hnd,fun D hD=>?_⟩,?_,?_⟩
      . obtain ⟨d1,d2,d3⟩:=hDs D hD
        have hm:Mk (σ.add s.n (lpAt s.n) (L,0,0)) W D:=⟨d3,fun f u o z q=>by
          rcases hcase _ _ _ _ _ q with ⟨_,q⟩|⟨_,q⟩
          . exact d2 q
          . omega⟩
        have hm1:=hm.next k3
        exact ⟨⟨(gj d2).trans hm1.1,hm1.2⟩,d1⟩
      . exact zrh (ins s2.lim s2.wr s.n) k2 hro2 (dz _) (fun _ _ _ q=>q) k2.inj (fun g u b o z q=>by rw [lh];exact k2.lt _ _ _ _ _ q) (fun _ _ _=>rfl)
          (fun g u b o z hg q=>gj (by rintro rfl;exact hg (k2.inj _ _ _ _ _ _ _ _ _ q hL1))) (x:=⟨false,[],none,none⟩) ⟨fun p hp=>by simp at hp,fun _=>trivial,fun es he=>by simp at he,fun Lq hq=>by simp at hq⟩ (fun p hp=>by simp at hp)
      . exact ((hE0.trans k3 c1 c2 hF hI.none).putObj o hL).state rfl
    cases hst:L2.st with
    |none =>
      rw [hst] at hout;cases hout;obtain ⟨r1,r2⟩:=a8 hst;exact ⟨none,_,(run_endLoop (P:=P) a2 (by rw [r1];simp)).trans (by rw [r2]),hfin _⟩
    |some e0 =>
      obtain ⟨r1,c,r2,r3⟩:=a9 _ hst;rw [hst] at hout;refine ⟨some c,_,(run_endLoop (P:=P) a2 (by rw [r1];simp)).trans (by rw [r3]),?_⟩
      cases e0 with
      |ret=>cases hout;cases r2;exact wpIn_ret (hfin _)
      |exit id=>cases hout;cases r2;exact wpIn_exit (hfin _)
      |normal=>cases r2
      |goto lb=>cases r2
      |panic ch=>cases r2
      |outgrown=>cases r2
theorem yoo (d B:Nat):fb (ph d B) B=false:=by
  cases hq:fb (ph d B) B with
  |false=>rfl
  |true =>
    have:=zac.1 hq;have h2:ph d B=d+B:=rfl;omega
theorem yjv {B C:Nat} (h:C<=B) (d:Nat):fb (ph d B) C=false:=by
  cases hq:fb (ph d B) C with
  |false=>rfl
  |true =>
    have:=zac.1 hq;have h2:ph d B=d+B:=rfl;omega
theorem zwz (d:Nat):zkf d=ph d 1099511627776:=by unfold zkf;rfl
theorem z0w {L:List Nat} {ax:Axs} (f:Nat):(zd0 P L ax).ax f=sel (fb f 1099511627776) (ax f) none:=rfl
theorem yjx {L:List Nat} {ax:Axs} (d:Nat):(zd0 P L ax).ax (zkf d)=none:=by
  rw [z0w,zwz,yoo];rfl
theorem yh5 {α:Type} (t:Tab α) {i:Nat} (h:fb i 256=false):t.at i=none:=by
  unfold Tab.at
  rw [h];rfl
theorem yjb {L:List Nat} {ax:Axs} (d:Nat):(zd0 P L ax).fn.at (zkf d)=none:=by
  rw [zwz];exact yh5 _ (yjv (by decide) d)
theorem z6x {n:Nat} {f:Nat} {args:List Value} {s:CS} (h1:Γ.ax f=none) (h2:Γ.fn.at f=none):zd6 P Γ n f args s=zmn (cm P Γ n) f args s:=by
  unfold zd6 zod;rw [h1,h2]
theorem z1a {L:List Nat} {ax:Axs} (hA:ze4 (axC (zd0 P L ax))) (hIt:z43 P L) (hB:FnOk P G (axC (zd0 P L ax))) (hL:zjz P G L=true) {n:Nat} (hc:yal P (zd0 P L ax) G n):z44 P G (zd6 P (zd0 P L ax) n):=by
  refine ⟨?_,?_⟩;rotate_left
  . intro d b args args' s v s' w σ V kd h;rw [z6x (yjx d) (yjb d)] at h;exact yh0 (zq2 (P:=P) (Γ:=zd0 P L ax) hA hIt.can n).1 hc d b args args' s v s' w σ V kd h
  intro f args args' s v s' w σ V h hl hr hV hF hI hG;have hE:=ygt P L ax;unfold zd6 zod at h;split at h
  . rename_i hx hax;exact hB f args args' s v s' w σ V (by unfold axC;rw [hax];exact h) hl hr hV hF hI hG
  cases hfn:(zd0 P L ax).fn.at f with
  |none =>
    rw [hfn] at h;obtain ⟨d,xs,_,rfl⟩:=z1m h
    cases hq:args'.toList with
    |nil=>rw [hq] at hl;exact hl.elim
    |cons _ _=>rw [hq] at hl;exact (hl.1.out).elim
  |some fn =>
    rw [hfn] at h;simp only at h;obtain ⟨hok,hfun⟩:=yfw hL hfn;unfold z86 at hok;simp only [dr] at hok;obtain ⟨⟨h512,hname⟩,hbody⟩:=hok
    cases hb:fn.body with
    |none=>rw [hb] at h;simp at h
    |some body =>
      rw [hb] at h hbody;simp only at h hbody
      -- both ways to leave
      have key : ∀ e fr1 s1 vs, (e = .normal \/ e = .ret) -> sel (fg args.length fn.ntmps) (cm P (zd0 P L ax) n body (mi args 0 ⟨fn.ntmps, p8 undef 9⟩) s) none = some (e, fr1, s1) -> resC (zd0 P L ax) fr1 s1 fn.results.toList = some (vs, s') -> v = tupC vs ->
          Calls P f args' w fun e w'=>∃ σ' v',e=.returned v'/\VR σ' v v'/\Rel σ' V s' w'/\Ext σ V s w σ' s' w':=by
        intro e fr1 s1 vs hex h1 h2 h3;obtain ⟨hlen,h1⟩:=za8 h1;have c1:=((zq2 (P:=P) (Γ:=zd0 P L ax) hA hIt.can n).1 _ _ _ _ _ _ h1).2.2 hI;have c2:=zns h2;have hnt:(mi args 0 ⟨fn.ntmps,p8 undef 9⟩).nt=fn.ntmps:=zqb _ _ _;have hfr:=ygu (σ:=σ) (zax.1 h512) (zax.1 hlen) hl;have hw:=hc body _ s e fr1 s1 σ V w _ none 0 h1 (by rw [hnt];exact hbody) hr (hV.back c2) (hF.mono (dz _) c2.n) hI hG hfr trivial;refine ymn.1 (callsIn_of_wp_marks (F:=zjl none) (n:=0) hfun hb trivial (ja ?_ hw) rfl);rintro e' a' w' ⟨rfl,σ1,k1,⟨Ds,k2,kn,km⟩,k3,k4⟩;have kd:a'.defers=Ds.map mark:=by rw [k2];exact List.append_nil _
        have hL:LeavesInM (zjl none) 0 P fn a'.tmps (fun e w'=>∃ σ' v',e=.returned v'/\VR σ' v v'/\Rel σ' V s' w'/\Ext σ V s w σ' s' w') (Ds.map mark) .returning w':=by
          refine zu9 (σ:=σ1) (V:=V) (s:=s1) (σ0:=σ) (s0:=s) (w0:=w) Ds w' kn km k3 k4 fun w2 k3 k4=>?_;obtain ⟨v',q1,q2,q3,q4⟩:=z5n hE k1 k3 hV (hI.next c1) (hF.next k4 c1) h2;exact ⟨v',q1,σ1,v',rfl,by rw [h3];exact q2,q3,k4.trans q4 c1 c2 hF hI.none⟩
        rw [<- kd] at hL;rcases hex with rfl|rfl
        . exact hL
        . exact hL
      refine ⟨f,?_,?_⟩
      . have hne : ¬ fn.name = "runtime.NumGoroutine" := by simpa using hname
        simp [callFunc,hfun,hne,hb]
      . split at h
        . rename_i fr1 s1 h1;split at h
          . rename_i vs s2 h2;simp only [dp,du] at h;obtain ⟨rfl,rfl⟩:=h;exact key _ fr1 s1 vs (.inl rfl) h1 h2 rfl
          . simp at h
        . rename_i fr1 s1 h1;split at h
          . rename_i vs s2 h2;simp only [dp,du] at h;obtain ⟨rfl,rfl⟩:=h;exact key _ fr1 s1 vs (.inr rfl) h1 h2 rfl
          . simp at h
        . simp at h
theorem z5e {b:Frame} {a:Act} {k:List Item} {cs:List Frame} {w:World} {c:Code}:step P (lone (b.atR a (.code (.scope c) :: k)) cs w)=.next (lone (b.atR a (.code c :: .inScope c :: k)) cs w) :=
  step_lone_go (by simp [stepG,stepG.exec,Frame.atR])
theorem zzw {b:Frame} {a:Act} {k:List Item} {cs:List Frame} {w:World} {c:Code}:step P (lone (b.atR a (.inScope c :: k)) cs w)=.next (lone (b.atR a k) cs w) :=
  step_lone_go (by simp [stepG,stepG.exec,Frame.atR])
theorem zoz {F:Fence} {kd:Nat} {c:Code} {Q:Exit->Act->World->Prop} {a:Act} {w:World} (h:c.wpIn F kd P (Exit.noGoto Q) a w):(Code.scope c).wpIn F kd P Q a w:=by
  intro b k cs hro hb hr;have h0:StepsIn (Machine.fenced P F) P (lone (b.atR a (.code (.scope c) :: k)) cs w) (lone (b.atR a (.code c :: .inScope c :: k)) cs w):=.one (fenced_calm hb hr rfl) z5e;obtain ⟨e,a₁,w₁,hq,harr⟩:=h b (.inScope c :: k) cs hro hb hr
  cases e with
  |normal=>exact ⟨.normal,a₁,w₁,hq,StepsIn.trans h0 (StepsIn.trans harr (.one (fenced_calm hb hr rfl) zzw))⟩
  | exit id => exact ⟨.exit id, a₁, w₁, hq, fun k' hk => StepsIn.trans h0 (harr.1 k' (by simp [exitTo, hk])), fun hr' hk => by
      obtain ⟨k1,hk1,hs⟩:=harr.2 hr' (by simp [exitTo,hk])
      exact ⟨k1,hk1,StepsIn.trans h0 hs⟩⟩
  |goto l=>exact hq.elim
  |ret=>exact ⟨_,a₁,w₁,hq,.of_steps h0 harr⟩
  |panic ch=>exact ⟨_,a₁,w₁,hq,.of_steps h0 harr⟩
  |outgrown=>exact ⟨_,a₁,w₁,hq,.of_steps h0 harr⟩
set_option maxHeartbeats 1000000 in
theorem z6q (hm:P.follows .mixedOrders=true) {L:List Nat} {ax:Axs} (hA:ze4 (axC (zd0 P L ax))) (hIt:z43 P L) (hB:FnOk P G (axC (zd0 P L ax))) (hL:zjz P G L=true):∀ n,yal P (zd0 P L ax) G n/\ymx P (zd0 P L ax) G n:=by
  intro n
  induction n with
  |zero=>exact ⟨fun c fr s e fr' s' σ V w a r kd h=>by simp [cm] at h,fun b fr s e fr' s' σ V w a r kd h=>by simp [cm] at h⟩
  |succ n ih =>
    obtain ⟨ih1,ih2⟩:=ih;have hE:=ygt P L ax;have hC:=z1a hA hIt hB hL ih1;obtain ⟨hfacts,hcan⟩:=zq2 (P:=P) (Γ:=zd0 P L ax) hA hIt.can n
    have hloop:ymx P (zd0 P L ax) G (n+1):=by
      intro b fr s e fr' s' σ V w a r kd h hb hr hV hF hI hG hfr hR;simp only [cm] at h;rw [roundsIn_succ];split at h
      . rename_i fr1 s1 h1;obtain ⟨q1,_,q3⟩:=hfacts _ _ _ _ _ _ h1;obtain ⟨r1,_,r3⟩:=hfacts _ _ _ _ _ _ h;have c1:=q3 hI;have c2:=r3 (hI.next c1);refine ja ?_ (ih1 b fr s _ fr1 s1 σ V w a r kd h1 hb hr (hV.back c2) (hF.mono (dz _) c2.n) hI hG hfr hR);rintro e1 a1 w1 ⟨rfl,σ1,k1,k2,k3,k4⟩;show Code.roundsIn (zjl r) kd P b _ n a1 w1;have hrounds:=ih2 b fr1 s1 e fr' s' σ1 V w1 a1 r kd h (by rw [q1];exact hb) k3 hV (hF.next k4 c1) (hI.next c1) (hG.up k4.le) k1 (hR.next k4)
        -- the same, seen from the start
        have hmono:∀ m a2 w2,Code.roundsIn (zjl r) kd P b (Post V σ1 s1 w1 a1 e fr' s') m a2 w2->Code.roundsIn (zjl r) kd P b (Post V σ s w a e fr' s') m a2 w2:=by
          intro m
          induction m with
          |zero=>intro a2 w2 hx;exact hx
          |succ m ihm =>
            intro a2 w2 hx;rw [roundsIn_succ] at hx ⊢;refine ja ?_ hx;intro e2 a3 w3 hy
            cases e2 with
            |normal=>exact ihm a3 w3 hy
            |exit id=>exact Post.chain k4 k2 c1 c2 hF hI.none hy
            |goto lb=>exact Post.chain k4 k2 c1 c2 hF hI.none hy
            |ret=>exact Post.chain k4 k2 c1 c2 hF hI.none hy
            |panic ch=>exact Post.chain k4 k2 c1 c2 hF hI.none hy
            |outgrown=>exact Post.chain k4 k2 c1 c2 hF hI.none hy
        exact hmono n a1 w1 hrounds
      . rename_i hne;obtain ⟨_,q2,_⟩:=hfacts _ _ _ _ _ _ h;refine ja ?_ (ih1 b fr s e fr' s' σ V w a r kd h hb hr hV hF hI hG hfr hR);rintro e1 a1 w1 ⟨rfl,σ1,k1,k2,k3,k4⟩
        cases e1 with
        |normal=>exact absurd h (hne _ _)
        |exit id=>exact ⟨rfl,σ1,k1,k2,k3,k4⟩
        |ret=>exact ⟨rfl,σ1,k1,k2,k3,k4⟩
        |goto lb=>exact q2.elim
        |panic ch=>exact q2.elim
        |outgrown=>exact q2.elim
    refine ⟨?_,hloop⟩;intro c fr s e fr' s' σ V w a r kd h hok hr hV hF hI hG hfr hR
    cases c with
    |skip=>simp only [cm,dp,du] at h;obtain ⟨rfl,rfl,rfl⟩:=h;exact wpIn_skip ⟨rfl,σ,hfr,znk.refl ..,hr,m8 _ _ _ _⟩
    |label lb=>simp only [cm,dp,du] at h;obtain ⟨rfl,rfl,rfl⟩:=h;exact wpIn_label ⟨rfl,σ,hfr,znk.refl ..,hr,m8 _ _ _ _⟩
    |exit id=>simp only [cm,dp,du] at h;obtain ⟨rfl,rfl,rfl⟩:=h;exact wpIn_exit ⟨rfl,σ,hfr,znk.refl ..,hr,m8 _ _ _ _⟩
    |ret=>simp only [cm,dp,du] at h;obtain ⟨rfl,rfl,rfl⟩:=h;exact wpIn_ret ⟨rfl,σ,hfr,znk.refl ..,hr,m8 _ _ _ _⟩
    |region id ops draw =>
      have h' : (bif draw then match drawC P (zd0 P L ax) (zd6 P (zd0 P L ax) n) ops.toList ops.toList fr s with
          |some (logs,fr,t)=>bif calm s.n ops.toList logs then some (kh,fr,t) else none
          |none=>none
        else match runC P (zd0 P L ax) (zd6 P (zd0 P L ax) n) ops.toList ops.toList fr s with
          |some (fr,s)=>some (kh,fr,s)
          |none=>none)=some (e,fr',s'):=h
      simp only [zcs,dr] at hok
      cases draw with
      |true =>
        simp only [cond_true] at h';split at h'
        . rename_i hd;obtain ⟨hcalm,h'⟩:=zdp h';simp only [dp,du] at h';obtain ⟨rfl,rfl,rfl⟩:=h';refine yn7 hm hE hC hcan hr hV hF hI hG hfr hok.1 (by simpa using hok.2) hd hcalm ?_;intro σ1 a1 w1 k1 k2 k3 k4;exact ⟨rfl,σ1,k1,znk.of_eq k2,k3,k4⟩
        . simp at h'
      |false =>
        simp only [cond_false] at h';split at h'
        . rename_i hd;simp only [dp,du] at h';obtain ⟨rfl,rfl,rfl⟩:=h';refine wpIn_region_list ?_;refine ykq hE hC hcan (fun o ho=>ez.1 hok.1 o ho) (fun o ho=>ez.1 hok.1 o ho) hr hV hF hI hG hfr hd ?_;intro σ1 a1 w1 k1 k2 k3 k4;exact ⟨rfl,σ1,k1,znk.of_eq k2,k3,k4⟩
        . simp at h'
    |seq x y =>
      simp only [zcs,dr] at hok;simp only [cm] at h;refine wpIn_seq ?_;split at h
      . rename_i fr1 s1 h1;obtain ⟨q1,_,q3⟩:=hfacts _ _ _ _ _ _ h1;obtain ⟨r1,_,r3⟩:=hfacts _ _ _ _ _ _ h;have c1:=q3 hI;have c2:=r3 (hI.next c1);refine ja ?_ (ih1 x fr s _ fr1 s1 σ V w a r kd h1 hok.1 hr (hV.back c2) (hF.mono (dz _) c2.n) hI hG hfr hR);rintro e1 a1 w1 ⟨rfl,σ1,k1,k2,k3,k4⟩;show y.wpIn (zjl r) kd P _ a1 w1;refine ja ?_ (ih1 y fr1 s1 e fr' s' σ1 V w1 a1 r kd h (by rw [q1];exact hok.2) k3 hV (hF.next k4 c1) (hI.next c1) (hG.up k4.le) k1 (hR.next k4));intro e2 a2 w2 hy;exact Post.chain k4 k2 c1 c2 hF hI.none hy
      . rename_i hne;obtain ⟨_,q2,_⟩:=hfacts _ _ _ _ _ _ h;refine ja ?_ (ih1 x fr s e fr' s' σ V w a r kd h hok.1 hr hV hF hI hG hfr hR);rintro e1 a1 w1 ⟨rfl,σ1,k1,k2,k3,k4⟩
        cases e1 with
        |normal=>exact absurd h (hne _ _)
        |exit id=>exact ⟨rfl,σ1,k1,k2,k3,k4⟩
        |ret=>exact ⟨rfl,σ1,k1,k2,k3,k4⟩
        |goto lb=>exact q2.elim
        |panic ch=>exact q2.elim
        |outgrown=>exact q2.elim
    |cond x t f =>
      simp only [zcs,dr] at hok;simp only [cm] at h;split at h
      . rename_i bb hb;have hv:VR σ (zgf fr x) (a.eval x):=zqw hG hok.1.1 fun t _=>hfr.val t;rw [hb] at hv;refine wpIn_cond hv.bool ?_
        cases bb with
        |true=>exact ih1 t fr s e fr' s' σ V w a r kd h hok.1.2 hr hV hF hI hG hfr hR
        |false=>exact ih1 f fr s e fr' s' σ V w a r kd h hok.2 hr hV hF hI hG hfr hR
      . simp at h
    |block id b =>
      simp only [zcs] at hok;simp only [cm] at h;refine wpIn_block ?_;split at h
      . rename_i i fr1 s1 h1;simp only [dp,du] at h;obtain ⟨rfl,rfl,rfl⟩:=h;refine ja ?_ (ih1 b fr s _ fr1 s1 σ V w a r kd h1 hok hr hV hF hI hG hfr hR);rintro e1 a1 w1 ⟨rfl,σ1,k1,k2,k3,k4⟩;show (if i=id then _ else _);by_cases hid:i=id
        . rw [zAc hid];refine ⟨?_,σ1,k1,k2,k3,k4⟩;rw [hid,gw];rfl
        . rw [zAd hid];refine ⟨?_,σ1,k1,k2,k3,k4⟩
          have:d7 i id=false:=by
            cases hq:d7 i id with
            |false=>rfl
            |true=>exact absurd (dx hq) hid
          rw [this];rfl
      . rename_i hne;obtain ⟨_,q2,_⟩:=hfacts _ _ _ _ _ _ h;refine ja ?_ (ih1 b fr s e fr' s' σ V w a r kd h hok hr hV hF hI hG hfr hR);rintro e1 a1 w1 ⟨rfl,σ1,k1,k2,k3,k4⟩
        cases e1 with
        |normal=>exact ⟨rfl,σ1,k1,k2,k3,k4⟩
        |exit i=>exact absurd h (hne _ _ _)
        |ret=>exact ⟨rfl,σ1,k1,k2,k3,k4⟩
        |goto lb=>exact q2.elim
        |panic ch=>exact q2.elim
        |outgrown=>exact q2.elim
    |loop b =>
      simp only [zcs] at hok;exact wpIn_loop_rounds (n+1) (hloop b fr s e fr' s' σ V w a r kd h hok hr hV hF hI hG hfr hR)
    |scope b =>
      simp only [zcs] at hok;simp only [cm] at h;obtain ⟨_,q2,_⟩:=hfacts _ _ _ _ _ _ h;refine zoz ?_;refine ja ?_ (ih1 b fr s e fr' s' σ V w a r kd h hok hr hV hF hI hG hfr hR);rintro e1 a1 w1 ⟨rfl,σ1,k1,k2,k3,k4⟩
      cases e1 with
      |normal=>exact ⟨rfl,σ1,k1,k2,k3,k4⟩
      |exit i=>exact ⟨rfl,σ1,k1,k2,k3,k4⟩
      |ret=>exact ⟨rfl,σ1,k1,k2,k3,k4⟩
      |goto lb=>exact q2.elim
      |panic ch=>exact q2.elim
      |outgrown=>exact q2.elim
    |rangeFunc g ps x y =>
      simp only [zcs,dr] at hok;rw [cm] at h;split at h;rotate_left
      . simp at h
      rename_i gf first caps hgv
      split at h;rotate_left
      . exact ydv hC hcan hgv h hok.1.1.1 hr hV hF hI hG hfr hR
      rw [<- hgv] at h;exact yic hA hIt rfl ih1 h hok.1.1.1 (fun p hp=>zac.1 (ez.1 hok.1.1.2 p hp)) hok.1.2 hok.2 hr hV hF hI hG hfr hR
    |goto lb=>simp [cm] at h
    |refuse why=>simp [cm] at h
theorem z6m (f:Nat):zaa cs0.obj f=zdr:=by
  unfold zaa cs0;simp only;rw [zb0];split
  . exact Tr.get_all _ 14 _
  . rfl
theorem ax_no {L:List Nat} {ax:Axs} {f:Nat} (h:ax f=none):(zd0 P L ax).ax f=none:=by
  rw [z0w,h];cases fb f 1099511627776<;>rfl
end
section
variable {P:ep} {Γ:Env}
def zq9 (c c':zc1):Prop:=∀ f args s r,c f args s=some r->c' f args s=some r
theorem ymh {call call':zc1} (h:zq9 call call') {ρ:d8->Value} {o:Oper} {s:CS} {r:Value×CS} (hc:cop P Γ call ρ o s=some r):cop P Γ call' ρ o s=some r:=by
  obtain ⟨dst,op,type,pos,after,guard⟩:=o;unfold cop at hc ⊢
  cases op with
  |call c =>
    simp only at hc ⊢;split at hc
    . rename_i f hf;unfold zme at hc ⊢;split at hc
      . exact h _ _ _ _ hc
      . obtain ⟨hb,hc⟩:=za8 hc;rw [hb,za7];exact h _ _ _ _ hc
      . simp at hc
    . exact hc
    . simp at hc
  |makeMap t r=>cases r<;>exact hc
  |makeFunc fn xs ys=>cases fn<;>exact hc
  |_=>exact hc
theorem zta {call call':zc1} (h:zq9 call call') {ops:List Oper} {o:Oper} {fr:Fr} {s:CS} {r:Fr×CS} (hc:zcj P Γ call ops o fr s=some r):zcj P Γ call' ops o fr s=some r:=by
  unfold zcj at hc ⊢
  cases hw:zc4 ops fr o with
  |false=>rw [hw] at hc;exact hc
  |true =>
    rw [hw] at hc;simp only [cond_true] at hc ⊢;split at hc
    . rename_i h1;rw [ymh h h1];exact hc
    . simp at hc
theorem zz7 {call call':zc1} (h:zq9 call call') {ops:List Oper}:∀ {l:List Oper} {fr:Fr} {s:CS} {r:Fr×CS},runC P Γ call ops l fr s=some r->runC P Γ call' ops l fr s=some r
  |[],_,_,_,hc=>hc
  |o :: l,fr,s,r,hc=>by
    simp only [runC] at hc ⊢;split at hc
    . rename_i h1;rw [zta h h1];exact zz7 h hc
    . simp at hc
theorem z01 {call call':zc1} (h:zq9 call call') {ops:List Oper}:∀ {l:List Oper} {fr:Fr} {s:CS} {r:List Lg×Fr×CS},drawC P Γ call ops l fr s=some r->drawC P Γ call' ops l fr s=some r
  |[],_,_,_,hc=>hc
  |o :: l,fr,s,r,hc=>by
    simp only [drawC] at hc ⊢;split at hc
    . rename_i h1;rw [zta h h1];simp only;split at hc
      . rename_i h2;rw [z01 h h2];exact hc
      . simp at hc
    . simp at hc
theorem z2b {run run':Code->Fr->CS->Option (Exit×Fr×CS)} (hr:∀ c fr s r,run c fr s=some r->run' c fr s=some r) {key:CS->Option (List Nat×CS)} {k0:List Nat} {ps:List Tmp} {a b:Code} {fr:Fr}:∀ (xs:List (List Value)) (s:CS) (r:Exit×CS),zin run key k0 ps a b fr xs s=some r->zin run' key k0 ps a b fr xs s=some r
  |[],s,r,h=>h
  |x :: xs,s,r,h=>by
    rw [zin] at h ⊢;obtain ⟨hl,h⟩:=za8 h;rw [hl,za7];split at h
    . rename_i h1;rw [hr _ _ _ _ h1];simp only;split at h
      . rename_i h2;rw [hr _ _ _ _ h2];simp only;split at h
        . obtain ⟨hs,h⟩:=za8 h;rw [hs,za7];exact z2b hr xs _ _ h
        . simp at h
      . rename_i h2;rw [hr _ _ _ _ h2];exact h
      . rename_i h2;rw [hr _ _ _ _ h2];exact h
      . simp at h
    . simp at h
theorem yb5 {run run':Code->Fr->CS->Option (Exit×Fr×CS)} (hr:∀ c fr s r,run c fr s=some r->run' c fr s=some r):zq9 (zmn run) (zmn run'):=by
  intro f args s r h;unfold zmn at h ⊢;split at h
  . obtain ⟨hb,h⟩:=za8 h;rw [hb,za7];unfold yb4 at h ⊢;split at h
    . rename_i L hL;obtain ⟨hc,h⟩:=za8 h;rw [hc,za7];unfold yb6 at h ⊢;split at h
      . rename_i h1;rw [hr _ _ _ _ h1];simp only;split at h
        . rename_i h2;rw [hr _ _ _ _ h2];exact h
        . simp at h
      . simp at h
    . simp at h
  . simp at h
theorem ydw {call call':zc1} (hc:zq9 call call') {gf:jz} {first caps:List Value} {ps:List Tmp} {a b:Code} {fr:Fr} {s:CS} {r:Exit×Fr×CS} (h:zsc call gf first caps ps a b fr s=some r):zsc call' gf first caps ps a b fr s=some r:=by
  unfold zsc at h ⊢;obtain ⟨hb,h⟩:=za8 h;rw [hb,za7];split at h
  . rename_i h1;rw [hc _ _ _ _ h1];exact h
  . simp at h
theorem z90 {run run':Code->Fr->CS->Option (Exit×Fr×CS)} (hr:∀ c fr s r,run c fr s=some r->run' c fr s=some r):zq9 (zod Γ run) (zod Γ run'):=by
  intro f args s r h;unfold zod at h ⊢;split at h
  . exact h
  split at h
  . split at h
    . rename_i fn hfn _ body hb
      cases hle:fg args.length fn.ntmps with
      |false=>rw [hle] at h;simp [sel] at h
      |true =>
        rw [hle,za7] at h;rw [za7];split at h
        . rename_i h1;rw [hr _ _ _ _ h1];exact h
        . rename_i h1;rw [hr _ _ _ _ h1];exact h
        . simp at h
    . simp at h
  . exact yb5 hr _ _ _ _ h
theorem z23:∀ n,(∀ c fr s r,cm P Γ n c fr s=some r->cm P Γ (n+1) c fr s=some r)/\zq9 (zd6 P Γ n) (zd6 P Γ (n+1)):=by
  intro n
  induction n with
  |zero=>exact ⟨fun c fr s r h=>by simp [cm] at h,z90 fun c fr s r h=>by simp [cm] at h⟩
  |succ n ih =>
    obtain ⟨ih1,ih2⟩:=ih
    have hcode:∀ c fr s r,cm P Γ (n+1) c fr s=some r->cm P Γ (n+1+1) c fr s=some r:=by
      intro c fr s r h
      cases c with
      |region id ops draw =>
        have h' : (bif draw then match drawC P Γ (zd6 P Γ n) ops.toList ops.toList fr s with
            |some (logs,fr,t)=>bif calm s.n ops.toList logs then some (kh,fr,t) else none
            |none=>none
          else match runC P Γ (zd6 P Γ n) ops.toList ops.toList fr s with
            |some (fr,s)=>some (kh,fr,s)
            |none=>none)=some r:=h
        show (bif draw then match drawC P Γ (zd6 P Γ (n + 1)) ops.toList ops.toList fr s with
            |some (logs,fr,t)=>bif calm s.n ops.toList logs then some (kh,fr,t) else none
            |none=>none
          else match runC P Γ (zd6 P Γ (n+1)) ops.toList ops.toList fr s with
            |some (fr,s)=>some (kh,fr,s)
            |none=>none)=some r
        cases draw with
        |true =>
          simp only [cond_true] at h' ⊢;split at h'
          . rename_i h1;rw [z01 ih2 h1];exact h'
          . simp at h'
        |false =>
          simp only [cond_false] at h' ⊢;split at h'
          . rename_i h1;rw [zz7 ih2 h1];exact h'
          . simp at h'
      |seq a b =>
        simp only [cm] at h;rw [cm];split at h
        . rename_i h1;rw [ih1 _ _ _ _ h1];exact ih1 _ _ _ _ h
        . rename_i hne;rw [ih1 _ _ _ _ h];split
          . rename_i h1;simp only [dp] at h1;subst h1;exact absurd h (hne _ _)
          . rfl
      |cond c t e =>
        simp only [cm] at h;rw [cm];split at h
        . exact ih1 _ _ _ _ h
        . simp at h
      |block id b =>
        simp only [cm] at h;rw [cm];split at h
        . rename_i h1;rw [ih1 _ _ _ _ h1];exact h
        . rename_i hne;rw [ih1 _ _ _ _ h];split
          . rename_i h1;simp only [dp] at h1;subst h1;exact absurd h (hne _ _ _)
          . rfl
      |loop b =>
        simp only [cm] at h;rw [cm];split at h
        . rename_i h1;rw [ih1 _ _ _ _ h1];exact ih1 _ _ _ _ h
        . rename_i hne;rw [ih1 _ _ _ _ h];split
          . rename_i h1;simp only [dp] at h1;subst h1;exact absurd h (hne _ _)
          . rfl
      |scope b=>simp only [cm] at h;rw [cm];exact ih1 _ _ _ _ h
      |skip=>exact h
      |label l=>exact h
      |exit id=>exact h
      |ret=>exact h
      |rangeFunc g ps a b =>
        rw [cm] at h ⊢;split at h
        . rename_i gf first caps hg
          split at h
          . rename_i i hit;unfold z2f at h ⊢;simp only [hit] at h ⊢;split at h
            . rename_i i' hf hfirst;split at h
              . rename_i k s1 hk;split at h
                . rename_i e1 s2 h2;have h3:=z2b ih1 _ _ _ h2;simp only [hk,h3];exact h
                . simp at h
              . simp at h
            . simp at h
          . exact ydw ih2 h
        . simp at h
      |goto l=>simp [cm] at h
      |refuse w=>simp [cm] at h
    exact ⟨hcode,z90 hcode⟩
theorem z06 {n m:Nat} (h:n<=m) {c:Code} {fr:Fr} {s:CS} {r:Exit×Fr×CS} (hc:cm P Γ n c fr s=some r):cm P Γ m c fr s=some r:=by
  induction m with
  | zero => have : n = 0 := by omega
            subst this;exact hc
  |succ m ih =>
    by_cases hm:n=m+1
    . subst hm;exact hc
    . exact (z23 m).1 _ _ _ _ (ih (by omega))
theorem zhb {n m:Nat} (h:n<=m):zq9 (zd6 P Γ n) (zd6 P Γ m):=by
  induction m with
  | zero => have : n = 0 := by omega
            subst this;exact fun _ _ _ _ k=>k
  |succ m ih =>
    by_cases hm:n=m+1
    . subst hm;exact fun _ _ _ _ k=>k
    . exact fun f args s r k=>(z23 m).2 _ _ _ _ (ih (by omega) f args s r k)
def Ev (P:ep) (Γ:Env) (c:Code) (fr:Fr) (s:CS) (e:Exit) (fr':Fr) (s':CS):Prop:=∃ n,cm P Γ n c fr s=some (e,fr',s')
def Runs (P:ep) (Γ:Env) (f:jz) (args:List Value) (s:CS) (v:Value) (s':CS):Prop:=∃ n,zd6 P Γ n f args s=some (v,s')
def Ops (P:ep) (Γ:Env) (ops l:List Oper) (fr:Fr) (s:CS) (fr':Fr) (s':CS):Prop:=∃ n,runC P Γ (zd6 P Γ n) ops l fr s=some (fr',s')
theorem Ev.skip (fr:Fr) (s:CS):Ev P Γ .skip fr s .normal fr s:=⟨1,rfl⟩
theorem Ev.ret (fr:Fr) (s:CS):Ev P Γ .ret fr s .ret fr s:=⟨1,rfl⟩
theorem Ev.exit (id:Nat) (fr:Fr) (s:CS):Ev P Γ (.exit id) fr s (.exit id) fr s:=⟨1,rfl⟩
theorem Ev.seq {a b:Code} {fr fr1 fr2:Fr} {s s1 s2:CS} {e:Exit} (h1:Ev P Γ a fr s .normal fr1 s1) (h2:Ev P Γ b fr1 s1 e fr2 s2):Ev P Γ (.seq a b) fr s e fr2 s2:=by
  obtain ⟨n,h1⟩:=h1;obtain ⟨m,h2⟩:=h2;refine ⟨max n m+1,?_⟩;rw [cm,z06 (mf n m) h1];exact z06 (lz n m) h2
theorem Ev.seqOut {a b:Code} {fr fr1:Fr} {s s1:CS} {e:Exit} (h1:Ev P Γ a fr s e fr1 s1) (he:e≠.normal):Ev P Γ (.seq a b) fr s e fr1 s1:=by
  obtain ⟨n,h1⟩:=h1;refine ⟨n+1,?_⟩;rw [cm,h1];cases e<;>first|exact absurd rfl he|rfl
theorem Ev.cond {c:d8} {t f:Code} {fr fr':Fr} {s s':CS} {e:Exit} {b:Bool} (hb:zgf fr c=.bool b) (h:Ev P Γ (bif b then t else f) fr s e fr' s'):Ev P Γ (.cond c t f) fr s e fr' s':=by
  obtain ⟨n,h⟩:=h;refine ⟨n+1,?_⟩;rw [cm,hb];exact h
theorem Ev.block {id:Nat} {b:Code} {fr fr':Fr} {s s':CS} {e:Exit} (h:Ev P Γ b fr s e fr' s'):Ev P Γ (.block id b) fr s (match e with|.exit i=>(bif d7 i id then .normal else .exit i)|e=>e) fr' s':=by
  obtain ⟨n,h⟩:=h;refine ⟨n+1,?_⟩;rw [cm,h];cases e<;>rfl
theorem Ev.scope {b:Code} {fr fr':Fr} {s s':CS} {e:Exit} (h:Ev P Γ b fr s e fr' s'):Ev P Γ (.scope b) fr s e fr' s':=by
  obtain ⟨n,h⟩:=h;exact ⟨n+1,h⟩
theorem Ev.again {b:Code} {fr fr1 fr2:Fr} {s s1 s2:CS} {e:Exit} (h1:Ev P Γ b fr s .normal fr1 s1) (h2:Ev P Γ (.loop b) fr1 s1 e fr2 s2):Ev P Γ (.loop b) fr s e fr2 s2:=by
  obtain ⟨n,h1⟩:=h1;obtain ⟨m,h2⟩:=h2;refine ⟨max n m+1,?_⟩;rw [cm,z06 (mf n m) h1];exact z06 (lz n m) h2
theorem Ev.last {b:Code} {fr fr1:Fr} {s s1:CS} {e:Exit} (h1:Ev P Γ b fr s e fr1 s1) (he:e≠.normal):Ev P Γ (.loop b) fr s e fr1 s1:=by
  obtain ⟨n,h1⟩:=h1;refine ⟨n+1,?_⟩;rw [cm,h1];cases e<;>first|exact absurd rfl he|rfl
theorem Ev.region {id:Nat} {ops:List Oper} {fr fr':Fr} {s s':CS} (h:Ops P Γ ops ops fr s fr' s'):Ev P Γ (.region id ops.toArray false) fr s .normal fr' s':=by
  obtain ⟨n,h⟩:=h;refine ⟨n+1,?_⟩
  show (match runC P Γ (zd6 P Γ n) ops.toArray.toList ops.toArray.toList fr s with
            |some (fr,s)=>some (kh,fr,s)
            |none=>none)=_
  simp only [List.toList_toArray,h]
theorem Ops.nil {ops:List Oper} (fr:Fr) (s:CS):Ops P Γ ops [] fr s fr s:=⟨0,rfl⟩
theorem Ops.cons {ops:List Oper} {o:Oper} {l:List Oper} {fr fr2:Fr} {s s1 s2:CS} {v:Value} (hw:zc4 ops fr o=true) (h1:∃ n,cop P Γ (zd6 P Γ n) (zgf fr) o s=some (v,s1)) (h2:Ops P Γ ops l (putC fr o.dst v) s1 fr2 s2):Ops P Γ ops (o :: l) fr s fr2 s2:=by
  obtain ⟨n,h1⟩:=h1;obtain ⟨m,h2⟩:=h2;refine ⟨max n m,?_⟩;rw [runC,zcj,hw,cond_true,ymh (zhb (mf n m)) h1];exact zz7 (zhb (lz n m)) h2
theorem Ops.skip {ops:List Oper} {o:Oper} {l:List Oper} {fr fr2:Fr} {s s2:CS} (hw:zc4 ops fr o=false) (h2:Ops P Γ ops l (putC fr o.dst undef) s fr2 s2):Ops P Γ ops (o :: l) fr s fr2 s2:=by
  obtain ⟨m,h2⟩:=h2;refine ⟨m,?_⟩;rw [runC,zcj,hw,cond_false];exact h2
theorem Runs.of {f:jz} {fn:Func} {body:Code} {args vs:List Value} {s s1 s2:CS} {fr':Fr} (hax:Γ.ax f=none) (hf:Γ.fn.at f=some fn) (hb:fn.body=some body) (hl:args.length<=fn.ntmps) {e:Exit} (he:e=.normal\/e=.ret)
    (h:Ev P Γ body (mi args 0 ⟨fn.ntmps,p8 undef 9⟩) s e fr' s1) (hr:resC Γ fr' s1 fn.results.toList=some (vs,s2)):Runs P Γ f args s (tupC vs) s2:=by
  obtain ⟨n,h⟩:=h;refine ⟨n,?_⟩;unfold zd6 zod;rw [hax,hf];simp only [hb];rw [zax.2 hl,za7,h];rcases he with rfl|rfl<;>simp only [hr]
end
section
variable {P:ep} {Γ:Env}
open Classical in
def zem (P:ep) (Γ:Env):zc1:=fun f args s=>if h:∃ r:Value×CS,∃ n,zd6 P Γ n f args s=some r then some h.choose else none
theorem zlj {f:jz} {args:List Value} {s:CS} {r:Value×CS} (h:zem P Γ f args s=some r):∃ n,zd6 P Γ n f args s=some r:=by
  unfold zem at h;split at h
  . rename_i hx;obtain ⟨n,hn⟩:=hx.choose_spec;simp only [dp] at h;exact ⟨n,by rw [<- h];exact hn⟩
  . simp at h
theorem z92 {f:jz} {args:List Value} {s:CS} {r:Value×CS} {n:Nat} (h:zd6 P Γ n f args s=some r):zem P Γ f args s=some r:=by
  unfold zem;have hx:∃ r:Value×CS,∃ n,zd6 P Γ n f args s=some r:=⟨r,n,h⟩;rw [dif_pos hx];obtain ⟨m,hm⟩:=hx.choose_spec;have h1:=zhb (P:=P) (Γ:=Γ) (mf n m) f args s _ h;have h2:=zhb (P:=P) (Γ:=Γ) (lz n m) f args s _ hm;rw [h1] at h2;exact h2.symm
theorem cop_R {ρ:d8->Value} {o:Oper} {s:CS} {r:Value×CS} (hc:cop P Γ (zem P Γ) ρ o s=some r):∃ n,cop P Γ (zd6 P Γ n) ρ o s=some r:=by
  obtain ⟨dst,op,type,pos,after,guard⟩:=o;unfold cop at hc ⊢
  cases op with
  |call c =>
    simp only at hc ⊢;split at hc
    . rename_i f hf;unfold zme at hc ⊢;split at hc
      . exact zlj hc
      . obtain ⟨hb,hc⟩:=za8 hc;obtain ⟨n,hn⟩:=zlj hc;exact ⟨n,by rw [hb,za7];exact hn⟩
      . simp at hc
    . exact ⟨0,hc⟩
    . simp at hc
  |makeMap t r=>cases r<;>exact ⟨0,hc⟩
  |makeFunc fn xs ys=>cases fn<;>exact ⟨0,hc⟩
  |_=>exact ⟨0,hc⟩
theorem ycw {ops:List Oper} {o:Oper} {fr:Fr} {s:CS} {r:Fr×CS} (hc:zcj P Γ (zem P Γ) ops o fr s=some r):∃ n,zcj P Γ (zd6 P Γ n) ops o fr s=some r:=by
  unfold zcj at hc ⊢
  cases hw:zc4 ops fr o with
  |false=>rw [hw] at hc;exact ⟨0,hc⟩
  |true =>
    rw [hw] at hc;simp only [cond_true] at hc ⊢;split at hc
    . rename_i h1;obtain ⟨n,hn⟩:=cop_R h1;exact ⟨n,by rw [hn];exact hc⟩
    . simp at hc
theorem ykr {ops:List Oper}:∀ {l:List Oper} {fr:Fr} {s:CS} {r:Fr×CS},runC P Γ (zem P Γ) ops l fr s=some r->∃ n,runC P Γ (zd6 P Γ n) ops l fr s=some r
  |[],_,_,_,hc=>⟨0,hc⟩
  |o :: l,fr,s,r,hc=>by
    simp only [runC] at hc ⊢;split at hc
    . rename_i h1;obtain ⟨n,hn⟩:=ycw h1;obtain ⟨m,hm⟩:=ykr hc;refine ⟨max n m,?_⟩;rw [zta (zhb (mf n m)) hn];exact zz7 (zhb (lz n m)) hm
    . simp at hc
theorem ygy {ops:List Oper}:∀ {l:List Oper} {fr:Fr} {s:CS} {r:List Lg×Fr×CS},drawC P Γ (zem P Γ) ops l fr s=some r->∃ n,drawC P Γ (zd6 P Γ n) ops l fr s=some r
  |[],_,_,_,hc=>⟨0,hc⟩
  |o :: l,fr,s,r,hc=>by
    simp only [drawC] at hc ⊢;split at hc
    . rename_i h1;obtain ⟨n,hn⟩:=ycw h1;split at hc
      . rename_i h2;obtain ⟨m,hm⟩:=ygy h2;refine ⟨max n m,?_⟩;rw [zta (zhb (mf n m)) hn];simp only;rw [z01 (zhb (lz n m)) hm];exact hc
      . simp at hc
    . simp at hc
def W (P:ep) (Γ:Env) (c:Code) (fr:Fr) (s:CS) (Q:Exit->Fr->CS->Prop):Prop:=∃ e fr' s',Ev P Γ c fr s e fr' s'/\Q e fr' s'
def onN (k:Fr->CS->Prop) (Q:Exit->Fr->CS->Prop) (e:Exit) (fr:Fr) (s:CS):Prop:=match e with
  |.normal=>k fr s
  |e=>Q e fr s
def onB (id:Nat) (Q:Exit->Fr->CS->Prop) (e:Exit) (fr:Fr) (s:CS):Prop:=match e with
  |.exit i=>bif d7 i id then Q .normal fr s else Q (.exit i) fr s
  |e=>Q e fr s
theorem W.mono {c:Code} {fr:Fr} {s:CS} {Q R:Exit->Fr->CS->Prop} (h:W P Γ c fr s Q) (k:∀ e fr s,Q e fr s->R e fr s):W P Γ c fr s R:=by
  obtain ⟨e,fr',s',h1,h2⟩:=h;exact ⟨e,fr',s',h1,k _ _ _ h2⟩
theorem W.skip {fr:Fr} {s:CS} {Q:Exit->Fr->CS->Prop} (h:Q .normal fr s):W P Γ .skip fr s Q:=⟨_,_,_,Ev.skip fr s,h⟩
theorem W.ret {fr:Fr} {s:CS} {Q:Exit->Fr->CS->Prop} (h:Q .ret fr s):W P Γ .ret fr s Q:=⟨_,_,_,Ev.ret fr s,h⟩
theorem W.exit {id:Nat} {fr:Fr} {s:CS} {Q:Exit->Fr->CS->Prop} (h:Q (.exit id) fr s):W P Γ (.exit id) fr s Q:=⟨_,_,_,Ev.exit id fr s,h⟩
theorem W.label {l:Nat} {fr:Fr} {s:CS} {Q:Exit->Fr->CS->Prop} (h:Q .normal fr s):W P Γ (.label l) fr s Q:=⟨_,_,_,⟨1,rfl⟩,h⟩
theorem W.seq {a b:Code} {fr:Fr} {s:CS} {Q:Exit->Fr->CS->Prop} (h:W P Γ a fr s (onN (fun fr s=>W P Γ b fr s Q) Q)):W P Γ (.seq a b) fr s Q:=by
  obtain ⟨e,fr1,s1,h1,h2⟩:=h
  cases e with
  |normal =>
    obtain ⟨e2,fr2,s2,h3,h4⟩:=h2;exact ⟨_,_,_,Ev.seq h1 h3,h4⟩
  |_=>exact ⟨_,_,_,Ev.seqOut h1 (by simp),h2⟩
theorem W.cond {c:d8} {t f:Code} {fr:Fr} {s:CS} {Q:Exit->Fr->CS->Prop} {b:Bool} (hb:zgf fr c=.bool b) (h:W P Γ (bif b then t else f) fr s Q):W P Γ (.cond c t f) fr s Q:=by
  obtain ⟨e,fr1,s1,h1,h2⟩:=h;exact ⟨_,_,_,Ev.cond hb h1,h2⟩
theorem W.block {id:Nat} {b:Code} {fr:Fr} {s:CS} {Q:Exit->Fr->CS->Prop} (h:W P Γ b fr s (onB id Q)):W P Γ (.block id b) fr s Q:=by
  obtain ⟨e,fr1,s1,h1,h2⟩:=h;refine ⟨_,_,_,Ev.block h1,?_⟩
  cases e with
  |exit i =>
    simp only [onB] at h2;show Q (bif d7 i id then .normal else .exit i) fr1 s1
    cases hq:d7 i id with
    |true=>rw [hq] at h2;exact h2
    |false=>rw [hq] at h2;exact h2
  |_=>exact h2
theorem W.scope {b:Code} {fr:Fr} {s:CS} {Q:Exit->Fr->CS->Prop} (h:W P Γ b fr s Q):W P Γ (.scope b) fr s Q:=by
  obtain ⟨e,fr1,s1,h1,h2⟩:=h;exact ⟨_,_,_,Ev.scope h1,h2⟩
theorem W.loop {b:Code} {Q:Exit->Fr->CS->Prop} (I:Nat->Fr->CS->Prop) (hb:∀ n fr s,I n fr s->W P Γ b fr s (onN (fun fr s=>∃ m,m<n/\I m fr s) Q)):∀ n fr s,I n fr s->W P Γ (.loop b) fr s Q:=by
  intro n
  induction n using Nat.strongRecOn with
  |_ n ih =>
    intro fr s hI;obtain ⟨e,fr1,s1,h1,h2⟩:=hb n fr s hI
    cases e with
    |normal =>
      obtain ⟨m,hm,hI'⟩:=h2;obtain ⟨e2,fr2,s2,h3,h4⟩:=ih m hm fr1 s1 hI';exact ⟨_,_,_,Ev.again h1 h3,h4⟩
    |_=>exact ⟨_,_,_,Ev.last h1 (by simp),h2⟩
theorem W.region {id:Nat} {ops:Array Oper} {fr fr':Fr} {s s':CS} {Q:Exit->Fr->CS->Prop} (h:runC P Γ (zem P Γ) ops.toList ops.toList fr s=some (fr',s')) (hq:Q .normal fr' s'):W P Γ (.region id ops false) fr s Q:=by
  obtain ⟨n,hn⟩:=ykr h;refine ⟨_,_,_,⟨n+1,?_⟩,hq⟩
  show (match runC P Γ (zd6 P Γ n) ops.toList ops.toList fr s with
            |some (fr,s)=>some (kh,fr,s)
            |none=>none)=_
  rw [hn]
theorem W.draw {id:Nat} {ops:Array Oper} {fr fr':Fr} {s s':CS} {logs:List Lg} {Q:Exit->Fr->CS->Prop} (h:drawC P Γ (zem P Γ) ops.toList ops.toList fr s=some (logs,fr',s')) (hc:calm s.n ops.toList logs=true) (hq:Q .normal fr' s'):W P Γ (.region id ops true) fr s Q:=by
  obtain ⟨n,hn⟩:=ygy h;refine ⟨_,_,_,⟨n+1,?_⟩,hq⟩
  show (match drawC P Γ (zd6 P Γ n) ops.toList ops.toList fr s with
        |some (logs,fr,t)=>bif calm s.n ops.toList logs then some (kh,fr,t) else none
        |none=>none)=_
  rw [hn];simp only [hc,cond_true]
theorem zrw {f:jz} {fn:Func} {body:Code} {args:List Value} {s s2:CS} {v:Value} (hax:Γ.ax f=none) (hf:Γ.fn.at f=some fn) (hb:fn.body=some body) (hl:args.length<=fn.ntmps)
    (h:W P Γ body (mi args 0 ⟨fn.ntmps,p8 undef 9⟩) s fun e fr' s1=>(e=.normal\/e=.ret)/\∃ vs,resC Γ fr' s1 fn.results.toList=some (vs,s2)/\v=tupC vs):zem P Γ f args s=some (v,s2):=by
  obtain ⟨e,fr1,s1,h1,he,vs,hr,rfl⟩:=h;obtain ⟨n,hn⟩:=Runs.of hax hf hb hl he h1 hr;exact z92 hn
end
section
variable {P:ep} {Γ:Env} {ρ:d8->Value} {s:CS} {d:Option Tmp} {ty:ed} {pos:String} {t t2:ed} {x y:d8}
theorem yij (d:je) (k:fx) (n:Int):nilT d (.int k n)=none:=by cases d<;>rfl
theorem yn6 (op:BinOp) (k:fx) (n:Int) (v:Value):eqC Γ t op (.int k n) v=none:=by
  unfold eqC
  cases Γ.ti.at t with
  |none=>rfl
  |some i=>cases op<;>first|rfl | (simp only [yij];rfl)
theorem z6i (op:BinOp) (k k':fx) (m n:Int):eqGuard op t x y (.int k m) (.int k' n)=pure ():=by
  unfold eqGuard;cases op<;>simp
theorem zbz {op:BinOp} {k k':fx} {a b:Int} {r:Value} {o:Oper} (ho:o.op=.binOp op t x y t2) (hx:ρ x=.int k a) (hy:ρ y=.int k' b) (w:World)
    (hr:binOp op t (.int k a) (.int k' b)=pure r) (hp:zav 3 r=true):zld P Γ ρ o s t op (.int k a) (.int k' b)=some (r,s):=by
  unfold zld
  cases hc:binC op (.int k a) (.int k' b) with
  |some v =>
    have h1:=(yac (σ:=fun _ _=>none) (P:=P) (t:=t) (x:=x) (y:=y) (w:=w) hc (VR.ofInt _ _) (VR.ofInt _ _)).2.1;rw [hr] at h1;simp at h1
    simp only [h1]
  |none =>
    rw [yn6];simp only [zf9];unfold zm1
    have hops:(o.op.operands.toList.all fun z=>zav 3 (ρ z))=true:=by
      rw [ho];simp [eg,hx,hy,zav]
    rw [hops]
    have he:jo ρ o=pure (.value r):=by
      unfold jo;rw [ho];simp only [hx,hy,z6i,hr];simp
    rw [he];simp only [cond_true];show retC s (bif zav 3 r then some r else none)=some (r,s);rw [hp];rfl
variable {e:Array Edge} {g:Option (Nat×Bool)} {k k':fx} {a b:Int}
def inK (k:fx) (n:Int):Prop:=k.wrap n=n
theorem ynz {n:Int} (h:-9223372036854775808<=n/\n<=9223372036854775807):inK .i64 n:=by unfold inK;simp [IntKind.wrap,IntKind.bits,IntKind.signed];omega
theorem ztb {o:Oper} {r:Value} (hops:(o.op.operands.toList.all fun z=>zav 3 (ρ z))=true) (he:jo ρ o=pure (.value r)) (hp:zav 3 r=true):zm1 P ρ o=some r:=by
  unfold zm1;rw [hops,he];simp only [cond_true];show (bif zav 3 r then some r else none)=some r;rw [hp];rfl
theorem ypr (hx:ρ x=.int k a):zf9 P ρ ⟨d,.unOp .neg t x,ty,pos,e,g⟩ s (unC .neg (.int k a))=some (.int k (k.wrap (0 - a)),s):=by
  show retC s (zm1 P ρ _)=_;rw [ztb (r:=.int k (k.wrap (0 - a)))]
  . rfl
  . simp [eg,hx,zav]
  . simp [jo,hx,Op.unary,Op.intArith]
  . rfl
theorem ypq (hx:ρ x=.int k a):zf9 P ρ ⟨d,.unOp .xor t x,ty,pos,e,g⟩ s (unC .xor (.int k a))=some (.int k (k.wrap (ge k.bits (if k.signed then -1 else k.max) ^^^ ge k.bits a).toNat),s):=by
  show retC s (zm1 P ρ _)=_;rw [ztb (r:=.int k (k.wrap (ge k.bits (if k.signed then -1 else k.max) ^^^ ge k.bits a).toNat))]
  . rfl
  . simp [eg,hx,zav]
  . simp [jo,hx,Op.unary,Op.intBits]
  . rfl
theorem zg9 {α β:Type} {f:α->Sem β}:∀ {m:Sem α} {v:α},zch P m=some v->zch P (m >>= f)=zch P (f v):=by
  intro m
  induction m with
  |pure a=>intro v h;simp only [zch,dp] at h;subst h;rfl
  |program k ih=>intro v h;exact ih P h
  |_=>intro v h;simp [zch] at h
theorem ze8 {dt:je} (h:P.underlying t=some dt):zch P (underlying t)=some dt:=by
  unfold underlying;show zch P ((program:Sem ep) >>= _)=_;rw [zg9 (v:=P) rfl];rw [h];rfl
theorem ypt {src dst:ed} (hx:∃ k,ρ x=.int k a) (hs:(P.underlying src).isSome=true) (hd:P.underlying dst=some (.int k')):zf9 P ρ ⟨d,.convert src dst x,ty,pos,e,g⟩ s (ybp k' a)=some (.int k' (k'.wrap a),s):=by
  obtain ⟨k,hx⟩:=hx;obtain ⟨sd,hs⟩:=Option.isSome_iff_exists.1 hs
  have h:zch P (convert src dst (.int k a))=some (.int k' (k'.wrap a)):=by
    unfold convert;rw [zg9 (ze8 hs),zg9 (ze8 hd)];cases sd<;>rfl
  cases hc:ybp k' a with
  |some v =>
    unfold ybp at hc;split at hc
    . obtain ⟨h1,rfl⟩:=zek hc;have:=zh4 k' _ (zac.1 h1);simp only [zf9];rw [<- this];rfl
    . simp at hc
  |none =>
    show retC s (zm1 P ρ _)=_;unfold zm1;rw [show (((⟨d,.convert src dst x,ty,pos,e,g⟩:Oper).op.operands.toList.all fun z=>zav 3 (ρ z))=true) by simp [eg,hx,zav]]
    have he:zch P (jo ρ ⟨d,.convert src dst x,ty,pos,e,g⟩)=some (.value (.int k' (k'.wrap a))):=by
      unfold jo;simp only [hx];rw [zg9 h];rfl
    rw [he];rfl
end
section
variable {P:ep} {Γ:Env} {call:zc1} {ops l:List Oper} {o:Oper} {fr:Fr} {s:CS}
variable {ρ:d8->Value} {d:Option Tmp} {ty:ed} {pos:String} {e:Array Edge} {g:Option (Nat×Bool)}
theorem yji {x:d8}:cop P Γ call ρ ⟨d,.move x,ty,pos,e,g⟩ s=some (ρ x,s):=d6 rfl rfl
theorem ybo {x:d8}:cop P Γ call ρ ⟨d,.assign x,ty,pos,e,g⟩ s=some (ρ x,s):=d6 rfl rfl
theorem yoc {op:BinOp} {t t2:ed} {x y:d8}:cop P Γ call ρ ⟨d,.binOp op t x y t2,ty,pos,e,g⟩ s=zld P Γ ρ ⟨d,.binOp op t x y t2,ty,pos,e,g⟩ s t op (ρ x) (ρ y):=d6 rfl rfl
theorem yp8 {op:UnOp} {t:ed} {x:d8}:cop P Γ call ρ ⟨d,.unOp op t x,ty,pos,e,g⟩ s=zf9 P ρ ⟨d,.unOp op t x,ty,pos,e,g⟩ s (unC op (ρ x)):=d6 rfl rfl
theorem yjk {f:jz} {args:Array d8} {tys:Array ed}:cop P Γ call (zgf fr) ⟨d,.call ⟨.value (.func f),args,tys⟩,ty,pos,e,g⟩ s=call f (args.toList.map (zgf fr)) s:=by
  show zme call s (args.toList.map (zgf fr)) (.func (.func f) #[] #[])=_;simp [zme]
theorem yjh {c a b:d8}:cop P Γ call ρ ⟨d,.pick c a b,ty,pos,e,g⟩ s=zse s (ρ a) (ρ b) (ρ c):=d6 rfl rfl
theorem z03 {t:ed} {x ix:d8}:cop P Γ call ρ ⟨d,.indexAddr t x ix,ty,pos,e,g⟩ s=zbr Γ s t (ρ x) (zgs (ρ ix)):=d6 rfl rfl
theorem yjj {t:ed} {x:d8}:cop P Γ call ρ ⟨d,.load t x,ty,pos,e,g⟩ s=zop Γ s t (ρ x):=d6 rfl rfl
theorem yg2 {t:ed} {x v:d8}:cop P Γ call ρ ⟨d,.store t x v,ty,pos,e,g⟩ s=zkm Γ s t (ρ v).cells.toList (ρ x):=d6 rfl rfl
theorem yg4 {t:ed}:cop P Γ call ρ ⟨d,.alloc t,ty,pos,e,g⟩ s=zko Γ s t:=d6 rfl rfl
theorem yob {t:ed} {x:d8}:cop P Γ call ρ ⟨d,.box t x,ty,pos,e,g⟩ s=ptrC (s.newRow 0 (ρ x).cells.toList):=d6 rfl rfl
theorem yg3 {t:ed} {parts:Array (Nat×d8)}:cop P Γ call ρ ⟨d,.build t parts,ty,pos,e,g⟩ s=zio Γ s ρ t parts.toList:=d6 rfl rfl
theorem z04 {t:ed} {x:d8} {k:Nat}:cop P Γ call ρ ⟨d,.fieldAddr t x k,ty,pos,e,g⟩ s=zc7 Γ s t k (ρ x):=d6 rfl rfl
theorem z6n {x:d8} {k:Nat}:cop P Γ call ρ ⟨d,.extract x k,ty,pos,e,g⟩ s=zgr s k (ρ x):=d6 rfl rfl
end
def Fr.of (n:Nat) (f:Nat->Value):Fr:=⟨n,Tr.of f 9 0 1⟩
theorem get_of (n:Nat) (f:Nat->Value) (t:Nat) (h:t<512):(Fr.of n f).get t=f t:=by
  unfold Fr.get Fr.of;rw [zac.2 h,za7,Tr.get_of f 9 0 1 t (by simpa using h)];simp
theorem yql (n:Nat):(⟨n,p8 undef 9⟩:Fr)=Fr.of n fun _=>undef:=by
  unfold Fr.of;refine congrArg (Fr.mk n) ?_
  have:∀ d k w,p8 undef d=Tr.of (fun _=>undef) d k w:=by
    intro d
    induction d with
    |zero=>intro k w;rfl
    |succ d ih =>
      intro k w;exact congr (congrArg Prod.mk (ih k (2*w))) (ih (k+w) (2*w))
  exact this 9 0 1
section
variable {P:ep} {Γ:Env}
theorem yjq {f:jz} {fn:Func} {body:Code} {args:List Value} {s:CS} {r:Value×CS} (n:Nat) (hax:Γ.ax f=none) (hf:Γ.fn.at f=some fn) (hb:fn.body=some body) (hn:fn.ntmps=n) (hl:args.length<=n)
    (h:W P Γ body (mi args 0 (Fr.of n fun _=>undef)) s fun e fr' s1=>(e=.normal\/e=.ret)/\∃ vs,resC Γ fr' s1 fn.results.toList=some (vs,r.2)/\r.1=tupC vs):zem P Γ f args s=some r:=by
  subst hn;refine zrw (v:=r.1) (s2:=r.2) hax hf hb hl ?_;rw [yql];exact h
end
def vb (x:UInt8):Value:=.int .u8 (x.toNat:Int)
section
variable {P:ep} {Γ:Env} {ρ:d8->Value} {s:CS} {d:Option Tmp} {ty:ed} {pos:String} {t t2:ed} {x y:d8} {e:Array Edge} {g:Option (Nat×Bool)}
end
section
variable {P:ep} {Γ:Env} {call:zc1} {ops l:List Oper} {o:Oper} {fr:Fr} {s:CS}
def ypa {α:Type} (n0:Nat) (s:CS) (r:Option (Fr×CS)) (k:Fr->CS->Option α):Option α:=match r with
  |some (fr,t)=>bif t.wr.isEmpty && t.rd.all fun f=>fb f n0 then k fr (s.outer t) else none
  |none=>none
def z2m (P:ep) (Γ:Env) (call:zc1) (ops:List Oper) (n0:Nat):List Oper->Fr->CS->Option (Fr×CS)
  |[],fr,s=>some (fr,s)
  |o :: l,fr,s=>ypa n0 s (zcj P Γ call ops o fr s.inner) (z2m P Γ call ops n0 l)
theorem zy7 {n0:Nat}:∀ {l:List Oper} {fr fr':Fr} {s s':CS},z2m P Γ call ops n0 l fr s=some (fr',s')->∃ logs,drawC P Γ call ops l fr s=some (logs,fr',s')/\logs.all (fun x=>x.wr.isEmpty && x.rd.all fun f=>fb f n0)=true
  |[],fr,fr',s,s',h=>by
    simp only [z2m,dp,du] at h;obtain ⟨rfl,rfl⟩:=h;exact ⟨[],rfl,rfl⟩
  |o :: l,fr,fr',s,s',h=>by
    simp only [z2m,ypa] at h;split at h
    . rename_i fr1 t h1
      cases hq:t.wr.isEmpty && t.rd.all fun f=>fb f n0 with
      |false=>rw [hq] at h;simp at h
      |true =>
        rw [hq] at h;simp only [cond_true] at h;obtain ⟨logs,h2,h3⟩:=zy7 h;refine ⟨⟨t.rd,t.wr,s.n,t.n⟩ :: logs,?_,?_⟩
        . simp only [drawC,h1,h2]
        . rw [ii,h3,mj];exact hq
    . simp at h
theorem W.quiet {id:Nat} {ops:Array Oper} {fr fr':Fr} {s s':CS} {Q:Exit->Fr->CS->Prop} (h:z2m P Γ (zem P Γ) ops.toList s.n ops.toList fr s=some (fr',s')) (hq:Q .normal fr' s'):W P Γ (.region id ops true) fr s Q:=by
  obtain ⟨logs,h1,h2⟩:=zy7 h;refine W.draw h1 ?_ hq;unfold calm;rw [h2];rfl
end
def fupd (g:Nat->Fam) (i:Nat) (x:Fam):Nat->Fam:=fun j=>if j=i then x else g j
theorem ze7 (g:Nat->Fam) (i:Nat) (x:Fam):fupd g i x i=x:=zAc rfl
theorem zh1 (g:Nat->Fam) (i j:Nat) (x:Fam) (h:j≠i):fupd g i x j=g j:=zAd h
abbrev St (n:Nat) (g:Nat->Fam) (lim:Nat) (rd wr:List Nat):CS:=⟨n,.inr g,lim,rd,wr⟩
theorem zqc (g:Nat->Fam) (i:Nat):zaa (.inr g) i=g i:=d6 rfl rfl
theorem zff (g:Nat->Fam) (i:Nat) (x:Fam):zal (.inr g) i x=.inr (fupd g i x):=by
  show Sum.inr _=Sum.inr _;congr 1;funext j;rw [zb0];unfold fupd;by_cases h:j=i
  . rw [zAc h,zAc (by subst h;exact gw j)]
  . rw [zAd h,zAd (fun k=>h (dx k))]
section
variable {n lim n':Nat} {g g':Nat->Fam} {rd wr:List Nat}
theorem yk2 {m f:Nat} (l:List Nat) (h:m<=f):ins m l f=l:=by
  unfold ins
  cases hb:fb f m with
  |false=>rfl
  |true=>exact absurd (zac.1 hb) (by omega)
theorem z21 {tag:Nat} {cs:List Value}:pt (St n g lim rd wr) tag cs=some (mkA n (n*1024+tag) 0,St (n+1) (fupd g n ⟨false,[(n*1024+tag,cs)],none,none⟩) lim rd wr):=by
  unfold pt;show sel true _ _=_;rw [za7,zff]
theorem yaw {a : Addr} : p9 (St n g lim rd wr) a = match zbu (g a.block).rows (Addr.ver a) with
    |some cs=>some (cs,St n g lim (ins lim rd a.block) wr)
    |none=>none:=rfl
theorem z2a {u:Nat} {cs:List Value}:zbu [(u,cs)] u=some cs:=by
  unfold zbu;rw [gw];rfl
theorem zl9 {f u off:Nat}:(mkA f u off).block=f:=d6 rfl rfl
theorem zsf {f u off:Nat}:(mkA f u off).off=off:=d6 rfl rfl
theorem zjm {f u off:Nat}:Addr.ver (mkA f u off)=u:=d6 rfl rfl
theorem zju {f u off k:Nat}:Addr.plus (mkA f u off) k=mkA f u (off+k):=d6 rfl rfl
end
section
def famK:List (Nat×List Value)->Nat->Fam
  |[],_=>zdr
  |(g,cs) :: l,f=>if f=g then ⟨true,[(g*1024,cs)],none,none⟩ else famK l f
def yow (w:World) (K:List (Nat×List Value)):Prop :=
  ∀ p,p∈K->p.1<w.heap.size/\∀ (j:Nat) (u:Value),p.2[j]?=some u->w.cell? ⟨p.1,j,none⟩=some u/\zav 3 u=true
open Classical in
theorem zv0:∀ {K:List (Nat×List Value)} {f:Nat} {p:Nat×List Value},p∈(famK K f).rows->p.1=f*1024/\(f,p.2)∈K/\(famK K f).rows=[p]
  |[],f,p,h=>by simp [famK,zdr] at h
  |(g,cs) :: l,f,p,h=>by
    simp only [famK] at h ⊢;split at h
    . rename_i hf;subst hf;simp only [kb] at h;subst h;simp
    . rename_i hf;obtain ⟨h1,h2,h3⟩:=zv0 h;rw [zAd hf];exact ⟨h1,lf _ h2,h3⟩
section
variable {P:ep}
end
end
structure AxOk (P:ep) (G:List Nat) (f:Nat) (h:List Value->CS->Option (Value×CS)):Prop where
  can:∀ args s v s',h args s=some (v,s')->CInv s->Can s s'
  ok:∀ (args:List Value) (args':Array Value) s v s' w σ V,h args s=some (v,s')->RL (VR σ) args args'.toList->Rel σ V s w->zbi V s'->zd1 σ s.n s'.n->CInv s->zil G σ ->
    (callFunc f args').run P w=.ok (.enter f args') w/\Calls P f args' w fun e w'=>∃ σ' v',e=.returned v'/\VR σ' v v'/\Rel σ' V s' w'/\Ext σ V s w σ' s' w'
structure zmb (P:ep) (G L:List Nat) (ax:Axs):Prop where
  fns:∀ f h,ax f=some h->AxOk P G f h
  its:z43 P L
section
variable {P:ep} {G L:List Nat} {ax:Axs}
theorem yaf {f:Nat} {args:List Value} {s:CS} {r:Value×CS} (h:axC (zd0 P L ax) f args s=some r):(match ax f with|some k=>k args s|none=>none)=some r:=by
  unfold axC at h;rw [z0w] at h
  cases hb:fb f 1099511627776 with
  |false=>rw [hb] at h;exact absurd h (by simp [sel])
  |true=>rw [hb,za7] at h;exact h
theorem zmb.can (h:zmb P G L ax):ze4 (axC (zd0 P L ax)):=by
  intro f args s v s' hc hI;have hc:=yaf hc
  cases hq:ax f with
  |none=>rw [hq] at hc;simp at hc
  |some k=>rw [hq] at hc;exact (h.fns f k hq).can args s v s' hc hI
theorem zmb.call (h:zmb P G L ax):FnOk P G (axC (zd0 P L ax)):=by
  intro f args args' s v s' w σ V hc hl hr hV hF hI hG;have hc:=yaf hc
  cases hq:ax f with
  |none=>rw [hq] at hc;simp at hc
  |some k=>rw [hq] at hc;exact ⟨f,(h.fns f k hq).ok args args' s v s' w σ V hc hl hr hV hF hI hG⟩
theorem zmb.none (hIt:z43 P L):zmb P G L fun _=>none:=⟨fun f h hq=>by simp at hq,hIt⟩
def z6y (f:Nat) (h:List Value->CS->Option (Value×CS)) (ax:Axs):Axs:=fun k=>if k=f then some h else ax k
theorem ybs (f:Nat) (h:List Value->CS->Option (Value×CS)) (ax:Axs):z6y f h ax f=some h:=zAc rfl
theorem yjy {f k:Nat} (h:List Value->CS->Option (Value×CS)) (ax:Axs) (hk:k≠f):z6y f h ax k=ax k:=zAd hk
theorem zmb.add {f:Nat} {h:List Value->CS->Option (Value×CS)} (h1:zmb P G L ax) (h2:AxOk P G f h):zmb P G L (z6y f h ax):=by
  refine ⟨fun k u hu=>?_,h1.its⟩;unfold z6y at hu;split at hu
  . rename_i hk;subst hk;simp only [dp] at hu;subst hu;exact h2
  . exact h1.fns k u hu
theorem Rel.below {σ:Sg} {V:Nat->Prop} {s:CS} {w w':World} (h:Rel σ V s w) (b:Below w.heap.size w w'):Rel σ V s w' :=
  ⟨h.inj,fun f u b' o z k=>ei (h.lt f u b' o z k) b.size,fun f hf=>(h.fam f hf).move (fun _ _ _ k=>k) (fun _ _=>rfl) fun u b' o z k=>b.block b' (h.lt f u b' o z k),h.none,h.vers⟩
theorem Ext.below (σ:Sg) (V:Nat->Prop) (s:CS) {w w':World} (b:Below w.heap.size w w'):Ext σ V s w σ s w' :=
  ⟨fun _ _ _ h=>h,fun _ _ h k=>absurd h k,fun _ _ _ _ _ h k=>by rw [h] at k;simp at k,b.size,fun k hk _=>b.block k hk,b.os,b.tape,b.output⟩
theorem ztl (hL:zjz P G L=true) {f:Nat} {fn:Func} {body:Code} (hfn:(zd0 P L ax).fn.at f=some fn) (hb:fn.body=some body) (args':Array Value) (w:World):(callFunc f args').run P w=.ok (.enter f args') w:=by
  obtain ⟨hok,hfun⟩:=yfw hL hfn;unfold z86 at hok;simp only [dr] at hok;have hne : ¬ fn.name = "runtime.NumGoroutine" := by simpa using hok.1.2
  simp [callFunc,hfun,hne,hb]
def z4v (v:Value):List Value->CS->Option (Value×CS):=fun args s=>match args with
  |[]=>some (v,s)
  |_ :: _=>none
theorem yqg (hL:zjz P G L=true) {f:Nat} {fn:Func} {body:Code} (hfn:(zd0 P L ax).fn.at f=some fn) (hb:fn.body=some body) {v:Value} (hv:zav 3 v=true) (hc:∀ w,Calls P f #[] w fun e w'=>e=.returned v/\Below w.heap.size w w'):AxOk P G f (z4v v):=by
  refine ⟨?_,?_⟩
  . intro args s v' s' h _
    cases args with
    |nil=>simp only [z4v,dp,du] at h;rw [<- h.2];exact f5 _
    |cons a l=>simp [z4v] at h
  . intro args args' s v' s' w σ V h hl hr hV hF hI hG
    cases args with
    |cons a l=>simp [z4v] at h
    |nil =>
      simp only [z4v,dp,du] at h;obtain ⟨rfl,rfl⟩:=h;obtain ⟨args'⟩:=args'
      cases args' with
      |cons a l=>exact hl.elim
      |nil =>
        refine ⟨ztl hL hfn hb _ _,(hc w).mono ?_⟩;rintro e w' ⟨rfl,b⟩;exact ⟨σ,_,rfl,zh0 3 hv,hr.below b,Ext.below σ V s b⟩
def CS.fn (s:CS):CS:=⟨s.n,.inr (zaa s.obj),s.lim,s.rd,s.wr⟩
theorem CInv.fn {s:CS} (h:CInv s):CInv s.fn:=⟨fun f hf=>h.none f hf,fun f p hp=>h.vers f p hp,h.lim⟩
theorem Rel.fn {σ:Sg} {V:Nat->Prop} {s:CS} {w:World} (h:Rel σ V s w):Rel σ V s.fn w:=⟨h.inj,h.lt,fun f hf=>h.fam f hf,fun f hf=>h.none f hf,fun f p hp=>h.vers f p hp⟩
structure Con (P:ep) (Γ:Env) (f:Nat) (args:List Value) (s:CS) (v:Value) (s':CS):Prop where
  plain:zav 3 v=true
  obj:s'.obj=s.obj
  lim:s'.lim=s.lim
  wr:s'.wr=s.wr
  rd:∀ x,x∈s.rd->x∈s'.rd
  n:s.n<=s'.n
  run:∃ s1,zem P Γ f args s.fn=some (v,s1)/\s1.n<=s'.n/\(∀ x,x∈s1.rd->x∈s'.rd)/\(∀ x,x∈s1.wr->x∈s.wr)/\∀ f,f<s.n->zaa s1.obj f=zaa s.obj f
theorem ax_of (hm:P.follows .mixedOrders=true) (hL:zjz P G L=true) (hx:zmb P G L ax) {f:Nat} {fn:Func} {body:Code} (hax:ax f=none) (hfn:(zd0 P L ax).fn.at f=some fn) (hb:fn.body=some body) {h:List Value->CS->Option (Value×CS)}
    (hc:∀ args s v s',h args s=some (v,s')->CInv s->Con P (zd0 P L ax) f args s v s'):AxOk P G f h:=by
  have hA:ze4 (axC (zd0 P L ax)):=hx.can;have hB:FnOk P G (axC (zd0 P L ax)):=hx.call;refine ⟨?_,?_⟩
  . intro args s v s' hh hI;have c:=hc args s v s' hh hI;refine ⟨c.n,c.lim,c.rd,fun f hf=>by rw [c.wr];exact hf,fun f _ _ _=>by rw [c.obj],fun f _=>by rw [c.obj],fun hn f hf=>?_,fun hv f p hp=>?_,fun hw f hf=>?_⟩
    . rw [c.obj];exact hn f (i8 c.n hf)
    . rw [c.obj] at hp;exact ei (hv f p hp) c.n
    . rw [c.wr] at hf;rw [c.lim];exact hw f hf
  . intro args args' s v s' w σ V hh hl hr hV hF hI hG;have c:=hc args s v s' hh hI;obtain ⟨s1,r1,r2,r3,r4,r5⟩:=c.run;obtain ⟨n,hn⟩:=zlj r1;have hcan:=(zq2 (P:=P) hA hx.its.can n).2 f args s.fn v s1 hn hI.fn
    have hV1:zbi V s1:=by
      intro x hx;rcases hx with hx|hx|hx
      . exact hV x (.inl (r3 x hx))
      . exact hV x (.inr (.inl (by rw [c.wr];exact r4 x hx)))
      . exact hV x (.inr (.inr (by rw [c.lim];rw [hcan.lim] at hx;exact hx)))
    obtain ⟨x,h1,h2⟩:=(z1a hA hx.its hB hL (z6q hm hA hx.its hB hL n).1).fn f args args' s.fn v s1 w σ V hn hl hr.fn hV1 (hF.mono (dz _) r2) hI.fn hG;have he:=ztl (ax:=ax) hL hfn hb args' w;rw [he] at h1;have hx:x=f:=by simp_all
    subst hx;refine ⟨he,h2.mono ?_⟩;rintro e w' ⟨σ',v',rfl,k1,k2,k3⟩;refine ⟨σ',v',rfl,k1,⟨k2.inj,k2.lt,fun g hg=>?_,fun g hg=>?_,fun g p hp=>?_⟩,⟨k3.le,fun g u a b=>?_,k3.old,k3.size,k3.frame,k3.st⟩⟩
    . rw [c.obj];by_cases hlt:g<s.n
      . rw [<- r5 g hlt];exact k2.fam g hg
      . rw [hI.none g (by omega)];exact zhc.ofNone
    . rw [c.obj];exact hI.none g (i8 c.n hg)
    . rw [c.obj] at hp;exact ei (hI.vers g p hp) c.n
    . have q:=k3.new g u a b;exact ⟨q.1,by omega,by omega,q.2.2.2⟩
theorem yjo (hm:P.follows .mixedOrders=true) (hL:zjz P G L=true) (hx:zmb P G L ax) {f:Nat} {fn:Func} {body:Code} (hfn:(zd0 P L ax).fn.at f=some fn) (hb:fn.body=some body) {args:List Value} {args':Array Value} {s s':CS} {v:Value} {w:World} {σ:Sg}
    (h:zem P (zd0 P L ax) f args s=some (v,s')) (hl:RL (VR σ) args args'.toList) (hr:Rel σ (fun _=>True) s w) (hF:∀ f u p,σ f u=some p->f<s.n/\u / 1024<s.n/\(zaa s.obj f).ro=true) (hI:CInv s) (hG:zil G σ) :
    Calls P f args' w fun e w'=>∃ σ' v',e=.returned v'/\VR σ' v v'/\Below w.heap.size w w':=by
  have hA:ze4 (axC (zd0 P L ax)):=hx.can;have hB:FnOk P G (axC (zd0 P L ax)):=hx.call;obtain ⟨n,hn⟩:=zlj h
  have hFr:zd1 σ s.n s'.n:=by
    intro g u hgu
    cases hq:σ g u with
    |none=>rfl
    |some p=>have:=hF g u p hq;omega
  obtain ⟨x,h1,h2⟩:=(z1a hA hx.its hB hL (z6q hm hA hx.its hB hL n).1).fn f args args' s v s' w σ _ hn hl hr (fun _ _=>trivial) hFr hI hG;have he:=ztl (ax:=ax) hL hfn hb args' w;rw [he] at h1;have hx:x=f:=by simp_all
  subst hx;refine h2.mono ?_;rintro e w' ⟨σ',v',rfl,k1,k2,k3⟩;exact ⟨σ',v',rfl,k1,k3.st.1,k3.st.2.1,k3.st.2.2,k3.size,fun k hk=>k3.frame k hk fun g u o z hs=>.inr (hF g u _ hs).2.2⟩
end
theorem zkd {m n:Nat} (h:m<=n):fg m n=true:=zax.2 h
theorem zwd {m n:Nat} (h:n<m):fg m n=false:=by
  cases hb:fg m n with
  |false=>rfl
  |true=>exact absurd (zax.1 hb) (by omega)
theorem yaa {m n:Nat} (h:m<n):fb m n=true:=zac.2 h
theorem z4s {m n:Nat} (h:n<=m):fb m n=false:=by
  cases hb:fb m n with
  |false=>rfl
  |true=>exact absurd (zac.1 hb) (by omega)
theorem zke {m n:Nat} (h:m=n):d7 m n=true:=by subst h;exact gw m
theorem zoy {m n:Nat} (h:m≠n):d7 m n=false:=by
  cases hb:d7 m n with
  |false=>rfl
  |true=>exact absurd (dx hb) h
theorem ybr {len cap:Nat} (h2:len<=cap):zds len cap none none none=some (0,len,cap):=by
  simp [zds,zkd (Nat.zero_le len),zkd h2,zkd (dz cap)]
section
variable {P:ep} {Γ:Env} {ρ:d8->Value} {o:Oper} {s:CS} {n lim:Nat} {g:Nat->Fam} {rd wr:List Nat}
theorem yp7 {l:List Value} {off k:Nat} (h:off+k<=l.length):cut l off k=some ((l.drop off).take k):=by
  unfold cut;have:((l.drop off).take k).length=k:=by simp;omega
  simp only [this,gw,cond_true]
theorem zqt {f u off len cap e k:Nat} {cs:List Value} (hr:zbu (g f).rows u=some cs) (hk:off+k*e<=cs.length) (hl:lim<=f) :
    gz (St n g lim rd wr) e k (.slice (some (mkA f u off)) len cap)=some ((cs.drop off).take (k*e),St n g lim rd wr):=by
  unfold gz;simp only
  cases hz:d7 (k*e) 0 with
  |true=>simp [dx hz]
  |false =>
    simp only [cond_false,yaw,zjm,zl9,hr,zsf,yp7 hk,yk2 rd hl]
theorem ybk {x:Option Addr} {len cap e k:Nat} (h0:k*e=0):gz s e k (.slice x len cap)=some ([],s):=by
  unfold gz;simp only [zke h0,cond_true]
theorem yf7 {b:ByteArray} {k:Nat} (h:k<=b.size):gz s 1 k (.string b)=some (zix (b.extract 0 k),s):=by
  unfold gz;simp [zkd h]
def OwnR (m:Nat) (g:Nat->Fam) (n e:Nat) (ao:Option Addr) (len:Nat) (cells:List Value):Prop :=
  cells.length=len*e/\((ao=none/\len=0)\/∃ f u rest,ao=some (mkA f u 0)/\g f=⟨false,(u,cells) :: rest,none,none⟩/\m<=f/\f<n/\u / 1024<n/\u % 1024=e+1)
theorem OwnR.nil (m:Nat) (g:Nat->Fam) (n e:Nat):OwnR m g n e none 0 []:=⟨by simp,.inl ⟨rfl,rfl⟩⟩
theorem OwnR.keep {m n' e len:Nat} {g':Nat->Fam} {ao:Option Addr} {cells:List Value} (h:OwnR m g n e ao len cells) (hg:∀ i,m<=i->i<n->g' i=g i) (hn:n<=n'):OwnR m g' n' e ao len cells:=by
  obtain ⟨h1,h⟩:=h;refine ⟨h1,h.imp id ?_⟩;rintro ⟨f,u,rest,k1,k2,k3,k4,k5,k6⟩;exact ⟨f,u,rest,k1,by rw [hg f k3 k4];exact k2,k3,by omega,by omega,k6⟩
structure Made (n:Nat) (g:Nat->Fam) (e:Nat) (ao:Option Addr) (len:Nat) (cells:List Value) (n':Nat) (g':Nat->Fam):Prop where
  own:OwnR n g' n' e ao len cells
  le:n<=n'
  old:∀ i,i<n->g' i=g i
theorem OwnR.first {m e len k:Nat} {ao:Option Addr} {cells:List Value} (h:OwnR m g n e ao len cells) (hl:lim<=m) (hk:k<=len):gz (St n g lim rd wr) e k (.slice ao len len)=some (cells.take (k*e),St n g lim rd wr):=by
  obtain ⟨h1,h⟩:=h;rcases h with ⟨rfl,rfl⟩|⟨f,u,rest,rfl,k2,k3,k4,k5,k6⟩
  . have:k=0:=by omega
    subst this;rw [ybk (by simp)];simp
  . have hkl:k*e<=len*e:=jw e hk;rw [zqt (cs:=cells) (by rw [k2];simp [zbu,gw]) (by omega) (by omega)];simp
theorem OwnR.append {m e len k bytes:Nat} {ao:Option Addr} {cells xs:List Value} {y:Value} {rd':List Nat} (h:OwnR m g n e ao len cells) (hm:m<=n) (hl:lim<=m) (hlen:lenC y=some k) (hy:gz (St n g lim rd wr) e k y=some (xs,St n g lim rd' wr)) (hx:xs.length=k*e) (ho:xs.all oneC=true) (he:0<e/\e<1000)
    (hb:(len+k)*(bytes+1)<=1000000000) :
    ∃ ao' n' g',kc (St n g lim rd wr) e bytes ao len len y=some (.slice ao' (len+k) (len+k),St n' g' lim rd' wr)/\OwnR m g' n' e ao' (len+k) (cells++xs)/\n<=n'/\n'<=n+1/\∀ i,i<m->g' i=g i:=by
  have c1:(fb 1000000000 ((len+k)*(bytes+1)) || d7 e 0 || fg 1000 e || not (xs.all oneC))=false:=by
    rw [z4s hb,zoy (by omega),zwd (by omega),ho];rfl
  obtain ⟨h1,h⟩:=h;rcases h with ⟨rfl,rfl⟩|⟨f,u,rest,rfl,k2,k3,k4,k5,k6⟩
  . have hc:cells=[]:=by simpa using h1
    subst hc
    cases hk:d7 k 0 with
    |true =>
      have:=dx hk;subst this;have hx0:xs=[]:=by simpa using hx
      subst hx0;refine ⟨none,n,g,?_,OwnR.nil _ _ _ _,dz _,by omega,fun _ _=>rfl⟩;unfold kc;rw [hlen];simp only [hy,c1,cond_false,hk,cond_true]
    |false =>
      refine ⟨some (mkA n (n*1024+(e+1)) 0),n+1,fupd g n ⟨false,[(n*1024+(e+1),xs)],none,none⟩,?_,⟨by simpa using hx,.inr ⟨n,_,[],rfl,?_,hm,by omega,by omega,by omega⟩⟩,by omega,by omega,fun i hi=>zh1 _ _ _ _ (by omega)⟩
      . unfold kc;rw [hlen];simp only [hy,c1,cond_false,hk,z21,zhp]
      . rw [ze7];simp
  . cases hk:d7 k 0 with
    |true =>
      have:=dx hk;subst this;have hx0:xs=[]:=by simpa using hx
      subst hx0;refine ⟨_,n,g,?_,⟨by simpa using h1,.inr ⟨f,u,rest,rfl,by simpa using k2,k3,k4,k5,k6⟩⟩,dz _,by omega,fun _ _=>rfl⟩;unfold kc;rw [hlen];simp only [hy,c1,cond_false];rw [zkd (by omega)];simp only [cond_true,hk];rfl
    |false =>
      have hk0:k≠0:=fun h=>by rw [h] at hk;simp at hk
      have hfl:lim<=f:=by omega
      have hold:(bif d7 len 0 then some ([],St n g lim rd' wr) else gz (St n g lim rd' wr) e len (.slice (some (mkA f u 0)) len len))=some (cells,St n g lim rd' wr):=by
        cases hz:d7 len 0 with
        |true =>
          have:=dx hz;subst this;have:cells=[]:=by simpa using h1
          rw [this];rfl
        |false =>
          rw [cond_false,zqt (cs:=cells) (by rw [k2];simp [zbu,gw]) (by omega) hfl];rw [fp,fk (by omega)]
      refine ⟨some (mkA f (n*1024+(e+1)) 0),n+1,fupd g f ⟨false,(n*1024+(e+1),cells++xs) :: (u,cells) :: rest,none,none⟩,?_,⟨by rw [er,h1,hx,ig],.inr ⟨f,_,(u,cells) :: rest,rfl,?_,k3,by omega,by omega,by omega⟩⟩,by omega,by omega,fun i hi=>zh1 _ _ _ _ (by omega)⟩
      . unfold kc;rw [hlen];simp only [hy,c1,cond_false];rw [zwd (by omega)];simp only [cond_false,hold,zjm];rw [zoy (by omega),zke k6];simp only [cond_false,cond_true];unfold CS.grow;show (match (g f).ro,zbu (g f).rows u with|false,some cs=>_|_,_=>none)=_;rw [k2];simp only;have hrow:zbu ((u,cells) :: rest) u=some cells:=by simp [zbu,gw]
        rw [hrow];simp only;rw [zke (show (mkA f u 0).off+len*e=cells.length by rw [zsf];omega),za7,zl9,zff]
        have hd:zgu (zaa (.inr g) f).rows u=(u,cells) :: rest:=by
          rw [zqc,k2];simp [zgu,gw]
        rw [zjm,hd,yk2 wr hfl]
      . rw [ze7]
theorem yem {x y:d8} {t tx:ed} (hs:srcT Γ tx=true):zfv P Γ ρ o s .append [x,y] [t,tx]=zc3 Γ s t (ρ y) (ρ x):=by
  show sel (srcT Γ tx) _ none=_;rw [hs];rfl
end
section
variable {P:ep} {Γ:Env} {ρ:d8->Value} {s:CS} {d:Option Tmp} {ty:ed} {pos:String} {t t2:ed} {x y:d8} {e:Array Edge} {g:Option (Nat×Bool)}
theorem z0g (d:je) (a:ByteArray):nilT d (.string a)=none:=by cases d<;>rfl
theorem z2y (d:je) (a:Bool):nilT d (.bool a)=none:=by cases d<;>rfl
theorem z9g {op:BinOp} {v w:Value} (h:∀ d,nilT d v=none):eqC Γ t op v w=none:=by
  unfold eqC
  cases Γ.ti.at t with
  |none=>rfl
  |some i=>cases op<;>first|rfl | (simp only [h];rfl)
theorem zm5 {op:BinOp} {v w r:Value} {o:Oper} (ho:o.op=.binOp op t x y t2) (hx:ρ x=v) (hy:ρ y=w) (hc:binC op v w=none) (hn:∀ d,nilT d v=none) (hpv:zav 3 v=true) (hpw:zav 3 w=true) (hg:eqGuard op t x y v w=pure ())
    (hr:zch P (binOp op t v w)=some r) (hp:zav 3 r=true):zld P Γ ρ o s t op v w=some (r,s):=by
  unfold zld;rw [hc];simp only;rw [z9g hn];simp only [zf9];unfold zm1
  have hops:(o.op.operands.toList.all fun z=>zav 3 (ρ z))=true:=by
    rw [ho];simp [eg,hx,hy,hpv,hpw]
  rw [hops]
  have he:jo ρ o=(do pure (.value (<- binOp op t v w))):=by
    unfold jo;rw [ho];simp only [hx,hy,hg];simp
  rw [he]
  have hv:zch P (do pure (Next.value (<- binOp op t v w)))=some (.value r):=by
    rw [zg9 hr];rfl
  simp only [cond_true];rw [hv];show retC s (bif zav 3 r then some r else none)=some (r,s);rw [hp];rfl
theorem ycs (a b:ByteArray):(a.toList == b.toList)=decide (a=b):=by
  rw [ByteArray.toList_eq,ByteArray.toList_eq];by_cases h:a=b
  . subst h;simp
  . rw [zAb h,beq_eq_false_iff_ne];intro k;apply h;apply ByteArray.ext;exact Array.toList_inj.1 k
theorem zmh {a b:Bool} (hd:P.underlying t=some .bool):zch P (Op.equal t (.bool a) (.bool b))=some (a == b):=by
  unfold Op.equal;show zch P (Op.equalIn (_+1) t (.bool a) (.bool b))=_;unfold Op.equalIn;rw [zg9 (ze8 hd)];rfl
theorem ynn {v w:Value} {b:Bool}:zse s v w (.bool b)=some (bif b then v else w,s):=d6 rfl rfl
variable {k k':fx} {a b:Int} {tys:Array ed}
theorem o_max (hx:ρ x=.int k a) (hy:ρ y=.int k' b):zfv P Γ ρ ⟨d,.call ⟨.builtin .max,#[x,y],tys⟩,ty,pos,e,g⟩ s .max [x,y] tys.toList=some (.int k (max a b),s):=by
  show retC s (zm1 P ρ _)=_;have hm:max a b=if b > a then b else a:=by rw [Int.max_def];split<;>split<;>omega
  rw [hm,ztb (r:=.int k (if b > a then b else a))]
  . rfl
  . show (zav 3 (ρ x) && (zav 3 (ρ y) && true))=true;rw [hx,hy];rfl
  . simp [jo,hx,hy,resolve,invoke,builtin,Builtin.max_,Builtin.max2]
  . rfl
theorem o_min (hx:ρ x=.int k a) (hy:ρ y=.int k' b):zfv P Γ ρ ⟨d,.call ⟨.builtin .min,#[x,y],tys⟩,ty,pos,e,g⟩ s .min [x,y] tys.toList=some (.int k (min a b),s):=by
  show retC s (zm1 P ρ _)=_;have hm:min a b=if b<a then b else a:=by rw [Int.min_def];split<;>split<;>omega
  rw [hm,ztb (r:=.int k (if b<a then b else a))]
  . rfl
  . show (zav 3 (ρ x) && (zav 3 (ρ y) && true))=true;rw [hx,hy];rfl
  . simp [jo,hx,hy,resolve,invoke,builtin,Builtin.min_,Builtin.min2]
  . rfl
end
section
variable {P:ep} {Γ:Env} {call:zc1} {ops l:List Oper} {fr:Fr} {s:CS} {d:Option Tmp} {op:Op} {ty:ed} {pos:String} {e:Array Edge} {g:Option (Nat×Bool)}
theorem yjr {f:jz} {args:List Value} {k:List Value->CS->Option (Value×CS)} {r:Value×CS} (h:Γ.ax f=some k) (hk:k args s=some r):zem P Γ f args s=some r:=by
  refine z92 (n:=0) ?_;unfold zd6 zod;rw [h];exact hk
end
section
variable {P:ep} {Γ:Env} {call:zc1} {ops l:List Oper} {o:Oper} {fr fr':Fr} {s t:CS}
def ymi (lg:Lg) (r:Option (List Lg×Fr×CS)):Option (List Lg×Fr×CS):=match r with
  |some (logs,fr,s)=>some (lg :: logs,fr,s)
  |none=>none
def ypb (s:CS) (r:Option (Fr×CS)) (k:Fr->CS->Option (List Lg×Fr×CS)):Option (List Lg×Fr×CS):=match r with
  |some (fr,t)=>ymi ⟨t.rd,t.wr,s.n,t.n⟩ (k fr (s.outer t))
  |none=>none
theorem zy8:drawC P Γ call ops (o :: l) fr s=ypb s (zcj P Γ call ops o fr s.inner) (drawC P Γ call ops l):=by
  rw [drawC]
  cases zcj P Γ call ops o fr s.inner with
  |none=>rfl
  |some r =>
    show (match drawC P Γ call ops l r.1 (s.outer r.2) with|some (logs,fr,s')=>_|none=>none)=ymi _ (drawC P Γ call ops l r.1 (s.outer r.2))
    cases drawC P Γ call ops l r.1 (s.outer r.2) with
    |none=>rfl
    |some x=>rfl
variable {n lim n':Nat} {g g':Nat->Fam} {rd wr rd' wr':List Nat} {ob ob':Sto}
theorem z09 {n0:Nat} {logs:List Lg} {ms:List Nat} (hm:zdq ops []=ms) (h:zgh clash [] logs ms=true):calm n0 ops logs=true:=by
  unfold calm;rw [hm,h];cases logs.all _<;>rfl
theorem z6u {ms:List Nat} {done:List Lg}:zgh clash done [] ms=true:=d6 rfl rfl
theorem zng {ms:List Nat} {done logs:List Lg} {y:Lg}:zgh clash done (y :: logs) ms=(zh3 clash (nth 0 ms done.length) y done 0 && zgh clash (done++[y]) logs ms):=d6 rfl rfl
theorem zv9 {m i:Nat} {x y:Lg} {done:List Lg} (h:ft m i=true):zh3 clash m y (x :: done) i=zh3 clash m y done (i+1):=by
  show ((ft m i || _) && _)=_;rw [h];rfl
theorem zze {m i:Nat} {x y:Lg} {done:List Lg} (h:clash x y=false):zh3 clash m y (x :: done) i=zh3 clash m y done (i+1):=by
  show ((ft m i || !clash x y) && _)=_;rw [h];simp
theorem zgv {rx wx ry wy:List Nat} {lo hi lo' hi':Nat} (h1:∀ f,f∈wx->f ∉ ry/\f ∉ wy) (h2:∀ f,f∈rx->f ∉ wy) (hr:∀ f,f∈ry->f<lo\/hi<=f) (hw:∀ f,f∈wy->f<lo\/hi<=f):clash ⟨rx,wx,lo,hi⟩ ⟨ry,wy,lo',hi'⟩=false:=by
  have hq:∀ l:List Nat,(∀ f,f∈l->f<lo\/hi<=f)->zw2 lo hi l=false:=by
    intro l hl;unfold zw2;rw [nj];intro f hf;rcases hl f hf with h|h
    . simp [zwd h]
    . simp [z4s h]
  have hm:∀ a b:List Nat,(∀ f,f∈a->f ∉ b)->meet a b=false:=by
    intro a b hab;unfold meet;rw [nj];intro f hf hc;exact hab f hf (z0q hc)
  unfold clash;simp [hq ry hr,hq wy hw,hm wx ry fun f hf=>(h1 f hf).1,hm wx wy fun f hf=>(h1 f hf).2,hm rx wy h2]
theorem W.draw_ex {id:Nat} {ops:Array Oper} {Q:Exit->Fr->CS->Prop} {logs:List Lg} {ms:List Nat} (hm:zdq ops.toList []=ms) (h:drawC P Γ (zem P Γ) ops.toList ops.toList fr s=some (logs,fr',t)) (hc:zgh clash [] logs ms=true) (hq:Q .normal fr' t):W P Γ (.region id ops true) fr s Q :=
  W.draw h (z09 hm hc) hq
variable {ρ:d8->Value}
section
variable {ty t2 src dst:ed} {d:Option Tmp} {pos:String} {e:Array Edge} {q:Option (Nat×Bool)} {x y:d8} {tt:ed} {k:fx} {z b z2 b2:Nat} {zs zs2:List Value}
end
structure BSl (g:Nat->Fam) (n f u off len cap:Nat) (bs:List UInt8):Prop where
  lt:f<n
  tag:u % 1024=0\/u % 1024=2
  fits:len<=cap
  size:bs.length=len
  row:∃ cs,zbu (g f).rows u=some cs/\∀ i,i<len->cs[off+i]?=some (vb (bs.getD i 0))
end
section
variable {P:ep} {Γ:Env} {call:zc1} {ops l:List Oper} {o o':Oper} {fr fr':Fr} {s t:CS}
def ym5 (n0:Nat) (s:CS) (r:Option (Fr×CS)) (k:Fr->CS->Option (Fr×CS)):Option (Fr×CS):=match r with
  |some (fr,t)=>bif (t.wr.isEmpty && t.rd.all fun f=>fb f n0) && fg n0 s.n then k fr (s.outer t) else none
  |none=>none
def ynv (s:CS) (r:Option (Fr×CS)):Option (Fr×CS):=match r with
  |some (fr,t)=>some (fr,s.outer t)
  |none=>none
def zuu (P:ep) (Γ:Env) (call:zc1) (ops:List Oper) (n0:Nat):List Oper->Fr->CS->Option (Fr×CS)
  |[],_,_=>none
  |[o],fr,s=>ynv s (zcj P Γ call ops o fr s.inner)
  |o :: o' :: l,fr,s=>ym5 n0 s (zcj P Γ call ops o fr s.inner) (zuu P Γ call ops n0 (o' :: l))
theorem ya1 {n0:Nat}:zuu P Γ call ops n0 [o] fr s=ynv s (zcj P Γ call ops o fr s.inner):=d6 rfl rfl
theorem z5v {n0:Nat}:zuu P Γ call ops n0 (o :: o' :: l) fr s=ym5 n0 s (zcj P Γ call ops o fr s.inner) (zuu P Γ call ops n0 (o' :: l)):=d6 rfl rfl
def QLog (n0:Nat) (x:Lg):Prop:=x.wr=[]/\(∀ f,f∈x.rd->f<n0)/\n0<=x.lo
theorem z34 {n0:Nat}:∀ {l:List Oper} {fr fr':Fr} {s s':CS},zuu P Γ call ops n0 l fr s=some (fr',s')->∃ logs y,drawC P Γ call ops l fr s=some (logs++[y],fr',s')/\logs.length+1=l.length/\∀ x,x∈logs->QLog n0 x
  |[],fr,fr',s,s',h=>by simp [zuu] at h
  |[o],fr,fr',s,s',h=>by
    rw [ya1] at h;unfold ynv at h;split at h
    . rename_i fr1 t h1;simp only [dp,du] at h;obtain ⟨rfl,rfl⟩:=h;refine ⟨[],⟨t.rd,t.wr,s.n,t.n⟩,?_,rfl,fun x hx=>by simp at hx⟩;rw [zy8,h1];rfl
    . simp at h
  |o :: o' :: l,fr,fr',s,s',h=>by
    rw [z5v] at h;unfold ym5 at h;split at h
    . rename_i fr1 t h1
      cases hq:(t.wr.isEmpty && t.rd.all fun f=>fb f n0) && fg n0 s.n with
      |false=>rw [hq] at h;simp at h
      |true =>
        rw [hq] at h;simp only [cond_true] at h;obtain ⟨logs,y,h2,h3,h4⟩:=z34 h;refine ⟨⟨t.rd,t.wr,s.n,t.n⟩ :: logs,y,?_,?_,?_⟩
        . rw [zy8,h1];unfold ypb;simp only;rw [h2];rfl
        . simp only [eh] at h3 ⊢;omega
        . intro x hx;rcases ib.1 hx with rfl|hx
          . simp only [dr,List.isEmpty_iff,ez] at hq;exact ⟨hq.1.1,fun f hf=>zac.1 (hq.1.2 f hf),zax.1 hq.2⟩
          . exact h4 x hx
    . simp at h
theorem z6r {n0:Nat} {x y:Lg} (hx:QLog n0 x) (hy:QLog n0 y):clash x y=false:=by
  obtain ⟨rx,wx,lx,hx'⟩:=x;obtain ⟨ry,wy,ly,hy'⟩:=y;obtain ⟨rfl,x2,x3⟩:=hx;obtain ⟨rfl,y2,y3⟩:=hy;refine zgv (fun f hf=>by simp at hf) (fun f _=>by simp) (fun f hf=>.inl ?_) (fun f hf=>by simp at hf);have:=y2 f hf;exact ei this x3
theorem zq3 {n0 m:Nat} {y:Lg} (hy:QLog n0 y):∀ {done:List Lg} {i:Nat},(∀ x,x∈done->QLog n0 x)->zh3 clash m y done i=true
  |[],_,_=>rfl
  |x :: l,i,h=>by
    rw [zze (z6r (h x (by simp)) hy)];exact zq3 hy fun z hz=>h z (by simp [hz])
theorem zss {k:Nat} {y:Lg}:∀ {done:List Lg} {i:Nat},done.length+i<=k->zh3 clash (2 ^ k - 1) y done i=true
  |[],_,_=>rfl
  |x :: l,i,h=>by
    rw [eh] at h;rw [zv9 (by rw [Nat.testBit_two_pow_sub_one];exact zAa (by omega))];exact zss (by omega)
theorem zst {n0:Nat} {y:Lg} {ms:List Nat}:∀ {logs done:List Lg},(∀ x,x∈done->QLog n0 x)->(∀ x,x∈logs->QLog n0 x)->nth 0 ms (done.length+logs.length)=2 ^ (done.length+logs.length) - 1->zgh clash done (logs++[y]) ms=true
  |[],done,hd,_,hm=>by
    rw [List.nil_append,zng];simp only [List.length_nil,Nat.add_zero] at hm;rw [hm,zss (by omega),z6u];rfl
  |x :: l,done,hd,hl,hm=>by
    rw [List.cons_append,zng,zq3 (hl x (by simp)) hd];simp only [Bool.true_and];refine zst (n0:=n0) ?_ (fun z hz=>hl z (by simp [hz])) ?_
    . intro z hz;rcases pa.1 hz with hz|hz
      . exact hd z hz
      . simp at hz;subst hz;exact hl _ (by simp)
    . rw [er,List.length_singleton];rw [eh] at hm;rw [show done.length+1+l.length=done.length+(l.length+1) by omega];exact hm
def yi8 (ops:List Oper):Bool:=d7 (nth 0 (zdq ops []) (ops.length - 1)) (2 ^ (ops.length - 1) - 1)
theorem W.last {id:Nat} {ops:Array Oper} {Q:Exit->Fr->CS->Prop} (hf:yi8 ops.toList=true) (h:zuu P Γ (zem P Γ) ops.toList s.n ops.toList fr s=some (fr',t)) (hq:Q .normal fr' t):W P Γ (.region id ops true) fr s Q:=by
  obtain ⟨logs,y,h1,h2,h3⟩:=z34 h;refine W.draw_ex rfl h1 (zst (n0:=s.n) (fun x hx=>by simp at hx) h3 ?_) hq;have hk:ops.toList.length - 1=logs.length:=by omega
  have:=dx hf;rw [hk] at this;simpa using this
variable {n lim n' f:Nat} {rd wr rd' wr':List Nat} {ob ob':Sto} {k:Fr->CS->Option (Fr×CS)}
variable {g:Nat->Fam}
end
section
variable {P:ep} {G L:List Nat} {ax:Axs}
open Classical in
structure Seg where
  b:Nat
  o:Nat
  cs:List Value
def zkl (N:Nat) (f:Nat):Nat->List Seg->List (Nat×List Value)
  |_,[]=>[]
  |j,q :: l=>if q.b=f then ((N+j)*1024,q.cs) :: zkl N f (j+1) l else zkl N f (j+1) l
def famS (N:Nat) (K:List (Nat×List Value)) (A:List Seg) (f:Nat):Fam:=⟨true,(famK K f).rows++zkl N f 0 A,none,none⟩
open Classical in
def sgS (N:Nat) (G:List Nat) (K:List (Nat×List Value)) (A:List Seg):Sg:=fun f u =>
  if has G f=true/\u=f*1024 then some (f,0,(famK K f).rows.head?.elim 0 fun p=>p.2.length)
  else if u % 1024=0/\N<=u / 1024 then (match A[u / 1024 - N]? with
    |some q=>if q.b=f then some (f,q.o,q.o+q.cs.length) else none
    |none=>none) else none
def yqr (σ:Sg) (w:World) (q:Seg):Prop:=q.b<w.heap.size/\(∀ j,j<q.o+q.cs.length->(w.cell? ⟨q.b,j,none⟩).isSome=true)/\∀ (j:Nat) (u:Value),q.cs[j]?=some u->∃ u',w.cell? ⟨q.b,q.o+j,none⟩=some u'/\VR σ u u'
theorem zo6 {N f:Nat} {p:Nat×List Value}:∀ {A:List Seg} {j:Nat},p∈zkl N f j A->∃ i q,A[i]?=some q/\q.b=f/\p=((N+(j+i))*1024,q.cs)
  |[],j,h=>by simp [zkl] at h
  |q :: l,j,h=>by
    unfold zkl at h;split at h
    . rename_i hq;rcases ib.1 h with rfl|h
      . exact ⟨0,q,rfl,hq,by rw [Nat.add_zero]⟩
      . obtain ⟨i,q',h1,h2,h3⟩:=zo6 h;exact ⟨i+1,q',by simpa using h1,h2,by rw [h3];congr 2;omega⟩
    . obtain ⟨i,q',h1,h2,h3⟩:=zo6 h;exact ⟨i+1,q',by simpa using h1,h2,by rw [h3];congr 2;omega⟩
theorem ycx {N:Nat} {K:List (Nat×List Value)} {A:List Seg} {w:World} (hN:N=w.heap.size) (hK:∀ p,p∈K->has G p.1=true) (hw:yow w K) (hwG:∀ g,has G g=true->g<w.heap.size) (hA:∀ q,q∈A->yqr (sgS N G K A) w q) :
    Rel (sgS N G K A) (fun _=>True) (St (N+A.length) (famS N K A) 0 [] []) w/\CInv (St (N+A.length) (famS N K A) 0 [] [])/\zil G (sgS N G K A)/\(∀ f u p,sgS N G K A f u=some p->f<N+A.length/\u / 1024<N+A.length/\(zaa (St (N+A.length) (famS N K A) 0 [] []).obj f).ro=true):=by
  have hσ:∀ f u b o z,sgS N G K A f u=some (b,o,z)->b=f/\((has G f=true/\u=f*1024/\o=0/\z=(famK K f).rows.head?.elim 0 fun p=>p.2.length)\/(∃ i q,A[i]?=some q/\q.b=f/\u=(N+i)*1024/\o=q.o/\z=q.o+q.cs.length)):=by
    intro f u b o z h;unfold sgS at h;split at h
    . rename_i hc;simp only [dp,du] at h;exact ⟨h.1.symm,.inl ⟨hc.1,hc.2,h.2.1.symm,h.2.2.symm⟩⟩
    . split at h
      . rename_i hc;split at h
        . rename_i q hq;split at h
          . rename_i hb;simp only [dp,du] at h;refine ⟨h.1.symm,.inr ⟨_,q,hq,hb,by omega,h.2.1.symm,h.2.2.symm⟩⟩
          . simp at h
        . simp at h
      . simp at h
  have hlt:∀ f u b o z,sgS N G K A f u=some (b,o,z)->b<w.heap.size/\f<N+A.length/\u / 1024<N+A.length:=by
    intro f u b o z h;obtain ⟨rfl,⟨h1,h2,_⟩|⟨i,q,h1,h2,h3,_⟩⟩:=hσ _ _ _ _ _ h
    . have:=hwG _ h1;omega
    . have hm:=gi h1;have hi:i<A.length:=(d9.1 h1).1;have:=(hA q hm).1;omega
  have hrows:∀ f p,p∈(famS N K A f).rows->((p.1=f*1024/\(f,p.2)∈K/\(famK K f).rows=[p])\/∃ i q,A[i]?=some q/\q.b=f/\p=((N+i)*1024,q.cs)):=by
    intro f p hp;rcases pa.1 hp with hp|hp
    . exact .inl (zv0 hp)
    . obtain ⟨i,q,h1,h2,h3⟩:=zo6 hp;exact .inr ⟨i,q,h1,h2,by rw [h3,Nat.zero_add]⟩
  have hnone:∀ f,N+A.length<=f->famS N K A f=zdr:=by
    intro f hf
    have:(famS N K A f).rows=[]:=by
      rw [List.eq_nil_iff_forall_not_mem];intro p hp;rcases hrows f p hp with ⟨_,h2,_⟩|⟨i,q,h1,h2,_⟩
      . have:=hwG _ (hK _ h2);simp only at this;omega
      . have:=(hA q (gi h1)).1;omega
    unfold famS at this ⊢;simp only at this;rw [this];rfl
  have hvers:∀ f p,p∈(famS N K A f).rows->p.1 / 1024<N+A.length:=by
    intro f p hp;rcases hrows f p hp with ⟨h1,h2,_⟩|⟨i,q,h1,h2,rfl⟩
    . have:=hwG _ (hK _ h2);simp only at this;omega
    . have hi:i<A.length:=(d9.1 h1).1;simp only;omega
  refine ⟨⟨?_,fun f u b o z h=>(hlt f u b o z h).1,?_,fun f hf=>hnone f hf,fun f p hp=>hvers f p hp⟩,⟨fun f hf=>hnone f hf,fun f p hp=>hvers f p hp,Nat.zero_le _⟩,?_,fun f u p h=>⟨(hlt f u _ _ _ h).2.1,(hlt f u _ _ _ h).2.2,rfl⟩⟩
  . intro f u b o z f' u' o' z' h1 h2;have a1:=(hσ _ _ _ _ _ h1).1;have a2:=(hσ _ _ _ _ _ h2).1;omega
  . intro f _;refine ⟨fun p hp b o z h=>?_,fun hro=>by simp [zaa,famS] at hro,fun es he=>by simp [zaa,famS] at he,fun Lq hq=>by simp [zaa,famS] at hq⟩;obtain ⟨rfl,hs⟩:=hσ _ _ _ _ _ h;rcases hrows b p hp with ⟨h1,h2,h3⟩|⟨i,q,h1,h2,rfl⟩
    . rcases hs with ⟨g1,g2,rfl,rfl⟩|⟨i,q,g1,g2,g3,_⟩
      . rw [h3];simp only [List.head?_cons,Option.elim];refine ⟨by omega,fun j hj=>?_,fun hro=>by simp [zaa,famS] at hro,fun j u hu=>?_⟩
        . obtain ⟨k1,_⟩:=(hw _ h2).2 j _ (dv hj);rw [k1];rfl
        . obtain ⟨k1,k2⟩:=(hw _ h2).2 j u hu;rw [Nat.zero_add];exact ⟨u,k1,zh0 3 k2⟩
      . have:=hwG _ (hK _ h2);simp only at this;omega
    . rcases hs with ⟨g1,g2,_,_⟩|⟨i',q',g1,g2,g3,rfl,rfl⟩
      . simp only at g2;have:=hwG _ g1;omega
      . simp only at g3;have:i'=i:=by omega
        subst this;rw [h1] at g1;cases g1;obtain ⟨a1,a2,a3⟩:=hA q (gi h1);subst h2;exact ⟨dz _,a2,fun hro=>by simp [zaa,famS] at hro,a3⟩
  . intro g hg;exact ⟨_,zAc ⟨hg,rfl⟩⟩
end
def Ret (P:ep) (Γ:Env) (f:jz) (args:List Value) (n:Nat) (g:Nat->Fam) (lim:Nat) (rd wr:List Nat) (R:Nat->Prop) (v:Value):Prop :=
  ∃ n' g' rd',zem P Γ f args (St n g lim rd wr)=some (v,St n' g' lim rd' wr)/\n<=n'/\(∀ i,i<n->g' i=g i)/\(∀ x,x∈rd'->x∈rd\/(R x/\x<lim))
section
variable {P:ep} {Γ:Env} {ρ:d8->Value} {s:CS} {fr:Fr} {n lim n' f n0:Nat} {g:Nat->Fam} {rd wr rd':List Nat} {ob ob':Sto}
theorem Ret.of {f:jz} {fn:Func} {body:Code} {args:List Value} {R:Nat->Prop} {v:Value} (k:Nat) (hax:Γ.ax f=none) (hf:Γ.fn.at f=some fn) (hb:fn.body=some body) (hn:fn.ntmps=k) (hl:args.length<=k)
    (h:W P Γ body (mi args 0 (Fr.of k fun _=>undef)) (St n g lim rd wr) fun e fr' s1=>(e=.normal\/e=.ret)/\∃ n' g' rd',resC Γ fr' s1 fn.results.toList=some ([v],St n' g' lim rd' wr)/\n<=n'/\(∀ i,i<n->g' i=g i)/\(∀ x,x∈rd'->x∈rd\/(R x/\x<lim))):Ret P Γ f args n g lim rd wr R v:=by
  obtain ⟨e,fr',s1,h1,he,n',g',rd',hr,h2⟩:=h;exact ⟨n',g',rd',yjq k hax hf hb hn hl ⟨e,fr',s1,h1,he,_,hr,rfl⟩,h2⟩
theorem znz {l:List Nat}:∀ {rd rd':List Nat},l=rd'->∀ x,x∈zve lim rd l->x∈rd\/(x∈rd'/\x<lim):=by
  induction l with
  |nil=>rintro rd rd' rfl x hx;exact .inl hx
  |cons y l ih =>
    rintro rd rd' rfl x hx;rcases ih rfl x hx with h|h
    . rcases zjw h with h|h
      . exact .inl h
      . exact .inr ⟨by simp [h.1],h.2⟩
    . exact .inr ⟨by simp [h.1],h.2⟩
def OwnX (m:Nat) (g:Nat->Fam) (n e:Nat) (ao:Option Addr) (len:Nat) (cells:List Value):Prop :=
  OwnR m g n e ao len cells\/(cells.length=len*e/\∃ f u rest,ao=some (mkA f u 0)/\g f=⟨false,(u,cells) :: rest,none,none⟩/\m<=f/\f<n/\u / 1024<n/\u % 1024=0)
theorem OwnX.keep {m n' e len:Nat} {g':Nat->Fam} {ao:Option Addr} {cells:List Value} (h:OwnX m g n e ao len cells) (hg:∀ i,m<=i->i<n->g' i=g i) (hn:n<=n'):OwnX m g' n' e ao len cells:=by
  rcases h with h|⟨h1,f,u,rest,k1,k2,k3,k4,k5,k6⟩
  . exact .inl (h.keep hg hn)
  . exact .inr ⟨h1,f,u,rest,k1,by rw [hg f k3 k4];exact k2,k3,by omega,by omega,k6⟩
theorem OwnX.first {m e len k:Nat} {ao:Option Addr} {cells:List Value} (h:OwnX m g n e ao len cells) (hl:lim<=m) (hk:k<=len):gz (St n g lim rd wr) e k (.slice ao len len)=some (cells.take (k*e),St n g lim rd wr):=by
  rcases h with h|⟨h1,f,u,rest,rfl,k2,k3,k4,k5,k6⟩
  . exact h.first hl hk
  . have hkl:k*e<=len*e:=jw e hk;rw [zqt (cs:=cells) (by rw [k2];simp [zbu,gw]) (by omega) (by omega)];simp
theorem OwnX.append {m e len k bytes:Nat} {ao:Option Addr} {cells xs:List Value} {y:Value} {rd':List Nat} (h:OwnX m g n e ao len cells) (hm:m<=n) (hl:lim<=m) (hlen:lenC y=some k) (hy:gz (St n g lim rd wr) e k y=some (xs,St n g lim rd' wr)) (hx:xs.length=k*e) (ho:xs.all oneC=true) (he:0<e/\e<1000)
    (hb:(len+k)*(bytes+1)<=1000000000) :
    ∃ ao' n' g',kc (St n g lim rd wr) e bytes ao len len y=some (.slice ao' (len+k) (len+k),St n' g' lim rd' wr)/\OwnX m g' n' e ao' (len+k) (cells++xs)/\n<=n'/\n'<=n+1/\∀ i,i<m->g' i=g i:=by
  rcases h with h|⟨h1,f,u,rest,rfl,k2,k3,k4,k5,k6⟩
  . obtain ⟨ao',n',g',a1,a2,a3⟩:=h.append hm hl hlen hy hx ho he hb;exact ⟨ao',n',g',a1,.inl a2,a3⟩
  . have c1:(fb 1000000000 ((len+k)*(bytes+1)) || d7 e 0 || fg 1000 e || not (xs.all oneC))=false:=by
      rw [z4s hb,zoy (by omega),zwd (by omega),ho];rfl
    cases hk:d7 k 0 with
    |true =>
      have:=dx hk;subst this;have hx0:xs=[]:=by simpa using hx
      subst hx0;refine ⟨_,n,g,?_,.inr ⟨by simpa using h1,f,u,rest,rfl,by simpa using k2,k3,k4,k5,k6⟩,dz _,by omega,fun _ _=>rfl⟩;unfold kc;rw [hlen];simp only [hy,c1,cond_false];rw [zkd (by omega)];simp only [cond_true,hk];rfl
    |false =>
      have hk0:k≠0:=fun h=>by rw [h] at hk;simp at hk
      have hfl:lim<=f:=by omega
      have hold:(bif d7 len 0 then some ([],St n g lim rd' wr) else gz (St n g lim rd' wr) e len (.slice (some (mkA f u 0)) len len))=some (cells,St n g lim rd' wr):=by
        cases hz:d7 len 0 with
        |true =>
          have:=dx hz;subst this;have:cells=[]:=by simpa using h1
          rw [this];rfl
        |false =>
          rw [cond_false,zqt (cs:=cells) (by rw [k2];simp [zbu,gw]) (by omega) hfl];rw [fp,fk (by omega)]
      refine ⟨some (mkA n (n*1024+(e+1)) 0),n+1,fupd g n ⟨false,[(n*1024+(e+1),cells++xs)],none,none⟩,?_,.inl ⟨by rw [er,h1,hx,ig],.inr ⟨n,_,[],rfl,ze7 _ _ _,hm,by omega,by omega,by omega⟩⟩,by omega,by omega,fun i hi=>zh1 _ _ _ _ (by omega)⟩;unfold kc;rw [hlen];simp only [hy,c1,cond_false];rw [zwd (by omega)];simp only [cond_false,hold,zjm];rw [zke k6];simp only [cond_true,z21,zhp]
theorem OwnX.push {m len bytes:Nat} {ao:Option Addr} {cells:List Value} {v:Value} (h:OwnX m g n 1 ao len cells) (hm:m<=n) (hl:lim<=m) (hv:oneC v=true) (hb:(len+1)*(bytes+1)<=1000000000) :
    ∃ ao' n' g',kc (St (n+1) (fupd g n ⟨false,[(n*1024+0,[v])],none,none⟩) lim rd wr) 1 bytes ao len len (.slice (some (mkA n (n*1024+0) 0)) 1 1)=some (.slice ao' (len+1) (len+1),St n' g' lim rd wr)/\OwnX m g' n' 1 ao' (len+1) (cells++[v])/\n+1<=n'/\n'<=n+2/\∀ i,i<m->g' i=g i:=by
  have h2:=h.keep (n':=n+1) (g':=fupd g n ⟨false,[(n*1024+0,[v])],none,none⟩) (fun i _ hi=>zh1 _ _ _ _ (by omega)) (by omega)
  obtain ⟨ao',n',g',a1,a2,a3,a4,a5⟩:=h2.append (bytes:=bytes) (rd:=rd) (wr:=wr) (rd':=rd) (xs:=[v]) (k:=1) (y:=.slice (some (mkA n (n*1024+0) 0)) 1 1) (by omega) hl rfl
    (by rw [zqt (cs:=[v]) (by rw [ze7];exact z2a) (by simp) (by omega)];rfl) rfl (by simp [hv]) (by omega) hb
  exact ⟨ao',n',g',a1,a2,a3,by omega,fun i hi=>by rw [a5 i hi,zh1 _ _ _ _ (by omega)]⟩
section
variable {call:zc1} {d:Option Tmp} {ty:ed} {pos:String} {e:Array Edge} {q:Option (Nat×Bool)}
end
theorem W.cut {a:Code} {Q:Exit->Fr->CS->Prop} {k:Fr->CS->Prop} (R:Fr->CS->Prop) (h:W P Γ a fr s fun e fr s=>e=.normal/\R fr s) (hk:∀ fr s,R fr s->k fr s):W P Γ a fr s (onN k Q):=by
  refine h.mono ?_;rintro e fr s ⟨rfl,hR⟩;exact hk _ _ hR
end
inductive T where
  |int (k:fx) (n:Int)
  |bool (b:Bool)
  |str (b:ByteArray)
  |agg (l:List T)
  |tup (l:List T)
  |lst (e:Nat) (l:List T)
  |nils
  |nilp
  |nilm
  |nilf
  |ptr (b off N:Nat)
  |cp (l:List T)
  |arr (b e off len cap N:Nat)
  |mp (b:Nat)
  |fn (f:Nat) (first cap:List T)
  |junk
  |emp (e:Nat)
def T.cells:T->List T
  |.agg l=>l
  |t=>[t]
inductive Loc where
  |live (f u N:Nat)
  |nil
  |map (r:Nat)
  |dead
def Loc.le:Loc->Loc->Prop
  |.live f u N,l=>match l with|.live f' u' N'=>(f=f'/\u=u'/\N=N')\/N<N' | .dead=>True|_=>False
  |.nil,l=>match l with|.nil=>True|.live _ _ N=>0<N|.dead=>True|_=>False
  |.map r,l=>match l with|.map r'=>r=r' | .dead=>True|_=>False
  |.dead,l=>match l with|.dead=>True|_=>False
theorem Loc.le_refl (l:Loc):Loc.le l l:=by cases l<;>simp [Loc.le]
theorem Loc.le_trans {a b c:Loc} (h:Loc.le a b) (k:Loc.le b c):Loc.le a c:=by
  cases a<;>cases b<;>cases c<;>simp_all [Loc.le]<;>omega
abbrev Bx:=Nat->Option Loc
def Bx.le (β β':Bx):Prop:=∀ b l,β b=some l->∃ l',β' b=some l'/\Loc.le l l'
theorem Bx.le_refl (β:Bx):Bx.le β β:=fun b l h=>⟨l,h,Loc.le_refl l⟩
theorem Bx.le_trans {a b c:Bx} (h:Bx.le a b) (k:Bx.le b c):Bx.le a c:=fun x l hx=>by
  obtain ⟨l',h1,h2⟩:=h x l hx;obtain ⟨l2,h3,h4⟩:=k x l' h1;exact ⟨l2,h3,Loc.le_trans h2 h4⟩
def yh4 (u e:Nat):Prop:=u % 1024=0\/u % 1024=e+1
mutual
inductive VT (A:Nat->Prop) (β:Bx) (g:Nat->Fam):T->Value->Prop
  |int (k n):VT A β g (.int k n) (.int k n)
  |bool (b):VT A β g (.bool b) (.bool b)
  |str (b):VT A β g (.str b) (.string b)
  |agg {l cs}:VL A β g l cs->VT A β g (.agg l) (.agg ⟨cs⟩)
  |tup {l vs}:VL A β g l vs->VT A β g (.tup l) (.tuple ⟨vs⟩)
  |lnil {e}:VT A β g (.lst e []) (.slice none 0 0)
  |lst {e l f u off cap cs cs0}:A f->zbu (g f).rows u=some cs0->VL A β g (l.flatMap T.cells) cs->(∀ t,t∈l->t.cells.length=e)->0<e->(cs0.drop off).take cs.length=cs->yh4 u e->l.length<=cap->VT A β g (.lst e l) (.slice (some (mkA f u off)) l.length cap)
  |nils:VT A β g .nils (.slice none 0 0)
  |nilp:VT A β g .nilp (.pointer none)
  |nilm:VT A β g .nilm (.map none)
  |nilf:VT A β g .nilf .nilFunc
  |ptr {b off f u N}:β b=some (.live f u N)->VT A β g (.ptr b off N) (.pointer (some (mkA f u off)))
  |ptrOld {b off N l v}:β b=some l->(∀ f u,l≠.live f u N)->Loc.le (.live 0 0 N) l->oneC v=true->VT A β g (.ptr b off N) v
  |cp {l f u off cs cs0}:A f->zbu (g f).rows u=some cs0->VL A β g l cs->(cs0.drop off).take cs.length=cs->VT A β g (.cp l) (.pointer (some (mkA f u off)))
  |arr {b e off len cap f u N}:β b=some (.live f u N)->yh4 u e->VT A β g (.arr b e off len cap N) (.slice (some (mkA f u off)) len cap)
  |arrNil {b e}:β b=some .nil->VT A β g (.arr b e 0 0 0 0) (.slice none 0 0)
  |arrOld {b e off len cap N l v}:β b=some l->(∀ f u,l≠.live f u N)->Loc.le (.live 0 0 N) l->oneC v=true->VT A β g (.arr b e off len cap N) v
  |mp {b r}:β b=some (.map r)->VT A β g (.mp b) (.map (some r))
  |mpOld {b v}:β b=some .dead->oneC v=true->VT A β g (.mp b) v
  |fn {f a c va vc}:VL A β g a va->VL A β g c vc->VT A β g (.fn f a c) (.func (.func f) ⟨va⟩ ⟨vc⟩)
  |junk (v):VT A β g .junk v
  |emp {e f u off cap cs0}:A f->zbu (g f).rows u=some cs0->0<e->yh4 u e->VT A β g (.emp e) (.slice (some (mkA f u off)) 0 cap)
inductive VL (A:Nat->Prop) (β:Bx) (g:Nat->Fam):List T->List Value->Prop
  |nil:VL A β g [] []
  |cons {t v l vs}:VT A β g t v->VL A β g l vs->VL A β g (t :: l) (v :: vs)
end
section
variable {A A':Nat->Prop} {β β':Bx} {g g':Nat->Fam}
theorem ye3 {f u N:Nat} {l:Loc} (h:Loc.le (.live f u N) l):l=.live f u N\/((∀ f u,l≠.live f u N)/\Loc.le (.live 0 0 N) l):=by
  cases l with
  |live f' u' N' =>
    simp only [Loc.le] at h;rcases h with ⟨rfl,rfl,rfl⟩|h
    . exact .inl rfl
    . refine .inr ⟨fun f u hh=>?_,.inr h⟩
      cases hh;omega
  |dead=>exact .inr ⟨fun _ _ hh=>by simp at hh,trivial⟩
  |nil=>simp [Loc.le] at h
  |map r=>simp [Loc.le] at h
theorem ykt {N:Nat} {l l':Loc} (h0:∀ f u,l≠.live f u N) (h:Loc.le (.live 0 0 N) l) (k:Loc.le l l'):(∀ f u,l'≠.live f u N)/\Loc.le (.live 0 0 N) l':=by
  cases l with
  |live f' u' N' =>
    simp only [Loc.le] at h
    have hN:N<N':=by
      rcases h with ⟨h1,h2,h3⟩|h
      . exact absurd rfl (h3 ▸ h0 f' u')
      . exact h
    cases l' with
    |live f2 u2 N2 =>
      simp only [Loc.le] at k;have:N<N2:=by rcases k with ⟨_,_,rfl⟩|k<;>omega
      exact ⟨fun f u hh=>by cases hh;omega,.inr this⟩
    |dead=>exact ⟨fun _ _ hh=>by simp at hh,trivial⟩
    |nil=>simp [Loc.le] at k
    |map r=>simp [Loc.le] at k
  |dead =>
    cases l' with
    |dead=>exact ⟨fun _ _ hh=>by simp at hh,trivial⟩
    |_=>simp [Loc.le] at k
  |nil=>simp [Loc.le] at h
  |map r=>simp [Loc.le] at h
mutual
theorem VT.mono (hA:∀ f,A f->A' f) (hg:∀ f,A f->g' f=g f) (hβ:Bx.le β β'):∀ {t:T} {v:Value},VT A β g t v->VT A' β' g' t v
  |_,_,.int k n=>.int k n
  |_,_,.bool b=>.bool b
  |_,_,.str b=>.str b
  |_,_,.agg h=>.agg (VL.mono hA hg hβ h)
  |_,_,.tup h=>.tup (VL.mono hA hg hβ h)
  |_,_,.lnil=>.lnil
  |_,_,.lst h1 h2 h3 h4 h5 h6 h7 h8=>.lst (hA _ h1) (by rw [hg _ h1];exact h2) (VL.mono hA hg hβ h3) h4 h5 h6 h7 h8
  |_,_,.nils=>.nils
  |_,_,.nilp=>.nilp
  |_,_,.nilm=>.nilm
  |_,_,.nilf=>.nilf
  |_,_,.ptr h=>by
    obtain ⟨l',h1,h2⟩:=hβ _ _ h;rcases ye3 h2 with rfl|⟨h3,h4⟩
    . exact .ptr h1
    . exact .ptrOld h1 h3 h4 rfl
  |_,_,.ptrOld h h0 h1 h2=>by
    obtain ⟨l',k1,k2⟩:=hβ _ _ h;obtain ⟨k3,k4⟩:=ykt h0 h1 k2;exact .ptrOld k1 k3 k4 h2
  |_,_,.cp h1 h2 h3 h4=>.cp (hA _ h1) (by rw [hg _ h1];exact h2) (VL.mono hA hg hβ h3) h4
  |_,_,.arr h ht=>by
    obtain ⟨l',h1,h2⟩:=hβ _ _ h;rcases ye3 h2 with rfl|⟨h3,h4⟩
    . exact .arr h1 ht
    . exact .arrOld h1 h3 h4 rfl
  |_,_,.arrNil h=>by
    obtain ⟨l',h1,h2⟩:=hβ _ _ h
    cases l' with
    |nil=>exact .arrNil h1
    |live f u N =>
      simp only [Loc.le] at h2;exact .arrOld h1 (fun f u hh=>by cases hh;omega) (.inr h2) rfl
    |dead=>exact .arrOld h1 (fun _ _ hh=>by simp at hh) trivial rfl
    |map r=>simp [Loc.le] at h2
  |_,_,.arrOld h h0 h1 h2=>by
    obtain ⟨l',k1,k2⟩:=hβ _ _ h;obtain ⟨k3,k4⟩:=ykt h0 h1 k2;exact .arrOld k1 k3 k4 h2
  |_,_,.mp h=>by
    obtain ⟨l',h1,h2⟩:=hβ _ _ h
    cases l' with
    |map r=>simp only [Loc.le] at h2;subst h2;exact .mp h1
    |dead=>exact .mpOld h1 rfl
    |_=>simp [Loc.le] at h2
  |_,_,.mpOld h h2=>by
    obtain ⟨l',k1,k2⟩:=hβ _ _ h
    cases l' with
    |dead=>exact .mpOld k1 h2
    |_=>simp [Loc.le] at k2
  |_,_,.fn h1 h2=>.fn (VL.mono hA hg hβ h1) (VL.mono hA hg hβ h2)
  |_,_,.junk v=>.junk v
  |_,_,.emp h1 h2 h3 h4=>.emp (hA _ h1) (by rw [hg _ h1];exact h2) h3 h4
theorem VL.mono (hA:∀ f,A f->A' f) (hg:∀ f,A f->g' f=g f) (hβ:Bx.le β β'):∀ {l:List T} {vs:List Value},VL A β g l vs->VL A' β' g' l vs
  |_,_,.nil=>.nil
  |_,_,.cons h k=>.cons (VT.mono hA hg hβ h) (VL.mono hA hg hβ k)
end
theorem VL.len:∀ {l:List T} {vs:List Value},VL A β g l vs->l.length=vs.length
  |_,_,.nil=>rfl
  |_,_,.cons _ k=>by rw [eh,eh,k.len]
theorem VL.get:∀ {l:List T} {vs:List Value} {i:Nat} {t:T},VL A β g l vs->l[i]?=some t->∃ v,vs[i]?=some v/\VT A β g t v
  |_,_,_,_,.nil,h=>by simp at h
  |_,_,0,_,.cons h k,hi=>by simp at hi;subst hi;exact ⟨_,rfl,h⟩
  |_,_,i+1,_,.cons h k,hi=>by
    obtain ⟨v,h1,h2⟩:=VL.get (i:=i) k (by simpa using hi);exact ⟨v,by simpa using h1,h2⟩
theorem VL.append:∀ {l l2:List T} {vs vs2:List Value},VL A β g l vs->VL A β g l2 vs2->VL A β g (l++l2) (vs++vs2)
  |_,_,_,_,.nil,k=>k
  |_,_,_,_,.cons h k,k2=>.cons h (k.append k2)
theorem VL.split:∀ {l l2:List T} {vs:List Value},VL A β g (l++l2) vs->∃ a b,vs=a++b/\VL A β g l a/\VL A β g l2 b
  |[],_,vs,h=>⟨[],vs,rfl,.nil,h⟩
  |t :: l,l2,_,.cons h k=>by
    obtain ⟨a,b,rfl,h1,h2⟩:=VL.split (l:=l) k;exact ⟨_ :: a,b,rfl,.cons h h1,h2⟩
theorem VL.take:∀ {l:List T} {vs:List Value} (n:Nat),VL A β g l vs->VL A β g (l.take n) (vs.take n)
  |_,_,0,_=>by simp only [List.take_zero];exact .nil
  |_,_,n+1,.nil=>by simp only [List.take_nil];exact .nil
  |_,_,n+1,.cons h k=>by simp only [jy];exact .cons h (k.take n)
theorem VL.drop:∀ {l:List T} {vs:List Value} (n:Nat),VL A β g l vs->VL A β g (l.drop n) (vs.drop n)
  |_,_,0,h=>h
  |_,_,n+1,.nil=>by simp only [List.drop_nil];exact .nil
  |_,_,n+1,.cons h k=>by simp only [ir];exact k.drop n
theorem VL.splice {l xs:List T} {vs ys:List Value} (off:Nat) (h:VL A β g l vs) (k:VL A β g xs ys):VL A β g (l.take off++xs++l.drop (off+xs.length)) (splice vs off ys):=by
  unfold Go.Proofs.YteifcnjpjjaikaaGreat.splice;rw [k.len];exact ((h.take off).append k).append (h.drop _)
theorem VL.rep {t:T} {v:Value} (h:VT A β g t v):∀ n,VL A β g (List.replicate n t) (List.replicate n v)
  |0=>.nil
  |n+1=>.cons h (VL.rep h n)
def T.one:T->Bool
  |.agg _=>false
  |.tup _=>false
  |.junk=>false
  |_=>true
theorem VT.one {t:T} {v:Value} (h:VT A β g t v) (ht:t.one=true):oneC v=true:=by
  cases h<;>first|rfl|assumption | (simp [T.one] at ht)
theorem VL.one {l:List T} {vs:List Value} (h:VL A β g l vs) (hl:l.all T.one=true):vs.all oneC=true:=by
  induction l generalizing vs with
  |nil=>cases h;rfl
  |cons t l ih =>
    cases h with
    |cons h1 h2 =>
      simp only [ii,dr] at hl ⊢;exact ⟨h1.one hl.1,ih h2 hl.2⟩
theorem VT.cells {t:T} {v:Value} (h:VT A β g t v) (hj:t≠.junk):VL A β g t.cells v.cells.toList:=by
  have one:∀ v:Value,oneC v=true->v.cells.toList=[v]:=by intro v hv;cases v<;>first|rfl|simp [oneC] at hv
  cases h with
  |agg h=>exact h
  |junk=>exact absurd rfl hj
  |tup h=>exact .cons (.tup h) .nil
  |ptrOld h0 h1 h2 h3=>simp only [T.cells];rw [one _ h3];exact .cons (.ptrOld h0 h1 h2 h3) .nil
  |arrOld h0 h1 h2 h3=>simp only [T.cells];rw [one _ h3];exact .cons (.arrOld h0 h1 h2 h3) .nil
  |mpOld h0 h3=>simp only [T.cells];rw [one _ h3];exact .cons (.mpOld h0 h3) .nil
  |int k n=>exact .cons (.int k n) .nil
  |bool b=>exact .cons (.bool b) .nil
  |str b=>exact .cons (.str b) .nil
  |lnil=>exact .cons .lnil .nil
  |lst h1 h2 h3 h4 h5 h6 h7 h8=>exact .cons (.lst h1 h2 h3 h4 h5 h6 h7 h8) .nil
  |nils=>exact .cons .nils .nil
  |nilp=>exact .cons .nilp .nil
  |nilm=>exact .cons .nilm .nil
  |nilf=>exact .cons .nilf .nil
  |ptr h=>exact .cons (.ptr h) .nil
  |cp h1 h2 h3 h4=>exact .cons (.cp h1 h2 h3 h4) .nil
  |arr h ht=>exact .cons (.arr h ht) .nil
  |arrNil h=>exact .cons (.arrNil h) .nil
  |mp h=>exact .cons (.mp h) .nil
  |fn h1 h2=>exact .cons (.fn h1 h2) .nil
  |emp h1 h2 h3 h4=>exact .cons (.emp h1 h2 h3 h4) .nil
end
inductive Box where
  |gone
  |cells (z:Bool) (N:Nat) (l:List T)
  |map (l:List (T×T))
structure TS where
  n:Nat
  box:Nat->Box
def ts0:TS:=⟨0,fun _=>.gone⟩
def TS.set (S:TS) (b:Nat) (x:Box):TS:=⟨S.n,fun i=>if i=b then x else S.box i⟩
def TS.add (S:TS) (x:Box):TS:=⟨S.n+1,fun i=>if i=S.n then x else S.box i⟩
theorem TS.set_same (S:TS) (b:Nat) (x:Box):(S.set b x).box b=x:=zAc rfl
theorem TS.set_ne (S:TS) {b c:Nat} (x:Box) (h:c≠b):(S.set b x).box c=S.box c:=zAd h
theorem TS.add_same (S:TS) (x:Box):(S.add x).box S.n=x:=zAc rfl
theorem TS.add_ne (S:TS) {c:Nat} (x:Box) (h:c≠S.n):(S.add x).box c=S.box c:=zAd h
def Own (β:Bx) (f:Nat):Prop:=∃ b,(∃ u N,β b=some (.live f u N))\/β b=some (.map f)
def Loc.fam:Loc->Option Nat
  |.live f _ _=>some f
  |.map r=>some r
  |_=>none
def zr1 (A:Nat->Prop) (β:Bx) (g:Nat->Fam) (b:Nat) (z:Bool) (N:Nat) (l:List T):Prop :=
  l.length=N/\((β b=some .nil/\N=0/\z=false)\/∃ f u cs rest,β b=some (.live f u N)/\(z=true->u % 1024=0)/\g f=⟨false,(u,cs) :: rest,none,none⟩/\VL A β g l cs/\cs.all oneC=true)
def VM (A:Nat->Prop) (β:Bx) (g:Nat->Fam) (l:List (T×T)) (es:List (Value×Value)):Prop :=
  VL A β g (l.map (·.1)) (es.map (·.1))/\VL A β g (l.map (·.2)) (es.map (·.2))
def ztq (A:Nat->Prop) (β:Bx) (g:Nat->Fam) (b:Nat) (l:List (T×T)):Prop :=
  ∃ r es,β b=some (.map r)/\g r=⟨false,[],some es,none⟩/\VM A β g l es
structure TRel (GL:List (Nat×List Value)) (A:Nat->Prop) (β:Bx) (S:TS) (s:CS):Prop where
  inr:∃ g,s.obj=.inr g
  inv:CInv s
  alt:∀ f,A f->f<s.n
  dis:∀ f,Own β f->f<s.n/\¬ A f
  inj:∀ b b' l l' f,β b=some l->β b'=some l'->l.fam=some f->l'.fam=some f->b=b'
  next:∀ b,S.n<=b->β b=none
  cells:∀ b z N l,S.box b=.cells z N l->zr1 A β (zaa s.obj) b z N l
  maps:∀ b l,S.box b=.map l->ztq A β (zaa s.obj) b l
  glob:∀ x,x∈GL->A x.1/\zbu (zaa s.obj x.1).rows (x.1*1024)=some x.2
structure Stp (A:Nat->Prop) (β:Bx) (s:CS) (A':Nat->Prop) (β':Bx) (s':CS):Prop where
  can:Can s s'
  sub:∀ f,A f->A' f
  new:∀ f,A' f->A f\/s.n<=f\/Own β f
  own:∀ f,Own β' f->Own β f\/s.n<=f
  keep:∀ f,f<s.n->¬ Own β f->zaa s'.obj f=zaa s.obj f
  bx:Bx.le β β'
  rd:∀ x,x∈s'.rd->x∈s.rd\/(x<s.lim/\(A x\/Own β x))
  wr:∀ x,x∈s'.wr->x∈s.wr\/(x<s.lim/\Own β x)
section
variable {GL:List (Nat×List Value)} {A A' A2:Nat->Prop} {β β' β2:Bx} {S S':TS} {s s' s2:CS}
theorem Stp.refl:Stp A β s A β s:=⟨f5 _,fun _ h=>h,fun _ h=>.inl h,fun _ h=>.inl h,fun _ _ _=>rfl,Bx.le_refl _,fun _ h=>.inl h,fun _ h=>.inl h⟩
theorem Stp.trans (hl:s.lim<=s.n) (h:Stp A β s A' β' s') (k:Stp A' β' s' A2 β2 s2):Stp A β s A2 β2 s2:=by
  have hn:=h.can.n;refine ⟨h.can.trans k.can,fun f hf=>k.sub f (h.sub f hf),fun f hf=>?_,fun f hf=>?_,fun f hf ho=>?_,Bx.le_trans h.bx k.bx,fun x hx=>?_,fun x hx=>?_⟩
  . rcases k.new f hf with q|q|q
    . exact h.new f q
    . exact .inr (.inl (by omega))
    . rcases h.own f q with q|q
      . exact .inr (.inr q)
      . exact .inr (.inl q)
  . rcases k.own f hf with q|q
    . exact h.own f q
    . exact .inr (by omega)
  . rw [k.keep f (by omega) (fun q=>by rcases h.own f q with q|q;exact ho q;omega)];exact h.keep f hf ho
  . rcases k.rd x hx with q|⟨q,q2⟩
    . exact h.rd x q
    . rw [h.can.lim] at q;refine .inr ⟨q,?_⟩;rcases q2 with q2|q2
      . rcases h.new x q2 with q3|q3|q3
        . exact .inl q3
        . omega
        . exact .inr q3
      . rcases h.own x q2 with q3|q3
        . exact .inr q3
        . omega
  . rcases k.wr x hx with q|⟨q,q2⟩
    . exact h.wr x q
    . rw [h.can.lim] at q;refine .inr ⟨q,?_⟩;rcases h.own x q2 with q3|q3
      . exact q3
      . omega
theorem Stp.old (h:TRel GL A β S s) (k:Stp A β s A' β' s'):∀ f,A f->zaa s'.obj f=zaa s.obj f:=fun f hf=>k.keep f (h.alt f hf) fun ho=>(h.dis f ho).2 hf
theorem Stp.vt (h:TRel GL A β S s) (k:Stp A β s A' β' s') {t:T} {v:Value} (hv:VT A β (zaa s.obj) t v):VT A' β' (zaa s'.obj) t v:=hv.mono k.sub (k.old h) k.bx
theorem Stp.vl (h:TRel GL A β S s) (k:Stp A β s A' β' s') {t:List T} {v:List Value} (hv:VL A β (zaa s.obj) t v):VL A' β' (zaa s'.obj) t v:=hv.mono k.sub (k.old h) k.bx
def Ok (GL:List (Nat×List Value)) (A:Nat->Prop) (β:Bx) (s:CS) (r:Option (Value×CS)) (t:T) (S':TS):Prop :=
  ∃ v s' A' β',r=some (v,s')/\TRel GL A' β' S' s'/\VT A' β' (zaa s'.obj) t v/\Stp A β s A' β' s'
theorem Ok.same (h:TRel GL A β S s) {t:T} {v:Value} (hv:VT A β (zaa s.obj) t v):Ok GL A β s (some (v,s)) t S:=⟨v,s,A,β,rfl,h,hv,Stp.refl⟩
theorem Can.read (s:CS) (f:Nat):Can s { s with rd:=ins s.lim s.rd f }:=by
  refine ⟨dz _,rfl,fun x hx=>?_,fun _ h=>h,fun _ _ _ _=>rfl,fun _ _=>rfl,fun h=>h,fun h=>h,fun h=>h⟩;show x∈ins s.lim s.rd f;unfold ins
  cases fb f s.lim with
  |false=>exact hx
  |true =>
    cases has s.rd f with
    |true=>exact hx
    |false=>exact lf _ hx
theorem TRel.read (h:TRel GL A β S s) (f:Nat):TRel GL A β S { s with rd:=ins s.lim s.rd f } :=
  ⟨h.inr,⟨h.inv.none,h.inv.vers,h.inv.lim⟩,h.alt,h.dis,h.inj,h.next,h.cells,h.maps,h.glob⟩
theorem Stp.read {f:Nat} (hf:A f\/Own β f):Stp A β s A β { s with rd:=ins s.lim s.rd f }:=by
  refine ⟨Can.read s f,fun _ h=>h,fun _ h=>.inl h,fun _ h=>.inl h,fun _ _ _=>rfl,Bx.le_refl _,fun x hx=>?_,fun _ h=>.inl h⟩;rcases zjw hx with q|⟨rfl,q⟩
  . exact .inl q
  . exact .inr ⟨q,hf⟩
theorem Ok.read (h:TRel GL A β S s) {f:Nat} (hf:A f\/Own β f) {t:T} {v:Value} (hv:VT A β (zaa s.obj) t v):Ok GL A β s (some (v,{ s with rd:=ins s.lim s.rd f })) t S :=
  ⟨v,_,A,β,rfl,h.read f,hv,Stp.read hf⟩
theorem zci {b f u N:Nat} (h:β b=some (.live f u N)):Own β f:=⟨b,.inl ⟨u,N,h⟩⟩
theorem zd2 {b r:Nat} (h:β b=some (.map r)):Own β r:=⟨b,.inr h⟩
def bnew (β:Bx) (b:Nat) (l:Loc):Bx:=fun i=>if i=b then some l else β i
theorem zwc {b:Nat} {l:Loc} (h:β b=none):Bx.le β (bnew β b l):=fun i x hx=>by
  refine ⟨x,?_,Loc.le_refl x⟩;unfold bnew;rw [zAd (fun hh=>by subst hh;rw [h] at hx;simp at hx)];exact hx
theorem zr1.mono {g g':Nat->Fam} {b N:Nat} {z:Bool} {l:List T} (hA:∀ f,A f->A' f) (hg:∀ f,A f->g' f=g f) (hβ:Bx.le β β') (hb:β' b=β b) (ho:∀ f u N,β b=some (.live f u N)->g' f=g f) (h:zr1 A β g b z N l):zr1 A' β' g' b z N l:=by
  obtain ⟨h1,h2⟩:=h;refine ⟨h1,?_⟩;rcases h2 with ⟨k1,k2⟩|⟨f,u,cs,rest,k1,kz,k2,k3,k4⟩
  . exact .inl ⟨by rw [hb];exact k1,k2⟩
  . exact .inr ⟨f,u,cs,rest,by rw [hb];exact k1,kz,by rw [ho f u N k1];exact k2,k3.mono hA hg hβ,k4⟩
theorem ztq.mono {g g':Nat->Fam} {b:Nat} {l:List (T×T)} (hA:∀ f,A f->A' f) (hg:∀ f,A f->g' f=g f) (hβ:Bx.le β β') (hb:β' b=β b) (ho:∀ r,β b=some (.map r)->g' r=g r) (h:ztq A β g b l):ztq A' β' g' b l:=by
  obtain ⟨r,es,h1,h2,h3,h4⟩:=h;exact ⟨r,es,by rw [hb];exact h1,by rw [ho r h1];exact h2,h3.mono hA hg hβ,h4.mono hA hg hβ⟩
structure zj4 (A:Nat->Prop) (β:Bx) (s:CS) (A':Nat->Prop) (s':CS):Prop where
  can:Can s s'
  sub:∀ f,A f->A' f
  new:∀ f,A' f->A f\/s.n<=f
  keep:∀ f,f<s.n->zaa s'.obj f=zaa s.obj f
  rd:∀ x,x∈s'.rd->x∈s.rd\/(x<s.lim/\(A x\/Own β x))
  wr:∀ x,x∈s'.wr->x∈s.wr
theorem zj4.stp (k:zj4 A β s A' s'):Stp A β s A' β s':=⟨k.can,k.sub,fun f hf=>(k.new f hf).imp id .inl,fun f hf=>.inl hf,fun f hf _=>k.keep f hf,Bx.le_refl _,k.rd,fun x hx=>.inl (k.wr x hx)⟩
theorem zj4.rel (hT:TRel GL A β S s) (k:zj4 A β s A' s') (hin:∃ g,s'.obj=.inr g) (hI:CInv s') (ha:∀ f,A' f->f<s'.n):TRel GL A' β S s':=by
  refine ⟨hin,hI,ha,fun f hf=>?_,hT.inj,hT.next,fun b z N l hb=>?_,fun b l hb=>?_,fun x hx=>?_⟩
  . have:=hT.dis f hf;refine ⟨ei this.1 k.can.n,fun hA=>?_⟩;rcases k.new f hA with q|q
    . exact this.2 q
    . omega
  . exact (hT.cells b z N l hb).mono k.sub (fun f hf=>k.keep f (hT.alt f hf)) (Bx.le_refl _) rfl fun f u N hl=>k.keep f (hT.dis f (zci hl)).1
  . exact (hT.maps b l hb).mono k.sub (fun f hf=>k.keep f (hT.alt f hf)) (Bx.le_refl _) rfl fun r hl=>k.keep r (hT.dis r (zd2 hl)).1
  . have:=hT.glob x hx;exact ⟨k.sub _ this.1,by rw [k.keep _ (hT.alt _ this.1)];exact this.2⟩
def Ok0 (GL:List (Nat×List Value)) (A:Nat->Prop) (β:Bx) (S:TS) (s:CS) (r:Option (Value×CS)) (t:T):Prop :=
  ∃ v s' A',r=some (v,s')/\TRel GL A' β S s'/\VT A' β (zaa s'.obj) t v/\zj4 A β s A' s'
theorem Ok0.ok {r:Option (Value×CS)} {t:T} (h:Ok0 GL A β S s r t):Ok GL A β s r t S:=by
  obtain ⟨v,s',A',h1,h2,h3,h4⟩:=h;exact ⟨v,s',A',β,h1,h2,h3,h4.stp⟩
theorem Ok0.same (h:TRel GL A β S s) {t:T} {v:Value} (hv:VT A β (zaa s.obj) t v):Ok0 GL A β S s (some (v,s)) t :=
  ⟨v,s,A,rfl,h,hv,f5 _,fun _ h=>h,fun _ h=>.inl h,fun _ _=>rfl,fun _ h=>.inl h,fun _ h=>h⟩
theorem zj4.read {f:Nat} (hf:A f\/Own β f):zj4 A β s A { s with rd:=ins s.lim s.rd f }:=by
  refine ⟨Can.read s f,fun _ h=>h,fun _ h=>.inl h,fun _ _=>rfl,fun x hx=>?_,fun _ h=>h⟩;rcases zjw hx with q|⟨rfl,q⟩
  . exact .inl q
  . exact .inr ⟨q,hf⟩
theorem Ok0.read (h:TRel GL A β S s) {f:Nat} (hf:A f\/Own β f) {t:T} {v:Value} (hv:VT A β (zaa s.obj) t v):Ok0 GL A β S s (some (v,{ s with rd:=ins s.lim s.rd f })) t :=
  ⟨v,_,A,rfl,h.read f,hv,zj4.read hf⟩
theorem TRel.fresh (h:TRel GL A β S s) (F:Fam) (hF:F.ro=false) (hv:∀ p,p∈F.rows->p.1 / 1024<s.n+1) :
    TRel GL A β S { s with n:=s.n+1,obj:=zal s.obj s.n F }/\Can s { s with n:=s.n+1,obj:=zal s.obj s.n F }/\(∀ f,f≠s.n->zaa (zal s.obj s.n F) f=zaa s.obj f)/\zaa (zal s.obj s.n F) s.n=F:=by
  obtain ⟨n,ob,lim,rd,wr⟩:=s;obtain ⟨g,hg⟩:=h.inr;simp only at hg;subst hg;simp only [zff,zqc];have hne:∀ f,f≠n->fupd g n F f=g f:=fun f hf=>zh1 g n f F hf;have hold:∀ f,f<n->fupd g n F f=g f:=fun f hf=>hne f (by omega);have hlim:lim<=n:=h.inv.lim
  have hI:CInv (⟨n+1,.inr (fupd g n F),lim,rd,wr⟩:CS):=by
    refine ⟨fun f hf=>?_,fun f p hp=>?_,by show lim<=n+1;omega⟩
    . show fupd g n F f=zdr;rw [hne f (by have:n+1<=f:=hf;omega)];exact h.inv.none f (by have:n+1<=f:=hf;show n<=f;omega)
    . change p∈(fupd g n F f).rows at hp;show p.1 / 1024<n+1;by_cases hf:f=n
      . subst hf;rw [ze7] at hp;exact hv p hp
      . rw [hne f hf] at hp;have:p.1 / 1024<n:=h.inv.vers f p hp;omega
  refine ⟨⟨⟨_,rfl⟩,hI,fun f hf=>?_,fun f hf=>?_,h.inj,h.next,fun b z N l hb=>?_,fun b l hb=>?_,fun x hx=>?_⟩,?_,hne,ze7 g n F⟩
  . have:f<n:=h.alt f hf;show f<n+1;omega
  . have:f<n/\¬ A f:=h.dis f hf;exact ⟨by show f<n+1;omega,this.2⟩
  . exact (h.cells b z N l hb).mono (fun _ h=>h) (fun f hf=>hold f (h.alt f hf)) (Bx.le_refl _) rfl fun f u N hl=>hold f (h.dis f (zci hl)).1
  . exact (h.maps b l hb).mono (fun _ h=>h) (fun f hf=>hold f (h.alt f hf)) (Bx.le_refl _) rfl fun r hl=>hold r (h.dis r (zd2 hl)).1
  . have:=h.glob x hx;refine ⟨this.1,?_⟩;show zbu (fupd g n F x.1).rows (x.1*1024)=_;rw [hold x.1 (h.alt _ this.1)];exact this.2
  . refine ⟨by show n<=n+1;omega,rfl,fun _ h=>h,fun _ h=>h,fun f hf _ _=>hold f hf,fun f hf=>?_,fun hd f hf=>hI.none f hf,fun hd f p hp=>hI.vers f p hp,fun h=>h⟩;show (fupd g n F f).ro=_;rw [hold f hf];rfl
theorem TRel.le (h:TRel GL A β S s):s.lim<=s.n:=h.inv.lim
def CS.rowed (s:CS) (tag:Nat) (cs:List Value):CS:={ s with n:=s.n+1,obj:=zal s.obj s.n ⟨false,[(s.n*1024+tag,cs)],none,none⟩ }
theorem TRel.newBox (h:TRel GL A β S s) {l:List T} {cs:List Value} (tag:Nat) (ht:tag<1024) (hv:VL A β (zaa s.obj) l cs) (h1:cs.all oneC=true) :
    ∃ s' β',s.newRow tag cs=some (mkA s.n (s.n*1024+tag) 0,s')/\β' S.n=some (.live s.n (s.n*1024+tag) l.length)/\TRel GL A β' (S.add (.cells (d7 tag 0) l.length l)) s'/\Stp A β s A β' s':=by
  obtain ⟨q1,q2,q3,q4⟩:=h.fresh ⟨false,[(s.n*1024+tag,cs)],none,none⟩ rfl (fun p hp=>by simp at hp;subst hp;show (s.n*1024+tag) / 1024<s.n+1;omega);refine ⟨s.rowed tag cs,bnew β S.n (.live s.n (s.n*1024+tag) l.length),?_,zAc rfl,?_,?_⟩
  . unfold pt;have:zif s.obj s.n=true:=by obtain ⟨g,hg⟩:=h.inr;rw [hg];rfl
    rw [this,za7];rfl
  . have hb0:β S.n=none:=h.next _ (dz _)
    have hle:Bx.le β (bnew β S.n (.live s.n (s.n*1024+tag) l.length)):=zwc hb0;have hat:∀ b,b≠S.n->bnew β S.n (.live s.n (s.n*1024+tag) l.length) b=β b:=fun b hb=>zAd hb;have hat2:bnew β S.n (.live s.n (s.n*1024+tag) l.length) S.n=some (.live s.n (s.n*1024+tag) l.length):=zAc rfl;have hold:∀ f,f<s.n->zaa (zal s.obj s.n ⟨false,[(s.n*1024+tag,cs)],none,none⟩) f=zaa s.obj f:=fun f hf=>q3 f (by omega);refine ⟨q1.inr,q1.inv,q1.alt,fun f hf=>?_,fun b b' x x' f hb hb' hx hx'=>?_,fun b hb=>?_,fun b z N x hb=>?_,fun b x hb=>?_,q1.glob⟩
    . obtain ⟨b,hb⟩:=hf;by_cases hbn:b=S.n
      . subst hbn;rw [hat2] at hb;rcases hb with ⟨u,N,hb⟩|hb
        . cases hb;exact ⟨by show s.n<s.n+1;omega,fun hA=>by have:=h.alt _ hA;omega⟩
        . simp at hb
      . rw [hat b hbn] at hb;exact q1.dis f ⟨b,hb⟩
    . have key:∀ b x,β b=some x->x.fam=some s.n->False:=fun b x hb hx=>by
        have:Own β s.n:=by
          cases x with
          |live f u N=>simp [Loc.fam] at hx;subst hx;exact zci hb
          |map r=>simp [Loc.fam] at hx;subst hx;exact zd2 hb
          |nil=>simp [Loc.fam] at hx
          |dead=>simp [Loc.fam] at hx
        have:=(h.dis _ this).1;omega
      by_cases e1:b=S.n<;>by_cases e2:b'=S.n
      . rw [e1,e2]
      . subst e1;rw [hat2] at hb;rw [hat b' e2] at hb';cases hb;simp [Loc.fam] at hx;subst hx;exact (key b' x' hb' hx').elim
      . subst e2;rw [hat2] at hb';rw [hat b e1] at hb;cases hb';simp [Loc.fam] at hx';subst hx';exact (key b x hb hx).elim
      . rw [hat b e1] at hb;rw [hat b' e2] at hb';exact h.inj b b' x x' f hb hb' hx hx'
    . have:S.n+1<=b:=hb;rw [hat b (by omega)];exact h.next b (by omega)
    . by_cases hbn:b=S.n
      . subst hbn;rw [TS.add_same] at hb;cases hb;refine ⟨rfl,.inr ⟨s.n,_,cs,[],hat2,fun hz=>by have:=dx hz;omega,q4,hv.mono (fun _ h=>h) (fun f hf=>hold f (h.alt f hf)) hle,h1⟩⟩
      . rw [TS.add_ne _ _ hbn] at hb;exact (h.cells b z N x hb).mono (fun _ h=>h) (fun f hf=>hold f (h.alt f hf)) hle (hat b hbn) fun f u N hl=>hold f (h.dis f (zci hl)).1
    . by_cases hbn:b=S.n
      . subst hbn;rw [TS.add_same] at hb;cases hb
      . rw [TS.add_ne _ _ hbn] at hb;exact (h.maps b x hb).mono (fun _ h=>h) (fun f hf=>hold f (h.alt f hf)) hle (hat b hbn) fun r hl=>hold r (h.dis r (zd2 hl)).1
  . refine ⟨q2,fun _ h=>h,fun _ h=>.inl h,fun f hf=>?_,fun f hf _=>q3 f (by omega),zwc (h.next _ (dz _)),fun _ h=>.inl h,fun _ h=>.inl h⟩;obtain ⟨b,hb⟩:=hf;by_cases hbn:b=S.n
    . subst hbn;unfold bnew at hb;rw [zAc rfl] at hb;rcases hb with ⟨u,N,hb⟩|hb
      . cases hb;exact .inr (dz _)
      . simp at hb
    . unfold bnew at hb;rw [zAd hbn] at hb;exact .inl ⟨b,hb⟩
theorem TRel.newFrozen (h:TRel GL A β S s) {l:List T} {cs:List Value} (tag:Nat) (ht:tag<1024) (hv:VL A β (zaa s.obj) l cs) :
    ∃ s' A',s.newRow tag cs=some (mkA s.n (s.n*1024+tag) 0,s')/\A' s.n/\zbu (zaa s'.obj s.n).rows (s.n*1024+tag)=some cs/\TRel GL A' β S s'/\zj4 A β s A' s':=by
  obtain ⟨q1,q2,q3,q4⟩:=h.fresh ⟨false,[(s.n*1024+tag,cs)],none,none⟩ rfl (fun p hp=>by simp at hp;subst hp;show (s.n*1024+tag) / 1024<s.n+1;omega);have hold:∀ f,f<s.n->zaa (zal s.obj s.n ⟨false,[(s.n*1024+tag,cs)],none,none⟩) f=zaa s.obj f:=fun f hf=>q3 f (by omega);refine ⟨s.rowed tag cs,fun f=>A f\/f=s.n,?_,.inr rfl,?_,?_,?_⟩
  . unfold pt;have:zif s.obj s.n=true:=by obtain ⟨g,hg⟩:=h.inr;rw [hg];rfl
    rw [this,za7];rfl
  . show zbu (zaa (zal s.obj s.n _) s.n).rows _=_;rw [q4];exact z2a
  . refine ⟨q1.inr,q1.inv,fun f hf=>?_,fun f hf=>?_,h.inj,h.next,fun b z N x hb=>?_,fun b x hb=>?_,fun x hx=>⟨.inl (q1.glob x hx).1,(q1.glob x hx).2⟩⟩
    . rcases hf with hf|rfl
      . exact q1.alt f hf
      . show s.n<s.n+1;omega
    . refine ⟨(q1.dis f hf).1,fun hh=>?_⟩;rcases hh with hh|rfl
      . exact (q1.dis f hf).2 hh
      . have:=(h.dis _ hf).1;omega
    . exact (q1.cells b z N x hb).mono (fun _ h=>.inl h) (fun _ _=>rfl) (Bx.le_refl _) rfl fun _ _ _ _=>rfl
    . exact (q1.maps b x hb).mono (fun _ h=>.inl h) (fun _ _=>rfl) (Bx.le_refl _) rfl fun _ _=>rfl
  . refine ⟨q2,fun _ h=>.inl h,fun f hf=>?_,hold,fun _ h=>.inl h,fun _ h=>h⟩;rcases hf with hf|rfl
    . exact .inl hf
    . exact .inr (dz _)
theorem Ok0.rd (h:TRel GL A β S s) {s1:CS} (hs:TRel GL A β S s1/\zj4 A β s A s1) {t:T} {v:Value} (hv:VT A β (zaa s1.obj) t v):Ok0 GL A β S s (some (v,s1)) t:=⟨v,s1,A,rfl,hs.1,hv,hs.2⟩
end
def spl (l:List T) (off:Nat) (xs:List T):List T:=l.take off++xs++l.drop (off+xs.length)
theorem yc1 {l xs:List T} {off:Nat} (h:off+xs.length<=l.length):(spl l off xs).length=l.length:=by
  unfold spl;rw [er,er,fi,gp];omega
section
variable {GL:List (Nat×List Value)} {A A' A2:Nat->Prop} {β β' β2:Bx} {S S':TS} {s s' s2:CS} {P:ep} {Γ:Env}
theorem yb7 {s:CS} {g:Nat->Fam} (hs:s.obj=.inr g) {f u off:Nat} {vs cs:List Value} {rest:List (Nat×List Value)} (hg:g f=⟨false,(u,cs) :: rest,none,none⟩) (hl:off+vs.length<=cs.length) (ho:vs.all oneC=true) :
    CS.write s (mkA f u off) vs=some { s with obj:=.inr (fupd g f ⟨false,[(u,splice cs off vs)],none,none⟩),wr:=ins s.lim s.wr f }:=by
  obtain ⟨n,ob,lim,rd,wr⟩:=s;simp only at hs;subst hs;unfold CS.write;show (match (g f).ro,zbu (g f).rows u with|false,some cs=>_|_,_=>none)=_;rw [hg];simp only;have:zbu ((u,cs) :: rest) u=some cs:=by unfold zbu;rw [gw];rfl
  rw [this];simp only;rw [zax.2 (show (mkA f u off).off+vs.length<=cs.length from hl),ho,mj,za7,zff];rfl
theorem TRel.write (h:TRel GL A β S s) {b N f u off:Nat} {z:Bool} {l xs:List T} {ys:List Value} (hS:S.box b=.cells z N l) (hb:β b=some (.live f u N)) (hx:VL A β (zaa s.obj) xs ys) (ho:ys.all oneC=true) (hN:off+xs.length<=N) :
    ∃ s',s.write (mkA f u off) ys=some s'/\TRel GL A β (S.set b (.cells z N (spl l off xs))) s'/\Stp A β s A β s':=by
  obtain ⟨hlN,hc⟩:=h.cells b z N l hS;rcases hc with ⟨hc,_,_⟩|⟨f',u',cs,rest,hb',hz,hg,hv,h1⟩
  . rw [hb] at hc;simp at hc
  rw [hb] at hb';cases hb';have hlen:=hv.len;have hxl:=hx.len;obtain ⟨g,hin⟩:=h.inr;have hg':g f=⟨false,(u,cs) :: rest,none,none⟩:=by rw [hin] at hg;exact hg
  have hw:=yb7 hin (off:=off) (vs:=ys) hg' (by omega) ho;have hcan:=zi8 h.inv hw;have hd:=h.dis f (zci hb);have hold:∀ k,k≠f->fupd g f ⟨false,[(u,splice cs off ys)],none,none⟩ k=g k:=fun k hk=>zh1 _ _ _ _ hk;have hobj:∀ k,zaa s.obj k=g k:=fun k=>by rw [hin];rfl
  have hA:∀ k,A k->fupd g f ⟨false,[(u,splice cs off ys)],none,none⟩ k=zaa s.obj k:=fun k hk=>by rw [hobj];exact hold k fun hh=>hd.2 (hh ▸ hk)
  have hoth:∀ {b':Nat} {l:Loc} {k:Nat},β b'=some l->l.fam=some k->b'≠b->fupd g f ⟨false,[(u,splice cs off ys)],none,none⟩ k=zaa s.obj k:=by
    intro b' l k hb2 hk hne;rw [hobj];refine hold k fun hh=>hne ?_;subst hh;exact h.inj b' b l _ k hb2 hb hk rfl
  refine ⟨_,hw,⟨⟨_,rfl⟩,h.inv.next hcan,fun k hk=>h.alt k hk,fun k hk=>h.dis k hk,h.inj,h.next,fun b' z' N' l' hb2=>?_,fun b' l' hb2=>?_,fun x hx2=>?_⟩,hcan,fun _ h=>h,fun _ h=>.inl h,fun _ h=>.inl h,fun k hk hno=>?_,Bx.le_refl _,fun _ h=>.inl h,fun x hx2=>?_⟩
  . by_cases hbb:b'=b
    . subst hbb;rw [TS.set_same] at hb2;cases hb2;refine ⟨by rw [yc1 (by omega)];exact hlN,.inr ⟨f,u,splice cs off ys,[],hb,hz,ze7 _ _ _,?_,?_⟩⟩
      . exact (hv.splice off hx).mono (fun _ h=>h) hA (Bx.le_refl _)
      . unfold Go.Proofs.YteifcnjpjjaikaaGreat.splice;rw [List.all_append,List.all_append,ho];simp only [mj,dr,ez] at h1 ⊢;exact ⟨fun x hx=>h1 x (List.mem_of_mem_take hx),fun x hx=>h1 x (List.mem_of_mem_drop hx)⟩
    . rw [TS.set_ne _ _ hbb] at hb2;exact (h.cells b' z' N' l' hb2).mono (fun _ h=>h) hA (Bx.le_refl _) rfl fun f' u' N2 hl=>hoth hl rfl hbb
  . by_cases hbb:b'=b
    . subst hbb;rw [TS.set_same] at hb2;cases hb2
    . rw [TS.set_ne _ _ hbb] at hb2;exact (h.maps b' l' hb2).mono (fun _ h=>h) hA (Bx.le_refl _) rfl fun r hl=>hoth hl rfl hbb
  . have:=h.glob x hx2;refine ⟨this.1,?_⟩;show zbu (fupd g f _ x.1).rows _=_;rw [hA _ this.1];exact this.2
  . show fupd g f _ k=_;rw [hobj];exact hold k fun hh=>hno (hh ▸ zci hb)
  . rcases zjw hx2 with q|⟨rfl,q⟩
    . exact .inl q
    . exact .inr ⟨q,zci hb⟩
theorem TRel.look (h:TRel GL A β S s) {b N f u off:Nat} {z:Bool} {l:List T} (hS:S.box b=.cells z N l) (hb:β b=some (.live f u N)) :
    ∃ cs,s.readRow (mkA f u off)=some (cs,{ s with rd:=ins s.lim s.rd f })/\VL A β (zaa s.obj) l cs/\cs.all oneC=true:=by
  obtain ⟨hlN,hc⟩:=h.cells b z N l hS;rcases hc with ⟨hc,_,_⟩|⟨f',u',cs,rest,hb',hz,hg,hv,h1⟩
  . rw [hb] at hc;simp at hc
  rw [hb] at hb';cases hb';refine ⟨cs,?_,hv,h1⟩;unfold p9;rw [zl9,zjm,hg];have:zbu ((u,cs) :: rest) u=some cs:=by unfold zbu;rw [gw];rfl
  rw [show (⟨false,(u,cs) :: rest,none,none⟩:Fam).rows=(u,cs) :: rest from rfl,this]
def z2p (i:TI) (l:List T) (off:Nat):Option T:=bif aggT i.desc then (bif fg (off+i.size) l.length then some (.agg ((l.drop off).take i.size)) else none) else l[off]?
theorem z9o {l:List Value} {off k:Nat} (h:off+k<=l.length):cut l off k=some ((l.drop off).take k):=by
  unfold cut;have:((l.drop off).take k).length=k:=by rw [fi,gp];omega
  simp only [this,gw,cond_true]
theorem ztc {g:Nat->Fam} {i:TI} {l:List T} {cs:List Value} {off:Nat} {t:T} (hv:VL A β g l cs) (ht:z2p i l off=some t):∃ v,zs1 i cs off=some v/\VT A β g t v:=by
  unfold z2p at ht;unfold zs1
  cases ha:aggT i.desc with
  |true =>
    rw [ha] at ht;simp only [cond_true] at ht ⊢
    cases hb:fg (off+i.size) l.length with
    |false=>rw [hb] at ht;simp at ht
    |true =>
      rw [hb] at ht;simp only [cond_true,dp] at ht;subst ht;rw [z9o (by rw [<- hv.len];exact zax.1 hb)];exact ⟨_,rfl,.agg ((hv.drop off).take i.size)⟩
  |false =>
    rw [ha] at ht;simp only [cond_false] at ht ⊢;exact hv.get ht
def zt1 (Γ:Env) (S:TS) (t:ed):T->Option T
  |.ptr b off N=>match Γ.ti.at t,S.box b with
    |some i,.cells z N' l=>bif d7 N N' then z2p i l off else none
    |_,_=>none
  |.cp l=>match Γ.ti.at t with|some i=>z2p i l 0|none=>none
  |_=>none
theorem ypx {b f u N M:Nat} (h:TRel GL A β S s) {z:Bool} {l:List T} (hS:S.box b=.cells z M l) {x:Loc} (hb:β b=some x) (hx:(∀ f u,x≠.live f u M)) (hn:Loc.le (.live 0 0 M) x):False:=by
  obtain ⟨hlN,hc⟩:=h.cells b z M l hS;rcases hc with ⟨hc,_,_⟩|⟨f',u',cs,rest,hb',hz,hg,hv,h1⟩
  . rw [hb] at hc;cases hc;simp [Loc.le] at hn
  . rw [hb] at hb';cases hb';exact hx _ _ rfl
theorem zjt (h:TRel GL A β S s) {b off N:Nat} {z:Bool} {l:List T} {v:Value} (hS:S.box b=.cells z N l) (hv:VT A β (zaa s.obj) (.ptr b off N) v):∃ f u,v=.pointer (some (mkA f u off))/\β b=some (.live f u N):=by
  cases hv with
  |ptr hb=>exact ⟨_,_,rfl,hb⟩
  |ptrOld hb h1 h2 h3=>exact (ypx (f:=0) (u:=0) (N:=0) h hS hb h1 h2).elim
theorem zf1 (h:TRel GL A β S s) {b e off len cap N:Nat} {z:Bool} {l:List T} {v:Value} (hS:S.box b=.cells z N l) (hv:VT A β (zaa s.obj) (.arr b e off len cap N) v):(∃ f u,v=.slice (some (mkA f u off)) len cap/\β b=some (.live f u N)/\yh4 u e)\/(v=.slice none 0 0/\β b=some .nil/\off=0/\len=0/\cap=0/\N=0):=by
  cases hv with
  |arr hb ht=>exact .inl ⟨_,_,rfl,hb,ht⟩
  |arrNil hb=>exact .inr ⟨rfl,hb,rfl,rfl,rfl,rfl⟩
  |arrOld hb h1 h2 h3=>exact (ypx (f:=0) (u:=0) (N:=0) h hS hb h1 h2).elim
theorem z66 (h:TRel GL A β S s) {t:ed} {x r:T} {v:Value} (hx:VT A β (zaa s.obj) x v) (ht:zt1 Γ S t x=some r) :
    ∃ ad i w f,v=.pointer (some ad)/\Γ.ti.at t=some i/\(A f\/Own β f)/\s.loadVar i ad=some (w,{ s with rd:=ins s.lim s.rd f })/\VT A β (zaa s.obj) r w:=by
  unfold zt1 at ht;split at ht
  . rename_i b off N;split at ht
    . rename_i i z N' l hi hS
      cases hq:d7 N N' with
      |false=>rw [hq] at ht;simp at ht
      |true =>
        rw [hq] at ht;have:=dx hq;subst this;obtain ⟨f,u,rfl,hb⟩:=zjt h hS hx;obtain ⟨cs,h1,h2,h3⟩:=h.look (off:=off) hS hb;obtain ⟨w,h4,h5⟩:=ztc h2 ht;refine ⟨_,i,w,f,rfl,hi,.inr (zci hb),?_,h5⟩;unfold CS.loadVar;simp only [h1,zsf,h4]
    . simp at ht
  . rename_i l
    cases hx with
    |cp k1 k2 k3 k4 =>
      rename_i f u off cs cs0;split at ht
      . rename_i i hi
        have hpc:∀ w,zs1 i cs 0=some w->zs1 i cs0 off=some w:=by
          intro w hw;unfold zs1 at hw ⊢
          cases ha:aggT i.desc with
          |true =>
            rw [ha] at hw;simp only [cond_true] at hw ⊢;unfold cut at hw ⊢
            cases hl:d7 ((cs.drop 0).take i.size).length i.size with
            |false=>simp only [hl,cond_false] at hw;simp at hw
            |true =>
              simp only [hl,cond_true] at hw;have hl':=dx hl;rw [fp,fi] at hl'
              have e1:(cs0.drop off).take i.size=(cs.drop 0).take i.size:=by
                rw [<- k4,fp,List.take_take,Nat.min_eq_left (by omega)]
              rw [e1];simp only [hl,cond_true];exact hw
          |false =>
            rw [ha] at hw;simp only [cond_false] at hw ⊢;rw [<- k4] at hw;rw [List.getElem?_take] at hw;split at hw
            . rw [List.getElem?_drop] at hw;exact hw
            . simp at hw
        obtain ⟨w,h4,h5⟩:=ztc k3 ht;refine ⟨_,i,w,f,rfl,hi,.inl k1,?_,h5⟩;unfold CS.loadVar p9;simp only [zl9,zjm,k2,zsf,hpc _ h4]
      . simp at ht
  . simp at ht
theorem yh6 (h:TRel GL A β S s) {t:ed} {x r:T} {v:Value} (hx:VT A β (zaa s.obj) x v) (ht:zt1 Γ S t x=some r):Ok0 GL A β S s (zop Γ s t v) r:=by
  obtain ⟨ad,i,w,f,rfl,h1,h2,h3,h4⟩:=z66 h hx ht
  have:zop Γ s t (.pointer (some ad))=some (w,{ s with rd:=ins s.lim s.rd f }):=by
    unfold zop;simp only [h1,h3]
  rw [this];exact Ok0.read h h2 h4
def zxb (Γ:Env) (S:TS) (t:ed) (v:T):T->Option TS
  |.ptr b off N=>match Γ.ti.at t,S.box b with
    |some i,.cells z N' l=>bif d7 N N' && (d7 v.cells.length i.size && (fg (off+v.cells.length) N && v.cells.all T.one)) then some (S.set b (.cells z N (spl l off v.cells))) else none
    |_,_=>none
  |_=>none
theorem zly {v:T} (h:v.cells.all T.one=true):v≠.junk:=by rintro rfl;simp [T.cells,T.one] at h
theorem yci (h:TRel GL A β S s) {t:ed} {x y:T} {v w:Value} (hx:VT A β (zaa s.obj) x v) (hy:VT A β (zaa s.obj) y w) (ht:zxb Γ S t y x=some S'):Ok GL A β s (zkm Γ s t w.cells.toList v) .junk S':=by
  unfold zxb at ht;split at ht
  . rename_i b off N;split at ht
    . rename_i i z N' l hi hS
      cases hq:(d7 N N' && (d7 y.cells.length i.size && (fg (off+y.cells.length) N && y.cells.all T.one))) with
      |false=>rw [hq] at ht;simp at ht
      |true =>
        rw [hq] at ht;simp only [cond_true,dp] at ht;subst ht;simp only [dr] at hq;obtain ⟨q1,q2,q3,q4⟩:=hq;have:=dx q1;subst this;obtain ⟨f,u,rfl,hb⟩:=zjt h hS hx;have hc:=hy.cells (zly q4);obtain ⟨s',h1,h2,h3⟩:=h.write (off:=off) hS hb hc (hc.one q4) (zax.1 q3);refine ⟨undef,s',A,β,?_,h2,.junk _,h3⟩;unfold zkm;simp only [hi];rw [<- hc.len,q2,cond_true,h1];rfl
    . simp at ht
  . simp at ht
def zll:Value->Option T
  |.int k n=>some (.int k n)
  |.bool b=>some (.bool b)
  |.string b=>some (.str b)
  |.pointer none=>some .nilp
  |.slice none 0 0=>some .nils
  |.map none=>some .nilm
  |.nilFunc=>some .nilf
  |_=>none
def zf6:List Value->Option (List T)
  |[]=>some []
  |v :: l=>match zll v,zf6 l with|some t,some r=>some (t :: r)|_,_=>none
theorem zzl {g:Nat->Fam} {v:Value} {t:T} (h:zll v=some t):VT A β g t v/\t.one=true:=by
  unfold zll at h;split at h<;>first | (simp at h;done) | (cases h;exact ⟨by constructor,rfl⟩)
theorem zh8 {g:Nat->Fam}:∀ {l:List Value} {r:List T},zf6 l=some r->VL A β g r l/\r.all T.one=true
  |[],r,h=>by simp only [zf6,dp] at h;subst h;exact ⟨.nil,rfl⟩
  |v :: l,r,h=>by
    unfold zf6 at h;split at h
    . rename_i t r' h1 h2;cases h;obtain ⟨a,b⟩:=zzl (A:=A) (β:=β) (g:=g) h1;obtain ⟨c,d⟩:=zh8 h2;exact ⟨.cons a c,by rw [ii,b,d];rfl⟩
    . simp at h
def zxd (Γ:Env) (S:TS) (e:ed):Option (T×TS) :=
  match Γ.ti.at e with
  |some i=>(match zf6 i.zero with|some l=>some (.ptr S.n 0 l.length,S.add (.cells true l.length l))|none=>none)
  |none=>none
theorem yku (h:TRel GL A β S s) {l:List T} {cs:List Value} (hv:VL A β (zaa s.obj) l cs) (h1:l.all T.one=true):Ok GL A β s (ptrC (s.newRow 0 cs)) (.ptr S.n 0 l.length) (S.add (.cells true l.length l)):=by
  obtain ⟨s',β',k1,k2,k3,k4⟩:=h.newBox 0 (by omega) hv (hv.one h1);exact ⟨_,s',A,β',by rw [k1];rfl,k3,.ptr k2,k4⟩
theorem ycr (h:TRel GL A β S s) {e:ed} {r:T} (ht:zxd Γ S e=some (r,S')):Ok GL A β s (zko Γ s e) r S':=by
  unfold zxd at ht;split at ht
  . rename_i i hi;split at ht
    . rename_i l hl;cases ht;obtain ⟨a,b⟩:=zh8 hl;have:=yku h a b;unfold zko;simp only [hi];exact this
    . simp at ht
  . simp at ht
def tBox (S:TS) (x:T):Option (T×TS):=bif x.cells.all T.one then some (.ptr S.n 0 x.cells.length,S.add (.cells true x.cells.length x.cells)) else none
theorem ym9 (h:TRel GL A β S s) {x r:T} {v:Value} (hx:VT A β (zaa s.obj) x v) (ht:tBox S x=some (r,S')):Ok GL A β s (ptrC (s.newRow 0 v.cells.toList)) r S':=by
  unfold tBox at ht
  cases hq:x.cells.all T.one with
  |false=>rw [hq] at ht;simp at ht
  |true =>
    rw [hq] at ht;cases ht;exact yku h (hx.cells (zly hq)) hq
end
section
variable {GL:List (Nat×List Value)} {A A' A2:Nat->Prop} {β β' β2:Bx} {S S':TS} {s s' s2:CS} {P:ep} {Γ:Env}
def TS.has (S:TS) (b N:Nat):Bool:=match S.box b with|.cells _ N' _=>d7 N N' | _=>false
theorem TS.has_ok {b N:Nat} (h:S.has b N=true):∃ z l,S.box b=.cells z N l:=by
  unfold TS.has at h;split at h
  . rename_i z N' l hS;have:=dx h;subst this;exact ⟨z,l,hS⟩
  . simp at h
theorem yg0 {g:Nat->Fam} {l:List T} {f u off:Nat} {cs0 cs:List Value} (o:Nat) (k1:A f) (k2:zbu (g f).rows u=some cs0) (k3:VL A β g l cs) (k4:(cs0.drop off).take cs.length=cs):VT A β g (.cp (l.drop o)) (.pointer (some (mkA f u (off+o)))):=by
  refine .cp k1 k2 (k3.drop o) ?_;have:=congrArg (List.drop o) k4;rw [List.drop_take,List.drop_drop] at this;rw [gp];exact this
theorem yn8 {g:Nat->Fam} {l:List T} {f u off:Nat} {cs0 cs:List Value} (o:Nat) (k1:A f) (k2:zbu (g f).rows u=some cs0) (k3:VL A β g l cs) (k4:(cs0.drop off).take cs.length=cs):VT A β g (.cp (l.take o)) (.pointer (some (mkA f u off))):=by
  refine .cp k1 k2 (k3.take o) ?_;have:=congrArg (List.take o) k4;rw [List.take_take] at this;rw [fi];exact this
def zab (Γ:Env) (S:TS) (t:ed) (k:Nat) (x:T):Option T:=match Γ.ti.at t with
  |some i=>(match i.desc with
    |.struct fs=>(match zg7 Γ fs k with
      |some (o,size)=>bif d7 size 0 then none else (match x with
        |.ptr b off N=>bif S.has b N then some (.ptr b (off+o) N) else none
        |.cp l=>some (.cp (l.drop o))
        |_=>none)
      |none=>none)
    |_=>none)
  |none=>none
theorem zzs (h:TRel GL A β S s) {t:ed} {k:Nat} {x r:T} {v:Value} (hx:VT A β (zaa s.obj) x v) (ht:zab Γ S t k x=some r):Ok0 GL A β S s (zc7 Γ s t k v) r:=by
  unfold zab at ht;split at ht
  . rename_i i hi;split at ht
    . rename_i fs hd;split at ht
      . rename_i o size hp
        cases hz:d7 size 0 with
        |true=>rw [hz] at ht;simp at ht
        |false =>
          rw [hz,cond_false] at ht
          have key:∀ a,zc7 Γ s t k (.pointer (some a))=some (.pointer (some (Addr.plus a o)),s):=fun a=>by
            unfold zc7;simp only [hi,hd,hp,hz,cond_false]
          split at ht
          . rename_i b off N
            cases hs:S.has b N with
            |false=>rw [hs] at ht;simp at ht
            |true =>
              rw [hs] at ht;cases ht;obtain ⟨z,l,hS⟩:=TS.has_ok hs;obtain ⟨f,u,rfl,hb⟩:=zjt h hS hx;rw [key,zju];exact Ok0.same h (.ptr hb)
          . rename_i l;cases ht
            cases hx with
            |cp k1 k2 k3 k4 =>
              rw [key,zju];exact Ok0.same h (yg0 o k1 k2 k3 k4)
          . simp at ht
      . simp at ht
    . simp at ht
  . simp at ht
theorem zti {e:Nat}:∀ {l:List T},(∀ t,t∈l->t.cells.length=e)->(l.flatMap T.cells).length=l.length*e
  |[],_=>by simp
  |t :: l,h=>by
    rw [ij,er,h t (by simp),zti fun t ht=>h t (by simp [ht]),eh,ig];omega
theorem zvy {e:Nat}:∀ {l:List T} (k:Nat),(∀ t,t∈l->t.cells.length=e)->(l.flatMap T.cells).drop (k*e)=(l.drop k).flatMap T.cells
  |_,0,_=>by simp
  |[],k+1,_=>by simp
  |t :: l,k+1,h=>by
    rw [ij,ir,<- zvy k fun t ht=>h t (by simp [ht])];have h1:=h t (by simp);rw [show (k+1)*e=t.cells.length+k*e by rw [h1,ig];omega,List.drop_append];simp
theorem z3u {e:Nat}:∀ {l:List T} (k:Nat),(∀ t,t∈l->t.cells.length=e)->(l.flatMap T.cells).take (k*e)=(l.take k).flatMap T.cells
  |_,0,_=>by simp
  |[],k+1,_=>by simp
  |t :: l,k+1,h=>by
    rw [ij,jy,ij,<- z3u k fun t ht=>h t (by simp [ht])];have h1:=h t (by simp);rw [show (k+1)*e=t.cells.length+k*e by rw [h1,ig];omega,nv,fk (by omega)];simp
def natT:T->Option Nat
  |.int _ (.ofNat n)=>some n
  |_=>none
theorem yex {g:Nat->Fam} {t:T} {v:Value} {n:Nat} (h:VT A β g t v) (ht:natT t=some n):zgs v=some n:=by
  unfold natT at ht;split at ht
  . cases ht;cases h;rfl
  . simp at ht
def zhu (Γ:Env) (S:TS) (t:ed) (x k:T):Option T:=match Γ.ti.at t,natT k with
  |some i,some k=>(match x with
    |.ptr b off N=>(match i.desc with|.array n e=>(match Γ.ti.at e with|some j=>bif S.has b N && fb k n then some (.ptr b (off+k*j.size) N) else none|none=>none)|_=>none)
    |.cp l=>(match i.desc with|.array n e=>(match Γ.ti.at e with|some j=>bif fb k n then some (.cp (l.drop (k*j.size))) else none|none=>none)|_=>none)
    |.arr b es off len cap N=>(match i.desc with|.slice e=>(match Γ.ti.at e with|some j=>bif S.has b N && (d7 es j.size && fb k len) then some (.ptr b (off+k*j.size) N) else none|none=>none)|_=>none)
    |.lst es l=>(match i.desc with|.slice e=>(match Γ.ti.at e with|some j=>bif d7 es j.size then (match l[k]? with|some r=>some (.cp r.cells)|none=>none) else none|none=>none)|_=>none)
    |_=>none)
  |_,_=>none
theorem zzr (h:TRel GL A β S s) {t:ed} {x k r:T} {v w:Value} (hx:VT A β (zaa s.obj) x v) (hk:VT A β (zaa s.obj) k w) (ht:zhu Γ S t x k=some r):Ok0 GL A β S s (zbr Γ s t v (zgs w)) r:=by
  unfold zhu at ht;split at ht
  . rename_i i kk hi hkk;rw [yex hk hkk];split at ht
    . rename_i b off N;split at ht
      . rename_i n e hd;split at ht
        . rename_i j hj
          cases hq:(S.has b N && fb kk n) with
          |false=>rw [hq] at ht;simp at ht
          |true =>
            rw [hq] at ht;cases ht;simp only [dr] at hq;obtain ⟨z,l,hS⟩:=TS.has_ok hq.1;obtain ⟨f,u,rfl,hb⟩:=zjt h hS hx
            have:zbr Γ s t (.pointer (some (mkA f u off))) (some kk)=some (.pointer (some (mkA f u (off+kk*j.size))),s):=by
              unfold zbr zsw;simp only [hi,hd,hj,hq.2,cond_true,zju]
            rw [this];exact Ok0.same h (.ptr hb)
        . simp at ht
      . simp at ht
    . rename_i l;split at ht
      . rename_i n e hd;split at ht
        . rename_i j hj
          cases hq:fb kk n with
          |false=>rw [hq] at ht;simp at ht
          |true =>
            rw [hq] at ht;cases ht
            cases hx with
            |cp k1 k2 k3 k4 =>
              rename_i f u off cs cs0
              have:zbr Γ s t (.pointer (some (mkA f u off))) (some kk)=some (.pointer (some (mkA f u (off+kk*j.size))),s):=by
                unfold zbr zsw;simp only [hi,hd,hj,hq,cond_true,zju]
              rw [this];exact Ok0.same h (yg0 _ k1 k2 k3 k4)
        . simp at ht
      . simp at ht
    . rename_i b es off len cap N;split at ht
      . rename_i e hd;split at ht
        . rename_i j hj
          cases hq:(S.has b N && (d7 es j.size && fb kk len)) with
          |false=>rw [hq] at ht;simp at ht
          |true =>
            rw [hq] at ht;cases ht;simp only [dr] at hq;obtain ⟨q1,q2,q3⟩:=hq;obtain ⟨z,l,hS⟩:=TS.has_ok q1;rcases zf1 h hS hx with ⟨f,u,rfl,hb,_⟩|⟨rfl,_,_,rfl,_,_⟩
            . have:zbr Γ s t (.slice (some (mkA f u off)) len cap) (some kk)=some (.pointer (some (mkA f u (off+kk*j.size))),s):=by
                unfold zbr zsw;simp only [hi,hd,hj,q3,cond_true,zju]
              rw [this];exact Ok0.same h (.ptr hb)
            . have:=zac.1 q3;omega
        . simp at ht
      . simp at ht
    . rename_i es l;split at ht
      . rename_i e hd;split at ht
        . rename_i j hj
          cases hq:d7 es j.size with
          |false=>rw [hq] at ht;simp at ht
          |true =>
            rw [hq] at ht;have hes:=dx hq;simp only [cond_true] at ht;split at ht
            . rename_i r' hl;cases ht
              have hlt:kk<l.length:=by
                by_cases hh:kk<l.length
                . exact hh
                . rw [List.getElem?_eq_none (by omega)] at hl;simp at hl
              cases hx with
              |lnil=>simp at hlt
              |lst k1 k2 k3 k4 k5 k6 k7 k8 =>
                rename_i f u off cap cs cs0
                have:zbr Γ s t (.slice (some (mkA f u off)) l.length cap) (some kk)=some (.pointer (some (mkA f u (off+kk*es))),s):=by
                  unfold zbr zsw;simp only [hi,hd,hj,zac.2 hlt,cond_true,zju,hes]
                rw [this];refine Ok0.same h ?_
                have k7':(cs0.drop (off+kk*es)).take (cs.drop (kk*es)).length=cs.drop (kk*es):=by
                  have:=congrArg (List.drop (kk*es)) k6;rw [List.drop_take,List.drop_drop] at this;rw [gp];exact this
                have h1:=yn8 es k1 k2 (k3.drop (kk*es)) (off:=off+kk*es) k7'
                have h2:((l.flatMap T.cells).drop (kk*es)).take es=r'.cells:=by
                  rw [zvy kk k4];rw [dv hlt,dp] at hl;have hc:=k4 r' (by rw [<- hl];exact List.getElem_mem hlt);rw [jr hlt,hl,ij,nv,fk (by omega),hc];simp
                rw [h2] at h1;exact h1
            . simp at ht
        . simp at ht
      . simp at ht
    . simp at ht
  . simp at ht
def z1u (Γ:Env) (t:ed) (k:Nat):T->Option T
  |.agg l=>(match Γ.ti.at t with
    |some i=>(match i.desc with
      |.struct fs=>(match fs[k]? with|some f=>(match Γ.ti.at f.type with|some j=>z2p j l f.offset|none=>none)|none=>none)
      |_=>none)
    |none=>none)
  |_=>none
theorem ycn (h:TRel GL A β S s) {t:ed} {k:Nat} {x r:T} {v:Value} (hx:VT A β (zaa s.obj) x v) (ht:z1u Γ t k x=some r):Ok0 GL A β S s (zm4 Γ s t k v) r:=by
  unfold z1u at ht;split at ht
  . rename_i l
    cases hx with
    |agg hl =>
      rename_i cs;split at ht
      . rename_i i hi;split at ht
        . rename_i fs hd;split at ht
          . rename_i f hf;split at ht
            . rename_i j hj;obtain ⟨w,h1,h2⟩:=ztc hl ht
              have:zm4 Γ s t k (.agg ⟨cs⟩)=some (w,s):=by
                unfold zm4;simp only [hi,hd,hf,hj,h1];rfl
              rw [this];exact Ok0.same h h2
            . simp at ht
          . simp at ht
        . simp at ht
      . simp at ht
  . simp at ht
def zt2 (Γ:Env) (t:ed) (x k:T):Option T:=match Γ.ti.at t,natT k with
  |some i,some k=>(match x with
    |.agg l=>(match i.desc with
      |.array n e=>(match Γ.ti.at e with|some j=>bif fb k n then z2p j l (k*j.size) else none|none=>none)
      |_=>none)
    |.str b=>(match i.desc with
      |.string=>(match b.data.toList[k]? with|some c=>some (.int .u8 c.toNat)|none=>none)
      |_=>none)
    |_=>none)
  |_,_=>none
theorem ycm (h:TRel GL A β S s) {t:ed} {x k r:T} {v w:Value} (hx:VT A β (zaa s.obj) x v) (hk:VT A β (zaa s.obj) k w) (ht:zt2 Γ t x k=some r):Ok0 GL A β S s (zkn Γ s t v (zgs w)) r:=by
  unfold zt2 at ht;split at ht
  . rename_i i kk hi hkk;rw [yex hk hkk];split at ht
    . rename_i l
      cases hx with
      |agg hl =>
        rename_i cs;split at ht
        . rename_i n e hd;split at ht
          . rename_i j hj
            cases hq:fb kk n with
            |false=>rw [hq] at ht;simp at ht
            |true =>
              rw [hq,cond_true] at ht;obtain ⟨w,h1,h2⟩:=ztc hl ht
              have:zkn Γ s t (.agg ⟨cs⟩) (some kk)=some (w,s):=by
                unfold zkn;simp only [hi,hd,hj,hq,cond_true,h1];rfl
              rw [this];exact Ok0.same h h2
          . simp at ht
        . simp at ht
    . rename_i b;cases hx;split at ht
      . rename_i hd;split at ht
        . rename_i c hc;cases ht
          have:zkn Γ s t (.string b) (some kk)=some (.int .u8 c.toNat,s):=by
            unfold zkn;simp only [hi,hd,hc]
          rw [this];exact Ok0.same h (.int _ _)
        . simp at ht
      . simp at ht
    . simp at ht
  . simp at ht
def zlm (k:Nat):T->Option T
  |.tup l=>l[k]?
  |_=>none
theorem z5c (h:TRel GL A β S s) {k:Nat} {x r:T} {v:Value} (hx:VT A β (zaa s.obj) x v) (ht:zlm k x=some r):Ok0 GL A β S s (zgr s k v) r:=by
  unfold zlm at ht;split at ht
  . cases hx with
    |tup hl =>
      obtain ⟨w,h1,h2⟩:=hl.get ht;rename_i vs
      have:zgr s k (.tuple ⟨vs⟩)=some (w,s):=by
        unfold zgr;simp only [h1];rfl
      rw [this];exact Ok0.same h h2
  . simp at ht
def zfl (S:TS):T->Option T
  |.ptr b off N=>bif S.has b N then some (.ptr b off N) else none
  |.cp l=>some (.cp l)
  |.fn f a c=>some (.fn f a c)
  |_=>none
theorem z1s (h:TRel GL A β S s) {x r:T} {v:Value} (hx:VT A β (zaa s.obj) x v) (ht:zfl S x=some r):Ok0 GL A β S s (zjh s v) r:=by
  unfold zfl at ht;split at ht
  . rename_i b off N
    cases hs:S.has b N with
    |false=>rw [hs] at ht;simp at ht
    |true =>
      rw [hs] at ht;cases ht;obtain ⟨z,l,hS⟩:=TS.has_ok hs;obtain ⟨f,u,rfl,hb⟩:=zjt h hS hx;exact Ok0.same h (.ptr hb)
  . cases ht
    cases hx with
    |cp k1 k2 k3 k4=>exact Ok0.same h (.cp k1 k2 k3 k4)
  . cases ht
    cases hx with
    |fn k1 k2=>exact Ok0.same h (.fn k1 k2)
  . simp at ht
def tS2A (Γ:Env) (S:TS) (t:ed) (x:T):Option T:=match Γ.ti.at t with
  |some i=>(match i.desc with
    |.array n _=>(match x with
      |.arr b e off len cap N=>bif S.has b N && (fg n len && fb 0 n) then some (.ptr b off N) else none
      |.lst e l=>bif fg n l.length && fb 0 n then some (.cp (l.flatMap T.cells)) else none
      |_=>none)
    |_=>none)
  |none=>none
theorem ym7 (h:TRel GL A β S s) {t:ed} {x r:T} {v:Value} (hx:VT A β (zaa s.obj) x v) (ht:tS2A Γ S t x=some r):Ok0 GL A β S s (zwr Γ s t v) r:=by
  unfold tS2A at ht;split at ht
  . rename_i i hi;split at ht
    . rename_i n e0 hd;split at ht
      . rename_i b e off len cap N
        cases hq:(S.has b N && (fg n len && fb 0 n)) with
        |false=>rw [hq] at ht;simp at ht
        |true =>
          rw [hq] at ht;cases ht;simp only [dr] at hq;obtain ⟨q1,q2,q3⟩:=hq;obtain ⟨z,l,hS⟩:=TS.has_ok q1;rcases zf1 h hS hx with ⟨f,u,rfl,hb,_⟩|⟨rfl,_,_,rfl,_,_⟩
          . have:zwr Γ s t (.slice (some (mkA f u off)) len cap)=some (.pointer (some (mkA f u off)),s):=by
              unfold zwr;simp only [hi,hd,q2,q3,Bool.and_self,cond_true]
            rw [this];exact Ok0.same h (.ptr hb)
          . have:=zac.1 q3;have:=zax.1 q2;omega
      . rename_i e l
        cases hq:(fg n l.length && fb 0 n) with
        |false=>rw [hq] at ht;simp at ht
        |true =>
          rw [hq] at ht;cases ht
          cases hx with
          |lnil=>simp only [dr] at hq;have:=zac.1 hq.2;have:=zax.1 hq.1;simp at this;omega
          |lst k1 k2 k3 k4 k5 k6 k7 k8 =>
            rename_i f u off cap cs cs0
            have:zwr Γ s t (.slice (some (mkA f u off)) l.length cap)=some (.pointer (some (mkA f u off)),s):=by
              unfold zwr;simp only [hi,hd,hq,cond_true]
            rw [this];exact Ok0.same h (.cp k1 k2 k3 k6)
      . simp at ht
    . simp at ht
  . simp at ht
end
end
end Go.Proofs.YteifcnjpjjaikaaGreat
