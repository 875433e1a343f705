/- Part 2 of the proof of FitKeepsPackets (several texts in one; no further condition). -/
import Derived.Test.YteifcnjpjjaikaaGreatZA
import Derived.OrdersIn
import Derived.TacticsIn
import Derived.Scope
import Derived.RangeFuncSeq
import Derived.LoopNIn
import Derived.RangeFuncRecord
import Derived.RangeFuncNested
import Derived.RangeFuncIn
set_option linter.unusedSimpArgs false
set_option linter.unusedVariables false
set_option linter.unusedSectionVars false
namespace Go.Proofs.YteifcnjpjjaikaaGreat
open Go.Proofs.YteifcnjpjjaikaaGreat.Addr renaming ver->sf
open _root_.Array renaming getD_eq_getD_getElem?->jl,getElem?_eq_getElem->jq,getElem?_replicate->my,getElem?_toList->ja,length_toList->io,replicate->pt,toList_inj->lw,toList_map->m9
open _root_.Bool renaming and_eq_true->d8,or_eq_false_iff->lk,or_eq_true->kw
open Go.Builtin renaming len_->oa
open Go.Proofs.YteifcnjpjjaikaaGreat.CS renaming readMapO->sa
open Go.Proofs.YteifcnjpjjaikaaGreat.Can renaming refl->i6
open _root_.Classical renaming byContradiction->mj
open Go.Code renaming wpIn_mono->jy
open Go.Proofs.YteifcnjpjjaikaaGreat.Did renaming same->rq
open Go.Proofs.YteifcnjpjjaikaaGreat.DidV renaming same->o8
open Go.Exit renaming normal->mq
open Go.Proofs.YteifcnjpjjaikaaGreat.Ext renaming refl->qe
open Go.Fence renaming wide->mv
open Go.Proofs.YteifcnjpjjaikaaGreat.Fr renaming ofArgs->pk
open Go renaming FuncId->jx,MapEntry->kc,Operand->ep,Program->fe,TypeDesc->la,TypeId->fc,execOp->ls,run_underlying->fi
open Go.Instr renaming checkKey->n6,findAsking->ph,findKey->mu,findNow->l8,lookup->mf,sameBits->m8,sameNow->po
open _root_.List renaming all_eq_true->fd,any_eq_false->pc,append_assoc->ey,countP_cons->pj,getElem?_cons_succ->jo,getElem?_cons_zero->fx,getElem?_eq_getElem->ef,getElem?_eq_some_iff->et,isEmpty_iff->pi,mem_cons->ic,mem_of_getElem?->ij
open _root_.Nat renaming add->rm,beq->er,blt->fw,eq_of_beq_eq_true->eg,le_max_left->nq,le_max_right->nc,le_of_eq->jm,le_refl->ei,le_trans->kh,lt_of_lt_of_le->fh,lt_succ_self->r8,lt_trichotomy->pd,testBit->gr,zero_le->gb
open Go.Op renaming operands->fj
open _root_.Option.some renaming inj->qy,injEq->dy
open _root_.Prod.mk renaming injEq->ec
open Go.Region renaming binds->kx
open Go.Result renaming andThen_ok->mc
open Go.Sem renaming run_bind->ni
open Go.Proofs.YteifcnjpjjaikaaGreat.Sg renaming add_other->ru
open Go.Proofs.YteifcnjpjjaikaaGreat.VR renaming mk->qd,ofBool->r7,ofInt->qc
open Go.World renaming putObj_heap_other->il,putObj_heap_same->mg,putObj_size->mr
open Go Go.RowKit
section
variable {P:fe} {Γ:Env} {σ:Sg} {V:Nat->Prop} {s s':CS} {w:World} {v:Value}
theorem EL.length {R:Value->Value->Prop}:∀ {l:List (Value×Value)} {m:List kc},EL R l m->l.length=m.length
  |[],[],_=>rfl
  |(_,_) :: l,_ :: m,⟨_,_,_,d⟩=>by simp [EL.length d]
  |[],_ :: _,h=>h.elim
  |_ :: _,[],h=>h.elim
theorem yqe (hE:zei P Γ) (hr:Rel σ V s w) (hV:zci V s') {t ty:fc} {x x':Value} (h:zm4 Γ s t x=some (v,s')) (hx:VR σ x x'):DidV σ V s w ((oa #[t] ty #[x']).run P w) v s':=by
  unfold zm4 at h
  cases hi:Γ.ti.at t with
  |none=>rw [hi] at h;simp at h
  |some i =>
    rw [hi] at h;simp only at h;have hu:=(hE.ti _ _ hi).und;split at h
    . rename_i b hd;rw [hd] at hu;simp only [dy,ec] at h;obtain ⟨rfl,rfl⟩:=h;obtain rfl:=hx.str;exact o8 hr (by simp [oa,fi hu,goInt]) (qc _ _)
    . rename_i n e hd;rw [hd] at hu;simp only [dy,ec] at h;obtain ⟨rfl,rfl⟩:=h;exact o8 hr (by simp [oa,fi hu,goInt]) (qc _ _)
    . rename_i e a n c hd;rw [hd] at hu;simp only [dy,ec] at h;obtain ⟨rfl,rfl⟩:=h
      cases a with
      |none=>obtain ⟨rfl,_,rfl⟩:=hx.out;exact o8 hr (by simp [oa,fi hu,goInt]) (qc _ _)
      |some a=>obtain ⟨_,_,_,_,_,_,rfl,_⟩:=hx.out;exact o8 hr (by simp [oa,fi hu,goInt]) (qc _ _)
    . rename_i k e hd;rw [hd] at hu;simp only [dy,ec] at h;obtain ⟨rfl,rfl⟩:=h;obtain rfl:=hx.out;exact o8 hr (by simp [oa,fi hu,goInt]) (qc _ _)
    . rename_i k e r hd;rw [hd] at hu;unfold z73 at h
      cases hq:s.readMap r with
      |none=>rw [hq] at h;simp at h
      |some p =>
        obtain ⟨es,s1⟩:=p;rw [hq] at h;simp only [dy,ec] at h;obtain ⟨rfl,rfl⟩:=h;obtain ⟨b,o,z,hσ,rfl⟩:=hx.out;obtain ⟨⟨ents,clock,hb,hel,hbn⟩,_,h3,h4⟩:=zop hq hr hV hσ;refine ⟨σ,w,.int .i64 (es.length:Int),?_,qc _ _,h3,h4⟩;have:es.length=ents.size:=by rw [hel.length,io]
        have hg:(getObj b).run P w=.ok (.map ents clock) w:=by simp [getObj,Sem.run,hb]
        simp [oa,fi hu,goInt,hg,this]
    . simp at h
theorem yb5 (a b:ByteArray):(a == b)=(a.data.toList == b.data.toList):=by
  cases a with|mk x =>
  cases b with|mk y =>
  show (x == y)=(x.toList == y.toList);rw [Bool.eq_iff_iff,beq_iff_eq,beq_iff_eq];exact ⟨fun h=>by rw [h],fun h=>lw.1 h⟩
theorem zsk {kind : la} {k k' : Value} {b : Bool} (hk : match kind, k with | .int a, .int c _ => er (ikN a) (ikN c) = true | .string, .string _ => True | .bool, .bool _ => True | _, _ => False) (h : z14 k k' = some b) :
    po kind k k'=some b/\(b=true->k'=k):=by
  unfold z14 at h;split at h
  . rename_i k1 a k2 c;rw [zcr] at h;split at h
    . rename_i hq;have:=z75 hq;subst this;simp only [dy] at h;split at hk
      . rename_i heq;cases heq;refine ⟨by simp [po,h],fun hb=>?_⟩;subst hb;simp at h;rw [h]
      . rename_i heq;simp at heq
      . rename_i heq;simp at heq
      . exact hk.elim
    . simp at h
  . rename_i a c;simp only [dy] at h;split at hk
    . rename_i heq;simp at heq
    . refine ⟨by simp only [po,yb5,h],fun hb=>?_⟩;subst hb;rw [beq_iff_eq] at h;cases a;cases c;exact congrArg (fun x=>Value.string ⟨x⟩) (lw.1 h).symm
    . rename_i heq;simp at heq
    . exact hk.elim
  . rename_i a c;simp only [dy] at h;split at hk
    . rename_i heq;simp at heq
    . rename_i heq;simp at heq
    . refine ⟨by simp [po,h],fun hb=>?_⟩;subst hb;simp at h;rw [h]
    . exact hk.elim
  . simp at h
def zhc (kind:la) (k:Value):Prop:=match kind,k with|.int a,.int c _=>er (ikN a) (ikN c)=true|.string,.string _=>True|.bool,.bool _=>True|_,_=>False
theorem z4x {t:fc} {k:Value} (h:keyV Γ t k=true):∃ i,Γ.ti.at t=some i/\zhc i.desc k:=by
  unfold keyV at h
  cases hi:Γ.ti.at t with
  |none=>rw [hi] at h;simp at h
  |some i =>
    rw [hi] at h;simp only at h;refine ⟨i,rfl,?_⟩;unfold zhc;split at h<;>simp_all
theorem yh8 {kind:la} {k:Value} (hk:zhc kind k) {R:Value->Value->Prop}:∀ {es:List (Value×Value)} {ents:List kc} {r:Option Value} (i:Nat),zpl k es=some r->EL R es ents ->
    match r with
    |some v=>∃ j v',l8 kind k ents i=some (some (j,v'))/\R v v'
    |none=>l8 kind k ents i=some none
  |[],[],r,i,h,_=>by simp only [zpl,dy] at h;subst h;rfl
  |(k',v) :: es,e :: ents,r,i,h,⟨a,_,c,d⟩=>by
    simp only [zpl] at h
    cases hq:z14 k k' with
    |none=>rw [hq] at h;simp at h
    |some b =>
      obtain ⟨h1,_⟩:=zsk hk hq;rw [hq] at h
      cases b with
      |true =>
        simp only [dy] at h;subst h;exact ⟨i,e.val,by simp only [l8,a,h1],c⟩
      |false =>
        simp only at h;have:=yh8 hk (i+1) h d
        cases r with
        |none=>simp only at this ⊢;simp only [l8,a,h1];exact this
        |some v0=>obtain ⟨j,v',h2,h3⟩:=this;exact ⟨j,v',by simp only [l8,a,h1];exact h2,h3⟩
  |[],_ :: _,_,_,_,h=>h.elim
  |_ :: _,[],_,_,_,h=>h.elim
theorem z3t {kt:fc} {i:TI} (hi:TIOk P kt i) {k:Value} (hk:zhc i.desc k) (b:Bool) (n:Nat):(n6 b (n+1) kt k).run P w=.ok () w:=by
  have hu:=hi.und;unfold zhc at hk
  cases hd:i.desc with
  |int a=>rw [hd] at hk hu;cases k<;>first|exact hk.elim|simp [n6,fi hu]
  |string=>rw [hd] at hk hu;cases k<;>first|exact hk.elim|simp [n6,fi hu]
  |bool=>rw [hd] at hk hu;cases k<;>first|exact hk.elim|simp [n6,fi hu]
  |_=>rw [hd] at hk;exact hk.elim
theorem zh0 {kt:fc} {i:TI} (hi:TIOk P kt i) {k:Value} (hk:zhc i.desc k) (b:Bool):(n6 b 10000 kt k).run P w=.ok () w:=z3t hi hk b 9999
theorem zhc.self {kind:la} {k k':Value} (h:zhc kind k) (hv:VR σ k k'):k'=k:=by
  unfold zhc at h;split at h
  . exact hv.int
  . exact hv.str
  . exact hv.bool
  . exact h.elim
theorem zhc.plain {kind:la} {k:Value} (h:zhc kind k):za6 3 k=true:=by
  unfold zhc at h;split at h
  . rfl
  . rfl
  . rfl
  . exact h.elim
theorem zum {i:TI} {t:fc} (hi:TIOk P t i) {z:Value} (h:zun i=some z):∃ z',(∀ w,(zeroValue t).run P w=.ok z' w)/\∀ σ,VR σ z z':=by
  obtain ⟨z',h1,h2,h3⟩:=z3s (P:=P) hi;refine ⟨z',h3,fun σ=>?_⟩;have hr:=hi.refl σ;unfold zun at h;unfold z9d at h2
  cases ha:aggT i.desc with
  |true =>
    rw [ha] at h;simp only [cond_true,dy] at h;subst h;split at h2
    . rename_i cs;have hc:cs.toList=i.zero:=h1;refine qd ⟨cs,rfl,?_⟩;rw [hc];simpa using hr
    . simp at h2
    . rw [ha] at h2;simp at h2
  |false =>
    rw [ha] at h;simp only [cond_false] at h;split at h
    . rename_i z0 hz;simp only [dy] at h;subst h;have hc:z'.cells.toList=[z0]:=by rw [h1,hz]
      have:z'=z0:=by
        split at h2
        . rw [ha] at h2;simp at h2
        . simp at h2
        . rename_i hn1 hn2
          cases z' with
          |agg cs=>exact absurd rfl (hn1 cs)
          |_=>simp [Value.cells] at hc;exact hc
      rw [this];rw [hz] at hr;exact hr.1
    . simp at h
theorem yc6 (hE:zei P Γ) (hr:Rel σ V s w) (hV:zci V s') {t:fc} {ok:Bool} {x x' k k':Value} (h:zg0 Γ s t x k ok=some (v,s')) (hx:VR σ x x') (hk:VR σ k k'):DidV σ V s w ((mf t x' k' ok).run P w) v s':=by
  unfold zg0 at h;split at h
  . rename_i r
    cases hi:Γ.ti.at t with
    |none=>rw [hi] at h;simp at h
    |some i =>
      rw [hi] at h;simp only at h;have hu:=(hE.ti _ _ hi).und;split at h
      . rename_i kt e hd;rw [hd] at hu;rw [zcr] at h;split at h
        . rename_i hkv;obtain ⟨ik,hik,hfit⟩:=z4x hkv;have htk:=hE.ti _ _ hik;have huk:=htk.und;have hkk:=hfit.self hk;subst hkk
          cases hj:Γ.ti.at e with
          |none=>rw [hj] at h;simp at h
          |some j =>
            rw [hj] at h;simp only at h
            -- the entries
            have key : ∀ (es : List (Value × Value)) (s1 : CS), z71 k' ok (zun j) (some (es, s1)) = some (v, s') -> s' = s1 /\ ∀ (ents : Array kc), EL (VR σ) es ents.toList -> ∃ (fr : Option (Nat × Value)) (z' : Value),
                (∀ w0:World,(mu kt k' ents.toList).run P w0=.ok fr w0)/\(∀ w0:World,(zeroValue e).run P w0=.ok z' w0) /\
                ((∃ jj v',fr=some (jj,v')/\VR σ v (if ok then .tuple #[v',.bool true] else v'))\/(fr=none/\VR σ v (if ok then .tuple #[z',.bool false] else z'))):=by
              intro es s1 hl;unfold z71 at hl;simp only at hl
              cases hz:zun j with
              |none=>rw [hz] at hl;simp at hl
              |some z =>
                cases hg:zpl k' es with
                |none=>rw [hz,hg] at hl;simp at hl
                |some r0 =>
                  rw [hz,hg] at hl;simp only [dy,ec] at hl;obtain ⟨rfl,rfl⟩:=hl;refine ⟨rfl,fun ents hel=>?_⟩;obtain ⟨z',hz1,hz2⟩:=zum (hE.ti _ _ hj) hz;have hgr:=yh8 hfit 0 hg hel
                  cases r0 with
                  |none =>
                    simp only at hgr;refine ⟨none,z',fun w0=>by simp [mu,fi huk,hgr],hz1,.inr ⟨rfl,?_⟩⟩;cases ok
                    . exact hz2 σ
                    . exact qd ⟨_,rfl,hz2 σ,r7 _,trivial⟩
                  |some v0 =>
                    simp only at hgr;obtain ⟨jj,v',g1,g2⟩:=hgr;refine ⟨some (jj,v'),z',fun w0=>by simp [mu,fi huk,g1],hz1,.inl ⟨jj,v',rfl,?_⟩⟩;cases ok
                    . exact g2
                    . exact qd ⟨_,rfl,g2,r7 _,trivial⟩
            cases r with
            |none =>
              obtain rfl:=hx.out;simp only at h;obtain ⟨rfl,hf⟩:=key _ _ h;obtain ⟨fr,z',g1,g2,g3⟩:=hf #[] trivial;rcases g3 with ⟨jj,v',rfl,g4⟩|⟨rfl,g4⟩
              . refine o8 hr ?_ g4;have g1':=g1 w;simp at g1';simp [mf,fi hu,zh0 htk hfit,g1']
              . refine o8 hr ?_ g4;have g1':=g1 w;simp at g1'
                simp [mf,fi hu,zh0 htk hfit,g1',g2]
            |some r =>
              simp only at h
              cases hq:s.readMap r with
              |none=>rw [hq] at h;simp [z71] at h
              |some p =>
                obtain ⟨es,s1⟩:=p;rw [hq] at h;obtain ⟨rfl,hf⟩:=key _ _ h;obtain ⟨b,o,z,hσ,rfl⟩:=hx.out;obtain ⟨⟨ents,clock,hb,hel,hbn⟩,_,h3,h4⟩:=zop hq hr hV hσ;obtain ⟨fr,z',g1,g2,g3⟩:=hf ents hel;have hg:(getObj b).run P w=.ok (.map ents clock) w:=by simp [getObj,Sem.run,hb]
                rcases g3 with ⟨jj,v',rfl,g4⟩|⟨rfl,g4⟩
                . exact ⟨σ,w,_,by simp [mf,fi hu,zh0 htk hfit,hg,g1],g4,h3,h4⟩
                . exact ⟨σ,w,_,by simp [mf,fi hu,zh0 htk hfit,hg,g1,g2],g4,h3,h4⟩
        . simp at h
      . simp at h
  . simp at h
theorem z1n {kind:la} {k:Value} (h:zhc kind k) (n:Nat):m8 n k k=true:=by
  unfold zhc at h;split at h
  . cases n<;>simp [m8]
  . cases n<;>simp [m8,yb5]
  . cases n<;>simp [m8]
  . exact h.elim
structure KeyOk (P:fe) (kt:fc) (k:Value) (eq:Value->Option Bool):Prop where
  check:∀ (b:Bool) (w:World),(n6 b 10000 kt k).run P w=.ok () w
  plain:za6 3 k=true
  stays:∀ k',eq k'=some true->∀ w:World,(Instr.keyThatStays k' k).run P w=.ok k w
  find:∀ {R:Value->Value->Prop} {es:List (Value×Value)} {ents:List kc} {r:Option (Nat×Value)},EL R es ents->zfn eq es 0=some r ->
    ∃ r',(∀ w:World,(mu kt k ents).run P w=.ok r' w)/\match r with
      |none=>r'=none
      |some (j,v)=>∃ v' k0,r'=some (j,v')/\R v v'/\es[j]?=some (k0,v)/\eq k0=some true
theorem z5k {kind:la} {k:Value} (hk:zhc kind k) {R:Value->Value->Prop}:∀ {es:List (Value×Value)} {ents:List kc} {r:Option (Nat×Value)} (i:Nat),EL R es ents->zfn (z14 k) es i=some r ->
    ∃ r',l8 kind k ents i=some r'/\match r with
      |none=>r'=none
      |some (j,v)=>∃ v' k0,r'=some (j,v')/\R v v'/\i<=j/\es[j - i]?=some (k0,v)/\z14 k k0=some true
  |[],[],r,i,_,h=>by simp only [zfn,dy] at h;subst h;exact ⟨none,rfl,rfl⟩
  |(k',v) :: es,e :: ents,r,i,⟨a,_,c,d⟩,h=>by
    simp only [zfn] at h
    cases hq:z14 k k' with
    |none=>rw [hq] at h;simp at h
    |some b =>
      obtain ⟨h1,_⟩:=zsk hk hq;rw [hq] at h
      cases b with
      |true =>
        simp only [dy] at h;subst h;exact ⟨some (i,e.val),by simp only [l8,a,h1],e.val,k',rfl,c,ei _,by simp,hq⟩
      |false =>
        simp only at h;obtain ⟨r',g1,g2⟩:=z5k hk (i+1) d h;refine ⟨r',by simp only [l8,a,h1];exact g1,?_⟩
        cases r with
        |none=>exact g2
        |some p =>
          obtain ⟨j,v0⟩:=p;obtain ⟨v',k0,g3,g4,g5,g6,g7⟩:=g2;refine ⟨v',k0,g3,g4,by omega,?_,g7⟩;rw [show j - i=(j - (i+1))+1 by omega,jo];exact g6
  |[],_ :: _,_,_,h,_=>h.elim
  |_ :: _,[],_,_,h,_=>h.elim
theorem z5j {kt:fc} {k:Value} {R:Value->Value->Prop}:∀ {es:List (Value×Value)} {ents:List kc} {r:Option (Nat×Value)} (i:Nat),EL R es ents->zfn (eqW P kt k) es i=some r ->
    ∃ r',(∀ w:World,(ph kt k ents i).run P w=.ok r' w)/\match r with
      |none=>r'=none
      |some (j,v)=>∃ v' k0,r'=some (j,v')/\R v v'/\i<=j/\es[j - i]?=some (k0,v)/\eqW P kt k k0=some true
  |[],[],r,i,_,h=>by simp only [zfn,dy] at h;subst h;exact ⟨none,fun w=>rfl,rfl⟩
  |(k',v) :: es,e :: ents,r,i,⟨a,_,c,d⟩,h=>by
    simp only [zfn] at h
    cases hq:eqW P kt k k' with
    |none=>rw [hq] at h;simp at h
    |some b =>
      have h1:zbl P (Op.equal kt k k')=some b:=by
        unfold eqW at hq;split at hq
        . rename_i he;rw [zcr] at hq;split at hq
          . simp only [dy] at hq;rw [<- hq];exact he
          . simp at hq
        . rename_i he;simp only [dy] at hq;rw [<- hq];exact he
        . simp at hq
      have h2:∀ w:World,(Op.equal kt k e.key).run P w=.ok b w:=fun w=>by rw [a];exact zw3 h1 w
      rw [hq] at h
      cases b with
      |true =>
        simp only [dy] at h;subst h;exact ⟨some (i,e.val),fun w=>by simp [ph,h2],e.val,k',rfl,c,ei _,by simp,hq⟩
      |false =>
        simp only at h;obtain ⟨r',g1,g2⟩:=z5j (i+1) d h;refine ⟨r',fun w=>by simp [ph,h2,g1],?_⟩
        cases r with
        |none=>exact g2
        |some p =>
          obtain ⟨j,v0⟩:=p;obtain ⟨v',k0,g3,g4,g5,g6,g7⟩:=g2;refine ⟨v',k0,g3,g4,by omega,?_,g7⟩;rw [show j - i=(j - (i+1))+1 by omega,jo];exact g6
  |[],_ :: _,_,_,h,_=>h.elim
  |_ :: _,[],_,_,h,_=>h.elim
theorem yox (hE:zei P Γ) {kt:fc} {k:Value} {eq:Value->Option Bool} (h:eqK P Γ kt k=some eq):KeyOk P kt k eq:=by
  unfold eqK at h;rw [zcr] at h;split at h
  . rename_i hkv;simp only [dy] at h;subst h;obtain ⟨ik,hik,hfit⟩:=z4x hkv;have htk:=hE.ti _ _ hik;refine ⟨fun b w=>zh0 htk hfit b,hfit.plain,fun k' hq w=>?_,fun {R es ents r} hel hf=>?_⟩
    . have:=(zsk hfit hq).2 rfl;subst this;simp [Instr.keyThatStays,z1n hfit]
    . obtain ⟨r',g1,g2⟩:=z5k hfit 0 hel hf;refine ⟨r',fun w=>by simp [mu,fi htk.und,g1],?_⟩
      cases r with
      |none=>exact g2
      |some p=>obtain ⟨j,v⟩:=p;obtain ⟨v',k0,g3,g4,_,g6,g7⟩:=g2;exact ⟨v',k0,g3,g4,by simpa using g6,g7⟩
  . rw [zcr] at h;split at h
    . rename_i hq;simp only [d8] at hq;obtain ⟨hw,hkw⟩:=hq;simp only [dy] at h;subst h;unfold keyW at hkw;simp only [d8] at hkw;obtain ⟨hp,hc1,hc2⟩:=hkw;have hc:∀ b:Bool,keyC P b kt k=true:=fun b=>by cases b;exact hc1;exact hc2
      unfold zxp at hw
      cases hi:Γ.ti.at kt with
      |none=>rw [hi] at hw;simp at hw
      |some ik =>
        rw [hi] at hw;simp only at hw;have hu:=(hE.ti _ _ hi).und;refine ⟨fun b w=>?_,hp,fun k' hq w=>?_,fun {R es ents r} hel hf=>?_⟩
        . have:=hc b;unfold keyC at this;split at this
          . rename_i u he;exact zw3 he w
          . simp at this
        . unfold eqW at hq;split at hq
          . rw [zcr] at hq;split at hq
            . rename_i hs;simp [Instr.keyThatStays,hs]
            . simp at hq
          . simp at hq
          . simp at hq
        . obtain ⟨r',g1,g2⟩:=z5j 0 hel hf;refine ⟨r',fun w=>?_,?_⟩
          . cases ents with
            |nil =>
              have:r'=none:=by have:=g1 w;simp [ph] at this;exact this.symm
              subst this
              simp [mu,fi hu,l8]
            |cons e ents =>
              have hs:po ik.desc k e.key=none:=by
                unfold aggT at hw;cases hd:ik.desc<;>rw [hd] at hw<;>first | (simp at hw;done)|rfl
              simp only [mu];simp [fi hu,l8,hs,g1]
          . cases r with
            |none=>exact g2
            |some p=>obtain ⟨j,v⟩:=p;obtain ⟨v',k0,g3,g4,_,g6,g7⟩:=g2;exact ⟨v',k0,g3,g4,by simpa using g6,g7⟩
    . simp at h
theorem EL.get {R:Value->Value->Prop}:∀ {l:List (Value×Value)} {m:List kc} {j:Nat} {k v:Value},EL R l m->l[j]?=some (k,v)->∃ e,m[j]?=some e/\e.key=k/\za6 3 k=true/\R v e.val
  |(_,_) :: _,e :: _,0,k,v,⟨a,b,c,_⟩,h=>by simp at h;obtain ⟨rfl,rfl⟩:=h;exact ⟨e,rfl,a,b,c⟩
  |(_,_) :: _,_ :: _,j+1,k,v,⟨_,_,_,d⟩,h=>by
    obtain ⟨e,h1,h2⟩:=EL.get (j:=j) d (by simpa using h);exact ⟨e,by simpa using h1,h2⟩
  |[],_,_,_,_,_,h=>by simp at h
  |_ :: _,[],_,_,_,h,_=>h.elim
theorem EL.put {R:Value->Value->Prop} {k v v':Value} (hk:za6 3 k=true) (hv:R v v'):∀ {l:List (Value×Value)} {m:List kc} (j:Nat),EL R l m->EL R (l.set j (k,v)) (m.modify j fun e=>{ e with key:=k,val:=v' })
  |[],[],_,_=>by simp;trivial
  |(_,_) :: _,e :: _,0,⟨_,_,_,d⟩=>⟨rfl,hk,hv,d⟩
  |(_,_) :: _,e :: _,j+1,⟨a,b,c,d⟩=>⟨a,b,c,EL.put hk hv j d⟩
  |[],_ :: _,_,h=>h.elim
  |_ :: _,[],_,h=>h.elim
theorem EL.snoc {R:Value->Value->Prop} {k:Value} {v:Value} {e:kc} (hk:za6 3 k=true) (he:e.key=k) (hv:R v e.val):∀ {l:List (Value×Value)} {m:List kc},EL R l m->EL R (l++[(k,v)]) (m++[e])
  |[],[],_=>⟨he,hk,hv,trivial⟩
  |(_,_) :: _,_ :: _,⟨a,b,c,d⟩=>⟨a,b,c,EL.snoc hk he hv d⟩
  |[],_ :: _,h=>h.elim
  |_ :: _,[],h=>h.elim
theorem zzh (hE:zei P Γ) {t kt e:fc} (h:zwc Γ t=some (kt,e)):P.underlying t=some (.map kt e):=by
  unfold zwc at h
  cases hi:Γ.ti.at t with
  |none=>rw [hi] at h;simp at h
  |some i =>
    rw [hi] at h;simp only at h;have hu:=(hE.ti _ _ hi).und;split at h
    . rename_i hd;simp only [dy,ec] at h;obtain ⟨rfl,rfl⟩:=h;rw [hd] at hu;exact hu
    . simp at h
theorem z7x (hE:zei P Γ) (hr:Rel σ V s w) (hV:zci V s') {t:fc} {ok:Bool} {x x' k k':Value} (h:zf4 P Γ s t x k ok=some (v,s')) (hx:VR σ x x') (hk:VR σ k k'):DidV σ V s w ((mf t x' k' ok).run P w) v s':=by
  unfold zf4 at h;split at h
  . rename_i r kt e hts;have hu:=zzh hE hts;split at h
    . rename_i eq j heq hj;have hK:=yox hE heq;have hkk:=zq1 3 hK.plain hk;subst hkk
      have main : ∀ (es : List (Value × Value)) (s1 : CS), z7z eq ok (zun j) (some (es, s1)) = some (v, s') -> s' = s1 /\ ∀ (ents : Array kc), EL (VR σ) es ents.toList -> ∃ (fr : Option (Nat × Value)) (z' : Value),
          (∀ w0:World,(mu kt k' ents.toList).run P w0=.ok fr w0)/\(∀ w0:World,(zeroValue e).run P w0=.ok z' w0) /\
          ((∃ jj v',fr=some (jj,v')/\VR σ v (if ok then .tuple #[v',.bool true] else v'))\/(fr=none/\VR σ v (if ok then .tuple #[z',.bool false] else z'))):=by
        intro es s1 hl;unfold z7z at hl;simp only at hl
        cases hz:zun j with
        |none=>rw [hz] at hl;simp at hl
        |some z =>
          cases hg:zfn eq es 0 with
          |none=>rw [hz,hg] at hl;simp at hl
          |some r0 =>
            rw [hz,hg] at hl;simp only [dy,ec] at hl;obtain ⟨rfl,rfl⟩:=hl;refine ⟨rfl,fun ents hel=>?_⟩;obtain ⟨z',hz1,hz2⟩:=zum (hE.ti _ _ hj) hz;obtain ⟨fr,g1,g2⟩:=hK.find hel hg
            cases r0 with
            |none =>
              simp only at g2;refine ⟨fr,z',g1,hz1,.inr ⟨g2,?_⟩⟩;cases ok
              . exact hz2 σ
              . exact qd ⟨_,rfl,hz2 σ,r7 _,trivial⟩
            |some p =>
              obtain ⟨jj,v0⟩:=p;obtain ⟨v',k0,g3,g4,_⟩:=g2;refine ⟨fr,z',g1,hz1,.inl ⟨jj,v',g3,?_⟩⟩;cases ok
              . exact g4
              . exact qd ⟨_,rfl,g4,r7 _,trivial⟩
      cases r with
      |none =>
        obtain rfl:=hx.out;simp only [sa] at h;obtain ⟨rfl,hf⟩:=main _ _ h;obtain ⟨fr,z',g1,g2,g3⟩:=hf #[] trivial;rcases g3 with ⟨jj,v',rfl,g4⟩|⟨rfl,g4⟩
        . refine o8 hr ?_ g4;have g1':=g1 w;simp at g1';simp [mf,fi hu,hK.check,g1']
        . refine o8 hr ?_ g4;have g1':=g1 w;simp at g1'
          simp [mf,fi hu,hK.check,g1',g2]
      |some r =>
        simp only [sa] at h
        cases hq:s.readMap r with
        |none=>rw [hq] at h;simp [z7z] at h
        |some p =>
          obtain ⟨es,s1⟩:=p;rw [hq] at h;obtain ⟨rfl,hf⟩:=main _ _ h;obtain ⟨b,o,z,hσ,rfl⟩:=hx.out;obtain ⟨⟨ents,clock,hb,hel,hbn⟩,_,h3,h4⟩:=zop hq hr hV hσ;obtain ⟨fr,z',g1,g2,g3⟩:=hf ents hel;have hg:(getObj b).run P w=.ok (.map ents clock) w:=by simp [getObj,Sem.run,hb]
          rcases g3 with ⟨jj,v',rfl,g4⟩|⟨rfl,g4⟩
          . exact ⟨σ,w,_,by simp [mf,fi hu,hK.check,hg,g1],g4,h3,h4⟩
          . exact ⟨σ,w,_,by simp [mf,fi hu,hK.check,hg,g1,g2],g4,h3,h4⟩
    . simp at h
  . simp at h
theorem yfw {es es':List (Value×Value)} {r:Nat} {s1:CS} (h1:s.readMap r=some (es,s1)) (h2:s1.putEs r es'=some s') (hr:Rel σ V s w) (hV:zci V s') {b o z:Nat} (hσ:σ r (r*1024)=some (b,o,z)) :
    ∃ (ents:Array kc) (clock:Nat),w.heap[b]?=some (.map ents clock)/\EL (VR σ) es ents.toList/\Born ents clock/\∀ (en:Array kc) (cl:Nat),EL (VR σ) es' en.toList->Born en cl ->
      (setObj b (.map en cl)).run P w=.ok () { w with heap:=w.heap.setIfInBounds b (.map en cl) }/\Can s s'/\Rel σ V s' { w with heap:=w.heap.setIfInBounds b (.map en cl) }/\Ext σ V s w σ s' { w with heap:=w.heap.setIfInBounds b (.map en cl) }:=by
  obtain ⟨_,q2⟩:=zsb h2
  have hVf:V r:=by
    refine hV r ?_;subst q2;rcases zmn (lim:=s1.lim) (l:=s1.wr) (n:=r) with k|k
    . exact .inr (.inl k)
    . exact .inr (.inr k)
  have hc1:Can s s1:=by obtain ⟨_,rfl⟩:=zkn h1;exact z2r s r
  have hn1:s1.n=s.n:=by obtain ⟨_,rfl⟩:=zkn h1;rfl
  have hn2:s'.n=s1.n:=by subst q2;rfl
  have hV1:zci V s1:=fun f hf=>hV f (by
    subst q2;rcases hf with q|q|q
    . exact .inl q
    . exact .inr (.inl (zwe q))
    . exact .inr (.inr q))
  obtain ⟨⟨ents,clock,hb,hel,hbn⟩,_,h3,h4⟩:=zop h1 hr hV1 hσ;refine ⟨ents,clock,hb,hel,hbn,fun en cl k1 k2=>?_⟩;obtain ⟨p1,p2,p3⟩:=yf5 h2 h3 hVf hσ k1 k2;exact ⟨by simp [setObj,Sem.run,hb],hc1.trans p1,p2,h4.trans p3 hc1 p1 (fun f u hu=>by omega) hr.none⟩
theorem EL.putKey {R:Value->Value->Prop} {k v:Value} (hk:za6 3 k=true):∀ {l:List (Value×Value)} {m:List kc} (j:Nat) {k0:Value},l[j]?=some (k0,v)->EL R l m->EL R (l.set j (k,v)) (m.modify j fun e=>{ e with key:=k })
  |[],_,_,_,h,_=>by simp at h
  |(_,_) :: _,e :: _,0,_,h,⟨_,_,c,d⟩=>by
    simp at h;obtain ⟨_,rfl⟩:=h;exact ⟨rfl,hk,c,d⟩
  |(_,_) :: _,e :: _,j+1,_,h,⟨a,b,c,d⟩=>⟨a,b,c,EL.putKey hk j (by simpa using h) d⟩
  |_ :: _,[],_,_,_,h=>h.elim
theorem EL.putVal {R:Value->Value->Prop} {v v':Value} (hv:R v v'):∀ {l:List (Value×Value)} {m:List kc} (j:Nat) {k v0:Value},l[j]?=some (k,v0)->EL R l m->EL R (l.set j (k,v)) (m.modify j fun e=>{ e with val:=v' })
  |[],_,_,_,_,h,_=>by simp at h
  |(_,_) :: _,e :: _,0,_,_,h,⟨a,b,_,d⟩=>by
    simp at h;obtain ⟨rfl,_⟩:=h;exact ⟨a,b,hv,d⟩
  |(_,_) :: _,e :: _,j+1,_,_,h,⟨a,b,c,d⟩=>⟨a,b,c,EL.putVal hv j (by simpa using h) d⟩
  |_ :: _,[],_,_,_,_,h=>h.elim
theorem z4q (hE:zei P Γ) (hr:Rel σ V s w) (hV:zci V s') {t:fc} {x x' k k':Value} (h:zhn P Γ s t k x=some (v,s')) (hx:VR σ x x') (hk:VR σ k k') :
    DidV σ V s w ((Instr.mapEntry t x' k').run P w) v s':=by
  unfold zhn at h;split at h
  . rename_i r kt e hts;have hu:=zzh hE hts;split at h
    . rename_i eq j es s1 heq hj hq;have hK:=yox hE heq;have hkk:=zq1 3 hK.plain hk;subst hkk;split at h
      . rename_i f z hf hz
        cases hw:s1.putEs r (yp2 es k' (ypm z f) f) with
        |none=>rw [hw] at h;simp [yc3] at h
        |some s2 =>
          rw [hw] at h;simp only [yc3,dy,ec] at h;obtain ⟨rfl,rfl⟩:=h;obtain ⟨b,o,z0,hσ,rfl⟩:=hx.out;obtain ⟨ents,clock,hb,hel,hbn,hput⟩:=yfw (P:=P) hq hw hr hV hσ;have hg:(getObj b).run P w=.ok (.map ents clock) w:=by simp [getObj,Sem.run,hb]
          obtain ⟨fr,g1,g2⟩:=hK.find hel hf;obtain ⟨z',hz1,hz2⟩:=zum (hE.ti _ _ hj) hz
          cases f with
          |none =>
            simp only at g2;subst g2;obtain ⟨p1,_,p3,p4⟩:=hput (ents.push { key:=k',val:=z',born:=clock }) (clock+1) (by rw [Array.toList_push];exact EL.snoc (e:={ key:=k',val:=z',born:=clock }) hK.plain rfl (hz2 σ) hel) (hbn.push rfl);refine ⟨σ,_,.tuple #[z',goInt clock],?_,?_,p3,p4⟩
            . simp [Instr.mapEntry,fi hu,hg,hK.check,g1,p1,hz1]
            . refine qd ⟨_,rfl,hz2 σ,?_,trivial⟩;have:es.length=clock:=by rw [hel.length,hbn.1,io]
              rw [this];exact qc _ _
          |some p =>
            obtain ⟨jj,v0⟩:=p;obtain ⟨v',k0,g3,g4,g5,g6⟩:=g2;subst g3;obtain ⟨e0,q1,q2,_,_⟩:=EL.get hel g5;rw [ja] at q1;have hold:((ents[jj]?).map (·.key)).getD k'=k0:=by rw [q1];simpa using q2
            have hborn:(Option.map (fun x=>(x.born:Int)) ents[jj]?).getD 0=(jj:Int):=by rw [q1];simp [hbn.2 jj e0 q1]
            obtain ⟨p1,_,p3,p4⟩:=hput (ents.modify jj fun e=>{ e with key:=k' }) clock (by rw [Array.toList_modify];exact EL.putKey hK.plain jj g5 hel) (hbn.modify fun _=>rfl);refine ⟨σ,_,.tuple #[v',goInt jj],?_,?_,p3,p4⟩
            . simp [Instr.mapEntry,fi hu,hg,hK.check,g1];rw [show (Option.map (fun x=>x.key) ents[jj]?).getD k'=k0 from hold,hK.stays k0 g6,hborn];simp [p1]
            . exact qd ⟨_,rfl,g4,qc _ _,trivial⟩
      . simp at h
    . simp at h
  . simp at h
theorem zx0 (hr:Rel σ V s w) (hV:zci V s') {t:fc} {x x' st st' y y':Value} (h:zf5 s st y x=some (v,s')) (hx:VR σ x x') (hst:VR σ st st') (hy:VR σ y y') :
    Did σ V s w ((do Instr.entryStore t x' st' y';pure .skip:Sem Next).run P w) v s':=by
  unfold zf5 at h;split at h
  . rename_i r;split at h
    . rename_i j es s1 hj hq;split at h
      . rename_i k0 v0 hes
        cases hw:s1.putEs r (es.set j (k0,y)) with
        |none=>rw [hw] at h;simp [zw8] at h
        |some s2 =>
          rw [hw] at h;simp only [zw8,dy,ec] at h;obtain ⟨rfl,rfl⟩:=h;obtain ⟨b,o,z0,hσ,rfl⟩:=hx.out;obtain ⟨ents,clock,hb,hel,hbn,hput⟩:=yfw (P:=P) hq hw hr hV hσ;have hg:(getObj b).run P w=.ok (.map ents clock) w:=by simp [getObj,Sem.run,hb]
          obtain ⟨e0,q1,q2,_,_⟩:=EL.get hel hes;rw [ja] at q1
          have hst2:∃ ik,st'=.int ik (j:Int):=by
            unfold zgv at hj;split at hj
            . rename_i ik n;simp only [dy] at hj;subst hj;exact ⟨ik,hst.int⟩
            . simp at hj
          obtain ⟨ik,rfl⟩:=hst2
          have hfind:ents.findIdx? (fun e=>(e.born:Int) == (j:Int))=some j:=by
            obtain ⟨hlt,he⟩:=Array.getElem?_eq_some_iff.1 q1;rw [Array.findIdx?_eq_some_iff_getElem];refine ⟨hlt,?_,fun i hi=>?_⟩
            . have:=hbn.2 j ents[j] (by simp [hlt]);simp [this]
            . have:=hbn.2 i ents[i] (by simp [show i<ents.size by omega]);simp [this];omega
          obtain ⟨p1,_,p3,p4⟩:=hput (ents.modify j fun e=>{ e with val:=y' }) clock (by rw [Array.toList_modify];exact EL.putVal hy j hes hel) (hbn.modify fun _=>rfl);refine ⟨σ,_,.skip,undef,?_,.inr ⟨rfl,rfl⟩,VR.undef,p3,p4⟩;simp [Instr.entryStore,hg,asInt,asIntOf,hfind,p1]
      . simp at h
    . simp at h
  . simp at h
end
structure CInv (s:CS):Prop where
  none:∀ f,s.n<=f->zaa s.obj f=zd4
  vers:∀ f p,p∈(zaa s.obj f).rows->p.1 / 1024<s.n
  lim:s.lim<=s.n
theorem CInv.lt {s:CS} (h:CInv s) {f:Nat} (hr:(zaa s.obj f).ro=false):f<s.n:=by
  by_cases hn:f<s.n
  . exact hn
  . rw [h.none f (by omega)] at hr;simp [zd4] at hr
theorem CInv.next {s s':CS} (h:CInv s) (c:Can s s'):CInv s':=⟨c.none h.none,c.vers h.vers,by rw [c.lim];exact kh h.lim c.n⟩
theorem zr2 {s s':CS} {a:Addr} {vs:List Value} (hI:CInv s) (h:s.write a vs=some s'):Can s s':=by
  obtain ⟨cs,h1,h2,h3,_,h4⟩:=zr1 h;exact zp3 (x:=⟨false,[(sf a,splice cs a.off vs)],none,none⟩) h1 rfl (hI.lt h1) s.n (ei _) (fun hv p hp=>by simp at hp;subst hp;have:=hv _ _ (zj4 h2);exact this) (by rw [h4])
theorem z5a {s s':CS} {a:Addr} {tag stop need:Nat} {cells:List Value} {v:Value} (hI:CInv s) (ht:tag<1024) (h:s.grow a tag stop need cells=some (v,s')):Can s s':=by
  obtain ⟨cs,h1,h2,_,_,h4⟩:=znx h;obtain ⟨_,_,d2,_⟩:=zka h2
  exact zp3 (x:=⟨false,(s.n*1024+tag,cells) :: zgw (zaa s.obj a.block).rows (sf a),none,none⟩) h1 rfl (hI.lt h1) (s.n+1) (by omega) (fun hv p hp=>by
    rcases ic.1 hp with rfl|hp
    . simp only;omega
    . have:=hv _ p (d2 p hp);omega) (by rw [h4])
theorem zfl {s s':CS} {r:Nat} {es:List (Value×Value)} (h:s.readMap r=some (es,s')):Can s s':=by
  obtain ⟨_,rfl⟩:=zkn h;exact z2r s r
section
variable {P:fe} {Γ:Env} {s s':CS} {v:Value}
theorem zqy {x:Option Value} (h:retC s x=some (v,s')):Can s s':=by rw [(zj5 h).2];exact i6 _
theorem z95 {x:Option (Addr×CS)} (hx:∀ a s1,x=some (a,s1)->Can s s1) (h:ptrC x=some (v,s')):Can s s':=by
  obtain ⟨a,h1,_⟩:=zvt h;exact hx _ _ h1
theorem zom {x:Option (Addr×CS)} {len cap:Nat} (hx:∀ a s1,x=some (a,s1)->Can s s1) (h:zja len cap x=some (v,s')):Can s s':=by
  obtain ⟨a,h1,_⟩:=zj3 h;exact hx _ _ h1
theorem zp5 {i:TI} {a:Addr} (h:s.loadVar i a=some (v,s')):Can s s':=by
  unfold CS.loadVar at h
  cases hq:s.readRow a with
  |none=>rw [hq] at h;simp at h
  |some p =>
    obtain ⟨cs,s1⟩:=p;rw [hq] at h;simp only at h;split at h
    . simp only [dy,ec] at h;rw [<- h.2];exact z1t hq
    . simp at h
theorem zy7 {ρ:ep->Value} {o:Oper} {x:Option Value} (h:zh2 P ρ o s x=some (v,s')):Can s s':=by
  unfold zh2 at h
  cases x with
  |some y=>simp only [dy,ec] at h;rw [<- h.2];exact i6 _
  |none=>exact zqy h
theorem ybq {size:Nat} {e:Bool} {a:Addr} {x:Option (Nat×Nat×Nat)} (h:cutC s size e a x=some (v,s')):Can s s':=by
  obtain ⟨_,_,_,_,_,_,rfl⟩:=zw9 h;exact i6 _
theorem z0i {d:la} {a:Addr} {lo hi mx:Option Value} (h:zpq Γ s d a lo hi mx=some (v,s')):Can s s':=by
  unfold zpq at h;split at h
  . split at h
    . rw [zcr] at h;split at h
      . exact ybq h
      . simp at h
    . simp at h
  . simp at h
theorem ydr (hI:CInv s) {size bytes:Nat} {base:Option Addr} {len cap:Nat} {y:Value} (h:s.append size bytes base len cap y=some (v,s')):Can s s':=by
  unfold CS.append at h;split at h
  . simp at h
  . rename_i n hn;split at h
    . simp at h
    . rename_i new s1 hq;have c1:=(zh4 (σ:=fun _ _=>none) (V:=fun _=>True) (w:=default) hq).1;have hI1:=hI.next c1
      simp only at h
      cases hb:(fw 1000000000 ((len+n)*(bytes+1)) || er size 0 || Nat.ble 1000 size || !(new.all oneC)) with
      |true=>rw [hb] at h;simp at h
      |false =>
        rw [hb] at h;simp only [cond_false] at h
        have hsz:size<1000:=by
          by_cases hh:size<1000
          . exact hh
          . simp only [lk] at hb;rw [zbk.2 (by omega)] at hb;simp at hb
        cases base with
        |none =>
          simp only at h
          cases hn0:er n 0 with
          |true=>rw [hn0] at h;simp only [cond_true,dy,ec] at h;rw [<- h.2];exact c1
          |false=>rw [hn0] at h;simp only [cond_false] at h;exact c1.trans (zom (fun a s2 hx=>zho (by omega) hx) h)
        |some a =>
          simp only at h
          cases hroom:Nat.ble (len+n) cap with
          |true =>
            rw [hroom] at h;simp only [cond_true] at h
            cases hn0:er n 0 with
            |true=>rw [hn0] at h;simp only [cond_true,dy,ec] at h;rw [<- h.2];exact c1
            |false =>
              rw [hn0] at h;simp only [cond_false] at h
              cases hw:s1.write (Addr.plus a (len*size)) new with
              |none=>rw [hw] at h;simp at h
              |some s2 =>
                rw [hw] at h;simp only [dy,ec] at h;rw [<- h.2];exact c1.trans (zr2 hI1 hw)
          |false =>
            rw [hroom] at h;simp only [cond_false] at h
            cases hold:(bif er len 0 then some ([],s1) else s1.firstCells size len (.slice (some a) len cap)) with
            |none=>rw [hold] at h;simp at h
            |some p =>
              obtain ⟨old,s2⟩:=p;rw [hold] at h;simp only at h
              have c2:Can s1 s2:=by
                cases hl0:er len 0 with
                |true =>
                  rw [hl0] at hold;simp only [cond_true,dy,ec] at hold;rw [<- hold.2];exact i6 _
                |false =>
                  rw [hl0] at hold;simp only [cond_false] at hold;exact (zh4 (σ:=fun _ _=>none) (V:=fun _=>True) (w:=default) hold).1
              refine c1.trans (c2.trans ?_)
              cases ht0:er (sf a % 1024) 0 with
              |true=>rw [ht0] at h;simp only [cond_true] at h;exact zom (fun a s2 hx=>zho (by omega) hx) h
              |false =>
                rw [ht0] at h;simp only [cond_false] at h
                cases ht1:er (sf a % 1024) (size+1) with
                |true=>rw [ht1] at h;simp only [cond_true] at h;exact z5a (hI1.next c2) (by omega) h
                |false=>rw [ht1] at h;simp at h
theorem zd0 {x:Value} {s1:CS} (h:some (x,s1)=some (v,s')) (c:Can s s1):Can s s':=by
  simp only [dy,ec] at h;rw [<- h.2];exact c
theorem zgx {α:Type} {b:Bool} {x:Option α} {y:α} (h:(bif b then x else none)=some y):b=true/\x=some y:=by
  cases b
  . simp at h
  . exact ⟨rfl,h⟩
theorem zbo {α:Type} {b:Bool} {x:Option α} {y:α} (h:sel b x none=some y):b=true/\x=some y:=by
  cases b
  . simp [sel] at h
  . exact ⟨rfl,h⟩
theorem z5y {x:Option CS} (hx:∀ s1,x=some s1->Can s s1) (h:zw8 x=some (v,s')):Can s s':=by
  cases x with
  |none=>simp [zw8] at h
  |some s1=>exact (hx s1 rfl).trans (zd0 h (i6 _))
theorem zvq {r:Nat} {es:List (Value×Value)} (hI:CInv s) (h:s.putEs r es=some s'):Can s s':=by
  obtain ⟨h2,h3⟩:=zsb h;subst h3;exact zp3 (s':={ s with n:=s.n,obj:=zaw s.obj r ⟨false,[],some es,none⟩,wr:=ins s.lim s.wr r }) h2 rfl (hI.lt h2) s.n (ei _) (fun _ p hp=>by simp at hp) rfl
theorem z3z {r:Option Nat} {es:List (Value×Value)} (h:s.readMapO r=some (es,s')):Can s s':=by
  cases r with
  |none=>simp only [sa,dy,ec] at h;rw [<- h.2];exact i6 _
  |some r=>exact zfl h
theorem z7y {t:fc} {x k:Value} {ok:Bool} (h:zf4 P Γ s t x k ok=some (v,s')):Can s s':=by
  unfold zf4 at h;split at h
  . split at h
    . unfold z7z at h;split at h
      . rename_i es s1 hq;split at h
        . exact (z3z hq).trans (zd0 h (i6 _))
        . simp at h
      . simp at h
    . simp at h
  . simp at h
theorem ygk {x:Option CS} {y:Value} (hx:∀ s1,x=some s1->Can s s1) (h:yc3 y x=some (v,s')):Can s s':=by
  cases x with
  |none=>simp [yc3] at h
  |some s1=>exact (hx s1 rfl).trans (zd0 h (i6 _))
theorem z4r (hI:CInv s) {t:fc} {k x:Value} (h:zhn P Γ s t k x=some (v,s')):Can s s':=by
  unfold zhn at h;split at h
  . split at h
    . rename_i eq j es s1 heq hj hq;split at h
      . exact (zfl hq).trans (ygk (fun s2 hw=>zvq (hI.next (zfl hq)) hw) h)
      . simp at h
    . simp at h
  . simp at h
theorem zx1 (hI:CInv s) {st y x:Value} (h:zf5 s st y x=some (v,s')):Can s s':=by
  unfold zf5 at h;split at h
  . split at h
    . rename_i j es s1 hj hq;split at h
      . exact (zfl hq).trans (z5y (fun s2 hw=>zvq (hI.next (zfl hq)) hw) h)
      . simp at h
    . simp at h
  . simp at h
theorem z1y {α:Type} {a b:Option α} {x:α} (h:orW a b=some x):a=some x\/b=some x:=by
  cases a with
  |none=>exact .inr h
  |some y=>exact .inl h
theorem yqu (hI:CInv s) {call:zc8} (hcall:∀ f args s v s',call f args s=some (v,s')->CInv s->Can s s') {ρ:ep->Value} {o:Oper} (h:cop P Γ call ρ o s=some (v,s')):Can s s':=by
  unfold cop at h;split at h
  . exact zd0 h (i6 _)
  . exact zd0 h (i6 _)
  . unfold zs9 at h;split at h
    . exact zd0 h (i6 _)
    . simp at h
  . unfold zk6 at h;split at h
    . exact z95 (fun a s1 hx=>zho (by omega) hx) h
    . simp at h
  . exact z95 (fun a s1 hx=>zho (by omega) hx) h
  . unfold zi2 at h;split at h
    . split at h
      . obtain ⟨_,h⟩:=zbo h;obtain ⟨_,_,_,rfl⟩:=zoc h;exact i6 _
      . split at h
        . obtain ⟨_,_,_,rfl⟩:=zoc h;exact i6 _
        . simp at h
      . simp at h
    . simp at h
  . unfold zct at h;split at h
    . obtain ⟨_,h⟩:=zgx h;split at h
      . exact zom (fun a s1 hx=>zho (by omega) hx) h
      . simp at h
    . simp at h
  . unfold zpj at h;split at h
    . split at h
      . exact zp5 h
      . simp at h
    . simp at h
  . unfold zk4 at h;split at h
    . split at h
      . obtain ⟨_,h⟩:=zgx h;exact z5y (fun s1 hw=>zr2 hI hw) h
      . simp at h
    . simp at h
  . exact zd0 h (i6 _)
  . unfold zfm at h;split at h
    . obtain ⟨_,h⟩:=zgx h;exact zom (fun a s1 hx=>zho (by omega) hx) h
    . simp at h
  . unfold zdy at h;split at h
    . split at h
      . split at h
        . obtain ⟨_,h⟩:=zgx h;unfold ybp at h;split at h
          . exact zd0 h (i6 _)
          . simp at h
        . simp at h
      . split at h
        . split at h
          . split at h
            . split at h
              . exact zd0 h (i6 _)
              . simp at h
            . simp at h
          . split at h
            . exact ybq h
            . simp at h
        . simp at h
      . split at h
        . split at h
          . exact z0i h
          . simp at h
        . exact z0i h
      . simp at h
    . simp at h
  . unfold zdg at h;split at h
    . split at h
      . split at h
        . split at h
          . rename_i off size _
            cases hb:er size 0 with
            |true=>rw [hb] at h;simp at h
            |false=>rw [hb] at h;exact zd0 h (i6 _)
          . simp at h
        . simp at h
      . simp at h
    . simp at h
  . unfold zb5 at h;split at h
    . split at h
      . split at h
        . split at h
          . rw [(zoj h).2.2];exact i6 _
          . simp at h
        . simp at h
      . split at h
        . split at h
          . rw [(zoj h).2.2];exact i6 _
          . simp at h
        . simp at h
      . simp at h
    . simp at h
  . unfold zk5 at h;split at h
    . split at h
      . split at h
        . split at h
          . obtain ⟨_,h⟩:=zgx h;exact zqy h
          . simp at h
        . simp at h
      . split at h
        . split at h
          . exact zd0 h (i6 _)
          . simp at h
        . simp at h
      . simp at h
    . simp at h
  . unfold zgu at h;split at h
    . exact zqy h
    . simp at h
  . exact zy7 h
  . unfold zls at h;split at h
    . exact zd0 h (i6 _)
    . exact zy7 h
  . obtain ⟨hn,_,hs⟩:=z4s h;exact zsg hn (fun p hp=>by simp at hp) hs
  . rcases z1y h with h|h;rotate_left
    . exact z7y h
    unfold zg0 at h;split at h
    . split at h
      . split at h
        . obtain ⟨_,h⟩:=zbo h;split at h
          . unfold z71 at h;split at h
            . rename_i es s1 hq
              have c:Can s s1:=by
                split at hq
                . simp only [dy,ec] at hq;rw [<- hq.2];exact i6 _
                . exact zfl hq
              split at h
              . exact c.trans (zd0 h (i6 _))
              . simp at h
            . simp at h
          . simp at h
        . simp at h
      . simp at h
    . simp at h
  . exact z4r hI h
  . exact zx1 hI h
  . split at h
    . unfold zmz at h;split at h
      . exact hcall _ _ _ _ _ h hI
      . obtain ⟨_,h⟩:=zbo h;exact hcall _ _ _ _ _ h hI
      . simp at h
    . unfold zf6 at h;split at h
      . split at h
        . obtain ⟨_,h⟩:=zbo h;unfold zdd at h;split at h
          . split at h
            . exact ydr hI h
            . simp at h
          . simp at h
        . simp at h
      . split at h
        . unfold zm4 at h;split at h
          . split at h
            . exact zd0 h (i6 _)
            . exact zd0 h (i6 _)
            . exact zd0 h (i6 _)
            . exact zd0 h (i6 _)
            . unfold z73 at h;split at h
              . rename_i hq;exact (zfl hq).trans (zd0 h (i6 _))
              . simp at h
            . simp at h
          . simp at h
        . simp at h
      . exact zqy h
      . exact zqy h
      . simp at h
    . simp at h
  . simp at h
end
section
variable {P:fe} {Γ:Env} {σ:Sg} {V:Nat->Prop} {s s':CS} {w:World} {v:Value}
theorem RL.mapOps {ρ ρ':ep->Value}:∀ {l:List ep},(∀ x,x∈l->VR σ (ρ x) (ρ' x))->RL (VR σ) (l.map ρ) (l.map ρ')
  |[],_=>trivial
  |x :: l,h=>⟨h x (by simp),RL.mapOps fun y hy=>h y (by simp [hy])⟩
def ytq (P:fe) (σ:Sg) (V:Nat->Prop) (s:CS) (w:World) (call:zc8) (m:Sem Next) (v:Value) (s':CS):Prop :=
  ((∃ f args args',m.run P w=(callFunc f args').run P w/\RL (VR σ) args args'.toList/\call f args s=some (v,s'))\/∃ d b args args',m.run P w=(Instr.yield b args').run P w/\σ d (lpAt d)=some (b,0,0)/\RL (VR σ) args args'.toList/\call (zkx d) (.chan none :: args) s=some (v,s'))\/Did σ V s w (m.run P w) v s'
theorem yfs {R:Value->Value->Prop} {xs:Array Value} (h:RL R [] xs.toList):xs=#[]:=by
  cases hq:xs.toList with
  |nil=>exact Array.toList_eq_nil_iff.1 hq
  |cons _ _=>rw [hq] at h;exact absurd h (by simp [RL])
theorem yso {α:Type} {xs:Array α} {a b:α} (h:xs.toList=[a,b]):xs=#[a,b]:=lw.1 h
theorem ysp {α:Type} {xs:Array α} {a:α} (h:xs.toList=[a]):xs=#[a]:=lw.1 h
theorem zse {ρ ρ':ep->Value} {x:Option ep} (h:∀ y,x=some y->VR σ (ρ y) (ρ' y)):OptR σ (x.map ρ) (x.map ρ'):=by
  cases x with
  |none=>trivial
  |some y=>exact h y rfl
theorem yl6 (hE:zei P Γ) (hr:Rel σ V s w) (hV:zci V s') (hF:zeq σ s.n s'.n) {call:zc8} {ρ ρ':ep->Value} {o:Oper} {c:Call} (ho:o.op=.call c) (hρ:∀ x,x∈o.op.operands.toList->VR σ (ρ x) (ρ' x))
    (h:(match c.callee with
      |.value f=>zmz call s (c.args.toList.map ρ) (ρ f)
      |.builtin b=>zf6 P Γ ρ o s b c.args.toList c.argTypes.toList
      |_=>none)=some (v,s')):ytq P σ V s w call (ls ρ' o) v s':=by
  have hargs:∀ x,x∈c.args.toList->VR σ (ρ x) (ρ' x):=fun x hx=>hρ x (by rw [ho];simp [fj,Call.operands];right;simpa using hx);have hex:ls ρ' o=(do let d <- resolve ρ' c o.type;invoke d.target d.args):=by simp [ls,ho]
  have hsel:∀ cs b,o.op≠.select cs b:=by intro cs b;rw [ho];simp
  split at h
  . rename_i f hc;have hf:VR σ (ρ f) (ρ' f):=hρ f (by rw [ho];simp [fj,Call.operands,hc]);unfold zmz at h;split at h
    . rename_i g first captured hfn
      rw [hfn] at hf;obtain ⟨fn',first',captured',hf',hfn',h1,h2⟩:=hf.out;obtain rfl:=FnR.func hfn';refine .inl (.inl ⟨g,_,first'++c.args.map ρ'++captured',?_,?_,h⟩)
      . rw [hex];simp [resolve,hc,hf',Deferred.ofValue,invoke,Array.append_assoc]
      . simp only [Array.toList_append,m9];exact (h1.append (RL.mapOps hargs)).append h2
    . rename_i d first captured hfn
      rw [hfn] at hf;obtain ⟨fn',first',captured',hf',⟨b,hb,rfl⟩,h1,h2⟩:=hf.out;obtain ⟨hnil,h⟩:=zbo h;rw [d8,pi,pi] at hnil;rw [hnil.1] at h1;rw [hnil.2] at h2;obtain rfl:=yfs h1;obtain rfl:=yfs h2;refine .inl (.inr ⟨d,b,_,c.args.map ρ',?_,hb,?_,h⟩)
      . rw [hex];simp [resolve,hc,hf',Deferred.ofValue,invoke]
      . rw [m9];exact RL.mapOps hargs
    . simp at h
  . rename_i b hc;right;have hres:(resolve ρ' c o.type)=pure { target:=.builtin b c.argTypes o.type (c.args.map fun|.const _=>true|_=>false),args:=c.args.map ρ' }:=by unfold resolve;rw [hc];rfl
    unfold zf6 at h;split at h
    . split at h
      . rename_i x y t tx ha ht;obtain ⟨htx,h⟩:=zbo h;have vx:=hargs x (by rw [ha];simp);have vy:=hargs y (by rw [ha];simp);have hd:=ydq (ty:=o.type) hE hr hV hF h htx vx vy;rw [hex,hres];rw [yso ha,yso ht];have:=hd.up;simpa [invoke,builtin] using this
      . simp at h
    . split at h
      . rename_i x t ha ht;have vx:=hargs x (by rw [ha];simp);have hd:=yqe (ty:=o.type) hE hr hV h vx;rw [hex,hres];rw [ysp ha,ysp ht];have:=hd.up;simpa [invoke,builtin] using this
      . simp at h
    . obtain ⟨h1,rfl⟩:=zj5 h;obtain ⟨h2,h3⟩:=zvs (w:=w) hsel h1 hρ;exact rq hr h2 h3
    . obtain ⟨h1,rfl⟩:=zj5 h;obtain ⟨h2,h3⟩:=zvs (w:=w) hsel h1 hρ;exact rq hr h2 h3
    . simp at h
  . simp at h
theorem yqt (hE:zei P Γ) (hr:Rel σ V s w) (hV:zci V s') (hF:zeq σ s.n s'.n) {call:zc8} {ρ ρ':ep->Value} {o:Oper} (hρ:∀ x,x∈o.op.operands.toList->VR σ (ρ x) (ρ' x))
    (h:cop P Γ call ρ o s=some (v,s')):ytq P σ V s w call (ls ρ' o) v s':=by
  obtain ⟨dst,op,type,pos,after,guard⟩:=o;unfold cop at h;simp only at hρ h
  cases op with
  |move x =>
    simp only [dy,ec] at h;obtain ⟨rfl,rfl⟩:=h;exact .inr (rq hr rfl (hρ x (by simp [fj])))
  |assign x =>
    simp only [dy,ec] at h;obtain ⟨rfl,rfl⟩:=h;exact .inr (rq hr rfl (hρ x (by simp [fj])))
  |pick c a b=>exact .inr (ykt (P:=P) hr h (hρ a (by simp [fj])) (hρ b (by simp [fj])) (hρ c (by simp [fj])))
  |alloc e=>exact .inr (yj0 hE hr hF h).up
  |box e x=>exact .inr (yq8 (P:=P) (e:=e) hr hF h (hρ x (by simp [fj]))).up
  |build t parts=>exact .inr (yjo hE hr h (fun p hp=>hρ p.2 (by simp [fj];exact ⟨p.1,by simpa using hp⟩))).up
  |buildSlice t n parts=>exact .inr (zx3 hE hr hF h (fun p hp=>hρ p.2 (by simp [fj];exact ⟨p.1,by simpa using hp⟩))).up
  |load t x=>exact .inr (yk9 hE hr hV h (hρ x (by simp [fj]))).up
  |store t x y=>exact .inr (yex hE hr hV h (hρ x (by simp [fj])) (hρ y (by simp [fj])))
  |makeFunc fn first captured =>
    cases fn with
    |func f =>
      simp only [dy,ec] at h;obtain ⟨rfl,rfl⟩:=h;refine .inr (rq (v':=.func (.func f) (first.map ρ') (captured.map ρ')) hr (by simp [ls,Instr.makeFunc]) (qd ⟨_,_,_,rfl,rfl,?_,?_⟩))
      . simp only [m9];exact RL.mapOps fun x hx=>hρ x (by simp [fj];left;simpa using hx)
      . simp only [m9];exact RL.mapOps fun x hx=>hρ x (by simp [fj];right;simpa using hx)
    |_=>simp at h
  |makeSlice t l c=>exact .inr (z13 hE hr hF h (hρ l (by simp [fj])) (hρ c (by simp [fj]))).up
  |slice t x lo hi mx =>
    refine .inr (ye7 hE hr h (hρ x (by simp [fj])) (zse fun y hy=>hρ y ?_) (zse fun y hy=>hρ y ?_) (zse fun y hy=>hρ y ?_)).up
    . simp [fj,hy]
    . simp [fj,hy]
    . simp [fj,hy]
  |fieldAddr t x k=>exact .inr (z2c hE hr h (hρ x (by simp [fj]))).up
  |indexAddr t x ix=>exact .inr (z16 hE hr h (hρ x (by simp [fj])) (hρ ix (by simp [fj]))).up
  |index t x ix=>exact .inr (yhq hE hr h (hρ x (by simp [fj])) (hρ ix (by simp [fj]))).up
  |extract x k=>exact .inr (z8g (P:=P) hr h (hρ x (by simp [fj]))).up
  |unOp op t x =>
    refine .inr (zy6 hr (by intro cs b;simp) h hρ fun y hy=>?_);obtain ⟨h1,h2⟩:=ypn (P:=P) (w:=w) hy (hρ x (by simp [fj]));exact ⟨by simp [ls,h1],h2⟩
  |binOp op t x y yt=>exact .inr (yrb hE hr rfl h hρ)
  |makeMap t r =>
    cases r with
    |some r=>simp at h
    |none =>
      obtain ⟨rfl,_,h3,h4,h5⟩:=yk8 (w:=w) h hr hF;refine .inr ⟨_,_,.value (.map (some w.heap.size)),_,?_,.inl rfl,qd ⟨_,_,_,h5,rfl⟩,h3,h4⟩;simp [ls,Instr.makeMap,newObj];rfl
  |lookup t x k ok =>
    rcases z1y h with h|h
    . exact .inr (yc6 hE hr hV h (hρ x (by simp [fj])) (hρ k (by simp [fj]))).up
    . exact .inr (z7x hE hr hV h (hρ x (by simp [fj])) (hρ k (by simp [fj]))).up
  |mapEntry t m k=>exact .inr (z4q hE hr hV h (hρ m (by simp [fj])) (hρ k (by simp [fj]))).up
  |entryStore t m st x=>exact .inr (zx0 hr hV h (hρ m (by simp [fj])) (hρ st (by simp [fj])) (hρ x (by simp [fj])))
  |call c=>exact yl6 hE hr hV hF rfl hρ h
  |_=>simp at h
end
def zi0 (G:List Nat) (σ:Sg):Prop:=∀ g,has G g=true->∃ z,σ g (g*1024)=some (g,0,z)
theorem zi0.up {G:List Nat} {σ σ':Sg} (h:zi0 G σ) (k:Sg.le σ σ'):zi0 G σ':=fun g hg=>let ⟨z,hz⟩:=h g hg;⟨z,k _ _ _ hz⟩
theorem Fr.put_nt (fr:Fr) (t:Nat) (v:Value):(fr.put t v).nt=fr.nt:=by
  unfold Fr.put;rw [zcr];split<;>rfl
theorem Fr.get_put_same {fr:Fr} {t:Nat} (v:Value) (h:t<fr.nt) (h5:fr.nt<=512):(fr.put t v).get t=v:=by
  unfold Fr.put Fr.get;rw [zaf.2 h,zbn,zaf.2 (show t<512 by omega),zbn];exact Tr.get_set_same _ _ _ _
theorem Fr.get_put_other {fr:Fr} {t u:Nat} (v:Value) (h5:fr.nt<=512) (hne:t≠u):(fr.put t v).get u=fr.get u:=by
  unfold Fr.put Fr.get;rw [zcr (fw t fr.nt)];split
  . rename_i h;have h:=zaf.1 h;rw [zcr,zcr];split
    . rename_i hu;have hu:=zaf.1 hu;exact Tr.get_set_other _ 9 _ _ _ hne (by show t<512;omega) (by show u<512;exact hu)
    . rfl
  . rfl
theorem Act.put_size (a:Act) (d:Option Tmp) (v:Value):(a.put d v).tmps.size=a.tmps.size:=by cases d<;>simp [Act.put]
theorem Act.put_defers' (a:Act) (d:Option Tmp) (v:Value):(a.put d v).defers=a.defers:=by cases d<;>rfl
theorem Act.getD_put_same {a:Act} {t:Nat} (v:Value) (h:t<a.tmps.size):(a.put (some t) v).tmps.getD t undef=v:=by
  simp [Act.put,h]
theorem Act.getD_put_other {a:Act} {t u:Nat} (v:Value) (hne:t≠u):(a.put (some t) v).tmps.getD u undef=a.tmps.getD u undef:=by
  simp [Act.put,Array.getElem?_setIfInBounds_ne hne]
theorem FrR.put {σ:Sg} {fr:Fr} {a:Act} {v v':Value} (h:FrR σ fr a) (hv:VR σ v v') {d:Option Tmp} (hd:∀ t,d=some t->t<fr.nt):FrR σ (putC fr d v) (a.put d v'):=by
  cases d with
  |none=>exact h
  |some t =>
    have ht:=hd t rfl;refine ⟨by rw [Act.put_size];show (fr.put t v).nt=_;rw [Fr.put_nt];exact h.size,by show (fr.put t v).nt<=512;rw [Fr.put_nt];exact h.small,fun u=>?_⟩;show VR σ ((fr.put t v).get u) _;by_cases htu:t=u
    . subst htu;rw [Fr.get_put_same v ht h.small,Act.getD_put_same v' (by rw [<- h.size];exact ht)];exact hv
    . rw [Fr.get_put_other v h.small htu,Act.getD_put_other v' htu];exact h.val u
theorem zrp {G:List Nat} {σ:Sg} {fr:Fr} {a:Act} (hG:zi0 G σ) {x:ep} (hx:zgt G x=true) (h:∀ t,x=.tmp t->VR σ (fr.get t) (a.tmps.getD t undef)):VR σ (zgp fr x) (a.eval x):=by
  cases x with
  |tmp t=>exact h t rfl
  |const v=>exact zx8 hx
  |global g =>
    obtain ⟨z,hz⟩:=hG g hx;refine qd ⟨g,0,z,?_,rfl⟩;exact hz
  |func f=>exact qd ⟨_,#[],#[],rfl,rfl,trivial,trivial⟩
theorem ylu (ops:Array Oper) (j:Nat):zp8 ops.toList j=(ops[j]?).bind (·.dst):=by
  unfold zp8;rw [ja];cases ops[j]?<;>rfl
theorem VR.boolR {σ:Sg} {v:Value} {b:Bool} (h:VR σ v (.bool b)):v=.bool b:=by
  have:=h.out
  cases v with
  |bool a=>have:=VR.bool h;simpa using this.symm
  |pointer a=>cases a with
    |none=>simp [zqb] at this
    |some a=>obtain ⟨_,_,_,_,hq⟩:=this;simp at hq
  |slice a n c=>cases a with
    |none=>obtain ⟨_,_,hq⟩:=this;simp at hq
    |some a=>obtain ⟨_,_,_,_,_,_,hq,_⟩:=this;simp at hq
  |map r=>cases r with
    |none=>simp [zqb] at this
    |some r=>obtain ⟨_,_,_,_,hq⟩:=this;simp at hq
  |func fn xs ys=>obtain ⟨_,_,_,hq,_⟩:=this;simp at hq
  |iface t x=>obtain ⟨_,hq,_⟩:=this;simp at hq
  |agg xs=>obtain ⟨_,hq,_⟩:=this;simp at hq
  |tuple xs=>obtain ⟨_,hq,_⟩:=this;simp at hq
  |int k n=>simp [zqb] at this
  |string s=>simp [zqb] at this
  |nilFunc=>simp [zqb] at this
  |nilIface=>simp [zqb] at this
  |float k b=>exact this.elim
  |complex k a b=>exact this.elim
  |chan r=>exact this.elim
theorem ycj {σ:Sg} {fr:Fr} {a:Act} {ops:Array Oper} {o:Oper} (h:∀ g b d,o.guard=some (g,b)->zp8 ops.toList g=some d->d<a.tmps.size/\VR σ (fr.get d) (a.tmps.getD d undef)) :
    Region.wanted o (yielded ops a.tmps)=zde ops.toList fr o:=by
  unfold zde;unfold Region.wanted
  cases hg:o.guard with
  |none=>rfl
  |some p =>
    obtain ⟨j,want⟩:=p;simp only;unfold yielded;rw [<- ylu]
    cases hd:zp8 ops.toList j with
    |none=>rfl
    |some d =>
      simp only [Option.bind_some];obtain ⟨hlt,hv⟩:=h j want d hg hd;have hget:a.tmps[d]?=some (a.tmps.getD d undef):=by simp [hlt]
      rw [hget];generalize a.tmps.getD d undef=u at hv;split
      . rename_i b hb;simp only [dy] at hb;subst hb;rw [hv.boolR];simp
      . rename_i hn;split
        . rename_i b hb;rw [hb] at hv;exact absurd (congrArg some hv.bool) (hn b)
        . rfl
def FnOk (P:fe) (G:List Nat) (call:zc8):Prop:=∀ f (args:List Value) (args':Array Value) s v s' w σ V,call f args s=some (v,s')->RL (VR σ) args args'.toList->Rel σ V s w->zci V s'->zeq σ s.n s'.n->CInv s->zi0 G σ ->
  ∃ x,(callFunc f args').run P w=.ok (.enter x args') w/\Calls P x args' w fun e w'=>∃ σ' v',e=.returned v'/\VR σ' v v'/\Rel σ' V s' w'/\Ext σ V s w σ' s' w'
def ytm (P:fe) (G:List Nat) (call:zc8):Prop:=∀ d b (args:List Value) (args':Array Value) s v s' w σ V kd,call (zkx d) (.chan none :: args) s=some (v,s')->σ d (lpAt d)=some (b,0,0)->RL (VR σ) args args'.toList->Rel σ V s w->zci V s'->zeq σ s.n s'.n->CInv s->zi0 G σ ->
  YieldAt mv kd P b args' w fun e w'=>∃ σ' v',e=.returned v'/\VR σ' v v'/\Rel σ' V s' w'/\Ext σ V s w σ' s' w'
structure z6t (P:fe) (G:List Nat) (call:zc8):Prop where
  fn:FnOk P G call
  yld:ytm P G call
def zfq (call:zc8):Prop:=∀ f args s v s',call f args s=some (v,s')->CInv s->Can s s'
section
variable {P:fe} {Γ:Env} {σ:Sg} {V:Nat->Prop} {s s':CS} {w:World} {G:List Nat} {call:zc8}
theorem znb {ops:List Oper} {o:Oper} {fr fr':Fr} (hc:zfq call) (hI:CInv s) (h:zcw P Γ call ops o fr s=some (fr',s')):Can s s':=by
  unfold zcw at h
  cases hw:zde ops fr o with
  |false=>rw [hw] at h;simp only [cond_false,dy,ec] at h;rw [<- h.2];exact i6 _
  |true =>
    rw [hw] at h;simp only [cond_true] at h
    cases hq:cop P Γ call (zgp fr) o s with
    |none=>rw [hq] at h;simp at h
    |some p =>
      obtain ⟨v,s1⟩:=p;rw [hq] at h;simp only [dy,ec] at h;rw [<- h.2];exact yqu hI (fun f args s v s' h1 h2=>hc f args s v s' h1 h2) hq
def zjx (r:Option Nat):Fence:={ mv with round:=r }
theorem yo5 {r:Option Nat} {n:Nat} {f:jx} {args:Array Value} {w:World} {R:Ending->World->Prop}:CallsIn (zjx r) n P f args w R↔Calls P f args w R:=callsIn_wide
theorem yr6 {r:Option Nat} {m n:Nat} {l:Nat} {f:jx} {tmps:Array Value} {assign body:Code} {w:World} {R:Ending->World->Prop} (h:RoundIn mv m P l f tmps assign body w R):RoundIn (zjx r) n P l f tmps assign body w R:=⟨trivial,fun c cs _=>h.2 c cs (room_wide _)⟩
theorem yff {r:Option Nat} {o:Oper} {ρ:ep->Value} {ρ':ep->Value} {p:Value×CS} (h:cop P Γ call ρ o s=some p):o.semAt r ρ'=ls ρ' o:=by
  cases r with
  |none=>exact Oper.semAt_none _ _
  |some l =>
    refine Oper.semAt_some l _ _ fun c hc=>?_;unfold cop at h;rw [hc] at h;simp at h
variable {r:Option Nat} {kd:Nat}
theorem yey (hE:zei P Γ) (hC:z6t P G call) (hr:Rel σ V s w) (hV:zci V s') (hF:zeq σ s.n s'.n) (hI:CInv s) (hG:zi0 G σ) {ops:Array Oper} {o:Oper} {fr fr':Fr} {a:Act} (hops:o.op.operands.toList.all (zgt G)=true)
    (hnames:∀ t,Operand.tmp t∈o.op.operands.toList->VR σ (fr.get t) (a.tmps.getD t undef)) (hguard:∀ g b d,o.guard=some (g,b)->zp8 ops.toList g=some d->d<a.tmps.size/\VR σ (fr.get d) (a.tmps.getD d undef))
    (h:zcw P Γ call ops.toList o fr s=some (fr',s')) {K:Act->World->Prop} {Q:Exit->Act->World->Prop}
    (hK:∀ σ' v v' w',fr'=putC fr o.dst v->VR σ' v v'->Rel σ' V s' w'->Ext σ V s w σ' s' w'->K (a.put o.dst v') w') :
    if Region.wanted o (yielded ops a.tmps) then o.wpIn (zjx r) kd P a w K Q else (∀ f,o.about P w a.eval=some f->(zjx r).fn f)/\K (a.put o.dst undef) w:=by
  rw [ycj (fr:=fr) hguard];unfold zcw at h
  cases hw:zde ops.toList fr o with
  |false =>
    rw [hw] at h;simp only [cond_false,dy,ec] at h;obtain ⟨rfl,rfl⟩:=h;rw [zAd (by simp)];exact ⟨fun _ _=>trivial,hK σ undef undef w rfl VR.undef hr (qe _ _ _ _)⟩
  |true =>
    rw [hw] at h;simp only [cond_true] at h;rw [zAc rfl]
    cases hq:cop P Γ call (zgp fr) o s with
    |none=>rw [hq] at h;simp at h
    |some p =>
      obtain ⟨v,s1⟩:=p;rw [hq] at h;simp only [dy,ec] at h;obtain ⟨rfl,rfl⟩:=h;have hρ:∀ x,x∈o.op.operands.toList->VR σ (zgp fr x) (a.eval x):=fun x hx=>zrp hG (fd.1 hops x hx) fun t ht=>hnames t (by rw [<- ht];exact hx);refine ⟨fun _ _=>trivial,?_⟩;show o.uponIn (zjx r) kd P a K Q ((o.semAt r a.eval).run P w);rw [yff hq];rcases yqt hE hr hV hF hρ hq with (⟨f,args,args',h1,h2,h3⟩|⟨dd,b,args,args',h1,h2,h3,h4⟩)|⟨σ',w',nx,v',h1,h2,h3,h4,h5⟩;rotate_left
      . obtain ⟨fn0,tmps,assign,body,hy,hR⟩:=hC.yld dd b args args' s v s1 w σ V (kd - 1) h4 h2 h3 hr hV hF hI hG;rw [h1,hy,Oper.uponIn_round];refine ⟨fun hd=>absurd hd (by simp [zjx,mv]),yr6 (hR.mono ?_)⟩;rintro e w' ⟨σ',v',rfl,k1,k2,k3⟩;exact hK σ' v v' w' rfl k1 k2 k3
      rotate_left
      . obtain ⟨x,h4,h5⟩:=hC.fn f args args' s v s1 w σ V h3 h2 hr hV hF hI hG;rw [h1,h4,Oper.uponIn_enter];refine ⟨fun hd=>absurd hd (by simp [zjx,mv]),yo5.2 (h5.mono ?_)⟩;rintro e w' ⟨σ',v',rfl,k1,k2,k3⟩;exact hK σ' v v' w' rfl k1 k2 k3
      . rw [h1];rcases h2 with rfl|⟨rfl,rfl⟩
        . exact hK σ' v v' w' rfl h3 h4 h5
        . exact hK σ' v undef w' rfl h3 h4 h5
theorem z7e {ops:List Oper} (hc:zfq call):∀ {l:List Oper} {fr fr':Fr} {s s':CS},CInv s->runC P Γ call ops l fr s=some (fr',s')->Can s s'
  |[],fr,fr',s,s',hI,h=>by simp only [runC,dy,ec] at h;rw [<- h.2];exact i6 _
  |o :: l,fr,fr',s,s',hI,h=>by
    simp only [runC] at h
    cases hq:zcw P Γ call ops o fr s with
    |none=>rw [hq] at h;simp at h
    |some p =>
      obtain ⟨fr1,s1⟩:=p;rw [hq] at h;have c1:=znb hc hI hq;exact c1.trans (z7e hc (hI.next c1) h)
theorem ym8 (hE:zei P Γ) (hC:z6t P G call) (hc:zfq call) {ops:Array Oper} {Q:Exit->Act->World->Prop}:∀ {l:List Oper} {σ:Sg} {fr fr':Fr} {s s':CS} {w:World} {a:Act},(∀ o,o∈l->zko G fr.nt o=true)->(∀ o,o∈ops.toList->zko G fr.nt o=true) ->
    Rel σ V s w->zci V s'->zeq σ s.n s'.n->CInv s->zi0 G σ->FrR σ fr a->runC P Γ call ops.toList l fr s=some (fr',s') ->
    (∀ σ' a' w',FrR σ' fr' a'->a'.defers=a.defers->Rel σ' V s' w'->Ext σ V s w σ' s' w'->Q .normal a' w')->wpListIn (zjx r) kd P ops Q l a w
  |[],σ,fr,fr',s,s',w,a,hl,hl2,hr,hV,hF,hI,hG,hfr,h,hQ=>by
    simp only [runC,dy,ec] at h;obtain ⟨rfl,rfl⟩:=h;exact hQ σ a w hfr rfl hr (qe _ _ _ _)
  |o :: l,σ,fr,fr',s,s',w,a,hl,hl2,hr,hV,hF,hI,hG,hfr,h,hQ=>by
    simp only [runC] at h
    cases hq:zcw P Γ call ops.toList o fr s with
    |none=>rw [hq] at h;simp at h
    |some p =>
      obtain ⟨fr1,s1⟩:=p;rw [hq] at h;simp only at h;have c1:=znb hc hI hq;have hI1:=hI.next c1
      have c2:=z7e hc hI1 h;have ho:=hl o (by simp);unfold zko at ho;rw [d8] at ho;unfold wpListIn;refine yey hE hC hr (hV.back c2) (hF.mono (ei _) c2.n) hI hG ho.1 (fun t _=>hfr.val t) ?_ hq ?_
      . intro g b d _ hd;refine ⟨?_,hfr.val d⟩;unfold zp8 at hd
        cases hog:ops.toList[g]? with
        |none=>rw [hog] at hd;simp at hd
        |some og =>
          rw [hog] at hd;simp only at hd;have:=hl2 og (ij hog);unfold zko at this;rw [d8,hd] at this;rw [<- hfr.size];exact zaf.1 this.2
      . intro σ' v v' w' hf hv hr' he';subst hf
        have hd:∀ t,o.dst=some t->t<fr.nt:=by
          intro t ht;have:=ho.2;rw [ht] at this;exact zaf.1 this
        have hfr':=(hfr.up he'.le).put (v:=v) (v':=v') hv (d:=o.dst) hd
        have hnt:(putC fr o.dst v).nt=fr.nt:=by
          cases o.dst with
          |none=>rfl
          |some t=>exact Fr.put_nt _ _ _
        refine ym8 hE hC hc (l:=l) (by rw [hnt];exact fun o' ho'=>hl o' (by simp [ho'])) (by rw [hnt];exact hl2) hr' hV (hF.next he' c1) hI1 (hG.up he'.le) hfr' h ?_;intro σ2 a2 w2 k1 k2 k3 k4;exact hQ σ2 a2 w2 k1 (by rw [k2,Act.put_defers']) k3 (he'.trans k4 c1 c2 hF hI.none)
end
theorem zmo {lim:Nat}:∀ {xs l:List Nat} {f:Nat},f∈l->f∈zwf lim l xs
  |[],_,_,h=>h
  |_ :: xs,_,_,h=>zmo (xs:=xs) (zwe h)
theorem zjt {lim:Nat}:∀ {xs l:List Nat} {f:Nat},f∈xs->f<lim->f∈zwf lim l xs
  |x :: xs,l,f,h,hl=>by
    rcases ic.1 h with rfl|h
    . refine zmo (xs:=xs) ?_;rcases zmn (lim:=lim) (l:=l) (n:=f) with h|h
      . exact h
      . omega
    . exact zjt (xs:=xs) h hl
theorem zp4:∀ {l:List Nat} {n:Nat},n∈l->has l n=true
  |x :: l,n,h=>by
    simp only [has]
    cases hb:er x n with
    |true=>rfl
    |false =>
      simp only [cond_false];rcases ic.1 h with rfl|h
      . rw [Nat.beq_refl] at hb;simp at hb
      . exact zp4 h
theorem zsh {a b:List Nat} (h:meet a b=false) {f:Nat} (ha:f∈a):f ∉ b:=by
  intro hb;unfold meet at h;rw [pc] at h;exact h f ha (zp4 hb)
theorem zsw {lo hi:Nat} {l:List Nat} (h:zyd lo hi l=false) {f:Nat} (hf:f∈l):¬ (lo<=f/\f<hi):=by
  intro hb;unfold zyd at h;rw [pc] at h;exact h f hf (by rw [zbk.2 hb.1,zaf.2 hb.2];rfl)
theorem yad {α:Type} (d:α):∀ (l:List α) (j i:Nat),nth d (l.take j) i=if i<j then nth d l i else d
  |[],j,i=>by simp [nth]
  |x :: l,0,i=>by simp [nth]
  |x :: l,j+1,0=>by simp [nth]
  |x :: l,j+1,i+1=>by
    simp only [List.take_succ_cons,nth];rw [yad d l j i];by_cases h:i<j
    . rw [zAc h,zAc (by omega)]
    . rw [zAd h,zAd (by omega)]
theorem zzb {α:Type} (d:α):∀ (l m:List α) (i:Nat),nth d (l++m) (l.length+i)=nth d m i
  |[],m,i=>by simp
  |x :: l,m,i=>by
    show nth d (x :: (l++m)) ((l.length+1)+i)=_;rw [show l.length+1+i=(l.length+i)+1 by omega];exact zzb d l m i
theorem zzg:∀ (l:List Oper) (ms:List Nat),(∃ r,zd1 l ms=ms++r)/\∀ (k:Nat) (o:Oper),l[k]?=some o->nth 0 (zd1 l ms) (ms.length+k)=zpk ((zd1 l ms).take (ms.length+k)) o.after.toList
  |[],ms=>⟨⟨[],by simp [zd1]⟩,fun k o h=>by simp at h⟩
  |o :: l,ms=>by
    obtain ⟨⟨r,hr⟩,hs⟩:=zzg l (ms++[zpk ms o.after.toList]);refine ⟨⟨zpk ms o.after.toList :: r,by simp only [zd1];rw [hr];simp⟩,fun k o' h=>?_⟩;simp only [zd1]
    cases k with
    |zero =>
      simp only [fx,dy] at h;subst h;rw [hr,ey,zzb]
      simp only [Nat.add_zero,List.take_left,List.singleton_append,nth]
    |succ k =>
      have:=hs k o' (by simpa using h);rw [List.length_append,List.length_singleton,show ms.length+1+k=ms.length+(k+1) by omega] at this;exact this
theorem zsj:∀ {es:List Edge} {ms:List Nat} {i:Nat},gr (zpk ms es) i=true->∃ e,e∈es/\kx .any e=true/\(i=e.on\/gr (nth 0 ms e.on) i=true)
  |e :: es,ms,i,h=>by
    simp only [zpk] at h
    cases hb:kx .any e with
    |false =>
      rw [hb] at h;obtain ⟨e',h1,h2,h3⟩:=zsj (es:=es) h;exact ⟨e',by simp [h1],h2,h3⟩
    |true =>
      rw [hb] at h;have h':gr (2 ^ e.on ||| nth 0 ms e.on ||| zpk ms es) i=true:=h;rw [Nat.testBit_or,Nat.testBit_or,kw,kw] at h';rcases h' with (h' | h')|h'
      . refine ⟨e,by simp,hb,.inl ?_⟩;rw [Nat.testBit_two_pow] at h';exact (zAe h').symm
      . exact ⟨e,by simp,hb,.inr h'⟩
      . obtain ⟨e',h1,h2,h3⟩:=zsj (es:=es) h';exact ⟨e',by simp [h1],h2,h3⟩
  |[],ms,i,h=>by simp [zpk] at h
theorem zv3 {ops:List Oper} {E:Nat->Prop} (hE:∀ (j:Nat) (o:Oper),ops[j]?=some o->E j->∀ e,e∈o.after.toList->kx .any e=true->E e.on) :
    ∀ (j:Nat) (o:Oper),ops[j]?=some o->(∀ e,e∈o.after.toList->kx .any e=true->E e.on)->∀ i,gr (nth 0 (zd1 ops []) j) i=true->E i:=by
  intro j
  induction j using Nat.strongRecOn with
  |_ j ih =>
    intro o ho hp i hi;have:=(zzg ops []).2 j o ho;simp only [List.length_nil,Nat.zero_add] at this;rw [this] at hi;obtain ⟨e,h1,h2,h3⟩:=zsj hi;have he:=hp e h1 h2;rcases h3 with rfl|h3
    . exact he
    . rw [yad] at h3;split at h3
      . rename_i hlt;have hj:=(et.1 ho).1;obtain ⟨o',ho'⟩:∃ o',ops[e.on]?=some o':=⟨_,ef (by omega)⟩;exact ih e.on hlt o' ho' (hE e.on o' ho' he) i h3
      . simp at h3
theorem ztq {α:Type} {bad:α->α->Bool} {m:Nat} {y:α}:∀ {l:List α} {i:Nat},zii bad m y l i=true->∀ (k:Nat) (x:α),l[k]?=some x->gr m (i+k)=true\/bad x y=false
  |x :: l,i,h,k,x',hk=>by
    simp only [zii,d8,kw] at h
    cases k with
    |zero =>
      simp only [fx,dy] at hk;subst hk;rcases h.1 with h|h
      . exact .inl h
      . exact .inr (by simpa using h)
    |succ k =>
      have:=ztq h.2 k x' (by simpa using hk)
      rwa [show i+1+k=i+(k+1) by omega] at this
  |[],_,_,k,x,hk=>by simp at hk
theorem zgc {α:Type} {bad:α->α->Bool} {ms:List Nat}:∀ {l done:List α},zgq bad done l ms=true->∀ (i j:Nat) (x y:α),i<j->done.length<=j->(done++l)[i]?=some x->(done++l)[j]?=some y->gr (nth 0 ms j) i=true\/bad x y=false
  |[],done,_,i,j,x,y,hij,hd,hx,hy=>by
    have:=(et.1 hy).1;simp at this;omega
  |z :: l,done,h,i,j,x,y,hij,hd,hx,hy=>by
    simp only [zgq,d8] at h;by_cases hj:j=done.length
    . subst hj;rw [List.getElem?_append_right (ei _)] at hy;simp only [Nat.sub_self,fx,dy] at hy;subst hy;rw [List.getElem?_append_left hij] at hx;have:=ztq h.1 i x hx;simpa using this
    . exact zgc h.2 i j x y hij (by simp;omega) (by simpa using hx) (by simpa using hy)
theorem z0d:∀ {l:List Oper} {i:Nat},z2g l i=true->∀ (k:Nat) (o:Oper),l[k]?=some o->∀ e,e∈o.after.toList->kx .any e=true->e.on<i+k
  |o :: l,i,h,k,o',hk,e,he,hb=>by
    simp only [z2g,d8] at h
    cases k with
    |zero =>
      simp only [fx,dy] at hk;subst hk;have:=fd.1 h.1 e he;rw [hb] at this;simp only [Bool.not_true,Bool.false_or] at this;have:=zaf.1 this;omega
    |succ k =>
      have:=z0d h.2 k o' (by simpa using hk) e he hb;omega
  |[],_,_,k,o,hk,_,_,_=>by simp at hk
theorem zyi {ops:List Oper} {x y:Oper} (h:zyj ops x y=false) {d:Nat} (hx:x.dst=some d):d ∉ zfu ops y/\y.dst≠some d:=by
  unfold zyj at h;rw [hx,lk] at h;simp only [lk] at h;refine ⟨fun k=>by rw [zp4 k] at h;simp at h,fun k=>?_⟩;rw [k] at h;simp at h
theorem z29 {ops:List Oper} {x y:Oper} (h:zyj ops x y=false) {d:Nat} (hy:y.dst=some d):d ∉ zfu ops x:=by
  unfold zyj at h;rw [hy,lk] at h;intro k;have h2:has (zfu ops x) d=false:=h.2;rw [zp4 k] at h2;simp at h2
theorem z8r {x y:Lg} (h:clash x y=false):(∀ f,f∈x.wr->f ∉ y.rd/\f ∉ y.wr)/\(∀ f,f∈x.rd->f ∉ y.wr)/\(∀ f,(f∈y.rd\/f∈y.wr)->¬ (x.lo<=f/\f<x.hi)):=by
  unfold clash at h;simp only [lk] at h;obtain ⟨⟨⟨⟨h1,h2⟩,h3⟩,h4⟩,h5⟩:=h;exact ⟨fun f hf=>⟨zsh h1 hf,zsh h2 hf⟩,fun f hf=>zsh h3 hf,fun f hf=>hf.elim (zsw h4) (zsw h5)⟩
theorem z4n (p:Nat->Prop):∀ n,(∀ k,k<n->¬ p k)\/∃ m,m<n/\p m/\∀ k,k<n->p k->k<=m
  |0=>.inl fun k hk=>by omega
  |n+1=>by
    by_cases hp:p n
    . exact .inr ⟨n,by omega,hp,fun k hk _=>by omega⟩
    . rcases z4n p n with h|⟨m,h1,h2,h3⟩
      . refine .inl fun k hk hpk=>?_;by_cases hkn:k=n
        . subst hkn;exact hp hpk
        . exact h k (by omega) hpk
      . refine .inr ⟨m,by omega,h2,fun k hk hpk=>?_⟩;by_cases hkn:k=n
        . subst hkn;exact absurd hpk hp
        . exact h3 k (by omega) hpk
structure ytn (P:fe) (Γ:Env) (call:zc8) (ops l:List Oper) (fr:Fr) (s:CS) (logs:List Lg) (fr':Fr) (s':CS) (F:Nat->Fr) (S T:Nat->CS):Prop where
  f0:F 0=fr
  s0:S 0=s
  fN:F l.length=fr'
  sN:S l.length=s'
  len:logs.length=l.length
  step:∀ (i:Nat) (o:Oper),l[i]?=some o->zcw P Γ call ops o (F i) (S i).inner=some (F (i+1),T i)/\S (i+1)=(S i).outer (T i)/\logs[i]?=some ⟨(T i).rd,(T i).wr,(S i).n,(T i).n⟩
section
variable {P:fe} {Γ:Env} {call:zc8}
theorem z0e {ops:List Oper}:∀ {l:List Oper} {fr fr':Fr} {s s':CS} {logs:List Lg},drawC P Γ call ops l fr s=some (logs,fr',s')->∃ F S T,ytn P Γ call ops l fr s logs fr' s' F S T
  |[],fr,fr',s,s',logs,h=>by
    simp only [drawC,dy,ec] at h;obtain ⟨rfl,rfl,rfl⟩:=h;exact ⟨fun _=>fr,fun _=>s,fun _=>s,rfl,rfl,rfl,rfl,rfl,fun i o h=>by simp at h⟩
  |o :: l,fr,fr',s,s',logs,h=>by
    simp only [drawC] at h
    cases hq:zcw P Γ call ops o fr s.inner with
    |none=>rw [hq] at h;simp at h
    |some p =>
      obtain ⟨fr1,t⟩:=p;rw [hq] at h;simp only at h
      cases hd:drawC P Γ call ops l fr1 (s.outer t) with
      |none=>rw [hd] at h;simp at h
      |some q =>
        obtain ⟨logs1,fr2,s2⟩:=q;rw [hd] at h;simp only [dy,ec] at h;obtain ⟨rfl,rfl,rfl⟩:=h;obtain ⟨F,S,T,ht⟩:=z0e hd;refine ⟨fun i=>match i with|0=>fr|i+1=>F i,fun i=>match i with|0=>s|i+1=>S i,fun i=>match i with|0=>t|i+1=>T i,rfl,rfl,ht.fN,ht.sN,by simp [ht.len],?_⟩;intro i o' ho'
        cases i with
        |zero =>
          simp only [fx,dy] at ho';subst ho';refine ⟨?_,?_,rfl⟩
          . show zcw P Γ call ops o fr s.inner=some (F 0,t);rw [ht.f0];exact hq
          . show S 0=s.outer t;exact ht.s0
        |succ i=>exact ht.step i o' (by simpa using ho')
theorem ziw {s:CS} (h:CInv s):CInv s.inner:=⟨h.none,h.vers,ei _⟩
theorem zlr {s t:CS} (hI:CInv s) (h:Can s.inner t):Can s (s.outer t):=by
  refine ⟨h.n,rfl,fun f hf=>zmo hf,fun f hf=>zmo hf,?_,h.ro,h.none,h.vers,?_⟩
  . intro f hn hl hw;exact h.same f hn hn fun hf=>hw (zjt hf hl)
  . have hall:∀ (xs l:List Nat),(∀ f,f∈l->f<s.lim)->∀ f,f∈zwf s.lim l xs->f<s.lim:=by
      intro xs
      induction xs with
      |nil=>intro l h f hf;exact h f hf
      |cons x xs ih=>intro l h f hf;exact ih _ (fun g hg=>(zmm hg).elim (h g) (fun k=>k.2)) f hf
    exact fun h f hf=>hall _ _ h f hf
end
section
variable {P:fe} {Γ:Env} {call:zc8} {G:List Nat}
structure Calm (P:fe) (Γ:Env) (G:List Nat) (call:zc8) (l:List Oper) (logs:List Lg) (F:Nat->Fr) (S T:Nat->CS):Prop where
  step:∀ (i:Nat) (o:Oper),l[i]?=some o->zcw P Γ call l o (F i) (S i).inner=some (F (i+1),T i)/\S (i+1)=(S i).outer (T i)
  inv:∀ i,i<=l.length->CInv (S i)
  can:∀ i,i<l.length->Can (S i).inner (T i)
  oper:∀ (i:Nat) (o:Oper),l[i]?=some o->zko G (F 0).nt o=true
  edge:∀ (i:Nat) (o:Oper),l[i]?=some o->∀ e,e∈o.after.toList->kx .any e=true->e.on<i
  touch:∀ (i j:Nat) (x y:Oper),i<j->l[i]?=some x->l[j]?=some y->gr (nth 0 (zd1 l []) j) i=true\/zyj l x y=false
  clash:∀ (i j:Nat),i<j->j<l.length->gr (nth 0 (zd1 l []) j) i=true \/
    ((∀ f,f∈(T i).wr->f ∉ (T j).rd/\f ∉ (T j).wr)/\(∀ f,f∈(T i).rd->f ∉ (T j).wr)/\(∀ f,(f∈(T j).rd\/f∈(T j).wr)->¬ ((S i).n<=f/\f<(T i).n)))
variable {l:List Oper} {logs:List Lg} {F:Nat->Fr} {S T:Nat->CS}
theorem Calm.next (c:Calm P Γ G call l logs F S T) {i:Nat} (hi:i<l.length):S (i+1)=(S i).outer (T i):=(c.step i _ (ef hi)).2
theorem Calm.n_next (c:Calm P Γ G call l logs F S T) {i:Nat} (hi:i<l.length):(S (i+1)).n=(T i).n:=by rw [c.next hi];rfl
theorem Calm.obj_next (c:Calm P Γ G call l logs F S T) {i:Nat} (hi:i<l.length):(S (i+1)).obj=(T i).obj:=by rw [c.next hi];rfl
theorem Calm.can' (c:Calm P Γ G call l logs F S T) {i:Nat} (hi:i<l.length):Can (S i) (S (i+1)):=by rw [c.next hi];exact zlr (c.inv i (by omega)) (c.can i hi)
theorem Calm.cans (c:Calm P Γ G call l logs F S T):∀ {i j:Nat},i<=j->j<=l.length->Can (S i) (S j):=by
  intro i j hij
  induction j with
  | zero => intro _; have : i = 0 := by omega
            subst this;exact i6 _
  |succ j ih =>
    intro hj;by_cases h:i=j+1
    . subst h;exact i6 _
    . exact (ih (by omega) (by omega)).trans (c.can' (by omega))
theorem Calm.n_mono (c:Calm P Γ G call l logs F S T) {i j:Nat} (hij:i<=j) (hj:j<=l.length):(S i).n<=(S j).n:=(c.cans hij hj).n
theorem Calm.nt (c:Calm P Γ G call l logs F S T):∀ i,i<=l.length->(F i).nt=(F 0).nt:=by
  intro i
  induction i with
  |zero=>intro _;rfl
  |succ i ih =>
    intro hi;have h:=(c.step i _ (ef (show i<l.length by omega))).1;unfold zcw at h
    have hput:∀ v,(putC (F i) (l[i]'(by omega)).dst v).nt=(F i).nt:=by
      intro v
      cases (l[i]'(by omega)).dst with
      |none=>rfl
      |some t=>exact Fr.put_nt _ _ _
    cases hw:zde l (F i) (l[i]'(by omega)) with
    |false=>rw [hw] at h;simp only [cond_false,dy,ec] at h;rw [<- h.1,hput];exact ih (by omega)
    |true =>
      rw [hw] at h;simp only [cond_true] at h;split at h
      . simp only [dy,ec] at h;rw [<- h.1,hput];exact ih (by omega)
      . simp at h
theorem Calm.slot_next (c:Calm P Γ G call l logs F S T) (h5:(F 0).nt<=512) {i:Nat} {o:Oper} (ho:l[i]?=some o) {t:Nat} (ht:o.dst≠some t):(F (i+1)).get t=(F i).get t:=by
  have hi:=(et.1 ho).1;have h:=(c.step i o ho).1;have h5':(F i).nt<=512:=by rw [c.nt i (by omega)];exact h5
  have hput:∀ v,(putC (F i) o.dst v).get t=(F i).get t:=by
    intro v
    cases hd:o.dst with
    |none=>rfl
    |some d =>
      refine Fr.get_put_other _ h5' ?_;rintro rfl;exact ht hd
  unfold zcw at h
  cases hw:zde l (F i) o with
  |false=>rw [hw] at h;simp only [cond_false,dy,ec] at h;rw [<- h.1];exact hput _
  |true =>
    rw [hw] at h;simp only [cond_true] at h;split at h
    . simp only [dy,ec] at h;rw [<- h.1];exact hput _
    . simp at h
theorem Calm.slot_keep (c:Calm P Γ G call l logs F S T) (h5:(F 0).nt<=512) {t:Nat}:∀ {p q:Nat},p<=q->q<=l.length->(∀ (k:Nat) (o:Oper),p<=k->k<q->l[k]?=some o->o.dst≠some t)->(F q).get t=(F p).get t:=by
  intro p q hpq
  induction q with
  | zero => intro _ _; have : p = 0 := by omega
            subst this;rfl
  |succ q ih =>
    intro hq hk;by_cases h:p=q+1
    . subst h;rfl
    . have ho:l[q]?=some l[q]:=ef (by omega);rw [c.slot_next h5 ho (hk q _ (by omega) (by omega) ho)];exact ih (by omega) (by omega) fun k o h1 h2 h3=>hk k o h1 (by omega) h3
def Sets (S T:Nat->CS) (i f:Nat):Prop:=f∈(T i).wr\/((S i).n<=f/\f<(S (i+1)).n)
theorem Calm.obj_same (c:Calm P Γ G call l logs F S T) {i:Nat} (hi:i<l.length) {f:Nat} (hf:¬ Sets S T i f):zaa (S (i+1)).obj f=zaa (S i).obj f:=by
  rw [c.obj_next hi];have hc:=c.can i hi;by_cases hn:f<(S i).n
  . exact hc.same f hn hn fun k=>hf (.inl k)
  . have h2:¬ f<(S (i+1)).n:=fun k=>hf (.inr ⟨by omega,k⟩);rw [c.n_next hi] at h2;rw [hc.none (ziw (c.inv i (by omega))).none f (by omega),(c.inv i (by omega)).none f (by omega)]
theorem Calm.obj_keep (c:Calm P Γ G call l logs F S T) {f:Nat}:∀ {p q:Nat},p<=q->q<=l.length->(∀ k,p<=k->k<q->¬ Sets S T k f)->zaa (S q).obj f=zaa (S p).obj f:=by
  intro p q hpq
  induction q with
  | zero => intro _ _; have : p = 0 := by omega
            subst this;rfl
  |succ q ih =>
    intro hq hk;by_cases h:p=q+1
    . subst h;rfl
    . rw [c.obj_same (by omega) (hk q (by omega) (by omega))];exact ih (by omega) (by omega) fun k h1 h2=>hk k h1 (by omega)
def On (E:Array Bool) (i:Nat):Prop:=E.getD i false=true
structure DInv (V:Nat->Prop) (l:List Oper) (F:Nat->Fr) (S T:Nat->CS) (σ0:Sg) (w0:World) (a0:Act) (E:Array Bool) (σ:Sg) (a:Act) (w:World):Prop where
  ext:Ext σ0 V (S 0) w0 σ (S l.length) w
  inj:∀ f u b o z f' u' o' z',σ f u=some (b,o,z)->σ f' u'=some (b,o',z')->f=f'
  lt:∀ f u b o z,σ f u=some (b,o,z)->b<w.heap.size
  new:∀ f u,σ0 f u=none->σ f u≠none->∃ i,i<l.length/\On E i/\(S i).n<=u / 1024/\u / 1024<(S (i+1)).n/\f<(S (i+1)).n/\((S i).n<=f\/f∈(T i).rd\/f∈(T i).wr)
  slots0:∀ t,(∀ (i:Nat) (o:Oper),On E i->l[i]?=some o->o.dst≠some t)->VR σ ((F 0).get t) (a.tmps.getD t undef)
  slots:∀ (t i:Nat) (o:Oper),On E i->l[i]?=some o->o.dst=some t->(∀ (j:Nat) (oj:Oper),On E j->l[j]?=some oj->oj.dst=some t->j<=i)->VR σ ((F (i+1)).get t) (a.tmps.getD t undef)
  fam0:∀ f,V f->(∀ i,i<l.length->On E i->¬ Sets S T i f)->zh8 σ w f (zaa (S 0).obj f)
  fam:∀ f i,V f->i<l.length->On E i->Sets S T i f->(∀ j,j<l.length->On E j->Sets S T j f->j<=i)->zh8 σ w f (zaa (S (i+1)).obj f)
  asize:a.tmps.size=(F 0).nt
  defers:a.defers=a0.defers
  down:∀ (j:Nat) (o:Oper),On E j->l[j]?=some o->∀ e,e∈o.after.toList->kx .any e=true->On E e.on
  size:E.size=l.length
end
section
variable {P:fe} {Γ:Env} {call:zc8} {G:List Nat} {l:List Oper} {logs:List Lg} {F:Nat->Fr} {S T:Nat->CS} {V:Nat->Prop} {σ0 σ:Sg} {w0 w:World} {a0 a:Act} {E:Array Bool}
theorem zh8.ofNone {f:Nat}:zh8 σ w f zd4:=⟨fun p hp=>by simp [zd4] at hp,fun _=>trivial,fun es he=>by simp [zd4] at he,fun L hL=>by simp [zd4] at hL⟩
theorem ysg {E:Array Bool} {i j:Nat} (hi:i<E.size):On (E.setIfInBounds i true) j↔j=i\/On E j:=by
  unfold On;by_cases h:i=j
  . subst h;simp [hi]
  . rw [getD_set_ne false h];constructor
    . exact .inr
    . rintro (k|k)
      . exact absurd k.symm h
      . exact k
theorem z6l (c:Calm P Γ G call l logs F S T) (d:DInv V l F S T σ0 w0 a0 E σ a w) {i k:Nat} {o:Oper} (ho:l[i]?=some o) (hp:∀ e,e∈o.after.toList->kx .any e=true->On E e.on) (hb:gr (nth 0 (zd1 l []) i) k=true):On E k :=
  zv3 (ops:=l) (E:=On E) (fun j o' ho' hj=>d.down j o' hj ho') i o ho hp k hb
theorem zod (c:Calm P Γ G call l logs F S T) (d:DInv V l F S T σ0 w0 a0 E σ a w) {i k:Nat} {ok:Oper} (hk:l[k]?=some ok) (hon:On E k) (hb:gr (nth 0 (zd1 l []) k) i=true):On E i :=
  zv3 (ops:=l) (E:=On E) (fun j o' ho' hj=>d.down j o' hj ho') k ok hk (d.down k ok hon hk) i hb
theorem z3i (c:Calm P Γ G call l logs F S T) (h5:(F 0).nt<=512) (d:DInv V l F S T σ0 w0 a0 E σ a w) {i:Nat} {o:Oper} (ho:l[i]?=some o) (hoff:¬ On E i) (hp:∀ e,e∈o.after.toList->kx .any e=true->On E e.on)
    {t:Nat} (ht:t∈zfu l o):VR σ ((F i).get t) (a.tmps.getD t undef):=by
  have hi:=(et.1 ho).1
  have hlow:∀ (k:Nat) (x:Oper),k<i->l[k]?=some x->x.dst=some t->On E k:=by
    intro k x hk hx hd;rcases c.touch k i x o hk hx ho with hb|hb
    . exact z6l c d ho hp hb
    . exact absurd ht (zyi hb hd).1
  have hhigh:∀ (k:Nat) (x:Oper),On E k->l[k]?=some x->x.dst=some t->k<i:=by
    intro k x hon hx hd;rcases pd k i with h|h|h
    . exact h
    . subst h;exact absurd hon hoff
    . exfalso;rcases c.touch i k o x h ho hx with hb|hb
      . exact hoff (zod c d hx hon hb)
      . exact (z29 hb hd) ht
  rcases z4n (fun k=>∃ x,l[k]?=some x/\x.dst=some t) i with hnone|⟨m,hm,⟨x,hx,hd⟩,hmax⟩
  . rw [c.slot_keep h5 (gb i) (by omega) (fun k ok _ hk hok hd=>hnone k hk ⟨ok,hok,hd⟩)];refine d.slots0 t fun k ok hon hok hd=>?_;exact hnone k (hhigh k ok hon hok hd) ⟨ok,hok,hd⟩
  . rw [c.slot_keep h5 (show m+1<=i by omega) (by omega) (fun k ok hk1 hk2 hok hd2=>by
      have:=hmax k hk2 ⟨ok,hok,hd2⟩
      omega)]
    refine d.slots t m x (hlow m x hm hx hd) hx hd fun j oj hon hoj hdj=>?_;exact hmax j (hhigh j oj hon hoj hdj) ⟨oj,hoj,hdj⟩
theorem z2d (c:Calm P Γ G call l logs F S T) (d:DInv V l F S T σ0 w0 a0 E σ a w) {i:Nat} {o:Oper} (ho:l[i]?=some o) (hoff:¬ On E i) (hp:∀ e,e∈o.after.toList->kx .any e=true->On E e.on)
    {f:Nat} (hf:f∈(T i).rd\/f∈(T i).wr) (hlt:f<(S i).n):(∀ k,k<i->Sets S T k f->On E k)/\(∀ k,k<l.length->On E k->Sets S T k f->k<i):=by
  have hi:=(et.1 ho).1;constructor
  . intro k hk hs;rcases c.clash k i hk hi with hb|⟨h1,h2,h3⟩
    . exact z6l c d ho hp hb
    . exfalso;rcases hs with hs|hs
      . rcases hf with hf|hf
        . exact (h1 f hs).1 hf
        . exact (h1 f hs).2 hf
      . rw [c.n_next (by omega)] at hs;exact h3 f hf hs
  . intro k hkl hon hs;rcases pd k i with h|h|h
    . exact h
    . subst h;exact absurd hon hoff
    . exfalso;have hk:l[k]?=some l[k]:=ef hkl;rcases c.clash i k h hkl with hb|⟨h1,h2,h3⟩
      . exact hoff (zod c d hk hon hb)
      . rcases hs with hs|hs
        . rcases hf with hf|hf
          . exact h2 f hf hs
          . exact (h1 f hf).2 hs
        . have:=c.n_mono (show i<=k by omega) (by omega);omega
theorem ys0 (c:Calm P Γ G call l logs F S T) (d:DInv V l F S T σ0 w0 a0 E σ a w) {i:Nat} {o:Oper} (ho:l[i]?=some o) (hoff:¬ On E i) (hp:∀ e,e∈o.after.toList->kx .any e=true->On E e.on)
    {f:Nat} (hV:V f) (hf:f∈(T i).rd\/f∈(T i).wr) (hlt:f<(S i).n):zh8 σ w f (zaa (S i).obj f):=by
  have hi:=(et.1 ho).1;obtain ⟨h1,h2⟩:=z2d c d ho hoff hp hf hlt;rcases z4n (fun k=>Sets S T k f) i with hnone|⟨m,hm,hs,hmax⟩
  . rw [c.obj_keep (gb i) (by omega) (fun k _ hk=>hnone k hk)];exact d.fam0 f hV fun k hk hon hs=>hnone k (h2 k hk hon hs) hs
  . rw [c.obj_keep (show m+1<=i by omega) (by omega) (fun k hk1 hk2 hs2=>by have:=hmax k hk2 hs2;omega)];exact d.fam f m hV (by omega) (h1 m hm hs) hs fun j hj hon hs2=>hmax j (h2 j hj hon hs2) hs2
def Vi (V:Nat->Prop) (S T:Nat->CS) (i:Nat):Nat->Prop:=fun f=>V f/\(f∈(T i).rd\/f∈(T i).wr\/(S i).n<=f)
theorem ykp (c:Calm P Γ G call l logs F S T) (d:DInv V l F S T σ0 w0 a0 E σ a w) {i:Nat} {o:Oper} (ho:l[i]?=some o) (hoff:¬ On E i) (hp:∀ e,e∈o.after.toList->kx .any e=true->On E e.on) :
    Rel σ (Vi V S T i) (S i).inner w:=by
  have hi:=(et.1 ho).1;have hI:=c.inv i (by omega);refine ⟨d.inj,d.lt,?_,hI.none,hI.vers⟩;intro f hf;show zh8 σ w f (zaa (S i).obj f);by_cases hlt:f<(S i).n
  . refine ys0 c d ho hoff hp hf.1 ?_ hlt;rcases hf.2 with h|h|h
    . exact .inl h
    . exact .inr h
    . omega
  . rw [hI.none f (by omega)];exact zh8.ofNone
theorem ydh (c:Calm P Γ G call l logs F S T) (hF:zeq σ0 (S 0).n (S l.length).n) (d:DInv V l F S T σ0 w0 a0 E σ a w) {i:Nat} (hi:i<l.length) (hoff:¬ On E i):zeq σ (S i).n (T i).n:=by
  rw [<- c.n_next hi];intro f u hf;have h0:=c.n_mono (gb i) (by omega);have h1:=c.n_mono (show i+1<=l.length by omega) (ei _)
  cases hs:σ f u with
  |none=>rfl
  |some p =>
    exfalso;have hn:σ0 f u=none:=hF f u (by omega);obtain ⟨k,hk,hon,h2,h3,h4,h5⟩:=d.new f u hn (by rw [hs];simp);have hkk:l[k]?=some l[k]:=ef hk;rcases pd k i with h|h|h
    . have:=c.n_mono (show k+1<=i by omega) (by omega);omega
    . subst h;exact hoff hon
    . have:=c.n_mono (show i+1<=k by omega) (by omega);rcases hf with hf|hf
      . rcases c.clash i k h hk with hb|⟨q1,q2,q3⟩
        . exact hoff (zod c d hkk hon hb)
        . rw [<- c.n_next hi] at q3;rcases h5 with h5|h5
          . omega
          . exact q3 f h5 hf
      . omega
set_option maxHeartbeats 1000000 in
theorem yi9 (c:Calm P Γ G call l logs F S T) (h5:(F 0).nt<=512) (hF:zeq σ0 (S 0).n (S l.length).n) (hw0:∀ i,i<l.length->∀ f,f∈(T i).wr->f<(S i).n) (d:DInv V l F S T σ0 w0 a0 E σ a w)
    {i:Nat} {o:Oper} (ho:l[i]?=some o) (hoff:¬ On E i) (hp:∀ e,e∈o.after.toList->kx .any e=true->On E e.on)
    {σ':Sg} {w':World} {v v':Value} (hput:F (i+1)=putC (F i) o.dst v) (hv:VR σ' v v') (hr':Rel σ' (Vi V S T i) (T i) w') (he':Ext σ (Vi V S T i) (S i).inner w σ' (T i) w') :
    DInv V l F S T σ0 w0 a0 (E.setIfInBounds i true) σ' (a.put o.dst v') w':=by
  have hi:=(et.1 ho).1;have hiE:i<E.size:=by rw [d.size];exact hi
  have hI:=c.inv i (by omega);have hI0:=c.inv 0 (by omega);have hS0i:=c.n_mono (gb i) (by omega);have hSiN:=c.n_mono (show i+1<=l.length by omega) (ei _);have hTn:=c.n_next hi;have hobj:=c.obj_next hi;have hcan0:=c.cans (gb i) (by omega)
  have hro:∀ f u p,σ0 f u=some p->(zaa (S i).obj f).ro=(zaa (S 0).obj f).ro:=by
    intro f u p hs;by_cases hlt:f<(S 0).n
    . exact hcan0.ro f hlt
    . by_cases h2:f<(S l.length).n
      . rw [hF f u (.inl ⟨by omega,h2⟩)] at hs;simp at hs
      . rw [hI0.none f (by omega),hI.none f (by have:=c.n_mono (show i<=l.length by omega) (ei _);omega)]
  have hon:∀ j,On (E.setIfInBounds i true) j↔j=i\/On E j:=fun j=>ysg hiE
  -- setters of a family that operation i sets stand before it
  have hset:∀ f,Sets S T i f->∀ j,j<l.length->On E j->Sets S T j f->j<=i:=by
    intro f hs j hj honj hsj;rcases pd j i with h|h|h
    . omega
    . omega
    . exfalso;have hjj:l[j]?=some l[j]:=ef hj;have hij:=c.n_mono (show i+1<=j by omega) (by omega);rcases c.clash i j h hj with hb|⟨q1,q2,q3⟩
      . exact hoff (zod c d hjj honj hb)
      . rw [<- hTn] at q3;rcases hs with hs|hs
        . rcases hsj with hsj|hsj
          . exact (q1 f hs).2 hsj
          . have:=hw0 i hi f hs;have:=c.n_mono (show i<=j by omega) (by omega);omega
        . rcases hsj with hsj|hsj
          . exact q3 f (.inr hsj) hs
          . omega
  -- a family that operation i does not set
  have hunset:∀ f x,V f->¬ Sets S T i f->zh8 σ w f x->(f∈(T i).rd\/f∈(T i).wr->f<(S i).n->x=zaa (S i).obj f)->zh8 σ' w' f x:=by
    intro f x hVf hns hx hsame;by_cases ht:(f∈(T i).rd\/f∈(T i).wr)/\f<(S i).n
    . have hVi:Vi V S T i f:=⟨hVf,ht.1.elim (fun h=>.inl h) (fun h=>.inr (.inl h))⟩;have:=hr'.fam f hVi;rw [<- hobj,c.obj_same hi hns,<- hsame ht.1 ht.2] at this;exact this
    . refine hx.move he'.le ?_ ?_
      . intro u _
        cases h1:σ f u with
        |some p=>exact he'.le f u p h1
        |none =>
          cases h2:σ' f u with
          |none=>rfl
          |some p =>
            exfalso;obtain ⟨g1,g2,g3,g4⟩:=he'.new f u h1 (by rw [h2];simp);have g3':f<(T i).n:=g3;have hge:¬ (S i).n<=f:=fun k=>hns (.inr ⟨k,by rw [hTn];exact g3'⟩);rcases g4 with g4|g4
            . exact hge g4
            . rcases g4.2 with g|g|g
              . exact ht ⟨.inl g,by omega⟩
              . exact ht ⟨.inr g,by omega⟩
              . exact hge g
      . intro u b oo z hs;refine he'.frame b (d.lt _ _ _ _ _ hs) ?_;intro f' u' o' z' hs';have hff:=d.inj _ _ _ _ _ _ _ _ _ hs' hs;subst hff;by_cases hge:(S i).n<=f'
        . right;show (zaa (S i).obj f').ro=true;rw [hI.none f' hge];rfl
        . left;intro hVi;rcases hVi.2 with g|g|g
          . exact ht ⟨.inl g,by omega⟩
          . exact ht ⟨.inr g,by omega⟩
          . exact hge g
  refine ⟨⟨?_,?_,?_,?_,?_,d.ext.st.trans he'.st⟩,hr'.inj,hr'.lt,?_,?_,?_,?_,?_,?_,?_,?_,?_⟩
  . exact fun f u p hs=>he'.le f u p (d.ext.le f u p hs)
  . intro f u h0 h2
    cases h1:σ f u with
    |some p=>exact d.ext.new f u h0 (by rw [h1];simp)
    |none =>
      obtain ⟨g1,g2,g3,g4⟩:=he'.new f u h1 h2;have g1':(S i).n<=u / 1024:=g1;refine ⟨by omega,by omega,by omega,?_⟩;rcases g4 with g4|g4
      . have g4':(S i).n<=f:=g4;exact .inl (by omega)
      . exact .inr g4.1
  . intro f u b oo z h0 h2 hb
    cases h1:σ f u with
    |some p =>
      have:=he'.le f u p h1;rw [h2] at this;cases this;exact d.ext.old f u b oo z h0 h1 hb
    |none =>
      obtain ⟨u0,o0,z0,hs,hVi,hr0⟩:=he'.old f u b oo z h1 h2 (fh hb d.ext.size)
      cases h3:σ0 f u0 with
      |none=>exact d.ext.old f u0 b o0 z0 h3 hs hb
      |some p =>
        have:=d.ext.le f u0 p h3;rw [hs] at this;cases this;exact ⟨u0,o0,z0,h3,hVi.1,by rw [<- hro f u0 _ h3];exact hr0⟩
  . exact kh d.ext.size he'.size
  . intro b hb hq;rw [he'.frame b (fh hb d.ext.size) ?_,d.ext.frame b hb hq];intro f u oo z h1
    cases h0:σ0 f u with
    |some p =>
      have:=d.ext.le f u p h0;rw [h1] at this;cases this;rcases hq f u oo z h0 with hv|hr0
      . exact .inl fun k=>hv k.1
      . exact .inr (by show (zaa (S i).obj f).ro=true;rw [hro f u _ h0];exact hr0)
    |none =>
      obtain ⟨u0,o0,z0,hs,hVf,hr0⟩:=d.ext.old f u b oo z h0 h1 hb;rcases hq f u0 o0 z0 hs with hv|hr2
      . exact absurd hVf hv
      . rw [hr0] at hr2;simp at hr2
  . intro f u h0 h2
    cases h1:σ f u with
    |some p =>
      obtain ⟨k,hk,honk,rest⟩:=d.new f u h0 (by rw [h1];simp);exact ⟨k,hk,(hon k).2 (.inr honk),rest⟩
    |none =>
      obtain ⟨g1,g2,g3,g4⟩:=he'.new f u h1 h2;have g1':(S i).n<=u / 1024:=g1;refine ⟨i,hi,(hon i).2 (.inl rfl),g1',by omega,by omega,?_⟩;rcases g4 with g4|g4
      . exact .inl g4
      . rcases g4.2 with g|g|g
        . exact .inr (.inl g)
        . exact .inr (.inr g)
        . exact .inl g
  . intro t hno;have hdt:o.dst≠some t:=hno i o ((hon i).2 (.inl rfl)) ho
    have hsame:(a.put o.dst v').tmps.getD t undef=a.tmps.getD t undef:=by
      cases hd:o.dst with
      |none=>rfl
      |some q=>exact Act.getD_put_other v' (by rintro rfl;exact hdt hd)
    rw [hsame];exact (d.slots0 t fun j oj honj hoj=>hno j oj ((hon j).2 (.inr honj)) hoj).mono he'.le
  . intro t j oj honj hoj hdj hmax;rcases (hon j).1 honj with rfl|honj'
    . -- the operation itself
      rw [ho] at hoj;cases hoj;have hoper:=c.oper _ _ ho;unfold zko at hoper;rw [d8,hdj] at hoper;have hlt:t<(F 0).nt:=zaf.1 hoper.2;rw [hput,hdj];have e1:(putC (F j) (some t) v).get t=v:=Fr.get_put_same v (by rw [c.nt j (by omega)];exact hlt) (by rw [c.nt j (by omega)];exact h5);rw [e1,Act.getD_put_same v' (by rw [d.asize];exact hlt)];exact hv
    . -- an earlier one: operation i does not set this slot
      have hdt:o.dst≠some t:=by
        intro hd;have hij:=hmax i o ((hon i).2 (.inl rfl)) ho hd;have hne:i≠j:=by rintro rfl;exact hoff honj'
        rcases c.touch i j o oj (by omega) ho hoj with hb|hb
        . exact hoff (zod c d hoj honj' hb)
        . exact (zyi hb hd).2 hdj
      have hsame:(a.put o.dst v').tmps.getD t undef=a.tmps.getD t undef:=by
        cases hd:o.dst with
        |none=>rfl
        |some q=>exact Act.getD_put_other v' (by rintro rfl;exact hdt hd)
      rw [hsame];exact (d.slots t j oj honj' hoj hdj fun k ok honk hok hdk=>hmax k ok ((hon k).2 (.inr honk)) hok hdk).mono he'.le
  . intro f hVf hno;have hns:¬ Sets S T i f:=hno i hi ((hon i).2 (.inl rfl));refine hunset f _ hVf hns (d.fam0 f hVf fun k hk honk=>hno k hk ((hon k).2 (.inr honk))) ?_;intro ht hlt;obtain ⟨h1,h2⟩:=z2d c d ho hoff hp ht hlt;exact (c.obj_keep (gb i) (by omega) fun k _ hk hs=>hno k (by omega) ((hon k).2 (.inr (h1 k hk hs))) hs).symm
  . intro f j hVf hj honj hsj hmax;by_cases hsi:Sets S T i f
    . have h1:=hmax i hi ((hon i).2 (.inl rfl)) hsi
      have hji:j=i:=by
        rcases (hon j).1 honj with h|h
        . exact h
        . have:=hset f hsi j hj h hsj;omega
      subst hji;rw [hobj];refine hr'.fam f ⟨hVf,?_⟩;rcases hsi with h|h
      . exact .inr (.inl h)
      . exact .inr (.inr h.1)
    . have honj':On E j:=by
        rcases (hon j).1 honj with rfl|h
        . exact absurd hsj hsi
        . exact h
      refine hunset f _ hVf hsi (d.fam f j hVf hj honj' hsj fun k hk honk hsk=>hmax k hk ((hon k).2 (.inr honk)) hsk) ?_;intro ht hlt;obtain ⟨h1,h2⟩:=z2d c d ho hoff hp ht hlt;have hji:=h2 j hj honj' hsj
      exact (c.obj_keep (show j+1<=i by omega) (by omega) fun k hk1 hk2 hs=>by
        have:=hmax k (by omega) ((hon k).2 (.inr (h1 k hk2 hs))) hs
        omega).symm
  . rw [Act.put_size];exact d.asize
  . rw [Act.put_defers'];exact d.defers
  . intro j oj honj hoj e he hb;rcases (hon j).1 honj with rfl|honj'
    . rw [ho] at hoj;cases hoj;exact (hon _).2 (.inr (hp e he hb))
    . exact (hon _).2 (.inr (d.down j oj honj' hoj e he hb))
  . simp [d.size]
end
section
variable {P:fe} {Γ:Env} {call:zc8} {G:List Nat}
theorem z50 {α:Type} {p q:α->Bool}:∀ {l:List α},(∀ x,x∈l->q x=true->p x=true)->(∃ x,x∈l/\p x=true/\q x=false)->l.countP q<l.countP p
  |[],_,h=>by obtain ⟨x,hx,_⟩:=h;simp at hx
  |y :: l,h,⟨x,hx,hp,hq⟩=>by
    have hle:∀ (l:List α),(∀ x,x∈l->q x=true->p x=true)->l.countP q<=l.countP p:=by
      intro l
      induction l with
      |nil=>intro _;simp
      |cons z l ih =>
        intro h;have h1:=ih fun x hx=>h x (by simp [hx]);have h2:=h z (by simp);rw [pj,pj]
        cases hqz:q z with
        |false=>simp;omega
        |true=>rw [h2 hqz];simp;omega
    rw [pj,pj];rcases ic.1 hx with rfl|hx
    . rw [hp,hq];have:=hle l fun z hz=>h z (by simp [hz]);simp;omega
    . have h1:=z50 (fun z hz=>h z (by simp [hz])) ⟨x,hx,hp,hq⟩;have h2:=h y (by simp)
      cases hqy:q y with
      |false=>simp;omega
      |true=>rw [h2 hqy];simp;omega
def cnt (l:List Oper) (E:Array Bool):Nat:=(List.range l.length).countP fun i=>!E.getD i false
theorem yqz {l:List Oper} {E:Array Bool} {i:Nat} (hs:E.size=l.length) (hi:i<l.length) (hoff:¬ On E i):cnt l (E.setIfInBounds i true)<cnt l E:=by
  unfold cnt;refine z50 ?_ ⟨i,by simpa using hi,?_,?_⟩
  . intro x _ hx;by_cases h:i=x
    . subst h;simp [hs,hi] at hx
    . rw [getD_set_ne false h] at hx;exact hx
  . unfold On at hoff;simpa using hoff
  . simp [hs,hi]
theorem yq6 {l:List Oper} {fr fr':Fr} {s s':CS} {logs:List Lg} {F:Nat->Fr} {S T:Nat->CS} (hc:zfq call) (ht:ytn P Γ call l l fr s logs fr' s' F S T) (hI:CInv s) (hoper:l.all (zko G fr.nt)=true) (htidy:tidy l=true) (hcalm:calm s.n l logs=true) :
    Calm P Γ G call l logs F S T:=by
  have hinv:∀ i,i<=l.length->CInv (S i):=by
    intro i
    induction i with
    |zero=>intro _;rw [ht.s0];exact hI
    |succ i ih =>
      intro hi;obtain ⟨h1,h2,_⟩:=ht.step i _ (ef (show i<l.length by omega));have h3:=ih (by omega);rw [h2];exact h3.next (zlr h3 (znb hc (ziw h3) h1))
  have hcan:∀ i,i<l.length->Can (S i).inner (T i):=fun i hi=>znb hc (ziw (hinv i (by omega))) (ht.step i _ (ef hi)).1
  have hmono:∀ i j,i<=j->j<=l.length->(S i).n<=(S j).n:=by
    intro i j hij
    induction j with
    | zero => intro _; have : i = 0 := by omega
              subst this;exact ei _
    |succ j ih =>
      intro hj;by_cases h:i=j+1
      . subst h;exact ei _
      . refine kh (ih (by omega) (by omega)) ?_;rw [(ht.step j _ (ef (show j<l.length by omega))).2.1];exact (hcan j (by omega)).n
  unfold tidy at htidy;rw [d8] at htidy;refine ⟨fun i o ho=>⟨(ht.step i o ho).1,(ht.step i o ho).2.1⟩,hinv,hcan,fun i o ho=>?_,fun i o ho e he hb=>?_,fun i j x y hij hx hy=>?_,fun i j hij hj=>?_⟩
  . rw [ht.f0];exact fd.1 hoper o (ij ho)
  . have:=z0d htidy.1 i o ho e he hb;omega
  . exact zgc htidy.2 i j x y hij (gb _) (by simpa using hx) (by simpa using hy)
  . have hli:=(ht.step i _ (ef (show i<l.length by omega))).2.2;have hlj:=(ht.step j _ (ef hj)).2.2;unfold calm at hcalm;rw [cond_eq_ite] at hcalm;split at hcalm
    . rename_i hq;right;have hqi:=fd.1 hq _ (ij hli);have hqj:=fd.1 hq _ (ij hlj);simp only [d8,pi] at hqi hqj;refine ⟨fun f hf=>by rw [hqi.1] at hf;simp at hf,fun f _ hf=>by rw [hqj.1] at hf;simp at hf,?_⟩;rintro f (hf|hf) hr
      . have:=zaf.1 (fd.1 hqj.2 f hf);have h0:=hmono 0 i (gb _) (by omega);rw [ht.s0] at h0;omega
      . rw [hqj.1] at hf;simp at hf
    . rcases zgc hcalm i j _ _ hij (gb _) (by simpa using hli) (by simpa using hlj) with h|h
      . exact .inl h
      . exact .inr (z8r h)
theorem zh8.world {σ:Sg} {w w':World} {f:Nat} {x:Fam} (h:zh8 σ w f x) (hw:w'.heap=w.heap):zh8 σ w' f x :=
  h.move (fun _ _ _ k=>k) (fun _ _=>rfl) (fun _ b _ _ _=>by rw [hw])
theorem Rel.world {σ:Sg} {V:Nat->Prop} {s:CS} {w w':World} (h:Rel σ V s w) (hw:w'.heap=w.heap):Rel σ V s w' :=
  ⟨h.inj,fun f u b o z k=>by rw [hw];exact h.lt f u b o z k,fun f hf=>(h.fam f hf).world hw,h.none,h.vers⟩
set_option maxHeartbeats 1000000 in
theorem yqr {r:Option Nat} {kd:Nat} (hm:P.follows .mixedOrders=true) (hE:zei P Γ) (hC:z6t P G call) (hc:zfq call) {σ:Sg} {V:Nat->Prop} {s s':CS} {w:World} {a:Act} {fr fr':Fr} {id:Nat} {ops:Array Oper} {logs:List Lg} {Q:Exit->Act->World->Prop}
    (hr:Rel σ V s w) (hV:zci V s') (hF:zeq σ s.n s'.n) (hI:CInv s) (hG:zi0 G σ) (hfr:FrR σ fr a) (hoper:ops.toList.all (zko G fr.nt)=true) (htidy:tidy ops.toList=true)
    (h:drawC P Γ call ops.toList ops.toList fr s=some (logs,fr',s')) (hcalm:calm s.n ops.toList logs=true)
    (hQ:∀ σ' a' w',FrR σ' fr' a'->a'.defers=a.defers->Rel σ' V s' w'->Ext σ V s w σ' s' w'->Q .normal a' w'):(Code.region id ops true).wpIn (zjx r) kd P Q a w:=by
  obtain ⟨F,S,T,ht⟩:=z0e h;have c:=yq6 hc ht hI hoper htidy hcalm;have h5:(F 0).nt<=512:=by rw [ht.f0];exact hfr.small
  have hF0:zeq σ (S 0).n (S ops.toList.length).n:=by rw [ht.s0,ht.sN];exact hF
  have hwlt:∀ i,i<ops.toList.length->∀ f,f∈(T i).wr->f<(S i).n:=by
    intro i hi f hf;have:=(c.can i hi).wlt (fun g hg=>by simp [CS.inner] at hg) f hf;rw [(c.can i hi).lim] at this;exact this
  have hlim:∀ i,i<=ops.toList.length->(S i).lim=s.lim:=by
    intro i
    induction i with
    |zero=>intro _;rw [ht.s0]
    |succ i ih=>intro hi;rw [c.next (by omega)];exact ih (by omega)
  -- what an operation touches is covered
  have hVt:∀ i,i<ops.toList.length->∀ f,(f∈(T i).rd\/f∈(T i).wr\/(S i).n<=f)->V f:=by
    intro i hi f hf;have hcs:=c.cans (show i+1<=ops.toList.length by omega) (ei _);refine hV f ?_;rw [<- ht.sN];by_cases hl:f<s.lim
    . rcases hf with hf|hf|hf
      . exact .inl (hcs.rd f (by rw [c.next hi];exact zjt hf (by rw [hlim i (by omega)];exact hl)))
      . exact .inr (.inl (hcs.wr f (by rw [c.next hi];exact zjt hf (by rw [hlim i (by omega)];exact hl))))
      . have h1:=c.n_mono (gb i) (by omega);rw [ht.s0] at h1;have:=hI.lim;omega
    . exact .inr (.inr (by rw [hlim _ (ei _)];omega))
  refine wpIn_region_any hm ?_
  -- the end: all has been done
  have hend:∀ (E:Array Bool) (σ1:Sg) (a1:Act) (w1:World),DInv V ops.toList F S T σ w a E σ1 a1 w1->(∀ i,i<ops.toList.length->On E i)->Q .normal a1 w1:=by
    intro E σ1 a1 w1 d hall;refine hQ σ1 a1 w1 ⟨?_,by rw [<- ht.fN,c.nt _ (ei _)];exact h5,fun t=>?_⟩ d.defers ⟨d.inj,d.lt,fun f hf=>?_,?_,?_⟩ ?_
    . rw [d.asize,<- ht.fN,c.nt _ (ei _)]
    . rw [<- ht.fN];rcases z4n (fun k=>∃ x,ops.toList[k]?=some x/\x.dst=some t) ops.toList.length with hnone|⟨m,hm1,⟨x,hx,hd⟩,hmax⟩
      . rw [c.slot_keep h5 (gb _) (ei _) (fun k ok _ hk hok hd=>hnone k hk ⟨ok,hok,hd⟩)];exact d.slots0 t fun i o _ ho hd=>hnone i (et.1 ho).1 ⟨o,ho,hd⟩
      . rw [c.slot_keep h5 (show m+1<=_ by omega) (ei _) (fun k ok hk1 hk2 hok hd2=>by have:=hmax k hk2 ⟨ok,hok,hd2⟩;omega)];exact d.slots t m x (hall m hm1) hx hd fun j oj _ hoj hdj=>hmax j (et.1 hoj).1 ⟨oj,hoj,hdj⟩
    . rw [<- ht.sN];rcases z4n (fun k=>Sets S T k f) ops.toList.length with hnone|⟨m,hm1,hs,hmax⟩
      . rw [c.obj_keep (gb _) (ei _) fun k _ hk=>hnone k hk];exact d.fam0 f hf fun i hi _=>hnone i hi
      . rw [c.obj_keep (show m+1<=_ by omega) (ei _) fun k hk1 hk2 hs2=>by have:=hmax k hk2 hs2;omega];exact d.fam f m hf hm1 (hall m hm1) hs fun j hj _ hsj=>hmax j hj hsj
    . rw [<- ht.sN];exact (c.inv _ (ei _)).none
    . rw [<- ht.sN];exact (c.inv _ (ei _)).vers
    . have:=d.ext;rw [ht.s0,ht.sN] at this;exact this
  have key:∀ (fuel:Nat) (E:Array Bool) (σ1:Sg) (a1:Act) (w1:World),DInv V ops.toList F S T σ w a E σ1 a1 w1->cnt ops.toList E<=fuel->wpAnyIn (zjx r) kd P .any ops Q fuel E a1 w1:=by
    intro fuel
    -- where nothing is ready, all has been done
    have hready:∀ (E:Array Bool) (σ1:Sg) (a1:Act) (w1:World),DInv V ops.toList F S T σ w a E σ1 a1 w1->Region.ready .any ops E=[]->∀ i,i<ops.toList.length->On E i:=by
      intro E σ1 a1 w1 d hnil i
      induction i using Nat.strongRecOn with
      |_ i ih =>
        intro hi;refine mj fun hoff=>?_;have ho:ops.toList[i]?=some ops.toList[i]:=ef hi
        have:i∈Region.ready .any ops E:=by
          rw [mem_ready];refine ⟨?_,ops.toList[i],by rw [<- ja];exact ho,fun e he hb=>?_⟩
          . unfold On at hoff;have hsz:i<E.size:=by rw [d.size];exact hi
            simp only [jl,jq hsz,Option.getD_some] at hoff ⊢;simpa using hoff
          . have:=c.edge i _ ho e (by simpa using he) hb;exact ih e.on this (by omega)
        rw [hnil] at this;simp at this
    induction fuel with
    |zero =>
      intro E σ1 a1 w1 d hcnt
      have hall:∀ i,i<ops.toList.length->On E i:=by
        intro i hi;refine mj fun hoff=>?_
        have:0<cnt ops.toList E:=by
          unfold cnt;rw [List.countP_pos_iff];exact ⟨i,by simpa using hi,by unfold On at hoff;simpa using hoff⟩
        omega
      refine ⟨?_,hend E σ1 a1 w1 d hall⟩;rw [List.eq_nil_iff_forall_not_mem];intro i hi;obtain ⟨h1,o,ho,_⟩:=mem_ready.1 hi;have hlt:i<ops.toList.length:=by rw [io];exact (Array.getElem?_eq_some_iff.1 ho).1
      have:=hall i hlt;unfold On at this;have hsz:i<E.size:=by rw [d.size];exact hlt
      simp only [jl,jq hsz,Option.getD_some] at h1 this;rw [this] at h1
      simp at h1
    |succ fuel ih =>
      intro E σ1 a1 w1 d hcnt;refine ⟨fun hnil=>hend E σ1 a1 w1 d (hready E σ1 a1 w1 d hnil),fun i hi=>?_⟩;obtain ⟨h1,o,ho,hp⟩:=mem_ready.1 hi;have ho':ops.toList[i]?=some o:=by rw [ja];exact ho
      have hlt:=(et.1 ho').1
      have hoff:¬ On E i:=by
        unfold On;have hsz:i<E.size:=by rw [d.size];exact hlt
        simp only [jl,jq hsz,Option.getD_some] at h1 ⊢;rw [h1];simp
      have hp':∀ e,e∈o.after.toList->kx .any e=true->On E e.on:=fun e he hb=>hp e (by simpa using he) hb;obtain ⟨hstep,hnext⟩:=c.step i o ho';have hoperi:=c.oper i o ho';unfold zko at hoperi;rw [d8] at hoperi;have hrel:=ykp c d ho' hoff hp'
      have hcov:zci (Vi V S T i) (T i):=by
        intro f hf
        have hf':f∈(T i).rd\/f∈(T i).wr\/(S i).n<=f:=by
          rcases hf with hf|hf|hf
          . exact .inl hf
          . exact .inr (.inl hf)
          . rw [(c.can i hlt).lim] at hf;exact .inr (.inr hf)
        exact ⟨hVt i hlt f hf',hf'⟩
      have hfresh:zeq σ1 (S i).inner.n (T i).n:=ydh c hF0 d hlt hoff;have hGi:zi0 G σ1:=hG.up d.ext.le;unfold wpOpIn;rw [ho];simp only;refine yey (fr:=F i) hE hC hrel hcov hfresh (ziw (c.inv i (by omega))) hGi hoperi.1 ?_ ?_ hstep ?_
      . intro t htm;refine z3i c h5 d ho' hoff hp' ?_;unfold zfu;refine List.mem_append_left _ (List.mem_filterMap.2 ⟨.tmp t,htm,rfl⟩)
      . intro g b dd hg hd;refine ⟨?_,z3i c h5 d ho' hoff hp' ?_⟩
        . unfold zp8 at hd
          cases hog:ops.toList[g]? with
          |none=>rw [hog] at hd;simp at hd
          |some og =>
            rw [hog] at hd;simp only at hd;have:=c.oper g og hog;unfold zko at this;rw [d8,hd] at this;rw [d.asize];exact zaf.1 this.2
        . unfold zfu;refine List.mem_append_right _ ?_;rw [hg];simp only;rw [hd];simp
      . intro σ' v v' w' hput hv hr' he';refine ih _ σ' _ w' (yi9 c h5 hF0 hwlt d ho' hoff hp' hput hv hr' he') ?_;have:=yqz d.size hlt hoff;omega
  refine key ops.size (pt ops.size false) σ a _ ?_ ?_
  . refine ⟨?_,hr.inj,fun f u b o z k=>hr.lt f u b o z k,fun f u h0 h1=>absurd h0 h1,fun t _=>by rw [ht.f0];exact hfr.val t,?_,?_,?_,by rw [ht.f0];exact hfr.size.symm,rfl,?_,by simp⟩
    . refine ⟨fun _ _ _ k=>k,fun _ _ k1 k2=>absurd k1 k2,fun _ _ _ _ _ k1 k2=>by rw [k1] at k2;simp at k2,ei _,fun _ _ _=>rfl,⟨rfl,rfl,rfl⟩⟩
    . intro t i o hon;unfold On at hon;simp only [jl,my] at hon;split at hon<;>simp at hon
    . intro f hf _;rw [ht.s0];exact (hr.fam f hf).world rfl
    . intro f i _ _ hon;unfold On at hon;simp only [jl,my] at hon;split at hon<;>simp at hon
    . intro j o hon;unfold On at hon;simp only [jl,my] at hon;split at hon<;>simp at hon
  . unfold cnt;refine kh List.countP_le_length ?_;simp
end
section
variable {P:fe} {Γ:Env} {G:List Nat}
theorem zvr (fr:Fr) (d:Option Tmp) (v:Value):(putC fr d v).nt=fr.nt:=by
  cases d with
  |none=>rfl
  |some t=>exact Fr.put_nt _ _ _
theorem z9b {call:zc8} {ops:List Oper} {o:Oper} {fr fr':Fr} {s s':CS} (h:zcw P Γ call ops o fr s=some (fr',s')):fr'.nt=fr.nt:=by
  unfold zcw at h
  cases hw:zde ops fr o with
  |false=>rw [hw] at h;simp only [cond_false,dy,ec] at h;rw [<- h.1,zvr]
  |true =>
    rw [hw] at h;simp only [cond_true] at h;split at h
    . simp only [dy,ec] at h;rw [<- h.1,zvr]
    . simp at h
theorem yfr {call:zc8} {ops:List Oper}:∀ {l:List Oper} {fr fr':Fr} {s s':CS},runC P Γ call ops l fr s=some (fr',s')->fr'.nt=fr.nt
  |[],fr,fr',s,s',h=>by simp only [runC,dy,ec] at h;rw [<- h.1]
  |o :: l,fr,fr',s,s',h=>by
    simp only [runC] at h;split at h
    . rename_i h1;rw [yfr h,z9b h1]
    . simp at h
theorem ybn {call:zc8} {ops:List Oper}:∀ {l:List Oper} {fr fr':Fr} {s s':CS} {logs:List Lg},drawC P Γ call ops l fr s=some (logs,fr',s')->fr'.nt=fr.nt
  |[],fr,fr',s,s',logs,h=>by simp only [drawC,dy,ec] at h;rw [<- h.2.1]
  |o :: l,fr,fr',s,s',logs,h=>by
    simp only [drawC] at h;split at h
    . rename_i h1;split at h
      . rename_i h2;simp only [dy,ec] at h;rw [<- h.2.1,ybn h2,z9b h1]
      . simp at h
    . simp at h
theorem ybm {call:zc8} (hc:zfq call) {ops:List Oper}:∀ {l:List Oper} {fr fr':Fr} {s s':CS} {logs:List Lg},CInv s->drawC P Γ call ops l fr s=some (logs,fr',s')->Can s s'
  |[],fr,fr',s,s',logs,hI,h=>by simp only [drawC,dy,ec] at h;rw [<- h.2.2];exact i6 _
  |o :: l,fr,fr',s,s',logs,hI,h=>by
    simp only [drawC] at h;split at h
    . rename_i h1;split at h
      . rename_i h2;simp only [dy,ec] at h;have c1:=zlr hI (znb hc (ziw hI) h1);rw [<- h.2.2];exact c1.trans (ybm hc (hI.next c1) h2)
      . simp at h
    . simp at h
theorem zoo {fr:Fr}:∀ {l:List ResultVar} {s s':CS} {vs:List Value},resC Γ fr s l=some (vs,s')->Can s s'
  |[],s,s',vs,h=>by simp only [resC,dy,ec] at h;rw [<- h.2];exact i6 _
  |.tmp t :: l,s,s',vs,h=>by
    simp only [resC] at h;split at h
    . rename_i h1;simp only [dy,ec] at h;rw [<- h.2];exact zoo h1
    . simp at h
  |.cell a t :: l,s,s',vs,h=>by
    simp only [resC] at h;split at h
    . split at h
      . rename_i h1;split at h
        . rename_i h2;simp only [dy,ec] at h;rw [<- h.2];exact (zp5 h1).trans (zoo h2)
        . simp at h
      . simp at h
    . simp at h
def Exit.known:Exit->Prop
  |.normal=>True
  |.exit _=>True
  |.ret=>True
  |_=>False
theorem zno:∀ (ps:List Tmp) (vs:List Value) (fr:Fr),(zqz fr ps vs).nt=fr.nt
  |[],_,_=>rfl
  |_ :: _,[],_=>rfl
  |p :: ps,v :: vs,fr=>by rw [zqz,zno ps vs,Fr.put_nt]
def yts (it:Nat->Option It):Prop:=∀ f i,it f=some i->∀ caps s k s',i.key caps s=some (k,s')->CInv s->Can s s'/\s'.obj=s.obj/\s'.n=s.n
theorem znl {run:Code->Fr->CS->Option (Exit×Fr×CS)} {key:CS->Option (List Nat×CS)} {k0:List Nat} {ps:List Tmp} {a b:Code} {fr:Fr}
    (hrun:∀ c fr s e fr' s',run c fr s=some (e,fr',s')->fr'.nt=fr.nt/\Exit.known e/\(CInv s->Can s s')) (hk:∀ s k s',key s=some (k,s')->CInv s->Can s s'):∀ (xs:List (List Value)) (s:CS) (e:Exit) (s':CS),zi1 run key k0 ps a b fr xs s=some (e,s')->Exit.known e/\(CInv s->Can s s')
  |[],s,e,s',h=>by
    simp only [zi1,dy,ec] at h;obtain ⟨rfl,rfl⟩:=h;exact ⟨trivial,fun _=>i6 _⟩
  |x :: xs,s,e,s',h=>by
    rw [zi1] at h;obtain ⟨_,h⟩:=zbo h;split at h
    . rename_i h1;obtain ⟨_,_,q3⟩:=hrun _ _ _ _ _ _ h1;split at h
      . rename_i h2;obtain ⟨_,_,r3⟩:=hrun _ _ _ _ _ _ h2;split at h
        . rename_i h3;obtain ⟨_,h⟩:=zbo h;obtain ⟨t1,t2⟩:=znl hrun hk xs _ _ _ h;refine ⟨t1,fun hI=>?_⟩;have c1:=q3 hI;have c2:=r3 (hI.next c1);have c12:=c1.trans c2;have c3:=hk _ _ _ h3 (hI.next c12);exact (c12.trans c3).trans (t2 (hI.next (c12.trans c3)))
        . simp at h
      . rename_i h2;obtain ⟨_,_,r3⟩:=hrun _ _ _ _ _ _ h2;simp only [dy,ec] at h;obtain ⟨rfl,rfl⟩:=h;exact ⟨trivial,fun hI=>(q3 hI).trans (r3 (hI.next (q3 hI)))⟩
      . rename_i h2;obtain ⟨_,_,r3⟩:=hrun _ _ _ _ _ _ h2;simp only [dy,ec] at h;obtain ⟨rfl,rfl⟩:=h;exact ⟨trivial,fun hI=>(q3 hI).trans (r3 (hI.next (q3 hI)))⟩
      . simp at h
    . simp at h
theorem znh {s:CS} {d:Nat} {x:Option Lp} (hro:(zaa s.obj d).ro=false) (hI:CInv s):Can s (s.setLp d x) :=
  zp3 (x:=⟨false,[],none,x⟩) hro rfl (hI.lt hro) s.n (ei _) (fun _ p hp=>by simp at hp) rfl
theorem z9f {s:CS} {d:Nat} {x:Option Lp} (hro:(zaa s.obj d).ro=false):(zaa (s.setLp d x).obj d).ro=false:=by
  unfold CS.setLp;simp only;rw [zbs _ (zkp hro)]
theorem zuo {run:Code->Fr->CS->Option (Exit×Fr×CS)} {d:Nat} {args:List Value} {s s':CS} {v:Value} (h:zm7 run (zkx d) (.chan none :: args) s=some (v,s')) :
    ∃ L fr1 s1 e fr2 s2 st,(zaa s.obj d).lp=some L/\(zaa s.obj d).ro=false/\L.st=none/\args.length=L.ps.length/\run L.a (zqz L.fr L.ps args) (s.setLp d none).inner=some (.normal,fr1,s1)/\run L.b fr1 s1=some (e,fr2,s2) /\
      d ∉ s2.rd/\d ∉ s2.wr/\ztb e=some st/\v=.bool (match st with|none=>true|some _=>false)/\s'=((s.setLp d none).outer s2).setLp d (some { L with st:=st }):=by
  unfold zm7 at h;simp only at h;obtain ⟨_,h⟩:=zbo h;rw [show Nat.sub (zkx d) 1099511627776=d by show d+1099511627776 - 1099511627776=d;omega] at h;unfold yd1 at h;split at h
  . rename_i L hL;obtain ⟨hc,h⟩:=zbo h;rw [d8,d8] at hc;unfold yd3 at h;split at h
    . rename_i fr1 s1 h1;split at h
      . rename_i e fr2 s2 h2;obtain ⟨hd,h⟩:=zbo h;rw [d8] at hd;split at h
        . rename_i st hst;simp only [dy,ec] at h;refine ⟨L,fr1,s1,e,fr2,s2,st,hL,by simpa using hc.1,?_,eg hc.2.2,h1,h2,fun k=>?_,fun k=>?_,hst,h.1.symm,h.2.symm⟩
          . cases hq:L.st with
            |none=>rfl
            |some _=>rw [hq] at hc;simp at hc
          . rw [zp4 k] at hd;simp at hd
          . rw [zp4 k] at hd;simp at hd
        . simp at h
      . simp at h
    . simp at h
  . simp at h
theorem z27 {run:Code->Fr->CS->Option (Exit×Fr×CS)} {f:Nat} {args:List Value} {s:CS} {r:Value×CS} (h:zm7 run f args s=some r):∃ d xs,f=zkx d/\args=.chan none :: xs:=by
  unfold zm7 at h;split at h
  . obtain ⟨hb,_⟩:=zbo h;have:=zbk.1 hb;exact ⟨f - 1099511627776,_,by show f=f - 1099511627776+1099511627776;omega,rfl⟩
  . simp at h
theorem zvj {call:zc8} {gf:jx} {first caps:List Value} {ps:List Tmp} {a b:Code} {fr fr':Fr} {s s':CS} {e:Exit} (h:zs6 call gf first caps ps a b fr s=some (e,fr',s')) :
    ∃ v s2 L,zis s.obj s.n=true/\first=[]/\(∀ p,p∈ps->p<fr.nt)/\zc3 [] fr.nt a=true/\zc3 [] fr.nt b=true/\call gf (.func (.yield s.n) #[] #[] :: caps) { s with n:=s.n+1,obj:=zaw s.obj s.n ⟨false,[],none,some ⟨fr,ps,a,b,none⟩⟩ }=some (v,s2) /\
      (zaa s2.obj s.n).lp=some L/\yp6 L.st=some e/\fr'=fr/\s'=s2.setLp s.n none:=by
  unfold zs6 at h;obtain ⟨hc,h⟩:=zbo h;rw [d8,d8,d8,d8,pi] at hc;split at h
  . rename_i v s2 h1;split at h
    . rename_i L hL;split at h
      . rename_i e1 he;simp only [dy,ec] at h;obtain ⟨rfl,rfl,rfl⟩:=h;exact ⟨v,s2,L,hc.1,hc.2.1,fun p hp=>zaf.1 (fd.1 hc.2.2.1 p hp),hc.2.2.2.1,hc.2.2.2.2,h1,hL,he,rfl,rfl⟩
      . simp at h
    . simp at h
  . simp at h
theorem zya {run:Code->Fr->CS->Option (Exit×Fr×CS)} (hrun:∀ c fr s e fr' s',run c fr s=some (e,fr',s')->fr'.nt=fr.nt/\Exit.known e/\(CInv s->Can s s')):zfq (zm7 run):=by
  intro f args s v s' h hI;obtain ⟨d,xs,rfl,rfl⟩:=z27 h;obtain ⟨L,fr1,s1,e,fr2,s2,st,_,hro,_,_,h1,h2,_,_,_,_,rfl⟩:=zuo h;have k1:=znh (x:=none) hro hI;have hI1:=hI.next k1
  have k2:=(hrun _ _ _ _ _ _ h1).2.2 (ziw hI1);have k3:=(hrun _ _ _ _ _ _ h2).2.2 ((ziw hI1).next k2);have k4:=k1.trans (zlr hI1 (k2.trans k3));refine k4.trans (znh ?_ (hI.next k4));rw [k4.ro d (hI.lt hro),hro]
theorem ycw {call:zc8} (hcall:zfq call) {gf:jx} {first caps:List Value} {ps:List Tmp} {a b:Code} {fr fr':Fr} {s s':CS} {e:Exit} (h:zs6 call gf first caps ps a b fr s=some (e,fr',s')):fr'.nt=fr.nt/\Exit.known e/\(CInv s->Can s s'):=by
  obtain ⟨v,s2,L,hn,_,_,_,_,h1,hL,he,rfl,rfl⟩:=zvj h;refine ⟨rfl,?_,fun hI=>?_⟩
  . unfold yp6 at he;split at he
    . cases he;trivial
    . cases he;trivial
    . cases he;trivial
    . cases he
  . have k1:Can s { s with n:=s.n+1,obj:=zaw s.obj s.n ⟨false,[],none,some ⟨fr',ps,a,b,none⟩⟩ }:=zsg hn (fun p hp=>by simp at hp) rfl;have k2:=hcall _ _ _ _ _ h1 (hI.next k1);have k3:=k1.trans k2;refine k3.trans (znh ?_ (hI.next k3));rw [k2.ro s.n (r8 _)];show (zaa (zaw s.obj s.n _) s.n).ro=false;rw [zbs _ hn]
theorem z6c {run:Code->Fr->CS->Option (Exit×Fr×CS)} (hA:zfq (axC Γ)) (hrun:∀ c fr s e fr' s',run c fr s=some (e,fr',s')->fr'.nt=fr.nt/\Exit.known e/\(CInv s->Can s s')):zfq (zpc Γ run):=by
  intro f args s v s' h hI;unfold zpc at h;split at h
  . rename_i hx hax;exact hA f args s v s' (by unfold axC;rw [hax];exact h) hI
  split at h
  . split at h
    . split at h
      . rename_i h1;obtain ⟨_,h1⟩:=zbo h1;split at h
        . rename_i h2;simp only [dy,ec] at h;have c1:=(hrun _ _ _ _ _ _ h1).2.2 hI;rw [<- h.2];exact c1.trans (zoo h2)
        . simp at h
      . rename_i h1;obtain ⟨_,h1⟩:=zbo h1;split at h
        . rename_i h2;simp only [dy,ec] at h;have c1:=(hrun _ _ _ _ _ _ h1).2.2 hI;rw [<- h.2];exact c1.trans (zoo h2)
        . simp at h
      . simp at h
    . simp at h
  . exact zya hrun _ _ _ _ _ h hI
theorem zrv (hA:zfq (axC Γ)) (hIt:yts Γ.it):∀ (n:Nat),(∀ c fr s e fr' s',cm P Γ n c fr s=some (e,fr',s')->fr'.nt=fr.nt/\Exit.known e/\(CInv s->Can s s'))/\zfq (zeo P Γ n):=by
  intro n
  induction n with
  |zero=>exact ⟨fun c fr s e fr' s' h=>by simp [cm] at h,z6c hA fun c fr s e fr' s' h=>by simp [cm] at h⟩
  |succ n ih =>
    obtain ⟨ih1,ih2⟩:=ih
    have hcode:∀ c fr s e fr' s',cm P Γ (n+1) c fr s=some (e,fr',s')->fr'.nt=fr.nt/\Exit.known e/\(CInv s->Can s s'):=by
      intro c fr s e fr' s' h
      cases c with
      |skip=>simp only [cm,dy,ec] at h;obtain ⟨rfl,rfl,rfl⟩:=h;exact ⟨rfl,trivial,fun _=>i6 _⟩
      |label lb=>simp only [cm,dy,ec] at h;obtain ⟨rfl,rfl,rfl⟩:=h;exact ⟨rfl,trivial,fun _=>i6 _⟩
      |exit id=>simp only [cm,dy,ec] at h;obtain ⟨rfl,rfl,rfl⟩:=h;exact ⟨rfl,trivial,fun _=>i6 _⟩
      |ret=>simp only [cm,dy,ec] at h;obtain ⟨rfl,rfl,rfl⟩:=h;exact ⟨rfl,trivial,fun _=>i6 _⟩
      |region id ops draw =>
        have h' : (bif draw then match drawC P Γ (zeo P Γ n) ops.toList ops.toList fr s with
            |some (logs,fr,t)=>bif calm s.n ops.toList logs then some (mq,fr,t) else none
            |none=>none
          else match runC P Γ (zeo P Γ n) ops.toList ops.toList fr s with
            |some (fr,s)=>some (mq,fr,s)
            |none=>none)=some (e,fr',s'):=h
        cases draw with
        |true =>
          simp only [cond_true] at h';split at h'
          . rename_i hd;obtain ⟨_,h'⟩:=zgx h';simp only [dy,ec] at h';obtain ⟨rfl,rfl,rfl⟩:=h';exact ⟨ybn hd,trivial,fun hI=>ybm ih2 hI hd⟩
          . simp at h'
        |false =>
          simp only [cond_false] at h';split at h'
          . rename_i hd;simp only [dy,ec] at h';obtain ⟨rfl,rfl,rfl⟩:=h';exact ⟨yfr hd,trivial,fun hI=>z7e ih2 hI hd⟩
          . simp at h'
      |seq a b =>
        simp only [cm] at h;split at h
        . rename_i h1;obtain ⟨q1,q2,q3⟩:=ih1 _ _ _ _ _ _ h1;obtain ⟨r1,r2,r3⟩:=ih1 _ _ _ _ _ _ h;exact ⟨by rw [r1,q1],r2,fun hI=>(q3 hI).trans (r3 (hI.next (q3 hI)))⟩
        . exact ih1 _ _ _ _ _ _ h
      |cond c t e' =>
        simp only [cm] at h;split at h
        . exact ih1 _ _ _ _ _ _ h
        . simp at h
      |block id b =>
        simp only [cm] at h;split at h
        . rename_i h1;simp only [dy,ec] at h;obtain ⟨rfl,rfl,rfl⟩:=h;obtain ⟨q1,q2,q3⟩:=ih1 _ _ _ _ _ _ h1;refine ⟨q1,?_,q3⟩;have hk:∀ x:Bool,∀ i:Nat,Exit.known (bif x then mq else Exit.exit i):=fun x i=>by cases x<;>trivial
          exact hk _ _
        . exact ih1 _ _ _ _ _ _ h
      |loop b =>
        simp only [cm] at h;split at h
        . rename_i h1;obtain ⟨q1,q2,q3⟩:=ih1 _ _ _ _ _ _ h1;obtain ⟨r1,r2,r3⟩:=ih1 _ _ _ _ _ _ h;exact ⟨by rw [r1,q1],r2,fun hI=>(q3 hI).trans (r3 (hI.next (q3 hI)))⟩
        . exact ih1 _ _ _ _ _ _ h
      |scope b=>simp only [cm] at h;exact ih1 _ _ _ _ _ _ h
      |rangeFunc g ps a b =>
        rw [cm] at h;split at h
        . split at h
          . rename_i gf first caps hgv i hit
            unfold z30 at h;simp only [hit] at h;split at h
            . rename_i i' hit' hfirst;simp only [dy] at hit';subst hit';split at h
              . rename_i h1;split at h
                . rename_i h2;simp only [dy,ec] at h;obtain ⟨rfl,rfl,rfl⟩:=h;obtain ⟨t1,t2⟩:=znl ih1 (fun s k s' q hI=>(hIt _ _ hit _ _ _ _ q hI).1) _ _ _ _ h2;refine ⟨rfl,t1,fun hI=>?_⟩;have c1:=(hIt _ _ hit _ _ _ _ h1 hI).1;exact c1.trans (t2 (hI.next c1))
                . simp at h
              . simp at h
            . simp at h
          . exact ycw ih2 h
        . simp at h
      |goto lb=>simp [cm] at h
      |refuse why=>simp [cm] at h
    exact ⟨hcode,z6c hA hcode⟩
def z3y (tmps:Array Value):ResultVar->Sem Value
  |.tmp t=>pure (tmps.getD t undef)
  |.cell a t=>do loadVar t (<- asAddr (tmps.getD a undef))
theorem z7h (hE:zei P Γ) {σ:Sg} {V:Nat->Prop} {w:World} {fr:Fr} {a:Act} (hfr:FrR σ fr a):∀ {l:List ResultVar} {s s':CS} {vs:List Value},Rel σ V s w->zci V s'->CInv s->zeq σ s.n s'.n->resC Γ fr s l=some (vs,s') ->
    ∃ vs',(l.mapM (z3y a.tmps)).run P w=.ok vs' w/\RL (VR σ) vs vs'/\Rel σ V s' w/\Ext σ V s w σ s' w
  |[],s,s',vs,hr,hV,hI,hF,h=>by
    simp only [resC,dy,ec] at h;obtain ⟨rfl,rfl⟩:=h;exact ⟨[],by simp,trivial,hr,qe _ _ _ _⟩
  |.tmp t :: l,s,s',vs,hr,hV,hI,hF,h=>by
    simp only [resC] at h;split at h
    . rename_i vs1 s1 h1;simp only [dy,ec] at h;obtain ⟨rfl,rfl⟩:=h;obtain ⟨vs',e1,e2,e3,e4⟩:=z7h hE hfr hr hV hI hF h1;refine ⟨a.tmps.getD t undef :: vs',?_,⟨hfr.val t,e2⟩,e3,e4⟩;simp [List.mapM_cons,z3y,e1]
    . simp at h
  |.cell q t :: l,s,s',vs,hr,hV,hI,hF,h=>by
    simp only [resC] at h;split at h
    . rename_i ad i hq hi;split at h
      . rename_i v1 s1 h1;split at h
        . rename_i vs1 s2 h2;simp only [dy,ec] at h;obtain ⟨rfl,rfl⟩:=h;have c2:=zoo h2;have c1:=zp5 h1;have hv:=hfr.val q;rw [hq] at hv;obtain ⟨b,o,z,hσ,he⟩:=hv.ptr;obtain ⟨v',f1,f2,f3,f4⟩:=zv7 hE hr hi h1 (hV.back c2) hσ;obtain ⟨vs',e1,e2,e3,e4⟩:=z7h hE hfr f3 hV (hI.next c1) (hF.mono c1.n (ei _)) h2;refine ⟨v' :: vs',?_,⟨f2,e2⟩,e3,f4.trans e4 c1 c2 hF hr.none⟩;simp only [List.mapM_cons,ni,z3y,he,asAddr,Sem.run_pure,mc,f1,e1]
        . simp at h
      . simp at h
    . simp at h
theorem z7g (hE:zei P Γ) {σ:Sg} {V:Nat->Prop} {w:World} {fr:Fr} {a:Act} (hfr:FrR σ fr a) {fn:Func} {s s':CS} {vs:List Value} (hr:Rel σ V s w) (hV:zci V s') (hI:CInv s) (hF:zeq σ s.n s'.n) (h:resC Γ fr s fn.results.toList=some (vs,s')) :
    ∃ v',(results fn a.tmps).run P w=.ok v' w/\VR σ (tupC vs) v'/\Rel σ V s' w/\Ext σ V s w σ s' w:=by
  obtain ⟨vs',e1,e2,e3,e4⟩:=z7h hE hfr hr hV hI hF h
  have hm:(results fn a.tmps)=(do let vs <- fn.results.mapM (z3y a.tmps);pure (if h:vs.size=1 then vs[0] else .tuple vs)):=by
    unfold results;congr 1
  have hrun:(fn.results.mapM (z3y a.tmps)).run P w=.ok vs'.toArray w:=by
    rw [Array.mapM_eq_mapM_toList];simp [ni,e1]
  refine ⟨if h:vs'.toArray.size=1 then vs'.toArray[0] else .tuple vs'.toArray,?_,?_,e3,e4⟩
  . rw [hm];simp only [ni,hrun,mc,Sem.run_pure]
  . have hl:=e2.length;unfold tupC;split
    . rename_i v
      cases vs' with
      |nil=>simp at hl
      |cons v' r =>
        cases r with
        |nil=>simp;exact e2.1
        |cons _ _=>simp at hl
    . rename_i hne;rw [dif_neg]
      . exact qd ⟨_,rfl,by simpa using e2⟩
      . intro h1;simp at h1;rw [<- hl] at h1
        match vs,h1 with
        |[v],_=>exact hne v rfl
theorem zq5:∀ (l:List Value) (i:Nat) (fr:Fr),(pk l i fr).nt=fr.nt
  |[],_,_=>rfl
  |v :: l,i,fr=>by simp only [pk];rw [zq5 l (i+1),Fr.put_nt]
theorem zza:∀ (l:List Value) (i:Nat) (fr:Fr),fr.nt<=512->i+l.length<=fr.nt->∀ t,(pk l i fr).get t=if i<=t/\t<i+l.length then l.getD (t - i) undef else fr.get t
  |[],i,fr,_,_,t=>by rw [zAd (by simp)];rfl
  |v :: l,i,fr,h5,hl,t=>by
    simp only [pk];simp only [List.length_cons] at hl;rw [zza l (i+1) (fr.put i v) (by rw [Fr.put_nt];exact h5) (by rw [Fr.put_nt];omega) t];by_cases h1:t=i
    . subst h1;rw [zAd (by omega),zAc (by simp),Fr.get_put_same v (by omega) h5];simp
    . rw [Fr.get_put_other v h5 (Ne.symm h1)];by_cases h2:i+1<=t/\t<i+1+l.length
      . rw [zAc h2,zAc (by simp;omega)];rw [show t - i=(t - (i+1))+1 by omega];simp
      . rw [zAd h2,zAd (by simp;omega)]
theorem yi5 {σ:Sg} {args:List Value} {args':Array Value} {nt:Nat} (h5:nt<=512) (hl:args.length<=nt) (hr:RL (VR σ) args args'.toList):FrR σ (pk args 0 ⟨nt,Tr.all undef 9⟩) { tmps:=args'++pt (nt - args'.size) undef,defers:=[] }:=by
  have hlen:args.length=args'.size:=by rw [hr.length,io]
  refine ⟨?_,by rw [zq5];exact h5,fun t=>?_⟩
  . rw [zq5];simp;omega
  . rw [zza args 0 _ h5 (by simpa using hl) t]
    have hund:(⟨nt,Tr.all undef 9⟩:Fr).get t=undef:=by
      unfold Fr.get;rw [zcr];split
      . exact Tr.get_all _ _ _
      . rfl
    by_cases h:t<args.length
    . rw [zAc ⟨by omega,by omega⟩];obtain ⟨y,hy,hv⟩:=hr.at (ef h);have e1:args.getD (t - 0) undef=args[t]:=by simp [h]
      rw [e1]
      have e2:(args'++pt (nt - args'.size) undef).getD t undef=y:=by
        rw [ja] at hy;simp only [jl];rw [Array.getElem?_append_left (by omega),hy];rfl
      rw [e2];exact hv
    . rw [zAd (by omega),hund]
      have e2:(args'++pt (nt - args'.size) undef).getD t undef=undef:=by
        simp only [jl];rw [Array.getElem?_append_right (by omega),my];split<;>rfl
      rw [e2];exact VR.undef
end
section
variable {P:fe} {Γ:Env} {G:List Nat}
def Mk (σ:Sg) (w:World) (D:Nat):Prop:=w.heap[D]?=some (.deferred (some []))/\∀ f u o z,σ f u≠some (D,o,z)
def mark (D:Nat):Deferred:={ target:=.collected D,args:=#[] }
def zof (σ:Sg) (w:World) (B:Nat) (ds ds':List Deferred):Prop:=∃ Ds:List Nat,ds'=Ds.map mark++ds/\Ds.Nodup/\∀ D,D∈Ds->Mk σ w D/\B<=D
theorem zof.refl (σ:Sg) (w:World) (B:Nat) (ds:List Deferred):zof σ w B ds ds:=⟨[],rfl,.nil,fun _ h=>by simp at h⟩
theorem zof.of_eq {σ:Sg} {w:World} {B:Nat} {ds ds':List Deferred} (h:ds'=ds):zof σ w B ds ds':=by rw [h];exact zof.refl ..
theorem Ext.free {σ σ':Sg} {V:Nat->Prop} {s s':CS} {w w':World} (h:Ext σ V s w σ' s' w') {D:Nat} (hD:D<w.heap.size) (hf:∀ f u o z,σ f u≠some (D,o,z)):w'.heap[D]?=w.heap[D]?/\∀ f u o z,σ' f u≠some (D,o,z):=by
  refine ⟨h.frame D hD fun f u o z k=>absurd k (hf f u o z),fun f u o z k=>?_⟩
  cases h0:σ f u with
  |none =>
    obtain ⟨u0,o0,z0,h1,_⟩:=h.old f u D o z h0 k hD;exact hf _ _ _ _ h1
  |some p =>
    have:=h.le f u p h0;rw [k] at this;rw [<- qy this] at h0;exact hf _ _ _ _ h0
theorem zbj {w:World} {D:Nat} {o:Obj} (h:w.heap[D]?=some o):D<w.heap.size:=(Array.getElem?_eq_some_iff.1 h).1
theorem Mk.next {σ σ':Sg} {V:Nat->Prop} {s s':CS} {w w':World} {D:Nat} (h:Mk σ w D) (k:Ext σ V s w σ' s' w'):Mk σ' w' D:=by
  obtain ⟨h1,h2⟩:=k.free (zbj h.1) h.2;exact ⟨h1.trans h.1,h2⟩
theorem zof.trans {σ σ1:Sg} {V:Nat->Prop} {s s1:CS} {w w1:World} {B:Nat} {ds ds1 ds2:List Deferred} (h:zof σ w B ds ds1) (k:Ext σ V s w σ1 s1 w1) (h2:zof σ1 w1 w.heap.size ds1 ds2) (hB:B<=w.heap.size):zof σ1 w1 B ds ds2:=by
  obtain ⟨D1,rfl,n1,a1⟩:=h;obtain ⟨D2,rfl,n2,a2⟩:=h2;refine ⟨D2++D1,by rw [List.map_append,ey],?_,fun D hD=>?_⟩
  . rw [List.nodup_append];refine ⟨n2,n1,fun x hx y hy=>?_⟩;have:=(a2 x hx).2;have:=zbj (a1 y hy).1.1;omega
  . rcases List.mem_append.1 hD with q|q
    . exact ⟨(a2 D q).1,kh hB (a2 D q).2⟩
    . exact ⟨(a1 D q).1.next k,(a1 D q).2⟩
theorem Ext.apart {σ σ':Sg} {V:Nat->Prop} {s s':CS} {w w':World} (h:Ext σ V s w σ' s' w') {D:Nat} (hD:D<w.heap.size) (hf:∀ f u o z,σ f u=some (D,o,z)->¬ V f):w'.heap[D]?=w.heap[D]?/\∀ f u o z,σ' f u=some (D,o,z)->¬ V f:=by
  refine ⟨h.frame D hD fun f u o z k=>.inl (hf f u o z k),fun f u o z k=>?_⟩
  cases h0:σ f u with
  |none =>
    obtain ⟨u0,o0,z0,h1,_⟩:=h.old f u D o z h0 k hD;exact hf _ _ _ _ h1
  |some p =>
    have:=h.le f u p h0;rw [k] at this;rw [<- qy this] at h0;exact hf _ _ _ _ h0
def zoe (σ:Sg) (V:Nat->Prop) (w:World):Option Nat->Prop
  |none=>True
  |some l=>(∃ r0,w.heap[l]?=some (.loop r0))/\∀ f u o z,σ f u=some (l,o,z)->¬ V f
theorem zoe.next {σ σ':Sg} {V:Nat->Prop} {s s':CS} {w w':World} {r:Option Nat} (h:zoe σ V w r) (k:Ext σ V s w σ' s' w'):zoe σ' V w' r:=by
  cases r with
  |none=>trivial
  |some l =>
    obtain ⟨⟨r0,h1⟩,h2⟩:=h;obtain ⟨k1,k2⟩:=k.apart (zbj h1) h2;exact ⟨⟨r0,k1.trans h1⟩,k2⟩
def Post (V:Nat->Prop) (σ:Sg) (s:CS) (w:World) (a:Act) (e:Exit) (fr':Fr) (s':CS):Exit->Act->World->Prop :=
  fun e' a' w'=>e'=e/\∃ σ',FrR σ' fr' a'/\zof σ' w' w.heap.size a.defers a'.defers/\Rel σ' V s' w'/\Ext σ V s w σ' s' w'
def ych (P:fe) (Γ:Env) (G:List Nat) (n:Nat):Prop:=∀ c fr s e fr' s' σ V w a r kd,cm P Γ n c fr s=some (e,fr',s')->zc3 G fr.nt c=true->Rel σ V s w->zci V s'->zeq σ s.n s'.n->CInv s->zi0 G σ->FrR σ fr a->zoe σ V w r ->
  c.wpIn (zjx r) kd P (Post V σ s w a e fr' s') a w
def ypg (P:fe) (Γ:Env) (G:List Nat) (n:Nat):Prop:=∀ b fr s e fr' s' σ V w a r kd,cm P Γ n (.loop b) fr s=some (e,fr',s')->zc3 G fr.nt b=true->Rel σ V s w->zci V s'->zeq σ s.n s'.n->CInv s->zi0 G σ->FrR σ fr a->zoe σ V w r ->
  Code.roundsIn (zjx r) kd P b (Post V σ s w a e fr' s') n a w
theorem Post.chain {V:Nat->Prop} {σ σ1:Sg} {s s1 s':CS} {w w1:World} {a a1:Act} {e:Exit} {fr':Fr} (he:Ext σ V s w σ1 s1 w1) (hd:zof σ1 w1 w.heap.size a.defers a1.defers) (c1:Can s s1) (c2:Can s1 s') (hF:zeq σ s.n s'.n) (hn:∀ f,s.n<=f->zaa s.obj f=zd4) {x:Exit} {a2:Act} {w2:World}
    (h:Post V σ1 s1 w1 a1 e fr' s' x a2 w2):Post V σ s w a e fr' s' x a2 w2:=by
  obtain ⟨rfl,σ2,h1,h2,h3,h4⟩:=h;exact ⟨rfl,σ2,h1,hd.trans h4 h2 he.size,h3,he.trans h4 c1 c2 hF hn⟩
theorem Rel.to {σ:Sg} {V:Nat->Prop} {s:CS} {w w':World} (h:Rel σ V s w) (hs:w.heap.size<=w'.heap.size) (hb:∀ f u b o z,σ f u=some (b,o,z)->w'.heap[b]?=w.heap[b]?):Rel σ V s w' :=
  ⟨h.inj,fun f u b o z k=>fh (h.lt f u b o z k) hs,fun f hf=>(h.fam f hf).move (fun _ _ _ k=>k) (fun _ _=>rfl) fun u b o z k=>hb f u b o z k,h.none,h.vers⟩
theorem Rel.state {σ:Sg} {V:Nat->Prop} {s s1:CS} {w:World} (h:Rel σ V s w) (ho:s1.obj=s.obj) (hn:s1.n=s.n):Rel σ V s1 w :=
  ⟨h.inj,h.lt,fun f hf=>by rw [ho];exact h.fam f hf,fun f hf=>by rw [ho];exact h.none f (by rw [<- hn];exact hf),fun f p hp=>by rw [hn];rw [ho] at hp;exact h.vers f p hp⟩
theorem Ext.to {σ σ':Sg} {V:Nat->Prop} {s s':CS} {w w' w2:World} (h:Ext σ V s w σ' s' w') (hs:w'.heap.size<=w2.heap.size) (hb:∀ b,b<w.heap.size->w2.heap[b]?=w'.heap[b]?) (hst:Same w' w2):Ext σ V s w σ' s' w2 :=
  ⟨h.le,h.new,h.old,kh h.size hs,fun b k1 k2=>(hb b k1).trans (h.frame b k1 k2),h.st.trans hst⟩
theorem Ext.state {σ σ':Sg} {V:Nat->Prop} {s s' s2:CS} {w w':World} (h:Ext σ V s w σ' s' w') (hn:s2.n=s'.n):Ext σ V s w σ' s2 w' :=
  ⟨h.le,fun f u k1 k2=>by rw [hn];exact h.new f u k1 k2,h.old,h.size,h.frame,h.st⟩
theorem z93 (w:World) (D:Nat) (o:Obj):Same w (w.putObj D o):=⟨rfl,rfl,rfl⟩
theorem Rel.putObj {σ:Sg} {V:Nat->Prop} {s:CS} {w:World} (h:Rel σ V s w) {D:Nat} (o:Obj) (hf:∀ f u o z,σ f u≠some (D,o,z)):Rel σ V s (w.putObj D o) :=
  h.to (jm mr.symm) fun f u b o' z k=>il fun e=>by subst e;exact hf _ _ _ _ k
theorem Ext.putObj {σ σ':Sg} {V:Nat->Prop} {s s':CS} {w w':World} (h:Ext σ V s w σ' s' w') {D:Nat} (o:Obj) (hD:w.heap.size<=D):Ext σ V s w σ' s' (w'.putObj D o) :=
  h.to (jm mr.symm) (fun b hb=>il (by omega)) (z93 _ _ _)
theorem zv9 {fn:Func} {tmps:Array Value} {R:Ending->World->Prop} {σ:Sg} {V:Nat->Prop} {s:CS} {σ0:Sg} {s0:CS} {w0:World}:∀ (Ds:List Nat) (w:World),Ds.Nodup->(∀ D,D∈Ds->Mk σ w D/\w0.heap.size<=D)->Rel σ V s w->Ext σ0 V s0 w0 σ s w ->
    (∀ w',Rel σ V s w'->Ext σ0 V s0 w0 σ s w'->∃ v,(results fn tmps).run P w'=.ok v w'/\R (.returned v) w')->LeavesInM (zjx none) 0 P fn tmps R (Ds.map mark) .returning w
  |[],w,_,_,hr,he,h=>h w hr he
  |D :: Ds,w,hn,hm,hr,he,h=>by
    obtain ⟨⟨m1,m2⟩,m3⟩:=hm D (.head _);refine ⟨by simp,.inl ⟨D,_,rfl,run_takeDeferred m1,?_⟩⟩;have hn':=List.nodup_cons.1 hn;refine zv9 Ds _ hn'.2 (fun D' hD'=>?_) (hr.putObj _ m2) (he.putObj _ m3) h;obtain ⟨⟨k1,k2⟩,k3⟩:=hm D' (.tail _ hD');have hne:D'≠D:=by rintro rfl;exact hn'.1 hD'
    exact ⟨⟨(il hne).trans k1,k2⟩,k3⟩
theorem yia {L:List Nat} {ax:Axs} (hL:zj8 P G L=true) {f:Nat} {fn:Func} (h:(zeh P L ax).fn.at f=some fn):ya3 G fn=true/\P.funcs[f]?=some fn:=by
  have h1:=Tab.at_mk _ _ _ h;rw [zcr] at h1;split at h1
  . rename_i hf;refine ⟨?_,h1⟩;unfold zj8 at hL;have:=fd.1 hL f (z19 hf);rw [h1] at this;exact this
  . simp at h1
def Now (i:It) (caps':Array Value) (k:List Nat) (W:World):Prop:=∃ σ V s s1 caps,RL (VR σ) caps caps'.toList/\Rel σ V s W/\zci V s1/\CInv s/\i.key caps s=some (k,s1)
structure ItOk (P:fe) (gf:Nat) (i:It):Prop where
  can:∀ caps s k s',i.key caps s=some (k,s')->CInv s->Can s s'/\s'.obj=s.obj/\s'.n=s.n
  plain:∀ k x,x∈i.xs k->∀ σ,RL (VR σ) x x
  enter:∀ args w,(callFunc gf args).run P w=.ok (.enter gf args) w
  runs:∀ (caps':Array Value) (k:List Nat) (kd l:Nat) (J:List (Nat×Obj)->Nat->World->Prop) (Jx:World->Prop) (W:World),
    (∀ K j W1,J K j W1->Now i caps' k W1)->(∀ K j W1 W2,J K j W1->Below W1.heap.size W1 W2->J K j W2)->(∀ W1 W2,Jx W1->Below W1.heap.size W1 W2->Jx W2) ->
    (∀ K j W1 W2 b o,J K j W1->Below W1.heap.size W1 W2->W1.heap.size<=b->W2.heap[b]?=some o->J ((b,o) :: K) j W2)->(∀ K j W1 b o,J K j W1->(b,o)∈K->W1.heap[b]?=some o) ->
    (∀ kd' K j x W1,(i.xs k)[j]?=some x->J K j W1->YieldAt mv kd' P l x.toArray W1 fun e W'=>(e=.returned (.bool true)/\J K (j+1) W')\/(e=.returned (.bool false)/\Jx W')) ->
    J [] 0 W->CallsIn mv kd P gf (#[.func (.yield l) #[] #[]]++caps') W fun e W'=>(∃ v,e=.returned v)/\((∃ K,J K (i.xs k).length W')\/Jx W')
def z6r (P:fe) (L:List Nat):Prop:=∀ gf i,yhm P L gf=some i->ItOk P gf i
theorem z6r.can {L:List Nat} (h:z6r P L):yts (yhm P L):=fun f i hi caps s k s' hk hI=>(h f i hi).can caps s k s' hk hI
theorem z3o:∀ {l m:List Nat},zy0 l m=true->m=l
  |[],[],_=>rfl
  |a :: l,b :: m,h=>by
    simp only [zy0,d8] at h;rw [z3o h.2,eg h.1]
  |[],_ :: _,h=>by simp [zy0] at h
  |_ :: _,[],h=>by simp [zy0] at h
theorem zsc {σ:Sg}:∀ (ps:List Tmp) (x y:List Value) (fr:Fr) (tmps:Array Value),FrR σ fr { tmps:=tmps,defers:=[] }->(∀ p,p∈ps->p<fr.nt)->RL (VR σ) x y ->
    FrR σ (zqz fr ps x) { tmps:=(ps.zip y).foldl (fun t (p,v)=>t.setIfInBounds p v) tmps,defers:=[] }
  |[],x,y,fr,tmps,h,_,_=>h
  |p :: ps,[],[],fr,tmps,h,_,_=>h
  |p :: ps,[],_ :: _,fr,tmps,h,_,hx=>hx.elim
  |p :: ps,_ :: _,[],fr,tmps,h,_,hx=>hx.elim
  |p :: ps,v :: x,v' :: y,fr,tmps,h,hp,hx=>by
    have h1:=h.put (v:=v) (v':=v') hx.1 (d:=some p) fun t ht=>by rw [<- qy ht];exact hp p (.head _)
    exact zsc ps x y (fr.put p v) (tmps.setIfInBounds p v') h1 (fun q hq=>by rw [Fr.put_nt];exact hp q (.tail _ hq)) hx.2
theorem FrR.act {σ:Sg} {fr:Fr} {a a':Act} (h:FrR σ fr a) (ht:a'.tmps=a.tmps):FrR σ fr a':=⟨by rw [ht];exact h.size,h.small,fun t=>by rw [ht];exact h.val t⟩
theorem z0b {σ:Sg} {V:Nat->Prop} {w:World} {r:Option Nat} (hr:zoe σ V w r) (fn:jx) (tmps:Array Value) (ps:Array Tmp) (a b:Code) :
    ∃ (L:Nat) (Ds:List Nat) (W:World) (rec:Loop),(Instr.enterLoop fn tmps ps a b r).run P w=.ok (L,Ds.map mark) W/\Below w.heap.size w W/\w.heap.size<=L/\W.heap[L]?=some (.loop rec) /\
      (rec.state=.ready/\rec.pending=none/\rec.fn=fn/\rec.tmps=tmps/\rec.params=ps/\rec.assign=a/\rec.body=b)/\Ds.Nodup/\∀ D,D∈Ds->w.heap.size<=D/\D≠L/\W.heap[D]?=some (.deferred (some [])):=by
  cases r with
  |none =>
    have hA:=World.alloc_heap_new (w.alloc (.deferred (some []))) (.loop { state:=.ready,pending:=none,fn:=fn,tmps:=tmps,params:=ps,assign:=a,body:=b,defers:=w.heap.size });rw [World.size_alloc] at hA
    have hD:((w.alloc (.deferred (some []))).alloc (.loop { state:=.ready,pending:=none,fn:=fn,tmps:=tmps,params:=ps,assign:=a,body:=b,defers:=w.heap.size })).heap[w.heap.size]?=some (.deferred (some [])) :=
      (Below.heap_alloc _ _ _ (by simp)).trans (World.alloc_heap_new w _)
    refine ⟨w.heap.size+1,[w.heap.size],_,_,run_enterLoop_outer _ _ _ _ _,((Below.refl _ w).alloc (ei _) _).alloc (by simp) _,by omega,hA,⟨rfl,rfl,rfl,rfl,rfl,rfl,rfl⟩,by simp,fun D hD'=>?_⟩;rw [List.mem_singleton] at hD';subst hD';exact ⟨ei _,by omega,hD⟩
  |some l =>
    obtain ⟨⟨r0,h0⟩,_⟩:=hr;refine ⟨w.heap.size,[],_,_,run_enterLoop_inner h0 _ _ _ _ _,(Below.refl _ w).alloc (ei _) _,ei _,World.alloc_heap_new w _,⟨rfl,rfl,rfl,rfl,rfl,rfl,rfl⟩,.nil,fun D hD=>by simp at hD⟩
set_option maxHeartbeats 1000000 in
theorem ykq {Γ:Env} {n:Nat} {L0:List Nat} (hA:zfq (axC Γ)) (hIt:z6r P L0) (hΓ:Γ.it=yhm P L0) (hc:ych P Γ G n) {g:ep} {ps:Array Tmp} {x y:Code} {fr fr':Fr} {s s':CS} {e:Exit} {σ:Sg} {V:Nat->Prop} {w:World} {a:Act} {r:Option Nat} {kd:Nat}
    (h:z30 (cm P Γ n) Γ.it (zgp fr g) ps.toList x y fr s=some (e,fr',s')) (hg:zgt G g=true) (hps:∀ p,p∈ps.toList->p<fr.nt) (hx:zc3 G fr.nt x=true) (hy:zc3 G fr.nt y=true)
    (hr:Rel σ V s w) (hV:zci V s') (hF:zeq σ s.n s'.n) (hI:CInv s) (hG:zi0 G σ) (hfr:FrR σ fr a) (hR:zoe σ V w r):(Code.rangeFunc g ps x y).wpIn (zjx r) kd P (Post V σ s w a e fr' s') a w:=by
  have hfacts:=(zrv (P:=P) (Γ:=Γ) hA (by rw [hΓ];exact hIt.can) n).1;have hv:VR σ (zgp fr g) (a.eval g):=zrp hG hg fun t _=>hfr.val t;unfold z30 at h;split at h
  . rename_i gf first caps hgv
    split at h
    . rename_i i hit hfirst;rw [hΓ] at hit;have hi:=hIt gf i hit;split at h
      . rename_i k s1 hk;split at h
        . rename_i e1 s2 hrounds;simp only [dy,ec] at h;obtain ⟨rfl,rfl,rfl⟩:=h;rw [hgv] at hv;obtain ⟨fn',first',caps',hav,hfn',hf1,hf2⟩:=hv.out;obtain rfl:=FnR.func hfn'
          have hfe:first'=#[]:=by
            rw [hfirst] at hf1
            cases hq:first'.toList with
            |nil=>exact Array.toList_eq_nil_iff.1 hq
            |cons _ _=>rw [hq] at hf1;exact absurd hf1 (by simp [RL])
          subst hfe;obtain ⟨c1,o1,n1⟩:=hi.can _ _ _ _ hk hI;have hrf:=fun xs t e t'=>znl (run:=cm P Γ n) (key:=i.key caps.toList) (k0:=k) (ps:=ps.toList) (a:=x) (b:=y) (fr:=fr) hfacts (fun s k s' q hI=>(hi.can _ _ _ _ q hI).1) xs t e t';refine wpIn_rangeFunc ?_;intro fn hfn;obtain ⟨L,Ds,W,rec,he,hb,hL,hWL,⟨hr1,hr2,hr3,hr4,hr5,hr6,hr7⟩,hnd,hDs⟩:=z0b (P:=P) hR fn a.tmps ps x y;have hLW:=zbj hWL;have hfreeL:∀ f u o z,σ f u≠some (L,o,z):=fun f u o z q=>by have:=hr.lt f u L o z q;omega
          have hfreeD:∀ D,w.heap.size<=D->∀ f u o z,σ f u≠some (D,o,z):=fun D hD f u o z q=>by have:=hr.lt f u D o z q;omega
          refine ⟨L,Ds.map mark,W,{ target:=.fn (.func gf) caps',args:=#[.func (.yield L) #[] #[]] },W,gf,#[.func (.yield L) #[] #[]]++caps',W,he,?_,fun _ _=>trivial,?_,fun hd=>absurd hd (by simp [zjx,mv]),?_⟩
          . simp only [resolve,hav];simp [go_sem]
          . simp [invoke,go_sem,hi.enter]
          -- between two rounds
          let J:List (Nat×Obj)->Nat->World->Prop:=fun K j W1=>∃ σ1 t sj,i.key caps.toList t=some (k,sj)/\CInv t/\Can s sj/\zi1 (cm P Γ n) (i.key caps.toList) k ps.toList x y fr ((i.xs k).drop j) sj=some (e1,s2)/\Rel σ1 V t W1/\Rel σ1 V sj W1/\Ext σ V s w σ1 sj W1/\W1.heap[L]?=some (.loop rec)/\(∀ f u o z,σ1 f u≠some (L,o,z))/\(∀ D,D∈Ds->Mk σ1 W1 D)/\∀ p,p∈K->W1.heap[p.1]?=some p.2/\p.1≠L/\∀ f u o z,σ1 f u≠some (p.1,o,z)
          let Jx:World->Prop:=fun W1=>∃ σ1 c,z4y e1=some c/\Rel σ1 V s2 W1/\Ext σ V s w σ1 s2 W1/\W1.heap[L]?=some (.loop { rec with state:=.done,pending:=some c })/\(∀ f u o z,σ1 f u≠some (L,o,z))/\∀ D,D∈Ds->Mk σ1 W1 D
          have hMkb:∀ {σ1 W1 W2 D},Mk σ1 W1 D->Below W1.heap.size W1 W2->Mk σ1 W2 D:=fun h b=>⟨(b.block _ (zbj h.1)).trans h.1,h.2⟩;have hExb:∀ {σ1 sj W1 W2},Ext σ V s w σ1 sj W1->Below W1.heap.size W1 W2->Ext σ V s w σ1 sj W2:=fun h b=>h.to b.size (fun q hq=>b.block q (fh hq h.size)) ⟨b.os,b.tape,b.output⟩;have hRb:∀ {σ1 sj W1 W2},Rel σ1 V sj W1->Below W1.heap.size W1 W2->Rel σ1 V sj W2:=fun h b=>h.to b.size fun f u q o z hq=>b.block q (h.lt f u q o z hq);have hcall:=hi.runs caps' k (kd - 1) L J Jx W ?_ ?_ ?_ ?_ ?_ ?_ ?_
          . show CallsIn mv (kd - 1) P gf _ W _;refine hcall.mono ?_;rintro q W1 ⟨⟨v,rfl⟩,⟨K,hJ⟩|hJ⟩
            . obtain ⟨σ1,t,sj,j1,j2,j3,j4,j5,j6,j7,j8,j9,j10,_⟩:=hJ;rw [List.drop_of_length_le (ei _)] at j4;simp only [zi1,dy,ec] at j4;obtain ⟨rfl,rfl⟩:=j4;refine ⟨none,W1.putObj L (.loop { rec with state:=.exhausted }),?_,⟨rfl,σ1,(hfr.up j7.le).act rfl,⟨Ds,rfl,hnd,fun D hD=>?_⟩,j6.putObj _ j9,j7.putObj _ hL⟩⟩
              . have:=run_endLoop (P:=P) j8 (by rw [hr1];simp);exact this.trans (by rw [hr2])
              . obtain ⟨d1,d2,_⟩:=hDs D hD;exact ⟨⟨(il d2).trans (j10 D hD).1,(j10 D hD).2⟩,d1⟩
            . obtain ⟨σ1,c,j1,j2,j3,j4,j5,j6⟩:=hJ;refine ⟨some c,_,run_endLoop (P:=P) j4 (by simp),?_⟩
              have hq:Post V σ s w a e1 fr s2 e1 { a with defers:=Ds.map mark++a.defers } (W1.putObj L (.loop { rec with state:=.exhausted,pending:=some c })):=by
                refine ⟨rfl,σ1,(hfr.up j3.le).act rfl,⟨Ds,rfl,hnd,fun D hD=>?_⟩,j2.putObj _ j5,j3.putObj _ hL⟩;obtain ⟨d1,d2,_⟩:=hDs D hD;exact ⟨⟨(il d2).trans (j6 D hD).1,(j6 D hD).2⟩,d1⟩
              cases e1 with
              |ret=>cases j1;exact wpIn_ret hq
              |exit id=>cases j1;exact wpIn_exit hq
              |normal=>cases j1
              |goto lb=>cases j1
              |panic ch=>cases j1
              |outgrown=>cases j1
          . -- the iterator reads as it did
            rintro K j W1 ⟨σ1,t,sj,j1,j2,j3,j4,j5,j6,j7,_⟩;refine ⟨σ1,V,t,sj,caps.toList,hf2.up j7.le,j5,hV.back ?_,j2,j1⟩;exact (hrf _ _ _ _ j4).2 (j2.next (hi.can _ _ _ _ j1 j2).1)
          . rintro K j W1 W2 ⟨σ1,t,sj,j1,j2,j3,j4,j5,j6,j7,j8,j9,j10,j11⟩ b;exact ⟨σ1,t,sj,j1,j2,j3,j4,hRb j5 b,hRb j6 b,hExb j7 b,(b.block _ (zbj j8)).trans j8,j9,fun D hD=>hMkb (j10 D hD) b,fun p hp=>⟨(b.block _ (zbj (j11 p hp).1)).trans (j11 p hp).1,(j11 p hp).2⟩⟩
          . rintro W1 W2 ⟨σ1,c,j1,j2,j3,j4,j5,j6⟩ b;exact ⟨σ1,c,j1,hRb j2 b,hExb j3 b,(b.block _ (zbj j4)).trans j4,j5,fun D hD=>hMkb (j6 D hD) b⟩
          . -- a new row is kept
            rintro K j W1 W2 nb no ⟨σ1,t,sj,j1,j2,j3,j4,j5,j6,j7,j8,j9,j10,j11⟩ b hnb hno;refine ⟨σ1,t,sj,j1,j2,j3,j4,hRb j5 b,hRb j6 b,hExb j7 b,(b.block _ (zbj j8)).trans j8,j9,fun D hD=>hMkb (j10 D hD) b,fun p hp=>?_⟩;rcases ic.1 hp with rfl|hp
            . have hl8:=zbj j8;exact ⟨hno,fun e=>by have:nb=L:=e;omega,fun f u o z q=>by have:=j5.lt f u nb o z q;omega⟩
            . exact ⟨(b.block _ (zbj (j11 p hp).1)).trans (j11 p hp).1,(j11 p hp).2⟩
          . rintro K j W1 nb no ⟨σ1,t,sj,j1,j2,j3,j4,j5,j6,j7,j8,j9,j10,j11⟩ hp;exact (j11 _ hp).1
          . -- one round
            rintro kd' K j xv W1 hxj ⟨σ1,t,sj,j1,j2,j3,j4,j5,j6,j7,j8,j9,j10,j11⟩;have hlt:=(et.1 hxj).1;have hxe:=(et.1 hxj).2;rw [List.drop_eq_getElem_cons hlt,hxe,zi1] at j4;obtain ⟨hlen,j4⟩:=zbo j4;have hlen:=eg hlen;have hpl:=hi.plain k xv (ij hxj);have ct:=(hi.can _ _ _ _ j1 j2).1;have hIj:=j2.next ct
            -- the assignments
            split at j4
            . rename_i fr1 t1 h1;obtain ⟨q1,_,q3⟩:=hfacts _ _ _ _ _ _ h1;have d1:=q3 hIj
              -- the body
              have hbody:∃ eb fr2 t2,cm P Γ n y fr1 t1=some (eb,fr2,t2)/\((eb=.normal/\∃ t3,i.key caps.toList t2=some (k,t3)/\zi1 (cm P Γ n) (i.key caps.toList) k ps.toList x y fr ((i.xs k).drop (j+1)) t3=some (e1,s2))\/(eb=e1/\t2=s2/\∃ c,z4y e1=some c)):=by
                split at j4
                . rename_i fr2 t2 h2;split at j4
                  . rename_i k1 t3 h3;obtain ⟨hsame,j4⟩:=zbo j4;rw [z3o hsame] at h3;exact ⟨_,_,_,h2,.inl ⟨rfl,t3,h3,j4⟩⟩
                  . simp at j4
                . rename_i fr2 t2 h2;simp only [dy,ec] at j4;obtain ⟨rfl,rfl⟩:=j4;exact ⟨_,_,_,h2,.inr ⟨rfl,rfl,_,rfl⟩⟩
                . rename_i id fr2 t2 h2;simp only [dy,ec] at j4;obtain ⟨rfl,rfl⟩:=j4;exact ⟨_,_,_,h2,.inr ⟨rfl,rfl,_,rfl⟩⟩
                . simp at j4
              obtain ⟨eb,fr2,t2,h2,hend⟩:=hbody;obtain ⟨p1,_,p3⟩:=hfacts _ _ _ _ _ _ h2;have d2:=p3 (hIj.next d1)
              have d3:Can t2 s2:=by
                rcases hend with ⟨_,t3,h3,h4⟩|⟨_,rfl,_⟩
                . have cc:=(hi.can _ _ _ _ h3 ((hIj.next d1).next d2)).1;exact cc.trans ((hrf _ _ _ _ h4).2 (((hIj.next d1).next d2).next cc))
                . exact i6 _
              have hFj:zeq σ1 sj.n s2.n:=hF.next j7 j3
              refine ⟨rec.fn,_,rec.assign,rec.body,run_yield j8 (by rw [hr5];simpa using hlen),roundIn_of_wpIn trivial ?_⟩;rw [hr4,hr5,hr6,hr7]
              have htm:((ps.zip xv.toArray).foldl (fun tmps (t,a)=>tmps.setIfInBounds t a) a.tmps)=(ps.toList.zip xv).foldl (fun t (p,v)=>t.setIfInBounds p v) a.tmps:=by
                rw [<- Array.foldl_toList,Array.toList_zip]
              rw [htm];have hfr1:FrR σ1 (zqz fr ps.toList xv) { tmps:=(ps.toList.zip xv).foldl (fun t (p,v)=>t.setIfInBounds p v) a.tmps,defers:=[] }:=zsc ps.toList xv xv fr a.tmps ((hfr.up j7.le).act rfl) hps (hpl σ1);refine jy ?_ (hc x (zqz fr ps.toList xv) sj _ fr1 t1 σ1 V W1 _ (some L) kd' h1 (by rw [zno];exact hx) j6 (hV.back (d2.trans d3)) (hFj.mono (ei _) (d2.trans d3).n) hIj (hG.up j7.le) hfr1 ⟨⟨rec,j8⟩,fun f u o z q=>absurd q (j9 f u o z)⟩);rintro ea a3 W3 ⟨rfl,σ2,k1,_,k3,k4⟩;obtain ⟨f1,f2⟩:=k4.free (zbj j8) j9;have hl3:=f1.trans j8;refine ⟨_,run_beginRound hl3 hr1,?_⟩;have hE3:Ext σ V s w σ2 t1 W3:=j7.trans k4 j3 d1 (hF.mono (ei _) (d2.trans d3).n) hI.none;have hE4:Ext σ V s w σ2 t1 (W3.putObj L (.loop { rec with state:=.busy })):=hE3.putObj _ hL;have hl4:(W3.putObj L (.loop { rec with state:=.busy })).heap[L]?=some (.loop { rec with state:=.busy }):=mg (zbj hl3);have hm4:∀ D,D∈Ds->Mk σ2 (W3.putObj L (.loop { rec with state:=.busy })) D:=fun D hD=>⟨(il (hDs D hD).2.1).trans ((j10 D hD).next k4).1,((j10 D hD).next k4).2⟩;have hFt:zeq σ2 t1.n s2.n:=hF.next hE3 (j3.trans d1)
              refine jy ?_ (hc y fr1 t1 eb fr2 t2 σ2 V _ a3 (some L) kd' h2 (by rw [q1,zno];exact hy) (k3.putObj _ f2) (hV.back d3) (hFt.mono (ei _) d3.n) (hIj.next d1) (hG.up hE3.le) k1 ⟨⟨_,hl4⟩,fun f u o z q=>absurd q (f2 f u o z)⟩);rintro e5 a5 W5 ⟨rfl,σ3,l1,_,l3,l4⟩;obtain ⟨g1,g2⟩:=l4.free (zbj hl4) f2;have hl5:=g1.trans hl4;have hE5:Ext σ V s w σ3 t2 W5:=hE4.trans l4 (j3.trans d1) d2 (hF.mono (ei _) d3.n) hI.none;have hm5:∀ D,D∈Ds->Mk σ3 W5 D:=fun D hD=>(hm4 D hD).next l4
              rcases hend with ⟨rfl,t3,h3,h4⟩|⟨rfl,rfl,c,hcj⟩
              . refine ⟨_,_,run_endRound none hl5,.inl ⟨rfl,?_⟩⟩
                have hrec:({ { rec with state:=.busy } with state:=.ready,pending:=none }:Loop)=rec:=by
                  cases rec;simp only at hr1 hr2;rw [hr1,hr2]
                obtain ⟨cc,oo,nn⟩:=hi.can _ _ _ _ h3 ((hIj.next d1).next d2);show J K (j+1) (W5.putObj L (.loop ({ { rec with state:=.busy } with state:=.ready,pending:=none }:Loop)));rw [hrec];refine ⟨σ3,t2,t3,h3,(hIj.next d1).next d2,(j3.trans (d1.trans d2)).trans cc,h4,l3.putObj _ g2,(l3.putObj _ g2).state oo nn,(hE5.putObj _ hL).state nn,mg (zbj hl5),g2,fun D hD=>?_,fun p hp=>?_⟩
                . exact ⟨(il (hDs D hD).2.1).trans (hm5 D hD).1,(hm5 D hD).2⟩
                . obtain ⟨q1,q2,q3⟩:=j11 p hp;obtain ⟨u1,u2⟩:=k4.free (zbj q1) q3;have u3:=(il (o:=.loop { rec with state:=.busy }) (w:=W3) q2).trans (u1.trans q1);obtain ⟨v1,v2⟩:=l4.free (zbj u3) u2;exact ⟨(il q2).trans (v1.trans u3),q2,v2⟩
              . have hfin:∀ c',z4y e5=some c'->Jx (W5.putObj L (.loop ({ { rec with state:=.busy } with state:=.done,pending:=some c' }:Loop))):=fun c' hc' =>
                  ⟨σ3,c',hc',l3.putObj _ g2,hE5.putObj _ hL,mg (zbj hl5),g2,fun D hD=>⟨(il (hDs D hD).2.1).trans (hm5 D hD).1,(hm5 D hD).2⟩⟩
                cases e5 with
                |ret=>exact ⟨_,_,run_endRound (some .ret) hl5,.inr ⟨rfl,hfin _ rfl⟩⟩
                |exit id=>exact ⟨_,_,run_endRound (some (.exit id)) hl5,.inr ⟨rfl,hfin _ rfl⟩⟩
                |normal=>cases hcj
                |goto lb=>cases hcj
                |panic ch=>cases hcj
                |outgrown=>cases hcj
            . simp at j4
          . -- at the beginning
            refine ⟨σ,s,s1,hk,hI,c1,hrounds,hRb hr ?_,(hRb hr ?_).state o1 n1,(Ext.state (hExb (qe σ V s w) hb) n1),hWL,hfreeL,fun D hD=>?_,fun p hp=>absurd hp (by simp)⟩
            . exact hb
            . exact hb
            . exact ⟨(hDs D hD).2.2,hfreeD D (hDs D hD).1⟩
        . simp at h
      . simp at h
    . simp at h
  . simp at h
theorem znp {G:List Nat} {x:ep} (h:zgt [] x=true):zgt G x=true:=by
  cases x with
  |global g=>simp [zgt,has] at h
  |_=>exact h
theorem ygo {G:List Nat} {nt:Nat} {o:Oper} (h:zko [] nt o=true):zko G nt o=true:=by
  unfold zko at h ⊢;rw [d8] at h ⊢;exact ⟨fd.2 fun x hx=>znp (fd.1 h.1 x hx),h.2⟩
theorem zga {G:List Nat} {nt:Nat}:∀ {c:Code},zc3 [] nt c=true->zc3 G nt c=true
  |.region _ ops draw,h=>by
    simp only [zc3,d8] at h ⊢;exact ⟨fd.2 fun x hx=>ygo (fd.1 h.1 x hx),h.2⟩
  |.seq a b,h=>by simp only [zc3,d8] at h ⊢;exact ⟨zga h.1,zga h.2⟩
  |.cond c a b,h=>by simp only [zc3,d8] at h ⊢;exact ⟨⟨znp h.1.1,zga h.1.2⟩,zga h.2⟩
  |.block _ b,h=>by simp only [zc3] at h ⊢;exact zga h
  |.loop b,h=>by simp only [zc3] at h ⊢;exact zga h
  |.scope b,h=>by simp only [zc3] at h ⊢;exact zga h
  |.rangeFunc g ps a b,h=>by simp only [zc3,d8] at h ⊢;exact ⟨⟨⟨znp h.1.1.1,h.1.1.2⟩,zga h.1.2⟩,zga h.2⟩
  |.skip,_=>rfl
  |.label _,_=>rfl
  |.exit _,_=>rfl
  |.ret,_=>rfl
  |.goto _,_=>rfl
  |.refuse _,_=>rfl
theorem Rel.putApart {σ:Sg} {V:Nat->Prop} {s:CS} {w:World} (h:Rel σ V s w) {D:Nat} (o:Obj) (hf:∀ f u o z,σ f u=some (D,o,z)->¬ V f):Rel σ V s (w.putObj D o) :=
  ⟨h.inj,fun f u b o' z k=>by rw [mr];exact h.lt f u b o' z k,fun f hV=>(h.fam f hV).move (fun _ _ _ k=>k) (fun _ _=>rfl) fun u b o' z k=>il fun e=>by subst e;exact hf _ _ _ _ k hV,h.none,h.vers⟩
theorem Ext.widen {σ σ':Sg} {V V':Nat->Prop} {s s':CS} {w w':World} (h:Ext σ V' s w σ' s' w') (hv:∀ f,V' f->V f):Ext σ V s w σ' s' w' :=
  ⟨h.le,fun f u a b=>let ⟨x,y,z,q⟩:=h.new f u a b;⟨x,y,z,q.imp id (hv f)⟩,fun f u b o z k1 k2 k3=>let ⟨u0,o0,z0,a,b,c⟩:=h.old f u b o z k1 k2 k3;⟨u0,o0,z0,a,hv _ b,c⟩,h.size,
    fun b hb hq=>h.frame b hb fun f u o z k=>(hq f u o z k).imp (fun n v=>n (hv f v)) id,h.st⟩
theorem Ext.putSeen {σ σ':Sg} {V:Nat->Prop} {s s':CS} {w w':World} (h:Ext σ V s w σ' s' w') {D:Nat} (o:Obj) (hp:∃ f u o z,σ f u=some (D,o,z)/\V f/\(zaa s.obj f).ro=false):Ext σ V s w σ' s' (w'.putObj D o) :=
  ⟨h.le,h.new,h.old,kh h.size (jm mr.symm),fun b hb hq=>by
    obtain ⟨f,u,o1,z,p1,p2,p3⟩:=hp;refine Eq.trans (il fun e=>?_) (h.frame b hb hq);subst e;rcases hq f u o1 z p1 with q|q
    . exact q p2
    . rw [p3] at q;simp at q,h.st.trans (z93 _ _ _)⟩
theorem Ext.from {σ σ':Sg} {V:Nat->Prop} {s s1 s' s2:CS} {w w':World} (h:Ext σ V s1 w σ' s2 w') (hn:s1.n=s.n) (hro:∀ f,(zaa s1.obj f).ro=(zaa s.obj f).ro) (hn2:s'.n=s2.n):Ext σ V s w σ' s' w' :=
  ⟨h.le,fun f u a b=>by rw [<- hn,hn2];exact h.new f u a b,fun f u b o z k1 k2 k3=>let ⟨u0,o0,z0,a,b,c⟩:=h.old f u b o z k1 k2 k3;⟨u0,o0,z0,a,b,by rw [<- hro];exact c⟩,h.size,
    fun b hb hq=>h.frame b hb fun f u o z k=>by rw [hro];exact hq f u o z k,h.st⟩
theorem yfc {s:CS} {d:Nat} {x:Option Lp} (hro:(zaa s.obj d).ro=false) (f:Nat):(zaa (s.setLp d x).obj f).ro=(zaa s.obj f).ro:=by
  show (zaa (zaw s.obj d _) f).ro=_;by_cases h:d=f
  . subst h;rw [zbs _ (zkp hro),hro]
  . rw [zav _ (zkp hro) h]
set_option maxHeartbeats 1000000 in
theorem ykc {n:Nat} (hfacts:∀ c fr s e fr' s',cm P Γ n c fr s=some (e,fr',s')->fr'.nt=fr.nt/\Exit.known e/\(CInv s->Can s s')) (hc:ych P Γ G n):ytm P G (zm7 (cm P Γ n)):=by
  intro d b args args' s v s' w σ V kd h hb hl hr hV hF hI hG;have hI':=hI.next (zya hfacts _ _ _ _ _ h hI)
  obtain ⟨L,fr1,s1,e,fr2,s2,st,hL,hro,hst,hlen,h1,h2,hd1,hd2,hle,rfl,rfl⟩:=zuo h;have hdn:=hI.lt hro;have hI1:=hI.next (znh (x:=none) hro hI)
  have hIi:=ziw hI1;obtain ⟨q1,_,q3⟩:=hfacts _ _ _ _ _ _ h1;obtain ⟨p1,_,p3⟩:=hfacts _ _ _ _ _ _ h2;have c1:=q3 hIi;have c2:=p3 (hIi.next c1);have c12:=c1.trans c2;have hro2:(zaa s2.obj d).ro=false:=by rw [c12.ro d hdn];exact z9f hro
  have hVd:V d:=by
    refine hV d ?_;rcases zmn (lim:=((s.setLp d none).outer s2).lim) (l:=((s.setLp d none).outer s2).wr) (n:=d) with k|k
    . exact .inr (.inl k)
    . exact .inr (.inr k)
  obtain ⟨b',rec,a1,a2,a3,a4,a5,a6,⟨a7,a8,a9⟩,a10,_⟩:=(hr.fam d hVd).lp L hL;rw [hb] at a1;cases a1;obtain ⟨r1,r2⟩:=a10 hst;have hap:∀ f u o z,σ f u=some (b,o,z)->¬ (V f/\f≠d):=fun f u o z k q=>q.2 (hr.inj _ _ _ _ _ _ _ _ _ k hb)
  have hrel:Rel σ (fun f=>V f/\f≠d) (s.setLp d none).inner w:=by
    refine ⟨hr.inj,hr.lt,fun f hf=>?_,hIi.none,hIi.vers⟩;show zh8 σ w f (zaa (zaw s.obj d _) f);rw [zav _ (zkp hro) (Ne.symm hf.2)];exact hr.fam f hf.1
  have hlim2:s2.lim=s.n:=c12.lim
  have hcov:zci (fun f=>V f/\f≠d) s2:=by
    intro f hf;refine ⟨?_,?_⟩
    . by_cases hfl:f<s.lim
      . have hlt:f<(s.setLp d none).lim:=hfl;refine hV f ?_;rcases hf with hf|hf|hf
        . exact .inl (zjt hf hlt)
        . exact .inr (.inl (zwe (zjt hf hlt)))
        . have:=hI.lim;omega
      . exact hV f (.inr (.inr (Nat.le_of_not_lt hfl)))
    . rintro rfl;rcases hf with hf|hf|hf
      . exact hd1 hf
      . exact hd2 hf
      . omega
  have hfi:zeq σ (s.setLp d none).inner.n s2.n:=hF;have hfr:=zsc L.ps args args'.toList L.fr rec.tmps a6 a9 hl;have hsz:args'.size=rec.params.size:=by rw [<- io,<- io,a3,<- hlen,hl.length]
  refine ⟨rec.fn,_,rec.assign,rec.body,run_yield a2 hsz,roundIn_of_wpIn trivial ?_⟩
  have htm:((rec.params.zip args').foldl (fun tmps (t,a)=>tmps.setIfInBounds t a) rec.tmps)=(L.ps.zip args'.toList).foldl (fun t (p,v)=>t.setIfInBounds p v) rec.tmps:=by
    rw [<- Array.foldl_toList,Array.toList_zip,a3]
  rw [htm,a4,a5];refine jy ?_ (hc L.a _ _ _ fr1 s1 σ (fun f=>V f/\f≠d) w _ (some b) kd h1 (by rw [zno];exact zga a7) hrel (hcov.back c2) (hfi.mono (ei _) c2.n) hIi hG hfr ⟨⟨rec,a2⟩,hap⟩);rintro ea a3' W3 ⟨rfl,σ2,k1,_,k3,k4⟩;obtain ⟨f1,f2⟩:=k4.apart (zbj a2) hap;have hl3:=f1.trans a2;refine ⟨_,run_beginRound hl3 r1,?_⟩;have hl4:(W3.putObj b (.loop { rec with state:=.busy })).heap[b]?=some (.loop { rec with state:=.busy }):=mg (zbj hl3);have hplace:∃ f u o z,σ f u=some (b,o,z)/\V f/\(zaa (s.setLp d none).inner.obj f).ro=false:=⟨d,lpAt d,0,0,hb,hVd,z9f hro⟩;have E4:=(k4.widen (V:=V) fun f q=>q.1).putSeen (.loop { rec with state:=.busy }) hplace;refine jy ?_ (hc L.b fr1 s1 e fr2 s2 σ2 (fun f=>V f/\f≠d) _ a3' (some b) kd h2 (by rw [q1,zno];exact zga a8) (k3.putApart _ f2) hcov (hfi.next k4 c1) (hIi.next c1) (hG.up k4.le) k1 ⟨⟨_,hl4⟩,f2⟩);rintro e5 a5' W5 ⟨rfl,σ3,l1,_,l3,l4⟩;obtain ⟨g1,g2⟩:=l4.apart (zbj hl4) f2;have hl5:=g1.trans hl4;have E5:=E4.trans (l4.widen (V:=V) fun f q=>q.1) c1 c2 hfi hIi.none;have hb3:σ3 d (lpAt d)=some (b,0,0):=E5.le _ _ _ hb
  have hfin : ∀ (o : Loop), o.params = rec.params -> o.assign = rec.assign -> o.body = rec.body -> o.tmps = rec.tmps -> (st = none -> o.state = .ready /\ o.pending = none) -> (∀ e, st = some e -> o.state = .done /\ ∃ c, z4y e = some c /\ o.pending = some c) ->
      Rel σ3 V (((s.setLp d none).outer s2).setLp d (some { L with st:=st })) (W5.putObj b (.loop o))/\Ext σ V s w σ3 (((s.setLp d none).outer s2).setLp d (some { L with st:=st })) (W5.putObj b (.loop o)):=by
    intro o o1 o2 o3 o4 o5 o6;refine ⟨⟨l3.inj,fun f u b' o' z k=>by rw [mr];exact l3.lt f u b' o' z k,fun f hf=>?_,hI'.none,hI'.vers⟩,(E5.putSeen (.loop o) hplace).from rfl (fun f=>yfc hro f) rfl⟩;show zh8 σ3 _ f (zaa (zaw s2.obj d _) f);by_cases hfd:d=f
    . subst hfd;rw [zbs _ (zkp hro2)];refine ⟨fun p hp=>by simp at hp,fun _=>trivial,fun es he=>by simp at he,fun L' hL'=>?_⟩;simp only [dy] at hL';subst hL';exact ⟨b,o,hb3,mg (zbj hl5),by rw [o1];exact a3,o2.trans a4,o3.trans a5,by rw [o4];exact a6.up E5.le,⟨a7,a8,a9⟩,o5,o6⟩
    . rw [zav _ (zkp hro2) hfd];exact (l3.fam f ⟨hf,Ne.symm hfd⟩).move (fun _ _ _ k=>k) (fun _ _=>rfl) fun u b' o' z k=>il fun q=>by subst q;exact g2 _ _ _ _ k ⟨hf,Ne.symm hfd⟩
  cases e5 with
  |normal =>
    simp only [ztb,dy] at hle;subst hle;obtain ⟨x1,x2⟩:=hfin { { rec with state:=.busy } with state:=.ready,pending:=none } rfl rfl rfl rfl (fun _=>⟨rfl,rfl⟩) (fun _ k=>by simp at k);exact ⟨_,_,run_endRound none hl5,σ3,_,rfl,qd rfl,x1,x2⟩
  |ret =>
    simp only [ztb,dy] at hle;subst hle;obtain ⟨x1,x2⟩:=hfin { { rec with state:=.busy } with state:=.done,pending:=some .ret } rfl rfl rfl rfl (fun k=>by simp at k) (fun e k=>by cases k;exact ⟨rfl,_,rfl,rfl⟩);exact ⟨_,_,run_endRound (some .ret) hl5,σ3,_,rfl,qd rfl,x1,x2⟩
  |exit id =>
    simp only [ztb,dy] at hle;subst hle;obtain ⟨x1,x2⟩:=hfin { { rec with state:=.busy } with state:=.done,pending:=some (.exit id) } rfl rfl rfl rfl (fun k=>by simp at k) (fun e k=>by cases k;exact ⟨rfl,_,rfl,rfl⟩);exact ⟨_,_,run_endRound (some (.exit id)) hl5,σ3,_,rfl,qd rfl,x1,x2⟩
  |goto lb=>simp [ztb] at hle
  |panic ch=>simp [ztb] at hle
  |outgrown=>simp [ztb] at hle
set_option maxHeartbeats 1000000 in
theorem yfx {n:Nat} (hcall:z6t P G (zpc Γ (cm P Γ n))) (hcan:zfq (zpc Γ (cm P Γ n))) {g:ep} {ps:Array Tmp} {x y:Code} {fr fr':Fr} {s s':CS} {e:Exit} {σ:Sg} {V:Nat->Prop} {w:World} {a:Act} {r:Option Nat} {kd:Nat} {gf:jx} {first caps:Array Value}
    (hgv:zgp fr g=.func (.func gf) first caps) (h:zs6 (zpc Γ (cm P Γ n)) gf first.toList caps.toList ps.toList x y fr s=some (e,fr',s')) (hg:zgt G g=true)
    (hr:Rel σ V s w) (hV:zci V s') (hF:zeq σ s.n s'.n) (hI:CInv s) (hG:zi0 G σ) (hfr:FrR σ fr a) (hR:zoe σ V w r):(Code.rangeFunc g ps x y).wpIn (zjx r) kd P (Post V σ s w a e fr' s') a w:=by
  have hv:VR σ (zgp fr g) (a.eval g):=zrp hG hg fun t _=>hfr.val t;obtain ⟨v,s2,L2,hn,hfirst,hps,hx,hy,h1,hL2,hout,rfl,rfl⟩:=zvj h;rw [hgv] at hv;obtain ⟨fn',first',caps',hav,hfn',hf1,hf2⟩:=hv.out;obtain rfl:=FnR.func hfn';rw [hfirst] at hf1;obtain rfl:=yfs hf1;have c1:Can s { s with n:=s.n+1,obj:=zaw s.obj s.n ⟨false,[],none,some ⟨fr',ps.toList,x,y,none⟩⟩ }:=zsg hn (fun p hp=>by simp at hp) rfl;have hI0:=hI.next c1
  have c2:=hcan _ _ _ _ _ h1 hI0
  have hro2:(zaa s2.obj s.n).ro=false:=by
    rw [c2.ro s.n (r8 _)];show (zaa (zaw s.obj s.n _) s.n).ro=false;rw [zbs _ hn]
  have c3:Can s2 (s2.setLp s.n none):=znh hro2 (hI0.next c2);have hVn:V s.n:=hV s.n (.inr (.inr (by rw [(c1.trans (c2.trans c3)).lim];exact hI.lim)));have hns:s.n+1<=s2.n:=c2.n;refine wpIn_rangeFunc ?_;intro fn hfn;obtain ⟨L,Ds,W,rec,hent,hb,hL,hWL,⟨hr1,hr2,hr3,hr4,hr5,hr6,hr7⟩,hnd,hDs⟩:=z0b (P:=P) hR fn a.tmps ps x y;have hRW:Rel σ V s W:=hr.to hb.size fun f u b o z q=>hb.block b (hr.lt f u b o z q);have h0:σ s.n (lpAt s.n)=none:=hF s.n _ (.inl ⟨ei _,hns⟩);have hle:=Sg.le_add (p:=(L,0,0)) h0;have hadd:(σ.add s.n (lpAt s.n) (L,0,0)) s.n (lpAt s.n)=some (L,0,0):=Sg.add_same _ _ _ _
  have hcase:∀ f u b o z,(σ.add s.n (lpAt s.n) (L,0,0)) f u=some (b,o,z)->(f=s.n/\b=L)\/(σ f u=some (b,o,z)/\b<w.heap.size):=by
    intro f u b o z q;by_cases hc:f=s.n/\u=lpAt s.n
    . obtain ⟨rfl,rfl⟩:=hc;rw [hadd] at q;cases q;exact .inl ⟨rfl,rfl⟩
    . rw [ru _ _ hc] at q;exact .inr ⟨q,hr.lt _ _ _ _ _ q⟩
  have hR0:Rel (σ.add s.n (lpAt s.n) (L,0,0)) V { s with n:=s.n+1,obj:=zaw s.obj s.n ⟨false,[],none,some ⟨fr',ps.toList,x,y,none⟩⟩ } W:=by
    refine ⟨?_,?_,?_,hI0.none,hI0.vers⟩
    . intro f u b o z f' u' o' z' q1 q2;rcases hcase _ _ _ _ _ q1 with ⟨q3,q4⟩|⟨q3,q4⟩<;>rcases hcase _ _ _ _ _ q2 with ⟨q5,q6⟩|⟨q5,q6⟩
      . rw [q3,q5]
      . omega
      . omega
      . exact hr.inj _ _ _ _ _ _ _ _ _ q3 q5
    . intro f u b o z q;have:=zbj hWL;have:=hb.size;rcases hcase _ _ _ _ _ q with ⟨_,q⟩|⟨_,q⟩<;>omega
    . intro f hf;show zh8 _ W f (zaa (zaw s.obj s.n _) f);by_cases hfn:s.n=f
      . subst hfn;rw [zbs _ hn];refine ⟨fun p hp=>by simp at hp,fun _=>trivial,fun es he=>by simp at he,fun Lq hq=>?_⟩;simp only [dy] at hq;subst hq;exact ⟨L,rec,hadd,hWL,by rw [hr5],hr6,hr7,(hfr.up hle).act hr4,⟨hx,hy,hps⟩,fun _=>⟨hr1,hr2⟩,fun e k=>by simp at k⟩
      . rw [zav _ hn hfn];exact (hRW.fam f hf).move hle (fun u _=>ru _ _ fun q=>hfn q.1.symm) (fun _ _ _ _ _=>rfl)
  have hE0:Ext σ V s w (σ.add s.n (lpAt s.n) (L,0,0)) { s with n:=s.n+1,obj:=zaw s.obj s.n ⟨false,[],none,some ⟨fr',ps.toList,x,y,none⟩⟩ } W:=by
    refine ⟨hle,fun f u k1 k2=>?_,fun f u b o z k1 k2 k3=>?_,hb.size,fun b k1 k2=>hb.block b k1,⟨hb.os,hb.tape,hb.output⟩⟩
    . by_cases hc:f=s.n/\u=lpAt s.n
      . obtain ⟨rfl,rfl⟩:=hc;unfold lpAt;refine ⟨by omega,?_,?_,.inl (ei _)⟩
        . show _<s.n+1;omega
        . show _<s.n+1;omega
      . rw [ru _ _ hc] at k2;exact absurd k1 k2
    . rcases hcase _ _ _ _ _ k2 with ⟨_,q⟩|⟨q,_⟩
      . omega
      . rw [k1] at q;simp at q
  have hF0:=hF.next hE0 c1
  obtain ⟨xf,hen,hcl⟩:=hcall.fn gf _ (#[.func (.yield L) #[] #[]]++caps') _ v s2 W _ V h1 (by
    rw [Array.toList_append]
    exact ⟨qd ⟨.yield L,#[],#[],rfl,⟨L,hadd,rfl⟩,trivial,trivial⟩,hf2.up hle⟩) hR0 (hV.back c3) hF0 hI0 (hG.up hle)
  refine ⟨L,Ds.map mark,W,{ target:=.fn (.func gf) caps',args:=#[.func (.yield L) #[] #[]] },W,xf,#[.func (.yield L) #[] #[]]++caps',W,hent,?_,fun _ _=>trivial,?_,fun hd=>absurd hd (by simp [zjx,mv]),?_⟩
  . simp only [resolve,hav];simp [go_sem]
  . simp [invoke,go_sem,hen]
  . show CallsIn mv (kd - 1) P xf _ W _;refine (callsIn_wide.2 hcl).mono ?_;rintro q W1 ⟨σ1,v1,rfl,k1,k2,k3⟩;have hL1:σ1 s.n (lpAt s.n)=some (L,0,0):=k3.le _ _ _ hadd;obtain ⟨b',rec',a1,a2,a3,a4,a5,a6,a7,a8,a9⟩:=(k2.fam s.n hVn).lp L2 hL2;rw [hL1] at a1;cases a1
    have hfin:∀ o,Post V σ s w a e fr' (s2.setLp s.n none) e { a with defers:=Ds.map mark++a.defers } (W1.putObj L o):=by
      intro o;refine ⟨rfl,σ1,(hfr.up fun f u p q=>k3.le _ _ _ (hle _ _ _ q)).act rfl,⟨Ds,rfl,hnd,fun D hD=>?_⟩,?_,?_⟩
      . obtain ⟨d1,d2,d3⟩:=hDs D hD
        have hm:Mk (σ.add s.n (lpAt s.n) (L,0,0)) W D:=⟨d3,fun f u o z q=>by
          rcases hcase _ _ _ _ _ q with ⟨_,q⟩|⟨_,q⟩
          . exact d2 q
          . omega⟩
        have hm1:=hm.next k3
        exact ⟨⟨(il d2).trans hm1.1,hm1.2⟩,d1⟩
      . exact zvp (ins s2.lim s2.wr s.n) k2 hro2 (ei _) (fun _ _ _ q=>q) k2.inj (fun g u b o z q=>by rw [mr];exact k2.lt _ _ _ _ _ q) (fun _ _ _=>rfl)
          (fun g u b o z hg q=>il (by rintro rfl;exact hg (k2.inj _ _ _ _ _ _ _ _ _ q hL1))) (x:=⟨false,[],none,none⟩) ⟨fun p hp=>by simp at hp,fun _=>trivial,fun es he=>by simp at he,fun Lq hq=>by simp at hq⟩ (fun p hp=>by simp at hp)
      . exact ((hE0.trans k3 c1 c2 hF hI.none).putObj o hL).state rfl
    cases hst:L2.st with
    |none =>
      rw [hst] at hout;cases hout;obtain ⟨r1,r2⟩:=a8 hst;exact ⟨none,_,(run_endLoop (P:=P) a2 (by rw [r1];simp)).trans (by rw [r2]),hfin _⟩
    |some e0 =>
      obtain ⟨r1,c,r2,r3⟩:=a9 _ hst;rw [hst] at hout;refine ⟨some c,_,(run_endLoop (P:=P) a2 (by rw [r1];simp)).trans (by rw [r3]),?_⟩
      cases e0 with
      |ret=>cases hout;cases r2;exact wpIn_ret (hfin _)
      |exit id=>cases hout;cases r2;exact wpIn_exit (hfin _)
      |normal=>cases r2
      |goto lb=>cases r2
      |panic ch=>cases r2
      |outgrown=>cases r2
theorem yra (d B:Nat):fw (rm d B) B=false:=by
  cases hq:fw (rm d B) B with
  |false=>rfl
  |true =>
    have:=zaf.1 hq;have h2:rm d B=d+B:=rfl;omega
theorem ymb {B C:Nat} (h:C<=B) (d:Nat):fw (rm d B) C=false:=by
  cases hq:fw (rm d B) C with
  |false=>rfl
  |true =>
    have:=zaf.1 hq;have h2:rm d B=d+B:=rfl;omega
theorem zx9 (d:Nat):zkx d=rm d 1099511627776:=by unfold zkx;rfl
theorem z2f {L:List Nat} {ax:Axs} (f:Nat):(zeh P L ax).ax f=sel (fw f 1099511627776) (ax f) none:=rfl
theorem ymd {L:List Nat} {ax:Axs} (d:Nat):(zeh P L ax).ax (zkx d)=none:=by
  rw [z2f,zx9,yra];rfl
theorem ykk {α:Type} (t:Tab α) {i:Nat} (h:fw i 256=false):t.at i=none:=by
  unfold Tab.at
  rw [h];rfl
theorem ylq {L:List Nat} {ax:Axs} (d:Nat):(zeh P L ax).fn.at (zkx d)=none:=by
  rw [zx9];exact ykk _ (ymb (by decide) d)
theorem z8w {n:Nat} {f:Nat} {args:List Value} {s:CS} (h1:Γ.ax f=none) (h2:Γ.fn.at f=none):zeo P Γ n f args s=zm7 (cm P Γ n) f args s:=by
  unfold zeo zpc;rw [h1,h2]
theorem z2t {L:List Nat} {ax:Axs} (hA:zfq (axC (zeh P L ax))) (hIt:z6r P L) (hB:FnOk P G (axC (zeh P L ax))) (hL:zj8 P G L=true) {n:Nat} (hc:ych P (zeh P L ax) G n):z6t P G (zeo P (zeh P L ax) n):=by
  refine ⟨?_,?_⟩;rotate_left
  . intro d b args args' s v s' w σ V kd h;rw [z8w (ymd d) (ylq d)] at h;exact ykc (zrv (P:=P) (Γ:=zeh P L ax) hA hIt.can n).1 hc d b args args' s v s' w σ V kd h
  intro f args args' s v s' w σ V h hl hr hV hF hI hG;have hE:=yi4 P L ax;unfold zeo zpc at h;split at h
  . rename_i hx hax;exact hB f args args' s v s' w σ V (by unfold axC;rw [hax];exact h) hl hr hV hF hI hG
  cases hfn:(zeh P L ax).fn.at f with
  |none =>
    rw [hfn] at h;obtain ⟨d,xs,_,rfl⟩:=z27 h
    cases hq:args'.toList with
    |nil=>rw [hq] at hl;exact hl.elim
    |cons _ _=>rw [hq] at hl;exact (hl.1.out).elim
  |some fn =>
    rw [hfn] at h;simp only at h;obtain ⟨hok,hfun⟩:=yia hL hfn;unfold ya3 at hok;simp only [d8] at hok;obtain ⟨⟨h512,hname⟩,hbody⟩:=hok
    cases hb:fn.body with
    |none=>rw [hb] at h;simp at h
    |some body =>
      rw [hb] at h hbody;simp only at h hbody
      -- both ways to leave
      have key : ∀ e fr1 s1 vs, (e = .normal \/ e = .ret) -> sel (Nat.ble args.length fn.ntmps) (cm P (zeh P L ax) n body (pk args 0 ⟨fn.ntmps, Tr.all undef 9⟩) s) none = some (e, fr1, s1) -> resC (zeh P L ax) fr1 s1 fn.results.toList = some (vs, s') -> v = tupC vs ->
          Calls P f args' w fun e w'=>∃ σ' v',e=.returned v'/\VR σ' v v'/\Rel σ' V s' w'/\Ext σ V s w σ' s' w':=by
        intro e fr1 s1 vs hex h1 h2 h3;obtain ⟨hlen,h1⟩:=zbo h1;have c1:=((zrv (P:=P) (Γ:=zeh P L ax) hA hIt.can n).1 _ _ _ _ _ _ h1).2.2 hI;have c2:=zoo h2;have hnt:(pk args 0 ⟨fn.ntmps,Tr.all undef 9⟩).nt=fn.ntmps:=zq5 _ _ _;have hfr:=yi5 (σ:=σ) (zbk.1 h512) (zbk.1 hlen) hl;have hw:=hc body _ s e fr1 s1 σ V w _ none 0 h1 (by rw [hnt];exact hbody) hr (hV.back c2) (hF.mono (ei _) c2.n) hI hG hfr trivial;refine yo5.1 (callsIn_of_wp_marks (F:=zjx none) (n:=0) hfun hb trivial (jy ?_ hw) rfl);rintro e' a' w' ⟨rfl,σ1,k1,⟨Ds,k2,kn,km⟩,k3,k4⟩;have kd:a'.defers=Ds.map mark:=by rw [k2];exact List.append_nil _
        have hL:LeavesInM (zjx none) 0 P fn a'.tmps (fun e w'=>∃ σ' v',e=.returned v'/\VR σ' v v'/\Rel σ' V s' w'/\Ext σ V s w σ' s' w') (Ds.map mark) .returning w':=by
          refine zv9 (σ:=σ1) (V:=V) (s:=s1) (σ0:=σ) (s0:=s) (w0:=w) Ds w' kn km k3 k4 fun w2 k3 k4=>?_;obtain ⟨v',q1,q2,q3,q4⟩:=z7g hE k1 k3 hV (hI.next c1) (hF.next k4 c1) h2;exact ⟨v',q1,σ1,v',rfl,by rw [h3];exact q2,q3,k4.trans q4 c1 c2 hF hI.none⟩
        rw [<- kd] at hL;rcases hex with rfl|rfl
        . exact hL
        . exact hL
      refine ⟨f,?_,?_⟩
      . have hne : ¬ fn.name = "runtime.NumGoroutine" := by simpa using hname
        simp [callFunc,hfun,hne,hb]
      . split at h
        . rename_i fr1 s1 h1;split at h
          . rename_i vs s2 h2;simp only [dy,ec] at h;obtain ⟨rfl,rfl⟩:=h;exact key _ fr1 s1 vs (.inl rfl) h1 h2 rfl
          . simp at h
        . rename_i fr1 s1 h1;split at h
          . rename_i vs s2 h2;simp only [dy,ec] at h;obtain ⟨rfl,rfl⟩:=h;exact key _ fr1 s1 vs (.inr rfl) h1 h2 rfl
          . simp at h
        . simp at h
theorem z63 {b:Frame} {a:Act} {k:List Item} {cs:List Frame} {w:World} {c:Code}:step P (lone (b.atR a (.code (.scope c) :: k)) cs w)=.next (lone (b.atR a (.code c :: .inScope c :: k)) cs w) :=
  step_lone_go (by simp [stepG,stepG.exec,Frame.atR])
theorem z07 {b:Frame} {a:Act} {k:List Item} {cs:List Frame} {w:World} {c:Code}:step P (lone (b.atR a (.inScope c :: k)) cs w)=.next (lone (b.atR a k) cs w) :=
  step_lone_go (by simp [stepG,stepG.exec,Frame.atR])
theorem zpu {F:Fence} {kd:Nat} {c:Code} {Q:Exit->Act->World->Prop} {a:Act} {w:World} (h:c.wpIn F kd P (Exit.noGoto Q) a w):(Code.scope c).wpIn F kd P Q a w:=by
  intro b k cs hro hb hr;have h0:StepsIn (Machine.fenced P F) P (lone (b.atR a (.code (.scope c) :: k)) cs w) (lone (b.atR a (.code c :: .inScope c :: k)) cs w):=.one (fenced_calm hb hr rfl) z63;obtain ⟨e,a₁,w₁,hq,harr⟩:=h b (.inScope c :: k) cs hro hb hr
  cases e with
  |normal=>exact ⟨.normal,a₁,w₁,hq,StepsIn.trans h0 (StepsIn.trans harr (.one (fenced_calm hb hr rfl) z07))⟩
  | exit id => exact ⟨.exit id, a₁, w₁, hq, fun k' hk => StepsIn.trans h0 (harr.1 k' (by simp [exitTo, hk])), fun hr' hk => by
      obtain ⟨k1,hk1,hs⟩:=harr.2 hr' (by simp [exitTo,hk])
      exact ⟨k1,hk1,StepsIn.trans h0 hs⟩⟩
  |goto l=>exact hq.elim
  |ret=>exact ⟨_,a₁,w₁,hq,.of_steps h0 harr⟩
  |panic ch=>exact ⟨_,a₁,w₁,hq,.of_steps h0 harr⟩
  |outgrown=>exact ⟨_,a₁,w₁,hq,.of_steps h0 harr⟩
set_option maxHeartbeats 1000000 in
theorem z8p (hm:P.follows .mixedOrders=true) {L:List Nat} {ax:Axs} (hA:zfq (axC (zeh P L ax))) (hIt:z6r P L) (hB:FnOk P G (axC (zeh P L ax))) (hL:zj8 P G L=true):∀ n,ych P (zeh P L ax) G n/\ypg P (zeh P L ax) G n:=by
  intro n
  induction n with
  |zero=>exact ⟨fun c fr s e fr' s' σ V w a r kd h=>by simp [cm] at h,fun b fr s e fr' s' σ V w a r kd h=>by simp [cm] at h⟩
  |succ n ih =>
    obtain ⟨ih1,ih2⟩:=ih;have hE:=yi4 P L ax;have hC:=z2t hA hIt hB hL ih1;obtain ⟨hfacts,hcan⟩:=zrv (P:=P) (Γ:=zeh P L ax) hA hIt.can n
    have hloop:ypg P (zeh P L ax) G (n+1):=by
      intro b fr s e fr' s' σ V w a r kd h hb hr hV hF hI hG hfr hR;simp only [cm] at h;rw [roundsIn_succ];split at h
      . rename_i fr1 s1 h1;obtain ⟨q1,_,q3⟩:=hfacts _ _ _ _ _ _ h1;obtain ⟨r1,_,r3⟩:=hfacts _ _ _ _ _ _ h;have c1:=q3 hI;have c2:=r3 (hI.next c1);refine jy ?_ (ih1 b fr s _ fr1 s1 σ V w a r kd h1 hb hr (hV.back c2) (hF.mono (ei _) c2.n) hI hG hfr hR);rintro e1 a1 w1 ⟨rfl,σ1,k1,k2,k3,k4⟩;show Code.roundsIn (zjx r) kd P b _ n a1 w1;have hrounds:=ih2 b fr1 s1 e fr' s' σ1 V w1 a1 r kd h (by rw [q1];exact hb) k3 hV (hF.next k4 c1) (hI.next c1) (hG.up k4.le) k1 (hR.next k4)
        -- the same, seen from the start
        have hmono:∀ m a2 w2,Code.roundsIn (zjx r) kd P b (Post V σ1 s1 w1 a1 e fr' s') m a2 w2->Code.roundsIn (zjx r) kd P b (Post V σ s w a e fr' s') m a2 w2:=by
          intro m
          induction m with
          |zero=>intro a2 w2 hx;exact hx
          |succ m ihm =>
            intro a2 w2 hx;rw [roundsIn_succ] at hx ⊢;refine jy ?_ hx;intro e2 a3 w3 hy
            cases e2 with
            |normal=>exact ihm a3 w3 hy
            |exit id=>exact Post.chain k4 k2 c1 c2 hF hI.none hy
            |goto lb=>exact Post.chain k4 k2 c1 c2 hF hI.none hy
            |ret=>exact Post.chain k4 k2 c1 c2 hF hI.none hy
            |panic ch=>exact Post.chain k4 k2 c1 c2 hF hI.none hy
            |outgrown=>exact Post.chain k4 k2 c1 c2 hF hI.none hy
        exact hmono n a1 w1 hrounds
      . rename_i hne;obtain ⟨_,q2,_⟩:=hfacts _ _ _ _ _ _ h;refine jy ?_ (ih1 b fr s e fr' s' σ V w a r kd h hb hr hV hF hI hG hfr hR);rintro e1 a1 w1 ⟨rfl,σ1,k1,k2,k3,k4⟩
        cases e1 with
        |normal=>exact absurd h (hne _ _)
        |exit id=>exact ⟨rfl,σ1,k1,k2,k3,k4⟩
        |ret=>exact ⟨rfl,σ1,k1,k2,k3,k4⟩
        |goto lb=>exact q2.elim
        |panic ch=>exact q2.elim
        |outgrown=>exact q2.elim
    refine ⟨?_,hloop⟩;intro c fr s e fr' s' σ V w a r kd h hok hr hV hF hI hG hfr hR
    cases c with
    |skip=>simp only [cm,dy,ec] at h;obtain ⟨rfl,rfl,rfl⟩:=h;exact wpIn_skip ⟨rfl,σ,hfr,zof.refl ..,hr,qe _ _ _ _⟩
    |label lb=>simp only [cm,dy,ec] at h;obtain ⟨rfl,rfl,rfl⟩:=h;exact wpIn_label ⟨rfl,σ,hfr,zof.refl ..,hr,qe _ _ _ _⟩
    |exit id=>simp only [cm,dy,ec] at h;obtain ⟨rfl,rfl,rfl⟩:=h;exact wpIn_exit ⟨rfl,σ,hfr,zof.refl ..,hr,qe _ _ _ _⟩
    |ret=>simp only [cm,dy,ec] at h;obtain ⟨rfl,rfl,rfl⟩:=h;exact wpIn_ret ⟨rfl,σ,hfr,zof.refl ..,hr,qe _ _ _ _⟩
    |region id ops draw =>
      have h' : (bif draw then match drawC P (zeh P L ax) (zeo P (zeh P L ax) n) ops.toList ops.toList fr s with
          |some (logs,fr,t)=>bif calm s.n ops.toList logs then some (mq,fr,t) else none
          |none=>none
        else match runC P (zeh P L ax) (zeo P (zeh P L ax) n) ops.toList ops.toList fr s with
          |some (fr,s)=>some (mq,fr,s)
          |none=>none)=some (e,fr',s'):=h
      simp only [zc3,d8] at hok
      cases draw with
      |true =>
        simp only [cond_true] at h';split at h'
        . rename_i hd;obtain ⟨hcalm,h'⟩:=zgx h';simp only [dy,ec] at h';obtain ⟨rfl,rfl,rfl⟩:=h';refine yqr hm hE hC hcan hr hV hF hI hG hfr hok.1 (by simpa using hok.2) hd hcalm ?_;intro σ1 a1 w1 k1 k2 k3 k4;exact ⟨rfl,σ1,k1,zof.of_eq k2,k3,k4⟩
        . simp at h'
      |false =>
        simp only [cond_false] at h';split at h'
        . rename_i hd;simp only [dy,ec] at h';obtain ⟨rfl,rfl,rfl⟩:=h';refine wpIn_region_list ?_;refine ym8 hE hC hcan (fun o ho=>fd.1 hok.1 o ho) (fun o ho=>fd.1 hok.1 o ho) hr hV hF hI hG hfr hd ?_;intro σ1 a1 w1 k1 k2 k3 k4;exact ⟨rfl,σ1,k1,zof.of_eq k2,k3,k4⟩
        . simp at h'
    |seq x y =>
      simp only [zc3,d8] at hok;simp only [cm] at h;refine wpIn_seq ?_;split at h
      . rename_i fr1 s1 h1;obtain ⟨q1,_,q3⟩:=hfacts _ _ _ _ _ _ h1;obtain ⟨r1,_,r3⟩:=hfacts _ _ _ _ _ _ h;have c1:=q3 hI;have c2:=r3 (hI.next c1);refine jy ?_ (ih1 x fr s _ fr1 s1 σ V w a r kd h1 hok.1 hr (hV.back c2) (hF.mono (ei _) c2.n) hI hG hfr hR);rintro e1 a1 w1 ⟨rfl,σ1,k1,k2,k3,k4⟩;show y.wpIn (zjx r) kd P _ a1 w1;refine jy ?_ (ih1 y fr1 s1 e fr' s' σ1 V w1 a1 r kd h (by rw [q1];exact hok.2) k3 hV (hF.next k4 c1) (hI.next c1) (hG.up k4.le) k1 (hR.next k4));intro e2 a2 w2 hy;exact Post.chain k4 k2 c1 c2 hF hI.none hy
      . rename_i hne;obtain ⟨_,q2,_⟩:=hfacts _ _ _ _ _ _ h;refine jy ?_ (ih1 x fr s e fr' s' σ V w a r kd h hok.1 hr hV hF hI hG hfr hR);rintro e1 a1 w1 ⟨rfl,σ1,k1,k2,k3,k4⟩
        cases e1 with
        |normal=>exact absurd h (hne _ _)
        |exit id=>exact ⟨rfl,σ1,k1,k2,k3,k4⟩
        |ret=>exact ⟨rfl,σ1,k1,k2,k3,k4⟩
        |goto lb=>exact q2.elim
        |panic ch=>exact q2.elim
        |outgrown=>exact q2.elim
    |cond x t f =>
      simp only [zc3,d8] at hok;simp only [cm] at h;split at h
      . rename_i bb hb;have hv:VR σ (zgp fr x) (a.eval x):=zrp hG hok.1.1 fun t _=>hfr.val t;rw [hb] at hv;refine wpIn_cond hv.bool ?_
        cases bb with
        |true=>exact ih1 t fr s e fr' s' σ V w a r kd h hok.1.2 hr hV hF hI hG hfr hR
        |false=>exact ih1 f fr s e fr' s' σ V w a r kd h hok.2 hr hV hF hI hG hfr hR
      . simp at h
    |block id b =>
      simp only [zc3] at hok;simp only [cm] at h;refine wpIn_block ?_;split at h
      . rename_i i fr1 s1 h1;simp only [dy,ec] at h;obtain ⟨rfl,rfl,rfl⟩:=h;refine jy ?_ (ih1 b fr s _ fr1 s1 σ V w a r kd h1 hok hr hV hF hI hG hfr hR);rintro e1 a1 w1 ⟨rfl,σ1,k1,k2,k3,k4⟩;show (if i=id then _ else _);by_cases hid:i=id
        . rw [zAc hid];refine ⟨?_,σ1,k1,k2,k3,k4⟩;rw [hid,Nat.beq_refl];rfl
        . rw [zAd hid];refine ⟨?_,σ1,k1,k2,k3,k4⟩
          have:er i id=false:=by
            cases hq:er i id with
            |false=>rfl
            |true=>exact absurd (eg hq) hid
          rw [this];rfl
      . rename_i hne;obtain ⟨_,q2,_⟩:=hfacts _ _ _ _ _ _ h;refine jy ?_ (ih1 b fr s e fr' s' σ V w a r kd h hok hr hV hF hI hG hfr hR);rintro e1 a1 w1 ⟨rfl,σ1,k1,k2,k3,k4⟩
        cases e1 with
        |normal=>exact ⟨rfl,σ1,k1,k2,k3,k4⟩
        |exit i=>exact absurd h (hne _ _ _)
        |ret=>exact ⟨rfl,σ1,k1,k2,k3,k4⟩
        |goto lb=>exact q2.elim
        |panic ch=>exact q2.elim
        |outgrown=>exact q2.elim
    |loop b =>
      simp only [zc3] at hok;exact wpIn_loop_rounds (n+1) (hloop b fr s e fr' s' σ V w a r kd h hok hr hV hF hI hG hfr hR)
    |scope b =>
      simp only [zc3] at hok;simp only [cm] at h;obtain ⟨_,q2,_⟩:=hfacts _ _ _ _ _ _ h;refine zpu ?_;refine jy ?_ (ih1 b fr s e fr' s' σ V w a r kd h hok hr hV hF hI hG hfr hR);rintro e1 a1 w1 ⟨rfl,σ1,k1,k2,k3,k4⟩
      cases e1 with
      |normal=>exact ⟨rfl,σ1,k1,k2,k3,k4⟩
      |exit i=>exact ⟨rfl,σ1,k1,k2,k3,k4⟩
      |ret=>exact ⟨rfl,σ1,k1,k2,k3,k4⟩
      |goto lb=>exact q2.elim
      |panic ch=>exact q2.elim
      |outgrown=>exact q2.elim
    |rangeFunc g ps x y =>
      simp only [zc3,d8] at hok;rw [cm] at h;split at h;rotate_left
      . simp at h
      rename_i gf first caps hgv
      split at h;rotate_left
      . exact yfx hC hcan hgv h hok.1.1.1 hr hV hF hI hG hfr hR
      rw [<- hgv] at h;exact ykq hA hIt rfl ih1 h hok.1.1.1 (fun p hp=>zaf.1 (fd.1 hok.1.1.2 p hp)) hok.1.2 hok.2 hr hV hF hI hG hfr hR
    |goto lb=>simp [cm] at h
    |refuse why=>simp [cm] at h
theorem z8m (f:Nat):zaa cs0.obj f=zd4:=by
  unfold zaa cs0;simp only;rw [zcr];split
  . exact Tr.get_all _ 14 _
  . rfl
theorem ax_no {L:List Nat} {ax:Axs} {f:Nat} (h:ax f=none):(zeh P L ax).ax f=none:=by
  rw [z2f,h];cases fw f 1099511627776<;>rfl
end
section
variable {P:fe} {Γ:Env}
def zr0 (c c':zc8):Prop:=∀ f args s r,c f args s=some r->c' f args s=some r
theorem yoz {call call':zc8} (h:zr0 call call') {ρ:ep->Value} {o:Oper} {s:CS} {r:Value×CS} (hc:cop P Γ call ρ o s=some r):cop P Γ call' ρ o s=some r:=by
  obtain ⟨dst,op,type,pos,after,guard⟩:=o;unfold cop at hc ⊢
  cases op with
  |call c =>
    simp only at hc ⊢;split at hc
    . rename_i f hf;unfold zmz at hc ⊢;split at hc
      . exact h _ _ _ _ hc
      . obtain ⟨hb,hc⟩:=zbo hc;rw [hb,zbn];exact h _ _ _ _ hc
      . simp at hc
    . exact hc
    . simp at hc
  |makeMap t r=>cases r<;>exact hc
  |makeFunc fn xs ys=>cases fn<;>exact hc
  |_=>exact hc
theorem zty {call call':zc8} (h:zr0 call call') {ops:List Oper} {o:Oper} {fr:Fr} {s:CS} {r:Fr×CS} (hc:zcw P Γ call ops o fr s=some r):zcw P Γ call' ops o fr s=some r:=by
  unfold zcw at hc ⊢
  cases hw:zde ops fr o with
  |false=>rw [hw] at hc;exact hc
  |true =>
    rw [hw] at hc;simp only [cond_true] at hc ⊢;split at hc
    . rename_i h1;rw [yoz h h1];exact hc
    . simp at hc
theorem z1p {call call':zc8} (h:zr0 call call') {ops:List Oper}:∀ {l:List Oper} {fr:Fr} {s:CS} {r:Fr×CS},runC P Γ call ops l fr s=some r->runC P Γ call' ops l fr s=some r
  |[],_,_,_,hc=>hc
  |o :: l,fr,s,r,hc=>by
    simp only [runC] at hc ⊢;split at hc
    . rename_i h1;rw [zty h h1];exact z1p h hc
    . simp at hc
theorem z2i {call call':zc8} (h:zr0 call call') {ops:List Oper}:∀ {l:List Oper} {fr:Fr} {s:CS} {r:List Lg×Fr×CS},drawC P Γ call ops l fr s=some r->drawC P Γ call' ops l fr s=some r
  |[],_,_,_,hc=>hc
  |o :: l,fr,s,r,hc=>by
    simp only [drawC] at hc ⊢;split at hc
    . rename_i h1;rw [zty h h1];simp only;split at hc
      . rename_i h2;rw [z2i h h2];exact hc
      . simp at hc
    . simp at hc
theorem z3x {run run':Code->Fr->CS->Option (Exit×Fr×CS)} (hr:∀ c fr s r,run c fr s=some r->run' c fr s=some r) {key:CS->Option (List Nat×CS)} {k0:List Nat} {ps:List Tmp} {a b:Code} {fr:Fr}:∀ (xs:List (List Value)) (s:CS) (r:Exit×CS),zi1 run key k0 ps a b fr xs s=some r->zi1 run' key k0 ps a b fr xs s=some r
  |[],s,r,h=>h
  |x :: xs,s,r,h=>by
    rw [zi1] at h ⊢;obtain ⟨hl,h⟩:=zbo h;rw [hl,zbn];split at h
    . rename_i h1;rw [hr _ _ _ _ h1];simp only;split at h
      . rename_i h2;rw [hr _ _ _ _ h2];simp only;split at h
        . obtain ⟨hs,h⟩:=zbo h;rw [hs,zbn];exact z3x hr xs _ _ h
        . simp at h
      . rename_i h2;rw [hr _ _ _ _ h2];exact h
      . rename_i h2;rw [hr _ _ _ _ h2];exact h
      . simp at h
    . simp at h
theorem yd2 {run run':Code->Fr->CS->Option (Exit×Fr×CS)} (hr:∀ c fr s r,run c fr s=some r->run' c fr s=some r):zr0 (zm7 run) (zm7 run'):=by
  intro f args s r h;unfold zm7 at h ⊢;split at h
  . obtain ⟨hb,h⟩:=zbo h;rw [hb,zbn];unfold yd1 at h ⊢;split at h
    . rename_i L hL;obtain ⟨hc,h⟩:=zbo h;rw [hc,zbn];unfold yd3 at h ⊢;split at h
      . rename_i h1;rw [hr _ _ _ _ h1];simp only;split at h
        . rename_i h2;rw [hr _ _ _ _ h2];exact h
        . simp at h
      . simp at h
    . simp at h
  . simp at h
theorem yfy {call call':zc8} (hc:zr0 call call') {gf:jx} {first caps:List Value} {ps:List Tmp} {a b:Code} {fr:Fr} {s:CS} {r:Exit×Fr×CS} (h:zs6 call gf first caps ps a b fr s=some r):zs6 call' gf first caps ps a b fr s=some r:=by
  unfold zs6 at h ⊢;obtain ⟨hb,h⟩:=zbo h;rw [hb,zbn];split at h
  . rename_i h1;rw [hc _ _ _ _ h1];exact h
  . simp at h
theorem ybz {run run':Code->Fr->CS->Option (Exit×Fr×CS)} (hr:∀ c fr s r,run c fr s=some r->run' c fr s=some r):zr0 (zpc Γ run) (zpc Γ run'):=by
  intro f args s r h;unfold zpc at h ⊢;split at h
  . exact h
  split at h
  . split at h
    . rename_i fn hfn _ body hb
      cases hle:Nat.ble args.length fn.ntmps with
      |false=>rw [hle] at h;simp [sel] at h
      |true =>
        rw [hle,zbn] at h;rw [zbn];split at h
        . rename_i h1;rw [hr _ _ _ _ h1];exact h
        . rename_i h1;rw [hr _ _ _ _ h1];exact h
        . simp at h
    . simp at h
  . exact yd2 hr _ _ _ _ h
theorem z4m:∀ n,(∀ c fr s r,cm P Γ n c fr s=some r->cm P Γ (n+1) c fr s=some r)/\zr0 (zeo P Γ n) (zeo P Γ (n+1)):=by
  intro n
  induction n with
  |zero=>exact ⟨fun c fr s r h=>by simp [cm] at h,ybz fun c fr s r h=>by simp [cm] at h⟩
  |succ n ih =>
    obtain ⟨ih1,ih2⟩:=ih
    have hcode:∀ c fr s r,cm P Γ (n+1) c fr s=some r->cm P Γ (n+1+1) c fr s=some r:=by
      intro c fr s r h
      cases c with
      |region id ops draw =>
        have h' : (bif draw then match drawC P Γ (zeo P Γ n) ops.toList ops.toList fr s with
            |some (logs,fr,t)=>bif calm s.n ops.toList logs then some (mq,fr,t) else none
            |none=>none
          else match runC P Γ (zeo P Γ n) ops.toList ops.toList fr s with
            |some (fr,s)=>some (mq,fr,s)
            |none=>none)=some r:=h
        show (bif draw then match drawC P Γ (zeo P Γ (n + 1)) ops.toList ops.toList fr s with
            |some (logs,fr,t)=>bif calm s.n ops.toList logs then some (mq,fr,t) else none
            |none=>none
          else match runC P Γ (zeo P Γ (n+1)) ops.toList ops.toList fr s with
            |some (fr,s)=>some (mq,fr,s)
            |none=>none)=some r
        cases draw with
        |true =>
          simp only [cond_true] at h' ⊢;split at h'
          . rename_i h1;rw [z2i ih2 h1];exact h'
          . simp at h'
        |false =>
          simp only [cond_false] at h' ⊢;split at h'
          . rename_i h1;rw [z1p ih2 h1];exact h'
          . simp at h'
      |seq a b =>
        simp only [cm] at h;rw [cm];split at h
        . rename_i h1;rw [ih1 _ _ _ _ h1];exact ih1 _ _ _ _ h
        . rename_i hne;rw [ih1 _ _ _ _ h];split
          . rename_i h1;simp only [dy] at h1;subst h1;exact absurd h (hne _ _)
          . rfl
      |cond c t e =>
        simp only [cm] at h;rw [cm];split at h
        . exact ih1 _ _ _ _ h
        . simp at h
      |block id b =>
        simp only [cm] at h;rw [cm];split at h
        . rename_i h1;rw [ih1 _ _ _ _ h1];exact h
        . rename_i hne;rw [ih1 _ _ _ _ h];split
          . rename_i h1;simp only [dy] at h1;subst h1;exact absurd h (hne _ _ _)
          . rfl
      |loop b =>
        simp only [cm] at h;rw [cm];split at h
        . rename_i h1;rw [ih1 _ _ _ _ h1];exact ih1 _ _ _ _ h
        . rename_i hne;rw [ih1 _ _ _ _ h];split
          . rename_i h1;simp only [dy] at h1;subst h1;exact absurd h (hne _ _)
          . rfl
      |scope b=>simp only [cm] at h;rw [cm];exact ih1 _ _ _ _ h
      |skip=>exact h
      |label l=>exact h
      |exit id=>exact h
      |ret=>exact h
      |rangeFunc g ps a b =>
        rw [cm] at h ⊢;split at h
        . rename_i gf first caps hg
          split at h
          . rename_i i hit;unfold z30 at h ⊢;simp only [hit] at h ⊢;split at h
            . rename_i i' hf hfirst;split at h
              . rename_i k s1 hk;split at h
                . rename_i e1 s2 h2;have h3:=z3x ih1 _ _ _ h2;simp only [hk,h3];exact h
                . simp at h
              . simp at h
            . simp at h
          . exact yfy ih2 h
        . simp at h
      |goto l=>simp [cm] at h
      |refuse w=>simp [cm] at h
    exact ⟨hcode,ybz hcode⟩
theorem z2o {n m:Nat} (h:n<=m) {c:Code} {fr:Fr} {s:CS} {r:Exit×Fr×CS} (hc:cm P Γ n c fr s=some r):cm P Γ m c fr s=some r:=by
  induction m with
  | zero => have : n = 0 := by omega
            subst this;exact hc
  |succ m ih =>
    by_cases hm:n=m+1
    . subst hm;exact hc
    . exact (z4m m).1 _ _ _ _ (ih (by omega))
theorem zhq {n m:Nat} (h:n<=m):zr0 (zeo P Γ n) (zeo P Γ m):=by
  induction m with
  | zero => have : n = 0 := by omega
            subst this;exact fun _ _ _ _ k=>k
  |succ m ih =>
    by_cases hm:n=m+1
    . subst hm;exact fun _ _ _ _ k=>k
    . exact fun f args s r k=>(z4m m).2 _ _ _ _ (ih (by omega) f args s r k)
def Ev (P:fe) (Γ:Env) (c:Code) (fr:Fr) (s:CS) (e:Exit) (fr':Fr) (s':CS):Prop:=∃ n,cm P Γ n c fr s=some (e,fr',s')
def Runs (P:fe) (Γ:Env) (f:jx) (args:List Value) (s:CS) (v:Value) (s':CS):Prop:=∃ n,zeo P Γ n f args s=some (v,s')
def Ops (P:fe) (Γ:Env) (ops l:List Oper) (fr:Fr) (s:CS) (fr':Fr) (s':CS):Prop:=∃ n,runC P Γ (zeo P Γ n) ops l fr s=some (fr',s')
theorem Ev.skip (fr:Fr) (s:CS):Ev P Γ .skip fr s .normal fr s:=⟨1,rfl⟩
theorem Ev.ret (fr:Fr) (s:CS):Ev P Γ .ret fr s .ret fr s:=⟨1,rfl⟩
theorem Ev.exit (id:Nat) (fr:Fr) (s:CS):Ev P Γ (.exit id) fr s (.exit id) fr s:=⟨1,rfl⟩
theorem Ev.seq {a b:Code} {fr fr1 fr2:Fr} {s s1 s2:CS} {e:Exit} (h1:Ev P Γ a fr s .normal fr1 s1) (h2:Ev P Γ b fr1 s1 e fr2 s2):Ev P Γ (.seq a b) fr s e fr2 s2:=by
  obtain ⟨n,h1⟩:=h1;obtain ⟨m,h2⟩:=h2;refine ⟨max n m+1,?_⟩;rw [cm,z2o (nq n m) h1];exact z2o (nc n m) h2
theorem Ev.seqOut {a b:Code} {fr fr1:Fr} {s s1:CS} {e:Exit} (h1:Ev P Γ a fr s e fr1 s1) (he:e≠.normal):Ev P Γ (.seq a b) fr s e fr1 s1:=by
  obtain ⟨n,h1⟩:=h1;refine ⟨n+1,?_⟩;rw [cm,h1];cases e<;>first|exact absurd rfl he|rfl
theorem Ev.cond {c:ep} {t f:Code} {fr fr':Fr} {s s':CS} {e:Exit} {b:Bool} (hb:zgp fr c=.bool b) (h:Ev P Γ (bif b then t else f) fr s e fr' s'):Ev P Γ (.cond c t f) fr s e fr' s':=by
  obtain ⟨n,h⟩:=h;refine ⟨n+1,?_⟩;rw [cm,hb];exact h
theorem Ev.block {id:Nat} {b:Code} {fr fr':Fr} {s s':CS} {e:Exit} (h:Ev P Γ b fr s e fr' s'):Ev P Γ (.block id b) fr s (match e with|.exit i=>(bif er i id then .normal else .exit i)|e=>e) fr' s':=by
  obtain ⟨n,h⟩:=h;refine ⟨n+1,?_⟩;rw [cm,h];cases e<;>rfl
theorem Ev.scope {b:Code} {fr fr':Fr} {s s':CS} {e:Exit} (h:Ev P Γ b fr s e fr' s'):Ev P Γ (.scope b) fr s e fr' s':=by
  obtain ⟨n,h⟩:=h;exact ⟨n+1,h⟩
theorem Ev.again {b:Code} {fr fr1 fr2:Fr} {s s1 s2:CS} {e:Exit} (h1:Ev P Γ b fr s .normal fr1 s1) (h2:Ev P Γ (.loop b) fr1 s1 e fr2 s2):Ev P Γ (.loop b) fr s e fr2 s2:=by
  obtain ⟨n,h1⟩:=h1;obtain ⟨m,h2⟩:=h2;refine ⟨max n m+1,?_⟩;rw [cm,z2o (nq n m) h1];exact z2o (nc n m) h2
theorem Ev.last {b:Code} {fr fr1:Fr} {s s1:CS} {e:Exit} (h1:Ev P Γ b fr s e fr1 s1) (he:e≠.normal):Ev P Γ (.loop b) fr s e fr1 s1:=by
  obtain ⟨n,h1⟩:=h1;refine ⟨n+1,?_⟩;rw [cm,h1];cases e<;>first|exact absurd rfl he|rfl
theorem Ev.region {id:Nat} {ops:List Oper} {fr fr':Fr} {s s':CS} (h:Ops P Γ ops ops fr s fr' s'):Ev P Γ (.region id ops.toArray false) fr s .normal fr' s':=by
  obtain ⟨n,h⟩:=h;refine ⟨n+1,?_⟩
  show (match runC P Γ (zeo P Γ n) ops.toArray.toList ops.toArray.toList fr s with
            |some (fr,s)=>some (mq,fr,s)
            |none=>none)=_
  simp only [List.toList_toArray,h]
theorem Ops.nil {ops:List Oper} (fr:Fr) (s:CS):Ops P Γ ops [] fr s fr s:=⟨0,rfl⟩
theorem Ops.cons {ops:List Oper} {o:Oper} {l:List Oper} {fr fr2:Fr} {s s1 s2:CS} {v:Value} (hw:zde ops fr o=true) (h1:∃ n,cop P Γ (zeo P Γ n) (zgp fr) o s=some (v,s1)) (h2:Ops P Γ ops l (putC fr o.dst v) s1 fr2 s2):Ops P Γ ops (o :: l) fr s fr2 s2:=by
  obtain ⟨n,h1⟩:=h1;obtain ⟨m,h2⟩:=h2;refine ⟨max n m,?_⟩;rw [runC,zcw,hw,cond_true,yoz (zhq (nq n m)) h1];exact z1p (zhq (nc n m)) h2
theorem Ops.skip {ops:List Oper} {o:Oper} {l:List Oper} {fr fr2:Fr} {s s2:CS} (hw:zde ops fr o=false) (h2:Ops P Γ ops l (putC fr o.dst undef) s fr2 s2):Ops P Γ ops (o :: l) fr s fr2 s2:=by
  obtain ⟨m,h2⟩:=h2;refine ⟨m,?_⟩;rw [runC,zcw,hw,cond_false];exact h2
theorem Runs.of {f:jx} {fn:Func} {body:Code} {args vs:List Value} {s s1 s2:CS} {fr':Fr} (hax:Γ.ax f=none) (hf:Γ.fn.at f=some fn) (hb:fn.body=some body) (hl:args.length<=fn.ntmps) {e:Exit} (he:e=.normal\/e=.ret)
    (h:Ev P Γ body (pk args 0 ⟨fn.ntmps,Tr.all undef 9⟩) s e fr' s1) (hr:resC Γ fr' s1 fn.results.toList=some (vs,s2)):Runs P Γ f args s (tupC vs) s2:=by
  obtain ⟨n,h⟩:=h;refine ⟨n,?_⟩;unfold zeo zpc;rw [hax,hf];simp only [hb];rw [zbk.2 hl,zbn,h];rcases he with rfl|rfl<;>simp only [hr]
end
end Go.Proofs.YteifcnjpjjaikaaGreat
