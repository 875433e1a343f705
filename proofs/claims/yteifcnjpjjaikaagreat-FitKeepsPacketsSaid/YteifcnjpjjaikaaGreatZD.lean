/- Part 4 of the proof of FitKeepsPackets (several texts in one; no further condition). -/
import Derived.Test.YteifcnjpjjaikaaGreatZC
set_option linter.unusedSimpArgs false
set_option linter.unusedVariables false
set_option linter.unusedSectionVars false
namespace Go.Proofs.YteifcnjpjjaikaaGreat
noncomputable section
open _root_.And renaming intro->dx
open _root_.Array renaming toList_map->m9
open _root_.BitVec renaming ofInt->gv
open _root_.Bool renaming and_eq_true->d8,and_self->el,and_true->lc,not_true->gp,true_and->ju
open Go.Proofs.YteifcnjpjjaikaaGreat.Bx renaming le_refl->jt
open Go.Proofs.YteifcnjpjjaikaaGreat.CS renaming inner->rv
open Go.Call renaming operands->rn
open Go.Proofs.YteifcnjpjjaikaaGreat.Can renaming refl->i6
open _root_.Eq renaming trans->ej
open Go.Proofs.YteifcnjpjjaikaaGreat.Fr renaming get_put_other->r9
open Go renaming FuncId->jx,IntKind->gl,Operand->ep,Program->fe,TypeId->fc
open _root_.Int renaming toNat_natCast->pf
open _root_.List renaming all_cons->ig,append_assoc->ey,append_nil->fp,cons_append->fq,drop_eq_getElem_cons->i8,drop_of_length_le->gu,drop_succ_cons->jp,drop_zero->fl,eq_nil_of_length_eq_zero->jk,flatMap_cons->iv,flatten_cons->gh,getD_eq_getElem?_getD->eh,getElem?_append_left->fk,getElem?_append_right->gm,getElem?_cons_succ->jo,getElem?_cons_zero->fx,getElem?_eq_getElem->ef,getElem?_eq_none->je,getElem?_eq_some_iff->et,getElem?_map->ki,length_append->eu,length_cons->ez,length_drop->ir,length_map->ek,length_nil->gd,length_replicate->ns,length_singleton->gz,length_take->gi,map_append->pv,map_cons->ge,map_map->qv,map_nil->qu,nil_append->fb,range'->n8,replicate->ew,replicate_succ->jg,set_cons_succ->kb,set_cons_zero->ku,take_append_drop->jn,take_length->pl,take_succ_cons->me,take_zero->l9
open _root_.List.cons renaming injEq->q8
open Go.Proofs.YteifcnjpjjaikaaGreat.Loc renaming fam->nj
open _root_.Nat renaming add_mul->jc,add_zero->ii,beq->er,beq_refl->jh,blt->fw,eq_of_beq_eq_true->eg,le_refl->ei,lt_of_lt_of_le->fh,mul_one->sc,one_mul->n7,testBit->gr,testBit_and->ke,testBit_or->nd,testBit_two_pow_sub_one->jw,zero_add->f6,zero_le->gb
open Go.Proofs.YteifcnjpjjaikaaGreat.Ok0 renaming same->qg
open Go.Op renaming equal->qf,equalIn->kg,operands->fj
open _root_.Option renaming bind_some->dz,map_none->qz,map_some->ld
open _root_.Option.some renaming injEq->dy
open _root_.Prod.mk renaming injEq->ec
open Go.Proofs.YteifcnjpjjaikaaGreat.Stp renaming refl->rh
open Go.Proofs.YteifcnjpjjaikaaGreat.T renaming bool->ri,cells->gt,int->d7,one->nh,str->oq
open Go.Proofs.YteifcnjpjjaikaaGreat.TS renaming set_ne->gy,set_same->iu
open Go.Proofs.YteifcnjpjjaikaaGreat.VM renaming cons_inv->rf,nil_inv->sg
open Go.Value renaming int->iz
open Go Go.RowKit
def zq7:T->Option Value
  |.agg l=>(match zgi l with|some vs=>some (.agg ⟨vs⟩)|none=>none)
  |t=>yfg t
def zqh (eq:Value->Option Bool):List (T×T)->Nat->Option (Option (Nat×T))
  |[],_=>some none
  |(k',x) :: l,i=>match zq7 k' with
    |some v=>(match eq v with
      |some true=>some (some (i,x))
      |some false=>zqh eq l (i+1)
      |none=>none)
    |none=>none
def zij (P:fe) (Γ:Env) (S:TS) (t:fc) (x k:T) (ok:Bool):Option T:=match zwc Γ t,zq7 k with
  |some (kt,e),some kv=>(match sel (zxp Γ kt) (eqK P Γ kt kv) none,Γ.ti.at e with
    |some eq,some j=>(match zer j with
      |some z=>(match x with
        |.nilm=>some (zti ok z none)
        |.mp b=>(match S.box b with|.map l=>(match zqh eq l 0 with|some r=>some (zti ok z (r.map (·.2)))|none=>none)|_=>none)
        |_=>none)
      |none=>none)
    |_,_=>none)
  |_,_=>none
def ymu (l:List (T×T)) (k x:T):Option (Nat×T)->List (T×T)
  |some (j,_)=>l.set j (k,x)
  |none=>l++[(k,x)]
def tEnt (l:List (T×T)) (z:T):Option (Nat×T)->T
  |some (j,x)=>.tup [x,.int .i64 (.ofNat j)]
  |none=>.tup [z,.int .i64 (.ofNat l.length)]
def ymr (z:T):Option (Nat×T)->T
  |some (_,x)=>x
  |none=>z
def zin (P:fe) (Γ:Env) (S:TS) (t:fc) (k m:T):Option (T×TS):=match m,zwc Γ t,zq7 k with
  |.mp b,some (kt,e),some kv=>(match eqK P Γ kt kv,Γ.ti.at e,S.box b with
    |some eq,some j,.map l=>(match zqh eq l 0,zer j with
      |some f,some z=>some (tEnt l z f,S.set b (.map (ymu l k (ymr z f) f)))
      |_,_=>none)
    |_,_,_=>none)
  |_,_,_=>none
def zfx (S:TS) (st x m:T):Option TS:=match m,st with
  |.mp b,.int _ (.ofNat j)=>(match S.box b with
    |.map l=>(match l[j]? with|some (k,_)=>some (S.set b (.map (l.set j (k,x))))|none=>none)
    |_=>none)
  |_,_=>none
section
variable {GL:List (Nat×List Value)} {A A':Nat->Prop} {β β':Bx} {S S':TS} {s s':CS} {P:fe} {Γ:Env} {g g':Nat->Fam}
theorem zwb {t:T} {v w:Value} (h:zq7 t=some w) (hv:VT A β g t v):v=w:=by
  unfold zq7 at h;split at h
  . split at h
    . rename_i vs hvs;cases h
      cases hv with
      |agg hl=>rw [(zqv hvs hl).1]
    . simp at h
  . exact (z9h h hv).1
theorem VM.get {l:List (T×T)} {es:List (Value×Value)} (h:VM A β g l es):∀ {j:Nat} {k x:T},l[j]?=some (k,x)->∃ v w,es[j]?=some (v,w)/\VT A β g k v/\VT A β g x w:=by
  induction l generalizing es with
  |nil=>intro j k x hj;simp at hj
  |cons p l ih =>
    obtain ⟨k0,x0⟩:=p;obtain ⟨v,w,es',rfl,h1,h2,h3⟩:=rf h;intro j k x hj
    cases j with
    |zero=>simp at hj;obtain ⟨rfl,rfl⟩:=hj;exact ⟨v,w,rfl,h1,h2⟩
    |succ j=>obtain ⟨v',w',q1,q2⟩:=ih h3 (by simpa using hj);exact ⟨v',w',by simpa using q1,q2⟩
theorem VM.set {k x:T} {v w:Value} (hk:VT A β g k v) (hx:VT A β g x w):∀ {l:List (T×T)} {es:List (Value×Value)} (j:Nat),VM A β g l es->VM A β g (l.set j (k,x)) (es.set j (v,w))
  |[],es,j,h=>by rw [sg h];simpa using ⟨.nil,.nil⟩
  |(k0,x0) :: l,es,j,h=>by
    obtain ⟨v0,w0,es',rfl,h1,h2,h3⟩:=rf h
    cases j with
    |zero=>exact VM.mk hk hx h3
    |succ j=>exact VM.mk h1 h2 (VM.set hk hx j h3)
theorem VM.snoc {k x:T} {v w:Value} (hk:VT A β g k v) (hx:VT A β g x w):∀ {l:List (T×T)} {es:List (Value×Value)},VM A β g l es->VM A β g (l++[(k,x)]) (es++[(v,w)])
  |[],es,h=>by rw [sg h];exact VM.mk hk hx ⟨.nil,.nil⟩
  |(k0,x0) :: l,es,h=>by
    obtain ⟨v0,w0,es',rfl,h1,h2,h3⟩:=rf h;exact VM.mk h1 h2 (VM.snoc hk hx h3)
theorem VM.len {l:List (T×T)} {es:List (Value×Value)} (h:VM A β g l es):l.length=es.length:=by
  have:=h.1.len;simpa using this
theorem VM.mono {l:List (T×T)} {es:List (Value×Value)} (hA:∀ f,A f->A' f) (hg:∀ f,A f->g' f=g f) (hβ:Bx.le β β') (h:VM A β g l es):VM A' β' g' l es:=⟨h.1.mono hA hg hβ,h.2.mono hA hg hβ⟩
theorem z03 {eq:Value->Option Bool}:∀ {l:List (T×T)} {es:List (Value×Value)} {r:Option (Nat×T)} (i:Nat),VM A β g l es->zqh eq l i=some r ->
    match r with
    |none=>zfn eq es i=some none
    |some (j,x)=>∃ w,zfn eq es i=some (some (j,w))/\VT A β g x w
  |[],es,r,i,h,hr=>by
    rw [sg h];simp only [zqh,dy] at hr;subst hr;rfl
  |(k',x) :: l,es,r,i,h,hr=>by
    obtain ⟨v',w,es',rfl,h1,h2,h3⟩:=rf h;simp only [zqh] at hr;split at hr
    . rename_i v hv;have:=zwb hv h1;subst this;split at hr
      . rename_i hq;cases hr;exact ⟨w,by simp only [zfn,hq],h2⟩
      . rename_i hq;have:=z03 (i+1) h3 hr
        cases r with
        |none=>simp only [zfn,hq];exact this
        |some p=>obtain ⟨j,x0⟩:=p;obtain ⟨w0,q1,q2⟩:=this;exact ⟨w0,by simp only [zfn,hq];exact q1,q2⟩
      . simp at hr
    . simp at hr
theorem z4w {t:fc} {k:Value} (h:zxp Γ t=true):keyV Γ t k=false:=by
  unfold zxp at h;unfold keyV
  cases hi:Γ.ti.at t with
  |none=>rfl
  |some i =>
    rw [hi] at h;simp only at h ⊢;unfold aggT at h;split at h<;>first | (simp at h;done) | (rename_i hd;rw [hd])
theorem yko {b:Bool} {α:Type} {x:Option α} {y:α} (h:sel b x none=some y):b=true/\x=some y:=by
  cases b with
  |true=>exact ⟨rfl,h⟩
  |false=>rw [zqu] at h;simp at h
theorem yhf {t kt e:fc} (h:zwc Γ t=some (kt,e)):∃ i,Γ.ti.at t=some i/\i.desc=.map kt e:=by
  unfold zwc at h
  cases hi:Γ.ti.at t with
  |none=>rw [hi] at h;simp at h
  |some i =>
    rw [hi] at h;simp only at h;split at h
    . rename_i hd;simp only [dy,ec] at h;obtain ⟨rfl,rfl⟩:=h;exact ⟨i,rfl,hd⟩
    . simp at h
theorem z7w {t kt e:fc} {vx vk:Value} {ok:Bool} (h:zwc Γ t=some (kt,e)) (hw:zxp Γ kt=true):zg0 Γ s t vx vk ok=none:=by
  obtain ⟨i,hi,hd⟩:=yhf h;unfold zg0;split
  . rw [hi];simp only;rw [hd];simp only;rw [z4w hw,zqu]
  . rfl
theorem z61 (hT:TRel GL A β S s) {t:fc} {x k r:T} {vx vk:Value} {ok:Bool} (hx:VT A β (zaa s.obj) x vx) (hk:VT A β (zaa s.obj) k vk) (ht:zij P Γ S t x k ok=some r):Ok0 GL A β S s (orW (zg0 Γ s t vx vk ok) (zf4 P Γ s t vx vk ok)) r:=by
  unfold zij at ht;split at ht
  . rename_i kt e kv hts hkv;have:=zwb hkv hk;subst this;split at ht
    . rename_i eq j heq hj;obtain ⟨hwd,heq⟩:=yko heq;rw [z7w hts hwd];show Ok0 GL A β S s (zf4 P Γ s t vx vk ok) r;split at ht
      . rename_i z hz;obtain ⟨zv,z1,z2⟩:=zul (A:=A) (β:=β) (g:=zaa s.obj) hz;split at ht
        . cases ht;cases hx
          have:zf4 P Γ s t (.map none) vk ok=some (zwv ok zv none,s):=by
            simp only [zf4,hts,heq,hj,CS.readMapO,z7z,z1,zfn,qz]
          rw [this];exact qg hT (zn0 z2 (r:=none) (r':=none) trivial)
        . rename_i b;split at ht
          . rename_i l hb;split at ht
            . rename_i f hf;cases ht;obtain ⟨rr,es,rfl,q1,q2,q3⟩:=yk5 hT hb hx;have hq:=z03 0 q3 hf
              have main:∀ (f':Option (Nat×Value)),zfn eq es 0=some f'->zf4 P Γ s t (.map (some rr)) vk ok=some (zwv ok zv (f'.map (·.2)),{ s with rd:=ins s.lim s.rd rr }):=fun f' hf'=>by
                simp only [zf4,hts,heq,hj,CS.readMapO,CS.readMap,q2,z7z,z1,hf']
              cases f with
              |none =>
                rw [main none hq];exact Ok0.read hT (.inr (zf3 q1)) (zn0 z2 (r:=none) (r':=none) trivial)
              |some p =>
                obtain ⟨jj,x0⟩:=p;obtain ⟨w0,g1,g2⟩:=hq;rw [main _ g1];exact Ok0.read hT (.inr (zf3 q1)) (zn0 z2 (r:=some x0) (r':=some w0) g2)
            . simp at ht
          . simp at ht
        . simp at ht
      . simp at ht
    . simp at ht
  . simp at ht
theorem z39 (hT:TRel GL A β S s) {b r:Nat} {l l':List (T×T)} {es es':List (Value×Value)} (hb:S.box b=.map l) (q1:β b=some (.map r)) (q2:zaa s.obj r=⟨false,[],some es,none⟩) (g2:VM A β (zaa s.obj) l' es') :
    ∃ s1 s2,s.readMap r=some (es,s1)/\s1.putEs r es'=some s2/\TRel GL A β (S.set b (.map l')) s2/\Stp A β s A β s2/\(∀ f,A f->zaa s2.obj f=zaa s.obj f):=by
  obtain ⟨gg,hin⟩:=hT.inr;have hobj:∀ f,zaa s.obj f=gg f:=fun f=>by rw [hin];rfl
  have hdis:=hT.dis r (zf3 q1);have e1:zaw s.obj r ⟨false,[],some es',none⟩=.inr (fupd gg r ⟨false,[],some es',none⟩):=by rw [hin,zgh]
  have hro:(zaa s.obj r).ro=false:=by rw [q2]
  have w1:s.readMap r=some (es,{ s with rd:=ins s.lim s.rd r }):=by simp only [CS.readMap,q2]
  have w2:CS.putEs { s with rd:=ins s.lim s.rd r } r es'=some { s with obj:=.inr (fupd gg r ⟨false,[],some es',none⟩),rd:=ins s.lim s.rd r,wr:=ins s.lim s.wr r }:=by
    unfold CS.putEs;simp only [hro,zqu,e1]
  refine ⟨_,_,w1,w2,?_⟩;have hcan:=(zfl w1).trans (zvq (hT.inv.next (zfl w1)) w2);have hold:∀ f,f≠r->fupd gg r ⟨false,[],some es',none⟩ f=zaa s.obj f:=fun f hf=>by rw [hobj];exact zi5 _ _ _ _ hf
  have hA:∀ f,A f->fupd gg r ⟨false,[],some es',none⟩ f=zaa s.obj f:=fun f hf=>hold f fun h=>hdis.2 (h ▸ hf)
  have hoth:∀ {b':Nat} {l:Loc} {f:Nat},β b'=some l->l.fam=some f->b'≠b->fupd gg r ⟨false,[],some es',none⟩ f=zaa s.obj f:=by
    intro b' l f hb2 hf hne;refine hold f fun hh=>hne ?_;subst hh;exact hT.inj b' b l _ f hb2 q1 hf rfl
  refine ⟨⟨⟨_,rfl⟩,hT.inv.next hcan,fun f hf=>hT.alt f hf,fun f hf=>hT.dis f hf,hT.inj,hT.next,fun b' z N l2 hb2=>?_,fun b' l2 hb2=>?_,fun y hy=>?_⟩,⟨hcan,fun _ h=>h,fun _ h=>.inl h,fun _ h=>.inl h,fun f hf hno=>?_,jt _,fun y hy=>?_,fun y hy=>?_⟩,hA⟩
  . by_cases hbb:b'=b
    . subst hbb;rw [iu] at hb2;cases hb2
    . rw [gy _ _ hbb] at hb2;exact (hT.cells b' z N l2 hb2).mono (fun _ h=>h) hA (jt _) rfl fun f u N2 hl=>hoth hl rfl hbb
  . by_cases hbb:b'=b
    . subst hbb;rw [iu] at hb2;cases hb2;exact ⟨r,es',q1,zf9 _ _ _,g2.1.mono (fun _ h=>h) hA (jt _),g2.2.mono (fun _ h=>h) hA (jt _)⟩
    . rw [gy _ _ hbb] at hb2;exact (hT.maps b' l2 hb2).mono (fun _ h=>h) hA (jt _) rfl fun r' hl=>hoth hl rfl hbb
  . have:=hT.glob y hy;refine ⟨this.1,?_⟩;show zcb (fupd gg r _ y.1).rows _=_;rw [hA _ this.1];exact this.2
  . show fupd gg r _ f=_;exact hold f fun hh=>hno (hh ▸ zf3 q1)
  . rcases zmm hy with q|⟨rfl,q⟩
    . exact .inl q
    . exact .inr ⟨q,.inr (zf3 q1)⟩
  . rcases zmm hy with q|⟨rfl,q⟩
    . exact .inl q
    . exact .inr ⟨q,zf3 q1⟩
theorem z3c (hT:TRel GL A β S s) {t:fc} {k m r:T} {vk vm:Value} (hk:VT A β (zaa s.obj) k vk) (hm:VT A β (zaa s.obj) m vm) (ht:zin P Γ S t k m=some (r,S')):Ok GL A β s (zhn P Γ s t vk vm) r S':=by
  unfold zin at ht;split at ht
  . rename_i b kt e kv hts hkv;have:=zwb hkv hk;subst this;split at ht
    . rename_i eq j l heq hj hb;split at ht
      . rename_i f z hf hz;simp only [dy,ec] at ht;obtain ⟨rfl,rfl⟩:=ht;obtain ⟨zv,z1,z2⟩:=zul (A:=A) (β:=β) (g:=zaa s.obj) hz;obtain ⟨r,es,rfl,q1,q2,q3⟩:=yk5 hT hb hm;have hq:=z03 0 q3 hf
        have main:∀ (f':Option (Nat×Value)) (l':List (T×T)) (rt:T),zfn eq es 0=some f'->VM A β (zaa s.obj) l' (yp2 es vk (ypm zv f') f')->VT A β (zaa s.obj) rt (entC es zv f')->Ok GL A β s (zhn P Γ s t vk (.map (some r))) rt (S.set b (.map l')):=fun f' l' rt hf' hvm hrt=>by
          obtain ⟨s1,s2,w1,w2,w3,w4,w5⟩:=z39 hT hb q1 q2 hvm;exact ⟨_,s2,A,β,by simp only [zhn,hts,heq,hj,w1,hf',z1,w2,yc3],w3,hrt.mono (fun _ h=>h) w5 (jt _),w4⟩
        cases f with
        |none =>
          refine main none _ _ hq (VM.snoc hk z2 q3) ?_;rw [tEnt,entC,q3.len];exact .tup (.cons z2 (.cons (.int _ _) .nil))
        |some p =>
          obtain ⟨jj,x0⟩:=p;obtain ⟨w0,g1,g2⟩:=hq;exact main _ _ _ g1 (VM.set hk g2 jj q3) (.tup (.cons g2 (.cons (.int _ _) .nil)))
      . simp at ht
    . simp at ht
  . simp at ht
theorem zxr (hT:TRel GL A β S s) {st x m:T} {vs vx vm:Value} (hs:VT A β (zaa s.obj) st vs) (hx:VT A β (zaa s.obj) x vx) (hm:VT A β (zaa s.obj) m vm) (ht:zfx S st x m=some S'):Ok GL A β s (zf5 s vs vx vm) .junk S':=by
  unfold zfx at ht;split at ht
  . rename_i b ik j;split at ht
    . rename_i l hb;split at ht
      . rename_i k x0 hl;cases ht;cases hs;obtain ⟨r,es,rfl,q1,q2,q3⟩:=yk5 hT hb hm;obtain ⟨v0,w0,g1,g2,g3⟩:=VM.get q3 hl;obtain ⟨s1,s2,w1,w2,w3,w4,_⟩:=z39 hT hb q1 q2 (VM.set g2 hx j q3);exact ⟨undef,s2,A,β,by simp only [zf5,zgv,w1,g1,w2,zw8],w3,.junk _,w4⟩
      . simp at ht
    . simp at ht
  . simp at ht
end
def zn4 (v:Value):T:=match zl6 v with
  |some t=>t
  |none=>match v with
    |.agg cs=>(match zgr cs.toList with|some l=>.agg l|none=>.junk)
    |_=>.junk
def yh7:List (Nat×List Value)->Nat->T
  |[],_=>.junk
  |x :: l,k=>bif er x.1 k then (match zgr x.2 with|some c=>.cp c|none=>.junk) else yh7 l k
def zem (GL:List (Nat×List Value)) (h:Nat->T):ep->T
  |.tmp t=>h t
  |.const v=>zn4 v
  |.global k=>yh7 GL k
  |.func f=>.fn f [] []
def tupd (h:Nat->T) (t:Nat) (v:T):Nat->T:=fun u=>if u=t then v else h u
theorem zhr (h:Nat->T) (t:Nat) (v:T):tupd h t v t=v:=zAc rfl
theorem zl9 (h:Nat->T) (t u:Nat) (v:T) (hn:u≠t):tupd h t v u=h u:=zAd hn
def putT (h:Nat->T):Option Tmp->T->Nat->T
  |some d,v=>tupd h d v
  |none,_=>h
def zib (S:TS):Option T->Option (T×TS)
  |some t=>some (t,S)
  |none=>none
def z6u:Option TS->Option (T×TS)
  |some S=>some (.junk,S)
  |none=>none
def ownD (own:List Nat) (d:Option Tmp):Bool:=match d with|some d=>has own d|none=>false
def zm9 (Γ:Env) (S:TS) (ρ:ep->T) (b:Builtin) (args:List ep) (ts:List fc):Option T:=match b with
  |.len=>(match args,ts with | [x],[t]=>tLen Γ S t (ρ x)|_,_=>none)
  |.min=>(match args with | [x,y]=>(match ρ x,ρ y with|.int k a,.int _ b=>some (.int k (min a b))|_,_=>none)|_=>none)
  |.max=>(match args with | [x,y]=>(match ρ x,ρ y with|.int k a,.int _ b=>some (.int k (max a b))|_,_=>none)|_=>none)
  |_=>none
def zgo (P:fe) (Γ:Env) (ρ:ep->T) (o:Oper) (S:TS):Option T :=
  match o.op with
  |.move x=>some (ρ x)
  |.assign x=>some (ρ x)
  |.pick c a b=>(match ρ c with|.bool t=>some (bif t then ρ a else ρ b)|_=>none)
  |.build t parts=>zi9 Γ ρ t parts.toList
  |.buildSlice t n parts=>zan Γ ρ t n parts.toList
  |.load t x=>zuu Γ S t (ρ x)
  |.makeFunc fn first captured=>(match fn with|.func f=>some (.fn f (first.toList.map ρ) (captured.toList.map ρ))|_=>none)
  |.slice t x lo hi mx=>zut Γ S t (ρ x) (lo.map ρ) (hi.map ρ) (mx.map ρ)
  |.fieldAddr t x k=>zac Γ S t k (ρ x)
  |.indexAddr t x ix=>zic Γ S t (ρ x) (ρ ix)
  |.index t x ix=>zuv Γ t (ρ x) (ρ ix)
  |.extract x k=>zma k (ρ x)
  |.unOp op _ x=>tUn op (ρ x)
  |.binOp op t x y _=>tBin P Γ S t op x y (ρ x) (ρ y)
  |.lookup t x k ok=>orW (zdl Γ S t (ρ x) (ρ k) ok) (zij P Γ S t (ρ x) (ρ k) ok)
  |.call c=>(match c.callee with
    |.builtin b=>zm9 Γ S ρ b c.args.toList c.argTypes.toList
    |_=>none)
  |_=>none
def zgn (P:fe) (Γ:Env) (own:List Nat) (ρ:ep->T) (o:Oper) (S:TS):Option (T×TS) :=
  match o.op with
  |.alloc e=>zyo Γ S e
  |.box _ x=>tBox S (ρ x)
  |.buildSlice t n parts=>bif ownD own o.dst then zaj Γ S ρ t n parts.toList else zib S (zan Γ ρ t n parts.toList)
  |.store t x v=>z6u (zym Γ S t (ρ v) (ρ x))
  |.makeSlice t l c=>zjm Γ S t (ρ l) (ρ c)
  |.makeMap _ none=>zcj S
  |.mapEntry t m k=>zin P Γ S t (ρ k) (ρ m)
  |.entryStore _ m st v=>z6u (zfx S (ρ st) (ρ v) (ρ m))
  |.call c=>(match c.callee with
    |.builtin .append=>(match c.args.toList,c.argTypes.toList with | [x,y],[t,tx]=>bif srcT Γ tx then zr6 Γ S t (ρ y) (ρ x) else none|_,_=>none)
    |.builtin b=>zib S (zm9 Γ S ρ b c.args.toList c.argTypes.toList)
    |_=>none)
  |_=>zib S (zgo P Γ ρ o S)
section
variable {GL:List (Nat×List Value)} {A A' A2:Nat->Prop} {β β' β2:Bx} {S S':TS} {s s' s2:CS} {P:fe} {Γ:Env}
theorem VT.undf {g:Nat->Fam}:VT A β g (.tup []) undef:=VT.tup (vs:=[]) .nil
theorem yje {g:Nat->Fam} (v:Value):VT A β g (zn4 v) v:=by
  unfold zn4;split
  . rename_i t ht;exact (z0r ht).1
  . split
    . rename_i cs;split
      . rename_i l hl;obtain ⟨cs⟩:=cs;exact .agg (zjw hl).1
      . exact .junk _
    . exact .junk _
theorem ya1 {g:Nat->Fam}:∀ (L:List (Nat×List Value)) (k:Nat),(∀ x,x∈L->A x.1/\zcb (g x.1).rows (x.1*1024)=some x.2)->VT A β g (yh7 L k) (.pointer (some (mkA k (k*1024) 0)))
  |[],k,_=>.junk _
  |x :: l,k,h=>by
    unfold yh7
    cases hb:er x.1 k with
    |false=>exact ya1 l k fun y hy=>h y (by simp [hy])
    |true =>
      have:=eg hb;subst this;simp only [cond_true];split
      . rename_i c hc;obtain ⟨h1,h2⟩:=h x (by simp);exact .cp h1 h2 (zjw hc).1 (by rw [fl,pl])
      . exact .junk _
structure FrOk (A:Nat->Prop) (β:Bx) (g:Nat->Fam) (N:Nat) (h:Nat->T) (fr:Fr):Prop where
  nt:fr.nt=N
  le:N<=512
  slot:∀ t,VT A β g (h t) (fr.get t)
theorem FrOk.mono {N:Nat} {h:Nat->T} {fr:Fr} {g g':Nat->Fam} (k:FrOk A β g N h fr) (hA:∀ f,A f->A' f) (hg:∀ f,A f->g' f=g f) (hβ:Bx.le β β'):FrOk A' β' g' N h fr:=⟨k.nt,k.le,fun t=>(k.slot t).mono hA hg hβ⟩
theorem FrOk.eval (hT:TRel GL A β S s) {N:Nat} {h:Nat->T} {fr:Fr} (k:FrOk A β (zaa s.obj) N h fr) (x:ep):VT A β (zaa s.obj) (zem GL h x) (zgp fr x):=by
  cases x with
  |tmp t=>exact k.slot t
  |const v=>exact yje v
  |global g=>exact ya1 GL g hT.glob
  |func f=>exact .fn .nil .nil
def ze3 (N:Nat) (ops:List Oper):Bool:=ops.all fun o=>match o.dst with|some d=>fw d N|none=>true
theorem FrOk.put {N:Nat} {h:Nat->T} {fr:Fr} {g:Nat->Fam} (k:FrOk A β g N h fr) {d:Option Tmp} (hd:∀ t,d=some t->t<N) {t:T} {v:Value} (hv:VT A β g t v):FrOk A β g N (putT h d t) (putC fr d v):=by
  cases d with
  |none=>exact k
  |some d =>
    have hdN:=hd d rfl;refine ⟨?_,k.le,fun u=>?_⟩
    . show (fr.put d v).nt=N;unfold Fr.put;rw [zcr];split<;>exact k.nt
    . show VT A β g (tupd h d t u) ((fr.put d v).get u);by_cases hu:u=d
      . subst hu;rw [zhr,Fr.get_put_same v (by rw [k.nt];exact hdN) (by rw [k.nt];exact k.le)];exact hv
      . rw [zl9 _ _ _ _ hu,r9 v (by rw [k.nt];exact k.le) (fun hh=>hu hh.symm)];exact k.slot u
theorem zxm {g:Nat->Fam} {ρT:ep->T} {ρ:ep->Value} (hρ:∀ x,VT A β g (ρT x) (ρ x)):∀ (l:List ep),VL A β g (l.map ρT) (l.map ρ)
  |[]=>.nil
  |x :: l=>.cons (hρ x) (zxm hρ l)
theorem yj6 {g:Nat->Fam} {ρT:ep->T} {ρ:ep->Value} (hρ:∀ x,VT A β g (ρT x) (ρ x)):∀ (l:Option ep),VO A β g (l.map ρT) (l.map ρ)
  |none=>.none
  |some x=>.some (hρ x)
theorem z0u {r:Option T} {t:T} {S1 S2:TS} (h:zib S1 r=some (t,S2)):r=some t/\S2=S1:=by
  unfold zib at h;split at h
  . cases h;exact ⟨rfl,rfl⟩
  . simp at h
theorem z85 {r:Option TS} {t:T} {S2:TS} (h:z6u r=some (t,S2)):r=some S2/\t=.junk:=by
  unfold z6u at h;split at h
  . cases h;exact ⟨rfl,rfl⟩
  . simp at h
theorem zsy (hT:TRel GL A β S s) {ρT:ep->T} {ρ:ep->Value} (hρ:∀ x,VT A β (zaa s.obj) (ρT x) (ρ x)) {o:Oper} {b:Builtin} {args:Array ep} {ts:Array fc} {r:T} (ho:o.op=.call ⟨.builtin b,args,ts⟩) (ht:zm9 Γ S ρT b args.toList ts.toList=some r):Ok0 GL A β S s (zf6 P Γ ρ o s b args.toList ts.toList) r:=by
  unfold zm9 at ht;split at ht
  . split at ht
    . rename_i x t e1 e2;rw [e1,e2];exact ypq hT (hρ x) ht
    . simp at ht
  . split at ht
    . rename_i x y e1;split at ht
      . rename_i k a k' b' e2 e3;cases ht;obtain ⟨args⟩:=args;simp only at e1;subst e1;obtain ⟨d,opx,ty,pos,e,g⟩:=o;simp only at ho;subst ho;have h1:=hρ x;have h2:=hρ y;rw [e2] at h1;rw [e3] at h2;generalize f1:ρ x=vx at h1;generalize f2:ρ y=vy at h2;cases h1;cases h2;show Ok0 GL A β S s (zf6 P Γ ρ _ s .min [x,y] ts.toList) _;rw [o_min f1 f2];exact qg hT (.int _ _)
      . simp at ht
    . simp at ht
  . split at ht
    . rename_i x y e1;split at ht
      . rename_i k a k' b' e2 e3;cases ht;obtain ⟨args⟩:=args;simp only at e1;subst e1;obtain ⟨d,opx,ty,pos,e,g⟩:=o;simp only at ho;subst ho;have h1:=hρ x;have h2:=hρ y;rw [e2] at h1;rw [e3] at h2;generalize f1:ρ x=vx at h1;generalize f2:ρ y=vy at h2;cases h1;cases h2;show Ok0 GL A β S s (zf6 P Γ ρ _ s .max [x,y] ts.toList) _;rw [o_max f1 f2];exact qg hT (.int _ _)
      . simp at ht
    . simp at ht
  . simp at ht
theorem Ok0.orW {r:T} {a b:Option (Value×CS)} (h:Ok0 GL A β S s a r):Ok0 GL A β S s (orW a b) r:=by
  obtain ⟨v,s1,A1,h1,h2⟩:=h;exact ⟨v,s1,A1,by rw [h1];rfl,h2⟩
theorem Ok.orW {r:T} {a b:Option (Value×CS)} (h:Ok GL A β s a r S'):Ok GL A β s (orW a b) r S':=by
  obtain ⟨v,s1,A1,β1,h1,h2⟩:=h;exact ⟨v,s1,A1,β1,by rw [h1];rfl,h2⟩
theorem z9a (hE:zei P Γ) (hT:TRel GL A β S s) {ρT:ep->T} {ρ:ep->Value} (hρ:∀ x,VT A β (zaa s.obj) (ρT x) (ρ x)) {call:zc8} {o:Oper} {r:T} (ht:zgo P Γ ρT o S=some r):Ok0 GL A β S s (cop P Γ call ρ o s) r:=by
  unfold zgo at ht;split at ht
  . rename_i x ho;cases ht;unfold cop;simp only [ho];exact qg hT (hρ x)
  . rename_i x ho;cases ht;unfold cop;simp only [ho];exact qg hT (hρ x)
  . rename_i c a b ho;split at ht
    . rename_i t hc;cases ht;unfold cop;simp only [ho];have h1:=hρ c;rw [hc] at h1;generalize f1:ρ c=vc at h1;cases h1;rw [yp4]
      cases t with
      |true=>exact qg hT (hρ a)
      |false=>exact qg hT (hρ b)
    . simp at ht
  . rename_i t parts ho;unfold cop;simp only [ho];exact yer hT hρ ht
  . rename_i t n parts ho;unfold cop;simp only [ho];exact zna hT hρ ht
  . rename_i t x ho;unfold cop;simp only [ho];exact ykl hT (hρ x) ht
  . rename_i fn first captured ho
    split at ht
    . rename_i f;cases ht;unfold cop;simp only [ho];have e1:first.map ρ=⟨first.toList.map ρ⟩:=by rw [<- m9]
      have e2:captured.map ρ=⟨captured.toList.map ρ⟩:=by rw [<- m9]
      rw [e1,e2];exact qg hT (.fn (zxm hρ _) (zxm hρ _))
    . simp at ht
  . rename_i t x lo hi mx ho;unfold cop;simp only [ho];exact yeo hT (hρ x) (yj6 hρ _) (yj6 hρ _) (yj6 hρ _) ht
  . rename_i t x k ho;unfold cop;simp only [ho];exact z04 hT (hρ x) ht
  . rename_i t x ix ho;unfold cop;simp only [ho];exact z02 hT (hρ x) (hρ ix) ht
  . rename_i t x ix ho;unfold cop;simp only [ho];exact yeq hT (hρ x) (hρ ix) ht
  . rename_i x k ho;unfold cop;simp only [ho];exact z62 hT (hρ x) ht
  . rename_i op t x ho;unfold cop;simp only [ho];exact yrx hT ho (hρ x) ht
  . rename_i op t x y t2 ho;unfold cop;simp only [ho];exact yps hE hT ho (hρ x) (hρ y) ht
  . rename_i t x k ok ho;unfold cop;simp only [ho];rcases z1y ht with ht|ht
    . exact (ycl hT (hρ x) (hρ k) ht).orW
    . exact z61 hT (hρ x) (hρ k) ht
  . rename_i c ho;split at ht
    . rename_i b hc;obtain ⟨cal,args,tys⟩:=c;simp only at hc ht;subst hc;unfold cop;simp only [ho];exact zsy hT hρ ho ht
    . simp at ht
  . simp at ht
theorem z06 (hE:zei P Γ) (hT:TRel GL A β S s) {own:List Nat} {ρT:ep->T} {ρ:ep->Value} (hρ:∀ x,VT A β (zaa s.obj) (ρT x) (ρ x)) {call:zc8} {o:Oper} {r:T} (ht:zgn P Γ own ρT o S=some (r,S')):Ok GL A β s (cop P Γ call ρ o s) r S':=by
  unfold zgn at ht;split at ht
  . rename_i e ho;unfold cop;simp only [ho];exact yeu hT ht
  . rename_i e x ho;unfold cop;simp only [ho];exact ypr hT (hρ x) ht
  . rename_i t n parts ho;unfold cop;simp only [ho]
    cases hw:ownD own o.dst with
    |true=>rw [hw] at ht;exact z3d hT hρ ht
    |false =>
      rw [hw] at ht;obtain ⟨h1,rfl⟩:=z0u ht;exact (zna hT hρ h1).ok
  . rename_i t x v ho;obtain ⟨h1,rfl⟩:=z85 ht;unfold cop;simp only [ho];exact yem hT (hρ x) (hρ v) h1
  . rename_i t l c ho;unfold cop;simp only [ho];exact z01 hT (hρ l) (hρ c) ht
  . rename_i ho;unfold cop;simp only [ho];exact z60 hT ht
  . rename_i t m k ho;unfold cop;simp only [ho];exact z3c hT (hρ k) (hρ m) ht
  . rename_i t m st v ho;obtain ⟨h1,rfl⟩:=z85 ht;unfold cop;simp only [ho];exact zxr hT (hρ st) (hρ v) (hρ m) h1
  . rename_i c ho;obtain ⟨cal,args,tys⟩:=c;simp only at ht;split at ht
    . split at ht
      . rename_i x y t tx e1 e2;unfold cop;simp only [ho];rw [e1,e2]
        cases hq:srcT Γ tx with
        |false=>rw [hq] at ht;simp at ht
        |true =>
          rw [hq,cond_true] at ht;rw [ygp hq];exact ycm hT (hρ x) (hρ y) ht
      . simp at ht
    . obtain ⟨h1,rfl⟩:=z0u ht;unfold cop;simp only [ho];exact (zsy hT hρ ho h1).ok
    . simp at ht
  . obtain ⟨h1,rfl⟩:=z0u ht;exact (z9a hE hT hρ h1).ok
end
def Call (P:fe) (Γ:Env) (GL:List (Nat×List Value)) (f:jx) (args:List T) (S:TS) (v:T) (S':TS):Prop :=
  ∀ A β s vargs,TRel GL A β S s->VL A β (zaa s.obj) args vargs->Ok GL A β s (ze1 P Γ f vargs s) v S'
def ziz (ops:List Oper) (h:Nat->T):Option (Nat×Bool)->Option Bool
  |none=>some true
  |some (j,want)=>match zp8 ops j with
    |some d=>(match h d with|.bool b=>some (b == want)|.tup _=>some false|_=>none)
    |none=>none
def z2u (P:fe) (Γ:Env) (GL:List (Nat×List Value)) (S:TS) (args:List T) (f:T) (r:T×TS):Option Prop:=match f with
  |.fn k first cap=>some (Call P Γ GL k (first++args++cap) S r.1 r.2)
  |_=>none
def andT (p:Prop):Option (Prop×(Nat->T)×TS)->Option (Prop×(Nat->T)×TS)
  |some (q,h,S)=>some (p/\q,h,S)
  |none=>none
def runT (P:fe) (Γ:Env) (GL:List (Nat×List Value)) (own:List Nat) (ops:List Oper):List Oper->(Nat->T)->TS->List (T×TS)->Option (Prop×(Nat->T)×TS)
  |[],h,S,_=>some (True,h,S)
  |o :: l,h,S,outs=>match ziz ops h o.guard with
    |none=>none
    |some false=>runT P Γ GL own ops l (putT h o.dst (.tup [])) S outs
    |some true=>match o.op with
      |.call ⟨.value f,args,tys⟩=>(match outs with
        |r :: outs=>(match z2u P Γ GL S (args.toList.map (zem GL h)) (zem GL h f) r with
          |some p=>andT p (runT P Γ GL own ops l (putT h o.dst r.1) r.2 outs)
          |none=>none)
        |[]=>none)
      |_=>(match zgn P Γ own (zem GL h) o S with
        |some (t,S1)=>runT P Γ GL own ops l (putT h o.dst t) S1 outs
        |none=>none)
section
variable {GL:List (Nat×List Value)} {A A' A2:Nat->Prop} {β β' β2:Bx} {S S':TS} {s s' s2:CS} {P:fe} {Γ:Env}
theorem ziy {g:Nat->Fam} {ops:List Oper} {h:Nat->T} {N:Nat} {fr:Fr} {o:Oper} {b:Bool} (k:FrOk A β g N h fr) (hg:ziz ops h o.guard=some b):zde ops fr o=b:=by
  unfold ziz at hg;unfold zde;split at hg
  . rename_i hh;cases hg;rw [hh]
  . rename_i j want hh;rw [hh];split at hg
    . rename_i d hd;simp only [hd];split at hg
      . rename_i b' hb;have:=k.slot d;rw [hb] at this;generalize fr.get d=v at this;cases this;simp only [dy] at hg;exact hg
      . rename_i l hb;have:=k.slot d;rw [hb] at this;generalize fr.get d=v at this;cases this;simp only [dy] at hg;exact hg
      . simp at hg
    . simp at hg
def Left (GL:List (Nat×List Value)) (A:Nat->Prop) (β:Bx) (s:CS) (N:Nat) (fr':Fr) (s':CS) (h':Nat->T) (S':TS):Prop :=
  ∃ A' β',FrOk A' β' (zaa s'.obj) N h' fr'/\TRel GL A' β' S' s'/\Stp A β s A' β' s'
theorem Left.trans {N:Nat} {fr' fr2:Fr} {h' h2:Nat->T} {S2:TS} (hl:s.lim<=s.n) (hS:Stp A β s A' β' s') (k:Left GL A' β' s' N fr2 s2 h2 S2):Left GL A β s N fr2 s2 h2 S2:=by
  obtain ⟨A2,β2,k1,k2,k3⟩:=k;exact ⟨A2,β2,k1,k2,hS.trans hl k3⟩
theorem z7f (hE:zei P Γ) {own:List Nat} {ops:List Oper} {N:Nat}:∀ {l:List Oper} {h h':Nat->T} {S S':TS} {outs:List (T×TS)} {ob:Prop} {A:Nat->Prop} {β:Bx} {fr:Fr} {s:CS},ze3 N l=true->FrOk A β (zaa s.obj) N h fr->TRel GL A β S s->runT P Γ GL own ops l h S outs=some (ob,h',S')->ob ->
    ∃ fr' s',runC P Γ (ze1 P Γ) ops l fr s=some (fr',s')/\Left GL A β s N fr' s' h' S'
  |[],h,h',S,S',outs,ob,A,β,fr,s,hd,hF,hT,hr,hob=>by
    simp only [runT,dy,ec] at hr;obtain ⟨rfl,rfl,rfl⟩:=hr;exact ⟨fr,s,rfl,A,β,hF,hT,rh⟩
  |o :: l,h,h',S,S',outs,ob,A,β,fr,s,hd,hF,hT,hr,hob=>by
    have hd':ze3 N l=true/\∀ t,o.dst=some t->t<N:=by
      unfold ze3 at hd ⊢;rw [ig,d8] at hd;refine ⟨hd.2,fun t ht=>?_⟩;have:=hd.1;rw [ht] at this;exact zaf.1 this
    -- one step that is done
    have go:∀ {t:T} {S1:TS} {r:Option (Value×CS)} {l':List (T×TS)} {ob':Prop},Ok GL A β s r t S1->(cop P Γ (ze1 P Γ) (zgp fr) o s=r)->zde ops fr o=true->runT P Γ GL own ops l (putT h o.dst t) S1 l'=some (ob',h',S')->ob'->∃ fr' s',runC P Γ (ze1 P Γ) ops (o :: l) fr s=some (fr',s')/\Left GL A β s N fr' s' h' S':=by
      rintro t S1 r l' ob' ⟨v,s1,A1,β1,rfl,k1,k2,k3⟩ hc hw hrun hob';have hF1:FrOk A1 β1 (zaa s1.obj) N h fr:=hF.mono k3.sub (k3.old hT) k3.bx;obtain ⟨fr',s',e1,e2⟩:=z7f hE hd'.1 (hF1.put hd'.2 k2) k1 hrun hob';refine ⟨fr',s',?_,Left.trans (h':=h) (fr':=fr) hT.le k3 e2⟩;rw [runC]
      have:zcw P Γ (ze1 P Γ) ops o fr s=some (putC fr o.dst v,s1):=by
        unfold zcw;rw [hw,cond_true,hc]
      rw [this];exact e1
    unfold runT at hr;split at hr
    . simp at hr
    . rename_i hg;have hw:=ziy hF hg;obtain ⟨fr',s',e1,e2⟩:=z7f hE hd'.1 (hF.put hd'.2 VT.undf) hT hr hob;refine ⟨fr',s',?_,e2⟩;rw [runC]
      have:zcw P Γ (ze1 P Γ) ops o fr s=some (putC fr o.dst undef,s):=by
        unfold zcw;rw [hw,cond_false]
      rw [this];exact e1
    . rename_i hg;have hw:=ziy hF hg;split at hr
      . rename_i f args tys ho;split at hr
        . rename_i r outs';split at hr
          . rename_i p hp;unfold z2u at hp;split at hp
            . rename_i k first cap hf
              simp only [dy] at hp;subst hp
              cases hrun:runT P Γ GL own ops l (putT h o.dst r.1) r.2 outs' with
              |none=>rw [hrun] at hr;simp [andT] at hr
              |some q =>
                obtain ⟨q1,q2,q3⟩:=q;rw [hrun] at hr;simp only [andT,dy,ec] at hr;obtain ⟨rfl,rfl,rfl⟩:=hr;have hfv:=hF.eval hT f;rw [hf] at hfv;generalize e1:zgp fr f=vf at hfv
                cases hfv with
                |fn h1 h2 =>
                  rename_i va vc;have hargs:=zxm (hF.eval hT) args.toList;have hcall:=hob.1 A β s _ hT ((h1.append hargs).append h2);refine go hcall ?_ hw hrun hob.2;unfold cop;simp only [ho,e1];unfold zmz;rfl
            . simp at hp
          . simp at hr
        . simp at hr
      . split at hr
        . rename_i t S1 hst;exact go (z06 hE hT (hF.eval hT) hst) rfl hw hr hob
        . simp at hr
end
section
variable {GL:List (Nat×List Value)} {A A' A2:Nat->Prop} {β β' β2:Bx} {S S' S2:TS} {s s' s2:CS} {P:fe} {Γ:Env} {N:Nat} {h h' h2:Nat->T} {Q R:Exit->(Nat->T)->TS->Prop}
def TW (P:fe) (Γ:Env) (GL:List (Nat×List Value)) (N:Nat) (c:Code) (h:Nat->T) (S:TS) (Q:Exit->(Nat->T)->TS->Prop):Prop :=
  ∀ A β fr s,FrOk A β (zaa s.obj) N h fr->TRel GL A β S s->W P Γ c fr s fun e fr' s'=>∃ h' S',Left GL A β s N fr' s' h' S'/\Q e h' S'
def onT (k:(Nat->T)->TS->Prop) (Q:Exit->(Nat->T)->TS->Prop) (e:Exit) (h:Nat->T) (S:TS):Prop:=match e with
  |.normal=>k h S
  |e=>Q e h S
def onTB (id:Nat) (Q:Exit->(Nat->T)->TS->Prop) (e:Exit) (h:Nat->T) (S:TS):Prop:=match e with
  |.exit i=>bif er i id then Q .normal h S else Q (.exit i) h S
  |e=>Q e h S
theorem Left.refl {fr:Fr} (hF:FrOk A β (zaa s.obj) N h fr) (hT:TRel GL A β S s):Left GL A β s N fr s h S:=⟨A,β,hF,hT,rh⟩
theorem TW.mono {c:Code} (k:TW P Γ GL N c h S Q) (hq:∀ e h S,Q e h S->R e h S):TW P Γ GL N c h S R:=fun A β fr s hF hT =>
  (k A β fr s hF hT).mono fun e fr' s' ⟨h',S',h1,h2⟩=>⟨h',S',h1,hq _ _ _ h2⟩
theorem TW.skip (k:Q .normal h S):TW P Γ GL N .skip h S Q:=fun A β fr s hF hT=>W.skip ⟨h,S,Left.refl hF hT,k⟩
theorem TW.ret (k:Q .ret h S):TW P Γ GL N .ret h S Q:=fun A β fr s hF hT=>W.ret ⟨h,S,Left.refl hF hT,k⟩
theorem TW.exit {id:Nat} (k:Q (.exit id) h S):TW P Γ GL N (.exit id) h S Q:=fun A β fr s hF hT=>W.exit ⟨h,S,Left.refl hF hT,k⟩
theorem TW.label {l:Nat} (k:Q .normal h S):TW P Γ GL N (.label l) h S Q:=fun A β fr s hF hT=>W.label ⟨h,S,Left.refl hF hT,k⟩
theorem TW.seq {a b:Code} (k:TW P Γ GL N a h S (onT (fun h S=>TW P Γ GL N b h S Q) Q)):TW P Γ GL N (.seq a b) h S Q:=fun A β fr s hF hT=>by
  refine W.seq ((k A β fr s hF hT).mono ?_);rintro e fr' s' ⟨h',S',⟨A',β',k1,k2,k3⟩,hq⟩
  cases e with
  |normal =>
    refine (hq A' β' fr' s' k1 k2).mono ?_;rintro e2 fr2 s2 ⟨h2,S2,l2,q2⟩;exact ⟨h2,S2,Left.trans (h':=h) (fr':=fr) hT.le k3 l2,q2⟩
  |_=>exact ⟨h',S',⟨A',β',k1,k2,k3⟩,hq⟩
theorem TW.cond {c:ep} {t f:Code} {b:Bool} (hb:zem GL h c=.bool b) (k:TW P Γ GL N (bif b then t else f) h S Q):TW P Γ GL N (.cond c t f) h S Q:=fun A β fr s hF hT=>by
  have:=hF.eval hT c;rw [hb] at this;refine W.cond (b:=b) ?_ (k A β fr s hF hT);generalize zgp fr c=v at this;cases this;rfl
theorem TW.block {id:Nat} {b:Code} (k:TW P Γ GL N b h S (onTB id Q)):TW P Γ GL N (.block id b) h S Q:=fun A β fr s hF hT=>by
  refine W.block ((k A β fr s hF hT).mono ?_);rintro e fr' s' ⟨h',S',l,hq⟩
  cases e with
  |exit i =>
    simp only [onB];simp only [onTB] at hq
    cases hb:er i id with
    |true=>rw [hb] at hq;exact ⟨h',S',l,hq⟩
    |false=>rw [hb] at hq;exact ⟨h',S',l,hq⟩
  |_=>exact ⟨h',S',l,hq⟩
theorem TW.scope {b:Code} (k:TW P Γ GL N b h S Q):TW P Γ GL N (.scope b) h S Q:=fun A β fr s hF hT=>W.scope (k A β fr s hF hT)
theorem TW.loop {b:Code} (I:Nat->(Nat->T)->TS->Prop) (hb:∀ n h S,I n h S->TW P Γ GL N b h S (onT (fun h S=>∃ m,m<n/\I m h S) Q)):∀ n h S,I n h S->TW P Γ GL N (.loop b) h S Q:=by
  intro n
  induction n using Nat.strongRecOn with
  |_ n ih =>
    intro h S hI A β fr s hF hT;obtain ⟨e,fr1,s1,h1,h',S',⟨A',β',k1,k2,k3⟩,hq⟩:=hb n h S hI A β fr s hF hT
    cases e with
    |normal =>
      obtain ⟨m,hm,hI'⟩:=hq;obtain ⟨e2,fr2,s2,h3,h2,S2,l2,q2⟩:=ih m hm h' S' hI' A' β' fr1 s1 k1 k2;exact ⟨e2,fr2,s2,Ev.again h1 h3,h2,S2,Left.trans (h':=h) (fr':=fr) hT.le k3 l2,q2⟩
    |_=>exact ⟨_,_,_,Ev.last h1 (by simp),h',S',⟨A',β',k1,k2,k3⟩,hq⟩
theorem TW.region (hE:zei P Γ) {id:Nat} {ops:Array Oper} (own:List Nat) (outs:List (T×TS)) {ob:Prop} (hd:ze3 N ops.toList=true) (hr:runT P Γ GL own ops.toList ops.toList h S outs=some (ob,h',S')) (hob:ob) (hq:Q .normal h' S'):TW P Γ GL N (.region id ops false) h S Q:=fun A β fr s hF hT=>by
  obtain ⟨fr',s',e1,e2⟩:=z7f hE hd hF hT hr hob;exact W.region e1 ⟨h',S',e2,hq⟩
def resT (Γ:Env) (S:TS) (h:Nat->T):List ResultVar->Option (List T)
  |[]=>some []
  |.tmp t :: l=>(match resT Γ S h l with|some vs=>some (h t :: vs)|none=>none)
  |.cell a ty :: l=>(match zuu Γ S ty (h a),resT Γ S h l with|some v,some vs=>some (v :: vs)|_,_=>none)
def tupT:List T->T
  |[v]=>v
  |vs=>.tup vs
theorem z1q:∀ {l:List ResultVar} {vs:List T} {fr:Fr} {s:CS},FrOk A β (zaa s.obj) N h fr->TRel GL A β S s->resT Γ S h l=some vs->∃ ws s',resC Γ fr s l=some (ws,s')/\VL A β (zaa s.obj) vs ws/\TRel GL A β S s'/\Stp A β s A β s'/\s'.obj=s.obj
  |[],vs,fr,s,hF,hT,hr=>by
    simp only [resT,dy] at hr;subst hr;exact ⟨[],s,rfl,.nil,hT,rh,rfl⟩
  |.tmp t :: l,vs,fr,s,hF,hT,hr=>by
    simp only [resT] at hr;split at hr
    . rename_i vs' hv;cases hr;obtain ⟨ws,s',k1,k2,k3,k4,k5⟩:=z1q hF hT hv;exact ⟨_,s',by simp only [resC,k1],.cons (hF.slot t) k2,k3,k4,k5⟩
    . simp at hr
  |.cell a ty :: l,vs,fr,s,hF,hT,hr=>by
    simp only [resT] at hr;split at hr
    . rename_i v vs' hv hvs;cases hr;obtain ⟨ad,i,w,f,q1,q2,q3,q4,q5⟩:=z88 hT (hF.slot a) hv;obtain ⟨ws,s',k1,k2,k3,k4,k5⟩:=z1q (s:={ s with rd:=ins s.lim s.rd f }) hF (hT.read f) hvs;refine ⟨w :: ws,s',?_,.cons q5 k2,k3,(Stp.read q3).trans hT.le k4,k5⟩;simp only [resC,q1,q2,q4,k1]
    . simp at hr
def argT:List T->Nat->(Nat->T)->(Nat->T)
  |[],_,h=>h
  |v :: l,i,h=>argT l (i+1) (tupd h i v)
theorem zkb (v:T) (l:List T) (i:Nat) (h:Nat->T):argT (v :: l) i h=argT l (i+1) (tupd h i v):=rfl
theorem zmv (i:Nat) (h:Nat->T):argT [] i h=h:=rfl
theorem z8y {g:Nat->Fam}:∀ {args:List T} {vargs:List Value} {i:Nat} {h:Nat->T} {fr:Fr},VL A β g args vargs->FrOk A β g N h fr->i+args.length<=N->FrOk A β g N (argT args i h) (Fr.ofArgs vargs i fr)
  |_,_,i,h,fr,.nil,hF,_=>hF
  |_,_,i,h,fr,.cons h1 h2,hF,hl=>by
    rw [ez] at hl;show FrOk A β g N (argT _ (i+1) _) (Fr.ofArgs _ (i+1) (fr.put i _));have hi:i<N:=by omega
    exact z8y (i:=i+1) h2 (hF.put (d:=some i) (fun t ht=>by cases ht;exact hi) h1) (by rw [Nat.add_right_comm];exact hl)
theorem FrOk.start {g:Nat->Fam} (hN:N<=512):FrOk A β g N (fun _=>.junk) ⟨N,Tr.all undef 9⟩:=⟨rfl,hN,fun t=>.junk _⟩
def zpd (GL:List (Nat×List Value)) (v:T) (S:TS) (v':T) (S':TS):Prop :=
  ∀ A β s w,TRel GL A β S s->VT A β (zaa s.obj) v w->∃ A' β',TRel GL A' β' S' s/\VT A' β' (zaa s.obj) v' w/\Stp A β s A' β' s
theorem zpd.refl (v:T) (S:TS):zpd GL v S v S:=fun A β s w hT hv=>⟨A,β,hT,hv,rh⟩
theorem ymq {g:Nat->Fam} {vs:List T} {ws:List Value} (h:VL A β g vs ws):VT A β g (tupT vs) (tupC ws):=by
  cases h with
  |nil=>exact .tup .nil
  |cons h1 h2 =>
    cases h2 with
    |nil=>exact h1
    |cons h3 h4=>exact .tup (.cons h1 (.cons h3 h4))
theorem Call.go {f:jx} {fn:Func} {body:Code} {args:List T} {v:T} {Sf:TS} (N:Nat) (hax:Γ.ax f=none) (hf:Γ.fn.at f=some fn) (hb:fn.body=some body) (hn:fn.ntmps=N) (hN:N<=512) (hl:args.length<=N)
    (k:TW P Γ GL N body (argT args 0 fun _=>.junk) S fun e h' S'=>(e=.normal\/e=.ret)/\∃ vs,resT Γ S' h' fn.results.toList=some vs/\zpd GL (tupT vs) S' v Sf):Call P Γ GL f args S v Sf:=by
  intro A β s vargs hT hargs;obtain ⟨e,fr',s1,h1,h',S',⟨A',β',k1,k2,k3⟩,he,vs,hr,hsh⟩:=k A β _ s (z8y hargs (FrOk.start hN) (by omega)) hT;obtain ⟨ws,s2,r1,r2,r3,r4,r5⟩:=z1q k1 k2 hr;rw [<- r5] at r2;obtain ⟨A2,β2,q1,q2,q3⟩:=hsh A' β' s2 _ r3 (ymq r2);refine ⟨tupC ws,s2,A2,β2,?_,q1,q2,(k3.trans hT.le (r4.trans k2.le q3))⟩;have hlen:=hargs.len;exact zsr hax hf hb (by omega) ⟨e,fr',s1,by rw [hn];exact h1,he,ws,r1,rfl⟩
end
mutual
def T.ids (n:Nat):T->Bool
  |.agg l=>T.idsL n l
  |.tup l=>T.idsL n l
  |.lst _ l=>T.idsL n l
  |.cp l=>T.idsL n l
  |.ptr b _ _=>fw b n
  |.arr b _ _ _ _ _=>fw b n
  |.mp b=>fw b n
  |.fn _ a c=>T.idsL n a && T.idsL n c
  |_=>true
def T.idsL (n:Nat):List T->Bool
  |[]=>true
  |t :: l=>T.ids n t && T.idsL n l
end
mutual
def T.flat:T->Bool
  |.agg l=>T.flatL l
  |.tup l=>T.flatL l
  |.int _ _=>true
  |.bool _=>true
  |.str _=>true
  |.nils=>true
  |.nilp=>true
  |.nilm=>true
  |.nilf=>true
  |.junk=>true
  |_=>false
def T.flatL:List T->Bool
  |[]=>true
  |t :: l=>T.flat t && T.flatL l
end
section
variable {GL:List (Nat×List Value)} {A A' A2:Nat->Prop} {β β' β2:Bx} {S S' S2:TS} {s s' s2:CS} {P:fe} {Γ:Env} {N:Nat} {h h' h2:Nat->T} {Q R:Exit->(Nat->T)->TS->Prop} {g g':Nat->Fam}
theorem zar {n:Nat}:∀ {l l2:List T},T.idsL n (l++l2)=(T.idsL n l && T.idsL n l2)
  |[],l2=>by simp [T.idsL]
  |t :: l,l2=>by simp only [fq,T.idsL,zar,Bool.and_assoc]
theorem yhu {n:Nat} {t:T} (h:t.ids n=true):T.idsL n t.cells=true:=by
  cases t<;>first|exact h | (simp only [gt,T.idsL,h,el])
theorem zlx {n:Nat}:∀ {l:List T},T.idsL n l=true->T.idsL n (l.flatMap gt)=true
  |[],_=>rfl
  |t :: l,h=>by
    simp only [T.idsL,d8] at h;rw [iv,zar,yhu h.1,zlx h.2];rfl
theorem yau {n:Nat}:∀ {l:List T},(∀ t,t∈l->t.ids n=true)->T.idsL n l=true
  |[],_=>rfl
  |t :: l,h=>by
    simp only [T.idsL,d8];exact ⟨h t (by simp),yau fun t ht=>h t (by simp [ht])⟩
mutual
theorem VT.ids {n:Nat} (hβ:∀ b,b<n->β' b=β b):∀ {t:T} {v:Value},t.ids n=true->VT A β g t v->VT A β' g t v
  |_,_,_,.int k n=>.int k n
  |_,_,_,.bool b=>.bool b
  |_,_,_,.str b=>.str b
  |_,_,hi,.agg h=>.agg (VL.ids hβ hi h)
  |_,_,hi,.tup h=>.tup (VL.ids hβ hi h)
  |_,_,_,.lnil=>.lnil
  |_,_,hi,.lst h1 h2 h3 h4 h5 h6 h7 h8=>.lst h1 h2 (VL.ids hβ (zlx hi) h3) h4 h5 h6 h7 h8
  |_,_,_,.nils=>.nils
  |_,_,_,.nilp=>.nilp
  |_,_,_,.nilm=>.nilm
  |_,_,_,.nilf=>.nilf
  |_,_,hi,.ptr h=>.ptr (by rw [hβ _ (zaf.1 hi)];exact h)
  |_,_,hi,.ptrOld h h0 h1 h2=>.ptrOld (by rw [hβ _ (zaf.1 hi)];exact h) h0 h1 h2
  |_,_,hi,.cp h1 h2 h3 h4=>.cp h1 h2 (VL.ids hβ hi h3) h4
  |_,_,hi,.arr h ht=>.arr (by rw [hβ _ (zaf.1 hi)];exact h) ht
  |_,_,hi,.arrNil h=>.arrNil (by rw [hβ _ (zaf.1 hi)];exact h)
  |_,_,hi,.arrOld h h0 h1 h2=>.arrOld (by rw [hβ _ (zaf.1 hi)];exact h) h0 h1 h2
  |_,_,hi,.mp h=>.mp (by rw [hβ _ (zaf.1 hi)];exact h)
  |_,_,hi,.mpOld h h2=>.mpOld (by rw [hβ _ (zaf.1 hi)];exact h) h2
  |_,_,hi,.fn h1 h2=>by
    simp only [T.ids,d8] at hi;exact .fn (VL.ids hβ hi.1 h1) (VL.ids hβ hi.2 h2)
  |_,_,_,.junk v=>.junk v
  |_,_,_,.emp h1 h2 h3 h4=>.emp h1 h2 h3 h4
theorem VL.ids {n:Nat} (hβ:∀ b,b<n->β' b=β b):∀ {l:List T} {vs:List Value},T.idsL n l=true->VL A β g l vs->VL A β' g l vs
  |_,_,_,.nil=>.nil
  |_,_,hi,.cons h k=>by
    simp only [T.idsL,d8] at hi;exact .cons (VT.ids hβ hi.1 h) (VL.ids hβ hi.2 k)
end
mutual
theorem VT.flat:∀ {t:T} {v:Value},t.flat=true->VT A β g t v->VT A' β' g' t v
  |_,_,_,.int k n=>.int k n
  |_,_,_,.bool b=>.bool b
  |_,_,_,.str b=>.str b
  |_,_,hi,.agg h=>.agg (VL.flat hi h)
  |_,_,hi,.tup h=>.tup (VL.flat hi h)
  |_,_,_,.nils=>.nils
  |_,_,_,.nilp=>.nilp
  |_,_,_,.nilm=>.nilm
  |_,_,_,.nilf=>.nilf
  |_,_,_,.junk v=>.junk v
  |_,_,hi,.lnil=>by simp [T.flat] at hi
  |_,_,hi,.lst _ _ _ _ _ _ _ _=>by simp [T.flat] at hi
  |_,_,hi,.ptr _=>by simp [T.flat] at hi
  |_,_,hi,.ptrOld _ _ _ _=>by simp [T.flat] at hi
  |_,_,hi,.cp _ _ _ _=>by simp [T.flat] at hi
  |_,_,hi,.arr _ _=>by simp [T.flat] at hi
  |_,_,hi,.arrNil _=>by simp [T.flat] at hi
  |_,_,hi,.arrOld _ _ _ _=>by simp [T.flat] at hi
  |_,_,hi,.mp _=>by simp [T.flat] at hi
  |_,_,hi,.mpOld _ _=>by simp [T.flat] at hi
  |_,_,hi,.fn _ _=>by simp [T.flat] at hi
  |_,_,hi,.emp _ _ _ _=>by simp [T.flat] at hi
theorem VL.flat:∀ {l:List T} {vs:List Value},T.flatL l=true->VL A β g l vs->VL A' β' g' l vs
  |_,_,_,.nil=>.nil
  |_,_,hi,.cons h k=>by
    simp only [T.flatL,d8] at hi;exact .cons (VT.flat hi.1 h) (VL.flat hi.2 k)
end
def bx0:Bx:=fun _=>none
theorem zj7 {f:Nat}:¬ Own bx0 f:=fun ⟨b,h⟩=>by rcases h with ⟨u,N,h⟩|h<;>simp [bx0] at h
theorem TRel.bare (hT:TRel GL A β S s) (A1:Nat->Prop) (h1:∀ f,A f->A1 f) (h2:∀ f,A1 f->f<s.n):TRel GL A1 bx0 ts0 s :=
  ⟨hT.inr,hT.inv,h2,fun f hf=>absurd hf zj7,fun b b' l l' f hb=>by simp [bx0] at hb,fun b _=>rfl,fun b z N l hb=>by simp [ts0] at hb,fun b l hb=>by simp [ts0] at hb,fun x hx=>⟨h1 _ (hT.glob x hx).1,(hT.glob x hx).2⟩⟩
def Pure (P:fe) (Γ:Env) (GL:List (Nat×List Value)) (f:jx) (args:List T) (v:T):Prop:=T.idsL 0 args=true/\v.ids 0=true/\Call P Γ GL f args ts0 v ts0
def zap (P:fe) (Γ:Env) (GL:List (Nat×List Value)) (f:jx) (args:List T) (S:TS) (v:T):Prop :=
  ∀ A β s vargs,TRel GL A β S s->VL A β (zaa s.obj) args vargs->Ok0 GL A β S s (ze1 P Γ f vargs s) v
theorem zap.call {f:jx} {args:List T} {v:T} (k:zap P Γ GL f args S v):Call P Γ GL f args S v S:=fun A β s vargs hT hv=>(k A β s vargs hT hv).ok
theorem Pure.call {f:jx} {args:List T} {v:T} (k:Pure P Γ GL f args v) (S:TS):zap P Γ GL f args S v:=by
  intro A β s vargs hT hv;obtain ⟨k1,k2,k3⟩:=k;have hT0:=hT.bare A (fun _ h=>h) hT.alt;obtain ⟨w,s',A',β',e1,e2,e3,e4⟩:=k3 A bx0 s vargs hT0 (VL.ids (n:=0) (fun b hb=>absurd hb (by omega)) k1 hv)
  have hc:zl5 A β s A' s':=by
    refine ⟨e4.can,e4.sub,fun f hf=>?_,fun f hf=>e4.keep f hf zj7,fun x hx=>?_,fun x hx=>?_⟩
    . rcases e4.new f hf with q|q|q
      . exact .inl q
      . exact .inr q
      . exact absurd q zj7
    . rcases e4.rd x hx with q|⟨q,q2⟩
      . exact .inl q
      . exact .inr ⟨q,.inl (q2.resolve_right zj7)⟩
    . rcases e4.wr x hx with q|⟨_,q⟩
      . exact q
      . exact absurd q zj7
  exact ⟨w,s',A',e1,hc.rel hT e2.inr e2.inv e2.alt,VT.ids (n:=0) (fun b hb=>absurd hb (by omega)) k2 e3,hc⟩
def yrh (S:TS) (t t':T):Prop:=t=t'\/∃ b e off len cap N z l L,t=.arr b e off len cap N/\t'=.lst e L/\S.box b=.cells z N l/\0<e/\off+len*e<=N/\(l.drop off).take (len*e)=L.flatMap gt/\(∀ t,t∈L->t.cells.length=e)/\L.length=len/\len<=cap
def Lend (S:TS):List T->List T->Prop
  |[],[]=>True
  |t :: l,t' :: l'=>yrh S t t'/\Lend S l l'
  |_,_=>False
theorem yla (hT:TRel GL A β S s) {t t':T} {v:Value} (hi:t'.ids 0=true) (hl:yrh S t t') (hv:VT A β (zaa s.obj) t v):VT (fun f=>A f\/Own β f) bx0 (zaa s.obj) t' v:=by
  rcases hl with rfl|⟨b,e,off,len,cap,N,z,l,L,rfl,rfl,hS,he,hN,hL,hs,hlen,hcap⟩
  . exact (VT.ids (n:=0) (β':=bx0) (fun b hb=>absurd hb (by omega)) hi hv).mono (fun _ h=>.inl h) (fun _ _=>rfl) (jt _)
  . rcases zi8 hT hS hv with ⟨f,u,rfl,hb,htag⟩|⟨rfl,hb,rfl,rfl,rfl,rfl⟩
    . obtain ⟨hlN,hc⟩:=hT.cells b z N l hS;rcases hc with ⟨hb2,_,_⟩|⟨f',u',cs,rest,hb2,hz,hat,hvl,hone⟩
      . rw [hb] at hb2;simp at hb2
      rw [hb] at hb2;cases hb2;have hcl:=hvl.len
      have hrow:zcb (zaa s.obj f).rows u=some cs:=by
        rw [hat];show zcb ((u,cs) :: rest) u=some cs;unfold zcb;rw [jh];rfl
      have h1:VL A β (zaa s.obj) (L.flatMap gt) ((cs.drop off).take (len*e)):=by rw [<- hL];exact (hvl.drop off).take _
      have h2:VL (fun f=>A f\/Own β f) bx0 (zaa s.obj) (L.flatMap gt) ((cs.drop off).take (len*e)) :=
        (VL.ids (n:=0) (β':=bx0) (fun b hb=>absurd hb (by omega)) (zlx hi) h1).mono (fun _ h=>.inl h) (fun _ _=>rfl) (jt _)
      have h3:((cs.drop off).take (len*e)).length=len*e:=by rw [gi,ir];omega
      have:=VT.lst (A:=fun f=>A f\/Own β f) (β:=bx0) (g:=zaa s.obj) (off:=off) (cap:=cap) (.inr (zcv hb)) hrow h2 hs he (by rw [h3]) htag (by omega);rw [hlen] at this;exact this
    . have:L=[]:=jk hlen;subst this;exact .lnil
theorem yg9 (hT:TRel GL A β S s):∀ {l l':List T} {vs:List Value},T.idsL 0 l'=true->Lend S l l'->VL A β (zaa s.obj) l vs->VL (fun f=>A f\/Own β f) bx0 (zaa s.obj) l' vs
  |[],[],_,_,_,.nil=>.nil
  |t :: l,t' :: l',_,hi,hl,.cons h1 h2=>by
    simp only [T.idsL,d8] at hi;exact .cons (yla hT hi.1 hl.1 h1) (yg9 hT hi.2 hl.2 h2)
  |[],_ :: _,_,_,hl,_=>hl.elim
  |_ :: _,[],_,_,hl,_=>hl.elim
theorem Pure.lend {f:jx} {args args':List T} {v:T} (k:Pure P Γ GL f args' v) (hl:Lend S args args') (hv:v.flat=true):zap P Γ GL f args S v:=by
  intro A β s vargs hT hva;obtain ⟨k1,k2,k3⟩:=k;have hA1:∀ f,(A f\/Own β f)->f<s.n:=fun f hf=>hf.elim (hT.alt f) fun h=>(hT.dis f h).1;have hT0:=hT.bare (fun f=>A f\/Own β f) (fun _ h=>.inl h) hA1;obtain ⟨w,s',A',β',e1,e2,e3,e4⟩:=k3 _ bx0 s vargs hT0 (yg9 hT k1 hl hva)
  have hc:zl5 A β s A s':=by
    refine ⟨e4.can,fun _ h=>h,fun f hf=>.inl hf,fun f hf=>e4.keep f hf zj7,fun x hx=>?_,fun x hx=>?_⟩
    . rcases e4.rd x hx with q|⟨q,q2⟩
      . exact .inl q
      . exact .inr ⟨q,q2.resolve_right zj7⟩
    . rcases e4.wr x hx with q|⟨_,q⟩
      . exact q
      . exact absurd q zj7
  exact ⟨w,s',A,e1,hc.rel hT e2.inr e2.inv (fun f hf=>fh (hT.alt f hf) e4.can.n),e3.flat hv,hc⟩
def bcut (β:Bx) (n:Nat):Bx:=fun b=>if b<n then β b else none
def zh6 (n:Nat):Box->Bool
  |.gone=>true
  |.cells _ _ l=>T.idsL n l
  |.map l=>T.idsL n (l.map (·.1)) && T.idsL n (l.map (·.2))
def zmw (S1 Sf:TS):Prop:=Sf.n<=S1.n/\∀ b,Sf.box b=.gone\/(b<Sf.n/\Sf.box b=S1.box b/\zh6 Sf.n (S1.box b)=true)
theorem TRel.cut (hT:TRel GL A β S s) (hk:zmw S S2):TRel GL A (bcut β S2.n) S2 s:=by
  have hat:∀ b,b<S2.n->bcut β S2.n b=β b:=fun b hb=>zAc hb
  have hsub:∀ b l,bcut β S2.n b=some l->β b=some l:=fun b l h=>by
    unfold bcut at h;split at h
    . exact h
    . simp at h
  have hown:∀ f,Own (bcut β S2.n) f->Own β f:=fun f ⟨b,hb⟩=>⟨b,hb.imp (fun ⟨u,N,h⟩=>⟨u,N,hsub _ _ h⟩) fun h=>hsub _ _ h⟩;refine ⟨hT.inr,hT.inv,hT.alt,fun f hf=>hT.dis f (hown f hf),fun b b' l l' f hb hb'=>hT.inj b b' l l' f (hsub _ _ hb) (hsub _ _ hb'),fun b hb=>zAd (by omega),fun b z N l hb=>?_,fun b l hb=>?_,hT.glob⟩
  . rcases hk.2 b with q|⟨q1,q2,q3⟩
    . rw [q] at hb;simp at hb
    . rw [q2] at hb;obtain ⟨c1,c2⟩:=hT.cells b z N l hb;rw [hb] at q3;refine ⟨c1,?_⟩;rcases c2 with ⟨d1,d2,d3⟩|⟨f,u,cs,rest,d1,d2,d3,d4,d5⟩
      . exact .inl ⟨by rw [hat b q1];exact d1,d2,d3⟩
      . exact .inr ⟨f,u,cs,rest,by rw [hat b q1];exact d1,d2,d3,VL.ids hat q3 d4,d5⟩
  . rcases hk.2 b with q|⟨q1,q2,q3⟩
    . rw [q] at hb;simp at hb
    . rw [q2] at hb;obtain ⟨r,es,c1,c2,c3,c4⟩:=hT.maps b l hb;rw [hb] at q3;simp only [zh6,d8] at q3;exact ⟨r,es,by rw [hat b q1];exact c1,c2,VL.ids hat q3.1 c3,VL.ids hat q3.2 c4⟩
theorem Call.enter {f:jx} {fn:Func} {body:Code} {args:List T} {v:T} {Sf:TS} (N:Nat) (hax:Γ.ax f=none) (hf:Γ.fn.at f=some fn) (hb:fn.body=some body) (hn:fn.ntmps=N) (hN:N<=512) (hl:args.length<=N) (hSf:S.n<=Sf.n) (hv:v.ids Sf.n=true)
    (k:TW P Γ GL N body (argT args 0 fun _=>.junk) S fun e h' S'=>(e=.normal\/e=.ret)/\∃ vs,resT Γ S' h' fn.results.toList=some vs/\∃ S1,zpd GL (tupT vs) S' v S1/\zmw S1 Sf):Call P Γ GL f args S v Sf:=by
  intro A β s vargs hT hargs;obtain ⟨e,fr',s1,h1,h',S',⟨A',β',k1,k2,k3⟩,he,vs,hr,S1,hsh,hkp⟩:=k A β _ s (z8y hargs (FrOk.start hN) (by omega)) hT;obtain ⟨ws,s2,r1,r2,r3,r4,r5⟩:=z1q k1 k2 hr;rw [<- r5] at r2;obtain ⟨A2,β2,q1,q2,q3⟩:=hsh A' β' s2 _ r3 (ymq r2);have hall:Stp A β s A2 β2 s2:=k3.trans hT.le (r4.trans k2.le q3);have hat:∀ b,b<Sf.n->bcut β2 Sf.n b=β2 b:=fun b hb=>zAc hb
  have hsub:∀ b l,bcut β2 Sf.n b=some l->β2 b=some l:=fun b l h=>by
    unfold bcut at h;split at h
    . exact h
    . simp at h
  refine ⟨tupC ws,s2,A2,bcut β2 Sf.n,?_,q1.cut hkp,q2.ids hat hv,hall.can,hall.sub,hall.new,fun f hf=>?_,hall.keep,fun b l hb=>?_,hall.rd,hall.wr⟩
  . have hlen:=hargs.len;exact zsr hax hf hb (by omega) ⟨e,fr',s1,by rw [hn];exact h1,he,ws,r1,rfl⟩
  . obtain ⟨b,hb⟩:=hf;exact hall.own f ⟨b,hb.imp (fun ⟨u,N,h⟩=>⟨u,N,hsub _ _ h⟩) fun h=>hsub _ _ h⟩
  . obtain ⟨l',c1,c2⟩:=hall.bx b l hb
    have:b<S.n:=by
      by_cases hh:b<S.n
      . exact hh
      . rw [hT.next b (by omega)] at hb;simp at hb
    exact ⟨l',by rw [hat b (by omega)];exact c1,c2⟩
theorem zmw.none (S:TS):zmw S ts0:=⟨gb _,fun b=>.inl rfl⟩
theorem Pure.enter {f:jx} {fn:Func} {body:Code} {args:List T} {v:T} (N:Nat) (hax:Γ.ax f=none) (hf:Γ.fn.at f=some fn) (hb:fn.body=some body) (hn:fn.ntmps=N) (hN:N<=512) (hl:args.length<=N) (ha:T.idsL 0 args=true) (hv:v.ids 0=true)
    (k:TW P Γ GL N body (argT args 0 fun _=>.junk) ts0 fun e h' S'=>(e=.normal\/e=.ret)/\resT Γ S' h' fn.results.toList=some [v]):Pure P Γ GL f args v :=
  ⟨ha,hv,Call.enter N hax hf hb hn hN hl (ei _) hv (k.mono fun e h' S' ⟨h1,h2⟩=>⟨h1,[v],h2,S',zpd.refl _ _,zmw.none S'⟩)⟩
theorem Pure.enterN {f:jx} {fn:Func} {body:Code} {args:List T} {vs:List T} (N:Nat) (hax:Γ.ax f=none) (hf:Γ.fn.at f=some fn) (hb:fn.body=some body) (hn:fn.ntmps=N) (hN:N<=512) (hl:args.length<=N) (ha:T.idsL 0 args=true) (hv:(tupT vs).ids 0=true)
    (k:TW P Γ GL N body (argT args 0 fun _=>.junk) ts0 fun e h' S'=>(e=.normal\/e=.ret)/\resT Γ S' h' fn.results.toList=some vs):Pure P Γ GL f args (tupT vs) :=
  ⟨ha,hv,Call.enter N hax hf hb hn hN hl (ei _) hv (k.mono fun e h' S' ⟨h1,h2⟩=>⟨h1,vs,h2,S',zpd.refl _ _,zmw.none S'⟩)⟩
theorem TRel.dead (hT:TRel GL A β S s) {b:Nat} {l0:Loc} (hb:β b=some l0) (A':Nat->Prop) (hA:∀ f,A f->A' f) (hA2:∀ f,A' f->A f\/l0.fam=some f) :
    TRel GL A' (bnew β b .dead) (S.set b .gone) s/\Stp A β s A' (bnew β b .dead) s:=by
  have hse:bnew β b .dead b=some .dead:=zAc rfl;have hne:∀ b',b'≠b->bnew β b .dead b'=β b':=fun b' hb'=>zAd hb'
  have hle:Bx.le β (bnew β b .dead):=fun i x hx=>by
    by_cases hi:i=b
    . subst hi;exact ⟨.dead,hse,by cases x<;>simp [Loc.le]⟩
    . exact ⟨x,by rw [hne i hi];exact hx,Loc.le_refl x⟩
  have hfam:∀ f,l0.fam=some f->Own β f:=fun f hf=>by
    cases l0 with
    |live f' u N=>simp [nj] at hf;subst hf;exact zcv hb
    |map r=>simp [nj] at hf;subst hf;exact zf3 hb
    |nil=>simp [nj] at hf
    |dead=>simp [nj] at hf
  have hown:∀ f,Own (bnew β b .dead) f->Own β f/\l0.fam≠some f:=fun f ⟨b',hb'⟩=>by
    by_cases hi:b'=b
    . subst hi;rw [hse] at hb';rcases hb' with ⟨u,N,hb'⟩|hb'<;>simp at hb'
    . rw [hne b' hi] at hb';refine ⟨⟨b',hb'⟩,fun hh=>hi ?_⟩;rcases hb' with ⟨u,N,hb'⟩|hb'
      . exact hT.inj b' b _ l0 f hb' hb rfl hh
      . exact hT.inj b' b _ l0 f hb' hb rfl hh
  have hblt:b<S.n:=by
    by_cases hh:b<S.n
    . exact hh
    . rw [hT.next b (by omega)] at hb;simp at hb
  refine ⟨⟨hT.inr,hT.inv,fun f hf=>?_,fun f hf=>?_,fun b1 b2 l1 l2 f h1 h2 h3 h4=>?_,fun b' hb'=>?_,fun b' z N l hb'=>?_,fun b' l hb'=>?_,fun x hx=>⟨hA _ (hT.glob x hx).1,(hT.glob x hx).2⟩⟩,
    i6 _,hA,fun f hf=>(hA2 f hf).imp id fun q=>.inr (hfam f q),fun f hf=>.inl (hown f hf).1,fun _ _ _=>rfl,hle,fun _ h=>.inl h,fun _ h=>.inl h⟩
  . rcases hA2 f hf with q|q
    . exact hT.alt f q
    . exact (hT.dis f (hfam f q)).1
  . obtain ⟨q1,q2⟩:=hown f hf;refine ⟨(hT.dis f q1).1,fun hh=>?_⟩;rcases hA2 f hh with q|q
    . exact (hT.dis f q1).2 q
    . exact q2 q
  . by_cases e1:b1=b
    . subst e1;rw [hse] at h1;cases h1;simp [nj] at h3
    . by_cases e2:b2=b
      . subst e2;rw [hse] at h2;cases h2;simp [nj] at h4
      . rw [hne b1 e1] at h1;rw [hne b2 e2] at h2;exact hT.inj b1 b2 l1 l2 f h1 h2 h3 h4
  . have:S.n<=b':=hb';rw [hne b' (by omega)];exact hT.next b' this
  . by_cases hi:b'=b
    . subst hi;rw [iu] at hb';simp at hb'
    . rw [gy _ _ hi] at hb';exact (hT.cells b' z N l hb').mono hA (fun _ _=>rfl) hle (hne b' hi) fun _ _ _ _=>rfl
  . by_cases hi:b'=b
    . subst hi;rw [iu] at hb';simp at hb'
    . rw [gy _ _ hi] at hb';exact (hT.maps b' l hb').mono hA (fun _ _=>rfl) hle (hne b' hi) fun _ _=>rfl
theorem TRel.freeze (hT:TRel GL A β S s) {b N:Nat} {z:Bool} {l:List T} (hS:S.box b=.cells z N l) :
    ∃ A' β',TRel GL A' β' (S.set b .gone) s/\Stp A β s A' β' s/\∀ {e off len cap:Nat} {v:Value} {L:List T},VT A β (zaa s.obj) (.arr b e off len cap N) v->0<e->off+len*e<=N->(l.drop off).take (len*e)=L.flatMap gt->(∀ t,t∈L->t.cells.length=e)->L.length=len->len<=cap->VT A' β' (zaa s.obj) (.lst e L) v:=by
  obtain ⟨hlN,hc⟩:=hT.cells b z N l hS;rcases hc with ⟨hb,hN,_⟩|⟨f,u,cs,rest,hb,hz,hat,hvl,hone⟩
  . obtain ⟨k1,k2⟩:=hT.dead hb A (fun _ h=>h) (fun _ h=>.inl h);refine ⟨_,_,k1,k2,fun {e off len cap v L} hv he hoff hL hs hlen hcap=>?_⟩;rcases zi8 hT hS hv with ⟨f,u,rfl,hb',_⟩|⟨rfl,_,rfl,rfl,rfl,_⟩
    . rw [hb] at hb';simp at hb'
    . have:L=[]:=jk hlen;subst this;exact .lnil
  . obtain ⟨k1,k2⟩:=hT.dead hb (fun k=>A k\/k=f) (fun _ h=>.inl h) (fun k hk=>hk.imp id fun q=>by rw [q];rfl);refine ⟨_,_,k1,k2,fun {e off len cap v L} hv he hoff hL hs hlen hcap=>?_⟩;rcases zi8 hT hS hv with ⟨f',u',rfl,hb',htag⟩|⟨rfl,hb',_⟩
    . rw [hb] at hb';cases hb';have hcl:=hvl.len
      have hrow:zcb (zaa s.obj f).rows u=some cs:=by
        rw [hat];show zcb ((u,cs) :: rest) u=some cs;unfold zcb;rw [jh];rfl
      have h1:VL A β (zaa s.obj) (L.flatMap gt) ((cs.drop off).take (len*e)):=by rw [<- hL];exact (hvl.drop off).take _
      have h3:((cs.drop off).take (len*e)).length=len*e:=by rw [gi,ir];omega
      have:=VT.lst (A:=fun k=>A k\/k=f) (β:=bnew β b .dead) (g:=zaa s.obj) (off:=off) (cap:=cap) (.inr rfl) hrow (h1.mono (fun _ h=>.inl h) (fun _ _=>rfl) k2.bx) hs he (by rw [h3]) htag (by omega);rw [hlen] at this;exact this
    . rw [hb] at hb';simp at hb'
theorem TW.freeze {c:Code} (t:Nat) {b e off len cap M:Nat} {z:Bool} {l:List T} (L:List T) (ht:h t=.arr b e off len cap M) (hS:S.box b=.cells z M l) (he:0<e) (hoff:off+len*e<=M) (hL:(l.drop off).take (len*e)=L.flatMap gt) (hs:∀ t,t∈L->t.cells.length=e) (hlen:L.length=len) (hcap:len<=cap)
    (k:TW P Γ GL N c (tupd h t (.lst e L)) (S.set b .gone) Q):TW P Γ GL N c h S Q:=by
  intro A β fr s hF hT;obtain ⟨A',β',k1,k2,k3⟩:=hT.freeze hS;have hv:=hF.slot t;rw [ht] at hv
  have hF':FrOk A' β' (zaa s.obj) N (tupd h t (.lst e L)) fr:=⟨hF.nt,hF.le,fun u=>by
    by_cases hu:u=t
    . subst hu;rw [zhr];exact k3 hv he hoff hL hs hlen hcap
    . rw [zl9 _ _ _ _ hu];exact k2.vt hT (hF.slot u)⟩
  refine (k A' β' fr s hF' k1).mono ?_;rintro e2 fr2 s2 ⟨h2,S2,l2,q2⟩;exact ⟨h2,S2,Left.trans (h':=h) (fr':=fr) hT.le k2 l2,q2⟩
theorem TW.vec {c:Code} (t e:Nat) (ht:h t=.nils) (k:TW P Γ GL N c (tupd h t (.arr S.n e 0 0 0 0)) (S.add (.cells false 0 [])) Q):TW P Γ GL N c h S Q:=by
  intro A β fr s hF hT;have hv:=hF.slot t;rw [ht] at hv;have hb0:β S.n=none:=hT.next _ (ei _)
  have hle:Bx.le β (bnew β S.n .nil):=zxg hb0;have hse:bnew β S.n .nil S.n=some .nil:=zAc rfl;have hne:∀ b',b'≠S.n->bnew β S.n .nil b'=β b':=fun b' hb'=>zAd hb'
  have hown:∀ f,Own (bnew β S.n .nil) f->Own β f:=fun f ⟨b',hb'⟩=>by
    by_cases hi:b'=S.n
    . subst hi;rw [hse] at hb';rcases hb' with ⟨u,N,hb'⟩|hb'<;>simp at hb'
    . rw [hne b' hi] at hb';exact ⟨b',hb'⟩
  have hst:Stp A β s A (bnew β S.n .nil) s:=⟨i6 _,fun _ h=>h,fun _ h=>.inl h,fun f hf=>.inl (hown f hf),fun _ _ _=>rfl,hle,fun _ h=>.inl h,fun _ h=>.inl h⟩
  have hT':TRel GL A (bnew β S.n .nil) (S.add (.cells false 0 [])) s:=by
    refine ⟨hT.inr,hT.inv,hT.alt,fun f hf=>hT.dis f (hown f hf),fun b1 b2 l1 l2 f h1 h2 h3 h4=>?_,fun b' hb'=>?_,fun b' z N l hb'=>?_,fun b' l hb'=>?_,hT.glob⟩
    . by_cases e1:b1=S.n
      . subst e1;rw [hse] at h1;cases h1;simp [nj] at h3
      . by_cases e2:b2=S.n
        . subst e2;rw [hse] at h2;cases h2;simp [nj] at h4
        . rw [hne b1 e1] at h1;rw [hne b2 e2] at h2;exact hT.inj b1 b2 l1 l2 f h1 h2 h3 h4
    . have:S.n+1<=b':=hb';rw [hne b' (by omega)];exact hT.next b' (by omega)
    . by_cases hi:b'=S.n
      . subst hi;rw [TS.add_same] at hb';cases hb';exact ⟨rfl,.inl ⟨hse,rfl,rfl⟩⟩
      . rw [TS.add_ne _ _ hi] at hb';exact (hT.cells b' z N l hb').mono (fun _ h=>h) (fun _ _=>rfl) hle (hne b' hi) fun _ _ _ _=>rfl
    . by_cases hi:b'=S.n
      . subst hi;rw [TS.add_same] at hb';cases hb'
      . rw [TS.add_ne _ _ hi] at hb';exact (hT.maps b' l hb').mono (fun _ h=>h) (fun _ _=>rfl) hle (hne b' hi) fun _ _=>rfl
  have hF':FrOk A (bnew β S.n .nil) (zaa s.obj) N (tupd h t (.arr S.n e 0 0 0 0)) fr:=⟨hF.nt,hF.le,fun u=>by
    by_cases hu:u=t
    . subst hu;rw [zhr];generalize fr.get u=w at hv;cases hv;exact .arrNil hse
    . rw [zl9 _ _ _ _ hu];exact hst.vt hT (hF.slot u)⟩
  refine (k A _ fr s hF' hT').mono ?_;rintro e2 fr2 s2 ⟨h2,S2,l2,q2⟩;exact ⟨h2,S2,Left.trans (h':=h) (fr':=fr) hT.le hst l2,q2⟩
end
def zi3:Op->Bool
  |.move _=>true
  |.assign _=>true
  |.pick _ _ _=>true
  |.build _ _=>true
  |.makeFunc _ _ _=>true
  |.slice _ _ _ _ _=>true
  |.fieldAddr _ _ _=>true
  |.indexAddr _ _ _=>true
  |.index _ _ _=>true
  |.extract _ _=>true
  |.unOp _ _ _=>true
  |.binOp _ _ _ _ _=>true
  |_=>false
def zjh:Op->Bool
  |.alloc _=>true
  |.box _ _=>true
  |.buildSlice _ _ _=>true
  |.makeSlice _ _ _=>true
  |o=>zi3 o
section
variable {GL:List (Nat×List Value)} {A A' A0:Nat->Prop} {β β':Bx} {S S':TS} {s s' s2:CS} {P:fe} {Γ:Env} {N:Nat} {h h':Nat->T} {call:zc8} {ρ:ep->Value} {o:Oper} {v:Value}
theorem znn {r:Option Value} (hc:retC s r=some (v,s')):s'=s:=by
  unfold retC at hc;split at hc<;>first | (cases hc;rfl) | (simp at hc)
theorem zvw {r:Option Value} (hc:zh2 P ρ o s r=some (v,s')):s'=s:=by
  unfold zh2 at hc;split at hc
  . cases hc;rfl
  . exact znn hc
theorem z6p {r:Option (List Value)} (hc:aggC s r=some (v,s')):s'=s:=by
  unfold aggC at hc;split at hc<;>first | (cases hc;rfl) | (simp at hc)
theorem z5z {size:Nat} {ex:Bool} {a:Addr} {b:Option (Nat×Nat×Nat)} (hc:cutC s size ex a b=some (v,s')):s'=s:=by
  unfold cutC at hc;split at hc
  . rename_i l hh m
    cases hq:(er (Addr.ver a % 1024) 0 || (!ex && er (Addr.ver a % 1024) (size+1))) with
    |false=>rw [hq] at hc;simp at hc
    |true=>rw [hq] at hc;cases hc;rfl
  . simp at hc
theorem zxa {d:TypeDesc} {a:Addr} {lo hi mx:Option Value} (hc:zpq Γ s d a lo hi mx=some (v,s')):s'=s:=by
  unfold zpq at hc;split at hc
  . split at hc
    . rw [zcr] at hc;split at hc
      . exact z5z hc
      . simp at hc
    . simp at hc
  . simp at hc
theorem z4c {t:fc} {x:Value} {lo hi mx:Option Value} (hc:zdy Γ s t x lo hi mx=some (v,s')):s'=s:=by
  unfold zdy at hc;split at hc
  . split at hc
    . rename_i b;split at hc
      . cases hq:mx.isNone with
        |false=>rw [hq] at hc;simp at hc
        |true =>
          rw [hq,cond_true] at hc;unfold ybp at hc;split at hc<;>first | (cases hc;rfl) | (simp at hc)
      . simp at hc
    . split at hc
      . split at hc
        . split at hc
          . split at hc<;>first | (cases hc;rfl) | (simp at hc)
          . simp at hc
        . split at hc
          . exact z5z hc
          . simp at hc
      . simp at hc
    . split at hc
      . split at hc
        . exact zxa hc
        . simp at hc
      . exact zxa hc
    . simp at hc
  . simp at hc
theorem zyq {size k n:Nat} {a:Addr} (hc:ztt s size k n a=some (v,s')):s'=s:=by
  unfold ztt at hc
  cases hq:fw k n with
  |false=>rw [hq] at hc;simp at hc
  |true=>rw [hq] at hc;cases hc;rfl
theorem zzf (hm:zi3 o.op=true) (hc:cop P Γ call ρ o s=some (v,s')):s'=s:=by
  obtain ⟨d,op,ty,pos,e,g⟩:=o;unfold cop at hc;simp only at hm hc
  cases op with
  |move x=>cases hc;rfl
  |assign x=>cases hc;rfl
  |pick c a b =>
    simp only at hc;unfold zs9 at hc
    split at hc<;>first | (cases hc;rfl) | (simp at hc)
  |build t parts =>
    simp only at hc;unfold zi2 at hc;split at hc
    . split at hc
      . rename_i fs _;rw [zcr] at hc;split at hc
        . exact z6p hc
        . simp at hc
      . split at hc
        . exact z6p hc
        . simp at hc
      . simp at hc
    . simp at hc
  |makeFunc fn a b =>
    cases fn with
    |func f=>cases hc;rfl
    |_=>simp at hc
  |slice t x lo hi mx=>exact z4c hc
  |fieldAddr t x k =>
    simp only at hc;unfold zdg at hc;split at hc
    . split at hc
      . split at hc
        . split at hc
          . rename_i off size _
            cases hq:er size 0 with
            |true=>rw [hq] at hc;simp at hc
            |false=>rw [hq] at hc;cases hc;rfl
          . simp at hc
        . simp at hc
      . simp at hc
    . simp at hc
  |indexAddr t x k =>
    simp only at hc;unfold zb5 at hc;split at hc
    . split at hc
      . split at hc
        . split at hc
          . exact zyq hc
          . simp at hc
        . simp at hc
      . split at hc
        . split at hc
          . exact zyq hc
          . simp at hc
        . simp at hc
      . simp at hc
    . simp at hc
  |index t x k =>
    simp only at hc;unfold zk5 at hc;split at hc
    . split at hc
      . split at hc
        . split at hc
          . rw [Bool.cond_eq_ite] at hc;split at hc
            . exact znn hc
            . simp at hc
          . simp at hc
        . simp at hc
      . split at hc
        . split at hc<;>first | (cases hc;rfl) | (simp at hc)
        . simp at hc
      . simp at hc
    . simp at hc
  |extract x k =>
    simp only at hc;unfold zgu at hc;split at hc
    . exact znn hc
    . simp at hc
  |unOp op t x=>exact zvw hc
  |binOp op t x y t2 =>
    simp only at hc;unfold zls at hc;split at hc
    . cases hc;rfl
    . exact zvw hc
  |_=>simp [zi3] at hm
theorem zor {tag:Nat} {cs:List Value} {a:Addr} (hc:s.newRow tag cs=some (a,s')):s'.rd=s.rd/\s'.wr=s.wr:=by
  unfold CS.newRow at hc;rw [zcr] at hc;split at hc
  . cases hc;exact ⟨rfl,rfl⟩
  . simp at hc
theorem z94 {r:Option (Addr×CS)} (hr:∀ a t,r=some (a,t)->t.rd=s.rd/\t.wr=s.wr) (hc:ptrC r=some (v,s')):s'.rd=s.rd/\s'.wr=s.wr:=by
  unfold ptrC at hc;split at hc
  . cases hc;exact hr _ _ rfl
  . simp at hc
theorem zyv {l c:Nat} {r:Option (Addr×CS)} (hr:∀ a t,r=some (a,t)->t.rd=s.rd/\t.wr=s.wr) (hc:zja l c r=some (v,s')):s'.rd=s.rd/\s'.wr=s.wr:=by
  unfold zja at hc;split at hc
  . cases hc;exact hr _ _ rfl
  . simp at hc
theorem z7k (hm:zjh o.op=true) (hc:cop P Γ call ρ o s=some (v,s')):s'.rd=s.rd/\s'.wr=s.wr:=by
  by_cases hq:zi3 o.op=true
  . rw [zzf hq hc];exact ⟨rfl,rfl⟩
  obtain ⟨d,op,ty,pos,e,g⟩:=o;unfold cop at hc;simp only at hm hc hq
  cases op with
  |alloc e =>
    simp only at hc;unfold zk6 at hc;split at hc
    . exact z94 (fun a t h=>zor h) hc
    . simp at hc
  |box e x=>exact z94 (fun a t h=>zor h) hc
  |buildSlice t n parts =>
    simp only at hc;unfold zct at hc;split at hc
    . rename_i j _
      cases hb:(Nat.ble (n*j.size) 16777216 && fw 0 j.size) with
      |false=>rw [hb] at hc;simp at hc
      |true =>
        rw [hb,cond_true] at hc;split at hc
        . exact zyv (fun a t h=>zor h) hc
        . simp at hc
    . simp at hc
  |makeSlice t l c =>
    simp only at hc;unfold zfm at hc;split at hc
    . rename_i j l' c' _ _ _
      cases hb:(Nat.ble l' c' && Nat.ble (c'*(j.bytes+1)) 1000000000 && fw 0 j.size) with
      |false=>rw [hb] at hc;simp at hc
      |true =>
        rw [hb,cond_true] at hc;exact zyv (fun a t h=>zor h) hc
    . simp at hc
  |_=>simp_all [zjh,zi3]
def ytr (o:Oper) (x:Lg):Prop:=(zi3 o.op=true->x.rd=[]/\x.wr=[]/\x.lo=x.hi)/\(zjh o.op=true->x.rd=[]/\x.wr=[])
theorem zug {ops:List Oper}:∀ {l:List Oper} {fr fr':Fr} {s s':CS} {L:List Lg},drawC P Γ call ops l fr s=some (L,fr',s')->L.length=l.length/\∀ (j:Nat) (o:Oper) (x:Lg),l[j]?=some o->L[j]?=some x->ytr o x
  |[],fr,fr',s,s',L,hc=>by
    simp only [drawC,dy,ec] at hc;obtain ⟨rfl,_,_⟩:=hc;exact ⟨rfl,fun j o x hj=>by simp at hj⟩
  |o :: l,fr,fr',s,s',L,hc=>by
    simp only [drawC] at hc;split at hc
    . rename_i fr1 t h1;split at hc
      . rename_i logs fr2 s2 h2;cases hc;obtain ⟨i1,i2⟩:=zug h2;refine ⟨by simp [i1],fun j o' x hj hx=>?_⟩
        cases j with
        |zero =>
          simp only [fx,dy] at hj hx;subst hj;subst hx;unfold zcw at h1
          cases hw:zde ops fr o with
          |false =>
            rw [hw] at h1;simp only [cond_false,dy,ec] at h1;rw [<- h1.2];exact ⟨fun _=>⟨rfl,rfl,rfl⟩,fun _=>⟨rfl,rfl⟩⟩
          |true =>
            rw [hw,cond_true] at h1;split at h1
            . rename_i v s1 hcop;cases h1;refine ⟨fun hm=>?_,fun hm=>?_⟩
              . rw [zzf hm hcop];exact ⟨rfl,rfl,rfl⟩
              . exact z7k hm hcop
            . simp at h1
        |succ j=>exact i2 j o' x (by simpa using hj) (by simpa using hx)
      . simp at hc
    . simp at hc
theorem zku {ops:List Oper}:∀ {l m:List Oper} {fr fr1 fr2:Fr} {s s1 s2:CS} {L M:List Lg},drawC P Γ call ops l fr s=some (L,fr1,s1)->drawC P Γ call ops m fr1 s1=some (M,fr2,s2)->drawC P Γ call ops (l++m) fr s=some (L++M,fr2,s2)
  |[],m,fr,fr1,fr2,s,s1,s2,L,M,h1,h2=>by
    simp only [drawC,dy,ec] at h1;obtain ⟨rfl,rfl,rfl⟩:=h1;exact h2
  |o :: l,m,fr,fr1,fr2,s,s1,s2,L,M,h1,h2=>by
    simp only [drawC] at h1;simp only [fq,drawC];split at h1
    . rename_i fra t ha;split at h1
      . rename_i logs frb sb hb;cases h1;rw [zku hb h2];rfl
      . simp at h1
    . simp at h1
theorem z0n {m:Nat} {y:Lg}:∀ {done:List Lg} {i:Nat},(∀ j x,done[j]?=some x->gr m (i+j)=true\/clash x y=false)->zii clash m y done i=true
  |[],_,_=>rfl
  |x :: l,i,h=>by
    have h0:gr m i=true\/clash x y=false:=h 0 x rfl
    have ih:zii clash m y l (i+1)=true:=z0n fun j z hz=>by
      have:=h (j+1) z (by simpa using hz);rw [show i+1+j=i+(j+1) by omega];exact this
    rcases h0 with h0|h0
    . rw [zxc h0];exact ih
    . rw [z0m h0];exact ih
theorem zo7 {ms:List Nat}:∀ {l done:List Lg},(∀ i j x y,i<j->done.length<=j->(done++l)[i]?=some x->(done++l)[j]?=some y->gr (nth 0 ms j) i=true\/clash x y=false)->zgq clash done l ms=true
  |[],_,_=>rfl
  |y :: l,done,h=>by
    rw [zn9,d8];refine ⟨z0n fun j x hx=>?_,zo7 fun i j x z hij hd hx hz=>?_⟩
    . rw [f6];have hj:=(et.1 hx).1;exact h j done.length x y hj (ei _) (by rw [fk hj];exact hx) (by simp)
    . rw [ey] at hx hz;rw [eu,gz] at hd;exact h i j x z hij (by omega) hx hz
theorem zv4 {ρ1 ρ2:ep->T} {l:List ep} (hρ:∀ x,x∈l->ρ1 x=ρ2 x):l.map ρ1=l.map ρ2:=List.map_congr_left hρ
theorem zsf {ρ1 ρ2:ep->T} {l:Option ep} (hρ:∀ x,l=some x->ρ1 x=ρ2 x):l.map ρ1=l.map ρ2:=by
  cases l with
  |none=>rfl
  |some x=>simp only [ld,hρ x rfl]
theorem zs8 {place:Nat->Option (Nat×Nat)} {ρ1 ρ2:ep->T}:∀ {l:List (Nat×ep)},(∀ p,p∈l->ρ1 p.2=ρ2 p.2)->za1 place ρ1 l=za1 place ρ2 l
  |[],_=>rfl
  |(k,x) :: l,hρ=>by
    unfold za1;rw [zs8 fun p hp=>hρ p (by simp [hp]),hρ (k,x) (by simp)]
theorem zto {e:Nat} {ρ1 ρ2:ep->T}:∀ {l:List (Nat×ep)} {i:Nat},(∀ p,p∈l->ρ1 p.2=ρ2 p.2)->zdu e ρ1 i l=zdu e ρ2 i l
  |[],_,_=>rfl
  |(k,x) :: l,i,hρ=>by
    unfold zdu;rw [zto fun p hp=>hρ p (by simp [hp]),hρ (k,x) (by simp)]
theorem z64 {ρ1 ρ2:ep->T} (hρ:∀ x,x∈o.op.operands.toList->ρ1 x=ρ2 x):zgo P Γ ρ1 o S=zgo P Γ ρ2 o S:=by
  obtain ⟨d,op,ty,pos,e,g⟩:=o;simp only at hρ;unfold zgo
  cases op with
  |move x=>simp only [hρ x (by simp [fj])]
  |assign x=>simp only [hρ x (by simp [fj])]
  |pick c a b=>simp only [hρ c (by simp [fj]),hρ a (by simp [fj]),hρ b (by simp [fj])]
  |build t parts =>
    have hp:∀ p,p∈parts.toList->ρ1 p.2=ρ2 p.2:=fun p hp=>hρ p.2 (by simp [fj];exact ⟨p.1,by simpa using hp⟩)
    simp only [zi9,zs8 hp]
  |buildSlice t n parts =>
    have hp:∀ p,p∈parts.toList->ρ1 p.2=ρ2 p.2:=fun p hp=>hρ p.2 (by simp [fj];exact ⟨p.1,by simpa using hp⟩)
    simp only [zan,zto hp]
  |load t x=>simp only [hρ x (by simp [fj])]
  |makeFunc fn first captured =>
    have h1:first.toList.map ρ1=first.toList.map ρ2:=zv4 fun x hx=>hρ x (by simp [fj];left;simpa using hx)
    have h2:captured.toList.map ρ1=captured.toList.map ρ2:=zv4 fun x hx=>hρ x (by simp [fj];right;simpa using hx)
    simp only [h1,h2]
  |slice t x lo hi mx =>
    have h1:lo.map ρ1=lo.map ρ2:=zsf fun y hy=>hρ y (by simp [fj,hy]);have h2:hi.map ρ1=hi.map ρ2:=zsf fun y hy=>hρ y (by simp [fj,hy]);have h3:mx.map ρ1=mx.map ρ2:=zsf fun y hy=>hρ y (by simp [fj,hy])
    simp only [hρ x (by simp [fj]),h1,h2,h3]
  |fieldAddr t x k=>simp only [hρ x (by simp [fj])]
  |indexAddr t x ix=>simp only [hρ x (by simp [fj]),hρ ix (by simp [fj])]
  |index t x ix=>simp only [hρ x (by simp [fj]),hρ ix (by simp [fj])]
  |extract x k=>simp only [hρ x (by simp [fj])]
  |unOp op t x=>simp only [hρ x (by simp [fj])]
  |binOp op t x y t2=>simp only [hρ x (by simp [fj]),hρ y (by simp [fj])]
  |lookup t x k ok=>simp only [hρ x (by simp [fj]),hρ k (by simp [fj])]
  |call c =>
    obtain ⟨cal,args,tys⟩:=c
    cases cal with
    |builtin b =>
      have ha:∀ x,x∈args.toList->ρ1 x=ρ2 x:=fun x hx=>hρ x (by simp [fj,rn];simpa using hx);simp only;unfold zm9
      cases b with
      |len =>
        simp only;split
        . rename_i x t e1 e2;rw [ha x (by rw [e1];simp)]
        . rfl
      |min =>
        simp only;split
        . rename_i x y e1;rw [ha x (by rw [e1];simp),ha y (by rw [e1];simp)]
        . rfl
      |max =>
        simp only;split
        . rename_i x y e1;rw [ha x (by rw [e1];simp),ha y (by rw [e1];simp)]
        . rfl
      |_=>rfl
    |_=>rfl
  |_=>rfl
end
def z8v (P:fe) (Γ:Env) (GL:List (Nat×List Value)) (S:TS) (args:List T) (f:T) (r:T):Option Prop:=match f with
  |.fn k first cap=>some (zap P Γ GL k (first++args++cap) S r)
  |_=>none
def andP (p:Prop):Option (Prop×(Nat->T))->Option (Prop×(Nat->T))
  |some (q,h)=>some (p/\q,h)
  |none=>none
def runP (P:fe) (Γ:Env) (GL:List (Nat×List Value)) (ops:List Oper):List Oper->(Nat->T)->TS->List T->Option (Prop×(Nat->T))
  |[],h,_,_=>some (True,h)
  |o :: l,h,S,outs=>match ziz ops h o.guard with
    |none=>none
    |some false=>runP P Γ GL ops l (putT h o.dst (.tup [])) S outs
    |some true=>match o.op with
      |.call ⟨.value f,args,tys⟩=>(match outs with
        |r :: outs=>(match z8v P Γ GL S (args.toList.map (zem GL h)) (zem GL h f) r with
          |some p=>andP p (runP P Γ GL ops l (putT h o.dst r) S outs)
          |none=>none)
        |[]=>none)
      |_=>(match zgo P Γ (zem GL h) o S with
        |some t=>runP P Γ GL ops l (putT h o.dst t) S outs
        |none=>none)
def yoy (ops:List Oper) (x y:Oper):Bool:=match x.dst with|some d=>has (zfu ops y) d|none=>false
def zyl:Nat->List Oper->List (Bool×Oper)
  |_,[]=>[]
  |0,o :: l=>(true,o) :: zyl 0 l
  |k+1,o :: l=>(false,o) :: zyl k l
def yhc (x y:Bool×Oper):Bool:=y.1 && !(zi3 x.2.op || zjh y.2.op)
def ztx (m:Nat):List Nat->Nat->Bool
  |[],_=>true
  |x :: l,i=>(!Nat.testBit m i || er (Nat.land x m) x) && ztx m l (i+1)
def zjc (k:Nat) (ops:List Oper):Bool :=
  zgq (yoy ops) [] ops (zd1 ops []) && (zgq yhc [] (zyl k ops) (zd1 ops []) && (zd1 ops []).all fun m=>ztx m (zd1 ops []) 0)
theorem zur {m:Nat}:∀ {l:List Nat} {i:Nat},ztx m l i=true->∀ j,j<l.length->gr m (i+j)=true->∀ b,gr (nth 0 l j) b=true->gr m b=true
  |[],_,_,j,hj,_,_,_=>by simp at hj
  |x :: l,i,h,j,hj,ht,b,hb=>by
    simp only [ztx,d8] at h
    cases j with
    |zero =>
      have h1:=h.1;rw [show gr m i=true from ht] at h1;simp only [gp,Bool.false_or] at h1;have h2:x &&& m=x:=eg h1;have h3:gr x b=true:=hb;rw [<- h2,ke,d8] at h3;exact h3.2
    |succ j=>exact zur h.2 j (by simpa using hj) (by rw [show i+1+j=i+(j+1) by omega];exact ht) b hb
theorem z4o:∀ (l:List Oper) (ms:List Nat),(zd1 l ms).length=ms.length+l.length
  |[],ms=>by simp [zd1]
  |o :: l,ms=>by
    simp only [zd1];rw [z4o l];simp only [eu,ez,gd];omega
theorem zoi:∀ {k:Nat} {ops:List Oper} {i:Nat} {o:Oper},ops[i]?=some o->(zyl k ops)[i]?=some (decide (k<=i),o)
  |_,[],i,o,h=>by simp at h
  |0,x :: l,i,o,h=>by
    cases i with
    |zero=>simp only [fx,dy] at h;subst h;rfl
    |succ i =>
      have:=zoi (k:=0) (ops:=l) (i:=i) (by simpa using h)
      simpa [zyl] using this
  |k+1,x :: l,i,o,h=>by
    cases i with
    |zero=>simp only [fx,dy] at h;subst h;rfl
    |succ i =>
      have:=zoi (k:=k) (ops:=l) (i:=i) (by simpa using h);simpa [zyl] using this
section
variable {GL:List (Nat×List Value)} {A A' A0:Nat->Prop} {β β':Bx} {S S':TS} {s s0 s' s2:CS} {P:fe} {Γ:Env} {N:Nat} {h h':Nat->T}
theorem ydk {k:Nat} {ops:List Oper} (hd:zjc k ops=true) {i j:Nat} {x y:Oper} (hij:i<j) (hx:ops[i]?=some x) (hy:ops[j]?=some y) {d:Nat} (hxd:x.dst=some d) (hdy:d∈zfu ops y):gr (nth 0 (zd1 ops []) j) i=true:=by
  unfold zjc at hd;simp only [d8] at hd;rcases zgc hd.1 i j x y hij (gb _) (by simpa using hx) (by simpa using hy) with q|q
  . exact q
  . unfold yoy at q;rw [hxd] at q;simp only at q;rw [zp4 hdy] at q;simp at q
theorem z8l {k:Nat} {ops:List Oper} (hd:zjc k ops=true) {i j:Nat} {x y:Oper} (hij:i<j) (hkj:k<=j) (hx:ops[i]?=some x) (hy:ops[j]?=some y):gr (nth 0 (zd1 ops []) j) i=true\/zi3 x.op=true\/zjh y.op=true:=by
  unfold zjc at hd;simp only [d8] at hd;rcases zgc hd.2.1 i j _ _ hij (gb _) (by simpa using zoi hx) (by simpa using zoi hy) with q|q
  . exact .inl q
  . unfold yhc at q;rw [zAa hkj] at q;simp only [ju,Bool.not_eq_false',Bool.or_eq_true] at q;exact .inr q
theorem z5u {k:Nat} {ops:List Oper} (hd:zjc k ops=true) {j i b:Nat} (hj:j<ops.length) (hi:i<ops.length) (h1:gr (nth 0 (zd1 ops []) j) i=true) (h2:gr (nth 0 (zd1 ops []) i) b=true):gr (nth 0 (zd1 ops []) j) b=true:=by
  unfold zjc at hd;simp only [d8] at hd;have hl:=z4o ops [];simp only [gd,f6] at hl
  have hm:nth 0 (zd1 ops []) j∈zd1 ops []:=by
    have key:∀ (l:List Nat) (j:Nat),j<l.length->nth 0 l j∈l:=by
      intro l
      induction l with
      |nil=>intro j hj;simp at hj
      |cons x l ih =>
        intro j hj
        cases j with
        |zero=>exact List.mem_cons_self
        |succ j=>exact List.mem_cons_of_mem _ (ih j (by simpa using hj))
    exact key _ j (by omega)
  have:=List.all_eq_true.1 hd.2.2 _ hm;exact zur this i (by omega) (by rw [f6];exact h1) b h2
def SupL (A0:Nat->Prop) (L:List Lg) (D:Nat) (f:Nat):Prop:=A0 f\/∃ (m:Nat) (x:Lg),gr D m=true/\L[m]?=some x/\x.lo<=f/\f<x.hi
theorem SupL.more {L M:List Lg} {D E:Nat} (hD:∀ m,m<L.length->gr D m=true->gr E m=true) {f:Nat} (k:SupL A0 L D f):SupL A0 (L++M) E f:=by
  rcases k with k|⟨m,x,h1,h2,h3⟩
  . exact .inl k
  . have hm:=(et.1 h2).1;exact .inr ⟨m,x,hD m hm h1,by rw [fk hm];exact h2,h3⟩
theorem SupL.sub {L:List Lg} {D E:Nat} (hD:∀ m,m<L.length->gr D m=true->gr E m=true) {f:Nat} (k:SupL A0 L D f):SupL A0 L E f:=by
  have:=SupL.more (M:=[]) hD k;simpa using this
structure zrz (GL:List (Nat×List Value)) (ops:List Oper) (A0:Nat->Prop) (β:Bx) (S:TS) (s0:CS) (N:Nat) (L:List Lg) (h:Nat->T) (fr:Fr) (s:CS):Prop where
  nt:fr.nt=N
  le:N<=512
  rel:TRel GL A0 β S s
  slot:∀ t,∃ D,VT (SupL A0 L D) β (zaa s.obj) (h t) (fr.get t)/\∀ (j:Nat) (o:Oper),L.length<=j->ops[j]?=some o->t∈zfu ops o->∀ m,m<L.length->gr D m=true->gr (nth 0 (zd1 ops []) j) m=true
  log:∀ (k:Nat) (x:Lg),L[k]?=some x->s0.n<=x.lo/\x.lo<=x.hi/\x.hi<=s.n/\x.wr=[]/\∀ f,f∈x.rd->f<x.lo/\(SupL A0 L (nth 0 (zd1 ops []) k) f\/Own β f)
  apart:∀ (k m:Nat) (x y:Lg),k<m->L[k]?=some x->L[m]?=some y->x.hi<=y.lo
  own:∀ f,Own β f->f<s0.n
  base:∀ f,A0 f->f<s0.n
  calm:zl5 A0 β s0 A0 s
  lim:s0.lim<=s0.n
theorem TRel.more (hT:TRel GL A β S s) (A1:Nat->Prop) (h1:∀ f,A f->A1 f) (h2:∀ f,A1 f->f<s.n) (h3:∀ f,A1 f->¬ Own β f):TRel GL A1 β S s :=
  ⟨hT.inr,hT.inv,h2,fun f hf=>⟨(hT.dis f hf).1,fun hh=>h3 f hh hf⟩,hT.inj,hT.next,fun b z N l hb=>(hT.cells b z N l hb).mono h1 (fun _ _=>rfl) (jt _) rfl fun _ _ _ _=>rfl,
    fun b l hb=>(hT.maps b l hb).mono h1 (fun _ _=>rfl) (jt _) rfl fun _ _=>rfl,fun x hx=>⟨h1 _ (hT.glob x hx).1,(hT.glob x hx).2⟩⟩
theorem TRel.inner (hT:TRel GL A β S s):TRel GL A β S s.inner:=⟨hT.inr,⟨hT.inv.none,hT.inv.vers,ei _⟩,hT.alt,hT.dis,hT.inj,hT.next,hT.cells,hT.maps,hT.glob⟩
theorem TRel.outer (hT:TRel GL A β S s') (hl:s.lim<=s'.n):TRel GL A β S (s.outer s'):=⟨hT.inr,⟨hT.inv.none,hT.inv.vers,hl⟩,hT.alt,hT.dis,hT.inj,hT.next,hT.cells,hT.maps,hT.glob⟩
theorem zl5.trans (hl:s.lim<=s.n) (k1:zl5 A β s A s') (k2:zl5 A β s' A s2):zl5 A β s A s2:=by
  refine ⟨k1.can.trans k2.can,fun _ h=>h,fun _ h=>.inl h,fun f hf=>?_,fun x hx=>?_,fun x hx=>k1.wr x (k2.wr x hx)⟩
  . rw [k2.keep f (fh hf k1.can.n)];exact k1.keep f hf
  . rcases k2.rd x hx with q|⟨q,q2⟩
    . exact k1.rd x q
    . rw [k1.can.lim] at q;exact .inr ⟨q,q2⟩
theorem zrz.next {k0:Nat} {ops:List Oper} (hd:zjc k0 ops=true) {L:List Lg} {fr:Fr} {o:Oper} (I:zrz GL ops A0 β S s0 N L h fr s) (ho:ops[L.length]?=some o) (hdst:∀ t,o.dst=some t->t<N) {t:T} {v:Value} {s1:CS}
    (k1:TRel GL A' β S s1) (k2:VT A' β (zaa s1.obj) t v) (k3:zl5 (SupL A0 L (nth 0 (zd1 ops []) L.length)) β s.inner A' s1) :
    zrz GL ops A0 β S s0 N (L++[⟨s1.rd,s1.wr,s.n,s1.n⟩]) (putT h o.dst t) (putC fr o.dst v) (s.outer s1):=by
  have hsn:s.n<=s1.n:=k3.can.n;have hln:L.length<ops.length:=(et.1 ho).1;have h0n:s0.n<=s.n:=I.calm.can.n
  have hsup:∀ f D,SupL A0 L D f->f<s.n:=fun f D hf=>by
    rcases hf with q|⟨m,x,_,q2,_,q4⟩
    . have:=I.base f q;omega
    . have:=(I.log m x q2).2.2.1;omega
  have hA':∀ f,A' f->SupL A0 (L++[⟨s1.rd,s1.wr,s.n,s1.n⟩]) (nth 0 (zd1 ops []) L.length ||| 2 ^ L.length) f:=fun f hf=>by
    rcases k3.new f hf with q|q
    . refine SupL.more (fun m hm hb=>?_) q;rw [nd,hb];rfl
    . refine .inr ⟨L.length,⟨s1.rd,s1.wr,s.n,s1.n⟩,?_,by simp,q,k1.alt f hf⟩;rw [nd,Nat.testBit_two_pow_self];simp
  have hobj:∀ f,f<s.n->zaa s1.obj f=zaa s.obj f:=fun f hf=>k3.keep f hf
  have hwr:s1.wr=[]:=by
    rw [List.eq_nil_iff_forall_not_mem];intro x hx;have:=k3.wr x hx;simp [rv] at this
  have hcal:zl5 A0 β s A0 (s.outer s1):=by
    refine ⟨zlr I.rel.inv k3.can,fun _ h=>h,fun _ h=>.inl h,hobj,fun x hx=>?_,fun x hx=>?_⟩
    . rcases zow (l:=s1.rd) rfl x hx with q|⟨q,q2⟩
      . exact .inl q
      . refine .inr ⟨q2,?_⟩;have hxn:x<s0.n:=by have h1:=I.calm.can.lim;have h2:=I.lim;rw [h1] at q2;omega
        rcases k3.rd x q with q3|⟨_,q3⟩
        . simp [rv] at q3
        . rcases q3 with (q3|⟨m,y,_,q5,q6,_⟩)|q3
          . exact .inl q3
          . have:=(I.log m y q5).1;omega
          . exact .inr q3
    . rcases zow (l:=s1.wr) rfl x hx with q|⟨q,_⟩
      . exact q
      . rw [hwr] at q;simp at q
  have hrel:TRel GL A0 β S (s.outer s1):=hcal.rel I.rel k1.inr ⟨k1.inv.none,k1.inv.vers,by have:=I.rel.inv.lim;show s.lim<=s1.n;omega⟩ fun f hf=>by have:=I.rel.alt f hf;show f<s1.n;omega
  refine ⟨?_,I.le,hrel,fun t'=>?_,fun k x hx=>?_,fun k m x y hkm hx hy=>?_,I.own,I.base,?_,I.lim⟩
  . cases hd2:o.dst with
    |none=>exact I.nt
    |some d =>
      show (fr.put d v).nt=N;unfold Fr.put;rw [zcr];split<;>exact I.nt
  . by_cases ht':o.dst=some t'
    . rw [ht'];refine ⟨nth 0 (zd1 ops []) L.length ||| 2 ^ L.length,?_,fun j o' hj ho' hn m hm hb=>?_⟩
      . show VT _ _ _ (tupd h t' t t') ((fr.put t' v).get t');rw [zhr,Fr.get_put_same v (by rw [I.nt];exact hdst _ ht') (by rw [I.nt];exact I.le)];exact k2.mono hA' (fun _ _=>rfl) (jt _)
      . rw [eu,gz] at hj hm;have hdep:=ydk hd (show L.length<j by omega) ho ho' ht' hn;rw [nd,Bool.or_eq_true] at hb;rcases hb with hb|hb
        . exact z5u hd (et.1 ho').1 hln hdep hb
        . rw [Nat.testBit_two_pow] at hb;have:L.length=m:=by simpa using hb
          rw [<- this];exact hdep
    . obtain ⟨D,d1,d2⟩:=I.slot t';refine ⟨D &&& (2 ^ L.length - 1),?_,fun j o' hj ho' hn m hm hb=>?_⟩
      . have e1:putT h o.dst t t'=h t':=by
          cases hd2:o.dst with
          |none=>rfl
          |some d=>exact zl9 _ _ _ _ fun hh=>ht' (by rw [hd2,hh])
        have e2:(putC fr o.dst v).get t'=fr.get t':=by
          cases hd2:o.dst with
          |none=>rfl
          |some d=>exact r9 v (by rw [I.nt];exact I.le) fun hh=>ht' (by rw [hd2,hh])
        rw [e1,e2];refine d1.mono (fun f hf=>SupL.more (fun m hm hb=>?_) hf) (fun f hf=>hobj f (hsup f D hf)) (jt _);rw [ke,hb,jw];simp [hm]
      . rw [eu,gz] at hj;rw [ke,d8,jw] at hb;exact d2 j o' (by omega) ho' hn m (zAe hb.2) hb.1
  . by_cases hk:k<L.length
    . rw [fk hk] at hx;obtain ⟨l1,l2,l3,l4,l5⟩:=I.log k x hx;exact ⟨l1,l2,by show x.hi<=s1.n;omega,l4,fun f hf=>⟨(l5 f hf).1,(l5 f hf).2.imp (fun q=>SupL.more (fun _ _ hb=>hb) q) id⟩⟩
    . have hk2:k=L.length:=by
        have:=(et.1 hx).1;rw [eu,gz] at this;omega
      subst hk2;simp only [gm (ei _),Nat.sub_self,fx,dy] at hx;subst hx;refine ⟨h0n,hsn,ei _,hwr,fun f hf=>?_⟩;rcases k3.rd f hf with q|⟨q,q2⟩
      . simp [rv] at q
      . exact ⟨q,q2.imp (fun q3=>SupL.more (fun _ _ hb=>hb) q3) id⟩
  . by_cases hm:m<L.length
    . rw [fk (by omega)] at hx;rw [fk hm] at hy;exact I.apart k m x y hkm hx hy
    . have hm2:m=L.length:=by
        have:=(et.1 hy).1;rw [eu,gz] at this;omega
      subst hm2;rw [fk hkm] at hx;simp only [gm (ei _),Nat.sub_self,fx,dy] at hy;subst hy;exact (I.log k x hx).2.2.1
  . exact I.calm.trans I.lim hcal
theorem z11 {ops:List Oper} {o:Oper} {x:Nat} (hx:Operand.tmp x∈o.op.operands.toList):x∈zfu ops o:=by
  unfold zfu;refine List.mem_append.2 (.inl ?_);rw [List.mem_filterMap];exact ⟨.tmp x,hx,rfl⟩
theorem z7s {ops:List Oper} {o:Oper} {j d:Nat} {w:Bool} (hg:o.guard=some (j,w)) (hd:zp8 ops j=some d):d∈zfu ops o:=by
  unfold zfu;refine List.mem_append.2 (.inr ?_);rw [hg];simp only [hd];exact List.mem_singleton.2 rfl
theorem z96 (hE:zei P Γ) {k0:Nat} {ops:List Oper} (hd:zjc k0 ops=true):∀ {l:List Oper} {L:List Lg} {h h':Nat->T} {fr:Fr} {s:CS} {outs:List T} {ob:Prop},zrz GL ops A0 β S s0 N L h fr s->(∀ (j:Nat) (o:Oper),l[j]?=some o->ops[L.length+j]?=some o)->ze3 N l=true->runP P Γ GL ops l h S outs=some (ob,h')->ob ->
    ∃ M fr' s',drawC P Γ (ze1 P Γ) ops l fr s=some (M,fr',s')/\zrz GL ops A0 β S s0 N (L++M) h' fr' s'/\M.length=l.length
  |[],L,h,h',fr,s,outs,ob,I,hl,hdo,hr,hob=>by
    simp only [runP,dy,ec] at hr;obtain ⟨rfl,rfl⟩:=hr;exact ⟨[],fr,s,rfl,by rw [fp];exact I,rfl⟩
  |o :: l,L,h,h',fr,s,outs,ob,I,hl,hdo,hr,hob=>by
    have hd':ze3 N l=true/\∀ t,o.dst=some t->t<N:=by
      unfold ze3 at hdo ⊢;rw [ig,d8] at hdo;refine ⟨hdo.2,fun t ht=>?_⟩;have:=hdo.1;rw [ht] at this;exact zaf.1 this
    have ho:ops[L.length]?=some o:=by have:=hl 0 o rfl;simpa using this
    -- what the operation may lean on
    have hrel:TRel GL (SupL A0 L (nth 0 (zd1 ops []) L.length)) β S s.inner:=by
      refine TRel.inner (I.rel.more _ (fun f hf=>.inl hf) (fun f hf=>?_) (fun f hf ho=>?_))
      . rcases hf with q|⟨m,x,_,q2,_,q4⟩
        . exact I.rel.alt f q
        . have:=(I.log m x q2).2.2.1;omega
      . rcases hf with q|⟨m,x,_,q2,q3,q4⟩
        . exact (I.rel.dis f ho).2 q
        . have:=(I.log m x q2).1;have:=I.own f ho;omega
    -- the slots that it names
    let ho':Nat->T:=fun t=>if t∈zfu ops o then h t else .junk
    have hin:∀ t,t∈zfu ops o->ho' t=h t:=fun t ht=>zAc ht
    have hF:FrOk (SupL A0 L (nth 0 (zd1 ops []) L.length)) β (zaa s.inner.obj) N ho' fr:=⟨I.nt,I.le,fun t=>by
      by_cases ht:t∈zfu ops o
      . rw [hin t ht];obtain ⟨D,d1,d2⟩:=I.slot t;exact d1.mono (fun f hf=>SupL.sub (fun m hm hb=>d2 L.length o (ei _) ho ht m hm hb) hf) (fun _ _=>rfl) (jt _)
      . rw [show ho' t=.junk from zAd ht]
        exact .junk _⟩
    have hev:∀ x,x∈o.op.operands.toList->zem GL ho' x=zem GL h x:=fun x hx=>by
      cases x with
      |tmp t=>exact hin t (z11 hx)
      |_=>rfl
    have hgd:ziz ops ho' o.guard=ziz ops h o.guard:=by
      cases hg:o.guard with
      |none=>rfl
      |some p =>
        obtain ⟨j,w⟩:=p;unfold ziz;simp only
        cases hdd:zp8 ops j with
        |none=>rfl
        |some d=>simp only [hin d (z7s hg hdd)]
    -- the rest behind a step that is done
    have go:∀ {t:T} {v:Value} {s1:CS} {A':Nat->Prop} {outs':List T} {ob':Prop},TRel GL A' β S s1->VT A' β (zaa s1.obj) t v->zl5 (SupL A0 L (nth 0 (zd1 ops []) L.length)) β s.inner A' s1->zcw P Γ (ze1 P Γ) ops o fr s.inner=some (putC fr o.dst v,s1)->runP P Γ GL ops l (putT h o.dst t) S outs'=some (ob',h')->ob'->∃ M fr' s',drawC P Γ (ze1 P Γ) ops (o :: l) fr s=some (M,fr',s')/\zrz GL ops A0 β S s0 N (L++M) h' fr' s'/\M.length=(o :: l).length:=by
      intro t v s1 A' outs' ob' k1 k2 k3 hst hrun hob';have I2:=I.next hd ho hd'.2 k1 k2 k3
      obtain ⟨M,fr',s',m1,m2,m3⟩:=z96 hE hd I2 (fun j o' hj=>by
        have:=hl (j+1) o' (by simpa using hj);rw [eu,gz];rw [show L.length+1+j=L.length+(j+1) by omega]
        exact this) hd'.1 hrun hob'
      refine ⟨⟨s1.rd,s1.wr,s.n,s1.n⟩ :: M,fr',s',?_,?_,by simp [m3]⟩
      . rw [drawC,hst];simp only;rw [m1]
      . rw [ey] at m2;exact m2
    unfold runP at hr;split at hr
    . simp at hr
    . rename_i hg;rw [<- hgd] at hg;have hw:=ziy hF hg;refine go hrel VT.undf ⟨i6 _,fun _ h=>h,fun _ h=>.inl h,fun _ _=>rfl,fun _ h=>.inl h,fun _ h=>h⟩ ?_ hr hob;unfold zcw;rw [hw,cond_false]
    . rename_i hg;rw [<- hgd] at hg;have hw:=ziy hF hg;split at hr
      . rename_i f args tys hop;split at hr
        . rename_i r outs';split at hr
          . rename_i p hp;unfold z8v at hp;split at hp
            . rename_i k first cap hf
              simp only [dy] at hp;subst hp
              cases hrun:runP P Γ GL ops l (putT h o.dst r) S outs' with
              |none=>rw [hrun] at hr;simp [andP] at hr
              |some q =>
                obtain ⟨q1,q2⟩:=q;rw [hrun] at hr;simp only [andP,dy,ec] at hr;obtain ⟨rfl,rfl⟩:=hr;have hfv:=hF.eval hrel f;rw [hev f (by rw [hop];simp [fj,rn]),hf] at hfv;generalize e1:zgp fr f=vf at hfv
                cases hfv with
                |fn h1 h2 =>
                  rename_i va vc;have hargs:=zxm (hF.eval hrel) args.toList;have hargs':args.toList.map (zem GL ho')=args.toList.map (zem GL h):=zv4 fun x hx=>hev x (by rw [hop];simp [fj,rn];right;simpa using hx);rw [hargs'] at hargs;obtain ⟨v,s1,A',c1,c2,c3,c4⟩:=hob.1 _ β s.inner _ hrel ((h1.append hargs).append h2);refine go c2 c3 c4 ?_ hrun hob.2;unfold zcw;rw [hw,cond_true]
                  have:cop P Γ (ze1 P Γ) (zgp fr) o s.inner=some (v,s1):=by
                    unfold cop;simp only [hop,e1];unfold zmz;exact c1
                  rw [this]
            . simp at hp
          . simp at hr
        . simp at hr
      . split at hr
        . rename_i t hst;have hst':zgo P Γ (zem GL ho') o S=some t:=by rw [z64 hev];exact hst
          obtain ⟨v,s1,A',c1,c2,c3,c4⟩:=z9a (call:=ze1 P Γ) hE hrel (hF.eval hrel) hst';refine go c2 c3 c4 ?_ hr hob;unfold zcw;rw [hw,cond_true,c1]
        . simp at hr
theorem Stp.outer (hI:CInv s) (k:Stp A β s.inner A' β' s'):Stp A β s A' β' (s.outer s'):=by
  refine ⟨zlr hI k.can,k.sub,k.new,k.own,k.keep,k.bx,fun x hx=>?_,fun x hx=>?_⟩
  . rcases zow (l:=s'.rd) rfl x hx with q|⟨q,q2⟩
    . exact .inl q
    . rcases k.rd x q with q3|⟨_,q3⟩
      . simp [rv] at q3
      . exact .inr ⟨q2,q3⟩
  . rcases zow (l:=s'.wr) rfl x hx with q|⟨q,q2⟩
    . exact .inl q
    . rcases k.wr x q with q3|⟨_,q3⟩
      . simp [rv] at q3
      . exact .inr ⟨q2,q3⟩
theorem z1v (hE:zei P Γ) {own:List Nat} {ops:List Oper} {N:Nat}:∀ {l:List Oper} {h h':Nat->T} {S S':TS} {outs:List (T×TS)} {ob:Prop} {A:Nat->Prop} {β:Bx} {fr:Fr} {s:CS},ze3 N l=true->FrOk A β (zaa s.obj) N h fr->TRel GL A β S s->runT P Γ GL own ops l h S outs=some (ob,h',S')->ob ->
    ∃ M fr' s',drawC P Γ (ze1 P Γ) ops l fr s=some (M,fr',s')/\Left GL A β s N fr' s' h' S'
  |[],h,h',S,S',outs,ob,A,β,fr,s,hd,hF,hT,hr,hob=>by
    simp only [runT,dy,ec] at hr;obtain ⟨rfl,rfl,rfl⟩:=hr;exact ⟨[],fr,s,rfl,A,β,hF,hT,rh⟩
  |o :: l,h,h',S,S',outs,ob,A,β,fr,s,hd,hF,hT,hr,hob=>by
    have hd':ze3 N l=true/\∀ t,o.dst=some t->t<N:=by
      unfold ze3 at hd ⊢;rw [ig,d8] at hd;refine ⟨hd.2,fun t ht=>?_⟩;have:=hd.1;rw [ht] at this;exact zaf.1 this
    have hTi:=hT.inner
    have go:∀ {t:T} {S1:TS} {r:Option (Value×CS)} {l':List (T×TS)} {ob':Prop},Ok GL A β s.inner r t S1->(cop P Γ (ze1 P Γ) (zgp fr) o s.inner=r)->zde ops fr o=true->runT P Γ GL own ops l (putT h o.dst t) S1 l'=some (ob',h',S')->ob'->∃ M fr' s',drawC P Γ (ze1 P Γ) ops (o :: l) fr s=some (M,fr',s')/\Left GL A β s N fr' s' h' S':=by
      rintro t S1 r l' ob' ⟨v,s1,A1,β1,rfl,k1,k2,k3⟩ hc hw hrun hob';have hF1:FrOk A1 β1 (zaa s1.obj) N h fr:=hF.mono k3.sub (Stp.old (s:=s.inner) hTi k3) k3.bx;have hS:Stp A β s A1 β1 (s.outer s1):=k3.outer hT.inv;obtain ⟨M,fr',s',e1,e2⟩:=z1v hE hd'.1 (s:=s.outer s1) (hF1.put hd'.2 k2) (k1.outer (Nat.le_trans hT.le k3.can.n)) hrun hob';refine ⟨⟨s1.rd,s1.wr,s.n,s1.n⟩ :: M,fr',s',?_,Left.trans (h':=h) (fr':=fr) hT.le hS e2⟩;rw [drawC]
      have:zcw P Γ (ze1 P Γ) ops o fr s.inner=some (putC fr o.dst v,s1):=by
        unfold zcw;rw [hw,cond_true,hc]
      rw [this];simp only;rw [e1]
    unfold runT at hr;split at hr
    . simp at hr
    . rename_i hg;have hw:=ziy hF hg;have hS:Stp A β s A β (s.outer s.inner):=Stp.outer hT.inv rh;obtain ⟨M,fr',s',e1,e2⟩:=z1v hE hd'.1 (s:=s.outer s.inner) (hF.put hd'.2 VT.undf) (hTi.outer hT.le) hr hob;refine ⟨⟨[],[],s.n,s.n⟩ :: M,fr',s',?_,Left.trans (h':=h) (fr':=fr) hT.le hS e2⟩;rw [drawC]
      have:zcw P Γ (ze1 P Γ) ops o fr s.inner=some (putC fr o.dst undef,s.inner):=by
        unfold zcw;rw [hw,cond_false]
      rw [this];simp only;rw [e1];rfl
    . rename_i hg;have hw:=ziy hF hg;split at hr
      . rename_i f args tys ho;split at hr
        . rename_i r outs';split at hr
          . rename_i p hp;unfold z2u at hp;split at hp
            . rename_i k first cap hf
              simp only [dy] at hp;subst hp
              cases hrun:runT P Γ GL own ops l (putT h o.dst r.1) r.2 outs' with
              |none=>rw [hrun] at hr;simp [andT] at hr
              |some q =>
                obtain ⟨q1,q2,q3⟩:=q;rw [hrun] at hr;simp only [andT,dy,ec] at hr;obtain ⟨rfl,rfl,rfl⟩:=hr;have hfv:=hF.eval hT f;rw [hf] at hfv;generalize e1:zgp fr f=vf at hfv
                cases hfv with
                |fn h1 h2 =>
                  rename_i va vc;have hargs:=zxm (hF.eval hT) args.toList;have hcall:=hob.1 A β s.inner _ hTi ((h1.append hargs).append h2);refine go hcall ?_ hw hrun hob.2;unfold cop;simp only [ho,e1];unfold zmz;rfl
            . simp at hp
          . simp at hr
        . simp at hr
      . split at hr
        . rename_i t S1 hst;exact go (z06 hE hTi (hF.eval hT) hst) rfl hw hr hob
        . simp at hr
theorem zih {x y:Lg} (h1:x.rd=[]) (h2:x.wr=[]) (h3:x.lo=x.hi):clash x y=false:=by
  obtain ⟨rx,wx,lo,hi⟩:=x;obtain ⟨ry,wy,lo',hi'⟩:=y;simp only at h1 h2 h3;subst h1;subst h2;subst h3;exact zgz (fun f hf=>by simp at hf) (fun f hf=>by simp at hf) (fun f _=>by omega) (fun f _=>by omega)
theorem zhb {x y:Lg} (h1:y.rd=[]) (h2:y.wr=[]):clash x y=false:=by
  obtain ⟨rx,wx,lo,hi⟩:=x;obtain ⟨ry,wy,lo',hi'⟩:=y;simp only at h1 h2;subst h1;subst h2;exact zgz (fun f _=>by simp) (fun f _=>by simp) (fun f hf=>by simp at hf) (fun f hf=>by simp at hf)
theorem TW.draw (hE:zei P Γ) {id:Nat} {ops:Array Oper} {Q:Exit->(Nat->T)->TS->Prop} (k:Nat) (outsP:List T) (own:List Nat) (outs:List (T×TS)) {h1:Nat->T} {ob1 ob2:Prop} (hd:ze3 N ops.toList=true) (hok:zjc k ops.toList=true)
    (hp:runP P Γ GL ops.toList (ops.toList.take k) h S outsP=some (ob1,h1)) (hob1:ob1) (hr:runT P Γ GL own ops.toList (ops.toList.drop k) h1 S outs=some (ob2,h',S')) (hob2:ob2) (hq:Q .normal h' S'):TW P Γ GL N (.region id ops true) h S Q:=fun A β fr s hF hT=>by
  have hsplit:ops.toList=ops.toList.take k++ops.toList.drop k:=(jn k _).symm
  have hdd:ze3 N (ops.toList.take k)=true/\ze3 N (ops.toList.drop k)=true:=by
    unfold ze3 at hd ⊢;rw [hsplit,List.all_append,d8] at hd;exact hd
  have I0:zrz GL ops.toList A β S s N [] h fr s:=by
    refine ⟨hF.nt,hF.le,hT,fun t=>⟨0,(hF.slot t).mono (fun f hf=>.inl hf) (fun _ _=>rfl) (jt _),fun j o _ _ _ m hm=>by simp at hm⟩,fun k x hx=>by simp at hx,fun k m x y _ hx=>by simp at hx,fun f hf=>(hT.dis f hf).1,hT.alt,?_,hT.le⟩;exact ⟨i6 _,fun _ h=>h,fun _ h=>.inl h,fun _ _=>rfl,fun _ h=>.inl h,fun _ h=>h⟩
  obtain ⟨M1,fr1,s1,d1,I1,m1⟩:=z96 hE hok I0 (fun j o hj=>by
    rw [gd,f6];rw [List.getElem?_take] at hj;split at hj
    . exact hj
    . simp at hj) hdd.1 hp hob1
  rw [fb] at I1
  -- behind the first part all may lean on all
  let D:Nat:=2 ^ M1.length - 1
  have hDall:∀ m,m<M1.length->gr D m=true:=fun m hm=>by
    show gr (2 ^ M1.length - 1) m=true;rw [jw];exact zAa hm
  have hT1:TRel GL (SupL A M1 D) β S s1:=by
    refine I1.rel.more _ (fun f hf=>.inl hf) (fun f hf=>?_) (fun f hf ho=>?_)
    . rcases hf with q|⟨m,x,_,q2,_,q4⟩
      . exact I1.rel.alt f q
      . have:=(I1.log m x q2).2.2.1;omega
    . rcases hf with q|⟨m,x,_,q2,q3,q4⟩
      . exact (I1.rel.dis f ho).2 q
      . have:=(I1.log m x q2).1;have:=I1.own f ho;omega
  have hF1:FrOk (SupL A M1 D) β (zaa s1.obj) N h1 fr1:=⟨I1.nt,I1.le,fun t=>by
    obtain ⟨E,e1,_⟩:=I1.slot t
    exact e1.mono (fun f hf=>SupL.sub (fun m hm _=>hDall m hm) hf) (fun _ _=>rfl) (jt _)⟩
  have hS1:Stp A β s (SupL A M1 D) β s1:=by
    refine ⟨I1.calm.can,fun f hf=>.inl hf,fun f hf=>?_,fun f hf=>.inl hf,fun f hf _=>I1.calm.keep f hf,jt _,I1.calm.rd,fun x hx=>.inl (I1.calm.wr x hx)⟩;rcases hf with q|⟨m,x,_,q2,q3,_⟩
    . exact .inl q
    . have:=(I1.log m x q2).1;exact .inr (.inl (by omega))
  obtain ⟨M2,fr2,s2,d2,L2⟩:=z1v hE hdd.2 hF1 hT1 hr hob2;have hdraw:=zku d1 d2;rw [<- hsplit] at hdraw;obtain ⟨f1,f2⟩:=zug hdraw;refine W.draw hdraw ?_ ⟨h',S',Left.trans (h':=h) (fr':=fr) hT.le hS1 L2,hq⟩;refine z2s rfl (zo7 fun i j x y hij _ hx hy=>?_);simp only [fb] at hx hy;have hjl:j<ops.toList.length:=by rw [<- f1];exact (et.1 hy).1
  have ho1:ops.toList[i]?=some (ops.toList[i]'(by omega)):=ef _;have ho2:ops.toList[j]?=some (ops.toList[j]'hjl):=ef _;by_cases hkj:k<=j
  . rcases z8l hok hij hkj ho1 ho2 with q|q|q
    . exact .inl q
    . obtain ⟨a,b,c⟩:=(f2 i _ x ho1 hx).1 q;exact .inr (zih a b c)
    . obtain ⟨a,b⟩:=(f2 j _ y ho2 hy).2 q;exact .inr (zhb a b)
  . have hjM:j<M1.length:=by rw [m1,gi];omega
    rw [fk (by omega)] at hx;rw [fk hjM] at hy;by_cases hbit:gr (nth 0 (zd1 ops.toList []) j) i=true
    . exact .inl hbit
    . right;obtain ⟨x1,x2,x3,x4,x5⟩:=I1.log i x hx;obtain ⟨y1,y2,y3,y4,y5⟩:=I1.log j y hy;obtain ⟨rx,wx,lo,hi⟩:=x;obtain ⟨ry,wy,lo',hi'⟩:=y;simp only at x1 x2 x3 x4 x5 y1 y2 y3 y4 y5;subst x4;subst y4;refine zgz (fun f hf=>by simp at hf) (fun f _=>by simp) (fun f hf=>?_) (fun f hf=>by simp at hf);obtain ⟨g1,g2⟩:=y5 f hf;rcases g2 with (g2|⟨m,z,g3,g4,g5,g6⟩)|g2
      . have:=I1.base f g2;omega
      . by_cases hmi:m=i
        . subst hmi;exact absurd g3 hbit
        . by_cases hlt:m<i
          . have:=I1.apart m i z _ hlt g4 hx;simp only at this;omega
          . have:=I1.apart i m _ z (by omega) hx g4;simp only at this;omega
      . have:=I1.own f g2;omega
end
section
variable {GL:List (Nat×List Value)} {P:fe} {Γ:Env} {own:List Nat} {ops l:List Oper} {h:Nat->T} {S:TS} {outs:List (T×TS)} {outsP:List T} {d:Option Tmp} {ty:fc} {pos:String} {e:Array Edge} {g:Option (Nat×Bool)}
def ykh {α:Type} (r:Option (T×TS)) (k:T->TS->Option α):Option α:=match r with
  |some (t,S)=>k t S
  |none=>none
def zpb {α:Type} (b:Option Bool) (off on:Unit->Option α):Option α:=match b with
  |some true=>on ()
  |some false=>off ()
  |none=>none
theorem z3a {α:Type} (t:T) (S:TS) (k:T->TS->Option α):ykh (some (t,S)) k=k t S:=ej rfl rfl
theorem yh9 {α:Type} (a b:Unit->Option α):zpb (some true) a b=b ():=ej rfl rfl
theorem ya2 {α:Type} (a b:Unit->Option α):zpb (some false) a b=a ():=ej rfl rfl
def zqr (ops:List Oper) (h:Nat->T) (j:Nat):T:=match zp8 ops j with|some t=>h t|none=>.junk
def zqg (t:T) (w:Bool):Option Bool:=match t with|.bool b=>some (b == w)|.tup _=>some false|_=>none
theorem yec {l:List T} {w:Bool}:zqg (.tup l) w=some false:=ej rfl rfl
theorem zjv {j:Nat} {w:Bool}:ziz ops h (some (j,w))=zqg (zqr ops h j) w:=by
  unfold ziz zqr;simp only
  cases zp8 ops j with
  |none=>rfl
  |some t=>simp only;cases h t<;>rfl
theorem yea:zqg (.bool true) true=some true:=ej rfl rfl
theorem yeb:zqg (.bool true) false=some false:=ej rfl rfl
theorem yed:zqg (.bool false) true=some false:=ej rfl rfl
theorem yee:zqg (.bool false) false=some true:=ej rfl rfl
theorem zyt {t:Tmp} {op:Op}:zqr (⟨some t,op,ty,pos,e,g⟩ :: l) h 0=h t:=ej rfl rfl
theorem zyu {o:Oper} {n:Nat}:zqr (o :: l) h (n+1)=zqr l h n:=by
  unfold zqr zp8;rw [jo]
theorem z9s:runT P Γ GL own ops [] h S outs=some (True,h,S):=ej rfl rfl
theorem z9u:runP P Γ GL ops [] h S outsP=some (True,h):=ej rfl rfl
def zco:Op->Bool
  |.call ⟨.value _,_,_⟩=>true
  |_=>false
def yk0 (P:fe) (Γ:Env) (GL:List (Nat×List Value)) (own:List Nat) (ops l:List Oper) (outs:List (T×TS)) (h:Nat->T) (d:Option Tmp) (t:T) (S:TS):Option (Prop×(Nat->T)×TS):=runT P Γ GL own ops l (putT h d t) S outs
theorem ygy {t:T}:yk0 P Γ GL own ops l outs h d t S=runT P Γ GL own ops l (putT h d t) S outs:=ej rfl rfl
def offT (P:fe) (Γ:Env) (GL:List (Nat×List Value)) (own:List Nat) (ops l:List Oper) (outs:List (T×TS)) (h:Nat->T) (d:Option Tmp) (S:TS) (_:Unit):Option (Prop×(Nat->T)×TS):=runT P Γ GL own ops l (putT h d (.tup [])) S outs
theorem ynd {u:Unit}:offT P Γ GL own ops l outs h d S u=runT P Γ GL own ops l (putT h d (.tup [])) S outs:=ej rfl rfl
def ykw (P:fe) (Γ:Env) (GL:List (Nat×List Value)) (own:List Nat) (ops l:List Oper) (outs:List (T×TS)) (h:Nat->T) (S:TS) (o:Oper) (_:Unit):Option (Prop×(Nat->T)×TS):=ykh (zgn P Γ own (zem GL h) o S) (yk0 P Γ GL own ops l outs h o.dst)
theorem ygt {u:Unit} {op:Op}:ykw P Γ GL own ops l outs h S ⟨d,op,ty,pos,e,g⟩ u=ykh (zgn P Γ own (zem GL h) ⟨d,op,ty,pos,e,g⟩ S) (yk0 P Γ GL own ops l outs h d):=ej rfl rfl
theorem z9t {op:Op} (hc:zco op=false):runT P Γ GL own ops (⟨d,op,ty,pos,e,g⟩ :: l) h S outs=zpb (ziz ops h g) (offT P Γ GL own ops l outs h d S) (ykw P Γ GL own ops l outs h S ⟨d,op,ty,pos,e,g⟩):=by
  rw [runT];simp only
  cases hg:ziz ops h g with
  |none=>rfl
  |some b =>
    cases b with
    |false=>rfl
    |true =>
      simp only [zpb,ykw]
      cases hs:zgn P Γ own (zem GL h) ⟨d,op,ty,pos,e,g⟩ S with
      |none =>
        cases op with
        |call c =>
          obtain ⟨cal,args,tys⟩:=c
          cases cal with
          |value f=>simp [zco] at hc
          |_=>rfl
        |_=>rfl
      |some r =>
        cases op with
        |call c =>
          obtain ⟨cal,args,tys⟩:=c
          cases cal with
          |value f=>simp [zco] at hc
          |_=>rfl
        |_=>rfl
theorem yfn {op:Op} (hc:zco op=false):runT P Γ GL own ops (⟨d,op,ty,pos,e,none⟩ :: l) h S outs=ykh (zgn P Γ own (zem GL h) ⟨d,op,ty,pos,e,none⟩ S) (yk0 P Γ GL own ops l outs h d):=by
  rw [z9t hc];rfl
theorem yfo {op:Op} {j:Nat} {w:Bool} (hc:zco op=false):runT P Γ GL own ops (⟨d,op,ty,pos,e,some (j,w)⟩ :: l) h S outs=zpb (zqg (zqr ops h j) w) (offT P Γ GL own ops l outs h d S) (ykw P Γ GL own ops l outs h S ⟨d,op,ty,pos,e,some (j,w)⟩):=by
  rw [z9t hc,zjv]
def ylc (p:Option Prop) (k:Option (Prop×(Nat->T)×TS)):Option (Prop×(Nat->T)×TS):=match p,k with
  |some p,some (q,h,S)=>some (p/\q,h,S)
  |_,_=>none
theorem z4z {p q:Prop}:ylc (some p) (some (q,h,S))=some (p/\q,h,S):=ej rfl rfl
def yl9 (P:fe) (Γ:Env) (GL:List (Nat×List Value)) (own:List Nat) (ops l:List Oper) (outs:List (T×TS)) (h:Nat->T) (S:TS) (d:Option Tmp) (f:ep) (args:List ep) (r:T×TS) (_:Unit):Option (Prop×(Nat->T)×TS):=ylc (z2u P Γ GL S (args.map (zem GL h)) (zem GL h f) r) (runT P Γ GL own ops l (putT h d r.1) r.2 outs)
theorem yb4 {u:Unit} {f:ep} {args:List ep} {r:T×TS}:yl9 P Γ GL own ops l outs h S d f args r u=ylc (z2u P Γ GL S (args.map (zem GL h)) (zem GL h f) r) (runT P Γ GL own ops l (putT h d r.1) r.2 outs):=ej rfl rfl
theorem zy4 {f:ep} {args:Array ep} {tys:Array fc} {r:T×TS}:runT P Γ GL own ops (⟨d,.call ⟨.value f,args,tys⟩,ty,pos,e,g⟩ :: l) h S (r :: outs)=zpb (ziz ops h g) (offT P Γ GL own ops l (r :: outs) h d S) (yl9 P Γ GL own ops l outs h S d f args.toList r):=by
  rw [runT];simp only
  cases hg:ziz ops h g with
  |none=>rfl
  |some b =>
    cases b with
    |false=>rfl
    |true =>
      simp only [zpb,yl9]
      cases z2u P Γ GL S (args.toList.map (zem GL h)) (zem GL h f) r with
      |none=>rfl
      |some p=>cases runT P Γ GL own ops l (putT h d r.1) r.2 outs<;>rfl
theorem z3u {f:ep} {args:Array ep} {tys:Array fc} {r:T×TS}:runT P Γ GL own ops (⟨d,.call ⟨.value f,args,tys⟩,ty,pos,e,none⟩ :: l) h S (r :: outs)=ylc (z2u P Γ GL S (args.toList.map (zem GL h)) (zem GL h f) r) (runT P Γ GL own ops l (putT h d r.1) r.2 outs):=by
  rw [zy4];rfl
theorem zvc {f:ep} {args:Array ep} {tys:Array fc} {r:T×TS} {j:Nat} {w:Bool}:runT P Γ GL own ops (⟨d,.call ⟨.value f,args,tys⟩,ty,pos,e,some (j,w)⟩ :: l) h S (r :: outs)=zpb (zqg (zqr ops h j) w) (offT P Γ GL own ops l (r :: outs) h d S) (yl9 P Γ GL own ops l outs h S d f args.toList r):=by
  rw [zy4,zjv]
theorem zvb {f:ep} {args:Array ep} {tys:Array fc} {j:Nat} {w:Bool}:runT P Γ GL own ops (⟨d,.call ⟨.value f,args,tys⟩,ty,pos,e,some (j,w)⟩ :: l) h S []=zpb (zqg (zqr ops h j) w) (offT P Γ GL own ops l [] h d S) (fun _=>none):=by
  rw [runT];simp only [zjv]
  cases zqg (zqr ops h j) w with
  |none=>rfl
  |some b=>cases b<;>rfl
theorem yb0 {k:Nat} {first cap args:List T} {r:T×TS}:z2u P Γ GL S args (.fn k first cap) r=some (Call P Γ GL k (first++args++cap) S r.1 r.2):=ej rfl rfl
def yki {α:Type} (r:Option T) (k:T->Option α):Option α:=match r with
  |some t=>k t
  |none=>none
theorem zyk {α:Type} (t:T) (k:T->Option α):yki (some t) k=k t:=ej rfl rfl
def yk1 (P:fe) (Γ:Env) (GL:List (Nat×List Value)) (ops l:List Oper) (outs:List T) (h:Nat->T) (d:Option Tmp) (S:TS) (t:T):Option (Prop×(Nat->T)):=runP P Γ GL ops l (putT h d t) S outs
theorem yaf {t:T}:yk1 P Γ GL ops l outsP h d S t=runP P Γ GL ops l (putT h d t) S outsP:=ej rfl rfl
def offP (P:fe) (Γ:Env) (GL:List (Nat×List Value)) (ops l:List Oper) (outs:List T) (h:Nat->T) (d:Option Tmp) (S:TS) (_:Unit):Option (Prop×(Nat->T)):=runP P Γ GL ops l (putT h d (.tup [])) S outs
theorem ygv {u:Unit}:offP P Γ GL ops l outsP h d S u=runP P Γ GL ops l (putT h d (.tup [])) S outsP:=ej rfl rfl
def ykx (P:fe) (Γ:Env) (GL:List (Nat×List Value)) (ops l:List Oper) (outs:List T) (h:Nat->T) (S:TS) (o:Oper) (_:Unit):Option (Prop×(Nat->T)):=yki (zgo P Γ (zem GL h) o S) (yk1 P Γ GL ops l outs h o.dst S)
theorem yac {u:Unit} {op:Op}:ykx P Γ GL ops l outsP h S ⟨d,op,ty,pos,e,g⟩ u=yki (zgo P Γ (zem GL h) ⟨d,op,ty,pos,e,g⟩ S) (yk1 P Γ GL ops l outsP h d S):=ej rfl rfl
theorem z9v {op:Op} (hc:zco op=false):runP P Γ GL ops (⟨d,op,ty,pos,e,g⟩ :: l) h S outsP=zpb (ziz ops h g) (offP P Γ GL ops l outsP h d S) (ykx P Γ GL ops l outsP h S ⟨d,op,ty,pos,e,g⟩):=by
  rw [runP];simp only
  cases hg:ziz ops h g with
  |none=>rfl
  |some b =>
    cases b with
    |false=>rfl
    |true =>
      simp only [zpb,ykx]
      cases hs:zgo P Γ (zem GL h) ⟨d,op,ty,pos,e,g⟩ S with
      |none =>
        cases op with
        |call c =>
          obtain ⟨cal,args,tys⟩:=c
          cases cal with
          |value f=>simp [zco] at hc
          |_=>rfl
        |_=>rfl
      |some r =>
        cases op with
        |call c =>
          obtain ⟨cal,args,tys⟩:=c
          cases cal with
          |value f=>simp [zco] at hc
          |_=>rfl
        |_=>rfl
theorem yfp {op:Op} (hc:zco op=false):runP P Γ GL ops (⟨d,op,ty,pos,e,none⟩ :: l) h S outsP=yki (zgo P Γ (zem GL h) ⟨d,op,ty,pos,e,none⟩ S) (yk1 P Γ GL ops l outsP h d S):=by
  rw [z9v hc];rfl
theorem yfq {op:Op} {j:Nat} {w:Bool} (hc:zco op=false):runP P Γ GL ops (⟨d,op,ty,pos,e,some (j,w)⟩ :: l) h S outsP=zpb (zqg (zqr ops h j) w) (offP P Γ GL ops l outsP h d S) (ykx P Γ GL ops l outsP h S ⟨d,op,ty,pos,e,some (j,w)⟩):=by
  rw [z9v hc,zjv]
def yle (p:Option Prop) (k:Option (Prop×(Nat->T))):Option (Prop×(Nat->T)):=match p,k with
  |some p,some (q,h)=>some (p/\q,h)
  |_,_=>none
theorem zzi {p q:Prop}:yle (some p) (some (q,h))=some (p/\q,h):=ej rfl rfl
def yb3 (P:fe) (Γ:Env) (GL:List (Nat×List Value)) (ops l:List Oper) (outs:List T) (h:Nat->T) (S:TS) (d:Option Tmp) (f:ep) (args:List ep) (r:T) (_:Unit):Option (Prop×(Nat->T)):=yle (z8v P Γ GL S (args.map (zem GL h)) (zem GL h f) r) (runP P Γ GL ops l (putT h d r) S outs)
theorem z6d {u:Unit} {f:ep} {args:List ep} {r:T}:yb3 P Γ GL ops l outsP h S d f args r u=yle (z8v P Γ GL S (args.map (zem GL h)) (zem GL h f) r) (runP P Γ GL ops l (putT h d r) S outsP):=ej rfl rfl
theorem zy5 {f:ep} {args:Array ep} {tys:Array fc} {r:T}:runP P Γ GL ops (⟨d,.call ⟨.value f,args,tys⟩,ty,pos,e,g⟩ :: l) h S (r :: outsP)=zpb (ziz ops h g) (offP P Γ GL ops l (r :: outsP) h d S) (yb3 P Γ GL ops l outsP h S d f args.toList r):=by
  rw [runP];simp only
  cases hg:ziz ops h g with
  |none=>rfl
  |some b =>
    cases b with
    |false=>rfl
    |true =>
      simp only [zpb,yb3]
      cases z8v P Γ GL S (args.toList.map (zem GL h)) (zem GL h f) r with
      |none=>rfl
      |some p=>cases runP P Γ GL ops l (putT h d r) S outsP<;>rfl
theorem z3v {f:ep} {args:Array ep} {tys:Array fc} {r:T}:runP P Γ GL ops (⟨d,.call ⟨.value f,args,tys⟩,ty,pos,e,none⟩ :: l) h S (r :: outsP)=yle (z8v P Γ GL S (args.toList.map (zem GL h)) (zem GL h f) r) (runP P Γ GL ops l (putT h d r) S outsP):=by
  rw [zy5];rfl
theorem zve {f:ep} {args:Array ep} {tys:Array fc} {r:T} {j:Nat} {w:Bool}:runP P Γ GL ops (⟨d,.call ⟨.value f,args,tys⟩,ty,pos,e,some (j,w)⟩ :: l) h S (r :: outsP)=zpb (zqg (zqr ops h j) w) (offP P Γ GL ops l (r :: outsP) h d S) (yb3 P Γ GL ops l outsP h S d f args.toList r):=by
  rw [zy5,zjv]
theorem zvd {f:ep} {args:Array ep} {tys:Array fc} {j:Nat} {w:Bool}:runP P Γ GL ops (⟨d,.call ⟨.value f,args,tys⟩,ty,pos,e,some (j,w)⟩ :: l) h S []=zpb (zqg (zqr ops h j) w) (offP P Γ GL ops l [] h d S) (fun _=>none):=by
  rw [runP];simp only [zjv]
  cases zqg (zqr ops h j) w with
  |none=>rfl
  |some b=>cases b<;>rfl
theorem yb2 {k:Nat} {first cap args:List T} {r:T}:z8v P Γ GL S args (.fn k first cap) r=some (zap P Γ GL k (first++args++cap) S r):=ej rfl rfl
theorem za8 {t u:Nat} {v:T}:tupd h t v u=if u=t then v else h u:=ej rfl rfl
theorem ygl {t:Tmp} {v:T}:putT h (some t) v=tupd h t v:=ej rfl rfl
theorem ygm {v:T}:putT h none v=h:=ej rfl rfl
theorem zj9 {t:Tmp}:zem GL h (.tmp t)=h t:=ej rfl rfl
theorem zfo {v:Value}:zem GL h (.const v)=zn4 v:=ej rfl rfl
theorem yi6 {f:Nat}:zem GL h (.func f)=.fn f [] []:=ej rfl rfl
theorem z5q {f:Nat}:zem GL h (.global f)=yh7 GL f:=ej rfl rfl
theorem yng {k:gl} {n:Int}:zn4 (.int k n)=.int k n:=ej rfl rfl
theorem zg7 {b:Bool}:zn4 (.bool b)=.bool b:=ej rfl rfl
theorem ynf {b:ByteArray}:zn4 (.string b)=.str b:=ej rfl rfl
theorem yhh:zn4 (.slice none 0 0)=.nils:=ej rfl rfl
theorem yhi:zn4 (.pointer none)=.nilp:=ej rfl rfl
theorem yhj:zn4 (.map none)=.nilm:=ej rfl rfl
theorem yhk:zn4 .nilFunc=.nilf:=ej rfl rfl
theorem zye {t:T}:zib S (some t)=some (t,S):=ej rfl rfl
theorem zyf:z6u (some S)=some (.junk,S):=ej rfl rfl
-- which operations are calls
theorem yhz {x}:zco (.move x)=false:=ej rfl rfl
theorem z48 {x}:zco (.assign x)=false:=ej rfl rfl
theorem yhy {a b c}:zco (.pick a b c)=false:=ej rfl rfl
theorem ya0 {x}:zco (.alloc x)=false:=ej rfl rfl
theorem ynl {x y}:zco (.box x y)=false:=ej rfl rfl
theorem yaz {x y}:zco (.build x y)=false:=ej rfl rfl
theorem zal {x y z}:zco (.buildSlice x y z)=false:=ej rfl rfl
theorem yh0 {x y}:zco (.load x y)=false:=ej rfl rfl
theorem yav {x y z}:zco (.store x y z)=false:=ej rfl rfl
theorem zwr {x}:zco (.nilCheck x)=false:=ej rfl rfl
theorem ynm {x y z w v}:zco (.binOp x y z w v)=false:=ej rfl rfl
theorem yss {x y z}:zco (.unOp x y z)=false:=ej rfl rfl
theorem yh1 {x y z}:zco (.convert x y z)=false:=ej rfl rfl
theorem ynk {x y}:zco (.sliceToArrayPointer x y)=false:=ej rfl rfl
theorem zws {x y z}:zco (.makeFunc x y z)=false:=ej rfl rfl
theorem zcg {x y z w}:zco (.lookup x y z w)=false:=ej rfl rfl
theorem zbw {x y}:zco (.makeMap x y)=false:=ej rfl rfl
theorem znv {x y z w}:zco (.mapUpdate x y z w)=false:=ej rfl rfl
theorem zwt {x y z w}:zco (.insert x y z w)=false:=ej rfl rfl
theorem zte {x y z}:zco (.makeSlice x y z)=false:=ej rfl rfl
theorem yaw {x y z w v}:zco (.slice x y z w v)=false:=ej rfl rfl
theorem ztg {x y z}:zco (.fieldAddr x y z)=false:=ej rfl rfl
theorem yay {x y z}:zco (.field x y z)=false:=ej rfl rfl
theorem ztf {x y z}:zco (.indexAddr x y z)=false:=ej rfl rfl
theorem yax {x y z}:zco (.index x y z)=false:=ej rfl rfl
theorem zz0 {x y}:zco (.extract x y)=false:=ej rfl rfl
theorem zz1 {b x y}:zco (.call ⟨.builtin b,x,y⟩)=false:=ej rfl rfl
variable {ρ:ep->T} {t t2:fc} {x y z:ep}
theorem yfi  : zgn P Γ own ρ ⟨d,.move x,ty,pos,e,g⟩ S=zib S (some (ρ x)):=ej rfl rfl
theorem zd3  : zgo P Γ ρ ⟨d,.move x,ty,pos,e,g⟩ S=some (ρ x):=ej rfl rfl
theorem z3p  : zgn P Γ own ρ ⟨d,.assign x,ty,pos,e,g⟩ S=zib S (some (ρ x)):=ej rfl rfl
theorem z3r  : zgo P Γ ρ ⟨d,.assign x,ty,pos,e,g⟩ S=some (ρ x):=ej rfl rfl
theorem yfj  : zgn P Γ own ρ ⟨d,.load t x,ty,pos,e,g⟩ S=zib S (zuu Γ S t (ρ x)):=ej rfl rfl
theorem yfm  : zgo P Γ ρ ⟨d,.load t x,ty,pos,e,g⟩ S=zuu Γ S t (ρ x):=ej rfl rfl
theorem zs3 {k:Nat}:zgn P Γ own ρ ⟨d,.fieldAddr t x k,ty,pos,e,g⟩ S=zib S (zac Γ S t k (ρ x)):=ej rfl rfl
theorem zs5 {k:Nat}:zgo P Γ ρ ⟨d,.fieldAddr t x k,ty,pos,e,g⟩ S=zac Γ S t k (ρ x):=ej rfl rfl
theorem zs1  : zgn P Γ own ρ ⟨d,.indexAddr t x y,ty,pos,e,g⟩ S=zib S (zic Γ S t (ρ x) (ρ y)):=ej rfl rfl
theorem zs4  : zgo P Γ ρ ⟨d,.indexAddr t x y,ty,pos,e,g⟩ S=zic Γ S t (ρ x) (ρ y):=ej rfl rfl
theorem z9m  : zgn P Γ own ρ ⟨d,.index t x y,ty,pos,e,g⟩ S=zib S (zuv Γ t (ρ x) (ρ y)):=ej rfl rfl
theorem z9q  : zgo P Γ ρ ⟨d,.index t x y,ty,pos,e,g⟩ S=zuv Γ t (ρ x) (ρ y):=ej rfl rfl
theorem zy1 {k:Nat}:zgn P Γ own ρ ⟨d,.extract x k,ty,pos,e,g⟩ S=zib S (zma k (ρ x)):=ej rfl rfl
theorem zy2 {k:Nat}:zgo P Γ ρ ⟨d,.extract x k,ty,pos,e,g⟩ S=zma k (ρ x):=ej rfl rfl
theorem yr4 {u:UnOp}:zgn P Γ own ρ ⟨d,.unOp u t x,ty,pos,e,g⟩ S=zib S (tUn u (ρ x)):=ej rfl rfl
theorem yr5 {u:UnOp}:zgo P Γ ρ ⟨d,.unOp u t x,ty,pos,e,g⟩ S=tUn u (ρ x):=ej rfl rfl
theorem ym5 {b:BinOp}:zgn P Γ own ρ ⟨d,.binOp b t x y t2,ty,pos,e,g⟩ S=zib S (tBin P Γ S t b x y (ρ x) (ρ y)):=ej rfl rfl
theorem ym7 {b:BinOp}:zgo P Γ ρ ⟨d,.binOp b t x y t2,ty,pos,e,g⟩ S=tBin P Γ S t b x y (ρ x) (ρ y):=ej rfl rfl
theorem z9n {parts:Array (Nat×ep)}:zgn P Γ own ρ ⟨d,.build t parts,ty,pos,e,g⟩ S=zib S (zi9 Γ ρ t parts.toList):=ej rfl rfl
theorem z9r {parts:Array (Nat×ep)}:zgo P Γ ρ ⟨d,.build t parts,ty,pos,e,g⟩ S=zi9 Γ ρ t parts.toList:=ej rfl rfl
theorem z9l {lo hi mx:Option ep}:zgn P Γ own ρ ⟨d,.slice t x lo hi mx,ty,pos,e,g⟩ S=zib S (zut Γ S t (ρ x) (lo.map ρ) (hi.map ρ) (mx.map ρ)):=ej rfl rfl
theorem z9p {lo hi mx:Option ep}:zgo P Γ ρ ⟨d,.slice t x lo hi mx,ty,pos,e,g⟩ S=zut Γ S t (ρ x) (lo.map ρ) (hi.map ρ) (mx.map ρ):=ej rfl rfl
theorem zu8 {f:Nat} {a c:Array ep}:zgn P Γ own ρ ⟨d,.makeFunc (.func f) a c,ty,pos,e,g⟩ S=zib S (some (.fn f (a.toList.map ρ) (c.toList.map ρ))):=ej rfl rfl
theorem zu9 {f:Nat} {a c:Array ep}:zgo P Γ ρ ⟨d,.makeFunc (.func f) a c,ty,pos,e,g⟩ S=some (.fn f (a.toList.map ρ) (c.toList.map ρ)):=ej rfl rfl
def yku (c a b:T):Option T:=match c with|.bool t=>some (bif t then a else b)|_=>none
theorem ygh {a b:T}:yku (.bool true) a b=some a:=ej rfl rfl
theorem ygi {a b:T}:yku (.bool false) a b=some b:=ej rfl rfl
theorem z7d:zgo P Γ ρ ⟨d,.pick z x y,ty,pos,e,g⟩ S=yku (ρ z) (ρ x) (ρ y):=by
  show (match ρ z with|.bool t=>some (bif t then ρ x else ρ y)|_=>none)=_;cases ρ z<;>rfl
theorem yfh:zgn P Γ own ρ ⟨d,.pick z x y,ty,pos,e,g⟩ S=zib S (yku (ρ z) (ρ x) (ρ y)):=by
  show zib S (zgo P Γ ρ ⟨d,.pick z x y,ty,pos,e,g⟩ S)=_;rw [z7d]
theorem z9o:zgn P Γ own ρ ⟨d,.alloc t,ty,pos,e,g⟩ S=zyo Γ S t:=ej rfl rfl
theorem ym4:zgn P Γ own ρ ⟨d,.box t x,ty,pos,e,g⟩ S=tBox S (ρ x):=ej rfl rfl
theorem z9k:zgn P Γ own ρ ⟨d,.store t x y,ty,pos,e,g⟩ S=z6u (zym Γ S t (ρ y) (ρ x)):=ej rfl rfl
theorem zcd {k:ep} {ok:Bool}:zgn P Γ own ρ ⟨d,.lookup t x k ok,ty,pos,e,g⟩ S=zib S (orW (zdl Γ S t (ρ x) (ρ k) ok) (zij P Γ S t (ρ x) (ρ k) ok)):=ej rfl rfl
theorem zce {k:ep} {ok:Bool}:zgo P Γ ρ ⟨d,.lookup t x k ok,ty,pos,e,g⟩ S=orW (zdl Γ S t (ρ x) (ρ k) ok) (zij P Γ S t (ρ x) (ρ k) ok):=ej rfl rfl
theorem zbv:zgn P Γ own ρ ⟨d,.makeMap t none,ty,pos,e,g⟩ S=zcj S:=ej rfl rfl
theorem yp7 {α:Type} {a:α} {b:Option α}:orW (some a) b=some a:=ej rfl rfl
theorem yp8 {α:Type} {b:Option α}:orW none b=b:=ej rfl rfl
theorem zp1 {k:ep}:zgn P Γ own ρ ⟨d,.mapEntry t x k,ty,pos,e,g⟩ S=zin P Γ S t (ρ k) (ρ x):=ej rfl rfl
theorem zmg {k v:ep}:zgn P Γ own ρ ⟨d,.entryStore t x k v,ty,pos,e,g⟩ S=z6u (zfx S (ρ k) (ρ v) (ρ x)):=ej rfl rfl
theorem zs0:zgn P Γ own ρ ⟨d,.makeSlice t x y,ty,pos,e,g⟩ S=zjm Γ S t (ρ x) (ρ y):=ej rfl rfl
theorem zab {n:Nat} {parts:Array (Nat×ep)}:zgn P Γ own ρ ⟨d,.buildSlice t n parts,ty,pos,e,g⟩ S=bif ownD own d then zaj Γ S ρ t n parts.toList else zib S (zan Γ ρ t n parts.toList):=ej rfl rfl
theorem zaq {n:Nat} {parts:Array (Nat×ep)}:zgo P Γ ρ ⟨d,.buildSlice t n parts,ty,pos,e,g⟩ S=zan Γ ρ t n parts.toList:=ej rfl rfl
theorem ym6:zgo P Γ ρ ⟨d,.call ⟨.builtin .len,#[x],#[t]⟩,ty,pos,e,g⟩ S=tLen Γ S t (ρ x):=ej rfl rfl
theorem ym3:zgn P Γ own ρ ⟨d,.call ⟨.builtin .len,#[x],#[t]⟩,ty,pos,e,g⟩ S=zib S (tLen Γ S t (ρ x)):=ej rfl rfl
theorem z3q:zgn P Γ own ρ ⟨d,.call ⟨.builtin .append,#[x,y],#[t,t2]⟩,ty,pos,e,g⟩ S=bif srcT Γ t2 then zr6 Γ S t (ρ y) (ρ x) else none:=ej rfl rfl
def minT (a b:T):Option T:=match a,b with|.int k a,.int _ b=>some (.int k (min a b))|_,_=>none
def maxT (a b:T):Option T:=match a,b with|.int k a,.int _ b=>some (.int k (max a b))|_,_=>none
theorem yag {k k':gl} {a b:Int}:minT (.int k a) (.int k' b)=some (.int k (min a b)):=ej rfl rfl
theorem yai {k k':gl} {a b:Int}:maxT (.int k a) (.int k' b)=some (.int k (max a b)):=ej rfl rfl
theorem yfk {tys:Array fc}:zgo P Γ ρ ⟨d,.call ⟨.builtin .min,#[x,y],tys⟩,ty,pos,e,g⟩ S=minT (ρ x) (ρ y):=by
  show (match ρ x,ρ y with|.int k a,.int _ b=>some (d7 k (min a b))|_,_=>none)=_;cases ρ x<;>cases ρ y<;>rfl
theorem ym1 {tys:Array fc}:zgn P Γ own ρ ⟨d,.call ⟨.builtin .min,#[x,y],tys⟩,ty,pos,e,g⟩ S=zib S (minT (ρ x) (ρ y)):=by
  show zib S (zgo P Γ ρ ⟨d,.call ⟨.builtin .min,#[x,y],tys⟩,ty,pos,e,g⟩ S)=_;rw [yfk]
theorem yfl {tys:Array fc}:zgo P Γ ρ ⟨d,.call ⟨.builtin .max,#[x,y],tys⟩,ty,pos,e,g⟩ S=maxT (ρ x) (ρ y):=by
  show (match ρ x,ρ y with|.int k a,.int _ b=>some (d7 k (max a b))|_,_=>none)=_;cases ρ x<;>cases ρ y<;>rfl
theorem ym2 {tys:Array fc}:zgn P Γ own ρ ⟨d,.call ⟨.builtin .max,#[x,y],tys⟩,ty,pos,e,g⟩ S=zib S (maxT (ρ x) (ρ y)):=by
  show zib S (zgo P Γ ρ ⟨d,.call ⟨.builtin .max,#[x,y],tys⟩,ty,pos,e,g⟩ S)=_;rw [yfl]
theorem ymw {b:BinOp} {k k':gl} {m n:Int}:tBin P Γ S t b x y (.int k m) (.int k' n)=zcz b k k' m n:=ej rfl rfl
theorem ymv {b:BinOp} {m n:ByteArray}:tBin P Γ S t b x y (.str m) (.str n)=zyp b m n:=ej rfl rfl
theorem ym0 {m n:ByteArray}:zyp .eql m n=some (.bool (decide (m=n))):=ej rfl rfl
theorem ymz {m n:ByteArray}:zyp .neq m n=some (.bool (!decide (m=n))):=ej rfl rfl
theorem yms {b:Bool}:tUn .not (.bool b)=some (.bool (!b)):=ej rfl rfl
theorem ymt {k:gl} {n:Int}:tUn .neg (.int k n)=some (.int k (k.wrap (0 - n))):=ej rfl rfl
end
section
variable {k:gl} {a b:Int}
theorem ynv:zcz .add k k a b=some (.int k (k.wrap (a+b))):=by simp [zcz]
theorem ynn:zcz .sub k k a b=some (.int k (k.wrap (a - b))):=by simp [zcz]
theorem ynp:zcz .mul k k a b=some (.int k (k.wrap (a*b))):=by simp [zcz]
theorem ynu:zcz .eql k k a b=some (.bool (decide (a=b))):=by simp [zcz]
theorem yno:zcz .neq k k a b=some (.bool (decide (a≠b))):=by simp [zcz]
theorem ynq:zcz .lss k k a b=some (.bool (decide (a<b))):=by simp [zcz]
theorem ynr:zcz .leq k k a b=some (.bool (decide (a<=b))):=by simp [zcz]
theorem yns:zcz .gtr k k a b=some (.bool (decide (b<a))):=by simp [zcz]
theorem ynt:zcz .geq k k a b=some (.bool (decide (b<=a))):=by simp [zcz]
theorem zgk (ha:0<=a) (hb:0<b):zcz .quo k k a b=some (.int k (k.wrap (a / b))):=by
  simp only [zcz,jh,cond_true];rw [zAd (by omega),Int.tdiv_eq_ediv_of_nonneg ha]
theorem zgj (ha:0<=a) (hb:0<b):zcz .rem k k a b=some (.int k (a % b)):=by
  simp only [zcz,jh,cond_true];rw [zAd (by omega),Int.tmod_eq_emod_of_nonneg ha]
theorem ysu:zcz .and k k a b=some (.int k (k.wrap (gv k.bits a &&& gv k.bits b).toNat)):=by simp [zcz]
theorem ib_or:zcz .or k k a b=some (.int k (k.wrap (gv k.bits a ||| gv k.bits b).toNat)):=by simp [zcz]
theorem yst:zcz .xor k k a b=some (.int k (k.wrap (gv k.bits a ^^^ gv k.bits b).toNat)):=by simp [zcz]
theorem wr64 {n:Int} (h:-9223372036854775808<=n/\n<=9223372036854775807):IntKind.i64.wrap n=n:=yqi h
theorem yg2 {n:Int} (h:0<=n):natT (.int k n)=some n.toNat:=by
  obtain ⟨m,rfl⟩:=Int.eq_ofNat_of_zero_le h;rfl
theorem yg3 {n:Int} (h:0<=n):zgv (.int k n)=some n.toNat:=by
  obtain ⟨m,rfl⟩:=Int.eq_ofNat_of_zero_le h;rfl
theorem zy9 {n:Int}:zey (.int k n)=.int k n:=ej rfl rfl
theorem yll {α:Type} [Inhabited α] {L:List α} {n:Nat} (h:n<L.length):L[n]?=some (L.getD n default):=by
  rw [eh,ef h];rfl
def stL (l:List Box):TS:=⟨l.length,fun i=>l.getD i .gone⟩
theorem zk7:ts0=stL []:=rfl
theorem st_n (l:List Box):(stL l).n=l.length:=rfl
theorem ymx (l:List Box) (i:Nat):(stL l).box i=l.getD i .gone:=rfl
theorem zyr (l:List Box) (x:Box):(stL l).add x=stL (l++[x]):=by
  unfold stL TS.add;simp only [eu,ez,gd];congr 1;funext i;by_cases hi:i<l.length
  . rw [zAd (by omega),eh,eh,fk hi]
  . by_cases he:i=l.length
    . subst he;rw [zAc rfl];simp
    . rw [zAd he,eh,eh,je (by omega),je (by simp;omega)]
theorem zhs (l:List Box) (b:Nat) (x:Box) (h:b<l.length):(stL l).set b x=stL (l.set b x):=by
  unfold stL TS.set;simp only [List.length_set];congr 1;funext i;rw [eh,eh,List.getElem?_set];by_cases hi:i=b
  . subst hi;rw [zAc rfl,zAc rfl,zAc h];rfl
  . rw [zAd hi,zAd (fun hh=>hi hh.symm)]
theorem z5b {α:Type} (x d:α) (l:List α):(x :: l).getD 0 d=x:=rfl
theorem z5c {α:Type} (x d:α) (l:List α) (n:Nat):(x :: l).getD (n+1) d=l.getD n d:=rfl
end
def z15 (l:List Nat) (h:Nat->T):Nat->T:=fun t=>if t∈l then h t else .junk
def zi4:List Nat->Nat->(Nat->T)->Prop
  |[],_,_=>True
  |t :: l,n,h=>(h t).ids n=true/\zi4 l n h
theorem zp6 {n:Nat} {h:Nat->T}:∀ {l:List Nat},zi4 l n h->∀ t,t∈l->(h t).ids n=true
  |[],_,t,ht=>by simp at ht
  |x :: l,k,t,ht=>by
    rcases List.mem_cons.1 ht with rfl|ht
    . exact k.1
    . exact zp6 k.2 t ht
def zfw (n:Nat):List Box->Bool
  |[]=>true
  |b :: l=>zh6 n b && zfw n l
theorem ye4 {l:List T} {i:Nat} {x:T} (h:i<l.length):spl l i [x]=l.set i x:=by
  unfold spl;rw [List.set_eq_take_append_cons_drop,zAc h];simp
theorem ypx {α:Type} {L:List α} {f:α->T} {i:Nat} {v:α}:(L.map f).set i (f v)=(L.set i v).map f:=(List.map_set).symm
theorem ypv {l:List T}:spl l 0 []=l:=by simp [spl]
theorem yry {a:T} {l xs:List T} {n:Nat}:spl (a :: l) (n+1) xs=a :: spl l n xs:=by
  unfold spl;rw [show n+1+xs.length=(n+xs.length)+1 by omega];simp
theorem yr0 {a x:T} {l xs:List T}:spl (a :: l) 0 (x :: xs)=x :: spl l 0 xs:=by simp [spl]
theorem z7a {α:Type} {L:List α} {f:α->T} {i:Nat} {v:α} (h:i<L.length):spl (L.map f) i [f v]=(L.set i v).map f:=by
  rw [ye4 (by rw [ek];exact h),ypx]
theorem yfu (n:Nat) (k:gl) (z:Int):rep n [.int k z]=(ew n z).map (d7 k):=by
  unfold rep
  induction n with
  |zero=>rfl
  |succ n ih=>rw [jg,gh,ih,jg];rfl
theorem z90 (n:Nat) (z:Bool):rep n [.bool z]=(ew n z).map ri:=by
  unfold rep
  induction n with
  |zero=>rfl
  |succ n ih=>rw [jg,gh,ih,jg];rfl
theorem zgb {α:Type} {L:List α} {f:α->T} (h:∀ x,(f x).cells=[f x]):(L.map f).flatMap gt=L.map f:=by
  induction L with
  |nil=>rfl
  |cons x l ih=>rw [ge,iv,h,ih];rfl
section
variable {GL:List (Nat×List Value)} {A A' A2:Nat->Prop} {β β' β2:Bx} {S S' S2:TS} {s s' s2:CS} {P:fe} {Γ:Env} {N:Nat} {h h' h2:Nat->T} {Q R:Exit->(Nat->T)->TS->Prop}
theorem zov {l:List Nat} {t:Nat} (ht:t∈l):z15 l h t=h t:=zAc ht
theorem zoa {n:Nat} {l:List Box}:∀ {i:Nat},zfw n l=true->zh6 n (l.getD i .gone)=true:=by
  induction l with
  |nil=>intro i _;rfl
  |cons b l ih =>
    intro i h;simp only [zfw,d8] at h
    cases i with
    |zero=>exact h.1
    |succ i=>exact ih h.2
theorem Left.trim {fr fr':Fr} {keep:List Nat} {bs bs2 extra:List Box} (hT:TRel GL A β (stL bs) s) (k:Left GL A β s N fr' s' h' (stL (bs2++extra))) (hl:bs2.length=bs.length) (hb:zfw bs.length bs2=true) (hk:zi4 keep bs.length h'):Left GL A β s N fr' s' (z15 keep h') (stL bs2):=by
  obtain ⟨A',β',k1,k2,k3⟩:=k;have hat:∀ b,b<bs.length->bcut β' bs.length b=β' b:=fun b hb=>zAc hb
  have hsub:∀ b l,bcut β' bs.length b=some l->β' b=some l:=fun b l h=>by
    unfold bcut at h;split at h
    . exact h
    . simp at h
  have hkp:zmw (stL (bs2++extra)) (stL bs2):=by
    refine ⟨by simp [stL],fun b=>?_⟩;by_cases hbl:b<bs2.length
    . refine .inr ⟨hbl,?_,?_⟩
      . show bs2.getD b .gone=(bs2++extra).getD b .gone;rw [eh,eh,fk hbl]
      . show zh6 bs2.length ((bs2++extra).getD b .gone)=true;rw [eh,fk hbl,<- eh,hl];exact zoa hb
    . left;show bs2.getD b .gone=.gone;rw [eh,je (by omega)];rfl
  have hcut:=k2.cut hkp;have hn:(stL bs2).n=bs.length:=hl;rw [hn] at hcut;refine ⟨A',bcut β' bs.length,⟨k1.nt,k1.le,fun t=>?_⟩,hcut,k3.can,k3.sub,k3.new,fun f hf=>?_,k3.keep,fun b l hb'=>?_,k3.rd,k3.wr⟩
  . by_cases ht:t∈keep
    . rw [zov ht];exact (k1.slot t).ids hat (zp6 hk t ht)
    . rw [show z15 keep h' t=.junk from zAd ht];exact .junk _
  . obtain ⟨b,hb'⟩:=hf;exact k3.own f ⟨b,hb'.imp (fun ⟨u,N,h⟩=>⟨u,N,hsub _ _ h⟩) fun h=>hsub _ _ h⟩
  . obtain ⟨l',c1,c2⟩:=k3.bx b l hb'
    have:b<bs.length:=by
      by_cases hh:b<bs.length
      . exact hh
      . rw [hT.next b (by show bs.length<=b;omega)] at hb';simp at hb'
    exact ⟨l',by rw [hat b this];exact c1,c2⟩
def ytp (keep:List Nat) (n:Nat) (I:Nat->(Nat->T)->List Box->Prop) (m0:Nat) (h':Nat->T) (S':TS):Prop :=
  ∃ m,m<m0/\∃ bs',S'=stL bs'/\n<=bs'.length/\zfw n (bs'.take n)=true/\zi4 keep n h'/\I m (z15 keep h') (bs'.take n)
theorem TW.loopT {b:Code} (keep:List Nat) (I:Nat->(Nat->T)->List Box->Prop) (hb:∀ m h bs,I m h bs->TW P Γ GL N b h (stL bs) (onT (fun h' S'=>ytp keep bs.length I m h' S') Q)):∀ m h bs,I m h bs->TW P Γ GL N (.loop b) h (stL bs) Q:=by
  intro m
  induction m using Nat.strongRecOn with
  |_ m ih =>
    intro h bs hI A β fr s hF hT;obtain ⟨e,fr1,s1,h1,h',S',hleft,hq⟩:=hb m h bs hI A β fr s hF hT
    cases e with
    |normal =>
      obtain ⟨m2,hm,bs',rfl,hl,hbi,hki,hI'⟩:=hq;have hl2:=Left.trim (fr:=fr) (keep:=keep) (bs2:=bs'.take bs.length) (extra:=bs'.drop bs.length) hT (by rw [jn];exact hleft) (by rw [gi];omega) hbi hki;obtain ⟨A',β',k1,k2,k3⟩:=hl2;obtain ⟨e2,fr2,s2,h3,h2,S2,l2,q2⟩:=ih m2 hm _ _ hI' A' β' fr1 s1 k1 k2;exact ⟨e2,fr2,s2,Ev.again h1 h3,h2,S2,Left.trans (h':=h) (fr':=fr) hT.le k3 l2,q2⟩
    |_=>exact ⟨_,_,_,Ev.last h1 (by simp),h',S',hleft,hq⟩
def Ends (keep:List Nat) (n:Nat) (R:(Nat->T)->List Box->Prop) (h':Nat->T) (S':TS):Prop :=
  ∃ bs',S'=stL bs'/\n<=bs'.length/\zfw n (bs'.take n)=true/\zi4 keep n h'/\R (z15 keep h') (bs'.take n)
theorem TRel.freezeP (hT:TRel GL A β S s) {b M:Nat} {z:Bool} {l:List T} (hS:S.box b=.cells z M l) :
    ∃ A' β',TRel GL A' β' (S.set b .gone) s/\Stp A β s A' β' s/\∀ {v:Value},VT A β (zaa s.obj) (.ptr b 0 M) v->VT A' β' (zaa s.obj) (.cp l) v:=by
  obtain ⟨hlN,hc⟩:=hT.cells b z M l hS;rcases hc with ⟨hb,hN,_⟩|⟨f,u,cs,rest,hb,hz,hat,hvl,hone⟩
  . obtain ⟨k1,k2⟩:=hT.dead hb A (fun _ h=>h) (fun _ h=>.inl h);refine ⟨_,_,k1,k2,fun {v} hv=>?_⟩;obtain ⟨f,u,rfl,hb'⟩:=zk3 hT hS hv;rw [hb] at hb';simp at hb'
  . obtain ⟨k1,k2⟩:=hT.dead hb (fun k=>A k\/k=f) (fun _ h=>.inl h) (fun k hk=>hk.imp id fun q=>by rw [q];rfl);refine ⟨_,_,k1,k2,fun {v} hv=>?_⟩;obtain ⟨f',u',rfl,hb'⟩:=zk3 hT hS hv;rw [hb] at hb';cases hb'
    have hrow:zcb (zaa s.obj f).rows u=some cs:=by
      rw [hat];show zcb ((u,cs) :: rest) u=some cs;unfold zcb;rw [jh];rfl
    exact .cp (.inr rfl) hrow (hvl.mono (fun _ h=>.inl h) (fun _ _=>rfl) k2.bx) (by rw [fl,pl])
theorem TW.freezeP {c:Code} (t:Nat) {b M:Nat} {z:Bool} {l:List T} (ht:h t=.ptr b 0 M) (hS:S.box b=.cells z M l) (k:TW P Γ GL N c (tupd h t (.cp l)) (S.set b .gone) Q):TW P Γ GL N c h S Q:=by
  intro A β fr s hF hT;obtain ⟨A',β',k1,k2,k3⟩:=hT.freezeP hS;have hv:=hF.slot t;rw [ht] at hv
  have hF':FrOk A' β' (zaa s.obj) N (tupd h t (.cp l)) fr:=⟨hF.nt,hF.le,fun u=>by
    by_cases hu:u=t
    . subst hu;rw [zhr];exact k3 hv
    . rw [zl9 _ _ _ _ hu];exact k2.vt hT (hF.slot u)⟩
  refine (k A' β' fr s hF' k1).mono ?_;rintro e2 fr2 s2 ⟨h2,S2,l2,q2⟩;exact ⟨h2,S2,Left.trans (h':=h) (fr':=fr) hT.le k2 l2,q2⟩
theorem TW.cut {a:Code} {k:(Nat->T)->TS->Prop} (keep:List Nat) {bs:List Box} (R:(Nat->T)->List Box->Prop) (hR:TW P Γ GL N a h (stL bs) fun e h' S'=>e=.normal/\Ends keep bs.length R h' S') (hk:∀ h bs2,R h bs2->k h (stL bs2)):TW P Γ GL N a h (stL bs) (onT k Q):=by
  intro A β fr s hF hT;obtain ⟨e,fr1,s1,h1,h',S',hleft,rfl,bs',rfl,hl,hbi,hki,hq⟩:=hR A β fr s hF hT;exact ⟨_,fr1,s1,h1,_,_,Left.trim (fr:=fr) (keep:=keep) (bs2:=bs'.take bs.length) (extra:=bs'.drop bs.length) hT (by rw [jn];exact hleft) (by rw [gi];omega) hbi hki,hk _ _ hq⟩
end
theorem zt4 {k:gl} {n:Int}:nh (d7 k n)=true:=ej rfl rfl
theorem ybw {k:gl} {n:Int}:gt (d7 k n)=[(d7 k n)]:=ej rfl rfl
theorem zq3 {b:Bool}:nh (ri b)=true:=ej rfl rfl
theorem z6a {b:Bool}:gt (ri b)=[(ri b)]:=ej rfl rfl
theorem zt2 {b:ByteArray}:nh (oq b)=true:=ej rfl rfl
theorem ybt {b:ByteArray}:gt (oq b)=[(oq b)]:=ej rfl rfl
theorem zt3 {e:Nat} {l:List T}:nh (T.lst e l)=true:=ej rfl rfl
theorem ybv {e:Nat} {l:List T}:gt (T.lst e l)=[(T.lst e l)]:=ej rfl rfl
theorem z4d  : nh (T.nils)=true:=ej rfl rfl
theorem z55  : gt (T.nils)=[(T.nils)]:=ej rfl rfl
theorem z4e  : nh (T.nilp)=true:=ej rfl rfl
theorem z56  : gt (T.nilp)=[(T.nilp)]:=ej rfl rfl
theorem z4f  : nh (T.nilm)=true:=ej rfl rfl
theorem z57  : gt (T.nilm)=[(T.nilm)]:=ej rfl rfl
theorem z4g  : nh (T.nilf)=true:=ej rfl rfl
theorem z58  : gt (T.nilf)=[(T.nilf)]:=ej rfl rfl
theorem z99 {b o n:Nat}:nh (T.ptr b o n)=true:=ej rfl rfl
theorem ybu {b o n:Nat}:gt (T.ptr b o n)=[(T.ptr b o n)]:=ej rfl rfl
theorem ygs {l:List T}:nh (T.cp l)=true:=ej rfl rfl
theorem yjn {l:List T}:gt (T.cp l)=[(T.cp l)]:=ej rfl rfl
theorem yab {b e o l c n:Nat}:nh (T.arr b e o l c n)=true:=ej rfl rfl
theorem yby {b e o l c n:Nat}:gt (T.arr b e o l c n)=[(T.arr b e o l c n)]:=ej rfl rfl
theorem ygq {b:Nat}:nh (T.mp b)=true:=ej rfl rfl
theorem yjl {b:Nat}:gt (T.mp b)=[(T.mp b)]:=ej rfl rfl
theorem ygr {f:Nat} {a c:List T}:nh (T.fn f a c)=true:=ej rfl rfl
theorem yjm {f:Nat} {a c:List T}:gt (T.fn f a c)=[(T.fn f a c)]:=ej rfl rfl
theorem yaa {e:Nat}:nh (T.emp e)=true:=ej rfl rfl
theorem ybx {e:Nat}:gt (T.emp e)=[(T.emp e)]:=ej rfl rfl
theorem ypc {k:gl}:aggT (.int k)=false:=ej rfl rfl
theorem ypd  : aggT .bool=false:=ej rfl rfl
theorem yo8  : aggT .string=false:=ej rfl rfl
theorem ypb {k:fc}:aggT (.slice k)=false:=ej rfl rfl
theorem yo9 {k:fc}:aggT (.pointer k)=false:=ej rfl rfl
theorem ypa {k k2:fc}:aggT (.map k k2)=false:=ej rfl rfl
theorem b0:type_of% (dx (dx (dx (dx (dx (@yfn) (@yfo)) (dx (@z3u) (@zvc))) (dx (dx (@zvb) (@z9s)) (dx (@ygy) (@ynd)))) (dx (dx (dx (@ygt) (@yb4)) (dx (@yfp) (@yfq))) (dx (dx (@z3v) (@zve)) (dx (@zvd) (@z9u))))) (dx (dx (dx (dx (@yaf) (@ygv)) (dx (@yac) (@z6d))) (dx (dx (@yea) (@yeb)) (dx (@yed) (@yee)))) (dx (dx (dx (@yec) (@zyt)) (dx (@zyu) (@yh9))) (dx (dx (@ya2) (@z3a)) (dx (@zyk) (@z4z)))))):=dx (dx (dx (dx (dx (@yfn) (@yfo)) (dx (@z3u) (@zvc))) (dx (dx (@zvb) (@z9s)) (dx (@ygy) (@ynd)))) (dx (dx (dx (@ygt) (@yb4)) (dx (@yfp) (@yfq))) (dx (dx (@z3v) (@zve)) (dx (@zvd) (@z9u))))) (dx (dx (dx (dx (@yaf) (@ygv)) (dx (@yac) (@z6d))) (dx (dx (@yea) (@yeb)) (dx (@yed) (@yee)))) (dx (dx (dx (@yec) (@zyt)) (dx (@zyu) (@yh9))) (dx (dx (@ya2) (@z3a)) (dx (@zyk) (@z4z)))))
theorem b1:type_of% (dx (dx (dx (dx (dx (@zzi) (@yb0)) (dx (@yb2) (@ygl))) (dx (dx (@ygm) (@zj9)) (dx (@zfo) (@yi6)))) (dx (dx (dx (@z5q) (@yng)) (dx (@zg7) (@ynf))) (dx (dx (@yhh) (@yhi)) (dx (@yhj) (@yhk))))) (dx (dx (dx (dx (@zye) (@zyf)) (dx (@yhz) (@z48))) (dx (dx (@yhy) (@ya0)) (dx (@ynl) (@yaz)))) (dx (dx (dx (@zal) (@yh0)) (dx (@yav) (@zwr))) (dx (dx (@ynm) (@yss)) (dx (@yh1) (@ynk)))))):=dx (dx (dx (dx (dx (@zzi) (@yb0)) (dx (@yb2) (@ygl))) (dx (dx (@ygm) (@zj9)) (dx (@zfo) (@yi6)))) (dx (dx (dx (@z5q) (@yng)) (dx (@zg7) (@ynf))) (dx (dx (@yhh) (@yhi)) (dx (@yhj) (@yhk))))) (dx (dx (dx (dx (@zye) (@zyf)) (dx (@yhz) (@z48))) (dx (dx (@yhy) (@ya0)) (dx (@ynl) (@yaz)))) (dx (dx (dx (@zal) (@yh0)) (dx (@yav) (@zwr))) (dx (dx (@ynm) (@yss)) (dx (@yh1) (@ynk)))))
theorem b2:type_of% (dx (dx (dx (dx (dx (@zws) (@zte)) (dx (@yaw) (@ztg))) (dx (dx (@yay) (@ztf)) (dx (@yax) (@zz0)))) (dx (dx (dx (@zz1) (@yfi)) (dx (@zd3) (@z3p))) (dx (dx (@z3r) (@yfj)) (dx (@yfm) (@zd3))))) (dx (dx (dx (dx (@zd3) (@zd3)) (dx (@zd3) (@zs3))) (dx (dx (@zs5) (@zd3)) (dx (@zd3) (@zs1)))) (dx (dx (dx (@zs4) (@z9m)) (dx (@z9q) (@zy1))) (dx (dx (@zy2) (@yr4)) (dx (@yr5) (@ym5)))))):=dx (dx (dx (dx (dx (@zws) (@zte)) (dx (@yaw) (@ztg))) (dx (dx (@yay) (@ztf)) (dx (@yax) (@zz0)))) (dx (dx (dx (@zz1) (@yfi)) (dx (@zd3) (@z3p))) (dx (dx (@z3r) (@yfj)) (dx (@yfm) (@zd3))))) (dx (dx (dx (dx (@zd3) (@zd3)) (dx (@zd3) (@zs3))) (dx (dx (@zs5) (@zd3)) (dx (@zd3) (@zs1)))) (dx (dx (dx (@zs4) (@z9m)) (dx (@z9q) (@zy1))) (dx (dx (@zy2) (@yr4)) (dx (@yr5) (@ym5)))))
theorem b3:type_of% (dx (dx (dx (dx (dx (@ym7) (@z9n)) (dx (@z9r) (@z9l))) (dx (dx (@z9p) (@zu8)) (dx (@zu9) (@yfh)))) (dx (dx (dx (@z7d) (@zd3)) (dx (@zd3) (@zab))) (dx (dx (@zaq) (@ym3)) (dx (@ym6) (@ym1))))) (dx (dx (dx (dx (@yfk) (@ym2)) (dx (@yfl) (@z9o))) (dx (dx (@ym4) (@z9k)) (dx (@zs0) (@z3q)))) (dx (dx (dx (@zd3) (@ygh)) (dx (@ygi) (@yag))) (dx (dx (@yai) (@ymw)) (dx (@ymv) (@ym0)))))):=dx (dx (dx (dx (dx (@ym7) (@z9n)) (dx (@z9r) (@z9l))) (dx (dx (@z9p) (@zu8)) (dx (@zu9) (@yfh)))) (dx (dx (dx (@z7d) (@zd3)) (dx (@zd3) (@zab))) (dx (dx (@zaq) (@ym3)) (dx (@ym6) (@ym1))))) (dx (dx (dx (dx (@yfk) (@ym2)) (dx (@yfl) (@z9o))) (dx (dx (@ym4) (@z9k)) (dx (@zs0) (@z3q)))) (dx (dx (dx (@zd3) (@ygh)) (dx (@ygi) (@yag))) (dx (dx (@yai) (@ymw)) (dx (@ymv) (@ym0)))))
theorem b4:type_of% (dx (dx (dx (dx (dx (@ymz) (@yms)) (dx (@ymt) (@za8))) (dx (dx (@zy9) (@yg2)) (dx (@yg3) (@yfu)))) (dx (dx (dx (@z90) (@ypv)) (dx (@yry) (@yr0))) (dx (dx (@ynv) (@ynn)) (dx (@ynp) (@ynu))))) (dx (dx (dx (dx (@yno) (@ynq)) (dx (@ynr) (@yns))) (dx (dx (@ynt) (@zgk)) (dx (@zgj) (@zk7)))) (dx (dx (dx (@st_n) (@ymx)) (dx (@zyr) (@zhs))) (dx (dx (@z5b) (@z5c)) (dx (@cond_true.{1}) (@cond_false.{1})))))):=dx (dx (dx (dx (dx (@ymz) (@yms)) (dx (@ymt) (@za8))) (dx (dx (@zy9) (@yg2)) (dx (@yg3) (@yfu)))) (dx (dx (dx (@z90) (@ypv)) (dx (@yry) (@yr0))) (dx (dx (@ynv) (@ynn)) (dx (@ynp) (@ynu))))) (dx (dx (dx (dx (@yno) (@ynq)) (dx (@ynr) (@yns))) (dx (dx (@ynt) (@zgk)) (dx (@zgj) (@zk7)))) (dx (dx (dx (@st_n) (@ymx)) (dx (@zyr) (@zhs))) (dx (dx (@z5b) (@z5c)) (dx (@cond_true.{1}) (@cond_false.{1})))))
theorem b5:type_of% (dx (dx (dx (dx (dx (@List.toList_toArray.{0}) (@ge.{0,0})) (dx (@qu.{0,0}) (@ez.{0}))) (dx (dx (@gd.{0}) (@ek.{0,0})) (dx (@fx.{0}) (@jo.{0})))) (dx (dx (dx (@ki.{0,0}) (@ld.{0,0})) (dx (@qz.{0,0}) (@fb.{0}))) (dx (dx (@fq.{0}) (@fp.{0})) (dx (@ig.{0}) (@List.all_nil.{0}))))) (dx (dx (dx (dx (@fl.{0}) (@jp.{0})) (dx (@me.{0}) (@l9.{0}))) (dx (dx (@ku.{0}) (@kb.{0})) (dx (@lc) (@ju)))) (dx (dx (dx (@el) (@gp)) (dx (@Bool.not_false) (@Bool.false_and))) (dx (dx (@Bool.and_false) (@zkv)) (dx (@yb8) (@zkw)))))):=dx (dx (dx (dx (dx (@List.toList_toArray.{0}) (@ge.{0,0})) (dx (@qu.{0,0}) (@ez.{0}))) (dx (dx (@gd.{0}) (@ek.{0,0})) (dx (@fx.{0}) (@jo.{0})))) (dx (dx (dx (@ki.{0,0}) (@ld.{0,0})) (dx (@qz.{0,0}) (@fb.{0}))) (dx (dx (@fq.{0}) (@fp.{0})) (dx (@ig.{0}) (@List.all_nil.{0}))))) (dx (dx (dx (dx (@fl.{0}) (@jp.{0})) (dx (@me.{0}) (@l9.{0}))) (dx (dx (@ku.{0}) (@kb.{0})) (dx (@lc) (@ju)))) (dx (dx (dx (@el) (@gp)) (dx (@Bool.not_false) (@Bool.false_and))) (dx (dx (@Bool.and_false) (@zkv)) (dx (@yb8) (@zkw)))))
theorem b6:type_of% (dx (dx (dx (dx (dx (@jh) (@pf)) (dx (@f6) (@ii))) (dx (dx (@sc) (@ns.{0})) (dx (@ownD.eq_1) (@ownD.eq_2)))) (dx (dx (dx (@has.eq_1) (@has.eq_2)) (dx (@tLen.eq_1) (@zuu.eq_1))) (dx (dx (@zuu.eq_2) (@zym.eq_1)) (dx (@z7q.eq_1) (@tBox.eq_1))))) (dx (dx (dx (dx (@zyo.eq_1) (@zgr.eq_1)) (dx (@zgr.eq_2) (@zl6.eq_1))) (dx (dx (@zl6.eq_2) (@zl6.eq_3)) (dx (@zl6.eq_4) (@zl6.eq_5)))) (dx (dx (dx (@zl6.eq_6) (@zl6.eq_7)) (dx (@zic.eq_1) (@zuv.eq_1))) (dx (dx (@zma.eq_1) (@zk8.eq_1)) (dx (@zk8.eq_2) (@zk8.eq_3)))))):=dx (dx (dx (dx (dx (@jh) (@pf)) (dx (@f6) (@ii))) (dx (dx (@sc) (@ns.{0})) (dx (@ownD.eq_1) (@ownD.eq_2)))) (dx (dx (dx (@has.eq_1) (@has.eq_2)) (dx (@tLen.eq_1) (@zuu.eq_1))) (dx (dx (@zuu.eq_2) (@zym.eq_1)) (dx (@z7q.eq_1) (@tBox.eq_1))))) (dx (dx (dx (dx (@zyo.eq_1) (@zgr.eq_1)) (dx (@zgr.eq_2) (@zl6.eq_1))) (dx (dx (@zl6.eq_2) (@zl6.eq_3)) (dx (@zl6.eq_4) (@zl6.eq_5)))) (dx (dx (dx (@zl6.eq_6) (@zl6.eq_7)) (dx (@zic.eq_1) (@zuv.eq_1))) (dx (dx (@zma.eq_1) (@zk8.eq_1)) (dx (@zk8.eq_2) (@zk8.eq_3)))))
theorem b7:type_of% (dx (dx (dx (dx (dx (@zut.eq_1) (@zd3)) (dx (@TS.has.eq_1) (@zjm.eq_1))) (dx (dx (@aggT.eq_1) (@aggT.eq_2)) (dx (@ypc) (@ypd)))) (dx (dx (dx (@yo8) (@ypb)) (dx (@yo9) (@ypa))) (dx (dx (@gt.eq_1) (@nh.eq_1)) (dx (@nh.eq_2) (@nh.eq_3))))) (dx (dx (dx (dx (@zt4) (@ybw)) (dx (@zq3) (@z6a))) (dx (dx (@zt2) (@ybt)) (dx (@zt3) (@ybv)))) (dx (dx (dx (@z4d) (@z55)) (dx (@z4e) (@z56))) (dx (dx (@z4f) (@z57)) (dx (@z4g) (@z58)))))):=dx (dx (dx (dx (dx (@zut.eq_1) (@zd3)) (dx (@TS.has.eq_1) (@zjm.eq_1))) (dx (dx (@aggT.eq_1) (@aggT.eq_2)) (dx (@ypc) (@ypd)))) (dx (dx (dx (@yo8) (@ypb)) (dx (@yo9) (@ypa))) (dx (dx (@gt.eq_1) (@nh.eq_1)) (dx (@nh.eq_2) (@nh.eq_3))))) (dx (dx (dx (dx (@zt4) (@ybw)) (dx (@zq3) (@z6a))) (dx (dx (@zt2) (@ybt)) (dx (@zt3) (@ybv)))) (dx (dx (dx (@z4d) (@z55)) (dx (@z4e) (@z56))) (dx (dx (@z4f) (@z57)) (dx (@z4g) (@z58)))))
theorem b8:type_of% (dx (dx (dx (@z99) (dx (@ybu) (@ygs))) (dx (@yjn) (dx (@yab) (@yby)))) (dx (dx (@ygq) (dx (@yjl) (@ygr))) (dx (@yjm) (dx (@yaa) (@ybx))))):=dx (dx (dx (@z99) (dx (@ybu) (@ygs))) (dx (@yjn) (dx (@yab) (@yby)))) (dx (dx (@ygq) (dx (@yjl) (@ygr))) (dx (@yjm) (dx (@yaa) (@ybx))))
theorem apA:type_of% (dx (dx (dx (@zr6.eq_1) (@z6j)) (dx (@zps) (dx (@zxh) (@Bool.or_false)))) (dx (dx (@Bool.or_self) (@iv.{0,0})) (dx (@List.flatMap_nil.{0,0}) (dx (@jc) (@n7))))):=dx (dx (dx (@zr6.eq_1) (@z6j)) (dx (@zps) (dx (@zxh) (@Bool.or_false)))) (dx (dx (@Bool.or_self) (@iv.{0,0})) (dx (@List.flatMap_nil.{0,0}) (dx (@jc) (@n7))))
theorem apB:type_of% (dx (dx (@zdu.eq_1) (@zdu.eq_2)) (dx (@zan.eq_1) (dx (@zab) (@zaq)))):=dx (dx (@zdu.eq_1) (@zdu.eq_2)) (dx (@zan.eq_1) (dx (@zab) (@zaq)))
theorem lzA:type_of% (dx (@ez.{0}) (dx (@gd.{0}) (@f6))):=dx (@ez.{0}) (dx (@gd.{0}) (@f6))
mutual
def T.ren (ρ:Nat->Nat):T->T
  |.agg l=>.agg (T.renL ρ l)
  |.tup l=>.tup (T.renL ρ l)
  |.lst e l=>.lst e (T.renL ρ l)
  |.cp l=>.cp (T.renL ρ l)
  |.ptr b o N=>.ptr (ρ b) o N
  |.arr b e o l c N=>.arr (ρ b) e o l c N
  |.mp b=>.mp (ρ b)
  |.fn f a c=>.fn f (T.renL ρ a) (T.renL ρ c)
  |.int k n=>.int k n
  |.bool b=>.bool b
  |.str b=>.str b
  |.nils=>.nils
  |.nilp=>.nilp
  |.nilm=>.nilm
  |.nilf=>.nilf
  |.junk=>.junk
  |.emp e=>.emp e
def T.renL (ρ:Nat->Nat):List T->List T
  |[]=>[]
  |t :: l=>t.ren ρ :: T.renL ρ l
end
def zfa (ρ:Nat->Nat):Box->Box
  |.gone=>.gone
  |.cells z N l=>.cells z N (T.renL ρ l)
  |.map l=>.map (l.map fun p=>(p.1.ren ρ,p.2.ren ρ))
section
variable {GL:List (Nat×List Value)} {A A' A1:Nat->Prop} {β β' β0 β1:Bx} {S S' S0 S1:TS} {s s' s1:CS} {P:fe} {Γ:Env} {g g':Nat->Fam} {ρ:Nat->Nat} {n:Nat}
theorem zmi:∀ (l:List T),T.renL ρ l=l.map (T.ren ρ)
  |[]=>rfl
  |t :: l=>by rw [T.renL,ge,zmi l]
theorem zkm (l:List T):(T.renL ρ l).length=l.length:=by rw [zmi,ek]
theorem z7i (l m:List T):T.renL ρ (l++m)=T.renL ρ l++T.renL ρ m:=by simp only [zmi,pv]
theorem zvh (t:T):(t.ren ρ).cells=T.renL ρ t.cells:=by
  cases t<;>simp only [T.ren,gt,T.renL]
theorem z1r:∀ (l:List T),(T.renL ρ l).flatMap gt=T.renL ρ (l.flatMap gt)
  |[]=>rfl
  |t :: l=>by rw [T.renL,iv,iv,zvh,z1r l,z7i]
theorem yhx:∀ {l:List T},T.idsL n l=true->∀ t,t∈l->t.ids n=true
  |[],_,t,h=>by simp at h
  |x :: l,h,t,ht=>by
    simp only [T.idsL,d8] at h;rcases List.mem_cons.1 ht with rfl|ht
    . exact h.1
    . exact yhx h.2 t ht
mutual
theorem VT.up (hβ:∀ b,b<n->β' (ρ b)=β b):∀ {t:T} {v:Value},t.ids n=true->VT A β g t v->VT A β' g (t.ren ρ) v
  |_,_,_,.int k n=>.int k n
  |_,_,_,.bool b=>.bool b
  |_,_,_,.str b=>.str b
  |_,_,hi,.agg h=>.agg (VL.up hβ hi h)
  |_,_,hi,.tup h=>.tup (VL.up hβ hi h)
  |_,_,_,.lnil=>.lnil
  |.lst e l,_,hi,.lst h1 h2 h3 h4 h5 h6 h7 h8=>by
    have q:=VL.up hβ (zlx hi) h3;rw [<- z1r] at q;have:=VT.lst (l:=T.renL ρ l) h1 h2 q (fun t ht=>by rw [zmi] at ht;obtain ⟨x,hx,rfl⟩:=List.mem_map.1 ht;rw [zvh,zkm];exact h4 x hx) h5 h6 h7 (by rw [zkm];exact h8);rw [zkm] at this;exact this
  |_,_,_,.nils=>.nils
  |_,_,_,.nilp=>.nilp
  |_,_,_,.nilm=>.nilm
  |_,_,_,.nilf=>.nilf
  |_,_,hi,.ptr h=>.ptr (by rw [hβ _ (zaf.1 hi)];exact h)
  |_,_,hi,.ptrOld h h0 h1 h2=>.ptrOld (by rw [hβ _ (zaf.1 hi)];exact h) h0 h1 h2
  |_,_,hi,.cp h1 h2 h3 h4=>.cp h1 h2 (VL.up hβ hi h3) h4
  |_,_,hi,.arr h ht=>.arr (by rw [hβ _ (zaf.1 hi)];exact h) ht
  |_,_,hi,.arrNil h=>.arrNil (by rw [hβ _ (zaf.1 hi)];exact h)
  |_,_,hi,.arrOld h h0 h1 h2=>.arrOld (by rw [hβ _ (zaf.1 hi)];exact h) h0 h1 h2
  |_,_,hi,.mp h=>.mp (by rw [hβ _ (zaf.1 hi)];exact h)
  |_,_,hi,.mpOld h h2=>.mpOld (by rw [hβ _ (zaf.1 hi)];exact h) h2
  |_,_,hi,.fn h1 h2=>by
    simp only [T.ids,d8] at hi;exact .fn (VL.up hβ hi.1 h1) (VL.up hβ hi.2 h2)
  |_,_,_,.junk v=>.junk v
  |_,_,_,.emp h1 h2 h3 h4=>.emp h1 h2 h3 h4
theorem VL.up (hβ:∀ b,b<n->β' (ρ b)=β b):∀ {l:List T} {vs:List Value},T.idsL n l=true->VL A β g l vs->VL A β' g (T.renL ρ l) vs
  |_,_,_,.nil=>.nil
  |_,_,hi,.cons h k=>by
    simp only [T.idsL,d8] at hi;exact .cons (VT.up hβ hi.1 h) (VL.up hβ hi.2 k)
end
mutual
theorem VT.down (hβ:∀ b,b<n->β' b=β (ρ b)):∀ {t':T} {v:Value},VT A β g t' v->∀ {t:T},t.ren ρ=t'->t.ids n=true->VT A β' g t v
  |_,_,.int k m,t,e,hi=>by
    cases t<;>simp [T.ren] at e;obtain ⟨rfl,rfl⟩:=e;exact .int _ _
  |_,_,.bool b,t,e,hi=>by
    cases t<;>simp [T.ren] at e;subst e;exact .bool _
  |_,_,.str b,t,e,hi=>by
    cases t<;>simp [T.ren] at e;subst e;exact .str _
  |_,_,.agg h,t,e,hi=>by
    cases t<;>simp [T.ren] at e;exact .agg (VL.down hβ h e hi)
  |_,_,.tup h,t,e,hi=>by
    cases t<;>simp [T.ren] at e;exact .tup (VL.down hβ h e hi)
  |_,_,.lnil,t,e,hi=>by
    cases t<;>simp [T.ren] at e;rename_i e' l;obtain ⟨rfl,e⟩:=e
    cases l with
    |nil=>exact .lnil
    |cons x l=>simp [T.renL] at e
  |_,_,.lst (l:=l') h1 h2 h3 h4 h5 h6 h7 h8,t,e,hi=>by
    cases t<;>simp [T.ren] at e;rename_i e' l;have q:=VL.down hβ h3 (l:=l.flatMap gt) (by rw [<- e.2];exact (z1r l).symm) (zlx hi);obtain ⟨rfl,rfl⟩:=e;have:=VT.lst (l:=l) h1 h2 q (fun t ht=>by have:=h4 (t.ren ρ) (by rw [zmi];exact List.mem_map_of_mem ht);rw [zvh,zkm] at this;exact this) h5 h6 h7 (by rw [zkm] at h8;exact h8);rw [zkm];exact this
  |_,_,.nils,t,e,hi=>by cases t<;>simp [T.ren] at e;exact .nils
  |_,_,.nilp,t,e,hi=>by cases t<;>simp [T.ren] at e;exact .nilp
  |_,_,.nilm,t,e,hi=>by cases t<;>simp [T.ren] at e;exact .nilm
  |_,_,.nilf,t,e,hi=>by cases t<;>simp [T.ren] at e;exact .nilf
  |_,_,.ptr h,t,e,hi=>by
    cases t<;>simp [T.ren] at e;obtain ⟨rfl,rfl,rfl⟩:=e;exact .ptr (by rw [hβ _ (zaf.1 hi)];exact h)
  |_,_,.ptrOld h h0 h1 h2,t,e,hi=>by
    cases t<;>simp [T.ren] at e;obtain ⟨rfl,rfl,rfl⟩:=e;exact .ptrOld (by rw [hβ _ (zaf.1 hi)];exact h) h0 h1 h2
  |_,_,.cp h1 h2 h3 h4,t,e,hi=>by
    cases t<;>simp [T.ren] at e;exact .cp h1 h2 (VL.down hβ h3 e hi) h4
  |_,_,.arr h ht,t,e,hi=>by
    cases t<;>simp [T.ren] at e;obtain ⟨rfl,rfl,rfl,rfl,rfl,rfl⟩:=e;exact .arr (by rw [hβ _ (zaf.1 hi)];exact h) ht
  |_,_,.arrNil h,t,e,hi=>by
    cases t<;>simp [T.ren] at e;obtain ⟨rfl,rfl,rfl,rfl,rfl,rfl⟩:=e;exact .arrNil (by rw [hβ _ (zaf.1 hi)];exact h)
  |_,_,.arrOld h h0 h1 h2,t,e,hi=>by
    cases t<;>simp [T.ren] at e;obtain ⟨rfl,rfl,rfl,rfl,rfl,rfl⟩:=e;exact .arrOld (by rw [hβ _ (zaf.1 hi)];exact h) h0 h1 h2
  |_,_,.mp h,t,e,hi=>by
    cases t<;>simp [T.ren] at e;subst e;exact .mp (by rw [hβ _ (zaf.1 hi)];exact h)
  |_,_,.mpOld h h2,t,e,hi=>by
    cases t<;>simp [T.ren] at e;subst e;exact .mpOld (by rw [hβ _ (zaf.1 hi)];exact h) h2
  |_,_,.fn h1 h2,t,e,hi=>by
    cases t<;>simp [T.ren] at e;obtain ⟨rfl,e1,e2⟩:=e;simp only [T.ids,d8] at hi;exact .fn (VL.down hβ h1 e1 hi.1) (VL.down hβ h2 e2 hi.2)
  |_,_,.junk v,t,e,hi=>by cases t<;>simp [T.ren] at e;exact .junk _
  |_,_,.emp h1 h2 h3 h4,t,e,hi=>by
    cases t<;>simp [T.ren] at e;subst e;exact .emp h1 h2 h3 h4
theorem VL.down (hβ:∀ b,b<n->β' b=β (ρ b)):∀ {l':List T} {vs:List Value},VL A β g l' vs->∀ {l:List T},T.renL ρ l=l'->T.idsL n l=true->VL A β' g l vs
  |_,_,.nil,l,e,hi=>by
    cases l with
    |nil=>exact .nil
    |cons x l=>simp [T.renL] at e
  |_,_,.cons h k,l,e,hi=>by
    cases l with
    |nil=>simp [T.renL] at e
    |cons x l =>
      simp only [T.renL,q8] at e;simp only [T.idsL,d8] at hi;exact .cons (VT.down hβ h e.1 hi.1) (VL.down hβ k e.2 hi.2)
end
structure Fits (ρ:Nat->Nat) (S0 S1 S S':TS):Prop where
  le:S0.n<=S1.n
  out:∀ b,S0.n<=b->S0.box b=.gone
  old:∀ i,i<S0.n->ρ i<S.n
  new:∀ i,S0.n<=i->i<S1.n->S.n<=ρ i
  top:∀ i,i<S1.n->ρ i<S'.n
  grow:S.n<=S'.n
  inj:∀ i j,i<S1.n->j<S1.n->ρ i=ρ j->i=j
  pre:∀ i,i<S0.n->S.box (ρ i)=zfa ρ (S0.box i)/\zh6 S0.n (S0.box i)=true
  post:∀ i,i<S1.n->S'.box (ρ i)=zfa ρ (S1.box i)/\zh6 S1.n (S1.box i)=true
  rest:∀ b,(∀ i,i<S1.n->ρ i≠b)->S'.box b=S.box b
open Classical in
def bmix (ρ:Nat->Nat) (m:Nat) (β1 β:Bx):Bx:=fun b=>if h:∃ i,i<m/\ρ i=b then β1 (Classical.choose h) else β b
theorem yq9 {m i:Nat} (hinj:∀ i j,i<m->j<m->ρ i=ρ j->i=j) (hi:i<m):bmix ρ m β1 β (ρ i)=β1 i:=by
  unfold bmix;have h:∃ j,j<m/\ρ j=ρ i:=⟨i,hi,rfl⟩;rw [dif_pos h];have:=Classical.choose_spec h;rw [hinj _ _ this.1 hi this.2]
theorem zjk {m b:Nat} (h:∀ i,i<m->ρ i≠b):bmix ρ m β1 β b=β b:=by
  unfold bmix;rw [dif_neg (fun ⟨i,h1,h2⟩=>h i h1 h2)]
theorem z9y (l:List (T×T)):(l.map fun p=>(p.1.ren ρ,p.2.ren ρ)).map (·.1)=T.renL ρ (l.map (·.1)):=by
  rw [zmi,qv,qv];rfl
theorem z9x (l:List (T×T)):(l.map fun p=>(p.1.ren ρ,p.2.ren ρ)).map (·.2)=T.renL ρ (l.map (·.2)):=by
  rw [zmi,qv,qv];rfl
theorem Call.frame {f:jx} {args:List T} {v:T} (k:Call P Γ GL f args S0 v S1) (ha:T.idsL S0.n args=true) (hv:v.ids S1.n=true) (F:Fits ρ S0 S1 S S'):Call P Γ GL f (T.renL ρ args) S (v.ren ρ) S':=by
  intro A β s vargs hT hva;have hb0:∀ b,b<S0.n->bcut (fun i=>β (ρ i)) S0.n b=β (ρ b):=fun b hb=>zAc hb
  have hb1:∀ b l,bcut (fun i=>β (ρ i)) S0.n b=some l->b<S0.n/\β (ρ b)=some l:=fun b l h=>by
    unfold bcut at h;split at h
    . rename_i hb;exact ⟨hb,h⟩
    . simp at h
  have hown:∀ f,Own (bcut (fun i=>β (ρ i)) S0.n) f->∃ i,i<S0.n/\((∃ u N,β (ρ i)=some (.live f u N))\/β (ρ i)=some (.map f)):=fun f ⟨b,hb⟩=>by
    rcases hb with ⟨u,N,hb⟩|hb
    . exact ⟨b,(hb1 _ _ hb).1,.inl ⟨u,N,(hb1 _ _ hb).2⟩⟩
    . exact ⟨b,(hb1 _ _ hb).1,.inr (hb1 _ _ hb).2⟩
  have hown2:∀ f,Own (bcut (fun i=>β (ρ i)) S0.n) f->Own β f:=fun f hf=>by
    obtain ⟨i,_,h⟩:=hown f hf;exact ⟨ρ i,h⟩
  have hT0:TRel GL A (bcut (fun i=>β (ρ i)) S0.n) S0 s:=by
    refine ⟨hT.inr,hT.inv,hT.alt,fun f hf=>hT.dis f (hown2 f hf),fun b b' l l' f h1 h2 h3 h4=>?_,fun b hb=>zAd (by omega),fun b z N l hb=>?_,fun b l hb=>?_,hT.glob⟩
    . obtain ⟨q1,q2⟩:=hb1 _ _ h1;obtain ⟨q3,q4⟩:=hb1 _ _ h2;exact F.inj b b' (by have:=F.le;omega) (by have:=F.le;omega) (hT.inj _ _ _ _ f q2 q4 h3 h4)
    . have hlt:b<S0.n:=by
        by_cases h:b<S0.n
        . exact h
        . rw [F.out b (by omega)] at hb;simp at hb
      obtain ⟨p1,p2⟩:=F.pre b hlt;rw [hb] at p1 p2;obtain ⟨c1,c2⟩:=hT.cells _ _ _ _ p1;refine ⟨by rw [zkm] at c1;exact c1,?_⟩;rcases c2 with ⟨d1,d2,d3⟩|⟨f,u,cs,rest,d1,d2,d3,d4,d5⟩
      . exact .inl ⟨by rw [hb0 b hlt];exact d1,d2,d3⟩
      . exact .inr ⟨f,u,cs,rest,by rw [hb0 b hlt];exact d1,d2,d3,VL.down hb0 d4 rfl p2,d5⟩
    . have hlt:b<S0.n:=by
        by_cases h:b<S0.n
        . exact h
        . rw [F.out b (by omega)] at hb;simp at hb
      obtain ⟨p1,p2⟩:=F.pre b hlt;rw [hb] at p1 p2;obtain ⟨r,es,c1,c2,c3,c4⟩:=hT.maps _ _ p1;simp only [zh6,d8] at p2;rw [z9y] at c3;rw [z9x] at c4;exact ⟨r,es,by rw [hb0 b hlt];exact c1,c2,VL.down hb0 c3 rfl p2.1,VL.down hb0 c4 rfl p2.2⟩
  obtain ⟨w,s1,A1,β1,e1,e2,e3,e4⟩:=k A _ s vargs hT0 (VL.down hb0 hva rfl ha);have hin:∀ i,i<S1.n->bmix ρ S1.n β1 β (ρ i)=β1 i:=fun i hi=>yq9 F.inj hi
  have hcase:∀ b,(∃ i,i<S1.n/\ρ i=b)\/(∀ i,i<S1.n->ρ i≠b):=fun b=>by
    by_cases h:∃ i,i<S1.n/\ρ i=b
    . exact .inl h
    . exact .inr fun i hi hh=>h ⟨i,hi,hh⟩
  have hone:∀ i l,β1 i=some l->i<S1.n:=fun i l h=>by
    by_cases hh:i<S1.n
    . exact hh
    . rw [e2.next i (by omega)] at h;simp at h
  have apart:∀ b f,(∀ i,i<S1.n->ρ i≠b)->((∃ u N,β b=some (.live f u N))\/β b=some (.map f))->¬ Own (bcut (fun i=>β (ρ i)) S0.n) f:=fun b f hb hf ho=>by
    obtain ⟨j,hj,h⟩:=hown f ho
    have:ρ j=b:=by
      rcases h with ⟨u,N,h⟩|h<;>rcases hf with ⟨u',N',hf⟩|hf<;>exact hT.inj _ _ _ _ f h hf rfl rfl
    exact hb j (by have:=F.le;omega) this
  have hfamO:∀ b l f,β b=some l->l.fam=some f->((∃ u N,β b=some (.live f u N))\/β b=some (.map f)):=fun b l f h hl=>by
    cases l with
    |live f' u N=>simp [nj] at hl;subst hl;exact .inl ⟨u,N,h⟩
    |map r=>simp [nj] at hl;subst hl;exact .inr h
    |nil=>simp [nj] at hl
    |dead=>simp [nj] at hl
  have hfam1:∀ i l f,β1 i=some l->l.fam=some f->Own β1 f:=fun i l f h hl=>by
    cases l with
    |live f' u N=>simp [nj] at hl;subst hl;exact zcv h
    |map r=>simp [nj] at hl;subst hl;exact zf3 h
    |nil=>simp [nj] at hl
    |dead=>simp [nj] at hl
  have hle:Bx.le β (bmix ρ S1.n β1 β):=fun b l hb=>by
    rcases hcase b with ⟨i,hi,rfl⟩|h
    . rw [hin i hi];by_cases hip:i<S0.n
      . exact e4.bx i l (by rw [hb0 i hip];exact hb)
      . rw [hT.next _ (F.new i (by omega) hi)] at hb;simp at hb
    . exact ⟨l,by rw [zjk h];exact hb,Loc.le_refl l⟩
  have hkeep:∀ f,A f->zaa s1.obj f=zaa s.obj f:=fun f hf=>e4.keep f (hT.alt f hf) fun ho=>(hT.dis f (hown2 f ho)).2 hf
  have hmix:∀ f,Own (bmix ρ S1.n β1 β) f->Own β1 f\/∃ b,(∀ i,i<S1.n->ρ i≠b)/\((∃ u N,β b=some (.live f u N))\/β b=some (.map f)):=fun f ⟨b,hb⟩=>by
    rcases hcase b with ⟨i,hi,rfl⟩|h
    . rw [hin i hi] at hb;exact .inl ⟨i,hb⟩
    . rw [zjk h] at hb;exact .inr ⟨b,h,hb⟩
  refine ⟨w,s1,A1,bmix ρ S1.n β1 β,e1,⟨e2.inr,e2.inv,e2.alt,fun f hf=>?_,fun b b' l l' f h1 h2 h3 h4=>?_,fun b hb=>?_,fun b z N l hb=>?_,fun b l hb=>?_,e2.glob⟩,VT.up hin hv e3,⟨e4.can,e4.sub,fun f hf=>(e4.new f hf).imp id (Or.imp id (hown2 f)),fun f hf=>?_,fun f hf ho=>e4.keep f hf fun h=>ho (hown2 f h),hle,fun x hx=>(e4.rd x hx).imp id (fun ⟨a,b⟩=>⟨a,b.imp id (hown2 x)⟩),fun x hx=>(e4.wr x hx).imp id (fun ⟨a,b⟩=>⟨a,hown2 x b⟩)⟩⟩
  . rcases hmix f hf with h|⟨b,hb,h⟩
    . exact e2.dis f h
    . have hd:=hT.dis f ⟨b,h⟩;refine ⟨fh hd.1 e4.can.n,fun hA=>?_⟩;rcases e4.new f hA with q|q|q
      . exact hd.2 q
      . have:=hd.1;omega
      . exact apart b f hb h q
  . have z7u:∀ i b l l',i<S1.n->(∀ i,i<S1.n->ρ i≠b)->β1 i=some l->β b=some l'->l.fam=some f->l'.fam=some f->False:=fun i b l l' hi hb q1 q2 q3 q4=>by
      have ho:=hfamO b l' f q2 q4;rcases e4.own f (hfam1 i l f q1 q3) with q|q
      . exact apart b f hb ho q
      . have:=(hT.dis f ⟨b,ho⟩).1;omega
    rcases hcase b with ⟨i,hi,rfl⟩|hb<;>rcases hcase b' with ⟨j,hj,rfl⟩|hb'
    . rw [hin i hi] at h1;rw [hin j hj] at h2;rw [e2.inj i j l l' f h1 h2 h3 h4]
    . rw [hin i hi] at h1;rw [zjk hb'] at h2;exact (z7u i b' l l' hi hb' h1 h2 h3 h4).elim
    . rw [zjk hb] at h1;rw [hin j hj] at h2;exact (z7u j b l' l hj hb h2 h1 h4 h3).elim
    . rw [zjk hb] at h1;rw [zjk hb'] at h2;exact hT.inj b b' l l' f h1 h2 h3 h4
  . rw [zjk (fun i hi hh=>by have:=F.top i hi;omega)];exact hT.next b (by have:=F.grow;omega)
  . rcases hcase b with ⟨i,hi,rfl⟩|hbo
    . obtain ⟨p1,p2⟩:=F.post i hi;rw [hb] at p1
      cases hq:S1.box i with
      |gone=>rw [hq] at p1;simp [zfa] at p1
      |map m=>rw [hq] at p1;simp [zfa] at p1
      |cells z' N' l' =>
        rw [hq] at p1 p2;simp only [zfa,Box.cells.injEq] at p1;obtain ⟨rfl,rfl,rfl⟩:=p1;obtain ⟨c1,c2⟩:=e2.cells _ _ _ _ hq;refine ⟨by rw [zkm];exact c1,?_⟩;rcases c2 with ⟨d1,d2,d3⟩|⟨f,u,cs,rest,d1,d2,d3,d4,d5⟩
        . exact .inl ⟨by rw [hin i hi];exact d1,d2,d3⟩
        . exact .inr ⟨f,u,cs,rest,by rw [hin i hi];exact d1,d2,d3,VL.up hin p2 d4,d5⟩
    . rw [F.rest b hbo] at hb;refine (hT.cells b z N l hb).mono e4.sub hkeep hle (zjk hbo) fun f u N' hl=>?_;exact e4.keep f (hT.dis f (zcv hl)).1 (apart b f hbo (.inl ⟨u,N',hl⟩))
  . rcases hcase b with ⟨i,hi,rfl⟩|hbo
    . obtain ⟨p1,p2⟩:=F.post i hi;rw [hb] at p1
      cases hq:S1.box i with
      |gone=>rw [hq] at p1;simp [zfa] at p1
      |cells z N m=>rw [hq] at p1;simp [zfa] at p1
      |map m =>
        rw [hq] at p1 p2;simp only [zfa,Box.map.injEq] at p1;subst p1;obtain ⟨r,es,c1,c2,c3,c4⟩:=e2.maps _ _ hq;simp only [zh6,d8] at p2;exact ⟨r,es,by rw [hin i hi];exact c1,c2,by rw [z9y];exact VL.up hin p2.1 c3,by rw [z9x];exact VL.up hin p2.2 c4⟩
    . rw [F.rest b hbo] at hb;refine (hT.maps b l hb).mono e4.sub hkeep hle (zjk hbo) fun r hl=>?_;exact e4.keep r (hT.dis r (zf3 hl)).1 (apart b r hbo (.inr hl))
  . rcases hmix f hf with h|⟨b,hb,h⟩
    . exact (e4.own f h).imp (hown2 f) id
    . exact .inl ⟨b,h⟩
end
theorem zad {α β:Type} {x:Option α} {f:α->Option β} {v:β} (h:x.bind f=some v):∃ a,x=some a/\f a=some v:=by
  cases x with
  |none=>cases h
  |some a=>exact ⟨a,rfl,h⟩
def gx {α:Type} [Inhabited α] (l:List α) (i:Int):α:=l.getD i.toNat default
theorem zah {α:Type} [Inhabited α] {l:List α} {i:Int} (h:0<=i/\i<(l.length:Int)):l[i.toNat]?=some (gx l i):=yll (by omega)
def bx (b:ByteArray) (i:Int):UInt8:=b.data.toList.getD i.toNat 0
theorem zxd {b:ByteArray} {i:Int} (h:0<=i/\i<(b.size:Int)):b.data.toList[i.toNat]?=some (bx b i):=by
  have : i.toNat < b.data.toList.length := by have e : b.data.toList.length = b.size := by simp
                                              omega
  unfold bx;rw [eh,ef this];rfl
def vecC {α:Type} (f:α->T) (l:List α):List T:=(l.map f).flatMap gt
theorem zb3 {α:Type} {f:α->T} {l l2:List α}:vecC f (l++l2)=vecC f l++vecC f l2:=by
  unfold vecC;rw [pv,List.flatMap_append]
theorem zl7 {α:Type} {f:α->T} {x:α}:vecC f [x]=(f x).cells:=by
  unfold vecC;simp
theorem zjd {α:Type} {f:α->T} {e:Nat} (h:∀ x,(f x).cells.length=e):∀ (l:List α),(vecC f l).length=l.length*e
  |[]=>by simp [vecC]
  |x :: l=>by
    have ih:=zjd h l;unfold vecC at ih ⊢;rw [ge,iv,eu,h,ih,ez,jc];omega
theorem zim {α:Type} {f:α->T} {e n:Nat} {l:List α} (h:∀ x,(f x).cells.length=e) (hl:l.length=n):(vecC f l).take (n*e)=(l.map f).flatMap gt:=by
  have:=zjd h l;rw [List.take_of_length_le (by rw [this,hl];exact ei _)];rfl
theorem zby {k:gl} {l:List Int}:(l.map (d7 k)).flatMap gt=l.map (d7 k):=zgb fun _=>rfl
theorem za3 {l:List Bool}:(l.map ri).flatMap gt=l.map ri:=zgb fun _=>rfl
theorem zbx {l:List ByteArray}:(l.map oq).flatMap gt=l.map oq:=zgb fun _=>rfl
theorem zb1 {k:gl} {l:List Int}:(l.map (d7 k)).all nh=true:=by simp [nh]
theorem za4 {l:List Bool}:(l.map ri).all nh=true:=by simp [nh]
theorem zb0 {l:List ByteArray}:(l.map oq).all nh=true:=by simp [nh]
section
variable {GL:List (Nat×List Value)} {A A' A2:Nat->Prop} {β β' β2:Bx} {S S' S2:TS} {s s' s2:CS} {P:fe} {Γ:Env} {N:Nat} {h h' h2:Nat->T} {Q R:Exit->(Nat->T)->TS->Prop}
theorem Left.trimN {fr fr':Fr} {keep:List Nat} {bs bs2 extra:List Box} {n:Nat} (hn:bs.length<=n) (hT:TRel GL A β (stL bs) s) (k:Left GL A β s N fr' s' h' (stL (bs2++extra))) (hl:bs2.length=n) (hb:zfw n bs2=true) (hk:zi4 keep n h'):Left GL A β s N fr' s' (z15 keep h') (stL bs2):=by
  obtain ⟨A',β',k1,k2,k3⟩:=k;have hat:∀ b,b<n->bcut β' n b=β' b:=fun b hb=>zAc hb
  have hsub:∀ b l,bcut β' n b=some l->β' b=some l:=fun b l h=>by
    unfold bcut at h;split at h
    . exact h
    . simp at h
  have hkp:zmw (stL (bs2++extra)) (stL bs2):=by
    refine ⟨by simp [stL],fun b=>?_⟩;by_cases hbl:b<bs2.length
    . refine .inr ⟨hbl,?_,?_⟩
      . show bs2.getD b .gone=(bs2++extra).getD b .gone;rw [eh,eh,fk hbl]
      . show zh6 bs2.length ((bs2++extra).getD b .gone)=true;rw [eh,fk hbl,<- eh,hl];exact zoa hb
    . left;show bs2.getD b .gone=.gone;rw [eh,je (by omega)];rfl
  have hcut:=k2.cut hkp;have hnn:(stL bs2).n=n:=hl;rw [hnn] at hcut;refine ⟨A',bcut β' n,⟨k1.nt,k1.le,fun t=>?_⟩,hcut,k3.can,k3.sub,k3.new,fun f hf=>?_,k3.keep,fun b l hb'=>?_,k3.rd,k3.wr⟩
  . by_cases ht:t∈keep
    . rw [zov ht];exact (k1.slot t).ids hat (zp6 hk t ht)
    . rw [show z15 keep h' t=.junk from zAd ht];exact .junk _
  . obtain ⟨b,hb'⟩:=hf;exact k3.own f ⟨b,hb'.imp (fun ⟨u,N,h⟩=>⟨u,N,hsub _ _ h⟩) fun h=>hsub _ _ h⟩
  . obtain ⟨l',c1,c2⟩:=k3.bx b l hb'
    have:b<bs.length:=by
      by_cases hh:b<bs.length
      . exact hh
      . rw [hT.next b (by show bs.length<=b;omega)] at hb';simp at hb'
    exact ⟨l',by rw [hat b (by omega)];exact c1,c2⟩
theorem TW.cutN {a:Code} (keep:List Nat) (n:Nat) {bs:List Box} (hn:bs.length<=n) (R:(Nat->T)->List Box->Prop) (hR:TW P Γ GL N a h (stL bs) (onT (fun h' S'=>Ends keep n R h' S') Q)) (hk:∀ h bs2,R h bs2->Q .normal h (stL bs2)):TW P Γ GL N a h (stL bs) Q:=by
  intro A β fr s hF hT;obtain ⟨e,fr1,s1,h1,h',S',hleft,hq⟩:=hR A β fr s hF hT
  cases e with
  |normal =>
    obtain ⟨bs',rfl,hl,hbi,hki,hq⟩:=hq;exact ⟨_,fr1,s1,h1,_,_,Left.trimN (fr:=fr) (keep:=keep) (bs2:=bs'.take n) (extra:=bs'.drop n) hn hT (by rw [jn];exact hleft) (by rw [gi];omega) hbi hki,hk _ _ hq⟩
  |_=>exact ⟨_,fr1,s1,h1,h',S',hleft,hq⟩
theorem TW.unz {c:Code} (b:Nat) {zz:Bool} {M:Nat} {l:List T} (hS:S.box b=.cells zz M l) (k:TW P Γ GL N c h (S.set b (.cells false M l)) Q):TW P Γ GL N c h S Q:=by
  intro A β fr s hF hT
  have hb:∀ b' z N l',(S.set b (.cells false M l)).box b'=.cells z N l'->∃ z0,S.box b'=.cells z0 N l'/\(z=true->z0=true):=fun b' z N l' h=>by
    by_cases hi:b'=b
    . subst hi;rw [iu] at h;cases h;exact ⟨zz,hS,fun h=>by cases h⟩
    . rw [gy _ _ hi] at h;exact ⟨z,h,id⟩
  refine k A β fr s hF ⟨hT.inr,hT.inv,hT.alt,hT.dis,hT.inj,hT.next,fun b' z N l' h=>?_,fun b' l' h=>?_,hT.glob⟩
  . obtain ⟨z0,h0,hz⟩:=hb b' z N l' h;obtain ⟨h1,h2⟩:=hT.cells b' z0 N l' h0;refine ⟨h1,?_⟩;rcases h2 with ⟨q1,q2,q3⟩|⟨f,u,cs,rest,q1,q2,q3⟩
    . exact .inl ⟨q1,q2,by cases z with|false=>rfl|true=>rw [hz rfl] at q3;exact q3⟩
    . exact .inr ⟨f,u,cs,rest,q1,fun h=>q2 (hz h),q3⟩
  . by_cases hi:b'=b
    . subst hi;rw [iu] at h;cases h
    . rw [gy _ _ hi] at h;exact hT.maps b' l' h
theorem TW.slot {c:Code} (t:Nat) {v v':T} (ht:h t=v) (hv:∀ A β (g:Nat->Fam) w,VT A β g v w->VT A β g v' w) (k:TW P Γ GL N c (tupd h t v') S Q):TW P Γ GL N c h S Q:=by
  intro A β fr s hF hT
  have hF':FrOk A β (zaa s.obj) N (tupd h t v') fr:=⟨hF.nt,hF.le,fun u=>by
    by_cases hu:u=t
    . subst hu;rw [zhr];have:=hF.slot u;rw [ht] at this;exact hv _ _ _ _ this
    . rw [zl9 _ _ _ _ hu];exact hF.slot u⟩
  exact k A β fr s hF' hT
theorem TW.lst0 {c:Code} (t e:Nat) (he:0<e) (ht:h t=.lst e []) (k1:TW P Γ GL N c (tupd h t .nils) S Q) (k2:TW P Γ GL N c (tupd h t (.emp e)) S Q):TW P Γ GL N c h S Q:=by
  intro A β fr s hF hT;have hs:=hF.slot t;rw [ht] at hs;rcases VT.lst_emp he hs with q|q
  . refine k1 A β fr s ⟨hF.nt,hF.le,fun u=>?_⟩ hT;by_cases hu:u=t
    . subst hu;rw [zhr];exact q
    . rw [zl9 _ _ _ _ hu];exact hF.slot u
  . refine k2 A β fr s ⟨hF.nt,hF.le,fun u=>?_⟩ hT;by_cases hu:u=t
    . subst hu;rw [zhr];exact q
    . rw [zl9 _ _ _ _ hu];exact hF.slot u
theorem TW.nilL {c:Code} (t e:Nat) (ht:h t=.nils) (k:TW P Γ GL N c (tupd h t (.lst e [])) S Q):TW P Γ GL N c h S Q:=by
  intro A β fr s hF hT;have hv:=hF.slot t;rw [ht] at hv
  have hF':FrOk A β (zaa s.obj) N (tupd h t (.lst e [])) fr:=⟨hF.nt,hF.le,fun u=>by
    by_cases hu:u=t
    . subst hu;rw [zhr];generalize fr.get u=w at hv;cases hv;exact .lnil
    . rw [zl9 _ _ _ _ hu];exact hF.slot u⟩
  exact k A β fr s hF' hT
mutual
theorem yaq {n m:Nat} (hnm:n<=m):∀ {t:T},t.ids n=true->t.ids m=true
  |.agg l,h=>zdz hnm (l:=l) h
  |.tup l,h=>zdz hnm (l:=l) h
  |.lst e l,h=>zdz hnm (l:=l) h
  |.cp l,h=>zdz hnm (l:=l) h
  |.ptr b o N,h=>by simp only [T.ids] at h ⊢;exact zaf.2 (by have:=zaf.1 h;omega)
  |.arr b e o l c N,h=>by simp only [T.ids] at h ⊢;exact zaf.2 (by have:=zaf.1 h;omega)
  |.mp b,h=>by simp only [T.ids] at h ⊢;exact zaf.2 (by have:=zaf.1 h;omega)
  |.fn f a c,h=>by
    simp only [T.ids,d8] at h ⊢;exact ⟨zdz hnm h.1,zdz hnm h.2⟩
  |.int _ _,_=>rfl
  |.bool _,_=>rfl
  |.str _,_=>rfl
  |.nils,_=>rfl
  |.nilp,_=>rfl
  |.nilm,_=>rfl
  |.nilf,_=>rfl
  |.junk,_=>rfl
  |.emp _,_=>rfl
theorem zdz {n m:Nat} (hnm:n<=m):∀ {l:List T},T.idsL n l=true->T.idsL m l=true
  |[],_=>rfl
  |t :: l,h=>by
    simp only [T.idsL,d8] at h ⊢;exact ⟨yaq hnm h.1,zdz hnm h.2⟩
end
mutual
theorem zh9 {ρ:Nat->Nat}:∀ {t:T},t.ids 0=true->t.ren ρ=t
  |.agg l,h=>by rw [T.ren,zdf (l:=l) h]
  |.tup l,h=>by rw [T.ren,zdf (l:=l) h]
  |.lst e l,h=>by rw [T.ren,zdf (l:=l) h]
  |.cp l,h=>by rw [T.ren,zdf (l:=l) h]
  |.ptr b o N,h=>by simp [T.ids,fw] at h
  |.arr b e o l c N,h=>by simp [T.ids,fw] at h
  |.mp b,h=>by simp [T.ids,fw] at h
  |.fn f a c,h=>by
    simp only [T.ids,d8] at h;rw [T.ren,zdf (l:=a) h.1,zdf (l:=c) h.2]
  |.int _ _,_=>rfl
  |.bool _,_=>rfl
  |.str _,_=>rfl
  |.nils,_=>rfl
  |.nilp,_=>rfl
  |.nilm,_=>rfl
  |.nilf,_=>rfl
  |.junk,_=>rfl
  |.emp _,_=>rfl
theorem zdf {ρ:Nat->Nat}:∀ {l:List T},T.idsL 0 l=true->T.renL ρ l=l
  |[],_=>rfl
  |t :: l,h=>by
    simp only [T.idsL,d8] at h;rw [T.renL,zh9 h.1,zdf h.2]
end
theorem zmw.one {z:Bool} {M:Nat} {cs:List T} (h:T.idsL 1 cs=true):zmw (stL [.cells z M cs]) (stL [.cells z M cs]):=by
  refine ⟨ei _,fun b=>?_⟩
  cases b with
  |zero=>exact .inr ⟨by show 0<1;omega,rfl,h⟩
  |succ b=>exact .inl rfl
theorem Call.fresh {f:jx} {args:List T} {e n c M:Nat} {z:Bool} {M2:Nat} {cs:List T} (k:Call P Γ GL f args ts0 (.arr 0 e 0 n c M) (stL [.cells z M2 cs])) (ha:T.idsL 0 args=true) (hb:T.idsL 0 cs=true) (bs:List Box):Call P Γ GL f args (stL bs) (.arr bs.length e 0 n c M) (stL (bs++[.cells z M2 cs])):=by
  have:=Call.frame (ρ:=fun i=>bs.length+i) (S:=stL bs) (S':=stL (bs++[.cells z M2 cs])) k ha (by rfl) ⟨gb _,fun b _=>rfl,fun i hi=>absurd hi (by show ¬ i<0;omega),fun i _ hi=>by show bs.length<=bs.length+i;omega,fun i hi=>by have:i<1:=hi;show bs.length+i<(bs++[_]).length;rw [eu];simp;omega,by show bs.length<=(bs++[_]).length;simp,fun i j _ _ h=>by have:bs.length+i=bs.length+j:=h;omega,fun i hi=>absurd hi (by show ¬ i<0;omega),fun i hi=>?_,fun b hb=>?_⟩
  . rw [zdf ha] at this;exact this
  . have:i<1:=hi;have:i=0:=by omega
    subst this;constructor
    . show (bs++[Box.cells z M2 cs]).getD (bs.length+0) .gone=.cells z M2 (T.renL _ cs);rw [zdf hb,ii,eh,gm (ei _)];simp
    . show T.idsL 1 cs=true
      exact yau fun t ht=>by
        have:=yhx hb t ht;exact yaq (gb _) this
  . show (bs++[Box.cells z M2 cs]).getD b .gone=bs.getD b .gone;by_cases hlt:b<bs.length
    . rw [eh,eh,fk hlt]
    . by_cases h2:b=bs.length
      . exact absurd (h2 ▸ rfl:bs.length+0=b) (hb 0 (by show 0<1;omega))
      . rw [eh,eh,je (by rw [eu];simp;omega),je (by omega)]
end
def mset {K V:Type} [DecidableEq K] (k:K) (v:V):List (K×V)->List (K×V)
  |[]=>[(k,v)]
  |p :: l=>if k=p.1 then (k,v) :: l else p :: mset k v l
def mget {K V:Type} [DecidableEq K] (k:K):List (K×V)->Option V
  |[]=>none
  |p :: l=>if k=p.1 then some p.2 else mget k l
theorem keyI {kk:gl} {a b:Int}:zsx (.int kk a) (.int kk b)=some (decide (a=b)):=by
  show (bif er (ikN kk) (ikN kk) then some (a == b) else none)=_;rw [jh,cond_true];by_cases h:a=b<;>simp [h]
theorem keyS {a b:ByteArray}:zsx (.str a) (.str b)=some (decide (a=b)):=by
  show some (a.data.toList == b.data.toList)=_;by_cases h:a=b
  . subst h;simp
  . have:(a.data.toList == b.data.toList)=false:=by simpa using fun hh=>h (ByteArray.ext hh)
    rw [this,zAb h]
theorem z0y {K V:Type} [DecidableEq K] {kf:K->T} {f:V->T} (hk:∀ a b,zsx (kf a) (kf b)=some (decide (a=b))) (k:K) (v:V):∀ l:List (K×V),tSet (kf k) (f v) (l.map fun p=>(kf p.1,f p.2))=some ((mset k v l).map fun p=>(kf p.1,f p.2))
  |[]=>rfl
  |p :: l=>by
    rw [ge,tSet,hk];unfold mset;by_cases h:k=p.1
    . rw [zAa h,zAc h,ge]
    . rw [zAb h,zAd h,ge];simp only [z0y hk k v l]
theorem z0z {K V:Type} [DecidableEq K] {kf:K->T} {f:V->T} (hk:∀ a b,zsx (kf a) (kf b)=some (decide (a=b))) (k:K):∀ l:List (K×V),tGet (kf k) (l.map fun p=>(kf p.1,f p.2))=some ((mget k l).map f)
  |[]=>rfl
  |p :: l=>by
    rw [ge,tGet,hk];unfold mget;by_cases h:k=p.1
    . rw [zAa h,zAc h];rfl
    . rw [zAb h,zAd h];exact z0z hk k l
theorem z0x {kk:gl} {V:Type} {f:V->T} {k:Int} {v:V} {l:List (Int×V)}:tSet (.int kk k) (f v) (l.map fun p=>(.int kk p.1,f p.2))=some ((mset k v l).map fun p=>(.int kk p.1,f p.2)):=z0y (kf:=d7 kk) (fun _ _=>keyI) k v l
theorem zdb {kk:gl} {V:Type} {f:V->T} {k:Int} {l:List (Int×V)}:tGet (.int kk k) (l.map fun p=>(.int kk p.1,f p.2))=some ((mget k l).map f):=z0z (kf:=d7 kk) (fun _ _=>keyI) k l
theorem z0w {V:Type} {f:V->T} {k:ByteArray} {v:V} {l:List (ByteArray×V)}:tSet (.str k) (f v) (l.map fun p=>(.str p.1,f p.2))=some ((mset k v l).map fun p=>(.str p.1,f p.2)):=z0y (kf:=oq) (fun _ _=>keyS) k v l
theorem zda {V:Type} {f:V->T} {k:ByteArray} {l:List (ByteArray×V)}:tGet (.str k) (l.map fun p=>(.str p.1,f p.2))=some ((mget k l).map f):=z0z (kf:=oq) (fun _ _=>keyS) k l
theorem ze0 {V:Type} {f:V->T} {d:V} {o:Option V}:zti false (f d) (o.map f)=f (o.getD d):=by cases o<;>rfl
theorem zez {V:Type} {f:V->T} {d:V} {o:Option V}:zti true (f d) (o.map f)=.tup [f (o.getD d),.bool o.isSome]:=by cases o<;>rfl
theorem zsl:type_of% (dx (dx (dx (@zar) (dx (@ju) (@lc))) (dx (@yb8) (dx (@el) (@and_self)))) (dx (dx (@and_true) (dx (@true_and) (@me.{0}))) (dx (dx (@l9.{0}) (@ez.{0})) (dx (@gd.{0}) (@f6))))):=dx (dx (dx (@zar) (dx (@ju) (@lc))) (dx (@yb8) (dx (@el) (@and_self)))) (dx (dx (@and_true) (dx (@true_and) (@me.{0}))) (dx (dx (@l9.{0}) (@ez.{0})) (dx (@gd.{0}) (@f6))))
theorem zb2:type_of% (dx (dx (dx (@T.ids.eq_1) (dx (@T.ids.eq_2) (@T.ids.eq_3))) (dx (@T.ids.eq_4) (dx (@T.ids.eq_5) (@T.ids.eq_6)))) (dx (dx (@T.ids.eq_7) (dx (@T.ids.eq_8) (@T.ids.eq_9))) (dx (@T.idsL.eq_1) (dx (@T.idsL.eq_2) (@za8))))):=dx (dx (dx (@T.ids.eq_1) (dx (@T.ids.eq_2) (@T.ids.eq_3))) (dx (@T.ids.eq_4) (dx (@T.ids.eq_5) (@T.ids.eq_6)))) (dx (dx (@T.ids.eq_7) (dx (@T.ids.eq_8) (@T.ids.eq_9))) (dx (@T.idsL.eq_1) (dx (@T.idsL.eq_2) (@za8))))
theorem zc5:type_of% (dx (dx (@zfw.eq_1) (dx (@zfw.eq_2) (@zh6.eq_1))) (dx (dx (@zh6.eq_2) (@zh6.eq_3)) (dx (@zi4.eq_1) (@zi4.eq_2)))):=dx (dx (@zfw.eq_1) (dx (@zfw.eq_2) (@zh6.eq_1))) (dx (dx (@zh6.eq_2) (@zh6.eq_3)) (dx (@zi4.eq_1) (@zi4.eq_2)))
theorem scA:type_of% (dx (@ku.{0}) (@kb.{0})):=dx (@ku.{0}) (@kb.{0})
theorem scB:type_of% (dx (dx (@st_n) (dx (@ez.{0}) (@gd.{0}))) (dx (@fq.{0}) (dx (@fb.{0}) (@f6)))):=dx (dx (@st_n) (dx (@ez.{0}) (@gd.{0}))) (dx (@fq.{0}) (dx (@fb.{0}) (@f6)))
theorem gsA:type_of% (dx (dx (@za8) (dx (@pv.{0,0}) (@ge.{0,0}))) (dx (@qu.{0,0}) (dx (@jc) (@n7)))):=dx (dx (@za8) (dx (@pv.{0,0}) (@ge.{0,0}))) (dx (@qu.{0,0}) (dx (@jc) (@n7)))
structure Ar (n:Nat) where
  l:List Int
  h:l.length=n
deriving DecidableEq
instance {n:Nat}:Inhabited (Ar n):=⟨⟨ew n 0,ns⟩⟩
theorem Ar.ext' {n:Nat} {a b:Ar n} (h:a.l=b.l):a=b:=by cases a;cases b;cases h;rfl
theorem Ar.eq_iff {n:Nat} {a b:Ar n}:a=b↔a.l=b.l:=⟨fun h=>by rw [h],Ar.ext'⟩
def zA (n:Nat):Ar n:=⟨ew n 0,ns⟩
def zVs (n:Nat) (k:gl):List Value:=ew n (.int k 0)
theorem yrk {n:Nat} {k:gl}:zgr (zVs n k)=some ((zA n).l.map (d7 k)):=by
  show zgr (ew n (.int k 0))=some ((ew n 0).map (d7 k))
  induction n with
  |zero=>rfl
  |succ n ih=>rw [jg,jg,ge];unfold zgr;rw [ih];rfl
def eAr (k:gl) {n:Nat} (a:Ar n):T:=.agg (a.l.map (d7 k))
theorem z5r {k:gl} {n:Nat} (a:Ar n):(eAr k a).cells=a.l.map (d7 k):=ej rfl rfl
theorem zi7 {k:gl} {n:Nat} (a:Ar n):(eAr k a).cells.length=n:=by rw [z5r,ek,a.h]
theorem zso {k:gl}:∀ (l:List Int),(l.map (d7 k)).all nh=true
  |[]=>rfl
  |x :: l=>by rw [ge,ig,zso l];rfl
theorem zeg {k:gl} {m:Nat}:∀ (l:List Int),T.idsL m (l.map (d7 k))=true
  |[]=>rfl
  |x :: l=>by simp only [ge,T.idsL,T.ids,zeg l,el]
theorem yat {k:gl} {m n:Nat} (a:Ar n):(eAr k a).ids m=true:=zeg a.l
section
variable {P:fe}
theorem z5d (len:Nat) (β:Type) (b:β) (f:Nat->β->Sem (ForInStep β)):(forIn [0:len] b f:Sem β)=forIn (n8 0 len) b f:=by
  rw [Std.Legacy.Range.forIn_eq_forIn_range'];simp [Std.Legacy.Range.size]
theorem zjg {k:gl}:∀ (l:List Int),zgi (l.map (d7 k))=some (l.map (iz k))
  |[]=>rfl
  |x :: l=>by rw [ge];unfold zgi;rw [zjg l];rfl
theorem yqo {σ:Type} (s0 s1:σ) (x y:List Int) (len:Nat) (hx:x.length=len) (hy:y.length=len) (f:Nat->σ->Sem (ForInStep σ))
    (hf:∀ i (hi:i<len),zbl P (f i s0)=some (if x[i]=y[i] then .yield s0 else .done s1)) :
    ∀ (m k:Nat),k+m=len->zbl P (forIn (n8 k m) s0 f:Sem σ)=some (if x.drop k=y.drop k then s0 else s1):=by
  intro m
  induction m with
  |zero=>intro k hk;simp [gu (show x.length<=k by omega),gu (show y.length<=k by omega)];rfl
  |succ m ih =>
    intro k hk;have hdx:=i8 (show k<x.length by omega);have hdy:=i8 (show k<y.length by omega);rw [List.range'_succ,List.forIn_cons,zai,hf k (by omega)];by_cases hxy:x[k]'(by omega)=y[k]'(by omega)
    . rw [zAc hxy];show zbl P (forIn (n8 (k+1) m) s0 f)=_;rw [ih (k+1) (by omega),hdx,hdy];simp only [hxy,q8,true_and]
    . rw [zAd hxy,hdx,hdy];simp only [hxy,q8,false_and,if_false];rfl
theorem ys1 (d:Nat) {e:fc} (k k':gl) (a b:Int) (he:P.underlying e=some (.int k)):zbl P (kg (d+1) e (.int k' a) (.int k' b))=some (a == b):=by
  unfold kg;rw [zai,zd7 he];cases k'<;>rfl
theorem ys2 (d:Nat) {t e len:Nat} {k:gl} {i:TypeInfo} (ht:P.underlying t=some (.array len e)) (he:P.underlying e=some (.int k)) (hi:P.info? e=some i) (hsz:i.size=1) (x y:List Int) (hx:x.length=len) (hy:y.length=len) :
    zbl P (kg (d+2) t (.agg (x.map (iz k)).toArray) (.agg (y.map (iz k)).toArray))=some (x == y):=by
  have hpart:∀ (l:List Int) (j:Nat) (hk:j<l.length),zbl P (part e (l.map (iz k)).toArray j)=some (.int k l[j]):=by
    intro l j hk
    have hagg:zbl P (isAgg e)=some false:=by
      unfold isAgg;rw [zai,zd7 he];rfl
    have hp:∀ v:Value,zbl P (pure v:Sem Value)=some v:=fun v=>rfl;simp [part,zai,hagg,hk,hp]
  have hq:∀ a b:Int,zbl P (kg (d+1) e (.int k a) (.int k b))=some (a == b):=fun a b=>ys1 d k k a b he;show zbl P (kg ((d+1)+1) _ _ _)=_;generalize d+1=d' at *
  have hsize:zbl P (sizeOf e)=some 1:=by
    unfold sizeOf typeInfo;rw [zai,zai];show ((zbl P (match P.info? e with|some i=>pure i|none=>_)).bind _)=_;rw [hi];show zbl P (pure i.size)=_;rw [hsz];rfl
  have hpu:∀ {α:Type} (v:α),zbl P (pure v:Sem α)=some v:=fun v=>rfl;simp only [kg,zai,zd7 ht,dz,hsize,z5d,sc];rw [yqo (P:=P) (none,()) (some false,()) x y len hx hy _ ?_ len 0 (by omega)]
  . by_cases hxy:x=y
    . subst hxy;simp [hpu]
    . simp [hxy,hpu]
  . intro j hk;simp only [zai,hpart x j (by omega),hpart y j (by omega),dz,hq];by_cases hxy:x[j]'(by omega)=y[j]'(by omega)
    . have e1:((x[j]'(by omega)) == (y[j]'(by omega)))=true:=by rw [hxy];simp
      rw [e1,zAc hxy];simp [hpu]
    . have e1:((x[j]'(by omega)) == (y[j]'(by omega)))=false:=by
        simp only [beq_eq_false_iff_ne,ne_eq];exact hxy
      rw [e1,zAd hxy];simp [hpu]
variable {Γ:Env} {S:TS} {t:fc} {x y:ep}
theorem yes {n e:Nat} {k:gl} (ht:P.underlying t=some (.array n e)) (he:P.underlying e=some (.int k)) (hi:(P.info? e).map (·.size)=some 1) (hq:P.eqGuardType P.depth t=false) (a b:Ar n) :
    tBin P Γ S t .eql x y (eAr k a) (eAr k b)=some (.bool (decide (a=b)))/\tBin P Γ S t .neq x y (eAr k a) (eAr k b)=some (.bool (!(decide (a=b)))):=by
  obtain ⟨i,hi1,hi2⟩:∃ i,P.info? e=some i/\i.size=1:=by
    cases h:P.info? e with
    |none=>rw [h] at hi;simp at hi
    |some i=>rw [h] at hi;exact ⟨i,rfl,by simpa using hi⟩
  have h:=ys2 (P:=P) 9998 ht he hi1 hi2 a.l b.l a.h b.h
  have hg:∀ op,op=.eql\/op=.neq->zbl P (eqGuard op t x y (.agg (a.l.map (iz k)).toArray) (.agg (b.l.map (iz k)).toArray))=some ():=by
    intro op hop;rcases hop with rfl|rfl
    . show zbl P (if !(P.eqGuardType P.depth t) then pure () else _)=some ();rw [hq];rfl
    . show zbl P (if !(P.eqGuardType P.depth t) then pure () else _)=some ();rw [hq];rfl
  have hd:(a.l == b.l)=decide (a=b):=by
    by_cases hab:a=b
    . rw [hab];simp
    . rw [zAb hab];have:a.l≠b.l:=fun hh=>hab (Ar.ext' hh);simp [this]
  have he:zbl P (binOp .eql t (.agg (a.l.map (iz k)).toArray) (.agg (b.l.map (iz k)).toArray))=some (.bool (decide (a=b))):=by
    show zbl P (do pure (Value.bool (<- qf t (.agg (a.l.map (iz k)).toArray) (.agg (b.l.map (iz k)).toArray))):Sem Value)=_;have h2:zbl P (qf t (.agg (a.l.map (iz k)).toArray) (.agg (b.l.map (iz k)).toArray))=some (a.l == b.l):=h;rw [zai,h2,hd];rfl
  have hn:zbl P (binOp .neq t (.agg (a.l.map (iz k)).toArray) (.agg (b.l.map (iz k)).toArray))=some (.bool (!(decide (a=b)))):=by
    show zbl P (do pure (Value.bool (!(<- qf t (.agg (a.l.map (iz k)).toArray) (.agg (b.l.map (iz k)).toArray)))):Sem Value)=_;have h2:zbl P (qf t (.agg (a.l.map (iz k)).toArray) (.agg (b.l.map (iz k)).toArray))=some (a.l == b.l):=h;rw [zai,h2,hd];rfl
  constructor
  . show zpt P t .eql x y _ _=_;unfold zpt;rw [zjg,zjg];simp only;rw [zai,hg _ (.inl rfl)];show (match zbl P (binOp .eql t (.agg (a.l.map (iz k)).toArray) (.agg (b.l.map (iz k)).toArray)) with|some (.bool r)=>some (ri r)|_=>none)=_;rw [he]
  . show zpt P t .neq x y _ _=_;unfold zpt;rw [zjg,zjg];simp only;rw [zai,hg _ (.inr rfl)];show (match zbl P (binOp .neq t (.agg (a.l.map (iz k)).toArray) (.agg (b.l.map (iz k)).toArray)) with|some (.bool r)=>some (ri r)|_=>none)=_;rw [hn]
end
end
end Go.Proofs.YteifcnjpjjaikaaGreat
