/- Part 6 of the proof of FitCountsAsSpecified (several texts in one; no further condition). -/
import Derived.Test.YteifcnjpjjaikaaGreatZD
import Derived.Test.YteifcnjpjjaikaaGreatProg
import Derived.Test.YteifcnjpjjaikaaGreatZE
import GoSem.Claim
import Derived.ProofKit
import Derived.OpenShut
import Derived.ShutString
import Derived.ChangeOld
import Derived.Below
import Derived.Carry
import Derived.Deep.Slices
import Derived.SizedLaws
import Derived.JoinedCond
import Derived.KernelRfl
set_option linter.unusedSimpArgs false
set_option linter.unusedVariables false
set_option linter.unusedSectionVars false
namespace Go.Proofs.YteifcnjpjjaikaaGreat
set_option maxHeartbeats 8000000
open Go.Addr renaming add_lit->l9
open _root_.And renaming intro->dm
open _root_.Array renaming getElem?_eq_getElem->iz
open _root_.Bool renaming and_eq_true->dr,and_self->et,not_eq_false'->nc,not_false->gc,not_true->f6,or_eq_true->jm
open Go.Proofs.YteifcnjpjjaikaaGreat.Bx renaming le_refl->ip
open _root_.Eq renaming trans->d6
open Go.Proofs.YteifcnjpjjaikaaGreat.Fr renaming get_put_same->pd
open Go.IntKind renaming i64->dw
open Go.Proofs.YteifcnjpjjaikaaGreat.Left renaming trans->mb
open _root_.List renaming all_cons->ii,all_eq_true->ez,append_assoc->fe,append_nil->fj,cons_append->fd,drop_succ_cons->ir,drop_zero->fp,flatten_cons->fm,flatten_nil->io,getD_eq_getElem?_getD->ef,getElem?_append_left->eu,getElem?_append_right->fq,getElem?_cons_zero->fl,getElem?_drop->jk,getElem?_eq_getElem->dv,getElem?_eq_some_iff->d9,getElem?_take->kx,getElem_of_mem->lm,length_append->er,length_cons->eh,length_drop->gp,length_map->ec,length_nil->gh,length_take->fi,map_cons->gb,mem_cons->ib,mem_map->jq,mem_of_getElem?->gi,mem_of_mem_drop->ki,mem_singleton->kb,nil_append->ff,replicate->ew,take_append_drop->iq
open _root_.Nat renaming add_zero->gm,beq->d7,beq_refl->gw,ble->fg,blt->fb,eq_of_beq_eq_true->dx,le_of_eq->iy,le_refl->dz,le_trans->i8,reduceAdd->ek,reduceEqDiff->ej,reduceLT->iv,reduceLeDiff->ny,reduceMul->i6,reduceSub->gt,testBit->ft,testBit_two_pow_sub_one->i7,zero_add->fz,zero_le->fw
open Go renaming Operand->d8,Program->ep,ResultVar->px,TypeId->ed
open _root_.Option renaming bind_some->dq
open _root_.Option.some renaming inj->me,injEq->dp
open _root_.Prod.mk renaming injEq->du
open _root_.Sum renaming elim->gr
open Go.Proofs.YteifcnjpjjaikaaGreat.T renaming int->dy
open Go.Proofs.YteifcnjpjjaikaaGreat.TW renaming block->fc,region->pv,seq->dn
open Go.Value renaming int->ju,okWide->o7
set_option maxRecDepth 100000
open Go Go.RowKit
mutual
inductive Rt (W:World):T->Value->Prop
  |int (k n):Rt W (.int k n) (.int k n)
  |bool (b):Rt W (.bool b) (.bool b)
  |str (b):Rt W (.str b) (.string b)
  |agg {l cs}:RtL W l cs->Rt W (.agg l) (.agg ⟨cs⟩)
  |nil {e}:Rt W (.lst e []) (.slice none 0 0)
  |zero {e a}:0<e->0<W.heap.size->Rt W (.lst e []) (.slice (some a) 0 0)
  |lst {e l b off cap cs}:RtL W (l.flatMap T.cells) cs->(∀ t,t∈l->t.cells.length=e)->0<e->l.length<=cap->cap<=maxLen->(W.cell? ⟨b,off,none⟩).isSome=true->(∀ (j:Nat) u,cs[j]?=some u->W.cell? ⟨b,off+j,none⟩=some u)->Rt W (.lst e l) (.slice (some ⟨b,off,none⟩) l.length cap)
inductive RtL (W:World):List T->List Value->Prop
  |nil:RtL W [] []
  |cons {t v l vs}:Rt W t v->RtL W l vs->RtL W (t :: l) (v :: vs)
end
section
variable {W:World} {N:Nat} {G:List Nat} {K:List (Nat×List Value)}
theorem RtL.len:∀ {l:List T} {vs:List Value},RtL W l vs->l.length=vs.length
  |_,_,.nil=>rfl
  |_,_,.cons _ h=>by rw [eh,eh,h.len]
theorem z6t {b j k:Nat} (h:(W.cell? ⟨b,k,none⟩).isSome=true) (hj:j<=k):(W.cell? ⟨b,j,none⟩).isSome=true:=by
  unfold World.cell? at h ⊢;simp only at h ⊢;split at h
  . rename_i c _ _ hb;simp only [Option.isSome_none,Bool.false_eq_true,if_false] at h ⊢
    have:k<c.size:=by
      by_cases hk:k<c.size
      . exact hk
      . rw [Array.getElem?_eq_none (by omega)] at h;simp at h
    rw [iz (by omega)];rfl
  . simp at h
theorem yjn {b k:Nat} (h:(W.cell? ⟨b,k,none⟩).isSome=true):b<W.heap.size:=by
  unfold World.cell? at h;simp only at h;by_cases hb:b<W.heap.size
  . exact hb
  . rw [Array.getElem?_eq_none (by omega)] at h;simp at h
theorem zuq {u:Nat} {m:List (Nat×List Value)}:∀ {l:List (Nat×List Value)},(∀ p,p∈l->p.1≠u)->zbu (l++m) u=zbu m u
  |[],_=>rfl
  |p :: l,h=>by
    show (bif d7 p.1 u then some p.2 else zbu (l++m) u)=_;rw [zoy (h p (by simp)),cond_false];exact zuq fun q hq=>h q (by simp [hq])
theorem zuf {f:Nat} {q:Seg}:∀ {F:List Seg} {i j:Nat},F[i]?=some q->q.b=f->zbu (zkl N f j F) ((N+(j+i))*1024)=some q.cs
  |[],i,j,h,_=>by simp at h
  |p :: F,0,j,h,hb=>by
    simp only [fl,dp] at h;subst h;unfold zkl;rw [zAc hb]
    simp [zbu,gw]
  |p :: F,i+1,j,h,hb=>by
    have ih:=zuf (F:=F) (i:=i) (j:=j+1) (by simpa using h) hb;rw [show j+1+i=j+(i+1) by omega] at ih;unfold zkl;split
    . unfold zbu
      have:d7 ((N+j)*1024) ((N+(j+(i+1)))*1024)=false:=by
        cases hq:d7 ((N+j)*1024) ((N+(j+(i+1)))*1024) with
        |false=>rfl
        |true=>have:=dx hq;omega
      rw [this];exact ih
    . exact ih
def Low (N:Nat):Nat->Prop:=fun f=>f<N
structure En (W:World) (N:Nat) (G:List Nat) (K:List (Nat×List Value)) (pre A:List Seg) (l:List T) (xs vs:List Value):Prop where
  vr:∀ post,RL (VR (sgS N G K (pre++A++post))) xs vs
  vl:∀ post,VL (Low N) bx0 (famS N K (pre++A++post)) l xs
  at_:∀ post q,q∈A->yqr (sgS N G K (pre++A++post)) W q
theorem yph (hK:∀ p,p∈K->has G p.1=true) (hG:∀ g,has G g=true->g<N) {F:List Seg} {i:Nat} {q:Seg} (hq:F[i]?=some q) (hb:q.b<N) :
    sgS N G K F q.b ((N+i)*1024)=some (q.b,q.o,q.o+q.cs.length)/\zbu (famS N K F q.b).rows ((N+i)*1024)=some q.cs:=by
  constructor
  . unfold sgS;rw [zAd (by rintro ⟨_,h⟩;omega),zAc (by omega)];have e:(N+i)*1024 / 1024 - N=i:=by omega
    rw [e,hq];show (if q.b=q.b then _ else _)=_;rw [zAc rfl]
  . show zbu ((famK K q.b).rows++zkl N q.b 0 F) _=_;rw [zuq fun p hp=>?_]
    . have:=zuf (N:=N) (j:=0) hq rfl
      rwa [fz] at this
    . obtain ⟨h1,h2,_⟩:=zv0 hp;have:=hG _ (hK _ h2);rw [h1];simp only at this;omega
theorem yfi {α:Type} (pre A post:List α) (q:α):(pre++(A++[q])++post)[pre.length+A.length]?=some q:=by
  rw [fe,fe,fq (by omega),fq (by omega)];simp
mutual
theorem ent (hN:N=W.heap.size) (hK:∀ p,p∈K->has G p.1=true) (hG:∀ g,has G g=true->g<N):∀ {t:T} {v:Value},Rt W t v->∀ pre,∃ A x,En W N G K pre A [t] [x] [v]
  |_,_,.int k n,pre=>⟨[],.int k n,⟨fun _=>⟨zh0 3 rfl,trivial⟩,fun _=>.cons (.int k n) .nil,fun _ q hq=>by simp at hq⟩⟩
  |_,_,.bool b,pre=>⟨[],.bool b,⟨fun _=>⟨zh0 3 rfl,trivial⟩,fun _=>.cons (.bool b) .nil,fun _ q hq=>by simp at hq⟩⟩
  |_,_,.str b,pre=>⟨[],.string b,⟨fun _=>⟨zh0 3 rfl,trivial⟩,fun _=>.cons (.str b) .nil,fun _ q hq=>by simp at hq⟩⟩
  |_,_,.agg h,pre=>by
    obtain ⟨A,xs,k⟩:=entL hN hK hG h pre;exact ⟨A,.agg ⟨xs⟩,fun post=>⟨VR.mk ⟨_,rfl,k.vr post⟩,trivial⟩,fun post=>.cons (.agg (k.vl post)) .nil,k.at_⟩
  |_,_,.nil,pre=>⟨[],.slice none 0 0,⟨fun _=>⟨VR.mk ⟨rfl,rfl,rfl⟩,trivial⟩,fun _=>.cons .lnil .nil,fun _ q hq=>by simp at hq⟩⟩
  |.lst e _,.slice _ _ _,@Rt.zero _ _ a he hs,pre=>by
    have hi:=fun post=>yfi pre [] post (⟨0,0,[]⟩:Seg);have h0:∀ post,_:=fun post=>yph (q:=(⟨0,0,[]⟩:Seg)) hK hG (hi post) (by show 0<N;omega);refine ⟨[⟨0,0,[]⟩],.slice (some (mkA 0 ((N+(pre.length+0))*1024) 0)) 0 0,⟨fun post=>⟨VR.mk ⟨0,0,_,(h0 post).1,a,0,rfl,dz _,dz _,fw _,fun h=>absurd rfl h,fun _=>rfl,fun _ h=>absurd rfl h⟩,trivial⟩,fun post=>.cons ?_ .nil,fun post q hq=>?_⟩⟩
    . exact .lst (l:=[]) (cs:=[]) (show (0:Nat)<N by omega) (h0 post).2 .nil (fun t ht=>by simp at ht) he rfl (.inl (by omega)) (dz _)
    . simp only [kb] at hq;subst hq;exact ⟨hs,fun j hj=>by simp at hj,fun j u hu=>by simp at hu⟩
  |.lst e l,.slice _ _ cap,@Rt.lst _ _ _ b off _ cs h hs he hl hm hc hcell,pre=>by
    obtain ⟨A,xs,k⟩:=entL hN hK hG h pre;have hxl:xs.length=cs.length:=(k.vr []).length;have hb:b<W.heap.size:=yjn hc;have hi:=fun post=>yfi pre A post (⟨b,off,xs⟩:Seg);have h0:=fun post=>yph (q:=(⟨b,off,xs⟩:Seg)) hK hG (hi post) (by show b<N;omega);have hF:∀ post,pre++(A++[⟨b,off,xs⟩])++post=pre++A++((⟨b,off,xs⟩:Seg) :: post):=fun post=>by simp
    refine ⟨A++[⟨b,off,xs⟩],.slice (some (mkA b ((N+(pre.length+A.length))*1024) 0)) l.length cap,⟨fun post=>⟨VR.mk ⟨b,off,_,(h0 post).1,⟨b,off,none⟩,cap,rfl,hl,dz _,hm,fun _=>rfl,fun _=>rfl,fun ht=>?_⟩,trivial⟩,fun post=>.cons ?_ .nil,fun post q hq=>?_⟩⟩
    . rw [zjm] at ht;omega
    . refine .lst (cs:=xs) (show b<N by omega) (h0 post).2 ?_ hs he (by rw [fp,List.take_length]) (.inl (by omega)) hl;rw [hF];exact k.vl _
    . rcases List.mem_append.1 hq with hq|hq
      . rw [hF];exact k.at_ _ q hq
      . simp only [kb] at hq;subst hq;refine ⟨hb,fun j hj=>?_,fun j u hu=>?_⟩
        . have hj:j<off+xs.length:=hj;by_cases h1:j<=off
          . exact z6t hc h1
          . have hjc:j - off<cs.length:=by omega
            have:=hcell (j - off) _ (dv hjc);rw [show off+(j - off)=j by omega] at this;rw [this];rfl
        . have hju:j<xs.length:=(d9.1 hu).1;have hu:xs[j]?=some u:=hu;have hcs:=dv (l:=cs) (i:=j) (by omega);refine ⟨_,hcell j _ hcs,?_⟩;rw [hF];obtain ⟨y,hy1,hy2⟩:=(k.vr (⟨b,off,xs⟩ :: post)).at hu;rw [hcs] at hy1;cases hy1;exact hy2
theorem entL (hN:N=W.heap.size) (hK:∀ p,p∈K->has G p.1=true) (hG:∀ g,has G g=true->g<N):∀ {l:List T} {vs:List Value},RtL W l vs->∀ pre,∃ A xs,En W N G K pre A l xs vs
  |_,_,.nil,pre=>⟨[],[],⟨fun _=>trivial,fun _=>.nil,fun _ q hq=>by simp at hq⟩⟩
  |_,_,.cons h1 h2,pre=>by
    obtain ⟨A1,x,k1⟩:=ent hN hK hG h1 pre;obtain ⟨A2,xs,k2⟩:=entL hN hK hG h2 (pre++A1);have e1:∀ post,pre++(A1++A2)++post=pre++A1++(A2++post):=fun post=>by simp
    have e2:∀ post,pre++(A1++A2)++post=pre++A1++A2++post:=fun post=>by simp
    refine ⟨A1++A2,x :: xs,⟨fun post=>⟨?_,?_⟩,fun post=>?_,fun post q hq=>?_⟩⟩
    . rw [e1];exact (k1.vr _).1
    . rw [e2];exact k2.vr _
    . have a:=k1.vl (A2++post);have b:=k2.vl post;rw [<- e1] at a;rw [<- e2] at b
      cases a with
      |cons a _=>exact .cons a b
    . rcases List.mem_append.1 hq with hq|hq
      . rw [e1];exact k1.at_ _ q hq
      . rw [e2];exact k2.at_ _ q hq
end
end
inductive Sh where
  |int (k:IntKind)
  |bool
  |str
  |slice (e:Sh)
  |struct (l:List Sh)
  |arr (k:IntKind) (n:Nat)
mutual
def Sh.sz:Sh->Nat
  |.struct l=>Sh.szL l
  |.arr _ n=>n
  |_=>1
def Sh.szL:List Sh->Nat
  |[]=>0
  |s :: l=>s.sz+Sh.szL l
end
mutual
def shOk (P:ep):Sh->ed->Bool
  |.int k,t=>match P.underlying t with|some (.int k')=>decide (k=k')|_=>false
  |.bool,t=>match P.underlying t with|some .bool=>true|_=>false
  |.str,t=>match P.underlying t with|some .string=>true|_=>false
  |.slice s,t=>match P.underlying t with|some (.slice e)=>d7 (P.cellsOf e) s.sz && (fb 0 s.sz && shOk P s e)|_=>false
  |.struct l,t=>match P.underlying t with|some (.struct fs)=>d7 (P.cellsOf t) (Sh.szL l) && yat P l fs.toList 0|_=>false
  |.arr k n,t=>match P.underlying t with|some (.array m e)=>d7 m n && (d7 (P.cellsOf t) n && (d7 (P.cellsOf e) 1 && (match P.underlying e with|some (.int k')=>decide (k=k')|_=>false)))|_=>false
def yat (P:ep):List Sh->List Field->Nat->Bool
  |[],[],_=>true
  |s :: l,f :: fs,o=>d7 f.offset o && (d7 (P.cellsOf f.type) s.sz && (shOk P s f.type && yat P l fs (o+s.sz)))
  |_,_,_=>false
end
mutual
def conf:Sh->T->Prop
  |.int k,t=>∃ n,t=.int k n/\(Lit.int k n).wf=true
  |.bool,t=>∃ b,t=.bool b
  |.str,t=>∃ s,t=.str s/\s.size<=maxLen
  |.slice e,t=>∃ l,t=.lst e.sz l/\l.length<=maxLen/\∀ x,x∈l->conf e x
  |.struct l,t=>∃ cs,t=.agg cs/\yoe l cs
  |.arr k n,t=>∃ a:Ar n,t=.agg (a.l.map (dy k))/\∀ x,x∈a.l->(Lit.int k x).wf=true
def yoe:List Sh->List T->Prop
  |[],cs=>cs=[]
  |s :: l,cs=>∃ x r,cs=x.cells++r/\conf s x/\yoe l r
end
theorem yha {α:Type} {p:Nat->α->Prop}:∀ n,(∀ i,i<n->∃ x,p i x)->∃ l:List α,l.length=n/\∀ i (hi:i<l.length),p i l[i]:=by
  intro n
  induction n with
  |zero=>intro _;exact ⟨[],rfl,fun i hi=>by simp at hi⟩
  |succ n ih =>
    intro h;obtain ⟨l,hl,hp⟩:=ih (fun i hi=>h i (by omega));obtain ⟨x,hx⟩:=h n (by omega);refine ⟨l++[x],by simp [hl],fun i hi=>?_⟩;by_cases hin:i<l.length
    . rw [List.getElem_append_left hin];exact hp i hin
    . have:i=l.length:=by simp at hi;omega
      subst this;rw [List.getElem_append_right (dz _)];simpa [hl] using hx
section
variable {H:Type} {enc:ed×Value->H} {P:ep} {W:World}
theorem RtL.append:∀ {l l2:List T} {vs vs2:List Value},RtL W l vs->RtL W l2 vs2->RtL W (l++l2) (vs++vs2)
  |_,_,_,_,.nil,k=>k
  |_,_,_,_,.cons h k,k2=>.cons h (k.append k2)
theorem RtL.flat:∀ {l:List (T×List Value)},(∀ p,p∈l->RtL W p.1.cells p.2)->RtL W ((l.map (·.1)).flatMap T.cells) (l.map (·.2)).flatten
  |[],_=>.nil
  |p :: l,h=>by
    rw [gb,List.flatMap_cons,gb,fm];exact (h p (by simp)).append (RtL.flat fun q hq=>h q (by simp [hq]))
theorem zyw {b k:Nat}:∀ {l:List (List Value)} {o:Nat},(∀ c,c∈l->c.length=k)->(∀ (i:Nat) c,l[i]?=some c->∀ j,j<k->W.cell? ⟨b,o+i*k+j,none⟩=c[j]?)->∀ (j:Nat) u,l.flatten[j]?=some u->W.cell? ⟨b,o+j,none⟩=some u
  |[],o,_,_,j,u,h=>by simp at h
  |c :: l,o,hl,hc,j,u,h=>by
    have hck:=hl c (by simp);rw [fm] at h;by_cases hj:j<c.length
    . rw [eu hj] at h;have:=hc 0 c rfl j (by omega);rw [Nat.zero_mul,gm] at this;rw [this,h]
    . rw [fq (by omega)] at h
      have:=zyw (o:=o+k) (fun c hc=>hl c (by simp [hc])) (fun i c' hi j hj=>by
        have:=hc (i+1) c' (by simpa using hi) j hj;rw [show o+(i+1)*k+j=o+k+i*k+j by rw [Nat.add_mul];omega] at this
        exact this) (j - c.length) u h
      rw [show o+k+(j - c.length)=o+j by omega] at this;exact this
def zwj (W:World) (cs:List Value):Prop:=∀ v,v∈cs->(∃ a n c,v=.slice (some a) n c)->0<W.heap.size
theorem zwj.of (h:0<W.heap.size) (cs:List Value):zwj W cs:=fun _ _ _=>h
theorem zwj.sub {cs cs':List Value} (h:zwj W cs) (hs:∀ v,v∈cs'->v∈cs):zwj W cs':=fun v hv=>h v (hs v hv)
theorem yas {s:Sh} {e t:ed} {fuel:Nat} {cs:List Value} {x:DataW H×List MemPlace} (ht:P.underlying t=some (.slice e)) (hsz:P.cellsOf e=s.sz) (hpos:0<s.sz)
    (ih:∀ {fuel:Nat} {cs:List Value} {x:DataW H×List MemPlace},DataW.trod enc P W 0 (fun _=>true) true fuel e cs=some x->zwj W cs->∃ tr,conf s tr/\RtL W tr.cells cs)
    (h:DataW.trod enc P W 0 (fun _=>true) true fuel t cs=some x) (hz:zwj W cs):∃ tr,conf (.slice s) tr/\RtL W tr.cells cs:=by
  rcases Go.Deep.open_slice ht h with ⟨rfl,_⟩|⟨a,len,cap,m,n,D,Pl,rfl,hb,hl,hm,hmm,_,hall⟩
  . exact ⟨.lst s.sz [],⟨[],rfl,fw _,fun x hx=>by simp at hx⟩,.cons .nil .nil⟩
  . have hh:0<W.heap.size:=hz (.slice (some a) len cap) (by simp) ⟨_,_,_,rfl⟩;simp only [if_true] at hmm;subst hmm;rw [hsz] at hall;by_cases h0:m=0
    . subst h0;have:len=0:=by omega
      subst this;exact ⟨.lst s.sz [],⟨[],rfl,fw _,fun x hx=>by simp at hx⟩,.cons (.zero hpos hh) .nil⟩
    obtain ⟨cs0,hc0,_⟩:=hall 0 (by omega);obtain ⟨_,hl0,hcc0⟩:=World.cells?_some hc0
    have hcell0:((W.cell? ((a.add (0*s.sz)).add 0))).isSome=true:=by
      rw [hcc0 0 hpos,dv (by omega)];rfl
    obtain ⟨b,off,spot⟩:=a
    have hspot:spot=none:=by
      cases hq:W.cell? (((⟨b,off,spot⟩:Addr).add (0*s.sz)).add 0) with
      |none=>rw [hq] at hcell0;simp at hcell0
      |some u=>simpa [Addr.add] using World.cell?_spot hq
    subst hspot;simp only [l9,Nat.zero_mul,gm] at hcell0
    obtain ⟨l,hll,hp⟩:=yha (p:=fun i (p:T×List Value)=>conf s p.1/\RtL W p.1.cells p.2/\p.2.length=s.sz/\∀ j,j<s.sz->W.cell? ⟨b,off+i*s.sz+j,none⟩=p.2[j]?) len (fun i hi=>by
      obtain ⟨cs',h1,h2⟩:=hall i (by omega);obtain ⟨tr,k1,k2⟩:=ih h2 (zwj.of hh _);obtain ⟨-,hcl,hcc⟩:=World.cells?_some h1
      exact ⟨(tr,cs'),k1,k2,hcl,fun j hj=>by have:=hcc j hj;rw [l9,l9] at this;exact this⟩)
    have hmem:∀ p,p∈l->∃ i,i<l.length/\l[i]?=some p/\conf s p.1/\RtL W p.1.cells p.2/\p.2.length=s.sz:=fun p hp'=>by
      obtain ⟨i,hi,rfl⟩:=lm hp';exact ⟨i,hi,dv hi,(hp i hi).1,(hp i hi).2.1,(hp i hi).2.2.1⟩
    refine ⟨.lst s.sz (l.map (·.1)),⟨_,rfl,by rw [ec];omega,fun x hx=>?_⟩,.cons ?_ .nil⟩
    . obtain ⟨p,hp1,rfl⟩:=jq.1 hx;obtain ⟨_,_,_,k,_⟩:=hmem p hp1;exact k
    . have:=Rt.lst (W:=W) (e:=s.sz) (l:=l.map (·.1)) (b:=b) (off:=off) (cap:=m) (cs:=(l.map (·.2)).flatten) (RtL.flat fun p hp1=>by obtain ⟨_,_,_,_,k,_⟩:=hmem p hp1;exact k) (fun t ht'=>?_) hpos (by rw [ec];omega) hm hcell0 ?_
      . rw [ec,hll] at this;exact this
      . obtain ⟨p,hp1,rfl⟩:=jq.1 ht';obtain ⟨_,_,_,_,k,k2⟩:=hmem p hp1;rw [k.len,k2]
      . refine zyw (k:=s.sz) (fun c hc=>?_) (fun i c hi=>?_)
        . obtain ⟨p,hp1,rfl⟩:=jq.1 hc;obtain ⟨_,_,_,_,_,k2⟩:=hmem p hp1;exact k2
        . rw [List.getElem?_map] at hi
          cases hq:l[i]? with
          |none=>rw [hq] at hi;simp at hi
          |some p =>
            rw [hq] at hi;simp only [Option.map_some,dp] at hi;subst hi;have hil:=(d9.1 hq).1;have:l[i]=p:=(d9.1 hq).2;have:=(hp i hil).2.2.2;rw [‹l[i]=p›] at this;exact this
theorem yaj {W:World} {k:IntKind}:∀ (l:List Int),RtL W (l.map (dy k)) (l.map (ju k))
  |[]=>.nil
  |x :: l=>.cons (.int _ _) (yaj l)
theorem beqN {a b:Nat} (h:d7 a b=true):a=b:=dx h
mutual
theorem zuz:∀ {s:Sh} {t:ed} {fuel:Nat} {cs:List Value} {x:DataW H×List MemPlace},shOk P s t=true->DataW.trod enc P W 0 (fun _=>true) true fuel t cs=some x->zwj W cs->∃ tr,conf s tr/\RtL W tr.cells cs
  |.int k,t,fuel,cs,x,hs,h,hz=>by
    unfold shOk at hs;split at hs
    . rename_i k' hu;have:k=k':=of_decide_eq_true hs;subst this;obtain ⟨n,rfl,-,hw⟩:=DataW.trod_int hu h;exact ⟨.int k n,⟨n,rfl,hw⟩,.cons (.int k n) .nil⟩
    . simp at hs
  |.bool,t,fuel,cs,x,hs,h,hz=>by
    unfold shOk at hs;split at hs
    . rename_i hu;obtain ⟨b,rfl,-⟩:=DataW.trod_bool hu h;exact ⟨.bool b,⟨b,rfl⟩,.cons (.bool b) .nil⟩
    . simp at hs
  |.str,t,fuel,cs,x,hs,h,hz=>by
    unfold shOk at hs;split at hs
    . rename_i hu;obtain ⟨b,rfl,-,hb⟩:=DataW.trod_string hu h;exact ⟨.str b,⟨b,rfl,hb⟩,.cons (.str b) .nil⟩
    . simp at hs
  |.slice s,t,fuel,cs,x,hs,h,hz=>by
    unfold shOk at hs;split at hs
    . rename_i e hu;simp only [dr] at hs;exact yas hu (beqN hs.1) (zac.1 hs.2.1) (fun h hz=>zuz hs.2.2 h hz) h hz
    . simp at hs
  |.struct l,t,fuel,cs,x,hs,h,hz=>by
    unfold shOk at hs;split at hs
    . rename_i fs hu;simp only [dr] at hs;obtain ⟨xs,n,-,-,hl,hxl,hall⟩:=DataW.trod_struct hu h
      obtain ⟨ts,k1,k2⟩:=z8a (fs:=fs.toList) (o:=0) (pre:=cs) (fuel:=n) hs.2 (fun f hf=>by
        obtain ⟨i,hi,rfl⟩:=lm hf;have hi':i<fs.size:=by simpa using hi
        have:=hall i fs[i] (iz hi');rw [dv (by omega)] at this
        exact ⟨_,by rw [Array.getElem_toList];exact this⟩) (by rw [hl,beqN hs.1];omega) hz
      rw [fp] at k2;have hlen:cs.take (Sh.szL l)=cs:=List.take_of_length_le (by rw [hl,beqN hs.1];exact dz _);rw [hlen] at k2;exact ⟨.agg ts,⟨ts,rfl,k1⟩,k2⟩
    . simp at hs
  |.arr k n,t,fuel,cs,x,hs,h,hz=>by
    unfold shOk at hs;split at hs
    . rename_i m e hu;simp only [dr] at hs;obtain ⟨h1,h2,h3,h4⟩:=hs;split at h4
      . rename_i k' he;have hkk:k=k':=of_decide_eq_true h4;subst hkk;have hmn:=beqN h1;subst hmn;obtain ⟨xs,fu,rfl,hx1,hlen,hxl,hel⟩:=DataW.trod_array hu h;have hl:cs.length=m:=by rw [hlen];exact beqN h2
        have key:∀ i,i<m->∃ z,cs[i]?=some (.int k z)/\(Lit.int k z).wf=true:=by
          intro i hi;have h0:=hel i hi;rw [beqN h3,Nat.mul_one,dv (by omega)] at h0;obtain ⟨z,e1,e2,e3⟩:=DataW.trod_int he h0;refine ⟨z,?_,e3⟩;have:(cs.drop i)[0]?=((cs.drop i).take 1)[0]?:=by rw [List.getElem?_take_of_lt (by omega)]
          have e1':(cs.drop i).take 1=[.int k z]:=e1;rw [e1'] at this;simpa using this
        obtain ⟨l,hl2,hp⟩:=yha (p:=fun i (z:Int)=>cs[i]?=some (.int k z)/\(Lit.int k z).wf=true) m key
        have hcl:cs=l.map (ju k):=by
          apply List.ext_getElem (by rw [hl,ec,hl2]);intro i h1 h2;have:=(hp i (by rw [hl2,<- hl];exact h1)).1;rw [dv h1] at this;rw [List.getElem_map];exact me this
        refine ⟨.agg (l.map (dy k)),⟨⟨l,hl2⟩,rfl,fun x hx=>?_⟩,?_⟩
        . obtain ⟨i,hi,rfl⟩:=lm hx;exact (hp i hi).2
        . rw [hcl];exact yaj l
      . simp at h4
    . simp at hs
theorem z8a:∀ {l:List Sh} {fs:List Field} {o fuel:Nat} {pre:List Value},yat P l fs o=true->(∀ f,f∈fs->∃ x,DataW.trod enc P W 0 (fun _=>true) true fuel f.type ((pre.drop f.offset).take (P.cellsOf f.type))=some x)->o+Sh.szL l<=pre.length->zwj W pre->∃ ts,yoe l ts/\RtL W ts ((pre.drop o).take (Sh.szL l))
  |[],[],o,fuel,pre,hs,h,hl,hz=>⟨[],rfl,by unfold Sh.szL;rw [List.take_zero];exact .nil⟩
  |[],_ :: _,o,fuel,pre,hs,h,hl,hz=>by simp [yat] at hs
  |_ :: _,[],o,fuel,pre,hs,h,hl,hz=>by simp [yat] at hs
  |s :: l,f :: fs,o,fuel,pre,hs,h,hl,hz=>by
    unfold yat at hs;unfold Sh.szL at hl ⊢;simp only [dr] at hs;obtain ⟨x,hx⟩:=h f (by simp);rw [beqN hs.1,beqN hs.2.1] at hx;obtain ⟨tr,k1,k2⟩:=zuz hs.2.2.1 hx (hz.sub fun v hv=>ki (List.mem_of_mem_take hv));obtain ⟨ts,k3,k4⟩:=z8a (o:=o+s.sz) (pre:=pre) (fuel:=fuel) hs.2.2.2 (fun g hg=>h g (by simp [hg])) (by omega) hz;refine ⟨tr.cells++ts,⟨tr,ts,rfl,k1,k3⟩,?_⟩;have:=k2.append k4;rw [show List.take s.sz (List.drop o pre)++List.take (Sh.szL l) (List.drop (o+s.sz) pre)=List.take (s.sz+Sh.szL l) (List.drop o pre) by rw [List.take_add,List.drop_drop]] at this;exact this
end
theorem zsq {r:Reach} {base:Nat} {u:ed} {a:Addr} {n c:Nat} (h:Cell.okWide P W r base u (.slice (some a) n c)):0<W.heap.size:=by
  have key:Cell.ok P W r base u (.slice (some a) n c)->0<W.heap.size:=fun h=>by
    unfold Cell.ok at h;split at h<;>first|contradiction | (exact h.elim)|skip
    rename_i hq;cases hq;obtain ⟨-,-,-,-,row,cells,hs,-⟩:=h;unfold World.shape? at hs;by_cases hb:0<W.heap.size
    . exact hb
    . rw [Array.getElem?_eq_none (by omega)] at hs;simp at hs
  unfold Cell.okWide at h;split at h<;>first|exact key h|contradiction
theorem ybq {r:Reach} {base:Nat} {u:ed} {cs:Array Value} (h:Cell.okWide P W r base u (.agg cs)):False:=by
  unfold Cell.okWide at h;split at h<;>first|contradiction | (unfold Cell.ok at h;split at h<;>first|contradiction|exact h)
theorem z0e {r:Reach} {base:Nat} {s:Sh} {t:ed} {v:Value} {d:DataW H} {ps:List MemPlace} (hs:shOk P s t=true) (hv:o7 P W r base t v) (h:DataW.Trod enc P W 0 (fun _=>true) true t v d ps):∃ tr,conf s tr/\Rt W tr v:=by
  obtain ⟨fuel,h⟩:=h
  have one:(∀ fs,P.underlying t≠some (.struct fs))->(∀ n e,P.underlying t≠some (.array n e))->(∀ l,s≠.struct l)->(∀ k n,s≠.arr k n)->∃ tr,conf s tr/\Rt W tr v:=fun h1 h2 h3 h4=>by
    have hc:Cell.okWide P W r base t v:=by
      unfold o7 at hv;split at hv
      . rename_i fs hu;exact absurd hu (h1 fs)
      . rename_i n e hu;exact absurd hu (h2 n e)
      . exact hv
    have hcs:v.cells.toList=[v]:=by
      cases v<;>first|rfl|exact (ybq hc).elim
    rw [hcs] at h
    obtain ⟨tr,k1,k2⟩:=zuz hs h (fun x hx ⟨a,n,c,he⟩=>by
      simp only [kb] at hx;subst hx;subst he
      exact zsq hc)
    have ht:tr.cells=[tr]:=by
      cases s with
      |struct l=>exact absurd rfl (h3 l)
      |int k=>obtain ⟨n,rfl,_⟩:=k1;rfl
      |bool=>obtain ⟨n,rfl⟩:=k1;rfl
      |str=>obtain ⟨n,rfl,_⟩:=k1;rfl
      |slice e=>obtain ⟨l,rfl,_⟩:=k1;rfl
      |arr k n=>exact absurd rfl (h4 k n)
    rw [ht] at k2
    cases k2 with
    |cons a _=>exact ⟨tr,k1,a⟩
  cases s with
  |struct l =>
    have hu:∃ fs,P.underlying t=some (.struct fs):=by
      unfold shOk at hs;split at hs
      . rename_i fs hu;exact ⟨fs,hu⟩
      . simp at hs
    obtain ⟨fs,hu⟩:=hu;unfold o7 at hv;rw [hu] at hv;obtain ⟨cs,rfl,-,ts,-,-,hall⟩:=hv
    obtain ⟨tr,k1,k2⟩:=zuz hs h (fun x hx ⟨a,n,c,he⟩=>by
      subst he;obtain ⟨i,hi,hq⟩:=lm hx;have hi':i<cs.size:=by simpa [Value.cells] using hi
      obtain ⟨u,-,hu2⟩:=hall i _ (iz hi');have:cs[i]=.slice (some a) n c:=by simpa [Value.cells] using hq
      rw [this] at hu2
      exact zsq hu2)
    obtain ⟨ts,rfl,_⟩:=id k1;exact ⟨_,k1,.agg (by simpa [T.cells,Value.cells] using k2)⟩
  |int k =>
    have:∃ k',P.underlying t=some (.int k'):=by
      unfold shOk at hs;split at hs
      . rename_i k' hu;exact ⟨k',hu⟩
      . simp at hs
    obtain ⟨k',hu⟩:=this;exact one (fun fs hh=>by rw [hu] at hh;simp at hh) (fun n e hh=>by rw [hu] at hh;simp at hh) (fun l hh=>by simp at hh) (fun k n hh=>by simp at hh)
  |bool =>
    have:P.underlying t=some .bool:=by
      unfold shOk at hs;split at hs
      . rename_i hu;exact hu
      . simp at hs
    exact one (fun fs hh=>by rw [this] at hh;simp at hh) (fun n e hh=>by rw [this] at hh;simp at hh) (fun l hh=>by simp at hh) (fun k n hh=>by simp at hh)
  |str =>
    have:P.underlying t=some .string:=by
      unfold shOk at hs;split at hs
      . rename_i hu;exact hu
      . simp at hs
    exact one (fun fs hh=>by rw [this] at hh;simp at hh) (fun n e hh=>by rw [this] at hh;simp at hh) (fun l hh=>by simp at hh) (fun k n hh=>by simp at hh)
  |slice e =>
    have:∃ e,P.underlying t=some (.slice e):=by
      unfold shOk at hs;split at hs
      . rename_i e hu;exact ⟨e,hu⟩
      . simp at hs
    obtain ⟨e',hu⟩:=this;exact one (fun fs hh=>by rw [hu] at hh;simp at hh) (fun n e hh=>by rw [hu] at hh;simp at hh) (fun l hh=>by simp at hh) (fun k n hh=>by simp at hh)
  |arr k n =>
    have hu:∃ m e,P.underlying t=some (.array m e):=by
      unfold shOk at hs;split at hs
      . rename_i m e hu;exact ⟨m,e,hu⟩
      . simp at hs
    obtain ⟨m,e,hu⟩:=hu;unfold o7 at hv;rw [hu] at hv;obtain ⟨cs,rfl,-⟩:=hv;have hnoslice:∀ tr:T,conf (.arr k n) tr->True:=fun _ _=>trivial;have hs0:=hs;unfold shOk at hs0;rw [hu] at hs0;simp only [dr] at hs0;obtain ⟨q1,q2,q3,q4⟩:=hs0;split at q4
    . rename_i k' he;obtain ⟨xs,fu,-,-,hlen,hxlen,hel⟩:=DataW.trod_array hu h
      have hz:zwj W (Value.agg cs).cells.toList:=fun x hx ⟨a,n2,c,he2⟩=>by
        subst he2;obtain ⟨i,hi,hq⟩:=lm hx;have hl:(Value.agg cs).cells.toList.length=n:=by rw [hlen];exact beqN q2
        have hmn:=beqN q1;have h0:=hel i (by omega);rw [beqN q3,Nat.mul_one] at h0
        cases hxi:xs[i]? with
        |none =>
          rw [hxi] at h0;have:=List.getElem?_eq_none_iff.1 hxi;omega
        |some z =>
          rw [hxi] at h0;obtain ⟨w,e1,-,-⟩:=DataW.trod_int he h0;have e2:((Value.agg cs).cells.toList.drop i)[0]?=(((Value.agg cs).cells.toList.drop i).take 1)[0]?:=by rw [List.getElem?_take_of_lt (by omega)]
          rw [e1,jk,gm,dv hi,hq] at e2;simp at e2
      obtain ⟨tr,k1,k2⟩:=zuz hs h hz;obtain ⟨a,rfl,_⟩:=id k1;exact ⟨_,k1,.agg (by simpa [T.cells,Value.cells] using k2)⟩
    . simp at q4
end
def nlI:Option (List Int)->T
  |none=>.nils
  |some l=>.lst 1 (l.map (dy .i64))
theorem zkp {n:Nat} (o:Option (List Int)):(nlI o).ids n=true:=by
  cases o with
  |none=>rfl
  |some l=>exact zn2 l
theorem zgc {P:ep} {Γ:Env} {S:TS} {t:ed} {op:BinOp} {x y:d8} {m n:Bool}:tBin P Γ S t op x y (.bool m) (.bool n)=(Γ.ti.at t).bind fun i=>match i.desc,op with|.bool,.eql=>some (.bool (m == n))|.bool,.neq=>some (.bool (!(m == n)))|_,_=>none:=by
  unfold tBin;cases Γ.ti.at t<;>rfl
theorem zoe:(true == true)=true:=d6 rfl rfl
theorem zof:(true == false)=false:=d6 rfl rfl
theorem zog:(false == true)=false:=d6 rfl rfl
theorem zoh:(false == false)=true:=d6 rfl rfl
def atR (rl:List Nat) (i:Nat):Nat:=rl.getD i 0
def memB:List Nat->Nat->Bool
  |[],_=>false
  |y :: l,x=>d7 y x || memB l x
def zx5:List Nat->Bool
  |[]=>true
  |x :: l=>!(memB l x) && zx5 l
def rlOk (n0 n1 m m':Nat) (rl:List Nat):Bool :=
  fg n0 n1 && (d7 rl.length n1 && (fg m m' && (rl.all (fun x=>fb x m') && ((rl.take n0).all (fun x=>fb x m) && ((rl.drop n0).all (fun x=>fg m x) && zx5 rl)))))
def PreL (ρ:Nat->Nat) (n:Nat) (bs:List Box):List Nat->List Box->Prop
  |r :: rl,b :: bl=>(bs.getD r .gone=zoo ρ b/\zhs n b=true)/\PreL ρ n bs rl bl
  |_,_=>True
def z41 (rl:List Nat):Nat->List Box->List Box->Prop
  |i,a :: l,b :: m=>(memB rl i=true\/b=a)/\z41 rl (i+1) l m
  |i,[],b :: m=>memB rl i=true/\z41 rl (i+1) [] m
  |_,_,[]=>True
theorem PreL.get {ρ:Nat->Nat} {n:Nat} {bs:List Box}:∀ {rl:List Nat} {bl:List Box},PreL ρ n bs rl bl->∀ i,i<rl.length->i<bl.length->bs.getD (rl.getD i 0) .gone=zoo ρ (bl.getD i .gone)/\zhs n (bl.getD i .gone)=true
  |r :: rl,b :: bl,h,0,_,_=>h.1
  |r :: rl,b :: bl,h,i+1,h1,h2=>PreL.get (rl:=rl) (bl:=bl) h.2 i (by simpa using h1) (by simpa using h2)
theorem z41.get {rl:List Nat}:∀ {i:Nat} {l m:List Box},z41 rl i l m->l.length<=m.length->∀ b,memB rl (i+b)=false->m.getD b .gone=l.getD b .gone
  |i,a :: l,b :: m,h,hl,0,hm=>by
    rcases h.1 with q|q
    . rw [gm] at hm;rw [hm] at q;cases q
    . exact q
  |i,a :: l,b :: m,h,hl,k+1,hm=>z41.get (l:=l) (m:=m) h.2 (by simpa using hl) k (by rw [show i+1+k=i+(k+1) by omega];exact hm)
  |i,[],b :: m,h,hl,0,hm=>by have q:=h.1;rw [gm] at hm;rw [hm] at q;cases q
  |i,[],b :: m,h,hl,k+1,hm=>z41.get (l:=[]) (m:=m) h.2 (fw _) k (by rw [show i+1+k=i+(k+1) by omega];exact hm)
  |i,[],[],h,hl,k,hm=>rfl
theorem zto {p:Nat->Bool}:∀ {l:List Nat},l.all p=true->∀ i,i<l.length->p (l.getD i 0)=true
  |x :: l,h,0,_=>by simp only [ii,dr] at h;exact h.1
  |x :: l,h,i+1,hi=>by
    simp only [ii,dr] at h;exact zto (l:=l) h.2 i (by simpa using hi)
theorem z0i:∀ {l:List Nat} {i:Nat},i<l.length->memB l (l.getD i 0)=true
  |x :: l,0,_=>by show (d7 x x || memB l x)=true;rw [gw];rfl
  |x :: l,i+1,h=>by
    show (d7 x (l.getD i 0) || memB l (l.getD i 0))=true;rw [z0i (l:=l) (by simpa using h),Bool.or_true]
theorem zx4:∀ {l:List Nat},zx5 l=true->∀ i j,i<l.length->j<l.length->l.getD i 0=l.getD j 0->i=j
  |x :: l,h,0,0,_,_,_=>rfl
  |x :: l,h,0,j+1,_,hj,e=>by
    simp only [zx5,dr,Bool.not_eq_true'] at h;have:=z0i (l:=l) (i:=j) (by simpa using hj);rw [show l.getD j 0=x from e.symm] at this;rw [h.1] at this;cases this
  |x :: l,h,i+1,0,hi,_,e=>by
    simp only [zx5,dr,Bool.not_eq_true'] at h;have:=z0i (l:=l) (i:=i) (by simpa using hi);rw [show l.getD i 0=x from e] at this;rw [h.1] at this;cases this
  |x :: l,h,i+1,j+1,hi,hj,e=>by
    simp only [zx5,dr] at h;rw [zx4 (l:=l) h.2 i j (by simpa using hi) (by simpa using hj) e]
theorem ync {bs:List Box} {b:Nat} (h:bs.length<=b):(stL bs).box b=.gone:=by
  show bs.getD b .gone=.gone;rw [ef,List.getElem?_eq_none h];rfl
theorem yn3 {rl:List Nat} {bs0 bs1 bs bs':List Box} (h1:rlOk bs0.length bs1.length bs.length bs'.length rl=true) (h4:PreL (atR rl) bs0.length bs rl bs0) (h5:PreL (atR rl) bs1.length bs' rl bs1) (h6:z41 rl 0 bs bs'):Fits (atR rl) (stL bs0) (stL bs1) (stL bs) (stL bs'):=by
  unfold rlOk at h1;simp only [dr] at h1;obtain ⟨a1,a2,a3,a4,a5,a6,a7⟩:=h1;have a1:=zax.1 a1;have a2:=dx a2;have a3:=zax.1 a3;refine ⟨a1,fun b hb=>ync hb,fun i hi=>?_,fun i hi hj=>?_,fun i hi=>?_,a3,fun i j hi hj e=>?_,fun i hi=>?_,fun i hi=>?_,fun b hb=>?_⟩
  . have hi:i<bs0.length:=hi;have:=zto a5 i (by rw [fi];omega);rw [ef,kx,zAc hi,<- ef] at this;exact zac.1 this
  . have hi:bs0.length<=i:=hi;have hj:i<bs1.length:=hj;have:=zto a6 (i - bs0.length) (by rw [gp];omega);rw [ef,jk,show bs0.length+(i - bs0.length)=i by omega,<- ef] at this;exact zax.1 this
  . have hi:i<bs1.length:=hi;exact zac.1 (zto a4 i (by omega))
  . exact zx4 a7 i j (by rw [a2];exact hi) (by rw [a2];exact hj) e
  . have hi:i<bs0.length:=hi;exact h4.get i (by omega) hi
  . have hi:i<bs1.length:=hi;exact h5.get i (by omega) hi
  . refine h6.get a3 b ?_;rw [fz]
    cases hm:memB rl b with
    |false=>rfl
    |true =>
      exfalso
      have key:∀ {l:List Nat},memB l b=true->∃ i,i<l.length/\l.getD i 0=b:=by
        intro l
        induction l with
        |nil=>intro h;cases h
        |cons x l ih =>
          intro h;simp only [memB,jm] at h;rcases h with h|h
          . exact ⟨0,by simp,dx h⟩
          . obtain ⟨i,h1,h2⟩:=ih h;exact ⟨i+1,by simpa using h1,h2⟩
      obtain ⟨i,q1,q2⟩:=key hm;exact hb i (by show i<bs1.length;omega) q2
theorem Call.at {P:ep} {Γ:Env} {GL:List (Nat×List Value)} {f:FuncId} {args args':List T} {v v':T} {bs0 bs1 bs bs':List Box} (rl:List Nat) (k:Call P Γ GL f args (stL bs0) v (stL bs1)) (h1:rlOk bs0.length bs1.length bs.length bs'.length rl=true) (h2:T.idsL bs0.length args=true) (h3:v.ids bs1.length=true) (h4:PreL (atR rl) bs0.length bs rl bs0) (h5:PreL (atR rl) bs1.length bs' rl bs1) (h6:z41 rl 0 bs bs') (ea:T.renL (atR rl) args=args') (ev:v.ren (atR rl)=v'):Call P Γ GL f args' (stL bs) v' (stL bs'):=by
  subst ea ev;exact Call.frame k h2 h3 (yn3 h1 h4 h5 h6)
noncomputable def lsOf (o:Oper):Option (Nat×Nat):=match o.op with
  |.load _ (.tmp a)=>some (0,a)
  |.store _ (.tmp a) _=>some (1,a)
  |.alloc _=>(match o.dst with|some d=>some (2,d)|none=>none)
  |.box _ _=>(match o.dst with|some d=>some (2,d)|none=>none)
  |.makeSlice _ _ _=>(match o.dst with|some d=>some (2,d)|none=>none)
  |.buildSlice _ _ _=>(match o.dst with|some d=>some (2,d)|none=>none)
  |_=>none
noncomputable def zi4 (a:Nat) (l:List Oper):Bool:=l.all fun o=>match o.dst with|some d=>!(d7 d a)|none=>true
noncomputable def zk5 (k a:Nat) (o:Oper) (l:List Oper):Bool:=zi4 a l && (d7 k 2 || zi4 a [o])
noncomputable def z53:List (Nat×Option Nat)->Nat->Option (Option Nat)
  |[],_=>none
  |(a,b) :: l,x=>bif d7 a x then some b else z53 l x
noncomputable def zvf (bx:List (Nat×Option Nat)) (o:Oper) (l:List Oper):Option (Nat×Option Nat):=match lsOf o with
  |some (w,a)=>bif zk5 w a o l then (match z53 bx a with|some b=>some (w,b)|none=>none) else none
  |none=>none
noncomputable def tagS (bx:List (Nat×Option Nat)):Nat->List Oper->List (Bool×Oper×Option (Nat×Option Nat))
  |_,[]=>[]
  |0,o :: l=>(true,o,zvf bx o l) :: tagS bx 0 l
  |k+1,o :: l=>(false,o,zvf bx o l) :: tagS bx k l
noncomputable def yek:Option Nat->Option Nat->Bool
  |some a,some b=>!(d7 a b)
  |none,none=>false
  |_,_=>true
noncomputable def ybi (p q:Option (Nat×Option Nat)):Bool:=match p,q with
  |some (w1,b1),some (w2,b2)=>fg w2 1 && ((d7 w1 0 && d7 w2 0) || yek b1 b2)
  |_,_=>false
noncomputable def zm8 (Γ:Env) (o:Oper):Bool:=match o.op with
  |.call ⟨.builtin .len,_,ts⟩=>(match ts.toList with | [t]=>(match Γ.ti.at t with|some i=>(match i.desc with|.slice _=>true|.string=>true|_=>false)|none=>false)|_=>false)
  |.call ⟨.builtin .min,_,_⟩=>true
  |.call ⟨.builtin .max,_,_⟩=>true
  |_=>false
noncomputable def z8o (Γ:Env) (x y:Bool×Oper×Option (Nat×Option Nat)):Bool:=y.1 && !(ziq x.2.1.op || (zi2 y.2.1.op || (zm8 Γ x.2.1 || (zm8 Γ y.2.1 || ybi x.2.2 y.2.2))))
noncomputable def zv4 (Γ:Env) (k:Nat) (bx:List (Nat×Option Nat)) (ops:List Oper):Bool:=ziu ops.length ops && zgh (z8o Γ) [] (tagS bx k ops) (zdq ops [])
def adr1 (S:TS):T->Option Nat->Prop
  |.ptr b _ N,some c=>b=c/\S.has b N=true
  |.cp _,none=>True
  |.arr b _ _ _ _ N,some c=>b=c/\S.has b N=true
  |.tup [],some _=>True
  |_,_=>False
def zzk (bx:List (Nat×Option Nat)) (h:Nat->T) (S:TS):Prop:=match bx with
  |[]=>True
  |(a,b) :: l=>adr1 S (h a) b/\zzk l h S
theorem znn {bx:List (Nat×Option Nat)}:∀ {k:Nat} {ops:List Oper} {i:Nat} {o:Oper},ops[i]?=some o->(tagS bx k ops)[i]?=some (decide (k<=i),o,zvf bx o (ops.drop (i+1)))
  |_,[],i,o,h=>by simp at h
  |0,x :: l,i,o,h=>by
    cases i with
    |zero=>simp only [fl,dp] at h;subst h;rfl
    |succ i =>
      have:=znn (bx:=bx) (k:=0) (ops:=l) (i:=i) (by simpa using h)
      simpa [tagS] using this
  |k+1,x :: l,i,o,h=>by
    cases i with
    |zero=>simp only [fl,dp] at h;subst h;rfl
    |succ i =>
      have:=znn (bx:=bx) (k:=k) (ops:=l) (i:=i) (by simpa using h);simpa [tagS] using this
theorem z36 {Γ:Env} {k:Nat} {bx:List (Nat×Option Nat)} {ops:List Oper} (hd:zv4 Γ k bx ops=true) {i j:Nat} {x y:Oper} (hij:i<j) (hkj:k<=j) (hx:ops[i]?=some x) (hy:ops[j]?=some y):ft (nth 0 (zdq ops []) j) i=true\/ziq x.op=true\/zi2 y.op=true\/zm8 Γ x=true\/zm8 Γ y=true\/ybi (zvf bx x (ops.drop (i+1))) (zvf bx y (ops.drop (j+1)))=true:=by
  unfold zv4 at hd;simp only [dr] at hd;rcases zf0 hd.2 i j _ _ hij (fw _) (by simpa using znn hx) (by simpa using znn hy) with q|q
  . exact .inl q
  . unfold z8o at q;rw [zAa hkj] at q;simp only [Bool.true_and,nc,jm] at q;exact .inr q
theorem yja {bx:List (Nat×Option Nat)} {x y:Oper} {l m:List Oper} (h:ybi (zvf bx x l) (zvf bx y m)=true):∃ w1 a1 b1 w2 a2 b2,lsOf x=some (w1,a1)/\zk5 w1 a1 x l=true/\z53 bx a1=some b1/\lsOf y=some (w2,a2)/\zk5 w2 a2 y m=true/\z53 bx a2=some b2/\w2<=1/\((w1=0/\w2=0)\/yek b1 b2=true):=by
  have key:∀ {o:Oper} {l:List Oper} {w b},zvf bx o l=some (w,b)->∃ a,lsOf o=some (w,a)/\zk5 w a o l=true/\z53 bx a=some b:=by
    intro o l w b h;unfold zvf at h;split at h
    . rename_i w' a' h1
      cases h2:zk5 w' a' o l with
      |false=>rw [h2] at h;simp at h
      |true =>
        rw [h2,cond_true] at h;split at h
        . rename_i b' h3;cases h;exact ⟨a',h1,h2,h3⟩
        . simp at h
    . simp at h
  cases h1:zvf bx x l with
  |none=>rw [h1] at h;simp [ybi] at h
  |some p =>
    cases h2:zvf bx y m with
    |none=>rw [h1,h2] at h;simp [ybi] at h
    |some q =>
      obtain ⟨w1,b1⟩:=p;obtain ⟨w2,b2⟩:=q;rw [h1,h2] at h;obtain ⟨a1,c1,c2,c3⟩:=key h1;obtain ⟨a2,d1,d2,d3⟩:=key h2;simp only [ybi,jm,dr] at h;refine ⟨w1,a1,b1,w2,a2,b2,c1,c2,c3,d1,d2,d3,zax.1 h.1,?_⟩;rcases h.2 with q|q
      . exact .inl ⟨dx q.1,dx q.2⟩
      . exact .inr q
theorem z1h {h:Nat->T} {S:TS}:∀ {bx:List (Nat×Option Nat)} {a:Nat} {b:Option Nat},zzk bx h S->z53 bx a=some b->adr1 S (h a) b
  |(a',b') :: l,a,b,k,e=>by
    unfold z53 at e
    cases hb:d7 a' a with
    |true =>
      rw [hb,cond_true] at e;cases e;rw [<- dx hb];exact k.1
    |false =>
      rw [hb,cond_false] at e;exact z1h k.2 e
section
variable {GL:List (Nat×List Value)} {A A' A0:Nat->Prop} {β β':Bx} {S S':TS} {s s0 s' s2:CS} {P:ep} {Γ:Env} {N:Nat} {h h':Nat->T} {call:zc1}
def IsAd (v:Value) (ad:Addr):Prop:=v=.pointer (some ad)\/∃ n c,v=.slice (some ad) n c
def ybx (fr:Fr) (w:Nat) (a:Nat) (x:Lg):Prop:=(x.rd=[]/\x.wr=[]/\x.lo=x.hi)\/∃ ad,IsAd (fr.get a) ad/\(∀ y,y∈x.rd->y=ad.block)/\(∀ y,y∈x.wr->y=ad.block)/\(x.lo=x.hi\/(x.hi=x.lo+1/\x.lo=ad.block))/\(w=0->x.wr=[])/\(w<=1->x.lo=x.hi)
theorem z0r {fr:Fr} {d:Option Tmp} {v:Value} {a:Nat} (h5:fr.nt<=512) (hd:(match d with|some d=>!(d7 d a)|none=>true)=true):(putC fr d v).get a=fr.get a:=by
  cases d with
  |none=>rfl
  |some d =>
    refine Fr.get_put_other v h5 fun e=>?_;subst e;simp at hd
theorem zq0 {ops:List Oper} {a:Nat}:∀ {l:List Oper} {fr fr':Fr} {s s':CS} {L:List Lg},drawC P Γ call ops l fr s=some (L,fr',s')->fr.nt<=512->zi4 a l=true->fr'.get a=fr.get a
  |[],fr,fr',s,s',L,hc,_,_=>by
    simp only [drawC,dp,du] at hc;rw [hc.2.1]
  |o :: l,fr,fr',s,s',L,hc,h5,hn=>by
    simp only [drawC] at hc;unfold zi4 at hn;rw [ii,dr] at hn;split at hc
    . rename_i fr1 t h1;split at hc
      . rename_i logs fr2 s2 h2;cases hc
        have e:∃ v,fr1=putC fr o.dst v:=by
          unfold zcj at h1
          cases hw:zc4 ops fr o with
          |false =>
            rw [hw] at h1;simp only [cond_false,dp,du] at h1;exact ⟨_,h1.1.symm⟩
          |true =>
            rw [hw,cond_true] at h1;split at h1
            . cases h1;exact ⟨_,rfl⟩
            . simp at h1
        obtain ⟨v,rfl⟩:=e;rw [zq0 h2 (by rw [zuw];exact h5) hn.2];exact z0r h5 hn.1
      . simp at hc
    . simp at hc
theorem yfg {lim n y:Nat} (h:y∈ins lim [] n):y=n:=by
  unfold ins at h
  cases hb:fb n lim with
  |false=>rw [hb] at h;simp at h
  |true =>
    rw [hb] at h;have:has ([]:List Nat) n=false:=rfl;rw [cond_true,this,cond_false] at h;simpa using h
theorem yev {s s1:CS} {tag:Nat} {cs:List Value} {a:Addr} (h:s.newRow tag cs=some (a,s1)):s1.rd=s.rd/\s1.wr=s.wr/\s1.n=s.n+1/\a.block=s.n:=by
  unfold CS.newRow at h;generalize (zif s.obj s.n:Bool)=b at h
  cases b with
  |true=>cases h;exact ⟨rfl,rfl,rfl,rfl⟩
  |false=>cases h
theorem yd4 {s s1:CS} {tag:Nat} {cs:List Value} {v:Value} (h:ptrC (s.inner.newRow tag cs)=some (v,s1)):s1.rd=[]/\s1.wr=[]/\s1.n=s.n+1/\∃ ad,IsAd v ad/\ad.block=s.n:=by
  unfold ptrC at h;split at h
  . rename_i x hx;cases h;obtain ⟨a,t⟩:=x;obtain ⟨h1,h2,h3,h4⟩:=yev hx;exact ⟨h1,h2,h3,a,.inl rfl,h4⟩
  . simp at h
theorem z11 {s s1:CS} {tag l c:Nat} {cs:List Value} {v:Value} (h:zhp l c (s.inner.newRow tag cs)=some (v,s1)):s1.rd=[]/\s1.wr=[]/\s1.n=s.n+1/\∃ ad,IsAd v ad/\ad.block=s.n:=by
  unfold zhp at h;split at h
  . rename_i x hx;cases h;obtain ⟨a,t⟩:=x;obtain ⟨h1,h2,h3,h4⟩:=yev hx;exact ⟨h1,h2,h3,a,.inr ⟨_,_,rfl⟩,h4⟩
  . simp at h
theorem ypw {o:Oper} {fr:Fr} {s s1:CS} {v:Value} {w:Nat} {a:Nat} (ho:lsOf o=some (w,a)) (hc:cop P Γ call (zgf fr) o s.inner=some (v,s1)):(w<=1/\s1.n=s.n/\∃ ad,fr.get a=.pointer (some ad)/\(w=0->s1.wr=[])/\(∀ y,y∈s1.rd->y=ad.block)/\(∀ y,y∈s1.wr->y=ad.block))\/(w=2/\o.dst=some a/\s1.rd=[]/\s1.wr=[]/\s1.n=s.n+1/\∃ ad,IsAd v ad/\ad.block=s.n):=by
  unfold lsOf at ho;split at ho
  . rename_i t a' hop;cases ho;unfold cop at hc;rw [hop] at hc;simp only [zgf] at hc;unfold zop at hc;split at hc
    . rename_i ad had;split at hc
      . rename_i i hi;unfold CS.loadVar at hc;split at hc
        . rename_i cs s3 hr;split at hc
          . cases hc;unfold CS.readRow at hr;split at hr
            . cases hr;exact .inl ⟨by omega,rfl,ad,had,fun _=>rfl,fun y hy=>yfg hy,fun y hy=>by cases hy⟩
            . simp at hr
          . simp at hc
        . simp at hc
      . simp at hc
    . simp at hc
  . rename_i t a' vv hop;cases ho;unfold cop at hc;rw [hop] at hc;change zkm Γ s.inner t (zgf fr vv).cells.toList (fr.get a)=_ at hc;generalize (zgf fr vv).cells.toList=vs at hc;unfold zkm at hc;split at hc
    . rename_i ad had;split at hc
      . rename_i i hi
        cases hb:d7 vs.length i.size with
        |false=>rw [hb] at hc;simp at hc
        |true =>
          rw [hb,cond_true] at hc;unfold zl5 at hc;split at hc
          . rename_i s2 hw;cases hc;unfold CS.write at hw;split at hw
            . generalize ((fg _ _ && vs.all oneC):Bool)=bb at hw
              cases bb with
              |true =>
                cases hw;exact .inl ⟨by omega,rfl,ad,had,fun e=>(by cases e),fun y hy=>(by cases hy),fun y hy=>yfg hy⟩
              |false=>cases hw
            . simp at hw
          . simp at hc
      . simp at hc
    . simp at hc
  . rename_i e hop;split at ho
    . rename_i d hd;cases ho;refine .inr ⟨rfl,hd,?_⟩;unfold cop at hc;rw [hop] at hc;simp only at hc;unfold zko at hc;split at hc
      . exact yd4 hc
      . simp at hc
    . simp at ho
  . rename_i e x hop;split at ho
    . rename_i d hd;cases ho;refine .inr ⟨rfl,hd,?_⟩;unfold cop at hc;rw [hop] at hc;exact yd4 hc
    . simp at ho
  . rename_i e l c hop;split at ho
    . rename_i d hd;cases ho;refine .inr ⟨rfl,hd,?_⟩;unfold cop at hc;rw [hop] at hc;simp only at hc;unfold ze3 at hc;split at hc
      . rename_i j l' c' _ _ _
        cases hb:(fg l' c' && fg (c'*(j.bytes+1)) 1000000000 && fb 0 j.size) with
        |false=>rw [hb] at hc;simp at hc
        |true =>
          rw [hb,cond_true] at hc;exact z11 hc
      . simp at hc
    . simp at ho
  . rename_i e n parts hop;split at ho
    . rename_i d hd;cases ho;refine .inr ⟨rfl,hd,?_⟩;unfold cop at hc;rw [hop] at hc;simp only at hc;unfold zce at hc;split at hc
      . rename_i j _
        cases hb:(fg (n*j.size) 16777216 && fb 0 j.size) with
        |false=>rw [hb] at hc;simp at hc
        |true =>
          rw [hb,cond_true] at hc;split at hc
          . exact z11 hc
          . simp at hc
      . simp at hc
    . simp at ho
  . simp at ho
theorem zv3 {ops:List Oper}:∀ {l:List Oper} {fr fr':Fr} {s s':CS} {L:List Lg},drawC P Γ call ops l fr s=some (L,fr',s')->fr.nt<=512->zfa fr.nt l=true->∀ (j:Nat) (o:Oper) (x:Lg) (w:Nat) (a:Nat),l[j]?=some o->L[j]?=some x->lsOf o=some (w,a)->zk5 w a o (l.drop (j+1))=true->ybx fr' w a x
  |[],fr,fr',s,s',L,hc,_,_,j,o,x,w,a,hj,_,_,_=>by simp at hj
  |o :: l,fr,fr',s,s',L,hc,h5,hdo,j,o',x,w,a,hj,hx,ho,hn=>by
    have hc0:=hc;simp only [drawC] at hc;split at hc
    . rename_i fr1 t h1;split at hc
      . rename_i logs fr2 s2 h2;cases hc
        have hfr:∃ v,fr1=putC fr o.dst v:=by
          unfold zcj at h1
          cases hw:zc4 ops fr o with
          |false =>
            rw [hw] at h1;simp only [cond_false,dp,du] at h1;exact ⟨_,h1.1.symm⟩
          |true =>
            rw [hw,cond_true] at h1;split at h1
            . cases h1;exact ⟨_,rfl⟩
            . simp at h1
        have hnt:fr1.nt=fr.nt:=by obtain ⟨v,rfl⟩:=hfr;exact zuw _ _ _
        unfold zfa at hdo;rw [ii,dr] at hdo
        cases j with
        |zero =>
          simp only [fl,dp] at hj hx;subst hj;subst hx;unfold zk5 at hn;simp only [dr,jm] at hn;obtain ⟨hn1,hn2⟩:=hn;have hg1:=zq0 h2 (by rw [hnt];exact h5) (show zi4 a l=true by simpa using hn1);unfold zcj at h1
          cases hw:zc4 ops fr o with
          |false =>
            rw [hw] at h1;simp only [cond_false,dp,du] at h1;rw [<- h1.2];exact .inl ⟨rfl,rfl,rfl⟩
          |true =>
            rw [hw,cond_true] at h1;split at h1
            . rename_i v s1 hcop;cases h1;rcases ypw ho hcop with ⟨q0,q1,ad,q2,q3,q4,q5⟩|⟨q0,q1,q2,q3,q4,ad,q5,q6⟩
              . have hn3:zi4 a [o]=true:=by
                  rcases hn2 with q|q
                  . have:=dx q;omega
                  . exact q
                have e:(putC fr o.dst v).get a=fr.get a:=z0r h5 (by unfold zi4 at hn3;rw [ii,dr] at hn3;exact hn3.1);refine .inr ⟨ad,.inl (by rw [hg1,e];exact q2),q4,q5,.inl q1.symm,q3,fun _=>q1.symm⟩
              . subst q0
                have e:(putC fr o.dst v).get a=v:=by
                  rw [q1];refine pd v ?_ h5;have:=hdo.1;rw [q1] at this;exact zac.1 this
                refine .inr ⟨ad,by rw [hg1,e];exact q5,fun y hy=>?_,fun y hy=>?_,.inr ⟨q4,q6.symm⟩,fun h=>(by cases h),fun h=>by omega⟩
                . simp only [q2] at hy;cases hy
                . simp only [q3] at hy;cases hy
            . simp at h1
        |succ j=>exact zv3 h2 (by rw [hnt];exact h5) (by rw [hnt];exact hdo.2) j o' x w a (by simpa using hj) (by simpa using hx) ho (by simpa using hn)
      . simp at hc
    . simp at hc
theorem yn0 {o:Oper} {ρ:d8->Value} {s s1:CS} {v:Value} (hm:zm8 Γ o=true) (hc:cop P Γ call ρ o s=some (v,s1)):s1=s:=by
  unfold zm8 at hm;split at hm
  . rename_i args ts hop;unfold cop at hc;rw [hop] at hc;simp only at hc;unfold zfv at hc;simp only at hc;split at hc
    . rename_i x t _ hts;rw [hts] at hm;simp only at hm;unfold zmk at hc;split at hc
      . rename_i i hi;rw [hi] at hm;simp only at hm;split at hc
        . cases hc;rfl
        . cases hc;rfl
        . cases hc;rfl
        . cases hc;rfl
        . rename_i hd _;rw [hd] at hm;simp at hm
        . simp at hc
      . simp at hc
    . simp at hc
  . rename_i args ts hop;unfold cop at hc;rw [hop] at hc;exact zlb hc
  . rename_i args ts hop;unfold cop at hc;rw [hop] at hc;exact zlb hc
  . simp at hm
theorem zne {ops:List Oper}:∀ {l:List Oper} {fr fr':Fr} {s s':CS} {L:List Lg},drawC P Γ call ops l fr s=some (L,fr',s')->∀ (j:Nat) (o:Oper) (x:Lg),l[j]?=some o->L[j]?=some x->zm8 Γ o=true->x.rd=[]/\x.wr=[]/\x.lo=x.hi
  |[],fr,fr',s,s',L,hc,j,o,x,hj,_,_=>by simp at hj
  |o :: l,fr,fr',s,s',L,hc,j,o',x,hj,hx,hm=>by
    simp only [drawC] at hc;split at hc
    . rename_i fr1 t h1;split at hc
      . rename_i logs fr2 s2 h2;cases hc
        cases j with
        |zero =>
          simp only [fl,dp] at hj hx;subst hj;subst hx;unfold zcj at h1
          cases hw:zc4 ops fr o with
          |false =>
            rw [hw] at h1;simp only [cond_false,dp,du] at h1;rw [<- h1.2];exact ⟨rfl,rfl,rfl⟩
          |true =>
            rw [hw,cond_true] at h1;split at h1
            . rename_i v s1 hcop;cases h1;rw [yn0 hm hcop];exact ⟨rfl,rfl,rfl⟩
            . simp at h1
        |succ j=>exact zne h2 j o' x (by simpa using hj) (by simpa using hx) hm
      . simp at hc
    . simp at hc
def FamOf (A:Nat->Prop) (β:Bx) (f:Nat):Option Nat->Prop
  |some b=>∃ u N',β b=some (.live f u N')
  |none=>A f
theorem z1g {S:TS} {s:CS} {fr:Fr} (hF:FrOk A β (zaa s.obj) N h fr) (hT:TRel GL A β S s) {a:Nat} {b:Option Nat} (k:adr1 S (h a) b) {ad:Addr} (e:IsAd (fr.get a) ad):FamOf A β ad.block b:=by
  have hv:=hF.slot a;generalize fr.get a=v at hv e;generalize h a=t at hv k
  cases b with
  |none =>
    cases t with
    |cp l=>cases hv with|cp q1 q2 q3=>(rcases e with e|⟨n,c,e⟩<;>cases e);exact q1
    |tup l=>cases l<;>exact k.elim
    |_=>exact k.elim
  |some c =>
    cases t with
    |ptr b' off N' =>
      obtain ⟨rfl,k2⟩:=k;obtain ⟨z,l,hS⟩:=TS.has_ok k2;obtain ⟨f,u,q1,q2⟩:=zjt hT hS hv;subst q1;rcases e with e|⟨n,c,e⟩<;>cases e;exact ⟨u,N',q2⟩
    |arr b' e' off len cap N' =>
      obtain ⟨rfl,k2⟩:=k;obtain ⟨z,l,hS⟩:=TS.has_ok k2;rcases zf1 hT hS hv with ⟨f,u,q1,q2,_⟩|⟨q1,_⟩
      . subst q1;rcases e with e|⟨n,c,e⟩<;>cases e;exact ⟨u,N',q2⟩
      . subst q1
        rcases e with e|⟨n,c,e⟩<;>cases e
    |tup l =>
      cases l with
      |nil =>
        cases hv with
        |tup q=>cases q;rcases e with e|⟨n,c,e⟩<;>cases e
      |cons x l=>exact k.elim
    |_=>exact k.elim
theorem ynt {S:TS} {s:CS} {fr:Fr} (hF:FrOk A β (zaa s.obj) N h fr) (hT:TRel GL A β S s) {a1 a2:Nat} {b1 b2:Option Nat} {w1 w2:Nat} {x y:Lg} (k1:adr1 S (h a1) b1) (k2:adr1 S (h a2) b2) (hw:w2<=1) (hne:(w1=0/\w2=0)\/yek b1 b2=true) (z1:ybx fr w1 a1 x) (z2:ybx fr w2 a2 y):clash x y=false:=by
  obtain ⟨rx,wx,lo,hi⟩:=x;obtain ⟨ry,wy,lo',hi'⟩:=y;simp only [ybx] at z1 z2;rcases z1 with ⟨p1,p2,p3⟩|⟨ad1,p1,p2,p3,p4,p5,p6⟩
  . exact zh2 p1 p2 p3
  rcases z2 with ⟨q1,q2,_⟩|⟨ad2,q1,q2,q3,q4,q5,q6⟩
  . exact zg4 q1 q2
  have g1:=z1g hF hT k1 p1;have g2:=z1g hF hT k2 q1;rcases hne with ⟨rfl,rfl⟩|hne
  . have e1:=p5 rfl;have e2:=q5 rfl;have e3:=p6 (by omega);subst e1;subst e2;subst e3;exact zgv (fun f hf=>by cases hf) (fun f _=>by simp) (fun f _=>by omega) (fun f hf=>by cases hf)
  . have hb:ad1.block≠ad2.block:=by
      intro hb
      cases b1 with
      |none =>
        cases b2 with
        |none=>simp [yek] at hne
        |some b2 =>
          obtain ⟨u,M,g2⟩:=g2;exact (hT.dis ad2.block ⟨b2,.inl ⟨u,M,g2⟩⟩).2 (hb ▸ g1)
      |some b1 =>
        obtain ⟨u1,M1,g1⟩:=g1
        cases b2 with
        |none=>exact (hT.dis ad1.block ⟨b1,.inl ⟨u1,M1,g1⟩⟩).2 (hb ▸ g2)
        |some b2 =>
          obtain ⟨u2,M2,g2⟩:=g2;have:=hT.inj b1 b2 _ _ ad1.block g1 g2 rfl (by rw [hb];rfl);subst this;simp [yek] at hne
    refine zgv (fun f hf=>⟨fun hf2=>?_,fun hf2=>?_⟩) (fun f hf hf2=>?_) (fun f hf=>?_) (fun f hf=>?_)
    . exact hb ((p3 f hf).symm.trans (q2 f hf2))
    . exact hb ((p3 f hf).symm.trans (q3 f hf2))
    . exact hb ((p2 f hf).symm.trans (q3 f hf2))
    . have:=q2 f hf;rcases p4 with p4|⟨p4,p7⟩<;>omega
    . have:=q3 f hf;rcases p4 with p4|⟨p4,p7⟩<;>omega
theorem TW.drawS (hE:zcv P Γ) {id:Nat} {ops:Array Oper} {Q:Exit->(Nat->T)->TS->Prop} (k:Nat) (bx:List (Nat×Option Nat)) (outsP:List T) (own:List Nat) (outs:List (T×TS)) {h1:Nat->T} {ob1 ob2:Prop} (hd:zfa N ops.toList=true) (hoS:zv4 Γ k bx ops.toList=true)
    (hp:runP P Γ GL ops.toList (ops.toList.take k) h S outsP=some (ob1,h1)) (hob1:ob1) (hr:runT P Γ GL own ops.toList (ops.toList.drop k) h1 S outs=some (ob2,h',S')) (hob2:ob2) (hbx:zzk bx h' S') (hq:Q .normal h' S'):TW P Γ GL N (.region id ops true) h S Q:=fun A β fr s hF hT=>by
  have hok:ziu ops.toList.length ops.toList=true:=by
    unfold zv4 at hoS;simp only [dr] at hoS;exact hoS.1
  have hsplit:ops.toList=ops.toList.take k++ops.toList.drop k:=(iq k _).symm
  have hdd:zfa N (ops.toList.take k)=true/\zfa N (ops.toList.drop k)=true:=by
    unfold zfa at hd ⊢;rw [hsplit,List.all_append,dr] at hd;exact hd
  have I0:zq6 GL ops.toList A β S s N [] h fr s:=by
    refine ⟨hF.nt,hF.le,hT,fun t=>⟨0,(hF.slot t).mono (fun f hf=>.inl hf) (fun _ _=>rfl) (ip _),fun j o _ _ _ m hm=>by simp at hm⟩,fun k x hx=>by simp at hx,fun k m x y _ hx=>by simp at hx,fun f hf=>(hT.dis f hf).1,hT.alt,?_,hT.le⟩;exact ⟨Can.refl _,fun _ h=>h,fun _ h=>.inl h,fun _ _=>rfl,fun _ h=>.inl h,fun _ h=>h⟩
  obtain ⟨M1,fr1,s1,d1,I1,m1⟩:=z78 hE hok I0 (fun j o hj=>by
    rw [gh,fz];rw [kx] at hj;split at hj
    . exact hj
    . simp at hj) hdd.1 hp hob1
  rw [ff] at I1
  -- behind the first part all may lean on all
  let D:Nat:=2 ^ M1.length - 1
  have hDall:∀ m,m<M1.length->ft D m=true:=fun m hm=>by
    show ft (2 ^ M1.length - 1) m=true;rw [i7];exact zAa hm
  have hT1:TRel GL (SupL A M1 D) β S s1:=by
    refine I1.rel.more _ (fun f hf=>.inl hf) (fun f hf=>?_) (fun f hf ho=>?_)
    . rcases hf with q|⟨m,x,_,q2,_,q4⟩
      . exact I1.rel.alt f q
      . have:=(I1.log m x q2).2.2.1;omega
    . rcases hf with q|⟨m,x,_,q2,q3,q4⟩
      . exact (I1.rel.dis f ho).2 q
      . have:=(I1.log m x q2).1;have:=I1.own f ho;omega
  have hF1:FrOk (SupL A M1 D) β (zaa s1.obj) N h1 fr1:=⟨I1.nt,I1.le,fun t=>by
    obtain ⟨E,e1,_⟩:=I1.slot t
    exact e1.mono (fun f hf=>SupL.sub (fun m hm _=>hDall m hm) hf) (fun _ _=>rfl) (ip _)⟩
  have hS1:Stp A β s (SupL A M1 D) β s1:=by
    refine ⟨I1.calm.can,fun f hf=>.inl hf,fun f hf=>?_,fun f hf=>.inl hf,fun f hf _=>I1.calm.keep f hf,ip _,I1.calm.rd,fun x hx=>.inl (I1.calm.wr x hx)⟩;rcases hf with q|⟨m,x,_,q2,q3,_⟩
    . exact .inl q
    . have:=(I1.log m x q2).1;exact .inr (.inl (by omega))
  obtain ⟨M2,fr2,s2,d2,L2⟩:=z0c hE hdd.2 hF1 hT1 hr hob2;have hdraw:=zkb d1 d2;rw [<- hsplit] at hdraw;obtain ⟨f1,f2⟩:=ztn hdraw;have L2':=L2;obtain ⟨A2,β2,hF2,hT2,_⟩:=L2';refine W.draw hdraw ?_ ⟨h',S',mb (h':=h) (fr':=fr) hT.le hS1 L2,hq⟩;refine z09 rfl (zn8 fun i j x y hij _ hx hy=>?_);simp only [ff] at hx hy;have hjl:j<ops.toList.length:=by rw [<- f1];exact (d9.1 hy).1
  have ho1:ops.toList[i]?=some (ops.toList[i]'(by omega)):=dv _;have ho2:ops.toList[j]?=some (ops.toList[j]'hjl):=dv _;by_cases hkj:k<=j
  . rcases z36 hoS hij hkj ho1 ho2 with q|q|q|q|q|q
    . exact .inl q
    . obtain ⟨a,b,c⟩:=(f2 i _ x ho1 hx).1 q;exact .inr (zh2 a b c)
    . obtain ⟨a,b⟩:=(f2 j _ y ho2 hy).2 q;exact .inr (zg4 a b)
    . obtain ⟨a,b,c⟩:=zne hdraw i _ x ho1 hx q;exact .inr (zh2 a b c)
    . obtain ⟨a,b,c⟩:=zne hdraw j _ y ho2 hy q;exact .inr (zg4 a b)
    . obtain ⟨w1,a1,b1,w2,a2,b2,g1,g2,g3,g4,g5,g6,g7,g8⟩:=yja q;have z1:=zv3 hdraw (by rw [hF.nt];exact hF.le) (by rw [hF.nt];exact hd) i _ x w1 a1 ho1 hx g1 g2;have z2:=zv3 hdraw (by rw [hF.nt];exact hF.le) (by rw [hF.nt];exact hd) j _ y w2 a2 ho2 hy g4 g5;exact .inr (ynt hF2 hT2 (z1h hbx g3) (z1h hbx g6) g7 g8 z1 z2)
  . have hjM:j<M1.length:=by rw [m1,fi];omega
    rw [eu (by omega)] at hx;rw [eu hjM] at hy;by_cases hbit:ft (nth 0 (zdq ops.toList []) j) i=true
    . exact .inl hbit
    . right;obtain ⟨x1,x2,x3,x4,x5⟩:=I1.log i x hx;obtain ⟨y1,y2,y3,y4,y5⟩:=I1.log j y hy;obtain ⟨rx,wx,lo,hi⟩:=x;obtain ⟨ry,wy,lo',hi'⟩:=y;simp only at x1 x2 x3 x4 x5 y1 y2 y3 y4 y5;subst x4;subst y4;refine zgv (fun f hf=>by simp at hf) (fun f _=>by simp) (fun f hf=>?_) (fun f hf=>by simp at hf);obtain ⟨g1,g2⟩:=y5 f hf;rcases g2 with (g2|⟨m,z,g3,g4,g5,g6⟩)|g2
      . have:=I1.base f g2;omega
      . by_cases hmi:m=i
        . subst hmi;exact absurd g3 hbit
        . by_cases hlt:m<i
          . have:=I1.apart m i z _ hlt g4 hx;simp only at this;omega
          . have:=I1.apart i m _ z (by omega) hx g4;simp only at this;omega
      . have:=I1.own f g2;omega
end
section
variable {GL:List (Nat×List Value)} {A A' A2:Nat->Prop} {β β' β2:Bx} {S S' S2:TS} {s s' s2:CS} {P:ep} {Γ:Env} {N:Nat} {h h' h2:Nat->T} {Q R:Exit->(Nat->T)->TS->Prop}
theorem z5w (hE:zcv P Γ) {own:List Nat} {ops:List Oper} {N:Nat}:∀ {l:List Oper} {h h':Nat->T} {S S':TS} {outs:List (T×TS)} {ob:Prop} {A:Nat->Prop} {β:Bx} {fr:Fr} {s:CS},zfa N l=true->FrOk A β (zaa s.obj) N h fr->TRel GL A β S s->runT P Γ GL own ops l h S outs=some (ob,h',S')->ob ->
    ∃ M fr' s',drawC P Γ (zem P Γ) ops l fr s=some (M,fr',s')/\Left GL A β s N fr' s' h' S'/\∀ x,x∈M->s.n<=x.lo/\∀ f,f∈x.wr->Own β f\/s.n<=f
  |[],h,h',S,S',outs,ob,A,β,fr,s,hd,hF,hT,hr,hob=>by
    simp only [runT,dp,du] at hr;obtain ⟨rfl,rfl,rfl⟩:=hr;exact ⟨[],fr,s,rfl,⟨A,β,hF,hT,Stp.refl⟩,fun x hx=>by simp at hx⟩
  |o :: l,h,h',S,S',outs,ob,A,β,fr,s,hd,hF,hT,hr,hob=>by
    have hd':zfa N l=true/\∀ t,o.dst=some t->t<N:=by
      unfold zfa at hd ⊢;rw [ii,dr] at hd;refine ⟨hd.2,fun t ht=>?_⟩;have:=hd.1;rw [ht] at this;exact zac.1 this
    have hTi:=hT.inner
    have go:∀ {t:T} {S1:TS} {r:Option (Value×CS)} {l':List (T×TS)} {ob':Prop},Ok GL A β s.inner r t S1->(cop P Γ (zem P Γ) (zgf fr) o s.inner=r)->zc4 ops fr o=true->runT P Γ GL own ops l (putT h o.dst t) S1 l'=some (ob',h',S')->ob'->∃ M fr' s',drawC P Γ (zem P Γ) ops (o :: l) fr s=some (M,fr',s')/\Left GL A β s N fr' s' h' S'/\∀ x,x∈M->s.n<=x.lo/\∀ f,f∈x.wr->Own β f\/s.n<=f:=by
      rintro t S1 r l' ob' ⟨v,s1,A1,β1,rfl,k1,k2,k3⟩ hc hw hrun hob';have hF1:FrOk A1 β1 (zaa s1.obj) N h fr:=hF.mono k3.sub (Stp.old (s:=s.inner) hTi k3) k3.bx;have hS:Stp A β s A1 β1 (s.outer s1):=k3.outer hT.inv;obtain ⟨M,fr',s',e1,e2,e3⟩:=z5w hE hd'.1 (s:=s.outer s1) (hF1.put hd'.2 k2) (k1.outer (i8 hT.le k3.can.n)) hrun hob';refine ⟨⟨s1.rd,s1.wr,s.n,s1.n⟩ :: M,fr',s',?_,mb (h':=h) (fr':=fr) hT.le hS e2,fun x hx=>?_⟩;rotate_left
      . rcases ib.1 hx with rfl|hx
        . refine ⟨dz _,fun f hf=>?_⟩;rcases k3.wr f hf with q|q
          . exact absurd q (by simp [CS.inner])
          . exact .inl q.2
        . refine ⟨i8 hS.can.n (e3 x hx).1,fun f hf=>?_⟩;rcases (e3 x hx).2 f hf with q|q
          . rcases hS.own f q with r|r
            . exact .inl r
            . exact .inr r
          . exact .inr (i8 hS.can.n q)
      rw [drawC]
      have:zcj P Γ (zem P Γ) ops o fr s.inner=some (putC fr o.dst v,s1):=by
        unfold zcj;rw [hw,cond_true,hc]
      rw [this];simp only;rw [e1]
    unfold runT at hr;split at hr
    . simp at hr
    . rename_i hg;have hw:=zii hF hg;have hS:Stp A β s A β (s.outer s.inner):=Stp.outer hT.inv Stp.refl;obtain ⟨M,fr',s',e1,e2,e3⟩:=z5w hE hd'.1 (s:=s.outer s.inner) (hF.put hd'.2 VT.undf) (hTi.outer hT.le) hr hob;refine ⟨⟨[],[],s.n,s.n⟩ :: M,fr',s',?_,mb (h':=h) (fr':=fr) hT.le hS e2,fun x hx=>?_⟩;rotate_left
      . rcases ib.1 hx with rfl|hx
        . exact ⟨dz _,fun f hf=>by simp at hf⟩
        . exact e3 x hx
      rw [drawC]
      have:zcj P Γ (zem P Γ) ops o fr s.inner=some (putC fr o.dst undef,s.inner):=by
        unfold zcj;rw [hw,cond_false]
      rw [this];simp only;rw [e1];rfl
    . rename_i hg;have hw:=zii hF hg;split at hr
      . rename_i f args tys ho;split at hr
        . rename_i r outs';split at hr
          . rename_i p hp;unfold z1b at hp;split at hp
            . rename_i k first cap hf
              simp only [dp] at hp;subst hp
              cases hrun:runT P Γ GL own ops l (putT h o.dst r.1) r.2 outs' with
              |none=>rw [hrun] at hr;simp [andT] at hr
              |some q =>
                obtain ⟨q1,q2,q3⟩:=q;rw [hrun] at hr;simp only [andT,dp,du] at hr;obtain ⟨rfl,rfl,rfl⟩:=hr;have hfv:=hF.eval hT f;rw [hf] at hfv;generalize e1:zgf fr f=vf at hfv
                cases hfv with
                |fn h1 h2 =>
                  rename_i va vc;have hargs:=zwi (hF.eval hT) args.toList;have hcall:=hob.1 A β s.inner _ hTi ((h1.append hargs).append h2);refine go hcall ?_ hw hrun hob.2;unfold cop;simp only [ho,e1];unfold zme;rfl
            . simp at hp
          . simp at hr
        . simp at hr
      . split at hr
        . rename_i t S1 hst;exact go (zzv hE hTi (hF.eval hT) hst) rfl hw hr hob
        . simp at hr
def isCp:T->Prop
  |.cp _=>True
  |_=>False
def yox (h:Nat->T):List Nat->Prop
  |[]=>True
  |a :: l=>isCp (h a)/\yox h l
theorem zv7 {h:Nat->T} {a:Nat}:∀ {l:List Nat},yox h l->a∈l->∃ m,h a=.cp m
  |[],_,ha=>by simp at ha
  |b :: l,k,ha=>by
    rcases ib.1 ha with rfl|ha
    . have:=k.1;unfold isCp at this;split at this
      . next m e=>exact ⟨m,e⟩
      . exact this.elim
    . exact zv7 k.2 ha
noncomputable def zv1 (cs:List Nat) (a:Nat) (all:List Oper):List Oper->Bool
  |[]=>false
  |o :: l=>match o.dst with
    |some d=>bif d7 d a then (match o.op with|.fieldAddr _ (.tmp b) _=>cs.any (d7 b) && (zi4 b all && zi4 a l)|_=>false)
      else (match lsOf o with|some (_,c)=>!(d7 c a)|none=>true) && zv1 cs a all l
    |none=>(match lsOf o with|some (_,c)=>!(d7 c a)|none=>true) && zv1 cs a all l
noncomputable def z9r (cs:List Nat) (all:List Oper) (o:Oper):Bool:=match lsOf o with
  |some (0,a)=>(cs.any (d7 a) && zi4 a all) || zv1 cs a all all
  |_=>false
noncomputable def z8p (Γ:Env) (cs:List Nat) (all:List Oper) (x y:Bool×Oper×Option (Nat×Option Nat)):Bool:=y.1 && !(ziq x.2.1.op || (zi2 y.2.1.op || (zm8 Γ x.2.1 || (zm8 Γ y.2.1 || (z9r cs all x.2.1 || z9r cs all y.2.1)))))
noncomputable def z00 (Γ:Env) (k:Nat) (cs:List Nat) (ops:List Oper):Bool:=ziu ops.length ops && zgh (z8p Γ cs ops) [] (tagS [] k ops) (zdq ops [])
theorem yc2 {a:Nat} {all:List Oper} {i:Nat} {o:Oper} (h:zi4 a all=true) (ho:all[i]?=some o):zk5 0 a o (all.drop (i+1))=true:=by
  unfold zk5;unfold zi4 at h ⊢;rw [ez] at h;rw [dr,jm];refine ⟨ez.2 fun x hx=>h x (ki hx),.inr ?_⟩;rw [ii,List.all_nil,Bool.and_true];exact h o (gi ho)
def FaAt (a b:Nat) (all:List Oper):Prop:=∃ (i0:Nat) (o0:Oper) (ty:ed) (k:Nat),all[i0]?=some o0/\o0.op=.fieldAddr ty (.tmp b) k/\o0.dst=some a/\zi4 a (all.drop (i0+1))=true
theorem yhm {cs:List Nat} {a:Nat} (h:cs.any (d7 a)=true):a∈cs:=by
  obtain ⟨b,hb,hab⟩:=List.any_eq_true.1 h;have:a=b:=dx hab;subst this;exact hb
theorem zyz {cs:List Nat} {a:Nat} {all:List Oper}:∀ {l:List Oper},zv1 cs a all l=true->∃ b i0 o0 ty k,b∈cs/\zi4 b all=true/\l[i0]?=some o0/\o0.op=.fieldAddr ty (.tmp b) k/\o0.dst=some a/\zi4 a (l.drop (i0+1))=true/\∀ i o w,l[i]?=some o->lsOf o=some (w,a)->i0<i
  |[],h=>by simp [zv1] at h
  |o :: l,h=>by
    have next:(match lsOf o with|some (_,c)=>!(d7 c a)|none=>true)=true->zv1 cs a all l=true->∃ b i0 o0 ty k,b∈cs/\zi4 b all=true/\(o :: l)[i0]?=some o0/\o0.op=.fieldAddr ty (.tmp b) k/\o0.dst=some a/\zi4 a ((o :: l).drop (i0+1))=true/\∀ i o' w,(o :: l)[i]?=some o'->lsOf o'=some (w,a)->i0<i:=by
      intro h1 h2;obtain ⟨b,i0,o0,ty,k,q1,q2,q3,q4,q5,q6,q7⟩:=zyz h2;refine ⟨b,i0+1,o0,ty,k,q1,q2,by simpa using q3,q4,q5,by simpa using q6,fun i o' w hi hw=>?_⟩
      cases i with
      |zero =>
        simp only [fl,dp] at hi;subst hi;rw [hw] at h1
        simp at h1
      |succ i=>have:=q7 i o' w (by simpa using hi) hw;omega
    rw [zv1] at h
    cases hd:o.dst with
    |none =>
      rw [hd] at h;simp only [dr] at h
      exact next h.1 h.2
    |some d =>
      rw [hd] at h;simp only at h
      cases hb:d7 d a with
      |false =>
        rw [hb,cond_false,dr] at h
        exact next h.1 h.2
      |true =>
        rw [hb,cond_true] at h;have:=dx hb;subst this;split at h
        . next ty b k e =>
          simp only [dr] at h;refine ⟨b,0,o,ty,k,yhm h.1,h.2.1,rfl,e,hd,by simpa using h.2.2,fun i o' w hi hw=>?_⟩
          cases i with
          |zero =>
            simp only [fl,dp] at hi;subst hi;unfold lsOf at hw;rw [e] at hw
            simp at hw
          |succ i=>omega
        . simp at h
theorem zzb {cs:List Nat} {all:List Oper} {o:Oper} (h:z9r cs all o=true) {i:Nat} (ho:all[i]?=some o):∃ a b,lsOf o=some (0,a)/\b∈cs/\zi4 b all=true/\zk5 0 a o (all.drop (i+1))=true/\(a=b\/FaAt a b all):=by
  unfold z9r at h;split at h
  . next a e =>
    rw [jm,dr] at h;rcases h with h|h
    . exact ⟨a,a,e,yhm h.1,h.2,yc2 h.2 ho,.inl rfl⟩
    . obtain ⟨b,i0,o0,ty,k,q1,q2,q3,q4,q5,q6,q7⟩:=zyz h;have hlt:=q7 i o 0 ho e;refine ⟨a,b,e,q1,q2,?_,.inr ⟨i0,o0,ty,k,q3,q4,q5,q6⟩⟩;unfold zk5;unfold zi4 at q6 ⊢;rw [ez] at q6;rw [dr,jm];refine ⟨ez.2 fun x hx=>q6 x ?_,.inr ?_⟩
      . have:all.drop (i+1)=(all.drop (i0+1)).drop (i - i0):=by rw [List.drop_drop];congr 1;omega
        rw [this] at hx;exact ki hx
      . rw [ii,List.all_nil,Bool.and_true];refine q6 o ?_;have:(all.drop (i0+1))[i - (i0+1)]?=some o:=by rw [jk,<- ho];congr 1;omega
        exact gi this
  . simp at h
theorem z6k {ops:List Oper} {a b:Nat}:∀ {l:List Oper} {fr fr':Fr} {s s':CS} {L:List Lg} {call:zc1},drawC P Γ call ops l fr s=some (L,fr',s')->fr.nt<=512->zfa fr.nt l=true->zi4 b l=true->FaAt a b l->∀ {ad:Addr},IsAd (fr'.get a) ad->∃ ad0,IsAd (fr.get b) ad0/\ad0.block=ad.block
  |[],fr,fr',s,s',L,call,hc,_,_,_,⟨i0,o0,ty,k,q,_⟩,_,_=>by simp at q
  |o :: l,fr,fr',s,s',L,call,hc,h5,hdo,hn,⟨i0,o0,ty,k,q3,q4,q5,q6⟩,ad,had=>by
    simp only [drawC] at hc;have hn':=hn;unfold zi4 at hn;rw [ii,dr] at hn;unfold zfa at hdo;rw [ii,dr] at hdo;split at hc
    . rename_i fr1 t h1;split at hc
      . rename_i logs fr2 s2 h2;cases hc
        have hfr:∃ v,fr1=putC fr o.dst v:=by
          unfold zcj at h1
          cases hw:zc4 ops fr o with
          |false =>
            rw [hw] at h1;simp only [cond_false,dp,du] at h1;exact ⟨_,h1.1.symm⟩
          |true =>
            rw [hw,cond_true] at h1;split at h1
            . cases h1;exact ⟨_,rfl⟩
            . simp at h1
        have hnt:fr1.nt=fr.nt:=by obtain ⟨v,rfl⟩:=hfr;exact zuw _ _ _
        cases i0 with
        |succ i0 =>
          obtain ⟨ad0,k1,k2⟩:=z6k h2 (by rw [hnt];exact h5) (by rw [hnt];exact hdo.2) hn.2 ⟨i0,o0,ty,k,by simpa using q3,q4,q5,by simpa using q6⟩ had;obtain ⟨v,rfl⟩:=hfr;rw [z0r h5 hn.1] at k1;exact ⟨ad0,k1,k2⟩
        |zero =>
          simp only [fl,dp] at q3;subst q3;rw [zq0 h2 (by rw [hnt];exact h5) (show zi4 a l=true by simpa using q6)] at had;unfold zcj at h1;rw [q5] at h1 hdo;have hlt:a<fr.nt:=zac.1 hdo.1
          cases hw:zc4 ops fr o with
          |false =>
            rw [hw] at h1;simp only [cond_false,dp,du] at h1;rw [<- h1.1] at had;change IsAd ((fr.put a undef).get a) ad at had;rw [pd _ hlt h5] at had
            rcases had with e|⟨_,_,e⟩<;>cases e
          |true =>
            rw [hw,cond_true] at h1;split at h1
            . rename_i v t2 hcop;cases h1;change IsAd ((fr.put a v).get a) ad at had;rw [pd _ hlt h5] at had;unfold cop at hcop;rw [q4] at hcop;simp only at hcop;change zc7 Γ _ ty k (fr.get b)=_ at hcop;unfold zc7 at hcop;split at hcop
              . rename_i a0 hv0;split at hcop
                . split at hcop
                  . split at hcop
                    . rename_i off size _
                      cases hz:d7 size 0 with
                      |true=>rw [hz] at hcop;simp at hcop
                      |false =>
                        rw [hz] at hcop;simp only [cond_false,dp,du] at hcop;refine ⟨a0,.inl hv0,?_⟩;rw [<- hcop.1] at had;rcases had with e|⟨_,_,e⟩
                        . cases e;rfl
                        . cases e
                    . simp at hcop
                  . simp at hcop
                . simp at hcop
              . simp at hcop
            . simp at h1
      . simp at hc
    . simp at hc
theorem z37 {Γ:Env} {k:Nat} {cs:List Nat} {ops:List Oper} (hd:z00 Γ k cs ops=true) {i j:Nat} {x y:Oper} (hij:i<j) (hkj:k<=j) (hx:ops[i]?=some x) (hy:ops[j]?=some y):ft (nth 0 (zdq ops []) j) i=true\/ziq x.op=true\/zi2 y.op=true\/zm8 Γ x=true\/zm8 Γ y=true\/(∃ a b,lsOf x=some (0,a)/\b∈cs/\zi4 b ops=true/\zk5 0 a x (ops.drop (i+1))=true/\(a=b\/FaAt a b ops))\/(∃ a b,lsOf y=some (0,a)/\b∈cs/\zi4 b ops=true/\zk5 0 a y (ops.drop (j+1))=true/\(a=b\/FaAt a b ops)):=by
  unfold z00 at hd;simp only [dr] at hd;rcases zf0 hd.2 i j _ _ hij (fw _) (by simpa using znn hx) (by simpa using znn hy) with q|q
  . exact .inl q
  . unfold z8p at q;rw [zAa hkj] at q;simp only [Bool.true_and,nc,jm] at q;rcases q with q|q|q|q|q|q
    . exact .inr (.inl q)
    . exact .inr (.inr (.inl q))
    . exact .inr (.inr (.inr (.inl q)))
    . exact .inr (.inr (.inr (.inr (.inl q))))
    . exact .inr (.inr (.inr (.inr (.inr (.inl (zzb q hx))))))
    . exact .inr (.inr (.inr (.inr (.inr (.inr (zzb q hy))))))
theorem TW.drawC (hE:zcv P Γ) {id:Nat} {ops:Array Oper} {Q:Exit->(Nat->T)->TS->Prop} (k:Nat) (cs:List Nat) (outsP:List T) (own:List Nat) (outs:List (T×TS)) {h1:Nat->T} {ob1 ob2:Prop} (hd:zfa N ops.toList=true) (hoS:z00 Γ k cs ops.toList=true)
    (hp:runP P Γ GL ops.toList (ops.toList.take k) h S outsP=some (ob1,h1)) (hob1:ob1) (hr:runT P Γ GL own ops.toList (ops.toList.drop k) h1 S outs=some (ob2,h',S')) (hob2:ob2) (hcs:yox h cs) (hq:Q .normal h' S'):TW P Γ GL N (.region id ops true) h S Q:=fun A β fr s hF hT=>by
  have hok:ziu ops.toList.length ops.toList=true:=by
    unfold z00 at hoS;simp only [dr] at hoS;exact hoS.1
  have hsplit:ops.toList=ops.toList.take k++ops.toList.drop k:=(iq k _).symm
  have hdd:zfa N (ops.toList.take k)=true/\zfa N (ops.toList.drop k)=true:=by
    unfold zfa at hd ⊢;rw [hsplit,List.all_append,dr] at hd;exact hd
  have I0:zq6 GL ops.toList A β S s N [] h fr s:=by
    refine ⟨hF.nt,hF.le,hT,fun t=>⟨0,(hF.slot t).mono (fun f hf=>.inl hf) (fun _ _=>rfl) (ip _),fun j o _ _ _ m hm=>by simp at hm⟩,fun k x hx=>by simp at hx,fun k m x y _ hx=>by simp at hx,fun f hf=>(hT.dis f hf).1,hT.alt,?_,hT.le⟩;exact ⟨Can.refl _,fun _ h=>h,fun _ h=>.inl h,fun _ _=>rfl,fun _ h=>.inl h,fun _ h=>h⟩
  obtain ⟨M1,fr1,s1,d1,I1,m1⟩:=z78 hE hok I0 (fun j o hj=>by
    rw [gh,fz];rw [kx] at hj;split at hj
    . exact hj
    . simp at hj) hdd.1 hp hob1
  rw [ff] at I1
  -- behind the first part all may lean on all
  let D:Nat:=2 ^ M1.length - 1
  have hDall:∀ m,m<M1.length->ft D m=true:=fun m hm=>by
    show ft (2 ^ M1.length - 1) m=true;rw [i7];exact zAa hm
  have hT1:TRel GL (SupL A M1 D) β S s1:=by
    refine I1.rel.more _ (fun f hf=>.inl hf) (fun f hf=>?_) (fun f hf ho=>?_)
    . rcases hf with q|⟨m,x,_,q2,_,q4⟩
      . exact I1.rel.alt f q
      . have:=(I1.log m x q2).2.2.1;omega
    . rcases hf with q|⟨m,x,_,q2,q3,q4⟩
      . exact (I1.rel.dis f ho).2 q
      . have:=(I1.log m x q2).1;have:=I1.own f ho;omega
  have hF1:FrOk (SupL A M1 D) β (zaa s1.obj) N h1 fr1:=⟨I1.nt,I1.le,fun t=>by
    obtain ⟨E,e1,_⟩:=I1.slot t
    exact e1.mono (fun f hf=>SupL.sub (fun m hm _=>hDall m hm) hf) (fun _ _=>rfl) (ip _)⟩
  have hS1:Stp A β s (SupL A M1 D) β s1:=by
    refine ⟨I1.calm.can,fun f hf=>.inl hf,fun f hf=>?_,fun f hf=>.inl hf,fun f hf _=>I1.calm.keep f hf,ip _,I1.calm.rd,fun x hx=>.inl (I1.calm.wr x hx)⟩;rcases hf with q|⟨m,x,_,q2,q3,_⟩
    . exact .inl q
    . have:=(I1.log m x q2).1;exact .inr (.inl (by omega))
  obtain ⟨M2,fr2,s2,d2,L2,W2⟩:=z5w hE hdd.2 hF1 hT1 hr hob2;have hdraw:=zkb d1 d2;rw [<- hsplit] at hdraw;obtain ⟨f1,f2⟩:=ztn hdraw;have L2':=L2;obtain ⟨A2,β2,hF2,hT2,_⟩:=L2';refine W.draw hdraw ?_ ⟨h',S',mb (h':=h) (fr':=fr) hT.le hS1 L2,hq⟩;refine z09 rfl (zn8 fun i j x y hij _ hx hy=>?_);simp only [ff] at hx hy;have hjl:j<ops.toList.length:=by rw [<- f1];exact (d9.1 hy).1
  have ho1:ops.toList[i]?=some (ops.toList[i]'(by omega)):=dv _;have ho2:ops.toList[j]?=some (ops.toList[j]'hjl):=dv _;by_cases hkj:k<=j
  . rcases z37 hoS hij hkj ho1 ho2 with q|q|q|q|q|⟨a1,b1,q1,q2,q3,q4,q5⟩|⟨a1,b1,q1,q2,q3,q4,q5⟩
    . exact .inl q
    . obtain ⟨a,b,c⟩:=(f2 i _ x ho1 hx).1 q;exact .inr (zh2 a b c)
    . obtain ⟨a,b⟩:=(f2 j _ y ho2 hy).2 q;exact .inr (zg4 a b)
    . obtain ⟨a,b,c⟩:=zne hdraw i _ x ho1 hx q;exact .inr (zh2 a b c)
    . obtain ⟨a,b,c⟩:=zne hdraw j _ y ho2 hy q;exact .inr (zg4 a b)
    . have z1:=zv3 hdraw (by rw [hF.nt];exact hF.le) (by rw [hF.nt];exact hd) i _ x 0 a1 ho1 hx q1 q4
      have hyM:y∈M2:=by
        have hm1:M1.length<=j:=by rw [m1,fi];omega
        rw [fq hm1] at hy;exact gi hy
      have ga:∀ {ad:Addr},IsAd (fr2.get a1) ad->∃ ad0,IsAd (fr.get b1) ad0/\ad0.block=ad.block:=by
        intro ad had;rcases q5 with rfl|q5
        . rw [zq0 hdraw (by rw [hF.nt];exact hF.le) q3] at had;exact ⟨ad,had,rfl⟩
        . exact z6k hdraw (by rw [hF.nt];exact hF.le) (by rw [hF.nt];exact hd) q3 q5 had
      obtain ⟨l,hl⟩:=zv7 hcs q2;obtain ⟨rx,wx,lo,hi⟩:=x;obtain ⟨ry,wy,lo',hi'⟩:=y;simp only [ybx] at z1;rcases z1 with ⟨p1,p2,p3⟩|⟨ad1,p1,p2,p3,p4,p5,p6⟩
      . exact .inr (zh2 p1 p2 p3)
      . obtain ⟨ad0,g1,g2⟩:=ga p1
        have fa:A ad1.block:=by
          rw [<- g2];exact z1g (S:=S) (b:=none) hF hT (by rw [hl];trivial) g1
        have e5:=p5 trivial;have e6:=p6 (by omega);refine .inr (zgv (fun f hf=>by simp [e5] at hf) (fun f hf hw=>?_) (fun f _=>by omega) (fun f _=>by omega));rw [p2 f hf] at hw;rcases (W2 _ hyM).2 _ hw with r|r
        . exact (hT.dis _ r).2 fa
        . have:=hT.alt _ fa;have:=I1.calm.can.n;omega
    . have z1:=zv3 hdraw (by rw [hF.nt];exact hF.le) (by rw [hF.nt];exact hd) j _ y 0 a1 ho2 hy q1 q4
      have ga:∀ {ad:Addr},IsAd (fr2.get a1) ad->∃ ad0,IsAd (fr.get b1) ad0/\ad0.block=ad.block:=by
        intro ad had;rcases q5 with rfl|q5
        . rw [zq0 hdraw (by rw [hF.nt];exact hF.le) q3] at had;exact ⟨ad,had,rfl⟩
        . exact z6k hdraw (by rw [hF.nt];exact hF.le) (by rw [hF.nt];exact hd) q3 q5 had
      obtain ⟨l,hl⟩:=zv7 hcs q2
      have xlo:s.n<=x.lo/\∀ f,f∈x.wr->Own β f\/s.n<=f:=by
        by_cases hi:i<M1.length
        . rw [eu hi] at hx;obtain ⟨x1,_,_,x4,_⟩:=I1.log i x hx;exact ⟨x1,fun f hf=>by rw [x4] at hf;simp at hf⟩
        . rw [fq (by omega)] at hx;have w:=W2 _ (gi hx);have:=I1.calm.can.n;exact ⟨by omega,fun f hf=>(w.2 f hf).imp (fun r=>r) (fun r=>by omega)⟩
      obtain ⟨rx,wx,lo,hi⟩:=x;obtain ⟨ry,wy,lo',hi'⟩:=y;simp only [ybx] at z1;rcases z1 with ⟨p1,p2,p3⟩|⟨ad1,p1,p2,p3,p4,p5,p6⟩
      . exact .inr (zg4 p1 p2)
      . obtain ⟨ad0,g1,g2⟩:=ga p1
        have fa:A ad1.block:=by
          rw [<- g2];exact z1g (S:=S) (b:=none) hF hT (by rw [hl];trivial) g1
        have e5:=p5 trivial;have:=hT.alt _ fa;simp only at xlo;refine .inr (zgv (fun f hf=>⟨fun hr=>?_,fun hw=>by simp [e5] at hw⟩) (fun f hf hw=>by simp [e5] at hw) (fun f hr=>.inl ?_) (fun f hw=>by simp [e5] at hw))
        . rw [p2 f hr] at hf;rcases xlo.2 _ hf with r|r
          . exact (hT.dis _ r).2 fa
          . omega
        . rw [p2 f hr];omega
  . have hjM:j<M1.length:=by rw [m1,fi];omega
    rw [eu (by omega)] at hx;rw [eu hjM] at hy;by_cases hbit:ft (nth 0 (zdq ops.toList []) j) i=true
    . exact .inl hbit
    . right;obtain ⟨x1,x2,x3,x4,x5⟩:=I1.log i x hx;obtain ⟨y1,y2,y3,y4,y5⟩:=I1.log j y hy;obtain ⟨rx,wx,lo,hi⟩:=x;obtain ⟨ry,wy,lo',hi'⟩:=y;simp only at x1 x2 x3 x4 x5 y1 y2 y3 y4 y5;subst x4;subst y4;refine zgv (fun f hf=>by simp at hf) (fun f _=>by simp) (fun f hf=>?_) (fun f hf=>by simp at hf);obtain ⟨g1,g2⟩:=y5 f hf;rcases g2 with (g2|⟨m,z,g3,g4,g5,g6⟩)|g2
      . have:=I1.base f g2;omega
      . by_cases hmi:m=i
        . subst hmi;exact absurd g3 hbit
        . by_cases hlt:m<i
          . have:=I1.apart m i z _ hlt g4 hx;simp only at this;omega
          . have:=I1.apart i m _ z (by omega) hx g4;simp only at this;omega
      . have:=I1.own f g2;omega
end
theorem tB0 (ax:Axs):type_of% (dm (dm (dm (dm (yqf ax) (dm (yqe ax) (yqd ax))) (dm (dm (bt78 ax) (yp6 ax)) (dm (yp5 ax) (el37 ax)))) (dm (dm (el40 ax) (dm (el41 ax) (el45 ax))) (dm (dm (el66 ax) (el79 ax)) (dm (ygq ax) (ygp ax))))) (dm (dm (dm (ygo ax) (dm (ygn ax) (ygm ax))) (dm (dm (ygl ax) (ygk ax)) (dm (ygj ax) (ygi ax)))) (dm (dm (ygh ax) (dm (ygg ax) (ygf ax))) (dm (dm (yge ax) (ygd ax)) (dm (ymc ax) (ymb ax)))))):=dm (dm (dm (dm (yqf ax) (dm (yqe ax) (yqd ax))) (dm (dm (bt78 ax) (yp6 ax)) (dm (yp5 ax) (el37 ax)))) (dm (dm (el40 ax) (dm (el41 ax) (el45 ax))) (dm (dm (el66 ax) (el79 ax)) (dm (ygq ax) (ygp ax))))) (dm (dm (dm (ygo ax) (dm (ygn ax) (ygm ax))) (dm (dm (ygl ax) (ygk ax)) (dm (ygj ax) (ygi ax)))) (dm (dm (ygh ax) (dm (ygg ax) (ygf ax))) (dm (dm (yge ax) (ygd ax)) (dm (ymc ax) (ymb ax)))))
theorem tB1 (ax:Axs):type_of% (dm (dm (dm (dm (yma ax) (dm (yl9 ax) (yl8 ax))) (dm (dm (yl7 ax) (yl6 ax)) (dm (yl5 ax) (yl4 ax)))) (dm (dm (yl3 ax) (dm (yl2 ax) (yl1 ax))) (dm (dm (yl0 ax) (ylz ax)) (dm (yly ax) (ylx ax))))) (dm (dm (dm (ylw ax) (dm (ylv ax) (ylu ax))) (dm (dm (ylt ax) (ygc ax)) (dm (ygb ax) (yga ax)))) (dm (dm (yf9 ax) (dm (yls ax) (ylr ax))) (dm (dm (ylq ax) (ylp ax)) (dm (ylo ax) (yln ax)))))):=dm (dm (dm (dm (yma ax) (dm (yl9 ax) (yl8 ax))) (dm (dm (yl7 ax) (yl6 ax)) (dm (yl5 ax) (yl4 ax)))) (dm (dm (yl3 ax) (dm (yl2 ax) (yl1 ax))) (dm (dm (yl0 ax) (ylz ax)) (dm (yly ax) (ylx ax))))) (dm (dm (dm (ylw ax) (dm (ylv ax) (ylu ax))) (dm (dm (ylt ax) (ygc ax)) (dm (ygb ax) (yga ax)))) (dm (dm (yf9 ax) (dm (yls ax) (ylr ax))) (dm (dm (ylq ax) (ylp ax)) (dm (ylo ax) (yln ax)))))
theorem tB2 (ax:Axs):type_of% (dm (dm (dm (dm (ylm ax) (dm (yll ax) (ylk ax))) (dm (dm (ylj ax) (yli ax)) (dm (ylh ax) (ylg ax)))) (dm (dm (yed ax) (dm (yec ax) (yeb ax))) (dm (dm (yea ax) (yd9 ax)) (dm (yd8 ax) (yd7 ax))))) (dm (dm (dm (yd6 ax) (dm (sr37 ax) (sr40 ax))) (dm (dm (sr41 ax) (sr45 ax)) (dm (sr66 ax) (sr79 ax)))) (dm (dm (yo9 ax) (dm (yo8 ax) (yo7 ax))) (dm (dm (z46 ax) (yo6 ax)) (dm (yo5 ax) (yo4 ax)))))):=dm (dm (dm (dm (ylm ax) (dm (yll ax) (ylk ax))) (dm (dm (ylj ax) (yli ax)) (dm (ylh ax) (ylg ax)))) (dm (dm (yed ax) (dm (yec ax) (yeb ax))) (dm (dm (yea ax) (yd9 ax)) (dm (yd8 ax) (yd7 ax))))) (dm (dm (dm (yd6 ax) (dm (sr37 ax) (sr40 ax))) (dm (dm (sr41 ax) (sr45 ax)) (dm (sr66 ax) (sr79 ax)))) (dm (dm (yo9 ax) (dm (yo8 ax) (yo7 ax))) (dm (dm (z46 ax) (yo6 ax)) (dm (yo5 ax) (yo4 ax)))))
theorem tB3 (ax:Axs):type_of% (dm (dm (dm (dm (yo3 ax) (yo2 ax)) (dm (ti22 ax) (dm (ti23 ax) (ti24 ax)))) (dm (dm (ti26 ax) (dm (ti27 ax) (ti28 ax))) (dm (ti3 ax) (dm (ti30 ax) (ti37 ax))))) (dm (dm (dm (ti4 ax) (dm (ti40 ax) (ti41 ax))) (dm (ti43 ax) (dm (ti45 ax) (ti65 ax)))) (dm (dm (ti78 ax) (dm (ti79 ax) (ti85 ax))) (dm (ti9 ax) (dm (ti91 ax) (tz60 ax)))))):=dm (dm (dm (dm (yo3 ax) (yo2 ax)) (dm (ti22 ax) (dm (ti23 ax) (ti24 ax)))) (dm (dm (ti26 ax) (dm (ti27 ax) (ti28 ax))) (dm (ti3 ax) (dm (ti30 ax) (ti37 ax))))) (dm (dm (dm (ti4 ax) (dm (ti40 ax) (ti41 ax))) (dm (ti43 ax) (dm (ti45 ax) (ti65 ax)))) (dm (dm (ti78 ax) (dm (ti79 ax) (ti85 ax))) (dm (ti9 ax) (dm (ti91 ax) (tz60 ax)))))
def KP (h h2:Nat->T):List Nat->Prop
  |[]=>True
  |[k]=>h2 k=h k
  |k :: j :: l=>h2 k=h k/\KP h h2 (j :: l)
theorem KP.refl (h:Nat->T):∀ K,KP h h K
  |[]=>trivial
  |[_]=>rfl
  |_ :: j :: l=>⟨rfl,KP.refl h (j :: l)⟩
theorem f2 {A B:Prop} (a:A) (b:B):A/\B:=⟨a,b⟩
theorem f3 {A B C:Prop} (a:A) (b:B) (c:C):A/\B/\C:=⟨a,b,c⟩
theorem isp {α:Type} {p:Prop} [Decidable p] {a b:Option α} {v:α} (h:(if p then a else b)=some v):(p/\a=some v)\/(¬ p/\b=some v):=by
  by_cases c:p
  . rw [zAc c] at h;exact .inl ⟨c,h⟩
  . rw [zAd c] at h;exact .inr ⟨c,h⟩
theorem isb {α:Type} {t:Bool} {a b:Option α} {v:α} (h:(if t=true then a else b)=some v):(t=true/\a=some v)\/(t=false/\b=some v):=by
  cases t with
  |true=>exact .inl ⟨rfl,h⟩
  |false=>exact .inr ⟨rfl,h⟩
theorem isg {α:Type} {p:Prop} [Decidable p] {a:Option α} {v:α} (h:(if p then a else none)=some v):p/\a=some v:=by
  by_cases c:p
  . rw [zAc c] at h;exact ⟨c,h⟩
  . rw [zAd c] at h;cases h
theorem sinl {α β:Type} {r:α} {v:α} {g:β->Option α} (h:gr (fun r=>some r) g (.inl r)=some v):r=v:=me h
theorem sinm {α β δ:Type} {r:α} {v:α ⊕ δ} {g:β->Option (α ⊕ δ)} (h:gr (fun r=>some (.inl r)) g (.inl r)=some v):.inl r=v:=me h
theorem sinr {α β γ:Type} {s:β} {f:α->γ} {g:β->γ} {v:γ} (h:gr f g (.inr s)=v):g s=v:=h
def pS (S:TS):List T->List (T×TS)
  |[]=>[]
  |v :: l=>(v,S) :: pS S l
theorem ypp {S:TS}:pS S []=[]:=d6 rfl rfl
theorem yno {S:TS} {v:T} {l:List T}:pS S (v :: l)=(v,S) :: pS S l:=d6 rfl rfl
theorem eax {ax:Axs} {f:FuncId} (h:ax f=none):(EE ax).ax f=none:=by
  show sel (fb f 1099511627776) (ax f) none=none;rw [h];cases fb f 1099511627776<;>rfl
section
variable {ax:Axs} {N:Nat} {h h':Nat->T} {S S':TS} {Q:Exit->(Nat->T)->TS->Prop} {F:Prop} {C:(Nat->T)->Prop} {R:(Nat->T)->Prop} {bs bs2:List Box}
def Fin (ax:Axs) (l:List px) (vs:List T):Exit->(Nat->T)->TS->Prop:=fun e h S=>(e=.normal\/e=.ret)/\resT (EE ax) S h l=some vs
theorem rk {id:Nat} {ops:Array Oper} (K own:List Nat) (f:F) (hq:∀ h2,C h2->R h2) (hd:zfa N ops.toList=true:=by kernel_rfl) (hr:F->runT Tryz.prog (EE ax) [] own ops.toList ops.toList h S []=some (True,h',stL bs):=by intro q;simp (maxSteps:=900000) (disch:=first|omega|decide | (simp only [lzA,ek,iv];done)|fail) only [b0,b1,b2,b3,b4,b5,b6,b7,b8,ek,gt,ej,i6,reduceIte,reduceCtorEq,tB0,tB1,tB2,tB3,zhr,zhq,zgc,zoe,zof,zog,zoh,dq,aggO,zfb,zdn,zkq,zah,zd7,zao,zan,zbv,ze6,ew,fm,io,zb8,zb7,zc2,zbg,zbf,zdd,zda,za9,zjx,zea,zd9,zdc,zc9,zdb,zed,zfk,zec,zeb,zge,zgd,ziw,zgg,ziv,ziz,zgi,ziy,q,eqA,eqB,eqsA,eqsB];with_reducible rfl) (hC:F->∀ h2,KP h' h2 K->C h2:=by intro q h2 k;simp only [KP,zcf,ej,reduceIte,f6,gc,q] at k;first|exact k|exact trivial) (hR:∀ h2,R h2->Q .normal h2 (stL bs):=by intro h2 k;first | (simp only [onT,onTB];exact k)|exact k):TW Tryz.prog (EE ax) [] N (.region id ops false) h S Q :=
  pv (zl4 ax) own [] hd (hr f) trivial (hR _ (hq _ (hC f _ (KP.refl _ K))))
theorem rkc {id:Nat} {ops:Array Oper} {ob:Prop} (K own:List Nat) (outs:List (T×TS)) (f:F) (ho:ob) (hq:∀ h2,C h2->R h2) (hd:zfa N ops.toList=true:=by kernel_rfl) (hr:F->runT Tryz.prog (EE ax) [] own ops.toList ops.toList h S outs=some (ob,h',stL bs):=by intro q;simp (maxSteps:=900000) (disch:=first|omega|decide | (simp only [lzA,ek,iv];done)|fail) only [b0,b1,b2,b3,b4,b5,b6,b7,b8,ek,gt,ej,i6,reduceIte,reduceCtorEq,tB0,tB1,tB2,tB3,zhr,zhq,zgc,zoe,zof,zog,zoh,dq,aggO,zfb,zdn,zkq,zah,zd7,zao,zan,zbv,ze6,ew,fm,io,zb8,zb7,zc2,zbg,zbf,zdd,zda,za9,zjx,zea,zd9,zdc,zc9,zdb,zed,zfk,zec,zeb,zge,zgd,ziw,zgg,ziv,ziz,zgi,ziy,q,eqA,eqB,eqsA,eqsB];with_reducible rfl) (hC:F->∀ h2,KP h' h2 K->C h2:=by intro q h2 k;simp only [KP,zcf,ej,reduceIte,f6,gc,q] at k;first|exact k|exact trivial) (hR:∀ h2,R h2->Q .normal h2 (stL bs):=by intro h2 k;first | (simp only [onT,onTB];exact k)|exact k):TW Tryz.prog (EE ax) [] N (.region id ops false) h S Q :=
  pv (zl4 ax) own outs hd (hr f) ho (hR _ (hq _ (hC f _ (KP.refl _ K))))
theorem rkp {id:Nat} {ops:Array Oper} {ob:Prop} (K own:List Nat) (vs:List T) (f:F) (ho:ob) (hq:∀ h2,C h2->R h2) (hd:zfa N ops.toList=true:=by kernel_rfl) (hr:F->runT Tryz.prog (EE ax) [] own ops.toList ops.toList h S (pS S vs)=some (ob,h',stL bs):=by intro q;simp (maxSteps:=900000) (disch:=first|omega|decide | (simp only [lzA,ek,iv];done)|fail) only [ypp,yno,b0,b1,b2,b3,b4,b5,b6,b7,b8,ek,gt,ej,i6,reduceIte,reduceCtorEq,tB0,tB1,tB2,tB3,zhr,zhq,zgc,zoe,zof,zog,zoh,dq,aggO,zfb,zdn,zkq,zah,zd7,zao,zan,zbv,ze6,ew,fm,io,zb8,zb7,zc2,zbg,zbf,zdd,zda,za9,zjx,zea,zd9,zdc,zc9,zdb,zed,zfk,zec,zeb,zge,zgd,ziw,zgg,ziv,ziz,zgi,ziy,q,eqA,eqB,eqsA,eqsB];with_reducible rfl) (hC:F->∀ h2,KP h' h2 K->C h2:=by intro q h2 k;simp only [KP,zcf,ej,reduceIte,f6,gc,q] at k;first|exact k|exact trivial) (hR:∀ h2,R h2->Q .normal h2 (stL bs):=by intro h2 k;first | (simp only [onT,onTB];exact k)|exact k):TW Tryz.prog (EE ax) [] N (.region id ops false) h S Q :=
  pv (zl4 ax) own (pS S vs) hd (hr f) ho (hR _ (hq _ (hC f _ (KP.refl _ K))))
theorem rg {id:Nat} {ops:Array Oper} {ob:Prop} (own:List Nat) (outs:List (T×TS)) (bs:List Box) (C:(Nat->T)->Prop) (f:F) (ho:ob) (hq:∀ h2,C h2->R h2) (hd:zfa N ops.toList=true:=by kernel_rfl) (hr:F->runT Tryz.prog (EE ax) [] own ops.toList ops.toList h S outs=some (ob,h',S'):=by intro q;simp (maxSteps:=900000) (disch:=first|omega|decide | (simp only [lzA,ek,iv];done)|fail) only [b0,b1,b2,b3,b4,b5,b6,b7,b8,ek,gt,ej,i6,reduceIte,reduceCtorEq,tB0,tB1,tB2,tB3,zhr,zhq,zgc,zoe,zof,zog,zoh,dq,aggO,zfb,zdn,zkq,zah,zd7,zao,zan,zbv,ze6,ew,fm,io,zb8,zb7,zc2,zbg,zbf,zdd,zda,za9,zjx,zea,zd9,zdc,zc9,zdb,zed,zfk,zec,zeb,zge,zgd,ziw,zgg,ziv,ziz,zgi,ziy,q,eqA,eqB,eqsA,eqsB,apA,apB,tSrc];with_reducible rfl) (hS:F->S'=stL bs:=by intro q;first|rfl | (simp only [gsA,zc5,ej,reduceIte,and_self,and_true,true_and,f6,gc,q];done) | (simp only [gsA,zc5,ej,reduceIte,and_self,and_true,true_and,f6,gc,q];rfl)) (hC:F->C h':=by intro q;first|exact q | (simp only [zcf,ej,reduceIte,and_self,and_true,true_and,f6,gc,q];done) | (simp only [gsA,zc5,ej,reduceIte,and_self,and_true,true_and,f6,gc,q];done) | (simp only [zcf,ej,reduceIte,and_self,and_true,true_and,f6,gc,q];and_intros<;>rfl) | (simp only [gsA,zc5,ej,reduceIte,and_self,and_true,true_and,f6,gc,q];and_intros<;>rfl) | (and_intros<;>rfl)) (hR:∀ h2,R h2->Q .normal h2 (stL bs):=by intro h2 k;first | (simp only [onT,onTB];exact k)|exact k):TW Tryz.prog (EE ax) [] N (.region id ops false) h S Q :=
  pv (zl4 ax) own outs hd (hr f) ho (by rw [hS f];exact hR _ (hq _ (hC f)))
theorem dk {id:Nat} {ops:Array Oper} {ob1 ob2:Prop} {h1:Nat->T} (n:Nat) (K:List Nat) (outsP:List T) (own:List Nat) (outs:List (T×TS)) (f:F) (ho1:ob1) (ho2:ob2) (hq:∀ h2,C h2->R h2) (hd:zfa N ops.toList=true:=by kernel_rfl) (hok:ziu n ops.toList=true:=by kernel_rfl) (hp:F->runP Tryz.prog (EE ax) [] ops.toList (ops.toList.take n) h S outsP=some (ob1,h1):=by intro q;simp (maxSteps:=900000) (disch:=first|omega|decide | (simp only [lzA,ek,iv];done)|fail) only [b0,b1,b2,b3,b4,b5,b6,b7,b8,ek,gt,ej,i6,reduceIte,reduceCtorEq,tB0,tB1,tB2,tB3,zhr,zhq,zgc,zoe,zof,zog,zoh,dq,aggO,zfb,zdn,zkq,zah,zd7,zao,zan,zbv,ze6,ew,fm,io,zb8,zb7,zc2,zbg,zbf,zdd,zda,za9,zjx,zea,zd9,zdc,zc9,zdb,zed,zfk,zec,zeb,zge,zgd,ziw,zgg,ziv,ziz,zgi,ziy,q,eqA,eqB,eqsA,eqsB];with_reducible rfl) (hr:F->runT Tryz.prog (EE ax) [] own ops.toList (ops.toList.drop n) h1 S outs=some (ob2,h',stL bs):=by intro q;simp (maxSteps:=900000) (disch:=first|omega|decide | (simp only [lzA,ek,iv];done)|fail) only [b0,b1,b2,b3,b4,b5,b6,b7,b8,ek,gt,ej,i6,reduceIte,reduceCtorEq,tB0,tB1,tB2,tB3,zhr,zhq,zgc,zoe,zof,zog,zoh,dq,aggO,zfb,zdn,zkq,zah,zd7,zao,zan,zbv,ze6,ew,fm,io,zb8,zb7,zc2,zbg,zbf,zdd,zda,za9,zjx,zea,zd9,zdc,zc9,zdb,zed,zfk,zec,zeb,zge,zgd,ziw,zgg,ziv,ziz,zgi,ziy,q,eqA,eqB,eqsA,eqsB];with_reducible rfl) (hC:F->∀ h2,KP h' h2 K->C h2:=by intro q h2 k;simp only [KP,zcf,ej,reduceIte,f6,gc,q] at k;first|exact k|exact trivial) (hR:∀ h2,R h2->Q .normal h2 (stL bs):=by intro h2 k;first | (simp only [onT,onTB];exact k)|exact k):TW Tryz.prog (EE ax) [] N (.region id ops true) h S Q :=
  TW.draw (zl4 ax) n outsP own outs hd hok (hp f) ho1 (hr f) ho2 (hR _ (hq _ (hC f _ (KP.refl _ K))))
theorem ds {id:Nat} {ops:Array Oper} {ob1 ob2:Prop} {h1:Nat->T} (n:Nat) (bx:List (Nat×Option Nat)) (K:List Nat) (outsP:List T) (own:List Nat) (outs:List (T×TS)) (f:F) (ho1:ob1) (ho2:ob2) (hq:∀ h2,C h2->R h2) (hd:zfa N ops.toList=true:=by kernel_rfl) (hok:zv4 (EE ax) n bx ops.toList=true:=by kernel_rfl) (hp:F->runP Tryz.prog (EE ax) [] ops.toList (ops.toList.take n) h S outsP=some (ob1,h1):=by intro q;simp (maxSteps:=900000) (disch:=first|omega|decide | (simp only [lzA,ek,iv];done)|fail) only [b0,b1,b2,b3,b4,b5,b6,b7,b8,ek,gt,ej,i6,reduceIte,reduceCtorEq,tB0,tB1,tB2,tB3,zhr,zhq,zgc,zoe,zof,zog,zoh,dq,aggO,zfb,zdn,zkq,zah,zd7,zao,zan,zbv,ze6,ew,fm,io,zb8,zb7,zc2,zbg,zbf,zdd,zda,za9,zjx,zea,zd9,zdc,zc9,zdb,zed,zfk,zec,zeb,zge,zgd,ziw,zgg,ziv,ziz,zgi,ziy,q,eqA,eqB,eqsA,eqsB];with_reducible rfl) (hr:F->runT Tryz.prog (EE ax) [] own ops.toList (ops.toList.drop n) h1 S outs=some (ob2,h',stL bs):=by intro q;simp (maxSteps:=900000) (disch:=first|omega|decide | (simp only [lzA,ek,iv];done)|fail) only [b0,b1,b2,b3,b4,b5,b6,b7,b8,ek,gt,ej,i6,reduceIte,reduceCtorEq,tB0,tB1,tB2,tB3,zhr,zhq,zgc,zoe,zof,zog,zoh,dq,aggO,zfb,zdn,zkq,zah,zd7,zao,zan,zbv,ze6,ew,fm,io,zb8,zb7,zc2,zbg,zbf,zdd,zda,za9,zjx,zea,zd9,zdc,zc9,zdb,zed,zfk,zec,zeb,zge,zgd,ziw,zgg,ziv,ziz,zgi,ziy,q,eqA,eqB,eqsA,eqsB];with_reducible rfl) (hbx:F->zzk bx h' (stL bs):=by intro q;simp (maxSteps:=900000) (disch:=first|omega|decide | (simp only [zzk,adr1,and_self,and_true,true_and,lzA,ek,iv];done)|fail) only [zzk,adr1,and_self,and_true,true_and,b0,b1,b2,b3,b4,b5,b6,b7,b8,ek,gt,ej,i6,reduceIte,reduceCtorEq,tB0,tB1,tB2,tB3,zhr,zhq,zgc,zoe,zof,zog,zoh,dq,aggO,zfb,zdn,zkq,zah,zd7,zao,zan,zbv,ze6,ew,fm,io,zb8,zb7,zc2,zbg,zbf,zdd,zda,za9,zjx,zea,zd9,zdc,zc9,zdb,zed,zfk,zec,zeb,zge,zgd,ziw,zgg,ziv,ziz,zgi,ziy,q,eqA,eqB,eqsA,eqsB]) (hC:F->∀ h2,KP h' h2 K->C h2:=by intro q h2 k;simp only [KP,zcf,ej,reduceIte,f6,gc,q] at k;first|exact k|exact trivial) (hR:∀ h2,R h2->Q .normal h2 (stL bs):=by intro h2 k;first | (simp only [onT,onTB];exact k)|exact k):TW Tryz.prog (EE ax) [] N (.region id ops true) h S Q :=
  TW.drawS (zl4 ax) n bx outsP own outs hd hok (hp f) ho1 (hr f) ho2 (hbx f) (hR _ (hq _ (hC f _ (KP.refl _ K))))
theorem dg {id:Nat} {ops:Array Oper} {ob1 ob2:Prop} {h1:Nat->T} (n:Nat) (outsP:List T) (own:List Nat) (outs:List (T×TS)) (bs:List Box) (C:(Nat->T)->Prop) (f:F) (ho1:ob1) (ho2:ob2) (hq:∀ h2,C h2->R h2) (hd:zfa N ops.toList=true:=by kernel_rfl) (hok:ziu n ops.toList=true:=by kernel_rfl) (hp:F->runP Tryz.prog (EE ax) [] ops.toList (ops.toList.take n) h S outsP=some (ob1,h1):=by intro q;simp (maxSteps:=900000) (disch:=first|omega|decide | (simp only [lzA,ek,iv];done)|fail) only [b0,b1,b2,b3,b4,b5,b6,b7,b8,ek,gt,ej,i6,reduceIte,reduceCtorEq,tB0,tB1,tB2,tB3,zhr,zhq,zgc,zoe,zof,zog,zoh,dq,aggO,zfb,zdn,zkq,zah,zd7,zao,zan,zbv,ze6,ew,fm,io,zb8,zb7,zc2,zbg,zbf,zdd,zda,za9,zjx,zea,zd9,zdc,zc9,zdb,zed,zfk,zec,zeb,zge,zgd,ziw,zgg,ziv,ziz,zgi,ziy,q,eqA,eqB,eqsA,eqsB,apA,apB,tSrc];with_reducible rfl) (hr:F->runT Tryz.prog (EE ax) [] own ops.toList (ops.toList.drop n) h1 S outs=some (ob2,h',S'):=by intro q;simp (maxSteps:=900000) (disch:=first|omega|decide | (simp only [lzA,ek,iv];done)|fail) only [b0,b1,b2,b3,b4,b5,b6,b7,b8,ek,gt,ej,i6,reduceIte,reduceCtorEq,tB0,tB1,tB2,tB3,zhr,zhq,zgc,zoe,zof,zog,zoh,dq,aggO,zfb,zdn,zkq,zah,zd7,zao,zan,zbv,ze6,ew,fm,io,zb8,zb7,zc2,zbg,zbf,zdd,zda,za9,zjx,zea,zd9,zdc,zc9,zdb,zed,zfk,zec,zeb,zge,zgd,ziw,zgg,ziv,ziz,zgi,ziy,q,eqA,eqB,eqsA,eqsB,apA,apB,tSrc];with_reducible rfl) (hS:F->S'=stL bs:=by intro q;first|rfl | (simp only [gsA,zc5,ej,reduceIte,and_self,and_true,true_and,f6,gc,q];done) | (simp only [gsA,zc5,ej,reduceIte,and_self,and_true,true_and,f6,gc,q];rfl)) (hC:F->C h':=by intro q;first|exact q | (simp only [zcf,ej,reduceIte,and_self,and_true,true_and,f6,gc,q];done) | (simp only [gsA,zc5,ej,reduceIte,and_self,and_true,true_and,f6,gc,q];done) | (simp only [zcf,ej,reduceIte,and_self,and_true,true_and,f6,gc,q];and_intros<;>rfl) | (simp only [gsA,zc5,ej,reduceIte,and_self,and_true,true_and,f6,gc,q];and_intros<;>rfl) | (and_intros<;>rfl)) (hR:∀ h2,R h2->Q .normal h2 (stL bs):=by intro h2 k;first | (simp only [onT,onTB];exact k)|exact k):TW Tryz.prog (EE ax) [] N (.region id ops true) h S Q :=
  TW.draw (zl4 ax) n outsP own outs hd hok (hp f) ho1 (hr f) ho2 (by rw [hS f];exact hR _ (hq _ (hC f)))
theorem kq {C:Prop} (f:F) (hc:F->C:=by intro q;first|exact q | (simp (disch:=decide) only [zny,zcf,ej,reduceIte,and_self,and_true,true_and,f6,gc,q];done) | (simp (disch:=decide) only [zny,gsA,zc5,ej,reduceIte,and_self,and_true,true_and,f6,gc,q];done) | (simp (disch:=decide) only [zny,zcf,ej,reduceIte,and_self,and_true,true_and,f6,gc,q];and_intros<;>rfl) | (simp (disch:=decide) only [zny,gsA,zc5,ej,reduceIte,and_self,and_true,true_and,f6,gc,q];and_intros<;>rfl) | (and_intros<;>rfl)):C:=hc f
theorem ct {c:d8} {t e:Code} (f:F) (k:TW Tryz.prog (EE ax) [] N t h S Q) (hb:F->zd4 [] h c=.bool true:=by intro q;first | (simp only [zy5,zn6,zrt,q,f6,gc];done) | (simp only [zy5,zn6,zrt,q,f6,gc];exact congrArg T.bool (zAa (by omega)))):TW Tryz.prog (EE ax) [] N (.cond c t e) h S Q:=TW.cond (hb f) k
theorem cf {c:d8} {t e:Code} (f:F) (k:TW Tryz.prog (EE ax) [] N e h S Q) (hb:F->zd4 [] h c=.bool false:=by intro q;first | (simp only [zy5,zn6,zrt,q,f6,gc];done) | (simp only [zy5,zn6,zrt,q,f6,gc];exact congrArg T.bool (zAb (by omega)))):TW Tryz.prog (EE ax) [] N (.cond c t e) h S Q:=TW.cond (hb f) k
theorem sk {R:Prop} (k:R) (hR:R->Q .normal h S:=by intro k;first | (simp (disch:=decide) only [onT,onTB,gw,zoy,cond_true,cond_false];exact k)|exact k):TW Tryz.prog (EE ax) [] N .skip h S Q:=TW.skip (hR k)
theorem xk {i:Nat} {R:Prop} (k:R) (hR:R->Q (.exit i) h S:=by intro k;first | (simp (disch:=decide) only [onT,onTB,gw,zoy,cond_true,cond_false];exact k)|exact k):TW Tryz.prog (EE ax) [] N (.exit i) h S Q:=TW.exit (hR k)
theorem gk {c:Code} (K:List Nat) (f:F) (hq:∀ h2,C h2->TW Tryz.prog (EE ax) [] N c h2 S Q) (hC:F->∀ h2,KP h' h2 K->C h2:=by intro q h2 k;simp only [KP,zcf,ej,reduceIte,f6,gc,q] at k;first|exact k|exact trivial):TW Tryz.prog (EE ax) [] N c h' S Q:=hq _ (hC f _ (KP.refl _ K))
theorem rd {keep:List Nat} {n m0:Nat} {I:Nat->(Nat->T)->List Box->Prop} (m:Nat) (f:F) (hI:I m (z0l keep h) (bs.take n)) (hm:m<m0:=by omega) (hn:n<=bs.length:=by simp only [lzA]<;>omega) (hb:F->zf5 n (bs.take n)=true:=by intro q;simp only [yi3,zfx,zfw,reduceIte,ej,ek,iv,ny,idsA,idsB,idsC,zkp,q]) (hk:F->zir keep n h:=by intro q;simp only [yi3,zfx,zfw,reduceIte,ej,ek,iv,ny,idsA,idsB,idsC,zkp,q]):yqs keep n I m0 h (stL bs):=⟨m,hm,bs,rfl,hn,hb f,hk f,hI⟩
theorem ce {keep:List Nat} {n:Nat} {I:(Nat->T)->List Box->Prop} (f:F) (hI:I (z0l keep h) (bs.take n)) (hn:n<=bs.length:=by simp only [lzA]<;>omega) (hb:F->zf5 n (bs.take n)=true:=by intro q;simp only [yi3,zfx,zfw,reduceIte,ej,ek,iv,ny,idsA,idsB,idsC,zkp,q]) (hk:F->zir keep n h:=by intro q;simp only [yi3,zfx,zfw,reduceIte,ej,ek,iv,ny,idsA,idsB,idsC,zkp,q]):Ends keep n I h (stL bs):=⟨bs,rfl,hn,hb f,hk f,hI⟩
theorem cu {a:Code} (keep:List Nat) (n:Nat) (I:(Nat->T)->List Box->Prop) (hI:TW Tryz.prog (EE ax) [] N a h (stL bs) (onT (fun h' S'=>Ends keep n I h' S') Q)) {R:(Nat->T)->List Box->Prop} (hk:∀ h bs2,I h bs2->R h bs2) (hn:bs.length<=n:=by simp only [lzA]<;>omega) (hR:∀ h bs2,R h bs2->Q .normal h (stL bs2):=by intro h bs2 k;first | (simp only [onT,onTB];exact k)|exact k):TW Tryz.prog (EE ax) [] N a h (stL bs) Q:=TW.cutN keep n hn I hI fun h bs2 k=>hR _ _ (hk _ _ k)
theorem rtc (f:F) (hQ:F->Q .ret h S:=by intro q;refine ⟨.inr rfl,by first | (simp (maxSteps:=900000) (disch:=first|omega|decide | (simp only [resT,lzA,ek,iv];done)|fail) only [resT,b0,b1,b2,b3,b4,b5,b6,b7,b8,ek,gt,ej,i6,reduceIte,reduceCtorEq,tB0,tB1,tB2,tB3,zhr,zhq,zgc,zoe,zof,zog,zoh,dq,aggO,zfb,zdn,zkq,zah,zd7,zao,zan,zbv,ze6,ew,fm,io,zb8,zb7,zc2,zbg,zbf,zdd,zda,za9,zjx,zea,zd9,zdc,zc9,zdb,zed,zfk,zec,zeb,zge,zgd,ziw,zgg,ziv,ziz,zgi,ziy,q,eqA,eqB,eqsA,eqsB];done) | (simp (maxSteps:=900000) (disch:=first|omega|decide | (simp only [resT,lzA,ek,iv];done)|fail) only [resT,b0,b1,b2,b3,b4,b5,b6,b7,b8,ek,gt,ej,i6,reduceIte,reduceCtorEq,tB0,tB1,tB2,tB3,zhr,zhq,zgc,zoe,zof,zog,zoh,dq,aggO,zfb,zdn,zkq,zah,zd7,zao,zan,zbv,ze6,ew,fm,io,zb8,zb7,zc2,zbg,zbf,zdd,zda,za9,zjx,zea,zd9,zdc,zc9,zdb,zed,zfk,zec,zeb,zge,zgd,ziw,zgg,ziv,ziz,zgi,ziy,q,eqA,eqB,eqsA,eqsB];with_reducible rfl)⟩):TW Tryz.prog (EE ax) [] N .ret h S Q:=TW.ret (hQ f)
theorem rt (f:F) (hQ:F->Q .ret h S:=by intro q;refine ⟨.inr rfl,?_⟩;first | (simp only [resT,q];done) | (simp only [resT,q];rfl)):TW Tryz.prog (EE ax) [] N .ret h S Q:=TW.ret (hQ f)
theorem vk {c:Code} (t e:Nat) (K:List Nat) (f:F) (hq:∀ h2,C h2->TW Tryz.prog (EE ax) [] N c h2 (stL bs2) Q) (ht:F->h t=.nils:=by intro q;first|rfl | (simp only [zcf,ej,reduceIte,q];done)) (hS:bs++[.cells false 0 []]=bs2:=by simp only [fd,ff];try rfl) (he:tupd h t (.arr (stL bs).n e 0 0 0 0)=h':=by simp only [scB,ek];try rfl) (hC:F->∀ h2,KP h' h2 K->C h2:=by intro q h2 k;simp only [KP,zcf,ej,reduceIte,f6,gc,q] at k;first|exact k|exact trivial):TW Tryz.prog (EE ax) [] N c h (stL bs) Q:=TW.vec t e (ht f) (by rw [ycy,hS,he];exact hq _ (hC f _ (KP.refl _ K)))
theorem nk {c:Code} (t e:Nat) (K:List Nat) (f:F) (hq:∀ h2,C h2->TW Tryz.prog (EE ax) [] N c h2 S Q) (ht:F->h t=.nils:=by intro q;first|rfl | (simp only [zcf,ej,reduceIte,q];done)) (he:tupd h t (.lst e [])=h':=by rfl) (hC:F->∀ h2,KP h' h2 K->C h2:=by intro q h2 k;simp only [KP,zcf,ej,reduceIte,f6,gc,q] at k;first|exact k|exact trivial):TW Tryz.prog (EE ax) [] N c h S Q:=TW.nilL t e (ht f) (by rw [he];exact hq _ (hC f _ (KP.refl _ K)))
theorem zk {c:Code} (t b M:Nat) (z:Bool) (l:List T) (K:List Nat) (f:F) (hq:∀ h2,C h2->TW Tryz.prog (EE ax) [] N c h2 (stL bs2) Q) (ht:F->h t=.ptr b 0 M:=by intro q;first|rfl | (simp only [zcf,ej,reduceIte,q];done)) (hS:(stL bs).box b=.cells z M l:=by rfl) (hn:b<bs.length:=by simp only [lzA]<;>omega) (hb:bs.set b .gone=bs2:=by simp (disch:=decide) only [scA,ynh,List.set_cons_zero,List.set_cons_succ,gt];try rfl) (he:tupd h t (.cp l)=h':=by rfl) (hC:F->∀ h2,KP h' h2 K->C h2:=by intro q h2 k;simp only [KP,zcf,ej,reduceIte,f6,gc,q] at k;first|exact k|exact trivial):TW Tryz.prog (EE ax) [] N c h (stL bs) Q:=TW.freezeP t (ht f) hS (by rw [zol _ _ _ hn,hb,he];exact hq _ (hC f _ (KP.refl _ K)))
theorem en {fid:FuncId} {fn:Func} {body:Code} {args:List T} {v:T} (l:List px) (N:Nat) (K:List Nat) (hax:ax fid=none) (hf:(EE ax).fn.at fid=some fn) (k:∀ h2,C h2->TW Tryz.prog (EE ax) [] N body h2 (stL []) (Fin ax l [v])) (hb:fn.body=some body:=by rfl) (hl:fn.results.toList=l:=by rfl) (hn:fn.ntmps=N:=by rfl) (hN:N<=512:=by decide) (hlen:args.length<=N:=by simp) (ha:T.idsL 0 args=true:=by simp only [zfx,zfw,idsA,idsB,idsC,zkp,et]) (hv:(v).ids 0=true:=by first|rfl|simp only [zfx,zfw,idsA,idsB,idsC,zkp,et]|simp only [tupT,zfx,zfw,idsA,idsB,idsC,zkp,et]) (he:argT args 0 (fun _=>.junk)=h':=by simp only [z4w,yag,ek];try rfl) (hC:∀ h2,KP h' h2 K->C h2:=by intro h2 k;simp only [KP,zcf,ej,reduceIte] at k;first|exact k|exact trivial):Pure Tryz.prog (EE ax) [] fid args v :=
  Pure.enter N (eax hax) hf hb hn hN hlen ha hv (by rw [hl,he,z64];exact k _ (hC _ (KP.refl _ K)))
theorem enN {fid:FuncId} {fn:Func} {body:Code} {args:List T} {vs:List T} (l:List px) (N:Nat) (K:List Nat) (hax:ax fid=none) (hf:(EE ax).fn.at fid=some fn) (k:∀ h2,C h2->TW Tryz.prog (EE ax) [] N body h2 (stL []) (Fin ax l vs)) (hb:fn.body=some body:=by rfl) (hl:fn.results.toList=l:=by rfl) (hn:fn.ntmps=N:=by rfl) (hN:N<=512:=by decide) (hlen:args.length<=N:=by simp) (ha:T.idsL 0 args=true:=by simp only [zfx,zfw,idsA,idsB,idsC,zkp,et]) (hv:((tupT vs)).ids 0=true:=by first|rfl|simp only [zfx,zfw,idsA,idsB,idsC,zkp,et]|simp only [tupT,zfx,zfw,idsA,idsB,idsC,zkp,et]) (he:argT args 0 (fun _=>.junk)=h':=by simp only [z4w,yag,ek];try rfl) (hC:∀ h2,KP h' h2 K->C h2:=by intro h2 k;simp only [KP,zcf,ej,reduceIte] at k;first|exact k|exact trivial):Pure Tryz.prog (EE ax) [] fid args (tupT vs) :=
  Pure.enterN N (eax hax) hf hb hn hN hlen ha hv (by rw [hl,he,z64];exact k _ (hC _ (KP.refl _ K)))
end
section
variable {ax:Axs} {N:Nat} {h h':Nat->T} {S S':TS} {Q:Exit->(Nat->T)->TS->Prop} {F:Prop} {C:(Nat->T)->Prop} {R:(Nat->T)->Prop} {bs bs2:List Box}
end
def alcO (cf:Nat->Option Nat) (o:Oper):Option Nat:=match o.op with
  |.move _=>some 0
  |.assign _=>some 0
  |.pick _ _ _=>some 0
  |.alloc _=>some 1
  |.box _ _=>some 1
  |.load _ _=>some 0
  |.store _ _ _=>some 0
  |.fieldAddr _ _ _=>some 0
  |.indexAddr _ _ _=>some 0
  |.binOp _ _ _ _ _=>some 0
  |.unOp _ _ _=>some 0
  |.extract _ _=>some 0
  |.build _ _=>some 0
  |.call c=>(match c.callee with|.value (.func f)=>cf f|_=>none)
  |_=>none
def addO:Option Nat->Option Nat->Option Nat
  |some a,some b=>some (a+b)
  |_,_=>none
theorem zq5 {x y:Option Nat} {k:Nat} (h:addO x y=some k):∃ a b,x=some a/\y=some b/\k=a+b:=by
  cases x<;>cases y<;>simp [addO] at h;exact ⟨_,_,rfl,rfl,h.symm⟩
def alcL (cf:Nat->Option Nat):List Oper->Option Nat
  |[]=>some 0
  |o :: l=>addO (alcO cf o) (alcL cf l)
def alcC (cf:Nat->Option Nat):Code->Option Nat
  |.region _ ops _=>alcL cf ops.toList
  |.seq a b=>addO (alcC cf a) (alcC cf b)
  |.cond _ a b=>addO (alcC cf a) (alcC cf b)
  |.block _ b=>alcC cf b
  |.loop b=>(match alcC cf b with|some 0=>some 0|_=>none)
  |.scope b=>alcC cf b
  |.skip=>some 0
  |.label _=>some 0
  |.exit _=>some 0
  |.ret=>some 0
  |_=>none
section
variable {P:ep} {Γ:Env} {s s':CS} {v:Value}
theorem yks {x:Option Value} (h:retC s x=some (v,s')):s'.n=s.n:=by rw [(zhl h).2]
theorem z79 {ρ:d8->Value} {o:Oper} {x:Option Value} (h:zf9 P ρ o s x=some (v,s')):s'.n=s.n:=by
  unfold zf9 at h
  cases x with
  |some y=>simp only [dp,du] at h;rw [<- h.2]
  |none=>exact yks h
theorem yim {a:Addr} {tag:Nat} {cs:List Value} (h:s.newRow tag cs=some (a,s')):s'.n=s.n+1:=by
  unfold CS.newRow at h;obtain ⟨_,h⟩:=za8 h;simp only [dp,du] at h;rw [<- h.2]
theorem ypn {tag:Nat} {cs:List Value} (h:ptrC (s.newRow tag cs)=some (v,s')):s'.n=s.n+1:=by
  obtain ⟨a,h1,_⟩:=zux h;exact yim h1
theorem ydu {a:Addr} {cs:List Value} (h:s.readRow a=some (cs,s')):s'.n=s.n:=by
  unfold CS.readRow at h;split at h
  . simp only [dp,du] at h;rw [<- h.2]
  . simp at h
theorem z3c {i:TI} {a:Addr} (h:s.loadVar i a=some (v,s')):s'.n=s.n:=by
  unfold CS.loadVar at h
  cases hq:s.readRow a with
  |none=>rw [hq] at h;simp at h
  |some p =>
    obtain ⟨cs,s1⟩:=p;rw [hq] at h;simp only at h;split at h
    . simp only [dp,du] at h;rw [<- h.2];exact ydu hq
    . simp at h
theorem ym0 {a:Addr} {vs:List Value} (h:s.write a vs=some s'):s'.n=s.n:=by
  unfold CS.write at h;split at h
  . obtain ⟨_,h⟩:=za8 h;simp only [dp] at h;rw [<- h]
  . simp at h
theorem zxh {x:Value} {t:CS} (h:some (x,t)=some (v,s')) (ht:t.n=s.n):s'.n=s.n:=by
  simp only [dp,du] at h;rw [<- h.2];exact ht
theorem yod {cf:Nat->Option Nat} {call:zc1} (hcall:∀ f k args s v s',cf f=some k->call f args s=some (v,s')->s'.n<=s.n+k) {fr:Fr} {o:Oper} {k:Nat} (ho:alcO cf o=some k) (h:cop P Γ call (zgf fr) o s=some (v,s')):s'.n<=s.n+k:=by
  obtain ⟨d,op,ty,pos,e,g⟩:=o;unfold alcO at ho;simp only at ho;split at ho
  case h_1=>cases ho;rw [yji] at h;exact iy (zxh h rfl)
  case h_2=>cases ho;rw [ybo] at h;exact iy (zxh h rfl)
  case h_3 =>
    cases ho;rw [yjh] at h;unfold zse at h;split at h
    . exact iy (zxh h rfl)
    . simp at h
  case h_4 =>
    cases ho;rw [yg4] at h;unfold zko at h;split at h
    . exact iy (ypn h)
    . simp at h
  case h_5=>cases ho;rw [yob] at h;exact iy (ypn h)
  case h_6 =>
    cases ho;rw [yjj] at h;unfold zop at h;split at h
    . split at h
      . exact iy (z3c h)
      . simp at h
    . simp at h
  case h_7 =>
    cases ho;rw [yg2] at h;unfold zkm at h;split at h
    . split at h
      . obtain ⟨_,h⟩:=zdp h;unfold zl5 at h;split at h
        . rename_i hw;simp only [dp,du] at h;rw [<- h.2];exact iy (ym0 hw)
        . simp at h
      . simp at h
    . simp at h
  case h_8 =>
    cases ho;rw [z04] at h;unfold zc7 at h;split at h
    . split at h
      . split at h
        . split at h
          . cases hb:d7 _ 0<;>rw [hb] at h<;>simp only [cond_true,cond_false] at h
            . exact iy (zxh h rfl)
            . simp at h
          . simp at h
        . simp at h
      . simp at h
    . simp at h
  case h_9 =>
    cases ho;rw [z03] at h;unfold zbr at h;split at h
    . have hA:∀ (z k n:Nat) (a:Addr),zsw s z k n a=some (v,s')->s'.n=s.n:=by
        intro z k n a h;unfold zsw at h;obtain ⟨_,h⟩:=zdp h;exact zxh h rfl
      split at h
      . split at h
        . split at h
          . exact iy (hA _ _ _ _ h)
          . simp at h
        . simp at h
      . split at h
        . split at h
          . exact iy (hA _ _ _ _ h)
          . simp at h
        . simp at h
      . simp at h
    . simp at h
  case h_10 =>
    cases ho;rw [yoc] at h;unfold zld at h;split at h
    . exact iy (zxh h rfl)
    . exact iy (z79 h)
  case h_11=>cases ho;rw [yp8] at h;exact iy (z79 h)
  case h_12 =>
    cases ho;rw [z6n] at h;unfold zgr at h;split at h
    . exact iy (yks h)
    . simp at h
  case h_13 =>
    cases ho;rw [yg3] at h;unfold zio at h
    have hA:∀ (c:Option (List Value)),aggC s c=some (v,s')->s'.n=s.n:=by
      intro c h;obtain ⟨_,_,_,rfl⟩:=znh h;rfl
    split at h
    . split at h
      . obtain ⟨_,h⟩:=za8 h;exact iy (hA _ h)
      . split at h
        . exact iy (hA _ h)
        . simp at h
      . simp at h
    . simp at h
  case h_14 =>
    rename_i c;obtain ⟨ce,args,tys⟩:=c
    cases ce with
    |value x =>
      cases x with
      |func f =>
        simp only at ho;rw [yjk] at h;exact hcall _ _ _ _ _ _ ho h
      |_=>simp at ho
    |_=>simp at ho
  case h_15=>simp at ho
theorem z1x {cf:Nat->Option Nat} {call:zc1} (hcall:∀ f k args s v s',cf f=some k->call f args s=some (v,s')->s'.n<=s.n+k) {ops:List Oper} {fr fr':Fr} {o:Oper} {k:Nat} (ho:alcO cf o=some k) (h:zcj P Γ call ops o fr s=some (fr',s')):s'.n<=s.n+k:=by
  unfold zcj at h
  cases hw:zc4 ops fr o with
  |true =>
    rw [hw] at h;simp only [cond_true] at h;split at h
    . rename_i hq;simp only [dp,du] at h;rw [<- h.2];exact yod hcall ho hq
    . simp at h
  |false =>
    rw [hw] at h;simp only [cond_false,dp,du] at h;rw [<- h.2];omega
theorem z7y {cf:Nat->Option Nat} {call:zc1} (hcall:∀ f k args s v s',cf f=some k->call f args s=some (v,s')->s'.n<=s.n+k) {ops:List Oper}:∀ (l:List Oper) (fr fr':Fr) (s s':CS) (k:Nat),alcL cf l=some k->runC P Γ call ops l fr s=some (fr',s')->s'.n<=s.n+k
  |[],fr,fr',s,s',k,hk,h=>by
    simp only [runC,dp,du] at h;rw [<- h.2];omega
  |o :: l,fr,fr',s,s',k,hk,h=>by
    obtain ⟨a,b,h1,h2,rfl⟩:=zq5 hk;simp only [runC] at h;split at h
    . rename_i hq;have q1:=z1x hcall h1 hq;have q2:=z7y hcall l _ _ _ _ b h2 h;omega
    . simp at h
theorem z38 {cf:Nat->Option Nat} {call:zc1} (hcall:∀ f k args s v s',cf f=some k->call f args s=some (v,s')->s'.n<=s.n+k) {ops:List Oper}:∀ (l:List Oper) (fr fr':Fr) (s s':CS) (k:Nat) (lg:List Lg),alcL cf l=some k->drawC P Γ call ops l fr s=some (lg,fr',s')->s'.n<=s.n+k
  |[],fr,fr',s,s',k,lg,hk,h=>by
    simp only [drawC,dp,du] at h;rw [<- h.2.2];omega
  |o :: l,fr,fr',s,s',k,lg,hk,h=>by
    obtain ⟨a,b,h1,h2,rfl⟩:=zq5 hk;simp only [drawC] at h;split at h
    . rename_i fr1 t hq;split at h
      . rename_i hq2;simp only [dp,du] at h;obtain ⟨_,_,rfl⟩:=h;have q1:=z1x hcall h1 hq;have q2:=z38 hcall l _ _ _ _ b _ h2 hq2;have e1:(CS.inner s).n=s.n:=rfl;have e2:(CS.outer s t).n=t.n:=rfl;omega
      . simp at h
    . simp at h
theorem ymj {cf:Nat->Option Nat} (hcall:∀ n f k args s v s',cf f=some k->zd6 P Γ n f args s=some (v,s')->s'.n<=s.n+k):∀ (n:Nat) (c:Code) (fr fr':Fr) (s s':CS) (e:Exit) (k:Nat),alcC cf c=some k->cm P Γ n c fr s=some (e,fr',s')->s'.n<=s.n+k:=by
  intro n
  induction n with
  |zero=>intro c fr fr' s s' e k hk h;simp [cm] at h
  |succ n ih =>
    intro c fr fr' s s' e k hk h
    cases c with
    |skip=>simp only [cm,dp,du] at h;rw [<- h.2.2];omega
    |label lb=>simp only [cm,dp,du] at h;rw [<- h.2.2];omega
    |exit id=>simp only [cm,dp,du] at h;rw [<- h.2.2];omega
    |ret=>simp only [cm,dp,du] at h;rw [<- h.2.2];omega
    |region id ops draw =>
      have h' : (bif draw then match drawC P Γ (zd6 P Γ n) ops.toList ops.toList fr s with
          |some (logs,fr,t)=>bif calm s.n ops.toList logs then some (Exit.normal,fr,t) else none
          |none=>none
        else match runC P Γ (zd6 P Γ n) ops.toList ops.toList fr s with
          |some (fr,s)=>some (Exit.normal,fr,s)
          |none=>none)=some (e,fr',s'):=h
      cases draw with
      |true =>
        simp only [cond_true] at h';split at h'
        . rename_i hd;obtain ⟨_,h'⟩:=zdp h';simp only [dp,du] at h';obtain ⟨rfl,rfl,rfl⟩:=h';exact z38 (hcall n) _ _ _ _ _ _ _ hk hd
        . simp at h'
      |false =>
        simp only [cond_false] at h';split at h'
        . rename_i hd;simp only [dp,du] at h';obtain ⟨rfl,rfl,rfl⟩:=h';exact z7y (hcall n) _ _ _ _ _ _ hk hd
        . simp at h'
    |seq a b =>
      obtain ⟨x,y,h1,h2,rfl⟩:=zq5 hk;simp only [cm] at h;split at h
      . rename_i hq;have q1:=ih _ _ _ _ _ _ _ h1 hq;have q2:=ih _ _ _ _ _ _ _ h2 h;omega
      . have q1:=ih _ _ _ _ _ _ _ h1 h;omega
    |cond c t e' =>
      obtain ⟨x,y,h1,h2,rfl⟩:=zq5 hk;simp only [cm] at h;split at h
      . rename_i b _
        cases b with
        |true=>have q1:=ih _ _ _ _ _ _ _ h1 h;omega
        |false=>have q1:=ih _ _ _ _ _ _ _ h2 h;omega
      . simp at h
    |block id b =>
      simp only [cm] at h;split at h
      . rename_i hq;simp only [dp,du] at h;obtain ⟨_,_,rfl⟩:=h;exact ih b _ _ _ _ _ _ hk hq
      . exact ih b _ _ _ _ _ _ hk h
    |loop b =>
      have hk2:=hk;simp only [alcC] at hk;split at hk
      . rename_i hb;cases hk;simp only [cm] at h;split at h
        . rename_i hq;have q1:=ih _ _ _ _ _ _ _ hb hq;have q2:=ih _ _ _ _ _ _ _ hk2 h;omega
        . exact ih _ _ _ _ _ _ _ hb h
      . simp at hk
    |scope b =>
      simp only [cm] at h;exact ih b _ _ _ _ _ _ hk h
    |_=>simp [alcC] at hk
theorem z71 {fr:Fr}:∀ (l:List px) (s s':CS) (vs:List Value),resC Γ fr s l=some (vs,s')->s'.n=s.n
  |[],s,s',vs,h=>by simp only [resC,dp,du] at h;rw [<- h.2]
  |.tmp t :: l,s,s',vs,h=>by
    simp only [resC] at h;split at h
    . rename_i hq;simp only [dp,du] at h;rw [<- h.2];exact z71 l _ _ _ hq
    . simp at h
  |.cell a t :: l,s,s',vs,h=>by
    simp only [resC] at h;split at h
    . split at h
      . rename_i hq;split at h
        . rename_i hq2;simp only [dp,du] at h;rw [<- h.2,z71 l _ _ _ hq2,z3c hq]
        . simp at h
      . simp at h
    . simp at h
theorem z4o {cf:Nat->Option Nat} (hcall:∀ n f k args s v s',cf f=some k->zd6 P Γ n f args s=some (v,s')->s'.n<=s.n+k) {f:Nat} {fn:Func} {body:Code} (hax:Γ.ax f=none) (hfn:Γ.fn.at f=some fn) (hb:fn.body=some body) {k:Nat} (hk:alcC cf body=some k) {n:Nat} {args:List Value} (h:zd6 P Γ n f args s=some (v,s')):s'.n<=s.n+k:=by
  unfold zd6 zod at h;simp only [hax,hfn,hb] at h;split at h
  . rename_i hq;obtain ⟨_,hq⟩:=za8 hq;split at h
    . rename_i hr;simp only [dp,du] at h;have q1:=ymj hcall _ _ _ _ _ _ _ _ hk hq;have q2:=z71 _ _ _ _ hr;rw [<- h.2,q2];exact q1
    . simp at h
  . rename_i hq;obtain ⟨_,hq⟩:=za8 hq;split at h
    . rename_i hr;simp only [dp,du] at h;have q1:=ymj hcall _ _ _ _ _ _ _ _ hk hq;have q2:=z71 _ _ _ _ hr;rw [<- h.2,q2];exact q1
    . simp at h
  . simp at h
theorem yhi {G L:List Nat} {ax:Axs} (hm:P.follows .mixedOrders=true) (hL:zjz P G L=true) (hx:zmb P G L ax) {f:Nat} {fn:Func} {body:Code} (hax:ax f=none) (hfn:(zd0 P L ax).fn.at f=some fn) (hb:fn.body=some body)
    {cf:Nat->Option Nat} (hcall:∀ n f k args s v s',cf f=some k->zd6 P (zd0 P L ax) n f args s=some (v,s')->s'.n<=s.n+k) {K:Nat} (hk:alcC cf body=some K) {dec:List Value->Option Value}
    (hd:∀ args v,dec args=some v->∃ ts t,Pure P (zd0 P L ax) [] f ts t/\(∀ A β g,VL A β g ts args)/\(∀ A β g v',VT A β g t v'->v'=v)/\zav 3 v=true) :
    AxOk P G f (fun args s=>match dec args with|some v=>some (v,{ s with n:=s.n+K })|none=>none):=by
  refine ax_of hm hL hx hax hfn hb fun args s v s' hh hI=>?_
  cases hq:dec args with
  |none=>simp only [hq] at hh;cases hh
  |some v1 =>
    simp only [hq] at hh;simp only [dp,du] at hh;obtain ⟨rfl,rfl⟩:=hh;obtain ⟨ts,t,k1,k2,k3,k4⟩:=hd args v1 hq
    have hT:TRel [] (fun _=>False) bx0 ts0 s.fn :=
      ⟨⟨_,rfl⟩,hI.fn,fun f hf=>hf.elim,fun f hf=>absurd hf zjv,fun b b' l l' f hb=>by simp [bx0] at hb,fun b _=>rfl,fun b z N l hb=>by simp [ts0] at hb,fun b l hb=>by simp [ts0] at hb,fun x hx=>by simp at hx⟩
    obtain ⟨v2,s1,A',e1,e2,e3,e4⟩:=k1.call ts0 _ _ _ args hT (k2 _ _ _);have ev:=k3 _ _ _ _ e3;subst ev;refine ⟨k4,rfl,rfl,rfl,fun x h=>h,Nat.le_add_right _ _,s1,e1,?_,fun x h=>?_,fun x h=>e4.wr x h,fun f hf=>e4.keep f hf⟩
    . obtain ⟨n,hn⟩:=zlj e1;exact z4o (s:=s.fn) hcall (ax_no hax) hfn hb hk hn
    . rcases e4.rd x h with q|⟨_,q|q⟩
      . exact q
      . exact q.elim
      . exact absurd q zjv
noncomputable def yae (K:Nat) (dec:List Value->Option Value):List Value->CS->Option (Value×CS):=fun args s=>match dec args with|some v=>some (v,{ s with n:=s.n+K })|none=>none
theorem z6v {L:List Nat} {ax:Axs} (hm:P.follows .mixedOrders=true) (hL:zjz P [] L=true) (hx:zmb P [] L ax) {f fuel:Nat} {fn:Func} {body:Code} (hfn:(zd0 P L ax).fn.at f=some fn) (hb:fn.body=some body) (h:z4l P (zd0 P L ax) f fuel=true) (w:World) :
    Calls P f #[] w fun e w'=>e=.returned (.bool true)/\Below w.heap.size w w':=by
  unfold z4l at h;split at h
  . rename_i s' hq;have hI:CInv cs0:=⟨fun f _=>z6m f,fun f p hp=>by rw [z6m] at hp;simp [zdr] at hp,dz _⟩;have hr:Rel (fun _ _=>none) (fun _=>True) cs0 w:=⟨fun _ _ _ _ _ _ _ _ _ h=>by simp at h,fun _ _ _ _ _ h=>by simp at h,fun f _=>by rw [z6m];exact zhc.ofNone,hI.none,hI.vers⟩;have hcall:=(z1a hx.can hx.its hx.call hL (z6q hm hx.can hx.its hx.call hL fuel).1).fn f [] #[] cs0 _ s' w (fun _ _=>none) (fun _=>True) hq trivial hr (fun _ _=>trivial) (fun _ _ _=>rfl) hI (fun g hg=>by simp [has] at hg);obtain ⟨x,h1,h2⟩:=hcall;have he:=ztl (ax:=ax) hL hfn hb #[] w;rw [he] at h1;have hx:x=f:=by simp_all
    subst hx;refine h2.mono ?_;rintro e w' ⟨σ',v',rfl,k1,k2,k3⟩;exact ⟨by rw [znu 3 rfl k1],k3.st.1,k3.st.2.1,k3.st.2.2,k3.size,fun k hk=>k3.frame k hk fun g u o z hs=>by simp at hs⟩
  . simp at h
end
structure NoAx (ax:Axs):Prop where
  no:∀ f,d7 f 8=false->ax f=none
instance {ax:Axs}:Coe (yot ax) (NoAx ax):=⟨fun h=>⟨h.no⟩⟩
def zcd (k:Nat) (p:Pat) (q:Pat):Nat->Int->Option (Bool ⊕ Unit)
 |0,_=>none
 |m+1,i=>(if i<10 then (if 0<=i/\i<(10:Int) then (if (iAnd .i64 (iAnd .i64 (iXor .i64 (gx p.bits.l i) (gx q.bits.l i)) (gx p.mask.l i)) (gx q.mask.l i))≠0 then some (.inl false) else zcd k p q m (dw.wrap (i+1))) else none) else some (.inr ()))
def ze1 (k:Nat) (p:Pat) (q:Pat):Option Bool:=((zcd k p q k 0:Option (Bool ⊕ Unit)).bind fun o=>gr (fun r=>some r) (fun s_=>some true) o)
theorem zmd (ax:Axs) (hx:NoAx ax) (k:Nat) (p:Pat) (q:Pat) (v:Bool) (H:ze1 k p q=some v):Pure Tryz.prog (EE ax) [] 90 [ePat p,ePat q] (.bool v):=by
 rw [ze1] at H;refine en [.tmp 4] 30 [0,1] (hx.no _ (by decide)) (fn90 ax) ?_;intro h hh;repeat apply dn
 refine rk [2,3] [] hh fun h hh=>?_;repeat apply dn
 refine rk [2,3,6] [] hh fun h hh=>?_;obtain ⟨o,H1,H⟩:=zad H;repeat apply dn
 refine cu [] 2 (fun h bs=>∃ s_:Unit,o=.inr s_/\(True)/\bs=[.cells true 20 (p.mask.l.map (dy .i64)++(p.bits.l.map (dy .i64))),.cells true 20 (q.mask.l.map (dy .i64)++(q.bits.l.map (dy .i64)))]) ?_ ?_
 .skip;repeat apply dn
  apply fc;repeat apply dn
  refine TW.loopT [2,3,6] (fun m h bs=>∃ (i:Int),zcd k p q m i=some o/\(h 2=.ptr 0 0 20/\h 3=.ptr 1 0 20/\h 6=.int .i64 i)/\bs=[.cells true 20 (p.mask.l.map (dy .i64)++(p.bits.l.map (dy .i64))),.cells true 20 (q.mask.l.map (dy .i64)++(q.bits.l.map (dy .i64)))]) ?_ k _ _ ?_;rotate_left
  .exact ⟨0,H1,kq hh,rfl⟩
  clear hh h H1;rintro m h bs ⟨i,H1,hh,rfl⟩;rcases m with _|m
  .rw [zcd] at H1;cases H1
  rw [zcd] at H1;repeat apply dn
  refine rk [2,3,6,7] [] hh fun h hh=>?_;rcases isp H1 with ⟨c1,H1⟩|⟨c1,H1⟩;rotate_left
  .skip;repeat apply dn
   refine cf (f2 hh (zAb c1)) ?_;refine xk ?_;cases H1;exact ce hh ⟨_,rfl,kq hh,rfl⟩
  repeat apply dn
  refine ct (f2 hh (zAa c1)) ?_;repeat apply dn
  refine sk ?_;repeat apply dn
  apply fc;repeat apply dn
  refine rk [2,3,5,6] [] hh fun h hh=>?_;obtain ⟨g2,H1⟩:=isg H1;repeat apply dn
  refine dk 18 [2,3,6,28] [] [] [] (f3 hh (zmi (k:=.i64) (off:=10) (L:=(p.mask.l.map (dy .i64)++(p.bits.l.map (dy .i64)))) (r:=[]) p.bits g2) (f3 (zmi (k:=.i64) (off:=10) (L:=(q.mask.l.map (dy .i64)++(q.bits.l.map (dy .i64)))) (r:=[]) q.bits g2) (zkr (k:=.i64) (L:=(p.mask.l.map (dy .i64)++(p.bits.l.map (dy .i64)))) (r:=(p.bits.l.map (dy .i64))) p.mask g2) (zkr (k:=.i64) (L:=(q.mask.l.map (dy .i64)++(q.bits.l.map (dy .i64)))) (r:=(q.bits.l.map (dy .i64))) q.mask g2))) trivial trivial fun h hh=>?_;rcases isp H1 with ⟨c3,H1⟩|⟨c3,H1⟩;rotate_left
  .skip;repeat apply dn
   refine cf (f2 hh (zAb c3)) ?_;repeat apply dn
   refine sk ?_;repeat apply dn
   refine rk [2,3,6] [] hh fun h hh=>?_;exact rd m hh ⟨(dw.wrap (i+1)),H1,kq hh,rfl⟩
  repeat apply dn
  refine ct (f2 hh (zAa c3)) ?_;repeat apply dn
  refine rk [4] [] hh fun h hh=>?_;cases H1;obtain rfl:=sinl H;exact rt hh
 clear hh h;rintro h bs ⟨s_,rfl,hh,rfl⟩;replace H:=sinr H;repeat apply dn
 refine rk [4] [] hh fun h hh=>?_;cases H;exact rt hh
def zgp (k:Nat) (m_:Pat):Nat->Int->(Ar 10)->Option (Ar 10)
 |0,_,_=>none
 |m+1,i,x=>(if i<10 then (if 0<=i/\i<(10:Int) then zgp k m_ m (dw.wrap (i+1)) (x.set i (iOr .i64 (z6c .i64 (gx x.l i) (gx m_.mask.l i)) (gx m_.bits.l i))) else none) else some x)
def zo7 (k:Nat) (m_:Pat) (h_:Ar 10):Option (Ar 10):=((zgp k m_ k 0 h_:Option (Ar 10)).bind fun s_=>some s_)
theorem zwq (ax:Axs) (hx:NoAx ax) (k:Nat) (m_:Pat) (h_:Ar 10) (v:Ar 10) (H:zo7 k m_ h_=some v):Pure Tryz.prog (EE ax) [] 97 [ePat m_,.agg (h_.l.map (dy .i64))] (.agg (v.l.map (dy .i64))):=by
 rw [zo7] at H;refine en [.cell 4 60] 26 [0,1] (hx.no _ (by decide)) (fn97 ax) ?_;intro h hh;repeat apply dn
 refine rk [2,3,4] [] hh fun h hh=>?_;repeat apply dn
 refine rk [2,3,4,6] [] hh fun h hh=>?_;obtain ⟨s_,H1,H⟩:=zad H;repeat apply dn
 refine cu [3,4] 3 (fun h bs=>(h 3=.ptr 1 0 10/\h 4=.ptr 2 0 10)/\bs=[.cells true 20 (m_.mask.l.map (dy .i64)++(m_.bits.l.map (dy .i64))),.cells true 10 (s_.l.map (dy .i64)),.cells true 10 ((zA 10).l.map (dy .i64))]) ?_ ?_
 .skip;repeat apply dn
  apply fc;repeat apply dn
  refine TW.loopT [2,3,4,6] (fun m h bs=>∃ (i:Int) (x:Ar 10),zgp k m_ m i x=some s_/\(h 2=.ptr 0 0 20/\h 3=.ptr 1 0 10/\h 4=.ptr 2 0 10/\h 6=.int .i64 i)/\bs=[.cells true 20 (m_.mask.l.map (dy .i64)++(m_.bits.l.map (dy .i64))),.cells true 10 (x.l.map (dy .i64)),.cells true 10 ((zA 10).l.map (dy .i64))]) ?_ k _ _ ?_;rotate_left
  .exact ⟨0,h_,H1,kq hh,rfl⟩
  clear hh h H1;rintro m h bs ⟨i,x,H1,hh,rfl⟩;rcases m with _|m
  .rw [zgp] at H1;cases H1
  rw [zgp] at H1;repeat apply dn
  refine rk [2,3,4,6,7] [] hh fun h hh=>?_;rcases isp H1 with ⟨c1,H1⟩|⟨c1,H1⟩;rotate_left
  .skip;repeat apply dn
   refine cf (f2 hh (zAb c1)) ?_;refine xk ?_;cases H1;exact ce hh ⟨kq hh,rfl⟩
  repeat apply dn
  refine ct (f2 hh (zAa c1)) ?_;repeat apply dn
  refine sk ?_;repeat apply dn
  apply fc;repeat apply dn
  refine rk [2,3,4,5,6] [] hh fun h hh=>?_;obtain ⟨g2,H1⟩:=isg H1;repeat apply dn
  refine dk 13 [2,3,4,6] [] [] [] (f3 hh (arIx x g2) (f3 (zkr (k:=.i64) (L:=(m_.mask.l.map (dy .i64)++(m_.bits.l.map (dy .i64)))) (r:=(m_.bits.l.map (dy .i64))) m_.mask g2) (zmi (k:=.i64) (off:=10) (L:=(m_.mask.l.map (dy .i64)++(m_.bits.l.map (dy .i64)))) (r:=[]) m_.bits g2) (yos (k:=.i64) x (iOr .i64 (z6c .i64 (gx x.l i) (gx m_.mask.l i)) (gx m_.bits.l i)) g2))) trivial trivial fun h hh=>?_;repeat apply dn
  refine rk [2,3,4,6] [] hh fun h hh=>?_;exact rd m hh ⟨(dw.wrap (i+1)),(x.set i (iOr .i64 (z6c .i64 (gx x.l i) (gx m_.mask.l i)) (gx m_.bits.l i))),H1,kq hh,rfl⟩
 clear hh h;rintro h bs ⟨hh,rfl⟩;repeat apply dn
 refine rk [4] [] hh fun h hh=>?_;cases H;exact rtc hh
def zhj (k:Nat) (n:Pat):Nat->Int->(Ar 10)->Option (Ar 10)
 |0,_,_=>none
 |m+1,i,x=>(if i<10 then (if 0<=i/\i<(10:Int) then zhj k n m (dw.wrap (i+1)) (x.set i (iOr .i64 (gx x.l i) (gx n.mask.l i))) else none) else some x)
def zrf (k:Nat) (m_:Pat) (n:Pat):Option Pat:=((zo7 k n m_.bits).bind fun au=>((zhj k n k 0 m_.mask:Option (Ar 10)).bind fun s_=>some (⟨s_,au⟩:Pat)))
theorem zz6 (ax:Axs) (hx:NoAx ax) (k:Nat) (m_:Pat) (n:Pat) (v:Pat) (H:zrf k m_ n=some v):Pure Tryz.prog (EE ax) [] 64 [ePat m_,ePat n] (ePat v):=by
 rw [zrf] at H;refine en [.cell 4 119] 27 [0,1] (hx.no _ (by decide)) (fn64 ax) ?_;intro h hh;repeat apply dn
 refine rk [2,3,4] [] hh fun h hh=>?_;obtain ⟨au,e1,H⟩:=zad H;repeat apply dn
 refine rkc [2,3,4] [] [(.agg (au.l.map (dy .i64)),stL [.cells true 20 (m_.mask.l.map (dy .i64)++(m_.bits.l.map (dy .i64))),.cells true 20 (n.mask.l.map (dy .i64)++(n.bits.l.map (dy .i64))),.cells true 20 ((zA 10).l.map (dy .i64)++((zA 10).l.map (dy .i64)))])] hh ?_ ?_
 .exact ⟨zaj.call ((zwq ax hx k n m_.bits au e1 ).call _),trivial⟩
 clear hh h;intro h hh;repeat apply dn
 refine rk [2,3,4,11] [] hh fun h hh=>?_;obtain ⟨s_,H1,H⟩:=zad H;repeat apply dn
 refine cu [2,4] 3 (fun h bs=>(h 2=.ptr 0 0 20/\h 4=.ptr 2 0 20)/\bs=[.cells true 20 (s_.l.map (dy .i64)++(au.l.map (dy .i64))),.cells true 20 (n.mask.l.map (dy .i64)++(n.bits.l.map (dy .i64))),.cells true 20 ((zA 10).l.map (dy .i64)++((zA 10).l.map (dy .i64)))]) ?_ ?_
 .skip;repeat apply dn
  apply fc;repeat apply dn
  refine TW.loopT [2,3,4,11] (fun m h bs=>∃ (i:Int) (x:Ar 10),zhj k n m i x=some s_/\(h 2=.ptr 0 0 20/\h 3=.ptr 1 0 20/\h 4=.ptr 2 0 20/\h 11=.int .i64 i)/\bs=[.cells true 20 (x.l.map (dy .i64)++(au.l.map (dy .i64))),.cells true 20 (n.mask.l.map (dy .i64)++(n.bits.l.map (dy .i64))),.cells true 20 ((zA 10).l.map (dy .i64)++((zA 10).l.map (dy .i64)))]) ?_ k _ _ ?_;rotate_left
  .exact ⟨0,m_.mask,H1,kq hh,rfl⟩
  clear hh h H1;rintro m h bs ⟨i,x,H1,hh,rfl⟩;rcases m with _|m
  .rw [zhj] at H1;cases H1
  rw [zhj] at H1;repeat apply dn
  refine rk [2,3,4,11,12] [] hh fun h hh=>?_;rcases isp H1 with ⟨c2,H1⟩|⟨c2,H1⟩;rotate_left
  .skip;repeat apply dn
   refine cf (f2 hh (zAb c2)) ?_;refine xk ?_;cases H1;exact ce hh ⟨kq hh,rfl⟩
  repeat apply dn
  refine ct (f2 hh (zAa c2)) ?_;repeat apply dn
  refine sk ?_;repeat apply dn
  apply fc;repeat apply dn
  refine rk [2,3,4,5,11] [] hh fun h hh=>?_;obtain ⟨g3,H1⟩:=isg H1;repeat apply dn
  refine dk 8 [2,3,4,11] [] [] [] (f3 hh (zkr (k:=.i64) (L:=(x.l.map (dy .i64)++(au.l.map (dy .i64)))) (r:=(au.l.map (dy .i64))) x g3) (f2 (zkr (k:=.i64) (L:=(n.mask.l.map (dy .i64)++(n.bits.l.map (dy .i64)))) (r:=(n.bits.l.map (dy .i64))) n.mask g3) (yc9 (k:=.i64) (L:=(x.l.map (dy .i64)++(au.l.map (dy .i64)))) (r:=(au.l.map (dy .i64))) (L2:=((x.set i (iOr .i64 (gx x.l i) (gx n.mask.l i))).l.map (dy .i64)++(au.l.map (dy .i64)))) x (iOr .i64 (gx x.l i) (gx n.mask.l i)) g3))) trivial trivial fun h hh=>?_;repeat apply dn
  refine rk [2,3,4,11] [] hh fun h hh=>?_;exact rd m hh ⟨(dw.wrap (i+1)),(x.set i (iOr .i64 (gx x.l i) (gx n.mask.l i))),H1,kq hh,rfl⟩
 clear hh h;rintro h bs ⟨hh,rfl⟩;repeat apply dn
 refine rk [4] [] hh fun h hh=>?_;cases H;exact rtc hh
def yfe:List Value->Option (List Int)
  |[]=>some []
  |.int .i64 i :: l=>(match yfe l with|some r=>some (i :: r)|none=>none)
  |_=>none
def patV:Value->Option Pat
  |.agg cs=>(match yfe cs.toList with
    |some l=>if h:l.length=20 then some ⟨⟨l.take 10,by rw [fi,h];rfl⟩,⟨l.drop 10,by rw [gp,h]⟩⟩ else none
    |none=>none)
  |_=>none
def vPat (p:Pat):Value:=.agg ⟨(p.mask.l++p.bits.l).map (ju .i64)⟩
theorem z8r {A:Nat->Prop} {β:Bx} {g:Nat->Fam}:∀ {cs:List Value} {l:List Int},yfe cs=some l->VL A β g (l.map (dy .i64)) cs
  |[],l,h=>by simp only [yfe,dp] at h;subst h;exact .nil
  |c :: cs,l,h=>by
    unfold yfe at h;split at h
    . rename_i heq;simp at heq
    . rename_i i l2 heq;simp only [List.cons.injEq] at heq;obtain ⟨rfl,rfl⟩:=heq;split at h
      . rename_i r hr;simp only [dp] at h;subst h;exact .cons (.int _ _) (z8r hr)
      . simp at h
    . simp at h
theorem z0d {A:Nat->Prop} {β:Bx} {g:Nat->Fam} {v:Value} {p:Pat} (h:patV v=some p):VT A β g (ePat p) v:=by
  unfold patV at h;split at h
  . rename_i cs;split at h
    . rename_i l hl;split at h
      . rename_i h20;simp only [dp] at h;subst h;obtain ⟨cs⟩:=cs;show VT A β g (.agg ((l.take 10).map (dy .i64)++(l.drop 10).map (dy .i64))) _;rw [<- List.map_append,iq];exact .agg (z8r hl)
      . simp at h
    . simp at h
  . simp at h
theorem ycf {A:Nat->Prop} {β:Bx} {g:Nat->Fam}:∀ {l:List Int} {vs:List Value},VL A β g (l.map (dy .i64)) vs->vs=l.map (ju .i64)
  |[],_,.nil=>rfl
  |i :: l,_,.cons h k=>by
    cases h;rw [gb,ycf k]
theorem yo1 {A:Nat->Prop} {β:Bx} {g:Nat->Fam} {p:Pat} {v:Value} (h:VT A β g (ePat p) v):v=vPat p:=by
  unfold ePat at h;rw [<- List.map_append] at h
  cases h with
  |agg k=>rw [ycf k];rfl
theorem yd5 (p:Pat):zav 2 (vPat p)=true:=by
  unfold vPat zav;rw [ez];intro x hx;simp only [jq] at hx;obtain ⟨i,_,rfl⟩:=hx;rfl
def yjf:List Value->Option Value
  |[x,y]=>(match patV x,patV y with
    |some p,some q=>(match ze1 12 p q with|some b=>some (.bool b)|none=>none)
    |_,_=>none)
  |_=>none
def z02:List Value->Option Value
  |[x,y]=>(match patV x,patV y with
    |some p,some q=>(match zrf 12 p q with|some r=>some (vPat r)|none=>none)
    |_,_=>none)
  |_=>none
theorem ykx:NoAx fun _=>none:=⟨fun _ _=>rfl⟩
theorem yje (args:List Value) (v:Value) (h:yjf args=some v):∃ ts t,Pure Tryz.prog (EE fun _=>none) [] 90 ts t/\(∀ A β g,VL A β g ts args)/\(∀ A β g v',VT A β g t v'->v'=v)/\zav 3 v=true:=by
  unfold yjf at h;split at h
  . rename_i x y;split at h
    . rename_i p q hp hq;split at h
      . rename_i b hb;simp only [dp] at h;subst h;exact ⟨_,_,zmd _ ykx 12 p q b hb,fun A β g=>.cons (z0d hp) (.cons (z0d hq) .nil),fun A β g v' k=>by cases k;rfl,rfl⟩
      . simp at h
    . simp at h
  . simp at h
theorem ybm (args:List Value) (v:Value) (h:z02 args=some v):∃ ts t,Pure Tryz.prog (EE fun _=>none) [] 64 ts t/\(∀ A β g,VL A β g ts args)/\(∀ A β g v',VT A β g t v'->v'=v)/\zav 3 v=true:=by
  unfold z02 at h;split at h
  . rename_i x y;split at h
    . rename_i p q hp hq;split at h
      . rename_i r hr;simp only [dp] at h;subst h;refine ⟨_,_,zz6 _ ykx 12 p q r hr,fun A β g=>.cons (z0d hp) (.cons (z0d hq) .nil),fun A β g v' k=>yo1 k,?_⟩;have:=yd5 r;unfold vPat zav at this ⊢;rw [ez] at this ⊢;intro z hz;simp only [jq] at hz;obtain ⟨i,_,rfl⟩:=hz;rfl
      . simp at h
    . simp at h
  . simp at h
end Go.Proofs.YteifcnjpjjaikaaGreat
