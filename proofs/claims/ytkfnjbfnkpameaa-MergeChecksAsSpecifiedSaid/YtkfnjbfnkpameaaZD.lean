/- Part 4 of the proof of MergeChecksAsSpecified (several texts in one; no further condition). -/
import Derived.Test.YtkfnjbfnkpameaaZC
set_option linter.unusedSimpArgs false
set_option linter.unusedVariables false
set_option linter.unusedSectionVars false
namespace Go.Proofs.Ytkfnjbfnkpameaa
noncomputable section
open _root_.And renaming intro->fc
open _root_.Array renaming toList_map->o9
open _root_.BitVec renaming ofInt->i6
open _root_.Bool renaming and_eq_true->fi,and_self->gb,and_true->n5,not_true->iu,true_and->jx
open Go.Proofs.Ytkfnjbfnkpameaa.Bx renaming le_refl->me
open Go.Proofs.Ytkfnjbfnkpameaa.CS renaming inner->sl
open Go.Call renaming operands->r8
open Go.Proofs.Ytkfnjbfnkpameaa.Can renaming refl->jp
open _root_.Eq renaming trans->f5
open Go.Proofs.Ytkfnjbfnkpameaa.Fr renaming get_put_other->so
open Go renaming FuncId->mb,IntKind->ir,Operand->f6,Program->gn,TypeDesc->nd,TypeId->gm,eqGuard->l9
open _root_.Int renaming eq_ofNat_of_zero_le->jt,toNat_natCast->jj
open _root_.List renaming all_cons->jm,all_eq_true->h9,append_assoc->gi,append_nil->gr,cons_append->gp,drop_succ_cons->ku,drop_zero->gl,eq_nil_of_length_eq_zero->jh,flatMap_cons->i9,flatten_cons->ig,getD_eq_getElem?_getD->fo,getElem?_append_left->gh,getElem?_append_right->il,getElem?_cons_succ->lf,getElem?_cons_zero->gw,getElem?_eq_getElem->fj,getElem?_eq_none->jv,getElem?_eq_some_iff->gd,getElem?_map->li,length_append->fw,length_cons->gg,length_drop->je,length_map->fq,length_nil->jd,length_replicate->ld,length_singleton->ip,length_take->ij,map_append->nc,map_cons->iz,map_map->q9,map_nil->pc,mem_map->jn,nil_append->ge,replicate_succ->jb,set_cons_succ->ls,set_cons_zero->lc,take_append_drop->i7,take_length->l8,take_of_length_le->ii,take_succ_cons->nf,take_zero->m6
open Go.Proofs.Ytkfnjbfnkpameaa.Loc renaming fam->ol
open _root_.Nat renaming add_mul->jl,add_zero->jq,beq->fx,beq_refl->i8,ble->gz,blt->ib,eq_of_beq_eq_true->fk,le_refl->fm,lt_of_lt_of_le->gq,mul_one->qg,one_mul->m7,testBit->i5,testBit_and->lp,testBit_or->od,testBit_two_pow_sub_one->mh,zero_add->i4,zero_le->io
open Go.Proofs.Ytkfnjbfnkpameaa.Ok0 renaming same->mq
open Go.Op renaming intArith->qe,intBits->py,intCmp->oc,operands->gu
open _root_.Option renaming map_some->ou
open _root_.Option.some renaming injEq->fd
open _root_.Prod.mk renaming injEq->fl
open Go.Proofs.Ytkfnjbfnkpameaa.Stp renaming refl->rn
open Go.Proofs.Ytkfnjbfnkpameaa.T renaming bool->sp,cells->jc,int->fg,one->m9,str->pf
open Go.Proofs.Ytkfnjbfnkpameaa.TS renaming set_ne->na,set_same->m5
open Go Go.RowKit
section
variable {GL:List (Nat×List Value)} {A A' A2:Nat->Prop} {β β' β2:Bx} {S S':TS} {s s' s2:CS} {P:gn} {Γ:Env}
def zbr (op:BinOp) (k k':ir) (a b:Int):Option T :=
  match op with
  |.shl=>if 0<=b then some (.int k (k.wrap (a*2 ^ (min b.toNat k.bits)))) else none
  |.shr=>if 0<=b then some (.int k (a.fdiv (2 ^ (min b.toNat k.bits)))) else none
  |op=>bif fx (ikN k) (ikN k') then (match op with
    |.add=>some (.int k (k.wrap (a+b)))
    |.sub=>some (.int k (k.wrap (a - b)))
    |.mul=>some (.int k (k.wrap (a*b)))
    |.quo=>if b=0 then none else some (.int k (k.wrap (a.tdiv b)))
    |.rem=>if b=0 then none else some (.int k (a.tmod b))
    |.and=>some (.int k (k.wrap (i6 k.bits a &&& i6 k.bits b).toNat))
    |.or=>some (.int k (k.wrap (i6 k.bits a ||| i6 k.bits b).toNat))
    |.xor=>some (.int k (k.wrap (i6 k.bits a ^^^ i6 k.bits b).toNat))
    |.andNot=>some (.int k (k.wrap (i6 k.bits a &&& ~~~ i6 k.bits b).toNat))
    |.eql=>some (.bool (decide (a=b)))
    |.neq=>some (.bool (decide (a≠b)))
    |.lss=>some (.bool (decide (a<b)))
    |.leq=>some (.bool (decide (a<=b)))
    |.gtr=>some (.bool (decide (b<a)))
    |.geq=>some (.bool (decide (b<=a)))
    |_=>none) else none
theorem ydt {op:BinOp} {k k':ir} {a b:Int} {r:T} (h:zbr op k k' a b=some r):∃ v,VT A β (zaa s.obj) r v/\∀ {ρ:f6->Value} {o:Oper} {t t2:gm} {x y:f6} {s:CS},o.op=.binOp op t x y t2->ρ x=.int k a->ρ y=.int k' b->zml P Γ ρ o s t op (.int k a) (.int k' b)=some (v,s):=by
  unfold zbr at h;split at h
  . split at h
    . rename_i h0;cases h;exact ⟨_,.int _ _,fun ho hx hy=>zb0 ho hx hy default (by simp only [binOp,Op.shift];rw [zAd (by omega)]) rfl⟩
    . simp at h
  . split at h
    . rename_i h0;cases h;exact ⟨_,.int _ _,fun ho hx hy=>zb0 ho hx hy default (by simp only [binOp,Op.shift];rw [zAd (by omega)]) rfl⟩
    . simp at h
  . cases hq:fx (ikN k) (ikN k') with
    |false=>rw [hq] at h;simp at h
    |true =>
      rw [hq,cond_true] at h;have:=ydw hq;subst this;split at h
      . cases h;exact ⟨_,.int _ _,fun ho hx hy=>zb0 ho hx hy default (by simp only [binOp,qe,ne_eq,not_true,if_false]) rfl⟩
      . cases h;exact ⟨_,.int _ _,fun ho hx hy=>zb0 ho hx hy default (by simp only [binOp,qe,ne_eq,not_true,if_false]) rfl⟩
      . cases h;exact ⟨_,.int _ _,fun ho hx hy=>zb0 ho hx hy default (by simp only [binOp,qe,ne_eq,not_true,if_false]) rfl⟩
      . split at h
        . simp at h
        . rename_i hb;cases h;exact ⟨_,.int _ _,fun ho hx hy=>zb0 ho hx hy default (by simp only [binOp,Op.intDiv,ne_eq,not_true,if_false];rw [zAd hb]) rfl⟩
      . split at h
        . simp at h
        . rename_i hb;cases h;exact ⟨_,.int _ _,fun ho hx hy=>zb0 ho hx hy default (by simp only [binOp,Op.intDiv,ne_eq,not_true,if_false];rw [zAd hb]) rfl⟩
      . cases h;exact ⟨_,.int _ _,fun ho hx hy=>zb0 ho hx hy default (by simp only [binOp,py,ne_eq,not_true,if_false]) rfl⟩
      . cases h;exact ⟨_,.int _ _,fun ho hx hy=>zb0 ho hx hy default (by simp only [binOp,py,ne_eq,not_true,if_false]) rfl⟩
      . cases h;exact ⟨_,.int _ _,fun ho hx hy=>zb0 ho hx hy default (by simp only [binOp,py,ne_eq,not_true,if_false]) rfl⟩
      . cases h;exact ⟨_,.int _ _,fun ho hx hy=>zb0 ho hx hy default (by simp only [binOp,py,ne_eq,not_true,if_false]) rfl⟩
      . cases h;exact ⟨_,.bool _,fun ho hx hy=>zb0 ho hx hy default (by simp [binOp,oc];rfl) rfl⟩
      . cases h;exact ⟨_,.bool _,fun ho hx hy=>zb0 ho hx hy default (by simp [binOp,oc]<;>rfl) rfl⟩
      . cases h;exact ⟨_,.bool _,fun ho hx hy=>zb0 ho hx hy default (by simp [binOp,oc]) rfl⟩
      . cases h;exact ⟨_,.bool _,fun ho hx hy=>zb0 ho hx hy default (by simp [binOp,oc]) rfl⟩
      . cases h;exact ⟨_,.bool _,fun ho hx hy=>zb0 ho hx hy default (by simp [binOp,oc]) rfl⟩
      . cases h;exact ⟨_,.bool _,fun ho hx hy=>zb0 ho hx hy default (by simp [binOp,oc]) rfl⟩
      . simp at h
def zwl (op:BinOp) (a b:ByteArray):Option T:=match op with
  |.eql=>some (.bool (decide (a=b)))
  |.neq=>some (.bool (!decide (a=b)))
  |.add=>if a.size+b.size<=9223372036854775807 then some (.str (a++b)) else none
  |_=>none
theorem ya8 {op:BinOp} {a b:ByteArray} {r:T} (h:zwl op a b=some r):∃ v,VT A β (zaa s.obj) r v/\∀ {ρ:f6->Value} {o:Oper} {t t2:gm} {x y:f6} {s:CS},o.op=.binOp op t x y t2->ρ x=.string a->ρ y=.string b->zml P Γ ρ o s t op (.string a) (.string b)=some (v,s):=by
  unfold zwl at h;split at h
  . cases h;exact ⟨_,.bool _,fun ho hx hy=>zm8 ho hx hy rfl (fun d=>zzn d a) rfl rfl (by unfold l9;simp) (by show some _=_;rw [ya7]) rfl⟩
  . cases h;exact ⟨_,.bool _,fun ho hx hy=>zm8 ho hx hy rfl (fun d=>zzn d a) rfl rfl (by unfold l9;simp) (by show some _=_;rw [ya7]) rfl⟩
  . split at h
    . rename_i hs;cases h
      exact ⟨_,.str _,fun ho hx hy=>zm8 ho hx hy rfl (fun d=>zzn d a) rfl rfl (by unfold l9;simp) (by
        show za8 P (Op.stringOp .add a b)=_;unfold Op.stringOp;simp only
        rw [zAd (by have : IntKind.i64.max = 9223372036854775807 := by decide
                    omega)]
        rfl) rfl⟩
    . simp at h
  . simp at h
theorem zak {α γ:Type} {f:α->Sem γ}:∀ {m:Sem α},za8 P (m >>= f)=(za8 P m).bind fun v=>za8 P (f v):=by
  intro m
  induction m with
  |pure a=>rfl
  |program k ih=>exact ih P
  |_=>rfl
theorem z9p {ρ:f6->Value} {t t2:gm} {x y:f6} {op:BinOp} {v w r:Value} {o:Oper} (ho:o.op=.binOp op t x y t2) (hx:ρ x=v) (hy:ρ y=w) (hc:binC op v w=none) (hn:∀ d,nilT d v=none) (hpv:za7 3 v=true) (hpw:za7 3 w=true)
    (hr:za8 P (do l9 op t x y v w;binOp op t v w)=some r) (hp:za7 3 r=true):zml P Γ ρ o s t op v w=some (r,s):=by
  unfold zml;rw [hc];simp only;rw [z72 hn];simp only [zhq];unfold zm3
  have hops:(o.op.operands.toList.all fun z=>za7 3 (ρ z))=true:=by
    rw [ho];simp [gu,hx,hy,hpv,hpw]
  rw [hops]
  have he:execOp ρ o=((do l9 op t x y v w;binOp op t v w) >>= fun z=>pure (Next.value z)):=by
    unfold execOp;rw [ho];simp only [hx,hy]
  rw [he]
  have hv:za8 P ((do l9 op t x y v w;binOp op t v w) >>= fun z=>pure (Next.value z))=some (.value r):=by
    rw [zak,hr];rfl
  simp only [cond_true];rw [hv];show retC s (bif za7 3 r then some r else none)=some (r,s);rw [hp];rfl
def yf1:T->Option Value
  |.int k n=>some (.int k n)
  |.bool b=>some (.bool b)
  |.str b=>some (.string b)
  |_=>none
def zgl:List T->Option (List Value)
  |[]=>some []
  |t :: l=>match yf1 t,zgl l with|some v,some r=>some (v :: r)|_,_=>none
theorem yf0 {g:Nat->Fam} {t:T} {v w:Value} (h:yf1 t=some w) (hv:VT A β g t v):v=w/\∀ n,za7 n v=true:=by
  unfold yf1 at h;split at h
  . cases h;cases hv;exact ⟨rfl,fun n=>by cases n<;>rfl⟩
  . cases h;cases hv;exact ⟨rfl,fun n=>by cases n<;>rfl⟩
  . cases h;cases hv;exact ⟨rfl,fun n=>by cases n<;>rfl⟩
  . simp at h
theorem zto {g:Nat->Fam}:∀ {l:List T} {vs ws:List Value},zgl l=some ws->VL A β g l vs->vs=ws/\vs.all (za7 2)=true
  |[],_,ws,h,.nil=>by simp only [zgl,fd] at h;subst h;exact ⟨rfl,rfl⟩
  |t :: l,_,ws,h,.cons h1 h2=>by
    unfold zgl at h;split at h
    . rename_i v r e1 e2;cases h;obtain ⟨a,b⟩:=yf0 e1 h1;obtain ⟨c,d⟩:=zto e2 h2;rw [a,c] at *;exact ⟨rfl,by rw [jm,b 2,d];rfl⟩
    . simp at h
def zon (P:gn) (t:gm) (op:BinOp) (x y:f6) (a b:List T):Option T:=match zgl a,zgl b with
  |some va,some vb=>(match za8 P (do l9 op t x y (.agg ⟨va⟩) (.agg ⟨vb⟩);binOp op t (.agg ⟨va⟩) (.agg ⟨vb⟩)) with
    |some (.bool r)=>some (.bool r)
    |_=>none)
  |_,_=>none
theorem yc2 (d:nd) (a:Array Value):nilT d (.agg a)=none:=by cases d<;>rfl
def tNil (S:TS):nd->T->Option Bool
  |.pointer _,.nilp=>some true
  |.pointer _,.ptr b _ N=>bif S.has b N then some false else none
  |.pointer _,.cp _=>some false
  |.slice _,.nils=>some true
  |.slice _,.arr b _ _ _ _ N=>bif S.has b N && ib 0 N then some false else none
  |.slice _,.lst _ (_ :: _)=>some false
  |.slice _,.emp _=>some false
  |.map _ _,.nilm=>some true
  |.func _ _ _,.nilf=>some true
  |.func _ _ _,.fn _ _ _=>some false
  |_,_=>none
theorem ya1 (h:TRel GL A β S s) {d:nd} {t:T} {v:Value} {b:Bool} (hv:VT A β (zaa s.obj) t v) (ht:tNil S d t=some b):nilT d v=some b:=by
  unfold tNil at ht;split at ht
  . cases ht;cases hv;rfl
  . rename_i b' _ N
    cases hs:S.has b' N with
    |false=>rw [hs] at ht;simp at ht
    |true =>
      rw [hs] at ht;cases ht;obtain ⟨z,l,hS⟩:=TS.has_ok hs;obtain ⟨f,u,rfl,hb⟩:=zkm h hS hv;rfl
  . cases ht;cases hv;rfl
  . cases ht;cases hv;rfl
  . rename_i b' _ _ _ _ N
    cases hs:(S.has b' N && ib 0 N) with
    |false=>rw [hs] at ht;simp at ht
    |true =>
      rw [hs] at ht;cases ht;simp only [fi] at hs;obtain ⟨z,l,hS⟩:=TS.has_ok hs.1;have:=zae.1 hs.2;rcases zhy h hS hv with ⟨f,u,rfl,hb,htag⟩|⟨rfl,hb,rfl,rfl,rfl,rfl⟩
      . rfl
      . omega
  . cases ht;cases hv;rfl
  . cases ht;cases hv;rfl
  . cases ht;cases hv;rfl
  . cases ht;cases hv;rfl
  . cases ht;cases hv;rfl
  . simp at ht
def tBin (P:gn) (Γ:Env) (S:TS) (t:gm) (op:BinOp) (x y:f6) (a b:T):Option T:=match a,b with
  |.int k m,.int k' n=>zbr op k k' m n
  |.str m,.str n=>zwl op m n
  |.bool m,.bool n=>(match Γ.ti.at t with
    |some i=>(match i.desc,op with|.bool,.eql=>some (.bool (m == n))|.bool,.neq=>some (.bool (!(m == n)))|_,_=>none)
    |none=>none)
  |.agg m,.agg n=>zon P t op x y m n
  |a,b=>(match Γ.ti.at t with
    |some i=>(match tNil S i.desc a,tNil S i.desc b with
      |some p,some q=>bif p || q then (match op with|.eql=>some (.bool (p && q))|.neq=>some (.bool (!(p && q)))|_=>none) else none
      |_,_=>none)
    |none=>none)
theorem z80 {op:BinOp} {v w:Value} {d:nd} {p:Bool} (h:nilT d v=some p):binC op v w=none:=by
  unfold nilT at h;split at h<;>first | (simp at h;done)|rfl
theorem ylg (hE:zec P Γ) (h:TRel GL A β S s) {t t2:gm} {op:BinOp} {x y:f6} {o:Oper} {a b r:T} {ρ:f6->Value} (ho:o.op=.binOp op t x y t2) (hx:VT A β (zaa s.obj) a (ρ x)) (hy:VT A β (zaa s.obj) b (ρ y)) (ht:tBin P Γ S t op x y a b=some r):Ok0 GL A β S s (zml P Γ ρ o s t op (ρ x) (ρ y)) r:=by
  unfold tBin at ht;split at ht
  . rename_i k m k' n;obtain ⟨v,h1,h2⟩:=ydt (A:=A) (β:=β) (s:=s) (P:=P) (Γ:=Γ) ht;generalize e1:ρ x=vx at hx;generalize e2:ρ y=vy at hy;cases hx;cases hy;rw [h2 ho e1 e2];exact mq h h1
  . rename_i m n;obtain ⟨v,h1,h2⟩:=ya8 (A:=A) (β:=β) (s:=s) (P:=P) (Γ:=Γ) ht;generalize e1:ρ x=vx at hx;generalize e2:ρ y=vy at hy;cases hx;cases hy;rw [h2 ho e1 e2];exact mq h h1
  . rename_i m n;generalize e1:ρ x=vx at hx;generalize e2:ρ y=vy at hy;cases hx;cases hy;split at ht
    . rename_i i hi;have hd:=(hE.ti _ _ hi).und;split at ht
      . rename_i hdb;cases ht;rw [hdb] at hd
        rw [zm8 ho e1 e2 rfl (fun d=>z1w d m) rfl rfl (by unfold l9;simp) (r:=.bool (m == n)) (by
          show za8 P (do pure (Value.bool (<- Op.equal t (.bool m) (.bool n))):Sem Value)=_
          rw [zhc (zmf hd)];rfl) rfl]
        exact mq h (.bool _)
      . rename_i hdb;cases ht;rw [hdb] at hd
        rw [zm8 ho e1 e2 rfl (fun d=>z1w d m) rfl rfl (by unfold l9;simp) (r:=.bool (!(m == n))) (by
          show za8 P (do pure (Value.bool (!(<- Op.equal t (.bool m) (.bool n)))):Sem Value)=_
          rw [zhc (zmf hd)];rfl) rfl]
        exact mq h (.bool _)
      . simp at ht
    . simp at ht
  . rename_i m n;generalize e1:ρ x=vx at hx;generalize e2:ρ y=vy at hy;cases hx;cases hy;rename_i va ha vb hb;unfold zon at ht;split at ht
    . rename_i wa wb h1 h2;obtain ⟨rfl,k1⟩:=zto h1 ‹VL A β (zaa s.obj) m _›;obtain ⟨rfl,k2⟩:=zto h2 ‹VL A β (zaa s.obj) n _›;split at ht
      . rename_i r' hr;cases ht;rw [z9p ho e1 e2 rfl (fun d=>yc2 d _) k1 k2 hr rfl];exact mq h (.bool _)
      . simp at ht
    . simp at ht
  . split at ht
    . rename_i i hi;split at ht
      . rename_i p q h1 h2
        cases hpq:(p || q) with
        |false=>rw [hpq] at ht;simp at ht
        |true =>
          rw [hpq] at ht;simp only [cond_true] at ht;have n1:=ya1 h hx h1;have n2:=ya1 h hy h2;split at ht
          . cases ht
            have:zml P Γ ρ o s t .eql (ρ x) (ρ y)=some (.bool (p && q),s):=by
              unfold zml;rw [z80 n1];simp only;unfold eqC;simp only [hi,n1,n2];unfold nilC;simp only [hpq,cond_true];simp [zhq]
            rw [this];exact mq h (.bool _)
          . cases ht
            have:zml P Γ ρ o s t .neq (ρ x) (ρ y)=some (.bool (!(p && q)),s):=by
              unfold zml;rw [z80 n1];simp only;unfold eqC;simp only [hi,n1,n2];unfold nilC;simp only [hpq,cond_true];simp [zhq]
            rw [this];exact mq h (.bool _)
          . simp at ht
      . simp at ht
    . simp at ht
def tUn (op:UnOp):T->Option T
  |.bool b=>(match op with|.not=>some (.bool (!b))|_=>none)
  |.int k a=>(match op with
    |.neg=>some (.int k (k.wrap (0 - a)))
    |.xor=>some (.int k (k.wrap (i6 k.bits (if k.signed then -1 else k.max) ^^^ i6 k.bits a).toNat))
    |_=>none)
  |_=>none
theorem yng (h:TRel GL A β S s) {t:gm} {op:UnOp} {x:f6} {o:Oper} {a r:T} {ρ:f6->Value} (ho:o.op=.unOp op t x) (hx:VT A β (zaa s.obj) a (ρ x)) (ht:tUn op a=some r):Ok0 GL A β S s (zhq P ρ o s (unC op (ρ x))) r:=by
  obtain ⟨d,opx,ty,pos,e,g⟩:=o;simp only at ho;subst ho;unfold tUn at ht;split at ht
  . rename_i b;generalize e1:ρ x=vx at hx;cases hx;split at ht
    . cases ht;exact mq h (.bool _)
    . simp at ht
  . rename_i k m;generalize e1:ρ x=vx at hx;cases hx;split at ht
    . cases ht;rw [ynz e1];exact mq h (.int _ _)
    . cases ht;rw [yny e1];exact mq h (.int _ _)
    . simp at ht
  . simp at ht
def zvh:List T->Option (List UInt8)
  |[]=>some []
  |.int .u8 k :: l=>(match zvh l with|some r=>some (UInt8.ofNat k.toNat :: r)|none=>none)
  |_ :: _=>none
theorem z3r {g:Nat->Fam}:∀ {l:List T} {vs:List Value} {r:List UInt8},VL A β g l vs->zvh l=some r->z0i vs=some r
  |[],_,r,.nil,h=>by simp only [zvh,fd] at h;subst h;rfl
  |t :: l,_,r,.cons h1 h2,h=>by
    unfold zvh at h;split at h
    . simp_all
    . rename_i k l' hh;cases hh;split at h
      . rename_i r' hr;cases h;cases h1;unfold z0i;rw [z3r h2 hr]
      . simp at h
    . simp at h
def tStr (Γ:Env) (S:TS) (d1 d2:nd) (x:T):Option T:=match d1,d2 with
  |.slice e,.string=>bif isU8 Γ e then (match tSrc S 1 x with
    |some (_,xs)=>(match zvh xs with|some r=>some (.str ⟨r.toArray⟩)|none=>none)
    |none=>none) else none
  |_,_=>none
theorem z3x (h:TRel GL A β S s) {src dst:gm} {x:f6} {o:Oper} {a r:T} {ρ:f6->Value} {i j:TI} (hi:Γ.ti.at src=some i) (hj:Γ.ti.at dst=some j) (hx:VT A β (zaa s.obj) a (ρ x)) (ht:tStr Γ S i.desc j.desc a=some r) (hsl:∀ n xs,tSrc S 1 a=some (n,xs)->∃ aa c m,ρ x=.slice aa m c):Ok0 GL A β S s (zd1 P Γ ρ o s src dst (ρ x)) r:=by
  unfold tStr at ht;split at ht
  . rename_i e hd1 hd2
    cases hq:isU8 Γ e with
    |false=>rw [hq] at ht;simp at ht
    |true =>
      rw [hq] at ht;simp only [cond_true] at ht;split at ht
      . rename_i n xs hsrc;obtain ⟨e1,e2,e3⟩:=z3y h (show 0<1 by omega) hx hsrc;obtain ⟨ys,s1,f1,f2,f3⟩:=e3 n (fm _);rw [ii (by omega)] at f2;split at ht
        . rename_i r' hr';cases ht;obtain ⟨aa,c,m,hsl⟩:=hsl n xs hsrc;rw [hsl] at e1 f1 ⊢;simp only [lenC,fd] at e1;subst e1
          have:zd1 P Γ ρ o s src dst (.slice aa m c)=some (.string ⟨r'.toArray⟩,s1):=by
            unfold zd1;simp only [hi,hj,hd1,hd2,hq,cond_true];rw [f1];unfold strC;simp only [z3r f2 hr']
          rw [this];exact Ok0.rd h (f3.rel0 h) (.str _)
        . simp at ht
      . simp at ht
  . simp at ht
def zri (Γ:Env) (S:TS) (src dst:gm) (x:T):Option T:=match Γ.ti.at src,Γ.ti.at dst with
  |some i,some j=>(match x with
    |.int _ n=>(match j.desc with|.int k=>some (.int k (k.wrap n))|_=>none)
    |.str b=>(match i.desc,j.desc with
      |.string,.slice e=>bif isU8 Γ e && gz b.size 1000000000 then some (.lst 1 (zhw b)) else none
      |.string,.string=>some (.str b)
      |_,_=>none)
    |.lst e' l=>tStr Γ S i.desc j.desc (.lst e' l)
    |.arr b e' off len cap N=>tStr Γ S i.desc j.desc (.arr b e' off len cap N)
    |.nils=>tStr Γ S i.desc j.desc .nils
    |_=>none)
  |_,_=>none
theorem z8f {ρ:f6->Value} {o:Oper} {src dst e:gm} {i j:TI} {b:ByteArray} (hi:Γ.ti.at src=some i) (hj:Γ.ti.at dst=some j) (hd1:i.desc=.string) (hd2:j.desc=.slice e) (hq:(isU8 Γ e && gz b.size 1000000000)=true):zd1 P Γ ρ o s src dst (.string b)=zh1 b.size b.size (s.newRow 2 (zi9 b)):=by
  unfold zd1;simp only [hi,hj,hd1,hd2,hq,cond_true]
theorem z0s (hE:zec P Γ) (h:TRel GL A β S s) {src dst:gm} {x:f6} {o:Oper} {a r:T} {ρ:f6->Value} (ho:o.op=.convert src dst x) (hx:VT A β (zaa s.obj) a (ρ x)) (ht:zri Γ S src dst a=some r):Ok0 GL A β S s (zd1 P Γ ρ o s src dst (ρ x)) r:=by
  unfold zri at ht;split at ht
  . rename_i i j hi hj;split at ht
    . rename_i k n;generalize e1:ρ x=vx at hx;cases hx;split at ht
      . rename_i k' hd;cases ht;obtain ⟨d,opx,ty,pos,e,g⟩:=o;simp only at ho;subst ho;have hs:=(hE.ti _ _ hi).und;have hdd:=(hE.ti _ _ hj).und;rw [hd] at hdd;unfold zd1;simp only [hi,hj,hd];rw [yn2 ⟨k,e1⟩ (by rw [hs];rfl) hdd];exact mq h (.int _ _)
      . simp at ht
    . rename_i b;generalize e1:ρ x=vx at hx;cases hx;split at ht
      . rename_i e hd1 hd2
        cases hq:(isU8 Γ e && gz b.size 1000000000) with
        |false=>rw [hq] at ht;simp at ht
        |true =>
          rw [hq] at ht;cases ht;have hv:VL A β (zaa s.obj) (zhw b) (zi9 b):=zs1 _;obtain ⟨s',A',k1,k2,k3,k4,k5⟩:=h.newFrozen 2 (by omega) hv;rw [z8f hi hj hd1 hd2 hq,k1];refine ⟨_,s',A',rfl,k4,?_,k5⟩
          have hfm:(zhw b).flatMap jc=zhw b:=by
            unfold zhw yhn;rw [List.flatMap_map]
            have:∀ l:List UInt8,List.flatMap (fun (a:UInt8)=>(fg IntKind.u8 (a.toNat:Int)).cells) l=l.map fun a=>.int .u8 (a.toNat:Int):=by
              intro l
              induction l with
              |nil=>rfl
              |cons c l ih=>rw [i9,ih];rfl
            exact this _
          have hln:(zhw b).length=b.size:=by simp [zhw]
          have:=VT.lst (A:=A') (β:=β) (g:=zaa s'.obj) (e:=1) (off:=0) (cap:=b.size) (l:=zhw b) k2 k3 (by rw [hfm];exact k5.stp.vl h hv) (fun t ht=>by
            obtain ⟨c,_,rfl⟩:=jn.1 ht
            rfl) (by omega) (by rw [gl,l8]) (.inr (by omega)) (by omega)
          rw [hln] at this;exact this
      . rename_i hd1 hd2;cases ht
        have:zd1 P Γ ρ o s src dst (.string b)=some (.string b,s):=by
          unfold zd1;simp only [hi,hj,hd1,hd2]
        rw [this];exact mq h (.str _)
      . simp at ht
    . refine z3x h hi hj hx ht fun n xs hs=>?_;generalize ρ x=vx at hx
      cases hx with
      |lnil=>exact ⟨_,_,_,rfl⟩
      |lst=>exact ⟨_,_,_,rfl⟩
    . rename_i b e' off len cap N;refine z3x h hi hj hx ht fun n xs hs=>?_;unfold tSrc at hs;simp only at hs;split at hs
      . rename_i z N' l hS
        cases hq:(fx N N' && (fx e' 1 && gz (off+len*1) N)) with
        |false=>rw [hq] at hs;simp at hs
        |true =>
          simp only [fi] at hq;have:=fk hq.1;subst this;rcases zhy h hS hx with ⟨f,u,h1,hb,_⟩|⟨h1,_⟩
          . exact ⟨_,_,_,h1⟩
          . exact ⟨_,_,_,h1⟩
      . simp at hs
    . refine z3x h hi hj hx ht fun n xs hs=>?_;generalize ρ x=vx at hx;cases hx;exact ⟨_,_,_,rfl⟩
    . simp at ht
  . simp at ht
def zsg (Γ:Env) (S:TS) (src dst:gm) (x:T):Option (T×TS):=match Γ.ti.at src,Γ.ti.at dst,x with
  |some i,some j,.str b=>(match i.desc,j.desc with
    |.string,.slice e=>bif isU8 Γ e && gz b.size 1000000000 then some (.arr S.n 1 0 b.size b.size (zhw b).length,S.add (.cells false (zhw b).length (zhw b))) else none
    |_,_=>none)
  |_,_,_=>none
theorem z30 (h:TRel GL A β S s) {src dst:gm} {x:f6} {o:Oper} {a r:T} {ρ:f6->Value} (hx:VT A β (zaa s.obj) a (ρ x)) (ht:zsg Γ S src dst a=some (r,S')):Ok GL A β s (zd1 P Γ ρ o s src dst (ρ x)) r S':=by
  unfold zsg at ht;split at ht
  . rename_i i j b hi hj;generalize e1:ρ x=vx at hx;cases hx;split at ht
    . rename_i e hd1 hd2
      cases hq:(isU8 Γ e && gz b.size 1000000000) with
      |false=>rw [hq] at ht;simp at ht
      |true =>
        rw [hq] at ht;cases ht;have hv:VL A β (zaa s.obj) (zhw b) (zi9 b):=zs1 _
        have hone:(zhw b).all m9=true:=by
          unfold zhw yhn;rw [h9];intro t ht;obtain ⟨c,_,rfl⟩:=jn.1 ht;rfl
        obtain ⟨s',β',k1,k2,k3,k4⟩:=h.newBox 2 (by omega) hv (hv.one hone);rw [z8f hi hj hd1 hd2 hq,k1];exact ⟨_,s',A,β',rfl,k3,.arr k2 (.inr (by omega)),k4⟩
    . simp at ht
  . simp at ht
end
def zjw (Γ:Env) (t:gm) (k:T):Bool:=match Γ.ti.at t with
  |some i=>(match i.desc,k with|.int a,.int b _=>fx (ikN a) (ikN b)|.string,.str _=>true|.bool,.bool _=>true|_,_=>false)
  |none=>false
def zwj:T->T->Option Bool
  |.int k a,.int k' b=>bif fx (ikN k) (ikN k') then some (a == b) else none
  |.str a,.str b=>some (a.data.toList == b.data.toList)
  |.bool a,.bool b=>some (a == b)
  |_,_=>none
def tGet (k:T):List (T×T)->Option (Option T)
  |[]=>some none
  |(k',v) :: l=>match zwj k k' with
    |some true=>some (some v)
    |some false=>tGet k l
    |none=>none
def tSet (k v:T):List (T×T)->Option (List (T×T))
  |[]=>some [(k,v)]
  |(k',v') :: l=>match zwj k k' with
    |some true=>some ((k,v) :: l)
    |some false=>(match tSet k v l with|some l=>some ((k',v') :: l)|none=>none)
    |none=>none
def zgk (i:TI):Option T:=bif aggT i.desc then (match zgj i.zero with|some l=>some (.agg l)|none=>none) else match i.zero with | [z]=>zln z|_=>none
def z7u (ok:Bool) (z:T):Option T->T
  |some v=>bif ok then .tup [v,.bool true] else v
  |none=>bif ok then .tup [z,.bool false] else z
def zd4 (Γ:Env) (S:TS) (t:gm) (x k:T) (ok:Bool):Option T:=match Γ.ti.at t with
  |some i=>(match i.desc with
    |.map kt e=>bif zjw Γ kt k then (match Γ.ti.at e with
      |some j=>(match zgk j with
        |some z=>(match x with
          |.nilm=>some (z7u ok z none)
          |.mp b=>(match S.box b with|.map l=>(match tGet k l with|some r=>some (z7u ok z r)|none=>none)|_=>none)
          |_=>none)
        |none=>none)
      |none=>none) else none
    |_=>none)
  |none=>none
def za9 (Γ:Env) (S:TS) (t:gm) (k v m:T):Option TS:=match m,Γ.ti.at t with
  |.mp b,some i=>(match i.desc with
    |.map kt _=>bif zjw Γ kt k then (match S.box b with|.map l=>(match tSet k v l with|some l'=>some (S.set b (.map l'))|none=>none)|_=>none) else none
    |_=>none)
  |_,_=>none
def zcr (S:TS):Option (T×TS):=some (.mp S.n,S.add (.map []))
section
variable {GL:List (Nat×List Value)} {A A':Nat->Prop} {β β':Bx} {S S':TS} {s s':CS} {P:gn} {Γ:Env} {g g':Nat->Fam}
theorem VM.mk {k x:T} {v w:Value} {l:List (T×T)} {es:List (Value×Value)} (a:VT A β g k v) (c:VT A β g x w) (h:VM A β g l es):VM A β g ((k,x) :: l) ((v,w) :: es):=⟨.cons a h.1,.cons c h.2⟩
end
def znm (v:Value):T:=match zln v with
  |some t=>t
  |none=>match v with
    |.agg cs=>(match zgj cs.toList with|some l=>.agg l|none=>.junk)
    |_=>.junk
def yec:List (Nat×List Value)->Nat->T
  |[],_=>.junk
  |x :: l,k=>bif fx x.1 k then (match zgj x.2 with|some c=>.cp c|none=>.junk) else yec l k
def zdf (GL:List (Nat×List Value)) (h:Nat->T):f6->T
  |.tmp t=>h t
  |.const v=>znm v
  |.global k=>yec GL k
  |.func f=>.fn f [] []
def tupd (h:Nat->T) (t:Nat) (v:T):Nat->T:=fun u=>if u=t then v else h u
theorem zhf (h:Nat->T) (t:Nat) (v:T):tupd h t v t=v:=zAc rfl
theorem zlp (h:Nat->T) (t u:Nat) (v:T) (hn:u≠t):tupd h t v u=h u:=zAd hn
def putT (h:Nat->T):Option Tmp->T->Nat->T
  |some d,v=>tupd h d v
  |none,_=>h
def zhz (S:TS):Option T->Option (T×TS)
  |some t=>some (t,S)
  |none=>none
def yaq:Option TS->Option (T×TS)
  |some S=>some (.junk,S)
  |none=>none
def ownD (own:List Nat) (d:Option Tmp):Bool:=match d with|some d=>has own d|none=>false
def zmn (Γ:Env) (S:TS) (ρ:f6->T) (b:Builtin) (args:List f6) (ts:List gm):Option T:=match b with
  |.len=>(match args,ts with | [x],[t]=>tLen Γ S t (ρ x)|_,_=>none)
  |.min=>(match args with | [x,y]=>(match ρ x,ρ y with|.int k a,.int _ b=>some (.int k (min a b))|_,_=>none)|_=>none)
  |.max=>(match args with | [x,y]=>(match ρ x,ρ y with|.int k a,.int _ b=>some (.int k (max a b))|_,_=>none)|_=>none)
  |_=>none
def zgn (P:gn) (Γ:Env) (ρ:f6->T) (o:Oper) (S:TS):Option T :=
  match o.op with
  |.move x=>some (ρ x)
  |.assign x=>some (ρ x)
  |.pick c a b=>(match ρ c with|.bool t=>some (bif t then ρ a else ρ b)|_=>none)
  |.build t parts=>zj4 Γ ρ t parts.toList
  |.buildSlice t n parts=>zam Γ ρ t n parts.toList
  |.load t x=>ztb Γ S t (ρ x)
  |.makeFunc fn first captured=>(match fn with|.func f=>some (.fn f (first.toList.map ρ) (captured.toList.map ρ))|_=>none)
  |.slice t x lo hi mx=>zta Γ S t (ρ x) (lo.map ρ) (hi.map ρ) (mx.map ρ)
  |.fieldAddr t x k=>zao Γ S t k (ρ x)
  |.indexAddr t x ix=>zh6 Γ S t (ρ x) (ρ ix)
  |.index t x ix=>ztc Γ t (ρ x) (ρ ix)
  |.extract x k=>zlq k (ρ x)
  |.unOp op _ x=>tUn op (ρ x)
  |.convert src dst x=>zri Γ S src dst (ρ x)
  |.binOp op t x y _=>tBin P Γ S t op x y (ρ x) (ρ y)
  |.call c=>(match c.callee with
    |.builtin b=>zmn Γ S ρ b c.args.toList c.argTypes.toList
    |_=>none)
  |_=>none
def zgq (P:gn) (Γ:Env) (own:List Nat) (ρ:f6->T) (o:Oper) (S:TS):Option (T×TS) :=
  match o.op with
  |.alloc e=>zwk Γ S e
  |.box _ x=>tBox S (ρ x)
  |.buildSlice t n parts=>bif ownD own o.dst then zar Γ S ρ t n parts.toList else zhz S (zam Γ ρ t n parts.toList)
  |.store t x v=>yaq (zwi Γ S t (ρ v) (ρ x))
  |.makeSlice t l c=>zjh Γ S t (ρ l) (ρ c)
  |.convert src dst x=>bif ownD own o.dst then zsg Γ S src dst (ρ x) else zhz S (zri Γ S src dst (ρ x))
  |.call c=>(match c.callee with
    |.builtin .append=>(match c.args.toList,c.argTypes.toList with | [x,y],[t,tx]=>bif srcT Γ tx then zmp Γ S t (ρ y) (ρ x) else none|_,_=>none)
    |.builtin .clear=>(match c.args.toList,c.argTypes.toList with | [x],[t]=>ztd Γ S t (ρ x)|_,_=>none)
    |.builtin b=>zhz S (zmn Γ S ρ b c.args.toList c.argTypes.toList)
    |_=>none)
  |_=>zhz S (zgn P Γ ρ o S)
section
variable {GL:List (Nat×List Value)} {A A' A2:Nat->Prop} {β β' β2:Bx} {S S':TS} {s s' s2:CS} {P:gn} {Γ:Env}
theorem VT.undf {g:Nat->Fam}:VT A β g (.tup []) undef:=VT.tup (vs:=[]) .nil
theorem yev {g:Nat->Fam} (v:Value):VT A β g (znm v) v:=by
  unfold znm;split
  . rename_i t ht;exact (z5n ht).1
  . split
    . rename_i cs;split
      . rename_i l hl;obtain ⟨cs⟩:=cs;exact .agg (zjn hl).1
      . exact .junk _
    . exact .junk _
theorem z7q {g:Nat->Fam}:∀ (L:List (Nat×List Value)) (k:Nat),(∀ x,x∈L->A x.1/\zbq (g x.1).rows (x.1*1024)=some x.2)->VT A β g (yec L k) (.pointer (some (mkA k (k*1024) 0)))
  |[],k,_=>.junk _
  |x :: l,k,h=>by
    unfold yec
    cases hb:fx x.1 k with
    |false=>exact z7q l k fun y hy=>h y (by simp [hy])
    |true =>
      have:=fk hb;subst this;simp only [cond_true];split
      . rename_i c hc;obtain ⟨h1,h2⟩:=h x (by simp);exact .cp h1 h2 (zjn hc).1 (by rw [gl,l8])
      . exact .junk _
structure FrOk (A:Nat->Prop) (β:Bx) (g:Nat->Fam) (N:Nat) (h:Nat->T) (fr:Fr):Prop where
  nt:fr.nt=N
  le:N<=512
  slot:∀ t,VT A β g (h t) (fr.get t)
theorem FrOk.mono {N:Nat} {h:Nat->T} {fr:Fr} {g g':Nat->Fam} (k:FrOk A β g N h fr) (hA:∀ f,A f->A' f) (hg:∀ f,A f->g' f=g f) (hβ:Bx.le β β'):FrOk A' β' g' N h fr:=⟨k.nt,k.le,fun t=>(k.slot t).mono hA hg hβ⟩
theorem FrOk.eval (hT:TRel GL A β S s) {N:Nat} {h:Nat->T} {fr:Fr} (k:FrOk A β (zaa s.obj) N h fr) (x:f6):VT A β (zaa s.obj) (zdf GL h x) (zg6 fr x):=by
  cases x with
  |tmp t=>exact k.slot t
  |const v=>exact yev v
  |global g=>exact z7q GL g hT.glob
  |func f=>exact .fn .nil .nil
def zff (N:Nat) (ops:List Oper):Bool:=ops.all fun o=>match o.dst with|some d=>ib d N|none=>true
theorem FrOk.put {N:Nat} {h:Nat->T} {fr:Fr} {g:Nat->Fam} (k:FrOk A β g N h fr) {d:Option Tmp} (hd:∀ t,d=some t->t<N) {t:T} {v:Value} (hv:VT A β g t v):FrOk A β g N (putT h d t) (putC fr d v):=by
  cases d with
  |none=>exact k
  |some d =>
    have hdN:=hd d rfl;refine ⟨?_,k.le,fun u=>?_⟩
    . show (fr.put d v).nt=N;unfold Fr.put;rw [zcl];split<;>exact k.nt
    . show VT A β g (tupd h d t u) ((fr.put d v).get u);by_cases hu:u=d
      . subst hu;rw [zhf,Fr.get_put_same v (by rw [k.nt];exact hdN) (by rw [k.nt];exact k.le)];exact hv
      . rw [zlp _ _ _ _ hu,so v (by rw [k.nt];exact k.le) (fun hh=>hu hh.symm)];exact k.slot u
theorem zvi {g:Nat->Fam} {ρT:f6->T} {ρ:f6->Value} (hρ:∀ x,VT A β g (ρT x) (ρ x)):∀ (l:List f6),VL A β g (l.map ρT) (l.map ρ)
  |[]=>.nil
  |x :: l=>.cons (hρ x) (zvi hρ l)
theorem yfk {g:Nat->Fam} {ρT:f6->T} {ρ:f6->Value} (hρ:∀ x,VT A β g (ρT x) (ρ x)):∀ (l:Option f6),VO A β g (l.map ρT) (l.map ρ)
  |none=>.none
  |some x=>.some (hρ x)
theorem zse {r:Option T} {t:T} {S1 S2:TS} (h:zhz S1 r=some (t,S2)):r=some t/\S2=S1:=by
  unfold zhz at h;split at h
  . cases h;exact ⟨rfl,rfl⟩
  . simp at h
theorem yfs {r:Option TS} {t:T} {S2:TS} (h:yaq r=some (t,S2)):r=some S2/\t=.junk:=by
  unfold yaq at h;split at h
  . cases h;exact ⟨rfl,rfl⟩
  . simp at h
theorem zrj (hT:TRel GL A β S s) {ρT:f6->T} {ρ:f6->Value} (hρ:∀ x,VT A β (zaa s.obj) (ρT x) (ρ x)) {o:Oper} {b:Builtin} {args:Array f6} {ts:Array gm} {r:T} (ho:o.op=.call ⟨.builtin b,args,ts⟩) (ht:zmn Γ S ρT b args.toList ts.toList=some r):Ok0 GL A β S s (zfz P Γ ρ o s b args.toList ts.toList) r:=by
  unfold zmn at ht;split at ht
  . split at ht
    . rename_i x t e1 e2;rw [e1,e2];exact yle hT (hρ x) ht
    . simp at ht
  . split at ht
    . rename_i x y e1;split at ht
      . rename_i k a k' b' e2 e3;cases ht;obtain ⟨args⟩:=args;simp only at e1;subst e1;obtain ⟨d,opx,ty,pos,e,g⟩:=o;simp only at ho;subst ho;have h1:=hρ x;have h2:=hρ y;rw [e2] at h1;rw [e3] at h2;generalize f1:ρ x=vx at h1;generalize f2:ρ y=vy at h2;cases h1;cases h2;show Ok0 GL A β S s (zfz P Γ ρ _ s .min [x,y] ts.toList) _;rw [o_min f1 f2];exact mq hT (.int _ _)
      . simp at ht
    . simp at ht
  . split at ht
    . rename_i x y e1;split at ht
      . rename_i k a k' b' e2 e3;cases ht;obtain ⟨args⟩:=args;simp only at e1;subst e1;obtain ⟨d,opx,ty,pos,e,g⟩:=o;simp only at ho;subst ho;have h1:=hρ x;have h2:=hρ y;rw [e2] at h1;rw [e3] at h2;generalize f1:ρ x=vx at h1;generalize f2:ρ y=vy at h2;cases h1;cases h2;show Ok0 GL A β S s (zfz P Γ ρ _ s .max [x,y] ts.toList) _;rw [o_max f1 f2];exact mq hT (.int _ _)
      . simp at ht
    . simp at ht
  . simp at ht
theorem z5y (hE:zec P Γ) (hT:TRel GL A β S s) {ρT:f6->T} {ρ:f6->Value} (hρ:∀ x,VT A β (zaa s.obj) (ρT x) (ρ x)) {call:zee} {o:Oper} {r:T} (ht:zgn P Γ ρT o S=some r):Ok0 GL A β S s (cop P Γ call ρ o s) r:=by
  unfold zgn at ht;split at ht
  . rename_i x ho;cases ht;unfold cop;simp only [ho];exact mq hT (hρ x)
  . rename_i x ho;cases ht;unfold cop;simp only [ho];exact mq hT (hρ x)
  . rename_i c a b ho;split at ht
    . rename_i t hc;cases ht;unfold cop;simp only [ho];have h1:=hρ c;rw [hc] at h1;generalize f1:ρ c=vc at h1;cases h1;rw [yls]
      cases t with
      |true=>exact mq hT (hρ a)
      |false=>exact mq hT (hρ b)
    . simp at ht
  . rename_i t parts ho;unfold cop;simp only [ho];exact ya4 hT hρ ht
  . rename_i t n parts ho;unfold cop;simp only [ho];exact zmo hT hρ ht
  . rename_i t x ho;unfold cop;simp only [ho];exact yfy hT (hρ x) ht
  . rename_i fn first captured ho
    split at ht
    . rename_i f;cases ht;unfold cop;simp only [ho];have e1:first.map ρ=⟨first.toList.map ρ⟩:=by rw [<- o9]
      have e2:captured.map ρ=⟨captured.toList.map ρ⟩:=by rw [<- o9]
      rw [e1,e2];exact mq hT (.fn (zvi hρ _) (zvi hρ _))
    . simp at ht
  . rename_i t x lo hi mx ho;unfold cop;simp only [ho];exact ya0 hT (hρ x) (yfk hρ _) (yfk hρ _) (yfk hρ _) ht
  . rename_i t x k ho;unfold cop;simp only [ho];exact zyx hT (hρ x) ht
  . rename_i t x ix ho;unfold cop;simp only [ho];exact zyw hT (hρ x) (hρ ix) ht
  . rename_i t x ix ho;unfold cop;simp only [ho];exact ya2 hT (hρ x) (hρ ix) ht
  . rename_i x k ho;unfold cop;simp only [ho];exact z3z hT (hρ x) ht
  . rename_i op t x ho;unfold cop;simp only [ho];exact yng hT ho (hρ x) ht
  . rename_i src dst x ho;unfold cop;simp only [ho];exact z0s hE hT ho (hρ x) ht
  . rename_i op t x y t2 ho;unfold cop;simp only [ho];exact ylg hE hT ho (hρ x) (hρ y) ht
  . rename_i c ho;split at ht
    . rename_i b hc;obtain ⟨cal,args,tys⟩:=c;simp only at hc ht;subst hc;unfold cop;simp only [ho];exact zrj hT hρ ho ht
    . simp at ht
  . simp at ht
theorem zyy (hE:zec P Γ) (hT:TRel GL A β S s) {own:List Nat} {ρT:f6->T} {ρ:f6->Value} (hρ:∀ x,VT A β (zaa s.obj) (ρT x) (ρ x)) {call:zee} {o:Oper} {r:T} (ht:zgq P Γ own ρT o S=some (r,S')):Ok GL A β s (cop P Γ call ρ o s) r S':=by
  unfold zgq at ht;split at ht
  . rename_i e ho;unfold cop;simp only [ho];exact ya6 hT ht
  . rename_i e x ho;unfold cop;simp only [ho];exact ylf hT (hρ x) ht
  . rename_i t n parts ho;unfold cop;simp only [ho]
    cases hw:ownD own o.dst with
    |true=>rw [hw] at ht;exact z0t hT hρ ht
    |false =>
      rw [hw] at ht;obtain ⟨h1,rfl⟩:=zse ht;exact (zmo hT hρ h1).ok
  . rename_i t x v ho;obtain ⟨h1,rfl⟩:=yfs ht;unfold cop;simp only [ho];exact yaz hT (hρ x) (hρ v) h1
  . rename_i t l c ho;unfold cop;simp only [ho];exact zyv hT (hρ l) (hρ c) ht
  . rename_i src dst x ho;unfold cop;simp only [ho]
    cases hw:ownD own o.dst with
    |true=>rw [hw] at ht;exact z30 hT (hρ x) ht
    |false =>
      rw [hw] at ht;obtain ⟨h1,rfl⟩:=zse ht;exact (z0s hE hT ho (hρ x) h1).ok
  . rename_i c ho;obtain ⟨cal,args,tys⟩:=c;simp only at ht;split at ht
    . split at ht
      . rename_i x y t tx e1 e2;unfold cop;simp only [ho];rw [e1,e2]
        cases hq:srcT Γ tx with
        |false=>rw [hq] at ht;simp at ht
        |true =>
          rw [hq,cond_true] at ht;rw [ycw hq];exact z86 hT (hρ x) (hρ y) ht
      . simp at ht
    . split at ht
      . rename_i x t e1 e2;unfold cop;simp only [ho];rw [e1,e2];exact ya3 hT (hρ x) ht
      . simp at ht
    . obtain ⟨h1,rfl⟩:=zse ht;unfold cop;simp only [ho];exact (zrj hT hρ ho h1).ok
    . simp at ht
  . obtain ⟨h1,rfl⟩:=zse ht;exact (z5y hE hT hρ h1).ok
end
def Call (P:gn) (Γ:Env) (GL:List (Nat×List Value)) (f:mb) (args:List T) (S:TS) (v:T) (S':TS):Prop :=
  ∀ A β s vargs,TRel GL A β S s->VL A β (zaa s.obj) args vargs->Ok GL A β s (zel P Γ f vargs s) v S'
def zix (ops:List Oper) (h:Nat->T):Option (Nat×Bool)->Option Bool
  |none=>some true
  |some (j,want)=>match zo1 ops j with
    |some d=>(match h d with|.bool b=>some (b == want)|.tup _=>some false|_=>none)
    |none=>none
def z0d (P:gn) (Γ:Env) (GL:List (Nat×List Value)) (S:TS) (args:List T) (f:T) (r:T×TS):Option Prop:=match f with
  |.fn k first cap=>some (Call P Γ GL k (first++args++cap) S r.1 r.2)
  |_=>none
def andT (p:Prop):Option (Prop×(Nat->T)×TS)->Option (Prop×(Nat->T)×TS)
  |some (q,h,S)=>some (p/\q,h,S)
  |none=>none
def runT (P:gn) (Γ:Env) (GL:List (Nat×List Value)) (own:List Nat) (ops:List Oper):List Oper->(Nat->T)->TS->List (T×TS)->Option (Prop×(Nat->T)×TS)
  |[],h,S,_=>some (True,h,S)
  |o :: l,h,S,outs=>match zix ops h o.guard with
    |none=>none
    |some false=>runT P Γ GL own ops l (putT h o.dst (.tup [])) S outs
    |some true=>match o.op with
      |.call ⟨.value f,args,tys⟩=>(match outs with
        |r :: outs=>(match z0d P Γ GL S (args.toList.map (zdf GL h)) (zdf GL h f) r with
          |some p=>andT p (runT P Γ GL own ops l (putT h o.dst r.1) r.2 outs)
          |none=>none)
        |[]=>none)
      |_=>(match zgq P Γ own (zdf GL h) o S with
        |some (t,S1)=>runT P Γ GL own ops l (putT h o.dst t) S1 outs
        |none=>none)
section
variable {GL:List (Nat×List Value)} {A A' A2:Nat->Prop} {β β' β2:Bx} {S S':TS} {s s' s2:CS} {P:gn} {Γ:Env}
theorem ziw {g:Nat->Fam} {ops:List Oper} {h:Nat->T} {N:Nat} {fr:Fr} {o:Oper} {b:Bool} (k:FrOk A β g N h fr) (hg:zix ops h o.guard=some b):zc9 ops fr o=b:=by
  unfold zix at hg;unfold zc9;split at hg
  . rename_i hh;cases hg;rw [hh]
  . rename_i j want hh;rw [hh];split at hg
    . rename_i d hd;simp only [hd];split at hg
      . rename_i b' hb;have:=k.slot d;rw [hb] at this;generalize fr.get d=v at this;cases this;simp only [fd] at hg;exact hg
      . rename_i l hb;have:=k.slot d;rw [hb] at this;generalize fr.get d=v at this;cases this;simp only [fd] at hg;exact hg
      . simp at hg
    . simp at hg
def Left (GL:List (Nat×List Value)) (A:Nat->Prop) (β:Bx) (s:CS) (N:Nat) (fr':Fr) (s':CS) (h':Nat->T) (S':TS):Prop :=
  ∃ A' β',FrOk A' β' (zaa s'.obj) N h' fr'/\TRel GL A' β' S' s'/\Stp A β s A' β' s'
theorem Left.trans {N:Nat} {fr' fr2:Fr} {h' h2:Nat->T} {S2:TS} (hl:s.lim<=s.n) (hS:Stp A β s A' β' s') (k:Left GL A' β' s' N fr2 s2 h2 S2):Left GL A β s N fr2 s2 h2 S2:=by
  obtain ⟨A2,β2,k1,k2,k3⟩:=k;exact ⟨A2,β2,k1,k2,hS.trans hl k3⟩
theorem z4a (hE:zec P Γ) {own:List Nat} {ops:List Oper} {N:Nat}:∀ {l:List Oper} {h h':Nat->T} {S S':TS} {outs:List (T×TS)} {ob:Prop} {A:Nat->Prop} {β:Bx} {fr:Fr} {s:CS},zff N l=true->FrOk A β (zaa s.obj) N h fr->TRel GL A β S s->runT P Γ GL own ops l h S outs=some (ob,h',S')->ob ->
    ∃ fr' s',runC P Γ (zel P Γ) ops l fr s=some (fr',s')/\Left GL A β s N fr' s' h' S'
  |[],h,h',S,S',outs,ob,A,β,fr,s,hd,hF,hT,hr,hob=>by
    simp only [runT,fd,fl] at hr;obtain ⟨rfl,rfl,rfl⟩:=hr;exact ⟨fr,s,rfl,A,β,hF,hT,rn⟩
  |o :: l,h,h',S,S',outs,ob,A,β,fr,s,hd,hF,hT,hr,hob=>by
    have hd':zff N l=true/\∀ t,o.dst=some t->t<N:=by
      unfold zff at hd ⊢;rw [jm,fi] at hd;refine ⟨hd.2,fun t ht=>?_⟩;have:=hd.1;rw [ht] at this;exact zae.1 this
    -- one step that is done
    have go:∀ {t:T} {S1:TS} {r:Option (Value×CS)} {l':List (T×TS)} {ob':Prop},Ok GL A β s r t S1->(cop P Γ (zel P Γ) (zg6 fr) o s=r)->zc9 ops fr o=true->runT P Γ GL own ops l (putT h o.dst t) S1 l'=some (ob',h',S')->ob'->∃ fr' s',runC P Γ (zel P Γ) ops (o :: l) fr s=some (fr',s')/\Left GL A β s N fr' s' h' S':=by
      rintro t S1 r l' ob' ⟨v,s1,A1,β1,rfl,k1,k2,k3⟩ hc hw hrun hob';have hF1:FrOk A1 β1 (zaa s1.obj) N h fr:=hF.mono k3.sub (k3.old hT) k3.bx;obtain ⟨fr',s',e1,e2⟩:=z4a hE hd'.1 (hF1.put hd'.2 k2) k1 hrun hob';refine ⟨fr',s',?_,Left.trans (h':=h) (fr':=fr) hT.le k3 e2⟩;rw [runC]
      have:zcs P Γ (zel P Γ) ops o fr s=some (putC fr o.dst v,s1):=by
        unfold zcs;rw [hw,cond_true,hc]
      rw [this];exact e1
    unfold runT at hr;split at hr
    . simp at hr
    . rename_i hg;have hw:=ziw hF hg;obtain ⟨fr',s',e1,e2⟩:=z4a hE hd'.1 (hF.put hd'.2 VT.undf) hT hr hob;refine ⟨fr',s',?_,e2⟩;rw [runC]
      have:zcs P Γ (zel P Γ) ops o fr s=some (putC fr o.dst undef,s):=by
        unfold zcs;rw [hw,cond_false]
      rw [this];exact e1
    . rename_i hg;have hw:=ziw hF hg;split at hr
      . rename_i f args tys ho;split at hr
        . rename_i r outs';split at hr
          . rename_i p hp;unfold z0d at hp;split at hp
            . rename_i k first cap hf
              simp only [fd] at hp;subst hp
              cases hrun:runT P Γ GL own ops l (putT h o.dst r.1) r.2 outs' with
              |none=>rw [hrun] at hr;simp [andT] at hr
              |some q =>
                obtain ⟨q1,q2,q3⟩:=q;rw [hrun] at hr;simp only [andT,fd,fl] at hr;obtain ⟨rfl,rfl,rfl⟩:=hr;have hfv:=hF.eval hT f;rw [hf] at hfv;generalize e1:zg6 fr f=vf at hfv
                cases hfv with
                |fn h1 h2 =>
                  rename_i va vc;have hargs:=zvi (hF.eval hT) args.toList;have hcall:=hob.1 A β s _ hT ((h1.append hargs).append h2);refine go hcall ?_ hw hrun hob.2;unfold cop;simp only [ho,e1];unfold zoj;rfl
            . simp at hp
          . simp at hr
        . simp at hr
      . split at hr
        . rename_i t S1 hst;exact go (zyy hE hT (hF.eval hT) hst) rfl hw hr hob
        . simp at hr
end
section
variable {GL:List (Nat×List Value)} {A A' A2:Nat->Prop} {β β' β2:Bx} {S S' S2:TS} {s s' s2:CS} {P:gn} {Γ:Env} {N:Nat} {h h' h2:Nat->T} {Q R:Exit->(Nat->T)->TS->Prop}
def TW (P:gn) (Γ:Env) (GL:List (Nat×List Value)) (N:Nat) (c:Code) (h:Nat->T) (S:TS) (Q:Exit->(Nat->T)->TS->Prop):Prop :=
  ∀ A β fr s,FrOk A β (zaa s.obj) N h fr->TRel GL A β S s->W P Γ c fr s fun e fr' s'=>∃ h' S',Left GL A β s N fr' s' h' S'/\Q e h' S'
def onT (k:(Nat->T)->TS->Prop) (Q:Exit->(Nat->T)->TS->Prop) (e:Exit) (h:Nat->T) (S:TS):Prop:=match e with
  |.normal=>k h S
  |e=>Q e h S
def onTB (id:Nat) (Q:Exit->(Nat->T)->TS->Prop) (e:Exit) (h:Nat->T) (S:TS):Prop:=match e with
  |.exit i=>bif fx i id then Q .normal h S else Q (.exit i) h S
  |e=>Q e h S
theorem Left.refl {fr:Fr} (hF:FrOk A β (zaa s.obj) N h fr) (hT:TRel GL A β S s):Left GL A β s N fr s h S:=⟨A,β,hF,hT,rn⟩
theorem TW.mono {c:Code} (k:TW P Γ GL N c h S Q) (hq:∀ e h S,Q e h S->R e h S):TW P Γ GL N c h S R:=fun A β fr s hF hT =>
  (k A β fr s hF hT).mono fun e fr' s' ⟨h',S',h1,h2⟩=>⟨h',S',h1,hq _ _ _ h2⟩
theorem TW.skip (k:Q .normal h S):TW P Γ GL N .skip h S Q:=fun A β fr s hF hT=>W.skip ⟨h,S,Left.refl hF hT,k⟩
theorem TW.ret (k:Q .ret h S):TW P Γ GL N .ret h S Q:=fun A β fr s hF hT=>W.ret ⟨h,S,Left.refl hF hT,k⟩
theorem TW.exit {id:Nat} (k:Q (.exit id) h S):TW P Γ GL N (.exit id) h S Q:=fun A β fr s hF hT=>W.exit ⟨h,S,Left.refl hF hT,k⟩
theorem TW.label {l:Nat} (k:Q .normal h S):TW P Γ GL N (.label l) h S Q:=fun A β fr s hF hT=>W.label ⟨h,S,Left.refl hF hT,k⟩
theorem TW.seq {a b:Code} (k:TW P Γ GL N a h S (onT (fun h S=>TW P Γ GL N b h S Q) Q)):TW P Γ GL N (.seq a b) h S Q:=fun A β fr s hF hT=>by
  refine W.seq ((k A β fr s hF hT).mono ?_);rintro e fr' s' ⟨h',S',⟨A',β',k1,k2,k3⟩,hq⟩
  cases e with
  |normal =>
    refine (hq A' β' fr' s' k1 k2).mono ?_;rintro e2 fr2 s2 ⟨h2,S2,l2,q2⟩;exact ⟨h2,S2,Left.trans (h':=h) (fr':=fr) hT.le k3 l2,q2⟩
  |_=>exact ⟨h',S',⟨A',β',k1,k2,k3⟩,hq⟩
theorem TW.cond {c:f6} {t f:Code} {b:Bool} (hb:zdf GL h c=.bool b) (k:TW P Γ GL N (bif b then t else f) h S Q):TW P Γ GL N (.cond c t f) h S Q:=fun A β fr s hF hT=>by
  have:=hF.eval hT c;rw [hb] at this;refine W.cond (b:=b) ?_ (k A β fr s hF hT);generalize zg6 fr c=v at this;cases this;rfl
theorem TW.block {id:Nat} {b:Code} (k:TW P Γ GL N b h S (onTB id Q)):TW P Γ GL N (.block id b) h S Q:=fun A β fr s hF hT=>by
  refine W.block ((k A β fr s hF hT).mono ?_);rintro e fr' s' ⟨h',S',l,hq⟩
  cases e with
  |exit i =>
    simp only [onB];simp only [onTB] at hq
    cases hb:fx i id with
    |true=>rw [hb] at hq;exact ⟨h',S',l,hq⟩
    |false=>rw [hb] at hq;exact ⟨h',S',l,hq⟩
  |_=>exact ⟨h',S',l,hq⟩
theorem TW.scope {b:Code} (k:TW P Γ GL N b h S Q):TW P Γ GL N (.scope b) h S Q:=fun A β fr s hF hT=>W.scope (k A β fr s hF hT)
theorem TW.loop {b:Code} (I:Nat->(Nat->T)->TS->Prop) (hb:∀ n h S,I n h S->TW P Γ GL N b h S (onT (fun h S=>∃ m,m<n/\I m h S) Q)):∀ n h S,I n h S->TW P Γ GL N (.loop b) h S Q:=by
  intro n
  induction n using Nat.strongRecOn with
  |_ n ih =>
    intro h S hI A β fr s hF hT;obtain ⟨e,fr1,s1,h1,h',S',⟨A',β',k1,k2,k3⟩,hq⟩:=hb n h S hI A β fr s hF hT
    cases e with
    |normal =>
      obtain ⟨m,hm,hI'⟩:=hq;obtain ⟨e2,fr2,s2,h3,h2,S2,l2,q2⟩:=ih m hm h' S' hI' A' β' fr1 s1 k1 k2;exact ⟨e2,fr2,s2,Ev.again h1 h3,h2,S2,Left.trans (h':=h) (fr':=fr) hT.le k3 l2,q2⟩
    |_=>exact ⟨_,_,_,Ev.last h1 (by simp),h',S',⟨A',β',k1,k2,k3⟩,hq⟩
theorem TW.region (hE:zec P Γ) {id:Nat} {ops:Array Oper} (own:List Nat) (outs:List (T×TS)) {ob:Prop} (hd:zff N ops.toList=true) (hr:runT P Γ GL own ops.toList ops.toList h S outs=some (ob,h',S')) (hob:ob) (hq:Q .normal h' S'):TW P Γ GL N (.region id ops false) h S Q:=fun A β fr s hF hT=>by
  obtain ⟨fr',s',e1,e2⟩:=z4a hE hd hF hT hr hob;exact W.region e1 ⟨h',S',e2,hq⟩
def resT (Γ:Env) (S:TS) (h:Nat->T):List ResultVar->Option (List T)
  |[]=>some []
  |.tmp t :: l=>(match resT Γ S h l with|some vs=>some (h t :: vs)|none=>none)
  |.cell a ty :: l=>(match ztb Γ S ty (h a),resT Γ S h l with|some v,some vs=>some (v :: vs)|_,_=>none)
def tupT:List T->T
  |[v]=>v
  |vs=>.tup vs
theorem zzd:∀ {l:List ResultVar} {vs:List T} {fr:Fr} {s:CS},FrOk A β (zaa s.obj) N h fr->TRel GL A β S s->resT Γ S h l=some vs->∃ ws s',resC Γ fr s l=some (ws,s')/\VL A β (zaa s.obj) vs ws/\TRel GL A β S s'/\Stp A β s A β s'/\s'.obj=s.obj
  |[],vs,fr,s,hF,hT,hr=>by
    simp only [resT,fd] at hr;subst hr;exact ⟨[],s,rfl,.nil,hT,rn,rfl⟩
  |.tmp t :: l,vs,fr,s,hF,hT,hr=>by
    simp only [resT] at hr;split at hr
    . rename_i vs' hv;cases hr;obtain ⟨ws,s',k1,k2,k3,k4,k5⟩:=zzd hF hT hv;exact ⟨_,s',by simp only [resC,k1],.cons (hF.slot t) k2,k3,k4,k5⟩
    . simp at hr
  |.cell a ty :: l,vs,fr,s,hF,hT,hr=>by
    simp only [resT] at hr;split at hr
    . rename_i v vs' hv hvs;cases hr;obtain ⟨ad,i,w,f,q1,q2,q3,q4,q5⟩:=z5w hT (hF.slot a) hv;obtain ⟨ws,s',k1,k2,k3,k4,k5⟩:=zzd (s:={ s with rd:=ins s.lim s.rd f }) hF (hT.read f) hvs;refine ⟨w :: ws,s',?_,.cons q5 k2,k3,(Stp.read q3).trans hT.le k4,k5⟩;simp only [resC,q1,q2,q4,k1]
    . simp at hr
def argT:List T->Nat->(Nat->T)->(Nat->T)
  |[],_,h=>h
  |v :: l,i,h=>argT l (i+1) (tupd h i v)
theorem znp (v:T) (l:List T) (i:Nat) (h:Nat->T):argT (v :: l) i h=argT l (i+1) (tupd h i v):=rfl
theorem zqo (i:Nat) (h:Nat->T):argT [] i h=h:=rfl
theorem z5k {g:Nat->Fam}:∀ {args:List T} {vargs:List Value} {i:Nat} {h:Nat->T} {fr:Fr},VL A β g args vargs->FrOk A β g N h fr->i+args.length<=N->FrOk A β g N (argT args i h) (Fr.ofArgs vargs i fr)
  |_,_,i,h,fr,.nil,hF,_=>hF
  |_,_,i,h,fr,.cons h1 h2,hF,hl=>by
    rw [gg] at hl;show FrOk A β g N (argT _ (i+1) _) (Fr.ofArgs _ (i+1) (fr.put i _));have hi:i<N:=by omega
    exact z5k (i:=i+1) h2 (hF.put (d:=some i) (fun t ht=>by cases ht;exact hi) h1) (by rw [Nat.add_right_comm];exact hl)
theorem FrOk.start {g:Nat->Fam} (hN:N<=512):FrOk A β g N (fun _=>.junk) ⟨N,Tr.all undef 9⟩:=⟨rfl,hN,fun t=>.junk _⟩
def zv1 (GL:List (Nat×List Value)) (v:T) (S:TS) (v':T) (S':TS):Prop :=
  ∀ A β s w,TRel GL A β S s->VT A β (zaa s.obj) v w->∃ A' β',TRel GL A' β' S' s/\VT A' β' (zaa s.obj) v' w/\Stp A β s A' β' s
theorem zv1.refl (v:T) (S:TS):zv1 GL v S v S:=fun A β s w hT hv=>⟨A,β,hT,hv,rn⟩
theorem yh8 {g:Nat->Fam} {vs:List T} {ws:List Value} (h:VL A β g vs ws):VT A β g (tupT vs) (tupC ws):=by
  cases h with
  |nil=>exact .tup .nil
  |cons h1 h2 =>
    cases h2 with
    |nil=>exact h1
    |cons h3 h4=>exact .tup (.cons h1 (.cons h3 h4))
theorem Call.go {f:mb} {fn:Func} {body:Code} {args:List T} {v:T} {Sf:TS} (N:Nat) (hax:Γ.ax f=none) (hf:Γ.fn.at f=some fn) (hb:fn.body=some body) (hn:fn.ntmps=N) (hN:N<=512) (hl:args.length<=N)
    (k:TW P Γ GL N body (argT args 0 fun _=>.junk) S fun e h' S'=>(e=.normal\/e=.ret)/\∃ vs,resT Γ S' h' fn.results.toList=some vs/\zv1 GL (tupT vs) S' v Sf):Call P Γ GL f args S v Sf:=by
  intro A β s vargs hT hargs;obtain ⟨e,fr',s1,h1,h',S',⟨A',β',k1,k2,k3⟩,he,vs,hr,hsh⟩:=k A β _ s (z5k hargs (FrOk.start hN) (by omega)) hT;obtain ⟨ws,s2,r1,r2,r3,r4,r5⟩:=zzd k1 k2 hr;rw [<- r5] at r2;obtain ⟨A2,β2,q1,q2,q3⟩:=hsh A' β' s2 _ r3 (yh8 r2);refine ⟨tupC ws,s2,A2,β2,?_,q1,q2,(k3.trans hT.le (r4.trans k2.le q3))⟩;have hlen:=hargs.len;exact zrc hax hf hb (by omega) ⟨e,fr',s1,by rw [hn];exact h1,he,ws,r1,rfl⟩
end
mutual
def T.ids (n:Nat):T->Bool
  |.agg l=>T.idsL n l
  |.tup l=>T.idsL n l
  |.lst _ l=>T.idsL n l
  |.cp l=>T.idsL n l
  |.ptr b _ _=>ib b n
  |.arr b _ _ _ _ _=>ib b n
  |.mp b=>ib b n
  |.fn _ a c=>T.idsL n a && T.idsL n c
  |_=>true
def T.idsL (n:Nat):List T->Bool
  |[]=>true
  |t :: l=>T.ids n t && T.idsL n l
end
mutual
def T.flat:T->Bool
  |.agg l=>T.flatL l
  |.tup l=>T.flatL l
  |.int _ _=>true
  |.bool _=>true
  |.str _=>true
  |.nils=>true
  |.nilp=>true
  |.nilm=>true
  |.nilf=>true
  |.junk=>true
  |_=>false
def T.flatL:List T->Bool
  |[]=>true
  |t :: l=>T.flat t && T.flatL l
end
section
variable {GL:List (Nat×List Value)} {A A' A2:Nat->Prop} {β β' β2:Bx} {S S' S2:TS} {s s' s2:CS} {P:gn} {Γ:Env} {N:Nat} {h h' h2:Nat->T} {Q R:Exit->(Nat->T)->TS->Prop} {g g':Nat->Fam}
theorem zax {n:Nat}:∀ {l l2:List T},T.idsL n (l++l2)=(T.idsL n l && T.idsL n l2)
  |[],l2=>by simp [T.idsL]
  |t :: l,l2=>by simp only [gp,T.idsL,zax,Bool.and_assoc]
theorem ydy {n:Nat} {t:T} (h:t.ids n=true):T.idsL n t.cells=true:=by
  cases t<;>first|exact h | (simp only [jc,T.idsL,h,gb])
theorem zlk {n:Nat}:∀ {l:List T},T.idsL n l=true->T.idsL n (l.flatMap jc)=true
  |[],_=>rfl
  |t :: l,h=>by
    simp only [T.idsL,fi] at h;rw [i9,zax,ydy h.1,zlk h.2];rfl
theorem z7i {n:Nat}:∀ {l:List T},(∀ t,t∈l->t.ids n=true)->T.idsL n l=true
  |[],_=>rfl
  |t :: l,h=>by
    simp only [T.idsL,fi];exact ⟨h t (by simp),z7i fun t ht=>h t (by simp [ht])⟩
mutual
theorem VT.ids {n:Nat} (hβ:∀ b,b<n->β' b=β b):∀ {t:T} {v:Value},t.ids n=true->VT A β g t v->VT A β' g t v
  |_,_,_,.int k n=>.int k n
  |_,_,_,.bool b=>.bool b
  |_,_,_,.str b=>.str b
  |_,_,hi,.agg h=>.agg (VL.ids hβ hi h)
  |_,_,hi,.tup h=>.tup (VL.ids hβ hi h)
  |_,_,_,.lnil=>.lnil
  |_,_,hi,.lst h1 h2 h3 h4 h5 h6 h7 h8=>.lst h1 h2 (VL.ids hβ (zlk hi) h3) h4 h5 h6 h7 h8
  |_,_,_,.nils=>.nils
  |_,_,_,.nilp=>.nilp
  |_,_,_,.nilm=>.nilm
  |_,_,_,.nilf=>.nilf
  |_,_,hi,.ptr h=>.ptr (by rw [hβ _ (zae.1 hi)];exact h)
  |_,_,hi,.ptrOld h h0 h1 h2=>.ptrOld (by rw [hβ _ (zae.1 hi)];exact h) h0 h1 h2
  |_,_,hi,.cp h1 h2 h3 h4=>.cp h1 h2 (VL.ids hβ hi h3) h4
  |_,_,hi,.arr h ht=>.arr (by rw [hβ _ (zae.1 hi)];exact h) ht
  |_,_,hi,.arrNil h=>.arrNil (by rw [hβ _ (zae.1 hi)];exact h)
  |_,_,hi,.arrOld h h0 h1 h2=>.arrOld (by rw [hβ _ (zae.1 hi)];exact h) h0 h1 h2
  |_,_,hi,.mp h=>.mp (by rw [hβ _ (zae.1 hi)];exact h)
  |_,_,hi,.mpOld h h2=>.mpOld (by rw [hβ _ (zae.1 hi)];exact h) h2
  |_,_,hi,.fn h1 h2=>by
    simp only [T.ids,fi] at hi;exact .fn (VL.ids hβ hi.1 h1) (VL.ids hβ hi.2 h2)
  |_,_,_,.junk v=>.junk v
  |_,_,_,.emp h1 h2 h3 h4=>.emp h1 h2 h3 h4
theorem VL.ids {n:Nat} (hβ:∀ b,b<n->β' b=β b):∀ {l:List T} {vs:List Value},T.idsL n l=true->VL A β g l vs->VL A β' g l vs
  |_,_,_,.nil=>.nil
  |_,_,hi,.cons h k=>by
    simp only [T.idsL,fi] at hi;exact .cons (VT.ids hβ hi.1 h) (VL.ids hβ hi.2 k)
end
mutual
theorem VT.flat:∀ {t:T} {v:Value},t.flat=true->VT A β g t v->VT A' β' g' t v
  |_,_,_,.int k n=>.int k n
  |_,_,_,.bool b=>.bool b
  |_,_,_,.str b=>.str b
  |_,_,hi,.agg h=>.agg (VL.flat hi h)
  |_,_,hi,.tup h=>.tup (VL.flat hi h)
  |_,_,_,.nils=>.nils
  |_,_,_,.nilp=>.nilp
  |_,_,_,.nilm=>.nilm
  |_,_,_,.nilf=>.nilf
  |_,_,_,.junk v=>.junk v
  |_,_,hi,.lnil=>by simp [T.flat] at hi
  |_,_,hi,.lst _ _ _ _ _ _ _ _=>by simp [T.flat] at hi
  |_,_,hi,.ptr _=>by simp [T.flat] at hi
  |_,_,hi,.ptrOld _ _ _ _=>by simp [T.flat] at hi
  |_,_,hi,.cp _ _ _ _=>by simp [T.flat] at hi
  |_,_,hi,.arr _ _=>by simp [T.flat] at hi
  |_,_,hi,.arrNil _=>by simp [T.flat] at hi
  |_,_,hi,.arrOld _ _ _ _=>by simp [T.flat] at hi
  |_,_,hi,.mp _=>by simp [T.flat] at hi
  |_,_,hi,.mpOld _ _=>by simp [T.flat] at hi
  |_,_,hi,.fn _ _=>by simp [T.flat] at hi
  |_,_,hi,.emp _ _ _ _=>by simp [T.flat] at hi
theorem VL.flat:∀ {l:List T} {vs:List Value},T.flatL l=true->VL A β g l vs->VL A' β' g' l vs
  |_,_,_,.nil=>.nil
  |_,_,hi,.cons h k=>by
    simp only [T.flatL,fi] at hi;exact .cons (VT.flat hi.1 h) (VL.flat hi.2 k)
end
def bx0:Bx:=fun _=>none
theorem zly {f:Nat}:¬ Own bx0 f:=fun ⟨b,h⟩=>by rcases h with ⟨u,N,h⟩|h<;>simp [bx0] at h
theorem TRel.bare (hT:TRel GL A β S s) (A1:Nat->Prop) (h1:∀ f,A f->A1 f) (h2:∀ f,A1 f->f<s.n):TRel GL A1 bx0 ts0 s :=
  ⟨hT.inr,hT.inv,h2,fun f hf=>absurd hf zly,fun b b' l l' f hb=>by simp [bx0] at hb,fun b _=>rfl,fun b z N l hb=>by simp [ts0] at hb,fun b l hb=>by simp [ts0] at hb,fun x hx=>⟨h1 _ (hT.glob x hx).1,(hT.glob x hx).2⟩⟩
def Pure (P:gn) (Γ:Env) (GL:List (Nat×List Value)) (f:mb) (args:List T) (v:T):Prop:=T.idsL 0 args=true/\v.ids 0=true/\Call P Γ GL f args ts0 v ts0
def zal (P:gn) (Γ:Env) (GL:List (Nat×List Value)) (f:mb) (args:List T) (S:TS) (v:T):Prop :=
  ∀ A β s vargs,TRel GL A β S s->VL A β (zaa s.obj) args vargs->Ok0 GL A β S s (zel P Γ f vargs s) v
theorem zal.call {f:mb} {args:List T} {v:T} (k:zal P Γ GL f args S v):Call P Γ GL f args S v S:=fun A β s vargs hT hv=>(k A β s vargs hT hv).ok
theorem Pure.call {f:mb} {args:List T} {v:T} (k:Pure P Γ GL f args v) (S:TS):zal P Γ GL f args S v:=by
  intro A β s vargs hT hv;obtain ⟨k1,k2,k3⟩:=k;have hT0:=hT.bare A (fun _ h=>h) hT.alt;obtain ⟨w,s',A',β',e1,e2,e3,e4⟩:=k3 A bx0 s vargs hT0 (VL.ids (n:=0) (fun b hb=>absurd hb (by omega)) k1 hv)
  have hc:zj3 A β s A' s':=by
    refine ⟨e4.can,e4.sub,fun f hf=>?_,fun f hf=>e4.keep f hf zly,fun x hx=>?_,fun x hx=>?_⟩
    . rcases e4.new f hf with q|q|q
      . exact .inl q
      . exact .inr q
      . exact absurd q zly
    . rcases e4.rd x hx with q|⟨q,q2⟩
      . exact .inl q
      . exact .inr ⟨q,.inl (q2.resolve_right zly)⟩
    . rcases e4.wr x hx with q|⟨_,q⟩
      . exact q
      . exact absurd q zly
  exact ⟨w,s',A',e1,hc.rel hT e2.inr e2.inv e2.alt,VT.ids (n:=0) (fun b hb=>absurd hb (by omega)) k2 e3,hc⟩
def yhz (S:TS) (t t':T):Prop:=t=t'\/∃ b e off len cap N z l L,t=.arr b e off len cap N/\t'=.lst e L/\S.box b=.cells z N l/\0<e/\off+len*e<=N/\(l.drop off).take (len*e)=L.flatMap jc/\(∀ t,t∈L->t.cells.length=e)/\L.length=len/\len<=cap
def Lend (S:TS):List T->List T->Prop
  |[],[]=>True
  |t :: l,t' :: l'=>yhz S t t'/\Lend S l l'
  |_,_=>False
theorem yg0 (hT:TRel GL A β S s) {t t':T} {v:Value} (hi:t'.ids 0=true) (hl:yhz S t t') (hv:VT A β (zaa s.obj) t v):VT (fun f=>A f\/Own β f) bx0 (zaa s.obj) t' v:=by
  rcases hl with rfl|⟨b,e,off,len,cap,N,z,l,L,rfl,rfl,hS,he,hN,hL,hs,hlen,hcap⟩
  . exact (VT.ids (n:=0) (β':=bx0) (fun b hb=>absurd hb (by omega)) hi hv).mono (fun _ h=>.inl h) (fun _ _=>rfl) (me _)
  . rcases zhy hT hS hv with ⟨f,u,rfl,hb,htag⟩|⟨rfl,hb,rfl,rfl,rfl,rfl⟩
    . obtain ⟨hlN,hc⟩:=hT.cells b z N l hS;rcases hc with ⟨hb2,_,_⟩|⟨f',u',cs,rest,hb2,hz,hat,hvl,hone⟩
      . rw [hb] at hb2;simp at hb2
      rw [hb] at hb2;cases hb2;have hcl:=hvl.len
      have hrow:zbq (zaa s.obj f).rows u=some cs:=by
        rw [hat];show zbq ((u,cs) :: rest) u=some cs;unfold zbq;rw [i8];rfl
      have h1:VL A β (zaa s.obj) (L.flatMap jc) ((cs.drop off).take (len*e)):=by rw [<- hL];exact (hvl.drop off).take _
      have h2:VL (fun f=>A f\/Own β f) bx0 (zaa s.obj) (L.flatMap jc) ((cs.drop off).take (len*e)) :=
        (VL.ids (n:=0) (β':=bx0) (fun b hb=>absurd hb (by omega)) (zlk hi) h1).mono (fun _ h=>.inl h) (fun _ _=>rfl) (me _)
      have h3:((cs.drop off).take (len*e)).length=len*e:=by rw [ij,je];omega
      have:=VT.lst (A:=fun f=>A f\/Own β f) (β:=bx0) (g:=zaa s.obj) (off:=off) (cap:=cap) (.inr (zc2 hb)) hrow h2 hs he (by rw [h3]) htag (by omega);rw [hlen] at this;exact this
    . have:L=[]:=jh hlen;subst this;exact .lnil
theorem ydi (hT:TRel GL A β S s):∀ {l l':List T} {vs:List Value},T.idsL 0 l'=true->Lend S l l'->VL A β (zaa s.obj) l vs->VL (fun f=>A f\/Own β f) bx0 (zaa s.obj) l' vs
  |[],[],_,_,_,.nil=>.nil
  |t :: l,t' :: l',_,hi,hl,.cons h1 h2=>by
    simp only [T.idsL,fi] at hi;exact .cons (yg0 hT hi.1 hl.1 h1) (ydi hT hi.2 hl.2 h2)
  |[],_ :: _,_,_,hl,_=>hl.elim
  |_ :: _,[],_,_,hl,_=>hl.elim
theorem Pure.lend {f:mb} {args args':List T} {v:T} (k:Pure P Γ GL f args' v) (hl:Lend S args args') (hv:v.flat=true):zal P Γ GL f args S v:=by
  intro A β s vargs hT hva;obtain ⟨k1,k2,k3⟩:=k;have hA1:∀ f,(A f\/Own β f)->f<s.n:=fun f hf=>hf.elim (hT.alt f) fun h=>(hT.dis f h).1;have hT0:=hT.bare (fun f=>A f\/Own β f) (fun _ h=>.inl h) hA1;obtain ⟨w,s',A',β',e1,e2,e3,e4⟩:=k3 _ bx0 s vargs hT0 (ydi hT k1 hl hva)
  have hc:zj3 A β s A s':=by
    refine ⟨e4.can,fun _ h=>h,fun f hf=>.inl hf,fun f hf=>e4.keep f hf zly,fun x hx=>?_,fun x hx=>?_⟩
    . rcases e4.rd x hx with q|⟨q,q2⟩
      . exact .inl q
      . exact .inr ⟨q,q2.resolve_right zly⟩
    . rcases e4.wr x hx with q|⟨_,q⟩
      . exact q
      . exact absurd q zly
  exact ⟨w,s',A,e1,hc.rel hT e2.inr e2.inv (fun f hf=>gq (hT.alt f hf) e4.can.n),e3.flat hv,hc⟩
def bcut (β:Bx) (n:Nat):Bx:=fun b=>if b<n then β b else none
def zhx (n:Nat):Box->Bool
  |.gone=>true
  |.cells _ _ l=>T.idsL n l
  |.map l=>T.idsL n (l.map (·.1)) && T.idsL n (l.map (·.2))
def zrf (S1 Sf:TS):Prop:=Sf.n<=S1.n/\∀ b,Sf.box b=.gone\/(b<Sf.n/\Sf.box b=S1.box b/\zhx Sf.n (S1.box b)=true)
theorem TRel.cut (hT:TRel GL A β S s) (hk:zrf S S2):TRel GL A (bcut β S2.n) S2 s:=by
  have hat:∀ b,b<S2.n->bcut β S2.n b=β b:=fun b hb=>zAc hb
  have hsub:∀ b l,bcut β S2.n b=some l->β b=some l:=fun b l h=>by
    unfold bcut at h;split at h
    . exact h
    . simp at h
  have hown:∀ f,Own (bcut β S2.n) f->Own β f:=fun f ⟨b,hb⟩=>⟨b,hb.imp (fun ⟨u,N,h⟩=>⟨u,N,hsub _ _ h⟩) fun h=>hsub _ _ h⟩;refine ⟨hT.inr,hT.inv,hT.alt,fun f hf=>hT.dis f (hown f hf),fun b b' l l' f hb hb'=>hT.inj b b' l l' f (hsub _ _ hb) (hsub _ _ hb'),fun b hb=>zAd (by omega),fun b z N l hb=>?_,fun b l hb=>?_,hT.glob⟩
  . rcases hk.2 b with q|⟨q1,q2,q3⟩
    . rw [q] at hb;simp at hb
    . rw [q2] at hb;obtain ⟨c1,c2⟩:=hT.cells b z N l hb;rw [hb] at q3;refine ⟨c1,?_⟩;rcases c2 with ⟨d1,d2,d3⟩|⟨f,u,cs,rest,d1,d2,d3,d4,d5⟩
      . exact .inl ⟨by rw [hat b q1];exact d1,d2,d3⟩
      . exact .inr ⟨f,u,cs,rest,by rw [hat b q1];exact d1,d2,d3,VL.ids hat q3 d4,d5⟩
  . rcases hk.2 b with q|⟨q1,q2,q3⟩
    . rw [q] at hb;simp at hb
    . rw [q2] at hb;obtain ⟨r,es,c1,c2,c3,c4⟩:=hT.maps b l hb;rw [hb] at q3;simp only [zhx,fi] at q3;exact ⟨r,es,by rw [hat b q1];exact c1,c2,VL.ids hat q3.1 c3,VL.ids hat q3.2 c4⟩
theorem Call.enter {f:mb} {fn:Func} {body:Code} {args:List T} {v:T} {Sf:TS} (N:Nat) (hax:Γ.ax f=none) (hf:Γ.fn.at f=some fn) (hb:fn.body=some body) (hn:fn.ntmps=N) (hN:N<=512) (hl:args.length<=N) (hSf:S.n<=Sf.n) (hv:v.ids Sf.n=true)
    (k:TW P Γ GL N body (argT args 0 fun _=>.junk) S fun e h' S'=>(e=.normal\/e=.ret)/\∃ vs,resT Γ S' h' fn.results.toList=some vs/\∃ S1,zv1 GL (tupT vs) S' v S1/\zrf S1 Sf):Call P Γ GL f args S v Sf:=by
  intro A β s vargs hT hargs;obtain ⟨e,fr',s1,h1,h',S',⟨A',β',k1,k2,k3⟩,he,vs,hr,S1,hsh,hkp⟩:=k A β _ s (z5k hargs (FrOk.start hN) (by omega)) hT;obtain ⟨ws,s2,r1,r2,r3,r4,r5⟩:=zzd k1 k2 hr;rw [<- r5] at r2;obtain ⟨A2,β2,q1,q2,q3⟩:=hsh A' β' s2 _ r3 (yh8 r2);have hall:Stp A β s A2 β2 s2:=k3.trans hT.le (r4.trans k2.le q3);have hat:∀ b,b<Sf.n->bcut β2 Sf.n b=β2 b:=fun b hb=>zAc hb
  have hsub:∀ b l,bcut β2 Sf.n b=some l->β2 b=some l:=fun b l h=>by
    unfold bcut at h;split at h
    . exact h
    . simp at h
  refine ⟨tupC ws,s2,A2,bcut β2 Sf.n,?_,q1.cut hkp,q2.ids hat hv,hall.can,hall.sub,hall.new,fun f hf=>?_,hall.keep,fun b l hb=>?_,hall.rd,hall.wr⟩
  . have hlen:=hargs.len;exact zrc hax hf hb (by omega) ⟨e,fr',s1,by rw [hn];exact h1,he,ws,r1,rfl⟩
  . obtain ⟨b,hb⟩:=hf;exact hall.own f ⟨b,hb.imp (fun ⟨u,N,h⟩=>⟨u,N,hsub _ _ h⟩) fun h=>hsub _ _ h⟩
  . obtain ⟨l',c1,c2⟩:=hall.bx b l hb
    have:b<S.n:=by
      by_cases hh:b<S.n
      . exact hh
      . rw [hT.next b (by omega)] at hb;simp at hb
    exact ⟨l',by rw [hat b (by omega)];exact c1,c2⟩
theorem zrf.none (S:TS):zrf S ts0:=⟨io _,fun b=>.inl rfl⟩
theorem Pure.enter {f:mb} {fn:Func} {body:Code} {args:List T} {v:T} (N:Nat) (hax:Γ.ax f=none) (hf:Γ.fn.at f=some fn) (hb:fn.body=some body) (hn:fn.ntmps=N) (hN:N<=512) (hl:args.length<=N) (ha:T.idsL 0 args=true) (hv:v.ids 0=true)
    (k:TW P Γ GL N body (argT args 0 fun _=>.junk) ts0 fun e h' S'=>(e=.normal\/e=.ret)/\resT Γ S' h' fn.results.toList=some [v]):Pure P Γ GL f args v :=
  ⟨ha,hv,Call.enter N hax hf hb hn hN hl (fm _) hv (k.mono fun e h' S' ⟨h1,h2⟩=>⟨h1,[v],h2,S',zv1.refl _ _,zrf.none S'⟩)⟩
theorem Pure.enterN {f:mb} {fn:Func} {body:Code} {args:List T} {vs:List T} (N:Nat) (hax:Γ.ax f=none) (hf:Γ.fn.at f=some fn) (hb:fn.body=some body) (hn:fn.ntmps=N) (hN:N<=512) (hl:args.length<=N) (ha:T.idsL 0 args=true) (hv:(tupT vs).ids 0=true)
    (k:TW P Γ GL N body (argT args 0 fun _=>.junk) ts0 fun e h' S'=>(e=.normal\/e=.ret)/\resT Γ S' h' fn.results.toList=some vs):Pure P Γ GL f args (tupT vs) :=
  ⟨ha,hv,Call.enter N hax hf hb hn hN hl (fm _) hv (k.mono fun e h' S' ⟨h1,h2⟩=>⟨h1,vs,h2,S',zv1.refl _ _,zrf.none S'⟩)⟩
theorem TRel.dead (hT:TRel GL A β S s) {b:Nat} {l0:Loc} (hb:β b=some l0) (A':Nat->Prop) (hA:∀ f,A f->A' f) (hA2:∀ f,A' f->A f\/l0.fam=some f) :
    TRel GL A' (bnew β b .dead) (S.set b .gone) s/\Stp A β s A' (bnew β b .dead) s:=by
  have hse:bnew β b .dead b=some .dead:=zAc rfl;have hne:∀ b',b'≠b->bnew β b .dead b'=β b':=fun b' hb'=>zAd hb'
  have hle:Bx.le β (bnew β b .dead):=fun i x hx=>by
    by_cases hi:i=b
    . subst hi;exact ⟨.dead,hse,by cases x<;>simp [Loc.le]⟩
    . exact ⟨x,by rw [hne i hi];exact hx,Loc.le_refl x⟩
  have hfam:∀ f,l0.fam=some f->Own β f:=fun f hf=>by
    cases l0 with
    |live f' u N=>simp [ol] at hf;subst hf;exact zc2 hb
    |map r=>simp [ol] at hf;subst hf;exact zm4 hb
    |nil=>simp [ol] at hf
    |dead=>simp [ol] at hf
  have hown:∀ f,Own (bnew β b .dead) f->Own β f/\l0.fam≠some f:=fun f ⟨b',hb'⟩=>by
    by_cases hi:b'=b
    . subst hi;rw [hse] at hb';rcases hb' with ⟨u,N,hb'⟩|hb'<;>simp at hb'
    . rw [hne b' hi] at hb';refine ⟨⟨b',hb'⟩,fun hh=>hi ?_⟩;rcases hb' with ⟨u,N,hb'⟩|hb'
      . exact hT.inj b' b _ l0 f hb' hb rfl hh
      . exact hT.inj b' b _ l0 f hb' hb rfl hh
  have hblt:b<S.n:=by
    by_cases hh:b<S.n
    . exact hh
    . rw [hT.next b (by omega)] at hb;simp at hb
  refine ⟨⟨hT.inr,hT.inv,fun f hf=>?_,fun f hf=>?_,fun b1 b2 l1 l2 f h1 h2 h3 h4=>?_,fun b' hb'=>?_,fun b' z N l hb'=>?_,fun b' l hb'=>?_,fun x hx=>⟨hA _ (hT.glob x hx).1,(hT.glob x hx).2⟩⟩,
    jp _,hA,fun f hf=>(hA2 f hf).imp id fun q=>.inr (hfam f q),fun f hf=>.inl (hown f hf).1,fun _ _ _=>rfl,hle,fun _ h=>.inl h,fun _ h=>.inl h⟩
  . rcases hA2 f hf with q|q
    . exact hT.alt f q
    . exact (hT.dis f (hfam f q)).1
  . obtain ⟨q1,q2⟩:=hown f hf;refine ⟨(hT.dis f q1).1,fun hh=>?_⟩;rcases hA2 f hh with q|q
    . exact (hT.dis f q1).2 q
    . exact q2 q
  . by_cases e1:b1=b
    . subst e1;rw [hse] at h1;cases h1;simp [ol] at h3
    . by_cases e2:b2=b
      . subst e2;rw [hse] at h2;cases h2;simp [ol] at h4
      . rw [hne b1 e1] at h1;rw [hne b2 e2] at h2;exact hT.inj b1 b2 l1 l2 f h1 h2 h3 h4
  . have:S.n<=b':=hb';rw [hne b' (by omega)];exact hT.next b' this
  . by_cases hi:b'=b
    . subst hi;rw [m5] at hb';simp at hb'
    . rw [na _ _ hi] at hb';exact (hT.cells b' z N l hb').mono hA (fun _ _=>rfl) hle (hne b' hi) fun _ _ _ _=>rfl
  . by_cases hi:b'=b
    . subst hi;rw [m5] at hb';simp at hb'
    . rw [na _ _ hi] at hb';exact (hT.maps b' l hb').mono hA (fun _ _=>rfl) hle (hne b' hi) fun _ _=>rfl
theorem TRel.freeze (hT:TRel GL A β S s) {b N:Nat} {z:Bool} {l:List T} (hS:S.box b=.cells z N l) :
    ∃ A' β',TRel GL A' β' (S.set b .gone) s/\Stp A β s A' β' s/\∀ {e off len cap:Nat} {v:Value} {L:List T},VT A β (zaa s.obj) (.arr b e off len cap N) v->0<e->off+len*e<=N->(l.drop off).take (len*e)=L.flatMap jc->(∀ t,t∈L->t.cells.length=e)->L.length=len->len<=cap->VT A' β' (zaa s.obj) (.lst e L) v:=by
  obtain ⟨hlN,hc⟩:=hT.cells b z N l hS;rcases hc with ⟨hb,hN,_⟩|⟨f,u,cs,rest,hb,hz,hat,hvl,hone⟩
  . obtain ⟨k1,k2⟩:=hT.dead hb A (fun _ h=>h) (fun _ h=>.inl h);refine ⟨_,_,k1,k2,fun {e off len cap v L} hv he hoff hL hs hlen hcap=>?_⟩;rcases zhy hT hS hv with ⟨f,u,rfl,hb',_⟩|⟨rfl,_,rfl,rfl,rfl,_⟩
    . rw [hb] at hb';simp at hb'
    . have:L=[]:=jh hlen;subst this;exact .lnil
  . obtain ⟨k1,k2⟩:=hT.dead hb (fun k=>A k\/k=f) (fun _ h=>.inl h) (fun k hk=>hk.imp id fun q=>by rw [q];rfl);refine ⟨_,_,k1,k2,fun {e off len cap v L} hv he hoff hL hs hlen hcap=>?_⟩;rcases zhy hT hS hv with ⟨f',u',rfl,hb',htag⟩|⟨rfl,hb',_⟩
    . rw [hb] at hb';cases hb';have hcl:=hvl.len
      have hrow:zbq (zaa s.obj f).rows u=some cs:=by
        rw [hat];show zbq ((u,cs) :: rest) u=some cs;unfold zbq;rw [i8];rfl
      have h1:VL A β (zaa s.obj) (L.flatMap jc) ((cs.drop off).take (len*e)):=by rw [<- hL];exact (hvl.drop off).take _
      have h3:((cs.drop off).take (len*e)).length=len*e:=by rw [ij,je];omega
      have:=VT.lst (A:=fun k=>A k\/k=f) (β:=bnew β b .dead) (g:=zaa s.obj) (off:=off) (cap:=cap) (.inr rfl) hrow (h1.mono (fun _ h=>.inl h) (fun _ _=>rfl) k2.bx) hs he (by rw [h3]) htag (by omega);rw [hlen] at this;exact this
    . rw [hb] at hb';simp at hb'
theorem TW.freeze {c:Code} (t:Nat) {b e off len cap M:Nat} {z:Bool} {l:List T} (L:List T) (ht:h t=.arr b e off len cap M) (hS:S.box b=.cells z M l) (he:0<e) (hoff:off+len*e<=M) (hL:(l.drop off).take (len*e)=L.flatMap jc) (hs:∀ t,t∈L->t.cells.length=e) (hlen:L.length=len) (hcap:len<=cap)
    (k:TW P Γ GL N c (tupd h t (.lst e L)) (S.set b .gone) Q):TW P Γ GL N c h S Q:=by
  intro A β fr s hF hT;obtain ⟨A',β',k1,k2,k3⟩:=hT.freeze hS;have hv:=hF.slot t;rw [ht] at hv
  have hF':FrOk A' β' (zaa s.obj) N (tupd h t (.lst e L)) fr:=⟨hF.nt,hF.le,fun u=>by
    by_cases hu:u=t
    . subst hu;rw [zhf];exact k3 hv he hoff hL hs hlen hcap
    . rw [zlp _ _ _ _ hu];exact k2.vt hT (hF.slot u)⟩
  refine (k A' β' fr s hF' k1).mono ?_;rintro e2 fr2 s2 ⟨h2,S2,l2,q2⟩;exact ⟨h2,S2,Left.trans (h':=h) (fr':=fr) hT.le k2 l2,q2⟩
theorem TW.vec {c:Code} (t e:Nat) (ht:h t=.nils) (k:TW P Γ GL N c (tupd h t (.arr S.n e 0 0 0 0)) (S.add (.cells false 0 [])) Q):TW P Γ GL N c h S Q:=by
  intro A β fr s hF hT;have hv:=hF.slot t;rw [ht] at hv;have hb0:β S.n=none:=hT.next _ (fm _)
  have hle:Bx.le β (bnew β S.n .nil):=z0f hb0;have hse:bnew β S.n .nil S.n=some .nil:=zAc rfl;have hne:∀ b',b'≠S.n->bnew β S.n .nil b'=β b':=fun b' hb'=>zAd hb'
  have hown:∀ f,Own (bnew β S.n .nil) f->Own β f:=fun f ⟨b',hb'⟩=>by
    by_cases hi:b'=S.n
    . subst hi;rw [hse] at hb';rcases hb' with ⟨u,N,hb'⟩|hb'<;>simp at hb'
    . rw [hne b' hi] at hb';exact ⟨b',hb'⟩
  have hst:Stp A β s A (bnew β S.n .nil) s:=⟨jp _,fun _ h=>h,fun _ h=>.inl h,fun f hf=>.inl (hown f hf),fun _ _ _=>rfl,hle,fun _ h=>.inl h,fun _ h=>.inl h⟩
  have hT':TRel GL A (bnew β S.n .nil) (S.add (.cells false 0 [])) s:=by
    refine ⟨hT.inr,hT.inv,hT.alt,fun f hf=>hT.dis f (hown f hf),fun b1 b2 l1 l2 f h1 h2 h3 h4=>?_,fun b' hb'=>?_,fun b' z N l hb'=>?_,fun b' l hb'=>?_,hT.glob⟩
    . by_cases e1:b1=S.n
      . subst e1;rw [hse] at h1;cases h1;simp [ol] at h3
      . by_cases e2:b2=S.n
        . subst e2;rw [hse] at h2;cases h2;simp [ol] at h4
        . rw [hne b1 e1] at h1;rw [hne b2 e2] at h2;exact hT.inj b1 b2 l1 l2 f h1 h2 h3 h4
    . have:S.n+1<=b':=hb';rw [hne b' (by omega)];exact hT.next b' (by omega)
    . by_cases hi:b'=S.n
      . subst hi;rw [TS.add_same] at hb';cases hb';exact ⟨rfl,.inl ⟨hse,rfl,rfl⟩⟩
      . rw [TS.add_ne _ _ hi] at hb';exact (hT.cells b' z N l hb').mono (fun _ h=>h) (fun _ _=>rfl) hle (hne b' hi) fun _ _ _ _=>rfl
    . by_cases hi:b'=S.n
      . subst hi;rw [TS.add_same] at hb';cases hb'
      . rw [TS.add_ne _ _ hi] at hb';exact (hT.maps b' l hb').mono (fun _ h=>h) (fun _ _=>rfl) hle (hne b' hi) fun _ _=>rfl
  have hF':FrOk A (bnew β S.n .nil) (zaa s.obj) N (tupd h t (.arr S.n e 0 0 0 0)) fr:=⟨hF.nt,hF.le,fun u=>by
    by_cases hu:u=t
    . subst hu;rw [zhf];generalize fr.get u=w at hv;cases hv;exact .arrNil hse
    . rw [zlp _ _ _ _ hu];exact hst.vt hT (hF.slot u)⟩
  refine (k A _ fr s hF' hT').mono ?_;rintro e2 fr2 s2 ⟨h2,S2,l2,q2⟩;exact ⟨h2,S2,Left.trans (h':=h) (fr':=fr) hT.le hst l2,q2⟩
end
def zi3:Op->Bool
  |.move _=>true
  |.assign _=>true
  |.pick _ _ _=>true
  |.build _ _=>true
  |.makeFunc _ _ _=>true
  |.slice _ _ _ _ _=>true
  |.fieldAddr _ _ _=>true
  |.indexAddr _ _ _=>true
  |.index _ _ _=>true
  |.extract _ _=>true
  |.unOp _ _ _=>true
  |.binOp _ _ _ _ _=>true
  |_=>false
def zjc:Op->Bool
  |.alloc _=>true
  |.box _ _=>true
  |.buildSlice _ _ _=>true
  |.makeSlice _ _ _=>true
  |o=>zi3 o
section
variable {GL:List (Nat×List Value)} {A A' A0:Nat->Prop} {β β':Bx} {S S':TS} {s s' s2:CS} {P:gn} {Γ:Env} {N:Nat} {h h':Nat->T} {call:zee} {ρ:f6->Value} {o:Oper} {v:Value}
theorem zm2 {r:Option Value} (hc:retC s r=some (v,s')):s'=s:=by
  unfold retC at hc;split at hc<;>first | (cases hc;rfl) | (simp at hc)
theorem zt6 {r:Option Value} (hc:zhq P ρ o s r=some (v,s')):s'=s:=by
  unfold zhq at hc;split at hc
  . cases hc;rfl
  . exact zm2 hc
theorem z3s {r:Option (List Value)} (hc:aggC s r=some (v,s')):s'=s:=by
  unfold aggC at hc;split at hc<;>first | (cases hc;rfl) | (simp at hc)
theorem z25 {size:Nat} {ex:Bool} {a:Addr} {b:Option (Nat×Nat×Nat)} (hc:cutC s size ex a b=some (v,s')):s'=s:=by
  unfold cutC at hc;split at hc
  . rename_i l hh m
    cases hq:(fx (Addr.ver a % 1024) 0 || (!ex && fx (Addr.ver a % 1024) (size+1))) with
    |false=>rw [hq] at hc;simp at hc
    |true=>rw [hq] at hc;cases hc;rfl
  . simp at hc
theorem zu9 {d:nd} {a:Addr} {lo hi mx:Option Value} (hc:zol Γ s d a lo hi mx=some (v,s')):s'=s:=by
  unfold zol at hc;split at hc
  . split at hc
    . rw [zcl] at hc;split at hc
      . exact z25 hc
      . simp at hc
    . simp at hc
  . simp at hc
theorem z1p {t:gm} {x:Value} {lo hi mx:Option Value} (hc:zdl Γ s t x lo hi mx=some (v,s')):s'=s:=by
  unfold zdl at hc;split at hc
  . split at hc
    . rename_i b;split at hc
      . cases hq:mx.isNone with
        |false=>rw [hq] at hc;simp at hc
        |true =>
          rw [hq,cond_true] at hc;unfold z8c at hc;split at hc<;>first | (cases hc;rfl) | (simp at hc)
      . simp at hc
    . split at hc
      . split at hc
        . split at hc
          . split at hc<;>first | (cases hc;rfl) | (simp at hc)
          . simp at hc
        . split at hc
          . exact z25 hc
          . simp at hc
      . simp at hc
    . split at hc
      . split at hc
        . exact zu9 hc
        . simp at hc
      . exact zu9 hc
    . simp at hc
  . simp at hc
theorem zwm {size k n:Nat} {a:Addr} (hc:zvp s size k n a=some (v,s')):s'=s:=by
  unfold zvp at hc
  cases hq:ib k n with
  |false=>rw [hq] at hc;simp at hc
  |true=>rw [hq] at hc;cases hc;rfl
theorem zxg (hm:zi3 o.op=true) (hc:cop P Γ call ρ o s=some (v,s')):s'=s:=by
  obtain ⟨d,op,ty,pos,e,g⟩:=o;unfold cop at hc;simp only at hm hc
  cases op with
  |move x=>cases hc;rfl
  |assign x=>cases hc;rfl
  |pick c a b =>
    simp only at hc;unfold zw5 at hc
    split at hc<;>first | (cases hc;rfl) | (simp at hc)
  |build t parts =>
    simp only at hc;unfold zko at hc;split at hc
    . split at hc
      . rename_i fs _;rw [zcl] at hc;split at hc
        . exact z3s hc
        . simp at hc
      . split at hc
        . exact z3s hc
        . simp at hc
      . simp at hc
    . simp at hc
  |makeFunc fn a b=>cases hc;rfl
  |slice t x lo hi mx=>exact z1p hc
  |fieldAddr t x k =>
    simp only at hc;unfold zd8 at hc;split at hc
    . split at hc
      . split at hc
        . split at hc
          . rename_i off size _
            cases hq:fx size 0 with
            |true=>rw [hq] at hc;simp at hc
            |false=>rw [hq] at hc;cases hc;rfl
          . simp at hc
        . simp at hc
      . simp at hc
    . simp at hc
  |indexAddr t x k =>
    simp only at hc;unfold zb8 at hc;split at hc
    . split at hc
      . split at hc
        . split at hc
          . exact zwm hc
          . simp at hc
        . simp at hc
      . split at hc
        . split at hc
          . exact zwm hc
          . simp at hc
        . simp at hc
      . simp at hc
    . simp at hc
  |index t x k =>
    simp only at hc;unfold zkn at hc;split at hc
    . split at hc
      . split at hc
        . split at hc
          . rw [Bool.cond_eq_ite] at hc;split at hc
            . exact zm2 hc
            . simp at hc
          . simp at hc
        . simp at hc
      . split at hc
        . split at hc<;>first | (cases hc;rfl) | (simp at hc)
        . simp at hc
      . simp at hc
    . simp at hc
  |extract x k =>
    simp only at hc;unfold zir at hc;split at hc
    . exact zm2 hc
    . simp at hc
  |unOp op t x=>exact zt6 hc
  |binOp op t x y t2 =>
    simp only at hc;unfold zml at hc;split at hc
    . cases hc;rfl
    . exact zt6 hc
  |_=>simp [zi3] at hm
theorem zn3 {tag:Nat} {cs:List Value} {a:Addr} (hc:s.newRow tag cs=some (a,s')):s'.rd=s.rd/\s'.wr=s.wr:=by
  unfold CS.newRow at hc;rw [zcl] at hc;split at hc
  . cases hc;exact ⟨rfl,rfl⟩
  . simp at hc
theorem z6o {r:Option (Addr×CS)} (hr:∀ a t,r=some (a,t)->t.rd=s.rd/\t.wr=s.wr) (hc:ptrC r=some (v,s')):s'.rd=s.rd/\s'.wr=s.wr:=by
  unfold ptrC at hc;split at hc
  . cases hc;exact hr _ _ rfl
  . simp at hc
theorem zwp {l c:Nat} {r:Option (Addr×CS)} (hr:∀ a t,r=some (a,t)->t.rd=s.rd/\t.wr=s.wr) (hc:zh1 l c r=some (v,s')):s'.rd=s.rd/\s'.wr=s.wr:=by
  unfold zh1 at hc;split at hc
  . cases hc;exact hr _ _ rfl
  . simp at hc
theorem z4k (hm:zjc o.op=true) (hc:cop P Γ call ρ o s=some (v,s')):s'.rd=s.rd/\s'.wr=s.wr:=by
  by_cases hq:zi3 o.op=true
  . rw [zxg hq hc];exact ⟨rfl,rfl⟩
  obtain ⟨d,op,ty,pos,e,g⟩:=o;unfold cop at hc;simp only at hm hc hq
  cases op with
  |alloc e =>
    simp only at hc;unfold zm9 at hc;split at hc
    . exact z6o (fun a t h=>zn3 h) hc
    . simp at hc
  |box e x=>exact z6o (fun a t h=>zn3 h) hc
  |buildSlice t n parts =>
    simp only at hc;unfold zcf at hc;split at hc
    . rename_i j _
      cases hb:(gz (n*j.size) 16777216 && ib 0 j.size) with
      |false=>rw [hb] at hc;simp at hc
      |true =>
        rw [hb,cond_true] at hc;split at hc
        . exact zwp (fun a t h=>zn3 h) hc
        . simp at hc
    . simp at hc
  |makeSlice t l c =>
    simp only at hc;unfold zfa at hc;split at hc
    . rename_i j l' c' _ _ _
      cases hb:(gz l' c' && gz (c'*(j.bytes+1)) 1000000000 && ib 0 j.size) with
      |false=>rw [hb] at hc;simp at hc
      |true =>
        rw [hb,cond_true] at hc;exact zwp (fun a t h=>zn3 h) hc
    . simp at hc
  |_=>simp_all [zjc,zi3]
def yo3 (o:Oper) (x:Lg):Prop:=(zi3 o.op=true->x.rd=[]/\x.wr=[]/\x.lo=x.hi)/\(zjc o.op=true->x.rd=[]/\x.wr=[])
theorem zsy {ops:List Oper}:∀ {l:List Oper} {fr fr':Fr} {s s':CS} {L:List Lg},drawC P Γ call ops l fr s=some (L,fr',s')->L.length=l.length/\∀ (j:Nat) (o:Oper) (x:Lg),l[j]?=some o->L[j]?=some x->yo3 o x
  |[],fr,fr',s,s',L,hc=>by
    simp only [drawC,fd,fl] at hc;obtain ⟨rfl,_,_⟩:=hc;exact ⟨rfl,fun j o x hj=>by simp at hj⟩
  |o :: l,fr,fr',s,s',L,hc=>by
    simp only [drawC] at hc;split at hc
    . rename_i fr1 t h1;split at hc
      . rename_i logs fr2 s2 h2;cases hc;obtain ⟨i1,i2⟩:=zsy h2;refine ⟨by simp [i1],fun j o' x hj hx=>?_⟩
        cases j with
        |zero =>
          simp only [gw,fd] at hj hx;subst hj;subst hx;unfold zcs at h1
          cases hw:zc9 ops fr o with
          |false =>
            rw [hw] at h1;simp only [cond_false,fd,fl] at h1;rw [<- h1.2];exact ⟨fun _=>⟨rfl,rfl,rfl⟩,fun _=>⟨rfl,rfl⟩⟩
          |true =>
            rw [hw,cond_true] at h1;split at h1
            . rename_i v s1 hcop;cases h1;refine ⟨fun hm=>?_,fun hm=>?_⟩
              . rw [zxg hm hcop];exact ⟨rfl,rfl,rfl⟩
              . exact z4k hm hcop
            . simp at h1
        |succ j=>exact i2 j o' x (by simpa using hj) (by simpa using hx)
      . simp at hc
    . simp at hc
theorem zkd {ops:List Oper}:∀ {l m:List Oper} {fr fr1 fr2:Fr} {s s1 s2:CS} {L M:List Lg},drawC P Γ call ops l fr s=some (L,fr1,s1)->drawC P Γ call ops m fr1 s1=some (M,fr2,s2)->drawC P Γ call ops (l++m) fr s=some (L++M,fr2,s2)
  |[],m,fr,fr1,fr2,s,s1,s2,L,M,h1,h2=>by
    simp only [drawC,fd,fl] at h1;obtain ⟨rfl,rfl,rfl⟩:=h1;exact h2
  |o :: l,m,fr,fr1,fr2,s,s1,s2,L,M,h1,h2=>by
    simp only [drawC] at h1;simp only [gp,drawC];split at h1
    . rename_i fra t ha;split at h1
      . rename_i logs frb sb hb;cases h1;rw [zkd hb h2];rfl
      . simp at h1
    . simp at h1
theorem zyc {m:Nat} {y:Lg}:∀ {done:List Lg} {i:Nat},(∀ j x,done[j]?=some x->i5 m (i+j)=true\/clash x y=false)->zig clash m y done i=true
  |[],_,_=>rfl
  |x :: l,i,h=>by
    have h0:i5 m i=true\/clash x y=false:=h 0 x rfl
    have ih:zig clash m y l (i+1)=true:=zyc fun j z hz=>by
      have:=h (j+1) z (by simpa using hz);rw [show i+1+j=i+(j+1) by omega];exact this
    rcases h0 with h0|h0
    . rw [zvb h0];exact ih
    . rw [zyb h0];exact ih
theorem zoc {ms:List Nat}:∀ {l done:List Lg},(∀ i j x y,i<j->done.length<=j->(done++l)[i]?=some x->(done++l)[j]?=some y->i5 (nth 0 ms j) i=true\/clash x y=false)->zgp clash done l ms=true
  |[],_,_=>rfl
  |y :: l,done,h=>by
    rw [znn,fi];refine ⟨zyc fun j x hx=>?_,zoc fun i j x z hij hd hx hz=>?_⟩
    . rw [i4];have hj:=(gd.1 hx).1;exact h j done.length x y hj (fm _) (by rw [gh hj];exact hx) (by simp)
    . rw [gi] at hx hz;rw [fw,ip] at hd;exact h i j x z hij (by omega) hx hz
theorem zug {ρ1 ρ2:f6->T} {l:List f6} (hρ:∀ x,x∈l->ρ1 x=ρ2 x):l.map ρ1=l.map ρ2:=List.map_congr_left hρ
theorem zqz {ρ1 ρ2:f6->T} {l:Option f6} (hρ:∀ x,l=some x->ρ1 x=ρ2 x):l.map ρ1=l.map ρ2:=by
  cases l with
  |none=>rfl
  |some x=>simp only [ou,hρ x rfl]
theorem zrt {place:Nat->Option (Nat×Nat)} {ρ1 ρ2:f6->T}:∀ {l:List (Nat×f6)},(∀ p,p∈l->ρ1 p.2=ρ2 p.2)->zbi place ρ1 l=zbi place ρ2 l
  |[],_=>rfl
  |(k,x) :: l,hρ=>by
    unfold zbi;rw [zrt fun p hp=>hρ p (by simp [hp]),hρ (k,x) (by simp)]
theorem zr1 {e:Nat} {ρ1 ρ2:f6->T}:∀ {l:List (Nat×f6)} {i:Nat},(∀ p,p∈l->ρ1 p.2=ρ2 p.2)->zc8 e ρ1 i l=zc8 e ρ2 i l
  |[],_,_=>rfl
  |(k,x) :: l,i,hρ=>by
    unfold zc8;rw [zr1 fun p hp=>hρ p (by simp [hp]),hρ (k,x) (by simp)]
theorem z32 {ρ1 ρ2:f6->T} (hρ:∀ x,x∈o.op.operands.toList->ρ1 x=ρ2 x):zgn P Γ ρ1 o S=zgn P Γ ρ2 o S:=by
  obtain ⟨d,op,ty,pos,e,g⟩:=o;simp only at hρ;unfold zgn
  cases op with
  |move x=>simp only [hρ x (by simp [gu])]
  |assign x=>simp only [hρ x (by simp [gu])]
  |pick c a b=>simp only [hρ c (by simp [gu]),hρ a (by simp [gu]),hρ b (by simp [gu])]
  |build t parts =>
    have hp:∀ p,p∈parts.toList->ρ1 p.2=ρ2 p.2:=fun p hp=>hρ p.2 (by simp [gu];exact ⟨p.1,by simpa using hp⟩)
    simp only [zj4,zrt hp]
  |buildSlice t n parts =>
    have hp:∀ p,p∈parts.toList->ρ1 p.2=ρ2 p.2:=fun p hp=>hρ p.2 (by simp [gu];exact ⟨p.1,by simpa using hp⟩)
    simp only [zam,zr1 hp]
  |load t x=>simp only [hρ x (by simp [gu])]
  |makeFunc fn first captured =>
    have h1:first.toList.map ρ1=first.toList.map ρ2:=zug fun x hx=>hρ x (by simp [gu];left;simpa using hx)
    have h2:captured.toList.map ρ1=captured.toList.map ρ2:=zug fun x hx=>hρ x (by simp [gu];right;simpa using hx)
    simp only [h1,h2]
  |slice t x lo hi mx =>
    have h1:lo.map ρ1=lo.map ρ2:=zqz fun y hy=>hρ y (by simp [gu,hy]);have h2:hi.map ρ1=hi.map ρ2:=zqz fun y hy=>hρ y (by simp [gu,hy]);have h3:mx.map ρ1=mx.map ρ2:=zqz fun y hy=>hρ y (by simp [gu,hy])
    simp only [hρ x (by simp [gu]),h1,h2,h3]
  |fieldAddr t x k=>simp only [hρ x (by simp [gu])]
  |indexAddr t x ix=>simp only [hρ x (by simp [gu]),hρ ix (by simp [gu])]
  |index t x ix=>simp only [hρ x (by simp [gu]),hρ ix (by simp [gu])]
  |extract x k=>simp only [hρ x (by simp [gu])]
  |unOp op t x=>simp only [hρ x (by simp [gu])]
  |convert src dst x=>simp only [hρ x (by simp [gu])]
  |binOp op t x y t2=>simp only [hρ x (by simp [gu]),hρ y (by simp [gu])]
  |call c =>
    obtain ⟨cal,args,tys⟩:=c
    cases cal with
    |builtin b =>
      have ha:∀ x,x∈args.toList->ρ1 x=ρ2 x:=fun x hx=>hρ x (by simp [gu,r8];simpa using hx);simp only;unfold zmn
      cases b with
      |len =>
        simp only;split
        . rename_i x t e1 e2;rw [ha x (by rw [e1];simp)]
        . rfl
      |min =>
        simp only;split
        . rename_i x y e1;rw [ha x (by rw [e1];simp),ha y (by rw [e1];simp)]
        . rfl
      |max =>
        simp only;split
        . rename_i x y e1;rw [ha x (by rw [e1];simp),ha y (by rw [e1];simp)]
        . rfl
      |_=>rfl
    |_=>rfl
  |_=>rfl
end
def z5j (P:gn) (Γ:Env) (GL:List (Nat×List Value)) (S:TS) (args:List T) (f:T) (r:T):Option Prop:=match f with
  |.fn k first cap=>some (zal P Γ GL k (first++args++cap) S r)
  |_=>none
def andP (p:Prop):Option (Prop×(Nat->T))->Option (Prop×(Nat->T))
  |some (q,h)=>some (p/\q,h)
  |none=>none
def runP (P:gn) (Γ:Env) (GL:List (Nat×List Value)) (ops:List Oper):List Oper->(Nat->T)->TS->List T->Option (Prop×(Nat->T))
  |[],h,_,_=>some (True,h)
  |o :: l,h,S,outs=>match zix ops h o.guard with
    |none=>none
    |some false=>runP P Γ GL ops l (putT h o.dst (.tup [])) S outs
    |some true=>match o.op with
      |.call ⟨.value f,args,tys⟩=>(match outs with
        |r :: outs=>(match z5j P Γ GL S (args.toList.map (zdf GL h)) (zdf GL h f) r with
          |some p=>andP p (runP P Γ GL ops l (putT h o.dst r) S outs)
          |none=>none)
        |[]=>none)
      |_=>(match zgn P Γ (zdf GL h) o S with
        |some t=>runP P Γ GL ops l (putT h o.dst t) S outs
        |none=>none)
def ykn (ops:List Oper) (x y:Oper):Bool:=match x.dst with|some d=>has (zfi ops y) d|none=>false
def zwg:Nat->List Oper->List (Bool×Oper)
  |_,[]=>[]
  |0,o :: l=>(true,o) :: zwg 0 l
  |k+1,o :: l=>(false,o) :: zwg k l
def ydk (x y:Bool×Oper):Bool:=y.1 && !(zi3 x.2.op || zjc y.2.op)
def zsf (m:Nat):List Nat->Nat->Bool
  |[],_=>true
  |x :: l,i=>(!Nat.testBit m i || fx (Nat.land x m) x) && zsf m l (i+1)
def zj0 (k:Nat) (ops:List Oper):Bool :=
  zgp (ykn ops) [] ops (zdp ops []) && (zgp ydk [] (zwg k ops) (zdp ops []) && (zdp ops []).all fun m=>zsf m (zdp ops []) 0)
theorem zs7 {m:Nat}:∀ {l:List Nat} {i:Nat},zsf m l i=true->∀ j,j<l.length->i5 m (i+j)=true->∀ b,i5 (nth 0 l j) b=true->i5 m b=true
  |[],_,_,j,hj,_,_,_=>by simp at hj
  |x :: l,i,h,j,hj,ht,b,hb=>by
    simp only [zsf,fi] at h
    cases j with
    |zero =>
      have h1:=h.1;rw [show i5 m i=true from ht] at h1;simp only [iu,Bool.false_or] at h1;have h2:x &&& m=x:=fk h1;have h3:i5 x b=true:=hb;rw [<- h2,lp,fi] at h3;exact h3.2
    |succ j=>exact zs7 h.2 j (by simpa using hj) (by rw [show i+1+j=i+(j+1) by omega];exact ht) b hb
theorem z16:∀ (l:List Oper) (ms:List Nat),(zdp l ms).length=ms.length+l.length
  |[],ms=>by simp [zdp]
  |o :: l,ms=>by
    simp only [zdp];rw [z16 l];simp only [fw,gg,jd];omega
theorem znu:∀ {k:Nat} {ops:List Oper} {i:Nat} {o:Oper},ops[i]?=some o->(zwg k ops)[i]?=some (decide (k<=i),o)
  |_,[],i,o,h=>by simp at h
  |0,x :: l,i,o,h=>by
    cases i with
    |zero=>simp only [gw,fd] at h;subst h;rfl
    |succ i =>
      have:=znu (k:=0) (ops:=l) (i:=i) (by simpa using h)
      simpa [zwg] using this
  |k+1,x :: l,i,o,h=>by
    cases i with
    |zero=>simp only [gw,fd] at h;subst h;rfl
    |succ i =>
      have:=znu (k:=k) (ops:=l) (i:=i) (by simpa using h);simpa [zwg] using this
section
variable {GL:List (Nat×List Value)} {A A' A0:Nat->Prop} {β β':Bx} {S S':TS} {s s0 s' s2:CS} {P:gn} {Γ:Env} {N:Nat} {h h':Nat->T}
theorem z94 {k:Nat} {ops:List Oper} (hd:zj0 k ops=true) {i j:Nat} {x y:Oper} (hij:i<j) (hx:ops[i]?=some x) (hy:ops[j]?=some y) {d:Nat} (hxd:x.dst=some d) (hdy:d∈zfi ops y):i5 (nth 0 (zdp ops []) j) i=true:=by
  unfold zj0 at hd;simp only [fi] at hd;rcases zgb hd.1 i j x y hij (io _) (by simpa using hx) (by simpa using hy) with q|q
  . exact q
  . unfold ykn at q;rw [hxd] at q;simp only at q;rw [zuc hdy] at q;simp at q
theorem z5b {k:Nat} {ops:List Oper} (hd:zj0 k ops=true) {i j:Nat} {x y:Oper} (hij:i<j) (hkj:k<=j) (hx:ops[i]?=some x) (hy:ops[j]?=some y):i5 (nth 0 (zdp ops []) j) i=true\/zi3 x.op=true\/zjc y.op=true:=by
  unfold zj0 at hd;simp only [fi] at hd;rcases zgb hd.2.1 i j _ _ hij (io _) (by simpa using znu hx) (by simpa using znu hy) with q|q
  . exact .inl q
  . unfold ydk at q;rw [zAa hkj] at q;simp only [jx,Bool.not_eq_false',Bool.or_eq_true] at q;exact .inr q
theorem z22 {k:Nat} {ops:List Oper} (hd:zj0 k ops=true) {j i b:Nat} (hj:j<ops.length) (hi:i<ops.length) (h1:i5 (nth 0 (zdp ops []) j) i=true) (h2:i5 (nth 0 (zdp ops []) i) b=true):i5 (nth 0 (zdp ops []) j) b=true:=by
  unfold zj0 at hd;simp only [fi] at hd;have hl:=z16 ops [];simp only [jd,i4] at hl
  have hm:nth 0 (zdp ops []) j∈zdp ops []:=by
    have key:∀ (l:List Nat) (j:Nat),j<l.length->nth 0 l j∈l:=by
      intro l
      induction l with
      |nil=>intro j hj;simp at hj
      |cons x l ih =>
        intro j hj
        cases j with
        |zero=>exact List.mem_cons_self
        |succ j=>exact List.mem_cons_of_mem _ (ih j (by simpa using hj))
    exact key _ j (by omega)
  have:=h9.1 hd.2.2 _ hm;exact zs7 this i (by omega) (by rw [i4];exact h1) b h2
def SupL (A0:Nat->Prop) (L:List Lg) (D:Nat) (f:Nat):Prop:=A0 f\/∃ (m:Nat) (x:Lg),i5 D m=true/\L[m]?=some x/\x.lo<=f/\f<x.hi
theorem SupL.more {L M:List Lg} {D E:Nat} (hD:∀ m,m<L.length->i5 D m=true->i5 E m=true) {f:Nat} (k:SupL A0 L D f):SupL A0 (L++M) E f:=by
  rcases k with k|⟨m,x,h1,h2,h3⟩
  . exact .inl k
  . have hm:=(gd.1 h2).1;exact .inr ⟨m,x,hD m hm h1,by rw [gh hm];exact h2,h3⟩
theorem SupL.sub {L:List Lg} {D E:Nat} (hD:∀ m,m<L.length->i5 D m=true->i5 E m=true) {f:Nat} (k:SupL A0 L D f):SupL A0 L E f:=by
  have:=SupL.more (M:=[]) hD k;simpa using this
structure zqr (GL:List (Nat×List Value)) (ops:List Oper) (A0:Nat->Prop) (β:Bx) (S:TS) (s0:CS) (N:Nat) (L:List Lg) (h:Nat->T) (fr:Fr) (s:CS):Prop where
  nt:fr.nt=N
  le:N<=512
  rel:TRel GL A0 β S s
  slot:∀ t,∃ D,VT (SupL A0 L D) β (zaa s.obj) (h t) (fr.get t)/\∀ (j:Nat) (o:Oper),L.length<=j->ops[j]?=some o->t∈zfi ops o->∀ m,m<L.length->i5 D m=true->i5 (nth 0 (zdp ops []) j) m=true
  log:∀ (k:Nat) (x:Lg),L[k]?=some x->s0.n<=x.lo/\x.lo<=x.hi/\x.hi<=s.n/\x.wr=[]/\∀ f,f∈x.rd->f<x.lo/\(SupL A0 L (nth 0 (zdp ops []) k) f\/Own β f)
  apart:∀ (k m:Nat) (x y:Lg),k<m->L[k]?=some x->L[m]?=some y->x.hi<=y.lo
  own:∀ f,Own β f->f<s0.n
  base:∀ f,A0 f->f<s0.n
  calm:zj3 A0 β s0 A0 s
  lim:s0.lim<=s0.n
theorem TRel.more (hT:TRel GL A β S s) (A1:Nat->Prop) (h1:∀ f,A f->A1 f) (h2:∀ f,A1 f->f<s.n) (h3:∀ f,A1 f->¬ Own β f):TRel GL A1 β S s :=
  ⟨hT.inr,hT.inv,h2,fun f hf=>⟨(hT.dis f hf).1,fun hh=>h3 f hh hf⟩,hT.inj,hT.next,fun b z N l hb=>(hT.cells b z N l hb).mono h1 (fun _ _=>rfl) (me _) rfl fun _ _ _ _=>rfl,
    fun b l hb=>(hT.maps b l hb).mono h1 (fun _ _=>rfl) (me _) rfl fun _ _=>rfl,fun x hx=>⟨h1 _ (hT.glob x hx).1,(hT.glob x hx).2⟩⟩
theorem TRel.inner (hT:TRel GL A β S s):TRel GL A β S s.inner:=⟨hT.inr,⟨hT.inv.none,hT.inv.vers,fm _⟩,hT.alt,hT.dis,hT.inj,hT.next,hT.cells,hT.maps,hT.glob⟩
theorem TRel.outer (hT:TRel GL A β S s') (hl:s.lim<=s'.n):TRel GL A β S (s.outer s'):=⟨hT.inr,⟨hT.inv.none,hT.inv.vers,hl⟩,hT.alt,hT.dis,hT.inj,hT.next,hT.cells,hT.maps,hT.glob⟩
theorem zj3.trans (hl:s.lim<=s.n) (k1:zj3 A β s A s') (k2:zj3 A β s' A s2):zj3 A β s A s2:=by
  refine ⟨k1.can.trans k2.can,fun _ h=>h,fun _ h=>.inl h,fun f hf=>?_,fun x hx=>?_,fun x hx=>k1.wr x (k2.wr x hx)⟩
  . rw [k2.keep f (gq hf k1.can.n)];exact k1.keep f hf
  . rcases k2.rd x hx with q|⟨q,q2⟩
    . exact k1.rd x q
    . rw [k1.can.lim] at q;exact .inr ⟨q,q2⟩
theorem zqr.next {k0:Nat} {ops:List Oper} (hd:zj0 k0 ops=true) {L:List Lg} {fr:Fr} {o:Oper} (I:zqr GL ops A0 β S s0 N L h fr s) (ho:ops[L.length]?=some o) (hdst:∀ t,o.dst=some t->t<N) {t:T} {v:Value} {s1:CS}
    (k1:TRel GL A' β S s1) (k2:VT A' β (zaa s1.obj) t v) (k3:zj3 (SupL A0 L (nth 0 (zdp ops []) L.length)) β s.inner A' s1) :
    zqr GL ops A0 β S s0 N (L++[⟨s1.rd,s1.wr,s.n,s1.n⟩]) (putT h o.dst t) (putC fr o.dst v) (s.outer s1):=by
  have hsn:s.n<=s1.n:=k3.can.n;have hln:L.length<ops.length:=(gd.1 ho).1;have h0n:s0.n<=s.n:=I.calm.can.n
  have hsup:∀ f D,SupL A0 L D f->f<s.n:=fun f D hf=>by
    rcases hf with q|⟨m,x,_,q2,_,q4⟩
    . have:=I.base f q;omega
    . have:=(I.log m x q2).2.2.1;omega
  have hA':∀ f,A' f->SupL A0 (L++[⟨s1.rd,s1.wr,s.n,s1.n⟩]) (nth 0 (zdp ops []) L.length ||| 2 ^ L.length) f:=fun f hf=>by
    rcases k3.new f hf with q|q
    . refine SupL.more (fun m hm hb=>?_) q;rw [od,hb];rfl
    . refine .inr ⟨L.length,⟨s1.rd,s1.wr,s.n,s1.n⟩,?_,by simp,q,k1.alt f hf⟩;rw [od,Nat.testBit_two_pow_self];simp
  have hobj:∀ f,f<s.n->zaa s1.obj f=zaa s.obj f:=fun f hf=>k3.keep f hf
  have hwr:s1.wr=[]:=by
    rw [List.eq_nil_iff_forall_not_mem];intro x hx;have:=k3.wr x hx;simp [sl] at this
  have hcal:zj3 A0 β s A0 (s.outer s1):=by
    refine ⟨zm5 I.rel.inv k3.can,fun _ h=>h,fun _ h=>.inl h,hobj,fun x hx=>?_,fun x hx=>?_⟩
    . rcases zn7 (l:=s1.rd) rfl x hx with q|⟨q,q2⟩
      . exact .inl q
      . refine .inr ⟨q2,?_⟩;have hxn:x<s0.n:=by have h1:=I.calm.can.lim;have h2:=I.lim;rw [h1] at q2;omega
        rcases k3.rd x q with q3|⟨_,q3⟩
        . simp [sl] at q3
        . rcases q3 with (q3|⟨m,y,_,q5,q6,_⟩)|q3
          . exact .inl q3
          . have:=(I.log m y q5).1;omega
          . exact .inr q3
    . rcases zn7 (l:=s1.wr) rfl x hx with q|⟨q,_⟩
      . exact q
      . rw [hwr] at q;simp at q
  have hrel:TRel GL A0 β S (s.outer s1):=hcal.rel I.rel k1.inr ⟨k1.inv.none,k1.inv.vers,by have:=I.rel.inv.lim;show s.lim<=s1.n;omega⟩ fun f hf=>by have:=I.rel.alt f hf;show f<s1.n;omega
  refine ⟨?_,I.le,hrel,fun t'=>?_,fun k x hx=>?_,fun k m x y hkm hx hy=>?_,I.own,I.base,?_,I.lim⟩
  . cases hd2:o.dst with
    |none=>exact I.nt
    |some d =>
      show (fr.put d v).nt=N;unfold Fr.put;rw [zcl];split<;>exact I.nt
  . by_cases ht':o.dst=some t'
    . rw [ht'];refine ⟨nth 0 (zdp ops []) L.length ||| 2 ^ L.length,?_,fun j o' hj ho' hn m hm hb=>?_⟩
      . show VT _ _ _ (tupd h t' t t') ((fr.put t' v).get t');rw [zhf,Fr.get_put_same v (by rw [I.nt];exact hdst _ ht') (by rw [I.nt];exact I.le)];exact k2.mono hA' (fun _ _=>rfl) (me _)
      . rw [fw,ip] at hj hm;have hdep:=z94 hd (show L.length<j by omega) ho ho' ht' hn;rw [od,Bool.or_eq_true] at hb;rcases hb with hb|hb
        . exact z22 hd (gd.1 ho').1 hln hdep hb
        . rw [Nat.testBit_two_pow] at hb;have:L.length=m:=by simpa using hb
          rw [<- this];exact hdep
    . obtain ⟨D,d1,d2⟩:=I.slot t';refine ⟨D &&& (2 ^ L.length - 1),?_,fun j o' hj ho' hn m hm hb=>?_⟩
      . have e1:putT h o.dst t t'=h t':=by
          cases hd2:o.dst with
          |none=>rfl
          |some d=>exact zlp _ _ _ _ fun hh=>ht' (by rw [hd2,hh])
        have e2:(putC fr o.dst v).get t'=fr.get t':=by
          cases hd2:o.dst with
          |none=>rfl
          |some d=>exact so v (by rw [I.nt];exact I.le) fun hh=>ht' (by rw [hd2,hh])
        rw [e1,e2];refine d1.mono (fun f hf=>SupL.more (fun m hm hb=>?_) hf) (fun f hf=>hobj f (hsup f D hf)) (me _);rw [lp,hb,mh];simp [hm]
      . rw [fw,ip] at hj;rw [lp,fi,mh] at hb;exact d2 j o' (by omega) ho' hn m (zAe hb.2) hb.1
  . by_cases hk:k<L.length
    . rw [gh hk] at hx;obtain ⟨l1,l2,l3,l4,l5⟩:=I.log k x hx;exact ⟨l1,l2,by show x.hi<=s1.n;omega,l4,fun f hf=>⟨(l5 f hf).1,(l5 f hf).2.imp (fun q=>SupL.more (fun _ _ hb=>hb) q) id⟩⟩
    . have hk2:k=L.length:=by
        have:=(gd.1 hx).1;rw [fw,ip] at this;omega
      subst hk2;simp only [il (fm _),Nat.sub_self,gw,fd] at hx;subst hx;refine ⟨h0n,hsn,fm _,hwr,fun f hf=>?_⟩;rcases k3.rd f hf with q|⟨q,q2⟩
      . simp [sl] at q
      . exact ⟨q,q2.imp (fun q3=>SupL.more (fun _ _ hb=>hb) q3) id⟩
  . by_cases hm:m<L.length
    . rw [gh (by omega)] at hx;rw [gh hm] at hy;exact I.apart k m x y hkm hx hy
    . have hm2:m=L.length:=by
        have:=(gd.1 hy).1;rw [fw,ip] at this;omega
      subst hm2;rw [gh hkm] at hx;simp only [il (fm _),Nat.sub_self,gw,fd] at hy;subst hy;exact (I.log k x hx).2.2.1
  . exact I.calm.trans I.lim hcal
theorem zzo {ops:List Oper} {o:Oper} {x:Nat} (hx:Operand.tmp x∈o.op.operands.toList):x∈zfi ops o:=by
  unfold zfi;refine List.mem_append.2 (.inl ?_);rw [List.mem_filterMap];exact ⟨.tmp x,hx,rfl⟩
theorem z4p {ops:List Oper} {o:Oper} {j d:Nat} {w:Bool} (hg:o.guard=some (j,w)) (hd:zo1 ops j=some d):d∈zfi ops o:=by
  unfold zfi;refine List.mem_append.2 (.inr ?_);rw [hg];simp only [hd];exact List.mem_singleton.2 rfl
theorem z6q (hE:zec P Γ) {k0:Nat} {ops:List Oper} (hd:zj0 k0 ops=true):∀ {l:List Oper} {L:List Lg} {h h':Nat->T} {fr:Fr} {s:CS} {outs:List T} {ob:Prop},zqr GL ops A0 β S s0 N L h fr s->(∀ (j:Nat) (o:Oper),l[j]?=some o->ops[L.length+j]?=some o)->zff N l=true->runP P Γ GL ops l h S outs=some (ob,h')->ob ->
    ∃ M fr' s',drawC P Γ (zel P Γ) ops l fr s=some (M,fr',s')/\zqr GL ops A0 β S s0 N (L++M) h' fr' s'/\M.length=l.length
  |[],L,h,h',fr,s,outs,ob,I,hl,hdo,hr,hob=>by
    simp only [runP,fd,fl] at hr;obtain ⟨rfl,rfl⟩:=hr;exact ⟨[],fr,s,rfl,by rw [gr];exact I,rfl⟩
  |o :: l,L,h,h',fr,s,outs,ob,I,hl,hdo,hr,hob=>by
    have hd':zff N l=true/\∀ t,o.dst=some t->t<N:=by
      unfold zff at hdo ⊢;rw [jm,fi] at hdo;refine ⟨hdo.2,fun t ht=>?_⟩;have:=hdo.1;rw [ht] at this;exact zae.1 this
    have ho:ops[L.length]?=some o:=by have:=hl 0 o rfl;simpa using this
    -- what the operation may lean on
    have hrel:TRel GL (SupL A0 L (nth 0 (zdp ops []) L.length)) β S s.inner:=by
      refine TRel.inner (I.rel.more _ (fun f hf=>.inl hf) (fun f hf=>?_) (fun f hf ho=>?_))
      . rcases hf with q|⟨m,x,_,q2,_,q4⟩
        . exact I.rel.alt f q
        . have:=(I.log m x q2).2.2.1;omega
      . rcases hf with q|⟨m,x,_,q2,q3,q4⟩
        . exact (I.rel.dis f ho).2 q
        . have:=(I.log m x q2).1;have:=I.own f ho;omega
    -- the slots that it names
    let ho':Nat->T:=fun t=>if t∈zfi ops o then h t else .junk
    have hin:∀ t,t∈zfi ops o->ho' t=h t:=fun t ht=>zAc ht
    have hF:FrOk (SupL A0 L (nth 0 (zdp ops []) L.length)) β (zaa s.inner.obj) N ho' fr:=⟨I.nt,I.le,fun t=>by
      by_cases ht:t∈zfi ops o
      . rw [hin t ht];obtain ⟨D,d1,d2⟩:=I.slot t;exact d1.mono (fun f hf=>SupL.sub (fun m hm hb=>d2 L.length o (fm _) ho ht m hm hb) hf) (fun _ _=>rfl) (me _)
      . rw [show ho' t=.junk from zAd ht]
        exact .junk _⟩
    have hev:∀ x,x∈o.op.operands.toList->zdf GL ho' x=zdf GL h x:=fun x hx=>by
      cases x with
      |tmp t=>exact hin t (zzo hx)
      |_=>rfl
    have hgd:zix ops ho' o.guard=zix ops h o.guard:=by
      cases hg:o.guard with
      |none=>rfl
      |some p =>
        obtain ⟨j,w⟩:=p;unfold zix;simp only
        cases hdd:zo1 ops j with
        |none=>rfl
        |some d=>simp only [hin d (z4p hg hdd)]
    -- the rest behind a step that is done
    have go:∀ {t:T} {v:Value} {s1:CS} {A':Nat->Prop} {outs':List T} {ob':Prop},TRel GL A' β S s1->VT A' β (zaa s1.obj) t v->zj3 (SupL A0 L (nth 0 (zdp ops []) L.length)) β s.inner A' s1->zcs P Γ (zel P Γ) ops o fr s.inner=some (putC fr o.dst v,s1)->runP P Γ GL ops l (putT h o.dst t) S outs'=some (ob',h')->ob'->∃ M fr' s',drawC P Γ (zel P Γ) ops (o :: l) fr s=some (M,fr',s')/\zqr GL ops A0 β S s0 N (L++M) h' fr' s'/\M.length=(o :: l).length:=by
      intro t v s1 A' outs' ob' k1 k2 k3 hst hrun hob';have I2:=I.next hd ho hd'.2 k1 k2 k3
      obtain ⟨M,fr',s',m1,m2,m3⟩:=z6q hE hd I2 (fun j o' hj=>by
        have:=hl (j+1) o' (by simpa using hj);rw [fw,ip];rw [show L.length+1+j=L.length+(j+1) by omega]
        exact this) hd'.1 hrun hob'
      refine ⟨⟨s1.rd,s1.wr,s.n,s1.n⟩ :: M,fr',s',?_,?_,by simp [m3]⟩
      . rw [drawC,hst];simp only;rw [m1]
      . rw [gi] at m2;exact m2
    unfold runP at hr;split at hr
    . simp at hr
    . rename_i hg;rw [<- hgd] at hg;have hw:=ziw hF hg;refine go hrel VT.undf ⟨jp _,fun _ h=>h,fun _ h=>.inl h,fun _ _=>rfl,fun _ h=>.inl h,fun _ h=>h⟩ ?_ hr hob;unfold zcs;rw [hw,cond_false]
    . rename_i hg;rw [<- hgd] at hg;have hw:=ziw hF hg;split at hr
      . rename_i f args tys hop;split at hr
        . rename_i r outs';split at hr
          . rename_i p hp;unfold z5j at hp;split at hp
            . rename_i k first cap hf
              simp only [fd] at hp;subst hp
              cases hrun:runP P Γ GL ops l (putT h o.dst r) S outs' with
              |none=>rw [hrun] at hr;simp [andP] at hr
              |some q =>
                obtain ⟨q1,q2⟩:=q;rw [hrun] at hr;simp only [andP,fd,fl] at hr;obtain ⟨rfl,rfl⟩:=hr;have hfv:=hF.eval hrel f;rw [hev f (by rw [hop];simp [gu,r8]),hf] at hfv;generalize e1:zg6 fr f=vf at hfv
                cases hfv with
                |fn h1 h2 =>
                  rename_i va vc;have hargs:=zvi (hF.eval hrel) args.toList;have hargs':args.toList.map (zdf GL ho')=args.toList.map (zdf GL h):=zug fun x hx=>hev x (by rw [hop];simp [gu,r8];right;simpa using hx);rw [hargs'] at hargs;obtain ⟨v,s1,A',c1,c2,c3,c4⟩:=hob.1 _ β s.inner _ hrel ((h1.append hargs).append h2);refine go c2 c3 c4 ?_ hrun hob.2;unfold zcs;rw [hw,cond_true]
                  have:cop P Γ (zel P Γ) (zg6 fr) o s.inner=some (v,s1):=by
                    unfold cop;simp only [hop,e1];unfold zoj;exact c1
                  rw [this]
            . simp at hp
          . simp at hr
        . simp at hr
      . split at hr
        . rename_i t hst;have hst':zgn P Γ (zdf GL ho') o S=some t:=by rw [z32 hev];exact hst
          obtain ⟨v,s1,A',c1,c2,c3,c4⟩:=z5y (call:=zel P Γ) hE hrel (hF.eval hrel) hst';refine go c2 c3 c4 ?_ hr hob;unfold zcs;rw [hw,cond_true,c1]
        . simp at hr
theorem Stp.outer (hI:CInv s) (k:Stp A β s.inner A' β' s'):Stp A β s A' β' (s.outer s'):=by
  refine ⟨zm5 hI k.can,k.sub,k.new,k.own,k.keep,k.bx,fun x hx=>?_,fun x hx=>?_⟩
  . rcases zn7 (l:=s'.rd) rfl x hx with q|⟨q,q2⟩
    . exact .inl q
    . rcases k.rd x q with q3|⟨_,q3⟩
      . simp [sl] at q3
      . exact .inr ⟨q2,q3⟩
  . rcases zn7 (l:=s'.wr) rfl x hx with q|⟨q,q2⟩
    . exact .inl q
    . rcases k.wr x q with q3|⟨_,q3⟩
      . simp [sl] at q3
      . exact .inr ⟨q2,q3⟩
theorem zzk (hE:zec P Γ) {own:List Nat} {ops:List Oper} {N:Nat}:∀ {l:List Oper} {h h':Nat->T} {S S':TS} {outs:List (T×TS)} {ob:Prop} {A:Nat->Prop} {β:Bx} {fr:Fr} {s:CS},zff N l=true->FrOk A β (zaa s.obj) N h fr->TRel GL A β S s->runT P Γ GL own ops l h S outs=some (ob,h',S')->ob ->
    ∃ M fr' s',drawC P Γ (zel P Γ) ops l fr s=some (M,fr',s')/\Left GL A β s N fr' s' h' S'
  |[],h,h',S,S',outs,ob,A,β,fr,s,hd,hF,hT,hr,hob=>by
    simp only [runT,fd,fl] at hr;obtain ⟨rfl,rfl,rfl⟩:=hr;exact ⟨[],fr,s,rfl,A,β,hF,hT,rn⟩
  |o :: l,h,h',S,S',outs,ob,A,β,fr,s,hd,hF,hT,hr,hob=>by
    have hd':zff N l=true/\∀ t,o.dst=some t->t<N:=by
      unfold zff at hd ⊢;rw [jm,fi] at hd;refine ⟨hd.2,fun t ht=>?_⟩;have:=hd.1;rw [ht] at this;exact zae.1 this
    have hTi:=hT.inner
    have go:∀ {t:T} {S1:TS} {r:Option (Value×CS)} {l':List (T×TS)} {ob':Prop},Ok GL A β s.inner r t S1->(cop P Γ (zel P Γ) (zg6 fr) o s.inner=r)->zc9 ops fr o=true->runT P Γ GL own ops l (putT h o.dst t) S1 l'=some (ob',h',S')->ob'->∃ M fr' s',drawC P Γ (zel P Γ) ops (o :: l) fr s=some (M,fr',s')/\Left GL A β s N fr' s' h' S':=by
      rintro t S1 r l' ob' ⟨v,s1,A1,β1,rfl,k1,k2,k3⟩ hc hw hrun hob';have hF1:FrOk A1 β1 (zaa s1.obj) N h fr:=hF.mono k3.sub (Stp.old (s:=s.inner) hTi k3) k3.bx;have hS:Stp A β s A1 β1 (s.outer s1):=k3.outer hT.inv;obtain ⟨M,fr',s',e1,e2⟩:=zzk hE hd'.1 (s:=s.outer s1) (hF1.put hd'.2 k2) (k1.outer (Nat.le_trans hT.le k3.can.n)) hrun hob';refine ⟨⟨s1.rd,s1.wr,s.n,s1.n⟩ :: M,fr',s',?_,Left.trans (h':=h) (fr':=fr) hT.le hS e2⟩;rw [drawC]
      have:zcs P Γ (zel P Γ) ops o fr s.inner=some (putC fr o.dst v,s1):=by
        unfold zcs;rw [hw,cond_true,hc]
      rw [this];simp only;rw [e1]
    unfold runT at hr;split at hr
    . simp at hr
    . rename_i hg;have hw:=ziw hF hg;have hS:Stp A β s A β (s.outer s.inner):=Stp.outer hT.inv rn;obtain ⟨M,fr',s',e1,e2⟩:=zzk hE hd'.1 (s:=s.outer s.inner) (hF.put hd'.2 VT.undf) (hTi.outer hT.le) hr hob;refine ⟨⟨[],[],s.n,s.n⟩ :: M,fr',s',?_,Left.trans (h':=h) (fr':=fr) hT.le hS e2⟩;rw [drawC]
      have:zcs P Γ (zel P Γ) ops o fr s.inner=some (putC fr o.dst undef,s.inner):=by
        unfold zcs;rw [hw,cond_false]
      rw [this];simp only;rw [e1];rfl
    . rename_i hg;have hw:=ziw hF hg;split at hr
      . rename_i f args tys ho;split at hr
        . rename_i r outs';split at hr
          . rename_i p hp;unfold z0d at hp;split at hp
            . rename_i k first cap hf
              simp only [fd] at hp;subst hp
              cases hrun:runT P Γ GL own ops l (putT h o.dst r.1) r.2 outs' with
              |none=>rw [hrun] at hr;simp [andT] at hr
              |some q =>
                obtain ⟨q1,q2,q3⟩:=q;rw [hrun] at hr;simp only [andT,fd,fl] at hr;obtain ⟨rfl,rfl,rfl⟩:=hr;have hfv:=hF.eval hT f;rw [hf] at hfv;generalize e1:zg6 fr f=vf at hfv
                cases hfv with
                |fn h1 h2 =>
                  rename_i va vc;have hargs:=zvi (hF.eval hT) args.toList;have hcall:=hob.1 A β s.inner _ hTi ((h1.append hargs).append h2);refine go hcall ?_ hw hrun hob.2;unfold cop;simp only [ho,e1];unfold zoj;rfl
            . simp at hp
          . simp at hr
        . simp at hr
      . split at hr
        . rename_i t S1 hst;exact go (zyy hE hTi (hF.eval hT) hst) rfl hw hr hob
        . simp at hr
theorem zif {x y:Lg} (h1:x.rd=[]) (h2:x.wr=[]) (h3:x.lo=x.hi):clash x y=false:=by
  obtain ⟨rx,wx,lo,hi⟩:=x;obtain ⟨ry,wy,lo',hi'⟩:=y;simp only at h1 h2 h3;subst h1;subst h2;subst h3;exact zgz (fun f hf=>by simp at hf) (fun f hf=>by simp at hf) (fun f _=>by omega) (fun f _=>by omega)
theorem zg7 {x y:Lg} (h1:y.rd=[]) (h2:y.wr=[]):clash x y=false:=by
  obtain ⟨rx,wx,lo,hi⟩:=x;obtain ⟨ry,wy,lo',hi'⟩:=y;simp only at h1 h2;subst h1;subst h2;exact zgz (fun f _=>by simp) (fun f _=>by simp) (fun f hf=>by simp at hf) (fun f hf=>by simp at hf)
theorem TW.draw (hE:zec P Γ) {id:Nat} {ops:Array Oper} {Q:Exit->(Nat->T)->TS->Prop} (k:Nat) (outsP:List T) (own:List Nat) (outs:List (T×TS)) {h1:Nat->T} {ob1 ob2:Prop} (hd:zff N ops.toList=true) (hok:zj0 k ops.toList=true)
    (hp:runP P Γ GL ops.toList (ops.toList.take k) h S outsP=some (ob1,h1)) (hob1:ob1) (hr:runT P Γ GL own ops.toList (ops.toList.drop k) h1 S outs=some (ob2,h',S')) (hob2:ob2) (hq:Q .normal h' S'):TW P Γ GL N (.region id ops true) h S Q:=fun A β fr s hF hT=>by
  have hsplit:ops.toList=ops.toList.take k++ops.toList.drop k:=(i7 k _).symm
  have hdd:zff N (ops.toList.take k)=true/\zff N (ops.toList.drop k)=true:=by
    unfold zff at hd ⊢;rw [hsplit,List.all_append,fi] at hd;exact hd
  have I0:zqr GL ops.toList A β S s N [] h fr s:=by
    refine ⟨hF.nt,hF.le,hT,fun t=>⟨0,(hF.slot t).mono (fun f hf=>.inl hf) (fun _ _=>rfl) (me _),fun j o _ _ _ m hm=>by simp at hm⟩,fun k x hx=>by simp at hx,fun k m x y _ hx=>by simp at hx,fun f hf=>(hT.dis f hf).1,hT.alt,?_,hT.le⟩;exact ⟨jp _,fun _ h=>h,fun _ h=>.inl h,fun _ _=>rfl,fun _ h=>.inl h,fun _ h=>h⟩
  obtain ⟨M1,fr1,s1,d1,I1,m1⟩:=z6q hE hok I0 (fun j o hj=>by
    rw [jd,i4];rw [List.getElem?_take] at hj;split at hj
    . exact hj
    . simp at hj) hdd.1 hp hob1
  rw [ge] at I1
  -- behind the first part all may lean on all
  let D:Nat:=2 ^ M1.length - 1
  have hDall:∀ m,m<M1.length->i5 D m=true:=fun m hm=>by
    show i5 (2 ^ M1.length - 1) m=true;rw [mh];exact zAa hm
  have hT1:TRel GL (SupL A M1 D) β S s1:=by
    refine I1.rel.more _ (fun f hf=>.inl hf) (fun f hf=>?_) (fun f hf ho=>?_)
    . rcases hf with q|⟨m,x,_,q2,_,q4⟩
      . exact I1.rel.alt f q
      . have:=(I1.log m x q2).2.2.1;omega
    . rcases hf with q|⟨m,x,_,q2,q3,q4⟩
      . exact (I1.rel.dis f ho).2 q
      . have:=(I1.log m x q2).1;have:=I1.own f ho;omega
  have hF1:FrOk (SupL A M1 D) β (zaa s1.obj) N h1 fr1:=⟨I1.nt,I1.le,fun t=>by
    obtain ⟨E,e1,_⟩:=I1.slot t
    exact e1.mono (fun f hf=>SupL.sub (fun m hm _=>hDall m hm) hf) (fun _ _=>rfl) (me _)⟩
  have hS1:Stp A β s (SupL A M1 D) β s1:=by
    refine ⟨I1.calm.can,fun f hf=>.inl hf,fun f hf=>?_,fun f hf=>.inl hf,fun f hf _=>I1.calm.keep f hf,me _,I1.calm.rd,fun x hx=>.inl (I1.calm.wr x hx)⟩;rcases hf with q|⟨m,x,_,q2,q3,_⟩
    . exact .inl q
    . have:=(I1.log m x q2).1;exact .inr (.inl (by omega))
  obtain ⟨M2,fr2,s2,d2,L2⟩:=zzk hE hdd.2 hF1 hT1 hr hob2;have hdraw:=zkd d1 d2;rw [<- hsplit] at hdraw;obtain ⟨f1,f2⟩:=zsy hdraw;refine W.draw hdraw ?_ ⟨h',S',Left.trans (h':=h) (fr':=fr) hT.le hS1 L2,hq⟩;refine z0c rfl (zoc fun i j x y hij _ hx hy=>?_);simp only [ge] at hx hy;have hjl:j<ops.toList.length:=by rw [<- f1];exact (gd.1 hy).1
  have ho1:ops.toList[i]?=some (ops.toList[i]'(by omega)):=fj _;have ho2:ops.toList[j]?=some (ops.toList[j]'hjl):=fj _;by_cases hkj:k<=j
  . rcases z5b hok hij hkj ho1 ho2 with q|q|q
    . exact .inl q
    . obtain ⟨a,b,c⟩:=(f2 i _ x ho1 hx).1 q;exact .inr (zif a b c)
    . obtain ⟨a,b⟩:=(f2 j _ y ho2 hy).2 q;exact .inr (zg7 a b)
  . have hjM:j<M1.length:=by rw [m1,ij];omega
    rw [gh (by omega)] at hx;rw [gh hjM] at hy;by_cases hbit:i5 (nth 0 (zdp ops.toList []) j) i=true
    . exact .inl hbit
    . right;obtain ⟨x1,x2,x3,x4,x5⟩:=I1.log i x hx;obtain ⟨y1,y2,y3,y4,y5⟩:=I1.log j y hy;obtain ⟨rx,wx,lo,hi⟩:=x;obtain ⟨ry,wy,lo',hi'⟩:=y;simp only at x1 x2 x3 x4 x5 y1 y2 y3 y4 y5;subst x4;subst y4;refine zgz (fun f hf=>by simp at hf) (fun f _=>by simp) (fun f hf=>?_) (fun f hf=>by simp at hf);obtain ⟨g1,g2⟩:=y5 f hf;rcases g2 with (g2|⟨m,z,g3,g4,g5,g6⟩)|g2
      . have:=I1.base f g2;omega
      . by_cases hmi:m=i
        . subst hmi;exact absurd g3 hbit
        . by_cases hlt:m<i
          . have:=I1.apart m i z _ hlt g4 hx;simp only at this;omega
          . have:=I1.apart i m _ z (by omega) hx g4;simp only at this;omega
      . have:=I1.own f g2;omega
end
section
variable {GL:List (Nat×List Value)} {P:gn} {Γ:Env} {own:List Nat} {ops l:List Oper} {h:Nat->T} {S:TS} {outs:List (T×TS)} {outsP:List T} {d:Option Tmp} {ty:gm} {pos:String} {e:Array Edge} {g:Option (Nat×Bool)}
def yfu {α:Type} (r:Option (T×TS)) (k:T->TS->Option α):Option α:=match r with
  |some (t,S)=>k t S
  |none=>none
def zog {α:Type} (b:Option Bool) (off on:Unit->Option α):Option α:=match b with
  |some true=>on ()
  |some false=>off ()
  |none=>none
theorem z0p {α:Type} (t:T) (S:TS) (k:T->TS->Option α):yfu (some (t,S)) k=k t S:=f5 rfl rfl
theorem yed {α:Type} (a b:Unit->Option α):zog (some true) a b=b ():=f5 rfl rfl
theorem z7r {α:Type} (a b:Unit->Option α):zog (some false) a b=a ():=f5 rfl rfl
def zpk (ops:List Oper) (h:Nat->T) (j:Nat):T:=match zo1 ops j with|some t=>h t|none=>.junk
def zpa (t:T) (w:Bool):Option Bool:=match t with|.bool b=>some (b == w)|.tup _=>some false|_=>none
theorem yat {l:List T} {w:Bool}:zpa (.tup l) w=some false:=f5 rfl rfl
theorem zjm {j:Nat} {w:Bool}:zix ops h (some (j,w))=zpa (zpk ops h j) w:=by
  unfold zix zpk;simp only
  cases zo1 ops j with
  |none=>rfl
  |some t=>simp only;cases h t<;>rfl
theorem yar:zpa (.bool true) true=some true:=f5 rfl rfl
theorem yas:zpa (.bool true) false=some false:=f5 rfl rfl
theorem yau:zpa (.bool false) true=some false:=f5 rfl rfl
theorem yav:zpa (.bool false) false=some true:=f5 rfl rfl
theorem zwn {t:Tmp} {op:Op}:zpk (⟨some t,op,ty,pos,e,g⟩ :: l) h 0=h t:=f5 rfl rfl
theorem zwo {o:Oper} {n:Nat}:zpk (o :: l) h (n+1)=zpk l h n:=by
  unfold zpk zo1;rw [lf]
theorem z6c:runT P Γ GL own ops [] h S outs=some (True,h,S):=f5 rfl rfl
theorem z6e:runP P Γ GL ops [] h S outsP=some (True,h):=f5 rfl rfl
def zck:Op->Bool
  |.call ⟨.value _,_,_⟩=>true
  |_=>false
def ygl (P:gn) (Γ:Env) (GL:List (Nat×List Value)) (own:List Nat) (ops l:List Oper) (outs:List (T×TS)) (h:Nat->T) (d:Option Tmp) (t:T) (S:TS):Option (Prop×(Nat->T)×TS):=runT P Γ GL own ops l (putT h d t) S outs
theorem yc3 {t:T}:ygl P Γ GL own ops l outs h d t S=runT P Γ GL own ops l (putT h d t) S outs:=f5 rfl rfl
def offT (P:gn) (Γ:Env) (GL:List (Nat×List Value)) (own:List Nat) (ops l:List Oper) (outs:List (T×TS)) (h:Nat->T) (d:Option Tmp) (S:TS) (_:Unit):Option (Prop×(Nat->T)×TS):=runT P Γ GL own ops l (putT h d (.tup [])) S outs
theorem yi3 {u:Unit}:offT P Γ GL own ops l outs h d S u=runT P Γ GL own ops l (putT h d (.tup [])) S outs:=f5 rfl rfl
def ygi (P:gn) (Γ:Env) (GL:List (Nat×List Value)) (own:List Nat) (ops l:List Oper) (outs:List (T×TS)) (h:Nat->T) (S:TS) (o:Oper) (_:Unit):Option (Prop×(Nat->T)×TS):=yfu (zgq P Γ own (zdf GL h) o S) (ygl P Γ GL own ops l outs h o.dst)
theorem yc0 {u:Unit} {op:Op}:ygi P Γ GL own ops l outs h S ⟨d,op,ty,pos,e,g⟩ u=yfu (zgq P Γ own (zdf GL h) ⟨d,op,ty,pos,e,g⟩ S) (ygl P Γ GL own ops l outs h d):=f5 rfl rfl
theorem z6d {op:Op} (hc:zck op=false):runT P Γ GL own ops (⟨d,op,ty,pos,e,g⟩ :: l) h S outs=zog (zix ops h g) (offT P Γ GL own ops l outs h d S) (ygi P Γ GL own ops l outs h S ⟨d,op,ty,pos,e,g⟩):=by
  rw [runT];simp only
  cases hg:zix ops h g with
  |none=>rfl
  |some b =>
    cases b with
    |false=>rfl
    |true =>
      simp only [zog,ygi]
      cases hs:zgq P Γ own (zdf GL h) ⟨d,op,ty,pos,e,g⟩ S with
      |none =>
        cases op with
        |call c =>
          obtain ⟨cal,args,tys⟩:=c
          cases cal with
          |value f=>simp [zck] at hc
          |_=>rfl
        |_=>rfl
      |some r =>
        cases op with
        |call c =>
          obtain ⟨cal,args,tys⟩:=c
          cases cal with
          |value f=>simp [zck] at hc
          |_=>rfl
        |_=>rfl
theorem yb1 {op:Op} (hc:zck op=false):runT P Γ GL own ops (⟨d,op,ty,pos,e,none⟩ :: l) h S outs=yfu (zgq P Γ own (zdf GL h) ⟨d,op,ty,pos,e,none⟩ S) (ygl P Γ GL own ops l outs h d):=by
  rw [z6d hc];rfl
theorem yb2 {op:Op} {j:Nat} {w:Bool} (hc:zck op=false):runT P Γ GL own ops (⟨d,op,ty,pos,e,some (j,w)⟩ :: l) h S outs=zog (zpa (zpk ops h j) w) (offT P Γ GL own ops l outs h d S) (ygi P Γ GL own ops l outs h S ⟨d,op,ty,pos,e,some (j,w)⟩):=by
  rw [z6d hc,zjm]
def yg4 (p:Option Prop) (k:Option (Prop×(Nat->T)×TS)):Option (Prop×(Nat->T)×TS):=match p,k with
  |some p,some (q,h,S)=>some (p/\q,h,S)
  |_,_=>none
theorem z2b {p q:Prop}:yg4 (some p) (some (q,h,S))=some (p/\q,h,S):=f5 rfl rfl
def yhm (P:gn) (Γ:Env) (GL:List (Nat×List Value)) (own:List Nat) (ops l:List Oper) (outs:List (T×TS)) (h:Nat->T) (S:TS) (d:Option Tmp) (f:f6) (args:List f6) (r:T×TS) (_:Unit):Option (Prop×(Nat->T)×TS):=yg4 (z0d P Γ GL S (args.map (zdf GL h)) (zdf GL h f) r) (runT P Γ GL own ops l (putT h d r.1) r.2 outs)
theorem z8s {u:Unit} {f:f6} {args:List f6} {r:T×TS}:yhm P Γ GL own ops l outs h S d f args r u=yg4 (z0d P Γ GL S (args.map (zdf GL h)) (zdf GL h f) r) (runT P Γ GL own ops l (putT h d r.1) r.2 outs):=f5 rfl rfl
theorem zwy {f:f6} {args:Array f6} {tys:Array gm} {r:T×TS}:runT P Γ GL own ops (⟨d,.call ⟨.value f,args,tys⟩,ty,pos,e,g⟩ :: l) h S (r :: outs)=zog (zix ops h g) (offT P Γ GL own ops l (r :: outs) h d S) (yhm P Γ GL own ops l outs h S d f args.toList r):=by
  rw [runT];simp only
  cases hg:zix ops h g with
  |none=>rfl
  |some b =>
    cases b with
    |false=>rfl
    |true =>
      simp only [zog,yhm]
      cases z0d P Γ GL S (args.toList.map (zdf GL h)) (zdf GL h f) r with
      |none=>rfl
      |some p=>cases runT P Γ GL own ops l (putT h d r.1) r.2 outs<;>rfl
theorem z1a {f:f6} {args:Array f6} {tys:Array gm} {r:T×TS}:runT P Γ GL own ops (⟨d,.call ⟨.value f,args,tys⟩,ty,pos,e,none⟩ :: l) h S (r :: outs)=yg4 (z0d P Γ GL S (args.toList.map (zdf GL h)) (zdf GL h f) r) (runT P Γ GL own ops l (putT h d r.1) r.2 outs):=by
  rw [zwy];rfl
theorem ztu {f:f6} {args:Array f6} {tys:Array gm} {r:T×TS} {j:Nat} {w:Bool}:runT P Γ GL own ops (⟨d,.call ⟨.value f,args,tys⟩,ty,pos,e,some (j,w)⟩ :: l) h S (r :: outs)=zog (zpa (zpk ops h j) w) (offT P Γ GL own ops l (r :: outs) h d S) (yhm P Γ GL own ops l outs h S d f args.toList r):=by
  rw [zwy,zjm]
theorem ztt {f:f6} {args:Array f6} {tys:Array gm} {j:Nat} {w:Bool}:runT P Γ GL own ops (⟨d,.call ⟨.value f,args,tys⟩,ty,pos,e,some (j,w)⟩ :: l) h S []=zog (zpa (zpk ops h j) w) (offT P Γ GL own ops l [] h d S) (fun _=>none):=by
  rw [runT];simp only [zjm]
  cases zpa (zpk ops h j) w with
  |none=>rfl
  |some b=>cases b<;>rfl
theorem z8o {k:Nat} {first cap args:List T} {r:T×TS}:z0d P Γ GL S args (.fn k first cap) r=some (Call P Γ GL k (first++args++cap) S r.1 r.2):=f5 rfl rfl
def yfv {α:Type} (r:Option T) (k:T->Option α):Option α:=match r with
  |some t=>k t
  |none=>none
theorem zwe {α:Type} (t:T) (k:T->Option α):yfv (some t) k=k t:=f5 rfl rfl
def ygm (P:gn) (Γ:Env) (GL:List (Nat×List Value)) (ops l:List Oper) (outs:List T) (h:Nat->T) (d:Option Tmp) (S:TS) (t:T):Option (Prop×(Nat->T)):=runP P Γ GL ops l (putT h d t) S outs
theorem z64 {t:T}:ygm P Γ GL ops l outsP h d S t=runP P Γ GL ops l (putT h d t) S outsP:=f5 rfl rfl
def offP (P:gn) (Γ:Env) (GL:List (Nat×List Value)) (ops l:List Oper) (outs:List T) (h:Nat->T) (d:Option Tmp) (S:TS) (_:Unit):Option (Prop×(Nat->T)):=runP P Γ GL ops l (putT h d (.tup [])) S outs
theorem yc1 {u:Unit}:offP P Γ GL ops l outsP h d S u=runP P Γ GL ops l (putT h d (.tup [])) S outsP:=f5 rfl rfl
def ygj (P:gn) (Γ:Env) (GL:List (Nat×List Value)) (ops l:List Oper) (outs:List T) (h:Nat->T) (S:TS) (o:Oper) (_:Unit):Option (Prop×(Nat->T)):=yfv (zgn P Γ (zdf GL h) o S) (ygm P Γ GL ops l outs h o.dst S)
theorem z60 {u:Unit} {op:Op}:ygj P Γ GL ops l outsP h S ⟨d,op,ty,pos,e,g⟩ u=yfv (zgn P Γ (zdf GL h) ⟨d,op,ty,pos,e,g⟩ S) (ygm P Γ GL ops l outsP h d S):=f5 rfl rfl
theorem z6f {op:Op} (hc:zck op=false):runP P Γ GL ops (⟨d,op,ty,pos,e,g⟩ :: l) h S outsP=zog (zix ops h g) (offP P Γ GL ops l outsP h d S) (ygj P Γ GL ops l outsP h S ⟨d,op,ty,pos,e,g⟩):=by
  rw [runP];simp only
  cases hg:zix ops h g with
  |none=>rfl
  |some b =>
    cases b with
    |false=>rfl
    |true =>
      simp only [zog,ygj]
      cases hs:zgn P Γ (zdf GL h) ⟨d,op,ty,pos,e,g⟩ S with
      |none =>
        cases op with
        |call c =>
          obtain ⟨cal,args,tys⟩:=c
          cases cal with
          |value f=>simp [zck] at hc
          |_=>rfl
        |_=>rfl
      |some r =>
        cases op with
        |call c =>
          obtain ⟨cal,args,tys⟩:=c
          cases cal with
          |value f=>simp [zck] at hc
          |_=>rfl
        |_=>rfl
theorem yb3 {op:Op} (hc:zck op=false):runP P Γ GL ops (⟨d,op,ty,pos,e,none⟩ :: l) h S outsP=yfv (zgn P Γ (zdf GL h) ⟨d,op,ty,pos,e,none⟩ S) (ygm P Γ GL ops l outsP h d S):=by
  rw [z6f hc];rfl
theorem yb4 {op:Op} {j:Nat} {w:Bool} (hc:zck op=false):runP P Γ GL ops (⟨d,op,ty,pos,e,some (j,w)⟩ :: l) h S outsP=zog (zpa (zpk ops h j) w) (offP P Γ GL ops l outsP h d S) (ygj P Γ GL ops l outsP h S ⟨d,op,ty,pos,e,some (j,w)⟩):=by
  rw [z6f hc,zjm]
def yg5 (p:Option Prop) (k:Option (Prop×(Nat->T))):Option (Prop×(Nat->T)):=match p,k with
  |some p,some (q,h)=>some (p/\q,h)
  |_,_=>none
theorem zxj {p q:Prop}:yg5 (some p) (some (q,h))=some (p/\q,h):=f5 rfl rfl
def z8r (P:gn) (Γ:Env) (GL:List (Nat×List Value)) (ops l:List Oper) (outs:List T) (h:Nat->T) (S:TS) (d:Option Tmp) (f:f6) (args:List f6) (r:T) (_:Unit):Option (Prop×(Nat->T)):=yg5 (z5j P Γ GL S (args.map (zdf GL h)) (zdf GL h f) r) (runP P Γ GL ops l (putT h d r) S outs)
theorem z3i {u:Unit} {f:f6} {args:List f6} {r:T}:z8r P Γ GL ops l outsP h S d f args r u=yg5 (z5j P Γ GL S (args.map (zdf GL h)) (zdf GL h f) r) (runP P Γ GL ops l (putT h d r) S outsP):=f5 rfl rfl
theorem zwz {f:f6} {args:Array f6} {tys:Array gm} {r:T}:runP P Γ GL ops (⟨d,.call ⟨.value f,args,tys⟩,ty,pos,e,g⟩ :: l) h S (r :: outsP)=zog (zix ops h g) (offP P Γ GL ops l (r :: outsP) h d S) (z8r P Γ GL ops l outsP h S d f args.toList r):=by
  rw [runP];simp only
  cases hg:zix ops h g with
  |none=>rfl
  |some b =>
    cases b with
    |false=>rfl
    |true =>
      simp only [zog,z8r]
      cases z5j P Γ GL S (args.toList.map (zdf GL h)) (zdf GL h f) r with
      |none=>rfl
      |some p=>cases runP P Γ GL ops l (putT h d r) S outsP<;>rfl
theorem z1b {f:f6} {args:Array f6} {tys:Array gm} {r:T}:runP P Γ GL ops (⟨d,.call ⟨.value f,args,tys⟩,ty,pos,e,none⟩ :: l) h S (r :: outsP)=yg5 (z5j P Γ GL S (args.toList.map (zdf GL h)) (zdf GL h f) r) (runP P Γ GL ops l (putT h d r) S outsP):=by
  rw [zwz];rfl
theorem ztw {f:f6} {args:Array f6} {tys:Array gm} {r:T} {j:Nat} {w:Bool}:runP P Γ GL ops (⟨d,.call ⟨.value f,args,tys⟩,ty,pos,e,some (j,w)⟩ :: l) h S (r :: outsP)=zog (zpa (zpk ops h j) w) (offP P Γ GL ops l (r :: outsP) h d S) (z8r P Γ GL ops l outsP h S d f args.toList r):=by
  rw [zwz,zjm]
theorem ztv {f:f6} {args:Array f6} {tys:Array gm} {j:Nat} {w:Bool}:runP P Γ GL ops (⟨d,.call ⟨.value f,args,tys⟩,ty,pos,e,some (j,w)⟩ :: l) h S []=zog (zpa (zpk ops h j) w) (offP P Γ GL ops l [] h d S) (fun _=>none):=by
  rw [runP];simp only [zjm]
  cases zpa (zpk ops h j) w with
  |none=>rfl
  |some b=>cases b<;>rfl
theorem z8q {k:Nat} {first cap args:List T} {r:T}:z5j P Γ GL S args (.fn k first cap) r=some (zal P Γ GL k (first++args++cap) S r):=f5 rfl rfl
theorem zbc {t u:Nat} {v:T}:tupd h t v u=if u=t then v else h u:=f5 rfl rfl
theorem ycq {t:Tmp} {v:T}:putT h (some t) v=tupd h t v:=f5 rfl rfl
theorem ycr {v:T}:putT h none v=h:=f5 rfl rfl
theorem zqf {t:Tmp}:zdf GL h (.tmp t)=h t:=f5 rfl rfl
theorem zje {v:Value}:zdf GL h (.const v)=znm v:=f5 rfl rfl
theorem yek {f:Nat}:zdf GL h (.func f)=.fn f [] []:=f5 rfl rfl
theorem z2y {f:Nat}:zdf GL h (.global f)=yec GL f:=f5 rfl rfl
theorem yi5 {k:ir} {n:Int}:znm (.int k n)=.int k n:=f5 rfl rfl
theorem zl1 {b:Bool}:znm (.bool b)=.bool b:=f5 rfl rfl
theorem yi4 {b:ByteArray}:znm (.string b)=.str b:=f5 rfl rfl
theorem ydm:znm (.slice none 0 0)=.nils:=f5 rfl rfl
theorem ydn:znm (.pointer none)=.nilp:=f5 rfl rfl
theorem ydo:znm (.map none)=.nilm:=f5 rfl rfl
theorem ydp:znm .nilFunc=.nilf:=f5 rfl rfl
theorem zv9 {t:T}:zhz S (some t)=some (t,S):=f5 rfl rfl
theorem zwa:yaq (some S)=some (.junk,S):=f5 rfl rfl
-- which operations are calls
theorem yd4 {x}:zck (.move x)=false:=f5 rfl rfl
theorem z2k {x}:zck (.assign x)=false:=f5 rfl rfl
theorem yd3 {a b c}:zck (.pick a b c)=false:=f5 rfl rfl
theorem z7o {x}:zck (.alloc x)=false:=f5 rfl rfl
theorem yjc {x y}:zck (.box x y)=false:=f5 rfl rfl
theorem z7n {x y}:zck (.build x y)=false:=f5 rfl rfl
theorem zca {x y z}:zck (.buildSlice x y z)=false:=f5 rfl rfl
theorem yd5 {x y}:zck (.load x y)=false:=f5 rfl rfl
theorem z7j {x y z}:zck (.store x y z)=false:=f5 rfl rfl
theorem zur {x}:zck (.nilCheck x)=false:=f5 rfl rfl
theorem yjd {x y z w v}:zck (.binOp x y z w v)=false:=f5 rfl rfl
theorem yob {x y z}:zck (.unOp x y z)=false:=f5 rfl rfl
theorem yd6 {x y z}:zck (.convert x y z)=false:=f5 rfl rfl
theorem yjb {x y}:zck (.sliceToArrayPointer x y)=false:=f5 rfl rfl
theorem zus {x y z}:zck (.makeFunc x y z)=false:=f5 rfl rfl
theorem zbs {x y z w}:zck (.lookup x y z w)=false:=f5 rfl rfl
theorem zba {x y}:zck (.makeMap x y)=false:=f5 rfl rfl
theorem za0 {x y z w}:zck (.mapUpdate x y z w)=false:=f5 rfl rfl
theorem zbt {x y z w}:zck (.insert x y z w)=false:=f5 rfl rfl
theorem zrw {x y z}:zck (.makeSlice x y z)=false:=f5 rfl rfl
theorem z7k {x y z w v}:zck (.slice x y z w v)=false:=f5 rfl rfl
theorem zry {x y z}:zck (.fieldAddr x y z)=false:=f5 rfl rfl
theorem z7m {x y z}:zck (.field x y z)=false:=f5 rfl rfl
theorem zrx {x y z}:zck (.indexAddr x y z)=false:=f5 rfl rfl
theorem z7l {x y z}:zck (.index x y z)=false:=f5 rfl rfl
theorem zxx {x y}:zck (.extract x y)=false:=f5 rfl rfl
theorem zxy {b x y}:zck (.call ⟨.builtin b,x,y⟩)=false:=f5 rfl rfl
variable {ρ:f6->T} {t t2:gm} {x y z:f6}
theorem ybu  : zgq P Γ own ρ ⟨d,.move x,ty,pos,e,g⟩ S=zhz S (some (ρ x)):=f5 rfl rfl
theorem zgo  : zgn P Γ ρ ⟨d,.move x,ty,pos,e,g⟩ S=some (ρ x):=f5 rfl rfl
theorem z06  : zgq P Γ own ρ ⟨d,.assign x,ty,pos,e,g⟩ S=zhz S (some (ρ x)):=f5 rfl rfl
theorem z08  : zgn P Γ ρ ⟨d,.assign x,ty,pos,e,g⟩ S=some (ρ x):=f5 rfl rfl
theorem ybv  : zgq P Γ own ρ ⟨d,.load t x,ty,pos,e,g⟩ S=zhz S (ztb Γ S t (ρ x)):=f5 rfl rfl
theorem ybz  : zgn P Γ ρ ⟨d,.load t x,ty,pos,e,g⟩ S=ztb Γ S t (ρ x):=f5 rfl rfl
theorem zro {k:Nat}:zgq P Γ own ρ ⟨d,.fieldAddr t x k,ty,pos,e,g⟩ S=zhz S (zao Γ S t k (ρ x)):=f5 rfl rfl
theorem zrq {k:Nat}:zgn P Γ ρ ⟨d,.fieldAddr t x k,ty,pos,e,g⟩ S=zao Γ S t k (ρ x):=f5 rfl rfl
theorem zrn  : zgq P Γ own ρ ⟨d,.indexAddr t x y,ty,pos,e,g⟩ S=zhz S (zh6 Γ S t (ρ x) (ρ y)):=f5 rfl rfl
theorem zrp  : zgn P Γ ρ ⟨d,.indexAddr t x y,ty,pos,e,g⟩ S=zh6 Γ S t (ρ x) (ρ y):=f5 rfl rfl
theorem z56  : zgq P Γ own ρ ⟨d,.index t x y,ty,pos,e,g⟩ S=zhz S (ztc Γ t (ρ x) (ρ y)):=f5 rfl rfl
theorem z6a  : zgn P Γ ρ ⟨d,.index t x y,ty,pos,e,g⟩ S=ztc Γ t (ρ x) (ρ y):=f5 rfl rfl
theorem zwu {k:Nat}:zgq P Γ own ρ ⟨d,.extract x k,ty,pos,e,g⟩ S=zhz S (zlq k (ρ x)):=f5 rfl rfl
theorem zwv {k:Nat}:zgn P Γ ρ ⟨d,.extract x k,ty,pos,e,g⟩ S=zlq k (ρ x):=f5 rfl rfl
theorem yno {u:UnOp}:zgq P Γ own ρ ⟨d,.unOp u t x,ty,pos,e,g⟩ S=zhz S (tUn u (ρ x)):=f5 rfl rfl
theorem ynp {u:UnOp}:zgn P Γ ρ ⟨d,.unOp u t x,ty,pos,e,g⟩ S=tUn u (ρ x):=f5 rfl rfl
theorem yil {b:BinOp}:zgq P Γ own ρ ⟨d,.binOp b t x y t2,ty,pos,e,g⟩ S=zhz S (tBin P Γ S t b x y (ρ x) (ρ y)):=f5 rfl rfl
theorem yin {b:BinOp}:zgn P Γ ρ ⟨d,.binOp b t x y t2,ty,pos,e,g⟩ S=tBin P Γ S t b x y (ρ x) (ρ y):=f5 rfl rfl
theorem z57 {parts:Array (Nat×f6)}:zgq P Γ own ρ ⟨d,.build t parts,ty,pos,e,g⟩ S=zhz S (zj4 Γ ρ t parts.toList):=f5 rfl rfl
theorem z6b {parts:Array (Nat×f6)}:zgn P Γ ρ ⟨d,.build t parts,ty,pos,e,g⟩ S=zj4 Γ ρ t parts.toList:=f5 rfl rfl
theorem z55 {lo hi mx:Option f6}:zgq P Γ own ρ ⟨d,.slice t x lo hi mx,ty,pos,e,g⟩ S=zhz S (zta Γ S t (ρ x) (lo.map ρ) (hi.map ρ) (mx.map ρ)):=f5 rfl rfl
theorem z59 {lo hi mx:Option f6}:zgn P Γ ρ ⟨d,.slice t x lo hi mx,ty,pos,e,g⟩ S=zta Γ S t (ρ x) (lo.map ρ) (hi.map ρ) (mx.map ρ):=f5 rfl rfl
theorem ztq {f:Nat} {a c:Array f6}:zgq P Γ own ρ ⟨d,.makeFunc (.func f) a c,ty,pos,e,g⟩ S=zhz S (some (.fn f (a.toList.map ρ) (c.toList.map ρ))):=f5 rfl rfl
theorem ztr {f:Nat} {a c:Array f6}:zgn P Γ ρ ⟨d,.makeFunc (.func f) a c,ty,pos,e,g⟩ S=some (.fn f (a.toList.map ρ) (c.toList.map ρ)):=f5 rfl rfl
def ygg (c a b:T):Option T:=match c with|.bool t=>some (bif t then a else b)|_=>none
theorem ycn {a b:T}:ygg (.bool true) a b=some a:=f5 rfl rfl
theorem yco {a b:T}:ygg (.bool false) a b=some b:=f5 rfl rfl
theorem z38:zgn P Γ ρ ⟨d,.pick z x y,ty,pos,e,g⟩ S=ygg (ρ z) (ρ x) (ρ y):=by
  show (match ρ z with|.bool t=>some (bif t then ρ x else ρ y)|_=>none)=_;cases ρ z<;>rfl
theorem ybt:zgq P Γ own ρ ⟨d,.pick z x y,ty,pos,e,g⟩ S=zhz S (ygg (ρ z) (ρ x) (ρ y)):=by
  show zhz S (zgn P Γ ρ ⟨d,.pick z x y,ty,pos,e,g⟩ S)=_;rw [z38]
theorem z58:zgq P Γ own ρ ⟨d,.alloc t,ty,pos,e,g⟩ S=zwk Γ S t:=f5 rfl rfl
theorem yik:zgq P Γ own ρ ⟨d,.box t x,ty,pos,e,g⟩ S=tBox S (ρ x):=f5 rfl rfl
theorem z54:zgq P Γ own ρ ⟨d,.store t x y,ty,pos,e,g⟩ S=yaq (zwi Γ S t (ρ y) (ρ x)):=f5 rfl rfl
theorem zrm:zgq P Γ own ρ ⟨d,.makeSlice t x y,ty,pos,e,g⟩ S=zjh Γ S t (ρ x) (ρ y):=f5 rfl rfl
theorem ybw:zgq P Γ own ρ ⟨d,.convert t t2 x,ty,pos,e,g⟩ S=bif ownD own d then zsg Γ S t t2 (ρ x) else zhz S (zri Γ S t t2 (ρ x)):=f5 rfl rfl
theorem yb0:zgn P Γ ρ ⟨d,.convert t t2 x,ty,pos,e,g⟩ S=zri Γ S t t2 (ρ x):=f5 rfl rfl
theorem zai {n:Nat} {parts:Array (Nat×f6)}:zgq P Γ own ρ ⟨d,.buildSlice t n parts,ty,pos,e,g⟩ S=bif ownD own d then zar Γ S ρ t n parts.toList else zhz S (zam Γ ρ t n parts.toList):=f5 rfl rfl
theorem zap {n:Nat} {parts:Array (Nat×f6)}:zgn P Γ ρ ⟨d,.buildSlice t n parts,ty,pos,e,g⟩ S=zam Γ ρ t n parts.toList:=f5 rfl rfl
theorem yim:zgn P Γ ρ ⟨d,.call ⟨.builtin .len,#[x],#[t]⟩,ty,pos,e,g⟩ S=tLen Γ S t (ρ x):=f5 rfl rfl
theorem yij:zgq P Γ own ρ ⟨d,.call ⟨.builtin .len,#[x],#[t]⟩,ty,pos,e,g⟩ S=zhz S (tLen Γ S t (ρ x)):=f5 rfl rfl
theorem z07:zgq P Γ own ρ ⟨d,.call ⟨.builtin .append,#[x,y],#[t,t2]⟩,ty,pos,e,g⟩ S=bif srcT Γ t2 then zmp Γ S t (ρ y) (ρ x) else none:=f5 rfl rfl
theorem yf2:zgq P Γ own ρ ⟨d,.call ⟨.builtin .clear,#[x],#[t]⟩,ty,pos,e,g⟩ S=ztd Γ S t (ρ x):=f5 rfl rfl
def minT (a b:T):Option T:=match a,b with|.int k a,.int _ b=>some (.int k (min a b))|_,_=>none
def maxT (a b:T):Option T:=match a,b with|.int k a,.int _ b=>some (.int k (max a b))|_,_=>none
theorem z66 {k k':ir} {a b:Int}:minT (.int k a) (.int k' b)=some (.int k (min a b)):=f5 rfl rfl
theorem z67 {k k':ir} {a b:Int}:maxT (.int k a) (.int k' b)=some (.int k (max a b)):=f5 rfl rfl
theorem ybx {tys:Array gm}:zgn P Γ ρ ⟨d,.call ⟨.builtin .min,#[x,y],tys⟩,ty,pos,e,g⟩ S=minT (ρ x) (ρ y):=by
  show (match ρ x,ρ y with|.int k a,.int _ b=>some (fg k (min a b))|_,_=>none)=_;cases ρ x<;>cases ρ y<;>rfl
theorem yih {tys:Array gm}:zgq P Γ own ρ ⟨d,.call ⟨.builtin .min,#[x,y],tys⟩,ty,pos,e,g⟩ S=zhz S (minT (ρ x) (ρ y)):=by
  show zhz S (zgn P Γ ρ ⟨d,.call ⟨.builtin .min,#[x,y],tys⟩,ty,pos,e,g⟩ S)=_;rw [ybx]
theorem yby {tys:Array gm}:zgn P Γ ρ ⟨d,.call ⟨.builtin .max,#[x,y],tys⟩,ty,pos,e,g⟩ S=maxT (ρ x) (ρ y):=by
  show (match ρ x,ρ y with|.int k a,.int _ b=>some (fg k (max a b))|_,_=>none)=_;cases ρ x<;>cases ρ y<;>rfl
theorem yii {tys:Array gm}:zgq P Γ own ρ ⟨d,.call ⟨.builtin .max,#[x,y],tys⟩,ty,pos,e,g⟩ S=zhz S (maxT (ρ x) (ρ y)):=by
  show zhz S (zgn P Γ ρ ⟨d,.call ⟨.builtin .max,#[x,y],tys⟩,ty,pos,e,g⟩ S)=_;rw [yby]
theorem yic {b:BinOp} {k k':ir} {m n:Int}:tBin P Γ S t b x y (.int k m) (.int k' n)=zbr b k k' m n:=f5 rfl rfl
theorem yib {b:BinOp} {m n:ByteArray}:tBin P Γ S t b x y (.str m) (.str n)=zwl b m n:=f5 rfl rfl
theorem yif {m n:ByteArray}:zwl .eql m n=some (.bool (decide (m=n))):=f5 rfl rfl
theorem yie {m n:ByteArray}:zwl .neq m n=some (.bool (!decide (m=n))):=f5 rfl rfl
theorem yh9 {b:Bool}:tUn .not (.bool b)=some (.bool (!b)):=f5 rfl rfl
theorem yia {k:ir} {n:Int}:tUn .neg (.int k n)=some (.int k (k.wrap (0 - n))):=f5 rfl rfl
end
section
variable {k:ir} {a b:Int}
theorem yjm:zbr .add k k a b=some (.int k (k.wrap (a+b))):=by simp [zbr]
theorem yje:zbr .sub k k a b=some (.int k (k.wrap (a - b))):=by simp [zbr]
theorem yjg:zbr .mul k k a b=some (.int k (k.wrap (a*b))):=by simp [zbr]
theorem yjl:zbr .eql k k a b=some (.bool (decide (a=b))):=by simp [zbr]
theorem yjf:zbr .neq k k a b=some (.bool (decide (a≠b))):=by simp [zbr]
theorem yjh:zbr .lss k k a b=some (.bool (decide (a<b))):=by simp [zbr]
theorem yji:zbr .leq k k a b=some (.bool (decide (a<=b))):=by simp [zbr]
theorem yjj:zbr .gtr k k a b=some (.bool (decide (b<a))):=by simp [zbr]
theorem yjk:zbr .geq k k a b=some (.bool (decide (b<=a))):=by simp [zbr]
theorem zf6 (ha:0<=a) (hb:0<b):zbr .quo k k a b=some (.int k (k.wrap (a / b))):=by
  simp only [zbr,i8,cond_true];rw [zAd (by omega),Int.tdiv_eq_ediv_of_nonneg ha]
theorem zf5 (ha:0<=a) (hb:0<b):zbr .rem k k a b=some (.int k (a % b)):=by
  simp only [zbr,i8,cond_true];rw [zAd (by omega),Int.tmod_eq_emod_of_nonneg ha]
theorem yof:zbr .and k k a b=some (.int k (k.wrap (i6 k.bits a &&& i6 k.bits b).toNat)):=by simp [zbr]
theorem ib_or:zbr .or k k a b=some (.int k (k.wrap (i6 k.bits a ||| i6 k.bits b).toNat)):=by simp [zbr]
theorem yoc:zbr .xor k k a b=some (.int k (k.wrap (i6 k.bits a ^^^ i6 k.bits b).toNat)):=by simp [zbr]
theorem yoe {k':ir} (hb:0<=b):zbr .shl k k' a b=some (.int k (k.wrap (a*2 ^ (min b.toNat k.bits)))):=by simp [zbr,hb]
theorem yod {k':ir} (hb:0<=b):zbr .shr k k' a b=some (.int k (a.fdiv (2 ^ (min b.toNat k.bits)))):=by simp [zbr,hb]
theorem wr64 {n:Int} (h:-9223372036854775808<=n/\n<=9223372036854775807):IntKind.i64.wrap n=n:=yl6 h
theorem yc8 {n:Int} (h:0<=n):natT (.int k n)=some n.toNat:=by
  obtain ⟨m,rfl⟩:=jt h;rfl
theorem yda {n:Int} (h:0<=n):zhr (.int k n)=some n.toNat:=by
  obtain ⟨m,rfl⟩:=jt h;rfl
theorem zw6 {n:Int}:zej (.int k n)=.int k n:=f5 rfl rfl
theorem yg9 {α:Type} [Inhabited α] {L:List α} {n:Nat} (h:n<L.length):L[n]?=some (L.getD n default):=by
  rw [fo,fj h];rfl
def stL (l:List Box):TS:=⟨l.length,fun i=>l.getD i .gone⟩
theorem zs6:ts0=stL []:=rfl
theorem st_n (l:List Box):(stL l).n=l.length:=rfl
theorem yid (l:List Box) (i:Nat):(stL l).box i=l.getD i .gone:=rfl
theorem z0u (l:List Box) (x:Box):(stL l).add x=stL (l++[x]):=by
  unfold stL TS.add;simp only [fw,gg,jd];congr 1;funext i;by_cases hi:i<l.length
  . rw [zAd (by omega),fo,fo,gh hi]
  . by_cases he:i=l.length
    . subst he;rw [zAc rfl];simp
    . rw [zAd he,fo,fo,jv (by omega),jv (by simp;omega)]
theorem zed (l:List Box) (b:Nat) (x:Box) (h:b<l.length):(stL l).set b x=stL (l.set b x):=by
  unfold stL TS.set;simp only [List.length_set];congr 1;funext i;rw [fo,fo,List.getElem?_set];by_cases hi:i=b
  . subst hi;rw [zAc rfl,zAc rfl,zAc h];rfl
  . rw [zAd hi,zAd (fun hh=>hi hh.symm)]
theorem z2n {α:Type} (x d:α) (l:List α):(x :: l).getD 0 d=x:=rfl
theorem z2o {α:Type} (x d:α) (l:List α) (n:Nat):(x :: l).getD (n+1) d=l.getD n d:=rfl
end
def zi4 (l:List Nat) (h:Nat->T):Nat->T:=fun t=>if t∈l then h t else .junk
def zf3:List Nat->Nat->(Nat->T)->Prop
  |[],_,_=>True
  |t :: l,n,h=>(h t).ids n=true/\zf3 l n h
theorem zo0 {n:Nat} {h:Nat->T}:∀ {l:List Nat},zf3 l n h->∀ t,t∈l->(h t).ids n=true
  |[],_,t,ht=>by simp at ht
  |x :: l,k,t,ht=>by
    rcases List.mem_cons.1 ht with rfl|ht
    . exact k.1
    . exact zo0 k.2 t ht
def zd3 (n:Nat):List Box->Bool
  |[]=>true
  |b :: l=>zhx n b && zd3 n l
theorem yli {l:List T} {i:Nat} {x:T} (h:i<l.length):spl l i [x]=l.set i x:=by
  unfold spl;rw [List.set_eq_take_append_cons_drop,zAc h];simp
theorem ylm {α:Type} {L:List α} {f:α->T} {i:Nat} {v:α}:(L.map f).set i (f v)=(L.set i v).map f:=(List.map_set).symm
theorem yll {l:List T}:spl l 0 []=l:=by simp [spl]
theorem ynj {a:T} {l xs:List T} {n:Nat}:spl (a :: l) (n+1) xs=a :: spl l n xs:=by
  unfold spl;rw [show n+1+xs.length=(n+xs.length)+1 by omega];simp
theorem ynk {a x:T} {l xs:List T}:spl (a :: l) 0 (x :: xs)=x :: spl l 0 xs:=by simp [spl]
theorem ylj {α:Type} {L:List α} {f:α->T} {i:Nat} {v:α} (h:i<L.length):spl (L.map f) i [f v]=(L.set i v).map f:=by
  rw [yli (by rw [fq];exact h),ylm]
theorem yca (n:Nat) (k:ir) (z:Int):rep n [.int k z]=(List.replicate n z).map (fg k):=by
  unfold rep
  induction n with
  |zero=>rfl
  |succ n ih=>rw [jb,ig,ih,jb];rfl
theorem z6j (n:Nat) (z:Bool):rep n [.bool z]=(List.replicate n z).map sp:=by
  unfold rep
  induction n with
  |zero=>rfl
  |succ n ih=>rw [jb,ig,ih,jb];rfl
theorem zll {α:Type} {L:List α} {f:α->T} (h:∀ x,(f x).cells=[f x]):(L.map f).flatMap jc=L.map f:=by
  induction L with
  |nil=>rfl
  |cons x l ih=>rw [iz,i9,h,ih];rfl
theorem z69 {α:Type} {S:TS} {b N:Nat} {z:Bool} {L:List α} {f:α->T} (h1:∀ x,(f x).cells=[f x]) (hS:S.box b=.cells z N (L.map f)) (hl:L.length=N):yhz S (.arr b 1 0 N N N) (.lst 1 (L.map f)) :=
  .inr ⟨b,1,0,N,N,N,z,L.map f,L.map f,rfl,rfl,hS,by omega,by omega,by rw [gl,qg,ii (by rw [fq];omega),zll h1],fun t ht=>by obtain ⟨x,_,rfl⟩:=jn.1 ht;rw [h1];rfl,by rw [fq];exact hl,fm _⟩
section
variable {GL:List (Nat×List Value)} {A A' A2:Nat->Prop} {β β' β2:Bx} {S S' S2:TS} {s s' s2:CS} {P:gn} {Γ:Env} {N:Nat} {h h' h2:Nat->T} {Q R:Exit->(Nat->T)->TS->Prop}
theorem zka {l:List Nat} {t:Nat} (ht:t∈l):zi4 l h t=h t:=zAc ht
theorem zno {n:Nat} {l:List Box}:∀ {i:Nat},zd3 n l=true->zhx n (l.getD i .gone)=true:=by
  induction l with
  |nil=>intro i _;rfl
  |cons b l ih =>
    intro i h;simp only [zd3,fi] at h
    cases i with
    |zero=>exact h.1
    |succ i=>exact ih h.2
theorem Left.trim {fr fr':Fr} {keep:List Nat} {bs bs2 extra:List Box} (hT:TRel GL A β (stL bs) s) (k:Left GL A β s N fr' s' h' (stL (bs2++extra))) (hl:bs2.length=bs.length) (hb:zd3 bs.length bs2=true) (hk:zf3 keep bs.length h'):Left GL A β s N fr' s' (zi4 keep h') (stL bs2):=by
  obtain ⟨A',β',k1,k2,k3⟩:=k;have hat:∀ b,b<bs.length->bcut β' bs.length b=β' b:=fun b hb=>zAc hb
  have hsub:∀ b l,bcut β' bs.length b=some l->β' b=some l:=fun b l h=>by
    unfold bcut at h;split at h
    . exact h
    . simp at h
  have hkp:zrf (stL (bs2++extra)) (stL bs2):=by
    refine ⟨by simp [stL],fun b=>?_⟩;by_cases hbl:b<bs2.length
    . refine .inr ⟨hbl,?_,?_⟩
      . show bs2.getD b .gone=(bs2++extra).getD b .gone;rw [fo,fo,gh hbl]
      . show zhx bs2.length ((bs2++extra).getD b .gone)=true;rw [fo,gh hbl,<- fo,hl];exact zno hb
    . left;show bs2.getD b .gone=.gone;rw [fo,jv (by omega)];rfl
  have hcut:=k2.cut hkp;have hn:(stL bs2).n=bs.length:=hl;rw [hn] at hcut;refine ⟨A',bcut β' bs.length,⟨k1.nt,k1.le,fun t=>?_⟩,hcut,k3.can,k3.sub,k3.new,fun f hf=>?_,k3.keep,fun b l hb'=>?_,k3.rd,k3.wr⟩
  . by_cases ht:t∈keep
    . rw [zka ht];exact (k1.slot t).ids hat (zo0 hk t ht)
    . rw [show zi4 keep h' t=.junk from zAd ht];exact .junk _
  . obtain ⟨b,hb'⟩:=hf;exact k3.own f ⟨b,hb'.imp (fun ⟨u,N,h⟩=>⟨u,N,hsub _ _ h⟩) fun h=>hsub _ _ h⟩
  . obtain ⟨l',c1,c2⟩:=k3.bx b l hb'
    have:b<bs.length:=by
      by_cases hh:b<bs.length
      . exact hh
      . rw [hT.next b (by show bs.length<=b;omega)] at hb';simp at hb'
    exact ⟨l',by rw [hat b this];exact c1,c2⟩
def yo0 (keep:List Nat) (n:Nat) (I:Nat->(Nat->T)->List Box->Prop) (m0:Nat) (h':Nat->T) (S':TS):Prop :=
  ∃ m,m<m0/\∃ bs',S'=stL bs'/\n<=bs'.length/\zd3 n (bs'.take n)=true/\zf3 keep n h'/\I m (zi4 keep h') (bs'.take n)
theorem TW.loopT {b:Code} (keep:List Nat) (I:Nat->(Nat->T)->List Box->Prop) (hb:∀ m h bs,I m h bs->TW P Γ GL N b h (stL bs) (onT (fun h' S'=>yo0 keep bs.length I m h' S') Q)):∀ m h bs,I m h bs->TW P Γ GL N (.loop b) h (stL bs) Q:=by
  intro m
  induction m using Nat.strongRecOn with
  |_ m ih =>
    intro h bs hI A β fr s hF hT;obtain ⟨e,fr1,s1,h1,h',S',hleft,hq⟩:=hb m h bs hI A β fr s hF hT
    cases e with
    |normal =>
      obtain ⟨m2,hm,bs',rfl,hl,hbi,hki,hI'⟩:=hq;have hl2:=Left.trim (fr:=fr) (keep:=keep) (bs2:=bs'.take bs.length) (extra:=bs'.drop bs.length) hT (by rw [i7];exact hleft) (by rw [ij];omega) hbi hki;obtain ⟨A',β',k1,k2,k3⟩:=hl2;obtain ⟨e2,fr2,s2,h3,h2,S2,l2,q2⟩:=ih m2 hm _ _ hI' A' β' fr1 s1 k1 k2;exact ⟨e2,fr2,s2,Ev.again h1 h3,h2,S2,Left.trans (h':=h) (fr':=fr) hT.le k3 l2,q2⟩
    |_=>exact ⟨_,_,_,Ev.last h1 (by simp),h',S',hleft,hq⟩
def Ends (keep:List Nat) (n:Nat) (R:(Nat->T)->List Box->Prop) (h':Nat->T) (S':TS):Prop :=
  ∃ bs',S'=stL bs'/\n<=bs'.length/\zd3 n (bs'.take n)=true/\zf3 keep n h'/\R (zi4 keep h') (bs'.take n)
theorem TRel.freezeP (hT:TRel GL A β S s) {b M:Nat} {z:Bool} {l:List T} (hS:S.box b=.cells z M l) :
    ∃ A' β',TRel GL A' β' (S.set b .gone) s/\Stp A β s A' β' s/\∀ {v:Value},VT A β (zaa s.obj) (.ptr b 0 M) v->VT A' β' (zaa s.obj) (.cp l) v:=by
  obtain ⟨hlN,hc⟩:=hT.cells b z M l hS;rcases hc with ⟨hb,hN,_⟩|⟨f,u,cs,rest,hb,hz,hat,hvl,hone⟩
  . obtain ⟨k1,k2⟩:=hT.dead hb A (fun _ h=>h) (fun _ h=>.inl h);refine ⟨_,_,k1,k2,fun {v} hv=>?_⟩;obtain ⟨f,u,rfl,hb'⟩:=zkm hT hS hv;rw [hb] at hb';simp at hb'
  . obtain ⟨k1,k2⟩:=hT.dead hb (fun k=>A k\/k=f) (fun _ h=>.inl h) (fun k hk=>hk.imp id fun q=>by rw [q];rfl);refine ⟨_,_,k1,k2,fun {v} hv=>?_⟩;obtain ⟨f',u',rfl,hb'⟩:=zkm hT hS hv;rw [hb] at hb';cases hb'
    have hrow:zbq (zaa s.obj f).rows u=some cs:=by
      rw [hat];show zbq ((u,cs) :: rest) u=some cs;unfold zbq;rw [i8];rfl
    exact .cp (.inr rfl) hrow (hvl.mono (fun _ h=>.inl h) (fun _ _=>rfl) k2.bx) (by rw [gl,l8])
theorem TW.freezeP {c:Code} (t:Nat) {b M:Nat} {z:Bool} {l:List T} (ht:h t=.ptr b 0 M) (hS:S.box b=.cells z M l) (k:TW P Γ GL N c (tupd h t (.cp l)) (S.set b .gone) Q):TW P Γ GL N c h S Q:=by
  intro A β fr s hF hT;obtain ⟨A',β',k1,k2,k3⟩:=hT.freezeP hS;have hv:=hF.slot t;rw [ht] at hv
  have hF':FrOk A' β' (zaa s.obj) N (tupd h t (.cp l)) fr:=⟨hF.nt,hF.le,fun u=>by
    by_cases hu:u=t
    . subst hu;rw [zhf];exact k3 hv
    . rw [zlp _ _ _ _ hu];exact k2.vt hT (hF.slot u)⟩
  refine (k A' β' fr s hF' k1).mono ?_;rintro e2 fr2 s2 ⟨h2,S2,l2,q2⟩;exact ⟨h2,S2,Left.trans (h':=h) (fr':=fr) hT.le k2 l2,q2⟩
theorem TW.cut {a:Code} {k:(Nat->T)->TS->Prop} (keep:List Nat) {bs:List Box} (R:(Nat->T)->List Box->Prop) (hR:TW P Γ GL N a h (stL bs) fun e h' S'=>e=.normal/\Ends keep bs.length R h' S') (hk:∀ h bs2,R h bs2->k h (stL bs2)):TW P Γ GL N a h (stL bs) (onT k Q):=by
  intro A β fr s hF hT;obtain ⟨e,fr1,s1,h1,h',S',hleft,rfl,bs',rfl,hl,hbi,hki,hq⟩:=hR A β fr s hF hT;exact ⟨_,fr1,s1,h1,_,_,Left.trim (fr:=fr) (keep:=keep) (bs2:=bs'.take bs.length) (extra:=bs'.drop bs.length) hT (by rw [i7];exact hleft) (by rw [ij];omega) hbi hki,hk _ _ hq⟩
end
theorem zso {k:ir} {n:Int}:m9 (fg k n)=true:=f5 rfl rfl
theorem z8l {k:ir} {n:Int}:jc (fg k n)=[(fg k n)]:=f5 rfl rfl
theorem zpt {b:Bool}:m9 (sp b)=true:=f5 rfl rfl
theorem z3h {b:Bool}:jc (sp b)=[(sp b)]:=f5 rfl rfl
theorem zsm {b:ByteArray}:m9 (pf b)=true:=f5 rfl rfl
theorem z8i {b:ByteArray}:jc (pf b)=[(pf b)]:=f5 rfl rfl
theorem zsn {e:Nat} {l:List T}:m9 (T.lst e l)=true:=f5 rfl rfl
theorem z8k {e:Nat} {l:List T}:jc (T.lst e l)=[(T.lst e l)]:=f5 rfl rfl
theorem z1q  : m9 (T.nils)=true:=f5 rfl rfl
theorem z3b  : jc (T.nils)=[(T.nils)]:=f5 rfl rfl
theorem z1r  : m9 (T.nilp)=true:=f5 rfl rfl
theorem z3c  : jc (T.nilp)=[(T.nilp)]:=f5 rfl rfl
theorem z1s  : m9 (T.nilm)=true:=f5 rfl rfl
theorem z3d  : jc (T.nilm)=[(T.nilm)]:=f5 rfl rfl
theorem z1t  : m9 (T.nilf)=true:=f5 rfl rfl
theorem z3e  : jc (T.nilf)=[(T.nilf)]:=f5 rfl rfl
theorem z6x {b o n:Nat}:m9 (T.ptr b o n)=true:=f5 rfl rfl
theorem z8j {b o n:Nat}:jc (T.ptr b o n)=[(T.ptr b o n)]:=f5 rfl rfl
theorem ycz {l:List T}:m9 (T.cp l)=true:=f5 rfl rfl
theorem ye4 {l:List T}:jc (T.cp l)=[(T.cp l)]:=f5 rfl rfl
theorem z6z {b e o l c n:Nat}:m9 (T.arr b e o l c n)=true:=f5 rfl rfl
theorem z8n {b e o l c n:Nat}:jc (T.arr b e o l c n)=[(T.arr b e o l c n)]:=f5 rfl rfl
theorem ycx {b:Nat}:m9 (T.mp b)=true:=f5 rfl rfl
theorem ye2 {b:Nat}:jc (T.mp b)=[(T.mp b)]:=f5 rfl rfl
theorem ycy {f:Nat} {a c:List T}:m9 (T.fn f a c)=true:=f5 rfl rfl
theorem ye3 {f:Nat} {a c:List T}:jc (T.fn f a c)=[(T.fn f a c)]:=f5 rfl rfl
theorem z6y {e:Nat}:m9 (T.emp e)=true:=f5 rfl rfl
theorem z8m {e:Nat}:jc (T.emp e)=[(T.emp e)]:=f5 rfl rfl
theorem yk4 {k:ir}:aggT (.int k)=false:=f5 rfl rfl
theorem yk5  : aggT .bool=false:=f5 rfl rfl
theorem yk0  : aggT .string=false:=f5 rfl rfl
theorem yk3 {k:gm}:aggT (.slice k)=false:=f5 rfl rfl
theorem yk1 {k:gm}:aggT (.pointer k)=false:=f5 rfl rfl
theorem yk2 {k k2:gm}:aggT (.map k k2)=false:=f5 rfl rfl
theorem b0:type_of% (fc (fc (fc (fc (fc (@yb1) (@yb2)) (fc (@z1a) (@ztu))) (fc (fc (@ztt) (@z6c)) (fc (@yc3) (@yi3)))) (fc (fc (fc (@yc0) (@z8s)) (fc (@yb3) (@yb4))) (fc (fc (@z1b) (@ztw)) (fc (@ztv) (@z6e))))) (fc (fc (fc (fc (@z64) (@yc1)) (fc (@z60) (@z3i))) (fc (fc (@yar) (@yas)) (fc (@yau) (@yav)))) (fc (fc (fc (@yat) (@zwn)) (fc (@zwo) (@yed))) (fc (fc (@z7r) (@z0p)) (fc (@zwe) (@z2b)))))):=fc (fc (fc (fc (fc (@yb1) (@yb2)) (fc (@z1a) (@ztu))) (fc (fc (@ztt) (@z6c)) (fc (@yc3) (@yi3)))) (fc (fc (fc (@yc0) (@z8s)) (fc (@yb3) (@yb4))) (fc (fc (@z1b) (@ztw)) (fc (@ztv) (@z6e))))) (fc (fc (fc (fc (@z64) (@yc1)) (fc (@z60) (@z3i))) (fc (fc (@yar) (@yas)) (fc (@yau) (@yav)))) (fc (fc (fc (@yat) (@zwn)) (fc (@zwo) (@yed))) (fc (fc (@z7r) (@z0p)) (fc (@zwe) (@z2b)))))
theorem b1:type_of% (fc (fc (fc (fc (fc (@zxj) (@z8o)) (fc (@z8q) (@ycq))) (fc (fc (@ycr) (@zqf)) (fc (@zje) (@yek)))) (fc (fc (fc (@z2y) (@yi5)) (fc (@zl1) (@yi4))) (fc (fc (@ydm) (@ydn)) (fc (@ydo) (@ydp))))) (fc (fc (fc (fc (@zv9) (@zwa)) (fc (@yd4) (@z2k))) (fc (fc (@yd3) (@z7o)) (fc (@yjc) (@z7n)))) (fc (fc (fc (@zca) (@yd5)) (fc (@z7j) (@zur))) (fc (fc (@yjd) (@yob)) (fc (@yd6) (@yjb)))))):=fc (fc (fc (fc (fc (@zxj) (@z8o)) (fc (@z8q) (@ycq))) (fc (fc (@ycr) (@zqf)) (fc (@zje) (@yek)))) (fc (fc (fc (@z2y) (@yi5)) (fc (@zl1) (@yi4))) (fc (fc (@ydm) (@ydn)) (fc (@ydo) (@ydp))))) (fc (fc (fc (fc (@zv9) (@zwa)) (fc (@yd4) (@z2k))) (fc (fc (@yd3) (@z7o)) (fc (@yjc) (@z7n)))) (fc (fc (fc (@zca) (@yd5)) (fc (@z7j) (@zur))) (fc (fc (@yjd) (@yob)) (fc (@yd6) (@yjb)))))
theorem b2:type_of% (fc (fc (fc (fc (fc (@zus) (@zrw)) (fc (@z7k) (@zry))) (fc (fc (@z7m) (@zrx)) (fc (@z7l) (@zxx)))) (fc (fc (fc (@zxy) (@ybu)) (fc (@zgo) (@z06))) (fc (fc (@z08) (@ybv)) (fc (@ybz) (@zgo))))) (fc (fc (fc (fc (@zgo) (@zgo)) (fc (@zgo) (@zro))) (fc (fc (@zrq) (@zgo)) (fc (@zgo) (@zrn)))) (fc (fc (fc (@zrp) (@z56)) (fc (@z6a) (@zwu))) (fc (fc (@zwv) (@yno)) (fc (@ynp) (@yil)))))):=fc (fc (fc (fc (fc (@zus) (@zrw)) (fc (@z7k) (@zry))) (fc (fc (@z7m) (@zrx)) (fc (@z7l) (@zxx)))) (fc (fc (fc (@zxy) (@ybu)) (fc (@zgo) (@z06))) (fc (fc (@z08) (@ybv)) (fc (@ybz) (@zgo))))) (fc (fc (fc (fc (@zgo) (@zgo)) (fc (@zgo) (@zro))) (fc (fc (@zrq) (@zgo)) (fc (@zgo) (@zrn)))) (fc (fc (fc (@zrp) (@z56)) (fc (@z6a) (@zwu))) (fc (fc (@zwv) (@yno)) (fc (@ynp) (@yil)))))
theorem b3:type_of% (fc (fc (fc (fc (fc (@yin) (@z57)) (fc (@z6b) (@z55))) (fc (fc (@z59) (@ztq)) (fc (@ztr) (@ybt)))) (fc (fc (fc (@z38) (@ybw)) (fc (@yb0) (@zai))) (fc (fc (@zap) (@yij)) (fc (@yim) (@yih))))) (fc (fc (fc (fc (@ybx) (@yii)) (fc (@yby) (@z58))) (fc (fc (@yik) (@z54)) (fc (@zrm) (@z07)))) (fc (fc (fc (@zgo) (@ycn)) (fc (@yco) (@z66))) (fc (fc (@z67) (@yic)) (fc (@yib) (@yif)))))):=fc (fc (fc (fc (fc (@yin) (@z57)) (fc (@z6b) (@z55))) (fc (fc (@z59) (@ztq)) (fc (@ztr) (@ybt)))) (fc (fc (fc (@z38) (@ybw)) (fc (@yb0) (@zai))) (fc (fc (@zap) (@yij)) (fc (@yim) (@yih))))) (fc (fc (fc (fc (@ybx) (@yii)) (fc (@yby) (@z58))) (fc (fc (@yik) (@z54)) (fc (@zrm) (@z07)))) (fc (fc (fc (@zgo) (@ycn)) (fc (@yco) (@z66))) (fc (fc (@z67) (@yic)) (fc (@yib) (@yif)))))
theorem b4:type_of% (fc (fc (fc (fc (fc (@yie) (@yh9)) (fc (@yia) (@zbc))) (fc (fc (@zw6) (@yc8)) (fc (@yda) (@yca)))) (fc (fc (fc (@z6j) (@yll)) (fc (@ynj) (@ynk))) (fc (fc (@yjm) (@yje)) (fc (@yjg) (@yjl))))) (fc (fc (fc (fc (@yjf) (@yjh)) (fc (@yji) (@yjj))) (fc (fc (@yjk) (@zf6)) (fc (@zf5) (@zs6)))) (fc (fc (fc (@st_n) (@yid)) (fc (@z0u) (@zed))) (fc (fc (@z2n) (@z2o)) (fc (@cond_true.{1}) (@cond_false.{1})))))):=fc (fc (fc (fc (fc (@yie) (@yh9)) (fc (@yia) (@zbc))) (fc (fc (@zw6) (@yc8)) (fc (@yda) (@yca)))) (fc (fc (fc (@z6j) (@yll)) (fc (@ynj) (@ynk))) (fc (fc (@yjm) (@yje)) (fc (@yjg) (@yjl))))) (fc (fc (fc (fc (@yjf) (@yjh)) (fc (@yji) (@yjj))) (fc (fc (@yjk) (@zf6)) (fc (@zf5) (@zs6)))) (fc (fc (fc (@st_n) (@yid)) (fc (@z0u) (@zed))) (fc (fc (@z2n) (@z2o)) (fc (@cond_true.{1}) (@cond_false.{1})))))
theorem b5:type_of% (fc (fc (fc (fc (fc (@List.toList_toArray.{0}) (@iz.{0,0})) (fc (@pc.{0,0}) (@gg.{0}))) (fc (fc (@jd.{0}) (@fq.{0,0})) (fc (@gw.{0}) (@lf.{0})))) (fc (fc (fc (@li.{0,0}) (@ou.{0,0})) (fc (@Option.map_none.{0,0}) (@ge.{0}))) (fc (fc (@gp.{0}) (@gr.{0})) (fc (@jm.{0}) (@List.all_nil.{0}))))) (fc (fc (fc (fc (@gl.{0}) (@ku.{0})) (fc (@nf.{0}) (@m6.{0}))) (fc (fc (@lc.{0}) (@ls.{0})) (fc (@n5) (@jx)))) (fc (fc (fc (@gb) (@iu)) (fc (@Bool.not_false) (@Bool.false_and))) (fc (fc (@Bool.and_false) (@zhe)) (fc (@z8u) (@zh5)))))):=fc (fc (fc (fc (fc (@List.toList_toArray.{0}) (@iz.{0,0})) (fc (@pc.{0,0}) (@gg.{0}))) (fc (fc (@jd.{0}) (@fq.{0,0})) (fc (@gw.{0}) (@lf.{0})))) (fc (fc (fc (@li.{0,0}) (@ou.{0,0})) (fc (@Option.map_none.{0,0}) (@ge.{0}))) (fc (fc (@gp.{0}) (@gr.{0})) (fc (@jm.{0}) (@List.all_nil.{0}))))) (fc (fc (fc (fc (@gl.{0}) (@ku.{0})) (fc (@nf.{0}) (@m6.{0}))) (fc (fc (@lc.{0}) (@ls.{0})) (fc (@n5) (@jx)))) (fc (fc (fc (@gb) (@iu)) (fc (@Bool.not_false) (@Bool.false_and))) (fc (fc (@Bool.and_false) (@zhe)) (fc (@z8u) (@zh5)))))
theorem b6:type_of% (fc (fc (fc (fc (fc (@i8) (@jj)) (fc (@i4) (@jq))) (fc (fc (@qg) (@ld.{0})) (fc (@ownD.eq_1) (@ownD.eq_2)))) (fc (fc (fc (@has.eq_1) (@has.eq_2)) (fc (@tLen.eq_1) (@ztb.eq_1))) (fc (fc (@ztb.eq_2) (@zwi.eq_1)) (fc (@z4o.eq_1) (@tBox.eq_1))))) (fc (fc (fc (fc (@zwk.eq_1) (@zgj.eq_1)) (fc (@zgj.eq_2) (@zln.eq_1))) (fc (fc (@zln.eq_2) (@zln.eq_3)) (fc (@zln.eq_4) (@zln.eq_5)))) (fc (fc (fc (@zln.eq_6) (@zln.eq_7)) (fc (@zh6.eq_1) (@ztc.eq_1))) (fc (fc (@zlq.eq_1) (@zkz.eq_1)) (fc (@zkz.eq_2) (@zkz.eq_3)))))):=fc (fc (fc (fc (fc (@i8) (@jj)) (fc (@i4) (@jq))) (fc (fc (@qg) (@ld.{0})) (fc (@ownD.eq_1) (@ownD.eq_2)))) (fc (fc (fc (@has.eq_1) (@has.eq_2)) (fc (@tLen.eq_1) (@ztb.eq_1))) (fc (fc (@ztb.eq_2) (@zwi.eq_1)) (fc (@z4o.eq_1) (@tBox.eq_1))))) (fc (fc (fc (fc (@zwk.eq_1) (@zgj.eq_1)) (fc (@zgj.eq_2) (@zln.eq_1))) (fc (fc (@zln.eq_2) (@zln.eq_3)) (fc (@zln.eq_4) (@zln.eq_5)))) (fc (fc (fc (@zln.eq_6) (@zln.eq_7)) (fc (@zh6.eq_1) (@ztc.eq_1))) (fc (fc (@zlq.eq_1) (@zkz.eq_1)) (fc (@zkz.eq_2) (@zkz.eq_3)))))
theorem b7:type_of% (fc (fc (fc (fc (fc (@zta.eq_1) (@zri.eq_1)) (fc (@TS.has.eq_1) (@zjh.eq_1))) (fc (fc (@aggT.eq_1) (@aggT.eq_2)) (fc (@yk4) (@yk5)))) (fc (fc (fc (@yk0) (@yk3)) (fc (@yk1) (@yk2))) (fc (fc (@jc.eq_1) (@m9.eq_1)) (fc (@m9.eq_2) (@m9.eq_3))))) (fc (fc (fc (fc (@zso) (@z8l)) (fc (@zpt) (@z3h))) (fc (fc (@zsm) (@z8i)) (fc (@zsn) (@z8k)))) (fc (fc (fc (@z1q) (@z3b)) (fc (@z1r) (@z3c))) (fc (fc (@z1s) (@z3d)) (fc (@z1t) (@z3e)))))):=fc (fc (fc (fc (fc (@zta.eq_1) (@zri.eq_1)) (fc (@TS.has.eq_1) (@zjh.eq_1))) (fc (fc (@aggT.eq_1) (@aggT.eq_2)) (fc (@yk4) (@yk5)))) (fc (fc (fc (@yk0) (@yk3)) (fc (@yk1) (@yk2))) (fc (fc (@jc.eq_1) (@m9.eq_1)) (fc (@m9.eq_2) (@m9.eq_3))))) (fc (fc (fc (fc (@zso) (@z8l)) (fc (@zpt) (@z3h))) (fc (fc (@zsm) (@z8i)) (fc (@zsn) (@z8k)))) (fc (fc (fc (@z1q) (@z3b)) (fc (@z1r) (@z3c))) (fc (fc (@z1s) (@z3d)) (fc (@z1t) (@z3e)))))
theorem b8:type_of% (fc (fc (fc (@z6x) (fc (@z8j) (@ycz))) (fc (@ye4) (fc (@z6z) (@z8n)))) (fc (fc (@ycx) (fc (@ye2) (@ycy))) (fc (@ye3) (fc (@z6y) (@z8m))))):=fc (fc (fc (@z6x) (fc (@z8j) (@ycz))) (fc (@ye4) (fc (@z6z) (@z8n)))) (fc (fc (@ycx) (fc (@ye2) (@ycy))) (fc (@ye3) (fc (@z6y) (@z8m))))
theorem apA:type_of% (fc (fc (fc (@zmp.eq_1) (@zyg)) (fc (@zi2) (fc (@zve) (@Bool.or_false)))) (fc (fc (@Bool.or_self) (@i9.{0,0})) (fc (@List.flatMap_nil.{0,0}) (fc (@jl) (@m7))))):=fc (fc (fc (@zmp.eq_1) (@zyg)) (fc (@zi2) (fc (@zve) (@Bool.or_false)))) (fc (fc (@Bool.or_self) (@i9.{0,0})) (fc (@List.flatMap_nil.{0,0}) (fc (@jl) (@m7))))
theorem apB:type_of% (fc (fc (@zc8.eq_1) (@zc8.eq_2)) (fc (@zam.eq_1) (fc (@zai) (@zap)))):=fc (fc (@zc8.eq_1) (@zc8.eq_2)) (fc (@zam.eq_1) (fc (@zai) (@zap)))
theorem lzA:type_of% (fc (@gg.{0}) (fc (@jd.{0}) (@i4))):=fc (@gg.{0}) (fc (@jd.{0}) (@i4))
mutual
def T.ren (ρ:Nat->Nat):T->T
  |.agg l=>.agg (T.renL ρ l)
  |.tup l=>.tup (T.renL ρ l)
  |.lst e l=>.lst e (T.renL ρ l)
  |.cp l=>.cp (T.renL ρ l)
  |.ptr b o N=>.ptr (ρ b) o N
  |.arr b e o l c N=>.arr (ρ b) e o l c N
  |.mp b=>.mp (ρ b)
  |.fn f a c=>.fn f (T.renL ρ a) (T.renL ρ c)
  |.int k n=>.int k n
  |.bool b=>.bool b
  |.str b=>.str b
  |.nils=>.nils
  |.nilp=>.nilp
  |.nilm=>.nilm
  |.nilf=>.nilf
  |.junk=>.junk
  |.emp e=>.emp e
def T.renL (ρ:Nat->Nat):List T->List T
  |[]=>[]
  |t :: l=>t.ren ρ :: T.renL ρ l
end
def zeu (ρ:Nat->Nat):Box->Box
  |.gone=>.gone
  |.cells z N l=>.cells z N (T.renL ρ l)
  |.map l=>.map (l.map fun p=>(p.1.ren ρ,p.2.ren ρ))
section
variable {GL:List (Nat×List Value)} {A A' A1:Nat->Prop} {β β' β0 β1:Bx} {S S' S0 S1:TS} {s s' s1:CS} {P:gn} {Γ:Env} {g g':Nat->Fam} {ρ:Nat->Nat} {n:Nat}
theorem zlx:∀ (l:List T),T.renL ρ l=l.map (T.ren ρ)
  |[]=>rfl
  |t :: l=>by rw [T.renL,iz,zlx l]
theorem zj8 (l:List T):(T.renL ρ l).length=l.length:=by rw [zlx,fq]
theorem z4f (l m:List T):T.renL ρ (l++m)=T.renL ρ l++T.renL ρ m:=by simp only [zlx,nc]
theorem zty (t:T):(t.ren ρ).cells=T.renL ρ t.cells:=by
  cases t<;>simp only [T.ren,jc,T.renL]
theorem zze:∀ (l:List T),(T.renL ρ l).flatMap jc=T.renL ρ (l.flatMap jc)
  |[]=>rfl
  |t :: l=>by rw [T.renL,i9,i9,zty,zze l,z4f]
theorem yd2:∀ {l:List T},T.idsL n l=true->∀ t,t∈l->t.ids n=true
  |[],_,t,h=>by simp at h
  |x :: l,h,t,ht=>by
    simp only [T.idsL,fi] at h;rcases List.mem_cons.1 ht with rfl|ht
    . exact h.1
    . exact yd2 h.2 t ht
mutual
theorem VT.up (hβ:∀ b,b<n->β' (ρ b)=β b):∀ {t:T} {v:Value},t.ids n=true->VT A β g t v->VT A β' g (t.ren ρ) v
  |_,_,_,.int k n=>.int k n
  |_,_,_,.bool b=>.bool b
  |_,_,_,.str b=>.str b
  |_,_,hi,.agg h=>.agg (VL.up hβ hi h)
  |_,_,hi,.tup h=>.tup (VL.up hβ hi h)
  |_,_,_,.lnil=>.lnil
  |.lst e l,_,hi,.lst h1 h2 h3 h4 h5 h6 h7 h8=>by
    have q:=VL.up hβ (zlk hi) h3;rw [<- zze] at q;have:=VT.lst (l:=T.renL ρ l) h1 h2 q (fun t ht=>by rw [zlx] at ht;obtain ⟨x,hx,rfl⟩:=jn.1 ht;rw [zty,zj8];exact h4 x hx) h5 h6 h7 (by rw [zj8];exact h8);rw [zj8] at this;exact this
  |_,_,_,.nils=>.nils
  |_,_,_,.nilp=>.nilp
  |_,_,_,.nilm=>.nilm
  |_,_,_,.nilf=>.nilf
  |_,_,hi,.ptr h=>.ptr (by rw [hβ _ (zae.1 hi)];exact h)
  |_,_,hi,.ptrOld h h0 h1 h2=>.ptrOld (by rw [hβ _ (zae.1 hi)];exact h) h0 h1 h2
  |_,_,hi,.cp h1 h2 h3 h4=>.cp h1 h2 (VL.up hβ hi h3) h4
  |_,_,hi,.arr h ht=>.arr (by rw [hβ _ (zae.1 hi)];exact h) ht
  |_,_,hi,.arrNil h=>.arrNil (by rw [hβ _ (zae.1 hi)];exact h)
  |_,_,hi,.arrOld h h0 h1 h2=>.arrOld (by rw [hβ _ (zae.1 hi)];exact h) h0 h1 h2
  |_,_,hi,.mp h=>.mp (by rw [hβ _ (zae.1 hi)];exact h)
  |_,_,hi,.mpOld h h2=>.mpOld (by rw [hβ _ (zae.1 hi)];exact h) h2
  |_,_,hi,.fn h1 h2=>by
    simp only [T.ids,fi] at hi;exact .fn (VL.up hβ hi.1 h1) (VL.up hβ hi.2 h2)
  |_,_,_,.junk v=>.junk v
  |_,_,_,.emp h1 h2 h3 h4=>.emp h1 h2 h3 h4
theorem VL.up (hβ:∀ b,b<n->β' (ρ b)=β b):∀ {l:List T} {vs:List Value},T.idsL n l=true->VL A β g l vs->VL A β' g (T.renL ρ l) vs
  |_,_,_,.nil=>.nil
  |_,_,hi,.cons h k=>by
    simp only [T.idsL,fi] at hi;exact .cons (VT.up hβ hi.1 h) (VL.up hβ hi.2 k)
end
mutual
theorem VT.down (hβ:∀ b,b<n->β' b=β (ρ b)):∀ {t':T} {v:Value},VT A β g t' v->∀ {t:T},t.ren ρ=t'->t.ids n=true->VT A β' g t v
  |_,_,.int k m,t,e,hi=>by
    cases t<;>simp [T.ren] at e;obtain ⟨rfl,rfl⟩:=e;exact .int _ _
  |_,_,.bool b,t,e,hi=>by
    cases t<;>simp [T.ren] at e;subst e;exact .bool _
  |_,_,.str b,t,e,hi=>by
    cases t<;>simp [T.ren] at e;subst e;exact .str _
  |_,_,.agg h,t,e,hi=>by
    cases t<;>simp [T.ren] at e;exact .agg (VL.down hβ h e hi)
  |_,_,.tup h,t,e,hi=>by
    cases t<;>simp [T.ren] at e;exact .tup (VL.down hβ h e hi)
  |_,_,.lnil,t,e,hi=>by
    cases t<;>simp [T.ren] at e;rename_i e' l;obtain ⟨rfl,e⟩:=e
    cases l with
    |nil=>exact .lnil
    |cons x l=>simp [T.renL] at e
  |_,_,.lst (l:=l') h1 h2 h3 h4 h5 h6 h7 h8,t,e,hi=>by
    cases t<;>simp [T.ren] at e;rename_i e' l;have q:=VL.down hβ h3 (l:=l.flatMap jc) (by rw [<- e.2];exact (zze l).symm) (zlk hi);obtain ⟨rfl,rfl⟩:=e;have:=VT.lst (l:=l) h1 h2 q (fun t ht=>by have:=h4 (t.ren ρ) (by rw [zlx];exact List.mem_map_of_mem ht);rw [zty,zj8] at this;exact this) h5 h6 h7 (by rw [zj8] at h8;exact h8);rw [zj8];exact this
  |_,_,.nils,t,e,hi=>by cases t<;>simp [T.ren] at e;exact .nils
  |_,_,.nilp,t,e,hi=>by cases t<;>simp [T.ren] at e;exact .nilp
  |_,_,.nilm,t,e,hi=>by cases t<;>simp [T.ren] at e;exact .nilm
  |_,_,.nilf,t,e,hi=>by cases t<;>simp [T.ren] at e;exact .nilf
  |_,_,.ptr h,t,e,hi=>by
    cases t<;>simp [T.ren] at e;obtain ⟨rfl,rfl,rfl⟩:=e;exact .ptr (by rw [hβ _ (zae.1 hi)];exact h)
  |_,_,.ptrOld h h0 h1 h2,t,e,hi=>by
    cases t<;>simp [T.ren] at e;obtain ⟨rfl,rfl,rfl⟩:=e;exact .ptrOld (by rw [hβ _ (zae.1 hi)];exact h) h0 h1 h2
  |_,_,.cp h1 h2 h3 h4,t,e,hi=>by
    cases t<;>simp [T.ren] at e;exact .cp h1 h2 (VL.down hβ h3 e hi) h4
  |_,_,.arr h ht,t,e,hi=>by
    cases t<;>simp [T.ren] at e;obtain ⟨rfl,rfl,rfl,rfl,rfl,rfl⟩:=e;exact .arr (by rw [hβ _ (zae.1 hi)];exact h) ht
  |_,_,.arrNil h,t,e,hi=>by
    cases t<;>simp [T.ren] at e;obtain ⟨rfl,rfl,rfl,rfl,rfl,rfl⟩:=e;exact .arrNil (by rw [hβ _ (zae.1 hi)];exact h)
  |_,_,.arrOld h h0 h1 h2,t,e,hi=>by
    cases t<;>simp [T.ren] at e;obtain ⟨rfl,rfl,rfl,rfl,rfl,rfl⟩:=e;exact .arrOld (by rw [hβ _ (zae.1 hi)];exact h) h0 h1 h2
  |_,_,.mp h,t,e,hi=>by
    cases t<;>simp [T.ren] at e;subst e;exact .mp (by rw [hβ _ (zae.1 hi)];exact h)
  |_,_,.mpOld h h2,t,e,hi=>by
    cases t<;>simp [T.ren] at e;subst e;exact .mpOld (by rw [hβ _ (zae.1 hi)];exact h) h2
  |_,_,.fn h1 h2,t,e,hi=>by
    cases t<;>simp [T.ren] at e;obtain ⟨rfl,e1,e2⟩:=e;simp only [T.ids,fi] at hi;exact .fn (VL.down hβ h1 e1 hi.1) (VL.down hβ h2 e2 hi.2)
  |_,_,.junk v,t,e,hi=>by cases t<;>simp [T.ren] at e;exact .junk _
  |_,_,.emp h1 h2 h3 h4,t,e,hi=>by
    cases t<;>simp [T.ren] at e;subst e;exact .emp h1 h2 h3 h4
theorem VL.down (hβ:∀ b,b<n->β' b=β (ρ b)):∀ {l':List T} {vs:List Value},VL A β g l' vs->∀ {l:List T},T.renL ρ l=l'->T.idsL n l=true->VL A β' g l vs
  |_,_,.nil,l,e,hi=>by
    cases l with
    |nil=>exact .nil
    |cons x l=>simp [T.renL] at e
  |_,_,.cons h k,l,e,hi=>by
    cases l with
    |nil=>simp [T.renL] at e
    |cons x l =>
      simp only [T.renL,List.cons.injEq] at e;simp only [T.idsL,fi] at hi;exact .cons (VT.down hβ h e.1 hi.1) (VL.down hβ k e.2 hi.2)
end
structure Fits (ρ:Nat->Nat) (S0 S1 S S':TS):Prop where
  le:S0.n<=S1.n
  out:∀ b,S0.n<=b->S0.box b=.gone
  old:∀ i,i<S0.n->ρ i<S.n
  new:∀ i,S0.n<=i->i<S1.n->S.n<=ρ i
  top:∀ i,i<S1.n->ρ i<S'.n
  grow:S.n<=S'.n
  inj:∀ i j,i<S1.n->j<S1.n->ρ i=ρ j->i=j
  pre:∀ i,i<S0.n->S.box (ρ i)=zeu ρ (S0.box i)/\zhx S0.n (S0.box i)=true
  post:∀ i,i<S1.n->S'.box (ρ i)=zeu ρ (S1.box i)/\zhx S1.n (S1.box i)=true
  rest:∀ b,(∀ i,i<S1.n->ρ i≠b)->S'.box b=S.box b
open Classical in
def bmix (ρ:Nat->Nat) (m:Nat) (β1 β:Bx):Bx:=fun b=>if h:∃ i,i<m/\ρ i=b then β1 (Classical.choose h) else β b
theorem ymt {m i:Nat} (hinj:∀ i j,i<m->j<m->ρ i=ρ j->i=j) (hi:i<m):bmix ρ m β1 β (ρ i)=β1 i:=by
  unfold bmix;have h:∃ j,j<m/\ρ j=ρ i:=⟨i,hi,rfl⟩;rw [dif_pos h];have:=Classical.choose_spec h;rw [hinj _ _ this.1 hi this.2]
theorem zjf {m b:Nat} (h:∀ i,i<m->ρ i≠b):bmix ρ m β1 β b=β b:=by
  unfold bmix;rw [dif_neg (fun ⟨i,h1,h2⟩=>h i h1 h2)]
theorem z6h (l:List (T×T)):(l.map fun p=>(p.1.ren ρ,p.2.ren ρ)).map (·.1)=T.renL ρ (l.map (·.1)):=by
  rw [zlx,q9,q9];rfl
theorem z6g (l:List (T×T)):(l.map fun p=>(p.1.ren ρ,p.2.ren ρ)).map (·.2)=T.renL ρ (l.map (·.2)):=by
  rw [zlx,q9,q9];rfl
theorem Call.frame {f:mb} {args:List T} {v:T} (k:Call P Γ GL f args S0 v S1) (ha:T.idsL S0.n args=true) (hv:v.ids S1.n=true) (F:Fits ρ S0 S1 S S'):Call P Γ GL f (T.renL ρ args) S (v.ren ρ) S':=by
  intro A β s vargs hT hva;have hb0:∀ b,b<S0.n->bcut (fun i=>β (ρ i)) S0.n b=β (ρ b):=fun b hb=>zAc hb
  have hb1:∀ b l,bcut (fun i=>β (ρ i)) S0.n b=some l->b<S0.n/\β (ρ b)=some l:=fun b l h=>by
    unfold bcut at h;split at h
    . rename_i hb;exact ⟨hb,h⟩
    . simp at h
  have hown:∀ f,Own (bcut (fun i=>β (ρ i)) S0.n) f->∃ i,i<S0.n/\((∃ u N,β (ρ i)=some (.live f u N))\/β (ρ i)=some (.map f)):=fun f ⟨b,hb⟩=>by
    rcases hb with ⟨u,N,hb⟩|hb
    . exact ⟨b,(hb1 _ _ hb).1,.inl ⟨u,N,(hb1 _ _ hb).2⟩⟩
    . exact ⟨b,(hb1 _ _ hb).1,.inr (hb1 _ _ hb).2⟩
  have hown2:∀ f,Own (bcut (fun i=>β (ρ i)) S0.n) f->Own β f:=fun f hf=>by
    obtain ⟨i,_,h⟩:=hown f hf;exact ⟨ρ i,h⟩
  have hT0:TRel GL A (bcut (fun i=>β (ρ i)) S0.n) S0 s:=by
    refine ⟨hT.inr,hT.inv,hT.alt,fun f hf=>hT.dis f (hown2 f hf),fun b b' l l' f h1 h2 h3 h4=>?_,fun b hb=>zAd (by omega),fun b z N l hb=>?_,fun b l hb=>?_,hT.glob⟩
    . obtain ⟨q1,q2⟩:=hb1 _ _ h1;obtain ⟨q3,q4⟩:=hb1 _ _ h2;exact F.inj b b' (by have:=F.le;omega) (by have:=F.le;omega) (hT.inj _ _ _ _ f q2 q4 h3 h4)
    . have hlt:b<S0.n:=by
        by_cases h:b<S0.n
        . exact h
        . rw [F.out b (by omega)] at hb;simp at hb
      obtain ⟨p1,p2⟩:=F.pre b hlt;rw [hb] at p1 p2;obtain ⟨c1,c2⟩:=hT.cells _ _ _ _ p1;refine ⟨by rw [zj8] at c1;exact c1,?_⟩;rcases c2 with ⟨d1,d2,d3⟩|⟨f,u,cs,rest,d1,d2,d3,d4,d5⟩
      . exact .inl ⟨by rw [hb0 b hlt];exact d1,d2,d3⟩
      . exact .inr ⟨f,u,cs,rest,by rw [hb0 b hlt];exact d1,d2,d3,VL.down hb0 d4 rfl p2,d5⟩
    . have hlt:b<S0.n:=by
        by_cases h:b<S0.n
        . exact h
        . rw [F.out b (by omega)] at hb;simp at hb
      obtain ⟨p1,p2⟩:=F.pre b hlt;rw [hb] at p1 p2;obtain ⟨r,es,c1,c2,c3,c4⟩:=hT.maps _ _ p1;simp only [zhx,fi] at p2;rw [z6h] at c3;rw [z6g] at c4;exact ⟨r,es,by rw [hb0 b hlt];exact c1,c2,VL.down hb0 c3 rfl p2.1,VL.down hb0 c4 rfl p2.2⟩
  obtain ⟨w,s1,A1,β1,e1,e2,e3,e4⟩:=k A _ s vargs hT0 (VL.down hb0 hva rfl ha);have hin:∀ i,i<S1.n->bmix ρ S1.n β1 β (ρ i)=β1 i:=fun i hi=>ymt F.inj hi
  have hcase:∀ b,(∃ i,i<S1.n/\ρ i=b)\/(∀ i,i<S1.n->ρ i≠b):=fun b=>by
    by_cases h:∃ i,i<S1.n/\ρ i=b
    . exact .inl h
    . exact .inr fun i hi hh=>h ⟨i,hi,hh⟩
  have hone:∀ i l,β1 i=some l->i<S1.n:=fun i l h=>by
    by_cases hh:i<S1.n
    . exact hh
    . rw [e2.next i (by omega)] at h;simp at h
  have apart:∀ b f,(∀ i,i<S1.n->ρ i≠b)->((∃ u N,β b=some (.live f u N))\/β b=some (.map f))->¬ Own (bcut (fun i=>β (ρ i)) S0.n) f:=fun b f hb hf ho=>by
    obtain ⟨j,hj,h⟩:=hown f ho
    have:ρ j=b:=by
      rcases h with ⟨u,N,h⟩|h<;>rcases hf with ⟨u',N',hf⟩|hf<;>exact hT.inj _ _ _ _ f h hf rfl rfl
    exact hb j (by have:=F.le;omega) this
  have hfamO:∀ b l f,β b=some l->l.fam=some f->((∃ u N,β b=some (.live f u N))\/β b=some (.map f)):=fun b l f h hl=>by
    cases l with
    |live f' u N=>simp [ol] at hl;subst hl;exact .inl ⟨u,N,h⟩
    |map r=>simp [ol] at hl;subst hl;exact .inr h
    |nil=>simp [ol] at hl
    |dead=>simp [ol] at hl
  have hfam1:∀ i l f,β1 i=some l->l.fam=some f->Own β1 f:=fun i l f h hl=>by
    cases l with
    |live f' u N=>simp [ol] at hl;subst hl;exact zc2 h
    |map r=>simp [ol] at hl;subst hl;exact zm4 h
    |nil=>simp [ol] at hl
    |dead=>simp [ol] at hl
  have hle:Bx.le β (bmix ρ S1.n β1 β):=fun b l hb=>by
    rcases hcase b with ⟨i,hi,rfl⟩|h
    . rw [hin i hi];by_cases hip:i<S0.n
      . exact e4.bx i l (by rw [hb0 i hip];exact hb)
      . rw [hT.next _ (F.new i (by omega) hi)] at hb;simp at hb
    . exact ⟨l,by rw [zjf h];exact hb,Loc.le_refl l⟩
  have hkeep:∀ f,A f->zaa s1.obj f=zaa s.obj f:=fun f hf=>e4.keep f (hT.alt f hf) fun ho=>(hT.dis f (hown2 f ho)).2 hf
  have hmix:∀ f,Own (bmix ρ S1.n β1 β) f->Own β1 f\/∃ b,(∀ i,i<S1.n->ρ i≠b)/\((∃ u N,β b=some (.live f u N))\/β b=some (.map f)):=fun f ⟨b,hb⟩=>by
    rcases hcase b with ⟨i,hi,rfl⟩|h
    . rw [hin i hi] at hb;exact .inl ⟨i,hb⟩
    . rw [zjf h] at hb;exact .inr ⟨b,h,hb⟩
  refine ⟨w,s1,A1,bmix ρ S1.n β1 β,e1,⟨e2.inr,e2.inv,e2.alt,fun f hf=>?_,fun b b' l l' f h1 h2 h3 h4=>?_,fun b hb=>?_,fun b z N l hb=>?_,fun b l hb=>?_,e2.glob⟩,VT.up hin hv e3,⟨e4.can,e4.sub,fun f hf=>(e4.new f hf).imp id (Or.imp id (hown2 f)),fun f hf=>?_,fun f hf ho=>e4.keep f hf fun h=>ho (hown2 f h),hle,fun x hx=>(e4.rd x hx).imp id (fun ⟨a,b⟩=>⟨a,b.imp id (hown2 x)⟩),fun x hx=>(e4.wr x hx).imp id (fun ⟨a,b⟩=>⟨a,hown2 x b⟩)⟩⟩
  . rcases hmix f hf with h|⟨b,hb,h⟩
    . exact e2.dis f h
    . have hd:=hT.dis f ⟨b,h⟩;refine ⟨gq hd.1 e4.can.n,fun hA=>?_⟩;rcases e4.new f hA with q|q|q
      . exact hd.2 q
      . have:=hd.1;omega
      . exact apart b f hb h q
  . have ygs:∀ i b l l',i<S1.n->(∀ i,i<S1.n->ρ i≠b)->β1 i=some l->β b=some l'->l.fam=some f->l'.fam=some f->False:=fun i b l l' hi hb q1 q2 q3 q4=>by
      have ho:=hfamO b l' f q2 q4;rcases e4.own f (hfam1 i l f q1 q3) with q|q
      . exact apart b f hb ho q
      . have:=(hT.dis f ⟨b,ho⟩).1;omega
    rcases hcase b with ⟨i,hi,rfl⟩|hb<;>rcases hcase b' with ⟨j,hj,rfl⟩|hb'
    . rw [hin i hi] at h1;rw [hin j hj] at h2;rw [e2.inj i j l l' f h1 h2 h3 h4]
    . rw [hin i hi] at h1;rw [zjf hb'] at h2;exact (ygs i b' l l' hi hb' h1 h2 h3 h4).elim
    . rw [zjf hb] at h1;rw [hin j hj] at h2;exact (ygs j b l' l hj hb h2 h1 h4 h3).elim
    . rw [zjf hb] at h1;rw [zjf hb'] at h2;exact hT.inj b b' l l' f h1 h2 h3 h4
  . rw [zjf (fun i hi hh=>by have:=F.top i hi;omega)];exact hT.next b (by have:=F.grow;omega)
  . rcases hcase b with ⟨i,hi,rfl⟩|hbo
    . obtain ⟨p1,p2⟩:=F.post i hi;rw [hb] at p1
      cases hq:S1.box i with
      |gone=>rw [hq] at p1;simp [zeu] at p1
      |map m=>rw [hq] at p1;simp [zeu] at p1
      |cells z' N' l' =>
        rw [hq] at p1 p2;simp only [zeu,Box.cells.injEq] at p1;obtain ⟨rfl,rfl,rfl⟩:=p1;obtain ⟨c1,c2⟩:=e2.cells _ _ _ _ hq;refine ⟨by rw [zj8];exact c1,?_⟩;rcases c2 with ⟨d1,d2,d3⟩|⟨f,u,cs,rest,d1,d2,d3,d4,d5⟩
        . exact .inl ⟨by rw [hin i hi];exact d1,d2,d3⟩
        . exact .inr ⟨f,u,cs,rest,by rw [hin i hi];exact d1,d2,d3,VL.up hin p2 d4,d5⟩
    . rw [F.rest b hbo] at hb;refine (hT.cells b z N l hb).mono e4.sub hkeep hle (zjf hbo) fun f u N' hl=>?_;exact e4.keep f (hT.dis f (zc2 hl)).1 (apart b f hbo (.inl ⟨u,N',hl⟩))
  . rcases hcase b with ⟨i,hi,rfl⟩|hbo
    . obtain ⟨p1,p2⟩:=F.post i hi;rw [hb] at p1
      cases hq:S1.box i with
      |gone=>rw [hq] at p1;simp [zeu] at p1
      |cells z N m=>rw [hq] at p1;simp [zeu] at p1
      |map m =>
        rw [hq] at p1 p2;simp only [zeu,Box.map.injEq] at p1;subst p1;obtain ⟨r,es,c1,c2,c3,c4⟩:=e2.maps _ _ hq;simp only [zhx,fi] at p2;exact ⟨r,es,by rw [hin i hi];exact c1,c2,by rw [z6h];exact VL.up hin p2.1 c3,by rw [z6g];exact VL.up hin p2.2 c4⟩
    . rw [F.rest b hbo] at hb;refine (hT.maps b l hb).mono e4.sub hkeep hle (zjf hbo) fun r hl=>?_;exact e4.keep r (hT.dis r (zm4 hl)).1 (apart b r hbo (.inr hl))
  . rcases hmix f hf with h|⟨b,hb,h⟩
    . exact (e4.own f h).imp (hown2 f) id
    . exact .inl ⟨b,h⟩
end
theorem zab {α β:Type} {x:Option α} {f:α->Option β} {v:β} (h:x.bind f=some v):∃ a,x=some a/\f a=some v:=by
  cases x with
  |none=>cases h
  |some a=>exact ⟨a,rfl,h⟩
def gx {α:Type} [Inhabited α] (l:List α) (i:Int):α:=l.getD i.toNat default
theorem zag {α:Type} [Inhabited α] {l:List α} {i:Int} (h:0<=i/\i<(l.length:Int)):l[i.toNat]?=some (gx l i):=yg9 (by omega)
def bx (b:ByteArray) (i:Int):UInt8:=b.data.toList.getD i.toNat 0
theorem zvc {b:ByteArray} {i:Int} (h:0<=i/\i<(b.size:Int)):b.data.toList[i.toNat]?=some (bx b i):=by
  have : i.toNat < b.data.toList.length := by have e : b.data.toList.length = b.size := by simp
                                              omega
  unfold bx;rw [fo,fj this];rfl
def vecC {α:Type} (f:α->T) (l:List α):List T:=(l.map f).flatMap jc
theorem zaw {α:Type} {f:α->T} {l l2:List α}:vecC f (l++l2)=vecC f l++vecC f l2:=by
  unfold vecC;rw [nc,List.flatMap_append]
theorem zdm {α:Type} {f:α->T} {x:α}:vecC f [x]=(f x).cells:=by
  unfold vecC;simp
theorem zbu {α:Type} {f:α->T} {e:Nat} (h:∀ x,(f x).cells.length=e):∀ (l:List α),(vecC f l).length=l.length*e
  |[]=>by simp [vecC]
  |x :: l=>by
    have ih:=zbu h l;unfold vecC at ih ⊢;rw [iz,i9,fw,h,ih,gg,jl];omega
theorem zc6 {α:Type} {f:α->T} {e n:Nat} {l:List α} (h:∀ x,(f x).cells.length=e) (hl:l.length=n):(vecC f l).take (n*e)=(l.map f).flatMap jc:=by
  have:=zbu h l;rw [ii (by rw [this,hl];exact fm _)];rfl
theorem zds {k:ir} {l:List Int}:(l.map (fg k)).flatMap jc=l.map (fg k):=zll fun _=>rfl
theorem zb1 {l:List Bool}:(l.map sp).flatMap jc=l.map sp:=zll fun _=>rfl
theorem zdr {l:List ByteArray}:(l.map pf).flatMap jc=l.map pf:=zll fun _=>rfl
theorem zdu {k:ir} {l:List Int}:(l.map (fg k)).all m9=true:=by simp [m9]
theorem zb3 {l:List Bool}:(l.map sp).all m9=true:=by simp [m9]
theorem zdt {l:List ByteArray}:(l.map pf).all m9=true:=by simp [m9]
section
variable {GL:List (Nat×List Value)} {A A' A2:Nat->Prop} {β β' β2:Bx} {S S' S2:TS} {s s' s2:CS} {P:gn} {Γ:Env} {N:Nat} {h h' h2:Nat->T} {Q R:Exit->(Nat->T)->TS->Prop}
theorem Left.trimN {fr fr':Fr} {keep:List Nat} {bs bs2 extra:List Box} {n:Nat} (hn:bs.length<=n) (hT:TRel GL A β (stL bs) s) (k:Left GL A β s N fr' s' h' (stL (bs2++extra))) (hl:bs2.length=n) (hb:zd3 n bs2=true) (hk:zf3 keep n h'):Left GL A β s N fr' s' (zi4 keep h') (stL bs2):=by
  obtain ⟨A',β',k1,k2,k3⟩:=k;have hat:∀ b,b<n->bcut β' n b=β' b:=fun b hb=>zAc hb
  have hsub:∀ b l,bcut β' n b=some l->β' b=some l:=fun b l h=>by
    unfold bcut at h;split at h
    . exact h
    . simp at h
  have hkp:zrf (stL (bs2++extra)) (stL bs2):=by
    refine ⟨by simp [stL],fun b=>?_⟩;by_cases hbl:b<bs2.length
    . refine .inr ⟨hbl,?_,?_⟩
      . show bs2.getD b .gone=(bs2++extra).getD b .gone;rw [fo,fo,gh hbl]
      . show zhx bs2.length ((bs2++extra).getD b .gone)=true;rw [fo,gh hbl,<- fo,hl];exact zno hb
    . left;show bs2.getD b .gone=.gone;rw [fo,jv (by omega)];rfl
  have hcut:=k2.cut hkp;have hnn:(stL bs2).n=n:=hl;rw [hnn] at hcut;refine ⟨A',bcut β' n,⟨k1.nt,k1.le,fun t=>?_⟩,hcut,k3.can,k3.sub,k3.new,fun f hf=>?_,k3.keep,fun b l hb'=>?_,k3.rd,k3.wr⟩
  . by_cases ht:t∈keep
    . rw [zka ht];exact (k1.slot t).ids hat (zo0 hk t ht)
    . rw [show zi4 keep h' t=.junk from zAd ht];exact .junk _
  . obtain ⟨b,hb'⟩:=hf;exact k3.own f ⟨b,hb'.imp (fun ⟨u,N,h⟩=>⟨u,N,hsub _ _ h⟩) fun h=>hsub _ _ h⟩
  . obtain ⟨l',c1,c2⟩:=k3.bx b l hb'
    have:b<bs.length:=by
      by_cases hh:b<bs.length
      . exact hh
      . rw [hT.next b (by show bs.length<=b;omega)] at hb';simp at hb'
    exact ⟨l',by rw [hat b (by omega)];exact c1,c2⟩
theorem TW.cutN {a:Code} (keep:List Nat) (n:Nat) {bs:List Box} (hn:bs.length<=n) (R:(Nat->T)->List Box->Prop) (hR:TW P Γ GL N a h (stL bs) (onT (fun h' S'=>Ends keep n R h' S') Q)) (hk:∀ h bs2,R h bs2->Q .normal h (stL bs2)):TW P Γ GL N a h (stL bs) Q:=by
  intro A β fr s hF hT;obtain ⟨e,fr1,s1,h1,h',S',hleft,hq⟩:=hR A β fr s hF hT
  cases e with
  |normal =>
    obtain ⟨bs',rfl,hl,hbi,hki,hq⟩:=hq;exact ⟨_,fr1,s1,h1,_,_,Left.trimN (fr:=fr) (keep:=keep) (bs2:=bs'.take n) (extra:=bs'.drop n) hn hT (by rw [i7];exact hleft) (by rw [ij];omega) hbi hki,hk _ _ hq⟩
  |_=>exact ⟨_,fr1,s1,h1,h',S',hleft,hq⟩
theorem TW.unz {c:Code} (b:Nat) {zz:Bool} {M:Nat} {l:List T} (hS:S.box b=.cells zz M l) (k:TW P Γ GL N c h (S.set b (.cells false M l)) Q):TW P Γ GL N c h S Q:=by
  intro A β fr s hF hT
  have hb:∀ b' z N l',(S.set b (.cells false M l)).box b'=.cells z N l'->∃ z0,S.box b'=.cells z0 N l'/\(z=true->z0=true):=fun b' z N l' h=>by
    by_cases hi:b'=b
    . subst hi;rw [m5] at h;cases h;exact ⟨zz,hS,fun h=>by cases h⟩
    . rw [na _ _ hi] at h;exact ⟨z,h,id⟩
  refine k A β fr s hF ⟨hT.inr,hT.inv,hT.alt,hT.dis,hT.inj,hT.next,fun b' z N l' h=>?_,fun b' l' h=>?_,hT.glob⟩
  . obtain ⟨z0,h0,hz⟩:=hb b' z N l' h;obtain ⟨h1,h2⟩:=hT.cells b' z0 N l' h0;refine ⟨h1,?_⟩;rcases h2 with ⟨q1,q2,q3⟩|⟨f,u,cs,rest,q1,q2,q3⟩
    . exact .inl ⟨q1,q2,by cases z with|false=>rfl|true=>rw [hz rfl] at q3;exact q3⟩
    . exact .inr ⟨f,u,cs,rest,q1,fun h=>q2 (hz h),q3⟩
  . by_cases hi:b'=b
    . subst hi;rw [m5] at h;cases h
    . rw [na _ _ hi] at h;exact hT.maps b' l' h
theorem TW.slot {c:Code} (t:Nat) {v v':T} (ht:h t=v) (hv:∀ A β (g:Nat->Fam) w,VT A β g v w->VT A β g v' w) (k:TW P Γ GL N c (tupd h t v') S Q):TW P Γ GL N c h S Q:=by
  intro A β fr s hF hT
  have hF':FrOk A β (zaa s.obj) N (tupd h t v') fr:=⟨hF.nt,hF.le,fun u=>by
    by_cases hu:u=t
    . subst hu;rw [zhf];have:=hF.slot u;rw [ht] at this;exact hv _ _ _ _ this
    . rw [zlp _ _ _ _ hu];exact hF.slot u⟩
  exact k A β fr s hF' hT
theorem TW.lst0 {c:Code} (t e:Nat) (he:0<e) (ht:h t=.lst e []) (k1:TW P Γ GL N c (tupd h t .nils) S Q) (k2:TW P Γ GL N c (tupd h t (.emp e)) S Q):TW P Γ GL N c h S Q:=by
  intro A β fr s hF hT;have hs:=hF.slot t;rw [ht] at hs;rcases VT.lst_emp he hs with q|q
  . refine k1 A β fr s ⟨hF.nt,hF.le,fun u=>?_⟩ hT;by_cases hu:u=t
    . subst hu;rw [zhf];exact q
    . rw [zlp _ _ _ _ hu];exact hF.slot u
  . refine k2 A β fr s ⟨hF.nt,hF.le,fun u=>?_⟩ hT;by_cases hu:u=t
    . subst hu;rw [zhf];exact q
    . rw [zlp _ _ _ _ hu];exact hF.slot u
theorem TW.nilL {c:Code} (t e:Nat) (ht:h t=.nils) (k:TW P Γ GL N c (tupd h t (.lst e [])) S Q):TW P Γ GL N c h S Q:=by
  intro A β fr s hF hT;have hv:=hF.slot t;rw [ht] at hv
  have hF':FrOk A β (zaa s.obj) N (tupd h t (.lst e [])) fr:=⟨hF.nt,hF.le,fun u=>by
    by_cases hu:u=t
    . subst hu;rw [zhf];generalize fr.get u=w at hv;cases hv;exact .lnil
    . rw [zlp _ _ _ _ hu];exact hF.slot u⟩
  exact k A β fr s hF' hT
mutual
theorem z7f {n m:Nat} (hnm:n<=m):∀ {t:T},t.ids n=true->t.ids m=true
  |.agg l,h=>zf4 hnm (l:=l) h
  |.tup l,h=>zf4 hnm (l:=l) h
  |.lst e l,h=>zf4 hnm (l:=l) h
  |.cp l,h=>zf4 hnm (l:=l) h
  |.ptr b o N,h=>by simp only [T.ids] at h ⊢;exact zae.2 (by have:=zae.1 h;omega)
  |.arr b e o l c N,h=>by simp only [T.ids] at h ⊢;exact zae.2 (by have:=zae.1 h;omega)
  |.mp b,h=>by simp only [T.ids] at h ⊢;exact zae.2 (by have:=zae.1 h;omega)
  |.fn f a c,h=>by
    simp only [T.ids,fi] at h ⊢;exact ⟨zf4 hnm h.1,zf4 hnm h.2⟩
  |.int _ _,_=>rfl
  |.bool _,_=>rfl
  |.str _,_=>rfl
  |.nils,_=>rfl
  |.nilp,_=>rfl
  |.nilm,_=>rfl
  |.nilf,_=>rfl
  |.junk,_=>rfl
  |.emp _,_=>rfl
theorem zf4 {n m:Nat} (hnm:n<=m):∀ {l:List T},T.idsL n l=true->T.idsL m l=true
  |[],_=>rfl
  |t :: l,h=>by
    simp only [T.idsL,fi] at h ⊢;exact ⟨z7f hnm h.1,zf4 hnm h.2⟩
end
mutual
theorem zh3 {ρ:Nat->Nat}:∀ {t:T},t.ids 0=true->t.ren ρ=t
  |.agg l,h=>by rw [T.ren,zc5 (l:=l) h]
  |.tup l,h=>by rw [T.ren,zc5 (l:=l) h]
  |.lst e l,h=>by rw [T.ren,zc5 (l:=l) h]
  |.cp l,h=>by rw [T.ren,zc5 (l:=l) h]
  |.ptr b o N,h=>by simp [T.ids,ib] at h
  |.arr b e o l c N,h=>by simp [T.ids,ib] at h
  |.mp b,h=>by simp [T.ids,ib] at h
  |.fn f a c,h=>by
    simp only [T.ids,fi] at h;rw [T.ren,zc5 (l:=a) h.1,zc5 (l:=c) h.2]
  |.int _ _,_=>rfl
  |.bool _,_=>rfl
  |.str _,_=>rfl
  |.nils,_=>rfl
  |.nilp,_=>rfl
  |.nilm,_=>rfl
  |.nilf,_=>rfl
  |.junk,_=>rfl
  |.emp _,_=>rfl
theorem zc5 {ρ:Nat->Nat}:∀ {l:List T},T.idsL 0 l=true->T.renL ρ l=l
  |[],_=>rfl
  |t :: l,h=>by
    simp only [T.idsL,fi] at h;rw [T.renL,zh3 h.1,zc5 h.2]
end
theorem zrf.one {z:Bool} {M:Nat} {cs:List T} (h:T.idsL 1 cs=true):zrf (stL [.cells z M cs]) (stL [.cells z M cs]):=by
  refine ⟨fm _,fun b=>?_⟩
  cases b with
  |zero=>exact .inr ⟨by show 0<1;omega,rfl,h⟩
  |succ b=>exact .inl rfl
theorem Call.fresh {f:mb} {args:List T} {e n c M:Nat} {z:Bool} {M2:Nat} {cs:List T} (k:Call P Γ GL f args ts0 (.arr 0 e 0 n c M) (stL [.cells z M2 cs])) (ha:T.idsL 0 args=true) (hb:T.idsL 0 cs=true) (bs:List Box):Call P Γ GL f args (stL bs) (.arr bs.length e 0 n c M) (stL (bs++[.cells z M2 cs])):=by
  have:=Call.frame (ρ:=fun i=>bs.length+i) (S:=stL bs) (S':=stL (bs++[.cells z M2 cs])) k ha (by rfl) ⟨io _,fun b _=>rfl,fun i hi=>absurd hi (by show ¬ i<0;omega),fun i _ hi=>by show bs.length<=bs.length+i;omega,fun i hi=>by have:i<1:=hi;show bs.length+i<(bs++[_]).length;rw [fw];simp;omega,by show bs.length<=(bs++[_]).length;simp,fun i j _ _ h=>by have:bs.length+i=bs.length+j:=h;omega,fun i hi=>absurd hi (by show ¬ i<0;omega),fun i hi=>?_,fun b hb=>?_⟩
  . rw [zc5 ha] at this;exact this
  . have:i<1:=hi;have:i=0:=by omega
    subst this;constructor
    . show (bs++[Box.cells z M2 cs]).getD (bs.length+0) .gone=.cells z M2 (T.renL _ cs);rw [zc5 hb,jq,fo,il (fm _)];simp
    . show T.idsL 1 cs=true
      exact z7i fun t ht=>by
        have:=yd2 hb t ht;exact z7f (io _) this
  . show (bs++[Box.cells z M2 cs]).getD b .gone=bs.getD b .gone;by_cases hlt:b<bs.length
    . rw [fo,fo,gh hlt]
    . by_cases h2:b=bs.length
      . exact absurd (h2 ▸ rfl:bs.length+0=b) (hb 0 (by show 0<1;omega))
      . rw [fo,fo,jv (by rw [fw];simp;omega),jv (by omega)]
end
def mset {K V:Type} [DecidableEq K] (k:K) (v:V):List (K×V)->List (K×V)
  |[]=>[(k,v)]
  |p :: l=>if k=p.1 then (k,v) :: l else p :: mset k v l
def mget {K V:Type} [DecidableEq K] (k:K):List (K×V)->Option V
  |[]=>none
  |p :: l=>if k=p.1 then some p.2 else mget k l
theorem keyI {kk:ir} {a b:Int}:zwj (.int kk a) (.int kk b)=some (decide (a=b)):=by
  show (bif fx (ikN kk) (ikN kk) then some (a == b) else none)=_;rw [i8,cond_true];by_cases h:a=b<;>simp [h]
theorem keyS {a b:ByteArray}:zwj (.str a) (.str b)=some (decide (a=b)):=by
  show some (a.data.toList == b.data.toList)=_;by_cases h:a=b
  . subst h;simp
  . have:(a.data.toList == b.data.toList)=false:=by simpa using fun hh=>h (ByteArray.ext hh)
    rw [this,zAb h]
theorem zyt {K V:Type} [DecidableEq K] {kf:K->T} {f:V->T} (hk:∀ a b,zwj (kf a) (kf b)=some (decide (a=b))) (k:K) (v:V):∀ l:List (K×V),tSet (kf k) (f v) (l.map fun p=>(kf p.1,f p.2))=some ((mset k v l).map fun p=>(kf p.1,f p.2))
  |[]=>rfl
  |p :: l=>by
    rw [iz,tSet,hk];unfold mset;by_cases h:k=p.1
    . rw [zAa h,zAc h,iz]
    . rw [zAb h,zAd h,iz];simp only [zyt hk k v l]
theorem zyu {K V:Type} [DecidableEq K] {kf:K->T} {f:V->T} (hk:∀ a b,zwj (kf a) (kf b)=some (decide (a=b))) (k:K):∀ l:List (K×V),tGet (kf k) (l.map fun p=>(kf p.1,f p.2))=some ((mget k l).map f)
  |[]=>rfl
  |p :: l=>by
    rw [iz,tGet,hk];unfold mget;by_cases h:k=p.1
    . rw [zAa h,zAc h];rfl
    . rw [zAb h,zAd h];exact zyu hk k l
theorem zco {kk:ir} {V:Type} {f:V->T} {k:Int} {v:V} {l:List (Int×V)}:tSet (.int kk k) (f v) (l.map fun p=>(.int kk p.1,f p.2))=some ((mset k v l).map fun p=>(.int kk p.1,f p.2)):=zyt (kf:=fg kk) (fun _ _=>keyI) k v l
theorem zcq {kk:ir} {V:Type} {f:V->T} {k:Int} {l:List (Int×V)}:tGet (.int kk k) (l.map fun p=>(.int kk p.1,f p.2))=some ((mget k l).map f):=zyu (kf:=fg kk) (fun _ _=>keyI) k l
theorem zcn {V:Type} {f:V->T} {k:ByteArray} {v:V} {l:List (ByteArray×V)}:tSet (.str k) (f v) (l.map fun p=>(.str p.1,f p.2))=some ((mset k v l).map fun p=>(.str p.1,f p.2)):=zyt (kf:=pf) (fun _ _=>keyS) k v l
theorem zcp {V:Type} {f:V->T} {k:ByteArray} {l:List (ByteArray×V)}:tGet (.str k) (l.map fun p=>(.str p.1,f p.2))=some ((mget k l).map f):=zyu (kf:=pf) (fun _ _=>keyS) k l
theorem zeb {V:Type} {f:V->T} {d:V} {o:Option V}:z7u false (f d) (o.map f)=f (o.getD d):=by cases o<;>rfl
theorem zea {V:Type} {f:V->T} {d:V} {o:Option V}:z7u true (f d) (o.map f)=.tup [f (o.getD d),.bool o.isSome]:=by cases o<;>rfl
theorem zne:type_of% (fc (fc (fc (@zax) (fc (@jx) (@n5))) (fc (@z8u) (fc (@gb) (@and_self)))) (fc (fc (@and_true) (fc (@true_and) (@nf.{0}))) (fc (fc (@m6.{0}) (@gg.{0})) (fc (@jd.{0}) (@i4))))):=fc (fc (fc (@zax) (fc (@jx) (@n5))) (fc (@z8u) (fc (@gb) (@and_self)))) (fc (fc (@and_true) (fc (@true_and) (@nf.{0}))) (fc (fc (@m6.{0}) (@gg.{0})) (fc (@jd.{0}) (@i4))))
theorem zbm:type_of% (fc (fc (fc (@T.ids.eq_1) (fc (@T.ids.eq_2) (@T.ids.eq_3))) (fc (@T.ids.eq_4) (fc (@T.ids.eq_5) (@T.ids.eq_6)))) (fc (fc (@T.ids.eq_7) (fc (@T.ids.eq_8) (@T.ids.eq_9))) (fc (@T.idsL.eq_1) (fc (@T.idsL.eq_2) (@zbc))))):=fc (fc (fc (@T.ids.eq_1) (fc (@T.ids.eq_2) (@T.ids.eq_3))) (fc (@T.ids.eq_4) (fc (@T.ids.eq_5) (@T.ids.eq_6)))) (fc (fc (@T.ids.eq_7) (fc (@T.ids.eq_8) (@T.ids.eq_9))) (fc (@T.idsL.eq_1) (fc (@T.idsL.eq_2) (@zbc))))
theorem zcv:type_of% (fc (fc (@zd3.eq_1) (fc (@zd3.eq_2) (@zhx.eq_1))) (fc (fc (@zhx.eq_2) (@zhx.eq_3)) (fc (@zf3.eq_1) (@zf3.eq_2)))):=fc (fc (@zd3.eq_1) (fc (@zd3.eq_2) (@zhx.eq_1))) (fc (fc (@zhx.eq_2) (@zhx.eq_3)) (fc (@zf3.eq_1) (@zf3.eq_2)))
theorem scA:type_of% (fc (@lc.{0}) (@ls.{0})):=fc (@lc.{0}) (@ls.{0})
theorem scB:type_of% (fc (fc (@st_n) (fc (@gg.{0}) (@jd.{0}))) (fc (@gp.{0}) (fc (@ge.{0}) (@i4)))):=fc (fc (@st_n) (fc (@gg.{0}) (@jd.{0}))) (fc (@gp.{0}) (fc (@ge.{0}) (@i4)))
theorem gsA:type_of% (fc (fc (@zbc) (fc (@nc.{0,0}) (@iz.{0,0}))) (fc (@pc.{0,0}) (fc (@jl) (@m7)))):=fc (fc (@zbc) (fc (@nc.{0,0}) (@iz.{0,0}))) (fc (@pc.{0,0}) (fc (@jl) (@m7)))
end
end Go.Proofs.Ytkfnjbfnkpameaa
