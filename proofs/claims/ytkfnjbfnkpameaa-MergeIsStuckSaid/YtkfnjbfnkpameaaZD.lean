/- Part 4 of the proof of MergeIsStuck (several texts in one; no further condition). -/
import Derived.Test.YtkfnjbfnkpameaaZC
set_option linter.unusedSimpArgs false
set_option linter.unusedVariables false
set_option linter.unusedSectionVars false
namespace Go.Proofs.Ytkfnjbfnkpameaa
noncomputable section
open _root_.And renaming intro->fh
open _root_.Array renaming toList_map->ph
open _root_.BitVec renaming ofInt->jd
open _root_.Bool renaming and_eq_true->fo,and_self->gj,and_true->od,not_true->i5,true_and->kh
open Go.Proofs.Ytkfnjbfnkpameaa.Bx renaming le_refl->mq
open Go.Proofs.Ytkfnjbfnkpameaa.CS renaming inner->su
open Go.Call renaming operands->sn
open Go.Proofs.Ytkfnjbfnkpameaa.Can renaming refl->jv
open _root_.Eq renaming trans->ge
open Go.Proofs.Ytkfnjbfnkpameaa.Fr renaming get_put_other->sw
open Go renaming FuncId->ml,IntKind->i4,Operand->gg,Program->gw,TypeDesc->np,TypeId->gu,eqGuard->mh
open _root_.Int renaming eq_ofNat_of_zero_le->jz,toNat_natCast->jp
open _root_.List renaming all_cons->jt,all_eq_true->im,append_assoc->gr,append_nil->ic,cons_append->gz,drop_succ_cons->lc,drop_zero->gt,eq_nil_of_length_eq_zero->jo,flatMap_cons->jg,flatten_cons->ir,getD_eq_getElem?_getD->fy,getElem?_append_left->gq,getElem?_append_right->iw,getElem?_cons_succ->lp,getElem?_cons_zero->ij,getElem?_eq_getElem->fp,getElem?_eq_none->kb,getElem?_eq_some_iff->gl,getElem?_map->lr,length_append->f7,length_cons->gp,length_drop->jl,length_map->fw,length_nil->jk,length_replicate->ln,length_singleton->io,length_take->iu,map_append->mf,map_cons->ja,map_map->rp,map_nil->pj,mem_map->jq,nil_append->gm,replicate_succ->jh,set_cons_succ->mc,set_cons_zero->lm,take_append_drop->je,take_length->l8,take_of_length_le->il,take_succ_cons->nq,take_zero->nh
open Go.Proofs.Ytkfnjbfnkpameaa.Loc renaming fam->ox
open _root_.Nat renaming add_mul->js,add_zero->j0,beq->gc,beq_refl->jf,ble->ik,blt->ip,eq_of_beq_eq_true->fq,le_refl->fx,lt_of_lt_of_le->h9,mul_one->qo,one_mul->ni,testBit->jc,testBit_and->l7,testBit_or->oq,testBit_two_pow_sub_one->mv,zero_add->jb,zero_le->iy
open Go.Proofs.Ytkfnjbfnkpameaa.Ok0 renaming same->m6
open Go.Op renaming intArith->ql,intBits->qd,intCmp->om,operands->ii
open _root_.Option renaming map_some->o4
open _root_.Option.some renaming injEq->fi
open _root_.Prod.mk renaming injEq->ft
open Go.Proofs.Ytkfnjbfnkpameaa.Stp renaming refl->r8
open Go.Proofs.Ytkfnjbfnkpameaa.T renaming bool->sx,cells->jj,int->fl,one->nl,str->pl
open Go.Proofs.Ytkfnjbfnkpameaa.TS renaming set_ne->nm,set_same->ng
open Go Go.RowKit
section
variable {GL:List (Nat×List Value)} {A A' A2:Nat->Prop} {β β' β2:Bx} {S S':TS} {s s' s2:CS} {P:gw} {Γ:Env}
def zbq (op:BinOp) (k k':i4) (a b:Int):Option T :=
  match op with
  |.shl=>if 0<=b then some (.int k (k.wrap (a*2 ^ (min b.toNat k.bits)))) else none
  |.shr=>if 0<=b then some (.int k (a.fdiv (2 ^ (min b.toNat k.bits)))) else none
  |op=>bif gc (ikN k) (ikN k') then (match op with
    |.add=>some (.int k (k.wrap (a+b)))
    |.sub=>some (.int k (k.wrap (a - b)))
    |.mul=>some (.int k (k.wrap (a*b)))
    |.quo=>if b=0 then none else some (.int k (k.wrap (a.tdiv b)))
    |.rem=>if b=0 then none else some (.int k (a.tmod b))
    |.and=>some (.int k (k.wrap (jd k.bits a &&& jd k.bits b).toNat))
    |.or=>some (.int k (k.wrap (jd k.bits a ||| jd k.bits b).toNat))
    |.xor=>some (.int k (k.wrap (jd k.bits a ^^^ jd k.bits b).toNat))
    |.andNot=>some (.int k (k.wrap (jd k.bits a &&& ~~~ jd k.bits b).toNat))
    |.eql=>some (.bool (decide (a=b)))
    |.neq=>some (.bool (decide (a≠b)))
    |.lss=>some (.bool (decide (a<b)))
    |.leq=>some (.bool (decide (a<=b)))
    |.gtr=>some (.bool (decide (b<a)))
    |.geq=>some (.bool (decide (b<=a)))
    |_=>none) else none
theorem yeg {op:BinOp} {k k':i4} {a b:Int} {r:T} (h:zbq op k k' a b=some r):∃ v,VT A β (zaa s.obj) r v/\∀ {ρ:gg->Value} {o:Oper} {t t2:gu} {x y:gg} {s:CS},o.op=.binOp op t x y t2->ρ x=.int k a->ρ y=.int k' b->zmp P Γ ρ o s t op (.int k a) (.int k' b)=some (v,s):=by
  unfold zbq at h;split at h
  . split at h
    . rename_i h0;cases h;exact ⟨_,.int _ _,fun ho hx hy=>zb0 ho hx hy default (by simp only [binOp,Op.shift];rw [zAd (by omega)]) rfl⟩
    . simp at h
  . split at h
    . rename_i h0;cases h;exact ⟨_,.int _ _,fun ho hx hy=>zb0 ho hx hy default (by simp only [binOp,Op.shift];rw [zAd (by omega)]) rfl⟩
    . simp at h
  . cases hq:gc (ikN k) (ikN k') with
    |false=>rw [hq] at h;simp at h
    |true =>
      rw [hq,cond_true] at h;have:=yej hq;subst this;split at h
      . cases h;exact ⟨_,.int _ _,fun ho hx hy=>zb0 ho hx hy default (by simp only [binOp,ql,ne_eq,not_true,if_false]) rfl⟩
      . cases h;exact ⟨_,.int _ _,fun ho hx hy=>zb0 ho hx hy default (by simp only [binOp,ql,ne_eq,not_true,if_false]) rfl⟩
      . cases h;exact ⟨_,.int _ _,fun ho hx hy=>zb0 ho hx hy default (by simp only [binOp,ql,ne_eq,not_true,if_false]) rfl⟩
      . split at h
        . simp at h
        . rename_i hb;cases h;exact ⟨_,.int _ _,fun ho hx hy=>zb0 ho hx hy default (by simp only [binOp,Op.intDiv,ne_eq,not_true,if_false];rw [zAd hb]) rfl⟩
      . split at h
        . simp at h
        . rename_i hb;cases h;exact ⟨_,.int _ _,fun ho hx hy=>zb0 ho hx hy default (by simp only [binOp,Op.intDiv,ne_eq,not_true,if_false];rw [zAd hb]) rfl⟩
      . cases h;exact ⟨_,.int _ _,fun ho hx hy=>zb0 ho hx hy default (by simp only [binOp,qd,ne_eq,not_true,if_false]) rfl⟩
      . cases h;exact ⟨_,.int _ _,fun ho hx hy=>zb0 ho hx hy default (by simp only [binOp,qd,ne_eq,not_true,if_false]) rfl⟩
      . cases h;exact ⟨_,.int _ _,fun ho hx hy=>zb0 ho hx hy default (by simp only [binOp,qd,ne_eq,not_true,if_false]) rfl⟩
      . cases h;exact ⟨_,.int _ _,fun ho hx hy=>zb0 ho hx hy default (by simp only [binOp,qd,ne_eq,not_true,if_false]) rfl⟩
      . cases h;exact ⟨_,.bool _,fun ho hx hy=>zb0 ho hx hy default (by simp [binOp,om];rfl) rfl⟩
      . cases h;exact ⟨_,.bool _,fun ho hx hy=>zb0 ho hx hy default (by simp [binOp,om]<;>rfl) rfl⟩
      . cases h;exact ⟨_,.bool _,fun ho hx hy=>zb0 ho hx hy default (by simp [binOp,om]) rfl⟩
      . cases h;exact ⟨_,.bool _,fun ho hx hy=>zb0 ho hx hy default (by simp [binOp,om]) rfl⟩
      . cases h;exact ⟨_,.bool _,fun ho hx hy=>zb0 ho hx hy default (by simp [binOp,om]) rfl⟩
      . cases h;exact ⟨_,.bool _,fun ho hx hy=>zb0 ho hx hy default (by simp [binOp,om]) rfl⟩
      . simp at h
def zw2 (op:BinOp) (a b:ByteArray):Option T:=match op with
  |.eql=>some (.bool (decide (a=b)))
  |.neq=>some (.bool (!decide (a=b)))
  |.add=>if a.size+b.size<=9223372036854775807 then some (.str (a++b)) else none
  |_=>none
theorem ybq {op:BinOp} {a b:ByteArray} {r:T} (h:zw2 op a b=some r):∃ v,VT A β (zaa s.obj) r v/\∀ {ρ:gg->Value} {o:Oper} {t t2:gu} {x y:gg} {s:CS},o.op=.binOp op t x y t2->ρ x=.string a->ρ y=.string b->zmp P Γ ρ o s t op (.string a) (.string b)=some (v,s):=by
  unfold zw2 at h;split at h
  . cases h;exact ⟨_,.bool _,fun ho hx hy=>zne ho hx hy rfl (fun d=>zzz d a) rfl rfl (by unfold mh;simp) (by show some _=_;rw [ybp]) rfl⟩
  . cases h;exact ⟨_,.bool _,fun ho hx hy=>zne ho hx hy rfl (fun d=>zzz d a) rfl rfl (by unfold mh;simp) (by show some _=_;rw [ybp]) rfl⟩
  . split at h
    . rename_i hs;cases h
      exact ⟨_,.str _,fun ho hx hy=>zne ho hx hy rfl (fun d=>zzz d a) rfl rfl (by unfold mh;simp) (by
        show za7 P (Op.stringOp .add a b)=_;unfold Op.stringOp;simp only
        rw [zAd (by have : IntKind.i64.max = 9223372036854775807 := by decide
                    omega)]
        rfl) rfl⟩
    . simp at h
  . simp at h
theorem zal {α γ:Type} {f:α->Sem γ}:∀ {m:Sem α},za7 P (m >>= f)=(za7 P m).bind fun v=>za7 P (f v):=by
  intro m
  induction m with
  |pure a=>rfl
  |program k ih=>exact ih P
  |_=>rfl
theorem z97 {ρ:gg->Value} {t t2:gu} {x y:gg} {op:BinOp} {v w r:Value} {o:Oper} (ho:o.op=.binOp op t x y t2) (hx:ρ x=v) (hy:ρ y=w) (hc:binC op v w=none) (hn:∀ d,nilT d v=none) (hpv:za6 3 v=true) (hpw:za6 3 w=true)
    (hr:za7 P (do mh op t x y v w;binOp op t v w)=some r) (hp:za6 3 r=true):zmp P Γ ρ o s t op v w=some (r,s):=by
  unfold zmp;rw [hc];simp only;rw [z8j hn];simp only [zhw];unfold zm8
  have hops:(o.op.operands.toList.all fun z=>za6 3 (ρ z))=true:=by
    rw [ho];simp [ii,hx,hy,hpv,hpw]
  rw [hops]
  have he:execOp ρ o=((do mh op t x y v w;binOp op t v w) >>= fun z=>pure (Next.value z)):=by
    unfold execOp;rw [ho];simp only [hx,hy]
  rw [he]
  have hv:za7 P ((do mh op t x y v w;binOp op t v w) >>= fun z=>pure (Next.value z))=some (.value r):=by
    rw [zal,hr];rfl
  simp only [cond_true];rw [hv];show retC s (bif za6 3 r then some r else none)=some (r,s);rw [hp];rfl
def ygq:T->Option Value
  |.int k n=>some (.int k n)
  |.bool b=>some (.bool b)
  |.str b=>some (.string b)
  |_=>none
def zgp:List T->Option (List Value)
  |[]=>some []
  |t :: l=>match ygq t,zgp l with|some v,some r=>some (v :: r)|_,_=>none
theorem ygp {g:Nat->Fam} {t:T} {v w:Value} (h:ygq t=some w) (hv:VT A β g t v):v=w/\∀ n,za6 n v=true:=by
  unfold ygq at h;split at h
  . cases h;cases hv;exact ⟨rfl,fun n=>by cases n<;>rfl⟩
  . cases h;cases hv;exact ⟨rfl,fun n=>by cases n<;>rfl⟩
  . cases h;cases hv;exact ⟨rfl,fun n=>by cases n<;>rfl⟩
  . simp at h
theorem zt1 {g:Nat->Fam}:∀ {l:List T} {vs ws:List Value},zgp l=some ws->VL A β g l vs->vs=ws/\vs.all (za6 2)=true
  |[],_,ws,h,.nil=>by simp only [zgp,fi] at h;subst h;exact ⟨rfl,rfl⟩
  |t :: l,_,ws,h,.cons h1 h2=>by
    unfold zgp at h;split at h
    . rename_i v r e1 e2;cases h;obtain ⟨a,b⟩:=ygp e1 h1;obtain ⟨c,d⟩:=zt1 e2 h2;rw [a,c] at *;exact ⟨rfl,by rw [jt,b 2,d];rfl⟩
    . simp at h
def zot (P:gw) (t:gu) (op:BinOp) (x y:gg) (a b:List T):Option T:=match zgp a,zgp b with
  |some va,some vb=>(match za7 P (do mh op t x y (.agg ⟨va⟩) (.agg ⟨vb⟩);binOp op t (.agg ⟨va⟩) (.agg ⟨vb⟩)) with
    |some (.bool r)=>some (.bool r)
    |_=>none)
  |_,_=>none
theorem ydn (d:np) (a:Array Value):nilT d (.agg a)=none:=by cases d<;>rfl
def tNil (S:TS):np->T->Option Bool
  |.pointer _,.nilp=>some true
  |.pointer _,.ptr b _ N=>bif S.has b N then some false else none
  |.pointer _,.cp _=>some false
  |.slice _,.nils=>some true
  |.slice _,.arr b _ _ _ _ N=>bif S.has b N && ip 0 N then some false else none
  |.slice _,.lst _ (_ :: _)=>some false
  |.slice _,.emp _=>some false
  |.map _ _,.nilm=>some true
  |.func _ _ _,.nilf=>some true
  |.func _ _ _,.fn _ _ _=>some false
  |_,_=>none
theorem ybj (h:TRel GL A β S s) {d:np} {t:T} {v:Value} {b:Bool} (hv:VT A β (zaa s.obj) t v) (ht:tNil S d t=some b):nilT d v=some b:=by
  unfold tNil at ht;split at ht
  . cases ht;cases hv;rfl
  . rename_i b' _ N
    cases hs:S.has b' N with
    |false=>rw [hs] at ht;simp at ht
    |true =>
      rw [hs] at ht;cases ht;obtain ⟨z,l,hS⟩:=TS.has_ok hs;obtain ⟨f,u,rfl,hb⟩:=zkr h hS hv;rfl
  . cases ht;cases hv;rfl
  . cases ht;cases hv;rfl
  . rename_i b' _ _ _ _ N
    cases hs:(S.has b' N && ip 0 N) with
    |false=>rw [hs] at ht;simp at ht
    |true =>
      rw [hs] at ht;cases ht;simp only [fo] at hs;obtain ⟨z,l,hS⟩:=TS.has_ok hs.1;have:=zae.1 hs.2;rcases zh3 h hS hv with ⟨f,u,rfl,hb,htag⟩|⟨rfl,hb,rfl,rfl,rfl,rfl⟩
      . rfl
      . omega
  . cases ht;cases hv;rfl
  . cases ht;cases hv;rfl
  . cases ht;cases hv;rfl
  . cases ht;cases hv;rfl
  . cases ht;cases hv;rfl
  . simp at ht
def tBin (P:gw) (Γ:Env) (S:TS) (t:gu) (op:BinOp) (x y:gg) (a b:T):Option T:=match a,b with
  |.int k m,.int k' n=>zbq op k k' m n
  |.str m,.str n=>zw2 op m n
  |.bool m,.bool n=>(match Γ.ti.at t with
    |some i=>(match i.desc,op with|.bool,.eql=>some (.bool (m == n))|.bool,.neq=>some (.bool (!(m == n)))|_,_=>none)
    |none=>none)
  |.agg m,.agg n=>zot P t op x y m n
  |a,b=>(match Γ.ti.at t with
    |some i=>(match tNil S i.desc a,tNil S i.desc b with
      |some p,some q=>bif p || q then (match op with|.eql=>some (.bool (p && q))|.neq=>some (.bool (!(p && q)))|_=>none) else none
      |_,_=>none)
    |none=>none)
theorem z9h {op:BinOp} {v w:Value} {d:np} {p:Bool} (h:nilT d v=some p):binC op v w=none:=by
  unfold nilT at h;split at h<;>first | (simp at h;done)|rfl
theorem yl5 (hE:zeg P Γ) (h:TRel GL A β S s) {t t2:gu} {op:BinOp} {x y:gg} {o:Oper} {a b r:T} {ρ:gg->Value} (ho:o.op=.binOp op t x y t2) (hx:VT A β (zaa s.obj) a (ρ x)) (hy:VT A β (zaa s.obj) b (ρ y)) (ht:tBin P Γ S t op x y a b=some r):Ok0 GL A β S s (zmp P Γ ρ o s t op (ρ x) (ρ y)) r:=by
  unfold tBin at ht;split at ht
  . rename_i k m k' n;obtain ⟨v,h1,h2⟩:=yeg (A:=A) (β:=β) (s:=s) (P:=P) (Γ:=Γ) ht;generalize e1:ρ x=vx at hx;generalize e2:ρ y=vy at hy;cases hx;cases hy;rw [h2 ho e1 e2];exact m6 h h1
  . rename_i m n;obtain ⟨v,h1,h2⟩:=ybq (A:=A) (β:=β) (s:=s) (P:=P) (Γ:=Γ) ht;generalize e1:ρ x=vx at hx;generalize e2:ρ y=vy at hy;cases hx;cases hy;rw [h2 ho e1 e2];exact m6 h h1
  . rename_i m n;generalize e1:ρ x=vx at hx;generalize e2:ρ y=vy at hy;cases hx;cases hy;split at ht
    . rename_i i hi;have hd:=(hE.ti _ _ hi).und;split at ht
      . rename_i hdb;cases ht;rw [hdb] at hd
        rw [zne ho e1 e2 rfl (fun d=>z17 d m) rfl rfl (by unfold mh;simp) (r:=.bool (m == n)) (by
          show za7 P (do pure (Value.bool (<- Op.equal t (.bool m) (.bool n))):Sem Value)=_
          rw [zhh (zmj hd)];rfl) rfl]
        exact m6 h (.bool _)
      . rename_i hdb;cases ht;rw [hdb] at hd
        rw [zne ho e1 e2 rfl (fun d=>z17 d m) rfl rfl (by unfold mh;simp) (r:=.bool (!(m == n))) (by
          show za7 P (do pure (Value.bool (!(<- Op.equal t (.bool m) (.bool n)))):Sem Value)=_
          rw [zhh (zmj hd)];rfl) rfl]
        exact m6 h (.bool _)
      . simp at ht
    . simp at ht
  . rename_i m n;generalize e1:ρ x=vx at hx;generalize e2:ρ y=vy at hy;cases hx;cases hy;rename_i va ha vb hb;unfold zot at ht;split at ht
    . rename_i wa wb h1 h2;obtain ⟨rfl,k1⟩:=zt1 h1 ‹VL A β (zaa s.obj) m _›;obtain ⟨rfl,k2⟩:=zt1 h2 ‹VL A β (zaa s.obj) n _›;split at ht
      . rename_i r' hr;cases ht;rw [z97 ho e1 e2 rfl (fun d=>ydn d _) k1 k2 hr rfl];exact m6 h (.bool _)
      . simp at ht
    . simp at ht
  . split at ht
    . rename_i i hi;split at ht
      . rename_i p q h1 h2
        cases hpq:(p || q) with
        |false=>rw [hpq] at ht;simp at ht
        |true =>
          rw [hpq] at ht;simp only [cond_true] at ht;have n1:=ybj h hx h1;have n2:=ybj h hy h2;split at ht
          . cases ht
            have:zmp P Γ ρ o s t .eql (ρ x) (ρ y)=some (.bool (p && q),s):=by
              unfold zmp;rw [z9h n1];simp only;unfold eqC;simp only [hi,n1,n2];unfold nilC;simp only [hpq,cond_true];simp [zhw]
            rw [this];exact m6 h (.bool _)
          . cases ht
            have:zmp P Γ ρ o s t .neq (ρ x) (ρ y)=some (.bool (!(p && q)),s):=by
              unfold zmp;rw [z9h n1];simp only;unfold eqC;simp only [hi,n1,n2];unfold nilC;simp only [hpq,cond_true];simp [zhw]
            rw [this];exact m6 h (.bool _)
          . simp at ht
      . simp at ht
    . simp at ht
def tUn (op:UnOp):T->Option T
  |.bool b=>(match op with|.not=>some (.bool (!b))|_=>none)
  |.int k a=>(match op with
    |.neg=>some (.int k (k.wrap (0 - a)))
    |.xor=>some (.int k (k.wrap (jd k.bits (if k.signed then -1 else k.max) ^^^ jd k.bits a).toNat))
    |_=>none)
  |_=>none
theorem yn6 (h:TRel GL A β S s) {t:gu} {op:UnOp} {x:gg} {o:Oper} {a r:T} {ρ:gg->Value} (ho:o.op=.unOp op t x) (hx:VT A β (zaa s.obj) a (ρ x)) (ht:tUn op a=some r):Ok0 GL A β S s (zhw P ρ o s (unC op (ρ x))) r:=by
  obtain ⟨d,opx,ty,pos,e,g⟩:=o;simp only at ho;subst ho;unfold tUn at ht;split at ht
  . rename_i b;generalize e1:ρ x=vx at hx;cases hx;split at ht
    . cases ht;exact m6 h (.bool _)
    . simp at ht
  . rename_i k m;generalize e1:ρ x=vx at hx;cases hx;split at ht
    . cases ht;rw [yop e1];exact m6 h (.int _ _)
    . cases ht;rw [yoo e1];exact m6 h (.int _ _)
    . simp at ht
  . simp at ht
def zvx:List T->Option (List UInt8)
  |[]=>some []
  |.int .u8 k :: l=>(match zvx l with|some r=>some (UInt8.ofNat k.toNat :: r)|none=>none)
  |_ :: _=>none
theorem z33 {g:Nat->Fam}:∀ {l:List T} {vs:List Value} {r:List UInt8},VL A β g l vs->zvx l=some r->z0t vs=some r
  |[],_,r,.nil,h=>by simp only [zvx,fi] at h;subst h;rfl
  |t :: l,_,r,.cons h1 h2,h=>by
    unfold zvx at h;split at h
    . simp_all
    . rename_i k l' hh;cases hh;split at h
      . rename_i r' hr;cases h;cases h1;unfold z0t;rw [z33 h2 hr]
      . simp at h
    . simp at h
def tStr (Γ:Env) (S:TS) (d1 d2:np) (x:T):Option T:=match d1,d2 with
  |.slice e,.string=>bif isU8 Γ e then (match tSrc S 1 x with
    |some (_,xs)=>(match zvx xs with|some r=>some (.str ⟨r.toArray⟩)|none=>none)
    |none=>none) else none
  |_,_=>none
theorem z39 (h:TRel GL A β S s) {src dst:gu} {x:gg} {o:Oper} {a r:T} {ρ:gg->Value} {i j:TI} (hi:Γ.ti.at src=some i) (hj:Γ.ti.at dst=some j) (hx:VT A β (zaa s.obj) a (ρ x)) (ht:tStr Γ S i.desc j.desc a=some r) (hsl:∀ n xs,tSrc S 1 a=some (n,xs)->∃ aa c m,ρ x=.slice aa m c):Ok0 GL A β S s (zd5 P Γ ρ o s src dst (ρ x)) r:=by
  unfold tStr at ht;split at ht
  . rename_i e hd1 hd2
    cases hq:isU8 Γ e with
    |false=>rw [hq] at ht;simp at ht
    |true =>
      rw [hq] at ht;simp only [cond_true] at ht;split at ht
      . rename_i n xs hsrc;obtain ⟨e1,e2,e3⟩:=z4a h (show 0<1 by omega) hx hsrc;obtain ⟨ys,s1,f1,f2,f3⟩:=e3 n (fx _);rw [il (by omega)] at f2;split at ht
        . rename_i r' hr';cases ht;obtain ⟨aa,c,m,hsl⟩:=hsl n xs hsrc;rw [hsl] at e1 f1 ⊢;simp only [lenC,fi] at e1;subst e1
          have:zd5 P Γ ρ o s src dst (.slice aa m c)=some (.string ⟨r'.toArray⟩,s1):=by
            unfold zd5;simp only [hi,hj,hd1,hd2,hq,cond_true];rw [f1];unfold strC;simp only [z33 f2 hr']
          rw [this];exact Ok0.rd h (f3.rel0 h) (.str _)
        . simp at ht
      . simp at ht
  . simp at ht
def zru (Γ:Env) (S:TS) (src dst:gu) (x:T):Option T:=match Γ.ti.at src,Γ.ti.at dst with
  |some i,some j=>(match x with
    |.int _ n=>(match j.desc with|.int k=>some (.int k (k.wrap n))|_=>none)
    |.str b=>(match i.desc,j.desc with
      |.string,.slice e=>bif isU8 Γ e && ik b.size 1000000000 then some (.lst 1 (zh1 b)) else none
      |.string,.string=>some (.str b)
      |_,_=>none)
    |.lst e' l=>tStr Γ S i.desc j.desc (.lst e' l)
    |.arr b e' off len cap N=>tStr Γ S i.desc j.desc (.arr b e' off len cap N)
    |.nils=>tStr Γ S i.desc j.desc .nils
    |_=>none)
  |_,_=>none
theorem z8w {ρ:gg->Value} {o:Oper} {src dst e:gu} {i j:TI} {b:ByteArray} (hi:Γ.ti.at src=some i) (hj:Γ.ti.at dst=some j) (hd1:i.desc=.string) (hd2:j.desc=.slice e) (hq:(isU8 Γ e && ik b.size 1000000000)=true):zd5 P Γ ρ o s src dst (.string b)=zh6 b.size b.size (s.newRow 2 (zjf b)):=by
  unfold zd5;simp only [hi,hj,hd1,hd2,hq,cond_true]
theorem z03 (hE:zeg P Γ) (h:TRel GL A β S s) {src dst:gu} {x:gg} {o:Oper} {a r:T} {ρ:gg->Value} (ho:o.op=.convert src dst x) (hx:VT A β (zaa s.obj) a (ρ x)) (ht:zru Γ S src dst a=some r):Ok0 GL A β S s (zd5 P Γ ρ o s src dst (ρ x)) r:=by
  unfold zru at ht;split at ht
  . rename_i i j hi hj;split at ht
    . rename_i k n;generalize e1:ρ x=vx at hx;cases hx;split at ht
      . rename_i k' hd;cases ht;obtain ⟨d,opx,ty,pos,e,g⟩:=o;simp only at ho;subst ho;have hs:=(hE.ti _ _ hi).und;have hdd:=(hE.ti _ _ hj).und;rw [hd] at hdd;unfold zd5;simp only [hi,hj,hd];rw [yot ⟨k,e1⟩ (by rw [hs];rfl) hdd];exact m6 h (.int _ _)
      . simp at ht
    . rename_i b;generalize e1:ρ x=vx at hx;cases hx;split at ht
      . rename_i e hd1 hd2
        cases hq:(isU8 Γ e && ik b.size 1000000000) with
        |false=>rw [hq] at ht;simp at ht
        |true =>
          rw [hq] at ht;cases ht;have hv:VL A β (zaa s.obj) (zh1 b) (zjf b):=ztg _;obtain ⟨s',A',k1,k2,k3,k4,k5⟩:=h.newFrozen 2 (by omega) hv;rw [z8w hi hj hd1 hd2 hq,k1];refine ⟨_,s',A',rfl,k4,?_,k5⟩
          have hfm:(zh1 b).flatMap jj=zh1 b:=by
            unfold zh1 yic;rw [List.flatMap_map]
            have:∀ l:List UInt8,List.flatMap (fun (a:UInt8)=>(fl IntKind.u8 (a.toNat:Int)).cells) l=l.map fun a=>.int .u8 (a.toNat:Int):=by
              intro l
              induction l with
              |nil=>rfl
              |cons c l ih=>rw [jg,ih];rfl
            exact this _
          have hln:(zh1 b).length=b.size:=by simp [zh1]
          have:=VT.lst (A:=A') (β:=β) (g:=zaa s'.obj) (e:=1) (off:=0) (cap:=b.size) (l:=zh1 b) k2 k3 (by rw [hfm];exact k5.stp.vl h hv) (fun t ht=>by
            obtain ⟨c,_,rfl⟩:=jq.1 ht
            rfl) (by omega) (by rw [gt,l8]) (.inr (by omega)) (by omega)
          rw [hln] at this;exact this
      . rename_i hd1 hd2;cases ht
        have:zd5 P Γ ρ o s src dst (.string b)=some (.string b,s):=by
          unfold zd5;simp only [hi,hj,hd1,hd2]
        rw [this];exact m6 h (.str _)
      . simp at ht
    . refine z39 h hi hj hx ht fun n xs hs=>?_;generalize ρ x=vx at hx
      cases hx with
      |lnil=>exact ⟨_,_,_,rfl⟩
      |lst=>exact ⟨_,_,_,rfl⟩
    . rename_i b e' off len cap N;refine z39 h hi hj hx ht fun n xs hs=>?_;unfold tSrc at hs;simp only at hs;split at hs
      . rename_i z N' l hS
        cases hq:(gc N N' && (gc e' 1 && ik (off+len*1) N)) with
        |false=>rw [hq] at hs;simp at hs
        |true =>
          simp only [fo] at hq;have:=fq hq.1;subst this;rcases zh3 h hS hx with ⟨f,u,h1,hb,_⟩|⟨h1,_⟩
          . exact ⟨_,_,_,h1⟩
          . exact ⟨_,_,_,h1⟩
      . simp at hs
    . refine z39 h hi hj hx ht fun n xs hs=>?_;generalize ρ x=vx at hx;cases hx;exact ⟨_,_,_,rfl⟩
    . simp at ht
  . simp at ht
def zsv (Γ:Env) (S:TS) (src dst:gu) (x:T):Option (T×TS):=match Γ.ti.at src,Γ.ti.at dst,x with
  |some i,some j,.str b=>(match i.desc,j.desc with
    |.string,.slice e=>bif isU8 Γ e && ik b.size 1000000000 then some (.arr S.n 1 0 b.size b.size (zh1 b).length,S.add (.cells false (zh1 b).length (zh1 b))) else none
    |_,_=>none)
  |_,_,_=>none
theorem z4c (h:TRel GL A β S s) {src dst:gu} {x:gg} {o:Oper} {a r:T} {ρ:gg->Value} (hx:VT A β (zaa s.obj) a (ρ x)) (ht:zsv Γ S src dst a=some (r,S')):Ok GL A β s (zd5 P Γ ρ o s src dst (ρ x)) r S':=by
  unfold zsv at ht;split at ht
  . rename_i i j b hi hj;generalize e1:ρ x=vx at hx;cases hx;split at ht
    . rename_i e hd1 hd2
      cases hq:(isU8 Γ e && ik b.size 1000000000) with
      |false=>rw [hq] at ht;simp at ht
      |true =>
        rw [hq] at ht;cases ht;have hv:VL A β (zaa s.obj) (zh1 b) (zjf b):=ztg _
        have hone:(zh1 b).all nl=true:=by
          unfold zh1 yic;rw [im];intro t ht;obtain ⟨c,_,rfl⟩:=jq.1 ht;rfl
        obtain ⟨s',β',k1,k2,k3,k4⟩:=h.newBox 2 (by omega) hv (hv.one hone);rw [z8w hi hj hd1 hd2 hq,k1];exact ⟨_,s',A,β',rfl,k3,.arr k2 (.inr (by omega)),k4⟩
    . simp at ht
  . simp at ht
end
def zj2 (Γ:Env) (t:gu) (k:T):Bool:=match Γ.ti.at t with
  |some i=>(match i.desc,k with|.int a,.int b _=>gc (ikN a) (ikN b)|.string,.str _=>true|.bool,.bool _=>true|_,_=>false)
  |none=>false
def zw0:T->T->Option Bool
  |.int k a,.int k' b=>bif gc (ikN k) (ikN k') then some (a == b) else none
  |.str a,.str b=>some (a.data.toList == b.data.toList)
  |.bool a,.bool b=>some (a == b)
  |_,_=>none
def tGet (k:T):List (T×T)->Option (Option T)
  |[]=>some none
  |(k',v) :: l=>match zw0 k k' with
    |some true=>some (some v)
    |some false=>tGet k l
    |none=>none
def tSet (k v:T):List (T×T)->Option (List (T×T))
  |[]=>some [(k,v)]
  |(k',v') :: l=>match zw0 k k' with
    |some true=>some ((k,v) :: l)
    |some false=>(match tSet k v l with|some l=>some ((k',v') :: l)|none=>none)
    |none=>none
def zgo (i:TI):Option T:=bif aggT i.desc then (match zgn i.zero with|some l=>some (.agg l)|none=>none) else match i.zero with | [z]=>zlp z|_=>none
def z8b (ok:Bool) (z:T):Option T->T
  |some v=>bif ok then .tup [v,.bool true] else v
  |none=>bif ok then .tup [z,.bool false] else z
def zd8 (Γ:Env) (S:TS) (t:gu) (x k:T) (ok:Bool):Option T:=match Γ.ti.at t with
  |some i=>(match i.desc with
    |.map kt e=>bif zj2 Γ kt k then (match Γ.ti.at e with
      |some j=>(match zgo j with
        |some z=>(match x with
          |.nilm=>some (z8b ok z none)
          |.mp b=>(match S.box b with|.map l=>(match tGet k l with|some r=>some (z8b ok z r)|none=>none)|_=>none)
          |_=>none)
        |none=>none)
      |none=>none) else none
    |_=>none)
  |none=>none
def za8 (Γ:Env) (S:TS) (t:gu) (k v m:T):Option TS:=match m,Γ.ti.at t with
  |.mp b,some i=>(match i.desc with
    |.map kt _=>bif zj2 Γ kt k then (match S.box b with|.map l=>(match tSet k v l with|some l'=>some (S.set b (.map l'))|none=>none)|_=>none) else none
    |_=>none)
  |_,_=>none
def zct (S:TS):Option (T×TS):=some (.mp S.n,S.add (.map []))
section
variable {GL:List (Nat×List Value)} {A A':Nat->Prop} {β β':Bx} {S S':TS} {s s':CS} {P:gw} {Γ:Env} {g g':Nat->Fam}
theorem VM.mk {k x:T} {v w:Value} {l:List (T×T)} {es:List (Value×Value)} (a:VT A β g k v) (c:VT A β g x w) (h:VM A β g l es):VM A β g ((k,x) :: l) ((v,w) :: es):=⟨.cons a h.1,.cons c h.2⟩
end
def znt (v:Value):T:=match zlp v with
  |some t=>t
  |none=>match v with
    |.agg cs=>(match zgn cs.toList with|some l=>.agg l|none=>.junk)
    |_=>.junk
def ye1:List (Nat×List Value)->Nat->T
  |[],_=>.junk
  |x :: l,k=>bif gc x.1 k then (match zgn x.2 with|some c=>.cp c|none=>.junk) else ye1 l k
def zdi (GL:List (Nat×List Value)) (h:Nat->T):gg->T
  |.tmp t=>h t
  |.const v=>znt v
  |.global k=>ye1 GL k
  |.func f=>.fn f [] []
def tupd (h:Nat->T) (t:Nat) (v:T):Nat->T:=fun u=>if u=t then v else h u
theorem zhk (h:Nat->T) (t:Nat) (v:T):tupd h t v t=v:=zAc rfl
theorem zlr (h:Nat->T) (t u:Nat) (v:T) (hn:u≠t):tupd h t v u=h u:=zAd hn
def putT (h:Nat->T):Option Tmp->T->Nat->T
  |some d,v=>tupd h d v
  |none,_=>h
def zh4 (S:TS):Option T->Option (T×TS)
  |some t=>some (t,S)
  |none=>none
def ya8:Option TS->Option (T×TS)
  |some S=>some (.junk,S)
  |none=>none
def ownD (own:List Nat) (d:Option Tmp):Bool:=match d with|some d=>has own d|none=>false
def zms (Γ:Env) (S:TS) (ρ:gg->T) (b:Builtin) (args:List gg) (ts:List gu):Option T:=match b with
  |.len=>(match args,ts with | [x],[t]=>tLen Γ S t (ρ x)|_,_=>none)
  |.min=>(match args with | [x,y]=>(match ρ x,ρ y with|.int k a,.int _ b=>some (.int k (min a b))|_,_=>none)|_=>none)
  |.max=>(match args with | [x,y]=>(match ρ x,ρ y with|.int k a,.int _ b=>some (.int k (max a b))|_,_=>none)|_=>none)
  |_=>none
def zgr (P:gw) (Γ:Env) (ρ:gg->T) (o:Oper) (S:TS):Option T :=
  match o.op with
  |.move x=>some (ρ x)
  |.assign x=>some (ρ x)
  |.pick c a b=>(match ρ c with|.bool t=>some (bif t then ρ a else ρ b)|_=>none)
  |.build t parts=>zkb Γ ρ t parts.toList
  |.buildSlice t n parts=>zam Γ ρ t n parts.toList
  |.load t x=>ztp Γ S t (ρ x)
  |.makeFunc fn first captured=>(match fn with|.func f=>some (.fn f (first.toList.map ρ) (captured.toList.map ρ))|_=>none)
  |.slice t x lo hi mx=>zto Γ S t (ρ x) (lo.map ρ) (hi.map ρ) (mx.map ρ)
  |.fieldAddr t x k=>zao Γ S t k (ρ x)
  |.indexAddr t x ix=>zib Γ S t (ρ x) (ρ ix)
  |.index t x ix=>ztq Γ t (ρ x) (ρ ix)
  |.extract x k=>zls k (ρ x)
  |.unOp op _ x=>tUn op (ρ x)
  |.convert src dst x=>zru Γ S src dst (ρ x)
  |.binOp op t x y _=>tBin P Γ S t op x y (ρ x) (ρ y)
  |.call c=>(match c.callee with
    |.builtin b=>zms Γ S ρ b c.args.toList c.argTypes.toList
    |_=>none)
  |_=>none
def zgu (P:gw) (Γ:Env) (own:List Nat) (ρ:gg->T) (o:Oper) (S:TS):Option (T×TS) :=
  match o.op with
  |.alloc e=>zw1 Γ S e
  |.box _ x=>tBox S (ρ x)
  |.buildSlice t n parts=>bif ownD own o.dst then zar Γ S ρ t n parts.toList else zh4 S (zam Γ ρ t n parts.toList)
  |.store t x v=>ya8 (zwz Γ S t (ρ v) (ρ x))
  |.makeSlice t l c=>zjn Γ S t (ρ l) (ρ c)
  |.convert src dst x=>bif ownD own o.dst then zsv Γ S src dst (ρ x) else zh4 S (zru Γ S src dst (ρ x))
  |.call c=>(match c.callee with
    |.builtin .append=>(match c.args.toList,c.argTypes.toList with | [x,y],[t,tx]=>bif srcT Γ tx then zmu Γ S t (ρ y) (ρ x) else none|_,_=>none)
    |.builtin .clear=>(match c.args.toList,c.argTypes.toList with | [x],[t]=>ztr Γ S t (ρ x)|_,_=>none)
    |.builtin b=>zh4 S (zms Γ S ρ b c.args.toList c.argTypes.toList)
    |_=>none)
  |_=>zh4 S (zgr P Γ ρ o S)
section
variable {GL:List (Nat×List Value)} {A A' A2:Nat->Prop} {β β' β2:Bx} {S S':TS} {s s' s2:CS} {P:gw} {Γ:Env}
theorem VT.undf {g:Nat->Fam}:VT A β g (.tup []) undef:=VT.tup (vs:=[]) .nil
theorem yfk {g:Nat->Fam} (v:Value):VT A β g (znt v) v:=by
  unfold znt;split
  . rename_i t ht;exact (z52 ht).1
  . split
    . rename_i cs;split
      . rename_i l hl;obtain ⟨cs⟩:=cs;exact .agg (zjt hl).1
      . exact .junk _
    . exact .junk _
theorem z77 {g:Nat->Fam}:∀ (L:List (Nat×List Value)) (k:Nat),(∀ x,x∈L->A x.1/\zbp (g x.1).rows (x.1*1024)=some x.2)->VT A β g (ye1 L k) (.pointer (some (mkA k (k*1024) 0)))
  |[],k,_=>.junk _
  |x :: l,k,h=>by
    unfold ye1
    cases hb:gc x.1 k with
    |false=>exact z77 l k fun y hy=>h y (by simp [hy])
    |true =>
      have:=fq hb;subst this;simp only [cond_true];split
      . rename_i c hc;obtain ⟨h1,h2⟩:=h x (by simp);exact .cp h1 h2 (zjt hc).1 (by rw [gt,l8])
      . exact .junk _
structure FrOk (A:Nat->Prop) (β:Bx) (g:Nat->Fam) (N:Nat) (h:Nat->T) (fr:Fr):Prop where
  nt:fr.nt=N
  le:N<=512
  slot:∀ t,VT A β g (h t) (fr.get t)
theorem FrOk.mono {N:Nat} {h:Nat->T} {fr:Fr} {g g':Nat->Fam} (k:FrOk A β g N h fr) (hA:∀ f,A f->A' f) (hg:∀ f,A f->g' f=g f) (hβ:Bx.le β β'):FrOk A' β' g' N h fr:=⟨k.nt,k.le,fun t=>(k.slot t).mono hA hg hβ⟩
theorem FrOk.eval (hT:TRel GL A β S s) {N:Nat} {h:Nat->T} {fr:Fr} (k:FrOk A β (zaa s.obj) N h fr) (x:gg):VT A β (zaa s.obj) (zdi GL h x) (zha fr x):=by
  cases x with
  |tmp t=>exact k.slot t
  |const v=>exact yfk v
  |global g=>exact z77 GL g hT.glob
  |func f=>exact .fn .nil .nil
def zfm (N:Nat) (ops:List Oper):Bool:=ops.all fun o=>match o.dst with|some d=>ip d N|none=>true
theorem FrOk.put {N:Nat} {h:Nat->T} {fr:Fr} {g:Nat->Fam} (k:FrOk A β g N h fr) {d:Option Tmp} (hd:∀ t,d=some t->t<N) {t:T} {v:Value} (hv:VT A β g t v):FrOk A β g N (putT h d t) (putC fr d v):=by
  cases d with
  |none=>exact k
  |some d =>
    have hdN:=hd d rfl;refine ⟨?_,k.le,fun u=>?_⟩
    . show (fr.put d v).nt=N;unfold Fr.put;rw [zcn];split<;>exact k.nt
    . show VT A β g (tupd h d t u) ((fr.put d v).get u);by_cases hu:u=d
      . subst hu;rw [zhk,Fr.get_put_same v (by rw [k.nt];exact hdN) (by rw [k.nt];exact k.le)];exact hv
      . rw [zlr _ _ _ _ hu,sw v (by rw [k.nt];exact k.le) (fun hh=>hu hh.symm)];exact k.slot u
theorem zvy {g:Nat->Fam} {ρT:gg->T} {ρ:gg->Value} (hρ:∀ x,VT A β g (ρT x) (ρ x)):∀ (l:List gg),VL A β g (l.map ρT) (l.map ρ)
  |[]=>.nil
  |x :: l=>.cons (hρ x) (zvy hρ l)
theorem yf8 {g:Nat->Fam} {ρT:gg->T} {ρ:gg->Value} (hρ:∀ x,VT A β g (ρT x) (ρ x)):∀ (l:Option gg),VO A β g (l.map ρT) (l.map ρ)
  |none=>.none
  |some x=>.some (hρ x)
theorem zst {r:Option T} {t:T} {S1 S2:TS} (h:zh4 S1 r=some (t,S2)):r=some t/\S2=S1:=by
  unfold zh4 at h;split at h
  . cases h;exact ⟨rfl,rfl⟩
  . simp at h
theorem ygg {r:Option TS} {t:T} {S2:TS} (h:ya8 r=some (t,S2)):r=some S2/\t=.junk:=by
  unfold ya8 at h;split at h
  . cases h;exact ⟨rfl,rfl⟩
  . simp at h
theorem zrv (hT:TRel GL A β S s) {ρT:gg->T} {ρ:gg->Value} (hρ:∀ x,VT A β (zaa s.obj) (ρT x) (ρ x)) {o:Oper} {b:Builtin} {args:Array gg} {ts:Array gu} {r:T} (ho:o.op=.call ⟨.builtin b,args,ts⟩) (ht:zms Γ S ρT b args.toList ts.toList=some r):Ok0 GL A β S s (zf7 P Γ ρ o s b args.toList ts.toList) r:=by
  unfold zms at ht;split at ht
  . split at ht
    . rename_i x t e1 e2;rw [e1,e2];exact yl3 hT (hρ x) ht
    . simp at ht
  . split at ht
    . rename_i x y e1;split at ht
      . rename_i k a k' b' e2 e3;cases ht;obtain ⟨args⟩:=args;simp only at e1;subst e1;obtain ⟨d,opx,ty,pos,e,g⟩:=o;simp only at ho;subst ho;have h1:=hρ x;have h2:=hρ y;rw [e2] at h1;rw [e3] at h2;generalize f1:ρ x=vx at h1;generalize f2:ρ y=vy at h2;cases h1;cases h2;show Ok0 GL A β S s (zf7 P Γ ρ _ s .min [x,y] ts.toList) _;rw [o_min f1 f2];exact m6 hT (.int _ _)
      . simp at ht
    . simp at ht
  . split at ht
    . rename_i x y e1;split at ht
      . rename_i k a k' b' e2 e3;cases ht;obtain ⟨args⟩:=args;simp only at e1;subst e1;obtain ⟨d,opx,ty,pos,e,g⟩:=o;simp only at ho;subst ho;have h1:=hρ x;have h2:=hρ y;rw [e2] at h1;rw [e3] at h2;generalize f1:ρ x=vx at h1;generalize f2:ρ y=vy at h2;cases h1;cases h2;show Ok0 GL A β S s (zf7 P Γ ρ _ s .max [x,y] ts.toList) _;rw [o_max f1 f2];exact m6 hT (.int _ _)
      . simp at ht
    . simp at ht
  . simp at ht
theorem z6e (hE:zeg P Γ) (hT:TRel GL A β S s) {ρT:gg->T} {ρ:gg->Value} (hρ:∀ x,VT A β (zaa s.obj) (ρT x) (ρ x)) {call:zeh} {o:Oper} {r:T} (ht:zgr P Γ ρT o S=some r):Ok0 GL A β S s (cop P Γ call ρ o s) r:=by
  unfold zgr at ht;split at ht
  . rename_i x ho;cases ht;unfold cop;simp only [ho];exact m6 hT (hρ x)
  . rename_i x ho;cases ht;unfold cop;simp only [ho];exact m6 hT (hρ x)
  . rename_i c a b ho;split at ht
    . rename_i t hc;cases ht;unfold cop;simp only [ho];have h1:=hρ c;rw [hc] at h1;generalize f1:ρ c=vc at h1;cases h1;rw [ymi]
      cases t with
      |true=>exact m6 hT (hρ a)
      |false=>exact m6 hT (hρ b)
    . simp at ht
  . rename_i t parts ho;unfold cop;simp only [ho];exact ybm hT hρ ht
  . rename_i t n parts ho;unfold cop;simp only [ho];exact zmt hT hρ ht
  . rename_i t x ho;unfold cop;simp only [ho];exact ygm hT (hρ x) ht
  . rename_i fn first captured ho
    split at ht
    . rename_i f;cases ht;unfold cop;simp only [ho];have e1:first.map ρ=⟨first.toList.map ρ⟩:=by rw [<- ph]
      have e2:captured.map ρ=⟨captured.toList.map ρ⟩:=by rw [<- ph]
      rw [e1,e2];exact m6 hT (.fn (zvy hρ _) (zvy hρ _))
    . simp at ht
  . rename_i t x lo hi mx ho;unfold cop;simp only [ho];exact ybi hT (hρ x) (yf8 hρ _) (yf8 hρ _) (yf8 hρ _) ht
  . rename_i t x k ho;unfold cop;simp only [ho];exact zza hT (hρ x) ht
  . rename_i t x ix ho;unfold cop;simp only [ho];exact zy9 hT (hρ x) (hρ ix) ht
  . rename_i t x ix ho;unfold cop;simp only [ho];exact ybk hT (hρ x) (hρ ix) ht
  . rename_i x k ho;unfold cop;simp only [ho];exact z4b hT (hρ x) ht
  . rename_i op t x ho;unfold cop;simp only [ho];exact yn6 hT ho (hρ x) ht
  . rename_i src dst x ho;unfold cop;simp only [ho];exact z03 hE hT ho (hρ x) ht
  . rename_i op t x y t2 ho;unfold cop;simp only [ho];exact yl5 hE hT ho (hρ x) (hρ y) ht
  . rename_i c ho;split at ht
    . rename_i b hc;obtain ⟨cal,args,tys⟩:=c;simp only at hc ht;subst hc;unfold cop;simp only [ho];exact zrv hT hρ ho ht
    . simp at ht
  . simp at ht
theorem zzb (hE:zeg P Γ) (hT:TRel GL A β S s) {own:List Nat} {ρT:gg->T} {ρ:gg->Value} (hρ:∀ x,VT A β (zaa s.obj) (ρT x) (ρ x)) {call:zeh} {o:Oper} {r:T} (ht:zgu P Γ own ρT o S=some (r,S')):Ok GL A β s (cop P Γ call ρ o s) r S':=by
  unfold zgu at ht;split at ht
  . rename_i e ho;unfold cop;simp only [ho];exact ybo hT ht
  . rename_i e x ho;unfold cop;simp only [ho];exact yl4 hT (hρ x) ht
  . rename_i t n parts ho;unfold cop;simp only [ho]
    cases hw:ownD own o.dst with
    |true=>rw [hw] at ht;exact z04 hT hρ ht
    |false =>
      rw [hw] at ht;obtain ⟨h1,rfl⟩:=zst ht;exact (zmt hT hρ h1).ok
  . rename_i t x v ho;obtain ⟨h1,rfl⟩:=ygg ht;unfold cop;simp only [ho];exact ybh hT (hρ x) (hρ v) h1
  . rename_i t l c ho;unfold cop;simp only [ho];exact zy8 hT (hρ l) (hρ c) ht
  . rename_i src dst x ho;unfold cop;simp only [ho]
    cases hw:ownD own o.dst with
    |true=>rw [hw] at ht;exact z4c hT (hρ x) ht
    |false =>
      rw [hw] at ht;obtain ⟨h1,rfl⟩:=zst ht;exact (z03 hE hT ho (hρ x) h1).ok
  . rename_i c ho;obtain ⟨cal,args,tys⟩:=c;simp only at ht;split at ht
    . split at ht
      . rename_i x y t tx e1 e2;unfold cop;simp only [ho];rw [e1,e2]
        cases hq:srcT Γ tx with
        |false=>rw [hq] at ht;simp at ht
        |true =>
          rw [hq,cond_true] at ht;rw [ydh hq];exact z9o hT (hρ x) (hρ y) ht
      . simp at ht
    . split at ht
      . rename_i x t e1 e2;unfold cop;simp only [ho];rw [e1,e2];exact ybl hT (hρ x) ht
      . simp at ht
    . obtain ⟨h1,rfl⟩:=zst ht;unfold cop;simp only [ho];exact (zrv hT hρ ho h1).ok
    . simp at ht
  . obtain ⟨h1,rfl⟩:=zst ht;exact (z6e hE hT hρ h1).ok
end
def Call (P:gw) (Γ:Env) (GL:List (Nat×List Value)) (f:ml) (args:List T) (S:TS) (v:T) (S':TS):Prop :=
  ∀ A β s vargs,TRel GL A β S s->VL A β (zaa s.obj) args vargs->Ok GL A β s (zeo P Γ f vargs s) v S'
def zi3 (ops:List Oper) (h:Nat->T):Option (Nat×Bool)->Option Bool
  |none=>some true
  |some (j,want)=>match zo8 ops j with
    |some d=>(match h d with|.bool b=>some (b == want)|.tup _=>some false|_=>none)
    |none=>none
def z0o (P:gw) (Γ:Env) (GL:List (Nat×List Value)) (S:TS) (args:List T) (f:T) (r:T×TS):Option Prop:=match f with
  |.fn k first cap=>some (Call P Γ GL k (first++args++cap) S r.1 r.2)
  |_=>none
def andT (p:Prop):Option (Prop×(Nat->T)×TS)->Option (Prop×(Nat->T)×TS)
  |some (q,h,S)=>some (p/\q,h,S)
  |none=>none
def runT (P:gw) (Γ:Env) (GL:List (Nat×List Value)) (own:List Nat) (ops:List Oper):List Oper->(Nat->T)->TS->List (T×TS)->Option (Prop×(Nat->T)×TS)
  |[],h,S,_=>some (True,h,S)
  |o :: l,h,S,outs=>match zi3 ops h o.guard with
    |none=>none
    |some false=>runT P Γ GL own ops l (putT h o.dst (.tup [])) S outs
    |some true=>match o.op with
      |.call ⟨.value f,args,tys⟩=>(match outs with
        |r :: outs=>(match z0o P Γ GL S (args.toList.map (zdi GL h)) (zdi GL h f) r with
          |some p=>andT p (runT P Γ GL own ops l (putT h o.dst r.1) r.2 outs)
          |none=>none)
        |[]=>none)
      |_=>(match zgu P Γ own (zdi GL h) o S with
        |some (t,S1)=>runT P Γ GL own ops l (putT h o.dst t) S1 outs
        |none=>none)
section
variable {GL:List (Nat×List Value)} {A A' A2:Nat->Prop} {β β' β2:Bx} {S S':TS} {s s' s2:CS} {P:gw} {Γ:Env}
theorem zi2 {g:Nat->Fam} {ops:List Oper} {h:Nat->T} {N:Nat} {fr:Fr} {o:Oper} {b:Bool} (k:FrOk A β g N h fr) (hg:zi3 ops h o.guard=some b):zdb ops fr o=b:=by
  unfold zi3 at hg;unfold zdb;split at hg
  . rename_i hh;cases hg;rw [hh]
  . rename_i j want hh;rw [hh];split at hg
    . rename_i d hd;simp only [hd];split at hg
      . rename_i b' hb;have:=k.slot d;rw [hb] at this;generalize fr.get d=v at this;cases this;simp only [fi] at hg;exact hg
      . rename_i l hb;have:=k.slot d;rw [hb] at this;generalize fr.get d=v at this;cases this;simp only [fi] at hg;exact hg
      . simp at hg
    . simp at hg
def Left (GL:List (Nat×List Value)) (A:Nat->Prop) (β:Bx) (s:CS) (N:Nat) (fr':Fr) (s':CS) (h':Nat->T) (S':TS):Prop :=
  ∃ A' β',FrOk A' β' (zaa s'.obj) N h' fr'/\TRel GL A' β' S' s'/\Stp A β s A' β' s'
theorem Left.trans {N:Nat} {fr' fr2:Fr} {h' h2:Nat->T} {S2:TS} (hl:s.lim<=s.n) (hS:Stp A β s A' β' s') (k:Left GL A' β' s' N fr2 s2 h2 S2):Left GL A β s N fr2 s2 h2 S2:=by
  obtain ⟨A2,β2,k1,k2,k3⟩:=k;exact ⟨A2,β2,k1,k2,hS.trans hl k3⟩
theorem z4n (hE:zeg P Γ) {own:List Nat} {ops:List Oper} {N:Nat}:∀ {l:List Oper} {h h':Nat->T} {S S':TS} {outs:List (T×TS)} {ob:Prop} {A:Nat->Prop} {β:Bx} {fr:Fr} {s:CS},zfm N l=true->FrOk A β (zaa s.obj) N h fr->TRel GL A β S s->runT P Γ GL own ops l h S outs=some (ob,h',S')->ob ->
    ∃ fr' s',runC P Γ (zeo P Γ) ops l fr s=some (fr',s')/\Left GL A β s N fr' s' h' S'
  |[],h,h',S,S',outs,ob,A,β,fr,s,hd,hF,hT,hr,hob=>by
    simp only [runT,fi,ft] at hr;obtain ⟨rfl,rfl,rfl⟩:=hr;exact ⟨fr,s,rfl,A,β,hF,hT,r8⟩
  |o :: l,h,h',S,S',outs,ob,A,β,fr,s,hd,hF,hT,hr,hob=>by
    have hd':zfm N l=true/\∀ t,o.dst=some t->t<N:=by
      unfold zfm at hd ⊢;rw [jt,fo] at hd;refine ⟨hd.2,fun t ht=>?_⟩;have:=hd.1;rw [ht] at this;exact zae.1 this
    -- one step that is done
    have go:∀ {t:T} {S1:TS} {r:Option (Value×CS)} {l':List (T×TS)} {ob':Prop},Ok GL A β s r t S1->(cop P Γ (zeo P Γ) (zha fr) o s=r)->zdb ops fr o=true->runT P Γ GL own ops l (putT h o.dst t) S1 l'=some (ob',h',S')->ob'->∃ fr' s',runC P Γ (zeo P Γ) ops (o :: l) fr s=some (fr',s')/\Left GL A β s N fr' s' h' S':=by
      rintro t S1 r l' ob' ⟨v,s1,A1,β1,rfl,k1,k2,k3⟩ hc hw hrun hob';have hF1:FrOk A1 β1 (zaa s1.obj) N h fr:=hF.mono k3.sub (k3.old hT) k3.bx;obtain ⟨fr',s',e1,e2⟩:=z4n hE hd'.1 (hF1.put hd'.2 k2) k1 hrun hob';refine ⟨fr',s',?_,Left.trans (h':=h) (fr':=fr) hT.le k3 e2⟩;rw [runC]
      have:zcu P Γ (zeo P Γ) ops o fr s=some (putC fr o.dst v,s1):=by
        unfold zcu;rw [hw,cond_true,hc]
      rw [this];exact e1
    unfold runT at hr;split at hr
    . simp at hr
    . rename_i hg;have hw:=zi2 hF hg;obtain ⟨fr',s',e1,e2⟩:=z4n hE hd'.1 (hF.put hd'.2 VT.undf) hT hr hob;refine ⟨fr',s',?_,e2⟩;rw [runC]
      have:zcu P Γ (zeo P Γ) ops o fr s=some (putC fr o.dst undef,s):=by
        unfold zcu;rw [hw,cond_false]
      rw [this];exact e1
    . rename_i hg;have hw:=zi2 hF hg;split at hr
      . rename_i f args tys ho;split at hr
        . rename_i r outs';split at hr
          . rename_i p hp;unfold z0o at hp;split at hp
            . rename_i k first cap hf
              simp only [fi] at hp;subst hp
              cases hrun:runT P Γ GL own ops l (putT h o.dst r.1) r.2 outs' with
              |none=>rw [hrun] at hr;simp [andT] at hr
              |some q =>
                obtain ⟨q1,q2,q3⟩:=q;rw [hrun] at hr;simp only [andT,fi,ft] at hr;obtain ⟨rfl,rfl,rfl⟩:=hr;have hfv:=hF.eval hT f;rw [hf] at hfv;generalize e1:zha fr f=vf at hfv
                cases hfv with
                |fn h1 h2 =>
                  rename_i va vc;have hargs:=zvy (hF.eval hT) args.toList;have hcall:=hob.1 A β s _ hT ((h1.append hargs).append h2);refine go hcall ?_ hw hrun hob.2;unfold cop;simp only [ho,e1];unfold zop;rfl
            . simp at hp
          . simp at hr
        . simp at hr
      . split at hr
        . rename_i t S1 hst;exact go (zzb hE hT (hF.eval hT) hst) rfl hw hr hob
        . simp at hr
end
section
variable {GL:List (Nat×List Value)} {A A' A2:Nat->Prop} {β β' β2:Bx} {S S' S2:TS} {s s' s2:CS} {P:gw} {Γ:Env} {N:Nat} {h h' h2:Nat->T} {Q R:Exit->(Nat->T)->TS->Prop}
def TW (P:gw) (Γ:Env) (GL:List (Nat×List Value)) (N:Nat) (c:Code) (h:Nat->T) (S:TS) (Q:Exit->(Nat->T)->TS->Prop):Prop :=
  ∀ A β fr s,FrOk A β (zaa s.obj) N h fr->TRel GL A β S s->W P Γ c fr s fun e fr' s'=>∃ h' S',Left GL A β s N fr' s' h' S'/\Q e h' S'
def onT (k:(Nat->T)->TS->Prop) (Q:Exit->(Nat->T)->TS->Prop) (e:Exit) (h:Nat->T) (S:TS):Prop:=match e with
  |.normal=>k h S
  |e=>Q e h S
def onTB (id:Nat) (Q:Exit->(Nat->T)->TS->Prop) (e:Exit) (h:Nat->T) (S:TS):Prop:=match e with
  |.exit i=>bif gc i id then Q .normal h S else Q (.exit i) h S
  |e=>Q e h S
theorem Left.refl {fr:Fr} (hF:FrOk A β (zaa s.obj) N h fr) (hT:TRel GL A β S s):Left GL A β s N fr s h S:=⟨A,β,hF,hT,r8⟩
theorem TW.mono {c:Code} (k:TW P Γ GL N c h S Q) (hq:∀ e h S,Q e h S->R e h S):TW P Γ GL N c h S R:=fun A β fr s hF hT =>
  (k A β fr s hF hT).mono fun e fr' s' ⟨h',S',h1,h2⟩=>⟨h',S',h1,hq _ _ _ h2⟩
theorem TW.skip (k:Q .normal h S):TW P Γ GL N .skip h S Q:=fun A β fr s hF hT=>W.skip ⟨h,S,Left.refl hF hT,k⟩
theorem TW.ret (k:Q .ret h S):TW P Γ GL N .ret h S Q:=fun A β fr s hF hT=>W.ret ⟨h,S,Left.refl hF hT,k⟩
theorem TW.exit {id:Nat} (k:Q (.exit id) h S):TW P Γ GL N (.exit id) h S Q:=fun A β fr s hF hT=>W.exit ⟨h,S,Left.refl hF hT,k⟩
theorem TW.label {l:Nat} (k:Q .normal h S):TW P Γ GL N (.label l) h S Q:=fun A β fr s hF hT=>W.label ⟨h,S,Left.refl hF hT,k⟩
theorem TW.seq {a b:Code} (k:TW P Γ GL N a h S (onT (fun h S=>TW P Γ GL N b h S Q) Q)):TW P Γ GL N (.seq a b) h S Q:=fun A β fr s hF hT=>by
  refine W.seq ((k A β fr s hF hT).mono ?_);rintro e fr' s' ⟨h',S',⟨A',β',k1,k2,k3⟩,hq⟩
  cases e with
  |normal =>
    refine (hq A' β' fr' s' k1 k2).mono ?_;rintro e2 fr2 s2 ⟨h2,S2,l2,q2⟩;exact ⟨h2,S2,Left.trans (h':=h) (fr':=fr) hT.le k3 l2,q2⟩
  |_=>exact ⟨h',S',⟨A',β',k1,k2,k3⟩,hq⟩
theorem TW.cond {c:gg} {t f:Code} {b:Bool} (hb:zdi GL h c=.bool b) (k:TW P Γ GL N (bif b then t else f) h S Q):TW P Γ GL N (.cond c t f) h S Q:=fun A β fr s hF hT=>by
  have:=hF.eval hT c;rw [hb] at this;refine W.cond (b:=b) ?_ (k A β fr s hF hT);generalize zha fr c=v at this;cases this;rfl
theorem TW.block {id:Nat} {b:Code} (k:TW P Γ GL N b h S (onTB id Q)):TW P Γ GL N (.block id b) h S Q:=fun A β fr s hF hT=>by
  refine W.block ((k A β fr s hF hT).mono ?_);rintro e fr' s' ⟨h',S',l,hq⟩
  cases e with
  |exit i =>
    simp only [onB];simp only [onTB] at hq
    cases hb:gc i id with
    |true=>rw [hb] at hq;exact ⟨h',S',l,hq⟩
    |false=>rw [hb] at hq;exact ⟨h',S',l,hq⟩
  |_=>exact ⟨h',S',l,hq⟩
theorem TW.scope {b:Code} (k:TW P Γ GL N b h S Q):TW P Γ GL N (.scope b) h S Q:=fun A β fr s hF hT=>W.scope (k A β fr s hF hT)
theorem TW.loop {b:Code} (I:Nat->(Nat->T)->TS->Prop) (hb:∀ n h S,I n h S->TW P Γ GL N b h S (onT (fun h S=>∃ m,m<n/\I m h S) Q)):∀ n h S,I n h S->TW P Γ GL N (.loop b) h S Q:=by
  intro n
  induction n using Nat.strongRecOn with
  |_ n ih =>
    intro h S hI A β fr s hF hT;obtain ⟨e,fr1,s1,h1,h',S',⟨A',β',k1,k2,k3⟩,hq⟩:=hb n h S hI A β fr s hF hT
    cases e with
    |normal =>
      obtain ⟨m,hm,hI'⟩:=hq;obtain ⟨e2,fr2,s2,h3,h2,S2,l2,q2⟩:=ih m hm h' S' hI' A' β' fr1 s1 k1 k2;exact ⟨e2,fr2,s2,Ev.again h1 h3,h2,S2,Left.trans (h':=h) (fr':=fr) hT.le k3 l2,q2⟩
    |_=>exact ⟨_,_,_,Ev.last h1 (by simp),h',S',⟨A',β',k1,k2,k3⟩,hq⟩
theorem TW.region (hE:zeg P Γ) {id:Nat} {ops:Array Oper} (own:List Nat) (outs:List (T×TS)) {ob:Prop} (hd:zfm N ops.toList=true) (hr:runT P Γ GL own ops.toList ops.toList h S outs=some (ob,h',S')) (hob:ob) (hq:Q .normal h' S'):TW P Γ GL N (.region id ops false) h S Q:=fun A β fr s hF hT=>by
  obtain ⟨fr',s',e1,e2⟩:=z4n hE hd hF hT hr hob;exact W.region e1 ⟨h',S',e2,hq⟩
def resT (Γ:Env) (S:TS) (h:Nat->T):List ResultVar->Option (List T)
  |[]=>some []
  |.tmp t :: l=>(match resT Γ S h l with|some vs=>some (h t :: vs)|none=>none)
  |.cell a ty :: l=>(match ztp Γ S ty (h a),resT Γ S h l with|some v,some vs=>some (v :: vs)|_,_=>none)
def tupT:List T->T
  |[v]=>v
  |vs=>.tup vs
theorem zzp:∀ {l:List ResultVar} {vs:List T} {fr:Fr} {s:CS},FrOk A β (zaa s.obj) N h fr->TRel GL A β S s->resT Γ S h l=some vs->∃ ws s',resC Γ fr s l=some (ws,s')/\VL A β (zaa s.obj) vs ws/\TRel GL A β S s'/\Stp A β s A β s'/\s'.obj=s.obj
  |[],vs,fr,s,hF,hT,hr=>by
    simp only [resT,fi] at hr;subst hr;exact ⟨[],s,rfl,.nil,hT,r8,rfl⟩
  |.tmp t :: l,vs,fr,s,hF,hT,hr=>by
    simp only [resT] at hr;split at hr
    . rename_i vs' hv;cases hr;obtain ⟨ws,s',k1,k2,k3,k4,k5⟩:=zzp hF hT hv;exact ⟨_,s',by simp only [resC,k1],.cons (hF.slot t) k2,k3,k4,k5⟩
    . simp at hr
  |.cell a ty :: l,vs,fr,s,hF,hT,hr=>by
    simp only [resT] at hr;split at hr
    . rename_i v vs' hv hvs;cases hr;obtain ⟨ad,i,w,f,q1,q2,q3,q4,q5⟩:=z6c hT (hF.slot a) hv;obtain ⟨ws,s',k1,k2,k3,k4,k5⟩:=zzp (s:={ s with rd:=ins s.lim s.rd f }) hF (hT.read f) hvs;refine ⟨w :: ws,s',?_,.cons q5 k2,k3,(Stp.read q3).trans hT.le k4,k5⟩;simp only [resC,q1,q2,q4,k1]
    . simp at hr
def argT:List T->Nat->(Nat->T)->(Nat->T)
  |[],_,h=>h
  |v :: l,i,h=>argT l (i+1) (tupd h i v)
theorem znw (v:T) (l:List T) (i:Nat) (h:Nat->T):argT (v :: l) i h=argT l (i+1) (tupd h i v):=rfl
theorem zqy (i:Nat) (h:Nat->T):argT [] i h=h:=rfl
theorem z5y {g:Nat->Fam}:∀ {args:List T} {vargs:List Value} {i:Nat} {h:Nat->T} {fr:Fr},VL A β g args vargs->FrOk A β g N h fr->i+args.length<=N->FrOk A β g N (argT args i h) (Fr.ofArgs vargs i fr)
  |_,_,i,h,fr,.nil,hF,_=>hF
  |_,_,i,h,fr,.cons h1 h2,hF,hl=>by
    rw [gp] at hl;show FrOk A β g N (argT _ (i+1) _) (Fr.ofArgs _ (i+1) (fr.put i _));have hi:i<N:=by omega
    exact z5y (i:=i+1) h2 (hF.put (d:=some i) (fun t ht=>by cases ht;exact hi) h1) (by rw [Nat.add_right_comm];exact hl)
theorem FrOk.start {g:Nat->Fam} (hN:N<=512):FrOk A β g N (fun _=>.junk) ⟨N,Tr.all undef 9⟩:=⟨rfl,hN,fun t=>.junk _⟩
def zwi (GL:List (Nat×List Value)) (v:T) (S:TS) (v':T) (S':TS):Prop :=
  ∀ A β s w,TRel GL A β S s->VT A β (zaa s.obj) v w->∃ A' β',TRel GL A' β' S' s/\VT A' β' (zaa s.obj) v' w/\Stp A β s A' β' s
theorem zwi.refl (v:T) (S:TS):zwi GL v S v S:=fun A β s w hT hv=>⟨A,β,hT,hv,r8⟩
theorem yix {g:Nat->Fam} {vs:List T} {ws:List Value} (h:VL A β g vs ws):VT A β g (tupT vs) (tupC ws):=by
  cases h with
  |nil=>exact .tup .nil
  |cons h1 h2 =>
    cases h2 with
    |nil=>exact h1
    |cons h3 h4=>exact .tup (.cons h1 (.cons h3 h4))
theorem Call.go {f:ml} {fn:Func} {body:Code} {args:List T} {v:T} {Sf:TS} (N:Nat) (hax:Γ.ax f=none) (hf:Γ.fn.at f=some fn) (hb:fn.body=some body) (hn:fn.ntmps=N) (hN:N<=512) (hl:args.length<=N)
    (k:TW P Γ GL N body (argT args 0 fun _=>.junk) S fun e h' S'=>(e=.normal\/e=.ret)/\∃ vs,resT Γ S' h' fn.results.toList=some vs/\zwi GL (tupT vs) S' v Sf):Call P Γ GL f args S v Sf:=by
  intro A β s vargs hT hargs;obtain ⟨e,fr',s1,h1,h',S',⟨A',β',k1,k2,k3⟩,he,vs,hr,hsh⟩:=k A β _ s (z5y hargs (FrOk.start hN) (by omega)) hT;obtain ⟨ws,s2,r1,r2,r3,r4,r5⟩:=zzp k1 k2 hr;rw [<- r5] at r2;obtain ⟨A2,β2,q1,q2,q3⟩:=hsh A' β' s2 _ r3 (yix r2);refine ⟨tupC ws,s2,A2,β2,?_,q1,q2,(k3.trans hT.le (r4.trans k2.le q3))⟩;have hlen:=hargs.len;exact zro hax hf hb (by omega) ⟨e,fr',s1,by rw [hn];exact h1,he,ws,r1,rfl⟩
end
mutual
def T.ids (n:Nat):T->Bool
  |.agg l=>T.idsL n l
  |.tup l=>T.idsL n l
  |.lst _ l=>T.idsL n l
  |.cp l=>T.idsL n l
  |.ptr b _ _=>ip b n
  |.arr b _ _ _ _ _=>ip b n
  |.mp b=>ip b n
  |.fn _ a c=>T.idsL n a && T.idsL n c
  |_=>true
def T.idsL (n:Nat):List T->Bool
  |[]=>true
  |t :: l=>T.ids n t && T.idsL n l
end
mutual
def T.flat:T->Bool
  |.agg l=>T.flatL l
  |.tup l=>T.flatL l
  |.int _ _=>true
  |.bool _=>true
  |.str _=>true
  |.nils=>true
  |.nilp=>true
  |.nilm=>true
  |.nilf=>true
  |.junk=>true
  |_=>false
def T.flatL:List T->Bool
  |[]=>true
  |t :: l=>T.flat t && T.flatL l
end
section
variable {GL:List (Nat×List Value)} {A A' A2:Nat->Prop} {β β' β2:Bx} {S S' S2:TS} {s s' s2:CS} {P:gw} {Γ:Env} {N:Nat} {h h' h2:Nat->T} {Q R:Exit->(Nat->T)->TS->Prop} {g g':Nat->Fam}
theorem zax {n:Nat}:∀ {l l2:List T},T.idsL n (l++l2)=(T.idsL n l && T.idsL n l2)
  |[],l2=>by simp [T.idsL]
  |t :: l,l2=>by simp only [gz,T.idsL,zax,Bool.and_assoc]
theorem yel {n:Nat} {t:T} (h:t.ids n=true):T.idsL n t.cells=true:=by
  cases t<;>first|exact h | (simp only [jj,T.idsL,h,gj])
theorem zln {n:Nat}:∀ {l:List T},T.idsL n l=true->T.idsL n (l.flatMap jj)=true
  |[],_=>rfl
  |t :: l,h=>by
    simp only [T.idsL,fo] at h;rw [jg,zax,yel h.1,zln h.2];rfl
theorem z7z {n:Nat}:∀ {l:List T},(∀ t,t∈l->t.ids n=true)->T.idsL n l=true
  |[],_=>rfl
  |t :: l,h=>by
    simp only [T.idsL,fo];exact ⟨h t (by simp),z7z fun t ht=>h t (by simp [ht])⟩
mutual
theorem VT.ids {n:Nat} (hβ:∀ b,b<n->β' b=β b):∀ {t:T} {v:Value},t.ids n=true->VT A β g t v->VT A β' g t v
  |_,_,_,.int k n=>.int k n
  |_,_,_,.bool b=>.bool b
  |_,_,_,.str b=>.str b
  |_,_,hi,.agg h=>.agg (VL.ids hβ hi h)
  |_,_,hi,.tup h=>.tup (VL.ids hβ hi h)
  |_,_,_,.lnil=>.lnil
  |_,_,hi,.lst h1 h2 h3 h4 h5 h6 h7 h8=>.lst h1 h2 (VL.ids hβ (zln hi) h3) h4 h5 h6 h7 h8
  |_,_,_,.nils=>.nils
  |_,_,_,.nilp=>.nilp
  |_,_,_,.nilm=>.nilm
  |_,_,_,.nilf=>.nilf
  |_,_,hi,.ptr h=>.ptr (by rw [hβ _ (zae.1 hi)];exact h)
  |_,_,hi,.ptrOld h h0 h1 h2=>.ptrOld (by rw [hβ _ (zae.1 hi)];exact h) h0 h1 h2
  |_,_,hi,.cp h1 h2 h3 h4=>.cp h1 h2 (VL.ids hβ hi h3) h4
  |_,_,hi,.arr h ht=>.arr (by rw [hβ _ (zae.1 hi)];exact h) ht
  |_,_,hi,.arrNil h=>.arrNil (by rw [hβ _ (zae.1 hi)];exact h)
  |_,_,hi,.arrOld h h0 h1 h2=>.arrOld (by rw [hβ _ (zae.1 hi)];exact h) h0 h1 h2
  |_,_,hi,.mp h=>.mp (by rw [hβ _ (zae.1 hi)];exact h)
  |_,_,hi,.mpOld h h2=>.mpOld (by rw [hβ _ (zae.1 hi)];exact h) h2
  |_,_,hi,.fn h1 h2=>by
    simp only [T.ids,fo] at hi;exact .fn (VL.ids hβ hi.1 h1) (VL.ids hβ hi.2 h2)
  |_,_,_,.junk v=>.junk v
  |_,_,_,.emp h1 h2 h3 h4=>.emp h1 h2 h3 h4
theorem VL.ids {n:Nat} (hβ:∀ b,b<n->β' b=β b):∀ {l:List T} {vs:List Value},T.idsL n l=true->VL A β g l vs->VL A β' g l vs
  |_,_,_,.nil=>.nil
  |_,_,hi,.cons h k=>by
    simp only [T.idsL,fo] at hi;exact .cons (VT.ids hβ hi.1 h) (VL.ids hβ hi.2 k)
end
mutual
theorem VT.flat:∀ {t:T} {v:Value},t.flat=true->VT A β g t v->VT A' β' g' t v
  |_,_,_,.int k n=>.int k n
  |_,_,_,.bool b=>.bool b
  |_,_,_,.str b=>.str b
  |_,_,hi,.agg h=>.agg (VL.flat hi h)
  |_,_,hi,.tup h=>.tup (VL.flat hi h)
  |_,_,_,.nils=>.nils
  |_,_,_,.nilp=>.nilp
  |_,_,_,.nilm=>.nilm
  |_,_,_,.nilf=>.nilf
  |_,_,_,.junk v=>.junk v
  |_,_,hi,.lnil=>by simp [T.flat] at hi
  |_,_,hi,.lst _ _ _ _ _ _ _ _=>by simp [T.flat] at hi
  |_,_,hi,.ptr _=>by simp [T.flat] at hi
  |_,_,hi,.ptrOld _ _ _ _=>by simp [T.flat] at hi
  |_,_,hi,.cp _ _ _ _=>by simp [T.flat] at hi
  |_,_,hi,.arr _ _=>by simp [T.flat] at hi
  |_,_,hi,.arrNil _=>by simp [T.flat] at hi
  |_,_,hi,.arrOld _ _ _ _=>by simp [T.flat] at hi
  |_,_,hi,.mp _=>by simp [T.flat] at hi
  |_,_,hi,.mpOld _ _=>by simp [T.flat] at hi
  |_,_,hi,.fn _ _=>by simp [T.flat] at hi
  |_,_,hi,.emp _ _ _ _=>by simp [T.flat] at hi
theorem VL.flat:∀ {l:List T} {vs:List Value},T.flatL l=true->VL A β g l vs->VL A' β' g' l vs
  |_,_,_,.nil=>.nil
  |_,_,hi,.cons h k=>by
    simp only [T.flatL,fo] at hi;exact .cons (VT.flat hi.1 h) (VL.flat hi.2 k)
end
def bx0:Bx:=fun _=>none
theorem zl2 {f:Nat}:¬ Own bx0 f:=fun ⟨b,h⟩=>by rcases h with ⟨u,N,h⟩|h<;>simp [bx0] at h
theorem TRel.bare (hT:TRel GL A β S s) (A1:Nat->Prop) (h1:∀ f,A f->A1 f) (h2:∀ f,A1 f->f<s.n):TRel GL A1 bx0 ts0 s :=
  ⟨hT.inr,hT.inv,h2,fun f hf=>absurd hf zl2,fun b b' l l' f hb=>by simp [bx0] at hb,fun b _=>rfl,fun b z N l hb=>by simp [ts0] at hb,fun b l hb=>by simp [ts0] at hb,fun x hx=>⟨h1 _ (hT.glob x hx).1,(hT.glob x hx).2⟩⟩
def Pure (P:gw) (Γ:Env) (GL:List (Nat×List Value)) (f:ml) (args:List T) (v:T):Prop:=T.idsL 0 args=true/\v.ids 0=true/\Call P Γ GL f args ts0 v ts0
def zaj (P:gw) (Γ:Env) (GL:List (Nat×List Value)) (f:ml) (args:List T) (S:TS) (v:T):Prop :=
  ∀ A β s vargs,TRel GL A β S s->VL A β (zaa s.obj) args vargs->Ok0 GL A β S s (zeo P Γ f vargs s) v
theorem zaj.call {f:ml} {args:List T} {v:T} (k:zaj P Γ GL f args S v):Call P Γ GL f args S v S:=fun A β s vargs hT hv=>(k A β s vargs hT hv).ok
theorem Pure.call {f:ml} {args:List T} {v:T} (k:Pure P Γ GL f args v) (S:TS):zaj P Γ GL f args S v:=by
  intro A β s vargs hT hv;obtain ⟨k1,k2,k3⟩:=k;have hT0:=hT.bare A (fun _ h=>h) hT.alt;obtain ⟨w,s',A',β',e1,e2,e3,e4⟩:=k3 A bx0 s vargs hT0 (VL.ids (n:=0) (fun b hb=>absurd hb (by omega)) k1 hv)
  have hc:zka A β s A' s':=by
    refine ⟨e4.can,e4.sub,fun f hf=>?_,fun f hf=>e4.keep f hf zl2,fun x hx=>?_,fun x hx=>?_⟩
    . rcases e4.new f hf with q|q|q
      . exact .inl q
      . exact .inr q
      . exact absurd q zl2
    . rcases e4.rd x hx with q|⟨q,q2⟩
      . exact .inl q
      . exact .inr ⟨q,.inl (q2.resolve_right zl2)⟩
    . rcases e4.wr x hx with q|⟨_,q⟩
      . exact q
      . exact absurd q zl2
  exact ⟨w,s',A',e1,hc.rel hT e2.inr e2.inv e2.alt,VT.ids (n:=0) (fun b hb=>absurd hb (by omega)) k2 e3,hc⟩
def yip (S:TS) (t t':T):Prop:=t=t'\/∃ b e off len cap N z l L,t=.arr b e off len cap N/\t'=.lst e L/\S.box b=.cells z N l/\0<e/\off+len*e<=N/\(l.drop off).take (len*e)=L.flatMap jj/\(∀ t,t∈L->t.cells.length=e)/\L.length=len/\len<=cap
def Lend (S:TS):List T->List T->Prop
  |[],[]=>True
  |t :: l,t' :: l'=>yip S t t'/\Lend S l l'
  |_,_=>False
theorem yhp (hT:TRel GL A β S s) {t t':T} {v:Value} (hi:t'.ids 0=true) (hl:yip S t t') (hv:VT A β (zaa s.obj) t v):VT (fun f=>A f\/Own β f) bx0 (zaa s.obj) t' v:=by
  rcases hl with rfl|⟨b,e,off,len,cap,N,z,l,L,rfl,rfl,hS,he,hN,hL,hs,hlen,hcap⟩
  . exact (VT.ids (n:=0) (β':=bx0) (fun b hb=>absurd hb (by omega)) hi hv).mono (fun _ h=>.inl h) (fun _ _=>rfl) (mq _)
  . rcases zh3 hT hS hv with ⟨f,u,rfl,hb,htag⟩|⟨rfl,hb,rfl,rfl,rfl,rfl⟩
    . obtain ⟨hlN,hc⟩:=hT.cells b z N l hS;rcases hc with ⟨hb2,_,_⟩|⟨f',u',cs,rest,hb2,hz,hat,hvl,hone⟩
      . rw [hb] at hb2;simp at hb2
      rw [hb] at hb2;cases hb2;have hcl:=hvl.len
      have hrow:zbp (zaa s.obj f).rows u=some cs:=by
        rw [hat];show zbp ((u,cs) :: rest) u=some cs;unfold zbp;rw [jf];rfl
      have h1:VL A β (zaa s.obj) (L.flatMap jj) ((cs.drop off).take (len*e)):=by rw [<- hL];exact (hvl.drop off).take _
      have h2:VL (fun f=>A f\/Own β f) bx0 (zaa s.obj) (L.flatMap jj) ((cs.drop off).take (len*e)) :=
        (VL.ids (n:=0) (β':=bx0) (fun b hb=>absurd hb (by omega)) (zln hi) h1).mono (fun _ h=>.inl h) (fun _ _=>rfl) (mq _)
      have h3:((cs.drop off).take (len*e)).length=len*e:=by rw [iu,jl];omega
      have:=VT.lst (A:=fun f=>A f\/Own β f) (β:=bx0) (g:=zaa s.obj) (off:=off) (cap:=cap) (.inr (zc4 hb)) hrow h2 hs he (by rw [h3]) htag (by omega);rw [hlen] at this;exact this
    . have:L=[]:=jo hlen;subst this;exact .lnil
theorem yd3 (hT:TRel GL A β S s):∀ {l l':List T} {vs:List Value},T.idsL 0 l'=true->Lend S l l'->VL A β (zaa s.obj) l vs->VL (fun f=>A f\/Own β f) bx0 (zaa s.obj) l' vs
  |[],[],_,_,_,.nil=>.nil
  |t :: l,t' :: l',_,hi,hl,.cons h1 h2=>by
    simp only [T.idsL,fo] at hi;exact .cons (yhp hT hi.1 hl.1 h1) (yd3 hT hi.2 hl.2 h2)
  |[],_ :: _,_,_,hl,_=>hl.elim
  |_ :: _,[],_,_,hl,_=>hl.elim
theorem Pure.lend {f:ml} {args args':List T} {v:T} (k:Pure P Γ GL f args' v) (hl:Lend S args args') (hv:v.flat=true):zaj P Γ GL f args S v:=by
  intro A β s vargs hT hva;obtain ⟨k1,k2,k3⟩:=k;have hA1:∀ f,(A f\/Own β f)->f<s.n:=fun f hf=>hf.elim (hT.alt f) fun h=>(hT.dis f h).1;have hT0:=hT.bare (fun f=>A f\/Own β f) (fun _ h=>.inl h) hA1;obtain ⟨w,s',A',β',e1,e2,e3,e4⟩:=k3 _ bx0 s vargs hT0 (yd3 hT k1 hl hva)
  have hc:zka A β s A s':=by
    refine ⟨e4.can,fun _ h=>h,fun f hf=>.inl hf,fun f hf=>e4.keep f hf zl2,fun x hx=>?_,fun x hx=>?_⟩
    . rcases e4.rd x hx with q|⟨q,q2⟩
      . exact .inl q
      . exact .inr ⟨q,q2.resolve_right zl2⟩
    . rcases e4.wr x hx with q|⟨_,q⟩
      . exact q
      . exact absurd q zl2
  exact ⟨w,s',A,e1,hc.rel hT e2.inr e2.inv (fun f hf=>h9 (hT.alt f hf) e4.can.n),e3.flat hv,hc⟩
def bcut (β:Bx) (n:Nat):Bx:=fun b=>if b<n then β b else none
def zh2 (n:Nat):Box->Bool
  |.gone=>true
  |.cells _ _ l=>T.idsL n l
  |.map l=>T.idsL n (l.map (·.1)) && T.idsL n (l.map (·.2))
def zrr (S1 Sf:TS):Prop:=Sf.n<=S1.n/\∀ b,Sf.box b=.gone\/(b<Sf.n/\Sf.box b=S1.box b/\zh2 Sf.n (S1.box b)=true)
theorem TRel.cut (hT:TRel GL A β S s) (hk:zrr S S2):TRel GL A (bcut β S2.n) S2 s:=by
  have hat:∀ b,b<S2.n->bcut β S2.n b=β b:=fun b hb=>zAc hb
  have hsub:∀ b l,bcut β S2.n b=some l->β b=some l:=fun b l h=>by
    unfold bcut at h;split at h
    . exact h
    . simp at h
  have hown:∀ f,Own (bcut β S2.n) f->Own β f:=fun f ⟨b,hb⟩=>⟨b,hb.imp (fun ⟨u,N,h⟩=>⟨u,N,hsub _ _ h⟩) fun h=>hsub _ _ h⟩;refine ⟨hT.inr,hT.inv,hT.alt,fun f hf=>hT.dis f (hown f hf),fun b b' l l' f hb hb'=>hT.inj b b' l l' f (hsub _ _ hb) (hsub _ _ hb'),fun b hb=>zAd (by omega),fun b z N l hb=>?_,fun b l hb=>?_,hT.glob⟩
  . rcases hk.2 b with q|⟨q1,q2,q3⟩
    . rw [q] at hb;simp at hb
    . rw [q2] at hb;obtain ⟨c1,c2⟩:=hT.cells b z N l hb;rw [hb] at q3;refine ⟨c1,?_⟩;rcases c2 with ⟨d1,d2,d3⟩|⟨f,u,cs,rest,d1,d2,d3,d4,d5⟩
      . exact .inl ⟨by rw [hat b q1];exact d1,d2,d3⟩
      . exact .inr ⟨f,u,cs,rest,by rw [hat b q1];exact d1,d2,d3,VL.ids hat q3 d4,d5⟩
  . rcases hk.2 b with q|⟨q1,q2,q3⟩
    . rw [q] at hb;simp at hb
    . rw [q2] at hb;obtain ⟨r,es,c1,c2,c3,c4⟩:=hT.maps b l hb;rw [hb] at q3;simp only [zh2,fo] at q3;exact ⟨r,es,by rw [hat b q1];exact c1,c2,VL.ids hat q3.1 c3,VL.ids hat q3.2 c4⟩
theorem Call.enter {f:ml} {fn:Func} {body:Code} {args:List T} {v:T} {Sf:TS} (N:Nat) (hax:Γ.ax f=none) (hf:Γ.fn.at f=some fn) (hb:fn.body=some body) (hn:fn.ntmps=N) (hN:N<=512) (hl:args.length<=N) (hSf:S.n<=Sf.n) (hv:v.ids Sf.n=true)
    (k:TW P Γ GL N body (argT args 0 fun _=>.junk) S fun e h' S'=>(e=.normal\/e=.ret)/\∃ vs,resT Γ S' h' fn.results.toList=some vs/\∃ S1,zwi GL (tupT vs) S' v S1/\zrr S1 Sf):Call P Γ GL f args S v Sf:=by
  intro A β s vargs hT hargs;obtain ⟨e,fr',s1,h1,h',S',⟨A',β',k1,k2,k3⟩,he,vs,hr,S1,hsh,hkp⟩:=k A β _ s (z5y hargs (FrOk.start hN) (by omega)) hT;obtain ⟨ws,s2,r1,r2,r3,r4,r5⟩:=zzp k1 k2 hr;rw [<- r5] at r2;obtain ⟨A2,β2,q1,q2,q3⟩:=hsh A' β' s2 _ r3 (yix r2);have hall:Stp A β s A2 β2 s2:=k3.trans hT.le (r4.trans k2.le q3);have hat:∀ b,b<Sf.n->bcut β2 Sf.n b=β2 b:=fun b hb=>zAc hb
  have hsub:∀ b l,bcut β2 Sf.n b=some l->β2 b=some l:=fun b l h=>by
    unfold bcut at h;split at h
    . exact h
    . simp at h
  refine ⟨tupC ws,s2,A2,bcut β2 Sf.n,?_,q1.cut hkp,q2.ids hat hv,hall.can,hall.sub,hall.new,fun f hf=>?_,hall.keep,fun b l hb=>?_,hall.rd,hall.wr⟩
  . have hlen:=hargs.len;exact zro hax hf hb (by omega) ⟨e,fr',s1,by rw [hn];exact h1,he,ws,r1,rfl⟩
  . obtain ⟨b,hb⟩:=hf;exact hall.own f ⟨b,hb.imp (fun ⟨u,N,h⟩=>⟨u,N,hsub _ _ h⟩) fun h=>hsub _ _ h⟩
  . obtain ⟨l',c1,c2⟩:=hall.bx b l hb
    have:b<S.n:=by
      by_cases hh:b<S.n
      . exact hh
      . rw [hT.next b (by omega)] at hb;simp at hb
    exact ⟨l',by rw [hat b (by omega)];exact c1,c2⟩
theorem zrr.none (S:TS):zrr S ts0:=⟨iy _,fun b=>.inl rfl⟩
theorem Pure.enter {f:ml} {fn:Func} {body:Code} {args:List T} {v:T} (N:Nat) (hax:Γ.ax f=none) (hf:Γ.fn.at f=some fn) (hb:fn.body=some body) (hn:fn.ntmps=N) (hN:N<=512) (hl:args.length<=N) (ha:T.idsL 0 args=true) (hv:v.ids 0=true)
    (k:TW P Γ GL N body (argT args 0 fun _=>.junk) ts0 fun e h' S'=>(e=.normal\/e=.ret)/\resT Γ S' h' fn.results.toList=some [v]):Pure P Γ GL f args v :=
  ⟨ha,hv,Call.enter N hax hf hb hn hN hl (fx _) hv (k.mono fun e h' S' ⟨h1,h2⟩=>⟨h1,[v],h2,S',zwi.refl _ _,zrr.none S'⟩)⟩
theorem Pure.enterN {f:ml} {fn:Func} {body:Code} {args:List T} {vs:List T} (N:Nat) (hax:Γ.ax f=none) (hf:Γ.fn.at f=some fn) (hb:fn.body=some body) (hn:fn.ntmps=N) (hN:N<=512) (hl:args.length<=N) (ha:T.idsL 0 args=true) (hv:(tupT vs).ids 0=true)
    (k:TW P Γ GL N body (argT args 0 fun _=>.junk) ts0 fun e h' S'=>(e=.normal\/e=.ret)/\resT Γ S' h' fn.results.toList=some vs):Pure P Γ GL f args (tupT vs) :=
  ⟨ha,hv,Call.enter N hax hf hb hn hN hl (fx _) hv (k.mono fun e h' S' ⟨h1,h2⟩=>⟨h1,vs,h2,S',zwi.refl _ _,zrr.none S'⟩)⟩
theorem TRel.dead (hT:TRel GL A β S s) {b:Nat} {l0:Loc} (hb:β b=some l0) (A':Nat->Prop) (hA:∀ f,A f->A' f) (hA2:∀ f,A' f->A f\/l0.fam=some f) :
    TRel GL A' (bnew β b .dead) (S.set b .gone) s/\Stp A β s A' (bnew β b .dead) s:=by
  have hse:bnew β b .dead b=some .dead:=zAc rfl;have hne:∀ b',b'≠b->bnew β b .dead b'=β b':=fun b' hb'=>zAd hb'
  have hle:Bx.le β (bnew β b .dead):=fun i x hx=>by
    by_cases hi:i=b
    . subst hi;exact ⟨.dead,hse,by cases x<;>simp [Loc.le]⟩
    . exact ⟨x,by rw [hne i hi];exact hx,Loc.le_refl x⟩
  have hfam:∀ f,l0.fam=some f->Own β f:=fun f hf=>by
    cases l0 with
    |live f' u N=>simp [ox] at hf;subst hf;exact zc4 hb
    |map r=>simp [ox] at hf;subst hf;exact zna hb
    |nil=>simp [ox] at hf
    |dead=>simp [ox] at hf
  have hown:∀ f,Own (bnew β b .dead) f->Own β f/\l0.fam≠some f:=fun f ⟨b',hb'⟩=>by
    by_cases hi:b'=b
    . subst hi;rw [hse] at hb';rcases hb' with ⟨u,N,hb'⟩|hb'<;>simp at hb'
    . rw [hne b' hi] at hb';refine ⟨⟨b',hb'⟩,fun hh=>hi ?_⟩;rcases hb' with ⟨u,N,hb'⟩|hb'
      . exact hT.inj b' b _ l0 f hb' hb rfl hh
      . exact hT.inj b' b _ l0 f hb' hb rfl hh
  have hblt:b<S.n:=by
    by_cases hh:b<S.n
    . exact hh
    . rw [hT.next b (by omega)] at hb;simp at hb
  refine ⟨⟨hT.inr,hT.inv,fun f hf=>?_,fun f hf=>?_,fun b1 b2 l1 l2 f h1 h2 h3 h4=>?_,fun b' hb'=>?_,fun b' z N l hb'=>?_,fun b' l hb'=>?_,fun x hx=>⟨hA _ (hT.glob x hx).1,(hT.glob x hx).2⟩⟩,
    jv _,hA,fun f hf=>(hA2 f hf).imp id fun q=>.inr (hfam f q),fun f hf=>.inl (hown f hf).1,fun _ _ _=>rfl,hle,fun _ h=>.inl h,fun _ h=>.inl h⟩
  . rcases hA2 f hf with q|q
    . exact hT.alt f q
    . exact (hT.dis f (hfam f q)).1
  . obtain ⟨q1,q2⟩:=hown f hf;refine ⟨(hT.dis f q1).1,fun hh=>?_⟩;rcases hA2 f hh with q|q
    . exact (hT.dis f q1).2 q
    . exact q2 q
  . by_cases e1:b1=b
    . subst e1;rw [hse] at h1;cases h1;simp [ox] at h3
    . by_cases e2:b2=b
      . subst e2;rw [hse] at h2;cases h2;simp [ox] at h4
      . rw [hne b1 e1] at h1;rw [hne b2 e2] at h2;exact hT.inj b1 b2 l1 l2 f h1 h2 h3 h4
  . have:S.n<=b':=hb';rw [hne b' (by omega)];exact hT.next b' this
  . by_cases hi:b'=b
    . subst hi;rw [ng] at hb';simp at hb'
    . rw [nm _ _ hi] at hb';exact (hT.cells b' z N l hb').mono hA (fun _ _=>rfl) hle (hne b' hi) fun _ _ _ _=>rfl
  . by_cases hi:b'=b
    . subst hi;rw [ng] at hb';simp at hb'
    . rw [nm _ _ hi] at hb';exact (hT.maps b' l hb').mono hA (fun _ _=>rfl) hle (hne b' hi) fun _ _=>rfl
theorem TRel.freeze (hT:TRel GL A β S s) {b N:Nat} {z:Bool} {l:List T} (hS:S.box b=.cells z N l) :
    ∃ A' β',TRel GL A' β' (S.set b .gone) s/\Stp A β s A' β' s/\∀ {e off len cap:Nat} {v:Value} {L:List T},VT A β (zaa s.obj) (.arr b e off len cap N) v->0<e->off+len*e<=N->(l.drop off).take (len*e)=L.flatMap jj->(∀ t,t∈L->t.cells.length=e)->L.length=len->len<=cap->VT A' β' (zaa s.obj) (.lst e L) v:=by
  obtain ⟨hlN,hc⟩:=hT.cells b z N l hS;rcases hc with ⟨hb,hN,_⟩|⟨f,u,cs,rest,hb,hz,hat,hvl,hone⟩
  . obtain ⟨k1,k2⟩:=hT.dead hb A (fun _ h=>h) (fun _ h=>.inl h);refine ⟨_,_,k1,k2,fun {e off len cap v L} hv he hoff hL hs hlen hcap=>?_⟩;rcases zh3 hT hS hv with ⟨f,u,rfl,hb',_⟩|⟨rfl,_,rfl,rfl,rfl,_⟩
    . rw [hb] at hb';simp at hb'
    . have:L=[]:=jo hlen;subst this;exact .lnil
  . obtain ⟨k1,k2⟩:=hT.dead hb (fun k=>A k\/k=f) (fun _ h=>.inl h) (fun k hk=>hk.imp id fun q=>by rw [q];rfl);refine ⟨_,_,k1,k2,fun {e off len cap v L} hv he hoff hL hs hlen hcap=>?_⟩;rcases zh3 hT hS hv with ⟨f',u',rfl,hb',htag⟩|⟨rfl,hb',_⟩
    . rw [hb] at hb';cases hb';have hcl:=hvl.len
      have hrow:zbp (zaa s.obj f).rows u=some cs:=by
        rw [hat];show zbp ((u,cs) :: rest) u=some cs;unfold zbp;rw [jf];rfl
      have h1:VL A β (zaa s.obj) (L.flatMap jj) ((cs.drop off).take (len*e)):=by rw [<- hL];exact (hvl.drop off).take _
      have h3:((cs.drop off).take (len*e)).length=len*e:=by rw [iu,jl];omega
      have:=VT.lst (A:=fun k=>A k\/k=f) (β:=bnew β b .dead) (g:=zaa s.obj) (off:=off) (cap:=cap) (.inr rfl) hrow (h1.mono (fun _ h=>.inl h) (fun _ _=>rfl) k2.bx) hs he (by rw [h3]) htag (by omega);rw [hlen] at this;exact this
    . rw [hb] at hb';simp at hb'
theorem TW.freeze {c:Code} (t:Nat) {b e off len cap M:Nat} {z:Bool} {l:List T} (L:List T) (ht:h t=.arr b e off len cap M) (hS:S.box b=.cells z M l) (he:0<e) (hoff:off+len*e<=M) (hL:(l.drop off).take (len*e)=L.flatMap jj) (hs:∀ t,t∈L->t.cells.length=e) (hlen:L.length=len) (hcap:len<=cap)
    (k:TW P Γ GL N c (tupd h t (.lst e L)) (S.set b .gone) Q):TW P Γ GL N c h S Q:=by
  intro A β fr s hF hT;obtain ⟨A',β',k1,k2,k3⟩:=hT.freeze hS;have hv:=hF.slot t;rw [ht] at hv
  have hF':FrOk A' β' (zaa s.obj) N (tupd h t (.lst e L)) fr:=⟨hF.nt,hF.le,fun u=>by
    by_cases hu:u=t
    . subst hu;rw [zhk];exact k3 hv he hoff hL hs hlen hcap
    . rw [zlr _ _ _ _ hu];exact k2.vt hT (hF.slot u)⟩
  refine (k A' β' fr s hF' k1).mono ?_;rintro e2 fr2 s2 ⟨h2,S2,l2,q2⟩;exact ⟨h2,S2,Left.trans (h':=h) (fr':=fr) hT.le k2 l2,q2⟩
theorem TW.vec {c:Code} (t e:Nat) (ht:h t=.nils) (k:TW P Γ GL N c (tupd h t (.arr S.n e 0 0 0 0)) (S.add (.cells false 0 [])) Q):TW P Γ GL N c h S Q:=by
  intro A β fr s hF hT;have hv:=hF.slot t;rw [ht] at hv;have hb0:β S.n=none:=hT.next _ (fx _)
  have hle:Bx.le β (bnew β S.n .nil):=z0q hb0;have hse:bnew β S.n .nil S.n=some .nil:=zAc rfl;have hne:∀ b',b'≠S.n->bnew β S.n .nil b'=β b':=fun b' hb'=>zAd hb'
  have hown:∀ f,Own (bnew β S.n .nil) f->Own β f:=fun f ⟨b',hb'⟩=>by
    by_cases hi:b'=S.n
    . subst hi;rw [hse] at hb';rcases hb' with ⟨u,N,hb'⟩|hb'<;>simp at hb'
    . rw [hne b' hi] at hb';exact ⟨b',hb'⟩
  have hst:Stp A β s A (bnew β S.n .nil) s:=⟨jv _,fun _ h=>h,fun _ h=>.inl h,fun f hf=>.inl (hown f hf),fun _ _ _=>rfl,hle,fun _ h=>.inl h,fun _ h=>.inl h⟩
  have hT':TRel GL A (bnew β S.n .nil) (S.add (.cells false 0 [])) s:=by
    refine ⟨hT.inr,hT.inv,hT.alt,fun f hf=>hT.dis f (hown f hf),fun b1 b2 l1 l2 f h1 h2 h3 h4=>?_,fun b' hb'=>?_,fun b' z N l hb'=>?_,fun b' l hb'=>?_,hT.glob⟩
    . by_cases e1:b1=S.n
      . subst e1;rw [hse] at h1;cases h1;simp [ox] at h3
      . by_cases e2:b2=S.n
        . subst e2;rw [hse] at h2;cases h2;simp [ox] at h4
        . rw [hne b1 e1] at h1;rw [hne b2 e2] at h2;exact hT.inj b1 b2 l1 l2 f h1 h2 h3 h4
    . have:S.n+1<=b':=hb';rw [hne b' (by omega)];exact hT.next b' (by omega)
    . by_cases hi:b'=S.n
      . subst hi;rw [TS.add_same] at hb';cases hb';exact ⟨rfl,.inl ⟨hse,rfl,rfl⟩⟩
      . rw [TS.add_ne _ _ hi] at hb';exact (hT.cells b' z N l hb').mono (fun _ h=>h) (fun _ _=>rfl) hle (hne b' hi) fun _ _ _ _=>rfl
    . by_cases hi:b'=S.n
      . subst hi;rw [TS.add_same] at hb';cases hb'
      . rw [TS.add_ne _ _ hi] at hb';exact (hT.maps b' l hb').mono (fun _ h=>h) (fun _ _=>rfl) hle (hne b' hi) fun _ _=>rfl
  have hF':FrOk A (bnew β S.n .nil) (zaa s.obj) N (tupd h t (.arr S.n e 0 0 0 0)) fr:=⟨hF.nt,hF.le,fun u=>by
    by_cases hu:u=t
    . subst hu;rw [zhk];generalize fr.get u=w at hv;cases hv;exact .arrNil hse
    . rw [zlr _ _ _ _ hu];exact hst.vt hT (hF.slot u)⟩
  refine (k A _ fr s hF' hT').mono ?_;rintro e2 fr2 s2 ⟨h2,S2,l2,q2⟩;exact ⟨h2,S2,Left.trans (h':=h) (fr':=fr) hT.le hst l2,q2⟩
end
def zi8:Op->Bool
  |.move _=>true
  |.assign _=>true
  |.pick _ _ _=>true
  |.build _ _=>true
  |.makeFunc _ _ _=>true
  |.slice _ _ _ _ _=>true
  |.fieldAddr _ _ _=>true
  |.indexAddr _ _ _=>true
  |.index _ _ _=>true
  |.extract _ _=>true
  |.unOp _ _ _=>true
  |.binOp _ _ _ _ _=>true
  |_=>false
def zji:Op->Bool
  |.alloc _=>true
  |.box _ _=>true
  |.buildSlice _ _ _=>true
  |.makeSlice _ _ _=>true
  |o=>zi8 o
section
variable {GL:List (Nat×List Value)} {A A' A0:Nat->Prop} {β β':Bx} {S S':TS} {s s' s2:CS} {P:gw} {Γ:Env} {N:Nat} {h h':Nat->T} {call:zeh} {ρ:gg->Value} {o:Oper} {v:Value}
theorem zm7 {r:Option Value} (hc:retC s r=some (v,s')):s'=s:=by
  unfold retC at hc;split at hc<;>first | (cases hc;rfl) | (simp at hc)
theorem zuk {r:Option Value} (hc:zhw P ρ o s r=some (v,s')):s'=s:=by
  unfold zhw at hc;split at hc
  . cases hc;rfl
  . exact zm7 hc
theorem z34 {r:Option (List Value)} (hc:aggC s r=some (v,s')):s'=s:=by
  unfold aggC at hc;split at hc<;>first | (cases hc;rfl) | (simp at hc)
theorem z3h {size:Nat} {ex:Bool} {a:Addr} {b:Option (Nat×Nat×Nat)} (hc:cutC s size ex a b=some (v,s')):s'=s:=by
  unfold cutC at hc;split at hc
  . rename_i l hh m
    cases hq:(gc (Addr.ver a % 1024) 0 || (!ex && gc (Addr.ver a % 1024) (size+1))) with
    |false=>rw [hq] at hc;simp at hc
    |true=>rw [hq] at hc;cases hc;rfl
  . simp at hc
theorem zvp {d:np} {a:Addr} {lo hi mx:Option Value} (hc:zor Γ s d a lo hi mx=some (v,s')):s'=s:=by
  unfold zor at hc;split at hc
  . split at hc
    . rw [zcn] at hc;split at hc
      . exact z3h hc
      . simp at hc
    . simp at hc
  . simp at hc
theorem z10 {t:gu} {x:Value} {lo hi mx:Option Value} (hc:zdo Γ s t x lo hi mx=some (v,s')):s'=s:=by
  unfold zdo at hc;split at hc
  . split at hc
    . rename_i b;split at hc
      . cases hq:mx.isNone with
        |false=>rw [hq] at hc;simp at hc
        |true =>
          rw [hq,cond_true] at hc;unfold z8t at hc;split at hc<;>first | (cases hc;rfl) | (simp at hc)
      . simp at hc
    . split at hc
      . split at hc
        . split at hc
          . split at hc<;>first | (cases hc;rfl) | (simp at hc)
          . simp at hc
        . split at hc
          . exact z3h hc
          . simp at hc
      . simp at hc
    . split at hc
      . split at hc
        . exact zvp hc
        . simp at hc
      . exact zvp hc
    . simp at hc
  . simp at hc
theorem zw3 {size k n:Nat} {a:Addr} (hc:zv6 s size k n a=some (v,s')):s'=s:=by
  unfold zv6 at hc
  cases hq:ip k n with
  |false=>rw [hq] at hc;simp at hc
  |true=>rw [hq] at hc;cases hc;rfl
theorem zxv (hm:zi8 o.op=true) (hc:cop P Γ call ρ o s=some (v,s')):s'=s:=by
  obtain ⟨d,op,ty,pos,e,g⟩:=o;unfold cop at hc;simp only at hm hc
  cases op with
  |move x=>cases hc;rfl
  |assign x=>cases hc;rfl
  |pick c a b =>
    simp only at hc;unfold zxl at hc
    split at hc<;>first | (cases hc;rfl) | (simp at hc)
  |build t parts =>
    simp only at hc;unfold zkt at hc;split at hc
    . split at hc
      . rename_i fs _;rw [zcn] at hc;split at hc
        . exact z34 hc
        . simp at hc
      . split at hc
        . exact z34 hc
        . simp at hc
      . simp at hc
    . simp at hc
  |makeFunc fn a b=>cases hc;rfl
  |slice t x lo hi mx=>exact z10 hc
  |fieldAddr t x k =>
    simp only at hc;unfold zec at hc;split at hc
    . split at hc
      . split at hc
        . split at hc
          . rename_i off size _
            cases hq:gc size 0 with
            |true=>rw [hq] at hc;simp at hc
            |false=>rw [hq] at hc;cases hc;rfl
          . simp at hc
        . simp at hc
      . simp at hc
    . simp at hc
  |indexAddr t x k =>
    simp only at hc;unfold zcb at hc;split at hc
    . split at hc
      . split at hc
        . split at hc
          . exact zw3 hc
          . simp at hc
        . simp at hc
      . split at hc
        . split at hc
          . exact zw3 hc
          . simp at hc
        . simp at hc
      . simp at hc
    . simp at hc
  |index t x k =>
    simp only at hc;unfold zks at hc;split at hc
    . split at hc
      . split at hc
        . split at hc
          . rw [Bool.cond_eq_ite] at hc;split at hc
            . exact zm7 hc
            . simp at hc
          . simp at hc
        . simp at hc
      . split at hc
        . split at hc<;>first | (cases hc;rfl) | (simp at hc)
        . simp at hc
      . simp at hc
    . simp at hc
  |extract x k =>
    simp only at hc;unfold ziw at hc;split at hc
    . exact zm7 hc
    . simp at hc
  |unOp op t x=>exact zuk hc
  |binOp op t x y t2 =>
    simp only at hc;unfold zmp at hc;split at hc
    . cases hc;rfl
    . exact zuk hc
  |_=>simp [zi8] at hm
theorem zn9 {tag:Nat} {cs:List Value} {a:Addr} (hc:s.newRow tag cs=some (a,s')):s'.rd=s.rd/\s'.wr=s.wr:=by
  unfold CS.newRow at hc;rw [zcn] at hc;split at hc
  . cases hc;exact ⟨rfl,rfl⟩
  . simp at hc
theorem z64 {r:Option (Addr×CS)} (hr:∀ a t,r=some (a,t)->t.rd=s.rd/\t.wr=s.wr) (hc:ptrC r=some (v,s')):s'.rd=s.rd/\s'.wr=s.wr:=by
  unfold ptrC at hc;split at hc
  . cases hc;exact hr _ _ rfl
  . simp at hc
theorem zw6 {l c:Nat} {r:Option (Addr×CS)} (hr:∀ a t,r=some (a,t)->t.rd=s.rd/\t.wr=s.wr) (hc:zh6 l c r=some (v,s')):s'.rd=s.rd/\s'.wr=s.wr:=by
  unfold zh6 at hc;split at hc
  . cases hc;exact hr _ _ rfl
  . simp at hc
theorem z4w (hm:zji o.op=true) (hc:cop P Γ call ρ o s=some (v,s')):s'.rd=s.rd/\s'.wr=s.wr:=by
  by_cases hq:zi8 o.op=true
  . rw [zxv hq hc];exact ⟨rfl,rfl⟩
  obtain ⟨d,op,ty,pos,e,g⟩:=o;unfold cop at hc;simp only at hm hc hq
  cases op with
  |alloc e =>
    simp only at hc;unfold znf at hc;split at hc
    . exact z64 (fun a t h=>zn9 h) hc
    . simp at hc
  |box e x=>exact z64 (fun a t h=>zn9 h) hc
  |buildSlice t n parts =>
    simp only at hc;unfold zci at hc;split at hc
    . rename_i j _
      cases hb:(ik (n*j.size) 16777216 && ip 0 j.size) with
      |false=>rw [hb] at hc;simp at hc
      |true =>
        rw [hb,cond_true] at hc;split at hc
        . exact zw6 (fun a t h=>zn9 h) hc
        . simp at hc
    . simp at hc
  |makeSlice t l c =>
    simp only at hc;unfold zfe at hc;split at hc
    . rename_i j l' c' _ _ _
      cases hb:(ik l' c' && ik (c'*(j.bytes+1)) 1000000000 && ip 0 j.size) with
      |false=>rw [hb] at hc;simp at hc
      |true =>
        rw [hb,cond_true] at hc;exact zw6 (fun a t h=>zn9 h) hc
    . simp at hc
  |_=>simp_all [zji,zi8]
def ypw (o:Oper) (x:Lg):Prop:=(zi8 o.op=true->x.rd=[]/\x.wr=[]/\x.lo=x.hi)/\(zji o.op=true->x.rd=[]/\x.wr=[])
theorem ztd {ops:List Oper}:∀ {l:List Oper} {fr fr':Fr} {s s':CS} {L:List Lg},drawC P Γ call ops l fr s=some (L,fr',s')->L.length=l.length/\∀ (j:Nat) (o:Oper) (x:Lg),l[j]?=some o->L[j]?=some x->ypw o x
  |[],fr,fr',s,s',L,hc=>by
    simp only [drawC,fi,ft] at hc;obtain ⟨rfl,_,_⟩:=hc;exact ⟨rfl,fun j o x hj=>by simp at hj⟩
  |o :: l,fr,fr',s,s',L,hc=>by
    simp only [drawC] at hc;split at hc
    . rename_i fr1 t h1;split at hc
      . rename_i logs fr2 s2 h2;cases hc;obtain ⟨i1,i2⟩:=ztd h2;refine ⟨by simp [i1],fun j o' x hj hx=>?_⟩
        cases j with
        |zero =>
          simp only [ij,fi] at hj hx;subst hj;subst hx;unfold zcu at h1
          cases hw:zdb ops fr o with
          |false =>
            rw [hw] at h1;simp only [cond_false,fi,ft] at h1;rw [<- h1.2];exact ⟨fun _=>⟨rfl,rfl,rfl⟩,fun _=>⟨rfl,rfl⟩⟩
          |true =>
            rw [hw,cond_true] at h1;split at h1
            . rename_i v s1 hcop;cases h1;refine ⟨fun hm=>?_,fun hm=>?_⟩
              . rw [zxv hm hcop];exact ⟨rfl,rfl,rfl⟩
              . exact z4w hm hcop
            . simp at h1
        |succ j=>exact i2 j o' x (by simpa using hj) (by simpa using hx)
      . simp at hc
    . simp at hc
theorem zkk {ops:List Oper}:∀ {l m:List Oper} {fr fr1 fr2:Fr} {s s1 s2:CS} {L M:List Lg},drawC P Γ call ops l fr s=some (L,fr1,s1)->drawC P Γ call ops m fr1 s1=some (M,fr2,s2)->drawC P Γ call ops (l++m) fr s=some (L++M,fr2,s2)
  |[],m,fr,fr1,fr2,s,s1,s2,L,M,h1,h2=>by
    simp only [drawC,fi,ft] at h1;obtain ⟨rfl,rfl,rfl⟩:=h1;exact h2
  |o :: l,m,fr,fr1,fr2,s,s1,s2,L,M,h1,h2=>by
    simp only [drawC] at h1;simp only [gz,drawC];split at h1
    . rename_i fra t ha;split at h1
      . rename_i logs frb sb hb;cases h1;rw [zkk hb h2];rfl
      . simp at h1
    . simp at h1
theorem zyq {m:Nat} {y:Lg}:∀ {done:List Lg} {i:Nat},(∀ j x,done[j]?=some x->jc m (i+j)=true\/clash x y=false)->zil clash m y done i=true
  |[],_,_=>rfl
  |x :: l,i,h=>by
    have h0:jc m i=true\/clash x y=false:=h 0 x rfl
    have ih:zil clash m y l (i+1)=true:=zyq fun j z hz=>by
      have:=h (j+1) z (by simpa using hz);rw [show i+1+j=i+(j+1) by omega];exact this
    rcases h0 with h0|h0
    . rw [zvr h0];exact ih
    . rw [zyp h0];exact ih
theorem zoj {ms:List Nat}:∀ {l done:List Lg},(∀ i j x y,i<j->done.length<=j->(done++l)[i]?=some x->(done++l)[j]?=some y->jc (nth 0 ms j) i=true\/clash x y=false)->zgt clash done l ms=true
  |[],_,_=>rfl
  |y :: l,done,h=>by
    rw [znu,fo];refine ⟨zyq fun j x hx=>?_,zoj fun i j x z hij hd hx hz=>?_⟩
    . rw [jb];have hj:=(gl.1 hx).1;exact h j done.length x y hj (fx _) (by rw [gq hj];exact hx) (by simp)
    . rw [gr] at hx hz;rw [f7,io] at hd;exact h i j x z hij (by omega) hx hz
theorem zux {ρ1 ρ2:gg->T} {l:List gg} (hρ:∀ x,x∈l->ρ1 x=ρ2 x):l.map ρ1=l.map ρ2:=List.map_congr_left hρ
theorem zra {ρ1 ρ2:gg->T} {l:Option gg} (hρ:∀ x,l=some x->ρ1 x=ρ2 x):l.map ρ1=l.map ρ2:=by
  cases l with
  |none=>rfl
  |some x=>simp only [o4,hρ x rfl]
theorem zr6 {place:Nat->Option (Nat×Nat)} {ρ1 ρ2:gg->T}:∀ {l:List (Nat×gg)},(∀ p,p∈l->ρ1 p.2=ρ2 p.2)->zbh place ρ1 l=zbh place ρ2 l
  |[],_=>rfl
  |(k,x) :: l,hρ=>by
    unfold zbh;rw [zr6 fun p hp=>hρ p (by simp [hp]),hρ (k,x) (by simp)]
theorem zse {e:Nat} {ρ1 ρ2:gg->T}:∀ {l:List (Nat×gg)} {i:Nat},(∀ p,p∈l->ρ1 p.2=ρ2 p.2)->zda e ρ1 i l=zda e ρ2 i l
  |[],_,_=>rfl
  |(k,x) :: l,i,hρ=>by
    unfold zda;rw [zse fun p hp=>hρ p (by simp [hp]),hρ (k,x) (by simp)]
theorem z4e {ρ1 ρ2:gg->T} (hρ:∀ x,x∈o.op.operands.toList->ρ1 x=ρ2 x):zgr P Γ ρ1 o S=zgr P Γ ρ2 o S:=by
  obtain ⟨d,op,ty,pos,e,g⟩:=o;simp only at hρ;unfold zgr
  cases op with
  |move x=>simp only [hρ x (by simp [ii])]
  |assign x=>simp only [hρ x (by simp [ii])]
  |pick c a b=>simp only [hρ c (by simp [ii]),hρ a (by simp [ii]),hρ b (by simp [ii])]
  |build t parts =>
    have hp:∀ p,p∈parts.toList->ρ1 p.2=ρ2 p.2:=fun p hp=>hρ p.2 (by simp [ii];exact ⟨p.1,by simpa using hp⟩)
    simp only [zkb,zr6 hp]
  |buildSlice t n parts =>
    have hp:∀ p,p∈parts.toList->ρ1 p.2=ρ2 p.2:=fun p hp=>hρ p.2 (by simp [ii];exact ⟨p.1,by simpa using hp⟩)
    simp only [zam,zse hp]
  |load t x=>simp only [hρ x (by simp [ii])]
  |makeFunc fn first captured =>
    have h1:first.toList.map ρ1=first.toList.map ρ2:=zux fun x hx=>hρ x (by simp [ii];left;simpa using hx)
    have h2:captured.toList.map ρ1=captured.toList.map ρ2:=zux fun x hx=>hρ x (by simp [ii];right;simpa using hx)
    simp only [h1,h2]
  |slice t x lo hi mx =>
    have h1:lo.map ρ1=lo.map ρ2:=zra fun y hy=>hρ y (by simp [ii,hy]);have h2:hi.map ρ1=hi.map ρ2:=zra fun y hy=>hρ y (by simp [ii,hy]);have h3:mx.map ρ1=mx.map ρ2:=zra fun y hy=>hρ y (by simp [ii,hy])
    simp only [hρ x (by simp [ii]),h1,h2,h3]
  |fieldAddr t x k=>simp only [hρ x (by simp [ii])]
  |indexAddr t x ix=>simp only [hρ x (by simp [ii]),hρ ix (by simp [ii])]
  |index t x ix=>simp only [hρ x (by simp [ii]),hρ ix (by simp [ii])]
  |extract x k=>simp only [hρ x (by simp [ii])]
  |unOp op t x=>simp only [hρ x (by simp [ii])]
  |convert src dst x=>simp only [hρ x (by simp [ii])]
  |binOp op t x y t2=>simp only [hρ x (by simp [ii]),hρ y (by simp [ii])]
  |call c =>
    obtain ⟨cal,args,tys⟩:=c
    cases cal with
    |builtin b =>
      have ha:∀ x,x∈args.toList->ρ1 x=ρ2 x:=fun x hx=>hρ x (by simp [ii,sn];simpa using hx);simp only;unfold zms
      cases b with
      |len =>
        simp only;split
        . rename_i x t e1 e2;rw [ha x (by rw [e1];simp)]
        . rfl
      |min =>
        simp only;split
        . rename_i x y e1;rw [ha x (by rw [e1];simp),ha y (by rw [e1];simp)]
        . rfl
      |max =>
        simp only;split
        . rename_i x y e1;rw [ha x (by rw [e1];simp),ha y (by rw [e1];simp)]
        . rfl
      |_=>rfl
    |_=>rfl
  |_=>rfl
end
def z5x (P:gw) (Γ:Env) (GL:List (Nat×List Value)) (S:TS) (args:List T) (f:T) (r:T):Option Prop:=match f with
  |.fn k first cap=>some (zaj P Γ GL k (first++args++cap) S r)
  |_=>none
def andP (p:Prop):Option (Prop×(Nat->T))->Option (Prop×(Nat->T))
  |some (q,h)=>some (p/\q,h)
  |none=>none
def runP (P:gw) (Γ:Env) (GL:List (Nat×List Value)) (ops:List Oper):List Oper->(Nat->T)->TS->List T->Option (Prop×(Nat->T))
  |[],h,_,_=>some (True,h)
  |o :: l,h,S,outs=>match zi3 ops h o.guard with
    |none=>none
    |some false=>runP P Γ GL ops l (putT h o.dst (.tup [])) S outs
    |some true=>match o.op with
      |.call ⟨.value f,args,tys⟩=>(match outs with
        |r :: outs=>(match z5x P Γ GL S (args.toList.map (zdi GL h)) (zdi GL h f) r with
          |some p=>andP p (runP P Γ GL ops l (putT h o.dst r) S outs)
          |none=>none)
        |[]=>none)
      |_=>(match zgr P Γ (zdi GL h) o S with
        |some t=>runP P Γ GL ops l (putT h o.dst t) S outs
        |none=>none)
def ylb (ops:List Oper) (x y:Oper):Bool:=match x.dst with|some d=>has (zfq ops y) d|none=>false
def zwx:Nat->List Oper->List (Bool×Oper)
  |_,[]=>[]
  |0,o :: l=>(true,o) :: zwx 0 l
  |k+1,o :: l=>(false,o) :: zwx k l
def yd5 (x y:Bool×Oper):Bool:=y.1 && !(zi8 x.2.op || zji y.2.op)
def zsu (m:Nat):List Nat->Nat->Bool
  |[],_=>true
  |x :: l,i=>(!Nat.testBit m i || gc (Nat.land x m) x) && zsu m l (i+1)
def zj7 (k:Nat) (ops:List Oper):Bool :=
  zgt (ylb ops) [] ops (zdt ops []) && (zgt yd5 [] (zwx k ops) (zdt ops []) && (zdt ops []).all fun m=>zsu m (zdt ops []) 0)
theorem ztl {m:Nat}:∀ {l:List Nat} {i:Nat},zsu m l i=true->∀ j,j<l.length->jc m (i+j)=true->∀ b,jc (nth 0 l j) b=true->jc m b=true
  |[],_,_,j,hj,_,_,_=>by simp at hj
  |x :: l,i,h,j,hj,ht,b,hb=>by
    simp only [zsu,fo] at h
    cases j with
    |zero =>
      have h1:=h.1;rw [show jc m i=true from ht] at h1;simp only [i5,Bool.false_or] at h1;have h2:x &&& m=x:=fq h1;have h3:jc x b=true:=hb;rw [<- h2,l7,fo] at h3;exact h3.2
    |succ j=>exact ztl h.2 j (by simpa using hj) (by rw [show i+1+j=i+(j+1) by omega];exact ht) b hb
theorem z2h:∀ (l:List Oper) (ms:List Nat),(zdt l ms).length=ms.length+l.length
  |[],ms=>by simp [zdt]
  |o :: l,ms=>by
    simp only [zdt];rw [z2h l];simp only [f7,gp,jk];omega
theorem zn1:∀ {k:Nat} {ops:List Oper} {i:Nat} {o:Oper},ops[i]?=some o->(zwx k ops)[i]?=some (decide (k<=i),o)
  |_,[],i,o,h=>by simp at h
  |0,x :: l,i,o,h=>by
    cases i with
    |zero=>simp only [ij,fi] at h;subst h;rfl
    |succ i =>
      have:=zn1 (k:=0) (ops:=l) (i:=i) (by simpa using h)
      simpa [zwx] using this
  |k+1,x :: l,i,o,h=>by
    cases i with
    |zero=>simp only [ij,fi] at h;subst h;rfl
    |succ i =>
      have:=zn1 (k:=k) (ops:=l) (i:=i) (by simpa using h);simpa [zwx] using this
section
variable {GL:List (Nat×List Value)} {A A' A0:Nat->Prop} {β β':Bx} {S S':TS} {s s0 s' s2:CS} {P:gw} {Γ:Env} {N:Nat} {h h':Nat->T}
theorem yan {k:Nat} {ops:List Oper} (hd:zj7 k ops=true) {i j:Nat} {x y:Oper} (hij:i<j) (hx:ops[i]?=some x) (hy:ops[j]?=some y) {d:Nat} (hxd:x.dst=some d) (hdy:d∈zfq ops y):jc (nth 0 (zdt ops []) j) i=true:=by
  unfold zj7 at hd;simp only [fo] at hd;rcases zgf hd.1 i j x y hij (iy _) (by simpa using hx) (by simpa using hy) with q|q
  . exact q
  . unfold ylb at q;rw [hxd] at q;simp only at q;rw [zus hdy] at q;simp at q
theorem z5p {k:Nat} {ops:List Oper} (hd:zj7 k ops=true) {i j:Nat} {x y:Oper} (hij:i<j) (hkj:k<=j) (hx:ops[i]?=some x) (hy:ops[j]?=some y):jc (nth 0 (zdt ops []) j) i=true\/zi8 x.op=true\/zji y.op=true:=by
  unfold zj7 at hd;simp only [fo] at hd;rcases zgf hd.2.1 i j _ _ hij (iy _) (by simpa using zn1 hx) (by simpa using zn1 hy) with q|q
  . exact .inl q
  . unfold yd5 at q;rw [zAa hkj] at q;simp only [kh,Bool.not_eq_false',Bool.or_eq_true] at q;exact .inr q
theorem z3e {k:Nat} {ops:List Oper} (hd:zj7 k ops=true) {j i b:Nat} (hj:j<ops.length) (hi:i<ops.length) (h1:jc (nth 0 (zdt ops []) j) i=true) (h2:jc (nth 0 (zdt ops []) i) b=true):jc (nth 0 (zdt ops []) j) b=true:=by
  unfold zj7 at hd;simp only [fo] at hd;have hl:=z2h ops [];simp only [jk,jb] at hl
  have hm:nth 0 (zdt ops []) j∈zdt ops []:=by
    have key:∀ (l:List Nat) (j:Nat),j<l.length->nth 0 l j∈l:=by
      intro l
      induction l with
      |nil=>intro j hj;simp at hj
      |cons x l ih =>
        intro j hj
        cases j with
        |zero=>exact List.mem_cons_self
        |succ j=>exact List.mem_cons_of_mem _ (ih j (by simpa using hj))
    exact key _ j (by omega)
  have:=im.1 hd.2.2 _ hm;exact ztl this i (by omega) (by rw [jb];exact h1) b h2
def SupL (A0:Nat->Prop) (L:List Lg) (D:Nat) (f:Nat):Prop:=A0 f\/∃ (m:Nat) (x:Lg),jc D m=true/\L[m]?=some x/\x.lo<=f/\f<x.hi
theorem SupL.more {L M:List Lg} {D E:Nat} (hD:∀ m,m<L.length->jc D m=true->jc E m=true) {f:Nat} (k:SupL A0 L D f):SupL A0 (L++M) E f:=by
  rcases k with k|⟨m,x,h1,h2,h3⟩
  . exact .inl k
  . have hm:=(gl.1 h2).1;exact .inr ⟨m,x,hD m hm h1,by rw [gq hm];exact h2,h3⟩
theorem SupL.sub {L:List Lg} {D E:Nat} (hD:∀ m,m<L.length->jc D m=true->jc E m=true) {f:Nat} (k:SupL A0 L D f):SupL A0 L E f:=by
  have:=SupL.more (M:=[]) hD k;simpa using this
structure zq1 (GL:List (Nat×List Value)) (ops:List Oper) (A0:Nat->Prop) (β:Bx) (S:TS) (s0:CS) (N:Nat) (L:List Lg) (h:Nat->T) (fr:Fr) (s:CS):Prop where
  nt:fr.nt=N
  le:N<=512
  rel:TRel GL A0 β S s
  slot:∀ t,∃ D,VT (SupL A0 L D) β (zaa s.obj) (h t) (fr.get t)/\∀ (j:Nat) (o:Oper),L.length<=j->ops[j]?=some o->t∈zfq ops o->∀ m,m<L.length->jc D m=true->jc (nth 0 (zdt ops []) j) m=true
  log:∀ (k:Nat) (x:Lg),L[k]?=some x->s0.n<=x.lo/\x.lo<=x.hi/\x.hi<=s.n/\x.wr=[]/\∀ f,f∈x.rd->f<x.lo/\(SupL A0 L (nth 0 (zdt ops []) k) f\/Own β f)
  apart:∀ (k m:Nat) (x y:Lg),k<m->L[k]?=some x->L[m]?=some y->x.hi<=y.lo
  own:∀ f,Own β f->f<s0.n
  base:∀ f,A0 f->f<s0.n
  calm:zka A0 β s0 A0 s
  lim:s0.lim<=s0.n
theorem TRel.more (hT:TRel GL A β S s) (A1:Nat->Prop) (h1:∀ f,A f->A1 f) (h2:∀ f,A1 f->f<s.n) (h3:∀ f,A1 f->¬ Own β f):TRel GL A1 β S s :=
  ⟨hT.inr,hT.inv,h2,fun f hf=>⟨(hT.dis f hf).1,fun hh=>h3 f hh hf⟩,hT.inj,hT.next,fun b z N l hb=>(hT.cells b z N l hb).mono h1 (fun _ _=>rfl) (mq _) rfl fun _ _ _ _=>rfl,
    fun b l hb=>(hT.maps b l hb).mono h1 (fun _ _=>rfl) (mq _) rfl fun _ _=>rfl,fun x hx=>⟨h1 _ (hT.glob x hx).1,(hT.glob x hx).2⟩⟩
theorem TRel.inner (hT:TRel GL A β S s):TRel GL A β S s.inner:=⟨hT.inr,⟨hT.inv.none,hT.inv.vers,fx _⟩,hT.alt,hT.dis,hT.inj,hT.next,hT.cells,hT.maps,hT.glob⟩
theorem TRel.outer (hT:TRel GL A β S s') (hl:s.lim<=s'.n):TRel GL A β S (s.outer s'):=⟨hT.inr,⟨hT.inv.none,hT.inv.vers,hl⟩,hT.alt,hT.dis,hT.inj,hT.next,hT.cells,hT.maps,hT.glob⟩
theorem zka.trans (hl:s.lim<=s.n) (k1:zka A β s A s') (k2:zka A β s' A s2):zka A β s A s2:=by
  refine ⟨k1.can.trans k2.can,fun _ h=>h,fun _ h=>.inl h,fun f hf=>?_,fun x hx=>?_,fun x hx=>k1.wr x (k2.wr x hx)⟩
  . rw [k2.keep f (h9 hf k1.can.n)];exact k1.keep f hf
  . rcases k2.rd x hx with q|⟨q,q2⟩
    . exact k1.rd x q
    . rw [k1.can.lim] at q;exact .inr ⟨q,q2⟩
theorem zq1.next {k0:Nat} {ops:List Oper} (hd:zj7 k0 ops=true) {L:List Lg} {fr:Fr} {o:Oper} (I:zq1 GL ops A0 β S s0 N L h fr s) (ho:ops[L.length]?=some o) (hdst:∀ t,o.dst=some t->t<N) {t:T} {v:Value} {s1:CS}
    (k1:TRel GL A' β S s1) (k2:VT A' β (zaa s1.obj) t v) (k3:zka (SupL A0 L (nth 0 (zdt ops []) L.length)) β s.inner A' s1) :
    zq1 GL ops A0 β S s0 N (L++[⟨s1.rd,s1.wr,s.n,s1.n⟩]) (putT h o.dst t) (putC fr o.dst v) (s.outer s1):=by
  have hsn:s.n<=s1.n:=k3.can.n;have hln:L.length<ops.length:=(gl.1 ho).1;have h0n:s0.n<=s.n:=I.calm.can.n
  have hsup:∀ f D,SupL A0 L D f->f<s.n:=fun f D hf=>by
    rcases hf with q|⟨m,x,_,q2,_,q4⟩
    . have:=I.base f q;omega
    . have:=(I.log m x q2).2.2.1;omega
  have hA':∀ f,A' f->SupL A0 (L++[⟨s1.rd,s1.wr,s.n,s1.n⟩]) (nth 0 (zdt ops []) L.length ||| 2 ^ L.length) f:=fun f hf=>by
    rcases k3.new f hf with q|q
    . refine SupL.more (fun m hm hb=>?_) q;rw [oq,hb];rfl
    . refine .inr ⟨L.length,⟨s1.rd,s1.wr,s.n,s1.n⟩,?_,by simp,q,k1.alt f hf⟩;rw [oq,Nat.testBit_two_pow_self];simp
  have hobj:∀ f,f<s.n->zaa s1.obj f=zaa s.obj f:=fun f hf=>k3.keep f hf
  have hwr:s1.wr=[]:=by
    rw [List.eq_nil_iff_forall_not_mem];intro x hx;have:=k3.wr x hx;simp [su] at this
  have hcal:zka A0 β s A0 (s.outer s1):=by
    refine ⟨znb I.rel.inv k3.can,fun _ h=>h,fun _ h=>.inl h,hobj,fun x hx=>?_,fun x hx=>?_⟩
    . rcases zod (l:=s1.rd) rfl x hx with q|⟨q,q2⟩
      . exact .inl q
      . refine .inr ⟨q2,?_⟩;have hxn:x<s0.n:=by have h1:=I.calm.can.lim;have h2:=I.lim;rw [h1] at q2;omega
        rcases k3.rd x q with q3|⟨_,q3⟩
        . simp [su] at q3
        . rcases q3 with (q3|⟨m,y,_,q5,q6,_⟩)|q3
          . exact .inl q3
          . have:=(I.log m y q5).1;omega
          . exact .inr q3
    . rcases zod (l:=s1.wr) rfl x hx with q|⟨q,_⟩
      . exact q
      . rw [hwr] at q;simp at q
  have hrel:TRel GL A0 β S (s.outer s1):=hcal.rel I.rel k1.inr ⟨k1.inv.none,k1.inv.vers,by have:=I.rel.inv.lim;show s.lim<=s1.n;omega⟩ fun f hf=>by have:=I.rel.alt f hf;show f<s1.n;omega
  refine ⟨?_,I.le,hrel,fun t'=>?_,fun k x hx=>?_,fun k m x y hkm hx hy=>?_,I.own,I.base,?_,I.lim⟩
  . cases hd2:o.dst with
    |none=>exact I.nt
    |some d =>
      show (fr.put d v).nt=N;unfold Fr.put;rw [zcn];split<;>exact I.nt
  . by_cases ht':o.dst=some t'
    . rw [ht'];refine ⟨nth 0 (zdt ops []) L.length ||| 2 ^ L.length,?_,fun j o' hj ho' hn m hm hb=>?_⟩
      . show VT _ _ _ (tupd h t' t t') ((fr.put t' v).get t');rw [zhk,Fr.get_put_same v (by rw [I.nt];exact hdst _ ht') (by rw [I.nt];exact I.le)];exact k2.mono hA' (fun _ _=>rfl) (mq _)
      . rw [f7,io] at hj hm;have hdep:=yan hd (show L.length<j by omega) ho ho' ht' hn;rw [oq,Bool.or_eq_true] at hb;rcases hb with hb|hb
        . exact z3e hd (gl.1 ho').1 hln hdep hb
        . rw [Nat.testBit_two_pow] at hb;have:L.length=m:=by simpa using hb
          rw [<- this];exact hdep
    . obtain ⟨D,d1,d2⟩:=I.slot t';refine ⟨D &&& (2 ^ L.length - 1),?_,fun j o' hj ho' hn m hm hb=>?_⟩
      . have e1:putT h o.dst t t'=h t':=by
          cases hd2:o.dst with
          |none=>rfl
          |some d=>exact zlr _ _ _ _ fun hh=>ht' (by rw [hd2,hh])
        have e2:(putC fr o.dst v).get t'=fr.get t':=by
          cases hd2:o.dst with
          |none=>rfl
          |some d=>exact sw v (by rw [I.nt];exact I.le) fun hh=>ht' (by rw [hd2,hh])
        rw [e1,e2];refine d1.mono (fun f hf=>SupL.more (fun m hm hb=>?_) hf) (fun f hf=>hobj f (hsup f D hf)) (mq _);rw [l7,hb,mv];simp [hm]
      . rw [f7,io] at hj;rw [l7,fo,mv] at hb;exact d2 j o' (by omega) ho' hn m (of_decide_eq_true hb.2) hb.1
  . by_cases hk:k<L.length
    . rw [gq hk] at hx;obtain ⟨l1,l2,l3,l4,l5⟩:=I.log k x hx;exact ⟨l1,l2,by show x.hi<=s1.n;omega,l4,fun f hf=>⟨(l5 f hf).1,(l5 f hf).2.imp (fun q=>SupL.more (fun _ _ hb=>hb) q) id⟩⟩
    . have hk2:k=L.length:=by
        have:=(gl.1 hx).1;rw [f7,io] at this;omega
      subst hk2;simp only [iw (fx _),Nat.sub_self,ij,fi] at hx;subst hx;refine ⟨h0n,hsn,fx _,hwr,fun f hf=>?_⟩;rcases k3.rd f hf with q|⟨q,q2⟩
      . simp [su] at q
      . exact ⟨q,q2.imp (fun q3=>SupL.more (fun _ _ hb=>hb) q3) id⟩
  . by_cases hm:m<L.length
    . rw [gq (by omega)] at hx;rw [gq hm] at hy;exact I.apart k m x y hkm hx hy
    . have hm2:m=L.length:=by
        have:=(gl.1 hy).1;rw [f7,io] at this;omega
      subst hm2;rw [gq hkm] at hx;simp only [iw (fx _),Nat.sub_self,ij,fi] at hy;subst hy;exact (I.log k x hx).2.2.1
  . exact I.calm.trans I.lim hcal
theorem zz0 {ops:List Oper} {o:Oper} {x:Nat} (hx:Operand.tmp x∈o.op.operands.toList):x∈zfq ops o:=by
  unfold zfq;refine List.mem_append.2 (.inl ?_);rw [List.mem_filterMap];exact ⟨.tmp x,hx,rfl⟩
theorem z42 {ops:List Oper} {o:Oper} {j d:Nat} {w:Bool} (hg:o.guard=some (j,w)) (hd:zo8 ops j=some d):d∈zfq ops o:=by
  unfold zfq;refine List.mem_append.2 (.inr ?_);rw [hg];simp only [hd];exact List.mem_singleton.2 rfl
theorem z66 (hE:zeg P Γ) {k0:Nat} {ops:List Oper} (hd:zj7 k0 ops=true):∀ {l:List Oper} {L:List Lg} {h h':Nat->T} {fr:Fr} {s:CS} {outs:List T} {ob:Prop},zq1 GL ops A0 β S s0 N L h fr s->(∀ (j:Nat) (o:Oper),l[j]?=some o->ops[L.length+j]?=some o)->zfm N l=true->runP P Γ GL ops l h S outs=some (ob,h')->ob ->
    ∃ M fr' s',drawC P Γ (zeo P Γ) ops l fr s=some (M,fr',s')/\zq1 GL ops A0 β S s0 N (L++M) h' fr' s'/\M.length=l.length
  |[],L,h,h',fr,s,outs,ob,I,hl,hdo,hr,hob=>by
    simp only [runP,fi,ft] at hr;obtain ⟨rfl,rfl⟩:=hr;exact ⟨[],fr,s,rfl,by rw [ic];exact I,rfl⟩
  |o :: l,L,h,h',fr,s,outs,ob,I,hl,hdo,hr,hob=>by
    have hd':zfm N l=true/\∀ t,o.dst=some t->t<N:=by
      unfold zfm at hdo ⊢;rw [jt,fo] at hdo;refine ⟨hdo.2,fun t ht=>?_⟩;have:=hdo.1;rw [ht] at this;exact zae.1 this
    have ho:ops[L.length]?=some o:=by have:=hl 0 o rfl;simpa using this
    -- what the operation may lean on
    have hrel:TRel GL (SupL A0 L (nth 0 (zdt ops []) L.length)) β S s.inner:=by
      refine TRel.inner (I.rel.more _ (fun f hf=>.inl hf) (fun f hf=>?_) (fun f hf ho=>?_))
      . rcases hf with q|⟨m,x,_,q2,_,q4⟩
        . exact I.rel.alt f q
        . have:=(I.log m x q2).2.2.1;omega
      . rcases hf with q|⟨m,x,_,q2,q3,q4⟩
        . exact (I.rel.dis f ho).2 q
        . have:=(I.log m x q2).1;have:=I.own f ho;omega
    -- the slots that it names
    let ho':Nat->T:=fun t=>if t∈zfq ops o then h t else .junk
    have hin:∀ t,t∈zfq ops o->ho' t=h t:=fun t ht=>zAc ht
    have hF:FrOk (SupL A0 L (nth 0 (zdt ops []) L.length)) β (zaa s.inner.obj) N ho' fr:=⟨I.nt,I.le,fun t=>by
      by_cases ht:t∈zfq ops o
      . rw [hin t ht];obtain ⟨D,d1,d2⟩:=I.slot t;exact d1.mono (fun f hf=>SupL.sub (fun m hm hb=>d2 L.length o (fx _) ho ht m hm hb) hf) (fun _ _=>rfl) (mq _)
      . rw [show ho' t=.junk from zAd ht]
        exact .junk _⟩
    have hev:∀ x,x∈o.op.operands.toList->zdi GL ho' x=zdi GL h x:=fun x hx=>by
      cases x with
      |tmp t=>exact hin t (zz0 hx)
      |_=>rfl
    have hgd:zi3 ops ho' o.guard=zi3 ops h o.guard:=by
      cases hg:o.guard with
      |none=>rfl
      |some p =>
        obtain ⟨j,w⟩:=p;unfold zi3;simp only
        cases hdd:zo8 ops j with
        |none=>rfl
        |some d=>simp only [hin d (z42 hg hdd)]
    -- the rest behind a step that is done
    have go:∀ {t:T} {v:Value} {s1:CS} {A':Nat->Prop} {outs':List T} {ob':Prop},TRel GL A' β S s1->VT A' β (zaa s1.obj) t v->zka (SupL A0 L (nth 0 (zdt ops []) L.length)) β s.inner A' s1->zcu P Γ (zeo P Γ) ops o fr s.inner=some (putC fr o.dst v,s1)->runP P Γ GL ops l (putT h o.dst t) S outs'=some (ob',h')->ob'->∃ M fr' s',drawC P Γ (zeo P Γ) ops (o :: l) fr s=some (M,fr',s')/\zq1 GL ops A0 β S s0 N (L++M) h' fr' s'/\M.length=(o :: l).length:=by
      intro t v s1 A' outs' ob' k1 k2 k3 hst hrun hob';have I2:=I.next hd ho hd'.2 k1 k2 k3
      obtain ⟨M,fr',s',m1,m2,m3⟩:=z66 hE hd I2 (fun j o' hj=>by
        have:=hl (j+1) o' (by simpa using hj);rw [f7,io];rw [show L.length+1+j=L.length+(j+1) by omega]
        exact this) hd'.1 hrun hob'
      refine ⟨⟨s1.rd,s1.wr,s.n,s1.n⟩ :: M,fr',s',?_,?_,by simp [m3]⟩
      . rw [drawC,hst];simp only;rw [m1]
      . rw [gr] at m2;exact m2
    unfold runP at hr;split at hr
    . simp at hr
    . rename_i hg;rw [<- hgd] at hg;have hw:=zi2 hF hg;refine go hrel VT.undf ⟨jv _,fun _ h=>h,fun _ h=>.inl h,fun _ _=>rfl,fun _ h=>.inl h,fun _ h=>h⟩ ?_ hr hob;unfold zcu;rw [hw,cond_false]
    . rename_i hg;rw [<- hgd] at hg;have hw:=zi2 hF hg;split at hr
      . rename_i f args tys hop;split at hr
        . rename_i r outs';split at hr
          . rename_i p hp;unfold z5x at hp;split at hp
            . rename_i k first cap hf
              simp only [fi] at hp;subst hp
              cases hrun:runP P Γ GL ops l (putT h o.dst r) S outs' with
              |none=>rw [hrun] at hr;simp [andP] at hr
              |some q =>
                obtain ⟨q1,q2⟩:=q;rw [hrun] at hr;simp only [andP,fi,ft] at hr;obtain ⟨rfl,rfl⟩:=hr;have hfv:=hF.eval hrel f;rw [hev f (by rw [hop];simp [ii,sn]),hf] at hfv;generalize e1:zha fr f=vf at hfv
                cases hfv with
                |fn h1 h2 =>
                  rename_i va vc;have hargs:=zvy (hF.eval hrel) args.toList;have hargs':args.toList.map (zdi GL ho')=args.toList.map (zdi GL h):=zux fun x hx=>hev x (by rw [hop];simp [ii,sn];right;simpa using hx);rw [hargs'] at hargs;obtain ⟨v,s1,A',c1,c2,c3,c4⟩:=hob.1 _ β s.inner _ hrel ((h1.append hargs).append h2);refine go c2 c3 c4 ?_ hrun hob.2;unfold zcu;rw [hw,cond_true]
                  have:cop P Γ (zeo P Γ) (zha fr) o s.inner=some (v,s1):=by
                    unfold cop;simp only [hop,e1];unfold zop;exact c1
                  rw [this]
            . simp at hp
          . simp at hr
        . simp at hr
      . split at hr
        . rename_i t hst;have hst':zgr P Γ (zdi GL ho') o S=some t:=by rw [z4e hev];exact hst
          obtain ⟨v,s1,A',c1,c2,c3,c4⟩:=z6e (call:=zeo P Γ) hE hrel (hF.eval hrel) hst';refine go c2 c3 c4 ?_ hr hob;unfold zcu;rw [hw,cond_true,c1]
        . simp at hr
theorem Stp.outer (hI:CInv s) (k:Stp A β s.inner A' β' s'):Stp A β s A' β' (s.outer s'):=by
  refine ⟨znb hI k.can,k.sub,k.new,k.own,k.keep,k.bx,fun x hx=>?_,fun x hx=>?_⟩
  . rcases zod (l:=s'.rd) rfl x hx with q|⟨q,q2⟩
    . exact .inl q
    . rcases k.rd x q with q3|⟨_,q3⟩
      . simp [su] at q3
      . exact .inr ⟨q2,q3⟩
  . rcases zod (l:=s'.wr) rfl x hx with q|⟨q,q2⟩
    . exact .inl q
    . rcases k.wr x q with q3|⟨_,q3⟩
      . simp [su] at q3
      . exact .inr ⟨q2,q3⟩
theorem zzw (hE:zeg P Γ) {own:List Nat} {ops:List Oper} {N:Nat}:∀ {l:List Oper} {h h':Nat->T} {S S':TS} {outs:List (T×TS)} {ob:Prop} {A:Nat->Prop} {β:Bx} {fr:Fr} {s:CS},zfm N l=true->FrOk A β (zaa s.obj) N h fr->TRel GL A β S s->runT P Γ GL own ops l h S outs=some (ob,h',S')->ob ->
    ∃ M fr' s',drawC P Γ (zeo P Γ) ops l fr s=some (M,fr',s')/\Left GL A β s N fr' s' h' S'
  |[],h,h',S,S',outs,ob,A,β,fr,s,hd,hF,hT,hr,hob=>by
    simp only [runT,fi,ft] at hr;obtain ⟨rfl,rfl,rfl⟩:=hr;exact ⟨[],fr,s,rfl,A,β,hF,hT,r8⟩
  |o :: l,h,h',S,S',outs,ob,A,β,fr,s,hd,hF,hT,hr,hob=>by
    have hd':zfm N l=true/\∀ t,o.dst=some t->t<N:=by
      unfold zfm at hd ⊢;rw [jt,fo] at hd;refine ⟨hd.2,fun t ht=>?_⟩;have:=hd.1;rw [ht] at this;exact zae.1 this
    have hTi:=hT.inner
    have go:∀ {t:T} {S1:TS} {r:Option (Value×CS)} {l':List (T×TS)} {ob':Prop},Ok GL A β s.inner r t S1->(cop P Γ (zeo P Γ) (zha fr) o s.inner=r)->zdb ops fr o=true->runT P Γ GL own ops l (putT h o.dst t) S1 l'=some (ob',h',S')->ob'->∃ M fr' s',drawC P Γ (zeo P Γ) ops (o :: l) fr s=some (M,fr',s')/\Left GL A β s N fr' s' h' S':=by
      rintro t S1 r l' ob' ⟨v,s1,A1,β1,rfl,k1,k2,k3⟩ hc hw hrun hob';have hF1:FrOk A1 β1 (zaa s1.obj) N h fr:=hF.mono k3.sub (Stp.old (s:=s.inner) hTi k3) k3.bx;have hS:Stp A β s A1 β1 (s.outer s1):=k3.outer hT.inv;obtain ⟨M,fr',s',e1,e2⟩:=zzw hE hd'.1 (s:=s.outer s1) (hF1.put hd'.2 k2) (k1.outer (Nat.le_trans hT.le k3.can.n)) hrun hob';refine ⟨⟨s1.rd,s1.wr,s.n,s1.n⟩ :: M,fr',s',?_,Left.trans (h':=h) (fr':=fr) hT.le hS e2⟩;rw [drawC]
      have:zcu P Γ (zeo P Γ) ops o fr s.inner=some (putC fr o.dst v,s1):=by
        unfold zcu;rw [hw,cond_true,hc]
      rw [this];simp only;rw [e1]
    unfold runT at hr;split at hr
    . simp at hr
    . rename_i hg;have hw:=zi2 hF hg;have hS:Stp A β s A β (s.outer s.inner):=Stp.outer hT.inv r8;obtain ⟨M,fr',s',e1,e2⟩:=zzw hE hd'.1 (s:=s.outer s.inner) (hF.put hd'.2 VT.undf) (hTi.outer hT.le) hr hob;refine ⟨⟨[],[],s.n,s.n⟩ :: M,fr',s',?_,Left.trans (h':=h) (fr':=fr) hT.le hS e2⟩;rw [drawC]
      have:zcu P Γ (zeo P Γ) ops o fr s.inner=some (putC fr o.dst undef,s.inner):=by
        unfold zcu;rw [hw,cond_false]
      rw [this];simp only;rw [e1];rfl
    . rename_i hg;have hw:=zi2 hF hg;split at hr
      . rename_i f args tys ho;split at hr
        . rename_i r outs';split at hr
          . rename_i p hp;unfold z0o at hp;split at hp
            . rename_i k first cap hf
              simp only [fi] at hp;subst hp
              cases hrun:runT P Γ GL own ops l (putT h o.dst r.1) r.2 outs' with
              |none=>rw [hrun] at hr;simp [andT] at hr
              |some q =>
                obtain ⟨q1,q2,q3⟩:=q;rw [hrun] at hr;simp only [andT,fi,ft] at hr;obtain ⟨rfl,rfl,rfl⟩:=hr;have hfv:=hF.eval hT f;rw [hf] at hfv;generalize e1:zha fr f=vf at hfv
                cases hfv with
                |fn h1 h2 =>
                  rename_i va vc;have hargs:=zvy (hF.eval hT) args.toList;have hcall:=hob.1 A β s.inner _ hTi ((h1.append hargs).append h2);refine go hcall ?_ hw hrun hob.2;unfold cop;simp only [ho,e1];unfold zop;rfl
            . simp at hp
          . simp at hr
        . simp at hr
      . split at hr
        . rename_i t S1 hst;exact go (zzb hE hTi (hF.eval hT) hst) rfl hw hr hob
        . simp at hr
theorem zik {x y:Lg} (h1:x.rd=[]) (h2:x.wr=[]) (h3:x.lo=x.hi):clash x y=false:=by
  obtain ⟨rx,wx,lo,hi⟩:=x;obtain ⟨ry,wy,lo',hi'⟩:=y;simp only at h1 h2 h3;subst h1;subst h2;subst h3;exact zg3 (fun f hf=>by simp at hf) (fun f hf=>by simp at hf) (fun f _=>by omega) (fun f _=>by omega)
theorem zhb {x y:Lg} (h1:y.rd=[]) (h2:y.wr=[]):clash x y=false:=by
  obtain ⟨rx,wx,lo,hi⟩:=x;obtain ⟨ry,wy,lo',hi'⟩:=y;simp only at h1 h2;subst h1;subst h2;exact zg3 (fun f _=>by simp) (fun f _=>by simp) (fun f hf=>by simp at hf) (fun f hf=>by simp at hf)
theorem TW.draw (hE:zeg P Γ) {id:Nat} {ops:Array Oper} {Q:Exit->(Nat->T)->TS->Prop} (k:Nat) (outsP:List T) (own:List Nat) (outs:List (T×TS)) {h1:Nat->T} {ob1 ob2:Prop} (hd:zfm N ops.toList=true) (hok:zj7 k ops.toList=true)
    (hp:runP P Γ GL ops.toList (ops.toList.take k) h S outsP=some (ob1,h1)) (hob1:ob1) (hr:runT P Γ GL own ops.toList (ops.toList.drop k) h1 S outs=some (ob2,h',S')) (hob2:ob2) (hq:Q .normal h' S'):TW P Γ GL N (.region id ops true) h S Q:=fun A β fr s hF hT=>by
  have hsplit:ops.toList=ops.toList.take k++ops.toList.drop k:=(je k _).symm
  have hdd:zfm N (ops.toList.take k)=true/\zfm N (ops.toList.drop k)=true:=by
    unfold zfm at hd ⊢;rw [hsplit,List.all_append,fo] at hd;exact hd
  have I0:zq1 GL ops.toList A β S s N [] h fr s:=by
    refine ⟨hF.nt,hF.le,hT,fun t=>⟨0,(hF.slot t).mono (fun f hf=>.inl hf) (fun _ _=>rfl) (mq _),fun j o _ _ _ m hm=>by simp at hm⟩,fun k x hx=>by simp at hx,fun k m x y _ hx=>by simp at hx,fun f hf=>(hT.dis f hf).1,hT.alt,?_,hT.le⟩;exact ⟨jv _,fun _ h=>h,fun _ h=>.inl h,fun _ _=>rfl,fun _ h=>.inl h,fun _ h=>h⟩
  obtain ⟨M1,fr1,s1,d1,I1,m1⟩:=z66 hE hok I0 (fun j o hj=>by
    rw [jk,jb];rw [List.getElem?_take] at hj;split at hj
    . exact hj
    . simp at hj) hdd.1 hp hob1
  rw [gm] at I1
  -- behind the first part all may lean on all
  let D:Nat:=2 ^ M1.length - 1
  have hDall:∀ m,m<M1.length->jc D m=true:=fun m hm=>by
    show jc (2 ^ M1.length - 1) m=true;rw [mv];exact zAa hm
  have hT1:TRel GL (SupL A M1 D) β S s1:=by
    refine I1.rel.more _ (fun f hf=>.inl hf) (fun f hf=>?_) (fun f hf ho=>?_)
    . rcases hf with q|⟨m,x,_,q2,_,q4⟩
      . exact I1.rel.alt f q
      . have:=(I1.log m x q2).2.2.1;omega
    . rcases hf with q|⟨m,x,_,q2,q3,q4⟩
      . exact (I1.rel.dis f ho).2 q
      . have:=(I1.log m x q2).1;have:=I1.own f ho;omega
  have hF1:FrOk (SupL A M1 D) β (zaa s1.obj) N h1 fr1:=⟨I1.nt,I1.le,fun t=>by
    obtain ⟨E,e1,_⟩:=I1.slot t
    exact e1.mono (fun f hf=>SupL.sub (fun m hm _=>hDall m hm) hf) (fun _ _=>rfl) (mq _)⟩
  have hS1:Stp A β s (SupL A M1 D) β s1:=by
    refine ⟨I1.calm.can,fun f hf=>.inl hf,fun f hf=>?_,fun f hf=>.inl hf,fun f hf _=>I1.calm.keep f hf,mq _,I1.calm.rd,fun x hx=>.inl (I1.calm.wr x hx)⟩;rcases hf with q|⟨m,x,_,q2,q3,_⟩
    . exact .inl q
    . have:=(I1.log m x q2).1;exact .inr (.inl (by omega))
  obtain ⟨M2,fr2,s2,d2,L2⟩:=zzw hE hdd.2 hF1 hT1 hr hob2;have hdraw:=zkk d1 d2;rw [<- hsplit] at hdraw;obtain ⟨f1,f2⟩:=ztd hdraw;refine W.draw hdraw ?_ ⟨h',S',Left.trans (h':=h) (fr':=fr) hT.le hS1 L2,hq⟩;refine z0n rfl (zoj fun i j x y hij _ hx hy=>?_);simp only [gm] at hx hy;have hjl:j<ops.toList.length:=by rw [<- f1];exact (gl.1 hy).1
  have ho1:ops.toList[i]?=some (ops.toList[i]'(by omega)):=fp _;have ho2:ops.toList[j]?=some (ops.toList[j]'hjl):=fp _;by_cases hkj:k<=j
  . rcases z5p hok hij hkj ho1 ho2 with q|q|q
    . exact .inl q
    . obtain ⟨a,b,c⟩:=(f2 i _ x ho1 hx).1 q;exact .inr (zik a b c)
    . obtain ⟨a,b⟩:=(f2 j _ y ho2 hy).2 q;exact .inr (zhb a b)
  . have hjM:j<M1.length:=by rw [m1,iu];omega
    rw [gq (by omega)] at hx;rw [gq hjM] at hy;by_cases hbit:jc (nth 0 (zdt ops.toList []) j) i=true
    . exact .inl hbit
    . right;obtain ⟨x1,x2,x3,x4,x5⟩:=I1.log i x hx;obtain ⟨y1,y2,y3,y4,y5⟩:=I1.log j y hy;obtain ⟨rx,wx,lo,hi⟩:=x;obtain ⟨ry,wy,lo',hi'⟩:=y;simp only at x1 x2 x3 x4 x5 y1 y2 y3 y4 y5;subst x4;subst y4;refine zg3 (fun f hf=>by simp at hf) (fun f _=>by simp) (fun f hf=>?_) (fun f hf=>by simp at hf);obtain ⟨g1,g2⟩:=y5 f hf;rcases g2 with (g2|⟨m,z,g3,g4,g5,g6⟩)|g2
      . have:=I1.base f g2;omega
      . by_cases hmi:m=i
        . subst hmi;exact absurd g3 hbit
        . by_cases hlt:m<i
          . have:=I1.apart m i z _ hlt g4 hx;simp only at this;omega
          . have:=I1.apart i m _ z (by omega) hx g4;simp only at this;omega
      . have:=I1.own f g2;omega
end
section
variable {GL:List (Nat×List Value)} {P:gw} {Γ:Env} {own:List Nat} {ops l:List Oper} {h:Nat->T} {S:TS} {outs:List (T×TS)} {outsP:List T} {d:Option Tmp} {ty:gu} {pos:String} {e:Array Edge} {g:Option (Nat×Bool)}
def ygi {α:Type} (r:Option (T×TS)) (k:T->TS->Option α):Option α:=match r with
  |some (t,S)=>k t S
  |none=>none
def zon {α:Type} (b:Option Bool) (off on:Unit->Option α):Option α:=match b with
  |some true=>on ()
  |some false=>off ()
  |none=>none
theorem z00 {α:Type} (t:T) (S:TS) (k:T->TS->Option α):ygi (some (t,S)) k=k t S:=ge rfl rfl
theorem ye2 {α:Type} (a b:Unit->Option α):zon (some true) a b=b ():=ge rfl rfl
theorem z78 {α:Type} (a b:Unit->Option α):zon (some false) a b=a ():=ge rfl rfl
def zpr (ops:List Oper) (h:Nat->T) (j:Nat):T:=match zo8 ops j with|some t=>h t|none=>.junk
def zpg (t:T) (w:Bool):Option Bool:=match t with|.bool b=>some (b == w)|.tup _=>some false|_=>none
theorem ybb {l:List T} {w:Bool}:zpg (.tup l) w=some false:=ge rfl rfl
theorem zjs {j:Nat} {w:Bool}:zi3 ops h (some (j,w))=zpg (zpr ops h j) w:=by
  unfold zi3 zpr;simp only
  cases zo8 ops j with
  |none=>rfl
  |some t=>simp only;cases h t<;>rfl
theorem ya9:zpg (.bool true) true=some true:=ge rfl rfl
theorem yba:zpg (.bool true) false=some false:=ge rfl rfl
theorem ybc:zpg (.bool false) true=some false:=ge rfl rfl
theorem ybd:zpg (.bool false) false=some true:=ge rfl rfl
theorem zw4 {t:Tmp} {op:Op}:zpr (⟨some t,op,ty,pos,e,g⟩ :: l) h 0=h t:=ge rfl rfl
theorem zw5 {o:Oper} {n:Nat}:zpr (o :: l) h (n+1)=zpr l h n:=by
  unfold zpr zo8;rw [lp]
theorem z6s:runT P Γ GL own ops [] h S outs=some (True,h,S):=ge rfl rfl
theorem z6u:runP P Γ GL ops [] h S outsP=some (True,h):=ge rfl rfl
def zcm:Op->Bool
  |.call ⟨.value _,_,_⟩=>true
  |_=>false
def yha (P:gw) (Γ:Env) (GL:List (Nat×List Value)) (own:List Nat) (ops l:List Oper) (outs:List (T×TS)) (h:Nat->T) (d:Option Tmp) (t:T) (S:TS):Option (Prop×(Nat->T)×TS):=runT P Γ GL own ops l (putT h d t) S outs
theorem ydo {t:T}:yha P Γ GL own ops l outs h d t S=runT P Γ GL own ops l (putT h d t) S outs:=ge rfl rfl
def offT (P:gw) (Γ:Env) (GL:List (Nat×List Value)) (own:List Nat) (ops l:List Oper) (outs:List (T×TS)) (h:Nat->T) (d:Option Tmp) (S:TS) (_:Unit):Option (Prop×(Nat->T)×TS):=runT P Γ GL own ops l (putT h d (.tup [])) S outs
theorem yjr {u:Unit}:offT P Γ GL own ops l outs h d S u=runT P Γ GL own ops l (putT h d (.tup [])) S outs:=ge rfl rfl
def yg7 (P:gw) (Γ:Env) (GL:List (Nat×List Value)) (own:List Nat) (ops l:List Oper) (outs:List (T×TS)) (h:Nat->T) (S:TS) (o:Oper) (_:Unit):Option (Prop×(Nat->T)×TS):=ygi (zgu P Γ own (zdi GL h) o S) (yha P Γ GL own ops l outs h o.dst)
theorem ydl {u:Unit} {op:Op}:yg7 P Γ GL own ops l outs h S ⟨d,op,ty,pos,e,g⟩ u=ygi (zgu P Γ own (zdi GL h) ⟨d,op,ty,pos,e,g⟩ S) (yha P Γ GL own ops l outs h d):=ge rfl rfl
theorem z6t {op:Op} (hc:zcm op=false):runT P Γ GL own ops (⟨d,op,ty,pos,e,g⟩ :: l) h S outs=zon (zi3 ops h g) (offT P Γ GL own ops l outs h d S) (yg7 P Γ GL own ops l outs h S ⟨d,op,ty,pos,e,g⟩):=by
  rw [runT];simp only
  cases hg:zi3 ops h g with
  |none=>rfl
  |some b =>
    cases b with
    |false=>rfl
    |true =>
      simp only [zon,yg7]
      cases hs:zgu P Γ own (zdi GL h) ⟨d,op,ty,pos,e,g⟩ S with
      |none =>
        cases op with
        |call c =>
          obtain ⟨cal,args,tys⟩:=c
          cases cal with
          |value f=>simp [zcm] at hc
          |_=>rfl
        |_=>rfl
      |some r =>
        cases op with
        |call c =>
          obtain ⟨cal,args,tys⟩:=c
          cases cal with
          |value f=>simp [zcm] at hc
          |_=>rfl
        |_=>rfl
theorem ycj {op:Op} (hc:zcm op=false):runT P Γ GL own ops (⟨d,op,ty,pos,e,none⟩ :: l) h S outs=ygi (zgu P Γ own (zdi GL h) ⟨d,op,ty,pos,e,none⟩ S) (yha P Γ GL own ops l outs h d):=by
  rw [z6t hc];rfl
theorem yck {op:Op} {j:Nat} {w:Bool} (hc:zcm op=false):runT P Γ GL own ops (⟨d,op,ty,pos,e,some (j,w)⟩ :: l) h S outs=zon (zpg (zpr ops h j) w) (offT P Γ GL own ops l outs h d S) (yg7 P Γ GL own ops l outs h S ⟨d,op,ty,pos,e,some (j,w)⟩):=by
  rw [z6t hc,zjs]
def yht (p:Option Prop) (k:Option (Prop×(Nat->T)×TS)):Option (Prop×(Nat->T)×TS):=match p,k with
  |some p,some (q,h,S)=>some (p/\q,h,S)
  |_,_=>none
theorem z2l {p q:Prop}:yht (some p) (some (q,h,S))=some (p/\q,h,S):=ge rfl rfl
def yib (P:gw) (Γ:Env) (GL:List (Nat×List Value)) (own:List Nat) (ops l:List Oper) (outs:List (T×TS)) (h:Nat->T) (S:TS) (d:Option Tmp) (f:gg) (args:List gg) (r:T×TS) (_:Unit):Option (Prop×(Nat->T)×TS):=yht (z0o P Γ GL S (args.map (zdi GL h)) (zdi GL h f) r) (runT P Γ GL own ops l (putT h d r.1) r.2 outs)
theorem z89 {u:Unit} {f:gg} {args:List gg} {r:T×TS}:yib P Γ GL own ops l outs h S d f args r u=yht (z0o P Γ GL S (args.map (zdi GL h)) (zdi GL h f) r) (runT P Γ GL own ops l (putT h d r.1) r.2 outs):=ge rfl rfl
theorem zxf {f:gg} {args:Array gg} {tys:Array gu} {r:T×TS}:runT P Γ GL own ops (⟨d,.call ⟨.value f,args,tys⟩,ty,pos,e,g⟩ :: l) h S (r :: outs)=zon (zi3 ops h g) (offT P Γ GL own ops l (r :: outs) h d S) (yib P Γ GL own ops l outs h S d f args.toList r):=by
  rw [runT];simp only
  cases hg:zi3 ops h g with
  |none=>rfl
  |some b =>
    cases b with
    |false=>rfl
    |true =>
      simp only [zon,yib]
      cases z0o P Γ GL S (args.toList.map (zdi GL h)) (zdi GL h f) r with
      |none=>rfl
      |some p=>cases runT P Γ GL own ops l (putT h d r.1) r.2 outs<;>rfl
theorem z1j {f:gg} {args:Array gg} {tys:Array gu} {r:T×TS}:runT P Γ GL own ops (⟨d,.call ⟨.value f,args,tys⟩,ty,pos,e,none⟩ :: l) h S (r :: outs)=yht (z0o P Γ GL S (args.toList.map (zdi GL h)) (zdi GL h f) r) (runT P Γ GL own ops l (putT h d r.1) r.2 outs):=by
  rw [zxf];rfl
theorem zt7 {f:gg} {args:Array gg} {tys:Array gu} {r:T×TS} {j:Nat} {w:Bool}:runT P Γ GL own ops (⟨d,.call ⟨.value f,args,tys⟩,ty,pos,e,some (j,w)⟩ :: l) h S (r :: outs)=zon (zpg (zpr ops h j) w) (offT P Γ GL own ops l (r :: outs) h d S) (yib P Γ GL own ops l outs h S d f args.toList r):=by
  rw [zxf,zjs]
theorem zt6 {f:gg} {args:Array gg} {tys:Array gu} {j:Nat} {w:Bool}:runT P Γ GL own ops (⟨d,.call ⟨.value f,args,tys⟩,ty,pos,e,some (j,w)⟩ :: l) h S []=zon (zpg (zpr ops h j) w) (offT P Γ GL own ops l [] h d S) (fun _=>none):=by
  rw [runT];simp only [zjs]
  cases zpg (zpr ops h j) w with
  |none=>rfl
  |some b=>cases b<;>rfl
theorem z85 {k:Nat} {first cap args:List T} {r:T×TS}:z0o P Γ GL S args (.fn k first cap) r=some (Call P Γ GL k (first++args++cap) S r.1 r.2):=ge rfl rfl
def ygj {α:Type} (r:Option T) (k:T->Option α):Option α:=match r with
  |some t=>k t
  |none=>none
theorem zwv {α:Type} (t:T) (k:T->Option α):ygj (some t) k=k t:=ge rfl rfl
def yhb (P:gw) (Γ:Env) (GL:List (Nat×List Value)) (ops l:List Oper) (outs:List T) (h:Nat->T) (d:Option Tmp) (S:TS) (t:T):Option (Prop×(Nat->T)):=runP P Γ GL ops l (putT h d t) S outs
theorem z7l {t:T}:yhb P Γ GL ops l outsP h d S t=runP P Γ GL ops l (putT h d t) S outsP:=ge rfl rfl
def offP (P:gw) (Γ:Env) (GL:List (Nat×List Value)) (ops l:List Oper) (outs:List T) (h:Nat->T) (d:Option Tmp) (S:TS) (_:Unit):Option (Prop×(Nat->T)):=runP P Γ GL ops l (putT h d (.tup [])) S outs
theorem ydm {u:Unit}:offP P Γ GL ops l outsP h d S u=runP P Γ GL ops l (putT h d (.tup [])) S outsP:=ge rfl rfl
def yg8 (P:gw) (Γ:Env) (GL:List (Nat×List Value)) (ops l:List Oper) (outs:List T) (h:Nat->T) (S:TS) (o:Oper) (_:Unit):Option (Prop×(Nat->T)):=ygj (zgr P Γ (zdi GL h) o S) (yhb P Γ GL ops l outs h o.dst S)
theorem z7h {u:Unit} {op:Op}:yg8 P Γ GL ops l outsP h S ⟨d,op,ty,pos,e,g⟩ u=ygj (zgr P Γ (zdi GL h) ⟨d,op,ty,pos,e,g⟩ S) (yhb P Γ GL ops l outsP h d S):=ge rfl rfl
theorem z6v {op:Op} (hc:zcm op=false):runP P Γ GL ops (⟨d,op,ty,pos,e,g⟩ :: l) h S outsP=zon (zi3 ops h g) (offP P Γ GL ops l outsP h d S) (yg8 P Γ GL ops l outsP h S ⟨d,op,ty,pos,e,g⟩):=by
  rw [runP];simp only
  cases hg:zi3 ops h g with
  |none=>rfl
  |some b =>
    cases b with
    |false=>rfl
    |true =>
      simp only [zon,yg8]
      cases hs:zgr P Γ (zdi GL h) ⟨d,op,ty,pos,e,g⟩ S with
      |none =>
        cases op with
        |call c =>
          obtain ⟨cal,args,tys⟩:=c
          cases cal with
          |value f=>simp [zcm] at hc
          |_=>rfl
        |_=>rfl
      |some r =>
        cases op with
        |call c =>
          obtain ⟨cal,args,tys⟩:=c
          cases cal with
          |value f=>simp [zcm] at hc
          |_=>rfl
        |_=>rfl
theorem ycl {op:Op} (hc:zcm op=false):runP P Γ GL ops (⟨d,op,ty,pos,e,none⟩ :: l) h S outsP=ygj (zgr P Γ (zdi GL h) ⟨d,op,ty,pos,e,none⟩ S) (yhb P Γ GL ops l outsP h d S):=by
  rw [z6v hc];rfl
theorem ycm {op:Op} {j:Nat} {w:Bool} (hc:zcm op=false):runP P Γ GL ops (⟨d,op,ty,pos,e,some (j,w)⟩ :: l) h S outsP=zon (zpg (zpr ops h j) w) (offP P Γ GL ops l outsP h d S) (yg8 P Γ GL ops l outsP h S ⟨d,op,ty,pos,e,some (j,w)⟩):=by
  rw [z6v hc,zjs]
def yhu (p:Option Prop) (k:Option (Prop×(Nat->T))):Option (Prop×(Nat->T)):=match p,k with
  |some p,some (q,h)=>some (p/\q,h)
  |_,_=>none
theorem zxy {p q:Prop}:yhu (some p) (some (q,h))=some (p/\q,h):=ge rfl rfl
def z88 (P:gw) (Γ:Env) (GL:List (Nat×List Value)) (ops l:List Oper) (outs:List T) (h:Nat->T) (S:TS) (d:Option Tmp) (f:gg) (args:List gg) (r:T) (_:Unit):Option (Prop×(Nat->T)):=yhu (z5x P Γ GL S (args.map (zdi GL h)) (zdi GL h f) r) (runP P Γ GL ops l (putT h d r) S outs)
theorem z3u {u:Unit} {f:gg} {args:List gg} {r:T}:z88 P Γ GL ops l outsP h S d f args r u=yhu (z5x P Γ GL S (args.map (zdi GL h)) (zdi GL h f) r) (runP P Γ GL ops l (putT h d r) S outsP):=ge rfl rfl
theorem zxg {f:gg} {args:Array gg} {tys:Array gu} {r:T}:runP P Γ GL ops (⟨d,.call ⟨.value f,args,tys⟩,ty,pos,e,g⟩ :: l) h S (r :: outsP)=zon (zi3 ops h g) (offP P Γ GL ops l (r :: outsP) h d S) (z88 P Γ GL ops l outsP h S d f args.toList r):=by
  rw [runP];simp only
  cases hg:zi3 ops h g with
  |none=>rfl
  |some b =>
    cases b with
    |false=>rfl
    |true =>
      simp only [zon,z88]
      cases z5x P Γ GL S (args.toList.map (zdi GL h)) (zdi GL h f) r with
      |none=>rfl
      |some p=>cases runP P Γ GL ops l (putT h d r) S outsP<;>rfl
theorem z1k {f:gg} {args:Array gg} {tys:Array gu} {r:T}:runP P Γ GL ops (⟨d,.call ⟨.value f,args,tys⟩,ty,pos,e,none⟩ :: l) h S (r :: outsP)=yhu (z5x P Γ GL S (args.toList.map (zdi GL h)) (zdi GL h f) r) (runP P Γ GL ops l (putT h d r) S outsP):=by
  rw [zxg];rfl
theorem zt9 {f:gg} {args:Array gg} {tys:Array gu} {r:T} {j:Nat} {w:Bool}:runP P Γ GL ops (⟨d,.call ⟨.value f,args,tys⟩,ty,pos,e,some (j,w)⟩ :: l) h S (r :: outsP)=zon (zpg (zpr ops h j) w) (offP P Γ GL ops l (r :: outsP) h d S) (z88 P Γ GL ops l outsP h S d f args.toList r):=by
  rw [zxg,zjs]
theorem zt8 {f:gg} {args:Array gg} {tys:Array gu} {j:Nat} {w:Bool}:runP P Γ GL ops (⟨d,.call ⟨.value f,args,tys⟩,ty,pos,e,some (j,w)⟩ :: l) h S []=zon (zpg (zpr ops h j) w) (offP P Γ GL ops l [] h d S) (fun _=>none):=by
  rw [runP];simp only [zjs]
  cases zpg (zpr ops h j) w with
  |none=>rfl
  |some b=>cases b<;>rfl
theorem z87 {k:Nat} {first cap args:List T} {r:T}:z5x P Γ GL S args (.fn k first cap) r=some (zaj P Γ GL k (first++args++cap) S r):=ge rfl rfl
theorem zbb {t u:Nat} {v:T}:tupd h t v u=if u=t then v else h u:=ge rfl rfl
theorem yda {t:Tmp} {v:T}:putT h (some t) v=tupd h t v:=ge rfl rfl
theorem ydb {v:T}:putT h none v=h:=ge rfl rfl
theorem zqo {t:Tmp}:zdi GL h (.tmp t)=h t:=ge rfl rfl
theorem zjk {v:Value}:zdi GL h (.const v)=znt v:=ge rfl rfl
theorem ye9 {f:Nat}:zdi GL h (.func f)=.fn f [] []:=ge rfl rfl
theorem z29 {f:Nat}:zdi GL h (.global f)=ye1 GL f:=ge rfl rfl
theorem yjt {k:i4} {n:Int}:znt (.int k n)=.int k n:=ge rfl rfl
theorem zl5 {b:Bool}:znt (.bool b)=.bool b:=ge rfl rfl
theorem yjs {b:ByteArray}:znt (.string b)=.str b:=ge rfl rfl
theorem yd9:znt (.slice none 0 0)=.nils:=ge rfl rfl
theorem yea:znt (.pointer none)=.nilp:=ge rfl rfl
theorem yeb:znt (.map none)=.nilm:=ge rfl rfl
theorem yec:znt .nilFunc=.nilf:=ge rfl rfl
theorem zwq {t:T}:zh4 S (some t)=some (t,S):=ge rfl rfl
theorem zwr:ya8 (some S)=some (.junk,S):=ge rfl rfl
-- which operations are calls
theorem yer {x}:zcm (.move x)=false:=ge rfl rfl
theorem z2u {x}:zcm (.assign x)=false:=ge rfl rfl
theorem yeq {a b c}:zcm (.pick a b c)=false:=ge rfl rfl
theorem z75 {x}:zcm (.alloc x)=false:=ge rfl rfl
theorem yj0 {x y}:zcm (.box x y)=false:=ge rfl rfl
theorem z74 {x y}:zcm (.build x y)=false:=ge rfl rfl
theorem zcd {x y z}:zcm (.buildSlice x y z)=false:=ge rfl rfl
theorem yes {x y}:zcm (.load x y)=false:=ge rfl rfl
theorem z70 {x y z}:zcm (.store x y z)=false:=ge rfl rfl
theorem zu8 {x}:zcm (.nilCheck x)=false:=ge rfl rfl
theorem yj1 {x y z w v}:zcm (.binOp x y z w v)=false:=ge rfl rfl
theorem yo3 {x y z}:zcm (.unOp x y z)=false:=ge rfl rfl
theorem yeu {x y z}:zcm (.convert x y z)=false:=ge rfl rfl
theorem yjz {x y}:zcm (.sliceToArrayPointer x y)=false:=ge rfl rfl
theorem zu9 {x y z}:zcm (.makeFunc x y z)=false:=ge rfl rfl
theorem zbr {x y z w}:zcm (.lookup x y z w)=false:=ge rfl rfl
theorem za9 {x y}:zcm (.makeMap x y)=false:=ge rfl rfl
theorem zaz {x y z w}:zcm (.mapUpdate x y z w)=false:=ge rfl rfl
theorem zbs {x y z w}:zcm (.insert x y z w)=false:=ge rfl rfl
theorem zr9 {x y z}:zcm (.makeSlice x y z)=false:=ge rfl rfl
theorem z71 {x y z w v}:zcm (.slice x y z w v)=false:=ge rfl rfl
theorem zsb {x y z}:zcm (.fieldAddr x y z)=false:=ge rfl rfl
theorem z73 {x y z}:zcm (.field x y z)=false:=ge rfl rfl
theorem zsa {x y z}:zcm (.indexAddr x y z)=false:=ge rfl rfl
theorem z72 {x y z}:zcm (.index x y z)=false:=ge rfl rfl
theorem zyc {x y}:zcm (.extract x y)=false:=ge rfl rfl
theorem zyd {b x y}:zcm (.call ⟨.builtin b,x,y⟩)=false:=ge rfl rfl
variable {ρ:gg->T} {t t2:gu} {x y z:gg}
theorem ycc  : zgu P Γ own ρ ⟨d,.move x,ty,pos,e,g⟩ S=zh4 S (some (ρ x)):=ge rfl rfl
theorem zgs  : zgr P Γ ρ ⟨d,.move x,ty,pos,e,g⟩ S=some (ρ x):=ge rfl rfl
theorem z1f  : zgu P Γ own ρ ⟨d,.assign x,ty,pos,e,g⟩ S=zh4 S (some (ρ x)):=ge rfl rfl
theorem z1h  : zgr P Γ ρ ⟨d,.assign x,ty,pos,e,g⟩ S=some (ρ x):=ge rfl rfl
theorem ycd  : zgu P Γ own ρ ⟨d,.load t x,ty,pos,e,g⟩ S=zh4 S (ztp Γ S t (ρ x)):=ge rfl rfl
theorem ych  : zgr P Γ ρ ⟨d,.load t x,ty,pos,e,g⟩ S=ztp Γ S t (ρ x):=ge rfl rfl
theorem zr1 {k:Nat}:zgu P Γ own ρ ⟨d,.fieldAddr t x k,ty,pos,e,g⟩ S=zh4 S (zao Γ S t k (ρ x)):=ge rfl rfl
theorem zr3 {k:Nat}:zgr P Γ ρ ⟨d,.fieldAddr t x k,ty,pos,e,g⟩ S=zao Γ S t k (ρ x):=ge rfl rfl
theorem zr0  : zgu P Γ own ρ ⟨d,.indexAddr t x y,ty,pos,e,g⟩ S=zh4 S (zib Γ S t (ρ x) (ρ y)):=ge rfl rfl
theorem zr2  : zgr P Γ ρ ⟨d,.indexAddr t x y,ty,pos,e,g⟩ S=zib Γ S t (ρ x) (ρ y):=ge rfl rfl
theorem z6m  : zgu P Γ own ρ ⟨d,.index t x y,ty,pos,e,g⟩ S=zh4 S (ztq Γ t (ρ x) (ρ y)):=ge rfl rfl
theorem z6q  : zgr P Γ ρ ⟨d,.index t x y,ty,pos,e,g⟩ S=ztq Γ t (ρ x) (ρ y):=ge rfl rfl
theorem zxb {k:Nat}:zgu P Γ own ρ ⟨d,.extract x k,ty,pos,e,g⟩ S=zh4 S (zls k (ρ x)):=ge rfl rfl
theorem zxc {k:Nat}:zgr P Γ ρ ⟨d,.extract x k,ty,pos,e,g⟩ S=zls k (ρ x):=ge rfl rfl
theorem yoe {u:UnOp}:zgu P Γ own ρ ⟨d,.unOp u t x,ty,pos,e,g⟩ S=zh4 S (tUn u (ρ x)):=ge rfl rfl
theorem yof {u:UnOp}:zgr P Γ ρ ⟨d,.unOp u t x,ty,pos,e,g⟩ S=tUn u (ρ x):=ge rfl rfl
theorem yja {b:BinOp}:zgu P Γ own ρ ⟨d,.binOp b t x y t2,ty,pos,e,g⟩ S=zh4 S (tBin P Γ S t b x y (ρ x) (ρ y)):=ge rfl rfl
theorem yjc {b:BinOp}:zgr P Γ ρ ⟨d,.binOp b t x y t2,ty,pos,e,g⟩ S=tBin P Γ S t b x y (ρ x) (ρ y):=ge rfl rfl
theorem z6n {parts:Array (Nat×gg)}:zgu P Γ own ρ ⟨d,.build t parts,ty,pos,e,g⟩ S=zh4 S (zkb Γ ρ t parts.toList):=ge rfl rfl
theorem z6r {parts:Array (Nat×gg)}:zgr P Γ ρ ⟨d,.build t parts,ty,pos,e,g⟩ S=zkb Γ ρ t parts.toList:=ge rfl rfl
theorem z6l {lo hi mx:Option gg}:zgu P Γ own ρ ⟨d,.slice t x lo hi mx,ty,pos,e,g⟩ S=zh4 S (zto Γ S t (ρ x) (lo.map ρ) (hi.map ρ) (mx.map ρ)):=ge rfl rfl
theorem z6p {lo hi mx:Option gg}:zgr P Γ ρ ⟨d,.slice t x lo hi mx,ty,pos,e,g⟩ S=zto Γ S t (ρ x) (lo.map ρ) (hi.map ρ) (mx.map ρ):=ge rfl rfl
theorem zt3 {f:Nat} {a c:Array gg}:zgu P Γ own ρ ⟨d,.makeFunc (.func f) a c,ty,pos,e,g⟩ S=zh4 S (some (.fn f (a.toList.map ρ) (c.toList.map ρ))):=ge rfl rfl
theorem zt4 {f:Nat} {a c:Array gg}:zgr P Γ ρ ⟨d,.makeFunc (.func f) a c,ty,pos,e,g⟩ S=some (.fn f (a.toList.map ρ) (c.toList.map ρ)):=ge rfl rfl
def yg5 (c a b:T):Option T:=match c with|.bool t=>some (bif t then a else b)|_=>none
theorem yc7 {a b:T}:yg5 (.bool true) a b=some a:=ge rfl rfl
theorem yc8 {a b:T}:yg5 (.bool false) a b=some b:=ge rfl rfl
theorem z4l:zgr P Γ ρ ⟨d,.pick z x y,ty,pos,e,g⟩ S=yg5 (ρ z) (ρ x) (ρ y):=by
  show (match ρ z with|.bool t=>some (bif t then ρ x else ρ y)|_=>none)=_;cases ρ z<;>rfl
theorem ycb:zgu P Γ own ρ ⟨d,.pick z x y,ty,pos,e,g⟩ S=zh4 S (yg5 (ρ z) (ρ x) (ρ y)):=by
  show zh4 S (zgr P Γ ρ ⟨d,.pick z x y,ty,pos,e,g⟩ S)=_;rw [z4l]
theorem z6o:zgu P Γ own ρ ⟨d,.alloc t,ty,pos,e,g⟩ S=zw1 Γ S t:=ge rfl rfl
theorem yi9:zgu P Γ own ρ ⟨d,.box t x,ty,pos,e,g⟩ S=tBox S (ρ x):=ge rfl rfl
theorem z6k:zgu P Γ own ρ ⟨d,.store t x y,ty,pos,e,g⟩ S=ya8 (zwz Γ S t (ρ y) (ρ x)):=ge rfl rfl
theorem zrz:zgu P Γ own ρ ⟨d,.makeSlice t x y,ty,pos,e,g⟩ S=zjn Γ S t (ρ x) (ρ y):=ge rfl rfl
theorem yce:zgu P Γ own ρ ⟨d,.convert t t2 x,ty,pos,e,g⟩ S=bif ownD own d then zsv Γ S t t2 (ρ x) else zh4 S (zru Γ S t t2 (ρ x)):=ge rfl rfl
theorem yci:zgr P Γ ρ ⟨d,.convert t t2 x,ty,pos,e,g⟩ S=zru Γ S t t2 (ρ x):=ge rfl rfl
theorem zai {n:Nat} {parts:Array (Nat×gg)}:zgu P Γ own ρ ⟨d,.buildSlice t n parts,ty,pos,e,g⟩ S=bif ownD own d then zar Γ S ρ t n parts.toList else zh4 S (zam Γ ρ t n parts.toList):=ge rfl rfl
theorem zap {n:Nat} {parts:Array (Nat×gg)}:zgr P Γ ρ ⟨d,.buildSlice t n parts,ty,pos,e,g⟩ S=zam Γ ρ t n parts.toList:=ge rfl rfl
theorem yjb:zgr P Γ ρ ⟨d,.call ⟨.builtin .len,#[x],#[t]⟩,ty,pos,e,g⟩ S=tLen Γ S t (ρ x):=ge rfl rfl
theorem yi8:zgu P Γ own ρ ⟨d,.call ⟨.builtin .len,#[x],#[t]⟩,ty,pos,e,g⟩ S=zh4 S (tLen Γ S t (ρ x)):=ge rfl rfl
theorem z1g:zgu P Γ own ρ ⟨d,.call ⟨.builtin .append,#[x,y],#[t,t2]⟩,ty,pos,e,g⟩ S=bif srcT Γ t2 then zmu Γ S t (ρ y) (ρ x) else none:=ge rfl rfl
theorem ygr:zgu P Γ own ρ ⟨d,.call ⟨.builtin .clear,#[x],#[t]⟩,ty,pos,e,g⟩ S=ztr Γ S t (ρ x):=ge rfl rfl
def minT (a b:T):Option T:=match a,b with|.int k a,.int _ b=>some (.int k (min a b))|_,_=>none
def maxT (a b:T):Option T:=match a,b with|.int k a,.int _ b=>some (.int k (max a b))|_,_=>none
theorem z7n {k k':i4} {a b:Int}:minT (.int k a) (.int k' b)=some (.int k (min a b)):=ge rfl rfl
theorem z7o {k k':i4} {a b:Int}:maxT (.int k a) (.int k' b)=some (.int k (max a b)):=ge rfl rfl
theorem ycf {tys:Array gu}:zgr P Γ ρ ⟨d,.call ⟨.builtin .min,#[x,y],tys⟩,ty,pos,e,g⟩ S=minT (ρ x) (ρ y):=by
  show (match ρ x,ρ y with|.int k a,.int _ b=>some (fl k (min a b))|_,_=>none)=_;cases ρ x<;>cases ρ y<;>rfl
theorem yi6 {tys:Array gu}:zgu P Γ own ρ ⟨d,.call ⟨.builtin .min,#[x,y],tys⟩,ty,pos,e,g⟩ S=zh4 S (minT (ρ x) (ρ y)):=by
  show zh4 S (zgr P Γ ρ ⟨d,.call ⟨.builtin .min,#[x,y],tys⟩,ty,pos,e,g⟩ S)=_;rw [ycf]
theorem ycg {tys:Array gu}:zgr P Γ ρ ⟨d,.call ⟨.builtin .max,#[x,y],tys⟩,ty,pos,e,g⟩ S=maxT (ρ x) (ρ y):=by
  show (match ρ x,ρ y with|.int k a,.int _ b=>some (fl k (max a b))|_,_=>none)=_;cases ρ x<;>cases ρ y<;>rfl
theorem yi7 {tys:Array gu}:zgu P Γ own ρ ⟨d,.call ⟨.builtin .max,#[x,y],tys⟩,ty,pos,e,g⟩ S=zh4 S (maxT (ρ x) (ρ y)):=by
  show zh4 S (zgr P Γ ρ ⟨d,.call ⟨.builtin .max,#[x,y],tys⟩,ty,pos,e,g⟩ S)=_;rw [ycg]
theorem yi1 {b:BinOp} {k k':i4} {m n:Int}:tBin P Γ S t b x y (.int k m) (.int k' n)=zbq b k k' m n:=ge rfl rfl
theorem yi0 {b:BinOp} {m n:ByteArray}:tBin P Γ S t b x y (.str m) (.str n)=zw2 b m n:=ge rfl rfl
theorem yi4 {m n:ByteArray}:zw2 .eql m n=some (.bool (decide (m=n))):=ge rfl rfl
theorem yi3 {m n:ByteArray}:zw2 .neq m n=some (.bool (!decide (m=n))):=ge rfl rfl
theorem yiy {b:Bool}:tUn .not (.bool b)=some (.bool (!b)):=ge rfl rfl
theorem yiz {k:i4} {n:Int}:tUn .neg (.int k n)=some (.int k (k.wrap (0 - n))):=ge rfl rfl
end
section
variable {k:i4} {a b:Int}
theorem yka:zbq .add k k a b=some (.int k (k.wrap (a+b))):=by simp [zbq]
theorem yj2:zbq .sub k k a b=some (.int k (k.wrap (a - b))):=by simp [zbq]
theorem yj4:zbq .mul k k a b=some (.int k (k.wrap (a*b))):=by simp [zbq]
theorem yj9:zbq .eql k k a b=some (.bool (decide (a=b))):=by simp [zbq]
theorem yj3:zbq .neq k k a b=some (.bool (decide (a≠b))):=by simp [zbq]
theorem yj5:zbq .lss k k a b=some (.bool (decide (a<b))):=by simp [zbq]
theorem yj6:zbq .leq k k a b=some (.bool (decide (a<=b))):=by simp [zbq]
theorem yj7:zbq .gtr k k a b=some (.bool (decide (b<a))):=by simp [zbq]
theorem yj8:zbq .geq k k a b=some (.bool (decide (b<=a))):=by simp [zbq]
theorem zgb (ha:0<=a) (hb:0<b):zbq .quo k k a b=some (.int k (k.wrap (a / b))):=by
  simp only [zbq,jf,cond_true];rw [zAd (by omega),Int.tdiv_eq_ediv_of_nonneg ha]
theorem zga (ha:0<=a) (hb:0<b):zbq .rem k k a b=some (.int k (a % b)):=by
  simp only [zbq,jf,cond_true];rw [zAd (by omega),Int.tmod_eq_emod_of_nonneg ha]
theorem yo7:zbq .and k k a b=some (.int k (k.wrap (jd k.bits a &&& jd k.bits b).toNat)):=by simp [zbq]
theorem ib_or:zbq .or k k a b=some (.int k (k.wrap (jd k.bits a ||| jd k.bits b).toNat)):=by simp [zbq]
theorem yo4:zbq .xor k k a b=some (.int k (k.wrap (jd k.bits a ^^^ jd k.bits b).toNat)):=by simp [zbq]
theorem yo6 {k':i4} (hb:0<=b):zbq .shl k k' a b=some (.int k (k.wrap (a*2 ^ (min b.toNat k.bits)))):=by simp [zbq,hb]
theorem yo5 {k':i4} (hb:0<=b):zbq .shr k k' a b=some (.int k (a.fdiv (2 ^ (min b.toNat k.bits)))):=by simp [zbq,hb]
theorem wr64 {n:Int} (h:-9223372036854775808<=n/\n<=9223372036854775807):IntKind.i64.wrap n=n:=ymv h
theorem ydu {n:Int} (h:0<=n):natT (.int k n)=some n.toNat:=by
  obtain ⟨m,rfl⟩:=jz h;rfl
theorem ydv {n:Int} (h:0<=n):zhx (.int k n)=some n.toNat:=by
  obtain ⟨m,rfl⟩:=jz h;rfl
theorem zxm {n:Int}:zem (.int k n)=.int k n:=ge rfl rfl
theorem yhy {α:Type} [Inhabited α] {L:List α} {n:Nat} (h:n<L.length):L[n]?=some (L.getD n default):=by
  rw [fy,fp h];rfl
def stL (l:List Box):TS:=⟨l.length,fun i=>l.getD i .gone⟩
theorem ztk:ts0=stL []:=rfl
theorem st_n (l:List Box):(stL l).n=l.length:=rfl
theorem yi2 (l:List Box) (i:Nat):(stL l).box i=l.getD i .gone:=rfl
theorem z05 (l:List Box) (x:Box):(stL l).add x=stL (l++[x]):=by
  unfold stL TS.add;simp only [f7,gp,jk];congr 1;funext i;by_cases hi:i<l.length
  . rw [zAd (by omega),fy,fy,gq hi]
  . by_cases he:i=l.length
    . subst he;rw [zAc rfl];simp
    . rw [zAd he,fy,fy,kb (by omega),kb (by simp;omega)]
theorem zd0 (l:List Box) (b:Nat) (x:Box) (h:b<l.length):(stL l).set b x=stL (l.set b x):=by
  unfold stL TS.set;simp only [List.length_set];congr 1;funext i;rw [fy,fy,List.getElem?_set];by_cases hi:i=b
  . subst hi;rw [zAc rfl,zAc rfl,zAc h];rfl
  . rw [zAd hi,zAd (fun hh=>hi hh.symm)]
theorem z2x {α:Type} (x d:α) (l:List α):(x :: l).getD 0 d=x:=rfl
theorem z2y {α:Type} (x d:α) (l:List α) (n:Nat):(x :: l).getD (n+1) d=l.getD n d:=rfl
end
def zi9 (l:List Nat) (h:Nat->T):Nat->T:=fun t=>if t∈l then h t else .junk
def zf8:List Nat->Nat->(Nat->T)->Prop
  |[],_,_=>True
  |t :: l,n,h=>(h t).ids n=true/\zf8 l n h
theorem zo7 {n:Nat} {h:Nat->T}:∀ {l:List Nat},zf8 l n h->∀ t,t∈l->(h t).ids n=true
  |[],_,t,ht=>by simp at ht
  |x :: l,k,t,ht=>by
    rcases List.mem_cons.1 ht with rfl|ht
    . exact k.1
    . exact zo7 k.2 t ht
def zd7 (n:Nat):List Box->Bool
  |[]=>true
  |b :: l=>zh2 n b && zd7 n l
theorem yl7 {l:List T} {i:Nat} {x:T} (h:i<l.length):spl l i [x]=l.set i x:=by
  unfold spl;rw [List.set_eq_take_append_cons_drop,zAc h];simp
theorem ymb {α:Type} {L:List α} {f:α->T} {i:Nat} {v:α}:(L.map f).set i (f v)=(L.set i v).map f:=(List.map_set).symm
theorem yma {l:List T}:spl l 0 []=l:=by simp [spl]
theorem yn9 {a:T} {l xs:List T} {n:Nat}:spl (a :: l) (n+1) xs=a :: spl l n xs:=by
  unfold spl;rw [show n+1+xs.length=(n+xs.length)+1 by omega];simp
theorem yoa {a x:T} {l xs:List T}:spl (a :: l) 0 (x :: xs)=x :: spl l 0 xs:=by simp [spl]
theorem yl8 {α:Type} {L:List α} {f:α->T} {i:Nat} {v:α} (h:i<L.length):spl (L.map f) i [f v]=(L.set i v).map f:=by
  rw [yl7 (by rw [fw];exact h),ymb]
theorem ycr (n:Nat) (k:i4) (z:Int):rep n [.int k z]=(List.replicate n z).map (fl k):=by
  unfold rep
  induction n with
  |zero=>rfl
  |succ n ih=>rw [jh,ir,ih,jh];rfl
theorem z6z (n:Nat) (z:Bool):rep n [.bool z]=(List.replicate n z).map sx:=by
  unfold rep
  induction n with
  |zero=>rfl
  |succ n ih=>rw [jh,ir,ih,jh];rfl
theorem zj8 {α:Type} {L:List α} {f:α->T} (h:∀ x,(f x).cells=[f x]):(L.map f).flatMap jj=L.map f:=by
  induction L with
  |nil=>rfl
  |cons x l ih=>rw [ja,jg,h,ih];rfl
theorem z7q {α:Type} {S:TS} {b N:Nat} {z:Bool} {L:List α} {f:α->T} (h1:∀ x,(f x).cells=[f x]) (hS:S.box b=.cells z N (L.map f)) (hl:L.length=N):yip S (.arr b 1 0 N N N) (.lst 1 (L.map f)) :=
  .inr ⟨b,1,0,N,N,N,z,L.map f,L.map f,rfl,rfl,hS,by omega,by omega,by rw [gt,qo,il (by rw [fw];omega),zj8 h1],fun t ht=>by obtain ⟨x,_,rfl⟩:=jq.1 ht;rw [h1];rfl,by rw [fw];exact hl,fx _⟩
section
variable {GL:List (Nat×List Value)} {A A' A2:Nat->Prop} {β β' β2:Bx} {S S' S2:TS} {s s' s2:CS} {P:gw} {Γ:Env} {N:Nat} {h h' h2:Nat->T} {Q R:Exit->(Nat->T)->TS->Prop}
theorem zkh {l:List Nat} {t:Nat} (ht:t∈l):zi9 l h t=h t:=zAc ht
theorem znv {n:Nat} {l:List Box}:∀ {i:Nat},zd7 n l=true->zh2 n (l.getD i .gone)=true:=by
  induction l with
  |nil=>intro i _;rfl
  |cons b l ih =>
    intro i h;simp only [zd7,fo] at h
    cases i with
    |zero=>exact h.1
    |succ i=>exact ih h.2
theorem Left.trim {fr fr':Fr} {keep:List Nat} {bs bs2 extra:List Box} (hT:TRel GL A β (stL bs) s) (k:Left GL A β s N fr' s' h' (stL (bs2++extra))) (hl:bs2.length=bs.length) (hb:zd7 bs.length bs2=true) (hk:zf8 keep bs.length h'):Left GL A β s N fr' s' (zi9 keep h') (stL bs2):=by
  obtain ⟨A',β',k1,k2,k3⟩:=k;have hat:∀ b,b<bs.length->bcut β' bs.length b=β' b:=fun b hb=>zAc hb
  have hsub:∀ b l,bcut β' bs.length b=some l->β' b=some l:=fun b l h=>by
    unfold bcut at h;split at h
    . exact h
    . simp at h
  have hkp:zrr (stL (bs2++extra)) (stL bs2):=by
    refine ⟨by simp [stL],fun b=>?_⟩;by_cases hbl:b<bs2.length
    . refine .inr ⟨hbl,?_,?_⟩
      . show bs2.getD b .gone=(bs2++extra).getD b .gone;rw [fy,fy,gq hbl]
      . show zh2 bs2.length ((bs2++extra).getD b .gone)=true;rw [fy,gq hbl,<- fy,hl];exact znv hb
    . left;show bs2.getD b .gone=.gone;rw [fy,kb (by omega)];rfl
  have hcut:=k2.cut hkp;have hn:(stL bs2).n=bs.length:=hl;rw [hn] at hcut;refine ⟨A',bcut β' bs.length,⟨k1.nt,k1.le,fun t=>?_⟩,hcut,k3.can,k3.sub,k3.new,fun f hf=>?_,k3.keep,fun b l hb'=>?_,k3.rd,k3.wr⟩
  . by_cases ht:t∈keep
    . rw [zkh ht];exact (k1.slot t).ids hat (zo7 hk t ht)
    . rw [show zi9 keep h' t=.junk from zAd ht];exact .junk _
  . obtain ⟨b,hb'⟩:=hf;exact k3.own f ⟨b,hb'.imp (fun ⟨u,N,h⟩=>⟨u,N,hsub _ _ h⟩) fun h=>hsub _ _ h⟩
  . obtain ⟨l',c1,c2⟩:=k3.bx b l hb'
    have:b<bs.length:=by
      by_cases hh:b<bs.length
      . exact hh
      . rw [hT.next b (by show bs.length<=b;omega)] at hb';simp at hb'
    exact ⟨l',by rw [hat b this];exact c1,c2⟩
def ypt (keep:List Nat) (n:Nat) (I:Nat->(Nat->T)->List Box->Prop) (m0:Nat) (h':Nat->T) (S':TS):Prop :=
  ∃ m,m<m0/\∃ bs',S'=stL bs'/\n<=bs'.length/\zd7 n (bs'.take n)=true/\zf8 keep n h'/\I m (zi9 keep h') (bs'.take n)
theorem TW.loopT {b:Code} (keep:List Nat) (I:Nat->(Nat->T)->List Box->Prop) (hb:∀ m h bs,I m h bs->TW P Γ GL N b h (stL bs) (onT (fun h' S'=>ypt keep bs.length I m h' S') Q)):∀ m h bs,I m h bs->TW P Γ GL N (.loop b) h (stL bs) Q:=by
  intro m
  induction m using Nat.strongRecOn with
  |_ m ih =>
    intro h bs hI A β fr s hF hT;obtain ⟨e,fr1,s1,h1,h',S',hleft,hq⟩:=hb m h bs hI A β fr s hF hT
    cases e with
    |normal =>
      obtain ⟨m2,hm,bs',rfl,hl,hbi,hki,hI'⟩:=hq;have hl2:=Left.trim (fr:=fr) (keep:=keep) (bs2:=bs'.take bs.length) (extra:=bs'.drop bs.length) hT (by rw [je];exact hleft) (by rw [iu];omega) hbi hki;obtain ⟨A',β',k1,k2,k3⟩:=hl2;obtain ⟨e2,fr2,s2,h3,h2,S2,l2,q2⟩:=ih m2 hm _ _ hI' A' β' fr1 s1 k1 k2;exact ⟨e2,fr2,s2,Ev.again h1 h3,h2,S2,Left.trans (h':=h) (fr':=fr) hT.le k3 l2,q2⟩
    |_=>exact ⟨_,_,_,Ev.last h1 (by simp),h',S',hleft,hq⟩
def Ends (keep:List Nat) (n:Nat) (R:(Nat->T)->List Box->Prop) (h':Nat->T) (S':TS):Prop :=
  ∃ bs',S'=stL bs'/\n<=bs'.length/\zd7 n (bs'.take n)=true/\zf8 keep n h'/\R (zi9 keep h') (bs'.take n)
theorem TRel.freezeP (hT:TRel GL A β S s) {b M:Nat} {z:Bool} {l:List T} (hS:S.box b=.cells z M l) :
    ∃ A' β',TRel GL A' β' (S.set b .gone) s/\Stp A β s A' β' s/\∀ {v:Value},VT A β (zaa s.obj) (.ptr b 0 M) v->VT A' β' (zaa s.obj) (.cp l) v:=by
  obtain ⟨hlN,hc⟩:=hT.cells b z M l hS;rcases hc with ⟨hb,hN,_⟩|⟨f,u,cs,rest,hb,hz,hat,hvl,hone⟩
  . obtain ⟨k1,k2⟩:=hT.dead hb A (fun _ h=>h) (fun _ h=>.inl h);refine ⟨_,_,k1,k2,fun {v} hv=>?_⟩;obtain ⟨f,u,rfl,hb'⟩:=zkr hT hS hv;rw [hb] at hb';simp at hb'
  . obtain ⟨k1,k2⟩:=hT.dead hb (fun k=>A k\/k=f) (fun _ h=>.inl h) (fun k hk=>hk.imp id fun q=>by rw [q];rfl);refine ⟨_,_,k1,k2,fun {v} hv=>?_⟩;obtain ⟨f',u',rfl,hb'⟩:=zkr hT hS hv;rw [hb] at hb';cases hb'
    have hrow:zbp (zaa s.obj f).rows u=some cs:=by
      rw [hat];show zbp ((u,cs) :: rest) u=some cs;unfold zbp;rw [jf];rfl
    exact .cp (.inr rfl) hrow (hvl.mono (fun _ h=>.inl h) (fun _ _=>rfl) k2.bx) (by rw [gt,l8])
theorem TW.freezeP {c:Code} (t:Nat) {b M:Nat} {z:Bool} {l:List T} (ht:h t=.ptr b 0 M) (hS:S.box b=.cells z M l) (k:TW P Γ GL N c (tupd h t (.cp l)) (S.set b .gone) Q):TW P Γ GL N c h S Q:=by
  intro A β fr s hF hT;obtain ⟨A',β',k1,k2,k3⟩:=hT.freezeP hS;have hv:=hF.slot t;rw [ht] at hv
  have hF':FrOk A' β' (zaa s.obj) N (tupd h t (.cp l)) fr:=⟨hF.nt,hF.le,fun u=>by
    by_cases hu:u=t
    . subst hu;rw [zhk];exact k3 hv
    . rw [zlr _ _ _ _ hu];exact k2.vt hT (hF.slot u)⟩
  refine (k A' β' fr s hF' k1).mono ?_;rintro e2 fr2 s2 ⟨h2,S2,l2,q2⟩;exact ⟨h2,S2,Left.trans (h':=h) (fr':=fr) hT.le k2 l2,q2⟩
theorem TW.cut {a:Code} {k:(Nat->T)->TS->Prop} (keep:List Nat) {bs:List Box} (R:(Nat->T)->List Box->Prop) (hR:TW P Γ GL N a h (stL bs) fun e h' S'=>e=.normal/\Ends keep bs.length R h' S') (hk:∀ h bs2,R h bs2->k h (stL bs2)):TW P Γ GL N a h (stL bs) (onT k Q):=by
  intro A β fr s hF hT;obtain ⟨e,fr1,s1,h1,h',S',hleft,rfl,bs',rfl,hl,hbi,hki,hq⟩:=hR A β fr s hF hT;exact ⟨_,fr1,s1,h1,_,_,Left.trim (fr:=fr) (keep:=keep) (bs2:=bs'.take bs.length) (extra:=bs'.drop bs.length) hT (by rw [je];exact hleft) (by rw [iu];omega) hbi hki,hk _ _ hq⟩
end
theorem zs3 {k:i4} {n:Int}:nl (fl k n)=true:=ge rfl rfl
theorem z82 {k:i4} {n:Int}:jj (fl k n)=[(fl k n)]:=ge rfl rfl
theorem zp2 {b:Bool}:nl (sx b)=true:=ge rfl rfl
theorem z3t {b:Bool}:jj (sx b)=[(sx b)]:=ge rfl rfl
theorem zs0 {b:ByteArray}:nl (pl b)=true:=ge rfl rfl
theorem z8z {b:ByteArray}:jj (pl b)=[(pl b)]:=ge rfl rfl
theorem zs1 {e:Nat} {l:List T}:nl (T.lst e l)=true:=ge rfl rfl
theorem z81 {e:Nat} {l:List T}:jj (T.lst e l)=[(T.lst e l)]:=ge rfl rfl
theorem z11  : nl (T.nils)=true:=ge rfl rfl
theorem z3n  : jj (T.nils)=[(T.nils)]:=ge rfl rfl
theorem z12  : nl (T.nilp)=true:=ge rfl rfl
theorem z3o  : jj (T.nilp)=[(T.nilp)]:=ge rfl rfl
theorem z13  : nl (T.nilm)=true:=ge rfl rfl
theorem z3p  : jj (T.nilm)=[(T.nilm)]:=ge rfl rfl
theorem z14  : nl (T.nilf)=true:=ge rfl rfl
theorem z3q  : jj (T.nilf)=[(T.nilf)]:=ge rfl rfl
theorem z7e {b o n:Nat}:nl (T.ptr b o n)=true:=ge rfl rfl
theorem z80 {b o n:Nat}:jj (T.ptr b o n)=[(T.ptr b o n)]:=ge rfl rfl
theorem ydk {l:List T}:nl (T.cp l)=true:=ge rfl rfl
theorem yfs {l:List T}:jj (T.cp l)=[(T.cp l)]:=ge rfl rfl
theorem z7g {b e o l c n:Nat}:nl (T.arr b e o l c n)=true:=ge rfl rfl
theorem z84 {b e o l c n:Nat}:jj (T.arr b e o l c n)=[(T.arr b e o l c n)]:=ge rfl rfl
theorem ydi {b:Nat}:nl (T.mp b)=true:=ge rfl rfl
theorem yfq {b:Nat}:jj (T.mp b)=[(T.mp b)]:=ge rfl rfl
theorem ydj {f:Nat} {a c:List T}:nl (T.fn f a c)=true:=ge rfl rfl
theorem yfr {f:Nat} {a c:List T}:jj (T.fn f a c)=[(T.fn f a c)]:=ge rfl rfl
theorem z7f {e:Nat}:nl (T.emp e)=true:=ge rfl rfl
theorem z83 {e:Nat}:jj (T.emp e)=[(T.emp e)]:=ge rfl rfl
theorem yls {k:i4}:aggT (.int k)=false:=ge rfl rfl
theorem ylt  : aggT .bool=false:=ge rfl rfl
theorem ylo  : aggT .string=false:=ge rfl rfl
theorem ylr {k:gu}:aggT (.slice k)=false:=ge rfl rfl
theorem ylp {k:gu}:aggT (.pointer k)=false:=ge rfl rfl
theorem ylq {k k2:gu}:aggT (.map k k2)=false:=ge rfl rfl
theorem b0:type_of% (fh (fh (fh (fh (fh (@ycj) (@yck)) (fh (@z1j) (@zt7))) (fh (fh (@zt6) (@z6s)) (fh (@ydo) (@yjr)))) (fh (fh (fh (@ydl) (@z89)) (fh (@ycl) (@ycm))) (fh (fh (@z1k) (@zt9)) (fh (@zt8) (@z6u))))) (fh (fh (fh (fh (@z7l) (@ydm)) (fh (@z7h) (@z3u))) (fh (fh (@ya9) (@yba)) (fh (@ybc) (@ybd)))) (fh (fh (fh (@ybb) (@zw4)) (fh (@zw5) (@ye2))) (fh (fh (@z78) (@z00)) (fh (@zwv) (@z2l)))))):=fh (fh (fh (fh (fh (@ycj) (@yck)) (fh (@z1j) (@zt7))) (fh (fh (@zt6) (@z6s)) (fh (@ydo) (@yjr)))) (fh (fh (fh (@ydl) (@z89)) (fh (@ycl) (@ycm))) (fh (fh (@z1k) (@zt9)) (fh (@zt8) (@z6u))))) (fh (fh (fh (fh (@z7l) (@ydm)) (fh (@z7h) (@z3u))) (fh (fh (@ya9) (@yba)) (fh (@ybc) (@ybd)))) (fh (fh (fh (@ybb) (@zw4)) (fh (@zw5) (@ye2))) (fh (fh (@z78) (@z00)) (fh (@zwv) (@z2l)))))
theorem b1:type_of% (fh (fh (fh (fh (fh (@zxy) (@z85)) (fh (@z87) (@yda))) (fh (fh (@ydb) (@zqo)) (fh (@zjk) (@ye9)))) (fh (fh (fh (@z29) (@yjt)) (fh (@zl5) (@yjs))) (fh (fh (@yd9) (@yea)) (fh (@yeb) (@yec))))) (fh (fh (fh (fh (@zwq) (@zwr)) (fh (@yer) (@z2u))) (fh (fh (@yeq) (@z75)) (fh (@yj0) (@z74)))) (fh (fh (fh (@zcd) (@yes)) (fh (@z70) (@zu8))) (fh (fh (@yj1) (@yo3)) (fh (@yeu) (@yjz)))))):=fh (fh (fh (fh (fh (@zxy) (@z85)) (fh (@z87) (@yda))) (fh (fh (@ydb) (@zqo)) (fh (@zjk) (@ye9)))) (fh (fh (fh (@z29) (@yjt)) (fh (@zl5) (@yjs))) (fh (fh (@yd9) (@yea)) (fh (@yeb) (@yec))))) (fh (fh (fh (fh (@zwq) (@zwr)) (fh (@yer) (@z2u))) (fh (fh (@yeq) (@z75)) (fh (@yj0) (@z74)))) (fh (fh (fh (@zcd) (@yes)) (fh (@z70) (@zu8))) (fh (fh (@yj1) (@yo3)) (fh (@yeu) (@yjz)))))
theorem b2:type_of% (fh (fh (fh (fh (fh (@zu9) (@zr9)) (fh (@z71) (@zsb))) (fh (fh (@z73) (@zsa)) (fh (@z72) (@zyc)))) (fh (fh (fh (@zyd) (@ycc)) (fh (@zgs) (@z1f))) (fh (fh (@z1h) (@ycd)) (fh (@ych) (@zgs))))) (fh (fh (fh (fh (@zgs) (@zgs)) (fh (@zgs) (@zr1))) (fh (fh (@zr3) (@zgs)) (fh (@zgs) (@zr0)))) (fh (fh (fh (@zr2) (@z6m)) (fh (@z6q) (@zxb))) (fh (fh (@zxc) (@yoe)) (fh (@yof) (@yja)))))):=fh (fh (fh (fh (fh (@zu9) (@zr9)) (fh (@z71) (@zsb))) (fh (fh (@z73) (@zsa)) (fh (@z72) (@zyc)))) (fh (fh (fh (@zyd) (@ycc)) (fh (@zgs) (@z1f))) (fh (fh (@z1h) (@ycd)) (fh (@ych) (@zgs))))) (fh (fh (fh (fh (@zgs) (@zgs)) (fh (@zgs) (@zr1))) (fh (fh (@zr3) (@zgs)) (fh (@zgs) (@zr0)))) (fh (fh (fh (@zr2) (@z6m)) (fh (@z6q) (@zxb))) (fh (fh (@zxc) (@yoe)) (fh (@yof) (@yja)))))
theorem b3:type_of% (fh (fh (fh (fh (fh (@yjc) (@z6n)) (fh (@z6r) (@z6l))) (fh (fh (@z6p) (@zt3)) (fh (@zt4) (@ycb)))) (fh (fh (fh (@z4l) (@yce)) (fh (@yci) (@zai))) (fh (fh (@zap) (@yi8)) (fh (@yjb) (@yi6))))) (fh (fh (fh (fh (@ycf) (@yi7)) (fh (@ycg) (@z6o))) (fh (fh (@yi9) (@z6k)) (fh (@zrz) (@z1g)))) (fh (fh (fh (@zgs) (@yc7)) (fh (@yc8) (@z7n))) (fh (fh (@z7o) (@yi1)) (fh (@yi0) (@yi4)))))):=fh (fh (fh (fh (fh (@yjc) (@z6n)) (fh (@z6r) (@z6l))) (fh (fh (@z6p) (@zt3)) (fh (@zt4) (@ycb)))) (fh (fh (fh (@z4l) (@yce)) (fh (@yci) (@zai))) (fh (fh (@zap) (@yi8)) (fh (@yjb) (@yi6))))) (fh (fh (fh (fh (@ycf) (@yi7)) (fh (@ycg) (@z6o))) (fh (fh (@yi9) (@z6k)) (fh (@zrz) (@z1g)))) (fh (fh (fh (@zgs) (@yc7)) (fh (@yc8) (@z7n))) (fh (fh (@z7o) (@yi1)) (fh (@yi0) (@yi4)))))
theorem b4:type_of% (fh (fh (fh (fh (fh (@yi3) (@yiy)) (fh (@yiz) (@zbb))) (fh (fh (@zxm) (@ydu)) (fh (@ydv) (@ycr)))) (fh (fh (fh (@z6z) (@yma)) (fh (@yn9) (@yoa))) (fh (fh (@yka) (@yj2)) (fh (@yj4) (@yj9))))) (fh (fh (fh (fh (@yj3) (@yj5)) (fh (@yj6) (@yj7))) (fh (fh (@yj8) (@zgb)) (fh (@zga) (@ztk)))) (fh (fh (fh (@st_n) (@yi2)) (fh (@z05) (@zd0))) (fh (fh (@z2x) (@z2y)) (fh (@cond_true.{1}) (@cond_false.{1})))))):=fh (fh (fh (fh (fh (@yi3) (@yiy)) (fh (@yiz) (@zbb))) (fh (fh (@zxm) (@ydu)) (fh (@ydv) (@ycr)))) (fh (fh (fh (@z6z) (@yma)) (fh (@yn9) (@yoa))) (fh (fh (@yka) (@yj2)) (fh (@yj4) (@yj9))))) (fh (fh (fh (fh (@yj3) (@yj5)) (fh (@yj6) (@yj7))) (fh (fh (@yj8) (@zgb)) (fh (@zga) (@ztk)))) (fh (fh (fh (@st_n) (@yi2)) (fh (@z05) (@zd0))) (fh (fh (@z2x) (@z2y)) (fh (@cond_true.{1}) (@cond_false.{1})))))
theorem b5:type_of% (fh (fh (fh (fh (fh (@List.toList_toArray.{0}) (@ja.{0,0})) (fh (@pj.{0,0}) (@gp.{0}))) (fh (fh (@jk.{0}) (@fw.{0,0})) (fh (@ij.{0}) (@lp.{0})))) (fh (fh (fh (@lr.{0,0}) (@o4.{0,0})) (fh (@Option.map_none.{0,0}) (@gm.{0}))) (fh (fh (@gz.{0}) (@ic.{0})) (fh (@jt.{0}) (@List.all_nil.{0}))))) (fh (fh (fh (fh (@gt.{0}) (@lc.{0})) (fh (@nq.{0}) (@nh.{0}))) (fh (fh (@lm.{0}) (@mc.{0})) (fh (@od) (@kh)))) (fh (fh (fh (@gj) (@i5)) (fh (@Bool.not_false) (@Bool.false_and))) (fh (fh (@Bool.and_false) (@zhj)) (fh (@z9b) (@zia)))))):=fh (fh (fh (fh (fh (@List.toList_toArray.{0}) (@ja.{0,0})) (fh (@pj.{0,0}) (@gp.{0}))) (fh (fh (@jk.{0}) (@fw.{0,0})) (fh (@ij.{0}) (@lp.{0})))) (fh (fh (fh (@lr.{0,0}) (@o4.{0,0})) (fh (@Option.map_none.{0,0}) (@gm.{0}))) (fh (fh (@gz.{0}) (@ic.{0})) (fh (@jt.{0}) (@List.all_nil.{0}))))) (fh (fh (fh (fh (@gt.{0}) (@lc.{0})) (fh (@nq.{0}) (@nh.{0}))) (fh (fh (@lm.{0}) (@mc.{0})) (fh (@od) (@kh)))) (fh (fh (fh (@gj) (@i5)) (fh (@Bool.not_false) (@Bool.false_and))) (fh (fh (@Bool.and_false) (@zhj)) (fh (@z9b) (@zia)))))
theorem b6:type_of% (fh (fh (fh (fh (fh (@jf) (@jp)) (fh (@jb) (@j0))) (fh (fh (@qo) (@ln.{0})) (fh (@ownD.eq_1) (@ownD.eq_2)))) (fh (fh (fh (@has.eq_1) (@has.eq_2)) (fh (@tLen.eq_1) (@ztp.eq_1))) (fh (fh (@ztp.eq_2) (@zwz.eq_1)) (fh (@z40.eq_1) (@tBox.eq_1))))) (fh (fh (fh (fh (@zw1.eq_1) (@zgn.eq_1)) (fh (@zgn.eq_2) (@zlp.eq_1))) (fh (fh (@zlp.eq_2) (@zlp.eq_3)) (fh (@zlp.eq_4) (@zlp.eq_5)))) (fh (fh (fh (@zlp.eq_6) (@zlp.eq_7)) (fh (@zib.eq_1) (@ztq.eq_1))) (fh (fh (@zls.eq_1) (@zk4.eq_1)) (fh (@zk4.eq_2) (@zk4.eq_3)))))):=fh (fh (fh (fh (fh (@jf) (@jp)) (fh (@jb) (@j0))) (fh (fh (@qo) (@ln.{0})) (fh (@ownD.eq_1) (@ownD.eq_2)))) (fh (fh (fh (@has.eq_1) (@has.eq_2)) (fh (@tLen.eq_1) (@ztp.eq_1))) (fh (fh (@ztp.eq_2) (@zwz.eq_1)) (fh (@z40.eq_1) (@tBox.eq_1))))) (fh (fh (fh (fh (@zw1.eq_1) (@zgn.eq_1)) (fh (@zgn.eq_2) (@zlp.eq_1))) (fh (fh (@zlp.eq_2) (@zlp.eq_3)) (fh (@zlp.eq_4) (@zlp.eq_5)))) (fh (fh (fh (@zlp.eq_6) (@zlp.eq_7)) (fh (@zib.eq_1) (@ztq.eq_1))) (fh (fh (@zls.eq_1) (@zk4.eq_1)) (fh (@zk4.eq_2) (@zk4.eq_3)))))
theorem b7:type_of% (fh (fh (fh (fh (fh (@zto.eq_1) (@zru.eq_1)) (fh (@TS.has.eq_1) (@zjn.eq_1))) (fh (fh (@aggT.eq_1) (@aggT.eq_2)) (fh (@yls) (@ylt)))) (fh (fh (fh (@ylo) (@ylr)) (fh (@ylp) (@ylq))) (fh (fh (@jj.eq_1) (@nl.eq_1)) (fh (@nl.eq_2) (@nl.eq_3))))) (fh (fh (fh (fh (@zs3) (@z82)) (fh (@zp2) (@z3t))) (fh (fh (@zs0) (@z8z)) (fh (@zs1) (@z81)))) (fh (fh (fh (@z11) (@z3n)) (fh (@z12) (@z3o))) (fh (fh (@z13) (@z3p)) (fh (@z14) (@z3q)))))):=fh (fh (fh (fh (fh (@zto.eq_1) (@zru.eq_1)) (fh (@TS.has.eq_1) (@zjn.eq_1))) (fh (fh (@aggT.eq_1) (@aggT.eq_2)) (fh (@yls) (@ylt)))) (fh (fh (fh (@ylo) (@ylr)) (fh (@ylp) (@ylq))) (fh (fh (@jj.eq_1) (@nl.eq_1)) (fh (@nl.eq_2) (@nl.eq_3))))) (fh (fh (fh (fh (@zs3) (@z82)) (fh (@zp2) (@z3t))) (fh (fh (@zs0) (@z8z)) (fh (@zs1) (@z81)))) (fh (fh (fh (@z11) (@z3n)) (fh (@z12) (@z3o))) (fh (fh (@z13) (@z3p)) (fh (@z14) (@z3q)))))
theorem b8:type_of% (fh (fh (fh (@z7e) (fh (@z80) (@ydk))) (fh (@yfs) (fh (@z7g) (@z84)))) (fh (fh (@ydi) (fh (@yfq) (@ydj))) (fh (@yfr) (fh (@z7f) (@z83))))):=fh (fh (fh (@z7e) (fh (@z80) (@ydk))) (fh (@yfs) (fh (@z7g) (@z84)))) (fh (fh (@ydi) (fh (@yfq) (@ydj))) (fh (@yfr) (fh (@z7f) (@z83))))
theorem apA:type_of% (fh (fh (fh (@zmu.eq_1) (@zyu)) (fh (@zi7) (fh (@zvu) (@Bool.or_false)))) (fh (fh (@Bool.or_self) (@jg.{0,0})) (fh (@List.flatMap_nil.{0,0}) (fh (@js) (@ni))))):=fh (fh (fh (@zmu.eq_1) (@zyu)) (fh (@zi7) (fh (@zvu) (@Bool.or_false)))) (fh (fh (@Bool.or_self) (@jg.{0,0})) (fh (@List.flatMap_nil.{0,0}) (fh (@js) (@ni))))
theorem apB:type_of% (fh (fh (@zda.eq_1) (@zda.eq_2)) (fh (@zam.eq_1) (fh (@zai) (@zap)))):=fh (fh (@zda.eq_1) (@zda.eq_2)) (fh (@zam.eq_1) (fh (@zai) (@zap)))
theorem lzA:type_of% (fh (@gp.{0}) (fh (@jk.{0}) (@jb))):=fh (@gp.{0}) (fh (@jk.{0}) (@jb))
mutual
def T.ren (ρ:Nat->Nat):T->T
  |.agg l=>.agg (T.renL ρ l)
  |.tup l=>.tup (T.renL ρ l)
  |.lst e l=>.lst e (T.renL ρ l)
  |.cp l=>.cp (T.renL ρ l)
  |.ptr b o N=>.ptr (ρ b) o N
  |.arr b e o l c N=>.arr (ρ b) e o l c N
  |.mp b=>.mp (ρ b)
  |.fn f a c=>.fn f (T.renL ρ a) (T.renL ρ c)
  |.int k n=>.int k n
  |.bool b=>.bool b
  |.str b=>.str b
  |.nils=>.nils
  |.nilp=>.nilp
  |.nilm=>.nilm
  |.nilf=>.nilf
  |.junk=>.junk
  |.emp e=>.emp e
def T.renL (ρ:Nat->Nat):List T->List T
  |[]=>[]
  |t :: l=>t.ren ρ :: T.renL ρ l
end
def zex (ρ:Nat->Nat):Box->Box
  |.gone=>.gone
  |.cells z N l=>.cells z N (T.renL ρ l)
  |.map l=>.map (l.map fun p=>(p.1.ren ρ,p.2.ren ρ))
section
variable {GL:List (Nat×List Value)} {A A' A1:Nat->Prop} {β β' β0 β1:Bx} {S S' S0 S1:TS} {s s' s1:CS} {P:gw} {Γ:Env} {g g':Nat->Fam} {ρ:Nat->Nat} {n:Nat}
theorem zl1:∀ (l:List T),T.renL ρ l=l.map (T.ren ρ)
  |[]=>rfl
  |t :: l=>by rw [T.renL,ja,zl1 l]
theorem zkf (l:List T):(T.renL ρ l).length=l.length:=by rw [zl1,fw]
theorem z4s (l m:List T):T.renL ρ (l++m)=T.renL ρ l++T.renL ρ m:=by simp only [zl1,mf]
theorem zub (t:T):(t.ren ρ).cells=T.renL ρ t.cells:=by
  cases t<;>simp only [T.ren,jj,T.renL]
theorem zzq:∀ (l:List T),(T.renL ρ l).flatMap jj=T.renL ρ (l.flatMap jj)
  |[]=>rfl
  |t :: l=>by rw [T.renL,jg,jg,zub,zzq l,z4s]
theorem yep:∀ {l:List T},T.idsL n l=true->∀ t,t∈l->t.ids n=true
  |[],_,t,h=>by simp at h
  |x :: l,h,t,ht=>by
    simp only [T.idsL,fo] at h;rcases List.mem_cons.1 ht with rfl|ht
    . exact h.1
    . exact yep h.2 t ht
mutual
theorem VT.up (hβ:∀ b,b<n->β' (ρ b)=β b):∀ {t:T} {v:Value},t.ids n=true->VT A β g t v->VT A β' g (t.ren ρ) v
  |_,_,_,.int k n=>.int k n
  |_,_,_,.bool b=>.bool b
  |_,_,_,.str b=>.str b
  |_,_,hi,.agg h=>.agg (VL.up hβ hi h)
  |_,_,hi,.tup h=>.tup (VL.up hβ hi h)
  |_,_,_,.lnil=>.lnil
  |.lst e l,_,hi,.lst h1 h2 h3 h4 h5 h6 h7 h8=>by
    have q:=VL.up hβ (zln hi) h3;rw [<- zzq] at q;have:=VT.lst (l:=T.renL ρ l) h1 h2 q (fun t ht=>by rw [zl1] at ht;obtain ⟨x,hx,rfl⟩:=jq.1 ht;rw [zub,zkf];exact h4 x hx) h5 h6 h7 (by rw [zkf];exact h8);rw [zkf] at this;exact this
  |_,_,_,.nils=>.nils
  |_,_,_,.nilp=>.nilp
  |_,_,_,.nilm=>.nilm
  |_,_,_,.nilf=>.nilf
  |_,_,hi,.ptr h=>.ptr (by rw [hβ _ (zae.1 hi)];exact h)
  |_,_,hi,.ptrOld h h0 h1 h2=>.ptrOld (by rw [hβ _ (zae.1 hi)];exact h) h0 h1 h2
  |_,_,hi,.cp h1 h2 h3 h4=>.cp h1 h2 (VL.up hβ hi h3) h4
  |_,_,hi,.arr h ht=>.arr (by rw [hβ _ (zae.1 hi)];exact h) ht
  |_,_,hi,.arrNil h=>.arrNil (by rw [hβ _ (zae.1 hi)];exact h)
  |_,_,hi,.arrOld h h0 h1 h2=>.arrOld (by rw [hβ _ (zae.1 hi)];exact h) h0 h1 h2
  |_,_,hi,.mp h=>.mp (by rw [hβ _ (zae.1 hi)];exact h)
  |_,_,hi,.mpOld h h2=>.mpOld (by rw [hβ _ (zae.1 hi)];exact h) h2
  |_,_,hi,.fn h1 h2=>by
    simp only [T.ids,fo] at hi;exact .fn (VL.up hβ hi.1 h1) (VL.up hβ hi.2 h2)
  |_,_,_,.junk v=>.junk v
  |_,_,_,.emp h1 h2 h3 h4=>.emp h1 h2 h3 h4
theorem VL.up (hβ:∀ b,b<n->β' (ρ b)=β b):∀ {l:List T} {vs:List Value},T.idsL n l=true->VL A β g l vs->VL A β' g (T.renL ρ l) vs
  |_,_,_,.nil=>.nil
  |_,_,hi,.cons h k=>by
    simp only [T.idsL,fo] at hi;exact .cons (VT.up hβ hi.1 h) (VL.up hβ hi.2 k)
end
mutual
theorem VT.down (hβ:∀ b,b<n->β' b=β (ρ b)):∀ {t':T} {v:Value},VT A β g t' v->∀ {t:T},t.ren ρ=t'->t.ids n=true->VT A β' g t v
  |_,_,.int k m,t,e,hi=>by
    cases t<;>simp [T.ren] at e;obtain ⟨rfl,rfl⟩:=e;exact .int _ _
  |_,_,.bool b,t,e,hi=>by
    cases t<;>simp [T.ren] at e;subst e;exact .bool _
  |_,_,.str b,t,e,hi=>by
    cases t<;>simp [T.ren] at e;subst e;exact .str _
  |_,_,.agg h,t,e,hi=>by
    cases t<;>simp [T.ren] at e;exact .agg (VL.down hβ h e hi)
  |_,_,.tup h,t,e,hi=>by
    cases t<;>simp [T.ren] at e;exact .tup (VL.down hβ h e hi)
  |_,_,.lnil,t,e,hi=>by
    cases t<;>simp [T.ren] at e;rename_i e' l;obtain ⟨rfl,e⟩:=e
    cases l with
    |nil=>exact .lnil
    |cons x l=>simp [T.renL] at e
  |_,_,.lst (l:=l') h1 h2 h3 h4 h5 h6 h7 h8,t,e,hi=>by
    cases t<;>simp [T.ren] at e;rename_i e' l;have q:=VL.down hβ h3 (l:=l.flatMap jj) (by rw [<- e.2];exact (zzq l).symm) (zln hi);obtain ⟨rfl,rfl⟩:=e;have:=VT.lst (l:=l) h1 h2 q (fun t ht=>by have:=h4 (t.ren ρ) (by rw [zl1];exact List.mem_map_of_mem ht);rw [zub,zkf] at this;exact this) h5 h6 h7 (by rw [zkf] at h8;exact h8);rw [zkf];exact this
  |_,_,.nils,t,e,hi=>by cases t<;>simp [T.ren] at e;exact .nils
  |_,_,.nilp,t,e,hi=>by cases t<;>simp [T.ren] at e;exact .nilp
  |_,_,.nilm,t,e,hi=>by cases t<;>simp [T.ren] at e;exact .nilm
  |_,_,.nilf,t,e,hi=>by cases t<;>simp [T.ren] at e;exact .nilf
  |_,_,.ptr h,t,e,hi=>by
    cases t<;>simp [T.ren] at e;obtain ⟨rfl,rfl,rfl⟩:=e;exact .ptr (by rw [hβ _ (zae.1 hi)];exact h)
  |_,_,.ptrOld h h0 h1 h2,t,e,hi=>by
    cases t<;>simp [T.ren] at e;obtain ⟨rfl,rfl,rfl⟩:=e;exact .ptrOld (by rw [hβ _ (zae.1 hi)];exact h) h0 h1 h2
  |_,_,.cp h1 h2 h3 h4,t,e,hi=>by
    cases t<;>simp [T.ren] at e;exact .cp h1 h2 (VL.down hβ h3 e hi) h4
  |_,_,.arr h ht,t,e,hi=>by
    cases t<;>simp [T.ren] at e;obtain ⟨rfl,rfl,rfl,rfl,rfl,rfl⟩:=e;exact .arr (by rw [hβ _ (zae.1 hi)];exact h) ht
  |_,_,.arrNil h,t,e,hi=>by
    cases t<;>simp [T.ren] at e;obtain ⟨rfl,rfl,rfl,rfl,rfl,rfl⟩:=e;exact .arrNil (by rw [hβ _ (zae.1 hi)];exact h)
  |_,_,.arrOld h h0 h1 h2,t,e,hi=>by
    cases t<;>simp [T.ren] at e;obtain ⟨rfl,rfl,rfl,rfl,rfl,rfl⟩:=e;exact .arrOld (by rw [hβ _ (zae.1 hi)];exact h) h0 h1 h2
  |_,_,.mp h,t,e,hi=>by
    cases t<;>simp [T.ren] at e;subst e;exact .mp (by rw [hβ _ (zae.1 hi)];exact h)
  |_,_,.mpOld h h2,t,e,hi=>by
    cases t<;>simp [T.ren] at e;subst e;exact .mpOld (by rw [hβ _ (zae.1 hi)];exact h) h2
  |_,_,.fn h1 h2,t,e,hi=>by
    cases t<;>simp [T.ren] at e;obtain ⟨rfl,e1,e2⟩:=e;simp only [T.ids,fo] at hi;exact .fn (VL.down hβ h1 e1 hi.1) (VL.down hβ h2 e2 hi.2)
  |_,_,.junk v,t,e,hi=>by cases t<;>simp [T.ren] at e;exact .junk _
  |_,_,.emp h1 h2 h3 h4,t,e,hi=>by
    cases t<;>simp [T.ren] at e;subst e;exact .emp h1 h2 h3 h4
theorem VL.down (hβ:∀ b,b<n->β' b=β (ρ b)):∀ {l':List T} {vs:List Value},VL A β g l' vs->∀ {l:List T},T.renL ρ l=l'->T.idsL n l=true->VL A β' g l vs
  |_,_,.nil,l,e,hi=>by
    cases l with
    |nil=>exact .nil
    |cons x l=>simp [T.renL] at e
  |_,_,.cons h k,l,e,hi=>by
    cases l with
    |nil=>simp [T.renL] at e
    |cons x l =>
      simp only [T.renL,List.cons.injEq] at e;simp only [T.idsL,fo] at hi;exact .cons (VT.down hβ h e.1 hi.1) (VL.down hβ k e.2 hi.2)
end
structure Fits (ρ:Nat->Nat) (S0 S1 S S':TS):Prop where
  le:S0.n<=S1.n
  out:∀ b,S0.n<=b->S0.box b=.gone
  old:∀ i,i<S0.n->ρ i<S.n
  new:∀ i,S0.n<=i->i<S1.n->S.n<=ρ i
  top:∀ i,i<S1.n->ρ i<S'.n
  grow:S.n<=S'.n
  inj:∀ i j,i<S1.n->j<S1.n->ρ i=ρ j->i=j
  pre:∀ i,i<S0.n->S.box (ρ i)=zex ρ (S0.box i)/\zh2 S0.n (S0.box i)=true
  post:∀ i,i<S1.n->S'.box (ρ i)=zex ρ (S1.box i)/\zh2 S1.n (S1.box i)=true
  rest:∀ b,(∀ i,i<S1.n->ρ i≠b)->S'.box b=S.box b
open Classical in
def bmix (ρ:Nat->Nat) (m:Nat) (β1 β:Bx):Bx:=fun b=>if h:∃ i,i<m/\ρ i=b then β1 (Classical.choose h) else β b
theorem ynj {m i:Nat} (hinj:∀ i j,i<m->j<m->ρ i=ρ j->i=j) (hi:i<m):bmix ρ m β1 β (ρ i)=β1 i:=by
  unfold bmix;have h:∃ j,j<m/\ρ j=ρ i:=⟨i,hi,rfl⟩;rw [dif_pos h];have:=Classical.choose_spec h;rw [hinj _ _ this.1 hi this.2]
theorem zjl {m b:Nat} (h:∀ i,i<m->ρ i≠b):bmix ρ m β1 β b=β b:=by
  unfold bmix;rw [dif_neg (fun ⟨i,h1,h2⟩=>h i h1 h2)]
theorem z6x (l:List (T×T)):(l.map fun p=>(p.1.ren ρ,p.2.ren ρ)).map (·.1)=T.renL ρ (l.map (·.1)):=by
  rw [zl1,rp,rp];rfl
theorem z6w (l:List (T×T)):(l.map fun p=>(p.1.ren ρ,p.2.ren ρ)).map (·.2)=T.renL ρ (l.map (·.2)):=by
  rw [zl1,rp,rp];rfl
theorem Call.frame {f:ml} {args:List T} {v:T} (k:Call P Γ GL f args S0 v S1) (ha:T.idsL S0.n args=true) (hv:v.ids S1.n=true) (F:Fits ρ S0 S1 S S'):Call P Γ GL f (T.renL ρ args) S (v.ren ρ) S':=by
  intro A β s vargs hT hva;have hb0:∀ b,b<S0.n->bcut (fun i=>β (ρ i)) S0.n b=β (ρ b):=fun b hb=>zAc hb
  have hb1:∀ b l,bcut (fun i=>β (ρ i)) S0.n b=some l->b<S0.n/\β (ρ b)=some l:=fun b l h=>by
    unfold bcut at h;split at h
    . rename_i hb;exact ⟨hb,h⟩
    . simp at h
  have hown:∀ f,Own (bcut (fun i=>β (ρ i)) S0.n) f->∃ i,i<S0.n/\((∃ u N,β (ρ i)=some (.live f u N))\/β (ρ i)=some (.map f)):=fun f ⟨b,hb⟩=>by
    rcases hb with ⟨u,N,hb⟩|hb
    . exact ⟨b,(hb1 _ _ hb).1,.inl ⟨u,N,(hb1 _ _ hb).2⟩⟩
    . exact ⟨b,(hb1 _ _ hb).1,.inr (hb1 _ _ hb).2⟩
  have hown2:∀ f,Own (bcut (fun i=>β (ρ i)) S0.n) f->Own β f:=fun f hf=>by
    obtain ⟨i,_,h⟩:=hown f hf;exact ⟨ρ i,h⟩
  have hT0:TRel GL A (bcut (fun i=>β (ρ i)) S0.n) S0 s:=by
    refine ⟨hT.inr,hT.inv,hT.alt,fun f hf=>hT.dis f (hown2 f hf),fun b b' l l' f h1 h2 h3 h4=>?_,fun b hb=>zAd (by omega),fun b z N l hb=>?_,fun b l hb=>?_,hT.glob⟩
    . obtain ⟨q1,q2⟩:=hb1 _ _ h1;obtain ⟨q3,q4⟩:=hb1 _ _ h2;exact F.inj b b' (by have:=F.le;omega) (by have:=F.le;omega) (hT.inj _ _ _ _ f q2 q4 h3 h4)
    . have hlt:b<S0.n:=by
        by_cases h:b<S0.n
        . exact h
        . rw [F.out b (by omega)] at hb;simp at hb
      obtain ⟨p1,p2⟩:=F.pre b hlt;rw [hb] at p1 p2;obtain ⟨c1,c2⟩:=hT.cells _ _ _ _ p1;refine ⟨by rw [zkf] at c1;exact c1,?_⟩;rcases c2 with ⟨d1,d2,d3⟩|⟨f,u,cs,rest,d1,d2,d3,d4,d5⟩
      . exact .inl ⟨by rw [hb0 b hlt];exact d1,d2,d3⟩
      . exact .inr ⟨f,u,cs,rest,by rw [hb0 b hlt];exact d1,d2,d3,VL.down hb0 d4 rfl p2,d5⟩
    . have hlt:b<S0.n:=by
        by_cases h:b<S0.n
        . exact h
        . rw [F.out b (by omega)] at hb;simp at hb
      obtain ⟨p1,p2⟩:=F.pre b hlt;rw [hb] at p1 p2;obtain ⟨r,es,c1,c2,c3,c4⟩:=hT.maps _ _ p1;simp only [zh2,fo] at p2;rw [z6x] at c3;rw [z6w] at c4;exact ⟨r,es,by rw [hb0 b hlt];exact c1,c2,VL.down hb0 c3 rfl p2.1,VL.down hb0 c4 rfl p2.2⟩
  obtain ⟨w,s1,A1,β1,e1,e2,e3,e4⟩:=k A _ s vargs hT0 (VL.down hb0 hva rfl ha);have hin:∀ i,i<S1.n->bmix ρ S1.n β1 β (ρ i)=β1 i:=fun i hi=>ynj F.inj hi
  have hcase:∀ b,(∃ i,i<S1.n/\ρ i=b)\/(∀ i,i<S1.n->ρ i≠b):=fun b=>by
    by_cases h:∃ i,i<S1.n/\ρ i=b
    . exact .inl h
    . exact .inr fun i hi hh=>h ⟨i,hi,hh⟩
  have hone:∀ i l,β1 i=some l->i<S1.n:=fun i l h=>by
    by_cases hh:i<S1.n
    . exact hh
    . rw [e2.next i (by omega)] at h;simp at h
  have apart:∀ b f,(∀ i,i<S1.n->ρ i≠b)->((∃ u N,β b=some (.live f u N))\/β b=some (.map f))->¬ Own (bcut (fun i=>β (ρ i)) S0.n) f:=fun b f hb hf ho=>by
    obtain ⟨j,hj,h⟩:=hown f ho
    have:ρ j=b:=by
      rcases h with ⟨u,N,h⟩|h<;>rcases hf with ⟨u',N',hf⟩|hf<;>exact hT.inj _ _ _ _ f h hf rfl rfl
    exact hb j (by have:=F.le;omega) this
  have hfamO:∀ b l f,β b=some l->l.fam=some f->((∃ u N,β b=some (.live f u N))\/β b=some (.map f)):=fun b l f h hl=>by
    cases l with
    |live f' u N=>simp [ox] at hl;subst hl;exact .inl ⟨u,N,h⟩
    |map r=>simp [ox] at hl;subst hl;exact .inr h
    |nil=>simp [ox] at hl
    |dead=>simp [ox] at hl
  have hfam1:∀ i l f,β1 i=some l->l.fam=some f->Own β1 f:=fun i l f h hl=>by
    cases l with
    |live f' u N=>simp [ox] at hl;subst hl;exact zc4 h
    |map r=>simp [ox] at hl;subst hl;exact zna h
    |nil=>simp [ox] at hl
    |dead=>simp [ox] at hl
  have hle:Bx.le β (bmix ρ S1.n β1 β):=fun b l hb=>by
    rcases hcase b with ⟨i,hi,rfl⟩|h
    . rw [hin i hi];by_cases hip:i<S0.n
      . exact e4.bx i l (by rw [hb0 i hip];exact hb)
      . rw [hT.next _ (F.new i (by omega) hi)] at hb;simp at hb
    . exact ⟨l,by rw [zjl h];exact hb,Loc.le_refl l⟩
  have hkeep:∀ f,A f->zaa s1.obj f=zaa s.obj f:=fun f hf=>e4.keep f (hT.alt f hf) fun ho=>(hT.dis f (hown2 f ho)).2 hf
  have hmix:∀ f,Own (bmix ρ S1.n β1 β) f->Own β1 f\/∃ b,(∀ i,i<S1.n->ρ i≠b)/\((∃ u N,β b=some (.live f u N))\/β b=some (.map f)):=fun f ⟨b,hb⟩=>by
    rcases hcase b with ⟨i,hi,rfl⟩|h
    . rw [hin i hi] at hb;exact .inl ⟨i,hb⟩
    . rw [zjl h] at hb;exact .inr ⟨b,h,hb⟩
  refine ⟨w,s1,A1,bmix ρ S1.n β1 β,e1,⟨e2.inr,e2.inv,e2.alt,fun f hf=>?_,fun b b' l l' f h1 h2 h3 h4=>?_,fun b hb=>?_,fun b z N l hb=>?_,fun b l hb=>?_,e2.glob⟩,VT.up hin hv e3,⟨e4.can,e4.sub,fun f hf=>(e4.new f hf).imp id (Or.imp id (hown2 f)),fun f hf=>?_,fun f hf ho=>e4.keep f hf fun h=>ho (hown2 f h),hle,fun x hx=>(e4.rd x hx).imp id (fun ⟨a,b⟩=>⟨a,b.imp id (hown2 x)⟩),fun x hx=>(e4.wr x hx).imp id (fun ⟨a,b⟩=>⟨a,hown2 x b⟩)⟩⟩
  . rcases hmix f hf with h|⟨b,hb,h⟩
    . exact e2.dis f h
    . have hd:=hT.dis f ⟨b,h⟩;refine ⟨h9 hd.1 e4.can.n,fun hA=>?_⟩;rcases e4.new f hA with q|q|q
      . exact hd.2 q
      . have:=hd.1;omega
      . exact apart b f hb h q
  . have yhh:∀ i b l l',i<S1.n->(∀ i,i<S1.n->ρ i≠b)->β1 i=some l->β b=some l'->l.fam=some f->l'.fam=some f->False:=fun i b l l' hi hb q1 q2 q3 q4=>by
      have ho:=hfamO b l' f q2 q4;rcases e4.own f (hfam1 i l f q1 q3) with q|q
      . exact apart b f hb ho q
      . have:=(hT.dis f ⟨b,ho⟩).1;omega
    rcases hcase b with ⟨i,hi,rfl⟩|hb<;>rcases hcase b' with ⟨j,hj,rfl⟩|hb'
    . rw [hin i hi] at h1;rw [hin j hj] at h2;rw [e2.inj i j l l' f h1 h2 h3 h4]
    . rw [hin i hi] at h1;rw [zjl hb'] at h2;exact (yhh i b' l l' hi hb' h1 h2 h3 h4).elim
    . rw [zjl hb] at h1;rw [hin j hj] at h2;exact (yhh j b l' l hj hb h2 h1 h4 h3).elim
    . rw [zjl hb] at h1;rw [zjl hb'] at h2;exact hT.inj b b' l l' f h1 h2 h3 h4
  . rw [zjl (fun i hi hh=>by have:=F.top i hi;omega)];exact hT.next b (by have:=F.grow;omega)
  . rcases hcase b with ⟨i,hi,rfl⟩|hbo
    . obtain ⟨p1,p2⟩:=F.post i hi;rw [hb] at p1
      cases hq:S1.box i with
      |gone=>rw [hq] at p1;simp [zex] at p1
      |map m=>rw [hq] at p1;simp [zex] at p1
      |cells z' N' l' =>
        rw [hq] at p1 p2;simp only [zex,Box.cells.injEq] at p1;obtain ⟨rfl,rfl,rfl⟩:=p1;obtain ⟨c1,c2⟩:=e2.cells _ _ _ _ hq;refine ⟨by rw [zkf];exact c1,?_⟩;rcases c2 with ⟨d1,d2,d3⟩|⟨f,u,cs,rest,d1,d2,d3,d4,d5⟩
        . exact .inl ⟨by rw [hin i hi];exact d1,d2,d3⟩
        . exact .inr ⟨f,u,cs,rest,by rw [hin i hi];exact d1,d2,d3,VL.up hin p2 d4,d5⟩
    . rw [F.rest b hbo] at hb;refine (hT.cells b z N l hb).mono e4.sub hkeep hle (zjl hbo) fun f u N' hl=>?_;exact e4.keep f (hT.dis f (zc4 hl)).1 (apart b f hbo (.inl ⟨u,N',hl⟩))
  . rcases hcase b with ⟨i,hi,rfl⟩|hbo
    . obtain ⟨p1,p2⟩:=F.post i hi;rw [hb] at p1
      cases hq:S1.box i with
      |gone=>rw [hq] at p1;simp [zex] at p1
      |cells z N m=>rw [hq] at p1;simp [zex] at p1
      |map m =>
        rw [hq] at p1 p2;simp only [zex,Box.map.injEq] at p1;subst p1;obtain ⟨r,es,c1,c2,c3,c4⟩:=e2.maps _ _ hq;simp only [zh2,fo] at p2;exact ⟨r,es,by rw [hin i hi];exact c1,c2,by rw [z6x];exact VL.up hin p2.1 c3,by rw [z6w];exact VL.up hin p2.2 c4⟩
    . rw [F.rest b hbo] at hb;refine (hT.maps b l hb).mono e4.sub hkeep hle (zjl hbo) fun r hl=>?_;exact e4.keep r (hT.dis r (zna hl)).1 (apart b r hbo (.inr hl))
  . rcases hmix f hf with h|⟨b,hb,h⟩
    . exact (e4.own f h).imp (hown2 f) id
    . exact .inl ⟨b,h⟩
end
theorem zab {α β:Type} {x:Option α} {f:α->Option β} {v:β} (h:x.bind f=some v):∃ a,x=some a/\f a=some v:=by
  cases x with
  |none=>cases h
  |some a=>exact ⟨a,rfl,h⟩
def gx {α:Type} [Inhabited α] (l:List α) (i:Int):α:=l.getD i.toNat default
theorem zag {α:Type} [Inhabited α] {l:List α} {i:Int} (h:0<=i/\i<(l.length:Int)):l[i.toNat]?=some (gx l i):=yhy (by omega)
def bx (b:ByteArray) (i:Int):UInt8:=b.data.toList.getD i.toNat 0
theorem zvs {b:ByteArray} {i:Int} (h:0<=i/\i<(b.size:Int)):b.data.toList[i.toNat]?=some (bx b i):=by
  have : i.toNat < b.data.toList.length := by have e : b.data.toList.length = b.size := by simp
                                              omega
  unfold bx;rw [fy,fp this];rfl
def vecC {α:Type} (f:α->T) (l:List α):List T:=(l.map f).flatMap jj
theorem zaw {α:Type} {f:α->T} {l l2:List α}:vecC f (l++l2)=vecC f l++vecC f l2:=by
  unfold vecC;rw [mf,List.flatMap_append]
theorem zdp {α:Type} {f:α->T} {x:α}:vecC f [x]=(f x).cells:=by
  unfold vecC;simp
theorem zbt {α:Type} {f:α->T} {e:Nat} (h:∀ x,(f x).cells.length=e):∀ (l:List α),(vecC f l).length=l.length*e
  |[]=>by simp [vecC]
  |x :: l=>by
    have ih:=zbt h l;unfold vecC at ih ⊢;rw [ja,jg,f7,h,ih,gp,js];omega
theorem zc8 {α:Type} {f:α->T} {e n:Nat} {l:List α} (h:∀ x,(f x).cells.length=e) (hl:l.length=n):(vecC f l).take (n*e)=(l.map f).flatMap jj:=by
  have:=zbt h l;rw [il (by rw [this,hl];exact fx _)];rfl
theorem zdv {k:i4} {l:List Int}:(l.map (fl k)).flatMap jj=l.map (fl k):=zj8 fun _=>rfl
theorem zb1 {l:List Bool}:(l.map sx).flatMap jj=l.map sx:=zj8 fun _=>rfl
theorem zdu {l:List ByteArray}:(l.map pl).flatMap jj=l.map pl:=zj8 fun _=>rfl
theorem zdx {k:i4} {l:List Int}:(l.map (fl k)).all nl=true:=by simp [nl]
theorem zb3 {l:List Bool}:(l.map sx).all nl=true:=by simp [nl]
theorem zdw {l:List ByteArray}:(l.map pl).all nl=true:=by simp [nl]
section
variable {GL:List (Nat×List Value)} {A A' A2:Nat->Prop} {β β' β2:Bx} {S S' S2:TS} {s s' s2:CS} {P:gw} {Γ:Env} {N:Nat} {h h' h2:Nat->T} {Q R:Exit->(Nat->T)->TS->Prop}
theorem Left.trimN {fr fr':Fr} {keep:List Nat} {bs bs2 extra:List Box} {n:Nat} (hn:bs.length<=n) (hT:TRel GL A β (stL bs) s) (k:Left GL A β s N fr' s' h' (stL (bs2++extra))) (hl:bs2.length=n) (hb:zd7 n bs2=true) (hk:zf8 keep n h'):Left GL A β s N fr' s' (zi9 keep h') (stL bs2):=by
  obtain ⟨A',β',k1,k2,k3⟩:=k;have hat:∀ b,b<n->bcut β' n b=β' b:=fun b hb=>zAc hb
  have hsub:∀ b l,bcut β' n b=some l->β' b=some l:=fun b l h=>by
    unfold bcut at h;split at h
    . exact h
    . simp at h
  have hkp:zrr (stL (bs2++extra)) (stL bs2):=by
    refine ⟨by simp [stL],fun b=>?_⟩;by_cases hbl:b<bs2.length
    . refine .inr ⟨hbl,?_,?_⟩
      . show bs2.getD b .gone=(bs2++extra).getD b .gone;rw [fy,fy,gq hbl]
      . show zh2 bs2.length ((bs2++extra).getD b .gone)=true;rw [fy,gq hbl,<- fy,hl];exact znv hb
    . left;show bs2.getD b .gone=.gone;rw [fy,kb (by omega)];rfl
  have hcut:=k2.cut hkp;have hnn:(stL bs2).n=n:=hl;rw [hnn] at hcut;refine ⟨A',bcut β' n,⟨k1.nt,k1.le,fun t=>?_⟩,hcut,k3.can,k3.sub,k3.new,fun f hf=>?_,k3.keep,fun b l hb'=>?_,k3.rd,k3.wr⟩
  . by_cases ht:t∈keep
    . rw [zkh ht];exact (k1.slot t).ids hat (zo7 hk t ht)
    . rw [show zi9 keep h' t=.junk from zAd ht];exact .junk _
  . obtain ⟨b,hb'⟩:=hf;exact k3.own f ⟨b,hb'.imp (fun ⟨u,N,h⟩=>⟨u,N,hsub _ _ h⟩) fun h=>hsub _ _ h⟩
  . obtain ⟨l',c1,c2⟩:=k3.bx b l hb'
    have:b<bs.length:=by
      by_cases hh:b<bs.length
      . exact hh
      . rw [hT.next b (by show bs.length<=b;omega)] at hb';simp at hb'
    exact ⟨l',by rw [hat b (by omega)];exact c1,c2⟩
theorem TW.cutN {a:Code} (keep:List Nat) (n:Nat) {bs:List Box} (hn:bs.length<=n) (R:(Nat->T)->List Box->Prop) (hR:TW P Γ GL N a h (stL bs) (onT (fun h' S'=>Ends keep n R h' S') Q)) (hk:∀ h bs2,R h bs2->Q .normal h (stL bs2)):TW P Γ GL N a h (stL bs) Q:=by
  intro A β fr s hF hT;obtain ⟨e,fr1,s1,h1,h',S',hleft,hq⟩:=hR A β fr s hF hT
  cases e with
  |normal =>
    obtain ⟨bs',rfl,hl,hbi,hki,hq⟩:=hq;exact ⟨_,fr1,s1,h1,_,_,Left.trimN (fr:=fr) (keep:=keep) (bs2:=bs'.take n) (extra:=bs'.drop n) hn hT (by rw [je];exact hleft) (by rw [iu];omega) hbi hki,hk _ _ hq⟩
  |_=>exact ⟨_,fr1,s1,h1,h',S',hleft,hq⟩
theorem TW.unz {c:Code} (b:Nat) {zz:Bool} {M:Nat} {l:List T} (hS:S.box b=.cells zz M l) (k:TW P Γ GL N c h (S.set b (.cells false M l)) Q):TW P Γ GL N c h S Q:=by
  intro A β fr s hF hT
  have hb:∀ b' z N l',(S.set b (.cells false M l)).box b'=.cells z N l'->∃ z0,S.box b'=.cells z0 N l'/\(z=true->z0=true):=fun b' z N l' h=>by
    by_cases hi:b'=b
    . subst hi;rw [ng] at h;cases h;exact ⟨zz,hS,fun h=>by cases h⟩
    . rw [nm _ _ hi] at h;exact ⟨z,h,id⟩
  refine k A β fr s hF ⟨hT.inr,hT.inv,hT.alt,hT.dis,hT.inj,hT.next,fun b' z N l' h=>?_,fun b' l' h=>?_,hT.glob⟩
  . obtain ⟨z0,h0,hz⟩:=hb b' z N l' h;obtain ⟨h1,h2⟩:=hT.cells b' z0 N l' h0;refine ⟨h1,?_⟩;rcases h2 with ⟨q1,q2,q3⟩|⟨f,u,cs,rest,q1,q2,q3⟩
    . exact .inl ⟨q1,q2,by cases z with|false=>rfl|true=>rw [hz rfl] at q3;exact q3⟩
    . exact .inr ⟨f,u,cs,rest,q1,fun h=>q2 (hz h),q3⟩
  . by_cases hi:b'=b
    . subst hi;rw [ng] at h;cases h
    . rw [nm _ _ hi] at h;exact hT.maps b' l' h
theorem TW.slot {c:Code} (t:Nat) {v v':T} (ht:h t=v) (hv:∀ A β (g:Nat->Fam) w,VT A β g v w->VT A β g v' w) (k:TW P Γ GL N c (tupd h t v') S Q):TW P Γ GL N c h S Q:=by
  intro A β fr s hF hT
  have hF':FrOk A β (zaa s.obj) N (tupd h t v') fr:=⟨hF.nt,hF.le,fun u=>by
    by_cases hu:u=t
    . subst hu;rw [zhk];have:=hF.slot u;rw [ht] at this;exact hv _ _ _ _ this
    . rw [zlr _ _ _ _ hu];exact hF.slot u⟩
  exact k A β fr s hF' hT
theorem TW.lst0 {c:Code} (t e:Nat) (he:0<e) (ht:h t=.lst e []) (k1:TW P Γ GL N c (tupd h t .nils) S Q) (k2:TW P Γ GL N c (tupd h t (.emp e)) S Q):TW P Γ GL N c h S Q:=by
  intro A β fr s hF hT;have hs:=hF.slot t;rw [ht] at hs;rcases VT.lst_emp he hs with q|q
  . refine k1 A β fr s ⟨hF.nt,hF.le,fun u=>?_⟩ hT;by_cases hu:u=t
    . subst hu;rw [zhk];exact q
    . rw [zlr _ _ _ _ hu];exact hF.slot u
  . refine k2 A β fr s ⟨hF.nt,hF.le,fun u=>?_⟩ hT;by_cases hu:u=t
    . subst hu;rw [zhk];exact q
    . rw [zlr _ _ _ _ hu];exact hF.slot u
theorem TW.nilL {c:Code} (t e:Nat) (ht:h t=.nils) (k:TW P Γ GL N c (tupd h t (.lst e [])) S Q):TW P Γ GL N c h S Q:=by
  intro A β fr s hF hT;have hv:=hF.slot t;rw [ht] at hv
  have hF':FrOk A β (zaa s.obj) N (tupd h t (.lst e [])) fr:=⟨hF.nt,hF.le,fun u=>by
    by_cases hu:u=t
    . subst hu;rw [zhk];generalize fr.get u=w at hv;cases hv;exact .lnil
    . rw [zlr _ _ _ _ hu];exact hF.slot u⟩
  exact k A β fr s hF' hT
mutual
theorem z7w {n m:Nat} (hnm:n<=m):∀ {t:T},t.ids n=true->t.ids m=true
  |.agg l,h=>zf9 hnm (l:=l) h
  |.tup l,h=>zf9 hnm (l:=l) h
  |.lst e l,h=>zf9 hnm (l:=l) h
  |.cp l,h=>zf9 hnm (l:=l) h
  |.ptr b o N,h=>by simp only [T.ids] at h ⊢;exact zae.2 (by have:=zae.1 h;omega)
  |.arr b e o l c N,h=>by simp only [T.ids] at h ⊢;exact zae.2 (by have:=zae.1 h;omega)
  |.mp b,h=>by simp only [T.ids] at h ⊢;exact zae.2 (by have:=zae.1 h;omega)
  |.fn f a c,h=>by
    simp only [T.ids,fo] at h ⊢;exact ⟨zf9 hnm h.1,zf9 hnm h.2⟩
  |.int _ _,_=>rfl
  |.bool _,_=>rfl
  |.str _,_=>rfl
  |.nils,_=>rfl
  |.nilp,_=>rfl
  |.nilm,_=>rfl
  |.nilf,_=>rfl
  |.junk,_=>rfl
  |.emp _,_=>rfl
theorem zf9 {n m:Nat} (hnm:n<=m):∀ {l:List T},T.idsL n l=true->T.idsL m l=true
  |[],_=>rfl
  |t :: l,h=>by
    simp only [T.idsL,fo] at h ⊢;exact ⟨z7w hnm h.1,zf9 hnm h.2⟩
end
mutual
theorem zh8 {ρ:Nat->Nat}:∀ {t:T},t.ids 0=true->t.ren ρ=t
  |.agg l,h=>by rw [T.ren,zc7 (l:=l) h]
  |.tup l,h=>by rw [T.ren,zc7 (l:=l) h]
  |.lst e l,h=>by rw [T.ren,zc7 (l:=l) h]
  |.cp l,h=>by rw [T.ren,zc7 (l:=l) h]
  |.ptr b o N,h=>by simp [T.ids,ip] at h
  |.arr b e o l c N,h=>by simp [T.ids,ip] at h
  |.mp b,h=>by simp [T.ids,ip] at h
  |.fn f a c,h=>by
    simp only [T.ids,fo] at h;rw [T.ren,zc7 (l:=a) h.1,zc7 (l:=c) h.2]
  |.int _ _,_=>rfl
  |.bool _,_=>rfl
  |.str _,_=>rfl
  |.nils,_=>rfl
  |.nilp,_=>rfl
  |.nilm,_=>rfl
  |.nilf,_=>rfl
  |.junk,_=>rfl
  |.emp _,_=>rfl
theorem zc7 {ρ:Nat->Nat}:∀ {l:List T},T.idsL 0 l=true->T.renL ρ l=l
  |[],_=>rfl
  |t :: l,h=>by
    simp only [T.idsL,fo] at h;rw [T.renL,zh8 h.1,zc7 h.2]
end
theorem zrr.one {z:Bool} {M:Nat} {cs:List T} (h:T.idsL 1 cs=true):zrr (stL [.cells z M cs]) (stL [.cells z M cs]):=by
  refine ⟨fx _,fun b=>?_⟩
  cases b with
  |zero=>exact .inr ⟨by show 0<1;omega,rfl,h⟩
  |succ b=>exact .inl rfl
theorem Call.fresh {f:ml} {args:List T} {e n c M:Nat} {z:Bool} {M2:Nat} {cs:List T} (k:Call P Γ GL f args ts0 (.arr 0 e 0 n c M) (stL [.cells z M2 cs])) (ha:T.idsL 0 args=true) (hb:T.idsL 0 cs=true) (bs:List Box):Call P Γ GL f args (stL bs) (.arr bs.length e 0 n c M) (stL (bs++[.cells z M2 cs])):=by
  have:=Call.frame (ρ:=fun i=>bs.length+i) (S:=stL bs) (S':=stL (bs++[.cells z M2 cs])) k ha (by rfl) ⟨iy _,fun b _=>rfl,fun i hi=>absurd hi (by show ¬ i<0;omega),fun i _ hi=>by show bs.length<=bs.length+i;omega,fun i hi=>by have:i<1:=hi;show bs.length+i<(bs++[_]).length;rw [f7];simp;omega,by show bs.length<=(bs++[_]).length;simp,fun i j _ _ h=>by have:bs.length+i=bs.length+j:=h;omega,fun i hi=>absurd hi (by show ¬ i<0;omega),fun i hi=>?_,fun b hb=>?_⟩
  . rw [zc7 ha] at this;exact this
  . have:i<1:=hi;have:i=0:=by omega
    subst this;constructor
    . show (bs++[Box.cells z M2 cs]).getD (bs.length+0) .gone=.cells z M2 (T.renL _ cs);rw [zc7 hb,j0,fy,iw (fx _)];simp
    . show T.idsL 1 cs=true
      exact z7z fun t ht=>by
        have:=yep hb t ht;exact z7w (iy _) this
  . show (bs++[Box.cells z M2 cs]).getD b .gone=bs.getD b .gone;by_cases hlt:b<bs.length
    . rw [fy,fy,gq hlt]
    . by_cases h2:b=bs.length
      . exact absurd (h2 ▸ rfl:bs.length+0=b) (hb 0 (by show 0<1;omega))
      . rw [fy,fy,kb (by rw [f7];simp;omega),kb (by omega)]
end
def mset {K V:Type} [DecidableEq K] (k:K) (v:V):List (K×V)->List (K×V)
  |[]=>[(k,v)]
  |p :: l=>if k=p.1 then (k,v) :: l else p :: mset k v l
def mget {K V:Type} [DecidableEq K] (k:K):List (K×V)->Option V
  |[]=>none
  |p :: l=>if k=p.1 then some p.2 else mget k l
theorem keyI {kk:i4} {a b:Int}:zw0 (.int kk a) (.int kk b)=some (decide (a=b)):=by
  show (bif gc (ikN kk) (ikN kk) then some (a == b) else none)=_;rw [jf,cond_true];by_cases h:a=b<;>simp [h]
theorem keyS {a b:ByteArray}:zw0 (.str a) (.str b)=some (decide (a=b)):=by
  show some (a.data.toList == b.data.toList)=_;by_cases h:a=b
  . subst h;simp
  . have:(a.data.toList == b.data.toList)=false:=by simpa using fun hh=>h (ByteArray.ext hh)
    rw [this,zAb h]
theorem zy6 {K V:Type} [DecidableEq K] {kf:K->T} {f:V->T} (hk:∀ a b,zw0 (kf a) (kf b)=some (decide (a=b))) (k:K) (v:V):∀ l:List (K×V),tSet (kf k) (f v) (l.map fun p=>(kf p.1,f p.2))=some ((mset k v l).map fun p=>(kf p.1,f p.2))
  |[]=>rfl
  |p :: l=>by
    rw [ja,tSet,hk];unfold mset;by_cases h:k=p.1
    . rw [zAa h,zAc h,ja]
    . rw [zAb h,zAd h,ja];simp only [zy6 hk k v l]
theorem zy7 {K V:Type} [DecidableEq K] {kf:K->T} {f:V->T} (hk:∀ a b,zw0 (kf a) (kf b)=some (decide (a=b))) (k:K):∀ l:List (K×V),tGet (kf k) (l.map fun p=>(kf p.1,f p.2))=some ((mget k l).map f)
  |[]=>rfl
  |p :: l=>by
    rw [ja,tGet,hk];unfold mget;by_cases h:k=p.1
    . rw [zAa h,zAc h];rfl
    . rw [zAb h,zAd h];exact zy7 hk k l
theorem zcq {kk:i4} {V:Type} {f:V->T} {k:Int} {v:V} {l:List (Int×V)}:tSet (.int kk k) (f v) (l.map fun p=>(.int kk p.1,f p.2))=some ((mset k v l).map fun p=>(.int kk p.1,f p.2)):=zy6 (kf:=fl kk) (fun _ _=>keyI) k v l
theorem zcs {kk:i4} {V:Type} {f:V->T} {k:Int} {l:List (Int×V)}:tGet (.int kk k) (l.map fun p=>(.int kk p.1,f p.2))=some ((mget k l).map f):=zy7 (kf:=fl kk) (fun _ _=>keyI) k l
theorem zcp {V:Type} {f:V->T} {k:ByteArray} {v:V} {l:List (ByteArray×V)}:tSet (.str k) (f v) (l.map fun p=>(.str p.1,f p.2))=some ((mset k v l).map fun p=>(.str p.1,f p.2)):=zy6 (kf:=pl) (fun _ _=>keyS) k v l
theorem zcr {V:Type} {f:V->T} {k:ByteArray} {l:List (ByteArray×V)}:tGet (.str k) (l.map fun p=>(.str p.1,f p.2))=some ((mget k l).map f):=zy7 (kf:=pl) (fun _ _=>keyS) k l
theorem zef {V:Type} {f:V->T} {d:V} {o:Option V}:z8b false (f d) (o.map f)=f (o.getD d):=by cases o<;>rfl
theorem zee {V:Type} {f:V->T} {d:V} {o:Option V}:z8b true (f d) (o.map f)=.tup [f (o.getD d),.bool o.isSome]:=by cases o<;>rfl
theorem znl:type_of% (fh (fh (fh (@zax) (fh (@kh) (@od))) (fh (@z9b) (fh (@gj) (@and_self)))) (fh (fh (@and_true) (fh (@true_and) (@nq.{0}))) (fh (fh (@nh.{0}) (@gp.{0})) (fh (@jk.{0}) (@jb))))):=fh (fh (fh (@zax) (fh (@kh) (@od))) (fh (@z9b) (fh (@gj) (@and_self)))) (fh (fh (@and_true) (fh (@true_and) (@nq.{0}))) (fh (fh (@nh.{0}) (@gp.{0})) (fh (@jk.{0}) (@jb))))
theorem zbl:type_of% (fh (fh (fh (@T.ids.eq_1) (fh (@T.ids.eq_2) (@T.ids.eq_3))) (fh (@T.ids.eq_4) (fh (@T.ids.eq_5) (@T.ids.eq_6)))) (fh (fh (@T.ids.eq_7) (fh (@T.ids.eq_8) (@T.ids.eq_9))) (fh (@T.idsL.eq_1) (fh (@T.idsL.eq_2) (@zbb))))):=fh (fh (fh (@T.ids.eq_1) (fh (@T.ids.eq_2) (@T.ids.eq_3))) (fh (@T.ids.eq_4) (fh (@T.ids.eq_5) (@T.ids.eq_6)))) (fh (fh (@T.ids.eq_7) (fh (@T.ids.eq_8) (@T.ids.eq_9))) (fh (@T.idsL.eq_1) (fh (@T.idsL.eq_2) (@zbb))))
theorem zcx:type_of% (fh (fh (@zd7.eq_1) (fh (@zd7.eq_2) (@zh2.eq_1))) (fh (fh (@zh2.eq_2) (@zh2.eq_3)) (fh (@zf8.eq_1) (@zf8.eq_2)))):=fh (fh (@zd7.eq_1) (fh (@zd7.eq_2) (@zh2.eq_1))) (fh (fh (@zh2.eq_2) (@zh2.eq_3)) (fh (@zf8.eq_1) (@zf8.eq_2)))
theorem scA:type_of% (fh (@lm.{0}) (@mc.{0})):=fh (@lm.{0}) (@mc.{0})
theorem scB:type_of% (fh (fh (@st_n) (fh (@gp.{0}) (@jk.{0}))) (fh (@gz.{0}) (fh (@gm.{0}) (@jb)))):=fh (fh (@st_n) (fh (@gp.{0}) (@jk.{0}))) (fh (@gz.{0}) (fh (@gm.{0}) (@jb)))
theorem gsA:type_of% (fh (fh (@zbb) (fh (@mf.{0,0}) (@ja.{0,0}))) (fh (@pj.{0,0}) (fh (@js) (@ni)))):=fh (fh (@zbb) (fh (@mf.{0,0}) (@ja.{0,0}))) (fh (@pj.{0,0}) (fh (@js) (@ni)))
end
end Go.Proofs.Ytkfnjbfnkpameaa
