/- Part 4 of the proof of MergeShortens (several texts in one; no further condition). -/
import Derived.Test.YtkfnjbfnkpameaaZC
set_option linter.unusedSimpArgs false
set_option linter.unusedVariables false
set_option linter.unusedSectionVars false
namespace Go.Proofs.Ytkfnjbfnkpameaa
noncomputable section
open _root_.And renaming intro->fi
open _root_.Array renaming toList_map->pi
open _root_.BitVec renaming ofInt->je
open _root_.Bool renaming and_eq_true->fp,and_self->gl,and_true->oh,not_true->i6,true_and->ki
open Go.Proofs.Ytkfnjbfnkpameaa.Bx renaming le_refl->mq
open Go.Proofs.Ytkfnjbfnkpameaa.CS renaming inner->ss
open Go.Call renaming operands->sm
open Go.Proofs.Ytkfnjbfnkpameaa.Can renaming refl->jw
open _root_.Eq renaming trans->gg
open Go.Proofs.Ytkfnjbfnkpameaa.Fr renaming get_put_other->sw
open Go renaming FuncId->ml,IntKind->i5,Operand->gh,Program->gz,TypeDesc->np,TypeId->gw,eqGuard->mg
open _root_.Int renaming eq_ofNat_of_zero_le->jz,toNat_natCast->jq
open _root_.List renaming all_cons->ju,all_eq_true->im,append_assoc->gt,append_nil->ic,cons_append->ib,drop_succ_cons->ld,drop_zero->gu,eq_nil_of_length_eq_zero->jp,flatMap_cons->jh,flatten_cons->ir,getD_eq_getElem?_getD->fx,getElem?_append_left->gr,getElem?_append_right->iy,getElem?_cons_succ->lq,getElem?_cons_zero->ik,getElem?_eq_getElem->fq,getElem?_eq_none->ke,getElem?_eq_some_iff->gm,getElem?_map->ls,length_append->gb,length_cons->gq,length_drop->jm,length_map->f5,length_nil->jl,length_replicate->lp,length_singleton->io,length_take->iv,map_append->nm,map_cons->jb,map_map->rp,map_nil->pk,mem_map->jv,nil_append->gn,replicate_succ->ji,set_cons_succ->ma,set_cons_zero->ln,take_append_drop->jf,take_length->mf,take_of_length_le->iu,take_succ_cons->nq,take_zero->ng
open Go.Proofs.Ytkfnjbfnkpameaa.Loc renaming fam->oy
open _root_.Nat renaming add_mul->jt,add_zero->kb,beq->gd,beq_refl->jg,ble->il,blt->ip,eq_of_beq_eq_true->ft,le_refl->fy,lt_of_lt_of_le->h9,mul_one->qr,one_mul->nh,testBit->jd,testBit_and->l7,testBit_or->ou,testBit_two_pow_sub_one->mv,zero_add->jc,zero_le->iz
open Go.Proofs.Ytkfnjbfnkpameaa.Ok0 renaming same->m6
open Go.Op renaming intArith->qp,intBits->qh,intCmp->oq,operands->ij
open _root_.Option renaming map_some->o5
open _root_.Option.some renaming injEq->fk
open _root_.Prod.mk renaming injEq->fw
open Go.Proofs.Ytkfnjbfnkpameaa.Stp renaming refl->r8
open Go.Proofs.Ytkfnjbfnkpameaa.T renaming bool->sx,cells->jk,int->fm,one->nj,str->pq
open Go.Proofs.Ytkfnjbfnkpameaa.TS renaming set_ne->nl,set_same->nf
open Go Go.RowKit
section
variable {GL:List (Nat×List Value)} {A A' A2:Nat->Prop} {β β' β2:Bx} {S S':TS} {s s' s2:CS} {P:gz} {Γ:Env}
def zbq (op:BinOp) (k k':i5) (a b:Int):Option T :=
  match op with
  |.shl=>if 0<=b then some (.int k (k.wrap (a*2 ^ (min b.toNat k.bits)))) else none
  |.shr=>if 0<=b then some (.int k (a.fdiv (2 ^ (min b.toNat k.bits)))) else none
  |op=>bif gd (ikN k) (ikN k') then (match op with
    |.add=>some (.int k (k.wrap (a+b)))
    |.sub=>some (.int k (k.wrap (a - b)))
    |.mul=>some (.int k (k.wrap (a*b)))
    |.quo=>if b=0 then none else some (.int k (k.wrap (a.tdiv b)))
    |.rem=>if b=0 then none else some (.int k (a.tmod b))
    |.and=>some (.int k (k.wrap (je k.bits a &&& je k.bits b).toNat))
    |.or=>some (.int k (k.wrap (je k.bits a ||| je k.bits b).toNat))
    |.xor=>some (.int k (k.wrap (je k.bits a ^^^ je k.bits b).toNat))
    |.andNot=>some (.int k (k.wrap (je k.bits a &&& ~~~ je k.bits b).toNat))
    |.eql=>some (.bool (decide (a=b)))
    |.neq=>some (.bool (decide (a≠b)))
    |.lss=>some (.bool (decide (a<b)))
    |.leq=>some (.bool (decide (a<=b)))
    |.gtr=>some (.bool (decide (b<a)))
    |.geq=>some (.bool (decide (b<=a)))
    |_=>none) else none
theorem yep {op:BinOp} {k k':i5} {a b:Int} {r:T} (h:zbq op k k' a b=some r):∃ v,VT A β (zaa s.obj) r v/\∀ {ρ:gh->Value} {o:Oper} {t t2:gw} {x y:gh} {s:CS},o.op=.binOp op t x y t2->ρ x=.int k a->ρ y=.int k' b->zmu P Γ ρ o s t op (.int k a) (.int k' b)=some (v,s):=by
  unfold zbq at h;split at h
  . split at h
    . rename_i h0;cases h;exact ⟨_,.int _ _,fun ho hx hy=>zbz ho hx hy default (by simp only [binOp,Op.shift];rw [zAd (by omega)]) rfl⟩
    . simp at h
  . split at h
    . rename_i h0;cases h;exact ⟨_,.int _ _,fun ho hx hy=>zbz ho hx hy default (by simp only [binOp,Op.shift];rw [zAd (by omega)]) rfl⟩
    . simp at h
  . cases hq:gd (ikN k) (ikN k') with
    |false=>rw [hq] at h;simp at h
    |true =>
      rw [hq,cond_true] at h;have:=yes hq;subst this;split at h
      . cases h;exact ⟨_,.int _ _,fun ho hx hy=>zbz ho hx hy default (by simp only [binOp,qp,ne_eq,not_true,if_false]) rfl⟩
      . cases h;exact ⟨_,.int _ _,fun ho hx hy=>zbz ho hx hy default (by simp only [binOp,qp,ne_eq,not_true,if_false]) rfl⟩
      . cases h;exact ⟨_,.int _ _,fun ho hx hy=>zbz ho hx hy default (by simp only [binOp,qp,ne_eq,not_true,if_false]) rfl⟩
      . split at h
        . simp at h
        . rename_i hb;cases h;exact ⟨_,.int _ _,fun ho hx hy=>zbz ho hx hy default (by simp only [binOp,Op.intDiv,ne_eq,not_true,if_false];rw [zAd hb]) rfl⟩
      . split at h
        . simp at h
        . rename_i hb;cases h;exact ⟨_,.int _ _,fun ho hx hy=>zbz ho hx hy default (by simp only [binOp,Op.intDiv,ne_eq,not_true,if_false];rw [zAd hb]) rfl⟩
      . cases h;exact ⟨_,.int _ _,fun ho hx hy=>zbz ho hx hy default (by simp only [binOp,qh,ne_eq,not_true,if_false]) rfl⟩
      . cases h;exact ⟨_,.int _ _,fun ho hx hy=>zbz ho hx hy default (by simp only [binOp,qh,ne_eq,not_true,if_false]) rfl⟩
      . cases h;exact ⟨_,.int _ _,fun ho hx hy=>zbz ho hx hy default (by simp only [binOp,qh,ne_eq,not_true,if_false]) rfl⟩
      . cases h;exact ⟨_,.int _ _,fun ho hx hy=>zbz ho hx hy default (by simp only [binOp,qh,ne_eq,not_true,if_false]) rfl⟩
      . cases h;exact ⟨_,.bool _,fun ho hx hy=>zbz ho hx hy default (by simp [binOp,oq];rfl) rfl⟩
      . cases h;exact ⟨_,.bool _,fun ho hx hy=>zbz ho hx hy default (by simp [binOp,oq]<;>rfl) rfl⟩
      . cases h;exact ⟨_,.bool _,fun ho hx hy=>zbz ho hx hy default (by simp [binOp,oq]) rfl⟩
      . cases h;exact ⟨_,.bool _,fun ho hx hy=>zbz ho hx hy default (by simp [binOp,oq]) rfl⟩
      . cases h;exact ⟨_,.bool _,fun ho hx hy=>zbz ho hx hy default (by simp [binOp,oq]) rfl⟩
      . cases h;exact ⟨_,.bool _,fun ho hx hy=>zbz ho hx hy default (by simp [binOp,oq]) rfl⟩
      . simp at h
def zw2 (op:BinOp) (a b:ByteArray):Option T:=match op with
  |.eql=>some (.bool (decide (a=b)))
  |.neq=>some (.bool (!decide (a=b)))
  |.add=>if a.size+b.size<=9223372036854775807 then some (.str (a++b)) else none
  |_=>none
theorem yb3 {op:BinOp} {a b:ByteArray} {r:T} (h:zw2 op a b=some r):∃ v,VT A β (zaa s.obj) r v/\∀ {ρ:gh->Value} {o:Oper} {t t2:gw} {x y:gh} {s:CS},o.op=.binOp op t x y t2->ρ x=.string a->ρ y=.string b->zmu P Γ ρ o s t op (.string a) (.string b)=some (v,s):=by
  unfold zw2 at h;split at h
  . cases h;exact ⟨_,.bool _,fun ho hx hy=>znj ho hx hy rfl (fun d=>zz4 d a) rfl rfl (by unfold mg;simp) (by show some _=_;rw [yb2]) rfl⟩
  . cases h;exact ⟨_,.bool _,fun ho hx hy=>znj ho hx hy rfl (fun d=>zz4 d a) rfl rfl (by unfold mg;simp) (by show some _=_;rw [yb2]) rfl⟩
  . split at h
    . rename_i hs;cases h
      exact ⟨_,.str _,fun ho hx hy=>znj ho hx hy rfl (fun d=>zz4 d a) rfl rfl (by unfold mg;simp) (by
        show za9 P (Op.stringOp .add a b)=_;unfold Op.stringOp;simp only
        rw [zAd (by have : IntKind.i64.max = 9223372036854775807 := by decide
                    omega)]
        rfl) rfl⟩
    . simp at h
  . simp at h
theorem zal {α γ:Type} {f:α->Sem γ}:∀ {m:Sem α},za9 P (m >>= f)=(za9 P m).bind fun v=>za9 P (f v):=by
  intro m
  induction m with
  |pure a=>rfl
  |program k ih=>exact ih P
  |_=>rfl
theorem yai {ρ:gh->Value} {t t2:gw} {x y:gh} {op:BinOp} {v w r:Value} {o:Oper} (ho:o.op=.binOp op t x y t2) (hx:ρ x=v) (hy:ρ y=w) (hc:binC op v w=none) (hn:∀ d,nilT d v=none) (hpv:za8 3 v=true) (hpw:za8 3 w=true)
    (hr:za9 P (do mg op t x y v w;binOp op t v w)=some r) (hp:za8 3 r=true):zmu P Γ ρ o s t op v w=some (r,s):=by
  unfold zmu;rw [hc];simp only;rw [z8t hn];simp only [zhw];unfold znd
  have hops:(o.op.operands.toList.all fun z=>za8 3 (ρ z))=true:=by
    rw [ho];simp [ij,hx,hy,hpv,hpw]
  rw [hops]
  have he:execOp ρ o=((do mg op t x y v w;binOp op t v w) >>= fun z=>pure (Next.value z)):=by
    unfold execOp;rw [ho];simp only [hx,hy]
  rw [he]
  have hv:za9 P ((do mg op t x y v w;binOp op t v w) >>= fun z=>pure (Next.value z))=some (.value r):=by
    rw [zal,hr];rfl
  simp only [cond_true];rw [hv];show retC s (bif za8 3 r then some r else none)=some (r,s);rw [hp];rfl
def ygy:T->Option Value
  |.int k n=>some (.int k n)
  |.bool b=>some (.bool b)
  |.str b=>some (.string b)
  |_=>none
def zgp:List T->Option (List Value)
  |[]=>some []
  |t :: l=>match ygy t,zgp l with|some v,some r=>some (v :: r)|_,_=>none
theorem ygx {g:Nat->Fam} {t:T} {v w:Value} (h:ygy t=some w) (hv:VT A β g t v):v=w/\∀ n,za8 n v=true:=by
  unfold ygy at h;split at h
  . cases h;cases hv;exact ⟨rfl,fun n=>by cases n<;>rfl⟩
  . cases h;cases hv;exact ⟨rfl,fun n=>by cases n<;>rfl⟩
  . cases h;cases hv;exact ⟨rfl,fun n=>by cases n<;>rfl⟩
  . simp at h
theorem zt6 {g:Nat->Fam}:∀ {l:List T} {vs ws:List Value},zgp l=some ws->VL A β g l vs->vs=ws/\vs.all (za8 2)=true
  |[],_,ws,h,.nil=>by simp only [zgp,fk] at h;subst h;exact ⟨rfl,rfl⟩
  |t :: l,_,ws,h,.cons h1 h2=>by
    unfold zgp at h;split at h
    . rename_i v r e1 e2;cases h;obtain ⟨a,b⟩:=ygx e1 h1;obtain ⟨c,d⟩:=zt6 e2 h2;rw [a,c] at *;exact ⟨rfl,by rw [ju,b 2,d];rfl⟩
    . simp at h
def zo2 (P:gz) (t:gw) (op:BinOp) (x y:gh) (a b:List T):Option T:=match zgp a,zgp b with
  |some va,some vb=>(match za9 P (do mg op t x y (.agg ⟨va⟩) (.agg ⟨vb⟩);binOp op t (.agg ⟨va⟩) (.agg ⟨vb⟩)) with
    |some (.bool r)=>some (.bool r)
    |_=>none)
  |_,_=>none
theorem ydy (d:np) (a:Array Value):nilT d (.agg a)=none:=by cases d<;>rfl
def tNil (S:TS):np->T->Option Bool
  |.pointer _,.nilp=>some true
  |.pointer _,.ptr b _ N=>bif S.has b N then some false else none
  |.pointer _,.cp _=>some false
  |.slice _,.nils=>some true
  |.slice _,.arr b _ _ _ _ N=>bif S.has b N && ip 0 N then some false else none
  |.slice _,.lst _ (_ :: _)=>some false
  |.slice _,.emp _=>some false
  |.map _ _,.nilm=>some true
  |.func _ _ _,.nilf=>some true
  |.func _ _ _,.fn _ _ _=>some false
  |_,_=>none
theorem ybw (h:TRel GL A β S s) {d:np} {t:T} {v:Value} {b:Bool} (hv:VT A β (zaa s.obj) t v) (ht:tNil S d t=some b):nilT d v=some b:=by
  unfold tNil at ht;split at ht
  . cases ht;cases hv;rfl
  . rename_i b' _ N
    cases hs:S.has b' N with
    |false=>rw [hs] at ht;simp at ht
    |true =>
      rw [hs] at ht;cases ht;obtain ⟨z,l,hS⟩:=TS.has_ok hs;obtain ⟨f,u,rfl,hb⟩:=zku h hS hv;rfl
  . cases ht;cases hv;rfl
  . cases ht;cases hv;rfl
  . rename_i b' _ _ _ _ N
    cases hs:(S.has b' N && ip 0 N) with
    |false=>rw [hs] at ht;simp at ht
    |true =>
      rw [hs] at ht;cases ht;simp only [fp] at hs;obtain ⟨z,l,hS⟩:=TS.has_ok hs.1;have:=zae.1 hs.2;rcases zh4 h hS hv with ⟨f,u,rfl,hb,htag⟩|⟨rfl,hb,rfl,rfl,rfl,rfl⟩
      . rfl
      . omega
  . cases ht;cases hv;rfl
  . cases ht;cases hv;rfl
  . cases ht;cases hv;rfl
  . cases ht;cases hv;rfl
  . cases ht;cases hv;rfl
  . simp at ht
def tBin (P:gz) (Γ:Env) (S:TS) (t:gw) (op:BinOp) (x y:gh) (a b:T):Option T:=match a,b with
  |.int k m,.int k' n=>zbq op k k' m n
  |.str m,.str n=>zw2 op m n
  |.bool m,.bool n=>(match Γ.ti.at t with
    |some i=>(match i.desc,op with|.bool,.eql=>some (.bool (m == n))|.bool,.neq=>some (.bool (!(m == n)))|_,_=>none)
    |none=>none)
  |.agg m,.agg n=>zo2 P t op x y m n
  |a,b=>(match Γ.ti.at t with
    |some i=>(match tNil S i.desc a,tNil S i.desc b with
      |some p,some q=>bif p || q then (match op with|.eql=>some (.bool (p && q))|.neq=>some (.bool (!(p && q)))|_=>none) else none
      |_,_=>none)
    |none=>none)
theorem z9r {op:BinOp} {v w:Value} {d:np} {p:Bool} (h:nilT d v=some p):binC op v w=none:=by
  unfold nilT at h;split at h<;>first | (simp at h;done)|rfl
theorem yl8 (hE:zej P Γ) (h:TRel GL A β S s) {t t2:gw} {op:BinOp} {x y:gh} {o:Oper} {a b r:T} {ρ:gh->Value} (ho:o.op=.binOp op t x y t2) (hx:VT A β (zaa s.obj) a (ρ x)) (hy:VT A β (zaa s.obj) b (ρ y)) (ht:tBin P Γ S t op x y a b=some r):Ok0 GL A β S s (zmu P Γ ρ o s t op (ρ x) (ρ y)) r:=by
  unfold tBin at ht;split at ht
  . rename_i k m k' n;obtain ⟨v,h1,h2⟩:=yep (A:=A) (β:=β) (s:=s) (P:=P) (Γ:=Γ) ht;generalize e1:ρ x=vx at hx;generalize e2:ρ y=vy at hy;cases hx;cases hy;rw [h2 ho e1 e2];exact m6 h h1
  . rename_i m n;obtain ⟨v,h1,h2⟩:=yb3 (A:=A) (β:=β) (s:=s) (P:=P) (Γ:=Γ) ht;generalize e1:ρ x=vx at hx;generalize e2:ρ y=vy at hy;cases hx;cases hy;rw [h2 ho e1 e2];exact m6 h h1
  . rename_i m n;generalize e1:ρ x=vx at hx;generalize e2:ρ y=vy at hy;cases hx;cases hy;split at ht
    . rename_i i hi;have hd:=(hE.ti _ _ hi).und;split at ht
      . rename_i hdb;cases ht;rw [hdb] at hd
        rw [znj ho e1 e2 rfl (fun d=>z2b d m) rfl rfl (by unfold mg;simp) (r:=.bool (m == n)) (by
          show za9 P (do pure (Value.bool (<- Op.equal t (.bool m) (.bool n))):Sem Value)=_
          rw [zhi (zmo hd)];rfl) rfl]
        exact m6 h (.bool _)
      . rename_i hdb;cases ht;rw [hdb] at hd
        rw [znj ho e1 e2 rfl (fun d=>z2b d m) rfl rfl (by unfold mg;simp) (r:=.bool (!(m == n))) (by
          show za9 P (do pure (Value.bool (!(<- Op.equal t (.bool m) (.bool n)))):Sem Value)=_
          rw [zhi (zmo hd)];rfl) rfl]
        exact m6 h (.bool _)
      . simp at ht
    . simp at ht
  . rename_i m n;generalize e1:ρ x=vx at hx;generalize e2:ρ y=vy at hy;cases hx;cases hy;rename_i va ha vb hb;unfold zo2 at ht;split at ht
    . rename_i wa wb h1 h2;obtain ⟨rfl,k1⟩:=zt6 h1 ‹VL A β (zaa s.obj) m _›;obtain ⟨rfl,k2⟩:=zt6 h2 ‹VL A β (zaa s.obj) n _›;split at ht
      . rename_i r' hr;cases ht;rw [yai ho e1 e2 rfl (fun d=>ydy d _) k1 k2 hr rfl];exact m6 h (.bool _)
      . simp at ht
    . simp at ht
  . split at ht
    . rename_i i hi;split at ht
      . rename_i p q h1 h2
        cases hpq:(p || q) with
        |false=>rw [hpq] at ht;simp at ht
        |true =>
          rw [hpq] at ht;simp only [cond_true] at ht;have n1:=ybw h hx h1;have n2:=ybw h hy h2;split at ht
          . cases ht
            have:zmu P Γ ρ o s t .eql (ρ x) (ρ y)=some (.bool (p && q),s):=by
              unfold zmu;rw [z9r n1];simp only;unfold eqC;simp only [hi,n1,n2];unfold nilC;simp only [hpq,cond_true];simp [zhw]
            rw [this];exact m6 h (.bool _)
          . cases ht
            have:zmu P Γ ρ o s t .neq (ρ x) (ρ y)=some (.bool (!(p && q)),s):=by
              unfold zmu;rw [z9r n1];simp only;unfold eqC;simp only [hi,n1,n2];unfold nilC;simp only [hpq,cond_true];simp [zhw]
            rw [this];exact m6 h (.bool _)
          . simp at ht
      . simp at ht
    . simp at ht
def tUn (op:UnOp):T->Option T
  |.bool b=>(match op with|.not=>some (.bool (!b))|_=>none)
  |.int k a=>(match op with
    |.neg=>some (.int k (k.wrap (0 - a)))
    |.xor=>some (.int k (k.wrap (je k.bits (if k.signed then -1 else k.max) ^^^ je k.bits a).toNat))
    |_=>none)
  |_=>none
theorem yn8 (h:TRel GL A β S s) {t:gw} {op:UnOp} {x:gh} {o:Oper} {a r:T} {ρ:gh->Value} (ho:o.op=.unOp op t x) (hx:VT A β (zaa s.obj) a (ρ x)) (ht:tUn op a=some r):Ok0 GL A β S s (zhw P ρ o s (unC op (ρ x))) r:=by
  obtain ⟨d,opx,ty,pos,e,g⟩:=o;simp only at ho;subst ho;unfold tUn at ht;split at ht
  . rename_i b;generalize e1:ρ x=vx at hx;cases hx;split at ht
    . cases ht;exact m6 h (.bool _)
    . simp at ht
  . rename_i k m;generalize e1:ρ x=vx at hx;cases hx;split at ht
    . cases ht;rw [yos e1];exact m6 h (.int _ _)
    . cases ht;rw [yor e1];exact m6 h (.int _ _)
    . simp at ht
  . simp at ht
def zvy:List T->Option (List UInt8)
  |[]=>some []
  |.int .u8 k :: l=>(match zvy l with|some r=>some (UInt8.ofNat k.toNat :: r)|none=>none)
  |_ :: _=>none
theorem z38 {g:Nat->Fam}:∀ {l:List T} {vs:List Value} {r:List UInt8},VL A β g l vs->zvy l=some r->z0w vs=some r
  |[],_,r,.nil,h=>by simp only [zvy,fk] at h;subst h;rfl
  |t :: l,_,r,.cons h1 h2,h=>by
    unfold zvy at h;split at h
    . simp_all
    . rename_i k l' hh;cases hh;split at h
      . rename_i r' hr;cases h;cases h1;unfold z0w;rw [z38 h2 hr]
      . simp at h
    . simp at h
def tStr (Γ:Env) (S:TS) (d1 d2:np) (x:T):Option T:=match d1,d2 with
  |.slice e,.string=>bif isU8 Γ e then (match tSrc S 1 x with
    |some (_,xs)=>(match zvy xs with|some r=>some (.str ⟨r.toArray⟩)|none=>none)
    |none=>none) else none
  |_,_=>none
theorem z4e (h:TRel GL A β S s) {src dst:gw} {x:gh} {o:Oper} {a r:T} {ρ:gh->Value} {i j:TI} (hi:Γ.ti.at src=some i) (hj:Γ.ti.at dst=some j) (hx:VT A β (zaa s.obj) a (ρ x)) (ht:tStr Γ S i.desc j.desc a=some r) (hsl:∀ n xs,tSrc S 1 a=some (n,xs)->∃ aa c m,ρ x=.slice aa m c):Ok0 GL A β S s (zd6 P Γ ρ o s src dst (ρ x)) r:=by
  unfold tStr at ht;split at ht
  . rename_i e hd1 hd2
    cases hq:isU8 Γ e with
    |false=>rw [hq] at ht;simp at ht
    |true =>
      rw [hq] at ht;simp only [cond_true] at ht;split at ht
      . rename_i n xs hsrc;obtain ⟨e1,e2,e3⟩:=z4f h (show 0<1 by omega) hx hsrc;obtain ⟨ys,s1,f1,f2,f3⟩:=e3 n (fy _);rw [iu (by omega)] at f2;split at ht
        . rename_i r' hr';cases ht;obtain ⟨aa,c,m,hsl⟩:=hsl n xs hsrc;rw [hsl] at e1 f1 ⊢;simp only [lenC,fk] at e1;subst e1
          have:zd6 P Γ ρ o s src dst (.slice aa m c)=some (.string ⟨r'.toArray⟩,s1):=by
            unfold zd6;simp only [hi,hj,hd1,hd2,hq,cond_true];rw [f1];unfold strC;simp only [z38 f2 hr']
          rw [this];exact Ok0.rd h (f3.rel0 h) (.str _)
        . simp at ht
      . simp at ht
  . simp at ht
def zr2 (Γ:Env) (S:TS) (src dst:gw) (x:T):Option T:=match Γ.ti.at src,Γ.ti.at dst with
  |some i,some j=>(match x with
    |.int _ n=>(match j.desc with|.int k=>some (.int k (k.wrap n))|_=>none)
    |.str b=>(match i.desc,j.desc with
      |.string,.slice e=>bif isU8 Γ e && il b.size 1000000000 then some (.lst 1 (zh2 b)) else none
      |.string,.string=>some (.str b)
      |_,_=>none)
    |.lst e' l=>tStr Γ S i.desc j.desc (.lst e' l)
    |.arr b e' off len cap N=>tStr Γ S i.desc j.desc (.arr b e' off len cap N)
    |.nils=>tStr Γ S i.desc j.desc .nils
    |_=>none)
  |_,_=>none
theorem z86 {ρ:gh->Value} {o:Oper} {src dst e:gw} {i j:TI} {b:ByteArray} (hi:Γ.ti.at src=some i) (hj:Γ.ti.at dst=some j) (hd1:i.desc=.string) (hd2:j.desc=.slice e) (hq:(isU8 Γ e && il b.size 1000000000)=true):zd6 P Γ ρ o s src dst (.string b)=zh7 b.size b.size (s.newRow 2 (zjf b)):=by
  unfold zd6;simp only [hi,hj,hd1,hd2,hq,cond_true]
theorem z05 (hE:zej P Γ) (h:TRel GL A β S s) {src dst:gw} {x:gh} {o:Oper} {a r:T} {ρ:gh->Value} (ho:o.op=.convert src dst x) (hx:VT A β (zaa s.obj) a (ρ x)) (ht:zr2 Γ S src dst a=some r):Ok0 GL A β S s (zd6 P Γ ρ o s src dst (ρ x)) r:=by
  unfold zr2 at ht;split at ht
  . rename_i i j hi hj;split at ht
    . rename_i k n;generalize e1:ρ x=vx at hx;cases hx;split at ht
      . rename_i k' hd;cases ht;obtain ⟨d,opx,ty,pos,e,g⟩:=o;simp only at ho;subst ho;have hs:=(hE.ti _ _ hi).und;have hdd:=(hE.ti _ _ hj).und;rw [hd] at hdd;unfold zd6;simp only [hi,hj,hd];rw [yow ⟨k,e1⟩ (by rw [hs];rfl) hdd];exact m6 h (.int _ _)
      . simp at ht
    . rename_i b;generalize e1:ρ x=vx at hx;cases hx;split at ht
      . rename_i e hd1 hd2
        cases hq:(isU8 Γ e && il b.size 1000000000) with
        |false=>rw [hq] at ht;simp at ht
        |true =>
          rw [hq] at ht;cases ht;have hv:VL A β (zaa s.obj) (zh2 b) (zjf b):=ztk _;obtain ⟨s',A',k1,k2,k3,k4,k5⟩:=h.newFrozen 2 (by omega) hv;rw [z86 hi hj hd1 hd2 hq,k1];refine ⟨_,s',A',rfl,k4,?_,k5⟩
          have hfm:(zh2 b).flatMap jk=zh2 b:=by
            unfold zh2 yii;rw [List.flatMap_map]
            have:∀ l:List UInt8,List.flatMap (fun (a:UInt8)=>(fm IntKind.u8 (a.toNat:Int)).cells) l=l.map fun a=>.int .u8 (a.toNat:Int):=by
              intro l
              induction l with
              |nil=>rfl
              |cons c l ih=>rw [jh,ih];rfl
            exact this _
          have hln:(zh2 b).length=b.size:=by simp [zh2]
          have:=VT.lst (A:=A') (β:=β) (g:=zaa s'.obj) (e:=1) (off:=0) (cap:=b.size) (l:=zh2 b) k2 k3 (by rw [hfm];exact k5.stp.vl h hv) (fun t ht=>by
            obtain ⟨c,_,rfl⟩:=jv.1 ht
            rfl) (by omega) (by rw [gu,mf]) (.inr (by omega)) (by omega)
          rw [hln] at this;exact this
      . rename_i hd1 hd2;cases ht
        have:zd6 P Γ ρ o s src dst (.string b)=some (.string b,s):=by
          unfold zd6;simp only [hi,hj,hd1,hd2]
        rw [this];exact m6 h (.str _)
      . simp at ht
    . refine z4e h hi hj hx ht fun n xs hs=>?_;generalize ρ x=vx at hx
      cases hx with
      |lnil=>exact ⟨_,_,_,rfl⟩
      |lst=>exact ⟨_,_,_,rfl⟩
    . rename_i b e' off len cap N;refine z4e h hi hj hx ht fun n xs hs=>?_;unfold tSrc at hs;simp only at hs;split at hs
      . rename_i z N' l hS
        cases hq:(gd N N' && (gd e' 1 && il (off+len*1) N)) with
        |false=>rw [hq] at hs;simp at hs
        |true =>
          simp only [fp] at hq;have:=ft hq.1;subst this;rcases zh4 h hS hx with ⟨f,u,h1,hb,_⟩|⟨h1,_⟩
          . exact ⟨_,_,_,h1⟩
          . exact ⟨_,_,_,h1⟩
      . simp at hs
    . refine z4e h hi hj hx ht fun n xs hs=>?_;generalize ρ x=vx at hx;cases hx;exact ⟨_,_,_,rfl⟩
    . simp at ht
  . simp at ht
def zsz (Γ:Env) (S:TS) (src dst:gw) (x:T):Option (T×TS):=match Γ.ti.at src,Γ.ti.at dst,x with
  |some i,some j,.str b=>(match i.desc,j.desc with
    |.string,.slice e=>bif isU8 Γ e && il b.size 1000000000 then some (.arr S.n 1 0 b.size b.size (zh2 b).length,S.add (.cells false (zh2 b).length (zh2 b))) else none
    |_,_=>none)
  |_,_,_=>none
theorem z4h (h:TRel GL A β S s) {src dst:gw} {x:gh} {o:Oper} {a r:T} {ρ:gh->Value} (hx:VT A β (zaa s.obj) a (ρ x)) (ht:zsz Γ S src dst a=some (r,S')):Ok GL A β s (zd6 P Γ ρ o s src dst (ρ x)) r S':=by
  unfold zsz at ht;split at ht
  . rename_i i j b hi hj;generalize e1:ρ x=vx at hx;cases hx;split at ht
    . rename_i e hd1 hd2
      cases hq:(isU8 Γ e && il b.size 1000000000) with
      |false=>rw [hq] at ht;simp at ht
      |true =>
        rw [hq] at ht;cases ht;have hv:VL A β (zaa s.obj) (zh2 b) (zjf b):=ztk _
        have hone:(zh2 b).all nj=true:=by
          unfold zh2 yii;rw [im];intro t ht;obtain ⟨c,_,rfl⟩:=jv.1 ht;rfl
        obtain ⟨s',β',k1,k2,k3,k4⟩:=h.newBox 2 (by omega) hv (hv.one hone);rw [z86 hi hj hd1 hd2 hq,k1];exact ⟨_,s',A,β',rfl,k3,.arr k2 (.inr (by omega)),k4⟩
    . simp at ht
  . simp at ht
end
def zj5 (Γ:Env) (t:gw) (k:T):Bool:=match Γ.ti.at t with
  |some i=>(match i.desc,k with|.int a,.int b _=>gd (ikN a) (ikN b)|.string,.str _=>true|.bool,.bool _=>true|_,_=>false)
  |none=>false
def zw0:T->T->Option Bool
  |.int k a,.int k' b=>bif gd (ikN k) (ikN k') then some (a == b) else none
  |.str a,.str b=>some (a.data.toList == b.data.toList)
  |.bool a,.bool b=>some (a == b)
  |_,_=>none
def tGet (k:T):List (T×T)->Option (Option T)
  |[]=>some none
  |(k',v) :: l=>match zw0 k k' with
    |some true=>some (some v)
    |some false=>tGet k l
    |none=>none
def tSet (k v:T):List (T×T)->Option (List (T×T))
  |[]=>some [(k,v)]
  |(k',v') :: l=>match zw0 k k' with
    |some true=>some ((k,v) :: l)
    |some false=>(match tSet k v l with|some l=>some ((k',v') :: l)|none=>none)
    |none=>none
def zgo (i:TI):Option T:=bif aggT i.desc then (match zgn i.zero with|some l=>some (.agg l)|none=>none) else match i.zero with | [z]=>zls z|_=>none
def z8l (ok:Bool) (z:T):Option T->T
  |some v=>bif ok then .tup [v,.bool true] else v
  |none=>bif ok then .tup [z,.bool false] else z
def zd9 (Γ:Env) (S:TS) (t:gw) (x k:T) (ok:Bool):Option T:=match Γ.ti.at t with
  |some i=>(match i.desc with
    |.map kt e=>bif zj5 Γ kt k then (match Γ.ti.at e with
      |some j=>(match zgo j with
        |some z=>(match x with
          |.nilm=>some (z8l ok z none)
          |.mp b=>(match S.box b with|.map l=>(match tGet k l with|some r=>some (z8l ok z r)|none=>none)|_=>none)
          |_=>none)
        |none=>none)
      |none=>none) else none
    |_=>none)
  |none=>none
def zba (Γ:Env) (S:TS) (t:gw) (k v m:T):Option TS:=match m,Γ.ti.at t with
  |.mp b,some i=>(match i.desc with
    |.map kt _=>bif zj5 Γ kt k then (match S.box b with|.map l=>(match tSet k v l with|some l'=>some (S.set b (.map l'))|none=>none)|_=>none) else none
    |_=>none)
  |_,_=>none
def zct (S:TS):Option (T×TS):=some (.mp S.n,S.add (.map []))
section
variable {GL:List (Nat×List Value)} {A A':Nat->Prop} {β β':Bx} {S S':TS} {s s':CS} {P:gz} {Γ:Env} {g g':Nat->Fam}
theorem VM.mk {k x:T} {v w:Value} {l:List (T×T)} {es:List (Value×Value)} (a:VT A β g k v) (c:VT A β g x w) (h:VM A β g l es):VM A β g ((k,x) :: l) ((v,w) :: es):=⟨.cons a h.1,.cons c h.2⟩
end
def zny (v:Value):T:=match zls v with
  |some t=>t
  |none=>match v with
    |.agg cs=>(match zgn cs.toList with|some l=>.agg l|none=>.junk)
    |_=>.junk
def ye9:List (Nat×List Value)->Nat->T
  |[],_=>.junk
  |x :: l,k=>bif gd x.1 k then (match zgn x.2 with|some c=>.cp c|none=>.junk) else ye9 l k
def zdk (GL:List (Nat×List Value)) (h:Nat->T):gh->T
  |.tmp t=>h t
  |.const v=>zny v
  |.global k=>ye9 GL k
  |.func f=>.fn f [] []
def tupd (h:Nat->T) (t:Nat) (v:T):Nat->T:=fun u=>if u=t then v else h u
theorem zhl (h:Nat->T) (t:Nat) (v:T):tupd h t v t=v:=zAc rfl
theorem zlu (h:Nat->T) (t u:Nat) (v:T) (hn:u≠t):tupd h t v u=h u:=zAd hn
def putT (h:Nat->T):Option Tmp->T->Nat->T
  |some d,v=>tupd h d v
  |none,_=>h
def zh5 (S:TS):Option T->Option (T×TS)
  |some t=>some (t,S)
  |none=>none
def ybl:Option TS->Option (T×TS)
  |some S=>some (.junk,S)
  |none=>none
def ownD (own:List Nat) (d:Option Tmp):Bool:=match d with|some d=>has own d|none=>false
def zmw (Γ:Env) (S:TS) (ρ:gh->T) (b:Builtin) (args:List gh) (ts:List gw):Option T:=match b with
  |.len=>(match args,ts with | [x],[t]=>tLen Γ S t (ρ x)|_,_=>none)
  |.min=>(match args with | [x,y]=>(match ρ x,ρ y with|.int k a,.int _ b=>some (.int k (min a b))|_,_=>none)|_=>none)
  |.max=>(match args with | [x,y]=>(match ρ x,ρ y with|.int k a,.int _ b=>some (.int k (max a b))|_,_=>none)|_=>none)
  |_=>none
def zgr (P:gz) (Γ:Env) (ρ:gh->T) (o:Oper) (S:TS):Option T :=
  match o.op with
  |.move x=>some (ρ x)
  |.assign x=>some (ρ x)
  |.pick c a b=>(match ρ c with|.bool t=>some (bif t then ρ a else ρ b)|_=>none)
  |.build t parts=>zke Γ ρ t parts.toList
  |.buildSlice t n parts=>zan Γ ρ t n parts.toList
  |.load t x=>ztt Γ S t (ρ x)
  |.makeFunc fn first captured=>(match fn with|.func f=>some (.fn f (first.toList.map ρ) (captured.toList.map ρ))|_=>none)
  |.slice t x lo hi mx=>zts Γ S t (ρ x) (lo.map ρ) (hi.map ρ) (mx.map ρ)
  |.fieldAddr t x k=>zao Γ S t k (ρ x)
  |.indexAddr t x ix=>zic Γ S t (ρ x) (ρ ix)
  |.index t x ix=>ztu Γ t (ρ x) (ρ ix)
  |.extract x k=>zlv k (ρ x)
  |.unOp op _ x=>tUn op (ρ x)
  |.convert src dst x=>zr2 Γ S src dst (ρ x)
  |.binOp op t x y _=>tBin P Γ S t op x y (ρ x) (ρ y)
  |.call c=>(match c.callee with
    |.builtin b=>zmw Γ S ρ b c.args.toList c.argTypes.toList
    |_=>none)
  |_=>none
def zgu (P:gz) (Γ:Env) (own:List Nat) (ρ:gh->T) (o:Oper) (S:TS):Option (T×TS) :=
  match o.op with
  |.alloc e=>zw1 Γ S e
  |.box _ x=>tBox S (ρ x)
  |.buildSlice t n parts=>bif ownD own o.dst then zar Γ S ρ t n parts.toList else zh5 S (zan Γ ρ t n parts.toList)
  |.store t x v=>ybl (zwz Γ S t (ρ v) (ρ x))
  |.makeSlice t l c=>zjn Γ S t (ρ l) (ρ c)
  |.convert src dst x=>bif ownD own o.dst then zsz Γ S src dst (ρ x) else zh5 S (zr2 Γ S src dst (ρ x))
  |.call c=>(match c.callee with
    |.builtin .append=>(match c.args.toList,c.argTypes.toList with | [x,y],[t,tx]=>bif srcT Γ tx then zmy Γ S t (ρ y) (ρ x) else none|_,_=>none)
    |.builtin .clear=>(match c.args.toList,c.argTypes.toList with | [x],[t]=>ztv Γ S t (ρ x)|_,_=>none)
    |.builtin b=>zh5 S (zmw Γ S ρ b c.args.toList c.argTypes.toList)
    |_=>none)
  |_=>zh5 S (zgr P Γ ρ o S)
section
variable {GL:List (Nat×List Value)} {A A' A2:Nat->Prop} {β β' β2:Bx} {S S':TS} {s s' s2:CS} {P:gz} {Γ:Env}
theorem VT.undf {g:Nat->Fam}:VT A β g (.tup []) undef:=VT.tup (vs:=[]) .nil
theorem yfr {g:Nat->Fam} (v:Value):VT A β g (zny v) v:=by
  unfold zny;split
  . rename_i t ht;exact (z6c ht).1
  . split
    . rename_i cs;split
      . rename_i l hl;obtain ⟨cs⟩:=cs;exact .agg (zjw hl).1
      . exact .junk _
    . exact .junk _
theorem z8h {g:Nat->Fam}:∀ (L:List (Nat×List Value)) (k:Nat),(∀ x,x∈L->A x.1/\zbp (g x.1).rows (x.1*1024)=some x.2)->VT A β g (ye9 L k) (.pointer (some (mkA k (k*1024) 0)))
  |[],k,_=>.junk _
  |x :: l,k,h=>by
    unfold ye9
    cases hb:gd x.1 k with
    |false=>exact z8h l k fun y hy=>h y (by simp [hy])
    |true =>
      have:=ft hb;subst this;simp only [cond_true];split
      . rename_i c hc;obtain ⟨h1,h2⟩:=h x (by simp);exact .cp h1 h2 (zjw hc).1 (by rw [gu,mf])
      . exact .junk _
structure FrOk (A:Nat->Prop) (β:Bx) (g:Nat->Fam) (N:Nat) (h:Nat->T) (fr:Fr):Prop where
  nt:fr.nt=N
  le:N<=512
  slot:∀ t,VT A β g (h t) (fr.get t)
theorem FrOk.mono {N:Nat} {h:Nat->T} {fr:Fr} {g g':Nat->Fam} (k:FrOk A β g N h fr) (hA:∀ f,A f->A' f) (hg:∀ f,A f->g' f=g f) (hβ:Bx.le β β'):FrOk A' β' g' N h fr:=⟨k.nt,k.le,fun t=>(k.slot t).mono hA hg hβ⟩
theorem FrOk.eval (hT:TRel GL A β S s) {N:Nat} {h:Nat->T} {fr:Fr} (k:FrOk A β (zaa s.obj) N h fr) (x:gh):VT A β (zaa s.obj) (zdk GL h x) (zhb fr x):=by
  cases x with
  |tmp t=>exact k.slot t
  |const v=>exact yfr v
  |global g=>exact z8h GL g hT.glob
  |func f=>exact .fn .nil .nil
def zfq (N:Nat) (ops:List Oper):Bool:=ops.all fun o=>match o.dst with|some d=>ip d N|none=>true
theorem FrOk.put {N:Nat} {h:Nat->T} {fr:Fr} {g:Nat->Fam} (k:FrOk A β g N h fr) {d:Option Tmp} (hd:∀ t,d=some t->t<N) {t:T} {v:Value} (hv:VT A β g t v):FrOk A β g N (putT h d t) (putC fr d v):=by
  cases d with
  |none=>exact k
  |some d =>
    have hdN:=hd d rfl;refine ⟨?_,k.le,fun u=>?_⟩
    . show (fr.put d v).nt=N;unfold Fr.put;rw [zcn];split<;>exact k.nt
    . show VT A β g (tupd h d t u) ((fr.put d v).get u);by_cases hu:u=d
      . subst hu;rw [zhl,Fr.get_put_same v (by rw [k.nt];exact hdN) (by rw [k.nt];exact k.le)];exact hv
      . rw [zlu _ _ _ _ hu,sw v (by rw [k.nt];exact k.le) (fun hh=>hu hh.symm)];exact k.slot u
theorem zvz {g:Nat->Fam} {ρT:gh->T} {ρ:gh->Value} (hρ:∀ x,VT A β g (ρT x) (ρ x)):∀ (l:List gh),VL A β g (l.map ρT) (l.map ρ)
  |[]=>.nil
  |x :: l=>.cons (hρ x) (zvz hρ l)
theorem ygg {g:Nat->Fam} {ρT:gh->T} {ρ:gh->Value} (hρ:∀ x,VT A β g (ρT x) (ρ x)):∀ (l:Option gh),VO A β g (l.map ρT) (l.map ρ)
  |none=>.none
  |some x=>.some (hρ x)
theorem zsx {r:Option T} {t:T} {S1 S2:TS} (h:zh5 S1 r=some (t,S2)):r=some t/\S2=S1:=by
  unfold zh5 at h;split at h
  . cases h;exact ⟨rfl,rfl⟩
  . simp at h
theorem ygo {r:Option TS} {t:T} {S2:TS} (h:ybl r=some (t,S2)):r=some S2/\t=.junk:=by
  unfold ybl at h;split at h
  . cases h;exact ⟨rfl,rfl⟩
  . simp at h
theorem zr3 (hT:TRel GL A β S s) {ρT:gh->T} {ρ:gh->Value} (hρ:∀ x,VT A β (zaa s.obj) (ρT x) (ρ x)) {o:Oper} {b:Builtin} {args:Array gh} {ts:Array gw} {r:T} (ho:o.op=.call ⟨.builtin b,args,ts⟩) (ht:zmw Γ S ρT b args.toList ts.toList=some r):Ok0 GL A β S s (zf8 P Γ ρ o s b args.toList ts.toList) r:=by
  unfold zmw at ht;split at ht
  . split at ht
    . rename_i x t e1 e2;rw [e1,e2];exact yl6 hT (hρ x) ht
    . simp at ht
  . split at ht
    . rename_i x y e1;split at ht
      . rename_i k a k' b' e2 e3;cases ht;obtain ⟨args⟩:=args;simp only at e1;subst e1;obtain ⟨d,opx,ty,pos,e,g⟩:=o;simp only at ho;subst ho;have h1:=hρ x;have h2:=hρ y;rw [e2] at h1;rw [e3] at h2;generalize f1:ρ x=vx at h1;generalize f2:ρ y=vy at h2;cases h1;cases h2;show Ok0 GL A β S s (zf8 P Γ ρ _ s .min [x,y] ts.toList) _;rw [o_min f1 f2];exact m6 hT (.int _ _)
      . simp at ht
    . simp at ht
  . split at ht
    . rename_i x y e1;split at ht
      . rename_i k a k' b' e2 e3;cases ht;obtain ⟨args⟩:=args;simp only at e1;subst e1;obtain ⟨d,opx,ty,pos,e,g⟩:=o;simp only at ho;subst ho;have h1:=hρ x;have h2:=hρ y;rw [e2] at h1;rw [e3] at h2;generalize f1:ρ x=vx at h1;generalize f2:ρ y=vy at h2;cases h1;cases h2;show Ok0 GL A β S s (zf8 P Γ ρ _ s .max [x,y] ts.toList) _;rw [o_max f1 f2];exact m6 hT (.int _ _)
      . simp at ht
    . simp at ht
  . simp at ht
theorem z6o (hE:zej P Γ) (hT:TRel GL A β S s) {ρT:gh->T} {ρ:gh->Value} (hρ:∀ x,VT A β (zaa s.obj) (ρT x) (ρ x)) {call:zel} {o:Oper} {r:T} (ht:zgr P Γ ρT o S=some r):Ok0 GL A β S s (cop P Γ call ρ o s) r:=by
  unfold zgr at ht;split at ht
  . rename_i x ho;cases ht;unfold cop;simp only [ho];exact m6 hT (hρ x)
  . rename_i x ho;cases ht;unfold cop;simp only [ho];exact m6 hT (hρ x)
  . rename_i c a b ho;split at ht
    . rename_i t hc;cases ht;unfold cop;simp only [ho];have h1:=hρ c;rw [hc] at h1;generalize f1:ρ c=vc at h1;cases h1;rw [yml]
      cases t with
      |true=>exact m6 hT (hρ a)
      |false=>exact m6 hT (hρ b)
    . simp at ht
  . rename_i t parts ho;unfold cop;simp only [ho];exact ybz hT hρ ht
  . rename_i t n parts ho;unfold cop;simp only [ho];exact zmx hT hρ ht
  . rename_i t x ho;unfold cop;simp only [ho];exact ygu hT (hρ x) ht
  . rename_i fn first captured ho
    split at ht
    . rename_i f;cases ht;unfold cop;simp only [ho];have e1:first.map ρ=⟨first.toList.map ρ⟩:=by rw [<- pi]
      have e2:captured.map ρ=⟨captured.toList.map ρ⟩:=by rw [<- pi]
      rw [e1,e2];exact m6 hT (.fn (zvz hρ _) (zvz hρ _))
    . simp at ht
  . rename_i t x lo hi mx ho;unfold cop;simp only [ho];exact ybv hT (hρ x) (ygg hρ _) (ygg hρ _) (ygg hρ _) ht
  . rename_i t x k ho;unfold cop;simp only [ho];exact zze hT (hρ x) ht
  . rename_i t x ix ho;unfold cop;simp only [ho];exact zzd hT (hρ x) (hρ ix) ht
  . rename_i t x ix ho;unfold cop;simp only [ho];exact ybx hT (hρ x) (hρ ix) ht
  . rename_i x k ho;unfold cop;simp only [ho];exact z4g hT (hρ x) ht
  . rename_i op t x ho;unfold cop;simp only [ho];exact yn8 hT ho (hρ x) ht
  . rename_i src dst x ho;unfold cop;simp only [ho];exact z05 hE hT ho (hρ x) ht
  . rename_i op t x y t2 ho;unfold cop;simp only [ho];exact yl8 hE hT ho (hρ x) (hρ y) ht
  . rename_i c ho;split at ht
    . rename_i b hc;obtain ⟨cal,args,tys⟩:=c;simp only at hc ht;subst hc;unfold cop;simp only [ho];exact zr3 hT hρ ho ht
    . simp at ht
  . simp at ht
theorem zzf (hE:zej P Γ) (hT:TRel GL A β S s) {own:List Nat} {ρT:gh->T} {ρ:gh->Value} (hρ:∀ x,VT A β (zaa s.obj) (ρT x) (ρ x)) {call:zel} {o:Oper} {r:T} (ht:zgu P Γ own ρT o S=some (r,S')):Ok GL A β s (cop P Γ call ρ o s) r S':=by
  unfold zgu at ht;split at ht
  . rename_i e ho;unfold cop;simp only [ho];exact yb1 hT ht
  . rename_i e x ho;unfold cop;simp only [ho];exact yl7 hT (hρ x) ht
  . rename_i t n parts ho;unfold cop;simp only [ho]
    cases hw:ownD own o.dst with
    |true=>rw [hw] at ht;exact z06 hT hρ ht
    |false =>
      rw [hw] at ht;obtain ⟨h1,rfl⟩:=zsx ht;exact (zmx hT hρ h1).ok
  . rename_i t x v ho;obtain ⟨h1,rfl⟩:=ygo ht;unfold cop;simp only [ho];exact ybu hT (hρ x) (hρ v) h1
  . rename_i t l c ho;unfold cop;simp only [ho];exact zzc hT (hρ l) (hρ c) ht
  . rename_i src dst x ho;unfold cop;simp only [ho]
    cases hw:ownD own o.dst with
    |true=>rw [hw] at ht;exact z4h hT (hρ x) ht
    |false =>
      rw [hw] at ht;obtain ⟨h1,rfl⟩:=zsx ht;exact (z05 hE hT ho (hρ x) h1).ok
  . rename_i c ho;obtain ⟨cal,args,tys⟩:=c;simp only at ht;split at ht
    . split at ht
      . rename_i x y t tx e1 e2;unfold cop;simp only [ho];rw [e1,e2]
        cases hq:srcT Γ tx with
        |false=>rw [hq] at ht;simp at ht
        |true =>
          rw [hq,cond_true] at ht;rw [yds hq];exact z9z hT (hρ x) (hρ y) ht
      . simp at ht
    . split at ht
      . rename_i x t e1 e2;unfold cop;simp only [ho];rw [e1,e2];exact yby hT (hρ x) ht
      . simp at ht
    . obtain ⟨h1,rfl⟩:=zsx ht;unfold cop;simp only [ho];exact (zr3 hT hρ ho h1).ok
    . simp at ht
  . obtain ⟨h1,rfl⟩:=zsx ht;exact (z6o hE hT hρ h1).ok
end
def Call (P:gz) (Γ:Env) (GL:List (Nat×List Value)) (f:ml) (args:List T) (S:TS) (v:T) (S':TS):Prop :=
  ∀ A β s vargs,TRel GL A β S s->VL A β (zaa s.obj) args vargs->Ok GL A β s (zet P Γ f vargs s) v S'
def zi4 (ops:List Oper) (h:Nat->T):Option (Nat×Bool)->Option Bool
  |none=>some true
  |some (j,want)=>match zpi ops j with
    |some d=>(match h d with|.bool b=>some (b == want)|.tup _=>some false|_=>none)
    |none=>none
def z0s (P:gz) (Γ:Env) (GL:List (Nat×List Value)) (S:TS) (args:List T) (f:T) (r:T×TS):Option Prop:=match f with
  |.fn k first cap=>some (Call P Γ GL k (first++args++cap) S r.1 r.2)
  |_=>none
def andT (p:Prop):Option (Prop×(Nat->T)×TS)->Option (Prop×(Nat->T)×TS)
  |some (q,h,S)=>some (p/\q,h,S)
  |none=>none
def runT (P:gz) (Γ:Env) (GL:List (Nat×List Value)) (own:List Nat) (ops:List Oper):List Oper->(Nat->T)->TS->List (T×TS)->Option (Prop×(Nat->T)×TS)
  |[],h,S,_=>some (True,h,S)
  |o :: l,h,S,outs=>match zi4 ops h o.guard with
    |none=>none
    |some false=>runT P Γ GL own ops l (putT h o.dst (.tup [])) S outs
    |some true=>match o.op with
      |.call ⟨.value f,args,tys⟩=>(match outs with
        |r :: outs=>(match z0s P Γ GL S (args.toList.map (zdk GL h)) (zdk GL h f) r with
          |some p=>andT p (runT P Γ GL own ops l (putT h o.dst r.1) r.2 outs)
          |none=>none)
        |[]=>none)
      |_=>(match zgu P Γ own (zdk GL h) o S with
        |some (t,S1)=>runT P Γ GL own ops l (putT h o.dst t) S1 outs
        |none=>none)
section
variable {GL:List (Nat×List Value)} {A A' A2:Nat->Prop} {β β' β2:Bx} {S S':TS} {s s' s2:CS} {P:gz} {Γ:Env}
theorem zi3 {g:Nat->Fam} {ops:List Oper} {h:Nat->T} {N:Nat} {fr:Fr} {o:Oper} {b:Bool} (k:FrOk A β g N h fr) (hg:zi4 ops h o.guard=some b):zdb ops fr o=b:=by
  unfold zi4 at hg;unfold zdb;split at hg
  . rename_i hh;cases hg;rw [hh]
  . rename_i j want hh;rw [hh];split at hg
    . rename_i d hd;simp only [hd];split at hg
      . rename_i b' hb;have:=k.slot d;rw [hb] at this;generalize fr.get d=v at this;cases this;simp only [fk] at hg;exact hg
      . rename_i l hb;have:=k.slot d;rw [hb] at this;generalize fr.get d=v at this;cases this;simp only [fk] at hg;exact hg
      . simp at hg
    . simp at hg
def Left (GL:List (Nat×List Value)) (A:Nat->Prop) (β:Bx) (s:CS) (N:Nat) (fr':Fr) (s':CS) (h':Nat->T) (S':TS):Prop :=
  ∃ A' β',FrOk A' β' (zaa s'.obj) N h' fr'/\TRel GL A' β' S' s'/\Stp A β s A' β' s'
theorem Left.trans {N:Nat} {fr' fr2:Fr} {h' h2:Nat->T} {S2:TS} (hl:s.lim<=s.n) (hS:Stp A β s A' β' s') (k:Left GL A' β' s' N fr2 s2 h2 S2):Left GL A β s N fr2 s2 h2 S2:=by
  obtain ⟨A2,β2,k1,k2,k3⟩:=k;exact ⟨A2,β2,k1,k2,hS.trans hl k3⟩
theorem z4s (hE:zej P Γ) {own:List Nat} {ops:List Oper} {N:Nat}:∀ {l:List Oper} {h h':Nat->T} {S S':TS} {outs:List (T×TS)} {ob:Prop} {A:Nat->Prop} {β:Bx} {fr:Fr} {s:CS},zfq N l=true->FrOk A β (zaa s.obj) N h fr->TRel GL A β S s->runT P Γ GL own ops l h S outs=some (ob,h',S')->ob ->
    ∃ fr' s',runC P Γ (zet P Γ) ops l fr s=some (fr',s')/\Left GL A β s N fr' s' h' S'
  |[],h,h',S,S',outs,ob,A,β,fr,s,hd,hF,hT,hr,hob=>by
    simp only [runT,fk,fw] at hr;obtain ⟨rfl,rfl,rfl⟩:=hr;exact ⟨fr,s,rfl,A,β,hF,hT,r8⟩
  |o :: l,h,h',S,S',outs,ob,A,β,fr,s,hd,hF,hT,hr,hob=>by
    have hd':zfq N l=true/\∀ t,o.dst=some t->t<N:=by
      unfold zfq at hd ⊢;rw [ju,fp] at hd;refine ⟨hd.2,fun t ht=>?_⟩;have:=hd.1;rw [ht] at this;exact zae.1 this
    -- one step that is done
    have go:∀ {t:T} {S1:TS} {r:Option (Value×CS)} {l':List (T×TS)} {ob':Prop},Ok GL A β s r t S1->(cop P Γ (zet P Γ) (zhb fr) o s=r)->zdb ops fr o=true->runT P Γ GL own ops l (putT h o.dst t) S1 l'=some (ob',h',S')->ob'->∃ fr' s',runC P Γ (zet P Γ) ops (o :: l) fr s=some (fr',s')/\Left GL A β s N fr' s' h' S':=by
      rintro t S1 r l' ob' ⟨v,s1,A1,β1,rfl,k1,k2,k3⟩ hc hw hrun hob';have hF1:FrOk A1 β1 (zaa s1.obj) N h fr:=hF.mono k3.sub (k3.old hT) k3.bx;obtain ⟨fr',s',e1,e2⟩:=z4s hE hd'.1 (hF1.put hd'.2 k2) k1 hrun hob';refine ⟨fr',s',?_,Left.trans (h':=h) (fr':=fr) hT.le k3 e2⟩;rw [runC]
      have:zcu P Γ (zet P Γ) ops o fr s=some (putC fr o.dst v,s1):=by
        unfold zcu;rw [hw,cond_true,hc]
      rw [this];exact e1
    unfold runT at hr;split at hr
    . simp at hr
    . rename_i hg;have hw:=zi3 hF hg;obtain ⟨fr',s',e1,e2⟩:=z4s hE hd'.1 (hF.put hd'.2 VT.undf) hT hr hob;refine ⟨fr',s',?_,e2⟩;rw [runC]
      have:zcu P Γ (zet P Γ) ops o fr s=some (putC fr o.dst undef,s):=by
        unfold zcu;rw [hw,cond_false]
      rw [this];exact e1
    . rename_i hg;have hw:=zi3 hF hg;split at hr
      . rename_i f args tys ho;split at hr
        . rename_i r outs';split at hr
          . rename_i p hp;unfold z0s at hp;split at hp
            . rename_i k first cap hf
              simp only [fk] at hp;subst hp
              cases hrun:runT P Γ GL own ops l (putT h o.dst r.1) r.2 outs' with
              |none=>rw [hrun] at hr;simp [andT] at hr
              |some q =>
                obtain ⟨q1,q2,q3⟩:=q;rw [hrun] at hr;simp only [andT,fk,fw] at hr;obtain ⟨rfl,rfl,rfl⟩:=hr;have hfv:=hF.eval hT f;rw [hf] at hfv;generalize e1:zhb fr f=vf at hfv
                cases hfv with
                |fn h1 h2 =>
                  rename_i va vc;have hargs:=zvz (hF.eval hT) args.toList;have hcall:=hob.1 A β s _ hT ((h1.append hargs).append h2);refine go hcall ?_ hw hrun hob.2;unfold cop;simp only [ho,e1];unfold zoy;rfl
            . simp at hp
          . simp at hr
        . simp at hr
      . split at hr
        . rename_i t S1 hst;exact go (zzf hE hT (hF.eval hT) hst) rfl hw hr hob
        . simp at hr
end
section
variable {GL:List (Nat×List Value)} {A A' A2:Nat->Prop} {β β' β2:Bx} {S S' S2:TS} {s s' s2:CS} {P:gz} {Γ:Env} {N:Nat} {h h' h2:Nat->T} {Q R:Exit->(Nat->T)->TS->Prop}
def TW (P:gz) (Γ:Env) (GL:List (Nat×List Value)) (N:Nat) (c:Code) (h:Nat->T) (S:TS) (Q:Exit->(Nat->T)->TS->Prop):Prop :=
  ∀ A β fr s,FrOk A β (zaa s.obj) N h fr->TRel GL A β S s->W P Γ c fr s fun e fr' s'=>∃ h' S',Left GL A β s N fr' s' h' S'/\Q e h' S'
def onT (k:(Nat->T)->TS->Prop) (Q:Exit->(Nat->T)->TS->Prop) (e:Exit) (h:Nat->T) (S:TS):Prop:=match e with
  |.normal=>k h S
  |e=>Q e h S
def onTB (id:Nat) (Q:Exit->(Nat->T)->TS->Prop) (e:Exit) (h:Nat->T) (S:TS):Prop:=match e with
  |.exit i=>bif gd i id then Q .normal h S else Q (.exit i) h S
  |e=>Q e h S
theorem Left.refl {fr:Fr} (hF:FrOk A β (zaa s.obj) N h fr) (hT:TRel GL A β S s):Left GL A β s N fr s h S:=⟨A,β,hF,hT,r8⟩
theorem TW.mono {c:Code} (k:TW P Γ GL N c h S Q) (hq:∀ e h S,Q e h S->R e h S):TW P Γ GL N c h S R:=fun A β fr s hF hT =>
  (k A β fr s hF hT).mono fun e fr' s' ⟨h',S',h1,h2⟩=>⟨h',S',h1,hq _ _ _ h2⟩
theorem TW.skip (k:Q .normal h S):TW P Γ GL N .skip h S Q:=fun A β fr s hF hT=>W.skip ⟨h,S,Left.refl hF hT,k⟩
theorem TW.ret (k:Q .ret h S):TW P Γ GL N .ret h S Q:=fun A β fr s hF hT=>W.ret ⟨h,S,Left.refl hF hT,k⟩
theorem TW.exit {id:Nat} (k:Q (.exit id) h S):TW P Γ GL N (.exit id) h S Q:=fun A β fr s hF hT=>W.exit ⟨h,S,Left.refl hF hT,k⟩
theorem TW.label {l:Nat} (k:Q .normal h S):TW P Γ GL N (.label l) h S Q:=fun A β fr s hF hT=>W.label ⟨h,S,Left.refl hF hT,k⟩
theorem TW.seq {a b:Code} (k:TW P Γ GL N a h S (onT (fun h S=>TW P Γ GL N b h S Q) Q)):TW P Γ GL N (.seq a b) h S Q:=fun A β fr s hF hT=>by
  refine W.seq ((k A β fr s hF hT).mono ?_);rintro e fr' s' ⟨h',S',⟨A',β',k1,k2,k3⟩,hq⟩
  cases e with
  |normal =>
    refine (hq A' β' fr' s' k1 k2).mono ?_;rintro e2 fr2 s2 ⟨h2,S2,l2,q2⟩;exact ⟨h2,S2,Left.trans (h':=h) (fr':=fr) hT.le k3 l2,q2⟩
  |_=>exact ⟨h',S',⟨A',β',k1,k2,k3⟩,hq⟩
theorem TW.cond {c:gh} {t f:Code} {b:Bool} (hb:zdk GL h c=.bool b) (k:TW P Γ GL N (bif b then t else f) h S Q):TW P Γ GL N (.cond c t f) h S Q:=fun A β fr s hF hT=>by
  have:=hF.eval hT c;rw [hb] at this;refine W.cond (b:=b) ?_ (k A β fr s hF hT);generalize zhb fr c=v at this;cases this;rfl
theorem TW.block {id:Nat} {b:Code} (k:TW P Γ GL N b h S (onTB id Q)):TW P Γ GL N (.block id b) h S Q:=fun A β fr s hF hT=>by
  refine W.block ((k A β fr s hF hT).mono ?_);rintro e fr' s' ⟨h',S',l,hq⟩
  cases e with
  |exit i =>
    simp only [onB];simp only [onTB] at hq
    cases hb:gd i id with
    |true=>rw [hb] at hq;exact ⟨h',S',l,hq⟩
    |false=>rw [hb] at hq;exact ⟨h',S',l,hq⟩
  |_=>exact ⟨h',S',l,hq⟩
theorem TW.scope {b:Code} (k:TW P Γ GL N b h S Q):TW P Γ GL N (.scope b) h S Q:=fun A β fr s hF hT=>W.scope (k A β fr s hF hT)
theorem TW.loop {b:Code} (I:Nat->(Nat->T)->TS->Prop) (hb:∀ n h S,I n h S->TW P Γ GL N b h S (onT (fun h S=>∃ m,m<n/\I m h S) Q)):∀ n h S,I n h S->TW P Γ GL N (.loop b) h S Q:=by
  intro n
  induction n using Nat.strongRecOn with
  |_ n ih =>
    intro h S hI A β fr s hF hT;obtain ⟨e,fr1,s1,h1,h',S',⟨A',β',k1,k2,k3⟩,hq⟩:=hb n h S hI A β fr s hF hT
    cases e with
    |normal =>
      obtain ⟨m,hm,hI'⟩:=hq;obtain ⟨e2,fr2,s2,h3,h2,S2,l2,q2⟩:=ih m hm h' S' hI' A' β' fr1 s1 k1 k2;exact ⟨e2,fr2,s2,Ev.again h1 h3,h2,S2,Left.trans (h':=h) (fr':=fr) hT.le k3 l2,q2⟩
    |_=>exact ⟨_,_,_,Ev.last h1 (by simp),h',S',⟨A',β',k1,k2,k3⟩,hq⟩
theorem TW.region (hE:zej P Γ) {id:Nat} {ops:Array Oper} (own:List Nat) (outs:List (T×TS)) {ob:Prop} (hd:zfq N ops.toList=true) (hr:runT P Γ GL own ops.toList ops.toList h S outs=some (ob,h',S')) (hob:ob) (hq:Q .normal h' S'):TW P Γ GL N (.region id ops false) h S Q:=fun A β fr s hF hT=>by
  obtain ⟨fr',s',e1,e2⟩:=z4s hE hd hF hT hr hob;exact W.region e1 ⟨h',S',e2,hq⟩
def resT (Γ:Env) (S:TS) (h:Nat->T):List ResultVar->Option (List T)
  |[]=>some []
  |.tmp t :: l=>(match resT Γ S h l with|some vs=>some (h t :: vs)|none=>none)
  |.cell a ty :: l=>(match ztt Γ S ty (h a),resT Γ S h l with|some v,some vs=>some (v :: vs)|_,_=>none)
def tupT:List T->T
  |[v]=>v
  |vs=>.tup vs
theorem zzt:∀ {l:List ResultVar} {vs:List T} {fr:Fr} {s:CS},FrOk A β (zaa s.obj) N h fr->TRel GL A β S s->resT Γ S h l=some vs->∃ ws s',resC Γ fr s l=some (ws,s')/\VL A β (zaa s.obj) vs ws/\TRel GL A β S s'/\Stp A β s A β s'/\s'.obj=s.obj
  |[],vs,fr,s,hF,hT,hr=>by
    simp only [resT,fk] at hr;subst hr;exact ⟨[],s,rfl,.nil,hT,r8,rfl⟩
  |.tmp t :: l,vs,fr,s,hF,hT,hr=>by
    simp only [resT] at hr;split at hr
    . rename_i vs' hv;cases hr;obtain ⟨ws,s',k1,k2,k3,k4,k5⟩:=zzt hF hT hv;exact ⟨_,s',by simp only [resC,k1],.cons (hF.slot t) k2,k3,k4,k5⟩
    . simp at hr
  |.cell a ty :: l,vs,fr,s,hF,hT,hr=>by
    simp only [resT] at hr;split at hr
    . rename_i v vs' hv hvs;cases hr;obtain ⟨ad,i,w,f,q1,q2,q3,q4,q5⟩:=z6m hT (hF.slot a) hv;obtain ⟨ws,s',k1,k2,k3,k4,k5⟩:=zzt (s:={ s with rd:=ins s.lim s.rd f }) hF (hT.read f) hvs;refine ⟨w :: ws,s',?_,.cons q5 k2,k3,(Stp.read q3).trans hT.le k4,k5⟩;simp only [resC,q1,q2,q4,k1]
    . simp at hr
def argT:List T->Nat->(Nat->T)->(Nat->T)
  |[],_,h=>h
  |v :: l,i,h=>argT l (i+1) (tupd h i v)
theorem zn2 (v:T) (l:List T) (i:Nat) (h:Nat->T):argT (v :: l) i h=argT l (i+1) (tupd h i v):=rfl
theorem zq8 (i:Nat) (h:Nat->T):argT [] i h=h:=rfl
theorem z58 {g:Nat->Fam}:∀ {args:List T} {vargs:List Value} {i:Nat} {h:Nat->T} {fr:Fr},VL A β g args vargs->FrOk A β g N h fr->i+args.length<=N->FrOk A β g N (argT args i h) (Fr.ofArgs vargs i fr)
  |_,_,i,h,fr,.nil,hF,_=>hF
  |_,_,i,h,fr,.cons h1 h2,hF,hl=>by
    rw [gq] at hl;show FrOk A β g N (argT _ (i+1) _) (Fr.ofArgs _ (i+1) (fr.put i _));have hi:i<N:=by omega
    exact z58 (i:=i+1) h2 (hF.put (d:=some i) (fun t ht=>by cases ht;exact hi) h1) (by rw [Nat.add_right_comm];exact hl)
theorem FrOk.start {g:Nat->Fam} (hN:N<=512):FrOk A β g N (fun _=>.junk) ⟨N,Tr.all undef 9⟩:=⟨rfl,hN,fun t=>.junk _⟩
def zwi (GL:List (Nat×List Value)) (v:T) (S:TS) (v':T) (S':TS):Prop :=
  ∀ A β s w,TRel GL A β S s->VT A β (zaa s.obj) v w->∃ A' β',TRel GL A' β' S' s/\VT A' β' (zaa s.obj) v' w/\Stp A β s A' β' s
theorem zwi.refl (v:T) (S:TS):zwi GL v S v S:=fun A β s w hT hv=>⟨A,β,hT,hv,r8⟩
theorem yi3 {g:Nat->Fam} {vs:List T} {ws:List Value} (h:VL A β g vs ws):VT A β g (tupT vs) (tupC ws):=by
  cases h with
  |nil=>exact .tup .nil
  |cons h1 h2 =>
    cases h2 with
    |nil=>exact h1
    |cons h3 h4=>exact .tup (.cons h1 (.cons h3 h4))
theorem Call.go {f:ml} {fn:Func} {body:Code} {args:List T} {v:T} {Sf:TS} (N:Nat) (hax:Γ.ax f=none) (hf:Γ.fn.at f=some fn) (hb:fn.body=some body) (hn:fn.ntmps=N) (hN:N<=512) (hl:args.length<=N)
    (k:TW P Γ GL N body (argT args 0 fun _=>.junk) S fun e h' S'=>(e=.normal\/e=.ret)/\∃ vs,resT Γ S' h' fn.results.toList=some vs/\zwi GL (tupT vs) S' v Sf):Call P Γ GL f args S v Sf:=by
  intro A β s vargs hT hargs;obtain ⟨e,fr',s1,h1,h',S',⟨A',β',k1,k2,k3⟩,he,vs,hr,hsh⟩:=k A β _ s (z58 hargs (FrOk.start hN) (by omega)) hT;obtain ⟨ws,s2,r1,r2,r3,r4,r5⟩:=zzt k1 k2 hr;rw [<- r5] at r2;obtain ⟨A2,β2,q1,q2,q3⟩:=hsh A' β' s2 _ r3 (yi3 r2);refine ⟨tupC ws,s2,A2,β2,?_,q1,q2,(k3.trans hT.le (r4.trans k2.le q3))⟩;have hlen:=hargs.len;exact zrw hax hf hb (by omega) ⟨e,fr',s1,by rw [hn];exact h1,he,ws,r1,rfl⟩
end
mutual
def T.ids (n:Nat):T->Bool
  |.agg l=>T.idsL n l
  |.tup l=>T.idsL n l
  |.lst _ l=>T.idsL n l
  |.cp l=>T.idsL n l
  |.ptr b _ _=>ip b n
  |.arr b _ _ _ _ _=>ip b n
  |.mp b=>ip b n
  |.fn _ a c=>T.idsL n a && T.idsL n c
  |_=>true
def T.idsL (n:Nat):List T->Bool
  |[]=>true
  |t :: l=>T.ids n t && T.idsL n l
end
mutual
def T.flat:T->Bool
  |.agg l=>T.flatL l
  |.tup l=>T.flatL l
  |.int _ _=>true
  |.bool _=>true
  |.str _=>true
  |.nils=>true
  |.nilp=>true
  |.nilm=>true
  |.nilf=>true
  |.junk=>true
  |_=>false
def T.flatL:List T->Bool
  |[]=>true
  |t :: l=>T.flat t && T.flatL l
end
section
variable {GL:List (Nat×List Value)} {A A' A2:Nat->Prop} {β β' β2:Bx} {S S' S2:TS} {s s' s2:CS} {P:gz} {Γ:Env} {N:Nat} {h h' h2:Nat->T} {Q R:Exit->(Nat->T)->TS->Prop} {g g':Nat->Fam}
theorem zax {n:Nat}:∀ {l l2:List T},T.idsL n (l++l2)=(T.idsL n l && T.idsL n l2)
  |[],l2=>by simp [T.idsL]
  |t :: l,l2=>by simp only [ib,T.idsL,zax,Bool.and_assoc]
theorem yev {n:Nat} {t:T} (h:t.ids n=true):T.idsL n t.cells=true:=by
  cases t<;>first|exact h | (simp only [jk,T.idsL,h,gl])
theorem zlp {n:Nat}:∀ {l:List T},T.idsL n l=true->T.idsL n (l.flatMap jk)=true
  |[],_=>rfl
  |t :: l,h=>by
    simp only [T.idsL,fp] at h;rw [jh,zax,yev h.1,zlp h.2];rfl
theorem z79 {n:Nat}:∀ {l:List T},(∀ t,t∈l->t.ids n=true)->T.idsL n l=true
  |[],_=>rfl
  |t :: l,h=>by
    simp only [T.idsL,fp];exact ⟨h t (by simp),z79 fun t ht=>h t (by simp [ht])⟩
mutual
theorem VT.ids {n:Nat} (hβ:∀ b,b<n->β' b=β b):∀ {t:T} {v:Value},t.ids n=true->VT A β g t v->VT A β' g t v
  |_,_,_,.int k n=>.int k n
  |_,_,_,.bool b=>.bool b
  |_,_,_,.str b=>.str b
  |_,_,hi,.agg h=>.agg (VL.ids hβ hi h)
  |_,_,hi,.tup h=>.tup (VL.ids hβ hi h)
  |_,_,_,.lnil=>.lnil
  |_,_,hi,.lst h1 h2 h3 h4 h5 h6 h7 h8=>.lst h1 h2 (VL.ids hβ (zlp hi) h3) h4 h5 h6 h7 h8
  |_,_,_,.nils=>.nils
  |_,_,_,.nilp=>.nilp
  |_,_,_,.nilm=>.nilm
  |_,_,_,.nilf=>.nilf
  |_,_,hi,.ptr h=>.ptr (by rw [hβ _ (zae.1 hi)];exact h)
  |_,_,hi,.ptrOld h h0 h1 h2=>.ptrOld (by rw [hβ _ (zae.1 hi)];exact h) h0 h1 h2
  |_,_,hi,.cp h1 h2 h3 h4=>.cp h1 h2 (VL.ids hβ hi h3) h4
  |_,_,hi,.arr h ht=>.arr (by rw [hβ _ (zae.1 hi)];exact h) ht
  |_,_,hi,.arrNil h=>.arrNil (by rw [hβ _ (zae.1 hi)];exact h)
  |_,_,hi,.arrOld h h0 h1 h2=>.arrOld (by rw [hβ _ (zae.1 hi)];exact h) h0 h1 h2
  |_,_,hi,.mp h=>.mp (by rw [hβ _ (zae.1 hi)];exact h)
  |_,_,hi,.mpOld h h2=>.mpOld (by rw [hβ _ (zae.1 hi)];exact h) h2
  |_,_,hi,.fn h1 h2=>by
    simp only [T.ids,fp] at hi;exact .fn (VL.ids hβ hi.1 h1) (VL.ids hβ hi.2 h2)
  |_,_,_,.junk v=>.junk v
  |_,_,_,.emp h1 h2 h3 h4=>.emp h1 h2 h3 h4
theorem VL.ids {n:Nat} (hβ:∀ b,b<n->β' b=β b):∀ {l:List T} {vs:List Value},T.idsL n l=true->VL A β g l vs->VL A β' g l vs
  |_,_,_,.nil=>.nil
  |_,_,hi,.cons h k=>by
    simp only [T.idsL,fp] at hi;exact .cons (VT.ids hβ hi.1 h) (VL.ids hβ hi.2 k)
end
mutual
theorem VT.flat:∀ {t:T} {v:Value},t.flat=true->VT A β g t v->VT A' β' g' t v
  |_,_,_,.int k n=>.int k n
  |_,_,_,.bool b=>.bool b
  |_,_,_,.str b=>.str b
  |_,_,hi,.agg h=>.agg (VL.flat hi h)
  |_,_,hi,.tup h=>.tup (VL.flat hi h)
  |_,_,_,.nils=>.nils
  |_,_,_,.nilp=>.nilp
  |_,_,_,.nilm=>.nilm
  |_,_,_,.nilf=>.nilf
  |_,_,_,.junk v=>.junk v
  |_,_,hi,.lnil=>by simp [T.flat] at hi
  |_,_,hi,.lst _ _ _ _ _ _ _ _=>by simp [T.flat] at hi
  |_,_,hi,.ptr _=>by simp [T.flat] at hi
  |_,_,hi,.ptrOld _ _ _ _=>by simp [T.flat] at hi
  |_,_,hi,.cp _ _ _ _=>by simp [T.flat] at hi
  |_,_,hi,.arr _ _=>by simp [T.flat] at hi
  |_,_,hi,.arrNil _=>by simp [T.flat] at hi
  |_,_,hi,.arrOld _ _ _ _=>by simp [T.flat] at hi
  |_,_,hi,.mp _=>by simp [T.flat] at hi
  |_,_,hi,.mpOld _ _=>by simp [T.flat] at hi
  |_,_,hi,.fn _ _=>by simp [T.flat] at hi
  |_,_,hi,.emp _ _ _ _=>by simp [T.flat] at hi
theorem VL.flat:∀ {l:List T} {vs:List Value},T.flatL l=true->VL A β g l vs->VL A' β' g' l vs
  |_,_,_,.nil=>.nil
  |_,_,hi,.cons h k=>by
    simp only [T.flatL,fp] at hi;exact .cons (VT.flat hi.1 h) (VL.flat hi.2 k)
end
def bx0:Bx:=fun _=>none
theorem zl7 {f:Nat}:¬ Own bx0 f:=fun ⟨b,h⟩=>by rcases h with ⟨u,N,h⟩|h<;>simp [bx0] at h
theorem TRel.bare (hT:TRel GL A β S s) (A1:Nat->Prop) (h1:∀ f,A f->A1 f) (h2:∀ f,A1 f->f<s.n):TRel GL A1 bx0 ts0 s :=
  ⟨hT.inr,hT.inv,h2,fun f hf=>absurd hf zl7,fun b b' l l' f hb=>by simp [bx0] at hb,fun b _=>rfl,fun b z N l hb=>by simp [ts0] at hb,fun b l hb=>by simp [ts0] at hb,fun x hx=>⟨h1 _ (hT.glob x hx).1,(hT.glob x hx).2⟩⟩
def Pure (P:gz) (Γ:Env) (GL:List (Nat×List Value)) (f:ml) (args:List T) (v:T):Prop:=T.idsL 0 args=true/\v.ids 0=true/\Call P Γ GL f args ts0 v ts0
def zaj (P:gz) (Γ:Env) (GL:List (Nat×List Value)) (f:ml) (args:List T) (S:TS) (v:T):Prop :=
  ∀ A β s vargs,TRel GL A β S s->VL A β (zaa s.obj) args vargs->Ok0 GL A β S s (zet P Γ f vargs s) v
theorem zaj.call {f:ml} {args:List T} {v:T} (k:zaj P Γ GL f args S v):Call P Γ GL f args S v S:=fun A β s vargs hT hv=>(k A β s vargs hT hv).ok
theorem Pure.call {f:ml} {args:List T} {v:T} (k:Pure P Γ GL f args v) (S:TS):zaj P Γ GL f args S v:=by
  intro A β s vargs hT hv;obtain ⟨k1,k2,k3⟩:=k;have hT0:=hT.bare A (fun _ h=>h) hT.alt;obtain ⟨w,s',A',β',e1,e2,e3,e4⟩:=k3 A bx0 s vargs hT0 (VL.ids (n:=0) (fun b hb=>absurd hb (by omega)) k1 hv)
  have hc:zkd A β s A' s':=by
    refine ⟨e4.can,e4.sub,fun f hf=>?_,fun f hf=>e4.keep f hf zl7,fun x hx=>?_,fun x hx=>?_⟩
    . rcases e4.new f hf with q|q|q
      . exact .inl q
      . exact .inr q
      . exact absurd q zl7
    . rcases e4.rd x hx with q|⟨q,q2⟩
      . exact .inl q
      . exact .inr ⟨q,.inl (q2.resolve_right zl7)⟩
    . rcases e4.wr x hx with q|⟨_,q⟩
      . exact q
      . exact absurd q zl7
  exact ⟨w,s',A',e1,hc.rel hT e2.inr e2.inv e2.alt,VT.ids (n:=0) (fun b hb=>absurd hb (by omega)) k2 e3,hc⟩
def yiv (S:TS) (t t':T):Prop:=t=t'\/∃ b e off len cap N z l L,t=.arr b e off len cap N/\t'=.lst e L/\S.box b=.cells z N l/\0<e/\off+len*e<=N/\(l.drop off).take (len*e)=L.flatMap jk/\(∀ t,t∈L->t.cells.length=e)/\L.length=len/\len<=cap
def Lend (S:TS):List T->List T->Prop
  |[],[]=>True
  |t :: l,t' :: l'=>yiv S t t'/\Lend S l l'
  |_,_=>False
theorem yhw (hT:TRel GL A β S s) {t t':T} {v:Value} (hi:t'.ids 0=true) (hl:yiv S t t') (hv:VT A β (zaa s.obj) t v):VT (fun f=>A f\/Own β f) bx0 (zaa s.obj) t' v:=by
  rcases hl with rfl|⟨b,e,off,len,cap,N,z,l,L,rfl,rfl,hS,he,hN,hL,hs,hlen,hcap⟩
  . exact (VT.ids (n:=0) (β':=bx0) (fun b hb=>absurd hb (by omega)) hi hv).mono (fun _ h=>.inl h) (fun _ _=>rfl) (mq _)
  . rcases zh4 hT hS hv with ⟨f,u,rfl,hb,htag⟩|⟨rfl,hb,rfl,rfl,rfl,rfl⟩
    . obtain ⟨hlN,hc⟩:=hT.cells b z N l hS;rcases hc with ⟨hb2,_,_⟩|⟨f',u',cs,rest,hb2,hz,hat,hvl,hone⟩
      . rw [hb] at hb2;simp at hb2
      rw [hb] at hb2;cases hb2;have hcl:=hvl.len
      have hrow:zbp (zaa s.obj f).rows u=some cs:=by
        rw [hat];show zbp ((u,cs) :: rest) u=some cs;unfold zbp;rw [jg];rfl
      have h1:VL A β (zaa s.obj) (L.flatMap jk) ((cs.drop off).take (len*e)):=by rw [<- hL];exact (hvl.drop off).take _
      have h2:VL (fun f=>A f\/Own β f) bx0 (zaa s.obj) (L.flatMap jk) ((cs.drop off).take (len*e)) :=
        (VL.ids (n:=0) (β':=bx0) (fun b hb=>absurd hb (by omega)) (zlp hi) h1).mono (fun _ h=>.inl h) (fun _ _=>rfl) (mq _)
      have h3:((cs.drop off).take (len*e)).length=len*e:=by rw [iv,jm];omega
      have:=VT.lst (A:=fun f=>A f\/Own β f) (β:=bx0) (g:=zaa s.obj) (off:=off) (cap:=cap) (.inr (zc4 hb)) hrow h2 hs he (by rw [h3]) htag (by omega);rw [hlen] at this;exact this
    . have:L=[]:=jp hlen;subst this;exact .lnil
theorem yed (hT:TRel GL A β S s):∀ {l l':List T} {vs:List Value},T.idsL 0 l'=true->Lend S l l'->VL A β (zaa s.obj) l vs->VL (fun f=>A f\/Own β f) bx0 (zaa s.obj) l' vs
  |[],[],_,_,_,.nil=>.nil
  |t :: l,t' :: l',_,hi,hl,.cons h1 h2=>by
    simp only [T.idsL,fp] at hi;exact .cons (yhw hT hi.1 hl.1 h1) (yed hT hi.2 hl.2 h2)
  |[],_ :: _,_,_,hl,_=>hl.elim
  |_ :: _,[],_,_,hl,_=>hl.elim
theorem Pure.lend {f:ml} {args args':List T} {v:T} (k:Pure P Γ GL f args' v) (hl:Lend S args args') (hv:v.flat=true):zaj P Γ GL f args S v:=by
  intro A β s vargs hT hva;obtain ⟨k1,k2,k3⟩:=k;have hA1:∀ f,(A f\/Own β f)->f<s.n:=fun f hf=>hf.elim (hT.alt f) fun h=>(hT.dis f h).1;have hT0:=hT.bare (fun f=>A f\/Own β f) (fun _ h=>.inl h) hA1;obtain ⟨w,s',A',β',e1,e2,e3,e4⟩:=k3 _ bx0 s vargs hT0 (yed hT k1 hl hva)
  have hc:zkd A β s A s':=by
    refine ⟨e4.can,fun _ h=>h,fun f hf=>.inl hf,fun f hf=>e4.keep f hf zl7,fun x hx=>?_,fun x hx=>?_⟩
    . rcases e4.rd x hx with q|⟨q,q2⟩
      . exact .inl q
      . exact .inr ⟨q,q2.resolve_right zl7⟩
    . rcases e4.wr x hx with q|⟨_,q⟩
      . exact q
      . exact absurd q zl7
  exact ⟨w,s',A,e1,hc.rel hT e2.inr e2.inv (fun f hf=>h9 (hT.alt f hf) e4.can.n),e3.flat hv,hc⟩
def bcut (β:Bx) (n:Nat):Bx:=fun b=>if b<n then β b else none
def zh3 (n:Nat):Box->Bool
  |.gone=>true
  |.cells _ _ l=>T.idsL n l
  |.map l=>T.idsL n (l.map (·.1)) && T.idsL n (l.map (·.2))
def zrz (S1 Sf:TS):Prop:=Sf.n<=S1.n/\∀ b,Sf.box b=.gone\/(b<Sf.n/\Sf.box b=S1.box b/\zh3 Sf.n (S1.box b)=true)
theorem TRel.cut (hT:TRel GL A β S s) (hk:zrz S S2):TRel GL A (bcut β S2.n) S2 s:=by
  have hat:∀ b,b<S2.n->bcut β S2.n b=β b:=fun b hb=>zAc hb
  have hsub:∀ b l,bcut β S2.n b=some l->β b=some l:=fun b l h=>by
    unfold bcut at h;split at h
    . exact h
    . simp at h
  have hown:∀ f,Own (bcut β S2.n) f->Own β f:=fun f ⟨b,hb⟩=>⟨b,hb.imp (fun ⟨u,N,h⟩=>⟨u,N,hsub _ _ h⟩) fun h=>hsub _ _ h⟩;refine ⟨hT.inr,hT.inv,hT.alt,fun f hf=>hT.dis f (hown f hf),fun b b' l l' f hb hb'=>hT.inj b b' l l' f (hsub _ _ hb) (hsub _ _ hb'),fun b hb=>zAd (by omega),fun b z N l hb=>?_,fun b l hb=>?_,hT.glob⟩
  . rcases hk.2 b with q|⟨q1,q2,q3⟩
    . rw [q] at hb;simp at hb
    . rw [q2] at hb;obtain ⟨c1,c2⟩:=hT.cells b z N l hb;rw [hb] at q3;refine ⟨c1,?_⟩;rcases c2 with ⟨d1,d2,d3⟩|⟨f,u,cs,rest,d1,d2,d3,d4,d5⟩
      . exact .inl ⟨by rw [hat b q1];exact d1,d2,d3⟩
      . exact .inr ⟨f,u,cs,rest,by rw [hat b q1];exact d1,d2,d3,VL.ids hat q3 d4,d5⟩
  . rcases hk.2 b with q|⟨q1,q2,q3⟩
    . rw [q] at hb;simp at hb
    . rw [q2] at hb;obtain ⟨r,es,c1,c2,c3,c4⟩:=hT.maps b l hb;rw [hb] at q3;simp only [zh3,fp] at q3;exact ⟨r,es,by rw [hat b q1];exact c1,c2,VL.ids hat q3.1 c3,VL.ids hat q3.2 c4⟩
theorem Call.enter {f:ml} {fn:Func} {body:Code} {args:List T} {v:T} {Sf:TS} (N:Nat) (hax:Γ.ax f=none) (hf:Γ.fn.at f=some fn) (hb:fn.body=some body) (hn:fn.ntmps=N) (hN:N<=512) (hl:args.length<=N) (hSf:S.n<=Sf.n) (hv:v.ids Sf.n=true)
    (k:TW P Γ GL N body (argT args 0 fun _=>.junk) S fun e h' S'=>(e=.normal\/e=.ret)/\∃ vs,resT Γ S' h' fn.results.toList=some vs/\∃ S1,zwi GL (tupT vs) S' v S1/\zrz S1 Sf):Call P Γ GL f args S v Sf:=by
  intro A β s vargs hT hargs;obtain ⟨e,fr',s1,h1,h',S',⟨A',β',k1,k2,k3⟩,he,vs,hr,S1,hsh,hkp⟩:=k A β _ s (z58 hargs (FrOk.start hN) (by omega)) hT;obtain ⟨ws,s2,r1,r2,r3,r4,r5⟩:=zzt k1 k2 hr;rw [<- r5] at r2;obtain ⟨A2,β2,q1,q2,q3⟩:=hsh A' β' s2 _ r3 (yi3 r2);have hall:Stp A β s A2 β2 s2:=k3.trans hT.le (r4.trans k2.le q3);have hat:∀ b,b<Sf.n->bcut β2 Sf.n b=β2 b:=fun b hb=>zAc hb
  have hsub:∀ b l,bcut β2 Sf.n b=some l->β2 b=some l:=fun b l h=>by
    unfold bcut at h;split at h
    . exact h
    . simp at h
  refine ⟨tupC ws,s2,A2,bcut β2 Sf.n,?_,q1.cut hkp,q2.ids hat hv,hall.can,hall.sub,hall.new,fun f hf=>?_,hall.keep,fun b l hb=>?_,hall.rd,hall.wr⟩
  . have hlen:=hargs.len;exact zrw hax hf hb (by omega) ⟨e,fr',s1,by rw [hn];exact h1,he,ws,r1,rfl⟩
  . obtain ⟨b,hb⟩:=hf;exact hall.own f ⟨b,hb.imp (fun ⟨u,N,h⟩=>⟨u,N,hsub _ _ h⟩) fun h=>hsub _ _ h⟩
  . obtain ⟨l',c1,c2⟩:=hall.bx b l hb
    have:b<S.n:=by
      by_cases hh:b<S.n
      . exact hh
      . rw [hT.next b (by omega)] at hb;simp at hb
    exact ⟨l',by rw [hat b (by omega)];exact c1,c2⟩
theorem zrz.none (S:TS):zrz S ts0:=⟨iz _,fun b=>.inl rfl⟩
theorem Pure.enter {f:ml} {fn:Func} {body:Code} {args:List T} {v:T} (N:Nat) (hax:Γ.ax f=none) (hf:Γ.fn.at f=some fn) (hb:fn.body=some body) (hn:fn.ntmps=N) (hN:N<=512) (hl:args.length<=N) (ha:T.idsL 0 args=true) (hv:v.ids 0=true)
    (k:TW P Γ GL N body (argT args 0 fun _=>.junk) ts0 fun e h' S'=>(e=.normal\/e=.ret)/\resT Γ S' h' fn.results.toList=some [v]):Pure P Γ GL f args v :=
  ⟨ha,hv,Call.enter N hax hf hb hn hN hl (fy _) hv (k.mono fun e h' S' ⟨h1,h2⟩=>⟨h1,[v],h2,S',zwi.refl _ _,zrz.none S'⟩)⟩
theorem Pure.enterN {f:ml} {fn:Func} {body:Code} {args:List T} {vs:List T} (N:Nat) (hax:Γ.ax f=none) (hf:Γ.fn.at f=some fn) (hb:fn.body=some body) (hn:fn.ntmps=N) (hN:N<=512) (hl:args.length<=N) (ha:T.idsL 0 args=true) (hv:(tupT vs).ids 0=true)
    (k:TW P Γ GL N body (argT args 0 fun _=>.junk) ts0 fun e h' S'=>(e=.normal\/e=.ret)/\resT Γ S' h' fn.results.toList=some vs):Pure P Γ GL f args (tupT vs) :=
  ⟨ha,hv,Call.enter N hax hf hb hn hN hl (fy _) hv (k.mono fun e h' S' ⟨h1,h2⟩=>⟨h1,vs,h2,S',zwi.refl _ _,zrz.none S'⟩)⟩
theorem TRel.dead (hT:TRel GL A β S s) {b:Nat} {l0:Loc} (hb:β b=some l0) (A':Nat->Prop) (hA:∀ f,A f->A' f) (hA2:∀ f,A' f->A f\/l0.fam=some f) :
    TRel GL A' (bnew β b .dead) (S.set b .gone) s/\Stp A β s A' (bnew β b .dead) s:=by
  have hse:bnew β b .dead b=some .dead:=zAc rfl;have hne:∀ b',b'≠b->bnew β b .dead b'=β b':=fun b' hb'=>zAd hb'
  have hle:Bx.le β (bnew β b .dead):=fun i x hx=>by
    by_cases hi:i=b
    . subst hi;exact ⟨.dead,hse,by cases x<;>simp [Loc.le]⟩
    . exact ⟨x,by rw [hne i hi];exact hx,Loc.le_refl x⟩
  have hfam:∀ f,l0.fam=some f->Own β f:=fun f hf=>by
    cases l0 with
    |live f' u N=>simp [oy] at hf;subst hf;exact zc4 hb
    |map r=>simp [oy] at hf;subst hf;exact znf hb
    |nil=>simp [oy] at hf
    |dead=>simp [oy] at hf
  have hown:∀ f,Own (bnew β b .dead) f->Own β f/\l0.fam≠some f:=fun f ⟨b',hb'⟩=>by
    by_cases hi:b'=b
    . subst hi;rw [hse] at hb';rcases hb' with ⟨u,N,hb'⟩|hb'<;>simp at hb'
    . rw [hne b' hi] at hb';refine ⟨⟨b',hb'⟩,fun hh=>hi ?_⟩;rcases hb' with ⟨u,N,hb'⟩|hb'
      . exact hT.inj b' b _ l0 f hb' hb rfl hh
      . exact hT.inj b' b _ l0 f hb' hb rfl hh
  have hblt:b<S.n:=by
    by_cases hh:b<S.n
    . exact hh
    . rw [hT.next b (by omega)] at hb;simp at hb
  refine ⟨⟨hT.inr,hT.inv,fun f hf=>?_,fun f hf=>?_,fun b1 b2 l1 l2 f h1 h2 h3 h4=>?_,fun b' hb'=>?_,fun b' z N l hb'=>?_,fun b' l hb'=>?_,fun x hx=>⟨hA _ (hT.glob x hx).1,(hT.glob x hx).2⟩⟩,
    jw _,hA,fun f hf=>(hA2 f hf).imp id fun q=>.inr (hfam f q),fun f hf=>.inl (hown f hf).1,fun _ _ _=>rfl,hle,fun _ h=>.inl h,fun _ h=>.inl h⟩
  . rcases hA2 f hf with q|q
    . exact hT.alt f q
    . exact (hT.dis f (hfam f q)).1
  . obtain ⟨q1,q2⟩:=hown f hf;refine ⟨(hT.dis f q1).1,fun hh=>?_⟩;rcases hA2 f hh with q|q
    . exact (hT.dis f q1).2 q
    . exact q2 q
  . by_cases e1:b1=b
    . subst e1;rw [hse] at h1;cases h1;simp [oy] at h3
    . by_cases e2:b2=b
      . subst e2;rw [hse] at h2;cases h2;simp [oy] at h4
      . rw [hne b1 e1] at h1;rw [hne b2 e2] at h2;exact hT.inj b1 b2 l1 l2 f h1 h2 h3 h4
  . have:S.n<=b':=hb';rw [hne b' (by omega)];exact hT.next b' this
  . by_cases hi:b'=b
    . subst hi;rw [nf] at hb';simp at hb'
    . rw [nl _ _ hi] at hb';exact (hT.cells b' z N l hb').mono hA (fun _ _=>rfl) hle (hne b' hi) fun _ _ _ _=>rfl
  . by_cases hi:b'=b
    . subst hi;rw [nf] at hb';simp at hb'
    . rw [nl _ _ hi] at hb';exact (hT.maps b' l hb').mono hA (fun _ _=>rfl) hle (hne b' hi) fun _ _=>rfl
theorem TRel.freeze (hT:TRel GL A β S s) {b N:Nat} {z:Bool} {l:List T} (hS:S.box b=.cells z N l) :
    ∃ A' β',TRel GL A' β' (S.set b .gone) s/\Stp A β s A' β' s/\∀ {e off len cap:Nat} {v:Value} {L:List T},VT A β (zaa s.obj) (.arr b e off len cap N) v->0<e->off+len*e<=N->(l.drop off).take (len*e)=L.flatMap jk->(∀ t,t∈L->t.cells.length=e)->L.length=len->len<=cap->VT A' β' (zaa s.obj) (.lst e L) v:=by
  obtain ⟨hlN,hc⟩:=hT.cells b z N l hS;rcases hc with ⟨hb,hN,_⟩|⟨f,u,cs,rest,hb,hz,hat,hvl,hone⟩
  . obtain ⟨k1,k2⟩:=hT.dead hb A (fun _ h=>h) (fun _ h=>.inl h);refine ⟨_,_,k1,k2,fun {e off len cap v L} hv he hoff hL hs hlen hcap=>?_⟩;rcases zh4 hT hS hv with ⟨f,u,rfl,hb',_⟩|⟨rfl,_,rfl,rfl,rfl,_⟩
    . rw [hb] at hb';simp at hb'
    . have:L=[]:=jp hlen;subst this;exact .lnil
  . obtain ⟨k1,k2⟩:=hT.dead hb (fun k=>A k\/k=f) (fun _ h=>.inl h) (fun k hk=>hk.imp id fun q=>by rw [q];rfl);refine ⟨_,_,k1,k2,fun {e off len cap v L} hv he hoff hL hs hlen hcap=>?_⟩;rcases zh4 hT hS hv with ⟨f',u',rfl,hb',htag⟩|⟨rfl,hb',_⟩
    . rw [hb] at hb';cases hb';have hcl:=hvl.len
      have hrow:zbp (zaa s.obj f).rows u=some cs:=by
        rw [hat];show zbp ((u,cs) :: rest) u=some cs;unfold zbp;rw [jg];rfl
      have h1:VL A β (zaa s.obj) (L.flatMap jk) ((cs.drop off).take (len*e)):=by rw [<- hL];exact (hvl.drop off).take _
      have h3:((cs.drop off).take (len*e)).length=len*e:=by rw [iv,jm];omega
      have:=VT.lst (A:=fun k=>A k\/k=f) (β:=bnew β b .dead) (g:=zaa s.obj) (off:=off) (cap:=cap) (.inr rfl) hrow (h1.mono (fun _ h=>.inl h) (fun _ _=>rfl) k2.bx) hs he (by rw [h3]) htag (by omega);rw [hlen] at this;exact this
    . rw [hb] at hb';simp at hb'
theorem TW.freeze {c:Code} (t:Nat) {b e off len cap M:Nat} {z:Bool} {l:List T} (L:List T) (ht:h t=.arr b e off len cap M) (hS:S.box b=.cells z M l) (he:0<e) (hoff:off+len*e<=M) (hL:(l.drop off).take (len*e)=L.flatMap jk) (hs:∀ t,t∈L->t.cells.length=e) (hlen:L.length=len) (hcap:len<=cap)
    (k:TW P Γ GL N c (tupd h t (.lst e L)) (S.set b .gone) Q):TW P Γ GL N c h S Q:=by
  intro A β fr s hF hT;obtain ⟨A',β',k1,k2,k3⟩:=hT.freeze hS;have hv:=hF.slot t;rw [ht] at hv
  have hF':FrOk A' β' (zaa s.obj) N (tupd h t (.lst e L)) fr:=⟨hF.nt,hF.le,fun u=>by
    by_cases hu:u=t
    . subst hu;rw [zhl];exact k3 hv he hoff hL hs hlen hcap
    . rw [zlu _ _ _ _ hu];exact k2.vt hT (hF.slot u)⟩
  refine (k A' β' fr s hF' k1).mono ?_;rintro e2 fr2 s2 ⟨h2,S2,l2,q2⟩;exact ⟨h2,S2,Left.trans (h':=h) (fr':=fr) hT.le k2 l2,q2⟩
theorem TW.vec {c:Code} (t e:Nat) (ht:h t=.nils) (k:TW P Γ GL N c (tupd h t (.arr S.n e 0 0 0 0)) (S.add (.cells false 0 [])) Q):TW P Γ GL N c h S Q:=by
  intro A β fr s hF hT;have hv:=hF.slot t;rw [ht] at hv;have hb0:β S.n=none:=hT.next _ (fy _)
  have hle:Bx.le β (bnew β S.n .nil):=z0t hb0;have hse:bnew β S.n .nil S.n=some .nil:=zAc rfl;have hne:∀ b',b'≠S.n->bnew β S.n .nil b'=β b':=fun b' hb'=>zAd hb'
  have hown:∀ f,Own (bnew β S.n .nil) f->Own β f:=fun f ⟨b',hb'⟩=>by
    by_cases hi:b'=S.n
    . subst hi;rw [hse] at hb';rcases hb' with ⟨u,N,hb'⟩|hb'<;>simp at hb'
    . rw [hne b' hi] at hb';exact ⟨b',hb'⟩
  have hst:Stp A β s A (bnew β S.n .nil) s:=⟨jw _,fun _ h=>h,fun _ h=>.inl h,fun f hf=>.inl (hown f hf),fun _ _ _=>rfl,hle,fun _ h=>.inl h,fun _ h=>.inl h⟩
  have hT':TRel GL A (bnew β S.n .nil) (S.add (.cells false 0 [])) s:=by
    refine ⟨hT.inr,hT.inv,hT.alt,fun f hf=>hT.dis f (hown f hf),fun b1 b2 l1 l2 f h1 h2 h3 h4=>?_,fun b' hb'=>?_,fun b' z N l hb'=>?_,fun b' l hb'=>?_,hT.glob⟩
    . by_cases e1:b1=S.n
      . subst e1;rw [hse] at h1;cases h1;simp [oy] at h3
      . by_cases e2:b2=S.n
        . subst e2;rw [hse] at h2;cases h2;simp [oy] at h4
        . rw [hne b1 e1] at h1;rw [hne b2 e2] at h2;exact hT.inj b1 b2 l1 l2 f h1 h2 h3 h4
    . have:S.n+1<=b':=hb';rw [hne b' (by omega)];exact hT.next b' (by omega)
    . by_cases hi:b'=S.n
      . subst hi;rw [TS.add_same] at hb';cases hb';exact ⟨rfl,.inl ⟨hse,rfl,rfl⟩⟩
      . rw [TS.add_ne _ _ hi] at hb';exact (hT.cells b' z N l hb').mono (fun _ h=>h) (fun _ _=>rfl) hle (hne b' hi) fun _ _ _ _=>rfl
    . by_cases hi:b'=S.n
      . subst hi;rw [TS.add_same] at hb';cases hb'
      . rw [TS.add_ne _ _ hi] at hb';exact (hT.maps b' l hb').mono (fun _ h=>h) (fun _ _=>rfl) hle (hne b' hi) fun _ _=>rfl
  have hF':FrOk A (bnew β S.n .nil) (zaa s.obj) N (tupd h t (.arr S.n e 0 0 0 0)) fr:=⟨hF.nt,hF.le,fun u=>by
    by_cases hu:u=t
    . subst hu;rw [zhl];generalize fr.get u=w at hv;cases hv;exact .arrNil hse
    . rw [zlu _ _ _ _ hu];exact hst.vt hT (hF.slot u)⟩
  refine (k A _ fr s hF' hT').mono ?_;rintro e2 fr2 s2 ⟨h2,S2,l2,q2⟩;exact ⟨h2,S2,Left.trans (h':=h) (fr':=fr) hT.le hst l2,q2⟩
end
def zja:Op->Bool
  |.move _=>true
  |.assign _=>true
  |.pick _ _ _=>true
  |.build _ _=>true
  |.makeFunc _ _ _=>true
  |.slice _ _ _ _ _=>true
  |.fieldAddr _ _ _=>true
  |.indexAddr _ _ _=>true
  |.index _ _ _=>true
  |.extract _ _=>true
  |.unOp _ _ _=>true
  |.binOp _ _ _ _ _=>true
  |_=>false
def zjh:Op->Bool
  |.alloc _=>true
  |.box _ _=>true
  |.buildSlice _ _ _=>true
  |.makeSlice _ _ _=>true
  |o=>zja o
section
variable {GL:List (Nat×List Value)} {A A' A0:Nat->Prop} {β β':Bx} {S S':TS} {s s' s2:CS} {P:gz} {Γ:Env} {N:Nat} {h h':Nat->T} {call:zel} {ρ:gh->Value} {o:Oper} {v:Value}
theorem znb {r:Option Value} (hc:retC s r=some (v,s')):s'=s:=by
  unfold retC at hc;split at hc<;>first | (cases hc;rfl) | (simp at hc)
theorem zun {r:Option Value} (hc:zhw P ρ o s r=some (v,s')):s'=s:=by
  unfold zhw at hc;split at hc
  . cases hc;rfl
  . exact znb hc
theorem z39 {r:Option (List Value)} (hc:aggC s r=some (v,s')):s'=s:=by
  unfold aggC at hc;split at hc<;>first | (cases hc;rfl) | (simp at hc)
theorem z3m {size:Nat} {ex:Bool} {a:Addr} {b:Option (Nat×Nat×Nat)} (hc:cutC s size ex a b=some (v,s')):s'=s:=by
  unfold cutC at hc;split at hc
  . rename_i l hh m
    cases hq:(gd (Addr.ver a % 1024) 0 || (!ex && gd (Addr.ver a % 1024) (size+1))) with
    |false=>rw [hq] at hc;simp at hc
    |true=>rw [hq] at hc;cases hc;rfl
  . simp at hc
theorem zvq {d:np} {a:Addr} {lo hi mx:Option Value} (hc:zo0 Γ s d a lo hi mx=some (v,s')):s'=s:=by
  unfold zo0 at hc;split at hc
  . split at hc
    . rw [zcn] at hc;split at hc
      . exact z3m hc
      . simp at hc
    . simp at hc
  . simp at hc
theorem z14 {t:gw} {x:Value} {lo hi mx:Option Value} (hc:zdr Γ s t x lo hi mx=some (v,s')):s'=s:=by
  unfold zdr at hc;split at hc
  . split at hc
    . rename_i b;split at hc
      . cases hq:mx.isNone with
        |false=>rw [hq] at hc;simp at hc
        |true =>
          rw [hq,cond_true] at hc;unfold z83 at hc;split at hc<;>first | (cases hc;rfl) | (simp at hc)
      . simp at hc
    . split at hc
      . split at hc
        . split at hc
          . split at hc<;>first | (cases hc;rfl) | (simp at hc)
          . simp at hc
        . split at hc
          . exact z3m hc
          . simp at hc
      . simp at hc
    . split at hc
      . split at hc
        . exact zvq hc
        . simp at hc
      . exact zvq hc
    . simp at hc
  . simp at hc
theorem zw3 {size k n:Nat} {a:Addr} (hc:zv6 s size k n a=some (v,s')):s'=s:=by
  unfold zv6 at hc
  cases hq:ip k n with
  |false=>rw [hq] at hc;simp at hc
  |true=>rw [hq] at hc;cases hc;rfl
theorem zxx (hm:zja o.op=true) (hc:cop P Γ call ρ o s=some (v,s')):s'=s:=by
  obtain ⟨d,op,ty,pos,e,g⟩:=o;unfold cop at hc;simp only at hm hc
  cases op with
  |move x=>cases hc;rfl
  |assign x=>cases hc;rfl
  |pick c a b =>
    simp only at hc;unfold zxn at hc
    split at hc<;>first | (cases hc;rfl) | (simp at hc)
  |build t parts =>
    simp only at hc;unfold zkw at hc;split at hc
    . split at hc
      . rename_i fs _;rw [zcn] at hc;split at hc
        . exact z39 hc
        . simp at hc
      . split at hc
        . exact z39 hc
        . simp at hc
      . simp at hc
    . simp at hc
  |makeFunc fn a b=>cases hc;rfl
  |slice t x lo hi mx=>exact z14 hc
  |fieldAddr t x k =>
    simp only at hc;unfold zef at hc;split at hc
    . split at hc
      . split at hc
        . split at hc
          . rename_i off size _
            cases hq:gd size 0 with
            |true=>rw [hq] at hc;simp at hc
            |false=>rw [hq] at hc;cases hc;rfl
          . simp at hc
        . simp at hc
      . simp at hc
    . simp at hc
  |indexAddr t x k =>
    simp only at hc;unfold zb9 at hc;split at hc
    . split at hc
      . split at hc
        . split at hc
          . exact zw3 hc
          . simp at hc
        . simp at hc
      . split at hc
        . split at hc
          . exact zw3 hc
          . simp at hc
        . simp at hc
      . simp at hc
    . simp at hc
  |index t x k =>
    simp only at hc;unfold zkv at hc;split at hc
    . split at hc
      . split at hc
        . split at hc
          . rw [Bool.cond_eq_ite] at hc;split at hc
            . exact znb hc
            . simp at hc
          . simp at hc
        . simp at hc
      . split at hc
        . split at hc<;>first | (cases hc;rfl) | (simp at hc)
        . simp at hc
      . simp at hc
    . simp at hc
  |extract x k =>
    simp only at hc;unfold ziy at hc;split at hc
    . exact znb hc
    . simp at hc
  |unOp op t x=>exact zun hc
  |binOp op t x y t2 =>
    simp only at hc;unfold zmu at hc;split at hc
    . cases hc;rfl
    . exact zun hc
  |_=>simp [zja] at hm
theorem zof {tag:Nat} {cs:List Value} {a:Addr} (hc:s.newRow tag cs=some (a,s')):s'.rd=s.rd/\s'.wr=s.wr:=by
  unfold CS.newRow at hc;rw [zcn] at hc;split at hc
  . cases hc;exact ⟨rfl,rfl⟩
  . simp at hc
theorem z7e {r:Option (Addr×CS)} (hr:∀ a t,r=some (a,t)->t.rd=s.rd/\t.wr=s.wr) (hc:ptrC r=some (v,s')):s'.rd=s.rd/\s'.wr=s.wr:=by
  unfold ptrC at hc;split at hc
  . cases hc;exact hr _ _ rfl
  . simp at hc
theorem zw6 {l c:Nat} {r:Option (Addr×CS)} (hr:∀ a t,r=some (a,t)->t.rd=s.rd/\t.wr=s.wr) (hc:zh7 l c r=some (v,s')):s'.rd=s.rd/\s'.wr=s.wr:=by
  unfold zh7 at hc;split at hc
  . cases hc;exact hr _ _ rfl
  . simp at hc
theorem z43 (hm:zjh o.op=true) (hc:cop P Γ call ρ o s=some (v,s')):s'.rd=s.rd/\s'.wr=s.wr:=by
  by_cases hq:zja o.op=true
  . rw [zxx hq hc];exact ⟨rfl,rfl⟩
  obtain ⟨d,op,ty,pos,e,g⟩:=o;unfold cop at hc;simp only at hm hc hq
  cases op with
  |alloc e =>
    simp only at hc;unfold znk at hc;split at hc
    . exact z7e (fun a t h=>zof h) hc
    . simp at hc
  |box e x=>exact z7e (fun a t h=>zof h) hc
  |buildSlice t n parts =>
    simp only at hc;unfold zcg at hc;split at hc
    . rename_i j _
      cases hb:(il (n*j.size) 16777216 && ip 0 j.size) with
      |false=>rw [hb] at hc;simp at hc
      |true =>
        rw [hb,cond_true] at hc;split at hc
        . exact zw6 (fun a t h=>zof h) hc
        . simp at hc
    . simp at hc
  |makeSlice t l c =>
    simp only at hc;unfold zfk at hc;split at hc
    . rename_i j l' c' _ _ _
      cases hb:(il l' c' && il (c'*(j.bytes+1)) 1000000000 && ip 0 j.size) with
      |false=>rw [hb] at hc;simp at hc
      |true =>
        rw [hb,cond_true] at hc;exact zw6 (fun a t h=>zof h) hc
    . simp at hc
  |_=>simp_all [zjh,zja]
def ypx (o:Oper) (x:Lg):Prop:=(zja o.op=true->x.rd=[]/\x.wr=[]/\x.lo=x.hi)/\(zjh o.op=true->x.rd=[]/\x.wr=[])
theorem zth {ops:List Oper}:∀ {l:List Oper} {fr fr':Fr} {s s':CS} {L:List Lg},drawC P Γ call ops l fr s=some (L,fr',s')->L.length=l.length/\∀ (j:Nat) (o:Oper) (x:Lg),l[j]?=some o->L[j]?=some x->ypx o x
  |[],fr,fr',s,s',L,hc=>by
    simp only [drawC,fk,fw] at hc;obtain ⟨rfl,_,_⟩:=hc;exact ⟨rfl,fun j o x hj=>by simp at hj⟩
  |o :: l,fr,fr',s,s',L,hc=>by
    simp only [drawC] at hc;split at hc
    . rename_i fr1 t h1;split at hc
      . rename_i logs fr2 s2 h2;cases hc;obtain ⟨i1,i2⟩:=zth h2;refine ⟨by simp [i1],fun j o' x hj hx=>?_⟩
        cases j with
        |zero =>
          simp only [ik,fk] at hj hx;subst hj;subst hx;unfold zcu at h1
          cases hw:zdb ops fr o with
          |false =>
            rw [hw] at h1;simp only [cond_false,fk,fw] at h1;rw [<- h1.2];exact ⟨fun _=>⟨rfl,rfl,rfl⟩,fun _=>⟨rfl,rfl⟩⟩
          |true =>
            rw [hw,cond_true] at h1;split at h1
            . rename_i v s1 hcop;cases h1;refine ⟨fun hm=>?_,fun hm=>?_⟩
              . rw [zxx hm hcop];exact ⟨rfl,rfl,rfl⟩
              . exact z43 hm hcop
            . simp at h1
        |succ j=>exact i2 j o' x (by simpa using hj) (by simpa using hx)
      . simp at hc
    . simp at hc
theorem zkm {ops:List Oper}:∀ {l m:List Oper} {fr fr1 fr2:Fr} {s s1 s2:CS} {L M:List Lg},drawC P Γ call ops l fr s=some (L,fr1,s1)->drawC P Γ call ops m fr1 s1=some (M,fr2,s2)->drawC P Γ call ops (l++m) fr s=some (L++M,fr2,s2)
  |[],m,fr,fr1,fr2,s,s1,s2,L,M,h1,h2=>by
    simp only [drawC,fk,fw] at h1;obtain ⟨rfl,rfl,rfl⟩:=h1;exact h2
  |o :: l,m,fr,fr1,fr2,s,s1,s2,L,M,h1,h2=>by
    simp only [drawC] at h1;simp only [ib,drawC];split at h1
    . rename_i fra t ha;split at h1
      . rename_i logs frb sb hb;cases h1;rw [zkm hb h2];rfl
      . simp at h1
    . simp at h1
theorem zyt {m:Nat} {y:Lg}:∀ {done:List Lg} {i:Nat},(∀ j x,done[j]?=some x->jd m (i+j)=true\/clash x y=false)->zin clash m y done i=true
  |[],_,_=>rfl
  |x :: l,i,h=>by
    have h0:jd m i=true\/clash x y=false:=h 0 x rfl
    have ih:zin clash m y l (i+1)=true:=zyt fun j z hz=>by
      have:=h (j+1) z (by simpa using hz);rw [show i+1+j=i+(j+1) by omega];exact this
    rcases h0 with h0|h0
    . rw [zvs h0];exact ih
    . rw [zys h0];exact ih
theorem zoq {ms:List Nat}:∀ {l done:List Lg},(∀ i j x y,i<j->done.length<=j->(done++l)[i]?=some x->(done++l)[j]?=some y->jd (nth 0 ms j) i=true\/clash x y=false)->zgt clash done l ms=true
  |[],_,_=>rfl
  |y :: l,done,h=>by
    rw [zn0,fp];refine ⟨zyt fun j x hx=>?_,zoq fun i j x z hij hd hx hz=>?_⟩
    . rw [jc];have hj:=(gm.1 hx).1;exact h j done.length x y hj (fy _) (by rw [gr hj];exact hx) (by simp)
    . rw [gt] at hx hz;rw [gb,io] at hd;exact h i j x z hij (by omega) hx hz
theorem zuy {ρ1 ρ2:gh->T} {l:List gh} (hρ:∀ x,x∈l->ρ1 x=ρ2 x):l.map ρ1=l.map ρ2:=List.map_congr_left hρ
theorem zrj {ρ1 ρ2:gh->T} {l:Option gh} (hρ:∀ x,l=some x->ρ1 x=ρ2 x):l.map ρ1=l.map ρ2:=by
  cases l with
  |none=>rfl
  |some x=>simp only [o5,hρ x rfl]
theorem zsc {place:Nat->Option (Nat×Nat)} {ρ1 ρ2:gh->T}:∀ {l:List (Nat×gh)},(∀ p,p∈l->ρ1 p.2=ρ2 p.2)->zbj place ρ1 l=zbj place ρ2 l
  |[],_=>rfl
  |(k,x) :: l,hρ=>by
    unfold zbj;rw [zsc fun p hp=>hρ p (by simp [hp]),hρ (k,x) (by simp)]
theorem zsk {e:Nat} {ρ1 ρ2:gh->T}:∀ {l:List (Nat×gh)} {i:Nat},(∀ p,p∈l->ρ1 p.2=ρ2 p.2)->zda e ρ1 i l=zda e ρ2 i l
  |[],_,_=>rfl
  |(k,x) :: l,i,hρ=>by
    unfold zda;rw [zsk fun p hp=>hρ p (by simp [hp]),hρ (k,x) (by simp)]
theorem z4j {ρ1 ρ2:gh->T} (hρ:∀ x,x∈o.op.operands.toList->ρ1 x=ρ2 x):zgr P Γ ρ1 o S=zgr P Γ ρ2 o S:=by
  obtain ⟨d,op,ty,pos,e,g⟩:=o;simp only at hρ;unfold zgr
  cases op with
  |move x=>simp only [hρ x (by simp [ij])]
  |assign x=>simp only [hρ x (by simp [ij])]
  |pick c a b=>simp only [hρ c (by simp [ij]),hρ a (by simp [ij]),hρ b (by simp [ij])]
  |build t parts =>
    have hp:∀ p,p∈parts.toList->ρ1 p.2=ρ2 p.2:=fun p hp=>hρ p.2 (by simp [ij];exact ⟨p.1,by simpa using hp⟩)
    simp only [zke,zsc hp]
  |buildSlice t n parts =>
    have hp:∀ p,p∈parts.toList->ρ1 p.2=ρ2 p.2:=fun p hp=>hρ p.2 (by simp [ij];exact ⟨p.1,by simpa using hp⟩)
    simp only [zan,zsk hp]
  |load t x=>simp only [hρ x (by simp [ij])]
  |makeFunc fn first captured =>
    have h1:first.toList.map ρ1=first.toList.map ρ2:=zuy fun x hx=>hρ x (by simp [ij];left;simpa using hx)
    have h2:captured.toList.map ρ1=captured.toList.map ρ2:=zuy fun x hx=>hρ x (by simp [ij];right;simpa using hx)
    simp only [h1,h2]
  |slice t x lo hi mx =>
    have h1:lo.map ρ1=lo.map ρ2:=zrj fun y hy=>hρ y (by simp [ij,hy]);have h2:hi.map ρ1=hi.map ρ2:=zrj fun y hy=>hρ y (by simp [ij,hy]);have h3:mx.map ρ1=mx.map ρ2:=zrj fun y hy=>hρ y (by simp [ij,hy])
    simp only [hρ x (by simp [ij]),h1,h2,h3]
  |fieldAddr t x k=>simp only [hρ x (by simp [ij])]
  |indexAddr t x ix=>simp only [hρ x (by simp [ij]),hρ ix (by simp [ij])]
  |index t x ix=>simp only [hρ x (by simp [ij]),hρ ix (by simp [ij])]
  |extract x k=>simp only [hρ x (by simp [ij])]
  |unOp op t x=>simp only [hρ x (by simp [ij])]
  |convert src dst x=>simp only [hρ x (by simp [ij])]
  |binOp op t x y t2=>simp only [hρ x (by simp [ij]),hρ y (by simp [ij])]
  |call c =>
    obtain ⟨cal,args,tys⟩:=c
    cases cal with
    |builtin b =>
      have ha:∀ x,x∈args.toList->ρ1 x=ρ2 x:=fun x hx=>hρ x (by simp [ij,sm];simpa using hx);simp only;unfold zmw
      cases b with
      |len =>
        simp only;split
        . rename_i x t e1 e2;rw [ha x (by rw [e1];simp)]
        . rfl
      |min =>
        simp only;split
        . rename_i x y e1;rw [ha x (by rw [e1];simp),ha y (by rw [e1];simp)]
        . rfl
      |max =>
        simp only;split
        . rename_i x y e1;rw [ha x (by rw [e1];simp),ha y (by rw [e1];simp)]
        . rfl
      |_=>rfl
    |_=>rfl
  |_=>rfl
end
def z57 (P:gz) (Γ:Env) (GL:List (Nat×List Value)) (S:TS) (args:List T) (f:T) (r:T):Option Prop:=match f with
  |.fn k first cap=>some (zaj P Γ GL k (first++args++cap) S r)
  |_=>none
def andP (p:Prop):Option (Prop×(Nat->T))->Option (Prop×(Nat->T))
  |some (q,h)=>some (p/\q,h)
  |none=>none
def runP (P:gz) (Γ:Env) (GL:List (Nat×List Value)) (ops:List Oper):List Oper->(Nat->T)->TS->List T->Option (Prop×(Nat->T))
  |[],h,_,_=>some (True,h)
  |o :: l,h,S,outs=>match zi4 ops h o.guard with
    |none=>none
    |some false=>runP P Γ GL ops l (putT h o.dst (.tup [])) S outs
    |some true=>match o.op with
      |.call ⟨.value f,args,tys⟩=>(match outs with
        |r :: outs=>(match z57 P Γ GL S (args.toList.map (zdk GL h)) (zdk GL h f) r with
          |some p=>andP p (runP P Γ GL ops l (putT h o.dst r) S outs)
          |none=>none)
        |[]=>none)
      |_=>(match zgr P Γ (zdk GL h) o S with
        |some t=>runP P Γ GL ops l (putT h o.dst t) S outs
        |none=>none)
def ylg (ops:List Oper) (x y:Oper):Bool:=match x.dst with|some d=>has (zfs ops y) d|none=>false
def zwx:Nat->List Oper->List (Bool×Oper)
  |_,[]=>[]
  |0,o :: l=>(true,o) :: zwx 0 l
  |k+1,o :: l=>(false,o) :: zwx k l
def yef (x y:Bool×Oper):Bool:=y.1 && !(zja x.2.op || zjh y.2.op)
def zsy (m:Nat):List Nat->Nat->Bool
  |[],_=>true
  |x :: l,i=>(!Nat.testBit m i || gd (Nat.land x m) x) && zsy m l (i+1)
def zka (k:Nat) (ops:List Oper):Bool :=
  zgt (ylg ops) [] ops (zdu ops []) && (zgt yef [] (zwx k ops) (zdu ops []) && (zdu ops []).all fun m=>zsy m (zdu ops []) 0)
theorem ztp {m:Nat}:∀ {l:List Nat} {i:Nat},zsy m l i=true->∀ j,j<l.length->jd m (i+j)=true->∀ b,jd (nth 0 l j) b=true->jd m b=true
  |[],_,_,j,hj,_,_,_=>by simp at hj
  |x :: l,i,h,j,hj,ht,b,hb=>by
    simp only [zsy,fp] at h
    cases j with
    |zero =>
      have h1:=h.1;rw [show jd m i=true from ht] at h1;simp only [i6,Bool.false_or] at h1;have h2:x &&& m=x:=ft h1;have h3:jd x b=true:=hb;rw [<- h2,l7,fp] at h3;exact h3.2
    |succ j=>exact ztp h.2 j (by simpa using hj) (by rw [show i+1+j=i+(j+1) by omega];exact ht) b hb
theorem z2l:∀ (l:List Oper) (ms:List Nat),(zdu l ms).length=ms.length+l.length
  |[],ms=>by simp [zdu]
  |o :: l,ms=>by
    simp only [zdu];rw [z2l l];simp only [gb,gq,jl];omega
theorem zn7:∀ {k:Nat} {ops:List Oper} {i:Nat} {o:Oper},ops[i]?=some o->(zwx k ops)[i]?=some (decide (k<=i),o)
  |_,[],i,o,h=>by simp at h
  |0,x :: l,i,o,h=>by
    cases i with
    |zero=>simp only [ik,fk] at h;subst h;rfl
    |succ i =>
      have:=zn7 (k:=0) (ops:=l) (i:=i) (by simpa using h)
      simpa [zwx] using this
  |k+1,x :: l,i,o,h=>by
    cases i with
    |zero=>simp only [ik,fk] at h;subst h;rfl
    |succ i =>
      have:=zn7 (k:=k) (ops:=l) (i:=i) (by simpa using h);simpa [zwx] using this
section
variable {GL:List (Nat×List Value)} {A A' A0:Nat->Prop} {β β':Bx} {S S':TS} {s s0 s' s2:CS} {P:gz} {Γ:Env} {N:Nat} {h h':Nat->T}
theorem yaz {k:Nat} {ops:List Oper} (hd:zka k ops=true) {i j:Nat} {x y:Oper} (hij:i<j) (hx:ops[i]?=some x) (hy:ops[j]?=some y) {d:Nat} (hxd:x.dst=some d) (hdy:d∈zfs ops y):jd (nth 0 (zdu ops []) j) i=true:=by
  unfold zka at hd;simp only [fp] at hd;rcases zgh hd.1 i j x y hij (iz _) (by simpa using hx) (by simpa using hy) with q|q
  . exact q
  . unfold ylg at q;rw [hxd] at q;simp only at q;rw [zuu hdy] at q;simp at q
theorem z5z {k:Nat} {ops:List Oper} (hd:zka k ops=true) {i j:Nat} {x y:Oper} (hij:i<j) (hkj:k<=j) (hx:ops[i]?=some x) (hy:ops[j]?=some y):jd (nth 0 (zdu ops []) j) i=true\/zja x.op=true\/zjh y.op=true:=by
  unfold zka at hd;simp only [fp] at hd;rcases zgh hd.2.1 i j _ _ hij (iz _) (by simpa using zn7 hx) (by simpa using zn7 hy) with q|q
  . exact .inl q
  . unfold yef at q;rw [zAa hkj] at q;simp only [ki,Bool.not_eq_false',Bool.or_eq_true] at q;exact .inr q
theorem z3j {k:Nat} {ops:List Oper} (hd:zka k ops=true) {j i b:Nat} (hj:j<ops.length) (hi:i<ops.length) (h1:jd (nth 0 (zdu ops []) j) i=true) (h2:jd (nth 0 (zdu ops []) i) b=true):jd (nth 0 (zdu ops []) j) b=true:=by
  unfold zka at hd;simp only [fp] at hd;have hl:=z2l ops [];simp only [jl,jc] at hl
  have hm:nth 0 (zdu ops []) j∈zdu ops []:=by
    have key:∀ (l:List Nat) (j:Nat),j<l.length->nth 0 l j∈l:=by
      intro l
      induction l with
      |nil=>intro j hj;simp at hj
      |cons x l ih =>
        intro j hj
        cases j with
        |zero=>exact List.mem_cons_self
        |succ j=>exact List.mem_cons_of_mem _ (ih j (by simpa using hj))
    exact key _ j (by omega)
  have:=im.1 hd.2.2 _ hm;exact ztp this i (by omega) (by rw [jc];exact h1) b h2
def SupL (A0:Nat->Prop) (L:List Lg) (D:Nat) (f:Nat):Prop:=A0 f\/∃ (m:Nat) (x:Lg),jd D m=true/\L[m]?=some x/\x.lo<=f/\f<x.hi
theorem SupL.more {L M:List Lg} {D E:Nat} (hD:∀ m,m<L.length->jd D m=true->jd E m=true) {f:Nat} (k:SupL A0 L D f):SupL A0 (L++M) E f:=by
  rcases k with k|⟨m,x,h1,h2,h3⟩
  . exact .inl k
  . have hm:=(gm.1 h2).1;exact .inr ⟨m,x,hD m hm h1,by rw [gr hm];exact h2,h3⟩
theorem SupL.sub {L:List Lg} {D E:Nat} (hD:∀ m,m<L.length->jd D m=true->jd E m=true) {f:Nat} (k:SupL A0 L D f):SupL A0 L E f:=by
  have:=SupL.more (M:=[]) hD k;simpa using this
structure zrb (GL:List (Nat×List Value)) (ops:List Oper) (A0:Nat->Prop) (β:Bx) (S:TS) (s0:CS) (N:Nat) (L:List Lg) (h:Nat->T) (fr:Fr) (s:CS):Prop where
  nt:fr.nt=N
  le:N<=512
  rel:TRel GL A0 β S s
  slot:∀ t,∃ D,VT (SupL A0 L D) β (zaa s.obj) (h t) (fr.get t)/\∀ (j:Nat) (o:Oper),L.length<=j->ops[j]?=some o->t∈zfs ops o->∀ m,m<L.length->jd D m=true->jd (nth 0 (zdu ops []) j) m=true
  log:∀ (k:Nat) (x:Lg),L[k]?=some x->s0.n<=x.lo/\x.lo<=x.hi/\x.hi<=s.n/\x.wr=[]/\∀ f,f∈x.rd->f<x.lo/\(SupL A0 L (nth 0 (zdu ops []) k) f\/Own β f)
  apart:∀ (k m:Nat) (x y:Lg),k<m->L[k]?=some x->L[m]?=some y->x.hi<=y.lo
  own:∀ f,Own β f->f<s0.n
  base:∀ f,A0 f->f<s0.n
  calm:zkd A0 β s0 A0 s
  lim:s0.lim<=s0.n
theorem TRel.more (hT:TRel GL A β S s) (A1:Nat->Prop) (h1:∀ f,A f->A1 f) (h2:∀ f,A1 f->f<s.n) (h3:∀ f,A1 f->¬ Own β f):TRel GL A1 β S s :=
  ⟨hT.inr,hT.inv,h2,fun f hf=>⟨(hT.dis f hf).1,fun hh=>h3 f hh hf⟩,hT.inj,hT.next,fun b z N l hb=>(hT.cells b z N l hb).mono h1 (fun _ _=>rfl) (mq _) rfl fun _ _ _ _=>rfl,
    fun b l hb=>(hT.maps b l hb).mono h1 (fun _ _=>rfl) (mq _) rfl fun _ _=>rfl,fun x hx=>⟨h1 _ (hT.glob x hx).1,(hT.glob x hx).2⟩⟩
theorem TRel.inner (hT:TRel GL A β S s):TRel GL A β S s.inner:=⟨hT.inr,⟨hT.inv.none,hT.inv.vers,fy _⟩,hT.alt,hT.dis,hT.inj,hT.next,hT.cells,hT.maps,hT.glob⟩
theorem TRel.outer (hT:TRel GL A β S s') (hl:s.lim<=s'.n):TRel GL A β S (s.outer s'):=⟨hT.inr,⟨hT.inv.none,hT.inv.vers,hl⟩,hT.alt,hT.dis,hT.inj,hT.next,hT.cells,hT.maps,hT.glob⟩
theorem zkd.trans (hl:s.lim<=s.n) (k1:zkd A β s A s') (k2:zkd A β s' A s2):zkd A β s A s2:=by
  refine ⟨k1.can.trans k2.can,fun _ h=>h,fun _ h=>.inl h,fun f hf=>?_,fun x hx=>?_,fun x hx=>k1.wr x (k2.wr x hx)⟩
  . rw [k2.keep f (h9 hf k1.can.n)];exact k1.keep f hf
  . rcases k2.rd x hx with q|⟨q,q2⟩
    . exact k1.rd x q
    . rw [k1.can.lim] at q;exact .inr ⟨q,q2⟩
theorem zrb.next {k0:Nat} {ops:List Oper} (hd:zka k0 ops=true) {L:List Lg} {fr:Fr} {o:Oper} (I:zrb GL ops A0 β S s0 N L h fr s) (ho:ops[L.length]?=some o) (hdst:∀ t,o.dst=some t->t<N) {t:T} {v:Value} {s1:CS}
    (k1:TRel GL A' β S s1) (k2:VT A' β (zaa s1.obj) t v) (k3:zkd (SupL A0 L (nth 0 (zdu ops []) L.length)) β s.inner A' s1) :
    zrb GL ops A0 β S s0 N (L++[⟨s1.rd,s1.wr,s.n,s1.n⟩]) (putT h o.dst t) (putC fr o.dst v) (s.outer s1):=by
  have hsn:s.n<=s1.n:=k3.can.n;have hln:L.length<ops.length:=(gm.1 ho).1;have h0n:s0.n<=s.n:=I.calm.can.n
  have hsup:∀ f D,SupL A0 L D f->f<s.n:=fun f D hf=>by
    rcases hf with q|⟨m,x,_,q2,_,q4⟩
    . have:=I.base f q;omega
    . have:=(I.log m x q2).2.2.1;omega
  have hA':∀ f,A' f->SupL A0 (L++[⟨s1.rd,s1.wr,s.n,s1.n⟩]) (nth 0 (zdu ops []) L.length ||| 2 ^ L.length) f:=fun f hf=>by
    rcases k3.new f hf with q|q
    . refine SupL.more (fun m hm hb=>?_) q;rw [ou,hb];rfl
    . refine .inr ⟨L.length,⟨s1.rd,s1.wr,s.n,s1.n⟩,?_,by simp,q,k1.alt f hf⟩;rw [ou,Nat.testBit_two_pow_self];simp
  have hobj:∀ f,f<s.n->zaa s1.obj f=zaa s.obj f:=fun f hf=>k3.keep f hf
  have hwr:s1.wr=[]:=by
    rw [List.eq_nil_iff_forall_not_mem];intro x hx;have:=k3.wr x hx;simp [ss] at this
  have hcal:zkd A0 β s A0 (s.outer s1):=by
    refine ⟨zng I.rel.inv k3.can,fun _ h=>h,fun _ h=>.inl h,hobj,fun x hx=>?_,fun x hx=>?_⟩
    . rcases zok (l:=s1.rd) rfl x hx with q|⟨q,q2⟩
      . exact .inl q
      . refine .inr ⟨q2,?_⟩;have hxn:x<s0.n:=by have h1:=I.calm.can.lim;have h2:=I.lim;rw [h1] at q2;omega
        rcases k3.rd x q with q3|⟨_,q3⟩
        . simp [ss] at q3
        . rcases q3 with (q3|⟨m,y,_,q5,q6,_⟩)|q3
          . exact .inl q3
          . have:=(I.log m y q5).1;omega
          . exact .inr q3
    . rcases zok (l:=s1.wr) rfl x hx with q|⟨q,_⟩
      . exact q
      . rw [hwr] at q;simp at q
  have hrel:TRel GL A0 β S (s.outer s1):=hcal.rel I.rel k1.inr ⟨k1.inv.none,k1.inv.vers,by have:=I.rel.inv.lim;show s.lim<=s1.n;omega⟩ fun f hf=>by have:=I.rel.alt f hf;show f<s1.n;omega
  refine ⟨?_,I.le,hrel,fun t'=>?_,fun k x hx=>?_,fun k m x y hkm hx hy=>?_,I.own,I.base,?_,I.lim⟩
  . cases hd2:o.dst with
    |none=>exact I.nt
    |some d =>
      show (fr.put d v).nt=N;unfold Fr.put;rw [zcn];split<;>exact I.nt
  . by_cases ht':o.dst=some t'
    . rw [ht'];refine ⟨nth 0 (zdu ops []) L.length ||| 2 ^ L.length,?_,fun j o' hj ho' hn m hm hb=>?_⟩
      . show VT _ _ _ (tupd h t' t t') ((fr.put t' v).get t');rw [zhl,Fr.get_put_same v (by rw [I.nt];exact hdst _ ht') (by rw [I.nt];exact I.le)];exact k2.mono hA' (fun _ _=>rfl) (mq _)
      . rw [gb,io] at hj hm;have hdep:=yaz hd (show L.length<j by omega) ho ho' ht' hn;rw [ou,Bool.or_eq_true] at hb;rcases hb with hb|hb
        . exact z3j hd (gm.1 ho').1 hln hdep hb
        . rw [Nat.testBit_two_pow] at hb;have:L.length=m:=by simpa using hb
          rw [<- this];exact hdep
    . obtain ⟨D,d1,d2⟩:=I.slot t';refine ⟨D &&& (2 ^ L.length - 1),?_,fun j o' hj ho' hn m hm hb=>?_⟩
      . have e1:putT h o.dst t t'=h t':=by
          cases hd2:o.dst with
          |none=>rfl
          |some d=>exact zlu _ _ _ _ fun hh=>ht' (by rw [hd2,hh])
        have e2:(putC fr o.dst v).get t'=fr.get t':=by
          cases hd2:o.dst with
          |none=>rfl
          |some d=>exact sw v (by rw [I.nt];exact I.le) fun hh=>ht' (by rw [hd2,hh])
        rw [e1,e2];refine d1.mono (fun f hf=>SupL.more (fun m hm hb=>?_) hf) (fun f hf=>hobj f (hsup f D hf)) (mq _);rw [l7,hb,mv];simp [hm]
      . rw [gb,io] at hj;rw [l7,fp,mv] at hb;exact d2 j o' (by omega) ho' hn m (zAe hb.2) hb.1
  . by_cases hk:k<L.length
    . rw [gr hk] at hx;obtain ⟨l1,l2,l3,l4,l5⟩:=I.log k x hx;exact ⟨l1,l2,by show x.hi<=s1.n;omega,l4,fun f hf=>⟨(l5 f hf).1,(l5 f hf).2.imp (fun q=>SupL.more (fun _ _ hb=>hb) q) id⟩⟩
    . have hk2:k=L.length:=by
        have:=(gm.1 hx).1;rw [gb,io] at this;omega
      subst hk2;simp only [iy (fy _),Nat.sub_self,ik,fk] at hx;subst hx;refine ⟨h0n,hsn,fy _,hwr,fun f hf=>?_⟩;rcases k3.rd f hf with q|⟨q,q2⟩
      . simp [ss] at q
      . exact ⟨q,q2.imp (fun q3=>SupL.more (fun _ _ hb=>hb) q3) id⟩
  . by_cases hm:m<L.length
    . rw [gr (by omega)] at hx;rw [gr hm] at hy;exact I.apart k m x y hkm hx hy
    . have hm2:m=L.length:=by
        have:=(gm.1 hy).1;rw [gb,io] at this;omega
      subst hm2;rw [gr hkm] at hx;simp only [iy (fy _),Nat.sub_self,ik,fk] at hy;subst hy;exact (I.log k x hx).2.2.1
  . exact I.calm.trans I.lim hcal
theorem zz5 {ops:List Oper} {o:Oper} {x:Nat} (hx:Operand.tmp x∈o.op.operands.toList):x∈zfs ops o:=by
  unfold zfs;refine List.mem_append.2 (.inl ?_);rw [List.mem_filterMap];exact ⟨.tmp x,hx,rfl⟩
theorem z49 {ops:List Oper} {o:Oper} {j d:Nat} {w:Bool} (hg:o.guard=some (j,w)) (hd:zpi ops j=some d):d∈zfs ops o:=by
  unfold zfs;refine List.mem_append.2 (.inr ?_);rw [hg];simp only [hd];exact List.mem_singleton.2 rfl
theorem z7g (hE:zej P Γ) {k0:Nat} {ops:List Oper} (hd:zka k0 ops=true):∀ {l:List Oper} {L:List Lg} {h h':Nat->T} {fr:Fr} {s:CS} {outs:List T} {ob:Prop},zrb GL ops A0 β S s0 N L h fr s->(∀ (j:Nat) (o:Oper),l[j]?=some o->ops[L.length+j]?=some o)->zfq N l=true->runP P Γ GL ops l h S outs=some (ob,h')->ob ->
    ∃ M fr' s',drawC P Γ (zet P Γ) ops l fr s=some (M,fr',s')/\zrb GL ops A0 β S s0 N (L++M) h' fr' s'/\M.length=l.length
  |[],L,h,h',fr,s,outs,ob,I,hl,hdo,hr,hob=>by
    simp only [runP,fk,fw] at hr;obtain ⟨rfl,rfl⟩:=hr;exact ⟨[],fr,s,rfl,by rw [ic];exact I,rfl⟩
  |o :: l,L,h,h',fr,s,outs,ob,I,hl,hdo,hr,hob=>by
    have hd':zfq N l=true/\∀ t,o.dst=some t->t<N:=by
      unfold zfq at hdo ⊢;rw [ju,fp] at hdo;refine ⟨hdo.2,fun t ht=>?_⟩;have:=hdo.1;rw [ht] at this;exact zae.1 this
    have ho:ops[L.length]?=some o:=by have:=hl 0 o rfl;simpa using this
    -- what the operation may lean on
    have hrel:TRel GL (SupL A0 L (nth 0 (zdu ops []) L.length)) β S s.inner:=by
      refine TRel.inner (I.rel.more _ (fun f hf=>.inl hf) (fun f hf=>?_) (fun f hf ho=>?_))
      . rcases hf with q|⟨m,x,_,q2,_,q4⟩
        . exact I.rel.alt f q
        . have:=(I.log m x q2).2.2.1;omega
      . rcases hf with q|⟨m,x,_,q2,q3,q4⟩
        . exact (I.rel.dis f ho).2 q
        . have:=(I.log m x q2).1;have:=I.own f ho;omega
    -- the slots that it names
    let ho':Nat->T:=fun t=>if t∈zfs ops o then h t else .junk
    have hin:∀ t,t∈zfs ops o->ho' t=h t:=fun t ht=>zAc ht
    have hF:FrOk (SupL A0 L (nth 0 (zdu ops []) L.length)) β (zaa s.inner.obj) N ho' fr:=⟨I.nt,I.le,fun t=>by
      by_cases ht:t∈zfs ops o
      . rw [hin t ht];obtain ⟨D,d1,d2⟩:=I.slot t;exact d1.mono (fun f hf=>SupL.sub (fun m hm hb=>d2 L.length o (fy _) ho ht m hm hb) hf) (fun _ _=>rfl) (mq _)
      . rw [show ho' t=.junk from zAd ht]
        exact .junk _⟩
    have hev:∀ x,x∈o.op.operands.toList->zdk GL ho' x=zdk GL h x:=fun x hx=>by
      cases x with
      |tmp t=>exact hin t (zz5 hx)
      |_=>rfl
    have hgd:zi4 ops ho' o.guard=zi4 ops h o.guard:=by
      cases hg:o.guard with
      |none=>rfl
      |some p =>
        obtain ⟨j,w⟩:=p;unfold zi4;simp only
        cases hdd:zpi ops j with
        |none=>rfl
        |some d=>simp only [hin d (z49 hg hdd)]
    -- the rest behind a step that is done
    have go:∀ {t:T} {v:Value} {s1:CS} {A':Nat->Prop} {outs':List T} {ob':Prop},TRel GL A' β S s1->VT A' β (zaa s1.obj) t v->zkd (SupL A0 L (nth 0 (zdu ops []) L.length)) β s.inner A' s1->zcu P Γ (zet P Γ) ops o fr s.inner=some (putC fr o.dst v,s1)->runP P Γ GL ops l (putT h o.dst t) S outs'=some (ob',h')->ob'->∃ M fr' s',drawC P Γ (zet P Γ) ops (o :: l) fr s=some (M,fr',s')/\zrb GL ops A0 β S s0 N (L++M) h' fr' s'/\M.length=(o :: l).length:=by
      intro t v s1 A' outs' ob' k1 k2 k3 hst hrun hob';have I2:=I.next hd ho hd'.2 k1 k2 k3
      obtain ⟨M,fr',s',m1,m2,m3⟩:=z7g hE hd I2 (fun j o' hj=>by
        have:=hl (j+1) o' (by simpa using hj);rw [gb,io];rw [show L.length+1+j=L.length+(j+1) by omega]
        exact this) hd'.1 hrun hob'
      refine ⟨⟨s1.rd,s1.wr,s.n,s1.n⟩ :: M,fr',s',?_,?_,by simp [m3]⟩
      . rw [drawC,hst];simp only;rw [m1]
      . rw [gt] at m2;exact m2
    unfold runP at hr;split at hr
    . simp at hr
    . rename_i hg;rw [<- hgd] at hg;have hw:=zi3 hF hg;refine go hrel VT.undf ⟨jw _,fun _ h=>h,fun _ h=>.inl h,fun _ _=>rfl,fun _ h=>.inl h,fun _ h=>h⟩ ?_ hr hob;unfold zcu;rw [hw,cond_false]
    . rename_i hg;rw [<- hgd] at hg;have hw:=zi3 hF hg;split at hr
      . rename_i f args tys hop;split at hr
        . rename_i r outs';split at hr
          . rename_i p hp;unfold z57 at hp;split at hp
            . rename_i k first cap hf
              simp only [fk] at hp;subst hp
              cases hrun:runP P Γ GL ops l (putT h o.dst r) S outs' with
              |none=>rw [hrun] at hr;simp [andP] at hr
              |some q =>
                obtain ⟨q1,q2⟩:=q;rw [hrun] at hr;simp only [andP,fk,fw] at hr;obtain ⟨rfl,rfl⟩:=hr;have hfv:=hF.eval hrel f;rw [hev f (by rw [hop];simp [ij,sm]),hf] at hfv;generalize e1:zhb fr f=vf at hfv
                cases hfv with
                |fn h1 h2 =>
                  rename_i va vc;have hargs:=zvz (hF.eval hrel) args.toList;have hargs':args.toList.map (zdk GL ho')=args.toList.map (zdk GL h):=zuy fun x hx=>hev x (by rw [hop];simp [ij,sm];right;simpa using hx);rw [hargs'] at hargs;obtain ⟨v,s1,A',c1,c2,c3,c4⟩:=hob.1 _ β s.inner _ hrel ((h1.append hargs).append h2);refine go c2 c3 c4 ?_ hrun hob.2;unfold zcu;rw [hw,cond_true]
                  have:cop P Γ (zet P Γ) (zhb fr) o s.inner=some (v,s1):=by
                    unfold cop;simp only [hop,e1];unfold zoy;exact c1
                  rw [this]
            . simp at hp
          . simp at hr
        . simp at hr
      . split at hr
        . rename_i t hst;have hst':zgr P Γ (zdk GL ho') o S=some t:=by rw [z4j hev];exact hst
          obtain ⟨v,s1,A',c1,c2,c3,c4⟩:=z6o (call:=zet P Γ) hE hrel (hF.eval hrel) hst';refine go c2 c3 c4 ?_ hr hob;unfold zcu;rw [hw,cond_true,c1]
        . simp at hr
theorem Stp.outer (hI:CInv s) (k:Stp A β s.inner A' β' s'):Stp A β s A' β' (s.outer s'):=by
  refine ⟨zng hI k.can,k.sub,k.new,k.own,k.keep,k.bx,fun x hx=>?_,fun x hx=>?_⟩
  . rcases zok (l:=s'.rd) rfl x hx with q|⟨q,q2⟩
    . exact .inl q
    . rcases k.rd x q with q3|⟨_,q3⟩
      . simp [ss] at q3
      . exact .inr ⟨q2,q3⟩
  . rcases zok (l:=s'.wr) rfl x hx with q|⟨q,q2⟩
    . exact .inl q
    . rcases k.wr x q with q3|⟨_,q3⟩
      . simp [ss] at q3
      . exact .inr ⟨q2,q3⟩
theorem zz0 (hE:zej P Γ) {own:List Nat} {ops:List Oper} {N:Nat}:∀ {l:List Oper} {h h':Nat->T} {S S':TS} {outs:List (T×TS)} {ob:Prop} {A:Nat->Prop} {β:Bx} {fr:Fr} {s:CS},zfq N l=true->FrOk A β (zaa s.obj) N h fr->TRel GL A β S s->runT P Γ GL own ops l h S outs=some (ob,h',S')->ob ->
    ∃ M fr' s',drawC P Γ (zet P Γ) ops l fr s=some (M,fr',s')/\Left GL A β s N fr' s' h' S'
  |[],h,h',S,S',outs,ob,A,β,fr,s,hd,hF,hT,hr,hob=>by
    simp only [runT,fk,fw] at hr;obtain ⟨rfl,rfl,rfl⟩:=hr;exact ⟨[],fr,s,rfl,A,β,hF,hT,r8⟩
  |o :: l,h,h',S,S',outs,ob,A,β,fr,s,hd,hF,hT,hr,hob=>by
    have hd':zfq N l=true/\∀ t,o.dst=some t->t<N:=by
      unfold zfq at hd ⊢;rw [ju,fp] at hd;refine ⟨hd.2,fun t ht=>?_⟩;have:=hd.1;rw [ht] at this;exact zae.1 this
    have hTi:=hT.inner
    have go:∀ {t:T} {S1:TS} {r:Option (Value×CS)} {l':List (T×TS)} {ob':Prop},Ok GL A β s.inner r t S1->(cop P Γ (zet P Γ) (zhb fr) o s.inner=r)->zdb ops fr o=true->runT P Γ GL own ops l (putT h o.dst t) S1 l'=some (ob',h',S')->ob'->∃ M fr' s',drawC P Γ (zet P Γ) ops (o :: l) fr s=some (M,fr',s')/\Left GL A β s N fr' s' h' S':=by
      rintro t S1 r l' ob' ⟨v,s1,A1,β1,rfl,k1,k2,k3⟩ hc hw hrun hob';have hF1:FrOk A1 β1 (zaa s1.obj) N h fr:=hF.mono k3.sub (Stp.old (s:=s.inner) hTi k3) k3.bx;have hS:Stp A β s A1 β1 (s.outer s1):=k3.outer hT.inv;obtain ⟨M,fr',s',e1,e2⟩:=zz0 hE hd'.1 (s:=s.outer s1) (hF1.put hd'.2 k2) (k1.outer (Nat.le_trans hT.le k3.can.n)) hrun hob';refine ⟨⟨s1.rd,s1.wr,s.n,s1.n⟩ :: M,fr',s',?_,Left.trans (h':=h) (fr':=fr) hT.le hS e2⟩;rw [drawC]
      have:zcu P Γ (zet P Γ) ops o fr s.inner=some (putC fr o.dst v,s1):=by
        unfold zcu;rw [hw,cond_true,hc]
      rw [this];simp only;rw [e1]
    unfold runT at hr;split at hr
    . simp at hr
    . rename_i hg;have hw:=zi3 hF hg;have hS:Stp A β s A β (s.outer s.inner):=Stp.outer hT.inv r8;obtain ⟨M,fr',s',e1,e2⟩:=zz0 hE hd'.1 (s:=s.outer s.inner) (hF.put hd'.2 VT.undf) (hTi.outer hT.le) hr hob;refine ⟨⟨[],[],s.n,s.n⟩ :: M,fr',s',?_,Left.trans (h':=h) (fr':=fr) hT.le hS e2⟩;rw [drawC]
      have:zcu P Γ (zet P Γ) ops o fr s.inner=some (putC fr o.dst undef,s.inner):=by
        unfold zcu;rw [hw,cond_false]
      rw [this];simp only;rw [e1];rfl
    . rename_i hg;have hw:=zi3 hF hg;split at hr
      . rename_i f args tys ho;split at hr
        . rename_i r outs';split at hr
          . rename_i p hp;unfold z0s at hp;split at hp
            . rename_i k first cap hf
              simp only [fk] at hp;subst hp
              cases hrun:runT P Γ GL own ops l (putT h o.dst r.1) r.2 outs' with
              |none=>rw [hrun] at hr;simp [andT] at hr
              |some q =>
                obtain ⟨q1,q2,q3⟩:=q;rw [hrun] at hr;simp only [andT,fk,fw] at hr;obtain ⟨rfl,rfl,rfl⟩:=hr;have hfv:=hF.eval hT f;rw [hf] at hfv;generalize e1:zhb fr f=vf at hfv
                cases hfv with
                |fn h1 h2 =>
                  rename_i va vc;have hargs:=zvz (hF.eval hT) args.toList;have hcall:=hob.1 A β s.inner _ hTi ((h1.append hargs).append h2);refine go hcall ?_ hw hrun hob.2;unfold cop;simp only [ho,e1];unfold zoy;rfl
            . simp at hp
          . simp at hr
        . simp at hr
      . split at hr
        . rename_i t S1 hst;exact go (zzf hE hTi (hF.eval hT) hst) rfl hw hr hob
        . simp at hr
theorem zim {x y:Lg} (h1:x.rd=[]) (h2:x.wr=[]) (h3:x.lo=x.hi):clash x y=false:=by
  obtain ⟨rx,wx,lo,hi⟩:=x;obtain ⟨ry,wy,lo',hi'⟩:=y;simp only at h1 h2 h3;subst h1;subst h2;subst h3;exact zg4 (fun f hf=>by simp at hf) (fun f hf=>by simp at hf) (fun f _=>by omega) (fun f _=>by omega)
theorem zhc {x y:Lg} (h1:y.rd=[]) (h2:y.wr=[]):clash x y=false:=by
  obtain ⟨rx,wx,lo,hi⟩:=x;obtain ⟨ry,wy,lo',hi'⟩:=y;simp only at h1 h2;subst h1;subst h2;exact zg4 (fun f _=>by simp) (fun f _=>by simp) (fun f hf=>by simp at hf) (fun f hf=>by simp at hf)
theorem TW.draw (hE:zej P Γ) {id:Nat} {ops:Array Oper} {Q:Exit->(Nat->T)->TS->Prop} (k:Nat) (outsP:List T) (own:List Nat) (outs:List (T×TS)) {h1:Nat->T} {ob1 ob2:Prop} (hd:zfq N ops.toList=true) (hok:zka k ops.toList=true)
    (hp:runP P Γ GL ops.toList (ops.toList.take k) h S outsP=some (ob1,h1)) (hob1:ob1) (hr:runT P Γ GL own ops.toList (ops.toList.drop k) h1 S outs=some (ob2,h',S')) (hob2:ob2) (hq:Q .normal h' S'):TW P Γ GL N (.region id ops true) h S Q:=fun A β fr s hF hT=>by
  have hsplit:ops.toList=ops.toList.take k++ops.toList.drop k:=(jf k _).symm
  have hdd:zfq N (ops.toList.take k)=true/\zfq N (ops.toList.drop k)=true:=by
    unfold zfq at hd ⊢;rw [hsplit,List.all_append,fp] at hd;exact hd
  have I0:zrb GL ops.toList A β S s N [] h fr s:=by
    refine ⟨hF.nt,hF.le,hT,fun t=>⟨0,(hF.slot t).mono (fun f hf=>.inl hf) (fun _ _=>rfl) (mq _),fun j o _ _ _ m hm=>by simp at hm⟩,fun k x hx=>by simp at hx,fun k m x y _ hx=>by simp at hx,fun f hf=>(hT.dis f hf).1,hT.alt,?_,hT.le⟩;exact ⟨jw _,fun _ h=>h,fun _ h=>.inl h,fun _ _=>rfl,fun _ h=>.inl h,fun _ h=>h⟩
  obtain ⟨M1,fr1,s1,d1,I1,m1⟩:=z7g hE hok I0 (fun j o hj=>by
    rw [jl,jc];rw [List.getElem?_take] at hj;split at hj
    . exact hj
    . simp at hj) hdd.1 hp hob1
  rw [gn] at I1
  -- behind the first part all may lean on all
  let D:Nat:=2 ^ M1.length - 1
  have hDall:∀ m,m<M1.length->jd D m=true:=fun m hm=>by
    show jd (2 ^ M1.length - 1) m=true;rw [mv];exact zAa hm
  have hT1:TRel GL (SupL A M1 D) β S s1:=by
    refine I1.rel.more _ (fun f hf=>.inl hf) (fun f hf=>?_) (fun f hf ho=>?_)
    . rcases hf with q|⟨m,x,_,q2,_,q4⟩
      . exact I1.rel.alt f q
      . have:=(I1.log m x q2).2.2.1;omega
    . rcases hf with q|⟨m,x,_,q2,q3,q4⟩
      . exact (I1.rel.dis f ho).2 q
      . have:=(I1.log m x q2).1;have:=I1.own f ho;omega
  have hF1:FrOk (SupL A M1 D) β (zaa s1.obj) N h1 fr1:=⟨I1.nt,I1.le,fun t=>by
    obtain ⟨E,e1,_⟩:=I1.slot t
    exact e1.mono (fun f hf=>SupL.sub (fun m hm _=>hDall m hm) hf) (fun _ _=>rfl) (mq _)⟩
  have hS1:Stp A β s (SupL A M1 D) β s1:=by
    refine ⟨I1.calm.can,fun f hf=>.inl hf,fun f hf=>?_,fun f hf=>.inl hf,fun f hf _=>I1.calm.keep f hf,mq _,I1.calm.rd,fun x hx=>.inl (I1.calm.wr x hx)⟩;rcases hf with q|⟨m,x,_,q2,q3,_⟩
    . exact .inl q
    . have:=(I1.log m x q2).1;exact .inr (.inl (by omega))
  obtain ⟨M2,fr2,s2,d2,L2⟩:=zz0 hE hdd.2 hF1 hT1 hr hob2;have hdraw:=zkm d1 d2;rw [<- hsplit] at hdraw;obtain ⟨f1,f2⟩:=zth hdraw;refine W.draw hdraw ?_ ⟨h',S',Left.trans (h':=h) (fr':=fr) hT.le hS1 L2,hq⟩;refine z0r rfl (zoq fun i j x y hij _ hx hy=>?_);simp only [gn] at hx hy;have hjl:j<ops.toList.length:=by rw [<- f1];exact (gm.1 hy).1
  have ho1:ops.toList[i]?=some (ops.toList[i]'(by omega)):=fq _;have ho2:ops.toList[j]?=some (ops.toList[j]'hjl):=fq _;by_cases hkj:k<=j
  . rcases z5z hok hij hkj ho1 ho2 with q|q|q
    . exact .inl q
    . obtain ⟨a,b,c⟩:=(f2 i _ x ho1 hx).1 q;exact .inr (zim a b c)
    . obtain ⟨a,b⟩:=(f2 j _ y ho2 hy).2 q;exact .inr (zhc a b)
  . have hjM:j<M1.length:=by rw [m1,iv];omega
    rw [gr (by omega)] at hx;rw [gr hjM] at hy;by_cases hbit:jd (nth 0 (zdu ops.toList []) j) i=true
    . exact .inl hbit
    . right;obtain ⟨x1,x2,x3,x4,x5⟩:=I1.log i x hx;obtain ⟨y1,y2,y3,y4,y5⟩:=I1.log j y hy;obtain ⟨rx,wx,lo,hi⟩:=x;obtain ⟨ry,wy,lo',hi'⟩:=y;simp only at x1 x2 x3 x4 x5 y1 y2 y3 y4 y5;subst x4;subst y4;refine zg4 (fun f hf=>by simp at hf) (fun f _=>by simp) (fun f hf=>?_) (fun f hf=>by simp at hf);obtain ⟨g1,g2⟩:=y5 f hf;rcases g2 with (g2|⟨m,z,g3,g4,g5,g6⟩)|g2
      . have:=I1.base f g2;omega
      . by_cases hmi:m=i
        . subst hmi;exact absurd g3 hbit
        . by_cases hlt:m<i
          . have:=I1.apart m i z _ hlt g4 hx;simp only at this;omega
          . have:=I1.apart i m _ z (by omega) hx g4;simp only at this;omega
      . have:=I1.own f g2;omega
end
section
variable {GL:List (Nat×List Value)} {P:gz} {Γ:Env} {own:List Nat} {ops l:List Oper} {h:Nat->T} {S:TS} {outs:List (T×TS)} {outsP:List T} {d:Option Tmp} {ty:gw} {pos:String} {e:Array Edge} {g:Option (Nat×Bool)}
def ygq {α:Type} (r:Option (T×TS)) (k:T->TS->Option α):Option α:=match r with
  |some (t,S)=>k t S
  |none=>none
def zou {α:Type} (b:Option Bool) (off on:Unit->Option α):Option α:=match b with
  |some true=>on ()
  |some false=>off ()
  |none=>none
theorem z02 {α:Type} (t:T) (S:TS) (k:T->TS->Option α):ygq (some (t,S)) k=k t S:=gg rfl rfl
theorem yfa {α:Type} (a b:Unit->Option α):zou (some true) a b=b ():=gg rfl rfl
theorem z8i {α:Type} (a b:Unit->Option α):zou (some false) a b=a ():=gg rfl rfl
def zp3 (ops:List Oper) (h:Nat->T) (j:Nat):T:=match zpi ops j with|some t=>h t|none=>.junk
def zpr (t:T) (w:Bool):Option Bool:=match t with|.bool b=>some (b == w)|.tup _=>some false|_=>none
theorem ybo {l:List T} {w:Bool}:zpr (.tup l) w=some false:=gg rfl rfl
theorem zjv {j:Nat} {w:Bool}:zi4 ops h (some (j,w))=zpr (zp3 ops h j) w:=by
  unfold zi4 zp3;simp only
  cases zpi ops j with
  |none=>rfl
  |some t=>simp only;cases h t<;>rfl
theorem ybm:zpr (.bool true) true=some true:=gg rfl rfl
theorem ybn:zpr (.bool true) false=some false:=gg rfl rfl
theorem ybp:zpr (.bool false) true=some false:=gg rfl rfl
theorem ybq:zpr (.bool false) false=some true:=gg rfl rfl
theorem zw4 {t:Tmp} {op:Op}:zp3 (⟨some t,op,ty,pos,e,g⟩ :: l) h 0=h t:=gg rfl rfl
theorem zw5 {o:Oper} {n:Nat}:zp3 (o :: l) h (n+1)=zp3 l h n:=by
  unfold zp3 zpi;rw [lq]
theorem z62:runT P Γ GL own ops [] h S outs=some (True,h,S):=gg rfl rfl
theorem z64:runP P Γ GL ops [] h S outsP=some (True,h):=gg rfl rfl
def zcm:Op->Bool
  |.call ⟨.value _,_,_⟩=>true
  |_=>false
def yhi (P:gz) (Γ:Env) (GL:List (Nat×List Value)) (own:List Nat) (ops l:List Oper) (outs:List (T×TS)) (h:Nat->T) (d:Option Tmp) (t:T) (S:TS):Option (Prop×(Nat->T)×TS):=runT P Γ GL own ops l (putT h d t) S outs
theorem ydz {t:T}:yhi P Γ GL own ops l outs h d t S=runT P Γ GL own ops l (putT h d t) S outs:=gg rfl rfl
def offT (P:gz) (Γ:Env) (GL:List (Nat×List Value)) (own:List Nat) (ops l:List Oper) (outs:List (T×TS)) (h:Nat->T) (d:Option Tmp) (S:TS) (_:Unit):Option (Prop×(Nat->T)×TS):=runT P Γ GL own ops l (putT h d (.tup [])) S outs
theorem yjw {u:Unit}:offT P Γ GL own ops l outs h d S u=runT P Γ GL own ops l (putT h d (.tup [])) S outs:=gg rfl rfl
def yhf (P:gz) (Γ:Env) (GL:List (Nat×List Value)) (own:List Nat) (ops l:List Oper) (outs:List (T×TS)) (h:Nat->T) (S:TS) (o:Oper) (_:Unit):Option (Prop×(Nat->T)×TS):=ygq (zgu P Γ own (zdk GL h) o S) (yhi P Γ GL own ops l outs h o.dst)
theorem ydw {u:Unit} {op:Op}:yhf P Γ GL own ops l outs h S ⟨d,op,ty,pos,e,g⟩ u=ygq (zgu P Γ own (zdk GL h) ⟨d,op,ty,pos,e,g⟩ S) (yhi P Γ GL own ops l outs h d):=gg rfl rfl
theorem z63 {op:Op} (hc:zcm op=false):runT P Γ GL own ops (⟨d,op,ty,pos,e,g⟩ :: l) h S outs=zou (zi4 ops h g) (offT P Γ GL own ops l outs h d S) (yhf P Γ GL own ops l outs h S ⟨d,op,ty,pos,e,g⟩):=by
  rw [runT];simp only
  cases hg:zi4 ops h g with
  |none=>rfl
  |some b =>
    cases b with
    |false=>rfl
    |true =>
      simp only [zou,yhf]
      cases hs:zgu P Γ own (zdk GL h) ⟨d,op,ty,pos,e,g⟩ S with
      |none =>
        cases op with
        |call c =>
          obtain ⟨cal,args,tys⟩:=c
          cases cal with
          |value f=>simp [zcm] at hc
          |_=>rfl
        |_=>rfl
      |some r =>
        cases op with
        |call c =>
          obtain ⟨cal,args,tys⟩:=c
          cases cal with
          |value f=>simp [zcm] at hc
          |_=>rfl
        |_=>rfl
theorem ycw {op:Op} (hc:zcm op=false):runT P Γ GL own ops (⟨d,op,ty,pos,e,none⟩ :: l) h S outs=ygq (zgu P Γ own (zdk GL h) ⟨d,op,ty,pos,e,none⟩ S) (yhi P Γ GL own ops l outs h d):=by
  rw [z63 hc];rfl
theorem ycx {op:Op} {j:Nat} {w:Bool} (hc:zcm op=false):runT P Γ GL own ops (⟨d,op,ty,pos,e,some (j,w)⟩ :: l) h S outs=zou (zpr (zp3 ops h j) w) (offT P Γ GL own ops l outs h d S) (yhf P Γ GL own ops l outs h S ⟨d,op,ty,pos,e,some (j,w)⟩):=by
  rw [z63 hc,zjv]
def yhz (p:Option Prop) (k:Option (Prop×(Nat->T)×TS)):Option (Prop×(Nat->T)×TS):=match p,k with
  |some p,some (q,h,S)=>some (p/\q,h,S)
  |_,_=>none
theorem z2r {p q:Prop}:yhz (some p) (some (q,h,S))=some (p/\q,h,S):=gg rfl rfl
def yih (P:gz) (Γ:Env) (GL:List (Nat×List Value)) (own:List Nat) (ops l:List Oper) (outs:List (T×TS)) (h:Nat->T) (S:TS) (d:Option Tmp) (f:gh) (args:List gh) (r:T×TS) (_:Unit):Option (Prop×(Nat->T)×TS):=yhz (z0s P Γ GL S (args.map (zdk GL h)) (zdk GL h f) r) (runT P Γ GL own ops l (putT h d r.1) r.2 outs)
theorem z9j {u:Unit} {f:gh} {args:List gh} {r:T×TS}:yih P Γ GL own ops l outs h S d f args r u=yhz (z0s P Γ GL S (args.map (zdk GL h)) (zdk GL h f) r) (runT P Γ GL own ops l (putT h d r.1) r.2 outs):=gg rfl rfl
theorem zxf {f:gh} {args:Array gh} {tys:Array gw} {r:T×TS}:runT P Γ GL own ops (⟨d,.call ⟨.value f,args,tys⟩,ty,pos,e,g⟩ :: l) h S (r :: outs)=zou (zi4 ops h g) (offT P Γ GL own ops l (r :: outs) h d S) (yih P Γ GL own ops l outs h S d f args.toList r):=by
  rw [runT];simp only
  cases hg:zi4 ops h g with
  |none=>rfl
  |some b =>
    cases b with
    |false=>rfl
    |true =>
      simp only [zou,yih]
      cases z0s P Γ GL S (args.toList.map (zdk GL h)) (zdk GL h f) r with
      |none=>rfl
      |some p=>cases runT P Γ GL own ops l (putT h d r.1) r.2 outs<;>rfl
theorem z1m {f:gh} {args:Array gh} {tys:Array gw} {r:T×TS}:runT P Γ GL own ops (⟨d,.call ⟨.value f,args,tys⟩,ty,pos,e,none⟩ :: l) h S (r :: outs)=yhz (z0s P Γ GL S (args.toList.map (zdk GL h)) (zdk GL h f) r) (runT P Γ GL own ops l (putT h d r.1) r.2 outs):=by
  rw [zxf];rfl
theorem zuc {f:gh} {args:Array gh} {tys:Array gw} {r:T×TS} {j:Nat} {w:Bool}:runT P Γ GL own ops (⟨d,.call ⟨.value f,args,tys⟩,ty,pos,e,some (j,w)⟩ :: l) h S (r :: outs)=zou (zpr (zp3 ops h j) w) (offT P Γ GL own ops l (r :: outs) h d S) (yih P Γ GL own ops l outs h S d f args.toList r):=by
  rw [zxf,zjv]
theorem zub {f:gh} {args:Array gh} {tys:Array gw} {j:Nat} {w:Bool}:runT P Γ GL own ops (⟨d,.call ⟨.value f,args,tys⟩,ty,pos,e,some (j,w)⟩ :: l) h S []=zou (zpr (zp3 ops h j) w) (offT P Γ GL own ops l [] h d S) (fun _=>none):=by
  rw [runT];simp only [zjv]
  cases zpr (zp3 ops h j) w with
  |none=>rfl
  |some b=>cases b<;>rfl
theorem z9f {k:Nat} {first cap args:List T} {r:T×TS}:z0s P Γ GL S args (.fn k first cap) r=some (Call P Γ GL k (first++args++cap) S r.1 r.2):=gg rfl rfl
def ygr {α:Type} (r:Option T) (k:T->Option α):Option α:=match r with
  |some t=>k t
  |none=>none
theorem zwv {α:Type} (t:T) (k:T->Option α):ygr (some t) k=k t:=gg rfl rfl
def yhj (P:gz) (Γ:Env) (GL:List (Nat×List Value)) (ops l:List Oper) (outs:List T) (h:Nat->T) (d:Option Tmp) (S:TS) (t:T):Option (Prop×(Nat->T)):=runP P Γ GL ops l (putT h d t) S outs
theorem z7u {t:T}:yhj P Γ GL ops l outsP h d S t=runP P Γ GL ops l (putT h d t) S outsP:=gg rfl rfl
def offP (P:gz) (Γ:Env) (GL:List (Nat×List Value)) (ops l:List Oper) (outs:List T) (h:Nat->T) (d:Option Tmp) (S:TS) (_:Unit):Option (Prop×(Nat->T)):=runP P Γ GL ops l (putT h d (.tup [])) S outs
theorem ydx {u:Unit}:offP P Γ GL ops l outsP h d S u=runP P Γ GL ops l (putT h d (.tup [])) S outsP:=gg rfl rfl
def yhg (P:gz) (Γ:Env) (GL:List (Nat×List Value)) (ops l:List Oper) (outs:List T) (h:Nat->T) (S:TS) (o:Oper) (_:Unit):Option (Prop×(Nat->T)):=ygr (zgr P Γ (zdk GL h) o S) (yhj P Γ GL ops l outs h o.dst S)
theorem z7q {u:Unit} {op:Op}:yhg P Γ GL ops l outsP h S ⟨d,op,ty,pos,e,g⟩ u=ygr (zgr P Γ (zdk GL h) ⟨d,op,ty,pos,e,g⟩ S) (yhj P Γ GL ops l outsP h d S):=gg rfl rfl
theorem z65 {op:Op} (hc:zcm op=false):runP P Γ GL ops (⟨d,op,ty,pos,e,g⟩ :: l) h S outsP=zou (zi4 ops h g) (offP P Γ GL ops l outsP h d S) (yhg P Γ GL ops l outsP h S ⟨d,op,ty,pos,e,g⟩):=by
  rw [runP];simp only
  cases hg:zi4 ops h g with
  |none=>rfl
  |some b =>
    cases b with
    |false=>rfl
    |true =>
      simp only [zou,yhg]
      cases hs:zgr P Γ (zdk GL h) ⟨d,op,ty,pos,e,g⟩ S with
      |none =>
        cases op with
        |call c =>
          obtain ⟨cal,args,tys⟩:=c
          cases cal with
          |value f=>simp [zcm] at hc
          |_=>rfl
        |_=>rfl
      |some r =>
        cases op with
        |call c =>
          obtain ⟨cal,args,tys⟩:=c
          cases cal with
          |value f=>simp [zcm] at hc
          |_=>rfl
        |_=>rfl
theorem ycy {op:Op} (hc:zcm op=false):runP P Γ GL ops (⟨d,op,ty,pos,e,none⟩ :: l) h S outsP=ygr (zgr P Γ (zdk GL h) ⟨d,op,ty,pos,e,none⟩ S) (yhj P Γ GL ops l outsP h d S):=by
  rw [z65 hc];rfl
theorem ycz {op:Op} {j:Nat} {w:Bool} (hc:zcm op=false):runP P Γ GL ops (⟨d,op,ty,pos,e,some (j,w)⟩ :: l) h S outsP=zou (zpr (zp3 ops h j) w) (offP P Γ GL ops l outsP h d S) (yhg P Γ GL ops l outsP h S ⟨d,op,ty,pos,e,some (j,w)⟩):=by
  rw [z65 hc,zjv]
def yh0 (p:Option Prop) (k:Option (Prop×(Nat->T))):Option (Prop×(Nat->T)):=match p,k with
  |some p,some (q,h)=>some (p/\q,h)
  |_,_=>none
theorem zx0 {p q:Prop}:yh0 (some p) (some (q,h))=some (p/\q,h):=gg rfl rfl
def z9i (P:gz) (Γ:Env) (GL:List (Nat×List Value)) (ops l:List Oper) (outs:List T) (h:Nat->T) (S:TS) (d:Option Tmp) (f:gh) (args:List gh) (r:T) (_:Unit):Option (Prop×(Nat->T)):=yh0 (z57 P Γ GL S (args.map (zdk GL h)) (zdk GL h f) r) (runP P Γ GL ops l (putT h d r) S outs)
theorem z3z {u:Unit} {f:gh} {args:List gh} {r:T}:z9i P Γ GL ops l outsP h S d f args r u=yh0 (z57 P Γ GL S (args.map (zdk GL h)) (zdk GL h f) r) (runP P Γ GL ops l (putT h d r) S outsP):=gg rfl rfl
theorem zxg {f:gh} {args:Array gh} {tys:Array gw} {r:T}:runP P Γ GL ops (⟨d,.call ⟨.value f,args,tys⟩,ty,pos,e,g⟩ :: l) h S (r :: outsP)=zou (zi4 ops h g) (offP P Γ GL ops l (r :: outsP) h d S) (z9i P Γ GL ops l outsP h S d f args.toList r):=by
  rw [runP];simp only
  cases hg:zi4 ops h g with
  |none=>rfl
  |some b =>
    cases b with
    |false=>rfl
    |true =>
      simp only [zou,z9i]
      cases z57 P Γ GL S (args.toList.map (zdk GL h)) (zdk GL h f) r with
      |none=>rfl
      |some p=>cases runP P Γ GL ops l (putT h d r) S outsP<;>rfl
theorem z1n {f:gh} {args:Array gh} {tys:Array gw} {r:T}:runP P Γ GL ops (⟨d,.call ⟨.value f,args,tys⟩,ty,pos,e,none⟩ :: l) h S (r :: outsP)=yh0 (z57 P Γ GL S (args.toList.map (zdk GL h)) (zdk GL h f) r) (runP P Γ GL ops l (putT h d r) S outsP):=by
  rw [zxg];rfl
theorem zue {f:gh} {args:Array gh} {tys:Array gw} {r:T} {j:Nat} {w:Bool}:runP P Γ GL ops (⟨d,.call ⟨.value f,args,tys⟩,ty,pos,e,some (j,w)⟩ :: l) h S (r :: outsP)=zou (zpr (zp3 ops h j) w) (offP P Γ GL ops l (r :: outsP) h d S) (z9i P Γ GL ops l outsP h S d f args.toList r):=by
  rw [zxg,zjv]
theorem zud {f:gh} {args:Array gh} {tys:Array gw} {j:Nat} {w:Bool}:runP P Γ GL ops (⟨d,.call ⟨.value f,args,tys⟩,ty,pos,e,some (j,w)⟩ :: l) h S []=zou (zpr (zp3 ops h j) w) (offP P Γ GL ops l [] h d S) (fun _=>none):=by
  rw [runP];simp only [zjv]
  cases zpr (zp3 ops h j) w with
  |none=>rfl
  |some b=>cases b<;>rfl
theorem z9h {k:Nat} {first cap args:List T} {r:T}:z57 P Γ GL S args (.fn k first cap) r=some (zaj P Γ GL k (first++args++cap) S r):=gg rfl rfl
theorem zbd {t u:Nat} {v:T}:tupd h t v u=if u=t then v else h u:=gg rfl rfl
theorem ydm {t:Tmp} {v:T}:putT h (some t) v=tupd h t v:=gg rfl rfl
theorem ydn {v:T}:putT h none v=h:=gg rfl rfl
theorem zqy {t:Tmp}:zdk GL h (.tmp t)=h t:=gg rfl rfl
theorem zjj {v:Value}:zdk GL h (.const v)=zny v:=gg rfl rfl
theorem yfh {f:Nat}:zdk GL h (.func f)=.fn f [] []:=gg rfl rfl
theorem z3e {f:Nat}:zdk GL h (.global f)=ye9 GL f:=gg rfl rfl
theorem yjy {k:i5} {n:Int}:zny (.int k n)=.int k n:=gg rfl rfl
theorem zmc {b:Bool}:zny (.bool b)=.bool b:=gg rfl rfl
theorem yjx {b:ByteArray}:zny (.string b)=.str b:=gg rfl rfl
theorem yei:zny (.slice none 0 0)=.nils:=gg rfl rfl
theorem yej:zny (.pointer none)=.nilp:=gg rfl rfl
theorem yek:zny (.map none)=.nilm:=gg rfl rfl
theorem yel:zny .nilFunc=.nilf:=gg rfl rfl
theorem zwq {t:T}:zh5 S (some t)=some (t,S):=gg rfl rfl
theorem zwr:ybl (some S)=some (.junk,S):=gg rfl rfl
-- which operations are calls
theorem ye1 {x}:zcm (.move x)=false:=gg rfl rfl
theorem z20 {x}:zcm (.assign x)=false:=gg rfl rfl
theorem ye0 {a b c}:zcm (.pick a b c)=false:=gg rfl rfl
theorem z8f {x}:zcm (.alloc x)=false:=gg rfl rfl
theorem yj5 {x y}:zcm (.box x y)=false:=gg rfl rfl
theorem z8e {x y}:zcm (.build x y)=false:=gg rfl rfl
theorem zcb {x y z}:zcm (.buildSlice x y z)=false:=gg rfl rfl
theorem ye2 {x y}:zcm (.load x y)=false:=gg rfl rfl
theorem z8a {x y z}:zcm (.store x y z)=false:=gg rfl rfl
theorem zu9 {x}:zcm (.nilCheck x)=false:=gg rfl rfl
theorem yj6 {x y z w v}:zcm (.binOp x y z w v)=false:=gg rfl rfl
theorem yo5 {x y z}:zcm (.unOp x y z)=false:=gg rfl rfl
theorem ye3 {x y z}:zcm (.convert x y z)=false:=gg rfl rfl
theorem yj4 {x y}:zcm (.sliceToArrayPointer x y)=false:=gg rfl rfl
theorem zva {x y z}:zcm (.makeFunc x y z)=false:=gg rfl rfl
theorem zbr {x y z w}:zcm (.lookup x y z w)=false:=gg rfl rfl
theorem zbb {x y}:zcm (.makeMap x y)=false:=gg rfl rfl
theorem za0 {x y z w}:zcm (.mapUpdate x y z w)=false:=gg rfl rfl
theorem zbs {x y z w}:zcm (.insert x y z w)=false:=gg rfl rfl
theorem zsf {x y z}:zcm (.makeSlice x y z)=false:=gg rfl rfl
theorem z8b {x y z w v}:zcm (.slice x y z w v)=false:=gg rfl rfl
theorem zsh {x y z}:zcm (.fieldAddr x y z)=false:=gg rfl rfl
theorem z8d {x y z}:zcm (.field x y z)=false:=gg rfl rfl
theorem zsg {x y z}:zcm (.indexAddr x y z)=false:=gg rfl rfl
theorem z8c {x y z}:zcm (.index x y z)=false:=gg rfl rfl
theorem zye {x y}:zcm (.extract x y)=false:=gg rfl rfl
theorem zyf {b x y}:zcm (.call ⟨.builtin b,x,y⟩)=false:=gg rfl rfl
variable {ρ:gh->T} {t t2:gw} {x y z:gh}
theorem ycp  : zgu P Γ own ρ ⟨d,.move x,ty,pos,e,g⟩ S=zh5 S (some (ρ x)):=gg rfl rfl
theorem zgs  : zgr P Γ ρ ⟨d,.move x,ty,pos,e,g⟩ S=some (ρ x):=gg rfl rfl
theorem z1i  : zgu P Γ own ρ ⟨d,.assign x,ty,pos,e,g⟩ S=zh5 S (some (ρ x)):=gg rfl rfl
theorem z1k  : zgr P Γ ρ ⟨d,.assign x,ty,pos,e,g⟩ S=some (ρ x):=gg rfl rfl
theorem ycq  : zgu P Γ own ρ ⟨d,.load t x,ty,pos,e,g⟩ S=zh5 S (ztt Γ S t (ρ x)):=gg rfl rfl
theorem ycu  : zgr P Γ ρ ⟨d,.load t x,ty,pos,e,g⟩ S=ztt Γ S t (ρ x):=gg rfl rfl
theorem zr8 {k:Nat}:zgu P Γ own ρ ⟨d,.fieldAddr t x k,ty,pos,e,g⟩ S=zh5 S (zao Γ S t k (ρ x)):=gg rfl rfl
theorem zsa {k:Nat}:zgr P Γ ρ ⟨d,.fieldAddr t x k,ty,pos,e,g⟩ S=zao Γ S t k (ρ x):=gg rfl rfl
theorem zr7  : zgu P Γ own ρ ⟨d,.indexAddr t x y,ty,pos,e,g⟩ S=zh5 S (zic Γ S t (ρ x) (ρ y)):=gg rfl rfl
theorem zr9  : zgr P Γ ρ ⟨d,.indexAddr t x y,ty,pos,e,g⟩ S=zic Γ S t (ρ x) (ρ y):=gg rfl rfl
theorem z6w  : zgu P Γ own ρ ⟨d,.index t x y,ty,pos,e,g⟩ S=zh5 S (ztu Γ t (ρ x) (ρ y)):=gg rfl rfl
theorem z60  : zgr P Γ ρ ⟨d,.index t x y,ty,pos,e,g⟩ S=ztu Γ t (ρ x) (ρ y):=gg rfl rfl
theorem zxb {k:Nat}:zgu P Γ own ρ ⟨d,.extract x k,ty,pos,e,g⟩ S=zh5 S (zlv k (ρ x)):=gg rfl rfl
theorem zxc {k:Nat}:zgr P Γ ρ ⟨d,.extract x k,ty,pos,e,g⟩ S=zlv k (ρ x):=gg rfl rfl
theorem yog {u:UnOp}:zgu P Γ own ρ ⟨d,.unOp u t x,ty,pos,e,g⟩ S=zh5 S (tUn u (ρ x)):=gg rfl rfl
theorem yoh {u:UnOp}:zgr P Γ ρ ⟨d,.unOp u t x,ty,pos,e,g⟩ S=tUn u (ρ x):=gg rfl rfl
theorem yjg {b:BinOp}:zgu P Γ own ρ ⟨d,.binOp b t x y t2,ty,pos,e,g⟩ S=zh5 S (tBin P Γ S t b x y (ρ x) (ρ y)):=gg rfl rfl
theorem yji {b:BinOp}:zgr P Γ ρ ⟨d,.binOp b t x y t2,ty,pos,e,g⟩ S=tBin P Γ S t b x y (ρ x) (ρ y):=gg rfl rfl
theorem z6x {parts:Array (Nat×gh)}:zgu P Γ own ρ ⟨d,.build t parts,ty,pos,e,g⟩ S=zh5 S (zke Γ ρ t parts.toList):=gg rfl rfl
theorem z61 {parts:Array (Nat×gh)}:zgr P Γ ρ ⟨d,.build t parts,ty,pos,e,g⟩ S=zke Γ ρ t parts.toList:=gg rfl rfl
theorem z6v {lo hi mx:Option gh}:zgu P Γ own ρ ⟨d,.slice t x lo hi mx,ty,pos,e,g⟩ S=zh5 S (zts Γ S t (ρ x) (lo.map ρ) (hi.map ρ) (mx.map ρ)):=gg rfl rfl
theorem z6z {lo hi mx:Option gh}:zgr P Γ ρ ⟨d,.slice t x lo hi mx,ty,pos,e,g⟩ S=zts Γ S t (ρ x) (lo.map ρ) (hi.map ρ) (mx.map ρ):=gg rfl rfl
theorem zt8 {f:Nat} {a c:Array gh}:zgu P Γ own ρ ⟨d,.makeFunc (.func f) a c,ty,pos,e,g⟩ S=zh5 S (some (.fn f (a.toList.map ρ) (c.toList.map ρ))):=gg rfl rfl
theorem zt9 {f:Nat} {a c:Array gh}:zgr P Γ ρ ⟨d,.makeFunc (.func f) a c,ty,pos,e,g⟩ S=some (.fn f (a.toList.map ρ) (c.toList.map ρ)):=gg rfl rfl
def yhd (c a b:T):Option T:=match c with|.bool t=>some (bif t then a else b)|_=>none
theorem ydj {a b:T}:yhd (.bool true) a b=some a:=gg rfl rfl
theorem ydk {a b:T}:yhd (.bool false) a b=some b:=gg rfl rfl
theorem z4q:zgr P Γ ρ ⟨d,.pick z x y,ty,pos,e,g⟩ S=yhd (ρ z) (ρ x) (ρ y):=by
  show (match ρ z with|.bool t=>some (bif t then ρ x else ρ y)|_=>none)=_;cases ρ z<;>rfl
theorem yco:zgu P Γ own ρ ⟨d,.pick z x y,ty,pos,e,g⟩ S=zh5 S (yhd (ρ z) (ρ x) (ρ y)):=by
  show zh5 S (zgr P Γ ρ ⟨d,.pick z x y,ty,pos,e,g⟩ S)=_;rw [z4q]
theorem z6y:zgu P Γ own ρ ⟨d,.alloc t,ty,pos,e,g⟩ S=zw1 Γ S t:=gg rfl rfl
theorem yjf:zgu P Γ own ρ ⟨d,.box t x,ty,pos,e,g⟩ S=tBox S (ρ x):=gg rfl rfl
theorem z6u:zgu P Γ own ρ ⟨d,.store t x y,ty,pos,e,g⟩ S=ybl (zwz Γ S t (ρ y) (ρ x)):=gg rfl rfl
theorem zr6:zgu P Γ own ρ ⟨d,.makeSlice t x y,ty,pos,e,g⟩ S=zjn Γ S t (ρ x) (ρ y):=gg rfl rfl
theorem ycr:zgu P Γ own ρ ⟨d,.convert t t2 x,ty,pos,e,g⟩ S=bif ownD own d then zsz Γ S t t2 (ρ x) else zh5 S (zr2 Γ S t t2 (ρ x)):=gg rfl rfl
theorem ycv:zgr P Γ ρ ⟨d,.convert t t2 x,ty,pos,e,g⟩ S=zr2 Γ S t t2 (ρ x):=gg rfl rfl
theorem zai {n:Nat} {parts:Array (Nat×gh)}:zgu P Γ own ρ ⟨d,.buildSlice t n parts,ty,pos,e,g⟩ S=bif ownD own d then zar Γ S ρ t n parts.toList else zh5 S (zan Γ ρ t n parts.toList):=gg rfl rfl
theorem zap {n:Nat} {parts:Array (Nat×gh)}:zgr P Γ ρ ⟨d,.buildSlice t n parts,ty,pos,e,g⟩ S=zan Γ ρ t n parts.toList:=gg rfl rfl
theorem yjh:zgr P Γ ρ ⟨d,.call ⟨.builtin .len,#[x],#[t]⟩,ty,pos,e,g⟩ S=tLen Γ S t (ρ x):=gg rfl rfl
theorem yje:zgu P Γ own ρ ⟨d,.call ⟨.builtin .len,#[x],#[t]⟩,ty,pos,e,g⟩ S=zh5 S (tLen Γ S t (ρ x)):=gg rfl rfl
theorem z1j:zgu P Γ own ρ ⟨d,.call ⟨.builtin .append,#[x,y],#[t,t2]⟩,ty,pos,e,g⟩ S=bif srcT Γ t2 then zmy Γ S t (ρ y) (ρ x) else none:=gg rfl rfl
theorem ygz:zgu P Γ own ρ ⟨d,.call ⟨.builtin .clear,#[x],#[t]⟩,ty,pos,e,g⟩ S=ztv Γ S t (ρ x):=gg rfl rfl
def minT (a b:T):Option T:=match a,b with|.int k a,.int _ b=>some (.int k (min a b))|_,_=>none
def maxT (a b:T):Option T:=match a,b with|.int k a,.int _ b=>some (.int k (max a b))|_,_=>none
theorem z7w {k k':i5} {a b:Int}:minT (.int k a) (.int k' b)=some (.int k (min a b)):=gg rfl rfl
theorem z7x {k k':i5} {a b:Int}:maxT (.int k a) (.int k' b)=some (.int k (max a b)):=gg rfl rfl
theorem ycs {tys:Array gw}:zgr P Γ ρ ⟨d,.call ⟨.builtin .min,#[x,y],tys⟩,ty,pos,e,g⟩ S=minT (ρ x) (ρ y):=by
  show (match ρ x,ρ y with|.int k a,.int _ b=>some (fm k (min a b))|_,_=>none)=_;cases ρ x<;>cases ρ y<;>rfl
theorem yjc {tys:Array gw}:zgu P Γ own ρ ⟨d,.call ⟨.builtin .min,#[x,y],tys⟩,ty,pos,e,g⟩ S=zh5 S (minT (ρ x) (ρ y)):=by
  show zh5 S (zgr P Γ ρ ⟨d,.call ⟨.builtin .min,#[x,y],tys⟩,ty,pos,e,g⟩ S)=_;rw [ycs]
theorem yct {tys:Array gw}:zgr P Γ ρ ⟨d,.call ⟨.builtin .max,#[x,y],tys⟩,ty,pos,e,g⟩ S=maxT (ρ x) (ρ y):=by
  show (match ρ x,ρ y with|.int k a,.int _ b=>some (fm k (max a b))|_,_=>none)=_;cases ρ x<;>cases ρ y<;>rfl
theorem yjd {tys:Array gw}:zgu P Γ own ρ ⟨d,.call ⟨.builtin .max,#[x,y],tys⟩,ty,pos,e,g⟩ S=zh5 S (maxT (ρ x) (ρ y)):=by
  show zh5 S (zgr P Γ ρ ⟨d,.call ⟨.builtin .max,#[x,y],tys⟩,ty,pos,e,g⟩ S)=_;rw [yct]
theorem yi7 {b:BinOp} {k k':i5} {m n:Int}:tBin P Γ S t b x y (.int k m) (.int k' n)=zbq b k k' m n:=gg rfl rfl
theorem yi6 {b:BinOp} {m n:ByteArray}:tBin P Γ S t b x y (.str m) (.str n)=zw2 b m n:=gg rfl rfl
theorem yja {m n:ByteArray}:zw2 .eql m n=some (.bool (decide (m=n))):=gg rfl rfl
theorem yi9 {m n:ByteArray}:zw2 .neq m n=some (.bool (!decide (m=n))):=gg rfl rfl
theorem yi4 {b:Bool}:tUn .not (.bool b)=some (.bool (!b)):=gg rfl rfl
theorem yi5 {k:i5} {n:Int}:tUn .neg (.int k n)=some (.int k (k.wrap (0 - n))):=gg rfl rfl
end
section
variable {k:i5} {a b:Int}
theorem ykf:zbq .add k k a b=some (.int k (k.wrap (a+b))):=by simp [zbq]
theorem yj7:zbq .sub k k a b=some (.int k (k.wrap (a - b))):=by simp [zbq]
theorem yj9:zbq .mul k k a b=some (.int k (k.wrap (a*b))):=by simp [zbq]
theorem yke:zbq .eql k k a b=some (.bool (decide (a=b))):=by simp [zbq]
theorem yj8:zbq .neq k k a b=some (.bool (decide (a≠b))):=by simp [zbq]
theorem yka:zbq .lss k k a b=some (.bool (decide (a<b))):=by simp [zbq]
theorem ykb:zbq .leq k k a b=some (.bool (decide (a<=b))):=by simp [zbq]
theorem ykc:zbq .gtr k k a b=some (.bool (decide (b<a))):=by simp [zbq]
theorem ykd:zbq .geq k k a b=some (.bool (decide (b<=a))):=by simp [zbq]
theorem zgc (ha:0<=a) (hb:0<b):zbq .quo k k a b=some (.int k (k.wrap (a / b))):=by
  simp only [zbq,jg,cond_true];rw [zAd (by omega),Int.tdiv_eq_ediv_of_nonneg ha]
theorem zgb (ha:0<=a) (hb:0<b):zbq .rem k k a b=some (.int k (a % b)):=by
  simp only [zbq,jg,cond_true];rw [zAd (by omega),Int.tmod_eq_emod_of_nonneg ha]
theorem yo9:zbq .and k k a b=some (.int k (k.wrap (je k.bits a &&& je k.bits b).toNat)):=by simp [zbq]
theorem ib_or:zbq .or k k a b=some (.int k (k.wrap (je k.bits a ||| je k.bits b).toNat)):=by simp [zbq]
theorem yo6:zbq .xor k k a b=some (.int k (k.wrap (je k.bits a ^^^ je k.bits b).toNat)):=by simp [zbq]
theorem yo8 {k':i5} (hb:0<=b):zbq .shl k k' a b=some (.int k (k.wrap (a*2 ^ (min b.toNat k.bits)))):=by simp [zbq,hb]
theorem yo7 {k':i5} (hb:0<=b):zbq .shr k k' a b=some (.int k (a.fdiv (2 ^ (min b.toNat k.bits)))):=by simp [zbq,hb]
theorem wr64 {n:Int} (h:-9223372036854775808<=n/\n<=9223372036854775807):IntKind.i64.wrap n=n:=ymy h
theorem yd5 {n:Int} (h:0<=n):natT (.int k n)=some n.toNat:=by
  obtain ⟨m,rfl⟩:=jz h;rfl
theorem yd6 {n:Int} (h:0<=n):zhy (.int k n)=some n.toNat:=by
  obtain ⟨m,rfl⟩:=jz h;rfl
theorem zxo {n:Int}:zer (.int k n)=.int k n:=gg rfl rfl
theorem yh4 {α:Type} [Inhabited α] {L:List α} {n:Nat} (h:n<L.length):L[n]?=some (L.getD n default):=by
  rw [fx,fq h];rfl
def stL (l:List Box):TS:=⟨l.length,fun i=>l.getD i .gone⟩
theorem zto:ts0=stL []:=rfl
theorem st_n (l:List Box):(stL l).n=l.length:=rfl
theorem yi8 (l:List Box) (i:Nat):(stL l).box i=l.getD i .gone:=rfl
theorem z07 (l:List Box) (x:Box):(stL l).add x=stL (l++[x]):=by
  unfold stL TS.add;simp only [gb,gq,jl];congr 1;funext i;by_cases hi:i<l.length
  . rw [zAd (by omega),fx,fx,gr hi]
  . by_cases he:i=l.length
    . subst he;rw [zAc rfl];simp
    . rw [zAd he,fx,fx,ke (by omega),ke (by simp;omega)]
theorem zek (l:List Box) (b:Nat) (x:Box) (h:b<l.length):(stL l).set b x=stL (l.set b x):=by
  unfold stL TS.set;simp only [List.length_set];congr 1;funext i;rw [fx,fx,List.getElem?_set];by_cases hi:i=b
  . subst hi;rw [zAc rfl,zAc rfl,zAc h];rfl
  . rw [zAd hi,zAd (fun hh=>hi hh.symm)]
theorem z23 {α:Type} (x d:α) (l:List α):(x :: l).getD 0 d=x:=rfl
theorem z24 {α:Type} (x d:α) (l:List α) (n:Nat):(x :: l).getD (n+1) d=l.getD n d:=rfl
end
def zjb (l:List Nat) (h:Nat->T):Nat->T:=fun t=>if t∈l then h t else .junk
def zf9:List Nat->Nat->(Nat->T)->Prop
  |[],_,_=>True
  |t :: l,n,h=>(h t).ids n=true/\zf9 l n h
theorem zph {n:Nat} {h:Nat->T}:∀ {l:List Nat},zf9 l n h->∀ t,t∈l->(h t).ids n=true
  |[],_,t,ht=>by simp at ht
  |x :: l,k,t,ht=>by
    rcases List.mem_cons.1 ht with rfl|ht
    . exact k.1
    . exact zph k.2 t ht
def zd8 (n:Nat):List Box->Bool
  |[]=>true
  |b :: l=>zh3 n b && zd8 n l
theorem yma {l:List T} {i:Nat} {x:T} (h:i<l.length):spl l i [x]=l.set i x:=by
  unfold spl;rw [List.set_eq_take_append_cons_drop,zAc h];simp
theorem yme {α:Type} {L:List α} {f:α->T} {i:Nat} {v:α}:(L.map f).set i (f v)=(L.set i v).map f:=(List.map_set).symm
theorem ymd {l:List T}:spl l 0 []=l:=by simp [spl]
theorem yob {a:T} {l xs:List T} {n:Nat}:spl (a :: l) (n+1) xs=a :: spl l n xs:=by
  unfold spl;rw [show n+1+xs.length=(n+xs.length)+1 by omega];simp
theorem yoc {a x:T} {l xs:List T}:spl (a :: l) 0 (x :: xs)=x :: spl l 0 xs:=by simp [spl]
theorem ymb {α:Type} {L:List α} {f:α->T} {i:Nat} {v:α} (h:i<L.length):spl (L.map f) i [f v]=(L.set i v).map f:=by
  rw [yma (by rw [f5];exact h),yme]
theorem yc4 (n:Nat) (k:i5) (z:Int):rep n [.int k z]=(List.replicate n z).map (fm k):=by
  unfold rep
  induction n with
  |zero=>rfl
  |succ n ih=>rw [ji,ir,ih,ji];rfl
theorem z69 (n:Nat) (z:Bool):rep n [.bool z]=(List.replicate n z).map sx:=by
  unfold rep
  induction n with
  |zero=>rfl
  |succ n ih=>rw [ji,ir,ih,ji];rfl
theorem zlq {α:Type} {L:List α} {f:α->T} (h:∀ x,(f x).cells=[f x]):(L.map f).flatMap jk=L.map f:=by
  induction L with
  |nil=>rfl
  |cons x l ih=>rw [jb,jh,h,ih];rfl
theorem z70 {α:Type} {S:TS} {b N:Nat} {z:Bool} {L:List α} {f:α->T} (h1:∀ x,(f x).cells=[f x]) (hS:S.box b=.cells z N (L.map f)) (hl:L.length=N):yiv S (.arr b 1 0 N N N) (.lst 1 (L.map f)) :=
  .inr ⟨b,1,0,N,N,N,z,L.map f,L.map f,rfl,rfl,hS,by omega,by omega,by rw [gu,qr,iu (by rw [f5];omega),zlq h1],fun t ht=>by obtain ⟨x,_,rfl⟩:=jv.1 ht;rw [h1];rfl,by rw [f5];exact hl,fy _⟩
section
variable {GL:List (Nat×List Value)} {A A' A2:Nat->Prop} {β β' β2:Bx} {S S' S2:TS} {s s' s2:CS} {P:gz} {Γ:Env} {N:Nat} {h h' h2:Nat->T} {Q R:Exit->(Nat->T)->TS->Prop}
theorem zkj {l:List Nat} {t:Nat} (ht:t∈l):zjb l h t=h t:=zAc ht
theorem zn1 {n:Nat} {l:List Box}:∀ {i:Nat},zd8 n l=true->zh3 n (l.getD i .gone)=true:=by
  induction l with
  |nil=>intro i _;rfl
  |cons b l ih =>
    intro i h;simp only [zd8,fp] at h
    cases i with
    |zero=>exact h.1
    |succ i=>exact ih h.2
theorem Left.trim {fr fr':Fr} {keep:List Nat} {bs bs2 extra:List Box} (hT:TRel GL A β (stL bs) s) (k:Left GL A β s N fr' s' h' (stL (bs2++extra))) (hl:bs2.length=bs.length) (hb:zd8 bs.length bs2=true) (hk:zf9 keep bs.length h'):Left GL A β s N fr' s' (zjb keep h') (stL bs2):=by
  obtain ⟨A',β',k1,k2,k3⟩:=k;have hat:∀ b,b<bs.length->bcut β' bs.length b=β' b:=fun b hb=>zAc hb
  have hsub:∀ b l,bcut β' bs.length b=some l->β' b=some l:=fun b l h=>by
    unfold bcut at h;split at h
    . exact h
    . simp at h
  have hkp:zrz (stL (bs2++extra)) (stL bs2):=by
    refine ⟨by simp [stL],fun b=>?_⟩;by_cases hbl:b<bs2.length
    . refine .inr ⟨hbl,?_,?_⟩
      . show bs2.getD b .gone=(bs2++extra).getD b .gone;rw [fx,fx,gr hbl]
      . show zh3 bs2.length ((bs2++extra).getD b .gone)=true;rw [fx,gr hbl,<- fx,hl];exact zn1 hb
    . left;show bs2.getD b .gone=.gone;rw [fx,ke (by omega)];rfl
  have hcut:=k2.cut hkp;have hn:(stL bs2).n=bs.length:=hl;rw [hn] at hcut;refine ⟨A',bcut β' bs.length,⟨k1.nt,k1.le,fun t=>?_⟩,hcut,k3.can,k3.sub,k3.new,fun f hf=>?_,k3.keep,fun b l hb'=>?_,k3.rd,k3.wr⟩
  . by_cases ht:t∈keep
    . rw [zkj ht];exact (k1.slot t).ids hat (zph hk t ht)
    . rw [show zjb keep h' t=.junk from zAd ht];exact .junk _
  . obtain ⟨b,hb'⟩:=hf;exact k3.own f ⟨b,hb'.imp (fun ⟨u,N,h⟩=>⟨u,N,hsub _ _ h⟩) fun h=>hsub _ _ h⟩
  . obtain ⟨l',c1,c2⟩:=k3.bx b l hb'
    have:b<bs.length:=by
      by_cases hh:b<bs.length
      . exact hh
      . rw [hT.next b (by show bs.length<=b;omega)] at hb';simp at hb'
    exact ⟨l',by rw [hat b this];exact c1,c2⟩
def ypu (keep:List Nat) (n:Nat) (I:Nat->(Nat->T)->List Box->Prop) (m0:Nat) (h':Nat->T) (S':TS):Prop :=
  ∃ m,m<m0/\∃ bs',S'=stL bs'/\n<=bs'.length/\zd8 n (bs'.take n)=true/\zf9 keep n h'/\I m (zjb keep h') (bs'.take n)
theorem TW.loopT {b:Code} (keep:List Nat) (I:Nat->(Nat->T)->List Box->Prop) (hb:∀ m h bs,I m h bs->TW P Γ GL N b h (stL bs) (onT (fun h' S'=>ypu keep bs.length I m h' S') Q)):∀ m h bs,I m h bs->TW P Γ GL N (.loop b) h (stL bs) Q:=by
  intro m
  induction m using Nat.strongRecOn with
  |_ m ih =>
    intro h bs hI A β fr s hF hT;obtain ⟨e,fr1,s1,h1,h',S',hleft,hq⟩:=hb m h bs hI A β fr s hF hT
    cases e with
    |normal =>
      obtain ⟨m2,hm,bs',rfl,hl,hbi,hki,hI'⟩:=hq;have hl2:=Left.trim (fr:=fr) (keep:=keep) (bs2:=bs'.take bs.length) (extra:=bs'.drop bs.length) hT (by rw [jf];exact hleft) (by rw [iv];omega) hbi hki;obtain ⟨A',β',k1,k2,k3⟩:=hl2;obtain ⟨e2,fr2,s2,h3,h2,S2,l2,q2⟩:=ih m2 hm _ _ hI' A' β' fr1 s1 k1 k2;exact ⟨e2,fr2,s2,Ev.again h1 h3,h2,S2,Left.trans (h':=h) (fr':=fr) hT.le k3 l2,q2⟩
    |_=>exact ⟨_,_,_,Ev.last h1 (by simp),h',S',hleft,hq⟩
def Ends (keep:List Nat) (n:Nat) (R:(Nat->T)->List Box->Prop) (h':Nat->T) (S':TS):Prop :=
  ∃ bs',S'=stL bs'/\n<=bs'.length/\zd8 n (bs'.take n)=true/\zf9 keep n h'/\R (zjb keep h') (bs'.take n)
theorem TRel.freezeP (hT:TRel GL A β S s) {b M:Nat} {z:Bool} {l:List T} (hS:S.box b=.cells z M l) :
    ∃ A' β',TRel GL A' β' (S.set b .gone) s/\Stp A β s A' β' s/\∀ {v:Value},VT A β (zaa s.obj) (.ptr b 0 M) v->VT A' β' (zaa s.obj) (.cp l) v:=by
  obtain ⟨hlN,hc⟩:=hT.cells b z M l hS;rcases hc with ⟨hb,hN,_⟩|⟨f,u,cs,rest,hb,hz,hat,hvl,hone⟩
  . obtain ⟨k1,k2⟩:=hT.dead hb A (fun _ h=>h) (fun _ h=>.inl h);refine ⟨_,_,k1,k2,fun {v} hv=>?_⟩;obtain ⟨f,u,rfl,hb'⟩:=zku hT hS hv;rw [hb] at hb';simp at hb'
  . obtain ⟨k1,k2⟩:=hT.dead hb (fun k=>A k\/k=f) (fun _ h=>.inl h) (fun k hk=>hk.imp id fun q=>by rw [q];rfl);refine ⟨_,_,k1,k2,fun {v} hv=>?_⟩;obtain ⟨f',u',rfl,hb'⟩:=zku hT hS hv;rw [hb] at hb';cases hb'
    have hrow:zbp (zaa s.obj f).rows u=some cs:=by
      rw [hat];show zbp ((u,cs) :: rest) u=some cs;unfold zbp;rw [jg];rfl
    exact .cp (.inr rfl) hrow (hvl.mono (fun _ h=>.inl h) (fun _ _=>rfl) k2.bx) (by rw [gu,mf])
theorem TW.freezeP {c:Code} (t:Nat) {b M:Nat} {z:Bool} {l:List T} (ht:h t=.ptr b 0 M) (hS:S.box b=.cells z M l) (k:TW P Γ GL N c (tupd h t (.cp l)) (S.set b .gone) Q):TW P Γ GL N c h S Q:=by
  intro A β fr s hF hT;obtain ⟨A',β',k1,k2,k3⟩:=hT.freezeP hS;have hv:=hF.slot t;rw [ht] at hv
  have hF':FrOk A' β' (zaa s.obj) N (tupd h t (.cp l)) fr:=⟨hF.nt,hF.le,fun u=>by
    by_cases hu:u=t
    . subst hu;rw [zhl];exact k3 hv
    . rw [zlu _ _ _ _ hu];exact k2.vt hT (hF.slot u)⟩
  refine (k A' β' fr s hF' k1).mono ?_;rintro e2 fr2 s2 ⟨h2,S2,l2,q2⟩;exact ⟨h2,S2,Left.trans (h':=h) (fr':=fr) hT.le k2 l2,q2⟩
theorem TW.cut {a:Code} {k:(Nat->T)->TS->Prop} (keep:List Nat) {bs:List Box} (R:(Nat->T)->List Box->Prop) (hR:TW P Γ GL N a h (stL bs) fun e h' S'=>e=.normal/\Ends keep bs.length R h' S') (hk:∀ h bs2,R h bs2->k h (stL bs2)):TW P Γ GL N a h (stL bs) (onT k Q):=by
  intro A β fr s hF hT;obtain ⟨e,fr1,s1,h1,h',S',hleft,rfl,bs',rfl,hl,hbi,hki,hq⟩:=hR A β fr s hF hT;exact ⟨_,fr1,s1,h1,_,_,Left.trim (fr:=fr) (keep:=keep) (bs2:=bs'.take bs.length) (extra:=bs'.drop bs.length) hT (by rw [jf];exact hleft) (by rw [iv];omega) hbi hki,hk _ _ hq⟩
end
theorem zs7 {k:i5} {n:Int}:nj (fm k n)=true:=gg rfl rfl
theorem z9c {k:i5} {n:Int}:jk (fm k n)=[(fm k n)]:=gg rfl rfl
theorem zqc {b:Bool}:nj (sx b)=true:=gg rfl rfl
theorem z3y {b:Bool}:jk (sx b)=[(sx b)]:=gg rfl rfl
theorem zs5 {b:ByteArray}:nj (pq b)=true:=gg rfl rfl
theorem z89 {b:ByteArray}:jk (pq b)=[(pq b)]:=gg rfl rfl
theorem zs6 {e:Nat} {l:List T}:nj (T.lst e l)=true:=gg rfl rfl
theorem z9b {e:Nat} {l:List T}:jk (T.lst e l)=[(T.lst e l)]:=gg rfl rfl
theorem z15  : nj (T.nils)=true:=gg rfl rfl
theorem z3s  : jk (T.nils)=[(T.nils)]:=gg rfl rfl
theorem z16  : nj (T.nilp)=true:=gg rfl rfl
theorem z3t  : jk (T.nilp)=[(T.nilp)]:=gg rfl rfl
theorem z17  : nj (T.nilm)=true:=gg rfl rfl
theorem z3u  : jk (T.nilm)=[(T.nilm)]:=gg rfl rfl
theorem z18  : nj (T.nilf)=true:=gg rfl rfl
theorem z3v  : jk (T.nilf)=[(T.nilf)]:=gg rfl rfl
theorem z7n {b o n:Nat}:nj (T.ptr b o n)=true:=gg rfl rfl
theorem z9a {b o n:Nat}:jk (T.ptr b o n)=[(T.ptr b o n)]:=gg rfl rfl
theorem ydv {l:List T}:nj (T.cp l)=true:=gg rfl rfl
theorem yf0 {l:List T}:jk (T.cp l)=[(T.cp l)]:=gg rfl rfl
theorem z7p {b e o l c n:Nat}:nj (T.arr b e o l c n)=true:=gg rfl rfl
theorem z9e {b e o l c n:Nat}:jk (T.arr b e o l c n)=[(T.arr b e o l c n)]:=gg rfl rfl
theorem ydt {b:Nat}:nj (T.mp b)=true:=gg rfl rfl
theorem yfy {b:Nat}:jk (T.mp b)=[(T.mp b)]:=gg rfl rfl
theorem ydu {f:Nat} {a c:List T}:nj (T.fn f a c)=true:=gg rfl rfl
theorem yfz {f:Nat} {a c:List T}:jk (T.fn f a c)=[(T.fn f a c)]:=gg rfl rfl
theorem z7o {e:Nat}:nj (T.emp e)=true:=gg rfl rfl
theorem z9d {e:Nat}:jk (T.emp e)=[(T.emp e)]:=gg rfl rfl
theorem ylw {k:i5}:aggT (.int k)=false:=gg rfl rfl
theorem ylx  : aggT .bool=false:=gg rfl rfl
theorem yls  : aggT .string=false:=gg rfl rfl
theorem ylv {k:gw}:aggT (.slice k)=false:=gg rfl rfl
theorem ylt {k:gw}:aggT (.pointer k)=false:=gg rfl rfl
theorem ylu {k k2:gw}:aggT (.map k k2)=false:=gg rfl rfl
theorem b0:type_of% (fi (fi (fi (fi (fi (@ycw) (@ycx)) (fi (@z1m) (@zuc))) (fi (fi (@zub) (@z62)) (fi (@ydz) (@yjw)))) (fi (fi (fi (@ydw) (@z9j)) (fi (@ycy) (@ycz))) (fi (fi (@z1n) (@zue)) (fi (@zud) (@z64))))) (fi (fi (fi (fi (@z7u) (@ydx)) (fi (@z7q) (@z3z))) (fi (fi (@ybm) (@ybn)) (fi (@ybp) (@ybq)))) (fi (fi (fi (@ybo) (@zw4)) (fi (@zw5) (@yfa))) (fi (fi (@z8i) (@z02)) (fi (@zwv) (@z2r)))))):=fi (fi (fi (fi (fi (@ycw) (@ycx)) (fi (@z1m) (@zuc))) (fi (fi (@zub) (@z62)) (fi (@ydz) (@yjw)))) (fi (fi (fi (@ydw) (@z9j)) (fi (@ycy) (@ycz))) (fi (fi (@z1n) (@zue)) (fi (@zud) (@z64))))) (fi (fi (fi (fi (@z7u) (@ydx)) (fi (@z7q) (@z3z))) (fi (fi (@ybm) (@ybn)) (fi (@ybp) (@ybq)))) (fi (fi (fi (@ybo) (@zw4)) (fi (@zw5) (@yfa))) (fi (fi (@z8i) (@z02)) (fi (@zwv) (@z2r)))))
theorem b1:type_of% (fi (fi (fi (fi (fi (@zx0) (@z9f)) (fi (@z9h) (@ydm))) (fi (fi (@ydn) (@zqy)) (fi (@zjj) (@yfh)))) (fi (fi (fi (@z3e) (@yjy)) (fi (@zmc) (@yjx))) (fi (fi (@yei) (@yej)) (fi (@yek) (@yel))))) (fi (fi (fi (fi (@zwq) (@zwr)) (fi (@ye1) (@z20))) (fi (fi (@ye0) (@z8f)) (fi (@yj5) (@z8e)))) (fi (fi (fi (@zcb) (@ye2)) (fi (@z8a) (@zu9))) (fi (fi (@yj6) (@yo5)) (fi (@ye3) (@yj4)))))):=fi (fi (fi (fi (fi (@zx0) (@z9f)) (fi (@z9h) (@ydm))) (fi (fi (@ydn) (@zqy)) (fi (@zjj) (@yfh)))) (fi (fi (fi (@z3e) (@yjy)) (fi (@zmc) (@yjx))) (fi (fi (@yei) (@yej)) (fi (@yek) (@yel))))) (fi (fi (fi (fi (@zwq) (@zwr)) (fi (@ye1) (@z20))) (fi (fi (@ye0) (@z8f)) (fi (@yj5) (@z8e)))) (fi (fi (fi (@zcb) (@ye2)) (fi (@z8a) (@zu9))) (fi (fi (@yj6) (@yo5)) (fi (@ye3) (@yj4)))))
theorem b2:type_of% (fi (fi (fi (fi (fi (@zva) (@zsf)) (fi (@z8b) (@zsh))) (fi (fi (@z8d) (@zsg)) (fi (@z8c) (@zye)))) (fi (fi (fi (@zyf) (@ycp)) (fi (@zgs) (@z1i))) (fi (fi (@z1k) (@ycq)) (fi (@ycu) (@zgs))))) (fi (fi (fi (fi (@zgs) (@zgs)) (fi (@zgs) (@zr8))) (fi (fi (@zsa) (@zgs)) (fi (@zgs) (@zr7)))) (fi (fi (fi (@zr9) (@z6w)) (fi (@z60) (@zxb))) (fi (fi (@zxc) (@yog)) (fi (@yoh) (@yjg)))))):=fi (fi (fi (fi (fi (@zva) (@zsf)) (fi (@z8b) (@zsh))) (fi (fi (@z8d) (@zsg)) (fi (@z8c) (@zye)))) (fi (fi (fi (@zyf) (@ycp)) (fi (@zgs) (@z1i))) (fi (fi (@z1k) (@ycq)) (fi (@ycu) (@zgs))))) (fi (fi (fi (fi (@zgs) (@zgs)) (fi (@zgs) (@zr8))) (fi (fi (@zsa) (@zgs)) (fi (@zgs) (@zr7)))) (fi (fi (fi (@zr9) (@z6w)) (fi (@z60) (@zxb))) (fi (fi (@zxc) (@yog)) (fi (@yoh) (@yjg)))))
theorem b3:type_of% (fi (fi (fi (fi (fi (@yji) (@z6x)) (fi (@z61) (@z6v))) (fi (fi (@z6z) (@zt8)) (fi (@zt9) (@yco)))) (fi (fi (fi (@z4q) (@ycr)) (fi (@ycv) (@zai))) (fi (fi (@zap) (@yje)) (fi (@yjh) (@yjc))))) (fi (fi (fi (fi (@ycs) (@yjd)) (fi (@yct) (@z6y))) (fi (fi (@yjf) (@z6u)) (fi (@zr6) (@z1j)))) (fi (fi (fi (@zgs) (@ydj)) (fi (@ydk) (@z7w))) (fi (fi (@z7x) (@yi7)) (fi (@yi6) (@yja)))))):=fi (fi (fi (fi (fi (@yji) (@z6x)) (fi (@z61) (@z6v))) (fi (fi (@z6z) (@zt8)) (fi (@zt9) (@yco)))) (fi (fi (fi (@z4q) (@ycr)) (fi (@ycv) (@zai))) (fi (fi (@zap) (@yje)) (fi (@yjh) (@yjc))))) (fi (fi (fi (fi (@ycs) (@yjd)) (fi (@yct) (@z6y))) (fi (fi (@yjf) (@z6u)) (fi (@zr6) (@z1j)))) (fi (fi (fi (@zgs) (@ydj)) (fi (@ydk) (@z7w))) (fi (fi (@z7x) (@yi7)) (fi (@yi6) (@yja)))))
theorem b4:type_of% (fi (fi (fi (fi (fi (@yi9) (@yi4)) (fi (@yi5) (@zbd))) (fi (fi (@zxo) (@yd5)) (fi (@yd6) (@yc4)))) (fi (fi (fi (@z69) (@ymd)) (fi (@yob) (@yoc))) (fi (fi (@ykf) (@yj7)) (fi (@yj9) (@yke))))) (fi (fi (fi (fi (@yj8) (@yka)) (fi (@ykb) (@ykc))) (fi (fi (@ykd) (@zgc)) (fi (@zgb) (@zto)))) (fi (fi (fi (@st_n) (@yi8)) (fi (@z07) (@zek))) (fi (fi (@z23) (@z24)) (fi (@cond_true.{1}) (@cond_false.{1})))))):=fi (fi (fi (fi (fi (@yi9) (@yi4)) (fi (@yi5) (@zbd))) (fi (fi (@zxo) (@yd5)) (fi (@yd6) (@yc4)))) (fi (fi (fi (@z69) (@ymd)) (fi (@yob) (@yoc))) (fi (fi (@ykf) (@yj7)) (fi (@yj9) (@yke))))) (fi (fi (fi (fi (@yj8) (@yka)) (fi (@ykb) (@ykc))) (fi (fi (@ykd) (@zgc)) (fi (@zgb) (@zto)))) (fi (fi (fi (@st_n) (@yi8)) (fi (@z07) (@zek))) (fi (fi (@z23) (@z24)) (fi (@cond_true.{1}) (@cond_false.{1})))))
theorem b5:type_of% (fi (fi (fi (fi (fi (@List.toList_toArray.{0}) (@jb.{0,0})) (fi (@pk.{0,0}) (@gq.{0}))) (fi (fi (@jl.{0}) (@f5.{0,0})) (fi (@ik.{0}) (@lq.{0})))) (fi (fi (fi (@ls.{0,0}) (@o5.{0,0})) (fi (@Option.map_none.{0,0}) (@gn.{0}))) (fi (fi (@ib.{0}) (@ic.{0})) (fi (@ju.{0}) (@List.all_nil.{0}))))) (fi (fi (fi (fi (@gu.{0}) (@ld.{0})) (fi (@nq.{0}) (@ng.{0}))) (fi (fi (@ln.{0}) (@ma.{0})) (fi (@oh) (@ki)))) (fi (fi (fi (@gl) (@i6)) (fi (@Bool.not_false) (@Bool.false_and))) (fi (fi (@Bool.and_false) (@zhk)) (fi (@z9l) (@zib)))))):=fi (fi (fi (fi (fi (@List.toList_toArray.{0}) (@jb.{0,0})) (fi (@pk.{0,0}) (@gq.{0}))) (fi (fi (@jl.{0}) (@f5.{0,0})) (fi (@ik.{0}) (@lq.{0})))) (fi (fi (fi (@ls.{0,0}) (@o5.{0,0})) (fi (@Option.map_none.{0,0}) (@gn.{0}))) (fi (fi (@ib.{0}) (@ic.{0})) (fi (@ju.{0}) (@List.all_nil.{0}))))) (fi (fi (fi (fi (@gu.{0}) (@ld.{0})) (fi (@nq.{0}) (@ng.{0}))) (fi (fi (@ln.{0}) (@ma.{0})) (fi (@oh) (@ki)))) (fi (fi (fi (@gl) (@i6)) (fi (@Bool.not_false) (@Bool.false_and))) (fi (fi (@Bool.and_false) (@zhk)) (fi (@z9l) (@zib)))))
theorem b6:type_of% (fi (fi (fi (fi (fi (@jg) (@jq)) (fi (@jc) (@kb))) (fi (fi (@qr) (@lp.{0})) (fi (@ownD.eq_1) (@ownD.eq_2)))) (fi (fi (fi (@has.eq_1) (@has.eq_2)) (fi (@tLen.eq_1) (@ztt.eq_1))) (fi (fi (@ztt.eq_2) (@zwz.eq_1)) (fi (@z47.eq_1) (@tBox.eq_1))))) (fi (fi (fi (fi (@zw1.eq_1) (@zgn.eq_1)) (fi (@zgn.eq_2) (@zls.eq_1))) (fi (fi (@zls.eq_2) (@zls.eq_3)) (fi (@zls.eq_4) (@zls.eq_5)))) (fi (fi (fi (@zls.eq_6) (@zls.eq_7)) (fi (@zic.eq_1) (@ztu.eq_1))) (fi (fi (@zlv.eq_1) (@zk7.eq_1)) (fi (@zk7.eq_2) (@zk7.eq_3)))))):=fi (fi (fi (fi (fi (@jg) (@jq)) (fi (@jc) (@kb))) (fi (fi (@qr) (@lp.{0})) (fi (@ownD.eq_1) (@ownD.eq_2)))) (fi (fi (fi (@has.eq_1) (@has.eq_2)) (fi (@tLen.eq_1) (@ztt.eq_1))) (fi (fi (@ztt.eq_2) (@zwz.eq_1)) (fi (@z47.eq_1) (@tBox.eq_1))))) (fi (fi (fi (fi (@zw1.eq_1) (@zgn.eq_1)) (fi (@zgn.eq_2) (@zls.eq_1))) (fi (fi (@zls.eq_2) (@zls.eq_3)) (fi (@zls.eq_4) (@zls.eq_5)))) (fi (fi (fi (@zls.eq_6) (@zls.eq_7)) (fi (@zic.eq_1) (@ztu.eq_1))) (fi (fi (@zlv.eq_1) (@zk7.eq_1)) (fi (@zk7.eq_2) (@zk7.eq_3)))))
theorem b7:type_of% (fi (fi (fi (fi (fi (@zts.eq_1) (@zr2.eq_1)) (fi (@TS.has.eq_1) (@zjn.eq_1))) (fi (fi (@aggT.eq_1) (@aggT.eq_2)) (fi (@ylw) (@ylx)))) (fi (fi (fi (@yls) (@ylv)) (fi (@ylt) (@ylu))) (fi (fi (@jk.eq_1) (@nj.eq_1)) (fi (@nj.eq_2) (@nj.eq_3))))) (fi (fi (fi (fi (@zs7) (@z9c)) (fi (@zqc) (@z3y))) (fi (fi (@zs5) (@z89)) (fi (@zs6) (@z9b)))) (fi (fi (fi (@z15) (@z3s)) (fi (@z16) (@z3t))) (fi (fi (@z17) (@z3u)) (fi (@z18) (@z3v)))))):=fi (fi (fi (fi (fi (@zts.eq_1) (@zr2.eq_1)) (fi (@TS.has.eq_1) (@zjn.eq_1))) (fi (fi (@aggT.eq_1) (@aggT.eq_2)) (fi (@ylw) (@ylx)))) (fi (fi (fi (@yls) (@ylv)) (fi (@ylt) (@ylu))) (fi (fi (@jk.eq_1) (@nj.eq_1)) (fi (@nj.eq_2) (@nj.eq_3))))) (fi (fi (fi (fi (@zs7) (@z9c)) (fi (@zqc) (@z3y))) (fi (fi (@zs5) (@z89)) (fi (@zs6) (@z9b)))) (fi (fi (fi (@z15) (@z3s)) (fi (@z16) (@z3t))) (fi (fi (@z17) (@z3u)) (fi (@z18) (@z3v)))))
theorem b8:type_of% (fi (fi (fi (@z7n) (fi (@z9a) (@ydv))) (fi (@yf0) (fi (@z7p) (@z9e)))) (fi (fi (@ydt) (fi (@yfy) (@ydu))) (fi (@yfz) (fi (@z7o) (@z9d))))):=fi (fi (fi (@z7n) (fi (@z9a) (@ydv))) (fi (@yf0) (fi (@z7p) (@z9e)))) (fi (fi (@ydt) (fi (@yfy) (@ydu))) (fi (@yfz) (fi (@z7o) (@z9d))))
theorem apA:type_of% (fi (fi (fi (@zmy.eq_1) (@zyx)) (fi (@zi8) (fi (@zvv) (@Bool.or_false)))) (fi (fi (@Bool.or_self) (@jh.{0,0})) (fi (@List.flatMap_nil.{0,0}) (fi (@jt) (@nh))))):=fi (fi (fi (@zmy.eq_1) (@zyx)) (fi (@zi8) (fi (@zvv) (@Bool.or_false)))) (fi (fi (@Bool.or_self) (@jh.{0,0})) (fi (@List.flatMap_nil.{0,0}) (fi (@jt) (@nh))))
theorem apB:type_of% (fi (fi (@zda.eq_1) (@zda.eq_2)) (fi (@zan.eq_1) (fi (@zai) (@zap)))):=fi (fi (@zda.eq_1) (@zda.eq_2)) (fi (@zan.eq_1) (fi (@zai) (@zap)))
theorem lzA:type_of% (fi (@gq.{0}) (fi (@jl.{0}) (@jc))):=fi (@gq.{0}) (fi (@jl.{0}) (@jc))
mutual
def T.ren (ρ:Nat->Nat):T->T
  |.agg l=>.agg (T.renL ρ l)
  |.tup l=>.tup (T.renL ρ l)
  |.lst e l=>.lst e (T.renL ρ l)
  |.cp l=>.cp (T.renL ρ l)
  |.ptr b o N=>.ptr (ρ b) o N
  |.arr b e o l c N=>.arr (ρ b) e o l c N
  |.mp b=>.mp (ρ b)
  |.fn f a c=>.fn f (T.renL ρ a) (T.renL ρ c)
  |.int k n=>.int k n
  |.bool b=>.bool b
  |.str b=>.str b
  |.nils=>.nils
  |.nilp=>.nilp
  |.nilm=>.nilm
  |.nilf=>.nilf
  |.junk=>.junk
  |.emp e=>.emp e
def T.renL (ρ:Nat->Nat):List T->List T
  |[]=>[]
  |t :: l=>t.ren ρ :: T.renL ρ l
end
def ze2 (ρ:Nat->Nat):Box->Box
  |.gone=>.gone
  |.cells z N l=>.cells z N (T.renL ρ l)
  |.map l=>.map (l.map fun p=>(p.1.ren ρ,p.2.ren ρ))
section
variable {GL:List (Nat×List Value)} {A A' A1:Nat->Prop} {β β' β0 β1:Bx} {S S' S0 S1:TS} {s s' s1:CS} {P:gz} {Γ:Env} {g g':Nat->Fam} {ρ:Nat->Nat} {n:Nat}
theorem zl5:∀ (l:List T),T.renL ρ l=l.map (T.ren ρ)
  |[]=>rfl
  |t :: l=>by rw [T.renL,jb,zl5 l]
theorem zkh (l:List T):(T.renL ρ l).length=l.length:=by rw [zl5,f5]
theorem z4x (l m:List T):T.renL ρ (l++m)=T.renL ρ l++T.renL ρ m:=by simp only [zl5,nm]
theorem zug (t:T):(t.ren ρ).cells=T.renL ρ t.cells:=by
  cases t<;>simp only [T.ren,jk,T.renL]
theorem zzu:∀ (l:List T),(T.renL ρ l).flatMap jk=T.renL ρ (l.flatMap jk)
  |[]=>rfl
  |t :: l=>by rw [T.renL,jh,jh,zug,zzu l,z4x]
theorem yez:∀ {l:List T},T.idsL n l=true->∀ t,t∈l->t.ids n=true
  |[],_,t,h=>by simp at h
  |x :: l,h,t,ht=>by
    simp only [T.idsL,fp] at h;rcases List.mem_cons.1 ht with rfl|ht
    . exact h.1
    . exact yez h.2 t ht
mutual
theorem VT.up (hβ:∀ b,b<n->β' (ρ b)=β b):∀ {t:T} {v:Value},t.ids n=true->VT A β g t v->VT A β' g (t.ren ρ) v
  |_,_,_,.int k n=>.int k n
  |_,_,_,.bool b=>.bool b
  |_,_,_,.str b=>.str b
  |_,_,hi,.agg h=>.agg (VL.up hβ hi h)
  |_,_,hi,.tup h=>.tup (VL.up hβ hi h)
  |_,_,_,.lnil=>.lnil
  |.lst e l,_,hi,.lst h1 h2 h3 h4 h5 h6 h7 h8=>by
    have q:=VL.up hβ (zlp hi) h3;rw [<- zzu] at q;have:=VT.lst (l:=T.renL ρ l) h1 h2 q (fun t ht=>by rw [zl5] at ht;obtain ⟨x,hx,rfl⟩:=jv.1 ht;rw [zug,zkh];exact h4 x hx) h5 h6 h7 (by rw [zkh];exact h8);rw [zkh] at this;exact this
  |_,_,_,.nils=>.nils
  |_,_,_,.nilp=>.nilp
  |_,_,_,.nilm=>.nilm
  |_,_,_,.nilf=>.nilf
  |_,_,hi,.ptr h=>.ptr (by rw [hβ _ (zae.1 hi)];exact h)
  |_,_,hi,.ptrOld h h0 h1 h2=>.ptrOld (by rw [hβ _ (zae.1 hi)];exact h) h0 h1 h2
  |_,_,hi,.cp h1 h2 h3 h4=>.cp h1 h2 (VL.up hβ hi h3) h4
  |_,_,hi,.arr h ht=>.arr (by rw [hβ _ (zae.1 hi)];exact h) ht
  |_,_,hi,.arrNil h=>.arrNil (by rw [hβ _ (zae.1 hi)];exact h)
  |_,_,hi,.arrOld h h0 h1 h2=>.arrOld (by rw [hβ _ (zae.1 hi)];exact h) h0 h1 h2
  |_,_,hi,.mp h=>.mp (by rw [hβ _ (zae.1 hi)];exact h)
  |_,_,hi,.mpOld h h2=>.mpOld (by rw [hβ _ (zae.1 hi)];exact h) h2
  |_,_,hi,.fn h1 h2=>by
    simp only [T.ids,fp] at hi;exact .fn (VL.up hβ hi.1 h1) (VL.up hβ hi.2 h2)
  |_,_,_,.junk v=>.junk v
  |_,_,_,.emp h1 h2 h3 h4=>.emp h1 h2 h3 h4
theorem VL.up (hβ:∀ b,b<n->β' (ρ b)=β b):∀ {l:List T} {vs:List Value},T.idsL n l=true->VL A β g l vs->VL A β' g (T.renL ρ l) vs
  |_,_,_,.nil=>.nil
  |_,_,hi,.cons h k=>by
    simp only [T.idsL,fp] at hi;exact .cons (VT.up hβ hi.1 h) (VL.up hβ hi.2 k)
end
mutual
theorem VT.down (hβ:∀ b,b<n->β' b=β (ρ b)):∀ {t':T} {v:Value},VT A β g t' v->∀ {t:T},t.ren ρ=t'->t.ids n=true->VT A β' g t v
  |_,_,.int k m,t,e,hi=>by
    cases t<;>simp [T.ren] at e;obtain ⟨rfl,rfl⟩:=e;exact .int _ _
  |_,_,.bool b,t,e,hi=>by
    cases t<;>simp [T.ren] at e;subst e;exact .bool _
  |_,_,.str b,t,e,hi=>by
    cases t<;>simp [T.ren] at e;subst e;exact .str _
  |_,_,.agg h,t,e,hi=>by
    cases t<;>simp [T.ren] at e;exact .agg (VL.down hβ h e hi)
  |_,_,.tup h,t,e,hi=>by
    cases t<;>simp [T.ren] at e;exact .tup (VL.down hβ h e hi)
  |_,_,.lnil,t,e,hi=>by
    cases t<;>simp [T.ren] at e;rename_i e' l;obtain ⟨rfl,e⟩:=e
    cases l with
    |nil=>exact .lnil
    |cons x l=>simp [T.renL] at e
  |_,_,.lst (l:=l') h1 h2 h3 h4 h5 h6 h7 h8,t,e,hi=>by
    cases t<;>simp [T.ren] at e;rename_i e' l;have q:=VL.down hβ h3 (l:=l.flatMap jk) (by rw [<- e.2];exact (zzu l).symm) (zlp hi);obtain ⟨rfl,rfl⟩:=e;have:=VT.lst (l:=l) h1 h2 q (fun t ht=>by have:=h4 (t.ren ρ) (by rw [zl5];exact List.mem_map_of_mem ht);rw [zug,zkh] at this;exact this) h5 h6 h7 (by rw [zkh] at h8;exact h8);rw [zkh];exact this
  |_,_,.nils,t,e,hi=>by cases t<;>simp [T.ren] at e;exact .nils
  |_,_,.nilp,t,e,hi=>by cases t<;>simp [T.ren] at e;exact .nilp
  |_,_,.nilm,t,e,hi=>by cases t<;>simp [T.ren] at e;exact .nilm
  |_,_,.nilf,t,e,hi=>by cases t<;>simp [T.ren] at e;exact .nilf
  |_,_,.ptr h,t,e,hi=>by
    cases t<;>simp [T.ren] at e;obtain ⟨rfl,rfl,rfl⟩:=e;exact .ptr (by rw [hβ _ (zae.1 hi)];exact h)
  |_,_,.ptrOld h h0 h1 h2,t,e,hi=>by
    cases t<;>simp [T.ren] at e;obtain ⟨rfl,rfl,rfl⟩:=e;exact .ptrOld (by rw [hβ _ (zae.1 hi)];exact h) h0 h1 h2
  |_,_,.cp h1 h2 h3 h4,t,e,hi=>by
    cases t<;>simp [T.ren] at e;exact .cp h1 h2 (VL.down hβ h3 e hi) h4
  |_,_,.arr h ht,t,e,hi=>by
    cases t<;>simp [T.ren] at e;obtain ⟨rfl,rfl,rfl,rfl,rfl,rfl⟩:=e;exact .arr (by rw [hβ _ (zae.1 hi)];exact h) ht
  |_,_,.arrNil h,t,e,hi=>by
    cases t<;>simp [T.ren] at e;obtain ⟨rfl,rfl,rfl,rfl,rfl,rfl⟩:=e;exact .arrNil (by rw [hβ _ (zae.1 hi)];exact h)
  |_,_,.arrOld h h0 h1 h2,t,e,hi=>by
    cases t<;>simp [T.ren] at e;obtain ⟨rfl,rfl,rfl,rfl,rfl,rfl⟩:=e;exact .arrOld (by rw [hβ _ (zae.1 hi)];exact h) h0 h1 h2
  |_,_,.mp h,t,e,hi=>by
    cases t<;>simp [T.ren] at e;subst e;exact .mp (by rw [hβ _ (zae.1 hi)];exact h)
  |_,_,.mpOld h h2,t,e,hi=>by
    cases t<;>simp [T.ren] at e;subst e;exact .mpOld (by rw [hβ _ (zae.1 hi)];exact h) h2
  |_,_,.fn h1 h2,t,e,hi=>by
    cases t<;>simp [T.ren] at e;obtain ⟨rfl,e1,e2⟩:=e;simp only [T.ids,fp] at hi;exact .fn (VL.down hβ h1 e1 hi.1) (VL.down hβ h2 e2 hi.2)
  |_,_,.junk v,t,e,hi=>by cases t<;>simp [T.ren] at e;exact .junk _
  |_,_,.emp h1 h2 h3 h4,t,e,hi=>by
    cases t<;>simp [T.ren] at e;subst e;exact .emp h1 h2 h3 h4
theorem VL.down (hβ:∀ b,b<n->β' b=β (ρ b)):∀ {l':List T} {vs:List Value},VL A β g l' vs->∀ {l:List T},T.renL ρ l=l'->T.idsL n l=true->VL A β' g l vs
  |_,_,.nil,l,e,hi=>by
    cases l with
    |nil=>exact .nil
    |cons x l=>simp [T.renL] at e
  |_,_,.cons h k,l,e,hi=>by
    cases l with
    |nil=>simp [T.renL] at e
    |cons x l =>
      simp only [T.renL,List.cons.injEq] at e;simp only [T.idsL,fp] at hi;exact .cons (VT.down hβ h e.1 hi.1) (VL.down hβ k e.2 hi.2)
end
structure Fits (ρ:Nat->Nat) (S0 S1 S S':TS):Prop where
  le:S0.n<=S1.n
  out:∀ b,S0.n<=b->S0.box b=.gone
  old:∀ i,i<S0.n->ρ i<S.n
  new:∀ i,S0.n<=i->i<S1.n->S.n<=ρ i
  top:∀ i,i<S1.n->ρ i<S'.n
  grow:S.n<=S'.n
  inj:∀ i j,i<S1.n->j<S1.n->ρ i=ρ j->i=j
  pre:∀ i,i<S0.n->S.box (ρ i)=ze2 ρ (S0.box i)/\zh3 S0.n (S0.box i)=true
  post:∀ i,i<S1.n->S'.box (ρ i)=ze2 ρ (S1.box i)/\zh3 S1.n (S1.box i)=true
  rest:∀ b,(∀ i,i<S1.n->ρ i≠b)->S'.box b=S.box b
open Classical in
def bmix (ρ:Nat->Nat) (m:Nat) (β1 β:Bx):Bx:=fun b=>if h:∃ i,i<m/\ρ i=b then β1 (Classical.choose h) else β b
theorem ynl {m i:Nat} (hinj:∀ i j,i<m->j<m->ρ i=ρ j->i=j) (hi:i<m):bmix ρ m β1 β (ρ i)=β1 i:=by
  unfold bmix;have h:∃ j,j<m/\ρ j=ρ i:=⟨i,hi,rfl⟩;rw [dif_pos h];have:=Classical.choose_spec h;rw [hinj _ _ this.1 hi this.2]
theorem zjl {m b:Nat} (h:∀ i,i<m->ρ i≠b):bmix ρ m β1 β b=β b:=by
  unfold bmix;rw [dif_neg (fun ⟨i,h1,h2⟩=>h i h1 h2)]
theorem z67 (l:List (T×T)):(l.map fun p=>(p.1.ren ρ,p.2.ren ρ)).map (·.1)=T.renL ρ (l.map (·.1)):=by
  rw [zl5,rp,rp];rfl
theorem z66 (l:List (T×T)):(l.map fun p=>(p.1.ren ρ,p.2.ren ρ)).map (·.2)=T.renL ρ (l.map (·.2)):=by
  rw [zl5,rp,rp];rfl
theorem Call.frame {f:ml} {args:List T} {v:T} (k:Call P Γ GL f args S0 v S1) (ha:T.idsL S0.n args=true) (hv:v.ids S1.n=true) (F:Fits ρ S0 S1 S S'):Call P Γ GL f (T.renL ρ args) S (v.ren ρ) S':=by
  intro A β s vargs hT hva;have hb0:∀ b,b<S0.n->bcut (fun i=>β (ρ i)) S0.n b=β (ρ b):=fun b hb=>zAc hb
  have hb1:∀ b l,bcut (fun i=>β (ρ i)) S0.n b=some l->b<S0.n/\β (ρ b)=some l:=fun b l h=>by
    unfold bcut at h;split at h
    . rename_i hb;exact ⟨hb,h⟩
    . simp at h
  have hown:∀ f,Own (bcut (fun i=>β (ρ i)) S0.n) f->∃ i,i<S0.n/\((∃ u N,β (ρ i)=some (.live f u N))\/β (ρ i)=some (.map f)):=fun f ⟨b,hb⟩=>by
    rcases hb with ⟨u,N,hb⟩|hb
    . exact ⟨b,(hb1 _ _ hb).1,.inl ⟨u,N,(hb1 _ _ hb).2⟩⟩
    . exact ⟨b,(hb1 _ _ hb).1,.inr (hb1 _ _ hb).2⟩
  have hown2:∀ f,Own (bcut (fun i=>β (ρ i)) S0.n) f->Own β f:=fun f hf=>by
    obtain ⟨i,_,h⟩:=hown f hf;exact ⟨ρ i,h⟩
  have hT0:TRel GL A (bcut (fun i=>β (ρ i)) S0.n) S0 s:=by
    refine ⟨hT.inr,hT.inv,hT.alt,fun f hf=>hT.dis f (hown2 f hf),fun b b' l l' f h1 h2 h3 h4=>?_,fun b hb=>zAd (by omega),fun b z N l hb=>?_,fun b l hb=>?_,hT.glob⟩
    . obtain ⟨q1,q2⟩:=hb1 _ _ h1;obtain ⟨q3,q4⟩:=hb1 _ _ h2;exact F.inj b b' (by have:=F.le;omega) (by have:=F.le;omega) (hT.inj _ _ _ _ f q2 q4 h3 h4)
    . have hlt:b<S0.n:=by
        by_cases h:b<S0.n
        . exact h
        . rw [F.out b (by omega)] at hb;simp at hb
      obtain ⟨p1,p2⟩:=F.pre b hlt;rw [hb] at p1 p2;obtain ⟨c1,c2⟩:=hT.cells _ _ _ _ p1;refine ⟨by rw [zkh] at c1;exact c1,?_⟩;rcases c2 with ⟨d1,d2,d3⟩|⟨f,u,cs,rest,d1,d2,d3,d4,d5⟩
      . exact .inl ⟨by rw [hb0 b hlt];exact d1,d2,d3⟩
      . exact .inr ⟨f,u,cs,rest,by rw [hb0 b hlt];exact d1,d2,d3,VL.down hb0 d4 rfl p2,d5⟩
    . have hlt:b<S0.n:=by
        by_cases h:b<S0.n
        . exact h
        . rw [F.out b (by omega)] at hb;simp at hb
      obtain ⟨p1,p2⟩:=F.pre b hlt;rw [hb] at p1 p2;obtain ⟨r,es,c1,c2,c3,c4⟩:=hT.maps _ _ p1;simp only [zh3,fp] at p2;rw [z67] at c3;rw [z66] at c4;exact ⟨r,es,by rw [hb0 b hlt];exact c1,c2,VL.down hb0 c3 rfl p2.1,VL.down hb0 c4 rfl p2.2⟩
  obtain ⟨w,s1,A1,β1,e1,e2,e3,e4⟩:=k A _ s vargs hT0 (VL.down hb0 hva rfl ha);have hin:∀ i,i<S1.n->bmix ρ S1.n β1 β (ρ i)=β1 i:=fun i hi=>ynl F.inj hi
  have hcase:∀ b,(∃ i,i<S1.n/\ρ i=b)\/(∀ i,i<S1.n->ρ i≠b):=fun b=>by
    by_cases h:∃ i,i<S1.n/\ρ i=b
    . exact .inl h
    . exact .inr fun i hi hh=>h ⟨i,hi,hh⟩
  have hone:∀ i l,β1 i=some l->i<S1.n:=fun i l h=>by
    by_cases hh:i<S1.n
    . exact hh
    . rw [e2.next i (by omega)] at h;simp at h
  have apart:∀ b f,(∀ i,i<S1.n->ρ i≠b)->((∃ u N,β b=some (.live f u N))\/β b=some (.map f))->¬ Own (bcut (fun i=>β (ρ i)) S0.n) f:=fun b f hb hf ho=>by
    obtain ⟨j,hj,h⟩:=hown f ho
    have:ρ j=b:=by
      rcases h with ⟨u,N,h⟩|h<;>rcases hf with ⟨u',N',hf⟩|hf<;>exact hT.inj _ _ _ _ f h hf rfl rfl
    exact hb j (by have:=F.le;omega) this
  have hfamO:∀ b l f,β b=some l->l.fam=some f->((∃ u N,β b=some (.live f u N))\/β b=some (.map f)):=fun b l f h hl=>by
    cases l with
    |live f' u N=>simp [oy] at hl;subst hl;exact .inl ⟨u,N,h⟩
    |map r=>simp [oy] at hl;subst hl;exact .inr h
    |nil=>simp [oy] at hl
    |dead=>simp [oy] at hl
  have hfam1:∀ i l f,β1 i=some l->l.fam=some f->Own β1 f:=fun i l f h hl=>by
    cases l with
    |live f' u N=>simp [oy] at hl;subst hl;exact zc4 h
    |map r=>simp [oy] at hl;subst hl;exact znf h
    |nil=>simp [oy] at hl
    |dead=>simp [oy] at hl
  have hle:Bx.le β (bmix ρ S1.n β1 β):=fun b l hb=>by
    rcases hcase b with ⟨i,hi,rfl⟩|h
    . rw [hin i hi];by_cases hip:i<S0.n
      . exact e4.bx i l (by rw [hb0 i hip];exact hb)
      . rw [hT.next _ (F.new i (by omega) hi)] at hb;simp at hb
    . exact ⟨l,by rw [zjl h];exact hb,Loc.le_refl l⟩
  have hkeep:∀ f,A f->zaa s1.obj f=zaa s.obj f:=fun f hf=>e4.keep f (hT.alt f hf) fun ho=>(hT.dis f (hown2 f ho)).2 hf
  have hmix:∀ f,Own (bmix ρ S1.n β1 β) f->Own β1 f\/∃ b,(∀ i,i<S1.n->ρ i≠b)/\((∃ u N,β b=some (.live f u N))\/β b=some (.map f)):=fun f ⟨b,hb⟩=>by
    rcases hcase b with ⟨i,hi,rfl⟩|h
    . rw [hin i hi] at hb;exact .inl ⟨i,hb⟩
    . rw [zjl h] at hb;exact .inr ⟨b,h,hb⟩
  refine ⟨w,s1,A1,bmix ρ S1.n β1 β,e1,⟨e2.inr,e2.inv,e2.alt,fun f hf=>?_,fun b b' l l' f h1 h2 h3 h4=>?_,fun b hb=>?_,fun b z N l hb=>?_,fun b l hb=>?_,e2.glob⟩,VT.up hin hv e3,⟨e4.can,e4.sub,fun f hf=>(e4.new f hf).imp id (Or.imp id (hown2 f)),fun f hf=>?_,fun f hf ho=>e4.keep f hf fun h=>ho (hown2 f h),hle,fun x hx=>(e4.rd x hx).imp id (fun ⟨a,b⟩=>⟨a,b.imp id (hown2 x)⟩),fun x hx=>(e4.wr x hx).imp id (fun ⟨a,b⟩=>⟨a,hown2 x b⟩)⟩⟩
  . rcases hmix f hf with h|⟨b,hb,h⟩
    . exact e2.dis f h
    . have hd:=hT.dis f ⟨b,h⟩;refine ⟨h9 hd.1 e4.can.n,fun hA=>?_⟩;rcases e4.new f hA with q|q|q
      . exact hd.2 q
      . have:=hd.1;omega
      . exact apart b f hb h q
  . have yhp:∀ i b l l',i<S1.n->(∀ i,i<S1.n->ρ i≠b)->β1 i=some l->β b=some l'->l.fam=some f->l'.fam=some f->False:=fun i b l l' hi hb q1 q2 q3 q4=>by
      have ho:=hfamO b l' f q2 q4;rcases e4.own f (hfam1 i l f q1 q3) with q|q
      . exact apart b f hb ho q
      . have:=(hT.dis f ⟨b,ho⟩).1;omega
    rcases hcase b with ⟨i,hi,rfl⟩|hb<;>rcases hcase b' with ⟨j,hj,rfl⟩|hb'
    . rw [hin i hi] at h1;rw [hin j hj] at h2;rw [e2.inj i j l l' f h1 h2 h3 h4]
    . rw [hin i hi] at h1;rw [zjl hb'] at h2;exact (yhp i b' l l' hi hb' h1 h2 h3 h4).elim
    . rw [zjl hb] at h1;rw [hin j hj] at h2;exact (yhp j b l' l hj hb h2 h1 h4 h3).elim
    . rw [zjl hb] at h1;rw [zjl hb'] at h2;exact hT.inj b b' l l' f h1 h2 h3 h4
  . rw [zjl (fun i hi hh=>by have:=F.top i hi;omega)];exact hT.next b (by have:=F.grow;omega)
  . rcases hcase b with ⟨i,hi,rfl⟩|hbo
    . obtain ⟨p1,p2⟩:=F.post i hi;rw [hb] at p1
      cases hq:S1.box i with
      |gone=>rw [hq] at p1;simp [ze2] at p1
      |map m=>rw [hq] at p1;simp [ze2] at p1
      |cells z' N' l' =>
        rw [hq] at p1 p2;simp only [ze2,Box.cells.injEq] at p1;obtain ⟨rfl,rfl,rfl⟩:=p1;obtain ⟨c1,c2⟩:=e2.cells _ _ _ _ hq;refine ⟨by rw [zkh];exact c1,?_⟩;rcases c2 with ⟨d1,d2,d3⟩|⟨f,u,cs,rest,d1,d2,d3,d4,d5⟩
        . exact .inl ⟨by rw [hin i hi];exact d1,d2,d3⟩
        . exact .inr ⟨f,u,cs,rest,by rw [hin i hi];exact d1,d2,d3,VL.up hin p2 d4,d5⟩
    . rw [F.rest b hbo] at hb;refine (hT.cells b z N l hb).mono e4.sub hkeep hle (zjl hbo) fun f u N' hl=>?_;exact e4.keep f (hT.dis f (zc4 hl)).1 (apart b f hbo (.inl ⟨u,N',hl⟩))
  . rcases hcase b with ⟨i,hi,rfl⟩|hbo
    . obtain ⟨p1,p2⟩:=F.post i hi;rw [hb] at p1
      cases hq:S1.box i with
      |gone=>rw [hq] at p1;simp [ze2] at p1
      |cells z N m=>rw [hq] at p1;simp [ze2] at p1
      |map m =>
        rw [hq] at p1 p2;simp only [ze2,Box.map.injEq] at p1;subst p1;obtain ⟨r,es,c1,c2,c3,c4⟩:=e2.maps _ _ hq;simp only [zh3,fp] at p2;exact ⟨r,es,by rw [hin i hi];exact c1,c2,by rw [z67];exact VL.up hin p2.1 c3,by rw [z66];exact VL.up hin p2.2 c4⟩
    . rw [F.rest b hbo] at hb;refine (hT.maps b l hb).mono e4.sub hkeep hle (zjl hbo) fun r hl=>?_;exact e4.keep r (hT.dis r (znf hl)).1 (apart b r hbo (.inr hl))
  . rcases hmix f hf with h|⟨b,hb,h⟩
    . exact (e4.own f h).imp (hown2 f) id
    . exact .inl ⟨b,h⟩
end
theorem zab {α β:Type} {x:Option α} {f:α->Option β} {v:β} (h:x.bind f=some v):∃ a,x=some a/\f a=some v:=by
  cases x with
  |none=>cases h
  |some a=>exact ⟨a,rfl,h⟩
def gx {α:Type} [Inhabited α] (l:List α) (i:Int):α:=l.getD i.toNat default
theorem zag {α:Type} [Inhabited α] {l:List α} {i:Int} (h:0<=i/\i<(l.length:Int)):l[i.toNat]?=some (gx l i):=yh4 (by omega)
def bx (b:ByteArray) (i:Int):UInt8:=b.data.toList.getD i.toNat 0
theorem zvt {b:ByteArray} {i:Int} (h:0<=i/\i<(b.size:Int)):b.data.toList[i.toNat]?=some (bx b i):=by
  have : i.toNat < b.data.toList.length := by have e : b.data.toList.length = b.size := by simp
                                              omega
  unfold bx;rw [fx,fq this];rfl
def vecC {α:Type} (f:α->T) (l:List α):List T:=(l.map f).flatMap jk
theorem zaw {α:Type} {f:α->T} {l l2:List α}:vecC f (l++l2)=vecC f l++vecC f l2:=by
  unfold vecC;rw [nm,List.flatMap_append]
theorem zds {α:Type} {f:α->T} {x:α}:vecC f [x]=(f x).cells:=by
  unfold vecC;simp
theorem zbt {α:Type} {f:α->T} {e:Nat} (h:∀ x,(f x).cells.length=e):∀ (l:List α),(vecC f l).length=l.length*e
  |[]=>by simp [vecC]
  |x :: l=>by
    have ih:=zbt h l;unfold vecC at ih ⊢;rw [jb,jh,gb,h,ih,gq,jt];omega
theorem zc8 {α:Type} {f:α->T} {e n:Nat} {l:List α} (h:∀ x,(f x).cells.length=e) (hl:l.length=n):(vecC f l).take (n*e)=(l.map f).flatMap jk:=by
  have:=zbt h l;rw [iu (by rw [this,hl];exact fy _)];rfl
theorem zdw {k:i5} {l:List Int}:(l.map (fm k)).flatMap jk=l.map (fm k):=zlq fun _=>rfl
theorem zb0 {l:List Bool}:(l.map sx).flatMap jk=l.map sx:=zlq fun _=>rfl
theorem zdv {l:List ByteArray}:(l.map pq).flatMap jk=l.map pq:=zlq fun _=>rfl
theorem zdy {k:i5} {l:List Int}:(l.map (fm k)).all nj=true:=by simp [nj]
theorem zb2 {l:List Bool}:(l.map sx).all nj=true:=by simp [nj]
theorem zdx {l:List ByteArray}:(l.map pq).all nj=true:=by simp [nj]
section
variable {GL:List (Nat×List Value)} {A A' A2:Nat->Prop} {β β' β2:Bx} {S S' S2:TS} {s s' s2:CS} {P:gz} {Γ:Env} {N:Nat} {h h' h2:Nat->T} {Q R:Exit->(Nat->T)->TS->Prop}
theorem Left.trimN {fr fr':Fr} {keep:List Nat} {bs bs2 extra:List Box} {n:Nat} (hn:bs.length<=n) (hT:TRel GL A β (stL bs) s) (k:Left GL A β s N fr' s' h' (stL (bs2++extra))) (hl:bs2.length=n) (hb:zd8 n bs2=true) (hk:zf9 keep n h'):Left GL A β s N fr' s' (zjb keep h') (stL bs2):=by
  obtain ⟨A',β',k1,k2,k3⟩:=k;have hat:∀ b,b<n->bcut β' n b=β' b:=fun b hb=>zAc hb
  have hsub:∀ b l,bcut β' n b=some l->β' b=some l:=fun b l h=>by
    unfold bcut at h;split at h
    . exact h
    . simp at h
  have hkp:zrz (stL (bs2++extra)) (stL bs2):=by
    refine ⟨by simp [stL],fun b=>?_⟩;by_cases hbl:b<bs2.length
    . refine .inr ⟨hbl,?_,?_⟩
      . show bs2.getD b .gone=(bs2++extra).getD b .gone;rw [fx,fx,gr hbl]
      . show zh3 bs2.length ((bs2++extra).getD b .gone)=true;rw [fx,gr hbl,<- fx,hl];exact zn1 hb
    . left;show bs2.getD b .gone=.gone;rw [fx,ke (by omega)];rfl
  have hcut:=k2.cut hkp;have hnn:(stL bs2).n=n:=hl;rw [hnn] at hcut;refine ⟨A',bcut β' n,⟨k1.nt,k1.le,fun t=>?_⟩,hcut,k3.can,k3.sub,k3.new,fun f hf=>?_,k3.keep,fun b l hb'=>?_,k3.rd,k3.wr⟩
  . by_cases ht:t∈keep
    . rw [zkj ht];exact (k1.slot t).ids hat (zph hk t ht)
    . rw [show zjb keep h' t=.junk from zAd ht];exact .junk _
  . obtain ⟨b,hb'⟩:=hf;exact k3.own f ⟨b,hb'.imp (fun ⟨u,N,h⟩=>⟨u,N,hsub _ _ h⟩) fun h=>hsub _ _ h⟩
  . obtain ⟨l',c1,c2⟩:=k3.bx b l hb'
    have:b<bs.length:=by
      by_cases hh:b<bs.length
      . exact hh
      . rw [hT.next b (by show bs.length<=b;omega)] at hb';simp at hb'
    exact ⟨l',by rw [hat b (by omega)];exact c1,c2⟩
theorem TW.cutN {a:Code} (keep:List Nat) (n:Nat) {bs:List Box} (hn:bs.length<=n) (R:(Nat->T)->List Box->Prop) (hR:TW P Γ GL N a h (stL bs) (onT (fun h' S'=>Ends keep n R h' S') Q)) (hk:∀ h bs2,R h bs2->Q .normal h (stL bs2)):TW P Γ GL N a h (stL bs) Q:=by
  intro A β fr s hF hT;obtain ⟨e,fr1,s1,h1,h',S',hleft,hq⟩:=hR A β fr s hF hT
  cases e with
  |normal =>
    obtain ⟨bs',rfl,hl,hbi,hki,hq⟩:=hq;exact ⟨_,fr1,s1,h1,_,_,Left.trimN (fr:=fr) (keep:=keep) (bs2:=bs'.take n) (extra:=bs'.drop n) hn hT (by rw [jf];exact hleft) (by rw [iv];omega) hbi hki,hk _ _ hq⟩
  |_=>exact ⟨_,fr1,s1,h1,h',S',hleft,hq⟩
theorem TW.unz {c:Code} (b:Nat) {zz:Bool} {M:Nat} {l:List T} (hS:S.box b=.cells zz M l) (k:TW P Γ GL N c h (S.set b (.cells false M l)) Q):TW P Γ GL N c h S Q:=by
  intro A β fr s hF hT
  have hb:∀ b' z N l',(S.set b (.cells false M l)).box b'=.cells z N l'->∃ z0,S.box b'=.cells z0 N l'/\(z=true->z0=true):=fun b' z N l' h=>by
    by_cases hi:b'=b
    . subst hi;rw [nf] at h;cases h;exact ⟨zz,hS,fun h=>by cases h⟩
    . rw [nl _ _ hi] at h;exact ⟨z,h,id⟩
  refine k A β fr s hF ⟨hT.inr,hT.inv,hT.alt,hT.dis,hT.inj,hT.next,fun b' z N l' h=>?_,fun b' l' h=>?_,hT.glob⟩
  . obtain ⟨z0,h0,hz⟩:=hb b' z N l' h;obtain ⟨h1,h2⟩:=hT.cells b' z0 N l' h0;refine ⟨h1,?_⟩;rcases h2 with ⟨q1,q2,q3⟩|⟨f,u,cs,rest,q1,q2,q3⟩
    . exact .inl ⟨q1,q2,by cases z with|false=>rfl|true=>rw [hz rfl] at q3;exact q3⟩
    . exact .inr ⟨f,u,cs,rest,q1,fun h=>q2 (hz h),q3⟩
  . by_cases hi:b'=b
    . subst hi;rw [nf] at h;cases h
    . rw [nl _ _ hi] at h;exact hT.maps b' l' h
theorem TW.slot {c:Code} (t:Nat) {v v':T} (ht:h t=v) (hv:∀ A β (g:Nat->Fam) w,VT A β g v w->VT A β g v' w) (k:TW P Γ GL N c (tupd h t v') S Q):TW P Γ GL N c h S Q:=by
  intro A β fr s hF hT
  have hF':FrOk A β (zaa s.obj) N (tupd h t v') fr:=⟨hF.nt,hF.le,fun u=>by
    by_cases hu:u=t
    . subst hu;rw [zhl];have:=hF.slot u;rw [ht] at this;exact hv _ _ _ _ this
    . rw [zlu _ _ _ _ hu];exact hF.slot u⟩
  exact k A β fr s hF' hT
theorem TW.lst0 {c:Code} (t e:Nat) (he:0<e) (ht:h t=.lst e []) (k1:TW P Γ GL N c (tupd h t .nils) S Q) (k2:TW P Γ GL N c (tupd h t (.emp e)) S Q):TW P Γ GL N c h S Q:=by
  intro A β fr s hF hT;have hs:=hF.slot t;rw [ht] at hs;rcases VT.lst_emp he hs with q|q
  . refine k1 A β fr s ⟨hF.nt,hF.le,fun u=>?_⟩ hT;by_cases hu:u=t
    . subst hu;rw [zhl];exact q
    . rw [zlu _ _ _ _ hu];exact hF.slot u
  . refine k2 A β fr s ⟨hF.nt,hF.le,fun u=>?_⟩ hT;by_cases hu:u=t
    . subst hu;rw [zhl];exact q
    . rw [zlu _ _ _ _ hu];exact hF.slot u
theorem TW.nilL {c:Code} (t e:Nat) (ht:h t=.nils) (k:TW P Γ GL N c (tupd h t (.lst e [])) S Q):TW P Γ GL N c h S Q:=by
  intro A β fr s hF hT;have hv:=hF.slot t;rw [ht] at hv
  have hF':FrOk A β (zaa s.obj) N (tupd h t (.lst e [])) fr:=⟨hF.nt,hF.le,fun u=>by
    by_cases hu:u=t
    . subst hu;rw [zhl];generalize fr.get u=w at hv;cases hv;exact .lnil
    . rw [zlu _ _ _ _ hu];exact hF.slot u⟩
  exact k A β fr s hF' hT
mutual
theorem z76 {n m:Nat} (hnm:n<=m):∀ {t:T},t.ids n=true->t.ids m=true
  |.agg l,h=>zga hnm (l:=l) h
  |.tup l,h=>zga hnm (l:=l) h
  |.lst e l,h=>zga hnm (l:=l) h
  |.cp l,h=>zga hnm (l:=l) h
  |.ptr b o N,h=>by simp only [T.ids] at h ⊢;exact zae.2 (by have:=zae.1 h;omega)
  |.arr b e o l c N,h=>by simp only [T.ids] at h ⊢;exact zae.2 (by have:=zae.1 h;omega)
  |.mp b,h=>by simp only [T.ids] at h ⊢;exact zae.2 (by have:=zae.1 h;omega)
  |.fn f a c,h=>by
    simp only [T.ids,fp] at h ⊢;exact ⟨zga hnm h.1,zga hnm h.2⟩
  |.int _ _,_=>rfl
  |.bool _,_=>rfl
  |.str _,_=>rfl
  |.nils,_=>rfl
  |.nilp,_=>rfl
  |.nilm,_=>rfl
  |.nilf,_=>rfl
  |.junk,_=>rfl
  |.emp _,_=>rfl
theorem zga {n m:Nat} (hnm:n<=m):∀ {l:List T},T.idsL n l=true->T.idsL m l=true
  |[],_=>rfl
  |t :: l,h=>by
    simp only [T.idsL,fp] at h ⊢;exact ⟨z76 hnm h.1,zga hnm h.2⟩
end
mutual
theorem zh9 {ρ:Nat->Nat}:∀ {t:T},t.ids 0=true->t.ren ρ=t
  |.agg l,h=>by rw [T.ren,zc7 (l:=l) h]
  |.tup l,h=>by rw [T.ren,zc7 (l:=l) h]
  |.lst e l,h=>by rw [T.ren,zc7 (l:=l) h]
  |.cp l,h=>by rw [T.ren,zc7 (l:=l) h]
  |.ptr b o N,h=>by simp [T.ids,ip] at h
  |.arr b e o l c N,h=>by simp [T.ids,ip] at h
  |.mp b,h=>by simp [T.ids,ip] at h
  |.fn f a c,h=>by
    simp only [T.ids,fp] at h;rw [T.ren,zc7 (l:=a) h.1,zc7 (l:=c) h.2]
  |.int _ _,_=>rfl
  |.bool _,_=>rfl
  |.str _,_=>rfl
  |.nils,_=>rfl
  |.nilp,_=>rfl
  |.nilm,_=>rfl
  |.nilf,_=>rfl
  |.junk,_=>rfl
  |.emp _,_=>rfl
theorem zc7 {ρ:Nat->Nat}:∀ {l:List T},T.idsL 0 l=true->T.renL ρ l=l
  |[],_=>rfl
  |t :: l,h=>by
    simp only [T.idsL,fp] at h;rw [T.renL,zh9 h.1,zc7 h.2]
end
theorem zrz.one {z:Bool} {M:Nat} {cs:List T} (h:T.idsL 1 cs=true):zrz (stL [.cells z M cs]) (stL [.cells z M cs]):=by
  refine ⟨fy _,fun b=>?_⟩
  cases b with
  |zero=>exact .inr ⟨by show 0<1;omega,rfl,h⟩
  |succ b=>exact .inl rfl
theorem Call.fresh {f:ml} {args:List T} {e n c M:Nat} {z:Bool} {M2:Nat} {cs:List T} (k:Call P Γ GL f args ts0 (.arr 0 e 0 n c M) (stL [.cells z M2 cs])) (ha:T.idsL 0 args=true) (hb:T.idsL 0 cs=true) (bs:List Box):Call P Γ GL f args (stL bs) (.arr bs.length e 0 n c M) (stL (bs++[.cells z M2 cs])):=by
  have:=Call.frame (ρ:=fun i=>bs.length+i) (S:=stL bs) (S':=stL (bs++[.cells z M2 cs])) k ha (by rfl) ⟨iz _,fun b _=>rfl,fun i hi=>absurd hi (by show ¬ i<0;omega),fun i _ hi=>by show bs.length<=bs.length+i;omega,fun i hi=>by have:i<1:=hi;show bs.length+i<(bs++[_]).length;rw [gb];simp;omega,by show bs.length<=(bs++[_]).length;simp,fun i j _ _ h=>by have:bs.length+i=bs.length+j:=h;omega,fun i hi=>absurd hi (by show ¬ i<0;omega),fun i hi=>?_,fun b hb=>?_⟩
  . rw [zc7 ha] at this;exact this
  . have:i<1:=hi;have:i=0:=by omega
    subst this;constructor
    . show (bs++[Box.cells z M2 cs]).getD (bs.length+0) .gone=.cells z M2 (T.renL _ cs);rw [zc7 hb,kb,fx,iy (fy _)];simp
    . show T.idsL 1 cs=true
      exact z79 fun t ht=>by
        have:=yez hb t ht;exact z76 (iz _) this
  . show (bs++[Box.cells z M2 cs]).getD b .gone=bs.getD b .gone;by_cases hlt:b<bs.length
    . rw [fx,fx,gr hlt]
    . by_cases h2:b=bs.length
      . exact absurd (h2 ▸ rfl:bs.length+0=b) (hb 0 (by show 0<1;omega))
      . rw [fx,fx,ke (by rw [gb];simp;omega),ke (by omega)]
end
def mset {K V:Type} [DecidableEq K] (k:K) (v:V):List (K×V)->List (K×V)
  |[]=>[(k,v)]
  |p :: l=>if k=p.1 then (k,v) :: l else p :: mset k v l
def mget {K V:Type} [DecidableEq K] (k:K):List (K×V)->Option V
  |[]=>none
  |p :: l=>if k=p.1 then some p.2 else mget k l
theorem keyI {kk:i5} {a b:Int}:zw0 (.int kk a) (.int kk b)=some (decide (a=b)):=by
  show (bif gd (ikN kk) (ikN kk) then some (a == b) else none)=_;rw [jg,cond_true];by_cases h:a=b<;>simp [h]
theorem keyS {a b:ByteArray}:zw0 (.str a) (.str b)=some (decide (a=b)):=by
  show some (a.data.toList == b.data.toList)=_;by_cases h:a=b
  . subst h;simp
  . have:(a.data.toList == b.data.toList)=false:=by simpa using fun hh=>h (ByteArray.ext hh)
    rw [this,zAb h]
theorem zza {K V:Type} [DecidableEq K] {kf:K->T} {f:V->T} (hk:∀ a b,zw0 (kf a) (kf b)=some (decide (a=b))) (k:K) (v:V):∀ l:List (K×V),tSet (kf k) (f v) (l.map fun p=>(kf p.1,f p.2))=some ((mset k v l).map fun p=>(kf p.1,f p.2))
  |[]=>rfl
  |p :: l=>by
    rw [jb,tSet,hk];unfold mset;by_cases h:k=p.1
    . rw [zAa h,zAc h,jb]
    . rw [zAb h,zAd h,jb];simp only [zza hk k v l]
theorem zzb {K V:Type} [DecidableEq K] {kf:K->T} {f:V->T} (hk:∀ a b,zw0 (kf a) (kf b)=some (decide (a=b))) (k:K):∀ l:List (K×V),tGet (kf k) (l.map fun p=>(kf p.1,f p.2))=some ((mget k l).map f)
  |[]=>rfl
  |p :: l=>by
    rw [jb,tGet,hk];unfold mget;by_cases h:k=p.1
    . rw [zAa h,zAc h];rfl
    . rw [zAb h,zAd h];exact zzb hk k l
theorem zcq {kk:i5} {V:Type} {f:V->T} {k:Int} {v:V} {l:List (Int×V)}:tSet (.int kk k) (f v) (l.map fun p=>(.int kk p.1,f p.2))=some ((mset k v l).map fun p=>(.int kk p.1,f p.2)):=zza (kf:=fm kk) (fun _ _=>keyI) k v l
theorem zcs {kk:i5} {V:Type} {f:V->T} {k:Int} {l:List (Int×V)}:tGet (.int kk k) (l.map fun p=>(.int kk p.1,f p.2))=some ((mget k l).map f):=zzb (kf:=fm kk) (fun _ _=>keyI) k l
theorem zcp {V:Type} {f:V->T} {k:ByteArray} {v:V} {l:List (ByteArray×V)}:tSet (.str k) (f v) (l.map fun p=>(.str p.1,f p.2))=some ((mset k v l).map fun p=>(.str p.1,f p.2)):=zza (kf:=pq) (fun _ _=>keyS) k v l
theorem zcr {V:Type} {f:V->T} {k:ByteArray} {l:List (ByteArray×V)}:tGet (.str k) (l.map fun p=>(.str p.1,f p.2))=some ((mget k l).map f):=zzb (kf:=pq) (fun _ _=>keyS) k l
theorem zei {V:Type} {f:V->T} {d:V} {o:Option V}:z8l false (f d) (o.map f)=f (o.getD d):=by cases o<;>rfl
theorem zeh {V:Type} {f:V->T} {d:V} {o:Option V}:z8l true (f d) (o.map f)=.tup [f (o.getD d),.bool o.isSome]:=by cases o<;>rfl
theorem znp:type_of% (fi (fi (fi (@zax) (fi (@ki) (@oh))) (fi (@z9l) (fi (@gl) (@and_self)))) (fi (fi (@and_true) (fi (@true_and) (@nq.{0}))) (fi (fi (@ng.{0}) (@gq.{0})) (fi (@jl.{0}) (@jc))))):=fi (fi (fi (@zax) (fi (@ki) (@oh))) (fi (@z9l) (fi (@gl) (@and_self)))) (fi (fi (@and_true) (fi (@true_and) (@nq.{0}))) (fi (fi (@ng.{0}) (@gq.{0})) (fi (@jl.{0}) (@jc))))
theorem zbm:type_of% (fi (fi (fi (@T.ids.eq_1) (fi (@T.ids.eq_2) (@T.ids.eq_3))) (fi (@T.ids.eq_4) (fi (@T.ids.eq_5) (@T.ids.eq_6)))) (fi (fi (@T.ids.eq_7) (fi (@T.ids.eq_8) (@T.ids.eq_9))) (fi (@T.idsL.eq_1) (fi (@T.idsL.eq_2) (@zbd))))):=fi (fi (fi (@T.ids.eq_1) (fi (@T.ids.eq_2) (@T.ids.eq_3))) (fi (@T.ids.eq_4) (fi (@T.ids.eq_5) (@T.ids.eq_6)))) (fi (fi (@T.ids.eq_7) (fi (@T.ids.eq_8) (@T.ids.eq_9))) (fi (@T.idsL.eq_1) (fi (@T.idsL.eq_2) (@zbd))))
theorem zcy:type_of% (fi (fi (@zd8.eq_1) (fi (@zd8.eq_2) (@zh3.eq_1))) (fi (fi (@zh3.eq_2) (@zh3.eq_3)) (fi (@zf9.eq_1) (@zf9.eq_2)))):=fi (fi (@zd8.eq_1) (fi (@zd8.eq_2) (@zh3.eq_1))) (fi (fi (@zh3.eq_2) (@zh3.eq_3)) (fi (@zf9.eq_1) (@zf9.eq_2)))
theorem scA:type_of% (fi (@ln.{0}) (@ma.{0})):=fi (@ln.{0}) (@ma.{0})
theorem scB:type_of% (fi (fi (@st_n) (fi (@gq.{0}) (@jl.{0}))) (fi (@ib.{0}) (fi (@gn.{0}) (@jc)))):=fi (fi (@st_n) (fi (@gq.{0}) (@jl.{0}))) (fi (@ib.{0}) (fi (@gn.{0}) (@jc)))
theorem gsA:type_of% (fi (fi (@zbd) (fi (@nm.{0,0}) (@jb.{0,0}))) (fi (@pk.{0,0}) (fi (@jt) (@nh)))):=fi (fi (@zbd) (fi (@nm.{0,0}) (@jb.{0,0}))) (fi (@pk.{0,0}) (fi (@jt) (@nh)))
end
end Go.Proofs.Ytkfnjbfnkpameaa
