/- Part 4 of the proof of MergeStepsAsSpecified (several texts in one; no further condition). -/
import Derived.Test.YtkfnjbfnkpameaaZC
set_option linter.unusedSimpArgs false
set_option linter.unusedVariables false
set_option linter.unusedSectionVars false
namespace Go.Proofs.Ytkfnjbfnkpameaa
noncomputable section
open _root_.And renaming intro->fe
open _root_.Array renaming toList_map->pi
open _root_.BitVec renaming ofInt->jb
open _root_.Bool renaming and_eq_true->fk,and_self->gd,not_true->iz,true_and->kg
open Go.Proofs.Ytkfnjbfnkpameaa.Bx renaming le_refl->lq
open Go.Proofs.Ytkfnjbfnkpameaa.CS renaming inner->s5
open Go.Call renaming operands->sq
open Go.Proofs.Ytkfnjbfnkpameaa.Can renaming refl->jn
open _root_.Eq renaming trans->f7
open Go.Proofs.Ytkfnjbfnkpameaa.Fr renaming get_put_other->s8
open Go renaming FuncId->mq,IntKind->iy,Operand->gb,Program->gt,TypeDesc->l8,TypeId->gi,eqGuard->ml
open _root_.Int renaming eq_ofNat_of_zero_le->jy,toNat_natCast->jp
open _root_.List renaming all_cons->jr,all_eq_true->ii,append_assoc->gq,append_nil->h9,cons_append->gw,drop_succ_cons->k9,drop_zero->gu,eq_nil_of_length_eq_zero->jd,flatMap_cons->jf,flatten_cons->im,getD_eq_getElem?_getD->fq,getElem?_append_left->gn,getElem?_append_right->iq,getElem?_cons_succ->ln,getElem?_cons_zero->ij,getElem?_eq_getElem->fm,getElem?_eq_none->kb,getElem?_eq_some_iff->gh,getElem?_map->lr,length_append->f5,length_cons->gm,length_drop->jk,length_map->ft,length_nil->ji,length_replicate->lm,length_singleton->iu,length_take->il,map_cons->i6,map_map->rz,mem_map->jt,nil_append->gl,replicate_succ->jg,set_cons_succ->ma,set_cons_zero->lj,take_append_drop->je,take_length->mg,take_of_length_le->io,take_succ_cons->m6
open Go.Proofs.Ytkfnjbfnkpameaa.Loc renaming fam->nh
open _root_.Nat renaming beq->fy,beq_refl->jc,ble->ib,blt->ig,eq_of_beq_eq_true->fl,le_refl->fp,lt_of_lt_of_le->gz,mul_one->qq,testBit->i9,testBit_and->l7,testBit_or->oq,testBit_two_pow_sub_one->my,zero_add->i8,zero_le->iw
open Go.Proofs.Ytkfnjbfnkpameaa.Ok0 renaming same->mz
open Go.Op renaming intArith->qo,intBits->qf,intCmp->om,operands->gp
open _root_.Option renaming map_some->o4
open _root_.Option.some renaming injEq->ff
open _root_.Prod.mk renaming injEq->fo
open Go.Proofs.Ytkfnjbfnkpameaa.Stp renaming refl->si
open Go.Proofs.Ytkfnjbfnkpameaa.T renaming cells->jh,one->np
open Go.Proofs.Ytkfnjbfnkpameaa.TS renaming add_ne->s7,add_same->sg,set_ne->m7,set_same->mv
open Go Go.RowKit
section
variable {GL:List (Nat×List Value)} {A A' A2:Nat->Prop} {β β' β2:Bx} {S S':TS} {s s' s2:CS} {P:gt} {Γ:Env}
def zbv (op:BinOp) (k k':iy) (a b:Int):Option T :=
  match op with
  |.shl=>if 0<=b then some (.int k (k.wrap (a*2 ^ (min b.toNat k.bits)))) else none
  |.shr=>if 0<=b then some (.int k (a.fdiv (2 ^ (min b.toNat k.bits)))) else none
  |op=>bif fy (ikN k) (ikN k') then (match op with
    |.add=>some (.int k (k.wrap (a+b)))
    |.sub=>some (.int k (k.wrap (a - b)))
    |.mul=>some (.int k (k.wrap (a*b)))
    |.quo=>if b=0 then none else some (.int k (k.wrap (a.tdiv b)))
    |.rem=>if b=0 then none else some (.int k (a.tmod b))
    |.and=>some (.int k (k.wrap (jb k.bits a &&& jb k.bits b).toNat))
    |.or=>some (.int k (k.wrap (jb k.bits a ||| jb k.bits b).toNat))
    |.xor=>some (.int k (k.wrap (jb k.bits a ^^^ jb k.bits b).toNat))
    |.andNot=>some (.int k (k.wrap (jb k.bits a &&& ~~~ jb k.bits b).toNat))
    |.eql=>some (.bool (decide (a=b)))
    |.neq=>some (.bool (decide (a≠b)))
    |.lss=>some (.bool (decide (a<b)))
    |.leq=>some (.bool (decide (a<=b)))
    |.gtr=>some (.bool (decide (b<a)))
    |.geq=>some (.bool (decide (b<=a)))
    |_=>none) else none
theorem yfe {op:BinOp} {k k':iy} {a b:Int} {r:T} (h:zbv op k k' a b=some r):∃ v,VT A β (zaa s.obj) r v/\∀ {ρ:gb->Value} {o:Oper} {t t2:gi} {x y:gb} {s:CS},o.op=.binOp op t x y t2->ρ x=.int k a->ρ y=.int k' b->zm0 P Γ ρ o s t op (.int k a) (.int k' b)=some (v,s):=by
  unfold zbv at h;split at h
  . split at h
    . rename_i h0;cases h;exact ⟨_,.int _ _,fun ho hx hy=>zb8 ho hx hy default (by simp only [binOp,Op.shift];rw [zAd (by omega)]) rfl⟩
    . simp at h
  . split at h
    . rename_i h0;cases h;exact ⟨_,.int _ _,fun ho hx hy=>zb8 ho hx hy default (by simp only [binOp,Op.shift];rw [zAd (by omega)]) rfl⟩
    . simp at h
  . cases hq:fy (ikN k) (ikN k') with
    |false=>rw [hq] at h;simp at h
    |true =>
      rw [hq,cond_true] at h;have:=z6b hq;subst this;split at h
      . cases h;exact ⟨_,.int _ _,fun ho hx hy=>zb8 ho hx hy default (by simp only [binOp,qo,ne_eq,not_true,if_false]) rfl⟩
      . cases h;exact ⟨_,.int _ _,fun ho hx hy=>zb8 ho hx hy default (by simp only [binOp,qo,ne_eq,not_true,if_false]) rfl⟩
      . cases h;exact ⟨_,.int _ _,fun ho hx hy=>zb8 ho hx hy default (by simp only [binOp,qo,ne_eq,not_true,if_false]) rfl⟩
      . split at h
        . simp at h
        . rename_i hb;cases h;exact ⟨_,.int _ _,fun ho hx hy=>zb8 ho hx hy default (by simp only [binOp,Op.intDiv,ne_eq,not_true,if_false];rw [zAd hb]) rfl⟩
      . split at h
        . simp at h
        . rename_i hb;cases h;exact ⟨_,.int _ _,fun ho hx hy=>zb8 ho hx hy default (by simp only [binOp,Op.intDiv,ne_eq,not_true,if_false];rw [zAd hb]) rfl⟩
      . cases h;exact ⟨_,.int _ _,fun ho hx hy=>zb8 ho hx hy default (by simp only [binOp,qf,ne_eq,not_true,if_false]) rfl⟩
      . cases h;exact ⟨_,.int _ _,fun ho hx hy=>zb8 ho hx hy default (by simp only [binOp,qf,ne_eq,not_true,if_false]) rfl⟩
      . cases h;exact ⟨_,.int _ _,fun ho hx hy=>zb8 ho hx hy default (by simp only [binOp,qf,ne_eq,not_true,if_false]) rfl⟩
      . cases h;exact ⟨_,.int _ _,fun ho hx hy=>zb8 ho hx hy default (by simp only [binOp,qf,ne_eq,not_true,if_false]) rfl⟩
      . cases h;exact ⟨_,.bool _,fun ho hx hy=>zb8 ho hx hy default (by simp [binOp,om];rfl) rfl⟩
      . cases h;exact ⟨_,.bool _,fun ho hx hy=>zb8 ho hx hy default (by simp [binOp,om]<;>rfl) rfl⟩
      . cases h;exact ⟨_,.bool _,fun ho hx hy=>zb8 ho hx hy default (by simp [binOp,om]) rfl⟩
      . cases h;exact ⟨_,.bool _,fun ho hx hy=>zb8 ho hx hy default (by simp [binOp,om]) rfl⟩
      . cases h;exact ⟨_,.bool _,fun ho hx hy=>zb8 ho hx hy default (by simp [binOp,om]) rfl⟩
      . cases h;exact ⟨_,.bool _,fun ho hx hy=>zb8 ho hx hy default (by simp [binOp,om]) rfl⟩
      . simp at h
def zxd (op:BinOp) (a b:ByteArray):Option T:=match op with
  |.eql=>some (.bool (decide (a=b)))
  |.neq=>some (.bool (!decide (a=b)))
  |.add=>if a.size+b.size<=9223372036854775807 then some (.str (a++b)) else none
  |_=>none
theorem ycp {op:BinOp} {a b:ByteArray} {r:T} (h:zxd op a b=some r):∃ v,VT A β (zaa s.obj) r v/\∀ {ρ:gb->Value} {o:Oper} {t t2:gi} {x y:gb} {s:CS},o.op=.binOp op t x y t2->ρ x=.string a->ρ y=.string b->zm0 P Γ ρ o s t op (.string a) (.string b)=some (v,s):=by
  unfold zxd at h;split at h
  . cases h;exact ⟨_,.bool _,fun ho hx hy=>znm ho hx hy rfl (fun d=>z0o d a) rfl rfl (by unfold ml;simp) (by show some _=_;rw [yco]) rfl⟩
  . cases h;exact ⟨_,.bool _,fun ho hx hy=>znm ho hx hy rfl (fun d=>z0o d a) rfl rfl (by unfold ml;simp) (by show some _=_;rw [yco]) rfl⟩
  . split at h
    . rename_i hs;cases h
      exact ⟨_,.str _,fun ho hx hy=>znm ho hx hy rfl (fun d=>z0o d a) rfl rfl (by unfold ml;simp) (by
        show zbb P (Op.stringOp .add a b)=_;unfold Op.stringOp;simp only
        rw [zAd (by have : IntKind.i64.max = 9223372036854775807 := by decide
                    omega)]
        rfl) rfl⟩
    . simp at h
  . simp at h
theorem zak {α γ:Type} {f:α->Sem γ}:∀ {m:Sem α},zbb P (m >>= f)=(zbb P m).bind fun v=>zbb P (f v):=by
  intro m
  induction m with
  |pure a=>rfl
  |program k ih=>exact ih P
  |_=>rfl
theorem ya6 {ρ:gb->Value} {t t2:gi} {x y:gb} {op:BinOp} {v w r:Value} {o:Oper} (ho:o.op=.binOp op t x y t2) (hx:ρ x=v) (hy:ρ y=w) (hc:binC op v w=none) (hn:∀ d,nilT d v=none) (hpv:zba 3 v=true) (hpw:zba 3 w=true)
    (hr:zbb P (do ml op t x y v w;binOp op t v w)=some r) (hp:zba 3 r=true):zm0 P Γ ρ o s t op v w=some (r,s):=by
  unfold zm0;rw [hc];simp only;rw [z9j hn];simp only [zh2];unfold znh
  have hops:(o.op.operands.toList.all fun z=>zba 3 (ρ z))=true:=by
    rw [ho];simp [gp,hx,hy,hpv,hpw]
  rw [hops]
  have he:execOp ρ o=((do ml op t x y v w;binOp op t v w) >>= fun z=>pure (Next.value z)):=by
    unfold execOp;rw [ho];simp only [hx,hy]
  rw [he]
  have hv:zbb P ((do ml op t x y v w;binOp op t v w) >>= fun z=>pure (Next.value z))=some (.value r):=by
    rw [zak,hr];rfl
  simp only [cond_true];rw [hv];show retC s (bif zba 3 r then some r else none)=some (r,s);rw [hp];rfl
def yhm:T->Option Value
  |.int k n=>some (.int k n)
  |.bool b=>some (.bool b)
  |.str b=>some (.string b)
  |_=>none
def zgy:List T->Option (List Value)
  |[]=>some []
  |t :: l=>match yhm t,zgy l with|some v,some r=>some (v :: r)|_,_=>none
theorem yhl {g:Nat->Fam} {t:T} {v w:Value} (h:yhm t=some w) (hv:VT A β g t v):v=w/\∀ n,zba n v=true:=by
  unfold yhm at h;split at h
  . cases h;cases hv;exact ⟨rfl,fun n=>by cases n<;>rfl⟩
  . cases h;cases hv;exact ⟨rfl,fun n=>by cases n<;>rfl⟩
  . cases h;cases hv;exact ⟨rfl,fun n=>by cases n<;>rfl⟩
  . simp at h
theorem zt8 {g:Nat->Fam}:∀ {l:List T} {vs ws:List Value},zgy l=some ws->VL A β g l vs->vs=ws/\vs.all (zba 2)=true
  |[],_,ws,h,.nil=>by simp only [zgy,ff] at h;subst h;exact ⟨rfl,rfl⟩
  |t :: l,_,ws,h,.cons h1 h2=>by
    unfold zgy at h;split at h
    . rename_i v r e1 e2;cases h;obtain ⟨a,b⟩:=yhl e1 h1;obtain ⟨c,d⟩:=zt8 e2 h2;rw [a,c] at *;exact ⟨rfl,by rw [jr,b 2,d];rfl⟩
    . simp at h
def zo4 (P:gt) (t:gi) (op:BinOp) (x y:gb) (a b:List T):Option T:=match zgy a,zgy b with
  |some va,some vb=>(match zbb P (do ml op t x y (.agg ⟨va⟩) (.agg ⟨vb⟩);binOp op t (.agg ⟨va⟩) (.agg ⟨vb⟩)) with
    |some (.bool r)=>some (.bool r)
    |_=>none)
  |_,_=>none
theorem yej (d:l8) (a:Array Value):nilT d (.agg a)=none:=by cases d<;>rfl
def tNil (S:TS):l8->T->Option Bool
  |.pointer _,.nilp=>some true
  |.pointer _,.ptr b _ N=>bif S.has b N then some false else none
  |.pointer _,.cp _=>some false
  |.slice _,.nils=>some true
  |.slice _,.arr b _ _ _ _ N=>bif S.has b N && ig 0 N then some false else none
  |.slice _,.lst _ (_ :: _)=>some false
  |.slice _,.emp _=>some false
  |.map _ _,.nilm=>some true
  |.func _ _ _,.nilf=>some true
  |.func _ _ _,.fn _ _ _=>some false
  |_,_=>none
theorem ych (h:TRel GL A β S s) {d:l8} {t:T} {v:Value} {b:Bool} (hv:VT A β (zaa s.obj) t v) (ht:tNil S d t=some b):nilT d v=some b:=by
  unfold tNil at ht;split at ht
  . cases ht;cases hv;rfl
  . rename_i b' _ N
    cases hs:S.has b' N with
    |false=>rw [hs] at ht;simp at ht
    |true =>
      rw [hs] at ht;cases ht;obtain ⟨z,l,hS⟩:=TS.has_ok hs;obtain ⟨f,u,rfl,hb⟩:=zka h hS hv;rfl
  . cases ht;cases hv;rfl
  . cases ht;cases hv;rfl
  . rename_i b' _ _ _ _ N
    cases hs:(S.has b' N && ig 0 N) with
    |false=>rw [hs] at ht;simp at ht
    |true =>
      rw [hs] at ht;cases ht;simp only [fk] at hs;obtain ⟨z,l,hS⟩:=TS.has_ok hs.1;have:=zad.1 hs.2;rcases zgk h hS hv with ⟨f,u,rfl,hb,htag⟩|⟨rfl,hb,rfl,rfl,rfl,rfl⟩
      . rfl
      . omega
  . cases ht;cases hv;rfl
  . cases ht;cases hv;rfl
  . cases ht;cases hv;rfl
  . cases ht;cases hv;rfl
  . cases ht;cases hv;rfl
  . simp at ht
def tBin (P:gt) (Γ:Env) (S:TS) (t:gi) (op:BinOp) (x y:gb) (a b:T):Option T:=match a,b with
  |.int k m,.int k' n=>zbv op k k' m n
  |.str m,.str n=>zxd op m n
  |.bool m,.bool n=>(match Γ.ti.at t with
    |some i=>(match i.desc,op with|.bool,.eql=>some (.bool (m == n))|.bool,.neq=>some (.bool (!(m == n)))|_,_=>none)
    |none=>none)
  |.agg m,.agg n=>zo4 P t op x y m n
  |a,b=>(match Γ.ti.at t with
    |some i=>(match tNil S i.desc a,tNil S i.desc b with
      |some p,some q=>bif p || q then (match op with|.eql=>some (.bool (p && q))|.neq=>some (.bool (!(p && q)))|_=>none) else none
      |_,_=>none)
    |none=>none)
theorem yai {op:BinOp} {v w:Value} {d:l8} {p:Bool} (h:nilT d v=some p):binC op v w=none:=by
  unfold nilT at h;split at h<;>first | (simp at h;done)|rfl
theorem ym1 (hE:zdi P Γ) (h:TRel GL A β S s) {t t2:gi} {op:BinOp} {x y:gb} {o:Oper} {a b r:T} {ρ:gb->Value} (ho:o.op=.binOp op t x y t2) (hx:VT A β (zaa s.obj) a (ρ x)) (hy:VT A β (zaa s.obj) b (ρ y)) (ht:tBin P Γ S t op x y a b=some r):Ok0 GL A β S s (zm0 P Γ ρ o s t op (ρ x) (ρ y)) r:=by
  unfold tBin at ht;split at ht
  . rename_i k m k' n;obtain ⟨v,h1,h2⟩:=yfe (A:=A) (β:=β) (s:=s) (P:=P) (Γ:=Γ) ht;generalize e1:ρ x=vx at hx;generalize e2:ρ y=vy at hy;cases hx;cases hy;rw [h2 ho e1 e2];exact mz h h1
  . rename_i m n;obtain ⟨v,h1,h2⟩:=ycp (A:=A) (β:=β) (s:=s) (P:=P) (Γ:=Γ) ht;generalize e1:ρ x=vx at hx;generalize e2:ρ y=vy at hy;cases hx;cases hy;rw [h2 ho e1 e2];exact mz h h1
  . rename_i m n;generalize e1:ρ x=vx at hx;generalize e2:ρ y=vy at hy;cases hx;cases hy;split at ht
    . rename_i i hi;have hd:=(hE.ti _ _ hi).und;split at ht
      . rename_i hdb;cases ht;rw [hdb] at hd
        rw [znm ho e1 e2 rfl (fun d=>z2w d m) rfl rfl (by unfold ml;simp) (r:=.bool (m == n)) (by
          show zbb P (do pure (Value.bool (<- Op.equal t (.bool m) (.bool n))):Sem Value)=_
          rw [zhp (zmu hd)];rfl) rfl]
        exact mz h (.bool _)
      . rename_i hdb;cases ht;rw [hdb] at hd
        rw [znm ho e1 e2 rfl (fun d=>z2w d m) rfl rfl (by unfold ml;simp) (r:=.bool (!(m == n))) (by
          show zbb P (do pure (Value.bool (!(<- Op.equal t (.bool m) (.bool n)))):Sem Value)=_
          rw [zhp (zmu hd)];rfl) rfl]
        exact mz h (.bool _)
      . simp at ht
    . simp at ht
  . rename_i m n;generalize e1:ρ x=vx at hx;generalize e2:ρ y=vy at hy;cases hx;cases hy;rename_i va ha vb hb;unfold zo4 at ht;split at ht
    . rename_i wa wb h1 h2;obtain ⟨rfl,k1⟩:=zt8 h1 ‹VL A β (zaa s.obj) m _›;obtain ⟨rfl,k2⟩:=zt8 h2 ‹VL A β (zaa s.obj) n _›;split at ht
      . rename_i r' hr;cases ht;rw [ya6 ho e1 e2 rfl (fun d=>yej d _) k1 k2 hr rfl];exact mz h (.bool _)
      . simp at ht
    . simp at ht
  . split at ht
    . rename_i i hi;split at ht
      . rename_i p q h1 h2
        cases hpq:(p || q) with
        |false=>rw [hpq] at ht;simp at ht
        |true =>
          rw [hpq] at ht;simp only [cond_true] at ht;have n1:=ych h hx h1;have n2:=ych h hy h2;split at ht
          . cases ht
            have:zm0 P Γ ρ o s t .eql (ρ x) (ρ y)=some (.bool (p && q),s):=by
              unfold zm0;rw [yai n1];simp only;unfold eqC;simp only [hi,n1,n2];unfold nilC;simp only [hpq,cond_true];simp [zh2]
            rw [this];exact mz h (.bool _)
          . cases ht
            have:zm0 P Γ ρ o s t .neq (ρ x) (ρ y)=some (.bool (!(p && q)),s):=by
              unfold zm0;rw [yai n1];simp only;unfold eqC;simp only [hi,n1,n2];unfold nilC;simp only [hpq,cond_true];simp [zh2]
            rw [this];exact mz h (.bool _)
          . simp at ht
      . simp at ht
    . simp at ht
def tUn (op:UnOp):T->Option T
  |.bool b=>(match op with|.not=>some (.bool (!b))|_=>none)
  |.int k a=>(match op with
    |.neg=>some (.int k (k.wrap (0 - a)))
    |.xor=>some (.int k (k.wrap (jb k.bits (if k.signed then -1 else k.max) ^^^ jb k.bits a).toNat))
    |_=>none)
  |_=>none
theorem yo4 (h:TRel GL A β S s) {t:gi} {op:UnOp} {x:gb} {o:Oper} {a r:T} {ρ:gb->Value} (ho:o.op=.unOp op t x) (hx:VT A β (zaa s.obj) a (ρ x)) (ht:tUn op a=some r):Ok0 GL A β S s (zh2 P ρ o s (unC op (ρ x))) r:=by
  obtain ⟨d,opx,ty,pos,e,g⟩:=o;simp only at ho;subst ho;unfold tUn at ht;split at ht
  . rename_i b;generalize e1:ρ x=vx at hx;cases hx;split at ht
    . cases ht;exact mz h (.bool _)
    . simp at ht
  . rename_i k m;generalize e1:ρ x=vx at hx;cases hx;split at ht
    . cases ht;rw [ypo e1];exact mz h (.int _ _)
    . cases ht;rw [ypn e1];exact mz h (.int _ _)
    . simp at ht
  . simp at ht
def zv8:List T->Option (List UInt8)
  |[]=>some []
  |.int .u8 k :: l=>(match zv8 l with|some r=>some (UInt8.ofNat k.toNat :: r)|none=>none)
  |_ :: _=>none
theorem z4y {g:Nat->Fam}:∀ {l:List T} {vs:List Value} {r:List UInt8},VL A β g l vs->zv8 l=some r->z1i vs=some r
  |[],_,r,.nil,h=>by simp only [zv8,ff] at h;subst h;rfl
  |t :: l,_,r,.cons h1 h2,h=>by
    unfold zv8 at h;split at h
    . simp_all
    . rename_i k l' hh;cases hh;split at h
      . rename_i r' hr;cases h;cases h1;unfold z1i;rw [z4y h2 hr]
      . simp at h
    . simp at h
def tStr (Γ:Env) (S:TS) (d1 d2:l8) (x:T):Option T:=match d1,d2 with
  |.slice e,.string=>bif isU8 Γ e then (match tSrc S 1 x with
    |some (_,xs)=>(match zv8 xs with|some r=>some (.str ⟨r.toArray⟩)|none=>none)
    |none=>none) else none
  |_,_=>none
theorem z45 (h:TRel GL A β S s) {src dst:gi} {x:gb} {o:Oper} {a r:T} {ρ:gb->Value} {i j:TI} (hi:Γ.ti.at src=some i) (hj:Γ.ti.at dst=some j) (hx:VT A β (zaa s.obj) a (ρ x)) (ht:tStr Γ S i.desc j.desc a=some r) (hsl:∀ n xs,tSrc S 1 a=some (n,xs)->∃ aa c m,ρ x=.slice aa m c):Ok0 GL A β S s (zd8 P Γ ρ o s src dst (ρ x)) r:=by
  unfold tStr at ht;split at ht
  . rename_i e hd1 hd2
    cases hq:isU8 Γ e with
    |false=>rw [hq] at ht;simp at ht
    |true =>
      rw [hq] at ht;simp only [cond_true] at ht;split at ht
      . rename_i n xs hsrc;obtain ⟨e1,e2,e3⟩:=zzu h (show 0<1 by omega) hx hsrc;obtain ⟨ys,s1,f1,f2,f3⟩:=e3 n (fp _);rw [io (by omega)] at f2;split at ht
        . rename_i r' hr';cases ht;obtain ⟨aa,c,m,hsl⟩:=hsl n xs hsrc;rw [hsl] at e1 f1 ⊢;simp only [lenC,ff] at e1;subst e1
          have:zd8 P Γ ρ o s src dst (.slice aa m c)=some (.string ⟨r'.toArray⟩,s1):=by
            unfold zd8;simp only [hi,hj,hd1,hd2,hq,cond_true];rw [f1];unfold strC;simp only [z4y f2 hr']
          rw [this];exact Ok0.rd h (f3.rel0 h) (.str _)
        . simp at ht
      . simp at ht
  . simp at ht
def zr0 (Γ:Env) (S:TS) (src dst:gi) (x:T):Option T:=match Γ.ti.at src,Γ.ti.at dst with
  |some i,some j=>(match x with
    |.int _ n=>(match j.desc with|.int k=>some (.int k (k.wrap n))|_=>none)
    |.str b=>(match i.desc,j.desc with
      |.string,.slice e=>bif isU8 Γ e && ib b.size 1000000000 then some (.lst 1 (zh7 b)) else none
      |.string,.string=>some (.str b)
      |_,_=>none)
    |.lst e' l=>tStr Γ S i.desc j.desc (.lst e' l)
    |.arr b e' off len cap N=>tStr Γ S i.desc j.desc (.arr b e' off len cap N)
    |.nils=>tStr Γ S i.desc j.desc .nils
    |_=>none)
  |_,_=>none
theorem z9w {ρ:gb->Value} {o:Oper} {src dst e:gi} {i j:TI} {b:ByteArray} (hi:Γ.ti.at src=some i) (hj:Γ.ti.at dst=some j) (hd1:i.desc=.string) (hd2:j.desc=.slice e) (hq:(isU8 Γ e && ib b.size 1000000000)=true):zd8 P Γ ρ o s src dst (.string b)=zia b.size b.size (s.newRow 2 (zjm b)):=by
  unfold zd8;simp only [hi,hj,hd1,hd2,hq,cond_true]
theorem z1u (hE:zdi P Γ) (h:TRel GL A β S s) {src dst:gi} {x:gb} {o:Oper} {a r:T} {ρ:gb->Value} (ho:o.op=.convert src dst x) (hx:VT A β (zaa s.obj) a (ρ x)) (ht:zr0 Γ S src dst a=some r):Ok0 GL A β S s (zd8 P Γ ρ o s src dst (ρ x)) r:=by
  unfold zr0 at ht;split at ht
  . rename_i i j hi hj;split at ht
    . rename_i k n;generalize e1:ρ x=vx at hx;cases hx;split at ht
      . rename_i k' hd;cases ht;obtain ⟨d,opx,ty,pos,e,g⟩:=o;simp only at ho;subst ho;have hs:=(hE.ti _ _ hi).und;have hdd:=(hE.ti _ _ hj).und;rw [hd] at hdd;unfold zd8;simp only [hi,hj,hd];rw [yps ⟨k,e1⟩ (by rw [hs];rfl) hdd];exact mz h (.int _ _)
      . simp at ht
    . rename_i b;generalize e1:ρ x=vx at hx;cases hx;split at ht
      . rename_i e hd1 hd2
        cases hq:(isU8 Γ e && ib b.size 1000000000) with
        |false=>rw [hq] at ht;simp at ht
        |true =>
          rw [hq] at ht;cases ht;have hv:VL A β (zaa s.obj) (zh7 b) (zjm b):=ztm _;obtain ⟨s',A',k1,k2,k3,k4,k5⟩:=h.newFrozen 2 (by omega) hv;rw [z9w hi hj hd1 hd2 hq,k1];refine ⟨_,s',A',rfl,k4,?_,k5⟩
          have hfm:(zh7 b).flatMap jh=zh7 b:=by
            unfold zh7 yi7;rw [List.flatMap_map]
            have:∀ l:List UInt8,List.flatMap (fun (a:UInt8)=>(T.int IntKind.u8 (a.toNat:Int)).cells) l=l.map fun a=>.int .u8 (a.toNat:Int):=by
              intro l
              induction l with
              |nil=>rfl
              |cons c l ih=>rw [jf,ih];rfl
            exact this _
          have hln:(zh7 b).length=b.size:=by simp [zh7]
          have:=VT.lst (A:=A') (β:=β) (g:=zaa s'.obj) (e:=1) (off:=0) (cap:=b.size) (l:=zh7 b) k2 k3 (by rw [hfm];exact k5.stp.vl h hv) (fun t ht=>by
            obtain ⟨c,_,rfl⟩:=jt.1 ht
            rfl) (by omega) (by rw [gu,mg]) (.inr (by omega)) (by omega)
          rw [hln] at this;exact this
      . rename_i hd1 hd2;cases ht
        have:zd8 P Γ ρ o s src dst (.string b)=some (.string b,s):=by
          unfold zd8;simp only [hi,hj,hd1,hd2]
        rw [this];exact mz h (.str _)
      . simp at ht
    . refine z45 h hi hj hx ht fun n xs hs=>?_;generalize ρ x=vx at hx
      cases hx with
      |lnil=>exact ⟨_,_,_,rfl⟩
      |lst=>exact ⟨_,_,_,rfl⟩
    . rename_i b e' off len cap N;refine z45 h hi hj hx ht fun n xs hs=>?_;unfold tSrc at hs;simp only at hs;split at hs
      . rename_i z N' l hS
        cases hq:(fy N N' && (fy e' 1 && ib (off+len*1) N)) with
        |false=>rw [hq] at hs;simp at hs
        |true =>
          simp only [fk] at hq;have:=fl hq.1;subst this;rcases zgk h hS hx with ⟨f,u,h1,hb,_⟩|⟨h1,_⟩
          . exact ⟨_,_,_,h1⟩
          . exact ⟨_,_,_,h1⟩
      . simp at hs
    . refine z45 h hi hj hx ht fun n xs hs=>?_;generalize ρ x=vx at hx;cases hx;exact ⟨_,_,_,rfl⟩
    . simp at ht
  . simp at ht
def zsz (Γ:Env) (S:TS) (src dst:gi) (x:T):Option (T×TS):=match Γ.ti.at src,Γ.ti.at dst,x with
  |some i,some j,.str b=>(match i.desc,j.desc with
    |.string,.slice e=>bif isU8 Γ e && ib b.size 1000000000 then some (.arr S.n 1 0 b.size b.size (zh7 b).length,S.add (.cells false (zh7 b).length (zh7 b))) else none
    |_,_=>none)
  |_,_,_=>none
theorem z48 (h:TRel GL A β S s) {src dst:gi} {x:gb} {o:Oper} {a r:T} {ρ:gb->Value} (hx:VT A β (zaa s.obj) a (ρ x)) (ht:zsz Γ S src dst a=some (r,S')):Ok GL A β s (zd8 P Γ ρ o s src dst (ρ x)) r S':=by
  unfold zsz at ht;split at ht
  . rename_i i j b hi hj;generalize e1:ρ x=vx at hx;cases hx;split at ht
    . rename_i e hd1 hd2
      cases hq:(isU8 Γ e && ib b.size 1000000000) with
      |false=>rw [hq] at ht;simp at ht
      |true =>
        rw [hq] at ht;cases ht;have hv:VL A β (zaa s.obj) (zh7 b) (zjm b):=ztm _
        have hone:(zh7 b).all np=true:=by
          unfold zh7 yi7;rw [ii];intro t ht;obtain ⟨c,_,rfl⟩:=jt.1 ht;rfl
        obtain ⟨s',β',k1,k2,k3,k4⟩:=h.newBox 2 (by omega) hv (hv.one hone);rw [z9w hi hj hd1 hd2 hq,k1];exact ⟨_,s',A,β',rfl,k3,.arr k2 (.inr (by omega)),k4⟩
    . simp at ht
  . simp at ht
end
def zim (Γ:Env) (t:gi) (k:T):Bool:=match Γ.ti.at t with
  |some i=>(match i.desc,k with|.int a,.int b _=>fy (ikN a) (ikN b)|.string,.str _=>true|.bool,.bool _=>true|_,_=>false)
  |none=>false
def zrz:T->T->Option Bool
  |.int k a,.int k' b=>bif fy (ikN k) (ikN k') then some (a == b) else none
  |.str a,.str b=>some (a.data.toList == b.data.toList)
  |.bool a,.bool b=>some (a == b)
  |_,_=>none
def tGet (k:T):List (T×T)->Option (Option T)
  |[]=>some none
  |(k',v) :: l=>match zrz k k' with
    |some true=>some (some v)
    |some false=>tGet k l
    |none=>none
def tSet (k v:T):List (T×T)->Option (List (T×T))
  |[]=>some [(k,v)]
  |(k',v') :: l=>match zrz k k' with
    |some true=>some ((k,v) :: l)
    |some false=>(match tSet k v l with|some l=>some ((k',v') :: l)|none=>none)
    |none=>none
def zfr (i:TI):Option T:=bif aggT i.desc then (match zgx i.zero with|some l=>some (.agg l)|none=>none) else match i.zero with | [z]=>zly z|_=>none
def z3u (ok:Bool) (z:T):Option T->T
  |some v=>bif ok then .tup [v,.bool true] else v
  |none=>bif ok then .tup [z,.bool false] else z
def zc5 (Γ:Env) (S:TS) (t:gi) (x k:T) (ok:Bool):Option T:=match Γ.ti.at t with
  |some i=>(match i.desc with
    |.map kt e=>bif zim Γ kt k then (match Γ.ti.at e with
      |some j=>(match zfr j with
        |some z=>(match x with
          |.nilm=>some (z3u ok z none)
          |.mp b=>(match S.box b with|.map l=>(match tGet k l with|some r=>some (z3u ok z r)|none=>none)|_=>none)
          |_=>none)
        |none=>none)
      |none=>none) else none
    |_=>none)
  |none=>none
def za1 (Γ:Env) (S:TS) (t:gi) (k v m:T):Option TS:=match m,Γ.ti.at t with
  |.mp b,some i=>(match i.desc with
    |.map kt _=>bif zim Γ kt k then (match S.box b with|.map l=>(match tSet k v l with|some l'=>some (S.set b (.map l'))|none=>none)|_=>none) else none
    |_=>none)
  |_,_=>none
def zbz (S:TS):Option (T×TS):=some (.mp S.n,S.add (.map []))
section
variable {GL:List (Nat×List Value)} {A A':Nat->Prop} {β β':Bx} {S S':TS} {s s':CS} {P:gt} {Γ:Env} {g g':Nat->Fam}
theorem z57 {t:gi} {k:T} {v:Value} (h:VT A β g k v) (hk:zim Γ t k=true):keyV Γ t v=true:=by
  unfold zim at hk;unfold keyV;split at hk
  . rename_i i hi;rw [hi];simp only;split at hk
    . rename_i hd;cases h;rw [hd];exact hk
    . rename_i hd;cases h;rw [hd]
    . rename_i hd;cases h;rw [hd]
    . simp at hk
  . simp at hk
theorem ztb {k k':T} {v v':Value} {r:Bool} (h:VT A β g k v) (h':VT A β g k' v') (hq:zrz k k'=some r):z58 v v'=some r:=by
  unfold zrz at hq;split at hq
  . cases h;cases h';rename_i k a k' b;show sel (fy (ikN k) (ikN k')) (some (a == b)) none=some r
    cases hb:fy (ikN k) (ikN k') with
    |true=>rw [hb,cond_true] at hq;rw [za5];exact hq
    |false=>rw [hb] at hq;simp at hq
  . cases h;cases h';exact hq
  . cases h;cases h';exact hq
  . simp at hq
def VO2 (A:Nat->Prop) (β:Bx) (g:Nat->Fam):Option T->Option Value->Prop
  |none,none=>True
  |some t,some v=>VT A β g t v
  |_,_=>False
theorem VM.cons_inv {k x:T} {l:List (T×T)} {es:List (Value×Value)} (h:VM A β g ((k,x) :: l) es):∃ v w es',es=(v,w) :: es'/\VT A β g k v/\VT A β g x w/\VM A β g l es':=by
  obtain ⟨h1,h2⟩:=h
  cases es with
  |nil=>cases h1
  |cons e es =>
    obtain ⟨v,w⟩:=e;simp only [i6] at h1 h2
    cases h1 with
    |cons a b =>
      cases h2 with
      |cons c d=>exact ⟨v,w,es,rfl,a,c,b,d⟩
theorem VM.nil_inv {es:List (Value×Value)} (h:VM A β g [] es):es=[]:=by
  obtain ⟨h1,_⟩:=h
  cases es with
  |nil=>rfl
  |cons e es=>cases h1
theorem VM.mk {k x:T} {v w:Value} {l:List (T×T)} {es:List (Value×Value)} (a:VT A β g k v) (c:VT A β g x w) (h:VM A β g l es):VM A β g ((k,x) :: l) ((v,w) :: es):=⟨.cons a h.1,.cons c h.2⟩
theorem z3a {k:T} {v:Value} (hk:VT A β g k v):∀ {l:List (T×T)} {es:List (Value×Value)} {r:Option T},VM A β g l es->tGet k l=some r->∃ r',zo0 v es=some r'/\VO2 A β g r r'
  |[],es,r,h,hr=>by
    rw [VM.nil_inv h];simp only [tGet,ff] at hr;subst hr;exact ⟨none,rfl,trivial⟩
  |(k',x) :: l,es,r,h,hr=>by
    obtain ⟨v',w,es',rfl,h1,h2,h3⟩:=VM.cons_inv h;simp only [tGet] at hr;split at hr
    . rename_i hq;cases hr;refine ⟨some w,?_,h2⟩;simp only [zo0,ztb hk h1 hq]
    . rename_i hq;obtain ⟨r',q1,q2⟩:=z3a hk h3 hr;exact ⟨r',by simp only [zo0,ztb hk h1 hq,q1],q2⟩
    . simp at hr
theorem z29 {k x:T} {v w:Value} (hk:VT A β g k v) (hx:VT A β g x w):∀ {l l':List (T×T)} {es:List (Value×Value)},VM A β g l es->tSet k x l=some l'->∃ es',zmt v w es=some es'/\VM A β g l' es'
  |[],l',es,h,hr=>by
    rw [VM.nil_inv h];simp only [tSet,ff] at hr;subst hr;exact ⟨_,rfl,VM.mk hk hx ⟨.nil,.nil⟩⟩
  |(k',x') :: l,l',es,h,hr=>by
    obtain ⟨v',w',es',rfl,h1,h2,h3⟩:=VM.cons_inv h;simp only [tSet] at hr;split at hr
    . rename_i hq;cases hr;exact ⟨_,by simp only [zmt,ztb hk h1 hq],VM.mk hk hx h3⟩
    . rename_i hq;split at hr
      . rename_i l2 hs;cases hr;obtain ⟨es2,q1,q2⟩:=z29 hk hx h3 hs;exact ⟨_,by simp only [zmt,ztb hk h1 hq,q1],VM.mk h1 h2 q2⟩
      . simp at hr
    . simp at hr
theorem ybz {i:TI} {z:T} (h:zfr i=some z):∃ v,z42 i=some v/\VT A β g z v:=by
  unfold zfr at h;unfold z42
  cases ha:aggT i.desc with
  |true =>
    rw [ha,cond_true] at h;split at h
    . rename_i l hl;cases h;exact ⟨_,rfl,.agg (by simpa using (zit (A:=A) (β:=β) (g:=g) hl).1)⟩
    . simp at h
  |false =>
    rw [ha,cond_false] at h;split at h
    . rename_i z' hz;rw [hz];exact ⟨z',rfl,(zzj h).1⟩
    . simp at h
theorem z3t {ok:Bool} {z:T} {zv:Value} {r:Option T} {r':Option Value} (hz:VT A β g z zv) (h:VO2 A β g r r'):VT A β g (z3u ok z r) (z9b ok zv r'):=by
  cases r<;>cases r'<;>simp only [VO2] at h
  . cases ok with
    |true=>exact .tup (.cons hz (.cons (.bool _) .nil))
    |false=>exact hz
  . cases ok with
    |true=>exact .tup (.cons h (.cons (.bool _) .nil))
    |false=>exact h
theorem ypu (hT:TRel GL A β S s) {b:Nat} {l:List (T×T)} {v:Value} (hb:S.box b=.map l) (h:VT A β (zaa s.obj) (.mp b) v):∃ r es,v=.map (some r)/\β b=some (.map r)/\zaa s.obj r=⟨false,[],some es⟩/\VM A β (zaa s.obj) l es:=by
  obtain ⟨r,es,q1,q2,q3⟩:=hT.maps b l hb
  cases h with
  |mp h=>rw [q1] at h;cases h;exact ⟨_,es,rfl,q1,q2,q3⟩
  |mpOld h _=>rw [q1] at h;simp at h
theorem yan (hT:TRel GL A β S s) {t:gi} {x k r:T} {vx vk:Value} {ok:Bool} (hx:VT A β (zaa s.obj) x vx) (hk:VT A β (zaa s.obj) k vk) (ht:zc5 Γ S t x k ok=some r):Ok0 GL A β S s (zjp Γ s t vx vk ok) r:=by
  unfold zc5 at ht;split at ht
  . rename_i i hi;split at ht
    . rename_i kt e hd
      cases hkv:zim Γ kt k with
      |false=>rw [hkv] at ht;simp at ht
      |true =>
        rw [hkv,cond_true] at ht;split at ht
        . rename_i j hj;split at ht
          . rename_i z hz;obtain ⟨zv,z1,z2⟩:=ybz (A:=A) (β:=β) (g:=zaa s.obj) hz;split at ht
            . cases ht;cases hx
              have:zjp Γ s t (.map none) vk ok=some (z9b ok zv none,s):=by
                simp only [zjp,hi,hd,z57 hk hkv,za5,hj,z52,z1,zo0]
              rw [this];exact mz hT (z3t z2 trivial)
            . rename_i b;split at ht
              . rename_i l hb;split at ht
                . rename_i r0 hg;cases ht;obtain ⟨rr,es,rfl,q1,q2,q3⟩:=ypu hT hb hx;obtain ⟨r',g1,g2⟩:=z3a hk q3 hg
                  have:zjp Γ s t (.map (some rr)) vk ok=some (z9b ok zv r',{ s with rd:=ins s.lim s.rd rr }):=by
                    simp only [zjp,hi,hd,z57 hk hkv,za5,hj,CS.readMap,q2,z52,z1,g1]
                  rw [this];exact Ok0.read hT (.inr (zhh q1)) (z3t z2 g2)
                . simp at ht
              . simp at ht
            . simp at ht
          . simp at ht
        . simp at ht
    . simp at ht
  . simp at ht
theorem zpr (hT:TRel GL A β S s) {t:gi} {k x m:T} {vk vx vm:Value} (hk:VT A β (zaa s.obj) k vk) (hx:VT A β (zaa s.obj) x vx) (hm:VT A β (zaa s.obj) m vm) (ht:za1 Γ S t k x m=some S'):Ok GL A β s (zff Γ s t vk vx vm) .junk S':=by
  unfold za1 at ht;split at ht
  . rename_i b i hi;split at ht
    . rename_i kt e hd
      cases hkv:zim Γ kt k with
      |false=>rw [hkv] at ht;simp at ht
      |true =>
        rw [hkv,cond_true] at ht;split at ht
        . rename_i l hb;split at ht
          . rename_i l' hs;cases ht;obtain ⟨r,es,rfl,q1,q2,q3⟩:=ypu hT hb hm;obtain ⟨es',g1,g2⟩:=z29 hk hx q3 hs;obtain ⟨gg,hin⟩:=hT.inr;have hobj:∀ f,zaa s.obj f=gg f:=fun f=>by rw [hin];rfl
            have hdis:=hT.dis r (zhh q1)
            have hw:zff Γ s t vk vx (.map (some r))=some (undef,{ s with obj:=.inr (fupd gg r ⟨false,[],some es'⟩),rd:=ins s.lim s.rd r,wr:=ins s.lim s.wr r }):=by
              have e1:za9 s.obj r ⟨false,[],some es'⟩=.inr (fupd gg r ⟨false,[],some es'⟩):=by rw [hin,zgq]
              simp only [zff,hi,hd,z57 hk hkv,za5,CS.setMap,CS.readMap,q2,zt6,g1,e1,zwr]
            have hcan:=zu5 hT.inv hw;have hold:∀ f,f≠r->fupd gg r ⟨false,[],some es'⟩ f=zaa s.obj f:=fun f hf=>by rw [hobj];exact zjh _ _ _ _ hf
            have hA:∀ f,A f->fupd gg r ⟨false,[],some es'⟩ f=zaa s.obj f:=fun f hf=>hold f fun h=>hdis.2 (h ▸ hf)
            have hoth:∀ {b':Nat} {l:Loc} {f:Nat},β b'=some l->l.fam=some f->b'≠b->fupd gg r ⟨false,[],some es'⟩ f=zaa s.obj f:=by
              intro b' l f hb2 hf hne;refine hold f fun hh=>hne ?_;subst hh;exact hT.inj b' b l _ f hb2 q1 hf rfl
            rw [hw];refine ⟨_,_,A,β,rfl,⟨⟨_,rfl⟩,hT.inv.next hcan,fun f hf=>hT.alt f hf,fun f hf=>hT.dis f hf,hT.inj,hT.next,fun b' z N l2 hb2=>?_,fun b' l2 hb2=>?_,fun y hy=>?_⟩,.junk _,hcan,fun _ h=>h,fun _ h=>.inl h,fun _ h=>.inl h,fun f hf hno=>?_,lq _,fun y hy=>?_,fun y hy=>?_⟩
            . by_cases hbb:b'=b
              . subst hbb;rw [mv] at hb2;cases hb2
              . rw [m7 _ _ hbb] at hb2;exact (hT.cells b' z N l2 hb2).mono (fun _ h=>h) hA (lq _) rfl fun f u N2 hl=>hoth hl rfl hbb
            . by_cases hbb:b'=b
              . subst hbb;rw [mv] at hb2;cases hb2;exact ⟨r,es',q1,zgg _ _ _,g2.1.mono (fun _ h=>h) hA (lq _),g2.2.mono (fun _ h=>h) hA (lq _)⟩
              . rw [m7 _ _ hbb] at hb2;exact (hT.maps b' l2 hb2).mono (fun _ h=>h) hA (lq _) rfl fun r' hl=>hoth hl rfl hbb
            . have:=hT.glob y hy;refine ⟨this.1,?_⟩;show zbo (fupd gg r _ y.1).rows _=_;rw [hA _ this.1];exact this.2
            . show fupd gg r _ f=_;exact hold f fun hh=>hno (hh ▸ zhh q1)
            . rcases zme hy with q|⟨rfl,q⟩
              . exact .inl q
              . exact .inr ⟨q,.inr (zhh q1)⟩
            . rcases zme hy with q|⟨rfl,q⟩
              . exact .inl q
              . exact .inr ⟨q,zhh q1⟩
          . simp at ht
        . simp at ht
    . simp at ht
  . simp at ht
theorem z46 (h:TRel GL A β S s) {r:T} (ht:zbz S=some (r,S')):Ok GL A β s (mapC s) r S':=by
  simp only [zbz,ff,fo] at ht;obtain ⟨rfl,rfl⟩:=ht;obtain ⟨q1,q2,q3,q4⟩:=h.fresh ⟨false,[],some []⟩ rfl (fun p hp=>by simp at hp);have hb0:β S.n=none:=h.next _ (fp _)
  have hle:Bx.le β (bnew β S.n (.map s.n)):=zv4 hb0;have hat:∀ b,b≠S.n->bnew β S.n (.map s.n) b=β b:=fun b hb=>zAd hb;have hat2:bnew β S.n (.map s.n) S.n=some (.map s.n):=zAc rfl;have hold:∀ f,f<s.n->zaa (za9 s.obj s.n ⟨false,[],some []⟩) f=zaa s.obj f:=fun f hf=>q3 f (by omega)
  have hkey:∀ b x,β b=some x->x.fam=some s.n->False:=fun b x hb hx=>by
    have:Own β s.n:=by
      cases x with
      |live f u N=>simp [nh] at hx;subst hx;exact zcq hb
      |map r=>simp [nh] at hx;subst hx;exact zhh hb
      |nil=>simp [nh] at hx
      |dead=>simp [nh] at hx
    have:=(h.dis _ this).1;omega
  have hm:mapC s=some (.map (some s.n),{ s with n:=s.n+1,obj:=za9 s.obj s.n ⟨false,[],some []⟩ }):=by
    unfold mapC;have:zj9 s.obj s.n=true:=by obtain ⟨g,hg⟩:=h.inr;rw [hg];rfl
    rw [this,za5]
  rw [hm];refine ⟨_,_,A,bnew β S.n (.map s.n),rfl,⟨q1.inr,q1.inv,q1.alt,fun f hf=>?_,fun b b' x x' f hb hb' hx hx'=>?_,fun b hb=>?_,fun b z N x hb=>?_,fun b x hb=>?_,q1.glob⟩,.mp hat2,q2,fun _ h=>h,fun _ h=>.inl h,fun f hf=>?_,fun f hf _=>q3 f (by omega),hle,fun _ h=>.inl h,fun _ h=>.inl h⟩
  . obtain ⟨b,hb⟩:=hf;by_cases hbn:b=S.n
    . subst hbn;rw [hat2] at hb;rcases hb with ⟨u,N,hb⟩|hb
      . simp at hb
      . cases hb;exact ⟨by show s.n<s.n+1;omega,fun hA=>by have:=h.alt _ hA;omega⟩
    . rw [hat b hbn] at hb;exact q1.dis f ⟨b,hb⟩
  . by_cases e1:b=S.n<;>by_cases e2:b'=S.n
    . rw [e1,e2]
    . subst e1;rw [hat2] at hb;rw [hat b' e2] at hb';cases hb;simp [nh] at hx;subst hx;exact (hkey b' x' hb' hx').elim
    . subst e2;rw [hat2] at hb';rw [hat b e1] at hb;cases hb';simp [nh] at hx';subst hx';exact (hkey b x hb hx).elim
    . rw [hat b e1] at hb;rw [hat b' e2] at hb';exact h.inj b b' x x' f hb hb' hx hx'
  . have:S.n+1<=b:=hb;rw [hat b (by omega)];exact h.next b (by omega)
  . by_cases hbn:b=S.n
    . subst hbn;rw [sg] at hb;cases hb
    . rw [s7 _ _ hbn] at hb;exact (h.cells b z N x hb).mono (fun _ h=>h) (fun f hf=>hold f (h.alt f hf)) hle (hat b hbn) fun f u N hl=>hold f (h.dis f (zcq hl)).1
  . by_cases hbn:b=S.n
    . subst hbn;rw [sg] at hb;cases hb;exact ⟨s.n,[],hat2,q4,.nil,.nil⟩
    . rw [s7 _ _ hbn] at hb;exact (h.maps b x hb).mono (fun _ h=>h) (fun f hf=>hold f (h.alt f hf)) hle (hat b hbn) fun r hl=>hold r (h.dis r (zhh hl)).1
  . obtain ⟨b,hb⟩:=hf;by_cases hbn:b=S.n
    . subst hbn;rw [hat2] at hb;rcases hb with ⟨u,N,hb⟩|hb
      . simp at hb
      . cases hb;exact .inr (fp _)
    . rw [hat b hbn] at hb;exact .inl ⟨b,hb⟩
end
def zn2 (v:Value):T:=match zly v with
  |some t=>t
  |none=>match v with
    |.agg cs=>(match zgx cs.toList with|some l=>.agg l|none=>.junk)
    |_=>.junk
def yfw:List (Nat×List Value)->Nat->T
  |[],_=>.junk
  |x :: l,k=>bif fy x.1 k then (match zgx x.2 with|some c=>.cp c|none=>.junk) else yfw l k
def zdo (GL:List (Nat×List Value)) (h:Nat->T):gb->T
  |.tmp t=>h t
  |.const v=>zn2 v
  |.global k=>yfw GL k
  |.func f=>.fn f [] []
def tupd (h:Nat->T) (t:Nat) (v:T):Nat->T:=fun u=>if u=t then v else h u
theorem zhs (h:Nat->T) (t:Nat) (v:T):tupd h t v t=v:=zAc rfl
theorem zl0 (h:Nat->T) (t u:Nat) (v:T) (hn:u≠t):tupd h t v u=h u:=zAd hn
def putT (h:Nat->T):Option Tmp->T->Nat->T
  |some d,v=>tupd h d v
  |none,_=>h
def zg1 (S:TS):Option T->Option (T×TS)
  |some t=>some (t,S)
  |none=>none
def zzq:Option TS->Option (T×TS)
  |some S=>some (.junk,S)
  |none=>none
def ownD (own:List Nat) (d:Option Tmp):Bool:=match d with|some d=>has own d|none=>false
def zm3 (Γ:Env) (S:TS) (ρ:gb->T) (b:Builtin) (args:List gb) (ts:List gi):Option T:=match b with
  |.len=>(match args,ts with | [x],[t]=>tLen Γ S t (ρ x)|_,_=>none)
  |.min=>(match args with | [x,y]=>(match ρ x,ρ y with|.int k a,.int _ b=>some (.int k (min a b))|_,_=>none)|_=>none)
  |.max=>(match args with | [x,y]=>(match ρ x,ρ y with|.int k a,.int _ b=>some (.int k (max a b))|_,_=>none)|_=>none)
  |_=>none
def zfm (P:gt) (Γ:Env) (ρ:gb->T) (o:Oper) (S:TS):Option T :=
  match o.op with
  |.move x=>some (ρ x)
  |.assign x=>some (ρ x)
  |.pick c a b=>(match ρ c with|.bool t=>some (bif t then ρ a else ρ b)|_=>none)
  |.build t parts=>zki Γ ρ t parts.toList
  |.buildSlice t n parts=>zam Γ ρ t n parts.toList
  |.load t x=>ztv Γ S t (ρ x)
  |.nilCheck x=>zfw S (ρ x)
  |.sliceToArrayPointer t x=>tS2A Γ S t (ρ x)
  |.makeFunc fn first captured=>(match fn with|.func f=>some (.fn f (first.toList.map ρ) (captured.toList.map ρ))|_=>none)
  |.slice t x lo hi mx=>ztu Γ S t (ρ x) (lo.map ρ) (hi.map ρ) (mx.map ρ)
  |.fieldAddr t x k=>zan Γ S t k (ρ x)
  |.field t x k=>z1t Γ t k (ρ x)
  |.indexAddr t x ix=>zif Γ S t (ρ x) (ρ ix)
  |.index t x ix=>ztw Γ t (ρ x) (ρ ix)
  |.extract x k=>zl1 k (ρ x)
  |.unOp op _ x=>tUn op (ρ x)
  |.convert src dst x=>zr0 Γ S src dst (ρ x)
  |.binOp op t x y _=>tBin P Γ S t op x y (ρ x) (ρ y)
  |.lookup t x k ok=>zc5 Γ S t (ρ x) (ρ k) ok
  |.call c=>(match c.callee with
    |.builtin b=>zm3 Γ S ρ b c.args.toList c.argTypes.toList
    |_=>none)
  |_=>none
def zes (P:gt) (Γ:Env) (own:List Nat) (ρ:gb->T) (o:Oper) (S:TS):Option (T×TS) :=
  match o.op with
  |.alloc e=>zxc Γ S e
  |.box _ x=>tBox S (ρ x)
  |.buildSlice t n parts=>bif ownD own o.dst then zas Γ S ρ t n parts.toList else zg1 S (zam Γ ρ t n parts.toList)
  |.store t x v=>zzq (zxb Γ S t (ρ v) (ρ x))
  |.makeSlice t l c=>zju Γ S t (ρ l) (ρ c)
  |.convert src dst x=>bif ownD own o.dst then zsz Γ S src dst (ρ x) else zg1 S (zr0 Γ S src dst (ρ x))
  |.makeMap _ none=>zbz S
  |.mapUpdate t m k v=>zzq (za1 Γ S t (ρ k) (ρ v) (ρ m))
  |.insert t m k v=>zzq (za1 Γ S t (ρ k) (ρ v) (ρ m))
  |.call c=>(match c.callee with
    |.builtin .append=>(match c.args.toList,c.argTypes.toList with | [x,y],[t,tx]=>bif srcT Γ tx then zm5 Γ S t (ρ y) (ρ x) else none|_,_=>none)
    |.builtin .copy=>(match c.args.toList,c.argTypes.toList with | [x,y],[t,_]=>yhj Γ S t (ρ y) (ρ x)|_,_=>none)
    |.builtin .clear=>(match c.args.toList,c.argTypes.toList with | [x],[t]=>ztx Γ S t (ρ x)|_,_=>none)
    |.builtin b=>zg1 S (zm3 Γ S ρ b c.args.toList c.argTypes.toList)
    |_=>none)
  |_=>zg1 S (zfm P Γ ρ o S)
section
variable {GL:List (Nat×List Value)} {A A' A2:Nat->Prop} {β β' β2:Bx} {S S':TS} {s s' s2:CS} {P:gt} {Γ:Env}
theorem VT.undf {g:Nat->Fam}:VT A β g (.tup []) undef:=VT.tup (vs:=[]) .nil
theorem ygg {g:Nat->Fam} (v:Value):VT A β g (zn2 v) v:=by
  unfold zn2;split
  . rename_i t ht;exact (zzj ht).1
  . split
    . rename_i cs;split
      . rename_i l hl;obtain ⟨cs⟩:=cs;exact .agg (zit hl).1
      . exact .junk _
    . exact .junk _
theorem z87 {g:Nat->Fam}:∀ (L:List (Nat×List Value)) (k:Nat),(∀ x,x∈L->A x.1/\zbo (g x.1).rows (x.1*1024)=some x.2)->VT A β g (yfw L k) (.pointer (some (mkA k (k*1024) 0)))
  |[],k,_=>.junk _
  |x :: l,k,h=>by
    unfold yfw
    cases hb:fy x.1 k with
    |false=>exact z87 l k fun y hy=>h y (by simp [hy])
    |true =>
      have:=fl hb;subst this;simp only [cond_true];split
      . rename_i c hc;obtain ⟨h1,h2⟩:=h x (by simp);exact .cp h1 h2 (zit hc).1 (by rw [gu,mg])
      . exact .junk _
structure FrOk (A:Nat->Prop) (β:Bx) (g:Nat->Fam) (N:Nat) (h:Nat->T) (fr:Fr):Prop where
  nt:fr.nt=N
  le:N<=512
  slot:∀ t,VT A β g (h t) (fr.get t)
theorem FrOk.mono {N:Nat} {h:Nat->T} {fr:Fr} {g g':Nat->Fam} (k:FrOk A β g N h fr) (hA:∀ f,A f->A' f) (hg:∀ f,A f->g' f=g f) (hβ:Bx.le β β'):FrOk A' β' g' N h fr:=⟨k.nt,k.le,fun t=>(k.slot t).mono hA hg hβ⟩
theorem FrOk.eval (hT:TRel GL A β S s) {N:Nat} {h:Nat->T} {fr:Fr} (k:FrOk A β (zaa s.obj) N h fr) (x:gb):VT A β (zaa s.obj) (zdo GL h x) (zhj fr x):=by
  cases x with
  |tmp t=>exact k.slot t
  |const v=>exact ygg v
  |global g=>exact z87 GL g hT.glob
  |func f=>exact .fn .nil .nil
def zfk (N:Nat) (ops:List Oper):Bool:=ops.all fun o=>match o.dst with|some d=>ig d N|none=>true
theorem FrOk.put {N:Nat} {h:Nat->T} {fr:Fr} {g:Nat->Fam} (k:FrOk A β g N h fr) {d:Option Tmp} (hd:∀ t,d=some t->t<N) {t:T} {v:Value} (hv:VT A β g t v):FrOk A β g N (putT h d t) (putC fr d v):=by
  cases d with
  |none=>exact k
  |some d =>
    have hdN:=hd d rfl;refine ⟨?_,k.le,fun u=>?_⟩
    . show (fr.put d v).nt=N;unfold Fr.put;rw [zb7];split<;>exact k.nt
    . show VT A β g (tupd h d t u) ((fr.put d v).get u);by_cases hu:u=d
      . subst hu;rw [zhs,Fr.get_put_same v (by rw [k.nt];exact hdN) (by rw [k.nt];exact k.le)];exact hv
      . rw [zl0 _ _ _ _ hu,s8 v (by rw [k.nt];exact k.le) (fun hh=>hu hh.symm)];exact k.slot u
theorem zv9 {g:Nat->Fam} {ρT:gb->T} {ρ:gb->Value} (hρ:∀ x,VT A β g (ρT x) (ρ x)):∀ (l:List gb),VL A β g (l.map ρT) (l.map ρ)
  |[]=>.nil
  |x :: l=>.cons (hρ x) (zv9 hρ l)
theorem yg4 {g:Nat->Fam} {ρT:gb->T} {ρ:gb->Value} (hρ:∀ x,VT A β g (ρT x) (ρ x)):∀ (l:Option gb),VO A β g (l.map ρT) (l.map ρ)
  |none=>.none
  |some x=>.some (hρ x)
theorem zsx {r:Option T} {t:T} {S1 S2:TS} (h:zg1 S1 r=some (t,S2)):r=some t/\S2=S1:=by
  unfold zg1 at h;split at h
  . cases h;exact ⟨rfl,rfl⟩
  . simp at h
theorem zzp {r:Option TS} {t:T} {S2:TS} (h:zzq r=some (t,S2)):r=some S2/\t=.junk:=by
  unfold zzq at h;split at h
  . cases h;exact ⟨rfl,rfl⟩
  . simp at h
theorem zr1 (hT:TRel GL A β S s) {ρT:gb->T} {ρ:gb->Value} (hρ:∀ x,VT A β (zaa s.obj) (ρT x) (ρ x)) {o:Oper} {b:Builtin} {args:Array gb} {ts:Array gi} {r:T} (ho:o.op=.call ⟨.builtin b,args,ts⟩) (ht:zm3 Γ S ρT b args.toList ts.toList=some r):Ok0 GL A β S s (zga P Γ ρ o s b args.toList ts.toList) r:=by
  unfold zm3 at ht;split at ht
  . split at ht
    . rename_i x t e1 e2;rw [e1,e2];exact ymz hT (hρ x) ht
    . simp at ht
  . split at ht
    . rename_i x y e1;split at ht
      . rename_i k a k' b' e2 e3;cases ht;obtain ⟨args⟩:=args;simp only at e1;subst e1;obtain ⟨d,opx,ty,pos,e,g⟩:=o;simp only at ho;subst ho;have h1:=hρ x;have h2:=hρ y;rw [e2] at h1;rw [e3] at h2;generalize f1:ρ x=vx at h1;generalize f2:ρ y=vy at h2;cases h1;cases h2;show Ok0 GL A β S s (zga P Γ ρ _ s .min [x,y] ts.toList) _;rw [o_min f1 f2];exact mz hT (.int _ _)
      . simp at ht
    . simp at ht
  . split at ht
    . rename_i x y e1;split at ht
      . rename_i k a k' b' e2 e3;cases ht;obtain ⟨args⟩:=args;simp only at e1;subst e1;obtain ⟨d,opx,ty,pos,e,g⟩:=o;simp only at ho;subst ho;have h1:=hρ x;have h2:=hρ y;rw [e2] at h1;rw [e3] at h2;generalize f1:ρ x=vx at h1;generalize f2:ρ y=vy at h2;cases h1;cases h2;show Ok0 GL A β S s (zga P Γ ρ _ s .max [x,y] ts.toList) _;rw [o_max f1 f2];exact mz hT (.int _ _)
      . simp at ht
    . simp at ht
  . simp at ht
theorem z68 (hE:zdi P Γ) (hT:TRel GL A β S s) {ρT:gb->T} {ρ:gb->Value} (hρ:∀ x,VT A β (zaa s.obj) (ρT x) (ρ x)) {call:zej} {o:Oper} {r:T} (ht:zfm P Γ ρT o S=some r):Ok0 GL A β S s (cop P Γ call ρ o s) r:=by
  unfold zfm at ht;split at ht
  . rename_i x ho;cases ht;unfold cop;simp only [ho];exact mz hT (hρ x)
  . rename_i x ho;cases ht;unfold cop;simp only [ho];exact mz hT (hρ x)
  . rename_i c a b ho;split at ht
    . rename_i t hc;cases ht;unfold cop;simp only [ho];have h1:=hρ c;rw [hc] at h1;generalize f1:ρ c=vc at h1;cases h1;rw [yng]
      cases t with
      |true=>exact mz hT (hρ a)
      |false=>exact mz hT (hρ b)
    . simp at ht
  . rename_i t parts ho;unfold cop;simp only [ho];exact ycl hT hρ ht
  . rename_i t n parts ho;unfold cop;simp only [ho];exact zm4 hT hρ ht
  . rename_i t x ho;unfold cop;simp only [ho];exact yhh hT (hρ x) ht
  . rename_i x ho;unfold cop;simp only [ho];exact z1s hT (hρ x) ht
  . rename_i t x ho;unfold cop;simp only [ho];exact ymy hT (hρ x) ht
  . rename_i fn first captured ho
    split at ht
    . rename_i f;cases ht;unfold cop;simp only [ho];have e1:first.map ρ=⟨first.toList.map ρ⟩:=by rw [<- pi]
      have e2:captured.map ρ=⟨captured.toList.map ρ⟩:=by rw [<- pi]
      rw [e1,e2];exact mz hT (.fn (zv9 hρ _) (zv9 hρ _))
    . simp at ht
  . rename_i t x lo hi mx ho;unfold cop;simp only [ho];exact ycg hT (hρ x) (yg4 hρ _) (yg4 hρ _) (yg4 hρ _) ht
  . rename_i t x k ho;unfold cop;simp only [ho];exact zzx hT (hρ x) ht
  . rename_i t x k ho;unfold cop;simp only [ho];exact ycj hT (hρ x) ht
  . rename_i t x ix ho;unfold cop;simp only [ho];exact zzw hT (hρ x) (hρ ix) ht
  . rename_i t x ix ho;unfold cop;simp only [ho];exact yci hT (hρ x) (hρ ix) ht
  . rename_i x k ho;unfold cop;simp only [ho];exact z47 hT (hρ x) ht
  . rename_i op t x ho;unfold cop;simp only [ho];exact yo4 hT ho (hρ x) ht
  . rename_i src dst x ho;unfold cop;simp only [ho];exact z1u hE hT ho (hρ x) ht
  . rename_i op t x y t2 ho;unfold cop;simp only [ho];exact ym1 hE hT ho (hρ x) (hρ y) ht
  . rename_i t x k ok ho;unfold cop;simp only [ho];exact yan hT (hρ x) (hρ k) ht
  . rename_i c ho;split at ht
    . rename_i b hc;obtain ⟨cal,args,tys⟩:=c;simp only at hc ht;subst hc;unfold cop;simp only [ho];exact zr1 hT hρ ho ht
    . simp at ht
  . simp at ht
theorem zzy (hE:zdi P Γ) (hT:TRel GL A β S s) {own:List Nat} {ρT:gb->T} {ρ:gb->Value} (hρ:∀ x,VT A β (zaa s.obj) (ρT x) (ρ x)) {call:zej} {o:Oper} {r:T} (ht:zes P Γ own ρT o S=some (r,S')):Ok GL A β s (cop P Γ call ρ o s) r S':=by
  unfold zes at ht;split at ht
  . rename_i e ho;unfold cop;simp only [ho];exact ycn hT ht
  . rename_i e x ho;unfold cop;simp only [ho];exact ym0 hT (hρ x) ht
  . rename_i t n parts ho;unfold cop;simp only [ho]
    cases hw:ownD own o.dst with
    |true=>rw [hw] at ht;exact z1v hT hρ ht
    |false =>
      rw [hw] at ht;obtain ⟨h1,rfl⟩:=zsx ht;exact (zm4 hT hρ h1).ok
  . rename_i t x v ho;obtain ⟨h1,rfl⟩:=zzp ht;unfold cop;simp only [ho];exact ycf hT (hρ x) (hρ v) h1
  . rename_i t l c ho;unfold cop;simp only [ho];exact zzv hT (hρ l) (hρ c) ht
  . rename_i src dst x ho;unfold cop;simp only [ho]
    cases hw:ownD own o.dst with
    |true=>rw [hw] at ht;exact z48 hT (hρ x) ht
    |false =>
      rw [hw] at ht;obtain ⟨h1,rfl⟩:=zsx ht;exact (z1u hE hT ho (hρ x) h1).ok
  . rename_i ho;unfold cop;simp only [ho];exact z46 hT ht
  . rename_i t m k v ho;obtain ⟨h1,rfl⟩:=zzp ht;unfold cop;simp only [ho];exact zpr hT (hρ k) (hρ v) (hρ m) h1
  . rename_i t m k v ho;obtain ⟨h1,rfl⟩:=zzp ht;unfold cop;simp only [ho];exact zpr hT (hρ k) (hρ v) (hρ m) h1
  . rename_i c ho;obtain ⟨cal,args,tys⟩:=c;simp only at ht;split at ht
    . split at ht
      . rename_i x y t tx e1 e2;unfold cop;simp only [ho];rw [e1,e2]
        cases hq:srcT Γ tx with
        |false=>rw [hq] at ht;simp at ht
        |true =>
          rw [hq,cond_true] at ht;rw [yed hq];exact yao hT (hρ x) (hρ y) ht
      . simp at ht
    . split at ht
      . rename_i x y t tx e1 e2;unfold cop;simp only [ho];rw [e1,e2];exact yhi hT (hρ x) (hρ y) ht
      . simp at ht
    . split at ht
      . rename_i x t e1 e2;unfold cop;simp only [ho];rw [e1,e2];exact yck hT (hρ x) ht
      . simp at ht
    . obtain ⟨h1,rfl⟩:=zsx ht;unfold cop;simp only [ho];exact (zr1 hT hρ ho h1).ok
    . simp at ht
  . obtain ⟨h1,rfl⟩:=zsx ht;exact (z68 hE hT hρ h1).ok
end
def Call (P:gt) (Γ:Env) (GL:List (Nat×List Value)) (f:mq) (args:List T) (S:TS) (v:T) (S':TS):Prop :=
  ∀ A β s vargs,TRel GL A β S s->VL A β (zaa s.obj) args vargs->Ok GL A β s (zeq P Γ f vargs s) v S'
def zja (ops:List Oper) (h:Nat->T):Option (Nat×Bool)->Option Bool
  |none=>some true
  |some (j,want)=>match zpi ops j with
    |some d=>(match h d with|.bool b=>some (b == want)|.tup _=>some false|_=>none)
    |none=>none
def z1e (P:gt) (Γ:Env) (GL:List (Nat×List Value)) (S:TS) (args:List T) (f:T) (r:T×TS):Option Prop:=match f with
  |.fn k first cap=>some (Call P Γ GL k (first++args++cap) S r.1 r.2)
  |_=>none
def andT (p:Prop):Option (Prop×(Nat->T)×TS)->Option (Prop×(Nat->T)×TS)
  |some (q,h,S)=>some (p/\q,h,S)
  |none=>none
def runT (P:gt) (Γ:Env) (GL:List (Nat×List Value)) (own:List Nat) (ops:List Oper):List Oper->(Nat->T)->TS->List (T×TS)->Option (Prop×(Nat->T)×TS)
  |[],h,S,_=>some (True,h,S)
  |o :: l,h,S,outs=>match zja ops h o.guard with
    |none=>none
    |some false=>runT P Γ GL own ops l (putT h o.dst (.tup [])) S outs
    |some true=>match o.op with
      |.call ⟨.value f,args,tys⟩=>(match outs with
        |r :: outs=>(match z1e P Γ GL S (args.toList.map (zdo GL h)) (zdo GL h f) r with
          |some p=>andT p (runT P Γ GL own ops l (putT h o.dst r.1) r.2 outs)
          |none=>none)
        |[]=>none)
      |_=>(match zes P Γ own (zdo GL h) o S with
        |some (t,S1)=>runT P Γ GL own ops l (putT h o.dst t) S1 outs
        |none=>none)
section
variable {GL:List (Nat×List Value)} {A A' A2:Nat->Prop} {β β' β2:Bx} {S S':TS} {s s' s2:CS} {P:gt} {Γ:Env}
theorem zi9 {g:Nat->Fam} {ops:List Oper} {h:Nat->T} {N:Nat} {fr:Fr} {o:Oper} {b:Bool} (k:FrOk A β g N h fr) (hg:zja ops h o.guard=some b):zdh ops fr o=b:=by
  unfold zja at hg;unfold zdh;split at hg
  . rename_i hh;cases hg;rw [hh]
  . rename_i j want hh;rw [hh];split at hg
    . rename_i d hd;simp only [hd];split at hg
      . rename_i b' hb;have:=k.slot d;rw [hb] at this;generalize fr.get d=v at this;cases this;simp only [ff] at hg;exact hg
      . rename_i l hb;have:=k.slot d;rw [hb] at this;generalize fr.get d=v at this;cases this;simp only [ff] at hg;exact hg
      . simp at hg
    . simp at hg
def Left (GL:List (Nat×List Value)) (A:Nat->Prop) (β:Bx) (s:CS) (N:Nat) (fr':Fr) (s':CS) (h':Nat->T) (S':TS):Prop :=
  ∃ A' β',FrOk A' β' (zaa s'.obj) N h' fr'/\TRel GL A' β' S' s'/\Stp A β s A' β' s'
theorem Left.trans {N:Nat} {fr' fr2:Fr} {h' h2:Nat->T} {S2:TS} (hl:s.lim<=s.n) (hS:Stp A β s A' β' s') (k:Left GL A' β' s' N fr2 s2 h2 S2):Left GL A β s N fr2 s2 h2 S2:=by
  obtain ⟨A2,β2,k1,k2,k3⟩:=k;exact ⟨A2,β2,k1,k2,hS.trans hl k3⟩
theorem z5j (hE:zdi P Γ) {own:List Nat} {ops:List Oper} {N:Nat}:∀ {l:List Oper} {h h':Nat->T} {S S':TS} {outs:List (T×TS)} {ob:Prop} {A:Nat->Prop} {β:Bx} {fr:Fr} {s:CS},zfk N l=true->FrOk A β (zaa s.obj) N h fr->TRel GL A β S s->runT P Γ GL own ops l h S outs=some (ob,h',S')->ob ->
    ∃ fr' s',runC P Γ (zeq P Γ) ops l fr s=some (fr',s')/\Left GL A β s N fr' s' h' S'
  |[],h,h',S,S',outs,ob,A,β,fr,s,hd,hF,hT,hr,hob=>by
    simp only [runT,ff,fo] at hr;obtain ⟨rfl,rfl,rfl⟩:=hr;exact ⟨fr,s,rfl,A,β,hF,hT,si⟩
  |o :: l,h,h',S,S',outs,ob,A,β,fr,s,hd,hF,hT,hr,hob=>by
    have hd':zfk N l=true/\∀ t,o.dst=some t->t<N:=by
      unfold zfk at hd ⊢;rw [jr,fk] at hd;refine ⟨hd.2,fun t ht=>?_⟩;have:=hd.1;rw [ht] at this;exact zad.1 this
    -- one step that is done
    have go:∀ {t:T} {S1:TS} {r:Option (Value×CS)} {l':List (T×TS)} {ob':Prop},Ok GL A β s r t S1->(cop P Γ (zeq P Γ) (zhj fr) o s=r)->zdh ops fr o=true->runT P Γ GL own ops l (putT h o.dst t) S1 l'=some (ob',h',S')->ob'->∃ fr' s',runC P Γ (zeq P Γ) ops (o :: l) fr s=some (fr',s')/\Left GL A β s N fr' s' h' S':=by
      rintro t S1 r l' ob' ⟨v,s1,A1,β1,rfl,k1,k2,k3⟩ hc hw hrun hob';have hF1:FrOk A1 β1 (zaa s1.obj) N h fr:=hF.mono k3.sub (k3.old hT) k3.bx;obtain ⟨fr',s',e1,e2⟩:=z5j hE hd'.1 (hF1.put hd'.2 k2) k1 hrun hob';refine ⟨fr',s',?_,Left.trans (h':=h) (fr':=fr) hT.le k3 e2⟩;rw [runC]
      have:zc0 P Γ (zeq P Γ) ops o fr s=some (putC fr o.dst v,s1):=by
        unfold zc0;rw [hw,cond_true,hc]
      rw [this];exact e1
    unfold runT at hr;split at hr
    . simp at hr
    . rename_i hg;have hw:=zi9 hF hg;obtain ⟨fr',s',e1,e2⟩:=z5j hE hd'.1 (hF.put hd'.2 VT.undf) hT hr hob;refine ⟨fr',s',?_,e2⟩;rw [runC]
      have:zc0 P Γ (zeq P Γ) ops o fr s=some (putC fr o.dst undef,s):=by
        unfold zc0;rw [hw,cond_false]
      rw [this];exact e1
    . rename_i hg;have hw:=zi9 hF hg;split at hr
      . rename_i f args tys ho;split at hr
        . rename_i r outs';split at hr
          . rename_i p hp;unfold z1e at hp;split at hp
            . rename_i k first cap hf
              simp only [ff] at hp;subst hp
              cases hrun:runT P Γ GL own ops l (putT h o.dst r.1) r.2 outs' with
              |none=>rw [hrun] at hr;simp [andT] at hr
              |some q =>
                obtain ⟨q1,q2,q3⟩:=q;rw [hrun] at hr;simp only [andT,ff,fo] at hr;obtain ⟨rfl,rfl,rfl⟩:=hr;have hfv:=hF.eval hT f;rw [hf] at hfv;generalize e1:zhj fr f=vf at hfv
                cases hfv with
                |fn h1 h2 =>
                  rename_i va vc;have hargs:=zv9 (hF.eval hT) args.toList;have hcall:=hob.1 A β s _ hT ((h1.append hargs).append h2);refine go hcall ?_ hw hrun hob.2;unfold cop;simp only [ho,e1];unfold zoy;rfl
            . simp at hp
          . simp at hr
        . simp at hr
      . split at hr
        . rename_i t S1 hst;exact go (zzy hE hT (hF.eval hT) hst) rfl hw hr hob
        . simp at hr
end
section
variable {GL:List (Nat×List Value)} {A A' A2:Nat->Prop} {β β' β2:Bx} {S S' S2:TS} {s s' s2:CS} {P:gt} {Γ:Env} {N:Nat} {h h' h2:Nat->T} {Q R:Exit->(Nat->T)->TS->Prop}
def TW (P:gt) (Γ:Env) (GL:List (Nat×List Value)) (N:Nat) (c:Code) (h:Nat->T) (S:TS) (Q:Exit->(Nat->T)->TS->Prop):Prop :=
  ∀ A β fr s,FrOk A β (zaa s.obj) N h fr->TRel GL A β S s->W P Γ c fr s fun e fr' s'=>∃ h' S',Left GL A β s N fr' s' h' S'/\Q e h' S'
def onT (k:(Nat->T)->TS->Prop) (Q:Exit->(Nat->T)->TS->Prop) (e:Exit) (h:Nat->T) (S:TS):Prop:=match e with
  |.normal=>k h S
  |e=>Q e h S
def onTB (id:Nat) (Q:Exit->(Nat->T)->TS->Prop) (e:Exit) (h:Nat->T) (S:TS):Prop:=match e with
  |.exit i=>bif fy i id then Q .normal h S else Q (.exit i) h S
  |e=>Q e h S
theorem Left.refl {fr:Fr} (hF:FrOk A β (zaa s.obj) N h fr) (hT:TRel GL A β S s):Left GL A β s N fr s h S:=⟨A,β,hF,hT,si⟩
theorem TW.mono {c:Code} (k:TW P Γ GL N c h S Q) (hq:∀ e h S,Q e h S->R e h S):TW P Γ GL N c h S R:=fun A β fr s hF hT =>
  (k A β fr s hF hT).mono fun e fr' s' ⟨h',S',h1,h2⟩=>⟨h',S',h1,hq _ _ _ h2⟩
theorem TW.skip (k:Q .normal h S):TW P Γ GL N .skip h S Q:=fun A β fr s hF hT=>W.skip ⟨h,S,Left.refl hF hT,k⟩
theorem TW.ret (k:Q .ret h S):TW P Γ GL N .ret h S Q:=fun A β fr s hF hT=>W.ret ⟨h,S,Left.refl hF hT,k⟩
theorem TW.exit {id:Nat} (k:Q (.exit id) h S):TW P Γ GL N (.exit id) h S Q:=fun A β fr s hF hT=>W.exit ⟨h,S,Left.refl hF hT,k⟩
theorem TW.label {l:Nat} (k:Q .normal h S):TW P Γ GL N (.label l) h S Q:=fun A β fr s hF hT=>W.label ⟨h,S,Left.refl hF hT,k⟩
theorem TW.seq {a b:Code} (k:TW P Γ GL N a h S (onT (fun h S=>TW P Γ GL N b h S Q) Q)):TW P Γ GL N (.seq a b) h S Q:=fun A β fr s hF hT=>by
  refine W.seq ((k A β fr s hF hT).mono ?_);rintro e fr' s' ⟨h',S',⟨A',β',k1,k2,k3⟩,hq⟩
  cases e with
  |normal =>
    refine (hq A' β' fr' s' k1 k2).mono ?_;rintro e2 fr2 s2 ⟨h2,S2,l2,q2⟩;exact ⟨h2,S2,Left.trans (h':=h) (fr':=fr) hT.le k3 l2,q2⟩
  |_=>exact ⟨h',S',⟨A',β',k1,k2,k3⟩,hq⟩
theorem TW.cond {c:gb} {t f:Code} {b:Bool} (hb:zdo GL h c=.bool b) (k:TW P Γ GL N (bif b then t else f) h S Q):TW P Γ GL N (.cond c t f) h S Q:=fun A β fr s hF hT=>by
  have:=hF.eval hT c;rw [hb] at this;refine W.cond (b:=b) ?_ (k A β fr s hF hT);generalize zhj fr c=v at this;cases this;rfl
theorem TW.block {id:Nat} {b:Code} (k:TW P Γ GL N b h S (onTB id Q)):TW P Γ GL N (.block id b) h S Q:=fun A β fr s hF hT=>by
  refine W.block ((k A β fr s hF hT).mono ?_);rintro e fr' s' ⟨h',S',l,hq⟩
  cases e with
  |exit i =>
    simp only [onB];simp only [onTB] at hq
    cases hb:fy i id with
    |true=>rw [hb] at hq;exact ⟨h',S',l,hq⟩
    |false=>rw [hb] at hq;exact ⟨h',S',l,hq⟩
  |_=>exact ⟨h',S',l,hq⟩
theorem TW.scope {b:Code} (k:TW P Γ GL N b h S Q):TW P Γ GL N (.scope b) h S Q:=fun A β fr s hF hT=>W.scope (k A β fr s hF hT)
theorem TW.loop {b:Code} (I:Nat->(Nat->T)->TS->Prop) (hb:∀ n h S,I n h S->TW P Γ GL N b h S (onT (fun h S=>∃ m,m<n/\I m h S) Q)):∀ n h S,I n h S->TW P Γ GL N (.loop b) h S Q:=by
  intro n
  induction n using Nat.strongRecOn with
  |_ n ih =>
    intro h S hI A β fr s hF hT;obtain ⟨e,fr1,s1,h1,h',S',⟨A',β',k1,k2,k3⟩,hq⟩:=hb n h S hI A β fr s hF hT
    cases e with
    |normal =>
      obtain ⟨m,hm,hI'⟩:=hq;obtain ⟨e2,fr2,s2,h3,h2,S2,l2,q2⟩:=ih m hm h' S' hI' A' β' fr1 s1 k1 k2;exact ⟨e2,fr2,s2,Ev.again h1 h3,h2,S2,Left.trans (h':=h) (fr':=fr) hT.le k3 l2,q2⟩
    |_=>exact ⟨_,_,_,Ev.last h1 (by simp),h',S',⟨A',β',k1,k2,k3⟩,hq⟩
theorem TW.region (hE:zdi P Γ) {id:Nat} {ops:Array Oper} (own:List Nat) (outs:List (T×TS)) {ob:Prop} (hd:zfk N ops.toList=true) (hr:runT P Γ GL own ops.toList ops.toList h S outs=some (ob,h',S')) (hob:ob) (hq:Q .normal h' S'):TW P Γ GL N (.region id ops false) h S Q:=fun A β fr s hF hT=>by
  obtain ⟨fr',s',e1,e2⟩:=z5j hE hd hF hT hr hob;exact W.region e1 ⟨h',S',e2,hq⟩
def resT (Γ:Env) (S:TS) (h:Nat->T):List ResultVar->Option (List T)
  |[]=>some []
  |.tmp t :: l=>(match resT Γ S h l with|some vs=>some (h t :: vs)|none=>none)
  |.cell a ty :: l=>(match ztv Γ S ty (h a),resT Γ S h l with|some v,some vs=>some (v :: vs)|_,_=>none)
def tupT:List T->T
  |[v]=>v
  |vs=>.tup vs
theorem z0d:∀ {l:List ResultVar} {vs:List T} {fr:Fr} {s:CS},FrOk A β (zaa s.obj) N h fr->TRel GL A β S s->resT Γ S h l=some vs->∃ ws s',resC Γ fr s l=some (ws,s')/\VL A β (zaa s.obj) vs ws/\TRel GL A β S s'/\Stp A β s A β s'/\s'.obj=s.obj
  |[],vs,fr,s,hF,hT,hr=>by
    simp only [resT,ff] at hr;subst hr;exact ⟨[],s,rfl,.nil,hT,si,rfl⟩
  |.tmp t :: l,vs,fr,s,hF,hT,hr=>by
    simp only [resT] at hr;split at hr
    . rename_i vs' hv;cases hr;obtain ⟨ws,s',k1,k2,k3,k4,k5⟩:=z0d hF hT hv;exact ⟨_,s',by simp only [resC,k1],.cons (hF.slot t) k2,k3,k4,k5⟩
    . simp at hr
  |.cell a ty :: l,vs,fr,s,hF,hT,hr=>by
    simp only [resT] at hr;split at hr
    . rename_i v vs' hv hvs;cases hr;obtain ⟨ad,i,w,f,q1,q2,q3,q4,q5⟩:=z66 hT (hF.slot a) hv;obtain ⟨ws,s',k1,k2,k3,k4,k5⟩:=z0d (s:={ s with rd:=ins s.lim s.rd f }) hF (hT.read f) hvs;refine ⟨w :: ws,s',?_,.cons q5 k2,k3,(Stp.read q3).trans hT.le k4,k5⟩;simp only [resC,q1,q2,q4,k1]
    . simp at hr
def argT:List T->Nat->(Nat->T)->(Nat->T)
  |[],_,h=>h
  |v :: l,i,h=>argT l (i+1) (tupd h i v)
theorem zn6 (v:T) (l:List T) (i:Nat) (h:Nat->T):argT (v :: l) i h=argT l (i+1) (tupd h i v):=rfl
theorem zq3 (i:Nat) (h:Nat->T):argT [] i h=h:=rfl
theorem z6v {g:Nat->Fam}:∀ {args:List T} {vargs:List Value} {i:Nat} {h:Nat->T} {fr:Fr},VL A β g args vargs->FrOk A β g N h fr->i+args.length<=N->FrOk A β g N (argT args i h) (Fr.ofArgs vargs i fr)
  |_,_,i,h,fr,.nil,hF,_=>hF
  |_,_,i,h,fr,.cons h1 h2,hF,hl=>by
    rw [gm] at hl;show FrOk A β g N (argT _ (i+1) _) (Fr.ofArgs _ (i+1) (fr.put i _));have hi:i<N:=by omega
    exact z6v (i:=i+1) h2 (hF.put (d:=some i) (fun t ht=>by cases ht;exact hi) h1) (by rw [Nat.add_right_comm];exact hl)
theorem FrOk.start {g:Nat->Fam} (hN:N<=512):FrOk A β g N (fun _=>.junk) ⟨N,Tr.all undef 9⟩:=⟨rfl,hN,fun t=>.junk _⟩
def zwu (GL:List (Nat×List Value)) (v:T) (S:TS) (v':T) (S':TS):Prop :=
  ∀ A β s w,TRel GL A β S s->VT A β (zaa s.obj) v w->∃ A' β',TRel GL A' β' S' s/\VT A' β' (zaa s.obj) v' w/\Stp A β s A' β' s
theorem zwu.refl (v:T) (S:TS):zwu GL v S v S:=fun A β s w hT hv=>⟨A,β,hT,hv,si⟩
theorem yjs {g:Nat->Fam} {vs:List T} {ws:List Value} (h:VL A β g vs ws):VT A β g (tupT vs) (tupC ws):=by
  cases h with
  |nil=>exact .tup .nil
  |cons h1 h2 =>
    cases h2 with
    |nil=>exact h1
    |cons h3 h4=>exact .tup (.cons h1 (.cons h3 h4))
theorem Call.go {f:mq} {fn:Func} {body:Code} {args:List T} {v:T} {Sf:TS} (N:Nat) (hax:Γ.ax f=none) (hf:Γ.fn.at f=some fn) (hb:fn.body=some body) (hn:fn.ntmps=N) (hN:N<=512) (hl:args.length<=N)
    (k:TW P Γ GL N body (argT args 0 fun _=>.junk) S fun e h' S'=>(e=.normal\/e=.ret)/\∃ vs,resT Γ S' h' fn.results.toList=some vs/\zwu GL (tupT vs) S' v Sf):Call P Γ GL f args S v Sf:=by
  intro A β s vargs hT hargs;obtain ⟨e,fr',s1,h1,h',S',⟨A',β',k1,k2,k3⟩,he,vs,hr,hsh⟩:=k A β _ s (z6v hargs (FrOk.start hN) (by omega)) hT;obtain ⟨ws,s2,r1,r2,r3,r4,r5⟩:=z0d k1 k2 hr;rw [<- r5] at r2;obtain ⟨A2,β2,q1,q2,q3⟩:=hsh A' β' s2 _ r3 (yjs r2);refine ⟨tupC ws,s2,A2,β2,?_,q1,q2,(k3.trans hT.le (r4.trans k2.le q3))⟩;have hlen:=hargs.len;exact zrs hax hf hb (by omega) ⟨e,fr',s1,by rw [hn];exact h1,he,ws,r1,rfl⟩
end
mutual
def T.ids (n:Nat):T->Bool
  |.agg l=>T.idsL n l
  |.tup l=>T.idsL n l
  |.lst _ l=>T.idsL n l
  |.cp l=>T.idsL n l
  |.ptr b _ _=>ig b n
  |.arr b _ _ _ _ _=>ig b n
  |.mp b=>ig b n
  |.fn _ a c=>T.idsL n a && T.idsL n c
  |_=>true
def T.idsL (n:Nat):List T->Bool
  |[]=>true
  |t :: l=>T.ids n t && T.idsL n l
end
mutual
def T.flat:T->Bool
  |.agg l=>T.flatL l
  |.tup l=>T.flatL l
  |.int _ _=>true
  |.bool _=>true
  |.str _=>true
  |.nils=>true
  |.nilp=>true
  |.nilm=>true
  |.nilf=>true
  |.junk=>true
  |_=>false
def T.flatL:List T->Bool
  |[]=>true
  |t :: l=>T.flat t && T.flatL l
end
section
variable {GL:List (Nat×List Value)} {A A' A2:Nat->Prop} {β β' β2:Bx} {S S' S2:TS} {s s' s2:CS} {P:gt} {Γ:Env} {N:Nat} {h h' h2:Nat->T} {Q R:Exit->(Nat->T)->TS->Prop} {g g':Nat->Fam}
theorem zax {n:Nat}:∀ {l l2:List T},T.idsL n (l++l2)=(T.idsL n l && T.idsL n l2)
  |[],l2=>by simp [T.idsL]
  |t :: l,l2=>by simp only [gw,T.idsL,zax,Bool.and_assoc]
theorem yfi {n:Nat} {t:T} (h:t.ids n=true):T.idsL n t.cells=true:=by
  cases t<;>first|exact h | (simp only [jh,T.idsL,h,gd])
theorem zlv {n:Nat}:∀ {l:List T},T.idsL n l=true->T.idsL n (l.flatMap jh)=true
  |[],_=>rfl
  |t :: l,h=>by
    simp only [T.idsL,fk] at h;rw [jf,zax,yfi h.1,zlv h.2];rfl
theorem z8z {n:Nat}:∀ {l:List T},(∀ t,t∈l->t.ids n=true)->T.idsL n l=true
  |[],_=>rfl
  |t :: l,h=>by
    simp only [T.idsL,fk];exact ⟨h t (by simp),z8z fun t ht=>h t (by simp [ht])⟩
mutual
theorem VT.ids {n:Nat} (hβ:∀ b,b<n->β' b=β b):∀ {t:T} {v:Value},t.ids n=true->VT A β g t v->VT A β' g t v
  |_,_,_,.int k n=>.int k n
  |_,_,_,.bool b=>.bool b
  |_,_,_,.str b=>.str b
  |_,_,hi,.agg h=>.agg (VL.ids hβ hi h)
  |_,_,hi,.tup h=>.tup (VL.ids hβ hi h)
  |_,_,_,.lnil=>.lnil
  |_,_,hi,.lst h1 h2 h3 h4 h5 h6 h7 h8=>.lst h1 h2 (VL.ids hβ (zlv hi) h3) h4 h5 h6 h7 h8
  |_,_,_,.nils=>.nils
  |_,_,_,.nilp=>.nilp
  |_,_,_,.nilm=>.nilm
  |_,_,_,.nilf=>.nilf
  |_,_,hi,.ptr h=>.ptr (by rw [hβ _ (zad.1 hi)];exact h)
  |_,_,hi,.ptrOld h h0 h1 h2=>.ptrOld (by rw [hβ _ (zad.1 hi)];exact h) h0 h1 h2
  |_,_,hi,.cp h1 h2 h3 h4=>.cp h1 h2 (VL.ids hβ hi h3) h4
  |_,_,hi,.arr h ht=>.arr (by rw [hβ _ (zad.1 hi)];exact h) ht
  |_,_,hi,.arrNil h=>.arrNil (by rw [hβ _ (zad.1 hi)];exact h)
  |_,_,hi,.arrOld h h0 h1 h2=>.arrOld (by rw [hβ _ (zad.1 hi)];exact h) h0 h1 h2
  |_,_,hi,.mp h=>.mp (by rw [hβ _ (zad.1 hi)];exact h)
  |_,_,hi,.mpOld h h2=>.mpOld (by rw [hβ _ (zad.1 hi)];exact h) h2
  |_,_,hi,.fn h1 h2=>by
    simp only [T.ids,fk] at hi;exact .fn (VL.ids hβ hi.1 h1) (VL.ids hβ hi.2 h2)
  |_,_,_,.junk v=>.junk v
  |_,_,_,.emp h1 h2 h3 h4=>.emp h1 h2 h3 h4
theorem VL.ids {n:Nat} (hβ:∀ b,b<n->β' b=β b):∀ {l:List T} {vs:List Value},T.idsL n l=true->VL A β g l vs->VL A β' g l vs
  |_,_,_,.nil=>.nil
  |_,_,hi,.cons h k=>by
    simp only [T.idsL,fk] at hi;exact .cons (VT.ids hβ hi.1 h) (VL.ids hβ hi.2 k)
end
mutual
theorem VT.flat:∀ {t:T} {v:Value},t.flat=true->VT A β g t v->VT A' β' g' t v
  |_,_,_,.int k n=>.int k n
  |_,_,_,.bool b=>.bool b
  |_,_,_,.str b=>.str b
  |_,_,hi,.agg h=>.agg (VL.flat hi h)
  |_,_,hi,.tup h=>.tup (VL.flat hi h)
  |_,_,_,.nils=>.nils
  |_,_,_,.nilp=>.nilp
  |_,_,_,.nilm=>.nilm
  |_,_,_,.nilf=>.nilf
  |_,_,_,.junk v=>.junk v
  |_,_,hi,.lnil=>by simp [T.flat] at hi
  |_,_,hi,.lst _ _ _ _ _ _ _ _=>by simp [T.flat] at hi
  |_,_,hi,.ptr _=>by simp [T.flat] at hi
  |_,_,hi,.ptrOld _ _ _ _=>by simp [T.flat] at hi
  |_,_,hi,.cp _ _ _ _=>by simp [T.flat] at hi
  |_,_,hi,.arr _ _=>by simp [T.flat] at hi
  |_,_,hi,.arrNil _=>by simp [T.flat] at hi
  |_,_,hi,.arrOld _ _ _ _=>by simp [T.flat] at hi
  |_,_,hi,.mp _=>by simp [T.flat] at hi
  |_,_,hi,.mpOld _ _=>by simp [T.flat] at hi
  |_,_,hi,.fn _ _=>by simp [T.flat] at hi
  |_,_,hi,.emp _ _ _ _=>by simp [T.flat] at hi
theorem VL.flat:∀ {l:List T} {vs:List Value},T.flatL l=true->VL A β g l vs->VL A' β' g' l vs
  |_,_,_,.nil=>.nil
  |_,_,hi,.cons h k=>by
    simp only [T.flatL,fk] at hi;exact .cons (VT.flat hi.1 h) (VL.flat hi.2 k)
end
def bx0:Bx:=fun _=>none
theorem zmb {f:Nat}:¬ Own bx0 f:=fun ⟨b,h⟩=>by rcases h with ⟨u,N,h⟩|h<;>simp [bx0] at h
theorem TRel.bare (hT:TRel GL A β S s) (A1:Nat->Prop) (h1:∀ f,A f->A1 f) (h2:∀ f,A1 f->f<s.n):TRel GL A1 bx0 ts0 s :=
  ⟨hT.inr,hT.inv,h2,fun f hf=>absurd hf zmb,fun b b' l l' f hb=>by simp [bx0] at hb,fun b _=>rfl,fun b z N l hb=>by simp [ts0] at hb,fun b l hb=>by simp [ts0] at hb,fun x hx=>⟨h1 _ (hT.glob x hx).1,(hT.glob x hx).2⟩⟩
def Pure (P:gt) (Γ:Env) (GL:List (Nat×List Value)) (f:mq) (args:List T) (v:T):Prop:=T.idsL 0 args=true/\v.ids 0=true/\Call P Γ GL f args ts0 v ts0
def zal (P:gt) (Γ:Env) (GL:List (Nat×List Value)) (f:mq) (args:List T) (S:TS) (v:T):Prop :=
  ∀ A β s vargs,TRel GL A β S s->VL A β (zaa s.obj) args vargs->Ok0 GL A β S s (zeq P Γ f vargs s) v
theorem zal.call {f:mq} {args:List T} {v:T} (k:zal P Γ GL f args S v):Call P Γ GL f args S v S:=fun A β s vargs hT hv=>(k A β s vargs hT hv).ok
theorem Pure.call {f:mq} {args:List T} {v:T} (k:Pure P Γ GL f args v) (S:TS):zal P Γ GL f args S v:=by
  intro A β s vargs hT hv;obtain ⟨k1,k2,k3⟩:=k;have hT0:=hT.bare A (fun _ h=>h) hT.alt;obtain ⟨w,s',A',β',e1,e2,e3,e4⟩:=k3 A bx0 s vargs hT0 (VL.ids (n:=0) (fun b hb=>absurd hb (by omega)) k1 hv)
  have hc:zkh A β s A' s':=by
    refine ⟨e4.can,e4.sub,fun f hf=>?_,fun f hf=>e4.keep f hf zmb,fun x hx=>?_,fun x hx=>?_⟩
    . rcases e4.new f hf with q|q|q
      . exact .inl q
      . exact .inr q
      . exact absurd q zmb
    . rcases e4.rd x hx with q|⟨q,q2⟩
      . exact .inl q
      . exact .inr ⟨q,.inl (q2.resolve_right zmb)⟩
    . rcases e4.wr x hx with q|⟨_,q⟩
      . exact q
      . exact absurd q zmb
  exact ⟨w,s',A',e1,hc.rel hT e2.inr e2.inv e2.alt,VT.ids (n:=0) (fun b hb=>absurd hb (by omega)) k2 e3,hc⟩
def yjj (S:TS) (t t':T):Prop:=t=t'\/∃ b e off len cap N z l L,t=.arr b e off len cap N/\t'=.lst e L/\S.box b=.cells z N l/\0<e/\off+len*e<=N/\(l.drop off).take (len*e)=L.flatMap jh/\(∀ t,t∈L->t.cells.length=e)/\L.length=len/\len<=cap
def Lend (S:TS):List T->List T->Prop
  |[],[]=>True
  |t :: l,t' :: l'=>yjj S t t'/\Lend S l l'
  |_,_=>False
theorem yil (hT:TRel GL A β S s) {t t':T} {v:Value} (hi:t'.ids 0=true) (hl:yjj S t t') (hv:VT A β (zaa s.obj) t v):VT (fun f=>A f\/Own β f) bx0 (zaa s.obj) t' v:=by
  rcases hl with rfl|⟨b,e,off,len,cap,N,z,l,L,rfl,rfl,hS,he,hN,hL,hs,hlen,hcap⟩
  . exact (VT.ids (n:=0) (β':=bx0) (fun b hb=>absurd hb (by omega)) hi hv).mono (fun _ h=>.inl h) (fun _ _=>rfl) (lq _)
  . rcases zgk hT hS hv with ⟨f,u,rfl,hb,htag⟩|⟨rfl,hb,rfl,rfl,rfl,rfl⟩
    . obtain ⟨hlN,hc⟩:=hT.cells b z N l hS;rcases hc with ⟨hb2,_,_⟩|⟨f',u',cs,rest,hb2,hz,hat,hvl,hone⟩
      . rw [hb] at hb2;simp at hb2
      rw [hb] at hb2;cases hb2;have hcl:=hvl.len
      have hrow:zbo (zaa s.obj f).rows u=some cs:=by
        rw [hat];show zbo ((u,cs) :: rest) u=some cs;unfold zbo;rw [jc];rfl
      have h1:VL A β (zaa s.obj) (L.flatMap jh) ((cs.drop off).take (len*e)):=by rw [<- hL];exact (hvl.drop off).take _
      have h2:VL (fun f=>A f\/Own β f) bx0 (zaa s.obj) (L.flatMap jh) ((cs.drop off).take (len*e)) :=
        (VL.ids (n:=0) (β':=bx0) (fun b hb=>absurd hb (by omega)) (zlv hi) h1).mono (fun _ h=>.inl h) (fun _ _=>rfl) (lq _)
      have h3:((cs.drop off).take (len*e)).length=len*e:=by rw [il,jk];omega
      have:=VT.lst (A:=fun f=>A f\/Own β f) (β:=bx0) (g:=zaa s.obj) (off:=off) (cap:=cap) (.inr (zcq hb)) hrow h2 hs he (by rw [h3]) htag (by omega);rw [hlen] at this;exact this
    . have:L=[]:=jd hlen;subst this;exact .lnil
theorem ye1 (hT:TRel GL A β S s):∀ {l l':List T} {vs:List Value},T.idsL 0 l'=true->Lend S l l'->VL A β (zaa s.obj) l vs->VL (fun f=>A f\/Own β f) bx0 (zaa s.obj) l' vs
  |[],[],_,_,_,.nil=>.nil
  |t :: l,t' :: l',_,hi,hl,.cons h1 h2=>by
    simp only [T.idsL,fk] at hi;exact .cons (yil hT hi.1 hl.1 h1) (ye1 hT hi.2 hl.2 h2)
  |[],_ :: _,_,_,hl,_=>hl.elim
  |_ :: _,[],_,_,hl,_=>hl.elim
theorem Pure.lend {f:mq} {args args':List T} {v:T} (k:Pure P Γ GL f args' v) (hl:Lend S args args') (hv:v.flat=true):zal P Γ GL f args S v:=by
  intro A β s vargs hT hva;obtain ⟨k1,k2,k3⟩:=k;have hA1:∀ f,(A f\/Own β f)->f<s.n:=fun f hf=>hf.elim (hT.alt f) fun h=>(hT.dis f h).1;have hT0:=hT.bare (fun f=>A f\/Own β f) (fun _ h=>.inl h) hA1;obtain ⟨w,s',A',β',e1,e2,e3,e4⟩:=k3 _ bx0 s vargs hT0 (ye1 hT k1 hl hva)
  have hc:zkh A β s A s':=by
    refine ⟨e4.can,fun _ h=>h,fun f hf=>.inl hf,fun f hf=>e4.keep f hf zmb,fun x hx=>?_,fun x hx=>?_⟩
    . rcases e4.rd x hx with q|⟨q,q2⟩
      . exact .inl q
      . exact .inr ⟨q,q2.resolve_right zmb⟩
    . rcases e4.wr x hx with q|⟨_,q⟩
      . exact q
      . exact absurd q zmb
  exact ⟨w,s',A,e1,hc.rel hT e2.inr e2.inv (fun f hf=>gz (hT.alt f hf) e4.can.n),e3.flat hv,hc⟩
def bcut (β:Bx) (n:Nat):Bx:=fun b=>if b<n then β b else none
def zh8 (n:Nat):Box->Bool
  |.gone=>true
  |.cells _ _ l=>T.idsL n l
  |.map l=>T.idsL n (l.map (·.1)) && T.idsL n (l.map (·.2))
def zrw (S1 Sf:TS):Prop:=Sf.n<=S1.n/\∀ b,Sf.box b=.gone\/(b<Sf.n/\Sf.box b=S1.box b/\zh8 Sf.n (S1.box b)=true)
theorem TRel.cut (hT:TRel GL A β S s) (hk:zrw S S2):TRel GL A (bcut β S2.n) S2 s:=by
  have hat:∀ b,b<S2.n->bcut β S2.n b=β b:=fun b hb=>zAc hb
  have hsub:∀ b l,bcut β S2.n b=some l->β b=some l:=fun b l h=>by
    unfold bcut at h;split at h
    . exact h
    . simp at h
  have hown:∀ f,Own (bcut β S2.n) f->Own β f:=fun f ⟨b,hb⟩=>⟨b,hb.imp (fun ⟨u,N,h⟩=>⟨u,N,hsub _ _ h⟩) fun h=>hsub _ _ h⟩;refine ⟨hT.inr,hT.inv,hT.alt,fun f hf=>hT.dis f (hown f hf),fun b b' l l' f hb hb'=>hT.inj b b' l l' f (hsub _ _ hb) (hsub _ _ hb'),fun b hb=>zAd (by omega),fun b z N l hb=>?_,fun b l hb=>?_,hT.glob⟩
  . rcases hk.2 b with q|⟨q1,q2,q3⟩
    . rw [q] at hb;simp at hb
    . rw [q2] at hb;obtain ⟨c1,c2⟩:=hT.cells b z N l hb;rw [hb] at q3;refine ⟨c1,?_⟩;rcases c2 with ⟨d1,d2,d3⟩|⟨f,u,cs,rest,d1,d2,d3,d4,d5⟩
      . exact .inl ⟨by rw [hat b q1];exact d1,d2,d3⟩
      . exact .inr ⟨f,u,cs,rest,by rw [hat b q1];exact d1,d2,d3,VL.ids hat q3 d4,d5⟩
  . rcases hk.2 b with q|⟨q1,q2,q3⟩
    . rw [q] at hb;simp at hb
    . rw [q2] at hb;obtain ⟨r,es,c1,c2,c3,c4⟩:=hT.maps b l hb;rw [hb] at q3;simp only [zh8,fk] at q3;exact ⟨r,es,by rw [hat b q1];exact c1,c2,VL.ids hat q3.1 c3,VL.ids hat q3.2 c4⟩
theorem Call.enter {f:mq} {fn:Func} {body:Code} {args:List T} {v:T} {Sf:TS} (N:Nat) (hax:Γ.ax f=none) (hf:Γ.fn.at f=some fn) (hb:fn.body=some body) (hn:fn.ntmps=N) (hN:N<=512) (hl:args.length<=N) (hSf:S.n<=Sf.n) (hv:v.ids Sf.n=true)
    (k:TW P Γ GL N body (argT args 0 fun _=>.junk) S fun e h' S'=>(e=.normal\/e=.ret)/\∃ vs,resT Γ S' h' fn.results.toList=some vs/\∃ S1,zwu GL (tupT vs) S' v S1/\zrw S1 Sf):Call P Γ GL f args S v Sf:=by
  intro A β s vargs hT hargs;obtain ⟨e,fr',s1,h1,h',S',⟨A',β',k1,k2,k3⟩,he,vs,hr,S1,hsh,hkp⟩:=k A β _ s (z6v hargs (FrOk.start hN) (by omega)) hT;obtain ⟨ws,s2,r1,r2,r3,r4,r5⟩:=z0d k1 k2 hr;rw [<- r5] at r2;obtain ⟨A2,β2,q1,q2,q3⟩:=hsh A' β' s2 _ r3 (yjs r2);have hall:Stp A β s A2 β2 s2:=k3.trans hT.le (r4.trans k2.le q3);have hat:∀ b,b<Sf.n->bcut β2 Sf.n b=β2 b:=fun b hb=>zAc hb
  have hsub:∀ b l,bcut β2 Sf.n b=some l->β2 b=some l:=fun b l h=>by
    unfold bcut at h;split at h
    . exact h
    . simp at h
  refine ⟨tupC ws,s2,A2,bcut β2 Sf.n,?_,q1.cut hkp,q2.ids hat hv,hall.can,hall.sub,hall.new,fun f hf=>?_,hall.keep,fun b l hb=>?_,hall.rd,hall.wr⟩
  . have hlen:=hargs.len;exact zrs hax hf hb (by omega) ⟨e,fr',s1,by rw [hn];exact h1,he,ws,r1,rfl⟩
  . obtain ⟨b,hb⟩:=hf;exact hall.own f ⟨b,hb.imp (fun ⟨u,N,h⟩=>⟨u,N,hsub _ _ h⟩) fun h=>hsub _ _ h⟩
  . obtain ⟨l',c1,c2⟩:=hall.bx b l hb
    have:b<S.n:=by
      by_cases hh:b<S.n
      . exact hh
      . rw [hT.next b (by omega)] at hb;simp at hb
    exact ⟨l',by rw [hat b (by omega)];exact c1,c2⟩
theorem zrw.none (S:TS):zrw S ts0:=⟨iw _,fun b=>.inl rfl⟩
theorem Pure.enter {f:mq} {fn:Func} {body:Code} {args:List T} {v:T} (N:Nat) (hax:Γ.ax f=none) (hf:Γ.fn.at f=some fn) (hb:fn.body=some body) (hn:fn.ntmps=N) (hN:N<=512) (hl:args.length<=N) (ha:T.idsL 0 args=true) (hv:v.ids 0=true)
    (k:TW P Γ GL N body (argT args 0 fun _=>.junk) ts0 fun e h' S'=>(e=.normal\/e=.ret)/\resT Γ S' h' fn.results.toList=some [v]):Pure P Γ GL f args v :=
  ⟨ha,hv,Call.enter N hax hf hb hn hN hl (fp _) hv (k.mono fun e h' S' ⟨h1,h2⟩=>⟨h1,[v],h2,S',zwu.refl _ _,zrw.none S'⟩)⟩
theorem Pure.enterN {f:mq} {fn:Func} {body:Code} {args:List T} {vs:List T} (N:Nat) (hax:Γ.ax f=none) (hf:Γ.fn.at f=some fn) (hb:fn.body=some body) (hn:fn.ntmps=N) (hN:N<=512) (hl:args.length<=N) (ha:T.idsL 0 args=true) (hv:(tupT vs).ids 0=true)
    (k:TW P Γ GL N body (argT args 0 fun _=>.junk) ts0 fun e h' S'=>(e=.normal\/e=.ret)/\resT Γ S' h' fn.results.toList=some vs):Pure P Γ GL f args (tupT vs) :=
  ⟨ha,hv,Call.enter N hax hf hb hn hN hl (fp _) hv (k.mono fun e h' S' ⟨h1,h2⟩=>⟨h1,vs,h2,S',zwu.refl _ _,zrw.none S'⟩)⟩
theorem TRel.dead (hT:TRel GL A β S s) {b:Nat} {l0:Loc} (hb:β b=some l0) (A':Nat->Prop) (hA:∀ f,A f->A' f) (hA2:∀ f,A' f->A f\/l0.fam=some f) :
    TRel GL A' (bnew β b .dead) (S.set b .gone) s/\Stp A β s A' (bnew β b .dead) s:=by
  have hse:bnew β b .dead b=some .dead:=zAc rfl;have hne:∀ b',b'≠b->bnew β b .dead b'=β b':=fun b' hb'=>zAd hb'
  have hle:Bx.le β (bnew β b .dead):=fun i x hx=>by
    by_cases hi:i=b
    . subst hi;exact ⟨.dead,hse,by cases x<;>simp [Loc.le]⟩
    . exact ⟨x,by rw [hne i hi];exact hx,Loc.le_refl x⟩
  have hfam:∀ f,l0.fam=some f->Own β f:=fun f hf=>by
    cases l0 with
    |live f' u N=>simp [nh] at hf;subst hf;exact zcq hb
    |map r=>simp [nh] at hf;subst hf;exact zhh hb
    |nil=>simp [nh] at hf
    |dead=>simp [nh] at hf
  have hown:∀ f,Own (bnew β b .dead) f->Own β f/\l0.fam≠some f:=fun f ⟨b',hb'⟩=>by
    by_cases hi:b'=b
    . subst hi;rw [hse] at hb';rcases hb' with ⟨u,N,hb'⟩|hb'<;>simp at hb'
    . rw [hne b' hi] at hb';refine ⟨⟨b',hb'⟩,fun hh=>hi ?_⟩;rcases hb' with ⟨u,N,hb'⟩|hb'
      . exact hT.inj b' b _ l0 f hb' hb rfl hh
      . exact hT.inj b' b _ l0 f hb' hb rfl hh
  have hblt:b<S.n:=by
    by_cases hh:b<S.n
    . exact hh
    . rw [hT.next b (by omega)] at hb;simp at hb
  refine ⟨⟨hT.inr,hT.inv,fun f hf=>?_,fun f hf=>?_,fun b1 b2 l1 l2 f h1 h2 h3 h4=>?_,fun b' hb'=>?_,fun b' z N l hb'=>?_,fun b' l hb'=>?_,fun x hx=>⟨hA _ (hT.glob x hx).1,(hT.glob x hx).2⟩⟩,
    jn _,hA,fun f hf=>(hA2 f hf).imp id fun q=>.inr (hfam f q),fun f hf=>.inl (hown f hf).1,fun _ _ _=>rfl,hle,fun _ h=>.inl h,fun _ h=>.inl h⟩
  . rcases hA2 f hf with q|q
    . exact hT.alt f q
    . exact (hT.dis f (hfam f q)).1
  . obtain ⟨q1,q2⟩:=hown f hf;refine ⟨(hT.dis f q1).1,fun hh=>?_⟩;rcases hA2 f hh with q|q
    . exact (hT.dis f q1).2 q
    . exact q2 q
  . by_cases e1:b1=b
    . subst e1;rw [hse] at h1;cases h1;simp [nh] at h3
    . by_cases e2:b2=b
      . subst e2;rw [hse] at h2;cases h2;simp [nh] at h4
      . rw [hne b1 e1] at h1;rw [hne b2 e2] at h2;exact hT.inj b1 b2 l1 l2 f h1 h2 h3 h4
  . have:S.n<=b':=hb';rw [hne b' (by omega)];exact hT.next b' this
  . by_cases hi:b'=b
    . subst hi;rw [mv] at hb';simp at hb'
    . rw [m7 _ _ hi] at hb';exact (hT.cells b' z N l hb').mono hA (fun _ _=>rfl) hle (hne b' hi) fun _ _ _ _=>rfl
  . by_cases hi:b'=b
    . subst hi;rw [mv] at hb';simp at hb'
    . rw [m7 _ _ hi] at hb';exact (hT.maps b' l hb').mono hA (fun _ _=>rfl) hle (hne b' hi) fun _ _=>rfl
theorem TRel.freeze (hT:TRel GL A β S s) {b N:Nat} {z:Bool} {l:List T} (hS:S.box b=.cells z N l) :
    ∃ A' β',TRel GL A' β' (S.set b .gone) s/\Stp A β s A' β' s/\∀ {e off len cap:Nat} {v:Value} {L:List T},VT A β (zaa s.obj) (.arr b e off len cap N) v->0<e->off+len*e<=N->(l.drop off).take (len*e)=L.flatMap jh->(∀ t,t∈L->t.cells.length=e)->L.length=len->len<=cap->VT A' β' (zaa s.obj) (.lst e L) v:=by
  obtain ⟨hlN,hc⟩:=hT.cells b z N l hS;rcases hc with ⟨hb,hN,_⟩|⟨f,u,cs,rest,hb,hz,hat,hvl,hone⟩
  . obtain ⟨k1,k2⟩:=hT.dead hb A (fun _ h=>h) (fun _ h=>.inl h);refine ⟨_,_,k1,k2,fun {e off len cap v L} hv he hoff hL hs hlen hcap=>?_⟩;rcases zgk hT hS hv with ⟨f,u,rfl,hb',_⟩|⟨rfl,_,rfl,rfl,rfl,_⟩
    . rw [hb] at hb';simp at hb'
    . have:L=[]:=jd hlen;subst this;exact .lnil
  . obtain ⟨k1,k2⟩:=hT.dead hb (fun k=>A k\/k=f) (fun _ h=>.inl h) (fun k hk=>hk.imp id fun q=>by rw [q];rfl);refine ⟨_,_,k1,k2,fun {e off len cap v L} hv he hoff hL hs hlen hcap=>?_⟩;rcases zgk hT hS hv with ⟨f',u',rfl,hb',htag⟩|⟨rfl,hb',_⟩
    . rw [hb] at hb';cases hb';have hcl:=hvl.len
      have hrow:zbo (zaa s.obj f).rows u=some cs:=by
        rw [hat];show zbo ((u,cs) :: rest) u=some cs;unfold zbo;rw [jc];rfl
      have h1:VL A β (zaa s.obj) (L.flatMap jh) ((cs.drop off).take (len*e)):=by rw [<- hL];exact (hvl.drop off).take _
      have h3:((cs.drop off).take (len*e)).length=len*e:=by rw [il,jk];omega
      have:=VT.lst (A:=fun k=>A k\/k=f) (β:=bnew β b .dead) (g:=zaa s.obj) (off:=off) (cap:=cap) (.inr rfl) hrow (h1.mono (fun _ h=>.inl h) (fun _ _=>rfl) k2.bx) hs he (by rw [h3]) htag (by omega);rw [hlen] at this;exact this
    . rw [hb] at hb';simp at hb'
theorem TW.freeze {c:Code} (t:Nat) {b e off len cap M:Nat} {z:Bool} {l:List T} (L:List T) (ht:h t=.arr b e off len cap M) (hS:S.box b=.cells z M l) (he:0<e) (hoff:off+len*e<=M) (hL:(l.drop off).take (len*e)=L.flatMap jh) (hs:∀ t,t∈L->t.cells.length=e) (hlen:L.length=len) (hcap:len<=cap)
    (k:TW P Γ GL N c (tupd h t (.lst e L)) (S.set b .gone) Q):TW P Γ GL N c h S Q:=by
  intro A β fr s hF hT;obtain ⟨A',β',k1,k2,k3⟩:=hT.freeze hS;have hv:=hF.slot t;rw [ht] at hv
  have hF':FrOk A' β' (zaa s.obj) N (tupd h t (.lst e L)) fr:=⟨hF.nt,hF.le,fun u=>by
    by_cases hu:u=t
    . subst hu;rw [zhs];exact k3 hv he hoff hL hs hlen hcap
    . rw [zl0 _ _ _ _ hu];exact k2.vt hT (hF.slot u)⟩
  refine (k A' β' fr s hF' k1).mono ?_;rintro e2 fr2 s2 ⟨h2,S2,l2,q2⟩;exact ⟨h2,S2,Left.trans (h':=h) (fr':=fr) hT.le k2 l2,q2⟩
theorem TW.vec {c:Code} (t e:Nat) (ht:h t=.nils) (k:TW P Γ GL N c (tupd h t (.arr S.n e 0 0 0 0)) (S.add (.cells false 0 [])) Q):TW P Γ GL N c h S Q:=by
  intro A β fr s hF hT;have hv:=hF.slot t;rw [ht] at hv;have hb0:β S.n=none:=hT.next _ (fp _)
  have hle:Bx.le β (bnew β S.n .nil):=zv4 hb0;have hse:bnew β S.n .nil S.n=some .nil:=zAc rfl;have hne:∀ b',b'≠S.n->bnew β S.n .nil b'=β b':=fun b' hb'=>zAd hb'
  have hown:∀ f,Own (bnew β S.n .nil) f->Own β f:=fun f ⟨b',hb'⟩=>by
    by_cases hi:b'=S.n
    . subst hi;rw [hse] at hb';rcases hb' with ⟨u,N,hb'⟩|hb'<;>simp at hb'
    . rw [hne b' hi] at hb';exact ⟨b',hb'⟩
  have hst:Stp A β s A (bnew β S.n .nil) s:=⟨jn _,fun _ h=>h,fun _ h=>.inl h,fun f hf=>.inl (hown f hf),fun _ _ _=>rfl,hle,fun _ h=>.inl h,fun _ h=>.inl h⟩
  have hT':TRel GL A (bnew β S.n .nil) (S.add (.cells false 0 [])) s:=by
    refine ⟨hT.inr,hT.inv,hT.alt,fun f hf=>hT.dis f (hown f hf),fun b1 b2 l1 l2 f h1 h2 h3 h4=>?_,fun b' hb'=>?_,fun b' z N l hb'=>?_,fun b' l hb'=>?_,hT.glob⟩
    . by_cases e1:b1=S.n
      . subst e1;rw [hse] at h1;cases h1;simp [nh] at h3
      . by_cases e2:b2=S.n
        . subst e2;rw [hse] at h2;cases h2;simp [nh] at h4
        . rw [hne b1 e1] at h1;rw [hne b2 e2] at h2;exact hT.inj b1 b2 l1 l2 f h1 h2 h3 h4
    . have:S.n+1<=b':=hb';rw [hne b' (by omega)];exact hT.next b' (by omega)
    . by_cases hi:b'=S.n
      . subst hi;rw [sg] at hb';cases hb';exact ⟨rfl,.inl ⟨hse,rfl,rfl⟩⟩
      . rw [s7 _ _ hi] at hb';exact (hT.cells b' z N l hb').mono (fun _ h=>h) (fun _ _=>rfl) hle (hne b' hi) fun _ _ _ _=>rfl
    . by_cases hi:b'=S.n
      . subst hi;rw [sg] at hb';cases hb'
      . rw [s7 _ _ hi] at hb';exact (hT.maps b' l hb').mono (fun _ h=>h) (fun _ _=>rfl) hle (hne b' hi) fun _ _=>rfl
  have hF':FrOk A (bnew β S.n .nil) (zaa s.obj) N (tupd h t (.arr S.n e 0 0 0 0)) fr:=⟨hF.nt,hF.le,fun u=>by
    by_cases hu:u=t
    . subst hu;rw [zhs];generalize fr.get u=w at hv;cases hv;exact .arrNil hse
    . rw [zl0 _ _ _ _ hu];exact hst.vt hT (hF.slot u)⟩
  refine (k A _ fr s hF' hT').mono ?_;rintro e2 fr2 s2 ⟨h2,S2,l2,q2⟩;exact ⟨h2,S2,Left.trans (h':=h) (fr':=fr) hT.le hst l2,q2⟩
end
def zjf:Op->Bool
  |.move _=>true
  |.assign _=>true
  |.pick _ _ _=>true
  |.build _ _=>true
  |.nilCheck _=>true
  |.sliceToArrayPointer _ _=>true
  |.makeFunc _ _ _=>true
  |.slice _ _ _ _ _=>true
  |.fieldAddr _ _ _=>true
  |.field _ _ _=>true
  |.indexAddr _ _ _=>true
  |.index _ _ _=>true
  |.extract _ _=>true
  |.unOp _ _ _=>true
  |.binOp _ _ _ _ _=>true
  |_=>false
def zjo:Op->Bool
  |.alloc _=>true
  |.box _ _=>true
  |.buildSlice _ _ _=>true
  |.makeSlice _ _ _=>true
  |o=>zjf o
section
variable {GL:List (Nat×List Value)} {A A' A0:Nat->Prop} {β β':Bx} {S S':TS} {s s' s2:CS} {P:gt} {Γ:Env} {N:Nat} {h h':Nat->T} {call:zej} {ρ:gb->Value} {o:Oper} {v:Value}
theorem zls {r:Option Value} (hc:retC s r=some (v,s')):s'=s:=by
  unfold retC at hc;split at hc<;>first | (cases hc;rfl) | (simp at hc)
theorem zut {r:Option Value} (hc:zh2 P ρ o s r=some (v,s')):s'=s:=by
  unfold zh2 at hc;split at hc
  . cases hc;rfl
  . exact zls hc
theorem z4z {r:Option (List Value)} (hc:aggC s r=some (v,s')):s'=s:=by
  unfold aggC at hc;split at hc<;>first | (cases hc;rfl) | (simp at hc)
theorem z4c {size:Nat} {ex:Bool} {a:Addr} {b:Option (Nat×Nat×Nat)} (hc:cutC s size ex a b=some (v,s')):s'=s:=by
  unfold cutC at hc;split at hc
  . rename_i l hh m
    cases hq:(fy (Addr.ver a % 1024) 0 || (!ex && fy (Addr.ver a % 1024) (size+1))) with
    |false=>rw [hq] at hc;simp at hc
    |true=>rw [hq] at hc;cases hc;rfl
  . simp at hc
theorem zvz {d:l8} {a:Addr} {lo hi mx:Option Value} (hc:zo2 Γ s d a lo hi mx=some (v,s')):s'=s:=by
  unfold zo2 at hc;split at hc
  . split at hc
    . rw [zb7] at hc;split at hc
      . exact z4c hc
      . simp at hc
    . simp at hc
  . simp at hc
theorem z2p {t:gi} {x:Value} {lo hi mx:Option Value} (hc:zdt Γ s t x lo hi mx=some (v,s')):s'=s:=by
  unfold zdt at hc;split at hc
  . split at hc
    . rename_i b;split at hc
      . cases hq:mx.isNone with
        |false=>rw [hq] at hc;simp at hc
        |true =>
          rw [hq,cond_true] at hc;unfold z9t at hc;split at hc<;>first | (cases hc;rfl) | (simp at hc)
      . simp at hc
    . split at hc
      . split at hc
        . split at hc
          . split at hc<;>first | (cases hc;rfl) | (simp at hc)
          . simp at hc
        . split at hc
          . exact z4c hc
          . simp at hc
      . simp at hc
    . split at hc
      . split at hc
        . exact zvz hc
        . simp at hc
      . exact zvz hc
    . simp at hc
  . simp at hc
theorem zxe {size k n:Nat} {a:Addr} (hc:zwh s size k n a=some (v,s')):s'=s:=by
  unfold zwh at hc
  cases hq:ig k n with
  |false=>rw [hq] at hc;simp at hc
  |true=>rw [hq] at hc;cases hc;rfl
theorem zyc (hm:zjf o.op=true) (hc:cop P Γ call ρ o s=some (v,s')):s'=s:=by
  obtain ⟨d,op,ty,pos,e,g⟩:=o;unfold cop at hc;simp only at hm hc
  cases op with
  |move x=>cases hc;rfl
  |assign x=>cases hc;rfl
  |pick c a b =>
    simp only at hc;unfold zx0 at hc
    split at hc<;>first | (cases hc;rfl) | (simp at hc)
  |build t parts =>
    simp only at hc;unfold zk2 at hc;split at hc
    . split at hc
      . rename_i fs _;rw [zb7] at hc;split at hc
        . exact z4z hc
        . simp at hc
      . split at hc
        . exact z4z hc
        . simp at hc
      . simp at hc
    . simp at hc
  |nilCheck x =>
    simp only at hc;unfold zj0 at hc
    split at hc<;>first | (cases hc;rfl) | (simp at hc)
  |sliceToArrayPointer t x =>
    simp only at hc;unfold zwo at hc;split at hc
    . split at hc
      . split at hc
        . rw [Bool.cond_eq_ite] at hc;split at hc
          . cases hc;rfl
          . simp at hc
        . simp at hc
      . simp at hc
    . simp at hc
  |makeFunc fn a b=>cases hc;rfl
  |slice t x lo hi mx=>exact z2p hc
  |fieldAddr t x k =>
    simp only at hc;unfold zed at hc;split at hc
    . split at hc
      . split at hc
        . split at hc
          . rename_i off size _
            cases hq:fy size 0 with
            |true=>rw [hq] at hc;simp at hc
            |false=>rw [hq] at hc;cases hc;rfl
          . simp at hc
        . simp at hc
      . simp at hc
    . simp at hc
  |field t x k =>
    simp only at hc;unfold znl at hc;split at hc
    . split at hc
      . split at hc
        . split at hc
          . split at hc
            . exact zls hc
            . simp at hc
          . simp at hc
        . simp at hc
      . simp at hc
    . simp at hc
  |indexAddr t x k =>
    simp only at hc;unfold zch at hc;split at hc
    . split at hc
      . split at hc
        . split at hc
          . exact zxe hc
          . simp at hc
        . simp at hc
      . split at hc
        . split at hc
          . exact zxe hc
          . simp at hc
        . simp at hc
      . simp at hc
    . simp at hc
  |index t x k =>
    simp only at hc;unfold zk1 at hc;split at hc
    . split at hc
      . split at hc
        . split at hc
          . rw [Bool.cond_eq_ite] at hc;split at hc
            . exact zls hc
            . simp at hc
          . simp at hc
        . simp at hc
      . split at hc
        . split at hc<;>first | (cases hc;rfl) | (simp at hc)
        . simp at hc
      . simp at hc
    . simp at hc
  |extract x k =>
    simp only at hc;unfold zi2 at hc;split at hc
    . exact zls hc
    . simp at hc
  |unOp op t x=>exact zut hc
  |binOp op t x y t2 =>
    simp only at hc;unfold zm0 at hc;split at hc
    . cases hc;rfl
    . exact zut hc
  |_=>simp [zjf] at hm
theorem zoi {tag:Nat} {cs:List Value} {a:Addr} (hc:s.newRow tag cs=some (a,s')):s'.rd=s.rd/\s'.wr=s.wr:=by
  unfold CS.newRow at hc;rw [zb7] at hc;split at hc
  . cases hc;exact ⟨rfl,rfl⟩
  . simp at hc
theorem z74 {r:Option (Addr×CS)} (hr:∀ a t,r=some (a,t)->t.rd=s.rd/\t.wr=s.wr) (hc:ptrC r=some (v,s')):s'.rd=s.rd/\s'.wr=s.wr:=by
  unfold ptrC at hc;split at hc
  . cases hc;exact hr _ _ rfl
  . simp at hc
theorem zxh {l c:Nat} {r:Option (Addr×CS)} (hr:∀ a t,r=some (a,t)->t.rd=s.rd/\t.wr=s.wr) (hc:zia l c r=some (v,s')):s'.rd=s.rd/\s'.wr=s.wr:=by
  unfold zia at hc;split at hc
  . cases hc;exact hr _ _ rfl
  . simp at hc
theorem z5s (hm:zjo o.op=true) (hc:cop P Γ call ρ o s=some (v,s')):s'.rd=s.rd/\s'.wr=s.wr:=by
  by_cases hq:zjf o.op=true
  . rw [zyc hq hc];exact ⟨rfl,rfl⟩
  obtain ⟨d,op,ty,pos,e,g⟩:=o;unfold cop at hc;simp only at hm hc hq
  cases op with
  |alloc e =>
    simp only at hc;unfold znn at hc;split at hc
    . exact z74 (fun a t h=>zoi h) hc
    . simp at hc
  |box e x=>exact z74 (fun a t h=>zoi h) hc
  |buildSlice t n parts =>
    simp only at hc;unfold zco at hc;split at hc
    . rename_i j _
      cases hb:(ib (n*j.size) 16777216 && ig 0 j.size) with
      |false=>rw [hb] at hc;simp at hc
      |true =>
        rw [hb,cond_true] at hc;split at hc
        . exact zxh (fun a t h=>zoi h) hc
        . simp at hc
    . simp at hc
  |makeSlice t l c =>
    simp only at hc;unfold zfg at hc;split at hc
    . rename_i j l' c' _ _ _
      cases hb:(ib l' c' && ib (c'*(j.bytes+1)) 1000000000 && ig 0 j.size) with
      |false=>rw [hb] at hc;simp at hc
      |true =>
        rw [hb,cond_true] at hc;exact zxh (fun a t h=>zoi h) hc
    . simp at hc
  |_=>simp_all [zjo,zjf]
def yqt (o:Oper) (x:Lg):Prop:=(zjf o.op=true->x.rd=[]/\x.wr=[]/\x.lo=x.hi)/\(zjo o.op=true->x.rd=[]/\x.wr=[])
theorem ztj {ops:List Oper}:∀ {l:List Oper} {fr fr':Fr} {s s':CS} {L:List Lg},drawC P Γ call ops l fr s=some (L,fr',s')->L.length=l.length/\∀ (j:Nat) (o:Oper) (x:Lg),l[j]?=some o->L[j]?=some x->yqt o x
  |[],fr,fr',s,s',L,hc=>by
    simp only [drawC,ff,fo] at hc;obtain ⟨rfl,_,_⟩:=hc;exact ⟨rfl,fun j o x hj=>by simp at hj⟩
  |o :: l,fr,fr',s,s',L,hc=>by
    simp only [drawC] at hc;split at hc
    . rename_i fr1 t h1;split at hc
      . rename_i logs fr2 s2 h2;cases hc;obtain ⟨i1,i2⟩:=ztj h2;refine ⟨by simp [i1],fun j o' x hj hx=>?_⟩
        cases j with
        |zero =>
          simp only [ij,ff] at hj hx;subst hj;subst hx;unfold zc0 at h1
          cases hw:zdh ops fr o with
          |false =>
            rw [hw] at h1;simp only [cond_false,ff,fo] at h1;rw [<- h1.2];exact ⟨fun _=>⟨rfl,rfl,rfl⟩,fun _=>⟨rfl,rfl⟩⟩
          |true =>
            rw [hw,cond_true] at h1;split at h1
            . rename_i v s1 hcop;cases h1;refine ⟨fun hm=>?_,fun hm=>?_⟩
              . rw [zyc hm hcop];exact ⟨rfl,rfl,rfl⟩
              . exact z5s hm hcop
            . simp at h1
        |succ j=>exact i2 j o' x (by simpa using hj) (by simpa using hx)
      . simp at hc
    . simp at hc
theorem zks {ops:List Oper}:∀ {l m:List Oper} {fr fr1 fr2:Fr} {s s1 s2:CS} {L M:List Lg},drawC P Γ call ops l fr s=some (L,fr1,s1)->drawC P Γ call ops m fr1 s1=some (M,fr2,s2)->drawC P Γ call ops (l++m) fr s=some (L++M,fr2,s2)
  |[],m,fr,fr1,fr2,s,s1,s2,L,M,h1,h2=>by
    simp only [drawC,ff,fo] at h1;obtain ⟨rfl,rfl,rfl⟩:=h1;exact h2
  |o :: l,m,fr,fr1,fr2,s,s1,s2,L,M,h1,h2=>by
    simp only [drawC] at h1;simp only [gw,drawC];split at h1
    . rename_i fra t ha;split at h1
      . rename_i logs frb sb hb;cases h1;rw [zks hb h2];rfl
      . simp at h1
    . simp at h1
theorem zy9 {m:Nat} {y:Lg}:∀ {done:List Lg} {i:Nat},(∀ j x,done[j]?=some x->i9 m (i+j)=true\/clash x y=false)->ziq clash m y done i=true
  |[],_,_=>rfl
  |x :: l,i,h=>by
    have h0:i9 m i=true\/clash x y=false:=h 0 x rfl
    have ih:ziq clash m y l (i+1)=true:=zy9 fun j z hz=>by
      have:=h (j+1) z (by simpa using hz);rw [show i+1+j=i+(j+1) by omega];exact this
    rcases h0 with h0|h0
    . rw [zv1 h0];exact ih
    . rw [zy8 h0];exact ih
theorem zos {ms:List Nat}:∀ {l done:List Lg},(∀ i j x y,i<j->done.length<=j->(done++l)[i]?=some x->(done++l)[j]?=some y->i9 (nth 0 ms j) i=true\/clash x y=false)->zg0 clash done l ms=true
  |[],_,_=>rfl
  |y :: l,done,h=>by
    rw [zn4,fk];refine ⟨zy9 fun j x hx=>?_,zos fun i j x z hij hd hx hz=>?_⟩
    . rw [i8];have hj:=(gh.1 hx).1;exact h j done.length x y hj (fp _) (by rw [gn hj];exact hx) (by simp)
    . rw [gq] at hx hz;rw [f5,iu] at hd;exact h i j x z hij (by omega) hx hz
theorem zu4 {ρ1 ρ2:gb->T} {l:List gb} (hρ:∀ x,x∈l->ρ1 x=ρ2 x):l.map ρ1=l.map ρ2:=List.map_congr_left hρ
theorem zrf {ρ1 ρ2:gb->T} {l:Option gb} (hρ:∀ x,l=some x->ρ1 x=ρ2 x):l.map ρ1=l.map ρ2:=by
  cases l with
  |none=>rfl
  |some x=>simp only [o4,hρ x rfl]
theorem zsb {place:Nat->Option (Nat×Nat)} {ρ1 ρ2:gb->T}:∀ {l:List (Nat×gb)},(∀ p,p∈l->ρ1 p.2=ρ2 p.2)->zbk place ρ1 l=zbk place ρ2 l
  |[],_=>rfl
  |(k,x) :: l,hρ=>by
    unfold zbk;rw [zsb fun p hp=>hρ p (by simp [hp]),hρ (k,x) (by simp)]
theorem zsj {e:Nat} {ρ1 ρ2:gb->T}:∀ {l:List (Nat×gb)} {i:Nat},(∀ p,p∈l->ρ1 p.2=ρ2 p.2)->zdg e ρ1 i l=zdg e ρ2 i l
  |[],_,_=>rfl
  |(k,x) :: l,i,hρ=>by
    unfold zdg;rw [zsj fun p hp=>hρ p (by simp [hp]),hρ (k,x) (by simp)]
theorem z5a {ρ1 ρ2:gb->T} (hρ:∀ x,x∈o.op.operands.toList->ρ1 x=ρ2 x):zfm P Γ ρ1 o S=zfm P Γ ρ2 o S:=by
  obtain ⟨d,op,ty,pos,e,g⟩:=o;simp only at hρ;unfold zfm
  cases op with
  |move x=>simp only [hρ x (by simp [gp])]
  |assign x=>simp only [hρ x (by simp [gp])]
  |pick c a b=>simp only [hρ c (by simp [gp]),hρ a (by simp [gp]),hρ b (by simp [gp])]
  |build t parts =>
    have hp:∀ p,p∈parts.toList->ρ1 p.2=ρ2 p.2:=fun p hp=>hρ p.2 (by simp [gp];exact ⟨p.1,by simpa using hp⟩)
    simp only [zki,zsb hp]
  |buildSlice t n parts =>
    have hp:∀ p,p∈parts.toList->ρ1 p.2=ρ2 p.2:=fun p hp=>hρ p.2 (by simp [gp];exact ⟨p.1,by simpa using hp⟩)
    simp only [zam,zsj hp]
  |load t x=>simp only [hρ x (by simp [gp])]
  |nilCheck x=>simp only [hρ x (by simp [gp])]
  |sliceToArrayPointer t x=>simp only [hρ x (by simp [gp])]
  |makeFunc fn first captured =>
    have h1:first.toList.map ρ1=first.toList.map ρ2:=zu4 fun x hx=>hρ x (by simp [gp];left;simpa using hx)
    have h2:captured.toList.map ρ1=captured.toList.map ρ2:=zu4 fun x hx=>hρ x (by simp [gp];right;simpa using hx)
    simp only [h1,h2]
  |slice t x lo hi mx =>
    have h1:lo.map ρ1=lo.map ρ2:=zrf fun y hy=>hρ y (by simp [gp,hy]);have h2:hi.map ρ1=hi.map ρ2:=zrf fun y hy=>hρ y (by simp [gp,hy]);have h3:mx.map ρ1=mx.map ρ2:=zrf fun y hy=>hρ y (by simp [gp,hy])
    simp only [hρ x (by simp [gp]),h1,h2,h3]
  |fieldAddr t x k=>simp only [hρ x (by simp [gp])]
  |field t x k=>simp only [hρ x (by simp [gp])]
  |indexAddr t x ix=>simp only [hρ x (by simp [gp]),hρ ix (by simp [gp])]
  |index t x ix=>simp only [hρ x (by simp [gp]),hρ ix (by simp [gp])]
  |extract x k=>simp only [hρ x (by simp [gp])]
  |unOp op t x=>simp only [hρ x (by simp [gp])]
  |convert src dst x=>simp only [hρ x (by simp [gp])]
  |binOp op t x y t2=>simp only [hρ x (by simp [gp]),hρ y (by simp [gp])]
  |lookup t x k ok=>simp only [hρ x (by simp [gp]),hρ k (by simp [gp])]
  |call c =>
    obtain ⟨cal,args,tys⟩:=c
    cases cal with
    |builtin b =>
      have ha:∀ x,x∈args.toList->ρ1 x=ρ2 x:=fun x hx=>hρ x (by simp [gp,sq];simpa using hx);simp only;unfold zm3
      cases b with
      |len =>
        simp only;split
        . rename_i x t e1 e2;rw [ha x (by rw [e1];simp)]
        . rfl
      |min =>
        simp only;split
        . rename_i x y e1;rw [ha x (by rw [e1];simp),ha y (by rw [e1];simp)]
        . rfl
      |max =>
        simp only;split
        . rename_i x y e1;rw [ha x (by rw [e1];simp),ha y (by rw [e1];simp)]
        . rfl
      |_=>rfl
    |_=>rfl
  |_=>rfl
end
def z6u (P:gt) (Γ:Env) (GL:List (Nat×List Value)) (S:TS) (args:List T) (f:T) (r:T):Option Prop:=match f with
  |.fn k first cap=>some (zal P Γ GL k (first++args++cap) S r)
  |_=>none
def andP (p:Prop):Option (Prop×(Nat->T))->Option (Prop×(Nat->T))
  |some (q,h)=>some (p/\q,h)
  |none=>none
def runP (P:gt) (Γ:Env) (GL:List (Nat×List Value)) (ops:List Oper):List Oper->(Nat->T)->TS->List T->Option (Prop×(Nat->T))
  |[],h,_,_=>some (True,h)
  |o :: l,h,S,outs=>match zja ops h o.guard with
    |none=>none
    |some false=>runP P Γ GL ops l (putT h o.dst (.tup [])) S outs
    |some true=>match o.op with
      |.call ⟨.value f,args,tys⟩=>(match outs with
        |r :: outs=>(match z6u P Γ GL S (args.toList.map (zdo GL h)) (zdo GL h f) r with
          |some p=>andP p (runP P Γ GL ops l (putT h o.dst r) S outs)
          |none=>none)
        |[]=>none)
      |_=>(match zfm P Γ (zdo GL h) o S with
        |some t=>runP P Γ GL ops l (putT h o.dst t) S outs
        |none=>none)
def yl7 (ops:List Oper) (x y:Oper):Bool:=match x.dst with|some d=>has (zfo ops y) d|none=>false
def zw9:Nat->List Oper->List (Bool×Oper)
  |_,[]=>[]
  |0,o :: l=>(true,o) :: zw9 0 l
  |k+1,o :: l=>(false,o) :: zw9 k l
def ye4 (x y:Bool×Oper):Bool:=y.1 && !(zjf x.2.op || zjo y.2.op)
def zsy (m:Nat):List Nat->Nat->Bool
  |[],_=>true
  |x :: l,i=>(!Nat.testBit m i || fy (Nat.land x m) x) && zsy m l (i+1)
def zke (k:Nat) (ops:List Oper):Bool :=
  zg0 (yl7 ops) [] ops (zdx ops []) && (zg0 ye4 [] (zw9 k ops) (zdx ops []) && (zdx ops []).all fun m=>zsy m (zdx ops []) 0)
theorem ztr {m:Nat}:∀ {l:List Nat} {i:Nat},zsy m l i=true->∀ j,j<l.length->i9 m (i+j)=true->∀ b,i9 (nth 0 l j) b=true->i9 m b=true
  |[],_,_,j,hj,_,_,_=>by simp at hj
  |x :: l,i,h,j,hj,ht,b,hb=>by
    simp only [zsy,fk] at h
    cases j with
    |zero =>
      have h1:=h.1;rw [show i9 m i=true from ht] at h1;simp only [iz,Bool.false_or] at h1;have h2:x &&& m=x:=fl h1;have h3:i9 x b=true:=hb;rw [<- h2,l7,fk] at h3;exact h3.2
    |succ j=>exact ztr h.2 j (by simpa using hj) (by rw [show i+1+j=i+(j+1) by omega];exact ht) b hb
theorem z27:∀ (l:List Oper) (ms:List Nat),(zdx l ms).length=ms.length+l.length
  |[],ms=>by simp [zdx]
  |o :: l,ms=>by
    simp only [zdx];rw [z27 l];simp only [f5,gm,ji];omega
theorem zob:∀ {k:Nat} {ops:List Oper} {i:Nat} {o:Oper},ops[i]?=some o->(zw9 k ops)[i]?=some (decide (k<=i),o)
  |_,[],i,o,h=>by simp at h
  |0,x :: l,i,o,h=>by
    cases i with
    |zero=>simp only [ij,ff] at h;subst h;rfl
    |succ i =>
      have:=zob (k:=0) (ops:=l) (i:=i) (by simpa using h)
      simpa [zw9] using this
  |k+1,x :: l,i,o,h=>by
    cases i with
    |zero=>simp only [ij,ff] at h;subst h;rfl
    |succ i =>
      have:=zob (k:=k) (ops:=l) (i:=i) (by simpa using h);simpa [zw9] using this
section
variable {GL:List (Nat×List Value)} {A A' A0:Nat->Prop} {β β':Bx} {S S':TS} {s s0 s' s2:CS} {P:gt} {Γ:Env} {N:Nat} {h h':Nat->T}
theorem ybl {k:Nat} {ops:List Oper} (hd:zke k ops=true) {i j:Nat} {x y:Oper} (hij:i<j) (hx:ops[i]?=some x) (hy:ops[j]?=some y) {d:Nat} (hxd:x.dst=some d) (hdy:d∈zfo ops y):i9 (nth 0 (zdx ops []) j) i=true:=by
  unfold zke at hd;simp only [fk] at hd;rcases zgj hd.1 i j x y hij (iw _) (by simpa using hx) (by simpa using hy) with q|q
  . exact q
  . unfold yl7 at q;rw [hxd] at q;simp only at q;rw [zu0 hdy] at q;simp at q
theorem z6m {k:Nat} {ops:List Oper} (hd:zke k ops=true) {i j:Nat} {x y:Oper} (hij:i<j) (hkj:k<=j) (hx:ops[i]?=some x) (hy:ops[j]?=some y):i9 (nth 0 (zdx ops []) j) i=true\/zjf x.op=true\/zjo y.op=true:=by
  unfold zke at hd;simp only [fk] at hd;rcases zgj hd.2.1 i j _ _ hij (iw _) (by simpa using zob hx) (by simpa using zob hy) with q|q
  . exact .inl q
  . unfold ye4 at q;rw [zAa hkj] at q;simp only [kg,Bool.not_eq_false',Bool.or_eq_true] at q;exact .inr q
theorem z38 {k:Nat} {ops:List Oper} (hd:zke k ops=true) {j i b:Nat} (hj:j<ops.length) (hi:i<ops.length) (h1:i9 (nth 0 (zdx ops []) j) i=true) (h2:i9 (nth 0 (zdx ops []) i) b=true):i9 (nth 0 (zdx ops []) j) b=true:=by
  unfold zke at hd;simp only [fk] at hd;have hl:=z27 ops [];simp only [ji,i8] at hl
  have hm:nth 0 (zdx ops []) j∈zdx ops []:=by
    have key:∀ (l:List Nat) (j:Nat),j<l.length->nth 0 l j∈l:=by
      intro l
      induction l with
      |nil=>intro j hj;simp at hj
      |cons x l ih =>
        intro j hj
        cases j with
        |zero=>exact List.mem_cons_self
        |succ j=>exact List.mem_cons_of_mem _ (ih j (by simpa using hj))
    exact key _ j (by omega)
  have:=ii.1 hd.2.2 _ hm;exact ztr this i (by omega) (by rw [i8];exact h1) b h2
def SupL (A0:Nat->Prop) (L:List Lg) (D:Nat) (f:Nat):Prop:=A0 f\/∃ (m:Nat) (x:Lg),i9 D m=true/\L[m]?=some x/\x.lo<=f/\f<x.hi
theorem SupL.more {L M:List Lg} {D E:Nat} (hD:∀ m,m<L.length->i9 D m=true->i9 E m=true) {f:Nat} (k:SupL A0 L D f):SupL A0 (L++M) E f:=by
  rcases k with k|⟨m,x,h1,h2,h3⟩
  . exact .inl k
  . have hm:=(gh.1 h2).1;exact .inr ⟨m,x,hD m hm h1,by rw [gn hm];exact h2,h3⟩
theorem SupL.sub {L:List Lg} {D E:Nat} (hD:∀ m,m<L.length->i9 D m=true->i9 E m=true) {f:Nat} (k:SupL A0 L D f):SupL A0 L E f:=by
  have:=SupL.more (M:=[]) hD k;simpa using this
structure zq6 (GL:List (Nat×List Value)) (ops:List Oper) (A0:Nat->Prop) (β:Bx) (S:TS) (s0:CS) (N:Nat) (L:List Lg) (h:Nat->T) (fr:Fr) (s:CS):Prop where
  nt:fr.nt=N
  le:N<=512
  rel:TRel GL A0 β S s
  slot:∀ t,∃ D,VT (SupL A0 L D) β (zaa s.obj) (h t) (fr.get t)/\∀ (j:Nat) (o:Oper),L.length<=j->ops[j]?=some o->t∈zfo ops o->∀ m,m<L.length->i9 D m=true->i9 (nth 0 (zdx ops []) j) m=true
  log:∀ (k:Nat) (x:Lg),L[k]?=some x->s0.n<=x.lo/\x.lo<=x.hi/\x.hi<=s.n/\x.wr=[]/\∀ f,f∈x.rd->f<x.lo/\(SupL A0 L (nth 0 (zdx ops []) k) f\/Own β f)
  apart:∀ (k m:Nat) (x y:Lg),k<m->L[k]?=some x->L[m]?=some y->x.hi<=y.lo
  own:∀ f,Own β f->f<s0.n
  base:∀ f,A0 f->f<s0.n
  calm:zkh A0 β s0 A0 s
  lim:s0.lim<=s0.n
theorem TRel.more (hT:TRel GL A β S s) (A1:Nat->Prop) (h1:∀ f,A f->A1 f) (h2:∀ f,A1 f->f<s.n) (h3:∀ f,A1 f->¬ Own β f):TRel GL A1 β S s :=
  ⟨hT.inr,hT.inv,h2,fun f hf=>⟨(hT.dis f hf).1,fun hh=>h3 f hh hf⟩,hT.inj,hT.next,fun b z N l hb=>(hT.cells b z N l hb).mono h1 (fun _ _=>rfl) (lq _) rfl fun _ _ _ _=>rfl,
    fun b l hb=>(hT.maps b l hb).mono h1 (fun _ _=>rfl) (lq _) rfl fun _ _=>rfl,fun x hx=>⟨h1 _ (hT.glob x hx).1,(hT.glob x hx).2⟩⟩
theorem TRel.inner (hT:TRel GL A β S s):TRel GL A β S s.inner:=⟨hT.inr,⟨hT.inv.none,hT.inv.vers,fp _⟩,hT.alt,hT.dis,hT.inj,hT.next,hT.cells,hT.maps,hT.glob⟩
theorem TRel.outer (hT:TRel GL A β S s') (hl:s.lim<=s'.n):TRel GL A β S (s.outer s'):=⟨hT.inr,⟨hT.inv.none,hT.inv.vers,hl⟩,hT.alt,hT.dis,hT.inj,hT.next,hT.cells,hT.maps,hT.glob⟩
theorem zkh.trans (hl:s.lim<=s.n) (k1:zkh A β s A s') (k2:zkh A β s' A s2):zkh A β s A s2:=by
  refine ⟨k1.can.trans k2.can,fun _ h=>h,fun _ h=>.inl h,fun f hf=>?_,fun x hx=>?_,fun x hx=>k1.wr x (k2.wr x hx)⟩
  . rw [k2.keep f (gz hf k1.can.n)];exact k1.keep f hf
  . rcases k2.rd x hx with q|⟨q,q2⟩
    . exact k1.rd x q
    . rw [k1.can.lim] at q;exact .inr ⟨q,q2⟩
theorem zq6.next {k0:Nat} {ops:List Oper} (hd:zke k0 ops=true) {L:List Lg} {fr:Fr} {o:Oper} (I:zq6 GL ops A0 β S s0 N L h fr s) (ho:ops[L.length]?=some o) (hdst:∀ t,o.dst=some t->t<N) {t:T} {v:Value} {s1:CS}
    (k1:TRel GL A' β S s1) (k2:VT A' β (zaa s1.obj) t v) (k3:zkh (SupL A0 L (nth 0 (zdx ops []) L.length)) β s.inner A' s1) :
    zq6 GL ops A0 β S s0 N (L++[⟨s1.rd,s1.wr,s.n,s1.n⟩]) (putT h o.dst t) (putC fr o.dst v) (s.outer s1):=by
  have hsn:s.n<=s1.n:=k3.can.n;have hln:L.length<ops.length:=(gh.1 ho).1;have h0n:s0.n<=s.n:=I.calm.can.n
  have hsup:∀ f D,SupL A0 L D f->f<s.n:=fun f D hf=>by
    rcases hf with q|⟨m,x,_,q2,_,q4⟩
    . have:=I.base f q;omega
    . have:=(I.log m x q2).2.2.1;omega
  have hA':∀ f,A' f->SupL A0 (L++[⟨s1.rd,s1.wr,s.n,s1.n⟩]) (nth 0 (zdx ops []) L.length ||| 2 ^ L.length) f:=fun f hf=>by
    rcases k3.new f hf with q|q
    . refine SupL.more (fun m hm hb=>?_) q;rw [oq,hb];rfl
    . refine .inr ⟨L.length,⟨s1.rd,s1.wr,s.n,s1.n⟩,?_,by simp,q,k1.alt f hf⟩;rw [oq,Nat.testBit_two_pow_self];simp
  have hobj:∀ f,f<s.n->zaa s1.obj f=zaa s.obj f:=fun f hf=>k3.keep f hf
  have hwr:s1.wr=[]:=by
    rw [List.eq_nil_iff_forall_not_mem];intro x hx;have:=k3.wr x hx;simp [s5] at this
  have hcal:zkh A0 β s A0 (s.outer s1):=by
    refine ⟨zni I.rel.inv k3.can,fun _ h=>h,fun _ h=>.inl h,hobj,fun x hx=>?_,fun x hx=>?_⟩
    . rcases zom (l:=s1.rd) rfl x hx with q|⟨q,q2⟩
      . exact .inl q
      . refine .inr ⟨q2,?_⟩;have hxn:x<s0.n:=by have h1:=I.calm.can.lim;have h2:=I.lim;rw [h1] at q2;omega
        rcases k3.rd x q with q3|⟨_,q3⟩
        . simp [s5] at q3
        . rcases q3 with (q3|⟨m,y,_,q5,q6,_⟩)|q3
          . exact .inl q3
          . have:=(I.log m y q5).1;omega
          . exact .inr q3
    . rcases zom (l:=s1.wr) rfl x hx with q|⟨q,_⟩
      . exact q
      . rw [hwr] at q;simp at q
  have hrel:TRel GL A0 β S (s.outer s1):=hcal.rel I.rel k1.inr ⟨k1.inv.none,k1.inv.vers,by have:=I.rel.inv.lim;show s.lim<=s1.n;omega⟩ fun f hf=>by have:=I.rel.alt f hf;show f<s1.n;omega
  refine ⟨?_,I.le,hrel,fun t'=>?_,fun k x hx=>?_,fun k m x y hkm hx hy=>?_,I.own,I.base,?_,I.lim⟩
  . cases hd2:o.dst with
    |none=>exact I.nt
    |some d =>
      show (fr.put d v).nt=N;unfold Fr.put;rw [zb7];split<;>exact I.nt
  . by_cases ht':o.dst=some t'
    . rw [ht'];refine ⟨nth 0 (zdx ops []) L.length ||| 2 ^ L.length,?_,fun j o' hj ho' hn m hm hb=>?_⟩
      . show VT _ _ _ (tupd h t' t t') ((fr.put t' v).get t');rw [zhs,Fr.get_put_same v (by rw [I.nt];exact hdst _ ht') (by rw [I.nt];exact I.le)];exact k2.mono hA' (fun _ _=>rfl) (lq _)
      . rw [f5,iu] at hj hm;have hdep:=ybl hd (show L.length<j by omega) ho ho' ht' hn;rw [oq,Bool.or_eq_true] at hb;rcases hb with hb|hb
        . exact z38 hd (gh.1 ho').1 hln hdep hb
        . rw [Nat.testBit_two_pow] at hb;have:L.length=m:=by simpa using hb
          rw [<- this];exact hdep
    . obtain ⟨D,d1,d2⟩:=I.slot t';refine ⟨D &&& (2 ^ L.length - 1),?_,fun j o' hj ho' hn m hm hb=>?_⟩
      . have e1:putT h o.dst t t'=h t':=by
          cases hd2:o.dst with
          |none=>rfl
          |some d=>exact zl0 _ _ _ _ fun hh=>ht' (by rw [hd2,hh])
        have e2:(putC fr o.dst v).get t'=fr.get t':=by
          cases hd2:o.dst with
          |none=>rfl
          |some d=>exact s8 v (by rw [I.nt];exact I.le) fun hh=>ht' (by rw [hd2,hh])
        rw [e1,e2];refine d1.mono (fun f hf=>SupL.more (fun m hm hb=>?_) hf) (fun f hf=>hobj f (hsup f D hf)) (lq _);rw [l7,hb,my];simp [hm]
      . rw [f5,iu] at hj;rw [l7,fk,my] at hb;exact d2 j o' (by omega) ho' hn m (zAe hb.2) hb.1
  . by_cases hk:k<L.length
    . rw [gn hk] at hx;obtain ⟨l1,l2,l3,l4,l5⟩:=I.log k x hx;exact ⟨l1,l2,by show x.hi<=s1.n;omega,l4,fun f hf=>⟨(l5 f hf).1,(l5 f hf).2.imp (fun q=>SupL.more (fun _ _ hb=>hb) q) id⟩⟩
    . have hk2:k=L.length:=by
        have:=(gh.1 hx).1;rw [f5,iu] at this;omega
      subst hk2;simp only [iq (fp _),Nat.sub_self,ij,ff] at hx;subst hx;refine ⟨h0n,hsn,fp _,hwr,fun f hf=>?_⟩;rcases k3.rd f hf with q|⟨q,q2⟩
      . simp [s5] at q
      . exact ⟨q,q2.imp (fun q3=>SupL.more (fun _ _ hb=>hb) q3) id⟩
  . by_cases hm:m<L.length
    . rw [gn (by omega)] at hx;rw [gn hm] at hy;exact I.apart k m x y hkm hx hy
    . have hm2:m=L.length:=by
        have:=(gh.1 hy).1;rw [f5,iu] at this;omega
      subst hm2;rw [gn hkm] at hx;simp only [iq (fp _),Nat.sub_self,ij,ff] at hy;subst hy;exact (I.log k x hx).2.2.1
  . exact I.calm.trans I.lim hcal
theorem z0q {ops:List Oper} {o:Oper} {x:Nat} (hx:Operand.tmp x∈o.op.operands.toList):x∈zfo ops o:=by
  unfold zfo;refine List.mem_append.2 (.inl ?_);rw [List.mem_filterMap];exact ⟨.tmp x,hx,rfl⟩
theorem z5v {ops:List Oper} {o:Oper} {j d:Nat} {w:Bool} (hg:o.guard=some (j,w)) (hd:zpi ops j=some d):d∈zfo ops o:=by
  unfold zfo;refine List.mem_append.2 (.inr ?_);rw [hg];simp only [hd];exact List.mem_singleton.2 rfl
theorem z76 (hE:zdi P Γ) {k0:Nat} {ops:List Oper} (hd:zke k0 ops=true):∀ {l:List Oper} {L:List Lg} {h h':Nat->T} {fr:Fr} {s:CS} {outs:List T} {ob:Prop},zq6 GL ops A0 β S s0 N L h fr s->(∀ (j:Nat) (o:Oper),l[j]?=some o->ops[L.length+j]?=some o)->zfk N l=true->runP P Γ GL ops l h S outs=some (ob,h')->ob ->
    ∃ M fr' s',drawC P Γ (zeq P Γ) ops l fr s=some (M,fr',s')/\zq6 GL ops A0 β S s0 N (L++M) h' fr' s'/\M.length=l.length
  |[],L,h,h',fr,s,outs,ob,I,hl,hdo,hr,hob=>by
    simp only [runP,ff,fo] at hr;obtain ⟨rfl,rfl⟩:=hr;exact ⟨[],fr,s,rfl,by rw [h9];exact I,rfl⟩
  |o :: l,L,h,h',fr,s,outs,ob,I,hl,hdo,hr,hob=>by
    have hd':zfk N l=true/\∀ t,o.dst=some t->t<N:=by
      unfold zfk at hdo ⊢;rw [jr,fk] at hdo;refine ⟨hdo.2,fun t ht=>?_⟩;have:=hdo.1;rw [ht] at this;exact zad.1 this
    have ho:ops[L.length]?=some o:=by have:=hl 0 o rfl;simpa using this
    -- what the operation may lean on
    have hrel:TRel GL (SupL A0 L (nth 0 (zdx ops []) L.length)) β S s.inner:=by
      refine TRel.inner (I.rel.more _ (fun f hf=>.inl hf) (fun f hf=>?_) (fun f hf ho=>?_))
      . rcases hf with q|⟨m,x,_,q2,_,q4⟩
        . exact I.rel.alt f q
        . have:=(I.log m x q2).2.2.1;omega
      . rcases hf with q|⟨m,x,_,q2,q3,q4⟩
        . exact (I.rel.dis f ho).2 q
        . have:=(I.log m x q2).1;have:=I.own f ho;omega
    -- the slots that it names
    let ho':Nat->T:=fun t=>if t∈zfo ops o then h t else .junk
    have hin:∀ t,t∈zfo ops o->ho' t=h t:=fun t ht=>zAc ht
    have hF:FrOk (SupL A0 L (nth 0 (zdx ops []) L.length)) β (zaa s.inner.obj) N ho' fr:=⟨I.nt,I.le,fun t=>by
      by_cases ht:t∈zfo ops o
      . rw [hin t ht];obtain ⟨D,d1,d2⟩:=I.slot t;exact d1.mono (fun f hf=>SupL.sub (fun m hm hb=>d2 L.length o (fp _) ho ht m hm hb) hf) (fun _ _=>rfl) (lq _)
      . rw [show ho' t=.junk from zAd ht]
        exact .junk _⟩
    have hev:∀ x,x∈o.op.operands.toList->zdo GL ho' x=zdo GL h x:=fun x hx=>by
      cases x with
      |tmp t=>exact hin t (z0q hx)
      |_=>rfl
    have hgd:zja ops ho' o.guard=zja ops h o.guard:=by
      cases hg:o.guard with
      |none=>rfl
      |some p =>
        obtain ⟨j,w⟩:=p;unfold zja;simp only
        cases hdd:zpi ops j with
        |none=>rfl
        |some d=>simp only [hin d (z5v hg hdd)]
    -- the rest behind a step that is done
    have go:∀ {t:T} {v:Value} {s1:CS} {A':Nat->Prop} {outs':List T} {ob':Prop},TRel GL A' β S s1->VT A' β (zaa s1.obj) t v->zkh (SupL A0 L (nth 0 (zdx ops []) L.length)) β s.inner A' s1->zc0 P Γ (zeq P Γ) ops o fr s.inner=some (putC fr o.dst v,s1)->runP P Γ GL ops l (putT h o.dst t) S outs'=some (ob',h')->ob'->∃ M fr' s',drawC P Γ (zeq P Γ) ops (o :: l) fr s=some (M,fr',s')/\zq6 GL ops A0 β S s0 N (L++M) h' fr' s'/\M.length=(o :: l).length:=by
      intro t v s1 A' outs' ob' k1 k2 k3 hst hrun hob';have I2:=I.next hd ho hd'.2 k1 k2 k3
      obtain ⟨M,fr',s',m1,m2,m3⟩:=z76 hE hd I2 (fun j o' hj=>by
        have:=hl (j+1) o' (by simpa using hj);rw [f5,iu];rw [show L.length+1+j=L.length+(j+1) by omega]
        exact this) hd'.1 hrun hob'
      refine ⟨⟨s1.rd,s1.wr,s.n,s1.n⟩ :: M,fr',s',?_,?_,by simp [m3]⟩
      . rw [drawC,hst];simp only;rw [m1]
      . rw [gq] at m2;exact m2
    unfold runP at hr;split at hr
    . simp at hr
    . rename_i hg;rw [<- hgd] at hg;have hw:=zi9 hF hg;refine go hrel VT.undf ⟨jn _,fun _ h=>h,fun _ h=>.inl h,fun _ _=>rfl,fun _ h=>.inl h,fun _ h=>h⟩ ?_ hr hob;unfold zc0;rw [hw,cond_false]
    . rename_i hg;rw [<- hgd] at hg;have hw:=zi9 hF hg;split at hr
      . rename_i f args tys hop;split at hr
        . rename_i r outs';split at hr
          . rename_i p hp;unfold z6u at hp;split at hp
            . rename_i k first cap hf
              simp only [ff] at hp;subst hp
              cases hrun:runP P Γ GL ops l (putT h o.dst r) S outs' with
              |none=>rw [hrun] at hr;simp [andP] at hr
              |some q =>
                obtain ⟨q1,q2⟩:=q;rw [hrun] at hr;simp only [andP,ff,fo] at hr;obtain ⟨rfl,rfl⟩:=hr;have hfv:=hF.eval hrel f;rw [hev f (by rw [hop];simp [gp,sq]),hf] at hfv;generalize e1:zhj fr f=vf at hfv
                cases hfv with
                |fn h1 h2 =>
                  rename_i va vc;have hargs:=zv9 (hF.eval hrel) args.toList;have hargs':args.toList.map (zdo GL ho')=args.toList.map (zdo GL h):=zu4 fun x hx=>hev x (by rw [hop];simp [gp,sq];right;simpa using hx);rw [hargs'] at hargs;obtain ⟨v,s1,A',c1,c2,c3,c4⟩:=hob.1 _ β s.inner _ hrel ((h1.append hargs).append h2);refine go c2 c3 c4 ?_ hrun hob.2;unfold zc0;rw [hw,cond_true]
                  have:cop P Γ (zeq P Γ) (zhj fr) o s.inner=some (v,s1):=by
                    unfold cop;simp only [hop,e1];unfold zoy;exact c1
                  rw [this]
            . simp at hp
          . simp at hr
        . simp at hr
      . split at hr
        . rename_i t hst;have hst':zfm P Γ (zdo GL ho') o S=some t:=by rw [z5a hev];exact hst
          obtain ⟨v,s1,A',c1,c2,c3,c4⟩:=z68 (call:=zeq P Γ) hE hrel (hF.eval hrel) hst';refine go c2 c3 c4 ?_ hr hob;unfold zc0;rw [hw,cond_true,c1]
        . simp at hr
theorem Stp.outer (hI:CInv s) (k:Stp A β s.inner A' β' s'):Stp A β s A' β' (s.outer s'):=by
  refine ⟨zni hI k.can,k.sub,k.new,k.own,k.keep,k.bx,fun x hx=>?_,fun x hx=>?_⟩
  . rcases zom (l:=s'.rd) rfl x hx with q|⟨q,q2⟩
    . exact .inl q
    . rcases k.rd x q with q3|⟨_,q3⟩
      . simp [s5] at q3
      . exact .inr ⟨q2,q3⟩
  . rcases zom (l:=s'.wr) rfl x hx with q|⟨q,q2⟩
    . exact .inl q
    . rcases k.wr x q with q3|⟨_,q3⟩
      . simp [s5] at q3
      . exact .inr ⟨q2,q3⟩
theorem z0k (hE:zdi P Γ) {own:List Nat} {ops:List Oper} {N:Nat}:∀ {l:List Oper} {h h':Nat->T} {S S':TS} {outs:List (T×TS)} {ob:Prop} {A:Nat->Prop} {β:Bx} {fr:Fr} {s:CS},zfk N l=true->FrOk A β (zaa s.obj) N h fr->TRel GL A β S s->runT P Γ GL own ops l h S outs=some (ob,h',S')->ob ->
    ∃ M fr' s',drawC P Γ (zeq P Γ) ops l fr s=some (M,fr',s')/\Left GL A β s N fr' s' h' S'
  |[],h,h',S,S',outs,ob,A,β,fr,s,hd,hF,hT,hr,hob=>by
    simp only [runT,ff,fo] at hr;obtain ⟨rfl,rfl,rfl⟩:=hr;exact ⟨[],fr,s,rfl,A,β,hF,hT,si⟩
  |o :: l,h,h',S,S',outs,ob,A,β,fr,s,hd,hF,hT,hr,hob=>by
    have hd':zfk N l=true/\∀ t,o.dst=some t->t<N:=by
      unfold zfk at hd ⊢;rw [jr,fk] at hd;refine ⟨hd.2,fun t ht=>?_⟩;have:=hd.1;rw [ht] at this;exact zad.1 this
    have hTi:=hT.inner
    have go:∀ {t:T} {S1:TS} {r:Option (Value×CS)} {l':List (T×TS)} {ob':Prop},Ok GL A β s.inner r t S1->(cop P Γ (zeq P Γ) (zhj fr) o s.inner=r)->zdh ops fr o=true->runT P Γ GL own ops l (putT h o.dst t) S1 l'=some (ob',h',S')->ob'->∃ M fr' s',drawC P Γ (zeq P Γ) ops (o :: l) fr s=some (M,fr',s')/\Left GL A β s N fr' s' h' S':=by
      rintro t S1 r l' ob' ⟨v,s1,A1,β1,rfl,k1,k2,k3⟩ hc hw hrun hob';have hF1:FrOk A1 β1 (zaa s1.obj) N h fr:=hF.mono k3.sub (Stp.old (s:=s.inner) hTi k3) k3.bx;have hS:Stp A β s A1 β1 (s.outer s1):=k3.outer hT.inv;obtain ⟨M,fr',s',e1,e2⟩:=z0k hE hd'.1 (s:=s.outer s1) (hF1.put hd'.2 k2) (k1.outer (Nat.le_trans hT.le k3.can.n)) hrun hob';refine ⟨⟨s1.rd,s1.wr,s.n,s1.n⟩ :: M,fr',s',?_,Left.trans (h':=h) (fr':=fr) hT.le hS e2⟩;rw [drawC]
      have:zc0 P Γ (zeq P Γ) ops o fr s.inner=some (putC fr o.dst v,s1):=by
        unfold zc0;rw [hw,cond_true,hc]
      rw [this];simp only;rw [e1]
    unfold runT at hr;split at hr
    . simp at hr
    . rename_i hg;have hw:=zi9 hF hg;have hS:Stp A β s A β (s.outer s.inner):=Stp.outer hT.inv si;obtain ⟨M,fr',s',e1,e2⟩:=z0k hE hd'.1 (s:=s.outer s.inner) (hF.put hd'.2 VT.undf) (hTi.outer hT.le) hr hob;refine ⟨⟨[],[],s.n,s.n⟩ :: M,fr',s',?_,Left.trans (h':=h) (fr':=fr) hT.le hS e2⟩;rw [drawC]
      have:zc0 P Γ (zeq P Γ) ops o fr s.inner=some (putC fr o.dst undef,s.inner):=by
        unfold zc0;rw [hw,cond_false]
      rw [this];simp only;rw [e1];rfl
    . rename_i hg;have hw:=zi9 hF hg;split at hr
      . rename_i f args tys ho;split at hr
        . rename_i r outs';split at hr
          . rename_i p hp;unfold z1e at hp;split at hp
            . rename_i k first cap hf
              simp only [ff] at hp;subst hp
              cases hrun:runT P Γ GL own ops l (putT h o.dst r.1) r.2 outs' with
              |none=>rw [hrun] at hr;simp [andT] at hr
              |some q =>
                obtain ⟨q1,q2,q3⟩:=q;rw [hrun] at hr;simp only [andT,ff,fo] at hr;obtain ⟨rfl,rfl,rfl⟩:=hr;have hfv:=hF.eval hT f;rw [hf] at hfv;generalize e1:zhj fr f=vf at hfv
                cases hfv with
                |fn h1 h2 =>
                  rename_i va vc;have hargs:=zv9 (hF.eval hT) args.toList;have hcall:=hob.1 A β s.inner _ hTi ((h1.append hargs).append h2);refine go hcall ?_ hw hrun hob.2;unfold cop;simp only [ho,e1];unfold zoy;rfl
            . simp at hp
          . simp at hr
        . simp at hr
      . split at hr
        . rename_i t S1 hst;exact go (zzy hE hTi (hF.eval hT) hst) rfl hw hr hob
        . simp at hr
theorem zio {x y:Lg} (h1:x.rd=[]) (h2:x.wr=[]) (h3:x.lo=x.hi):clash x y=false:=by
  obtain ⟨rx,wx,lo,hi⟩:=x;obtain ⟨ry,wy,lo',hi'⟩:=y;simp only at h1 h2 h3;subst h1;subst h2;subst h3;exact zha (fun f hf=>by simp at hf) (fun f hf=>by simp at hf) (fun f _=>by omega) (fun f _=>by omega)
theorem zhk {x y:Lg} (h1:y.rd=[]) (h2:y.wr=[]):clash x y=false:=by
  obtain ⟨rx,wx,lo,hi⟩:=x;obtain ⟨ry,wy,lo',hi'⟩:=y;simp only at h1 h2;subst h1;subst h2;exact zha (fun f _=>by simp) (fun f _=>by simp) (fun f hf=>by simp at hf) (fun f hf=>by simp at hf)
theorem TW.draw (hE:zdi P Γ) {id:Nat} {ops:Array Oper} {Q:Exit->(Nat->T)->TS->Prop} (k:Nat) (outsP:List T) (own:List Nat) (outs:List (T×TS)) {h1:Nat->T} {ob1 ob2:Prop} (hd:zfk N ops.toList=true) (hok:zke k ops.toList=true)
    (hp:runP P Γ GL ops.toList (ops.toList.take k) h S outsP=some (ob1,h1)) (hob1:ob1) (hr:runT P Γ GL own ops.toList (ops.toList.drop k) h1 S outs=some (ob2,h',S')) (hob2:ob2) (hq:Q .normal h' S'):TW P Γ GL N (.region id ops true) h S Q:=fun A β fr s hF hT=>by
  have hsplit:ops.toList=ops.toList.take k++ops.toList.drop k:=(je k _).symm
  have hdd:zfk N (ops.toList.take k)=true/\zfk N (ops.toList.drop k)=true:=by
    unfold zfk at hd ⊢;rw [hsplit,List.all_append,fk] at hd;exact hd
  have I0:zq6 GL ops.toList A β S s N [] h fr s:=by
    refine ⟨hF.nt,hF.le,hT,fun t=>⟨0,(hF.slot t).mono (fun f hf=>.inl hf) (fun _ _=>rfl) (lq _),fun j o _ _ _ m hm=>by simp at hm⟩,fun k x hx=>by simp at hx,fun k m x y _ hx=>by simp at hx,fun f hf=>(hT.dis f hf).1,hT.alt,?_,hT.le⟩;exact ⟨jn _,fun _ h=>h,fun _ h=>.inl h,fun _ _=>rfl,fun _ h=>.inl h,fun _ h=>h⟩
  obtain ⟨M1,fr1,s1,d1,I1,m1⟩:=z76 hE hok I0 (fun j o hj=>by
    rw [ji,i8];rw [List.getElem?_take] at hj;split at hj
    . exact hj
    . simp at hj) hdd.1 hp hob1
  rw [gl] at I1
  -- behind the first part all may lean on all
  let D:Nat:=2 ^ M1.length - 1
  have hDall:∀ m,m<M1.length->i9 D m=true:=fun m hm=>by
    show i9 (2 ^ M1.length - 1) m=true;rw [my];exact zAa hm
  have hT1:TRel GL (SupL A M1 D) β S s1:=by
    refine I1.rel.more _ (fun f hf=>.inl hf) (fun f hf=>?_) (fun f hf ho=>?_)
    . rcases hf with q|⟨m,x,_,q2,_,q4⟩
      . exact I1.rel.alt f q
      . have:=(I1.log m x q2).2.2.1;omega
    . rcases hf with q|⟨m,x,_,q2,q3,q4⟩
      . exact (I1.rel.dis f ho).2 q
      . have:=(I1.log m x q2).1;have:=I1.own f ho;omega
  have hF1:FrOk (SupL A M1 D) β (zaa s1.obj) N h1 fr1:=⟨I1.nt,I1.le,fun t=>by
    obtain ⟨E,e1,_⟩:=I1.slot t
    exact e1.mono (fun f hf=>SupL.sub (fun m hm _=>hDall m hm) hf) (fun _ _=>rfl) (lq _)⟩
  have hS1:Stp A β s (SupL A M1 D) β s1:=by
    refine ⟨I1.calm.can,fun f hf=>.inl hf,fun f hf=>?_,fun f hf=>.inl hf,fun f hf _=>I1.calm.keep f hf,lq _,I1.calm.rd,fun x hx=>.inl (I1.calm.wr x hx)⟩;rcases hf with q|⟨m,x,_,q2,q3,_⟩
    . exact .inl q
    . have:=(I1.log m x q2).1;exact .inr (.inl (by omega))
  obtain ⟨M2,fr2,s2,d2,L2⟩:=z0k hE hdd.2 hF1 hT1 hr hob2;have hdraw:=zks d1 d2;rw [<- hsplit] at hdraw;obtain ⟨f1,f2⟩:=ztj hdraw;refine W.draw hdraw ?_ ⟨h',S',Left.trans (h':=h) (fr':=fr) hT.le hS1 L2,hq⟩;refine z1d rfl (zos fun i j x y hij _ hx hy=>?_);simp only [gl] at hx hy;have hjl:j<ops.toList.length:=by rw [<- f1];exact (gh.1 hy).1
  have ho1:ops.toList[i]?=some (ops.toList[i]'(by omega)):=fm _;have ho2:ops.toList[j]?=some (ops.toList[j]'hjl):=fm _;by_cases hkj:k<=j
  . rcases z6m hok hij hkj ho1 ho2 with q|q|q
    . exact .inl q
    . obtain ⟨a,b,c⟩:=(f2 i _ x ho1 hx).1 q;exact .inr (zio a b c)
    . obtain ⟨a,b⟩:=(f2 j _ y ho2 hy).2 q;exact .inr (zhk a b)
  . have hjM:j<M1.length:=by rw [m1,il];omega
    rw [gn (by omega)] at hx;rw [gn hjM] at hy;by_cases hbit:i9 (nth 0 (zdx ops.toList []) j) i=true
    . exact .inl hbit
    . right;obtain ⟨x1,x2,x3,x4,x5⟩:=I1.log i x hx;obtain ⟨y1,y2,y3,y4,y5⟩:=I1.log j y hy;obtain ⟨rx,wx,lo,hi⟩:=x;obtain ⟨ry,wy,lo',hi'⟩:=y;simp only at x1 x2 x3 x4 x5 y1 y2 y3 y4 y5;subst x4;subst y4;refine zha (fun f hf=>by simp at hf) (fun f _=>by simp) (fun f hf=>?_) (fun f hf=>by simp at hf);obtain ⟨g1,g2⟩:=y5 f hf;rcases g2 with (g2|⟨m,z,g3,g4,g5,g6⟩)|g2
      . have:=I1.base f g2;omega
      . by_cases hmi:m=i
        . subst hmi;exact absurd g3 hbit
        . by_cases hlt:m<i
          . have:=I1.apart m i z _ hlt g4 hx;simp only at this;omega
          . have:=I1.apart i m _ z (by omega) hx g4;simp only at this;omega
      . have:=I1.own f g2;omega
end
section
variable {GL:List (Nat×List Value)} {P:gt} {Γ:Env} {own:List Nat} {ops l:List Oper} {h:Nat->T} {S:TS} {outs:List (T×TS)} {outsP:List T} {d:Option Tmp} {ty:gi} {pos:String} {e:Array Edge} {g:Option (Nat×Bool)}
def yhd {α:Type} (r:Option (T×TS)) (k:T->TS->Option α):Option α:=match r with
  |some (t,S)=>k t S
  |none=>none
def zox {α:Type} (b:Option Bool) (off on:Unit->Option α):Option α:=match b with
  |some true=>on ()
  |some false=>off ()
  |none=>none
theorem z1p {α:Type} (t:T) (S:TS) (k:T->TS->Option α):yhd (some (t,S)) k=k t S:=f7 rfl rfl
theorem yfy {α:Type} (a b:Unit->Option α):zox (some true) a b=b ():=f7 rfl rfl
theorem z88 {α:Type} (a b:Unit->Option α):zox (some false) a b=a ():=f7 rfl rfl
def zp0 (ops:List Oper) (h:Nat->T) (j:Nat):T:=match zpi ops j with|some t=>h t|none=>.junk
def zpp (t:T) (w:Bool):Option Bool:=match t with|.bool b=>some (b == w)|.tup _=>some false|_=>none
theorem yb9 {l:List T} {w:Bool}:zpp (.tup l) w=some false:=f7 rfl rfl
theorem zj2 {j:Nat} {w:Bool}:zja ops h (some (j,w))=zpp (zp0 ops h j) w:=by
  unfold zja zp0;simp only
  cases zpi ops j with
  |none=>rfl
  |some t=>simp only;cases h t<;>rfl
theorem yb7:zpp (.bool true) true=some true:=f7 rfl rfl
theorem yb8:zpp (.bool true) false=some false:=f7 rfl rfl
theorem yca:zpp (.bool false) true=some false:=f7 rfl rfl
theorem ycb:zpp (.bool false) false=some true:=f7 rfl rfl
theorem zxf {t:Tmp} {op:Op}:zp0 (⟨some t,op,ty,pos,e,g⟩ :: l) h 0=h t:=f7 rfl rfl
theorem zxg {o:Oper} {n:Nat}:zp0 (o :: l) h (n+1)=zp0 l h n:=by
  unfold zp0 zpi;rw [ln]
theorem z7q:runT P Γ GL own ops [] h S outs=some (True,h,S):=f7 rfl rfl
theorem z7s:runP P Γ GL ops [] h S outsP=some (True,h):=f7 rfl rfl
def zcu:Op->Bool
  |.call ⟨.value _,_,_⟩=>true
  |_=>false
def yh4 (P:gt) (Γ:Env) (GL:List (Nat×List Value)) (own:List Nat) (ops l:List Oper) (outs:List (T×TS)) (h:Nat->T) (d:Option Tmp) (t:T) (S:TS):Option (Prop×(Nat->T)×TS):=runT P Γ GL own ops l (putT h d t) S outs
theorem yek {t:T}:yh4 P Γ GL own ops l outs h d t S=runT P Γ GL own ops l (putT h d t) S outs:=f7 rfl rfl
def offT (P:gt) (Γ:Env) (GL:List (Nat×List Value)) (own:List Nat) (ops l:List Oper) (outs:List (T×TS)) (h:Nat->T) (d:Option Tmp) (S:TS) (_:Unit):Option (Prop×(Nat->T)×TS):=runT P Γ GL own ops l (putT h d (.tup [])) S outs
theorem ykn {u:Unit}:offT P Γ GL own ops l outs h d S u=runT P Γ GL own ops l (putT h d (.tup [])) S outs:=f7 rfl rfl
def yh1 (P:gt) (Γ:Env) (GL:List (Nat×List Value)) (own:List Nat) (ops l:List Oper) (outs:List (T×TS)) (h:Nat->T) (S:TS) (o:Oper) (_:Unit):Option (Prop×(Nat->T)×TS):=yhd (zes P Γ own (zdo GL h) o S) (yh4 P Γ GL own ops l outs h o.dst)
theorem yeh {u:Unit} {op:Op}:yh1 P Γ GL own ops l outs h S ⟨d,op,ty,pos,e,g⟩ u=yhd (zes P Γ own (zdo GL h) ⟨d,op,ty,pos,e,g⟩ S) (yh4 P Γ GL own ops l outs h d):=f7 rfl rfl
theorem z7r {op:Op} (hc:zcu op=false):runT P Γ GL own ops (⟨d,op,ty,pos,e,g⟩ :: l) h S outs=zox (zja ops h g) (offT P Γ GL own ops l outs h d S) (yh1 P Γ GL own ops l outs h S ⟨d,op,ty,pos,e,g⟩):=by
  rw [runT];simp only
  cases hg:zja ops h g with
  |none=>rfl
  |some b =>
    cases b with
    |false=>rfl
    |true =>
      simp only [zox,yh1]
      cases hs:zes P Γ own (zdo GL h) ⟨d,op,ty,pos,e,g⟩ S with
      |none =>
        cases op with
        |call c =>
          obtain ⟨cal,args,tys⟩:=c
          cases cal with
          |value f=>simp [zcu] at hc
          |_=>rfl
        |_=>rfl
      |some r =>
        cases op with
        |call c =>
          obtain ⟨cal,args,tys⟩:=c
          cases cal with
          |value f=>simp [zcu] at hc
          |_=>rfl
        |_=>rfl
theorem ydk {op:Op} (hc:zcu op=false):runT P Γ GL own ops (⟨d,op,ty,pos,e,none⟩ :: l) h S outs=yhd (zes P Γ own (zdo GL h) ⟨d,op,ty,pos,e,none⟩ S) (yh4 P Γ GL own ops l outs h d):=by
  rw [z7r hc];rfl
theorem ydl {op:Op} {j:Nat} {w:Bool} (hc:zcu op=false):runT P Γ GL own ops (⟨d,op,ty,pos,e,some (j,w)⟩ :: l) h S outs=zox (zpp (zp0 ops h j) w) (offT P Γ GL own ops l outs h d S) (yh1 P Γ GL own ops l outs h S ⟨d,op,ty,pos,e,some (j,w)⟩):=by
  rw [z7r hc,zj2]
def yin (p:Option Prop) (k:Option (Prop×(Nat->T)×TS)):Option (Prop×(Nat->T)×TS):=match p,k with
  |some p,some (q,h,S)=>some (p/\q,h,S)
  |_,_=>none
theorem z3f {p q:Prop}:yin (some p) (some (q,h,S))=some (p/\q,h,S):=f7 rfl rfl
def yi6 (P:gt) (Γ:Env) (GL:List (Nat×List Value)) (own:List Nat) (ops l:List Oper) (outs:List (T×TS)) (h:Nat->T) (S:TS) (d:Option Tmp) (f:gb) (args:List gb) (r:T×TS) (_:Unit):Option (Prop×(Nat->T)×TS):=yin (z1e P Γ GL S (args.map (zdo GL h)) (zdo GL h f) r) (runT P Γ GL own ops l (putT h d r.1) r.2 outs)
theorem z99 {u:Unit} {f:gb} {args:List gb} {r:T×TS}:yi6 P Γ GL own ops l outs h S d f args r u=yin (z1e P Γ GL S (args.map (zdo GL h)) (zdo GL h f) r) (runT P Γ GL own ops l (putT h d r.1) r.2 outs):=f7 rfl rfl
theorem zxr {f:gb} {args:Array gb} {tys:Array gi} {r:T×TS}:runT P Γ GL own ops (⟨d,.call ⟨.value f,args,tys⟩,ty,pos,e,g⟩ :: l) h S (r :: outs)=zox (zja ops h g) (offT P Γ GL own ops l (r :: outs) h d S) (yi6 P Γ GL own ops l outs h S d f args.toList r):=by
  rw [runT];simp only
  cases hg:zja ops h g with
  |none=>rfl
  |some b =>
    cases b with
    |false=>rfl
    |true =>
      simp only [zox,yi6]
      cases z1e P Γ GL S (args.toList.map (zdo GL h)) (zdo GL h f) r with
      |none=>rfl
      |some p=>cases runT P Γ GL own ops l (putT h d r.1) r.2 outs<;>rfl
theorem z18 {f:gb} {args:Array gb} {tys:Array gi} {r:T×TS}:runT P Γ GL own ops (⟨d,.call ⟨.value f,args,tys⟩,ty,pos,e,none⟩ :: l) h S (r :: outs)=yin (z1e P Γ GL S (args.toList.map (zdo GL h)) (zdo GL h f) r) (runT P Γ GL own ops l (putT h d r.1) r.2 outs):=by
  rw [zxr];rfl
theorem zuh {f:gb} {args:Array gb} {tys:Array gi} {r:T×TS} {j:Nat} {w:Bool}:runT P Γ GL own ops (⟨d,.call ⟨.value f,args,tys⟩,ty,pos,e,some (j,w)⟩ :: l) h S (r :: outs)=zox (zpp (zp0 ops h j) w) (offT P Γ GL own ops l (r :: outs) h d S) (yi6 P Γ GL own ops l outs h S d f args.toList r):=by
  rw [zxr,zj2]
theorem zug {f:gb} {args:Array gb} {tys:Array gi} {j:Nat} {w:Bool}:runT P Γ GL own ops (⟨d,.call ⟨.value f,args,tys⟩,ty,pos,e,some (j,w)⟩ :: l) h S []=zox (zpp (zp0 ops h j) w) (offT P Γ GL own ops l [] h d S) (fun _=>none):=by
  rw [runT];simp only [zj2]
  cases zpp (zp0 ops h j) w with
  |none=>rfl
  |some b=>cases b<;>rfl
theorem z95 {k:Nat} {first cap args:List T} {r:T×TS}:z1e P Γ GL S args (.fn k first cap) r=some (Call P Γ GL k (first++args++cap) S r.1 r.2):=f7 rfl rfl
def yhe {α:Type} (r:Option T) (k:T->Option α):Option α:=match r with
  |some t=>k t
  |none=>none
theorem zw7 {α:Type} (t:T) (k:T->Option α):yhe (some t) k=k t:=f7 rfl rfl
def yh5 (P:gt) (Γ:Env) (GL:List (Nat×List Value)) (ops l:List Oper) (outs:List T) (h:Nat->T) (d:Option Tmp) (S:TS) (t:T):Option (Prop×(Nat->T)):=runP P Γ GL ops l (putT h d t) S outs
theorem z8k {t:T}:yh5 P Γ GL ops l outsP h d S t=runP P Γ GL ops l (putT h d t) S outsP:=f7 rfl rfl
def offP (P:gt) (Γ:Env) (GL:List (Nat×List Value)) (ops l:List Oper) (outs:List T) (h:Nat->T) (d:Option Tmp) (S:TS) (_:Unit):Option (Prop×(Nat->T)):=runP P Γ GL ops l (putT h d (.tup [])) S outs
theorem yei {u:Unit}:offP P Γ GL ops l outsP h d S u=runP P Γ GL ops l (putT h d (.tup [])) S outsP:=f7 rfl rfl
def yh2 (P:gt) (Γ:Env) (GL:List (Nat×List Value)) (ops l:List Oper) (outs:List T) (h:Nat->T) (S:TS) (o:Oper) (_:Unit):Option (Prop×(Nat->T)):=yhe (zfm P Γ (zdo GL h) o S) (yh5 P Γ GL ops l outs h o.dst S)
theorem z8g {u:Unit} {op:Op}:yh2 P Γ GL ops l outsP h S ⟨d,op,ty,pos,e,g⟩ u=yhe (zfm P Γ (zdo GL h) ⟨d,op,ty,pos,e,g⟩ S) (yh5 P Γ GL ops l outsP h d S):=f7 rfl rfl
theorem z7t {op:Op} (hc:zcu op=false):runP P Γ GL ops (⟨d,op,ty,pos,e,g⟩ :: l) h S outsP=zox (zja ops h g) (offP P Γ GL ops l outsP h d S) (yh2 P Γ GL ops l outsP h S ⟨d,op,ty,pos,e,g⟩):=by
  rw [runP];simp only
  cases hg:zja ops h g with
  |none=>rfl
  |some b =>
    cases b with
    |false=>rfl
    |true =>
      simp only [zox,yh2]
      cases hs:zfm P Γ (zdo GL h) ⟨d,op,ty,pos,e,g⟩ S with
      |none =>
        cases op with
        |call c =>
          obtain ⟨cal,args,tys⟩:=c
          cases cal with
          |value f=>simp [zcu] at hc
          |_=>rfl
        |_=>rfl
      |some r =>
        cases op with
        |call c =>
          obtain ⟨cal,args,tys⟩:=c
          cases cal with
          |value f=>simp [zcu] at hc
          |_=>rfl
        |_=>rfl
theorem ydm {op:Op} (hc:zcu op=false):runP P Γ GL ops (⟨d,op,ty,pos,e,none⟩ :: l) h S outsP=yhe (zfm P Γ (zdo GL h) ⟨d,op,ty,pos,e,none⟩ S) (yh5 P Γ GL ops l outsP h d S):=by
  rw [z7t hc];rfl
theorem ydn {op:Op} {j:Nat} {w:Bool} (hc:zcu op=false):runP P Γ GL ops (⟨d,op,ty,pos,e,some (j,w)⟩ :: l) h S outsP=zox (zpp (zp0 ops h j) w) (offP P Γ GL ops l outsP h d S) (yh2 P Γ GL ops l outsP h S ⟨d,op,ty,pos,e,some (j,w)⟩):=by
  rw [z7t hc,zj2]
def yio (p:Option Prop) (k:Option (Prop×(Nat->T))):Option (Prop×(Nat->T)):=match p,k with
  |some p,some (q,h)=>some (p/\q,h)
  |_,_=>none
theorem zyg {p q:Prop}:yio (some p) (some (q,h))=some (p/\q,h):=f7 rfl rfl
def z98 (P:gt) (Γ:Env) (GL:List (Nat×List Value)) (ops l:List Oper) (outs:List T) (h:Nat->T) (S:TS) (d:Option Tmp) (f:gb) (args:List gb) (r:T) (_:Unit):Option (Prop×(Nat->T)):=yio (z6u P Γ GL S (args.map (zdo GL h)) (zdo GL h f) r) (runP P Γ GL ops l (putT h d r) S outs)
theorem z4p {u:Unit} {f:gb} {args:List gb} {r:T}:z98 P Γ GL ops l outsP h S d f args r u=yio (z6u P Γ GL S (args.map (zdo GL h)) (zdo GL h f) r) (runP P Γ GL ops l (putT h d r) S outsP):=f7 rfl rfl
theorem zxs {f:gb} {args:Array gb} {tys:Array gi} {r:T}:runP P Γ GL ops (⟨d,.call ⟨.value f,args,tys⟩,ty,pos,e,g⟩ :: l) h S (r :: outsP)=zox (zja ops h g) (offP P Γ GL ops l (r :: outsP) h d S) (z98 P Γ GL ops l outsP h S d f args.toList r):=by
  rw [runP];simp only
  cases hg:zja ops h g with
  |none=>rfl
  |some b =>
    cases b with
    |false=>rfl
    |true =>
      simp only [zox,z98]
      cases z6u P Γ GL S (args.toList.map (zdo GL h)) (zdo GL h f) r with
      |none=>rfl
      |some p=>cases runP P Γ GL ops l (putT h d r) S outsP<;>rfl
theorem z19 {f:gb} {args:Array gb} {tys:Array gi} {r:T}:runP P Γ GL ops (⟨d,.call ⟨.value f,args,tys⟩,ty,pos,e,none⟩ :: l) h S (r :: outsP)=yio (z6u P Γ GL S (args.toList.map (zdo GL h)) (zdo GL h f) r) (runP P Γ GL ops l (putT h d r) S outsP):=by
  rw [zxs];rfl
theorem zuj {f:gb} {args:Array gb} {tys:Array gi} {r:T} {j:Nat} {w:Bool}:runP P Γ GL ops (⟨d,.call ⟨.value f,args,tys⟩,ty,pos,e,some (j,w)⟩ :: l) h S (r :: outsP)=zox (zpp (zp0 ops h j) w) (offP P Γ GL ops l (r :: outsP) h d S) (z98 P Γ GL ops l outsP h S d f args.toList r):=by
  rw [zxs,zj2]
theorem zui {f:gb} {args:Array gb} {tys:Array gi} {j:Nat} {w:Bool}:runP P Γ GL ops (⟨d,.call ⟨.value f,args,tys⟩,ty,pos,e,some (j,w)⟩ :: l) h S []=zox (zpp (zp0 ops h j) w) (offP P Γ GL ops l [] h d S) (fun _=>none):=by
  rw [runP];simp only [zj2]
  cases zpp (zp0 ops h j) w with
  |none=>rfl
  |some b=>cases b<;>rfl
theorem z97 {k:Nat} {first cap args:List T} {r:T}:z6u P Γ GL S args (.fn k first cap) r=some (zal P Γ GL k (first++args++cap) S r):=f7 rfl rfl
theorem zbf {t u:Nat} {v:T}:tupd h t v u=if u=t then v else h u:=f7 rfl rfl
theorem yd7 {t:Tmp} {v:T}:putT h (some t) v=tupd h t v:=f7 rfl rfl
theorem yd8 {v:T}:putT h none v=h:=f7 rfl rfl
theorem zqv {t:Tmp}:zdo GL h (.tmp t)=h t:=f7 rfl rfl
theorem zjr {v:Value}:zdo GL h (.const v)=zn2 v:=f7 rfl rfl
theorem yf6 {f:Nat}:zdo GL h (.func f)=.fn f [] []:=f7 rfl rfl
theorem z34 {f:Nat}:zdo GL h (.global f)=yfw GL f:=f7 rfl rfl
theorem ykp {k:iy} {n:Int}:zn2 (.int k n)=.int k n:=f7 rfl rfl
theorem zmf {b:Bool}:zn2 (.bool b)=.bool b:=f7 rfl rfl
theorem yko {b:ByteArray}:zn2 (.string b)=.str b:=f7 rfl rfl
theorem ye7:zn2 (.slice none 0 0)=.nils:=f7 rfl rfl
theorem ye8:zn2 (.pointer none)=.nilp:=f7 rfl rfl
theorem ye9:zn2 (.map none)=.nilm:=f7 rfl rfl
theorem yfa:zn2 .nilFunc=.nilf:=f7 rfl rfl
theorem zw2 {t:T}:zg1 S (some t)=some (t,S):=f7 rfl rfl
theorem zw3:zzq (some S)=some (.junk,S):=f7 rfl rfl
-- which operations are calls
theorem yfo {x}:zcu (.move x)=false:=f7 rfl rfl
theorem z3o {x}:zcu (.assign x)=false:=f7 rfl rfl
theorem yfn {a b c}:zcu (.pick a b c)=false:=f7 rfl rfl
theorem z85 {x}:zcu (.alloc x)=false:=f7 rfl rfl
theorem ykw {x y}:zcu (.box x y)=false:=f7 rfl rfl
theorem z84 {x y}:zcu (.build x y)=false:=f7 rfl rfl
theorem zcj {x y z}:zcu (.buildSlice x y z)=false:=f7 rfl rfl
theorem yfp {x y}:zcu (.load x y)=false:=f7 rfl rfl
theorem z80 {x y z}:zcu (.store x y z)=false:=f7 rfl rfl
theorem zvh {x}:zcu (.nilCheck x)=false:=f7 rfl rfl
theorem ykx {x y z w v}:zcu (.binOp x y z w v)=false:=f7 rfl rfl
theorem yp1 {x y z}:zcu (.unOp x y z)=false:=f7 rfl rfl
theorem yfq {x y z}:zcu (.convert x y z)=false:=f7 rfl rfl
theorem ykv {x y}:zcu (.sliceToArrayPointer x y)=false:=f7 rfl rfl
theorem zvi {x y z}:zcu (.makeFunc x y z)=false:=f7 rfl rfl
theorem zbw {x y z w}:zcu (.lookup x y z w)=false:=f7 rfl rfl
theorem zbd {x y}:zcu (.makeMap x y)=false:=f7 rfl rfl
theorem za0 {x y z w}:zcu (.mapUpdate x y z w)=false:=f7 rfl rfl
theorem zbx {x y z w}:zcu (.insert x y z w)=false:=f7 rfl rfl
theorem zse {x y z}:zcu (.makeSlice x y z)=false:=f7 rfl rfl
theorem z81 {x y z w v}:zcu (.slice x y z w v)=false:=f7 rfl rfl
theorem zsg {x y z}:zcu (.fieldAddr x y z)=false:=f7 rfl rfl
theorem z83 {x y z}:zcu (.field x y z)=false:=f7 rfl rfl
theorem zsf {x y z}:zcu (.indexAddr x y z)=false:=f7 rfl rfl
theorem z82 {x y z}:zcu (.index x y z)=false:=f7 rfl rfl
theorem zyu {x y}:zcu (.extract x y)=false:=f7 rfl rfl
theorem zyv {b x y}:zcu (.call ⟨.builtin b,x,y⟩)=false:=f7 rfl rfl
variable {ρ:gb->T} {t t2:gi} {x y z:gb}
theorem ydb  : zes P Γ own ρ ⟨d,.move x,ty,pos,e,g⟩ S=zg1 S (some (ρ x)):=f7 rfl rfl
theorem ydf  : zfm P Γ ρ ⟨d,.move x,ty,pos,e,g⟩ S=some (ρ x):=f7 rfl rfl
theorem z14  : zes P Γ own ρ ⟨d,.assign x,ty,pos,e,g⟩ S=zg1 S (some (ρ x)):=f7 rfl rfl
theorem z16  : zfm P Γ ρ ⟨d,.assign x,ty,pos,e,g⟩ S=some (ρ x):=f7 rfl rfl
theorem ydc  : zes P Γ own ρ ⟨d,.load t x,ty,pos,e,g⟩ S=zg1 S (ztv Γ S t (ρ x)):=f7 rfl rfl
theorem ydi  : zfm P Γ ρ ⟨d,.load t x,ty,pos,e,g⟩ S=ztv Γ S t (ρ x):=f7 rfl rfl
theorem zua  : zes P Γ own ρ ⟨d,.nilCheck x,ty,pos,e,g⟩ S=zg1 S (zfw S (ρ x)):=f7 rfl rfl
theorem zuc  : zfm P Γ ρ ⟨d,.nilCheck x,ty,pos,e,g⟩ S=zfw S (ρ x):=f7 rfl rfl
theorem yj1  : zes P Γ own ρ ⟨d,.sliceToArrayPointer t x,ty,pos,e,g⟩ S=zg1 S (tS2A Γ S t (ρ x)):=f7 rfl rfl
theorem yj7  : zfm P Γ ρ ⟨d,.sliceToArrayPointer t x,ty,pos,e,g⟩ S=tS2A Γ S t (ρ x):=f7 rfl rfl
theorem zr7 {k:Nat}:zes P Γ own ρ ⟨d,.fieldAddr t x k,ty,pos,e,g⟩ S=zg1 S (zan Γ S t k (ρ x)):=f7 rfl rfl
theorem zr9 {k:Nat}:zfm P Γ ρ ⟨d,.fieldAddr t x k,ty,pos,e,g⟩ S=zan Γ S t k (ρ x):=f7 rfl rfl
theorem z7j {k:Nat}:zes P Γ own ρ ⟨d,.field t x k,ty,pos,e,g⟩ S=zg1 S (z1t Γ t k (ρ x)):=f7 rfl rfl
theorem z7o {k:Nat}:zfm P Γ ρ ⟨d,.field t x k,ty,pos,e,g⟩ S=z1t Γ t k (ρ x):=f7 rfl rfl
theorem zr6  : zes P Γ own ρ ⟨d,.indexAddr t x y,ty,pos,e,g⟩ S=zg1 S (zif Γ S t (ρ x) (ρ y)):=f7 rfl rfl
theorem zr8  : zfm P Γ ρ ⟨d,.indexAddr t x y,ty,pos,e,g⟩ S=zif Γ S t (ρ x) (ρ y):=f7 rfl rfl
theorem z7i  : zes P Γ own ρ ⟨d,.index t x y,ty,pos,e,g⟩ S=zg1 S (ztw Γ t (ρ x) (ρ y)):=f7 rfl rfl
theorem z7n  : zfm P Γ ρ ⟨d,.index t x y,ty,pos,e,g⟩ S=ztw Γ t (ρ x) (ρ y):=f7 rfl rfl
theorem zxn {k:Nat}:zes P Γ own ρ ⟨d,.extract x k,ty,pos,e,g⟩ S=zg1 S (zl1 k (ρ x)):=f7 rfl rfl
theorem zxo {k:Nat}:zfm P Γ ρ ⟨d,.extract x k,ty,pos,e,g⟩ S=zl1 k (ρ x):=f7 rfl rfl
theorem ypc {u:UnOp}:zes P Γ own ρ ⟨d,.unOp u t x,ty,pos,e,g⟩ S=zg1 S (tUn u (ρ x)):=f7 rfl rfl
theorem ypd {u:UnOp}:zfm P Γ ρ ⟨d,.unOp u t x,ty,pos,e,g⟩ S=tUn u (ρ x):=f7 rfl rfl
theorem yj6 {b:BinOp}:zes P Γ own ρ ⟨d,.binOp b t x y t2,ty,pos,e,g⟩ S=zg1 S (tBin P Γ S t b x y (ρ x) (ρ y)):=f7 rfl rfl
theorem yj9 {b:BinOp}:zfm P Γ ρ ⟨d,.binOp b t x y t2,ty,pos,e,g⟩ S=tBin P Γ S t b x y (ρ x) (ρ y):=f7 rfl rfl
theorem z7k {parts:Array (Nat×gb)}:zes P Γ own ρ ⟨d,.build t parts,ty,pos,e,g⟩ S=zg1 S (zki Γ ρ t parts.toList):=f7 rfl rfl
theorem z7p {parts:Array (Nat×gb)}:zfm P Γ ρ ⟨d,.build t parts,ty,pos,e,g⟩ S=zki Γ ρ t parts.toList:=f7 rfl rfl
theorem z7h {lo hi mx:Option gb}:zes P Γ own ρ ⟨d,.slice t x lo hi mx,ty,pos,e,g⟩ S=zg1 S (ztu Γ S t (ρ x) (lo.map ρ) (hi.map ρ) (mx.map ρ)):=f7 rfl rfl
theorem z7m {lo hi mx:Option gb}:zfm P Γ ρ ⟨d,.slice t x lo hi mx,ty,pos,e,g⟩ S=ztu Γ S t (ρ x) (lo.map ρ) (hi.map ρ) (mx.map ρ):=f7 rfl rfl
theorem zub {f:Nat} {a c:Array gb}:zes P Γ own ρ ⟨d,.makeFunc (.func f) a c,ty,pos,e,g⟩ S=zg1 S (some (.fn f (a.toList.map ρ) (c.toList.map ρ))):=f7 rfl rfl
theorem zud {f:Nat} {a c:Array gb}:zfm P Γ ρ ⟨d,.makeFunc (.func f) a c,ty,pos,e,g⟩ S=some (.fn f (a.toList.map ρ) (c.toList.map ρ)):=f7 rfl rfl
def yhz (c a b:T):Option T:=match c with|.bool t=>some (bif t then a else b)|_=>none
theorem yd4 {a b:T}:yhz (.bool true) a b=some a:=f7 rfl rfl
theorem yd5 {a b:T}:yhz (.bool false) a b=some b:=f7 rfl rfl
theorem z5h:zfm P Γ ρ ⟨d,.pick z x y,ty,pos,e,g⟩ S=yhz (ρ z) (ρ x) (ρ y):=by
  show (match ρ z with|.bool t=>some (bif t then ρ x else ρ y)|_=>none)=_;cases ρ z<;>rfl
theorem yda:zes P Γ own ρ ⟨d,.pick z x y,ty,pos,e,g⟩ S=zg1 S (yhz (ρ z) (ρ x) (ρ y)):=by
  show zg1 S (zfm P Γ ρ ⟨d,.pick z x y,ty,pos,e,g⟩ S)=_;rw [z5h]
theorem z7l:zes P Γ own ρ ⟨d,.alloc t,ty,pos,e,g⟩ S=zxc Γ S t:=f7 rfl rfl
theorem yj5:zes P Γ own ρ ⟨d,.box t x,ty,pos,e,g⟩ S=tBox S (ρ x):=f7 rfl rfl
theorem z7g:zes P Γ own ρ ⟨d,.store t x y,ty,pos,e,g⟩ S=zzq (zxb Γ S t (ρ y) (ρ x)):=f7 rfl rfl
theorem zbs {k:gb} {ok:Bool}:zes P Γ own ρ ⟨d,.lookup t x k ok,ty,pos,e,g⟩ S=zg1 S (zc5 Γ S t (ρ x) (ρ k) ok):=f7 rfl rfl
theorem zbu {k:gb} {ok:Bool}:zfm P Γ ρ ⟨d,.lookup t x k ok,ty,pos,e,g⟩ S=zc5 Γ S t (ρ x) (ρ k) ok:=f7 rfl rfl
theorem zbc:zes P Γ own ρ ⟨d,.makeMap t none,ty,pos,e,g⟩ S=zbz S:=f7 rfl rfl
theorem zaz {k v:gb}:zes P Γ own ρ ⟨d,.mapUpdate t x k v,ty,pos,e,g⟩ S=zzq (za1 Γ S t (ρ k) (ρ v) (ρ x)):=f7 rfl rfl
theorem zbt {k v:gb}:zes P Γ own ρ ⟨d,.insert t x k v,ty,pos,e,g⟩ S=zzq (za1 Γ S t (ρ k) (ρ v) (ρ x)):=f7 rfl rfl
theorem zr5:zes P Γ own ρ ⟨d,.makeSlice t x y,ty,pos,e,g⟩ S=zju Γ S t (ρ x) (ρ y):=f7 rfl rfl
theorem yde:zes P Γ own ρ ⟨d,.convert t t2 x,ty,pos,e,g⟩ S=bif ownD own d then zsz Γ S t t2 (ρ x) else zg1 S (zr0 Γ S t t2 (ρ x)):=f7 rfl rfl
theorem ydj:zfm P Γ ρ ⟨d,.convert t t2 x,ty,pos,e,g⟩ S=zr0 Γ S t t2 (ρ x):=f7 rfl rfl
theorem zai {n:Nat} {parts:Array (Nat×gb)}:zes P Γ own ρ ⟨d,.buildSlice t n parts,ty,pos,e,g⟩ S=bif ownD own d then zas Γ S ρ t n parts.toList else zg1 S (zam Γ ρ t n parts.toList):=f7 rfl rfl
theorem zao {n:Nat} {parts:Array (Nat×gb)}:zfm P Γ ρ ⟨d,.buildSlice t n parts,ty,pos,e,g⟩ S=zam Γ ρ t n parts.toList:=f7 rfl rfl
theorem yj8:zfm P Γ ρ ⟨d,.call ⟨.builtin .len,#[x],#[t]⟩,ty,pos,e,g⟩ S=tLen Γ S t (ρ x):=f7 rfl rfl
theorem yj4:zes P Γ own ρ ⟨d,.call ⟨.builtin .len,#[x],#[t]⟩,ty,pos,e,g⟩ S=zg1 S (tLen Γ S t (ρ x)):=f7 rfl rfl
theorem z15:zes P Γ own ρ ⟨d,.call ⟨.builtin .append,#[x,y],#[t,t2]⟩,ty,pos,e,g⟩ S=bif srcT Γ t2 then zm5 Γ S t (ρ y) (ρ x) else none:=f7 rfl rfl
theorem yhn:zes P Γ own ρ ⟨d,.call ⟨.builtin .clear,#[x],#[t]⟩,ty,pos,e,g⟩ S=ztx Γ S t (ρ x):=f7 rfl rfl
theorem ydd:zes P Γ own ρ ⟨d,.call ⟨.builtin .copy,#[x,y],#[t,t2]⟩,ty,pos,e,g⟩ S=yhj Γ S t (ρ y) (ρ x):=f7 rfl rfl
def minT (a b:T):Option T:=match a,b with|.int k a,.int _ b=>some (.int k (min a b))|_,_=>none
def maxT (a b:T):Option T:=match a,b with|.int k a,.int _ b=>some (.int k (max a b))|_,_=>none
theorem z8m {k k':iy} {a b:Int}:minT (.int k a) (.int k' b)=some (.int k (min a b)):=f7 rfl rfl
theorem z8n {k k':iy} {a b:Int}:maxT (.int k a) (.int k' b)=some (.int k (max a b)):=f7 rfl rfl
theorem ydg {tys:Array gi}:zfm P Γ ρ ⟨d,.call ⟨.builtin .min,#[x,y],tys⟩,ty,pos,e,g⟩ S=minT (ρ x) (ρ y):=by
  show (match ρ x,ρ y with|.int k a,.int _ b=>some (T.int k (min a b))|_,_=>none)=_;cases ρ x<;>cases ρ y<;>rfl
theorem yj2 {tys:Array gi}:zes P Γ own ρ ⟨d,.call ⟨.builtin .min,#[x,y],tys⟩,ty,pos,e,g⟩ S=zg1 S (minT (ρ x) (ρ y)):=by
  show zg1 S (zfm P Γ ρ ⟨d,.call ⟨.builtin .min,#[x,y],tys⟩,ty,pos,e,g⟩ S)=_;rw [ydg]
theorem ydh {tys:Array gi}:zfm P Γ ρ ⟨d,.call ⟨.builtin .max,#[x,y],tys⟩,ty,pos,e,g⟩ S=maxT (ρ x) (ρ y):=by
  show (match ρ x,ρ y with|.int k a,.int _ b=>some (T.int k (max a b))|_,_=>none)=_;cases ρ x<;>cases ρ y<;>rfl
theorem yj3 {tys:Array gi}:zes P Γ own ρ ⟨d,.call ⟨.builtin .max,#[x,y],tys⟩,ty,pos,e,g⟩ S=zg1 S (maxT (ρ x) (ρ y)):=by
  show zg1 S (zfm P Γ ρ ⟨d,.call ⟨.builtin .max,#[x,y],tys⟩,ty,pos,e,g⟩ S)=_;rw [ydh]
theorem yjw {b:BinOp} {k k':iy} {m n:Int}:tBin P Γ S t b x y (.int k m) (.int k' n)=zbv b k k' m n:=f7 rfl rfl
theorem yjv {b:BinOp} {m n:ByteArray}:tBin P Γ S t b x y (.str m) (.str n)=zxd b m n:=f7 rfl rfl
theorem yjz {m n:ByteArray}:zxd .eql m n=some (.bool (decide (m=n))):=f7 rfl rfl
theorem yjy {m n:ByteArray}:zxd .neq m n=some (.bool (!decide (m=n))):=f7 rfl rfl
theorem yjt {b:Bool}:tUn .not (.bool b)=some (.bool (!b)):=f7 rfl rfl
theorem yju {k:iy} {n:Int}:tUn .neg (.int k n)=some (.int k (k.wrap (0 - n))):=f7 rfl rfl
end
section
variable {k:iy} {a b:Int}
theorem yk6:zbv .add k k a b=some (.int k (k.wrap (a+b))):=by simp [zbv]
theorem yky:zbv .sub k k a b=some (.int k (k.wrap (a - b))):=by simp [zbv]
theorem yk0:zbv .mul k k a b=some (.int k (k.wrap (a*b))):=by simp [zbv]
theorem yk5:zbv .eql k k a b=some (.bool (decide (a=b))):=by simp [zbv]
theorem ykz:zbv .neq k k a b=some (.bool (decide (a≠b))):=by simp [zbv]
theorem yk1:zbv .lss k k a b=some (.bool (decide (a<b))):=by simp [zbv]
theorem yk2:zbv .leq k k a b=some (.bool (decide (a<=b))):=by simp [zbv]
theorem yk3:zbv .gtr k k a b=some (.bool (decide (b<a))):=by simp [zbv]
theorem yk4:zbv .geq k k a b=some (.bool (decide (b<=a))):=by simp [zbv]
theorem zge (ha:0<=a) (hb:0<b):zbv .quo k k a b=some (.int k (k.wrap (a / b))):=by
  simp only [zbv,jc,cond_true];rw [zAd (by omega),Int.tdiv_eq_ediv_of_nonneg ha]
theorem zgd (ha:0<=a) (hb:0<b):zbv .rem k k a b=some (.int k (a % b)):=by
  simp only [zbv,jc,cond_true];rw [zAd (by omega),Int.tmod_eq_emod_of_nonneg ha]
theorem yp5:zbv .and k k a b=some (.int k (k.wrap (jb k.bits a &&& jb k.bits b).toNat)):=by simp [zbv]
theorem ib_or:zbv .or k k a b=some (.int k (k.wrap (jb k.bits a ||| jb k.bits b).toNat)):=by simp [zbv]
theorem yp2:zbv .xor k k a b=some (.int k (k.wrap (jb k.bits a ^^^ jb k.bits b).toNat)):=by simp [zbv]
theorem yp4 {k':iy} (hb:0<=b):zbv .shl k k' a b=some (.int k (k.wrap (a*2 ^ (min b.toNat k.bits)))):=by simp [zbv,hb]
theorem yp3 {k':iy} (hb:0<=b):zbv .shr k k' a b=some (.int k (a.fdiv (2 ^ (min b.toNat k.bits)))):=by simp [zbv,hb]
theorem wr64 {n:Int} (h:-9223372036854775808<=n/\n<=9223372036854775807):IntKind.i64.wrap n=n:=ynt h
theorem yep {n:Int} (h:0<=n):natT (.int k n)=some n.toNat:=by
  obtain ⟨m,rfl⟩:=jy h;rfl
theorem yer {n:Int} (h:0<=n):zh3 (.int k n)=some n.toNat:=by
  obtain ⟨m,rfl⟩:=jy h;rfl
theorem zx1 {n:Int}:zem (.int k n)=.int k n:=f7 rfl rfl
theorem yis {α:Type} [Inhabited α] {L:List α} {n:Nat} (h:n<L.length):L[n]?=some (L.getD n default):=by
  rw [fq,fm h];rfl
def stL (l:List Box):TS:=⟨l.length,fun i=>l.getD i .gone⟩
theorem ztq:ts0=stL []:=rfl
theorem st_n (l:List Box):(stL l).n=l.length:=rfl
theorem yjx (l:List Box) (i:Nat):(stL l).box i=l.getD i .gone:=rfl
theorem z1w (l:List Box) (x:Box):(stL l).add x=stL (l++[x]):=by
  unfold stL TS.add;simp only [f5,gm,ji];congr 1;funext i;by_cases hi:i<l.length
  . rw [zAd (by omega),fq,fq,gn hi]
  . by_cases he:i=l.length
    . subst he;rw [zAc rfl];simp
    . rw [zAd he,fq,fq,kb (by omega),kb (by simp;omega)]
theorem zei (l:List Box) (b:Nat) (x:Box) (h:b<l.length):(stL l).set b x=stL (l.set b x):=by
  unfold stL TS.set;simp only [List.length_set];congr 1;funext i;rw [fq,fq,List.getElem?_set];by_cases hi:i=b
  . subst hi;rw [zAc rfl,zAc rfl,zAc h];rfl
  . rw [zAd hi,zAd (fun hh=>hi hh.symm)]
theorem z3r {α:Type} (x d:α) (l:List α):(x :: l).getD 0 d=x:=rfl
theorem z3s {α:Type} (x d:α) (l:List α) (n:Nat):(x :: l).getD (n+1) d=l.getD n d:=rfl
end
def zjg (l:List Nat) (h:Nat->T):Nat->T:=fun t=>if t∈l then h t else .junk
def zgb:List Nat->Nat->(Nat->T)->Prop
  |[],_,_=>True
  |t :: l,n,h=>(h t).ids n=true/\zgb l n h
theorem zph {n:Nat} {h:Nat->T}:∀ {l:List Nat},zgb l n h->∀ t,t∈l->(h t).ids n=true
  |[],_,t,ht=>by simp at ht
  |x :: l,k,t,ht=>by
    rcases List.mem_cons.1 ht with rfl|ht
    . exact k.1
    . exact zph k.2 t ht
def zea (n:Nat):List Box->Bool
  |[]=>true
  |b :: l=>zh8 n b && zea n l
theorem ym3 {l:List T} {i:Nat} {x:T} (h:i<l.length):spl l i [x]=l.set i x:=by
  unfold spl;rw [List.set_eq_take_append_cons_drop,zAc h];simp
theorem ym8 {α:Type} {L:List α} {f:α->T} {i:Nat} {v:α}:(L.map f).set i (f v)=(L.set i v).map f:=(List.map_set).symm
theorem ym7 {l:List T}:spl l 0 []=l:=by simp [spl]
theorem yo7 {a:T} {l xs:List T} {n:Nat}:spl (a :: l) (n+1) xs=a :: spl l n xs:=by
  unfold spl;rw [show n+1+xs.length=(n+xs.length)+1 by omega];simp
theorem yo8 {a x:T} {l xs:List T}:spl (a :: l) 0 (x :: xs)=x :: spl l 0 xs:=by simp [spl]
theorem ym5 {α:Type} {L:List α} {f:α->T} {i:Nat} {v:α} (h:i<L.length):spl (L.map f) i [f v]=(L.set i v).map f:=by
  rw [ym3 (by rw [ft];exact h),ym8]
theorem yds (n:Nat) (k:iy) (z:Int):rep n [.int k z]=(List.replicate n z).map (T.int k):=by
  unfold rep
  induction n with
  |zero=>rfl
  |succ n ih=>rw [jg,im,ih,jg];rfl
theorem z7x (n:Nat) (z:Bool):rep n [.bool z]=(List.replicate n z).map T.bool:=by
  unfold rep
  induction n with
  |zero=>rfl
  |succ n ih=>rw [jg,im,ih,jg];rfl
theorem zlw {α:Type} {L:List α} {f:α->T} (h:∀ x,(f x).cells=[f x]):(L.map f).flatMap jh=L.map f:=by
  induction L with
  |nil=>rfl
  |cons x l ih=>rw [i6,jf,h,ih];rfl
theorem z8p {α:Type} {S:TS} {b N:Nat} {z:Bool} {L:List α} {f:α->T} (h1:∀ x,(f x).cells=[f x]) (hS:S.box b=.cells z N (L.map f)) (hl:L.length=N):yjj S (.arr b 1 0 N N N) (.lst 1 (L.map f)) :=
  .inr ⟨b,1,0,N,N,N,z,L.map f,L.map f,rfl,rfl,hS,by omega,by omega,by rw [gu,qq,io (by rw [ft];omega),zlw h1],fun t ht=>by obtain ⟨x,_,rfl⟩:=jt.1 ht;rw [h1];rfl,by rw [ft];exact hl,fp _⟩
section
variable {GL:List (Nat×List Value)} {A A' A2:Nat->Prop} {β β' β2:Bx} {S S' S2:TS} {s s' s2:CS} {P:gt} {Γ:Env} {N:Nat} {h h' h2:Nat->T} {Q R:Exit->(Nat->T)->TS->Prop}
theorem zkp {l:List Nat} {t:Nat} (ht:t∈l):zjg l h t=h t:=zAc ht
theorem zn5 {n:Nat} {l:List Box}:∀ {i:Nat},zea n l=true->zh8 n (l.getD i .gone)=true:=by
  induction l with
  |nil=>intro i _;rfl
  |cons b l ih =>
    intro i h;simp only [zea,fk] at h
    cases i with
    |zero=>exact h.1
    |succ i=>exact ih h.2
theorem Left.trim {fr fr':Fr} {keep:List Nat} {bs bs2 extra:List Box} (hT:TRel GL A β (stL bs) s) (k:Left GL A β s N fr' s' h' (stL (bs2++extra))) (hl:bs2.length=bs.length) (hb:zea bs.length bs2=true) (hk:zgb keep bs.length h'):Left GL A β s N fr' s' (zjg keep h') (stL bs2):=by
  obtain ⟨A',β',k1,k2,k3⟩:=k;have hat:∀ b,b<bs.length->bcut β' bs.length b=β' b:=fun b hb=>zAc hb
  have hsub:∀ b l,bcut β' bs.length b=some l->β' b=some l:=fun b l h=>by
    unfold bcut at h;split at h
    . exact h
    . simp at h
  have hkp:zrw (stL (bs2++extra)) (stL bs2):=by
    refine ⟨by simp [stL],fun b=>?_⟩;by_cases hbl:b<bs2.length
    . refine .inr ⟨hbl,?_,?_⟩
      . show bs2.getD b .gone=(bs2++extra).getD b .gone;rw [fq,fq,gn hbl]
      . show zh8 bs2.length ((bs2++extra).getD b .gone)=true;rw [fq,gn hbl,<- fq,hl];exact zn5 hb
    . left;show bs2.getD b .gone=.gone;rw [fq,kb (by omega)];rfl
  have hcut:=k2.cut hkp;have hn:(stL bs2).n=bs.length:=hl;rw [hn] at hcut;refine ⟨A',bcut β' bs.length,⟨k1.nt,k1.le,fun t=>?_⟩,hcut,k3.can,k3.sub,k3.new,fun f hf=>?_,k3.keep,fun b l hb'=>?_,k3.rd,k3.wr⟩
  . by_cases ht:t∈keep
    . rw [zkp ht];exact (k1.slot t).ids hat (zph hk t ht)
    . rw [show zjg keep h' t=.junk from zAd ht];exact .junk _
  . obtain ⟨b,hb'⟩:=hf;exact k3.own f ⟨b,hb'.imp (fun ⟨u,N,h⟩=>⟨u,N,hsub _ _ h⟩) fun h=>hsub _ _ h⟩
  . obtain ⟨l',c1,c2⟩:=k3.bx b l hb'
    have:b<bs.length:=by
      by_cases hh:b<bs.length
      . exact hh
      . rw [hT.next b (by show bs.length<=b;omega)] at hb';simp at hb'
    exact ⟨l',by rw [hat b this];exact c1,c2⟩
def yqq (keep:List Nat) (n:Nat) (I:Nat->(Nat->T)->List Box->Prop) (m0:Nat) (h':Nat->T) (S':TS):Prop :=
  ∃ m,m<m0/\∃ bs',S'=stL bs'/\n<=bs'.length/\zea n (bs'.take n)=true/\zgb keep n h'/\I m (zjg keep h') (bs'.take n)
theorem TW.loopT {b:Code} (keep:List Nat) (I:Nat->(Nat->T)->List Box->Prop) (hb:∀ m h bs,I m h bs->TW P Γ GL N b h (stL bs) (onT (fun h' S'=>yqq keep bs.length I m h' S') Q)):∀ m h bs,I m h bs->TW P Γ GL N (.loop b) h (stL bs) Q:=by
  intro m
  induction m using Nat.strongRecOn with
  |_ m ih =>
    intro h bs hI A β fr s hF hT;obtain ⟨e,fr1,s1,h1,h',S',hleft,hq⟩:=hb m h bs hI A β fr s hF hT
    cases e with
    |normal =>
      obtain ⟨m2,hm,bs',rfl,hl,hbi,hki,hI'⟩:=hq;have hl2:=Left.trim (fr:=fr) (keep:=keep) (bs2:=bs'.take bs.length) (extra:=bs'.drop bs.length) hT (by rw [je];exact hleft) (by rw [il];omega) hbi hki;obtain ⟨A',β',k1,k2,k3⟩:=hl2;obtain ⟨e2,fr2,s2,h3,h2,S2,l2,q2⟩:=ih m2 hm _ _ hI' A' β' fr1 s1 k1 k2;exact ⟨e2,fr2,s2,Ev.again h1 h3,h2,S2,Left.trans (h':=h) (fr':=fr) hT.le k3 l2,q2⟩
    |_=>exact ⟨_,_,_,Ev.last h1 (by simp),h',S',hleft,hq⟩
def Ends (keep:List Nat) (n:Nat) (R:(Nat->T)->List Box->Prop) (h':Nat->T) (S':TS):Prop :=
  ∃ bs',S'=stL bs'/\n<=bs'.length/\zea n (bs'.take n)=true/\zgb keep n h'/\R (zjg keep h') (bs'.take n)
theorem TRel.freezeP (hT:TRel GL A β S s) {b M:Nat} {z:Bool} {l:List T} (hS:S.box b=.cells z M l) :
    ∃ A' β',TRel GL A' β' (S.set b .gone) s/\Stp A β s A' β' s/\∀ {v:Value},VT A β (zaa s.obj) (.ptr b 0 M) v->VT A' β' (zaa s.obj) (.cp l) v:=by
  obtain ⟨hlN,hc⟩:=hT.cells b z M l hS;rcases hc with ⟨hb,hN,_⟩|⟨f,u,cs,rest,hb,hz,hat,hvl,hone⟩
  . obtain ⟨k1,k2⟩:=hT.dead hb A (fun _ h=>h) (fun _ h=>.inl h);refine ⟨_,_,k1,k2,fun {v} hv=>?_⟩;obtain ⟨f,u,rfl,hb'⟩:=zka hT hS hv;rw [hb] at hb';simp at hb'
  . obtain ⟨k1,k2⟩:=hT.dead hb (fun k=>A k\/k=f) (fun _ h=>.inl h) (fun k hk=>hk.imp id fun q=>by rw [q];rfl);refine ⟨_,_,k1,k2,fun {v} hv=>?_⟩;obtain ⟨f',u',rfl,hb'⟩:=zka hT hS hv;rw [hb] at hb';cases hb'
    have hrow:zbo (zaa s.obj f).rows u=some cs:=by
      rw [hat];show zbo ((u,cs) :: rest) u=some cs;unfold zbo;rw [jc];rfl
    exact .cp (.inr rfl) hrow (hvl.mono (fun _ h=>.inl h) (fun _ _=>rfl) k2.bx) (by rw [gu,mg])
theorem TW.freezeP {c:Code} (t:Nat) {b M:Nat} {z:Bool} {l:List T} (ht:h t=.ptr b 0 M) (hS:S.box b=.cells z M l) (k:TW P Γ GL N c (tupd h t (.cp l)) (S.set b .gone) Q):TW P Γ GL N c h S Q:=by
  intro A β fr s hF hT;obtain ⟨A',β',k1,k2,k3⟩:=hT.freezeP hS;have hv:=hF.slot t;rw [ht] at hv
  have hF':FrOk A' β' (zaa s.obj) N (tupd h t (.cp l)) fr:=⟨hF.nt,hF.le,fun u=>by
    by_cases hu:u=t
    . subst hu;rw [zhs];exact k3 hv
    . rw [zl0 _ _ _ _ hu];exact k2.vt hT (hF.slot u)⟩
  refine (k A' β' fr s hF' k1).mono ?_;rintro e2 fr2 s2 ⟨h2,S2,l2,q2⟩;exact ⟨h2,S2,Left.trans (h':=h) (fr':=fr) hT.le k2 l2,q2⟩
theorem TW.cut {a:Code} {k:(Nat->T)->TS->Prop} (keep:List Nat) {bs:List Box} (R:(Nat->T)->List Box->Prop) (hR:TW P Γ GL N a h (stL bs) fun e h' S'=>e=.normal/\Ends keep bs.length R h' S') (hk:∀ h bs2,R h bs2->k h (stL bs2)):TW P Γ GL N a h (stL bs) (onT k Q):=by
  intro A β fr s hF hT;obtain ⟨e,fr1,s1,h1,h',S',hleft,rfl,bs',rfl,hl,hbi,hki,hq⟩:=hR A β fr s hF hT;exact ⟨_,fr1,s1,h1,_,_,Left.trim (fr:=fr) (keep:=keep) (bs2:=bs'.take bs.length) (extra:=bs'.drop bs.length) hT (by rw [je];exact hleft) (by rw [il];omega) hbi hki,hk _ _ hq⟩
end
theorem zs8 {k:iy} {n:Int}:np (T.int k n)=true:=f7 rfl rfl
theorem z92 {k:iy} {n:Int}:jh (T.int k n)=[(T.int k n)]:=f7 rfl rfl
theorem zqb {b:Bool}:np (T.bool b)=true:=f7 rfl rfl
theorem z4o {b:Bool}:jh (T.bool b)=[(T.bool b)]:=f7 rfl rfl
theorem zs6 {b:ByteArray}:np (T.str b)=true:=f7 rfl rfl
theorem z9z {b:ByteArray}:jh (T.str b)=[(T.str b)]:=f7 rfl rfl
theorem zs7 {e:Nat} {l:List T}:np (T.lst e l)=true:=f7 rfl rfl
theorem z91 {e:Nat} {l:List T}:jh (T.lst e l)=[(T.lst e l)]:=f7 rfl rfl
theorem z2q  : np (T.nils)=true:=f7 rfl rfl
theorem z4i  : jh (T.nils)=[(T.nils)]:=f7 rfl rfl
theorem z2r  : np (T.nilp)=true:=f7 rfl rfl
theorem z4j  : jh (T.nilp)=[(T.nilp)]:=f7 rfl rfl
theorem z2s  : np (T.nilm)=true:=f7 rfl rfl
theorem z4k  : jh (T.nilm)=[(T.nilm)]:=f7 rfl rfl
theorem z2t  : np (T.nilf)=true:=f7 rfl rfl
theorem z4l  : jh (T.nilf)=[(T.nilf)]:=f7 rfl rfl
theorem z8d {b o n:Nat}:np (T.ptr b o n)=true:=f7 rfl rfl
theorem z90 {b o n:Nat}:jh (T.ptr b o n)=[(T.ptr b o n)]:=f7 rfl rfl
theorem yeg {l:List T}:np (T.cp l)=true:=f7 rfl rfl
theorem ygo {l:List T}:jh (T.cp l)=[(T.cp l)]:=f7 rfl rfl
theorem z8f {b e o l c n:Nat}:np (T.arr b e o l c n)=true:=f7 rfl rfl
theorem z94 {b e o l c n:Nat}:jh (T.arr b e o l c n)=[(T.arr b e o l c n)]:=f7 rfl rfl
theorem yee {b:Nat}:np (T.mp b)=true:=f7 rfl rfl
theorem ygm {b:Nat}:jh (T.mp b)=[(T.mp b)]:=f7 rfl rfl
theorem yef {f:Nat} {a c:List T}:np (T.fn f a c)=true:=f7 rfl rfl
theorem ygn {f:Nat} {a c:List T}:jh (T.fn f a c)=[(T.fn f a c)]:=f7 rfl rfl
theorem z8e {e:Nat}:np (T.emp e)=true:=f7 rfl rfl
theorem z93 {e:Nat}:jh (T.emp e)=[(T.emp e)]:=f7 rfl rfl
theorem ymo {k:iy}:aggT (.int k)=false:=f7 rfl rfl
theorem ymp  : aggT .bool=false:=f7 rfl rfl
theorem ymk  : aggT .string=false:=f7 rfl rfl
theorem ymn {k:gi}:aggT (.slice k)=false:=f7 rfl rfl
theorem yml {k:gi}:aggT (.pointer k)=false:=f7 rfl rfl
theorem ymm {k k2:gi}:aggT (.map k k2)=false:=f7 rfl rfl
theorem b0:type_of% (fe (fe (fe (fe (fe (@ydk) (@ydl)) (fe (@z18) (@zuh))) (fe (fe (@zug) (@z7q)) (fe (@yek) (@ykn)))) (fe (fe (fe (@yeh) (@z99)) (fe (@ydm) (@ydn))) (fe (fe (@z19) (@zuj)) (fe (@zui) (@z7s))))) (fe (fe (fe (fe (@z8k) (@yei)) (fe (@z8g) (@z4p))) (fe (fe (@yb7) (@yb8)) (fe (@yca) (@ycb)))) (fe (fe (fe (@yb9) (@zxf)) (fe (@zxg) (@yfy))) (fe (fe (@z88) (@z1p)) (fe (@zw7) (@z3f)))))):=fe (fe (fe (fe (fe (@ydk) (@ydl)) (fe (@z18) (@zuh))) (fe (fe (@zug) (@z7q)) (fe (@yek) (@ykn)))) (fe (fe (fe (@yeh) (@z99)) (fe (@ydm) (@ydn))) (fe (fe (@z19) (@zuj)) (fe (@zui) (@z7s))))) (fe (fe (fe (fe (@z8k) (@yei)) (fe (@z8g) (@z4p))) (fe (fe (@yb7) (@yb8)) (fe (@yca) (@ycb)))) (fe (fe (fe (@yb9) (@zxf)) (fe (@zxg) (@yfy))) (fe (fe (@z88) (@z1p)) (fe (@zw7) (@z3f)))))
theorem b1:type_of% (fe (fe (fe (fe (fe (@zyg) (@z95)) (fe (@z97) (@yd7))) (fe (fe (@yd8) (@zqv)) (fe (@zjr) (@yf6)))) (fe (fe (fe (@z34) (@ykp)) (fe (@zmf) (@yko))) (fe (fe (@ye7) (@ye8)) (fe (@ye9) (@yfa))))) (fe (fe (fe (fe (@zw2) (@zw3)) (fe (@yfo) (@z3o))) (fe (fe (@yfn) (@z85)) (fe (@ykw) (@z84)))) (fe (fe (fe (@zcj) (@yfp)) (fe (@z80) (@zvh))) (fe (fe (@ykx) (@yp1)) (fe (@yfq) (@ykv)))))):=fe (fe (fe (fe (fe (@zyg) (@z95)) (fe (@z97) (@yd7))) (fe (fe (@yd8) (@zqv)) (fe (@zjr) (@yf6)))) (fe (fe (fe (@z34) (@ykp)) (fe (@zmf) (@yko))) (fe (fe (@ye7) (@ye8)) (fe (@ye9) (@yfa))))) (fe (fe (fe (fe (@zw2) (@zw3)) (fe (@yfo) (@z3o))) (fe (fe (@yfn) (@z85)) (fe (@ykw) (@z84)))) (fe (fe (fe (@zcj) (@yfp)) (fe (@z80) (@zvh))) (fe (fe (@ykx) (@yp1)) (fe (@yfq) (@ykv)))))
theorem b2:type_of% (fe (fe (fe (fe (fe (@zvi) (@zse)) (fe (@z81) (@zsg))) (fe (fe (@z83) (@zsf)) (fe (@z82) (@zyu)))) (fe (fe (fe (@zyv) (@ydb)) (fe (@ydf) (@z14))) (fe (fe (@z16) (@ydc)) (fe (@ydi) (@zua))))) (fe (fe (fe (fe (@zuc) (@yj1)) (fe (@yj7) (@zr7))) (fe (fe (@zr9) (@z7j)) (fe (@z7o) (@zr6)))) (fe (fe (fe (@zr8) (@z7i)) (fe (@z7n) (@zxn))) (fe (fe (@zxo) (@ypc)) (fe (@ypd) (@yj6)))))):=fe (fe (fe (fe (fe (@zvi) (@zse)) (fe (@z81) (@zsg))) (fe (fe (@z83) (@zsf)) (fe (@z82) (@zyu)))) (fe (fe (fe (@zyv) (@ydb)) (fe (@ydf) (@z14))) (fe (fe (@z16) (@ydc)) (fe (@ydi) (@zua))))) (fe (fe (fe (fe (@zuc) (@yj1)) (fe (@yj7) (@zr7))) (fe (fe (@zr9) (@z7j)) (fe (@z7o) (@zr6)))) (fe (fe (fe (@zr8) (@z7i)) (fe (@z7n) (@zxn))) (fe (fe (@zxo) (@ypc)) (fe (@ypd) (@yj6)))))
theorem b3:type_of% (fe (fe (fe (fe (fe (@yj9) (@z7k)) (fe (@z7p) (@z7h))) (fe (fe (@z7m) (@zub)) (fe (@zud) (@yda)))) (fe (fe (fe (@z5h) (@yde)) (fe (@ydj) (@zai))) (fe (fe (@zao) (@yj4)) (fe (@yj8) (@yj2))))) (fe (fe (fe (fe (@ydg) (@yj3)) (fe (@ydh) (@z7l))) (fe (fe (@yj5) (@z7g)) (fe (@zr5) (@z15)))) (fe (fe (fe (@ydd) (@yd4)) (fe (@yd5) (@z8m))) (fe (fe (@z8n) (@yjw)) (fe (@yjv) (@yjz)))))):=fe (fe (fe (fe (fe (@yj9) (@z7k)) (fe (@z7p) (@z7h))) (fe (fe (@z7m) (@zub)) (fe (@zud) (@yda)))) (fe (fe (fe (@z5h) (@yde)) (fe (@ydj) (@zai))) (fe (fe (@zao) (@yj4)) (fe (@yj8) (@yj2))))) (fe (fe (fe (fe (@ydg) (@yj3)) (fe (@ydh) (@z7l))) (fe (fe (@yj5) (@z7g)) (fe (@zr5) (@z15)))) (fe (fe (fe (@ydd) (@yd4)) (fe (@yd5) (@z8m))) (fe (fe (@z8n) (@yjw)) (fe (@yjv) (@yjz)))))
theorem b4:type_of% (fe (fe (fe (fe (fe (@yjy) (@yjt)) (fe (@yju) (@zbf))) (fe (fe (@zx1) (@yep)) (fe (@yer) (@yds)))) (fe (fe (fe (@z7x) (@ym7)) (fe (@yo7) (@yo8))) (fe (fe (@yk6) (@yky)) (fe (@yk0) (@yk5))))) (fe (fe (fe (fe (@ykz) (@yk1)) (fe (@yk2) (@yk3))) (fe (fe (@yk4) (@zge)) (fe (@zgd) (@ztq)))) (fe (fe (fe (@st_n) (@yjx)) (fe (@z1w) (@zei))) (fe (fe (@z3r) (@z3s)) (fe (@cond_true.{1}) (@cond_false.{1})))))):=fe (fe (fe (fe (fe (@yjy) (@yjt)) (fe (@yju) (@zbf))) (fe (fe (@zx1) (@yep)) (fe (@yer) (@yds)))) (fe (fe (fe (@z7x) (@ym7)) (fe (@yo7) (@yo8))) (fe (fe (@yk6) (@yky)) (fe (@yk0) (@yk5))))) (fe (fe (fe (fe (@ykz) (@yk1)) (fe (@yk2) (@yk3))) (fe (fe (@yk4) (@zge)) (fe (@zgd) (@ztq)))) (fe (fe (fe (@st_n) (@yjx)) (fe (@z1w) (@zei))) (fe (fe (@z3r) (@z3s)) (fe (@cond_true.{1}) (@cond_false.{1})))))
theorem b5:type_of% (fe (fe (fe (fe (fe (@List.toList_toArray.{0}) (@i6.{0,0})) (fe (@List.map_nil.{0,0}) (@gm.{0}))) (fe (fe (@ji.{0}) (@ft.{0,0})) (fe (@ij.{0}) (@ln.{0})))) (fe (fe (fe (@lr.{0,0}) (@o4.{0,0})) (fe (@Option.map_none.{0,0}) (@gl.{0}))) (fe (fe (@gw.{0}) (@h9.{0})) (fe (@jr.{0}) (@List.all_nil.{0}))))) (fe (fe (fe (fe (@gu.{0}) (@k9.{0})) (fe (@m6.{0}) (@List.take_zero.{0}))) (fe (fe (@lj.{0}) (@ma.{0})) (fe (@Bool.and_true) (@kg)))) (fe (fe (fe (@gd) (@iz)) (fe (@Bool.not_false) (@Bool.false_and))) (fe (fe (@Bool.and_false) (@zhr)) (fe (@yac) (@zie)))))):=fe (fe (fe (fe (fe (@List.toList_toArray.{0}) (@i6.{0,0})) (fe (@List.map_nil.{0,0}) (@gm.{0}))) (fe (fe (@ji.{0}) (@ft.{0,0})) (fe (@ij.{0}) (@ln.{0})))) (fe (fe (fe (@lr.{0,0}) (@o4.{0,0})) (fe (@Option.map_none.{0,0}) (@gl.{0}))) (fe (fe (@gw.{0}) (@h9.{0})) (fe (@jr.{0}) (@List.all_nil.{0}))))) (fe (fe (fe (fe (@gu.{0}) (@k9.{0})) (fe (@m6.{0}) (@List.take_zero.{0}))) (fe (fe (@lj.{0}) (@ma.{0})) (fe (@Bool.and_true) (@kg)))) (fe (fe (fe (@gd) (@iz)) (fe (@Bool.not_false) (@Bool.false_and))) (fe (fe (@Bool.and_false) (@zhr)) (fe (@yac) (@zie)))))
theorem b6:type_of% (fe (fe (fe (fe (fe (@jc) (@jp)) (fe (@i8) (@Nat.add_zero))) (fe (fe (@qq) (@lm.{0})) (fe (@ownD.eq_1) (@ownD.eq_2)))) (fe (fe (fe (@has.eq_1) (@has.eq_2)) (fe (@tLen.eq_1) (@ztv.eq_1))) (fe (fe (@ztv.eq_2) (@zxb.eq_1)) (fe (@z2n.eq_1) (@tBox.eq_1))))) (fe (fe (fe (fe (@zxc.eq_1) (@zgx.eq_1)) (fe (@zgx.eq_2) (@zly.eq_1))) (fe (fe (@zly.eq_2) (@zly.eq_3)) (fe (@zly.eq_4) (@zly.eq_5)))) (fe (fe (fe (@zly.eq_6) (@zly.eq_7)) (fe (@zif.eq_1) (@ztw.eq_1))) (fe (fe (@zl1.eq_1) (@zfw.eq_1)) (fe (@zfw.eq_2) (@zfw.eq_3)))))):=fe (fe (fe (fe (fe (@jc) (@jp)) (fe (@i8) (@Nat.add_zero))) (fe (fe (@qq) (@lm.{0})) (fe (@ownD.eq_1) (@ownD.eq_2)))) (fe (fe (fe (@has.eq_1) (@has.eq_2)) (fe (@tLen.eq_1) (@ztv.eq_1))) (fe (fe (@ztv.eq_2) (@zxb.eq_1)) (fe (@z2n.eq_1) (@tBox.eq_1))))) (fe (fe (fe (fe (@zxc.eq_1) (@zgx.eq_1)) (fe (@zgx.eq_2) (@zly.eq_1))) (fe (fe (@zly.eq_2) (@zly.eq_3)) (fe (@zly.eq_4) (@zly.eq_5)))) (fe (fe (fe (@zly.eq_6) (@zly.eq_7)) (fe (@zif.eq_1) (@ztw.eq_1))) (fe (fe (@zl1.eq_1) (@zfw.eq_1)) (fe (@zfw.eq_2) (@zfw.eq_3)))))
theorem b7:type_of% (fe (fe (fe (fe (fe (@ztu.eq_1) (@zr0.eq_1)) (fe (@TS.has.eq_1) (@zju.eq_1))) (fe (fe (@aggT.eq_1) (@aggT.eq_2)) (fe (@ymo) (@ymp)))) (fe (fe (fe (@ymk) (@ymn)) (fe (@yml) (@ymm))) (fe (fe (@jh.eq_1) (@np.eq_1)) (fe (@np.eq_2) (@np.eq_3))))) (fe (fe (fe (fe (@zs8) (@z92)) (fe (@zqb) (@z4o))) (fe (fe (@zs6) (@z9z)) (fe (@zs7) (@z91)))) (fe (fe (fe (@z2q) (@z4i)) (fe (@z2r) (@z4j))) (fe (fe (@z2s) (@z4k)) (fe (@z2t) (@z4l)))))):=fe (fe (fe (fe (fe (@ztu.eq_1) (@zr0.eq_1)) (fe (@TS.has.eq_1) (@zju.eq_1))) (fe (fe (@aggT.eq_1) (@aggT.eq_2)) (fe (@ymo) (@ymp)))) (fe (fe (fe (@ymk) (@ymn)) (fe (@yml) (@ymm))) (fe (fe (@jh.eq_1) (@np.eq_1)) (fe (@np.eq_2) (@np.eq_3))))) (fe (fe (fe (fe (@zs8) (@z92)) (fe (@zqb) (@z4o))) (fe (fe (@zs6) (@z9z)) (fe (@zs7) (@z91)))) (fe (fe (fe (@z2q) (@z4i)) (fe (@z2r) (@z4j))) (fe (fe (@z2s) (@z4k)) (fe (@z2t) (@z4l)))))
theorem b8:type_of% (fe (fe (fe (@z8d) (fe (@z90) (@yeg))) (fe (@ygo) (fe (@z8f) (@z94)))) (fe (fe (@yee) (fe (@ygm) (@yef))) (fe (@ygn) (fe (@z8e) (@z93))))):=fe (fe (fe (@z8d) (fe (@z90) (@yeg))) (fe (@ygo) (fe (@z8f) (@z94)))) (fe (fe (@yee) (fe (@ygm) (@yef))) (fe (@ygn) (fe (@z8e) (@z93))))
theorem apA:type_of% (fe (fe (fe (@zm5.eq_1) (@zzd)) (fe (@zje) (fe (@zv5) (@Bool.or_false)))) (fe (fe (@Bool.or_self) (@jf.{0,0})) (fe (@List.flatMap_nil.{0,0}) (fe (@Nat.add_mul) (@Nat.one_mul))))):=fe (fe (fe (@zm5.eq_1) (@zzd)) (fe (@zje) (fe (@zv5) (@Bool.or_false)))) (fe (fe (@Bool.or_self) (@jf.{0,0})) (fe (@List.flatMap_nil.{0,0}) (fe (@Nat.add_mul) (@Nat.one_mul))))
theorem apB:type_of% (fe (fe (@zdg.eq_1) (@zdg.eq_2)) (fe (@zam.eq_1) (fe (@zai) (@zao)))):=fe (fe (@zdg.eq_1) (@zdg.eq_2)) (fe (@zam.eq_1) (fe (@zai) (@zao)))
theorem lzA:type_of% (fe (@gm.{0}) (fe (@ji.{0}) (@i8))):=fe (@gm.{0}) (fe (@ji.{0}) (@i8))
mutual
def T.ren (ρ:Nat->Nat):T->T
  |.agg l=>.agg (T.renL ρ l)
  |.tup l=>.tup (T.renL ρ l)
  |.lst e l=>.lst e (T.renL ρ l)
  |.cp l=>.cp (T.renL ρ l)
  |.ptr b o N=>.ptr (ρ b) o N
  |.arr b e o l c N=>.arr (ρ b) e o l c N
  |.mp b=>.mp (ρ b)
  |.fn f a c=>.fn f (T.renL ρ a) (T.renL ρ c)
  |.int k n=>.int k n
  |.bool b=>.bool b
  |.str b=>.str b
  |.nils=>.nils
  |.nilp=>.nilp
  |.nilm=>.nilm
  |.nilf=>.nilf
  |.junk=>.junk
  |.emp e=>.emp e
def T.renL (ρ:Nat->Nat):List T->List T
  |[]=>[]
  |t :: l=>t.ren ρ :: T.renL ρ l
end
def ze0 (ρ:Nat->Nat):Box->Box
  |.gone=>.gone
  |.cells z N l=>.cells z N (T.renL ρ l)
  |.map l=>.map (l.map fun p=>(p.1.ren ρ,p.2.ren ρ))
section
variable {GL:List (Nat×List Value)} {A A' A1:Nat->Prop} {β β' β0 β1:Bx} {S S' S0 S1:TS} {s s' s1:CS} {P:gt} {Γ:Env} {g g':Nat->Fam} {ρ:Nat->Nat} {n:Nat}
theorem zma:∀ (l:List T),T.renL ρ l=l.map (T.ren ρ)
  |[]=>rfl
  |t :: l=>by rw [T.renL,i6,zma l]
theorem zkn (l:List T):(T.renL ρ l).length=l.length:=by rw [zma,ft]
theorem z5o (l m:List T):T.renL ρ (l++m)=T.renL ρ l++T.renL ρ m:=by simp only [zma,List.map_append]
theorem zul (t:T):(t.ren ρ).cells=T.renL ρ t.cells:=by
  cases t<;>simp only [T.ren,jh,T.renL]
theorem z0e:∀ (l:List T),(T.renL ρ l).flatMap jh=T.renL ρ (l.flatMap jh)
  |[]=>rfl
  |t :: l=>by rw [T.renL,jf,jf,zul,z0e l,z5o]
theorem yfm:∀ {l:List T},T.idsL n l=true->∀ t,t∈l->t.ids n=true
  |[],_,t,h=>by simp at h
  |x :: l,h,t,ht=>by
    simp only [T.idsL,fk] at h;rcases List.mem_cons.1 ht with rfl|ht
    . exact h.1
    . exact yfm h.2 t ht
mutual
theorem VT.up (hβ:∀ b,b<n->β' (ρ b)=β b):∀ {t:T} {v:Value},t.ids n=true->VT A β g t v->VT A β' g (t.ren ρ) v
  |_,_,_,.int k n=>.int k n
  |_,_,_,.bool b=>.bool b
  |_,_,_,.str b=>.str b
  |_,_,hi,.agg h=>.agg (VL.up hβ hi h)
  |_,_,hi,.tup h=>.tup (VL.up hβ hi h)
  |_,_,_,.lnil=>.lnil
  |.lst e l,_,hi,.lst h1 h2 h3 h4 h5 h6 h7 h8=>by
    have q:=VL.up hβ (zlv hi) h3;rw [<- z0e] at q;have:=VT.lst (l:=T.renL ρ l) h1 h2 q (fun t ht=>by rw [zma] at ht;obtain ⟨x,hx,rfl⟩:=jt.1 ht;rw [zul,zkn];exact h4 x hx) h5 h6 h7 (by rw [zkn];exact h8);rw [zkn] at this;exact this
  |_,_,_,.nils=>.nils
  |_,_,_,.nilp=>.nilp
  |_,_,_,.nilm=>.nilm
  |_,_,_,.nilf=>.nilf
  |_,_,hi,.ptr h=>.ptr (by rw [hβ _ (zad.1 hi)];exact h)
  |_,_,hi,.ptrOld h h0 h1 h2=>.ptrOld (by rw [hβ _ (zad.1 hi)];exact h) h0 h1 h2
  |_,_,hi,.cp h1 h2 h3 h4=>.cp h1 h2 (VL.up hβ hi h3) h4
  |_,_,hi,.arr h ht=>.arr (by rw [hβ _ (zad.1 hi)];exact h) ht
  |_,_,hi,.arrNil h=>.arrNil (by rw [hβ _ (zad.1 hi)];exact h)
  |_,_,hi,.arrOld h h0 h1 h2=>.arrOld (by rw [hβ _ (zad.1 hi)];exact h) h0 h1 h2
  |_,_,hi,.mp h=>.mp (by rw [hβ _ (zad.1 hi)];exact h)
  |_,_,hi,.mpOld h h2=>.mpOld (by rw [hβ _ (zad.1 hi)];exact h) h2
  |_,_,hi,.fn h1 h2=>by
    simp only [T.ids,fk] at hi;exact .fn (VL.up hβ hi.1 h1) (VL.up hβ hi.2 h2)
  |_,_,_,.junk v=>.junk v
  |_,_,_,.emp h1 h2 h3 h4=>.emp h1 h2 h3 h4
theorem VL.up (hβ:∀ b,b<n->β' (ρ b)=β b):∀ {l:List T} {vs:List Value},T.idsL n l=true->VL A β g l vs->VL A β' g (T.renL ρ l) vs
  |_,_,_,.nil=>.nil
  |_,_,hi,.cons h k=>by
    simp only [T.idsL,fk] at hi;exact .cons (VT.up hβ hi.1 h) (VL.up hβ hi.2 k)
end
mutual
theorem VT.down (hβ:∀ b,b<n->β' b=β (ρ b)):∀ {t':T} {v:Value},VT A β g t' v->∀ {t:T},t.ren ρ=t'->t.ids n=true->VT A β' g t v
  |_,_,.int k m,t,e,hi=>by
    cases t<;>simp [T.ren] at e;obtain ⟨rfl,rfl⟩:=e;exact .int _ _
  |_,_,.bool b,t,e,hi=>by
    cases t<;>simp [T.ren] at e;subst e;exact .bool _
  |_,_,.str b,t,e,hi=>by
    cases t<;>simp [T.ren] at e;subst e;exact .str _
  |_,_,.agg h,t,e,hi=>by
    cases t<;>simp [T.ren] at e;exact .agg (VL.down hβ h e hi)
  |_,_,.tup h,t,e,hi=>by
    cases t<;>simp [T.ren] at e;exact .tup (VL.down hβ h e hi)
  |_,_,.lnil,t,e,hi=>by
    cases t<;>simp [T.ren] at e;rename_i e' l;obtain ⟨rfl,e⟩:=e
    cases l with
    |nil=>exact .lnil
    |cons x l=>simp [T.renL] at e
  |_,_,.lst (l:=l') h1 h2 h3 h4 h5 h6 h7 h8,t,e,hi=>by
    cases t<;>simp [T.ren] at e;rename_i e' l;have q:=VL.down hβ h3 (l:=l.flatMap jh) (by rw [<- e.2];exact (z0e l).symm) (zlv hi);obtain ⟨rfl,rfl⟩:=e;have:=VT.lst (l:=l) h1 h2 q (fun t ht=>by have:=h4 (t.ren ρ) (by rw [zma];exact List.mem_map_of_mem ht);rw [zul,zkn] at this;exact this) h5 h6 h7 (by rw [zkn] at h8;exact h8);rw [zkn];exact this
  |_,_,.nils,t,e,hi=>by cases t<;>simp [T.ren] at e;exact .nils
  |_,_,.nilp,t,e,hi=>by cases t<;>simp [T.ren] at e;exact .nilp
  |_,_,.nilm,t,e,hi=>by cases t<;>simp [T.ren] at e;exact .nilm
  |_,_,.nilf,t,e,hi=>by cases t<;>simp [T.ren] at e;exact .nilf
  |_,_,.ptr h,t,e,hi=>by
    cases t<;>simp [T.ren] at e;obtain ⟨rfl,rfl,rfl⟩:=e;exact .ptr (by rw [hβ _ (zad.1 hi)];exact h)
  |_,_,.ptrOld h h0 h1 h2,t,e,hi=>by
    cases t<;>simp [T.ren] at e;obtain ⟨rfl,rfl,rfl⟩:=e;exact .ptrOld (by rw [hβ _ (zad.1 hi)];exact h) h0 h1 h2
  |_,_,.cp h1 h2 h3 h4,t,e,hi=>by
    cases t<;>simp [T.ren] at e;exact .cp h1 h2 (VL.down hβ h3 e hi) h4
  |_,_,.arr h ht,t,e,hi=>by
    cases t<;>simp [T.ren] at e;obtain ⟨rfl,rfl,rfl,rfl,rfl,rfl⟩:=e;exact .arr (by rw [hβ _ (zad.1 hi)];exact h) ht
  |_,_,.arrNil h,t,e,hi=>by
    cases t<;>simp [T.ren] at e;obtain ⟨rfl,rfl,rfl,rfl,rfl,rfl⟩:=e;exact .arrNil (by rw [hβ _ (zad.1 hi)];exact h)
  |_,_,.arrOld h h0 h1 h2,t,e,hi=>by
    cases t<;>simp [T.ren] at e;obtain ⟨rfl,rfl,rfl,rfl,rfl,rfl⟩:=e;exact .arrOld (by rw [hβ _ (zad.1 hi)];exact h) h0 h1 h2
  |_,_,.mp h,t,e,hi=>by
    cases t<;>simp [T.ren] at e;subst e;exact .mp (by rw [hβ _ (zad.1 hi)];exact h)
  |_,_,.mpOld h h2,t,e,hi=>by
    cases t<;>simp [T.ren] at e;subst e;exact .mpOld (by rw [hβ _ (zad.1 hi)];exact h) h2
  |_,_,.fn h1 h2,t,e,hi=>by
    cases t<;>simp [T.ren] at e;obtain ⟨rfl,e1,e2⟩:=e;simp only [T.ids,fk] at hi;exact .fn (VL.down hβ h1 e1 hi.1) (VL.down hβ h2 e2 hi.2)
  |_,_,.junk v,t,e,hi=>by cases t<;>simp [T.ren] at e;exact .junk _
  |_,_,.emp h1 h2 h3 h4,t,e,hi=>by
    cases t<;>simp [T.ren] at e;subst e;exact .emp h1 h2 h3 h4
theorem VL.down (hβ:∀ b,b<n->β' b=β (ρ b)):∀ {l':List T} {vs:List Value},VL A β g l' vs->∀ {l:List T},T.renL ρ l=l'->T.idsL n l=true->VL A β' g l vs
  |_,_,.nil,l,e,hi=>by
    cases l with
    |nil=>exact .nil
    |cons x l=>simp [T.renL] at e
  |_,_,.cons h k,l,e,hi=>by
    cases l with
    |nil=>simp [T.renL] at e
    |cons x l =>
      simp only [T.renL,List.cons.injEq] at e;simp only [T.idsL,fk] at hi;exact .cons (VT.down hβ h e.1 hi.1) (VL.down hβ k e.2 hi.2)
end
structure Fits (ρ:Nat->Nat) (S0 S1 S S':TS):Prop where
  le:S0.n<=S1.n
  out:∀ b,S0.n<=b->S0.box b=.gone
  old:∀ i,i<S0.n->ρ i<S.n
  new:∀ i,S0.n<=i->i<S1.n->S.n<=ρ i
  top:∀ i,i<S1.n->ρ i<S'.n
  grow:S.n<=S'.n
  inj:∀ i j,i<S1.n->j<S1.n->ρ i=ρ j->i=j
  pre:∀ i,i<S0.n->S.box (ρ i)=ze0 ρ (S0.box i)/\zh8 S0.n (S0.box i)=true
  post:∀ i,i<S1.n->S'.box (ρ i)=ze0 ρ (S1.box i)/\zh8 S1.n (S1.box i)=true
  rest:∀ b,(∀ i,i<S1.n->ρ i≠b)->S'.box b=S.box b
open Classical in
def bmix (ρ:Nat->Nat) (m:Nat) (β1 β:Bx):Bx:=fun b=>if h:∃ i,i<m/\ρ i=b then β1 (Classical.choose h) else β b
theorem yoh {m i:Nat} (hinj:∀ i j,i<m->j<m->ρ i=ρ j->i=j) (hi:i<m):bmix ρ m β1 β (ρ i)=β1 i:=by
  unfold bmix;have h:∃ j,j<m/\ρ j=ρ i:=⟨i,hi,rfl⟩;rw [dif_pos h];have:=Classical.choose_spec h;rw [hinj _ _ this.1 hi this.2]
theorem zjs {m b:Nat} (h:∀ i,i<m->ρ i≠b):bmix ρ m β1 β b=β b:=by
  unfold bmix;rw [dif_neg (fun ⟨i,h1,h2⟩=>h i h1 h2)]
theorem z7v (l:List (T×T)):(l.map fun p=>(p.1.ren ρ,p.2.ren ρ)).map (·.1)=T.renL ρ (l.map (·.1)):=by
  rw [zma,rz,rz];rfl
theorem z7u (l:List (T×T)):(l.map fun p=>(p.1.ren ρ,p.2.ren ρ)).map (·.2)=T.renL ρ (l.map (·.2)):=by
  rw [zma,rz,rz];rfl
theorem Call.frame {f:mq} {args:List T} {v:T} (k:Call P Γ GL f args S0 v S1) (ha:T.idsL S0.n args=true) (hv:v.ids S1.n=true) (F:Fits ρ S0 S1 S S'):Call P Γ GL f (T.renL ρ args) S (v.ren ρ) S':=by
  intro A β s vargs hT hva;have hb0:∀ b,b<S0.n->bcut (fun i=>β (ρ i)) S0.n b=β (ρ b):=fun b hb=>zAc hb
  have hb1:∀ b l,bcut (fun i=>β (ρ i)) S0.n b=some l->b<S0.n/\β (ρ b)=some l:=fun b l h=>by
    unfold bcut at h;split at h
    . rename_i hb;exact ⟨hb,h⟩
    . simp at h
  have hown:∀ f,Own (bcut (fun i=>β (ρ i)) S0.n) f->∃ i,i<S0.n/\((∃ u N,β (ρ i)=some (.live f u N))\/β (ρ i)=some (.map f)):=fun f ⟨b,hb⟩=>by
    rcases hb with ⟨u,N,hb⟩|hb
    . exact ⟨b,(hb1 _ _ hb).1,.inl ⟨u,N,(hb1 _ _ hb).2⟩⟩
    . exact ⟨b,(hb1 _ _ hb).1,.inr (hb1 _ _ hb).2⟩
  have hown2:∀ f,Own (bcut (fun i=>β (ρ i)) S0.n) f->Own β f:=fun f hf=>by
    obtain ⟨i,_,h⟩:=hown f hf;exact ⟨ρ i,h⟩
  have hT0:TRel GL A (bcut (fun i=>β (ρ i)) S0.n) S0 s:=by
    refine ⟨hT.inr,hT.inv,hT.alt,fun f hf=>hT.dis f (hown2 f hf),fun b b' l l' f h1 h2 h3 h4=>?_,fun b hb=>zAd (by omega),fun b z N l hb=>?_,fun b l hb=>?_,hT.glob⟩
    . obtain ⟨q1,q2⟩:=hb1 _ _ h1;obtain ⟨q3,q4⟩:=hb1 _ _ h2;exact F.inj b b' (by have:=F.le;omega) (by have:=F.le;omega) (hT.inj _ _ _ _ f q2 q4 h3 h4)
    . have hlt:b<S0.n:=by
        by_cases h:b<S0.n
        . exact h
        . rw [F.out b (by omega)] at hb;simp at hb
      obtain ⟨p1,p2⟩:=F.pre b hlt;rw [hb] at p1 p2;obtain ⟨c1,c2⟩:=hT.cells _ _ _ _ p1;refine ⟨by rw [zkn] at c1;exact c1,?_⟩;rcases c2 with ⟨d1,d2,d3⟩|⟨f,u,cs,rest,d1,d2,d3,d4,d5⟩
      . exact .inl ⟨by rw [hb0 b hlt];exact d1,d2,d3⟩
      . exact .inr ⟨f,u,cs,rest,by rw [hb0 b hlt];exact d1,d2,d3,VL.down hb0 d4 rfl p2,d5⟩
    . have hlt:b<S0.n:=by
        by_cases h:b<S0.n
        . exact h
        . rw [F.out b (by omega)] at hb;simp at hb
      obtain ⟨p1,p2⟩:=F.pre b hlt;rw [hb] at p1 p2;obtain ⟨r,es,c1,c2,c3,c4⟩:=hT.maps _ _ p1;simp only [zh8,fk] at p2;rw [z7v] at c3;rw [z7u] at c4;exact ⟨r,es,by rw [hb0 b hlt];exact c1,c2,VL.down hb0 c3 rfl p2.1,VL.down hb0 c4 rfl p2.2⟩
  obtain ⟨w,s1,A1,β1,e1,e2,e3,e4⟩:=k A _ s vargs hT0 (VL.down hb0 hva rfl ha);have hin:∀ i,i<S1.n->bmix ρ S1.n β1 β (ρ i)=β1 i:=fun i hi=>yoh F.inj hi
  have hcase:∀ b,(∃ i,i<S1.n/\ρ i=b)\/(∀ i,i<S1.n->ρ i≠b):=fun b=>by
    by_cases h:∃ i,i<S1.n/\ρ i=b
    . exact .inl h
    . exact .inr fun i hi hh=>h ⟨i,hi,hh⟩
  have hone:∀ i l,β1 i=some l->i<S1.n:=fun i l h=>by
    by_cases hh:i<S1.n
    . exact hh
    . rw [e2.next i (by omega)] at h;simp at h
  have apart:∀ b f,(∀ i,i<S1.n->ρ i≠b)->((∃ u N,β b=some (.live f u N))\/β b=some (.map f))->¬ Own (bcut (fun i=>β (ρ i)) S0.n) f:=fun b f hb hf ho=>by
    obtain ⟨j,hj,h⟩:=hown f ho
    have:ρ j=b:=by
      rcases h with ⟨u,N,h⟩|h<;>rcases hf with ⟨u',N',hf⟩|hf<;>exact hT.inj _ _ _ _ f h hf rfl rfl
    exact hb j (by have:=F.le;omega) this
  have hfamO:∀ b l f,β b=some l->l.fam=some f->((∃ u N,β b=some (.live f u N))\/β b=some (.map f)):=fun b l f h hl=>by
    cases l with
    |live f' u N=>simp [nh] at hl;subst hl;exact .inl ⟨u,N,h⟩
    |map r=>simp [nh] at hl;subst hl;exact .inr h
    |nil=>simp [nh] at hl
    |dead=>simp [nh] at hl
  have hfam1:∀ i l f,β1 i=some l->l.fam=some f->Own β1 f:=fun i l f h hl=>by
    cases l with
    |live f' u N=>simp [nh] at hl;subst hl;exact zcq h
    |map r=>simp [nh] at hl;subst hl;exact zhh h
    |nil=>simp [nh] at hl
    |dead=>simp [nh] at hl
  have hle:Bx.le β (bmix ρ S1.n β1 β):=fun b l hb=>by
    rcases hcase b with ⟨i,hi,rfl⟩|h
    . rw [hin i hi];by_cases hip:i<S0.n
      . exact e4.bx i l (by rw [hb0 i hip];exact hb)
      . rw [hT.next _ (F.new i (by omega) hi)] at hb;simp at hb
    . exact ⟨l,by rw [zjs h];exact hb,Loc.le_refl l⟩
  have hkeep:∀ f,A f->zaa s1.obj f=zaa s.obj f:=fun f hf=>e4.keep f (hT.alt f hf) fun ho=>(hT.dis f (hown2 f ho)).2 hf
  have hmix:∀ f,Own (bmix ρ S1.n β1 β) f->Own β1 f\/∃ b,(∀ i,i<S1.n->ρ i≠b)/\((∃ u N,β b=some (.live f u N))\/β b=some (.map f)):=fun f ⟨b,hb⟩=>by
    rcases hcase b with ⟨i,hi,rfl⟩|h
    . rw [hin i hi] at hb;exact .inl ⟨i,hb⟩
    . rw [zjs h] at hb;exact .inr ⟨b,h,hb⟩
  refine ⟨w,s1,A1,bmix ρ S1.n β1 β,e1,⟨e2.inr,e2.inv,e2.alt,fun f hf=>?_,fun b b' l l' f h1 h2 h3 h4=>?_,fun b hb=>?_,fun b z N l hb=>?_,fun b l hb=>?_,e2.glob⟩,VT.up hin hv e3,⟨e4.can,e4.sub,fun f hf=>(e4.new f hf).imp id (Or.imp id (hown2 f)),fun f hf=>?_,fun f hf ho=>e4.keep f hf fun h=>ho (hown2 f h),hle,fun x hx=>(e4.rd x hx).imp id (fun ⟨a,b⟩=>⟨a,b.imp id (hown2 x)⟩),fun x hx=>(e4.wr x hx).imp id (fun ⟨a,b⟩=>⟨a,hown2 x b⟩)⟩⟩
  . rcases hmix f hf with h|⟨b,hb,h⟩
    . exact e2.dis f h
    . have hd:=hT.dis f ⟨b,h⟩;refine ⟨gz hd.1 e4.can.n,fun hA=>?_⟩;rcases e4.new f hA with q|q|q
      . exact hd.2 q
      . have:=hd.1;omega
      . exact apart b f hb h q
  . have yib:∀ i b l l',i<S1.n->(∀ i,i<S1.n->ρ i≠b)->β1 i=some l->β b=some l'->l.fam=some f->l'.fam=some f->False:=fun i b l l' hi hb q1 q2 q3 q4=>by
      have ho:=hfamO b l' f q2 q4;rcases e4.own f (hfam1 i l f q1 q3) with q|q
      . exact apart b f hb ho q
      . have:=(hT.dis f ⟨b,ho⟩).1;omega
    rcases hcase b with ⟨i,hi,rfl⟩|hb<;>rcases hcase b' with ⟨j,hj,rfl⟩|hb'
    . rw [hin i hi] at h1;rw [hin j hj] at h2;rw [e2.inj i j l l' f h1 h2 h3 h4]
    . rw [hin i hi] at h1;rw [zjs hb'] at h2;exact (yib i b' l l' hi hb' h1 h2 h3 h4).elim
    . rw [zjs hb] at h1;rw [hin j hj] at h2;exact (yib j b l' l hj hb h2 h1 h4 h3).elim
    . rw [zjs hb] at h1;rw [zjs hb'] at h2;exact hT.inj b b' l l' f h1 h2 h3 h4
  . rw [zjs (fun i hi hh=>by have:=F.top i hi;omega)];exact hT.next b (by have:=F.grow;omega)
  . rcases hcase b with ⟨i,hi,rfl⟩|hbo
    . obtain ⟨p1,p2⟩:=F.post i hi;rw [hb] at p1
      cases hq:S1.box i with
      |gone=>rw [hq] at p1;simp [ze0] at p1
      |map m=>rw [hq] at p1;simp [ze0] at p1
      |cells z' N' l' =>
        rw [hq] at p1 p2;simp only [ze0,Box.cells.injEq] at p1;obtain ⟨rfl,rfl,rfl⟩:=p1;obtain ⟨c1,c2⟩:=e2.cells _ _ _ _ hq;refine ⟨by rw [zkn];exact c1,?_⟩;rcases c2 with ⟨d1,d2,d3⟩|⟨f,u,cs,rest,d1,d2,d3,d4,d5⟩
        . exact .inl ⟨by rw [hin i hi];exact d1,d2,d3⟩
        . exact .inr ⟨f,u,cs,rest,by rw [hin i hi];exact d1,d2,d3,VL.up hin p2 d4,d5⟩
    . rw [F.rest b hbo] at hb;refine (hT.cells b z N l hb).mono e4.sub hkeep hle (zjs hbo) fun f u N' hl=>?_;exact e4.keep f (hT.dis f (zcq hl)).1 (apart b f hbo (.inl ⟨u,N',hl⟩))
  . rcases hcase b with ⟨i,hi,rfl⟩|hbo
    . obtain ⟨p1,p2⟩:=F.post i hi;rw [hb] at p1
      cases hq:S1.box i with
      |gone=>rw [hq] at p1;simp [ze0] at p1
      |cells z N m=>rw [hq] at p1;simp [ze0] at p1
      |map m =>
        rw [hq] at p1 p2;simp only [ze0,Box.map.injEq] at p1;subst p1;obtain ⟨r,es,c1,c2,c3,c4⟩:=e2.maps _ _ hq;simp only [zh8,fk] at p2;exact ⟨r,es,by rw [hin i hi];exact c1,c2,by rw [z7v];exact VL.up hin p2.1 c3,by rw [z7u];exact VL.up hin p2.2 c4⟩
    . rw [F.rest b hbo] at hb;refine (hT.maps b l hb).mono e4.sub hkeep hle (zjs hbo) fun r hl=>?_;exact e4.keep r (hT.dis r (zhh hl)).1 (apart b r hbo (.inr hl))
  . rcases hmix f hf with h|⟨b,hb,h⟩
    . exact (e4.own f h).imp (hown2 f) id
    . exact .inl ⟨b,h⟩
end
end
end Go.Proofs.Ytkfnjbfnkpameaa
