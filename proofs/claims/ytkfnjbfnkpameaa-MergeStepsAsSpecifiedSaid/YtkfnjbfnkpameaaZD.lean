/- Part 4 of the proof of MergeStepsAsSpecified (several texts in one; no further condition). -/
import Derived.Test.YtkfnjbfnkpameaaZC
set_option linter.unusedSimpArgs false
set_option linter.unusedVariables false
set_option linter.unusedSectionVars false
namespace Go.Proofs.Ytkfnjbfnkpameaa
noncomputable section
open _root_.And renaming intro->fd
open _root_.Array renaming toList_map->pa
open _root_.BitVec renaming ofInt->i8
open _root_.Bool renaming and_eq_true->fj,and_self->gc,and_true->n6,not_true->iv,true_and->jy
open Go.Proofs.Ytkfnjbfnkpameaa.Bx renaming le_refl->mf
open Go.Proofs.Ytkfnjbfnkpameaa.CS renaming inner->sm
open Go.Call renaming operands->r9
open Go.Proofs.Ytkfnjbfnkpameaa.Can renaming refl->jp
open _root_.Eq renaming trans->f6
open Go.Proofs.Ytkfnjbfnkpameaa.Fr renaming get_put_other->so
open Go renaming FuncId->mc,IntKind->iu,Operand->f7,Program->gn,TypeDesc->nf,TypeId->gm,eqGuard->ma
open _root_.Int renaming eq_ofNat_of_zero_le->jt,toNat_natCast->jk
open _root_.List renaming all_cons->jn,all_eq_true->ib,append_assoc->gj,append_nil->gt,cons_append->gq,drop_succ_cons->kv,drop_zero->gp,eq_nil_of_length_eq_zero->ji,flatMap_cons->jb,flatten_cons->ii,getD_eq_getElem?_getD->fo,getElem?_append_left->gi,getElem?_append_right->im,getElem?_cons_succ->lh,getElem?_cons_zero->gz,getElem?_eq_getElem->fk,getElem?_eq_none->jw,getElem?_eq_some_iff->ge,getElem?_map->lj,length_append->fx,length_cons->gh,length_drop->jf,length_map->fq,length_nil->je,length_replicate->lf,length_singleton->ip,length_take->ik,map_append->nd,map_cons->i4,map_map->ra,map_nil->pd,mem_map->jo,nil_append->gg,replicate_succ->jc,set_cons_succ->lw,set_cons_zero->ld,take_append_drop->i9,take_length->l9,take_of_length_le->ij,take_succ_cons->ng,take_zero->m7
open Go.Proofs.Ytkfnjbfnkpameaa.Loc renaming fam->om
open _root_.Nat renaming add_mul->jm,add_zero->jq,beq->fy,beq_refl->ja,ble->h9,blt->ic,eq_of_beq_eq_true->fl,le_refl->fp,lt_of_lt_of_le->gr,mul_one->qi,one_mul->m8,testBit->i6,testBit_and->lq,testBit_or->oe,testBit_two_pow_sub_one->ml,zero_add->i5,zero_le->ir
open Go.Proofs.Ytkfnjbfnkpameaa.Ok0 renaming same->mr
open Go.Op renaming intArith->qg,intBits->p8,intCmp->od,operands->gw
open _root_.Option renaming map_some->ov
open _root_.Option.some renaming injEq->fe
open _root_.Prod.mk renaming injEq->fm
open Go.Proofs.Ytkfnjbfnkpameaa.Stp renaming refl->rp
open Go.Proofs.Ytkfnjbfnkpameaa.T renaming bool->sp,cells->jd,int->fh,one->na,str->ph
open Go.Proofs.Ytkfnjbfnkpameaa.TS renaming set_ne->nc,set_same->m6
open Go Go.RowKit
section
variable {GL:List (Nat×List Value)} {A A' A2:Nat->Prop} {β β' β2:Bx} {S S':TS} {s s' s2:CS} {P:gn} {Γ:Env}
def zbq (op:BinOp) (k k':iu) (a b:Int):Option T :=
  match op with
  |.shl=>if 0<=b then some (.int k (k.wrap (a*2 ^ (min b.toNat k.bits)))) else none
  |.shr=>if 0<=b then some (.int k (a.fdiv (2 ^ (min b.toNat k.bits)))) else none
  |op=>bif fy (ikN k) (ikN k') then (match op with
    |.add=>some (.int k (k.wrap (a+b)))
    |.sub=>some (.int k (k.wrap (a - b)))
    |.mul=>some (.int k (k.wrap (a*b)))
    |.quo=>if b=0 then none else some (.int k (k.wrap (a.tdiv b)))
    |.rem=>if b=0 then none else some (.int k (a.tmod b))
    |.and=>some (.int k (k.wrap (i8 k.bits a &&& i8 k.bits b).toNat))
    |.or=>some (.int k (k.wrap (i8 k.bits a ||| i8 k.bits b).toNat))
    |.xor=>some (.int k (k.wrap (i8 k.bits a ^^^ i8 k.bits b).toNat))
    |.andNot=>some (.int k (k.wrap (i8 k.bits a &&& ~~~ i8 k.bits b).toNat))
    |.eql=>some (.bool (decide (a=b)))
    |.neq=>some (.bool (decide (a≠b)))
    |.lss=>some (.bool (decide (a<b)))
    |.leq=>some (.bool (decide (a<=b)))
    |.gtr=>some (.bool (decide (b<a)))
    |.geq=>some (.bool (decide (b<=a)))
    |_=>none) else none
theorem ydr {op:BinOp} {k k':iu} {a b:Int} {r:T} (h:zbq op k k' a b=some r):∃ v,VT A β (zaa s.obj) r v/\∀ {ρ:f7->Value} {o:Oper} {t t2:gm} {x y:f7} {s:CS},o.op=.binOp op t x y t2->ρ x=.int k a->ρ y=.int k' b->zmj P Γ ρ o s t op (.int k a) (.int k' b)=some (v,s):=by
  unfold zbq at h;split at h
  . split at h
    . rename_i h0;cases h;exact ⟨_,.int _ _,fun ho hx hy=>zb0 ho hx hy default (by simp only [binOp,Op.shift];rw [zAd (by omega)]) rfl⟩
    . simp at h
  . split at h
    . rename_i h0;cases h;exact ⟨_,.int _ _,fun ho hx hy=>zb0 ho hx hy default (by simp only [binOp,Op.shift];rw [zAd (by omega)]) rfl⟩
    . simp at h
  . cases hq:fy (ikN k) (ikN k') with
    |false=>rw [hq] at h;simp at h
    |true =>
      rw [hq,cond_true] at h;have:=ydu hq;subst this;split at h
      . cases h;exact ⟨_,.int _ _,fun ho hx hy=>zb0 ho hx hy default (by simp only [binOp,qg,ne_eq,not_true,if_false]) rfl⟩
      . cases h;exact ⟨_,.int _ _,fun ho hx hy=>zb0 ho hx hy default (by simp only [binOp,qg,ne_eq,not_true,if_false]) rfl⟩
      . cases h;exact ⟨_,.int _ _,fun ho hx hy=>zb0 ho hx hy default (by simp only [binOp,qg,ne_eq,not_true,if_false]) rfl⟩
      . split at h
        . simp at h
        . rename_i hb;cases h;exact ⟨_,.int _ _,fun ho hx hy=>zb0 ho hx hy default (by simp only [binOp,Op.intDiv,ne_eq,not_true,if_false];rw [zAd hb]) rfl⟩
      . split at h
        . simp at h
        . rename_i hb;cases h;exact ⟨_,.int _ _,fun ho hx hy=>zb0 ho hx hy default (by simp only [binOp,Op.intDiv,ne_eq,not_true,if_false];rw [zAd hb]) rfl⟩
      . cases h;exact ⟨_,.int _ _,fun ho hx hy=>zb0 ho hx hy default (by simp only [binOp,p8,ne_eq,not_true,if_false]) rfl⟩
      . cases h;exact ⟨_,.int _ _,fun ho hx hy=>zb0 ho hx hy default (by simp only [binOp,p8,ne_eq,not_true,if_false]) rfl⟩
      . cases h;exact ⟨_,.int _ _,fun ho hx hy=>zb0 ho hx hy default (by simp only [binOp,p8,ne_eq,not_true,if_false]) rfl⟩
      . cases h;exact ⟨_,.int _ _,fun ho hx hy=>zb0 ho hx hy default (by simp only [binOp,p8,ne_eq,not_true,if_false]) rfl⟩
      . cases h;exact ⟨_,.bool _,fun ho hx hy=>zb0 ho hx hy default (by simp [binOp,od];rfl) rfl⟩
      . cases h;exact ⟨_,.bool _,fun ho hx hy=>zb0 ho hx hy default (by simp [binOp,od]<;>rfl) rfl⟩
      . cases h;exact ⟨_,.bool _,fun ho hx hy=>zb0 ho hx hy default (by simp [binOp,od]) rfl⟩
      . cases h;exact ⟨_,.bool _,fun ho hx hy=>zb0 ho hx hy default (by simp [binOp,od]) rfl⟩
      . cases h;exact ⟨_,.bool _,fun ho hx hy=>zb0 ho hx hy default (by simp [binOp,od]) rfl⟩
      . cases h;exact ⟨_,.bool _,fun ho hx hy=>zb0 ho hx hy default (by simp [binOp,od]) rfl⟩
      . simp at h
def zwj (op:BinOp) (a b:ByteArray):Option T:=match op with
  |.eql=>some (.bool (decide (a=b)))
  |.neq=>some (.bool (!decide (a=b)))
  |.add=>if a.size+b.size<=9223372036854775807 then some (.str (a++b)) else none
  |_=>none
theorem ya6 {op:BinOp} {a b:ByteArray} {r:T} (h:zwj op a b=some r):∃ v,VT A β (zaa s.obj) r v/\∀ {ρ:f7->Value} {o:Oper} {t t2:gm} {x y:f7} {s:CS},o.op=.binOp op t x y t2->ρ x=.string a->ρ y=.string b->zmj P Γ ρ o s t op (.string a) (.string b)=some (v,s):=by
  unfold zwj at h;split at h
  . cases h;exact ⟨_,.bool _,fun ho hx hy=>zm5 ho hx hy rfl (fun d=>zzl d a) rfl rfl (by unfold ma;simp) (by show some _=_;rw [ya5]) rfl⟩
  . cases h;exact ⟨_,.bool _,fun ho hx hy=>zm5 ho hx hy rfl (fun d=>zzl d a) rfl rfl (by unfold ma;simp) (by show some _=_;rw [ya5]) rfl⟩
  . split at h
    . rename_i hs;cases h
      exact ⟨_,.str _,fun ho hx hy=>zm5 ho hx hy rfl (fun d=>zzl d a) rfl rfl (by unfold ma;simp) (by
        show za7 P (Op.stringOp .add a b)=_;unfold Op.stringOp;simp only
        rw [zAd (by have : IntKind.i64.max = 9223372036854775807 := by decide
                    omega)]
        rfl) rfl⟩
    . simp at h
  . simp at h
theorem zak {α γ:Type} {f:α->Sem γ}:∀ {m:Sem α},za7 P (m >>= f)=(za7 P m).bind fun v=>za7 P (f v):=by
  intro m
  induction m with
  |pure a=>rfl
  |program k ih=>exact ih P
  |_=>rfl
theorem z9p {ρ:f7->Value} {t t2:gm} {x y:f7} {op:BinOp} {v w r:Value} {o:Oper} (ho:o.op=.binOp op t x y t2) (hx:ρ x=v) (hy:ρ y=w) (hc:binC op v w=none) (hn:∀ d,nilT d v=none) (hpv:za6 3 v=true) (hpw:za6 3 w=true)
    (hr:za7 P (do ma op t x y v w;binOp op t v w)=some r) (hp:za6 3 r=true):zmj P Γ ρ o s t op v w=some (r,s):=by
  unfold zmj;rw [hc];simp only;rw [z73 hn];simp only [zhp];unfold zm0
  have hops:(o.op.operands.toList.all fun z=>za6 3 (ρ z))=true:=by
    rw [ho];simp [gw,hx,hy,hpv,hpw]
  rw [hops]
  have he:execOp ρ o=((do ma op t x y v w;binOp op t v w) >>= fun z=>pure (Next.value z)):=by
    unfold execOp;rw [ho];simp only [hx,hy]
  rw [he]
  have hv:za7 P ((do ma op t x y v w;binOp op t v w) >>= fun z=>pure (Next.value z))=some (.value r):=by
    rw [zak,hr];rfl
  simp only [cond_true];rw [hv];show retC s (bif za6 3 r then some r else none)=some (r,s);rw [hp];rfl
def yfy:T->Option Value
  |.int k n=>some (.int k n)
  |.bool b=>some (.bool b)
  |.str b=>some (.string b)
  |_=>none
def zgk:List T->Option (List Value)
  |[]=>some []
  |t :: l=>match yfy t,zgk l with|some v,some r=>some (v :: r)|_,_=>none
theorem yfx {g:Nat->Fam} {t:T} {v w:Value} (h:yfy t=some w) (hv:VT A β g t v):v=w/\∀ n,za6 n v=true:=by
  unfold yfy at h;split at h
  . cases h;cases hv;exact ⟨rfl,fun n=>by cases n<;>rfl⟩
  . cases h;cases hv;exact ⟨rfl,fun n=>by cases n<;>rfl⟩
  . cases h;cases hv;exact ⟨rfl,fun n=>by cases n<;>rfl⟩
  . simp at h
theorem ztk {g:Nat->Fam}:∀ {l:List T} {vs ws:List Value},zgk l=some ws->VL A β g l vs->vs=ws/\vs.all (za6 2)=true
  |[],_,ws,h,.nil=>by simp only [zgk,fe] at h;subst h;exact ⟨rfl,rfl⟩
  |t :: l,_,ws,h,.cons h1 h2=>by
    unfold zgk at h;split at h
    . rename_i v r e1 e2;cases h;obtain ⟨a,b⟩:=yfx e1 h1;obtain ⟨c,d⟩:=ztk e2 h2;rw [a,c] at *;exact ⟨rfl,by rw [jn,b 2,d];rfl⟩
    . simp at h
def zol (P:gn) (t:gm) (op:BinOp) (x y:f7) (a b:List T):Option T:=match zgk a,zgk b with
  |some va,some vb=>(match za7 P (do ma op t x y (.agg ⟨va⟩) (.agg ⟨vb⟩);binOp op t (.agg ⟨va⟩) (.agg ⟨vb⟩)) with
    |some (.bool r)=>some (.bool r)
    |_=>none)
  |_,_=>none
theorem ycy (d:nf) (a:Array Value):nilT d (.agg a)=none:=by cases d<;>rfl
def tNil (S:TS):nf->T->Option Bool
  |.pointer _,.nilp=>some true
  |.pointer _,.ptr b _ N=>bif S.has b N then some false else none
  |.pointer _,.cp _=>some false
  |.slice _,.nils=>some true
  |.slice _,.arr b _ _ _ _ N=>bif S.has b N && ic 0 N then some false else none
  |.slice _,.lst _ (_ :: _)=>some false
  |.slice _,.emp _=>some false
  |.map _ _,.nilm=>some true
  |.func _ _ _,.nilf=>some true
  |.func _ _ _,.fn _ _ _=>some false
  |_,_=>none
theorem yaz (h:TRel GL A β S s) {d:nf} {t:T} {v:Value} {b:Bool} (hv:VT A β (zaa s.obj) t v) (ht:tNil S d t=some b):nilT d v=some b:=by
  unfold tNil at ht;split at ht
  . cases ht;cases hv;rfl
  . rename_i b' _ N
    cases hs:S.has b' N with
    |false=>rw [hs] at ht;simp at ht
    |true =>
      rw [hs] at ht;cases ht;obtain ⟨z,l,hS⟩:=TS.has_ok hs;obtain ⟨f,u,rfl,hb⟩:=zkl h hS hv;rfl
  . cases ht;cases hv;rfl
  . cases ht;cases hv;rfl
  . rename_i b' _ _ _ _ N
    cases hs:(S.has b' N && ic 0 N) with
    |false=>rw [hs] at ht;simp at ht
    |true =>
      rw [hs] at ht;cases ht;simp only [fj] at hs;obtain ⟨z,l,hS⟩:=TS.has_ok hs.1;have:=zad.1 hs.2;rcases zhw h hS hv with ⟨f,u,rfl,hb,htag⟩|⟨rfl,hb,rfl,rfl,rfl,rfl⟩
      . rfl
      . omega
  . cases ht;cases hv;rfl
  . cases ht;cases hv;rfl
  . cases ht;cases hv;rfl
  . cases ht;cases hv;rfl
  . cases ht;cases hv;rfl
  . simp at ht
def tBin (P:gn) (Γ:Env) (S:TS) (t:gm) (op:BinOp) (x y:f7) (a b:T):Option T:=match a,b with
  |.int k m,.int k' n=>zbq op k k' m n
  |.str m,.str n=>zwj op m n
  |.bool m,.bool n=>(match Γ.ti.at t with
    |some i=>(match i.desc,op with|.bool,.eql=>some (.bool (m == n))|.bool,.neq=>some (.bool (!(m == n)))|_,_=>none)
    |none=>none)
  |.agg m,.agg n=>zol P t op x y m n
  |a,b=>(match Γ.ti.at t with
    |some i=>(match tNil S i.desc a,tNil S i.desc b with
      |some p,some q=>bif p || q then (match op with|.eql=>some (.bool (p && q))|.neq=>some (.bool (!(p && q)))|_=>none) else none
      |_,_=>none)
    |none=>none)
theorem z81 {op:BinOp} {v w:Value} {d:nf} {p:Bool} (h:nilT d v=some p):binC op v w=none:=by
  unfold nilT at h;split at h<;>first | (simp at h;done)|rfl
theorem yk8 (hE:zeb P Γ) (h:TRel GL A β S s) {t t2:gm} {op:BinOp} {x y:f7} {o:Oper} {a b r:T} {ρ:f7->Value} (ho:o.op=.binOp op t x y t2) (hx:VT A β (zaa s.obj) a (ρ x)) (hy:VT A β (zaa s.obj) b (ρ y)) (ht:tBin P Γ S t op x y a b=some r):Ok0 GL A β S s (zmj P Γ ρ o s t op (ρ x) (ρ y)) r:=by
  unfold tBin at ht;split at ht
  . rename_i k m k' n;obtain ⟨v,h1,h2⟩:=ydr (A:=A) (β:=β) (s:=s) (P:=P) (Γ:=Γ) ht;generalize e1:ρ x=vx at hx;generalize e2:ρ y=vy at hy;cases hx;cases hy;rw [h2 ho e1 e2];exact mr h h1
  . rename_i m n;obtain ⟨v,h1,h2⟩:=ya6 (A:=A) (β:=β) (s:=s) (P:=P) (Γ:=Γ) ht;generalize e1:ρ x=vx at hx;generalize e2:ρ y=vy at hy;cases hx;cases hy;rw [h2 ho e1 e2];exact mr h h1
  . rename_i m n;generalize e1:ρ x=vx at hx;generalize e2:ρ y=vy at hy;cases hx;cases hy;split at ht
    . rename_i i hi;have hd:=(hE.ti _ _ hi).und;split at ht
      . rename_i hdb;cases ht;rw [hdb] at hd
        rw [zm5 ho e1 e2 rfl (fun d=>z1q d m) rfl rfl (by unfold ma;simp) (r:=.bool (m == n)) (by
          show za7 P (do pure (Value.bool (<- Op.equal t (.bool m) (.bool n))):Sem Value)=_
          rw [zhc (zmd hd)];rfl) rfl]
        exact mr h (.bool _)
      . rename_i hdb;cases ht;rw [hdb] at hd
        rw [zm5 ho e1 e2 rfl (fun d=>z1q d m) rfl rfl (by unfold ma;simp) (r:=.bool (!(m == n))) (by
          show za7 P (do pure (Value.bool (!(<- Op.equal t (.bool m) (.bool n)))):Sem Value)=_
          rw [zhc (zmd hd)];rfl) rfl]
        exact mr h (.bool _)
      . simp at ht
    . simp at ht
  . rename_i m n;generalize e1:ρ x=vx at hx;generalize e2:ρ y=vy at hy;cases hx;cases hy;rename_i va ha vb hb;unfold zol at ht;split at ht
    . rename_i wa wb h1 h2;obtain ⟨rfl,k1⟩:=ztk h1 ‹VL A β (zaa s.obj) m _›;obtain ⟨rfl,k2⟩:=ztk h2 ‹VL A β (zaa s.obj) n _›;split at ht
      . rename_i r' hr;cases ht;rw [z9p ho e1 e2 rfl (fun d=>ycy d _) k1 k2 hr rfl];exact mr h (.bool _)
      . simp at ht
    . simp at ht
  . split at ht
    . rename_i i hi;split at ht
      . rename_i p q h1 h2
        cases hpq:(p || q) with
        |false=>rw [hpq] at ht;simp at ht
        |true =>
          rw [hpq] at ht;simp only [cond_true] at ht;have n1:=yaz h hx h1;have n2:=yaz h hy h2;split at ht
          . cases ht
            have:zmj P Γ ρ o s t .eql (ρ x) (ρ y)=some (.bool (p && q),s):=by
              unfold zmj;rw [z81 n1];simp only;unfold eqC;simp only [hi,n1,n2];unfold nilC;simp only [hpq,cond_true];simp [zhp]
            rw [this];exact mr h (.bool _)
          . cases ht
            have:zmj P Γ ρ o s t .neq (ρ x) (ρ y)=some (.bool (!(p && q)),s):=by
              unfold zmj;rw [z81 n1];simp only;unfold eqC;simp only [hi,n1,n2];unfold nilC;simp only [hpq,cond_true];simp [zhp]
            rw [this];exact mr h (.bool _)
          . simp at ht
      . simp at ht
    . simp at ht
def tUn (op:UnOp):T->Option T
  |.bool b=>(match op with|.not=>some (.bool (!b))|_=>none)
  |.int k a=>(match op with
    |.neg=>some (.int k (k.wrap (0 - a)))
    |.xor=>some (.int k (k.wrap (i8 k.bits (if k.signed then -1 else k.max) ^^^ i8 k.bits a).toNat))
    |_=>none)
  |_=>none
theorem yna (h:TRel GL A β S s) {t:gm} {op:UnOp} {x:f7} {o:Oper} {a r:T} {ρ:f7->Value} (ho:o.op=.unOp op t x) (hx:VT A β (zaa s.obj) a (ρ x)) (ht:tUn op a=some r):Ok0 GL A β S s (zhp P ρ o s (unC op (ρ x))) r:=by
  obtain ⟨d,opx,ty,pos,e,g⟩:=o;simp only at ho;subst ho;unfold tUn at ht;split at ht
  . rename_i b;generalize e1:ρ x=vx at hx;cases hx;split at ht
    . cases ht;exact mr h (.bool _)
    . simp at ht
  . rename_i k m;generalize e1:ρ x=vx at hx;cases hx;split at ht
    . cases ht;rw [ynu e1];exact mr h (.int _ _)
    . cases ht;rw [ynt e1];exact mr h (.int _ _)
    . simp at ht
  . simp at ht
def zve:List T->Option (List UInt8)
  |[]=>some []
  |.int .u8 k :: l=>(match zve l with|some r=>some (UInt8.ofNat k.toNat :: r)|none=>none)
  |_ :: _=>none
theorem z3l {g:Nat->Fam}:∀ {l:List T} {vs:List Value} {r:List UInt8},VL A β g l vs->zve l=some r->z0f vs=some r
  |[],_,r,.nil,h=>by simp only [zve,fe] at h;subst h;rfl
  |t :: l,_,r,.cons h1 h2,h=>by
    unfold zve at h;split at h
    . simp_all
    . rename_i k l' hh;cases hh;split at h
      . rename_i r' hr;cases h;cases h1;unfold z0f;rw [z3l h2 hr]
      . simp at h
    . simp at h
def tStr (Γ:Env) (S:TS) (d1 d2:nf) (x:T):Option T:=match d1,d2 with
  |.slice e,.string=>bif isU8 Γ e then (match tSrc S 1 x with
    |some (_,xs)=>(match zve xs with|some r=>some (.str ⟨r.toArray⟩)|none=>none)
    |none=>none) else none
  |_,_=>none
theorem z3r (h:TRel GL A β S s) {src dst:gm} {x:f7} {o:Oper} {a r:T} {ρ:f7->Value} {i j:TI} (hi:Γ.ti.at src=some i) (hj:Γ.ti.at dst=some j) (hx:VT A β (zaa s.obj) a (ρ x)) (ht:tStr Γ S i.desc j.desc a=some r) (hsl:∀ n xs,tSrc S 1 a=some (n,xs)->∃ aa c m,ρ x=.slice aa m c):Ok0 GL A β S s (zdz P Γ ρ o s src dst (ρ x)) r:=by
  unfold tStr at ht;split at ht
  . rename_i e hd1 hd2
    cases hq:isU8 Γ e with
    |false=>rw [hq] at ht;simp at ht
    |true =>
      rw [hq] at ht;simp only [cond_true] at ht;split at ht
      . rename_i n xs hsrc;obtain ⟨e1,e2,e3⟩:=z3s h (show 0<1 by omega) hx hsrc;obtain ⟨ys,s1,f1,f2,f3⟩:=e3 n (fp _);rw [ij (by omega)] at f2;split at ht
        . rename_i r' hr';cases ht;obtain ⟨aa,c,m,hsl⟩:=hsl n xs hsrc;rw [hsl] at e1 f1 ⊢;simp only [lenC,fe] at e1;subst e1
          have:zdz P Γ ρ o s src dst (.slice aa m c)=some (.string ⟨r'.toArray⟩,s1):=by
            unfold zdz;simp only [hi,hj,hd1,hd2,hq,cond_true];rw [f1];unfold strC;simp only [z3l f2 hr']
          rw [this];exact Ok0.rd h (f3.rel0 h) (.str _)
        . simp at ht
      . simp at ht
  . simp at ht
def zrf (Γ:Env) (S:TS) (src dst:gm) (x:T):Option T:=match Γ.ti.at src,Γ.ti.at dst with
  |some i,some j=>(match x with
    |.int _ n=>(match j.desc with|.int k=>some (.int k (k.wrap n))|_=>none)
    |.str b=>(match i.desc,j.desc with
      |.string,.slice e=>bif isU8 Γ e && h9 b.size 1000000000 then some (.lst 1 (zhu b)) else none
      |.string,.string=>some (.str b)
      |_,_=>none)
    |.lst e' l=>tStr Γ S i.desc j.desc (.lst e' l)
    |.arr b e' off len cap N=>tStr Γ S i.desc j.desc (.arr b e' off len cap N)
    |.nils=>tStr Γ S i.desc j.desc .nils
    |_=>none)
  |_,_=>none
theorem z8g {ρ:f7->Value} {o:Oper} {src dst e:gm} {i j:TI} {b:ByteArray} (hi:Γ.ti.at src=some i) (hj:Γ.ti.at dst=some j) (hd1:i.desc=.string) (hd2:j.desc=.slice e) (hq:(isU8 Γ e && h9 b.size 1000000000)=true):zdz P Γ ρ o s src dst (.string b)=zhz b.size b.size (s.newRow 2 (zi6 b)):=by
  unfold zdz;simp only [hi,hj,hd1,hd2,hq,cond_true]
theorem z0o (hE:zeb P Γ) (h:TRel GL A β S s) {src dst:gm} {x:f7} {o:Oper} {a r:T} {ρ:f7->Value} (ho:o.op=.convert src dst x) (hx:VT A β (zaa s.obj) a (ρ x)) (ht:zrf Γ S src dst a=some r):Ok0 GL A β S s (zdz P Γ ρ o s src dst (ρ x)) r:=by
  unfold zrf at ht;split at ht
  . rename_i i j hi hj;split at ht
    . rename_i k n;generalize e1:ρ x=vx at hx;cases hx;split at ht
      . rename_i k' hd;cases ht;obtain ⟨d,opx,ty,pos,e,g⟩:=o;simp only at ho;subst ho;have hs:=(hE.ti _ _ hi).und;have hdd:=(hE.ti _ _ hj).und;rw [hd] at hdd;unfold zdz;simp only [hi,hj,hd];rw [yny ⟨k,e1⟩ (by rw [hs];rfl) hdd];exact mr h (.int _ _)
      . simp at ht
    . rename_i b;generalize e1:ρ x=vx at hx;cases hx;split at ht
      . rename_i e hd1 hd2
        cases hq:(isU8 Γ e && h9 b.size 1000000000) with
        |false=>rw [hq] at ht;simp at ht
        |true =>
          rw [hq] at ht;cases ht;have hv:VL A β (zaa s.obj) (zhu b) (zi6 b):=zsy _;obtain ⟨s',A',k1,k2,k3,k4,k5⟩:=h.newFrozen 2 (by omega) hv;rw [z8g hi hj hd1 hd2 hq,k1];refine ⟨_,s',A',rfl,k4,?_,k5⟩
          have hfm:(zhu b).flatMap jd=zhu b:=by
            unfold zhu yhh;rw [List.flatMap_map]
            have:∀ l:List UInt8,List.flatMap (fun (a:UInt8)=>(fh IntKind.u8 (a.toNat:Int)).cells) l=l.map fun a=>.int .u8 (a.toNat:Int):=by
              intro l
              induction l with
              |nil=>rfl
              |cons c l ih=>rw [jb,ih];rfl
            exact this _
          have hln:(zhu b).length=b.size:=by simp [zhu]
          have:=VT.lst (A:=A') (β:=β) (g:=zaa s'.obj) (e:=1) (off:=0) (cap:=b.size) (l:=zhu b) k2 k3 (by rw [hfm];exact k5.stp.vl h hv) (fun t ht=>by
            obtain ⟨c,_,rfl⟩:=jo.1 ht
            rfl) (by omega) (by rw [gp,l9]) (.inr (by omega)) (by omega)
          rw [hln] at this;exact this
      . rename_i hd1 hd2;cases ht
        have:zdz P Γ ρ o s src dst (.string b)=some (.string b,s):=by
          unfold zdz;simp only [hi,hj,hd1,hd2]
        rw [this];exact mr h (.str _)
      . simp at ht
    . refine z3r h hi hj hx ht fun n xs hs=>?_;generalize ρ x=vx at hx
      cases hx with
      |lnil=>exact ⟨_,_,_,rfl⟩
      |lst=>exact ⟨_,_,_,rfl⟩
    . rename_i b e' off len cap N;refine z3r h hi hj hx ht fun n xs hs=>?_;unfold tSrc at hs;simp only at hs;split at hs
      . rename_i z N' l hS
        cases hq:(fy N N' && (fy e' 1 && h9 (off+len*1) N)) with
        |false=>rw [hq] at hs;simp at hs
        |true =>
          simp only [fj] at hq;have:=fl hq.1;subst this;rcases zhw h hS hx with ⟨f,u,h1,hb,_⟩|⟨h1,_⟩
          . exact ⟨_,_,_,h1⟩
          . exact ⟨_,_,_,h1⟩
      . simp at hs
    . refine z3r h hi hj hx ht fun n xs hs=>?_;generalize ρ x=vx at hx;cases hx;exact ⟨_,_,_,rfl⟩
    . simp at ht
  . simp at ht
def zse (Γ:Env) (S:TS) (src dst:gm) (x:T):Option (T×TS):=match Γ.ti.at src,Γ.ti.at dst,x with
  |some i,some j,.str b=>(match i.desc,j.desc with
    |.string,.slice e=>bif isU8 Γ e && h9 b.size 1000000000 then some (.arr S.n 1 0 b.size b.size (zhu b).length,S.add (.cells false (zhu b).length (zhu b))) else none
    |_,_=>none)
  |_,_,_=>none
theorem z3u (h:TRel GL A β S s) {src dst:gm} {x:f7} {o:Oper} {a r:T} {ρ:f7->Value} (hx:VT A β (zaa s.obj) a (ρ x)) (ht:zse Γ S src dst a=some (r,S')):Ok GL A β s (zdz P Γ ρ o s src dst (ρ x)) r S':=by
  unfold zse at ht;split at ht
  . rename_i i j b hi hj;generalize e1:ρ x=vx at hx;cases hx;split at ht
    . rename_i e hd1 hd2
      cases hq:(isU8 Γ e && h9 b.size 1000000000) with
      |false=>rw [hq] at ht;simp at ht
      |true =>
        rw [hq] at ht;cases ht;have hv:VL A β (zaa s.obj) (zhu b) (zi6 b):=zsy _
        have hone:(zhu b).all na=true:=by
          unfold zhu yhh;rw [ib];intro t ht;obtain ⟨c,_,rfl⟩:=jo.1 ht;rfl
        obtain ⟨s',β',k1,k2,k3,k4⟩:=h.newBox 2 (by omega) hv (hv.one hone);rw [z8g hi hj hd1 hd2 hq,k1];exact ⟨_,s',A,β',rfl,k3,.arr k2 (.inr (by omega)),k4⟩
    . simp at ht
  . simp at ht
end
def zju (Γ:Env) (t:gm) (k:T):Bool:=match Γ.ti.at t with
  |some i=>(match i.desc,k with|.int a,.int b _=>fy (ikN a) (ikN b)|.string,.str _=>true|.bool,.bool _=>true|_,_=>false)
  |none=>false
def zwh:T->T->Option Bool
  |.int k a,.int k' b=>bif fy (ikN k) (ikN k') then some (a == b) else none
  |.str a,.str b=>some (a.data.toList == b.data.toList)
  |.bool a,.bool b=>some (a == b)
  |_,_=>none
def tGet (k:T):List (T×T)->Option (Option T)
  |[]=>some none
  |(k',v) :: l=>match zwh k k' with
    |some true=>some (some v)
    |some false=>tGet k l
    |none=>none
def tSet (k v:T):List (T×T)->Option (List (T×T))
  |[]=>some [(k,v)]
  |(k',v') :: l=>match zwh k k' with
    |some true=>some ((k,v) :: l)
    |some false=>(match tSet k v l with|some l=>some ((k',v') :: l)|none=>none)
    |none=>none
def zgj (i:TI):Option T:=bif aggT i.desc then (match zgi i.zero with|some l=>some (.agg l)|none=>none) else match i.zero with | [z]=>zll z|_=>none
def z7v (ok:Bool) (z:T):Option T->T
  |some v=>bif ok then .tup [v,.bool true] else v
  |none=>bif ok then .tup [z,.bool false] else z
def zd2 (Γ:Env) (S:TS) (t:gm) (x k:T) (ok:Bool):Option T:=match Γ.ti.at t with
  |some i=>(match i.desc with
    |.map kt e=>bif zju Γ kt k then (match Γ.ti.at e with
      |some j=>(match zgj j with
        |some z=>(match x with
          |.nilm=>some (z7v ok z none)
          |.mp b=>(match S.box b with|.map l=>(match tGet k l with|some r=>some (z7v ok z r)|none=>none)|_=>none)
          |_=>none)
        |none=>none)
      |none=>none) else none
    |_=>none)
  |none=>none
def za8 (Γ:Env) (S:TS) (t:gm) (k v m:T):Option TS:=match m,Γ.ti.at t with
  |.mp b,some i=>(match i.desc with
    |.map kt _=>bif zju Γ kt k then (match S.box b with|.map l=>(match tSet k v l with|some l'=>some (S.set b (.map l'))|none=>none)|_=>none) else none
    |_=>none)
  |_,_=>none
def zcr (S:TS):Option (T×TS):=some (.mp S.n,S.add (.map []))
section
variable {GL:List (Nat×List Value)} {A A':Nat->Prop} {β β':Bx} {S S':TS} {s s':CS} {P:gn} {Γ:Env} {g g':Nat->Fam}
theorem VM.mk {k x:T} {v w:Value} {l:List (T×T)} {es:List (Value×Value)} (a:VT A β g k v) (c:VT A β g x w) (h:VM A β g l es):VM A β g ((k,x) :: l) ((v,w) :: es):=⟨.cons a h.1,.cons c h.2⟩
end
def znk (v:Value):T:=match zll v with
  |some t=>t
  |none=>match v with
    |.agg cs=>(match zgi cs.toList with|some l=>.agg l|none=>.junk)
    |_=>.junk
def yea:List (Nat×List Value)->Nat->T
  |[],_=>.junk
  |x :: l,k=>bif fy x.1 k then (match zgi x.2 with|some c=>.cp c|none=>.junk) else yea l k
def zde (GL:List (Nat×List Value)) (h:Nat->T):f7->T
  |.tmp t=>h t
  |.const v=>znk v
  |.global k=>yea GL k
  |.func f=>.fn f [] []
def tupd (h:Nat->T) (t:Nat) (v:T):Nat->T:=fun u=>if u=t then v else h u
theorem zhf (h:Nat->T) (t:Nat) (v:T):tupd h t v t=v:=zAc rfl
theorem zln (h:Nat->T) (t u:Nat) (v:T) (hn:u≠t):tupd h t v u=h u:=zAd hn
def putT (h:Nat->T):Option Tmp->T->Nat->T
  |some d,v=>tupd h d v
  |none,_=>h
def zhx (S:TS):Option T->Option (T×TS)
  |some t=>some (t,S)
  |none=>none
def yao:Option TS->Option (T×TS)
  |some S=>some (.junk,S)
  |none=>none
def ownD (own:List Nat) (d:Option Tmp):Bool:=match d with|some d=>has own d|none=>false
def zml (Γ:Env) (S:TS) (ρ:f7->T) (b:Builtin) (args:List f7) (ts:List gm):Option T:=match b with
  |.len=>(match args,ts with | [x],[t]=>tLen Γ S t (ρ x)|_,_=>none)
  |.min=>(match args with | [x,y]=>(match ρ x,ρ y with|.int k a,.int _ b=>some (.int k (min a b))|_,_=>none)|_=>none)
  |.max=>(match args with | [x,y]=>(match ρ x,ρ y with|.int k a,.int _ b=>some (.int k (max a b))|_,_=>none)|_=>none)
  |_=>none
def zgm (P:gn) (Γ:Env) (ρ:f7->T) (o:Oper) (S:TS):Option T :=
  match o.op with
  |.move x=>some (ρ x)
  |.assign x=>some (ρ x)
  |.pick c a b=>(match ρ c with|.bool t=>some (bif t then ρ a else ρ b)|_=>none)
  |.build t parts=>zj2 Γ ρ t parts.toList
  |.buildSlice t n parts=>zam Γ ρ t n parts.toList
  |.load t x=>zs8 Γ S t (ρ x)
  |.makeFunc fn first captured=>(match fn with|.func f=>some (.fn f (first.toList.map ρ) (captured.toList.map ρ))|_=>none)
  |.slice t x lo hi mx=>zs7 Γ S t (ρ x) (lo.map ρ) (hi.map ρ) (mx.map ρ)
  |.fieldAddr t x k=>zan Γ S t k (ρ x)
  |.indexAddr t x ix=>zh4 Γ S t (ρ x) (ρ ix)
  |.index t x ix=>zs9 Γ t (ρ x) (ρ ix)
  |.extract x k=>zlo k (ρ x)
  |.unOp op _ x=>tUn op (ρ x)
  |.convert src dst x=>zrf Γ S src dst (ρ x)
  |.binOp op t x y _=>tBin P Γ S t op x y (ρ x) (ρ y)
  |.call c=>(match c.callee with
    |.builtin b=>zml Γ S ρ b c.args.toList c.argTypes.toList
    |_=>none)
  |_=>none
def zgp (P:gn) (Γ:Env) (own:List Nat) (ρ:f7->T) (o:Oper) (S:TS):Option (T×TS) :=
  match o.op with
  |.alloc e=>zwi Γ S e
  |.box _ x=>tBox S (ρ x)
  |.buildSlice t n parts=>bif ownD own o.dst then zar Γ S ρ t n parts.toList else zhx S (zam Γ ρ t n parts.toList)
  |.store t x v=>yao (zwg Γ S t (ρ v) (ρ x))
  |.makeSlice t l c=>zjd Γ S t (ρ l) (ρ c)
  |.convert src dst x=>bif ownD own o.dst then zse Γ S src dst (ρ x) else zhx S (zrf Γ S src dst (ρ x))
  |.call c=>(match c.callee with
    |.builtin .append=>(match c.args.toList,c.argTypes.toList with | [x,y],[t,tx]=>bif srcT Γ tx then zmn Γ S t (ρ y) (ρ x) else none|_,_=>none)
    |.builtin .clear=>(match c.args.toList,c.argTypes.toList with | [x],[t]=>zta Γ S t (ρ x)|_,_=>none)
    |.builtin b=>zhx S (zml Γ S ρ b c.args.toList c.argTypes.toList)
    |_=>none)
  |_=>zhx S (zgm P Γ ρ o S)
section
variable {GL:List (Nat×List Value)} {A A' A2:Nat->Prop} {β β' β2:Bx} {S S':TS} {s s' s2:CS} {P:gn} {Γ:Env}
theorem VT.undf {g:Nat->Fam}:VT A β g (.tup []) undef:=VT.tup (vs:=[]) .nil
theorem yes {g:Nat->Fam} (v:Value):VT A β g (znk v) v:=by
  unfold znk;split
  . rename_i t ht;exact (z5k ht).1
  . split
    . rename_i cs;split
      . rename_i l hl;obtain ⟨cs⟩:=cs;exact .agg (zjl hl).1
      . exact .junk _
    . exact .junk _
theorem z7r {g:Nat->Fam}:∀ (L:List (Nat×List Value)) (k:Nat),(∀ x,x∈L->A x.1/\zbp (g x.1).rows (x.1*1024)=some x.2)->VT A β g (yea L k) (.pointer (some (mkA k (k*1024) 0)))
  |[],k,_=>.junk _
  |x :: l,k,h=>by
    unfold yea
    cases hb:fy x.1 k with
    |false=>exact z7r l k fun y hy=>h y (by simp [hy])
    |true =>
      have:=fl hb;subst this;simp only [cond_true];split
      . rename_i c hc;obtain ⟨h1,h2⟩:=h x (by simp);exact .cp h1 h2 (zjl hc).1 (by rw [gp,l9])
      . exact .junk _
structure FrOk (A:Nat->Prop) (β:Bx) (g:Nat->Fam) (N:Nat) (h:Nat->T) (fr:Fr):Prop where
  nt:fr.nt=N
  le:N<=512
  slot:∀ t,VT A β g (h t) (fr.get t)
theorem FrOk.mono {N:Nat} {h:Nat->T} {fr:Fr} {g g':Nat->Fam} (k:FrOk A β g N h fr) (hA:∀ f,A f->A' f) (hg:∀ f,A f->g' f=g f) (hβ:Bx.le β β'):FrOk A' β' g' N h fr:=⟨k.nt,k.le,fun t=>(k.slot t).mono hA hg hβ⟩
theorem FrOk.eval (hT:TRel GL A β S s) {N:Nat} {h:Nat->T} {fr:Fr} (k:FrOk A β (zaa s.obj) N h fr) (x:f7):VT A β (zaa s.obj) (zde GL h x) (zg6 fr x):=by
  cases x with
  |tmp t=>exact k.slot t
  |const v=>exact yes v
  |global g=>exact z7r GL g hT.glob
  |func f=>exact .fn .nil .nil
def zfb (N:Nat) (ops:List Oper):Bool:=ops.all fun o=>match o.dst with|some d=>ic d N|none=>true
theorem FrOk.put {N:Nat} {h:Nat->T} {fr:Fr} {g:Nat->Fam} (k:FrOk A β g N h fr) {d:Option Tmp} (hd:∀ t,d=some t->t<N) {t:T} {v:Value} (hv:VT A β g t v):FrOk A β g N (putT h d t) (putC fr d v):=by
  cases d with
  |none=>exact k
  |some d =>
    have hdN:=hd d rfl;refine ⟨?_,k.le,fun u=>?_⟩
    . show (fr.put d v).nt=N;unfold Fr.put;rw [zcl];split<;>exact k.nt
    . show VT A β g (tupd h d t u) ((fr.put d v).get u);by_cases hu:u=d
      . subst hu;rw [zhf,Fr.get_put_same v (by rw [k.nt];exact hdN) (by rw [k.nt];exact k.le)];exact hv
      . rw [zln _ _ _ _ hu,so v (by rw [k.nt];exact k.le) (fun hh=>hu hh.symm)];exact k.slot u
theorem zvf {g:Nat->Fam} {ρT:f7->T} {ρ:f7->Value} (hρ:∀ x,VT A β g (ρT x) (ρ x)):∀ (l:List f7),VL A β g (l.map ρT) (l.map ρ)
  |[]=>.nil
  |x :: l=>.cons (hρ x) (zvf hρ l)
theorem yfh {g:Nat->Fam} {ρT:f7->T} {ρ:f7->Value} (hρ:∀ x,VT A β g (ρT x) (ρ x)):∀ (l:Option f7),VO A β g (l.map ρT) (l.map ρ)
  |none=>.none
  |some x=>.some (hρ x)
theorem zsc {r:Option T} {t:T} {S1 S2:TS} (h:zhx S1 r=some (t,S2)):r=some t/\S2=S1:=by
  unfold zhx at h;split at h
  . cases h;exact ⟨rfl,rfl⟩
  . simp at h
theorem yfp {r:Option TS} {t:T} {S2:TS} (h:yao r=some (t,S2)):r=some S2/\t=.junk:=by
  unfold yao at h;split at h
  . cases h;exact ⟨rfl,rfl⟩
  . simp at h
theorem zrg (hT:TRel GL A β S s) {ρT:f7->T} {ρ:f7->Value} (hρ:∀ x,VT A β (zaa s.obj) (ρT x) (ρ x)) {o:Oper} {b:Builtin} {args:Array f7} {ts:Array gm} {r:T} (ho:o.op=.call ⟨.builtin b,args,ts⟩) (ht:zml Γ S ρT b args.toList ts.toList=some r):Ok0 GL A β S s (zfy P Γ ρ o s b args.toList ts.toList) r:=by
  unfold zml at ht;split at ht
  . split at ht
    . rename_i x t e1 e2;rw [e1,e2];exact yk6 hT (hρ x) ht
    . simp at ht
  . split at ht
    . rename_i x y e1;split at ht
      . rename_i k a k' b' e2 e3;cases ht;obtain ⟨args⟩:=args;simp only at e1;subst e1;obtain ⟨d,opx,ty,pos,e,g⟩:=o;simp only at ho;subst ho;have h1:=hρ x;have h2:=hρ y;rw [e2] at h1;rw [e3] at h2;generalize f1:ρ x=vx at h1;generalize f2:ρ y=vy at h2;cases h1;cases h2;show Ok0 GL A β S s (zfy P Γ ρ _ s .min [x,y] ts.toList) _;rw [o_min f1 f2];exact mr hT (.int _ _)
      . simp at ht
    . simp at ht
  . split at ht
    . rename_i x y e1;split at ht
      . rename_i k a k' b' e2 e3;cases ht;obtain ⟨args⟩:=args;simp only at e1;subst e1;obtain ⟨d,opx,ty,pos,e,g⟩:=o;simp only at ho;subst ho;have h1:=hρ x;have h2:=hρ y;rw [e2] at h1;rw [e3] at h2;generalize f1:ρ x=vx at h1;generalize f2:ρ y=vy at h2;cases h1;cases h2;show Ok0 GL A β S s (zfy P Γ ρ _ s .max [x,y] ts.toList) _;rw [o_max f1 f2];exact mr hT (.int _ _)
      . simp at ht
    . simp at ht
  . simp at ht
theorem z5w (hE:zeb P Γ) (hT:TRel GL A β S s) {ρT:f7->T} {ρ:f7->Value} (hρ:∀ x,VT A β (zaa s.obj) (ρT x) (ρ x)) {call:zed} {o:Oper} {r:T} (ht:zgm P Γ ρT o S=some r):Ok0 GL A β S s (cop P Γ call ρ o s) r:=by
  unfold zgm at ht;split at ht
  . rename_i x ho;cases ht;unfold cop;simp only [ho];exact mr hT (hρ x)
  . rename_i x ho;cases ht;unfold cop;simp only [ho];exact mr hT (hρ x)
  . rename_i c a b ho;split at ht
    . rename_i t hc;cases ht;unfold cop;simp only [ho];have h1:=hρ c;rw [hc] at h1;generalize f1:ρ c=vc at h1;cases h1;rw [yll]
      cases t with
      |true=>exact mr hT (hρ a)
      |false=>exact mr hT (hρ b)
    . simp at ht
  . rename_i t parts ho;unfold cop;simp only [ho];exact ya2 hT hρ ht
  . rename_i t n parts ho;unfold cop;simp only [ho];exact zmm hT hρ ht
  . rename_i t x ho;unfold cop;simp only [ho];exact yfv hT (hρ x) ht
  . rename_i fn first captured ho
    split at ht
    . rename_i f;cases ht;unfold cop;simp only [ho];have e1:first.map ρ=⟨first.toList.map ρ⟩:=by rw [<- pa]
      have e2:captured.map ρ=⟨captured.toList.map ρ⟩:=by rw [<- pa]
      rw [e1,e2];exact mr hT (.fn (zvf hρ _) (zvf hρ _))
    . simp at ht
  . rename_i t x lo hi mx ho;unfold cop;simp only [ho];exact yay hT (hρ x) (yfh hρ _) (yfh hρ _) (yfh hρ _) ht
  . rename_i t x k ho;unfold cop;simp only [ho];exact zyv hT (hρ x) ht
  . rename_i t x ix ho;unfold cop;simp only [ho];exact zyu hT (hρ x) (hρ ix) ht
  . rename_i t x ix ho;unfold cop;simp only [ho];exact ya0 hT (hρ x) (hρ ix) ht
  . rename_i x k ho;unfold cop;simp only [ho];exact z3t hT (hρ x) ht
  . rename_i op t x ho;unfold cop;simp only [ho];exact yna hT ho (hρ x) ht
  . rename_i src dst x ho;unfold cop;simp only [ho];exact z0o hE hT ho (hρ x) ht
  . rename_i op t x y t2 ho;unfold cop;simp only [ho];exact yk8 hE hT ho (hρ x) (hρ y) ht
  . rename_i c ho;split at ht
    . rename_i b hc;obtain ⟨cal,args,tys⟩:=c;simp only at hc ht;subst hc;unfold cop;simp only [ho];exact zrg hT hρ ho ht
    . simp at ht
  . simp at ht
theorem zyw (hE:zeb P Γ) (hT:TRel GL A β S s) {own:List Nat} {ρT:f7->T} {ρ:f7->Value} (hρ:∀ x,VT A β (zaa s.obj) (ρT x) (ρ x)) {call:zed} {o:Oper} {r:T} (ht:zgp P Γ own ρT o S=some (r,S')):Ok GL A β s (cop P Γ call ρ o s) r S':=by
  unfold zgp at ht;split at ht
  . rename_i e ho;unfold cop;simp only [ho];exact ya4 hT ht
  . rename_i e x ho;unfold cop;simp only [ho];exact yk7 hT (hρ x) ht
  . rename_i t n parts ho;unfold cop;simp only [ho]
    cases hw:ownD own o.dst with
    |true=>rw [hw] at ht;exact z0p hT hρ ht
    |false =>
      rw [hw] at ht;obtain ⟨h1,rfl⟩:=zsc ht;exact (zmm hT hρ h1).ok
  . rename_i t x v ho;obtain ⟨h1,rfl⟩:=yfp ht;unfold cop;simp only [ho];exact yax hT (hρ x) (hρ v) h1
  . rename_i t l c ho;unfold cop;simp only [ho];exact zyt hT (hρ l) (hρ c) ht
  . rename_i src dst x ho;unfold cop;simp only [ho]
    cases hw:ownD own o.dst with
    |true=>rw [hw] at ht;exact z3u hT (hρ x) ht
    |false =>
      rw [hw] at ht;obtain ⟨h1,rfl⟩:=zsc ht;exact (z0o hE hT ho (hρ x) h1).ok
  . rename_i c ho;obtain ⟨cal,args,tys⟩:=c;simp only at ht;split at ht
    . split at ht
      . rename_i x y t tx e1 e2;unfold cop;simp only [ho];rw [e1,e2]
        cases hq:srcT Γ tx with
        |false=>rw [hq] at ht;simp at ht
        |true =>
          rw [hq,cond_true] at ht;rw [ycs hq];exact z86 hT (hρ x) (hρ y) ht
      . simp at ht
    . split at ht
      . rename_i x t e1 e2;unfold cop;simp only [ho];rw [e1,e2];exact ya1 hT (hρ x) ht
      . simp at ht
    . obtain ⟨h1,rfl⟩:=zsc ht;unfold cop;simp only [ho];exact (zrg hT hρ ho h1).ok
    . simp at ht
  . obtain ⟨h1,rfl⟩:=zsc ht;exact (z5w hE hT hρ h1).ok
end
def Call (P:gn) (Γ:Env) (GL:List (Nat×List Value)) (f:mc) (args:List T) (S:TS) (v:T) (S':TS):Prop :=
  ∀ A β s vargs,TRel GL A β S s->VL A β (zaa s.obj) args vargs->Ok GL A β s (zej P Γ f vargs s) v S'
def ziw (ops:List Oper) (h:Nat->T):Option (Nat×Bool)->Option Bool
  |none=>some true
  |some (j,want)=>match zo0 ops j with
    |some d=>(match h d with|.bool b=>some (b == want)|.tup _=>some false|_=>none)
    |none=>none
def z0a (P:gn) (Γ:Env) (GL:List (Nat×List Value)) (S:TS) (args:List T) (f:T) (r:T×TS):Option Prop:=match f with
  |.fn k first cap=>some (Call P Γ GL k (first++args++cap) S r.1 r.2)
  |_=>none
def andT (p:Prop):Option (Prop×(Nat->T)×TS)->Option (Prop×(Nat->T)×TS)
  |some (q,h,S)=>some (p/\q,h,S)
  |none=>none
def runT (P:gn) (Γ:Env) (GL:List (Nat×List Value)) (own:List Nat) (ops:List Oper):List Oper->(Nat->T)->TS->List (T×TS)->Option (Prop×(Nat->T)×TS)
  |[],h,S,_=>some (True,h,S)
  |o :: l,h,S,outs=>match ziw ops h o.guard with
    |none=>none
    |some false=>runT P Γ GL own ops l (putT h o.dst (.tup [])) S outs
    |some true=>match o.op with
      |.call ⟨.value f,args,tys⟩=>(match outs with
        |r :: outs=>(match z0a P Γ GL S (args.toList.map (zde GL h)) (zde GL h f) r with
          |some p=>andT p (runT P Γ GL own ops l (putT h o.dst r.1) r.2 outs)
          |none=>none)
        |[]=>none)
      |_=>(match zgp P Γ own (zde GL h) o S with
        |some (t,S1)=>runT P Γ GL own ops l (putT h o.dst t) S1 outs
        |none=>none)
section
variable {GL:List (Nat×List Value)} {A A' A2:Nat->Prop} {β β' β2:Bx} {S S':TS} {s s' s2:CS} {P:gn} {Γ:Env}
theorem ziv {g:Nat->Fam} {ops:List Oper} {h:Nat->T} {N:Nat} {fr:Fr} {o:Oper} {b:Bool} (k:FrOk A β g N h fr) (hg:ziw ops h o.guard=some b):zc8 ops fr o=b:=by
  unfold ziw at hg;unfold zc8;split at hg
  . rename_i hh;cases hg;rw [hh]
  . rename_i j want hh;rw [hh];split at hg
    . rename_i d hd;simp only [hd];split at hg
      . rename_i b' hb;have:=k.slot d;rw [hb] at this;generalize fr.get d=v at this;cases this;simp only [fe] at hg;exact hg
      . rename_i l hb;have:=k.slot d;rw [hb] at this;generalize fr.get d=v at this;cases this;simp only [fe] at hg;exact hg
      . simp at hg
    . simp at hg
def Left (GL:List (Nat×List Value)) (A:Nat->Prop) (β:Bx) (s:CS) (N:Nat) (fr':Fr) (s':CS) (h':Nat->T) (S':TS):Prop :=
  ∃ A' β',FrOk A' β' (zaa s'.obj) N h' fr'/\TRel GL A' β' S' s'/\Stp A β s A' β' s'
theorem Left.trans {N:Nat} {fr' fr2:Fr} {h' h2:Nat->T} {S2:TS} (hl:s.lim<=s.n) (hS:Stp A β s A' β' s') (k:Left GL A' β' s' N fr2 s2 h2 S2):Left GL A β s N fr2 s2 h2 S2:=by
  obtain ⟨A2,β2,k1,k2,k3⟩:=k;exact ⟨A2,β2,k1,k2,hS.trans hl k3⟩
theorem z35 (hE:zeb P Γ) {own:List Nat} {ops:List Oper} {N:Nat}:∀ {l:List Oper} {h h':Nat->T} {S S':TS} {outs:List (T×TS)} {ob:Prop} {A:Nat->Prop} {β:Bx} {fr:Fr} {s:CS},zfb N l=true->FrOk A β (zaa s.obj) N h fr->TRel GL A β S s->runT P Γ GL own ops l h S outs=some (ob,h',S')->ob ->
    ∃ fr' s',runC P Γ (zej P Γ) ops l fr s=some (fr',s')/\Left GL A β s N fr' s' h' S'
  |[],h,h',S,S',outs,ob,A,β,fr,s,hd,hF,hT,hr,hob=>by
    simp only [runT,fe,fm] at hr;obtain ⟨rfl,rfl,rfl⟩:=hr;exact ⟨fr,s,rfl,A,β,hF,hT,rp⟩
  |o :: l,h,h',S,S',outs,ob,A,β,fr,s,hd,hF,hT,hr,hob=>by
    have hd':zfb N l=true/\∀ t,o.dst=some t->t<N:=by
      unfold zfb at hd ⊢;rw [jn,fj] at hd;refine ⟨hd.2,fun t ht=>?_⟩;have:=hd.1;rw [ht] at this;exact zad.1 this
    -- one step that is done
    have go:∀ {t:T} {S1:TS} {r:Option (Value×CS)} {l':List (T×TS)} {ob':Prop},Ok GL A β s r t S1->(cop P Γ (zej P Γ) (zg6 fr) o s=r)->zc8 ops fr o=true->runT P Γ GL own ops l (putT h o.dst t) S1 l'=some (ob',h',S')->ob'->∃ fr' s',runC P Γ (zej P Γ) ops (o :: l) fr s=some (fr',s')/\Left GL A β s N fr' s' h' S':=by
      rintro t S1 r l' ob' ⟨v,s1,A1,β1,rfl,k1,k2,k3⟩ hc hw hrun hob';have hF1:FrOk A1 β1 (zaa s1.obj) N h fr:=hF.mono k3.sub (k3.old hT) k3.bx;obtain ⟨fr',s',e1,e2⟩:=z35 hE hd'.1 (hF1.put hd'.2 k2) k1 hrun hob';refine ⟨fr',s',?_,Left.trans (h':=h) (fr':=fr) hT.le k3 e2⟩;rw [runC]
      have:zcs P Γ (zej P Γ) ops o fr s=some (putC fr o.dst v,s1):=by
        unfold zcs;rw [hw,cond_true,hc]
      rw [this];exact e1
    unfold runT at hr;split at hr
    . simp at hr
    . rename_i hg;have hw:=ziv hF hg;obtain ⟨fr',s',e1,e2⟩:=z35 hE hd'.1 (hF.put hd'.2 VT.undf) hT hr hob;refine ⟨fr',s',?_,e2⟩;rw [runC]
      have:zcs P Γ (zej P Γ) ops o fr s=some (putC fr o.dst undef,s):=by
        unfold zcs;rw [hw,cond_false]
      rw [this];exact e1
    . rename_i hg;have hw:=ziv hF hg;split at hr
      . rename_i f args tys ho;split at hr
        . rename_i r outs';split at hr
          . rename_i p hp;unfold z0a at hp;split at hp
            . rename_i k first cap hf
              simp only [fe] at hp;subst hp
              cases hrun:runT P Γ GL own ops l (putT h o.dst r.1) r.2 outs' with
              |none=>rw [hrun] at hr;simp [andT] at hr
              |some q =>
                obtain ⟨q1,q2,q3⟩:=q;rw [hrun] at hr;simp only [andT,fe,fm] at hr;obtain ⟨rfl,rfl,rfl⟩:=hr;have hfv:=hF.eval hT f;rw [hf] at hfv;generalize e1:zg6 fr f=vf at hfv
                cases hfv with
                |fn h1 h2 =>
                  rename_i va vc;have hargs:=zvf (hF.eval hT) args.toList;have hcall:=hob.1 A β s _ hT ((h1.append hargs).append h2);refine go hcall ?_ hw hrun hob.2;unfold cop;simp only [ho,e1];unfold zoh;rfl
            . simp at hp
          . simp at hr
        . simp at hr
      . split at hr
        . rename_i t S1 hst;exact go (zyw hE hT (hF.eval hT) hst) rfl hw hr hob
        . simp at hr
end
section
variable {GL:List (Nat×List Value)} {A A' A2:Nat->Prop} {β β' β2:Bx} {S S' S2:TS} {s s' s2:CS} {P:gn} {Γ:Env} {N:Nat} {h h' h2:Nat->T} {Q R:Exit->(Nat->T)->TS->Prop}
def TW (P:gn) (Γ:Env) (GL:List (Nat×List Value)) (N:Nat) (c:Code) (h:Nat->T) (S:TS) (Q:Exit->(Nat->T)->TS->Prop):Prop :=
  ∀ A β fr s,FrOk A β (zaa s.obj) N h fr->TRel GL A β S s->W P Γ c fr s fun e fr' s'=>∃ h' S',Left GL A β s N fr' s' h' S'/\Q e h' S'
def onT (k:(Nat->T)->TS->Prop) (Q:Exit->(Nat->T)->TS->Prop) (e:Exit) (h:Nat->T) (S:TS):Prop:=match e with
  |.normal=>k h S
  |e=>Q e h S
def onTB (id:Nat) (Q:Exit->(Nat->T)->TS->Prop) (e:Exit) (h:Nat->T) (S:TS):Prop:=match e with
  |.exit i=>bif fy i id then Q .normal h S else Q (.exit i) h S
  |e=>Q e h S
theorem Left.refl {fr:Fr} (hF:FrOk A β (zaa s.obj) N h fr) (hT:TRel GL A β S s):Left GL A β s N fr s h S:=⟨A,β,hF,hT,rp⟩
theorem TW.mono {c:Code} (k:TW P Γ GL N c h S Q) (hq:∀ e h S,Q e h S->R e h S):TW P Γ GL N c h S R:=fun A β fr s hF hT =>
  (k A β fr s hF hT).mono fun e fr' s' ⟨h',S',h1,h2⟩=>⟨h',S',h1,hq _ _ _ h2⟩
theorem TW.skip (k:Q .normal h S):TW P Γ GL N .skip h S Q:=fun A β fr s hF hT=>W.skip ⟨h,S,Left.refl hF hT,k⟩
theorem TW.ret (k:Q .ret h S):TW P Γ GL N .ret h S Q:=fun A β fr s hF hT=>W.ret ⟨h,S,Left.refl hF hT,k⟩
theorem TW.exit {id:Nat} (k:Q (.exit id) h S):TW P Γ GL N (.exit id) h S Q:=fun A β fr s hF hT=>W.exit ⟨h,S,Left.refl hF hT,k⟩
theorem TW.label {l:Nat} (k:Q .normal h S):TW P Γ GL N (.label l) h S Q:=fun A β fr s hF hT=>W.label ⟨h,S,Left.refl hF hT,k⟩
theorem TW.seq {a b:Code} (k:TW P Γ GL N a h S (onT (fun h S=>TW P Γ GL N b h S Q) Q)):TW P Γ GL N (.seq a b) h S Q:=fun A β fr s hF hT=>by
  refine W.seq ((k A β fr s hF hT).mono ?_);rintro e fr' s' ⟨h',S',⟨A',β',k1,k2,k3⟩,hq⟩
  cases e with
  |normal =>
    refine (hq A' β' fr' s' k1 k2).mono ?_;rintro e2 fr2 s2 ⟨h2,S2,l2,q2⟩;exact ⟨h2,S2,Left.trans (h':=h) (fr':=fr) hT.le k3 l2,q2⟩
  |_=>exact ⟨h',S',⟨A',β',k1,k2,k3⟩,hq⟩
theorem TW.cond {c:f7} {t f:Code} {b:Bool} (hb:zde GL h c=.bool b) (k:TW P Γ GL N (bif b then t else f) h S Q):TW P Γ GL N (.cond c t f) h S Q:=fun A β fr s hF hT=>by
  have:=hF.eval hT c;rw [hb] at this;refine W.cond (b:=b) ?_ (k A β fr s hF hT);generalize zg6 fr c=v at this;cases this;rfl
theorem TW.block {id:Nat} {b:Code} (k:TW P Γ GL N b h S (onTB id Q)):TW P Γ GL N (.block id b) h S Q:=fun A β fr s hF hT=>by
  refine W.block ((k A β fr s hF hT).mono ?_);rintro e fr' s' ⟨h',S',l,hq⟩
  cases e with
  |exit i =>
    simp only [onB];simp only [onTB] at hq
    cases hb:fy i id with
    |true=>rw [hb] at hq;exact ⟨h',S',l,hq⟩
    |false=>rw [hb] at hq;exact ⟨h',S',l,hq⟩
  |_=>exact ⟨h',S',l,hq⟩
theorem TW.scope {b:Code} (k:TW P Γ GL N b h S Q):TW P Γ GL N (.scope b) h S Q:=fun A β fr s hF hT=>W.scope (k A β fr s hF hT)
theorem TW.loop {b:Code} (I:Nat->(Nat->T)->TS->Prop) (hb:∀ n h S,I n h S->TW P Γ GL N b h S (onT (fun h S=>∃ m,m<n/\I m h S) Q)):∀ n h S,I n h S->TW P Γ GL N (.loop b) h S Q:=by
  intro n
  induction n using Nat.strongRecOn with
  |_ n ih =>
    intro h S hI A β fr s hF hT;obtain ⟨e,fr1,s1,h1,h',S',⟨A',β',k1,k2,k3⟩,hq⟩:=hb n h S hI A β fr s hF hT
    cases e with
    |normal =>
      obtain ⟨m,hm,hI'⟩:=hq;obtain ⟨e2,fr2,s2,h3,h2,S2,l2,q2⟩:=ih m hm h' S' hI' A' β' fr1 s1 k1 k2;exact ⟨e2,fr2,s2,Ev.again h1 h3,h2,S2,Left.trans (h':=h) (fr':=fr) hT.le k3 l2,q2⟩
    |_=>exact ⟨_,_,_,Ev.last h1 (by simp),h',S',⟨A',β',k1,k2,k3⟩,hq⟩
theorem TW.region (hE:zeb P Γ) {id:Nat} {ops:Array Oper} (own:List Nat) (outs:List (T×TS)) {ob:Prop} (hd:zfb N ops.toList=true) (hr:runT P Γ GL own ops.toList ops.toList h S outs=some (ob,h',S')) (hob:ob) (hq:Q .normal h' S'):TW P Γ GL N (.region id ops false) h S Q:=fun A β fr s hF hT=>by
  obtain ⟨fr',s',e1,e2⟩:=z35 hE hd hF hT hr hob;exact W.region e1 ⟨h',S',e2,hq⟩
def resT (Γ:Env) (S:TS) (h:Nat->T):List ResultVar->Option (List T)
  |[]=>some []
  |.tmp t :: l=>(match resT Γ S h l with|some vs=>some (h t :: vs)|none=>none)
  |.cell a ty :: l=>(match zs8 Γ S ty (h a),resT Γ S h l with|some v,some vs=>some (v :: vs)|_,_=>none)
def tupT:List T->T
  |[v]=>v
  |vs=>.tup vs
theorem zza:∀ {l:List ResultVar} {vs:List T} {fr:Fr} {s:CS},FrOk A β (zaa s.obj) N h fr->TRel GL A β S s->resT Γ S h l=some vs->∃ ws s',resC Γ fr s l=some (ws,s')/\VL A β (zaa s.obj) vs ws/\TRel GL A β S s'/\Stp A β s A β s'/\s'.obj=s.obj
  |[],vs,fr,s,hF,hT,hr=>by
    simp only [resT,fe] at hr;subst hr;exact ⟨[],s,rfl,.nil,hT,rp,rfl⟩
  |.tmp t :: l,vs,fr,s,hF,hT,hr=>by
    simp only [resT] at hr;split at hr
    . rename_i vs' hv;cases hr;obtain ⟨ws,s',k1,k2,k3,k4,k5⟩:=zza hF hT hv;exact ⟨_,s',by simp only [resC,k1],.cons (hF.slot t) k2,k3,k4,k5⟩
    . simp at hr
  |.cell a ty :: l,vs,fr,s,hF,hT,hr=>by
    simp only [resT] at hr;split at hr
    . rename_i v vs' hv hvs;cases hr;obtain ⟨ad,i,w,f,q1,q2,q3,q4,q5⟩:=z5u hT (hF.slot a) hv;obtain ⟨ws,s',k1,k2,k3,k4,k5⟩:=zza (s:={ s with rd:=ins s.lim s.rd f }) hF (hT.read f) hvs;refine ⟨w :: ws,s',?_,.cons q5 k2,k3,(Stp.read q3).trans hT.le k4,k5⟩;simp only [resC,q1,q2,q4,k1]
    . simp at hr
def argT:List T->Nat->(Nat->T)->(Nat->T)
  |[],_,h=>h
  |v :: l,i,h=>argT l (i+1) (tupd h i v)
theorem zno (v:T) (l:List T) (i:Nat) (h:Nat->T):argT (v :: l) i h=argT l (i+1) (tupd h i v):=rfl
theorem zql (i:Nat) (h:Nat->T):argT [] i h=h:=rfl
theorem z5h {g:Nat->Fam}:∀ {args:List T} {vargs:List Value} {i:Nat} {h:Nat->T} {fr:Fr},VL A β g args vargs->FrOk A β g N h fr->i+args.length<=N->FrOk A β g N (argT args i h) (Fr.ofArgs vargs i fr)
  |_,_,i,h,fr,.nil,hF,_=>hF
  |_,_,i,h,fr,.cons h1 h2,hF,hl=>by
    rw [gh] at hl;show FrOk A β g N (argT _ (i+1) _) (Fr.ofArgs _ (i+1) (fr.put i _));have hi:i<N:=by omega
    exact z5h (i:=i+1) h2 (hF.put (d:=some i) (fun t ht=>by cases ht;exact hi) h1) (by rw [Nat.add_right_comm];exact hl)
theorem FrOk.start {g:Nat->Fam} (hN:N<=512):FrOk A β g N (fun _=>.junk) ⟨N,Tr.all undef 9⟩:=⟨rfl,hN,fun t=>.junk _⟩
def zvz (GL:List (Nat×List Value)) (v:T) (S:TS) (v':T) (S':TS):Prop :=
  ∀ A β s w,TRel GL A β S s->VT A β (zaa s.obj) v w->∃ A' β',TRel GL A' β' S' s/\VT A' β' (zaa s.obj) v' w/\Stp A β s A' β' s
theorem zvz.refl (v:T) (S:TS):zvz GL v S v S:=fun A β s w hT hv=>⟨A,β,hT,hv,rp⟩
theorem yh2 {g:Nat->Fam} {vs:List T} {ws:List Value} (h:VL A β g vs ws):VT A β g (tupT vs) (tupC ws):=by
  cases h with
  |nil=>exact .tup .nil
  |cons h1 h2 =>
    cases h2 with
    |nil=>exact h1
    |cons h3 h4=>exact .tup (.cons h1 (.cons h3 h4))
theorem Call.go {f:mc} {fn:Func} {body:Code} {args:List T} {v:T} {Sf:TS} (N:Nat) (hax:Γ.ax f=none) (hf:Γ.fn.at f=some fn) (hb:fn.body=some body) (hn:fn.ntmps=N) (hN:N<=512) (hl:args.length<=N)
    (k:TW P Γ GL N body (argT args 0 fun _=>.junk) S fun e h' S'=>(e=.normal\/e=.ret)/\∃ vs,resT Γ S' h' fn.results.toList=some vs/\zvz GL (tupT vs) S' v Sf):Call P Γ GL f args S v Sf:=by
  intro A β s vargs hT hargs;obtain ⟨e,fr',s1,h1,h',S',⟨A',β',k1,k2,k3⟩,he,vs,hr,hsh⟩:=k A β _ s (z5h hargs (FrOk.start hN) (by omega)) hT;obtain ⟨ws,s2,r1,r2,r3,r4,r5⟩:=zza k1 k2 hr;rw [<- r5] at r2;obtain ⟨A2,β2,q1,q2,q3⟩:=hsh A' β' s2 _ r3 (yh2 r2);refine ⟨tupC ws,s2,A2,β2,?_,q1,q2,(k3.trans hT.le (r4.trans k2.le q3))⟩;have hlen:=hargs.len;exact zq9 hax hf hb (by omega) ⟨e,fr',s1,by rw [hn];exact h1,he,ws,r1,rfl⟩
end
mutual
def T.ids (n:Nat):T->Bool
  |.agg l=>T.idsL n l
  |.tup l=>T.idsL n l
  |.lst _ l=>T.idsL n l
  |.cp l=>T.idsL n l
  |.ptr b _ _=>ic b n
  |.arr b _ _ _ _ _=>ic b n
  |.mp b=>ic b n
  |.fn _ a c=>T.idsL n a && T.idsL n c
  |_=>true
def T.idsL (n:Nat):List T->Bool
  |[]=>true
  |t :: l=>T.ids n t && T.idsL n l
end
mutual
def T.flat:T->Bool
  |.agg l=>T.flatL l
  |.tup l=>T.flatL l
  |.int _ _=>true
  |.bool _=>true
  |.str _=>true
  |.nils=>true
  |.nilp=>true
  |.nilm=>true
  |.nilf=>true
  |.junk=>true
  |_=>false
def T.flatL:List T->Bool
  |[]=>true
  |t :: l=>T.flat t && T.flatL l
end
section
variable {GL:List (Nat×List Value)} {A A' A2:Nat->Prop} {β β' β2:Bx} {S S' S2:TS} {s s' s2:CS} {P:gn} {Γ:Env} {N:Nat} {h h' h2:Nat->T} {Q R:Exit->(Nat->T)->TS->Prop} {g g':Nat->Fam}
theorem zax {n:Nat}:∀ {l l2:List T},T.idsL n (l++l2)=(T.idsL n l && T.idsL n l2)
  |[],l2=>by simp [T.idsL]
  |t :: l,l2=>by simp only [gq,T.idsL,zax,Bool.and_assoc]
theorem ydw {n:Nat} {t:T} (h:t.ids n=true):T.idsL n t.cells=true:=by
  cases t<;>first|exact h | (simp only [jd,T.idsL,h,gc])
theorem zli {n:Nat}:∀ {l:List T},T.idsL n l=true->T.idsL n (l.flatMap jd)=true
  |[],_=>rfl
  |t :: l,h=>by
    simp only [T.idsL,fj] at h;rw [jb,zax,ydw h.1,zli h.2];rfl
theorem z7j {n:Nat}:∀ {l:List T},(∀ t,t∈l->t.ids n=true)->T.idsL n l=true
  |[],_=>rfl
  |t :: l,h=>by
    simp only [T.idsL,fj];exact ⟨h t (by simp),z7j fun t ht=>h t (by simp [ht])⟩
mutual
theorem VT.ids {n:Nat} (hβ:∀ b,b<n->β' b=β b):∀ {t:T} {v:Value},t.ids n=true->VT A β g t v->VT A β' g t v
  |_,_,_,.int k n=>.int k n
  |_,_,_,.bool b=>.bool b
  |_,_,_,.str b=>.str b
  |_,_,hi,.agg h=>.agg (VL.ids hβ hi h)
  |_,_,hi,.tup h=>.tup (VL.ids hβ hi h)
  |_,_,_,.lnil=>.lnil
  |_,_,hi,.lst h1 h2 h3 h4 h5 h6 h7 h8=>.lst h1 h2 (VL.ids hβ (zli hi) h3) h4 h5 h6 h7 h8
  |_,_,_,.nils=>.nils
  |_,_,_,.nilp=>.nilp
  |_,_,_,.nilm=>.nilm
  |_,_,_,.nilf=>.nilf
  |_,_,hi,.ptr h=>.ptr (by rw [hβ _ (zad.1 hi)];exact h)
  |_,_,hi,.ptrOld h h0 h1 h2=>.ptrOld (by rw [hβ _ (zad.1 hi)];exact h) h0 h1 h2
  |_,_,hi,.cp h1 h2 h3 h4=>.cp h1 h2 (VL.ids hβ hi h3) h4
  |_,_,hi,.arr h ht=>.arr (by rw [hβ _ (zad.1 hi)];exact h) ht
  |_,_,hi,.arrNil h=>.arrNil (by rw [hβ _ (zad.1 hi)];exact h)
  |_,_,hi,.arrOld h h0 h1 h2=>.arrOld (by rw [hβ _ (zad.1 hi)];exact h) h0 h1 h2
  |_,_,hi,.mp h=>.mp (by rw [hβ _ (zad.1 hi)];exact h)
  |_,_,hi,.mpOld h h2=>.mpOld (by rw [hβ _ (zad.1 hi)];exact h) h2
  |_,_,hi,.fn h1 h2=>by
    simp only [T.ids,fj] at hi;exact .fn (VL.ids hβ hi.1 h1) (VL.ids hβ hi.2 h2)
  |_,_,_,.junk v=>.junk v
  |_,_,_,.emp h1 h2 h3 h4=>.emp h1 h2 h3 h4
theorem VL.ids {n:Nat} (hβ:∀ b,b<n->β' b=β b):∀ {l:List T} {vs:List Value},T.idsL n l=true->VL A β g l vs->VL A β' g l vs
  |_,_,_,.nil=>.nil
  |_,_,hi,.cons h k=>by
    simp only [T.idsL,fj] at hi;exact .cons (VT.ids hβ hi.1 h) (VL.ids hβ hi.2 k)
end
mutual
theorem VT.flat:∀ {t:T} {v:Value},t.flat=true->VT A β g t v->VT A' β' g' t v
  |_,_,_,.int k n=>.int k n
  |_,_,_,.bool b=>.bool b
  |_,_,_,.str b=>.str b
  |_,_,hi,.agg h=>.agg (VL.flat hi h)
  |_,_,hi,.tup h=>.tup (VL.flat hi h)
  |_,_,_,.nils=>.nils
  |_,_,_,.nilp=>.nilp
  |_,_,_,.nilm=>.nilm
  |_,_,_,.nilf=>.nilf
  |_,_,_,.junk v=>.junk v
  |_,_,hi,.lnil=>by simp [T.flat] at hi
  |_,_,hi,.lst _ _ _ _ _ _ _ _=>by simp [T.flat] at hi
  |_,_,hi,.ptr _=>by simp [T.flat] at hi
  |_,_,hi,.ptrOld _ _ _ _=>by simp [T.flat] at hi
  |_,_,hi,.cp _ _ _ _=>by simp [T.flat] at hi
  |_,_,hi,.arr _ _=>by simp [T.flat] at hi
  |_,_,hi,.arrNil _=>by simp [T.flat] at hi
  |_,_,hi,.arrOld _ _ _ _=>by simp [T.flat] at hi
  |_,_,hi,.mp _=>by simp [T.flat] at hi
  |_,_,hi,.mpOld _ _=>by simp [T.flat] at hi
  |_,_,hi,.fn _ _=>by simp [T.flat] at hi
  |_,_,hi,.emp _ _ _ _=>by simp [T.flat] at hi
theorem VL.flat:∀ {l:List T} {vs:List Value},T.flatL l=true->VL A β g l vs->VL A' β' g' l vs
  |_,_,_,.nil=>.nil
  |_,_,hi,.cons h k=>by
    simp only [T.flatL,fj] at hi;exact .cons (VT.flat hi.1 h) (VL.flat hi.2 k)
end
def bx0:Bx:=fun _=>none
theorem zlw {f:Nat}:¬ Own bx0 f:=fun ⟨b,h⟩=>by rcases h with ⟨u,N,h⟩|h<;>simp [bx0] at h
theorem TRel.bare (hT:TRel GL A β S s) (A1:Nat->Prop) (h1:∀ f,A f->A1 f) (h2:∀ f,A1 f->f<s.n):TRel GL A1 bx0 ts0 s :=
  ⟨hT.inr,hT.inv,h2,fun f hf=>absurd hf zlw,fun b b' l l' f hb=>by simp [bx0] at hb,fun b _=>rfl,fun b z N l hb=>by simp [ts0] at hb,fun b l hb=>by simp [ts0] at hb,fun x hx=>⟨h1 _ (hT.glob x hx).1,(hT.glob x hx).2⟩⟩
def Pure (P:gn) (Γ:Env) (GL:List (Nat×List Value)) (f:mc) (args:List T) (v:T):Prop:=T.idsL 0 args=true/\v.ids 0=true/\Call P Γ GL f args ts0 v ts0
def zal (P:gn) (Γ:Env) (GL:List (Nat×List Value)) (f:mc) (args:List T) (S:TS) (v:T):Prop :=
  ∀ A β s vargs,TRel GL A β S s->VL A β (zaa s.obj) args vargs->Ok0 GL A β S s (zej P Γ f vargs s) v
theorem zal.call {f:mc} {args:List T} {v:T} (k:zal P Γ GL f args S v):Call P Γ GL f args S v S:=fun A β s vargs hT hv=>(k A β s vargs hT hv).ok
theorem Pure.call {f:mc} {args:List T} {v:T} (k:Pure P Γ GL f args v) (S:TS):zal P Γ GL f args S v:=by
  intro A β s vargs hT hv;obtain ⟨k1,k2,k3⟩:=k;have hT0:=hT.bare A (fun _ h=>h) hT.alt;obtain ⟨w,s',A',β',e1,e2,e3,e4⟩:=k3 A bx0 s vargs hT0 (VL.ids (n:=0) (fun b hb=>absurd hb (by omega)) k1 hv)
  have hc:zj1 A β s A' s':=by
    refine ⟨e4.can,e4.sub,fun f hf=>?_,fun f hf=>e4.keep f hf zlw,fun x hx=>?_,fun x hx=>?_⟩
    . rcases e4.new f hf with q|q|q
      . exact .inl q
      . exact .inr q
      . exact absurd q zlw
    . rcases e4.rd x hx with q|⟨q,q2⟩
      . exact .inl q
      . exact .inr ⟨q,.inl (q2.resolve_right zlw)⟩
    . rcases e4.wr x hx with q|⟨_,q⟩
      . exact q
      . exact absurd q zlw
  exact ⟨w,s',A',e1,hc.rel hT e2.inr e2.inv e2.alt,VT.ids (n:=0) (fun b hb=>absurd hb (by omega)) k2 e3,hc⟩
def yht (S:TS) (t t':T):Prop:=t=t'\/∃ b e off len cap N z l L,t=.arr b e off len cap N/\t'=.lst e L/\S.box b=.cells z N l/\0<e/\off+len*e<=N/\(l.drop off).take (len*e)=L.flatMap jd/\(∀ t,t∈L->t.cells.length=e)/\L.length=len/\len<=cap
def Lend (S:TS):List T->List T->Prop
  |[],[]=>True
  |t :: l,t' :: l'=>yht S t t'/\Lend S l l'
  |_,_=>False
theorem ygv (hT:TRel GL A β S s) {t t':T} {v:Value} (hi:t'.ids 0=true) (hl:yht S t t') (hv:VT A β (zaa s.obj) t v):VT (fun f=>A f\/Own β f) bx0 (zaa s.obj) t' v:=by
  rcases hl with rfl|⟨b,e,off,len,cap,N,z,l,L,rfl,rfl,hS,he,hN,hL,hs,hlen,hcap⟩
  . exact (VT.ids (n:=0) (β':=bx0) (fun b hb=>absurd hb (by omega)) hi hv).mono (fun _ h=>.inl h) (fun _ _=>rfl) (mf _)
  . rcases zhw hT hS hv with ⟨f,u,rfl,hb,htag⟩|⟨rfl,hb,rfl,rfl,rfl,rfl⟩
    . obtain ⟨hlN,hc⟩:=hT.cells b z N l hS;rcases hc with ⟨hb2,_,_⟩|⟨f',u',cs,rest,hb2,hz,hat,hvl,hone⟩
      . rw [hb] at hb2;simp at hb2
      rw [hb] at hb2;cases hb2;have hcl:=hvl.len
      have hrow:zbp (zaa s.obj f).rows u=some cs:=by
        rw [hat];show zbp ((u,cs) :: rest) u=some cs;unfold zbp;rw [ja];rfl
      have h1:VL A β (zaa s.obj) (L.flatMap jd) ((cs.drop off).take (len*e)):=by rw [<- hL];exact (hvl.drop off).take _
      have h2:VL (fun f=>A f\/Own β f) bx0 (zaa s.obj) (L.flatMap jd) ((cs.drop off).take (len*e)) :=
        (VL.ids (n:=0) (β':=bx0) (fun b hb=>absurd hb (by omega)) (zli hi) h1).mono (fun _ h=>.inl h) (fun _ _=>rfl) (mf _)
      have h3:((cs.drop off).take (len*e)).length=len*e:=by rw [ik,jf];omega
      have:=VT.lst (A:=fun f=>A f\/Own β f) (β:=bx0) (g:=zaa s.obj) (off:=off) (cap:=cap) (.inr (zc1 hb)) hrow h2 hs he (by rw [h3]) htag (by omega);rw [hlen] at this;exact this
    . have:L=[]:=ji hlen;subst this;exact .lnil
theorem yde (hT:TRel GL A β S s):∀ {l l':List T} {vs:List Value},T.idsL 0 l'=true->Lend S l l'->VL A β (zaa s.obj) l vs->VL (fun f=>A f\/Own β f) bx0 (zaa s.obj) l' vs
  |[],[],_,_,_,.nil=>.nil
  |t :: l,t' :: l',_,hi,hl,.cons h1 h2=>by
    simp only [T.idsL,fj] at hi;exact .cons (ygv hT hi.1 hl.1 h1) (yde hT hi.2 hl.2 h2)
  |[],_ :: _,_,_,hl,_=>hl.elim
  |_ :: _,[],_,_,hl,_=>hl.elim
theorem Pure.lend {f:mc} {args args':List T} {v:T} (k:Pure P Γ GL f args' v) (hl:Lend S args args') (hv:v.flat=true):zal P Γ GL f args S v:=by
  intro A β s vargs hT hva;obtain ⟨k1,k2,k3⟩:=k;have hA1:∀ f,(A f\/Own β f)->f<s.n:=fun f hf=>hf.elim (hT.alt f) fun h=>(hT.dis f h).1;have hT0:=hT.bare (fun f=>A f\/Own β f) (fun _ h=>.inl h) hA1;obtain ⟨w,s',A',β',e1,e2,e3,e4⟩:=k3 _ bx0 s vargs hT0 (yde hT k1 hl hva)
  have hc:zj1 A β s A s':=by
    refine ⟨e4.can,fun _ h=>h,fun f hf=>.inl hf,fun f hf=>e4.keep f hf zlw,fun x hx=>?_,fun x hx=>?_⟩
    . rcases e4.rd x hx with q|⟨q,q2⟩
      . exact .inl q
      . exact .inr ⟨q,q2.resolve_right zlw⟩
    . rcases e4.wr x hx with q|⟨_,q⟩
      . exact q
      . exact absurd q zlw
  exact ⟨w,s',A,e1,hc.rel hT e2.inr e2.inv (fun f hf=>gr (hT.alt f hf) e4.can.n),e3.flat hv,hc⟩
def bcut (β:Bx) (n:Nat):Bx:=fun b=>if b<n then β b else none
def zhv (n:Nat):Box->Bool
  |.gone=>true
  |.cells _ _ l=>T.idsL n l
  |.map l=>T.idsL n (l.map (·.1)) && T.idsL n (l.map (·.2))
def zrc (S1 Sf:TS):Prop:=Sf.n<=S1.n/\∀ b,Sf.box b=.gone\/(b<Sf.n/\Sf.box b=S1.box b/\zhv Sf.n (S1.box b)=true)
theorem TRel.cut (hT:TRel GL A β S s) (hk:zrc S S2):TRel GL A (bcut β S2.n) S2 s:=by
  have hat:∀ b,b<S2.n->bcut β S2.n b=β b:=fun b hb=>zAc hb
  have hsub:∀ b l,bcut β S2.n b=some l->β b=some l:=fun b l h=>by
    unfold bcut at h;split at h
    . exact h
    . simp at h
  have hown:∀ f,Own (bcut β S2.n) f->Own β f:=fun f ⟨b,hb⟩=>⟨b,hb.imp (fun ⟨u,N,h⟩=>⟨u,N,hsub _ _ h⟩) fun h=>hsub _ _ h⟩;refine ⟨hT.inr,hT.inv,hT.alt,fun f hf=>hT.dis f (hown f hf),fun b b' l l' f hb hb'=>hT.inj b b' l l' f (hsub _ _ hb) (hsub _ _ hb'),fun b hb=>zAd (by omega),fun b z N l hb=>?_,fun b l hb=>?_,hT.glob⟩
  . rcases hk.2 b with q|⟨q1,q2,q3⟩
    . rw [q] at hb;simp at hb
    . rw [q2] at hb;obtain ⟨c1,c2⟩:=hT.cells b z N l hb;rw [hb] at q3;refine ⟨c1,?_⟩;rcases c2 with ⟨d1,d2,d3⟩|⟨f,u,cs,rest,d1,d2,d3,d4,d5⟩
      . exact .inl ⟨by rw [hat b q1];exact d1,d2,d3⟩
      . exact .inr ⟨f,u,cs,rest,by rw [hat b q1];exact d1,d2,d3,VL.ids hat q3 d4,d5⟩
  . rcases hk.2 b with q|⟨q1,q2,q3⟩
    . rw [q] at hb;simp at hb
    . rw [q2] at hb;obtain ⟨r,es,c1,c2,c3,c4⟩:=hT.maps b l hb;rw [hb] at q3;simp only [zhv,fj] at q3;exact ⟨r,es,by rw [hat b q1];exact c1,c2,VL.ids hat q3.1 c3,VL.ids hat q3.2 c4⟩
theorem Call.enter {f:mc} {fn:Func} {body:Code} {args:List T} {v:T} {Sf:TS} (N:Nat) (hax:Γ.ax f=none) (hf:Γ.fn.at f=some fn) (hb:fn.body=some body) (hn:fn.ntmps=N) (hN:N<=512) (hl:args.length<=N) (hSf:S.n<=Sf.n) (hv:v.ids Sf.n=true)
    (k:TW P Γ GL N body (argT args 0 fun _=>.junk) S fun e h' S'=>(e=.normal\/e=.ret)/\∃ vs,resT Γ S' h' fn.results.toList=some vs/\∃ S1,zvz GL (tupT vs) S' v S1/\zrc S1 Sf):Call P Γ GL f args S v Sf:=by
  intro A β s vargs hT hargs;obtain ⟨e,fr',s1,h1,h',S',⟨A',β',k1,k2,k3⟩,he,vs,hr,S1,hsh,hkp⟩:=k A β _ s (z5h hargs (FrOk.start hN) (by omega)) hT;obtain ⟨ws,s2,r1,r2,r3,r4,r5⟩:=zza k1 k2 hr;rw [<- r5] at r2;obtain ⟨A2,β2,q1,q2,q3⟩:=hsh A' β' s2 _ r3 (yh2 r2);have hall:Stp A β s A2 β2 s2:=k3.trans hT.le (r4.trans k2.le q3);have hat:∀ b,b<Sf.n->bcut β2 Sf.n b=β2 b:=fun b hb=>zAc hb
  have hsub:∀ b l,bcut β2 Sf.n b=some l->β2 b=some l:=fun b l h=>by
    unfold bcut at h;split at h
    . exact h
    . simp at h
  refine ⟨tupC ws,s2,A2,bcut β2 Sf.n,?_,q1.cut hkp,q2.ids hat hv,hall.can,hall.sub,hall.new,fun f hf=>?_,hall.keep,fun b l hb=>?_,hall.rd,hall.wr⟩
  . have hlen:=hargs.len;exact zq9 hax hf hb (by omega) ⟨e,fr',s1,by rw [hn];exact h1,he,ws,r1,rfl⟩
  . obtain ⟨b,hb⟩:=hf;exact hall.own f ⟨b,hb.imp (fun ⟨u,N,h⟩=>⟨u,N,hsub _ _ h⟩) fun h=>hsub _ _ h⟩
  . obtain ⟨l',c1,c2⟩:=hall.bx b l hb
    have:b<S.n:=by
      by_cases hh:b<S.n
      . exact hh
      . rw [hT.next b (by omega)] at hb;simp at hb
    exact ⟨l',by rw [hat b (by omega)];exact c1,c2⟩
theorem zrc.none (S:TS):zrc S ts0:=⟨ir _,fun b=>.inl rfl⟩
theorem Pure.enter {f:mc} {fn:Func} {body:Code} {args:List T} {v:T} (N:Nat) (hax:Γ.ax f=none) (hf:Γ.fn.at f=some fn) (hb:fn.body=some body) (hn:fn.ntmps=N) (hN:N<=512) (hl:args.length<=N) (ha:T.idsL 0 args=true) (hv:v.ids 0=true)
    (k:TW P Γ GL N body (argT args 0 fun _=>.junk) ts0 fun e h' S'=>(e=.normal\/e=.ret)/\resT Γ S' h' fn.results.toList=some [v]):Pure P Γ GL f args v :=
  ⟨ha,hv,Call.enter N hax hf hb hn hN hl (fp _) hv (k.mono fun e h' S' ⟨h1,h2⟩=>⟨h1,[v],h2,S',zvz.refl _ _,zrc.none S'⟩)⟩
theorem Pure.enterN {f:mc} {fn:Func} {body:Code} {args:List T} {vs:List T} (N:Nat) (hax:Γ.ax f=none) (hf:Γ.fn.at f=some fn) (hb:fn.body=some body) (hn:fn.ntmps=N) (hN:N<=512) (hl:args.length<=N) (ha:T.idsL 0 args=true) (hv:(tupT vs).ids 0=true)
    (k:TW P Γ GL N body (argT args 0 fun _=>.junk) ts0 fun e h' S'=>(e=.normal\/e=.ret)/\resT Γ S' h' fn.results.toList=some vs):Pure P Γ GL f args (tupT vs) :=
  ⟨ha,hv,Call.enter N hax hf hb hn hN hl (fp _) hv (k.mono fun e h' S' ⟨h1,h2⟩=>⟨h1,vs,h2,S',zvz.refl _ _,zrc.none S'⟩)⟩
theorem TRel.dead (hT:TRel GL A β S s) {b:Nat} {l0:Loc} (hb:β b=some l0) (A':Nat->Prop) (hA:∀ f,A f->A' f) (hA2:∀ f,A' f->A f\/l0.fam=some f) :
    TRel GL A' (bnew β b .dead) (S.set b .gone) s/\Stp A β s A' (bnew β b .dead) s:=by
  have hse:bnew β b .dead b=some .dead:=zAc rfl;have hne:∀ b',b'≠b->bnew β b .dead b'=β b':=fun b' hb'=>zAd hb'
  have hle:Bx.le β (bnew β b .dead):=fun i x hx=>by
    by_cases hi:i=b
    . subst hi;exact ⟨.dead,hse,by cases x<;>simp [Loc.le]⟩
    . exact ⟨x,by rw [hne i hi];exact hx,Loc.le_refl x⟩
  have hfam:∀ f,l0.fam=some f->Own β f:=fun f hf=>by
    cases l0 with
    |live f' u N=>simp [om] at hf;subst hf;exact zc1 hb
    |map r=>simp [om] at hf;subst hf;exact zm1 hb
    |nil=>simp [om] at hf
    |dead=>simp [om] at hf
  have hown:∀ f,Own (bnew β b .dead) f->Own β f/\l0.fam≠some f:=fun f ⟨b',hb'⟩=>by
    by_cases hi:b'=b
    . subst hi;rw [hse] at hb';rcases hb' with ⟨u,N,hb'⟩|hb'<;>simp at hb'
    . rw [hne b' hi] at hb';refine ⟨⟨b',hb'⟩,fun hh=>hi ?_⟩;rcases hb' with ⟨u,N,hb'⟩|hb'
      . exact hT.inj b' b _ l0 f hb' hb rfl hh
      . exact hT.inj b' b _ l0 f hb' hb rfl hh
  have hblt:b<S.n:=by
    by_cases hh:b<S.n
    . exact hh
    . rw [hT.next b (by omega)] at hb;simp at hb
  refine ⟨⟨hT.inr,hT.inv,fun f hf=>?_,fun f hf=>?_,fun b1 b2 l1 l2 f h1 h2 h3 h4=>?_,fun b' hb'=>?_,fun b' z N l hb'=>?_,fun b' l hb'=>?_,fun x hx=>⟨hA _ (hT.glob x hx).1,(hT.glob x hx).2⟩⟩,
    jp _,hA,fun f hf=>(hA2 f hf).imp id fun q=>.inr (hfam f q),fun f hf=>.inl (hown f hf).1,fun _ _ _=>rfl,hle,fun _ h=>.inl h,fun _ h=>.inl h⟩
  . rcases hA2 f hf with q|q
    . exact hT.alt f q
    . exact (hT.dis f (hfam f q)).1
  . obtain ⟨q1,q2⟩:=hown f hf;refine ⟨(hT.dis f q1).1,fun hh=>?_⟩;rcases hA2 f hh with q|q
    . exact (hT.dis f q1).2 q
    . exact q2 q
  . by_cases e1:b1=b
    . subst e1;rw [hse] at h1;cases h1;simp [om] at h3
    . by_cases e2:b2=b
      . subst e2;rw [hse] at h2;cases h2;simp [om] at h4
      . rw [hne b1 e1] at h1;rw [hne b2 e2] at h2;exact hT.inj b1 b2 l1 l2 f h1 h2 h3 h4
  . have:S.n<=b':=hb';rw [hne b' (by omega)];exact hT.next b' this
  . by_cases hi:b'=b
    . subst hi;rw [m6] at hb';simp at hb'
    . rw [nc _ _ hi] at hb';exact (hT.cells b' z N l hb').mono hA (fun _ _=>rfl) hle (hne b' hi) fun _ _ _ _=>rfl
  . by_cases hi:b'=b
    . subst hi;rw [m6] at hb';simp at hb'
    . rw [nc _ _ hi] at hb';exact (hT.maps b' l hb').mono hA (fun _ _=>rfl) hle (hne b' hi) fun _ _=>rfl
theorem TRel.freeze (hT:TRel GL A β S s) {b N:Nat} {z:Bool} {l:List T} (hS:S.box b=.cells z N l) :
    ∃ A' β',TRel GL A' β' (S.set b .gone) s/\Stp A β s A' β' s/\∀ {e off len cap:Nat} {v:Value} {L:List T},VT A β (zaa s.obj) (.arr b e off len cap N) v->0<e->off+len*e<=N->(l.drop off).take (len*e)=L.flatMap jd->(∀ t,t∈L->t.cells.length=e)->L.length=len->len<=cap->VT A' β' (zaa s.obj) (.lst e L) v:=by
  obtain ⟨hlN,hc⟩:=hT.cells b z N l hS;rcases hc with ⟨hb,hN,_⟩|⟨f,u,cs,rest,hb,hz,hat,hvl,hone⟩
  . obtain ⟨k1,k2⟩:=hT.dead hb A (fun _ h=>h) (fun _ h=>.inl h);refine ⟨_,_,k1,k2,fun {e off len cap v L} hv he hoff hL hs hlen hcap=>?_⟩;rcases zhw hT hS hv with ⟨f,u,rfl,hb',_⟩|⟨rfl,_,rfl,rfl,rfl,_⟩
    . rw [hb] at hb';simp at hb'
    . have:L=[]:=ji hlen;subst this;exact .lnil
  . obtain ⟨k1,k2⟩:=hT.dead hb (fun k=>A k\/k=f) (fun _ h=>.inl h) (fun k hk=>hk.imp id fun q=>by rw [q];rfl);refine ⟨_,_,k1,k2,fun {e off len cap v L} hv he hoff hL hs hlen hcap=>?_⟩;rcases zhw hT hS hv with ⟨f',u',rfl,hb',htag⟩|⟨rfl,hb',_⟩
    . rw [hb] at hb';cases hb';have hcl:=hvl.len
      have hrow:zbp (zaa s.obj f).rows u=some cs:=by
        rw [hat];show zbp ((u,cs) :: rest) u=some cs;unfold zbp;rw [ja];rfl
      have h1:VL A β (zaa s.obj) (L.flatMap jd) ((cs.drop off).take (len*e)):=by rw [<- hL];exact (hvl.drop off).take _
      have h3:((cs.drop off).take (len*e)).length=len*e:=by rw [ik,jf];omega
      have:=VT.lst (A:=fun k=>A k\/k=f) (β:=bnew β b .dead) (g:=zaa s.obj) (off:=off) (cap:=cap) (.inr rfl) hrow (h1.mono (fun _ h=>.inl h) (fun _ _=>rfl) k2.bx) hs he (by rw [h3]) htag (by omega);rw [hlen] at this;exact this
    . rw [hb] at hb';simp at hb'
theorem TW.freeze {c:Code} (t:Nat) {b e off len cap M:Nat} {z:Bool} {l:List T} (L:List T) (ht:h t=.arr b e off len cap M) (hS:S.box b=.cells z M l) (he:0<e) (hoff:off+len*e<=M) (hL:(l.drop off).take (len*e)=L.flatMap jd) (hs:∀ t,t∈L->t.cells.length=e) (hlen:L.length=len) (hcap:len<=cap)
    (k:TW P Γ GL N c (tupd h t (.lst e L)) (S.set b .gone) Q):TW P Γ GL N c h S Q:=by
  intro A β fr s hF hT;obtain ⟨A',β',k1,k2,k3⟩:=hT.freeze hS;have hv:=hF.slot t;rw [ht] at hv
  have hF':FrOk A' β' (zaa s.obj) N (tupd h t (.lst e L)) fr:=⟨hF.nt,hF.le,fun u=>by
    by_cases hu:u=t
    . subst hu;rw [zhf];exact k3 hv he hoff hL hs hlen hcap
    . rw [zln _ _ _ _ hu];exact k2.vt hT (hF.slot u)⟩
  refine (k A' β' fr s hF' k1).mono ?_;rintro e2 fr2 s2 ⟨h2,S2,l2,q2⟩;exact ⟨h2,S2,Left.trans (h':=h) (fr':=fr) hT.le k2 l2,q2⟩
theorem TW.vec {c:Code} (t e:Nat) (ht:h t=.nils) (k:TW P Γ GL N c (tupd h t (.arr S.n e 0 0 0 0)) (S.add (.cells false 0 [])) Q):TW P Γ GL N c h S Q:=by
  intro A β fr s hF hT;have hv:=hF.slot t;rw [ht] at hv;have hb0:β S.n=none:=hT.next _ (fp _)
  have hle:Bx.le β (bnew β S.n .nil):=z0c hb0;have hse:bnew β S.n .nil S.n=some .nil:=zAc rfl;have hne:∀ b',b'≠S.n->bnew β S.n .nil b'=β b':=fun b' hb'=>zAd hb'
  have hown:∀ f,Own (bnew β S.n .nil) f->Own β f:=fun f ⟨b',hb'⟩=>by
    by_cases hi:b'=S.n
    . subst hi;rw [hse] at hb';rcases hb' with ⟨u,N,hb'⟩|hb'<;>simp at hb'
    . rw [hne b' hi] at hb';exact ⟨b',hb'⟩
  have hst:Stp A β s A (bnew β S.n .nil) s:=⟨jp _,fun _ h=>h,fun _ h=>.inl h,fun f hf=>.inl (hown f hf),fun _ _ _=>rfl,hle,fun _ h=>.inl h,fun _ h=>.inl h⟩
  have hT':TRel GL A (bnew β S.n .nil) (S.add (.cells false 0 [])) s:=by
    refine ⟨hT.inr,hT.inv,hT.alt,fun f hf=>hT.dis f (hown f hf),fun b1 b2 l1 l2 f h1 h2 h3 h4=>?_,fun b' hb'=>?_,fun b' z N l hb'=>?_,fun b' l hb'=>?_,hT.glob⟩
    . by_cases e1:b1=S.n
      . subst e1;rw [hse] at h1;cases h1;simp [om] at h3
      . by_cases e2:b2=S.n
        . subst e2;rw [hse] at h2;cases h2;simp [om] at h4
        . rw [hne b1 e1] at h1;rw [hne b2 e2] at h2;exact hT.inj b1 b2 l1 l2 f h1 h2 h3 h4
    . have:S.n+1<=b':=hb';rw [hne b' (by omega)];exact hT.next b' (by omega)
    . by_cases hi:b'=S.n
      . subst hi;rw [TS.add_same] at hb';cases hb';exact ⟨rfl,.inl ⟨hse,rfl,rfl⟩⟩
      . rw [TS.add_ne _ _ hi] at hb';exact (hT.cells b' z N l hb').mono (fun _ h=>h) (fun _ _=>rfl) hle (hne b' hi) fun _ _ _ _=>rfl
    . by_cases hi:b'=S.n
      . subst hi;rw [TS.add_same] at hb';cases hb'
      . rw [TS.add_ne _ _ hi] at hb';exact (hT.maps b' l hb').mono (fun _ h=>h) (fun _ _=>rfl) hle (hne b' hi) fun _ _=>rfl
  have hF':FrOk A (bnew β S.n .nil) (zaa s.obj) N (tupd h t (.arr S.n e 0 0 0 0)) fr:=⟨hF.nt,hF.le,fun u=>by
    by_cases hu:u=t
    . subst hu;rw [zhf];generalize fr.get u=w at hv;cases hv;exact .arrNil hse
    . rw [zln _ _ _ _ hu];exact hst.vt hT (hF.slot u)⟩
  refine (k A _ fr s hF' hT').mono ?_;rintro e2 fr2 s2 ⟨h2,S2,l2,q2⟩;exact ⟨h2,S2,Left.trans (h':=h) (fr':=fr) hT.le hst l2,q2⟩
end
def zi1:Op->Bool
  |.move _=>true
  |.assign _=>true
  |.pick _ _ _=>true
  |.build _ _=>true
  |.makeFunc _ _ _=>true
  |.slice _ _ _ _ _=>true
  |.fieldAddr _ _ _=>true
  |.indexAddr _ _ _=>true
  |.index _ _ _=>true
  |.extract _ _=>true
  |.unOp _ _ _=>true
  |.binOp _ _ _ _ _=>true
  |_=>false
def zi8:Op->Bool
  |.alloc _=>true
  |.box _ _=>true
  |.buildSlice _ _ _=>true
  |.makeSlice _ _ _=>true
  |o=>zi1 o
section
variable {GL:List (Nat×List Value)} {A A' A0:Nat->Prop} {β β':Bx} {S S':TS} {s s' s2:CS} {P:gn} {Γ:Env} {N:Nat} {h h':Nat->T} {call:zed} {ρ:f7->Value} {o:Oper} {v:Value}
theorem zmz {r:Option Value} (hc:retC s r=some (v,s')):s'=s:=by
  unfold retC at hc;split at hc<;>first | (cases hc;rfl) | (simp at hc)
theorem zt2 {r:Option Value} (hc:zhp P ρ o s r=some (v,s')):s'=s:=by
  unfold zhp at hc;split at hc
  . cases hc;rfl
  . exact zmz hc
theorem z3m {r:Option (List Value)} (hc:aggC s r=some (v,s')):s'=s:=by
  unfold aggC at hc;split at hc<;>first | (cases hc;rfl) | (simp at hc)
theorem z2z {size:Nat} {ex:Bool} {a:Addr} {b:Option (Nat×Nat×Nat)} (hc:cutC s size ex a b=some (v,s')):s'=s:=by
  unfold cutC at hc;split at hc
  . rename_i l hh m
    cases hq:(fy (Addr.ver a % 1024) 0 || (!ex && fy (Addr.ver a % 1024) (size+1))) with
    |false=>rw [hq] at hc;simp at hc
    |true=>rw [hq] at hc;cases hc;rfl
  . simp at hc
theorem zu6 {d:nf} {a:Addr} {lo hi mx:Option Value} (hc:zoj Γ s d a lo hi mx=some (v,s')):s'=s:=by
  unfold zoj at hc;split at hc
  . split at hc
    . rw [zcl] at hc;split at hc
      . exact z2z hc
      . simp at hc
    . simp at hc
  . simp at hc
theorem z1j {t:gm} {x:Value} {lo hi mx:Option Value} (hc:zdj Γ s t x lo hi mx=some (v,s')):s'=s:=by
  unfold zdj at hc;split at hc
  . split at hc
    . rename_i b;split at hc
      . cases hq:mx.isNone with
        |false=>rw [hq] at hc;simp at hc
        |true =>
          rw [hq,cond_true] at hc;unfold z8d at hc;split at hc<;>first | (cases hc;rfl) | (simp at hc)
      . simp at hc
    . split at hc
      . split at hc
        . split at hc
          . split at hc<;>first | (cases hc;rfl) | (simp at hc)
          . simp at hc
        . split at hc
          . exact z2z hc
          . simp at hc
      . simp at hc
    . split at hc
      . split at hc
        . exact zu6 hc
        . simp at hc
      . exact zu6 hc
    . simp at hc
  . simp at hc
theorem zwk {size k n:Nat} {a:Addr} (hc:zvn s size k n a=some (v,s')):s'=s:=by
  unfold zvn at hc
  cases hq:ic k n with
  |false=>rw [hq] at hc;simp at hc
  |true=>rw [hq] at hc;cases hc;rfl
theorem zxf (hm:zi1 o.op=true) (hc:cop P Γ call ρ o s=some (v,s')):s'=s:=by
  obtain ⟨d,op,ty,pos,e,g⟩:=o;unfold cop at hc;simp only at hm hc
  cases op with
  |move x=>cases hc;rfl
  |assign x=>cases hc;rfl
  |pick c a b =>
    simp only at hc;unfold zw3 at hc
    split at hc<;>first | (cases hc;rfl) | (simp at hc)
  |build t parts =>
    simp only at hc;unfold zkn at hc;split at hc
    . split at hc
      . rename_i fs _;rw [zcl] at hc;split at hc
        . exact z3m hc
        . simp at hc
      . split at hc
        . exact z3m hc
        . simp at hc
      . simp at hc
    . simp at hc
  |makeFunc fn a b=>cases hc;rfl
  |slice t x lo hi mx=>exact z1j hc
  |fieldAddr t x k =>
    simp only at hc;unfold zd6 at hc;split at hc
    . split at hc
      . split at hc
        . split at hc
          . rename_i off size _
            cases hq:fy size 0 with
            |true=>rw [hq] at hc;simp at hc
            |false=>rw [hq] at hc;cases hc;rfl
          . simp at hc
        . simp at hc
      . simp at hc
    . simp at hc
  |indexAddr t x k =>
    simp only at hc;unfold zb8 at hc;split at hc
    . split at hc
      . split at hc
        . split at hc
          . exact zwk hc
          . simp at hc
        . simp at hc
      . split at hc
        . split at hc
          . exact zwk hc
          . simp at hc
        . simp at hc
      . simp at hc
    . simp at hc
  |index t x k =>
    simp only at hc;unfold zkm at hc;split at hc
    . split at hc
      . split at hc
        . split at hc
          . rw [Bool.cond_eq_ite] at hc;split at hc
            . exact zmz hc
            . simp at hc
          . simp at hc
        . simp at hc
      . split at hc
        . split at hc<;>first | (cases hc;rfl) | (simp at hc)
        . simp at hc
      . simp at hc
    . simp at hc
  |extract x k =>
    simp only at hc;unfold zin at hc;split at hc
    . exact zmz hc
    . simp at hc
  |unOp op t x=>exact zt2 hc
  |binOp op t x y t2 =>
    simp only at hc;unfold zmj at hc;split at hc
    . cases hc;rfl
    . exact zt2 hc
  |_=>simp [zi1] at hm
theorem zn1 {tag:Nat} {cs:List Value} {a:Addr} (hc:s.newRow tag cs=some (a,s')):s'.rd=s.rd/\s'.wr=s.wr:=by
  unfold CS.newRow at hc;rw [zcl] at hc;split at hc
  . cases hc;exact ⟨rfl,rfl⟩
  . simp at hc
theorem z6p {r:Option (Addr×CS)} (hr:∀ a t,r=some (a,t)->t.rd=s.rd/\t.wr=s.wr) (hc:ptrC r=some (v,s')):s'.rd=s.rd/\s'.wr=s.wr:=by
  unfold ptrC at hc;split at hc
  . cases hc;exact hr _ _ rfl
  . simp at hc
theorem zwn {l c:Nat} {r:Option (Addr×CS)} (hr:∀ a t,r=some (a,t)->t.rd=s.rd/\t.wr=s.wr) (hc:zhz l c r=some (v,s')):s'.rd=s.rd/\s'.wr=s.wr:=by
  unfold zhz at hc;split at hc
  . cases hc;exact hr _ _ rfl
  . simp at hc
theorem z4f (hm:zi8 o.op=true) (hc:cop P Γ call ρ o s=some (v,s')):s'.rd=s.rd/\s'.wr=s.wr:=by
  by_cases hq:zi1 o.op=true
  . rw [zxf hq hc];exact ⟨rfl,rfl⟩
  obtain ⟨d,op,ty,pos,e,g⟩:=o;unfold cop at hc;simp only at hm hc hq
  cases op with
  |alloc e =>
    simp only at hc;unfold zm6 at hc;split at hc
    . exact z6p (fun a t h=>zn1 h) hc
    . simp at hc
  |box e x=>exact z6p (fun a t h=>zn1 h) hc
  |buildSlice t n parts =>
    simp only at hc;unfold zcf at hc;split at hc
    . rename_i j _
      cases hb:(h9 (n*j.size) 16777216 && ic 0 j.size) with
      |false=>rw [hb] at hc;simp at hc
      |true =>
        rw [hb,cond_true] at hc;split at hc
        . exact zwn (fun a t h=>zn1 h) hc
        . simp at hc
    . simp at hc
  |makeSlice t l c =>
    simp only at hc;unfold ze6 at hc;split at hc
    . rename_i j l' c' _ _ _
      cases hb:(h9 l' c' && h9 (c'*(j.bytes+1)) 1000000000 && ic 0 j.size) with
      |false=>rw [hb] at hc;simp at hc
      |true =>
        rw [hb,cond_true] at hc;exact zwn (fun a t h=>zn1 h) hc
    . simp at hc
  |_=>simp_all [zi8,zi1]
def yoz (o:Oper) (x:Lg):Prop:=(zi1 o.op=true->x.rd=[]/\x.wr=[]/\x.lo=x.hi)/\(zi8 o.op=true->x.rd=[]/\x.wr=[])
theorem zsv {ops:List Oper}:∀ {l:List Oper} {fr fr':Fr} {s s':CS} {L:List Lg},drawC P Γ call ops l fr s=some (L,fr',s')->L.length=l.length/\∀ (j:Nat) (o:Oper) (x:Lg),l[j]?=some o->L[j]?=some x->yoz o x
  |[],fr,fr',s,s',L,hc=>by
    simp only [drawC,fe,fm] at hc;obtain ⟨rfl,_,_⟩:=hc;exact ⟨rfl,fun j o x hj=>by simp at hj⟩
  |o :: l,fr,fr',s,s',L,hc=>by
    simp only [drawC] at hc;split at hc
    . rename_i fr1 t h1;split at hc
      . rename_i logs fr2 s2 h2;cases hc;obtain ⟨i1,i2⟩:=zsv h2;refine ⟨by simp [i1],fun j o' x hj hx=>?_⟩
        cases j with
        |zero =>
          simp only [gz,fe] at hj hx;subst hj;subst hx;unfold zcs at h1
          cases hw:zc8 ops fr o with
          |false =>
            rw [hw] at h1;simp only [cond_false,fe,fm] at h1;rw [<- h1.2];exact ⟨fun _=>⟨rfl,rfl,rfl⟩,fun _=>⟨rfl,rfl⟩⟩
          |true =>
            rw [hw,cond_true] at h1;split at h1
            . rename_i v s1 hcop;cases h1;refine ⟨fun hm=>?_,fun hm=>?_⟩
              . rw [zxf hm hcop];exact ⟨rfl,rfl,rfl⟩
              . exact z4f hm hcop
            . simp at h1
        |succ j=>exact i2 j o' x (by simpa using hj) (by simpa using hx)
      . simp at hc
    . simp at hc
theorem zkc {ops:List Oper}:∀ {l m:List Oper} {fr fr1 fr2:Fr} {s s1 s2:CS} {L M:List Lg},drawC P Γ call ops l fr s=some (L,fr1,s1)->drawC P Γ call ops m fr1 s1=some (M,fr2,s2)->drawC P Γ call ops (l++m) fr s=some (L++M,fr2,s2)
  |[],m,fr,fr1,fr2,s,s1,s2,L,M,h1,h2=>by
    simp only [drawC,fe,fm] at h1;obtain ⟨rfl,rfl,rfl⟩:=h1;exact h2
  |o :: l,m,fr,fr1,fr2,s,s1,s2,L,M,h1,h2=>by
    simp only [drawC] at h1;simp only [gq,drawC];split at h1
    . rename_i fra t ha;split at h1
      . rename_i logs frb sb hb;cases h1;rw [zkc hb h2];rfl
      . simp at h1
    . simp at h1
theorem zya {m:Nat} {y:Lg}:∀ {done:List Lg} {i:Nat},(∀ j x,done[j]?=some x->i6 m (i+j)=true\/clash x y=false)->zid clash m y done i=true
  |[],_,_=>rfl
  |x :: l,i,h=>by
    have h0:i6 m i=true\/clash x y=false:=h 0 x rfl
    have ih:zid clash m y l (i+1)=true:=zya fun j z hz=>by
      have:=h (j+1) z (by simpa using hz);rw [show i+1+j=i+(j+1) by omega];exact this
    rcases h0 with h0|h0
    . rw [zu8 h0];exact ih
    . rw [zx9 h0];exact ih
theorem zob {ms:List Nat}:∀ {l done:List Lg},(∀ i j x y,i<j->done.length<=j->(done++l)[i]?=some x->(done++l)[j]?=some y->i6 (nth 0 ms j) i=true\/clash x y=false)->zgo clash done l ms=true
  |[],_,_=>rfl
  |y :: l,done,h=>by
    rw [znm,fj];refine ⟨zya fun j x hx=>?_,zob fun i j x z hij hd hx hz=>?_⟩
    . rw [i5];have hj:=(ge.1 hx).1;exact h j done.length x y hj (fp _) (by rw [gi hj];exact hx) (by simp)
    . rw [gj] at hx hz;rw [fx,ip] at hd;exact h i j x z hij (by omega) hx hz
theorem zud {ρ1 ρ2:f7->T} {l:List f7} (hρ:∀ x,x∈l->ρ1 x=ρ2 x):l.map ρ1=l.map ρ2:=List.map_congr_left hρ
theorem zqw {ρ1 ρ2:f7->T} {l:Option f7} (hρ:∀ x,l=some x->ρ1 x=ρ2 x):l.map ρ1=l.map ρ2:=by
  cases l with
  |none=>rfl
  |some x=>simp only [ov,hρ x rfl]
theorem zrr {place:Nat->Option (Nat×Nat)} {ρ1 ρ2:f7->T}:∀ {l:List (Nat×f7)},(∀ p,p∈l->ρ1 p.2=ρ2 p.2)->zbh place ρ1 l=zbh place ρ2 l
  |[],_=>rfl
  |(k,x) :: l,hρ=>by
    unfold zbh;rw [zrr fun p hp=>hρ p (by simp [hp]),hρ (k,x) (by simp)]
theorem zrz {e:Nat} {ρ1 ρ2:f7->T}:∀ {l:List (Nat×f7)} {i:Nat},(∀ p,p∈l->ρ1 p.2=ρ2 p.2)->zc7 e ρ1 i l=zc7 e ρ2 i l
  |[],_,_=>rfl
  |(k,x) :: l,i,hρ=>by
    unfold zc7;rw [zrz fun p hp=>hρ p (by simp [hp]),hρ (k,x) (by simp)]
theorem z3w {ρ1 ρ2:f7->T} (hρ:∀ x,x∈o.op.operands.toList->ρ1 x=ρ2 x):zgm P Γ ρ1 o S=zgm P Γ ρ2 o S:=by
  obtain ⟨d,op,ty,pos,e,g⟩:=o;simp only at hρ;unfold zgm
  cases op with
  |move x=>simp only [hρ x (by simp [gw])]
  |assign x=>simp only [hρ x (by simp [gw])]
  |pick c a b=>simp only [hρ c (by simp [gw]),hρ a (by simp [gw]),hρ b (by simp [gw])]
  |build t parts =>
    have hp:∀ p,p∈parts.toList->ρ1 p.2=ρ2 p.2:=fun p hp=>hρ p.2 (by simp [gw];exact ⟨p.1,by simpa using hp⟩)
    simp only [zj2,zrr hp]
  |buildSlice t n parts =>
    have hp:∀ p,p∈parts.toList->ρ1 p.2=ρ2 p.2:=fun p hp=>hρ p.2 (by simp [gw];exact ⟨p.1,by simpa using hp⟩)
    simp only [zam,zrz hp]
  |load t x=>simp only [hρ x (by simp [gw])]
  |makeFunc fn first captured =>
    have h1:first.toList.map ρ1=first.toList.map ρ2:=zud fun x hx=>hρ x (by simp [gw];left;simpa using hx)
    have h2:captured.toList.map ρ1=captured.toList.map ρ2:=zud fun x hx=>hρ x (by simp [gw];right;simpa using hx)
    simp only [h1,h2]
  |slice t x lo hi mx =>
    have h1:lo.map ρ1=lo.map ρ2:=zqw fun y hy=>hρ y (by simp [gw,hy]);have h2:hi.map ρ1=hi.map ρ2:=zqw fun y hy=>hρ y (by simp [gw,hy]);have h3:mx.map ρ1=mx.map ρ2:=zqw fun y hy=>hρ y (by simp [gw,hy])
    simp only [hρ x (by simp [gw]),h1,h2,h3]
  |fieldAddr t x k=>simp only [hρ x (by simp [gw])]
  |indexAddr t x ix=>simp only [hρ x (by simp [gw]),hρ ix (by simp [gw])]
  |index t x ix=>simp only [hρ x (by simp [gw]),hρ ix (by simp [gw])]
  |extract x k=>simp only [hρ x (by simp [gw])]
  |unOp op t x=>simp only [hρ x (by simp [gw])]
  |convert src dst x=>simp only [hρ x (by simp [gw])]
  |binOp op t x y t2=>simp only [hρ x (by simp [gw]),hρ y (by simp [gw])]
  |call c =>
    obtain ⟨cal,args,tys⟩:=c
    cases cal with
    |builtin b =>
      have ha:∀ x,x∈args.toList->ρ1 x=ρ2 x:=fun x hx=>hρ x (by simp [gw,r9];simpa using hx);simp only;unfold zml
      cases b with
      |len =>
        simp only;split
        . rename_i x t e1 e2;rw [ha x (by rw [e1];simp)]
        . rfl
      |min =>
        simp only;split
        . rename_i x y e1;rw [ha x (by rw [e1];simp),ha y (by rw [e1];simp)]
        . rfl
      |max =>
        simp only;split
        . rename_i x y e1;rw [ha x (by rw [e1];simp),ha y (by rw [e1];simp)]
        . rfl
      |_=>rfl
    |_=>rfl
  |_=>rfl
end
def z5g (P:gn) (Γ:Env) (GL:List (Nat×List Value)) (S:TS) (args:List T) (f:T) (r:T):Option Prop:=match f with
  |.fn k first cap=>some (zal P Γ GL k (first++args++cap) S r)
  |_=>none
def andP (p:Prop):Option (Prop×(Nat->T))->Option (Prop×(Nat->T))
  |some (q,h)=>some (p/\q,h)
  |none=>none
def runP (P:gn) (Γ:Env) (GL:List (Nat×List Value)) (ops:List Oper):List Oper->(Nat->T)->TS->List T->Option (Prop×(Nat->T))
  |[],h,_,_=>some (True,h)
  |o :: l,h,S,outs=>match ziw ops h o.guard with
    |none=>none
    |some false=>runP P Γ GL ops l (putT h o.dst (.tup [])) S outs
    |some true=>match o.op with
      |.call ⟨.value f,args,tys⟩=>(match outs with
        |r :: outs=>(match z5g P Γ GL S (args.toList.map (zde GL h)) (zde GL h f) r with
          |some p=>andP p (runP P Γ GL ops l (putT h o.dst r) S outs)
          |none=>none)
        |[]=>none)
      |_=>(match zgm P Γ (zde GL h) o S with
        |some t=>runP P Γ GL ops l (putT h o.dst t) S outs
        |none=>none)
def ykf (ops:List Oper) (x y:Oper):Bool:=match x.dst with|some d=>has (zff ops y) d|none=>false
def zwe:Nat->List Oper->List (Bool×Oper)
  |_,[]=>[]
  |0,o :: l=>(true,o) :: zwe 0 l
  |k+1,o :: l=>(false,o) :: zwe k l
def ydh (x y:Bool×Oper):Bool:=y.1 && !(zi1 x.2.op || zi8 y.2.op)
def zsd (m:Nat):List Nat->Nat->Bool
  |[],_=>true
  |x :: l,i=>(!Nat.testBit m i || fy (Nat.land x m) x) && zsd m l (i+1)
def zjy (k:Nat) (ops:List Oper):Bool :=
  zgo (ykf ops) [] ops (zdn ops []) && (zgo ydh [] (zwe k ops) (zdn ops []) && (zdn ops []).all fun m=>zsd m (zdn ops []) 0)
theorem zs4 {m:Nat}:∀ {l:List Nat} {i:Nat},zsd m l i=true->∀ j,j<l.length->i6 m (i+j)=true->∀ b,i6 (nth 0 l j) b=true->i6 m b=true
  |[],_,_,j,hj,_,_,_=>by simp at hj
  |x :: l,i,h,j,hj,ht,b,hb=>by
    simp only [zsd,fj] at h
    cases j with
    |zero =>
      have h1:=h.1;rw [show i6 m i=true from ht] at h1;simp only [iv,Bool.false_or] at h1;have h2:x &&& m=x:=fl h1;have h3:i6 x b=true:=hb;rw [<- h2,lq,fj] at h3;exact h3.2
    |succ j=>exact zs4 h.2 j (by simpa using hj) (by rw [show i+1+j=i+(j+1) by omega];exact ht) b hb
theorem z10:∀ (l:List Oper) (ms:List Nat),(zdn l ms).length=ms.length+l.length
  |[],ms=>by simp [zdn]
  |o :: l,ms=>by
    simp only [zdn];rw [z10 l];simp only [fx,gh,je];omega
theorem znt:∀ {k:Nat} {ops:List Oper} {i:Nat} {o:Oper},ops[i]?=some o->(zwe k ops)[i]?=some (decide (k<=i),o)
  |_,[],i,o,h=>by simp at h
  |0,x :: l,i,o,h=>by
    cases i with
    |zero=>simp only [gz,fe] at h;subst h;rfl
    |succ i =>
      have:=znt (k:=0) (ops:=l) (i:=i) (by simpa using h)
      simpa [zwe] using this
  |k+1,x :: l,i,o,h=>by
    cases i with
    |zero=>simp only [gz,fe] at h;subst h;rfl
    |succ i =>
      have:=znt (k:=k) (ops:=l) (i:=i) (by simpa using h);simpa [zwe] using this
section
variable {GL:List (Nat×List Value)} {A A' A0:Nat->Prop} {β β':Bx} {S S':TS} {s s0 s' s2:CS} {P:gn} {Γ:Env} {N:Nat} {h h':Nat->T}
theorem z93 {k:Nat} {ops:List Oper} (hd:zjy k ops=true) {i j:Nat} {x y:Oper} (hij:i<j) (hx:ops[i]?=some x) (hy:ops[j]?=some y) {d:Nat} (hxd:x.dst=some d) (hdy:d∈zff ops y):i6 (nth 0 (zdn ops []) j) i=true:=by
  unfold zjy at hd;simp only [fj] at hd;rcases zf7 hd.1 i j x y hij (ir _) (by simpa using hx) (by simpa using hy) with q|q
  . exact q
  . unfold ykf at q;rw [hxd] at q;simp only at q;rw [zt9 hdy] at q;simp at q
theorem z48 {k:Nat} {ops:List Oper} (hd:zjy k ops=true) {i j:Nat} {x y:Oper} (hij:i<j) (hkj:k<=j) (hx:ops[i]?=some x) (hy:ops[j]?=some y):i6 (nth 0 (zdn ops []) j) i=true\/zi1 x.op=true\/zi8 y.op=true:=by
  unfold zjy at hd;simp only [fj] at hd;rcases zf7 hd.2.1 i j _ _ hij (ir _) (by simpa using znt hx) (by simpa using znt hy) with q|q
  . exact .inl q
  . unfold ydh at q;rw [zAa hkj] at q;simp only [jy,Bool.not_eq_false',Bool.or_eq_true] at q;exact .inr q
theorem z2w {k:Nat} {ops:List Oper} (hd:zjy k ops=true) {j i b:Nat} (hj:j<ops.length) (hi:i<ops.length) (h1:i6 (nth 0 (zdn ops []) j) i=true) (h2:i6 (nth 0 (zdn ops []) i) b=true):i6 (nth 0 (zdn ops []) j) b=true:=by
  unfold zjy at hd;simp only [fj] at hd;have hl:=z10 ops [];simp only [je,i5] at hl
  have hm:nth 0 (zdn ops []) j∈zdn ops []:=by
    have key:∀ (l:List Nat) (j:Nat),j<l.length->nth 0 l j∈l:=by
      intro l
      induction l with
      |nil=>intro j hj;simp at hj
      |cons x l ih =>
        intro j hj
        cases j with
        |zero=>exact List.mem_cons_self
        |succ j=>exact List.mem_cons_of_mem _ (ih j (by simpa using hj))
    exact key _ j (by omega)
  have:=ib.1 hd.2.2 _ hm;exact zs4 this i (by omega) (by rw [i5];exact h1) b h2
def SupL (A0:Nat->Prop) (L:List Lg) (D:Nat) (f:Nat):Prop:=A0 f\/∃ (m:Nat) (x:Lg),i6 D m=true/\L[m]?=some x/\x.lo<=f/\f<x.hi
theorem SupL.more {L M:List Lg} {D E:Nat} (hD:∀ m,m<L.length->i6 D m=true->i6 E m=true) {f:Nat} (k:SupL A0 L D f):SupL A0 (L++M) E f:=by
  rcases k with k|⟨m,x,h1,h2,h3⟩
  . exact .inl k
  . have hm:=(ge.1 h2).1;exact .inr ⟨m,x,hD m hm h1,by rw [gi hm];exact h2,h3⟩
theorem SupL.sub {L:List Lg} {D E:Nat} (hD:∀ m,m<L.length->i6 D m=true->i6 E m=true) {f:Nat} (k:SupL A0 L D f):SupL A0 L E f:=by
  have:=SupL.more (M:=[]) hD k;simpa using this
structure zqo (GL:List (Nat×List Value)) (ops:List Oper) (A0:Nat->Prop) (β:Bx) (S:TS) (s0:CS) (N:Nat) (L:List Lg) (h:Nat->T) (fr:Fr) (s:CS):Prop where
  nt:fr.nt=N
  le:N<=512
  rel:TRel GL A0 β S s
  slot:∀ t,∃ D,VT (SupL A0 L D) β (zaa s.obj) (h t) (fr.get t)/\∀ (j:Nat) (o:Oper),L.length<=j->ops[j]?=some o->t∈zff ops o->∀ m,m<L.length->i6 D m=true->i6 (nth 0 (zdn ops []) j) m=true
  log:∀ (k:Nat) (x:Lg),L[k]?=some x->s0.n<=x.lo/\x.lo<=x.hi/\x.hi<=s.n/\x.wr=[]/\∀ f,f∈x.rd->f<x.lo/\(SupL A0 L (nth 0 (zdn ops []) k) f\/Own β f)
  apart:∀ (k m:Nat) (x y:Lg),k<m->L[k]?=some x->L[m]?=some y->x.hi<=y.lo
  own:∀ f,Own β f->f<s0.n
  base:∀ f,A0 f->f<s0.n
  calm:zj1 A0 β s0 A0 s
  lim:s0.lim<=s0.n
theorem TRel.more (hT:TRel GL A β S s) (A1:Nat->Prop) (h1:∀ f,A f->A1 f) (h2:∀ f,A1 f->f<s.n) (h3:∀ f,A1 f->¬ Own β f):TRel GL A1 β S s :=
  ⟨hT.inr,hT.inv,h2,fun f hf=>⟨(hT.dis f hf).1,fun hh=>h3 f hh hf⟩,hT.inj,hT.next,fun b z N l hb=>(hT.cells b z N l hb).mono h1 (fun _ _=>rfl) (mf _) rfl fun _ _ _ _=>rfl,
    fun b l hb=>(hT.maps b l hb).mono h1 (fun _ _=>rfl) (mf _) rfl fun _ _=>rfl,fun x hx=>⟨h1 _ (hT.glob x hx).1,(hT.glob x hx).2⟩⟩
theorem TRel.inner (hT:TRel GL A β S s):TRel GL A β S s.inner:=⟨hT.inr,⟨hT.inv.none,hT.inv.vers,fp _⟩,hT.alt,hT.dis,hT.inj,hT.next,hT.cells,hT.maps,hT.glob⟩
theorem TRel.outer (hT:TRel GL A β S s') (hl:s.lim<=s'.n):TRel GL A β S (s.outer s'):=⟨hT.inr,⟨hT.inv.none,hT.inv.vers,hl⟩,hT.alt,hT.dis,hT.inj,hT.next,hT.cells,hT.maps,hT.glob⟩
theorem zj1.trans (hl:s.lim<=s.n) (k1:zj1 A β s A s') (k2:zj1 A β s' A s2):zj1 A β s A s2:=by
  refine ⟨k1.can.trans k2.can,fun _ h=>h,fun _ h=>.inl h,fun f hf=>?_,fun x hx=>?_,fun x hx=>k1.wr x (k2.wr x hx)⟩
  . rw [k2.keep f (gr hf k1.can.n)];exact k1.keep f hf
  . rcases k2.rd x hx with q|⟨q,q2⟩
    . exact k1.rd x q
    . rw [k1.can.lim] at q;exact .inr ⟨q,q2⟩
theorem zqo.next {k0:Nat} {ops:List Oper} (hd:zjy k0 ops=true) {L:List Lg} {fr:Fr} {o:Oper} (I:zqo GL ops A0 β S s0 N L h fr s) (ho:ops[L.length]?=some o) (hdst:∀ t,o.dst=some t->t<N) {t:T} {v:Value} {s1:CS}
    (k1:TRel GL A' β S s1) (k2:VT A' β (zaa s1.obj) t v) (k3:zj1 (SupL A0 L (nth 0 (zdn ops []) L.length)) β s.inner A' s1) :
    zqo GL ops A0 β S s0 N (L++[⟨s1.rd,s1.wr,s.n,s1.n⟩]) (putT h o.dst t) (putC fr o.dst v) (s.outer s1):=by
  have hsn:s.n<=s1.n:=k3.can.n;have hln:L.length<ops.length:=(ge.1 ho).1;have h0n:s0.n<=s.n:=I.calm.can.n
  have hsup:∀ f D,SupL A0 L D f->f<s.n:=fun f D hf=>by
    rcases hf with q|⟨m,x,_,q2,_,q4⟩
    . have:=I.base f q;omega
    . have:=(I.log m x q2).2.2.1;omega
  have hA':∀ f,A' f->SupL A0 (L++[⟨s1.rd,s1.wr,s.n,s1.n⟩]) (nth 0 (zdn ops []) L.length ||| 2 ^ L.length) f:=fun f hf=>by
    rcases k3.new f hf with q|q
    . refine SupL.more (fun m hm hb=>?_) q;rw [oe,hb];rfl
    . refine .inr ⟨L.length,⟨s1.rd,s1.wr,s.n,s1.n⟩,?_,by simp,q,k1.alt f hf⟩;rw [oe,Nat.testBit_two_pow_self];simp
  have hobj:∀ f,f<s.n->zaa s1.obj f=zaa s.obj f:=fun f hf=>k3.keep f hf
  have hwr:s1.wr=[]:=by
    rw [List.eq_nil_iff_forall_not_mem];intro x hx;have:=k3.wr x hx;simp [sm] at this
  have hcal:zj1 A0 β s A0 (s.outer s1):=by
    refine ⟨zm2 I.rel.inv k3.can,fun _ h=>h,fun _ h=>.inl h,hobj,fun x hx=>?_,fun x hx=>?_⟩
    . rcases zn5 (l:=s1.rd) rfl x hx with q|⟨q,q2⟩
      . exact .inl q
      . refine .inr ⟨q2,?_⟩;have hxn:x<s0.n:=by have h1:=I.calm.can.lim;have h2:=I.lim;rw [h1] at q2;omega
        rcases k3.rd x q with q3|⟨_,q3⟩
        . simp [sm] at q3
        . rcases q3 with (q3|⟨m,y,_,q5,q6,_⟩)|q3
          . exact .inl q3
          . have:=(I.log m y q5).1;omega
          . exact .inr q3
    . rcases zn5 (l:=s1.wr) rfl x hx with q|⟨q,_⟩
      . exact q
      . rw [hwr] at q;simp at q
  have hrel:TRel GL A0 β S (s.outer s1):=hcal.rel I.rel k1.inr ⟨k1.inv.none,k1.inv.vers,by have:=I.rel.inv.lim;show s.lim<=s1.n;omega⟩ fun f hf=>by have:=I.rel.alt f hf;show f<s1.n;omega
  refine ⟨?_,I.le,hrel,fun t'=>?_,fun k x hx=>?_,fun k m x y hkm hx hy=>?_,I.own,I.base,?_,I.lim⟩
  . cases hd2:o.dst with
    |none=>exact I.nt
    |some d =>
      show (fr.put d v).nt=N;unfold Fr.put;rw [zcl];split<;>exact I.nt
  . by_cases ht':o.dst=some t'
    . rw [ht'];refine ⟨nth 0 (zdn ops []) L.length ||| 2 ^ L.length,?_,fun j o' hj ho' hn m hm hb=>?_⟩
      . show VT _ _ _ (tupd h t' t t') ((fr.put t' v).get t');rw [zhf,Fr.get_put_same v (by rw [I.nt];exact hdst _ ht') (by rw [I.nt];exact I.le)];exact k2.mono hA' (fun _ _=>rfl) (mf _)
      . rw [fx,ip] at hj hm;have hdep:=z93 hd (show L.length<j by omega) ho ho' ht' hn;rw [oe,Bool.or_eq_true] at hb;rcases hb with hb|hb
        . exact z2w hd (ge.1 ho').1 hln hdep hb
        . rw [Nat.testBit_two_pow] at hb;have:L.length=m:=by simpa using hb
          rw [<- this];exact hdep
    . obtain ⟨D,d1,d2⟩:=I.slot t';refine ⟨D &&& (2 ^ L.length - 1),?_,fun j o' hj ho' hn m hm hb=>?_⟩
      . have e1:putT h o.dst t t'=h t':=by
          cases hd2:o.dst with
          |none=>rfl
          |some d=>exact zln _ _ _ _ fun hh=>ht' (by rw [hd2,hh])
        have e2:(putC fr o.dst v).get t'=fr.get t':=by
          cases hd2:o.dst with
          |none=>rfl
          |some d=>exact so v (by rw [I.nt];exact I.le) fun hh=>ht' (by rw [hd2,hh])
        rw [e1,e2];refine d1.mono (fun f hf=>SupL.more (fun m hm hb=>?_) hf) (fun f hf=>hobj f (hsup f D hf)) (mf _);rw [lq,hb,ml];simp [hm]
      . rw [fx,ip] at hj;rw [lq,fj,ml] at hb;exact d2 j o' (by omega) ho' hn m (zAe hb.2) hb.1
  . by_cases hk:k<L.length
    . rw [gi hk] at hx;obtain ⟨l1,l2,l3,l4,l5⟩:=I.log k x hx;exact ⟨l1,l2,by show x.hi<=s1.n;omega,l4,fun f hf=>⟨(l5 f hf).1,(l5 f hf).2.imp (fun q=>SupL.more (fun _ _ hb=>hb) q) id⟩⟩
    . have hk2:k=L.length:=by
        have:=(ge.1 hx).1;rw [fx,ip] at this;omega
      subst hk2;simp only [im (fp _),Nat.sub_self,gz,fe] at hx;subst hx;refine ⟨h0n,hsn,fp _,hwr,fun f hf=>?_⟩;rcases k3.rd f hf with q|⟨q,q2⟩
      . simp [sm] at q
      . exact ⟨q,q2.imp (fun q3=>SupL.more (fun _ _ hb=>hb) q3) id⟩
  . by_cases hm:m<L.length
    . rw [gi (by omega)] at hx;rw [gi hm] at hy;exact I.apart k m x y hkm hx hy
    . have hm2:m=L.length:=by
        have:=(ge.1 hy).1;rw [fx,ip] at this;omega
      subst hm2;rw [gi hkm] at hx;simp only [im (fp _),Nat.sub_self,gz,fe] at hy;subst hy;exact (I.log k x hx).2.2.1
  . exact I.calm.trans I.lim hcal
theorem zzm {ops:List Oper} {o:Oper} {x:Nat} (hx:Operand.tmp x∈o.op.operands.toList):x∈zff ops o:=by
  unfold zff;refine List.mem_append.2 (.inl ?_);rw [List.mem_filterMap];exact ⟨.tmp x,hx,rfl⟩
theorem z4k {ops:List Oper} {o:Oper} {j d:Nat} {w:Bool} (hg:o.guard=some (j,w)) (hd:zo0 ops j=some d):d∈zff ops o:=by
  unfold zff;refine List.mem_append.2 (.inr ?_);rw [hg];simp only [hd];exact List.mem_singleton.2 rfl
theorem z6r (hE:zeb P Γ) {k0:Nat} {ops:List Oper} (hd:zjy k0 ops=true):∀ {l:List Oper} {L:List Lg} {h h':Nat->T} {fr:Fr} {s:CS} {outs:List T} {ob:Prop},zqo GL ops A0 β S s0 N L h fr s->(∀ (j:Nat) (o:Oper),l[j]?=some o->ops[L.length+j]?=some o)->zfb N l=true->runP P Γ GL ops l h S outs=some (ob,h')->ob ->
    ∃ M fr' s',drawC P Γ (zej P Γ) ops l fr s=some (M,fr',s')/\zqo GL ops A0 β S s0 N (L++M) h' fr' s'/\M.length=l.length
  |[],L,h,h',fr,s,outs,ob,I,hl,hdo,hr,hob=>by
    simp only [runP,fe,fm] at hr;obtain ⟨rfl,rfl⟩:=hr;exact ⟨[],fr,s,rfl,by rw [gt];exact I,rfl⟩
  |o :: l,L,h,h',fr,s,outs,ob,I,hl,hdo,hr,hob=>by
    have hd':zfb N l=true/\∀ t,o.dst=some t->t<N:=by
      unfold zfb at hdo ⊢;rw [jn,fj] at hdo;refine ⟨hdo.2,fun t ht=>?_⟩;have:=hdo.1;rw [ht] at this;exact zad.1 this
    have ho:ops[L.length]?=some o:=by have:=hl 0 o rfl;simpa using this
    -- what the operation may lean on
    have hrel:TRel GL (SupL A0 L (nth 0 (zdn ops []) L.length)) β S s.inner:=by
      refine TRel.inner (I.rel.more _ (fun f hf=>.inl hf) (fun f hf=>?_) (fun f hf ho=>?_))
      . rcases hf with q|⟨m,x,_,q2,_,q4⟩
        . exact I.rel.alt f q
        . have:=(I.log m x q2).2.2.1;omega
      . rcases hf with q|⟨m,x,_,q2,q3,q4⟩
        . exact (I.rel.dis f ho).2 q
        . have:=(I.log m x q2).1;have:=I.own f ho;omega
    -- the slots that it names
    let ho':Nat->T:=fun t=>if t∈zff ops o then h t else .junk
    have hin:∀ t,t∈zff ops o->ho' t=h t:=fun t ht=>zAc ht
    have hF:FrOk (SupL A0 L (nth 0 (zdn ops []) L.length)) β (zaa s.inner.obj) N ho' fr:=⟨I.nt,I.le,fun t=>by
      by_cases ht:t∈zff ops o
      . rw [hin t ht];obtain ⟨D,d1,d2⟩:=I.slot t;exact d1.mono (fun f hf=>SupL.sub (fun m hm hb=>d2 L.length o (fp _) ho ht m hm hb) hf) (fun _ _=>rfl) (mf _)
      . rw [show ho' t=.junk from zAd ht]
        exact .junk _⟩
    have hev:∀ x,x∈o.op.operands.toList->zde GL ho' x=zde GL h x:=fun x hx=>by
      cases x with
      |tmp t=>exact hin t (zzm hx)
      |_=>rfl
    have hgd:ziw ops ho' o.guard=ziw ops h o.guard:=by
      cases hg:o.guard with
      |none=>rfl
      |some p =>
        obtain ⟨j,w⟩:=p;unfold ziw;simp only
        cases hdd:zo0 ops j with
        |none=>rfl
        |some d=>simp only [hin d (z4k hg hdd)]
    -- the rest behind a step that is done
    have go:∀ {t:T} {v:Value} {s1:CS} {A':Nat->Prop} {outs':List T} {ob':Prop},TRel GL A' β S s1->VT A' β (zaa s1.obj) t v->zj1 (SupL A0 L (nth 0 (zdn ops []) L.length)) β s.inner A' s1->zcs P Γ (zej P Γ) ops o fr s.inner=some (putC fr o.dst v,s1)->runP P Γ GL ops l (putT h o.dst t) S outs'=some (ob',h')->ob'->∃ M fr' s',drawC P Γ (zej P Γ) ops (o :: l) fr s=some (M,fr',s')/\zqo GL ops A0 β S s0 N (L++M) h' fr' s'/\M.length=(o :: l).length:=by
      intro t v s1 A' outs' ob' k1 k2 k3 hst hrun hob';have I2:=I.next hd ho hd'.2 k1 k2 k3
      obtain ⟨M,fr',s',m1,m2,m3⟩:=z6r hE hd I2 (fun j o' hj=>by
        have:=hl (j+1) o' (by simpa using hj);rw [fx,ip];rw [show L.length+1+j=L.length+(j+1) by omega]
        exact this) hd'.1 hrun hob'
      refine ⟨⟨s1.rd,s1.wr,s.n,s1.n⟩ :: M,fr',s',?_,?_,by simp [m3]⟩
      . rw [drawC,hst];simp only;rw [m1]
      . rw [gj] at m2;exact m2
    unfold runP at hr;split at hr
    . simp at hr
    . rename_i hg;rw [<- hgd] at hg;have hw:=ziv hF hg;refine go hrel VT.undf ⟨jp _,fun _ h=>h,fun _ h=>.inl h,fun _ _=>rfl,fun _ h=>.inl h,fun _ h=>h⟩ ?_ hr hob;unfold zcs;rw [hw,cond_false]
    . rename_i hg;rw [<- hgd] at hg;have hw:=ziv hF hg;split at hr
      . rename_i f args tys hop;split at hr
        . rename_i r outs';split at hr
          . rename_i p hp;unfold z5g at hp;split at hp
            . rename_i k first cap hf
              simp only [fe] at hp;subst hp
              cases hrun:runP P Γ GL ops l (putT h o.dst r) S outs' with
              |none=>rw [hrun] at hr;simp [andP] at hr
              |some q =>
                obtain ⟨q1,q2⟩:=q;rw [hrun] at hr;simp only [andP,fe,fm] at hr;obtain ⟨rfl,rfl⟩:=hr;have hfv:=hF.eval hrel f;rw [hev f (by rw [hop];simp [gw,r9]),hf] at hfv;generalize e1:zg6 fr f=vf at hfv
                cases hfv with
                |fn h1 h2 =>
                  rename_i va vc;have hargs:=zvf (hF.eval hrel) args.toList;have hargs':args.toList.map (zde GL ho')=args.toList.map (zde GL h):=zud fun x hx=>hev x (by rw [hop];simp [gw,r9];right;simpa using hx);rw [hargs'] at hargs;obtain ⟨v,s1,A',c1,c2,c3,c4⟩:=hob.1 _ β s.inner _ hrel ((h1.append hargs).append h2);refine go c2 c3 c4 ?_ hrun hob.2;unfold zcs;rw [hw,cond_true]
                  have:cop P Γ (zej P Γ) (zg6 fr) o s.inner=some (v,s1):=by
                    unfold cop;simp only [hop,e1];unfold zoh;exact c1
                  rw [this]
            . simp at hp
          . simp at hr
        . simp at hr
      . split at hr
        . rename_i t hst;have hst':zgm P Γ (zde GL ho') o S=some t:=by rw [z3w hev];exact hst
          obtain ⟨v,s1,A',c1,c2,c3,c4⟩:=z5w (call:=zej P Γ) hE hrel (hF.eval hrel) hst';refine go c2 c3 c4 ?_ hr hob;unfold zcs;rw [hw,cond_true,c1]
        . simp at hr
theorem Stp.outer (hI:CInv s) (k:Stp A β s.inner A' β' s'):Stp A β s A' β' (s.outer s'):=by
  refine ⟨zm2 hI k.can,k.sub,k.new,k.own,k.keep,k.bx,fun x hx=>?_,fun x hx=>?_⟩
  . rcases zn5 (l:=s'.rd) rfl x hx with q|⟨q,q2⟩
    . exact .inl q
    . rcases k.rd x q with q3|⟨_,q3⟩
      . simp [sm] at q3
      . exact .inr ⟨q2,q3⟩
  . rcases zn5 (l:=s'.wr) rfl x hx with q|⟨q,q2⟩
    . exact .inl q
    . rcases k.wr x q with q3|⟨_,q3⟩
      . simp [sm] at q3
      . exact .inr ⟨q2,q3⟩
theorem zzh (hE:zeb P Γ) {own:List Nat} {ops:List Oper} {N:Nat}:∀ {l:List Oper} {h h':Nat->T} {S S':TS} {outs:List (T×TS)} {ob:Prop} {A:Nat->Prop} {β:Bx} {fr:Fr} {s:CS},zfb N l=true->FrOk A β (zaa s.obj) N h fr->TRel GL A β S s->runT P Γ GL own ops l h S outs=some (ob,h',S')->ob ->
    ∃ M fr' s',drawC P Γ (zej P Γ) ops l fr s=some (M,fr',s')/\Left GL A β s N fr' s' h' S'
  |[],h,h',S,S',outs,ob,A,β,fr,s,hd,hF,hT,hr,hob=>by
    simp only [runT,fe,fm] at hr;obtain ⟨rfl,rfl,rfl⟩:=hr;exact ⟨[],fr,s,rfl,A,β,hF,hT,rp⟩
  |o :: l,h,h',S,S',outs,ob,A,β,fr,s,hd,hF,hT,hr,hob=>by
    have hd':zfb N l=true/\∀ t,o.dst=some t->t<N:=by
      unfold zfb at hd ⊢;rw [jn,fj] at hd;refine ⟨hd.2,fun t ht=>?_⟩;have:=hd.1;rw [ht] at this;exact zad.1 this
    have hTi:=hT.inner
    have go:∀ {t:T} {S1:TS} {r:Option (Value×CS)} {l':List (T×TS)} {ob':Prop},Ok GL A β s.inner r t S1->(cop P Γ (zej P Γ) (zg6 fr) o s.inner=r)->zc8 ops fr o=true->runT P Γ GL own ops l (putT h o.dst t) S1 l'=some (ob',h',S')->ob'->∃ M fr' s',drawC P Γ (zej P Γ) ops (o :: l) fr s=some (M,fr',s')/\Left GL A β s N fr' s' h' S':=by
      rintro t S1 r l' ob' ⟨v,s1,A1,β1,rfl,k1,k2,k3⟩ hc hw hrun hob';have hF1:FrOk A1 β1 (zaa s1.obj) N h fr:=hF.mono k3.sub (Stp.old (s:=s.inner) hTi k3) k3.bx;have hS:Stp A β s A1 β1 (s.outer s1):=k3.outer hT.inv;obtain ⟨M,fr',s',e1,e2⟩:=zzh hE hd'.1 (s:=s.outer s1) (hF1.put hd'.2 k2) (k1.outer (Nat.le_trans hT.le k3.can.n)) hrun hob';refine ⟨⟨s1.rd,s1.wr,s.n,s1.n⟩ :: M,fr',s',?_,Left.trans (h':=h) (fr':=fr) hT.le hS e2⟩;rw [drawC]
      have:zcs P Γ (zej P Γ) ops o fr s.inner=some (putC fr o.dst v,s1):=by
        unfold zcs;rw [hw,cond_true,hc]
      rw [this];simp only;rw [e1]
    unfold runT at hr;split at hr
    . simp at hr
    . rename_i hg;have hw:=ziv hF hg;have hS:Stp A β s A β (s.outer s.inner):=Stp.outer hT.inv rp;obtain ⟨M,fr',s',e1,e2⟩:=zzh hE hd'.1 (s:=s.outer s.inner) (hF.put hd'.2 VT.undf) (hTi.outer hT.le) hr hob;refine ⟨⟨[],[],s.n,s.n⟩ :: M,fr',s',?_,Left.trans (h':=h) (fr':=fr) hT.le hS e2⟩;rw [drawC]
      have:zcs P Γ (zej P Γ) ops o fr s.inner=some (putC fr o.dst undef,s.inner):=by
        unfold zcs;rw [hw,cond_false]
      rw [this];simp only;rw [e1];rfl
    . rename_i hg;have hw:=ziv hF hg;split at hr
      . rename_i f args tys ho;split at hr
        . rename_i r outs';split at hr
          . rename_i p hp;unfold z0a at hp;split at hp
            . rename_i k first cap hf
              simp only [fe] at hp;subst hp
              cases hrun:runT P Γ GL own ops l (putT h o.dst r.1) r.2 outs' with
              |none=>rw [hrun] at hr;simp [andT] at hr
              |some q =>
                obtain ⟨q1,q2,q3⟩:=q;rw [hrun] at hr;simp only [andT,fe,fm] at hr;obtain ⟨rfl,rfl,rfl⟩:=hr;have hfv:=hF.eval hT f;rw [hf] at hfv;generalize e1:zg6 fr f=vf at hfv
                cases hfv with
                |fn h1 h2 =>
                  rename_i va vc;have hargs:=zvf (hF.eval hT) args.toList;have hcall:=hob.1 A β s.inner _ hTi ((h1.append hargs).append h2);refine go hcall ?_ hw hrun hob.2;unfold cop;simp only [ho,e1];unfold zoh;rfl
            . simp at hp
          . simp at hr
        . simp at hr
      . split at hr
        . rename_i t S1 hst;exact go (zyw hE hTi (hF.eval hT) hst) rfl hw hr hob
        . simp at hr
theorem zic {x y:Lg} (h1:x.rd=[]) (h2:x.wr=[]) (h3:x.lo=x.hi):clash x y=false:=by
  obtain ⟨rx,wx,lo,hi⟩:=x;obtain ⟨ry,wy,lo',hi'⟩:=y;simp only at h1 h2 h3;subst h1;subst h2;subst h3;exact zgy (fun f hf=>by simp at hf) (fun f hf=>by simp at hf) (fun f _=>by omega) (fun f _=>by omega)
theorem zg7 {x y:Lg} (h1:y.rd=[]) (h2:y.wr=[]):clash x y=false:=by
  obtain ⟨rx,wx,lo,hi⟩:=x;obtain ⟨ry,wy,lo',hi'⟩:=y;simp only at h1 h2;subst h1;subst h2;exact zgy (fun f _=>by simp) (fun f _=>by simp) (fun f hf=>by simp at hf) (fun f hf=>by simp at hf)
theorem TW.draw (hE:zeb P Γ) {id:Nat} {ops:Array Oper} {Q:Exit->(Nat->T)->TS->Prop} (k:Nat) (outsP:List T) (own:List Nat) (outs:List (T×TS)) {h1:Nat->T} {ob1 ob2:Prop} (hd:zfb N ops.toList=true) (hok:zjy k ops.toList=true)
    (hp:runP P Γ GL ops.toList (ops.toList.take k) h S outsP=some (ob1,h1)) (hob1:ob1) (hr:runT P Γ GL own ops.toList (ops.toList.drop k) h1 S outs=some (ob2,h',S')) (hob2:ob2) (hq:Q .normal h' S'):TW P Γ GL N (.region id ops true) h S Q:=fun A β fr s hF hT=>by
  have hsplit:ops.toList=ops.toList.take k++ops.toList.drop k:=(i9 k _).symm
  have hdd:zfb N (ops.toList.take k)=true/\zfb N (ops.toList.drop k)=true:=by
    unfold zfb at hd ⊢;rw [hsplit,List.all_append,fj] at hd;exact hd
  have I0:zqo GL ops.toList A β S s N [] h fr s:=by
    refine ⟨hF.nt,hF.le,hT,fun t=>⟨0,(hF.slot t).mono (fun f hf=>.inl hf) (fun _ _=>rfl) (mf _),fun j o _ _ _ m hm=>by simp at hm⟩,fun k x hx=>by simp at hx,fun k m x y _ hx=>by simp at hx,fun f hf=>(hT.dis f hf).1,hT.alt,?_,hT.le⟩;exact ⟨jp _,fun _ h=>h,fun _ h=>.inl h,fun _ _=>rfl,fun _ h=>.inl h,fun _ h=>h⟩
  obtain ⟨M1,fr1,s1,d1,I1,m1⟩:=z6r hE hok I0 (fun j o hj=>by
    rw [je,i5];rw [List.getElem?_take] at hj;split at hj
    . exact hj
    . simp at hj) hdd.1 hp hob1
  rw [gg] at I1
  -- behind the first part all may lean on all
  let D:Nat:=2 ^ M1.length - 1
  have hDall:∀ m,m<M1.length->i6 D m=true:=fun m hm=>by
    show i6 (2 ^ M1.length - 1) m=true;rw [ml];exact zAa hm
  have hT1:TRel GL (SupL A M1 D) β S s1:=by
    refine I1.rel.more _ (fun f hf=>.inl hf) (fun f hf=>?_) (fun f hf ho=>?_)
    . rcases hf with q|⟨m,x,_,q2,_,q4⟩
      . exact I1.rel.alt f q
      . have:=(I1.log m x q2).2.2.1;omega
    . rcases hf with q|⟨m,x,_,q2,q3,q4⟩
      . exact (I1.rel.dis f ho).2 q
      . have:=(I1.log m x q2).1;have:=I1.own f ho;omega
  have hF1:FrOk (SupL A M1 D) β (zaa s1.obj) N h1 fr1:=⟨I1.nt,I1.le,fun t=>by
    obtain ⟨E,e1,_⟩:=I1.slot t
    exact e1.mono (fun f hf=>SupL.sub (fun m hm _=>hDall m hm) hf) (fun _ _=>rfl) (mf _)⟩
  have hS1:Stp A β s (SupL A M1 D) β s1:=by
    refine ⟨I1.calm.can,fun f hf=>.inl hf,fun f hf=>?_,fun f hf=>.inl hf,fun f hf _=>I1.calm.keep f hf,mf _,I1.calm.rd,fun x hx=>.inl (I1.calm.wr x hx)⟩;rcases hf with q|⟨m,x,_,q2,q3,_⟩
    . exact .inl q
    . have:=(I1.log m x q2).1;exact .inr (.inl (by omega))
  obtain ⟨M2,fr2,s2,d2,L2⟩:=zzh hE hdd.2 hF1 hT1 hr hob2;have hdraw:=zkc d1 d2;rw [<- hsplit] at hdraw;obtain ⟨f1,f2⟩:=zsv hdraw;refine W.draw hdraw ?_ ⟨h',S',Left.trans (h':=h) (fr':=fr) hT.le hS1 L2,hq⟩;refine zz9 rfl (zob fun i j x y hij _ hx hy=>?_);simp only [gg] at hx hy;have hjl:j<ops.toList.length:=by rw [<- f1];exact (ge.1 hy).1
  have ho1:ops.toList[i]?=some (ops.toList[i]'(by omega)):=fk _;have ho2:ops.toList[j]?=some (ops.toList[j]'hjl):=fk _;by_cases hkj:k<=j
  . rcases z48 hok hij hkj ho1 ho2 with q|q|q
    . exact .inl q
    . obtain ⟨a,b,c⟩:=(f2 i _ x ho1 hx).1 q;exact .inr (zic a b c)
    . obtain ⟨a,b⟩:=(f2 j _ y ho2 hy).2 q;exact .inr (zg7 a b)
  . have hjM:j<M1.length:=by rw [m1,ik];omega
    rw [gi (by omega)] at hx;rw [gi hjM] at hy;by_cases hbit:i6 (nth 0 (zdn ops.toList []) j) i=true
    . exact .inl hbit
    . right;obtain ⟨x1,x2,x3,x4,x5⟩:=I1.log i x hx;obtain ⟨y1,y2,y3,y4,y5⟩:=I1.log j y hy;obtain ⟨rx,wx,lo,hi⟩:=x;obtain ⟨ry,wy,lo',hi'⟩:=y;simp only at x1 x2 x3 x4 x5 y1 y2 y3 y4 y5;subst x4;subst y4;refine zgy (fun f hf=>by simp at hf) (fun f _=>by simp) (fun f hf=>?_) (fun f hf=>by simp at hf);obtain ⟨g1,g2⟩:=y5 f hf;rcases g2 with (g2|⟨m,z,g3,g4,g5,g6⟩)|g2
      . have:=I1.base f g2;omega
      . by_cases hmi:m=i
        . subst hmi;exact absurd g3 hbit
        . by_cases hlt:m<i
          . have:=I1.apart m i z _ hlt g4 hx;simp only at this;omega
          . have:=I1.apart i m _ z (by omega) hx g4;simp only at this;omega
      . have:=I1.own f g2;omega
end
section
variable {GL:List (Nat×List Value)} {P:gn} {Γ:Env} {own:List Nat} {ops l:List Oper} {h:Nat->T} {S:TS} {outs:List (T×TS)} {outsP:List T} {d:Option Tmp} {ty:gm} {pos:String} {e:Array Edge} {g:Option (Nat×Bool)}
def yfr {α:Type} (r:Option (T×TS)) (k:T->TS->Option α):Option α:=match r with
  |some (t,S)=>k t S
  |none=>none
def zog {α:Type} (b:Option Bool) (off on:Unit->Option α):Option α:=match b with
  |some true=>on ()
  |some false=>off ()
  |none=>none
theorem z0l {α:Type} (t:T) (S:TS) (k:T->TS->Option α):yfr (some (t,S)) k=k t S:=f6 rfl rfl
theorem yeb {α:Type} (a b:Unit->Option α):zog (some true) a b=b ():=f6 rfl rfl
theorem z7s {α:Type} (a b:Unit->Option α):zog (some false) a b=a ():=f6 rfl rfl
def zpi (ops:List Oper) (h:Nat->T) (j:Nat):T:=match zo0 ops j with|some t=>h t|none=>.junk
def zo8 (t:T) (w:Bool):Option Bool:=match t with|.bool b=>some (b == w)|.tup _=>some false|_=>none
theorem yar {l:List T} {w:Bool}:zo8 (.tup l) w=some false:=f6 rfl rfl
theorem zjk {j:Nat} {w:Bool}:ziw ops h (some (j,w))=zo8 (zpi ops h j) w:=by
  unfold ziw zpi;simp only
  cases zo0 ops j with
  |none=>rfl
  |some t=>simp only;cases h t<;>rfl
theorem yap:zo8 (.bool true) true=some true:=f6 rfl rfl
theorem yaq:zo8 (.bool true) false=some false:=f6 rfl rfl
theorem yas:zo8 (.bool false) true=some false:=f6 rfl rfl
theorem yat:zo8 (.bool false) false=some true:=f6 rfl rfl
theorem zwl {t:Tmp} {op:Op}:zpi (⟨some t,op,ty,pos,e,g⟩ :: l) h 0=h t:=f6 rfl rfl
theorem zwm {o:Oper} {n:Nat}:zpi (o :: l) h (n+1)=zpi l h n:=by
  unfold zpi zo0;rw [lh]
theorem z6b:runT P Γ GL own ops [] h S outs=some (True,h,S):=f6 rfl rfl
theorem z6d:runP P Γ GL ops [] h S outsP=some (True,h):=f6 rfl rfl
def zck:Op->Bool
  |.call ⟨.value _,_,_⟩=>true
  |_=>false
def ygg (P:gn) (Γ:Env) (GL:List (Nat×List Value)) (own:List Nat) (ops l:List Oper) (outs:List (T×TS)) (h:Nat->T) (d:Option Tmp) (t:T) (S:TS):Option (Prop×(Nat->T)×TS):=runT P Γ GL own ops l (putT h d t) S outs
theorem ycz {t:T}:ygg P Γ GL own ops l outs h d t S=runT P Γ GL own ops l (putT h d t) S outs:=f6 rfl rfl
def offT (P:gn) (Γ:Env) (GL:List (Nat×List Value)) (own:List Nat) (ops l:List Oper) (outs:List (T×TS)) (h:Nat->T) (d:Option Tmp) (S:TS) (_:Unit):Option (Prop×(Nat->T)×TS):=runT P Γ GL own ops l (putT h d (.tup [])) S outs
theorem yiv {u:Unit}:offT P Γ GL own ops l outs h d S u=runT P Γ GL own ops l (putT h d (.tup [])) S outs:=f6 rfl rfl
def ygd (P:gn) (Γ:Env) (GL:List (Nat×List Value)) (own:List Nat) (ops l:List Oper) (outs:List (T×TS)) (h:Nat->T) (S:TS) (o:Oper) (_:Unit):Option (Prop×(Nat->T)×TS):=yfr (zgp P Γ own (zde GL h) o S) (ygg P Γ GL own ops l outs h o.dst)
theorem ycw {u:Unit} {op:Op}:ygd P Γ GL own ops l outs h S ⟨d,op,ty,pos,e,g⟩ u=yfr (zgp P Γ own (zde GL h) ⟨d,op,ty,pos,e,g⟩ S) (ygg P Γ GL own ops l outs h d):=f6 rfl rfl
theorem z6c {op:Op} (hc:zck op=false):runT P Γ GL own ops (⟨d,op,ty,pos,e,g⟩ :: l) h S outs=zog (ziw ops h g) (offT P Γ GL own ops l outs h d S) (ygd P Γ GL own ops l outs h S ⟨d,op,ty,pos,e,g⟩):=by
  rw [runT];simp only
  cases hg:ziw ops h g with
  |none=>rfl
  |some b =>
    cases b with
    |false=>rfl
    |true =>
      simp only [zog,ygd]
      cases hs:zgp P Γ own (zde GL h) ⟨d,op,ty,pos,e,g⟩ S with
      |none =>
        cases op with
        |call c =>
          obtain ⟨cal,args,tys⟩:=c
          cases cal with
          |value f=>simp [zck] at hc
          |_=>rfl
        |_=>rfl
      |some r =>
        cases op with
        |call c =>
          obtain ⟨cal,args,tys⟩:=c
          cases cal with
          |value f=>simp [zck] at hc
          |_=>rfl
        |_=>rfl
theorem ybz {op:Op} (hc:zck op=false):runT P Γ GL own ops (⟨d,op,ty,pos,e,none⟩ :: l) h S outs=yfr (zgp P Γ own (zde GL h) ⟨d,op,ty,pos,e,none⟩ S) (ygg P Γ GL own ops l outs h d):=by
  rw [z6c hc];rfl
theorem yb0 {op:Op} {j:Nat} {w:Bool} (hc:zck op=false):runT P Γ GL own ops (⟨d,op,ty,pos,e,some (j,w)⟩ :: l) h S outs=zog (zo8 (zpi ops h j) w) (offT P Γ GL own ops l outs h d S) (ygd P Γ GL own ops l outs h S ⟨d,op,ty,pos,e,some (j,w)⟩):=by
  rw [z6c hc,zjk]
def ygy (p:Option Prop) (k:Option (Prop×(Nat->T)×TS)):Option (Prop×(Nat->T)×TS):=match p,k with
  |some p,some (q,h,S)=>some (p/\q,h,S)
  |_,_=>none
theorem z14 {p q:Prop}:ygy (some p) (some (q,h,S))=some (p/\q,h,S):=f6 rfl rfl
def yhg (P:gn) (Γ:Env) (GL:List (Nat×List Value)) (own:List Nat) (ops l:List Oper) (outs:List (T×TS)) (h:Nat->T) (S:TS) (d:Option Tmp) (f:f7) (args:List f7) (r:T×TS) (_:Unit):Option (Prop×(Nat->T)×TS):=ygy (z0a P Γ GL S (args.map (zde GL h)) (zde GL h f) r) (runT P Γ GL own ops l (putT h d r.1) r.2 outs)
theorem z8t {u:Unit} {f:f7} {args:List f7} {r:T×TS}:yhg P Γ GL own ops l outs h S d f args r u=ygy (z0a P Γ GL S (args.map (zde GL h)) (zde GL h f) r) (runT P Γ GL own ops l (putT h d r.1) r.2 outs):=f6 rfl rfl
theorem zww {f:f7} {args:Array f7} {tys:Array gm} {r:T×TS}:runT P Γ GL own ops (⟨d,.call ⟨.value f,args,tys⟩,ty,pos,e,g⟩ :: l) h S (r :: outs)=zog (ziw ops h g) (offT P Γ GL own ops l (r :: outs) h d S) (yhg P Γ GL own ops l outs h S d f args.toList r):=by
  rw [runT];simp only
  cases hg:ziw ops h g with
  |none=>rfl
  |some b =>
    cases b with
    |false=>rfl
    |true =>
      simp only [zog,yhg]
      cases z0a P Γ GL S (args.toList.map (zde GL h)) (zde GL h f) r with
      |none=>rfl
      |some p=>cases runT P Γ GL own ops l (putT h d r.1) r.2 outs<;>rfl
theorem z03 {f:f7} {args:Array f7} {tys:Array gm} {r:T×TS}:runT P Γ GL own ops (⟨d,.call ⟨.value f,args,tys⟩,ty,pos,e,none⟩ :: l) h S (r :: outs)=ygy (z0a P Γ GL S (args.toList.map (zde GL h)) (zde GL h f) r) (runT P Γ GL own ops l (putT h d r.1) r.2 outs):=by
  rw [zww];rfl
theorem ztq {f:f7} {args:Array f7} {tys:Array gm} {r:T×TS} {j:Nat} {w:Bool}:runT P Γ GL own ops (⟨d,.call ⟨.value f,args,tys⟩,ty,pos,e,some (j,w)⟩ :: l) h S (r :: outs)=zog (zo8 (zpi ops h j) w) (offT P Γ GL own ops l (r :: outs) h d S) (yhg P Γ GL own ops l outs h S d f args.toList r):=by
  rw [zww,zjk]
theorem ztp {f:f7} {args:Array f7} {tys:Array gm} {j:Nat} {w:Bool}:runT P Γ GL own ops (⟨d,.call ⟨.value f,args,tys⟩,ty,pos,e,some (j,w)⟩ :: l) h S []=zog (zo8 (zpi ops h j) w) (offT P Γ GL own ops l [] h d S) (fun _=>none):=by
  rw [runT];simp only [zjk]
  cases zo8 (zpi ops h j) w with
  |none=>rfl
  |some b=>cases b<;>rfl
theorem z8p {k:Nat} {first cap args:List T} {r:T×TS}:z0a P Γ GL S args (.fn k first cap) r=some (Call P Γ GL k (first++args++cap) S r.1 r.2):=f6 rfl rfl
def yfs {α:Type} (r:Option T) (k:T->Option α):Option α:=match r with
  |some t=>k t
  |none=>none
theorem zwc {α:Type} (t:T) (k:T->Option α):yfs (some t) k=k t:=f6 rfl rfl
def ygh (P:gn) (Γ:Env) (GL:List (Nat×List Value)) (ops l:List Oper) (outs:List T) (h:Nat->T) (d:Option Tmp) (S:TS) (t:T):Option (Prop×(Nat->T)):=runP P Γ GL ops l (putT h d t) S outs
theorem z65 {t:T}:ygh P Γ GL ops l outsP h d S t=runP P Γ GL ops l (putT h d t) S outsP:=f6 rfl rfl
def offP (P:gn) (Γ:Env) (GL:List (Nat×List Value)) (ops l:List Oper) (outs:List T) (h:Nat->T) (d:Option Tmp) (S:TS) (_:Unit):Option (Prop×(Nat->T)):=runP P Γ GL ops l (putT h d (.tup [])) S outs
theorem ycx {u:Unit}:offP P Γ GL ops l outsP h d S u=runP P Γ GL ops l (putT h d (.tup [])) S outsP:=f6 rfl rfl
def yge (P:gn) (Γ:Env) (GL:List (Nat×List Value)) (ops l:List Oper) (outs:List T) (h:Nat->T) (S:TS) (o:Oper) (_:Unit):Option (Prop×(Nat->T)):=yfs (zgm P Γ (zde GL h) o S) (ygh P Γ GL ops l outs h o.dst S)
theorem z61 {u:Unit} {op:Op}:yge P Γ GL ops l outsP h S ⟨d,op,ty,pos,e,g⟩ u=yfs (zgm P Γ (zde GL h) ⟨d,op,ty,pos,e,g⟩ S) (ygh P Γ GL ops l outsP h d S):=f6 rfl rfl
theorem z6e {op:Op} (hc:zck op=false):runP P Γ GL ops (⟨d,op,ty,pos,e,g⟩ :: l) h S outsP=zog (ziw ops h g) (offP P Γ GL ops l outsP h d S) (yge P Γ GL ops l outsP h S ⟨d,op,ty,pos,e,g⟩):=by
  rw [runP];simp only
  cases hg:ziw ops h g with
  |none=>rfl
  |some b =>
    cases b with
    |false=>rfl
    |true =>
      simp only [zog,yge]
      cases hs:zgm P Γ (zde GL h) ⟨d,op,ty,pos,e,g⟩ S with
      |none =>
        cases op with
        |call c =>
          obtain ⟨cal,args,tys⟩:=c
          cases cal with
          |value f=>simp [zck] at hc
          |_=>rfl
        |_=>rfl
      |some r =>
        cases op with
        |call c =>
          obtain ⟨cal,args,tys⟩:=c
          cases cal with
          |value f=>simp [zck] at hc
          |_=>rfl
        |_=>rfl
theorem yb1 {op:Op} (hc:zck op=false):runP P Γ GL ops (⟨d,op,ty,pos,e,none⟩ :: l) h S outsP=yfs (zgm P Γ (zde GL h) ⟨d,op,ty,pos,e,none⟩ S) (ygh P Γ GL ops l outsP h d S):=by
  rw [z6e hc];rfl
theorem yb2 {op:Op} {j:Nat} {w:Bool} (hc:zck op=false):runP P Γ GL ops (⟨d,op,ty,pos,e,some (j,w)⟩ :: l) h S outsP=zog (zo8 (zpi ops h j) w) (offP P Γ GL ops l outsP h d S) (yge P Γ GL ops l outsP h S ⟨d,op,ty,pos,e,some (j,w)⟩):=by
  rw [z6e hc,zjk]
def ygz (p:Option Prop) (k:Option (Prop×(Nat->T))):Option (Prop×(Nat->T)):=match p,k with
  |some p,some (q,h)=>some (p/\q,h)
  |_,_=>none
theorem zxi {p q:Prop}:ygz (some p) (some (q,h))=some (p/\q,h):=f6 rfl rfl
def z8s (P:gn) (Γ:Env) (GL:List (Nat×List Value)) (ops l:List Oper) (outs:List T) (h:Nat->T) (S:TS) (d:Option Tmp) (f:f7) (args:List f7) (r:T) (_:Unit):Option (Prop×(Nat->T)):=ygz (z5g P Γ GL S (args.map (zde GL h)) (zde GL h f) r) (runP P Γ GL ops l (putT h d r) S outs)
theorem z3c {u:Unit} {f:f7} {args:List f7} {r:T}:z8s P Γ GL ops l outsP h S d f args r u=ygz (z5g P Γ GL S (args.map (zde GL h)) (zde GL h f) r) (runP P Γ GL ops l (putT h d r) S outsP):=f6 rfl rfl
theorem zwx {f:f7} {args:Array f7} {tys:Array gm} {r:T}:runP P Γ GL ops (⟨d,.call ⟨.value f,args,tys⟩,ty,pos,e,g⟩ :: l) h S (r :: outsP)=zog (ziw ops h g) (offP P Γ GL ops l (r :: outsP) h d S) (z8s P Γ GL ops l outsP h S d f args.toList r):=by
  rw [runP];simp only
  cases hg:ziw ops h g with
  |none=>rfl
  |some b =>
    cases b with
    |false=>rfl
    |true =>
      simp only [zog,z8s]
      cases z5g P Γ GL S (args.toList.map (zde GL h)) (zde GL h f) r with
      |none=>rfl
      |some p=>cases runP P Γ GL ops l (putT h d r) S outsP<;>rfl
theorem z04 {f:f7} {args:Array f7} {tys:Array gm} {r:T}:runP P Γ GL ops (⟨d,.call ⟨.value f,args,tys⟩,ty,pos,e,none⟩ :: l) h S (r :: outsP)=ygz (z5g P Γ GL S (args.toList.map (zde GL h)) (zde GL h f) r) (runP P Γ GL ops l (putT h d r) S outsP):=by
  rw [zwx];rfl
theorem zts {f:f7} {args:Array f7} {tys:Array gm} {r:T} {j:Nat} {w:Bool}:runP P Γ GL ops (⟨d,.call ⟨.value f,args,tys⟩,ty,pos,e,some (j,w)⟩ :: l) h S (r :: outsP)=zog (zo8 (zpi ops h j) w) (offP P Γ GL ops l (r :: outsP) h d S) (z8s P Γ GL ops l outsP h S d f args.toList r):=by
  rw [zwx,zjk]
theorem ztr {f:f7} {args:Array f7} {tys:Array gm} {j:Nat} {w:Bool}:runP P Γ GL ops (⟨d,.call ⟨.value f,args,tys⟩,ty,pos,e,some (j,w)⟩ :: l) h S []=zog (zo8 (zpi ops h j) w) (offP P Γ GL ops l [] h d S) (fun _=>none):=by
  rw [runP];simp only [zjk]
  cases zo8 (zpi ops h j) w with
  |none=>rfl
  |some b=>cases b<;>rfl
theorem z8r {k:Nat} {first cap args:List T} {r:T}:z5g P Γ GL S args (.fn k first cap) r=some (zal P Γ GL k (first++args++cap) S r):=f6 rfl rfl
theorem zbb {t u:Nat} {v:T}:tupd h t v u=if u=t then v else h u:=f6 rfl rfl
theorem ycm {t:Tmp} {v:T}:putT h (some t) v=tupd h t v:=f6 rfl rfl
theorem ycn {v:T}:putT h none v=h:=f6 rfl rfl
theorem zqd {t:Tmp}:zde GL h (.tmp t)=h t:=f6 rfl rfl
theorem zja {v:Value}:zde GL h (.const v)=znk v:=f6 rfl rfl
theorem yei {f:Nat}:zde GL h (.func f)=.fn f [] []:=f6 rfl rfl
theorem z2s {f:Nat}:zde GL h (.global f)=yea GL f:=f6 rfl rfl
theorem yix {k:iu} {n:Int}:znk (.int k n)=.int k n:=f6 rfl rfl
theorem zlz {b:Bool}:znk (.bool b)=.bool b:=f6 rfl rfl
theorem yiw {b:ByteArray}:znk (.string b)=.str b:=f6 rfl rfl
theorem ydk:znk (.slice none 0 0)=.nils:=f6 rfl rfl
theorem ydl:znk (.pointer none)=.nilp:=f6 rfl rfl
theorem ydm:znk (.map none)=.nilm:=f6 rfl rfl
theorem ydn:znk .nilFunc=.nilf:=f6 rfl rfl
theorem zv7 {t:T}:zhx S (some t)=some (t,S):=f6 rfl rfl
theorem zv8:yao (some S)=some (.junk,S):=f6 rfl rfl
-- which operations are calls
theorem yd2 {x}:zck (.move x)=false:=f6 rfl rfl
theorem z2d {x}:zck (.assign x)=false:=f6 rfl rfl
theorem yd1 {a b c}:zck (.pick a b c)=false:=f6 rfl rfl
theorem z7p {x}:zck (.alloc x)=false:=f6 rfl rfl
theorem yi4 {x y}:zck (.box x y)=false:=f6 rfl rfl
theorem z7o {x y}:zck (.build x y)=false:=f6 rfl rfl
theorem zca {x y z}:zck (.buildSlice x y z)=false:=f6 rfl rfl
theorem yd3 {x y}:zck (.load x y)=false:=f6 rfl rfl
theorem z7k {x y z}:zck (.store x y z)=false:=f6 rfl rfl
theorem zuo {x}:zck (.nilCheck x)=false:=f6 rfl rfl
theorem yi5 {x y z w v}:zck (.binOp x y z w v)=false:=f6 rfl rfl
theorem yn7 {x y z}:zck (.unOp x y z)=false:=f6 rfl rfl
theorem yd4 {x y z}:zck (.convert x y z)=false:=f6 rfl rfl
theorem yi3 {x y}:zck (.sliceToArrayPointer x y)=false:=f6 rfl rfl
theorem zup {x y z}:zck (.makeFunc x y z)=false:=f6 rfl rfl
theorem zbr {x y z w}:zck (.lookup x y z w)=false:=f6 rfl rfl
theorem za9 {x y}:zck (.makeMap x y)=false:=f6 rfl rfl
theorem zaz {x y z w}:zck (.mapUpdate x y z w)=false:=f6 rfl rfl
theorem zbs {x y z w}:zck (.insert x y z w)=false:=f6 rfl rfl
theorem zru {x y z}:zck (.makeSlice x y z)=false:=f6 rfl rfl
theorem z7l {x y z w v}:zck (.slice x y z w v)=false:=f6 rfl rfl
theorem zrw {x y z}:zck (.fieldAddr x y z)=false:=f6 rfl rfl
theorem z7n {x y z}:zck (.field x y z)=false:=f6 rfl rfl
theorem zrv {x y z}:zck (.indexAddr x y z)=false:=f6 rfl rfl
theorem z7m {x y z}:zck (.index x y z)=false:=f6 rfl rfl
theorem zxw {x y}:zck (.extract x y)=false:=f6 rfl rfl
theorem zxx {b x y}:zck (.call ⟨.builtin b,x,y⟩)=false:=f6 rfl rfl
variable {ρ:f7->T} {t t2:gm} {x y z:f7}
theorem ybs  : zgp P Γ own ρ ⟨d,.move x,ty,pos,e,g⟩ S=zhx S (some (ρ x)):=f6 rfl rfl
theorem zgn  : zgm P Γ ρ ⟨d,.move x,ty,pos,e,g⟩ S=some (ρ x):=f6 rfl rfl
theorem z0z  : zgp P Γ own ρ ⟨d,.assign x,ty,pos,e,g⟩ S=zhx S (some (ρ x)):=f6 rfl rfl
theorem z01  : zgm P Γ ρ ⟨d,.assign x,ty,pos,e,g⟩ S=some (ρ x):=f6 rfl rfl
theorem ybt  : zgp P Γ own ρ ⟨d,.load t x,ty,pos,e,g⟩ S=zhx S (zs8 Γ S t (ρ x)):=f6 rfl rfl
theorem ybx  : zgm P Γ ρ ⟨d,.load t x,ty,pos,e,g⟩ S=zs8 Γ S t (ρ x):=f6 rfl rfl
theorem zrm {k:Nat}:zgp P Γ own ρ ⟨d,.fieldAddr t x k,ty,pos,e,g⟩ S=zhx S (zan Γ S t k (ρ x)):=f6 rfl rfl
theorem zro {k:Nat}:zgm P Γ ρ ⟨d,.fieldAddr t x k,ty,pos,e,g⟩ S=zan Γ S t k (ρ x):=f6 rfl rfl
theorem zrl  : zgp P Γ own ρ ⟨d,.indexAddr t x y,ty,pos,e,g⟩ S=zhx S (zh4 Γ S t (ρ x) (ρ y)):=f6 rfl rfl
theorem zrn  : zgm P Γ ρ ⟨d,.indexAddr t x y,ty,pos,e,g⟩ S=zh4 Γ S t (ρ x) (ρ y):=f6 rfl rfl
theorem z55  : zgp P Γ own ρ ⟨d,.index t x y,ty,pos,e,g⟩ S=zhx S (zs9 Γ t (ρ x) (ρ y)):=f6 rfl rfl
theorem z59  : zgm P Γ ρ ⟨d,.index t x y,ty,pos,e,g⟩ S=zs9 Γ t (ρ x) (ρ y):=f6 rfl rfl
theorem zws {k:Nat}:zgp P Γ own ρ ⟨d,.extract x k,ty,pos,e,g⟩ S=zhx S (zlo k (ρ x)):=f6 rfl rfl
theorem zwt {k:Nat}:zgm P Γ ρ ⟨d,.extract x k,ty,pos,e,g⟩ S=zlo k (ρ x):=f6 rfl rfl
theorem yni {u:UnOp}:zgp P Γ own ρ ⟨d,.unOp u t x,ty,pos,e,g⟩ S=zhx S (tUn u (ρ x)):=f6 rfl rfl
theorem ynj {u:UnOp}:zgm P Γ ρ ⟨d,.unOp u t x,ty,pos,e,g⟩ S=tUn u (ρ x):=f6 rfl rfl
theorem yif {b:BinOp}:zgp P Γ own ρ ⟨d,.binOp b t x y t2,ty,pos,e,g⟩ S=zhx S (tBin P Γ S t b x y (ρ x) (ρ y)):=f6 rfl rfl
theorem yih {b:BinOp}:zgm P Γ ρ ⟨d,.binOp b t x y t2,ty,pos,e,g⟩ S=tBin P Γ S t b x y (ρ x) (ρ y):=f6 rfl rfl
theorem z56 {parts:Array (Nat×f7)}:zgp P Γ own ρ ⟨d,.build t parts,ty,pos,e,g⟩ S=zhx S (zj2 Γ ρ t parts.toList):=f6 rfl rfl
theorem z6a {parts:Array (Nat×f7)}:zgm P Γ ρ ⟨d,.build t parts,ty,pos,e,g⟩ S=zj2 Γ ρ t parts.toList:=f6 rfl rfl
theorem z54 {lo hi mx:Option f7}:zgp P Γ own ρ ⟨d,.slice t x lo hi mx,ty,pos,e,g⟩ S=zhx S (zs7 Γ S t (ρ x) (lo.map ρ) (hi.map ρ) (mx.map ρ)):=f6 rfl rfl
theorem z58 {lo hi mx:Option f7}:zgm P Γ ρ ⟨d,.slice t x lo hi mx,ty,pos,e,g⟩ S=zs7 Γ S t (ρ x) (lo.map ρ) (hi.map ρ) (mx.map ρ):=f6 rfl rfl
theorem ztm {f:Nat} {a c:Array f7}:zgp P Γ own ρ ⟨d,.makeFunc (.func f) a c,ty,pos,e,g⟩ S=zhx S (some (.fn f (a.toList.map ρ) (c.toList.map ρ))):=f6 rfl rfl
theorem ztn {f:Nat} {a c:Array f7}:zgm P Γ ρ ⟨d,.makeFunc (.func f) a c,ty,pos,e,g⟩ S=some (.fn f (a.toList.map ρ) (c.toList.map ρ)):=f6 rfl rfl
def ygb (c a b:T):Option T:=match c with|.bool t=>some (bif t then a else b)|_=>none
theorem ycj {a b:T}:ygb (.bool true) a b=some a:=f6 rfl rfl
theorem yck {a b:T}:ygb (.bool false) a b=some b:=f6 rfl rfl
theorem z33:zgm P Γ ρ ⟨d,.pick z x y,ty,pos,e,g⟩ S=ygb (ρ z) (ρ x) (ρ y):=by
  show (match ρ z with|.bool t=>some (bif t then ρ x else ρ y)|_=>none)=_;cases ρ z<;>rfl
theorem ybr:zgp P Γ own ρ ⟨d,.pick z x y,ty,pos,e,g⟩ S=zhx S (ygb (ρ z) (ρ x) (ρ y)):=by
  show zhx S (zgm P Γ ρ ⟨d,.pick z x y,ty,pos,e,g⟩ S)=_;rw [z33]
theorem z57:zgp P Γ own ρ ⟨d,.alloc t,ty,pos,e,g⟩ S=zwi Γ S t:=f6 rfl rfl
theorem yie:zgp P Γ own ρ ⟨d,.box t x,ty,pos,e,g⟩ S=tBox S (ρ x):=f6 rfl rfl
theorem z53:zgp P Γ own ρ ⟨d,.store t x y,ty,pos,e,g⟩ S=yao (zwg Γ S t (ρ y) (ρ x)):=f6 rfl rfl
theorem zrk:zgp P Γ own ρ ⟨d,.makeSlice t x y,ty,pos,e,g⟩ S=zjd Γ S t (ρ x) (ρ y):=f6 rfl rfl
theorem ybu:zgp P Γ own ρ ⟨d,.convert t t2 x,ty,pos,e,g⟩ S=bif ownD own d then zse Γ S t t2 (ρ x) else zhx S (zrf Γ S t t2 (ρ x)):=f6 rfl rfl
theorem yby:zgm P Γ ρ ⟨d,.convert t t2 x,ty,pos,e,g⟩ S=zrf Γ S t t2 (ρ x):=f6 rfl rfl
theorem zai {n:Nat} {parts:Array (Nat×f7)}:zgp P Γ own ρ ⟨d,.buildSlice t n parts,ty,pos,e,g⟩ S=bif ownD own d then zar Γ S ρ t n parts.toList else zhx S (zam Γ ρ t n parts.toList):=f6 rfl rfl
theorem zao {n:Nat} {parts:Array (Nat×f7)}:zgm P Γ ρ ⟨d,.buildSlice t n parts,ty,pos,e,g⟩ S=zam Γ ρ t n parts.toList:=f6 rfl rfl
theorem yig:zgm P Γ ρ ⟨d,.call ⟨.builtin .len,#[x],#[t]⟩,ty,pos,e,g⟩ S=tLen Γ S t (ρ x):=f6 rfl rfl
theorem yid:zgp P Γ own ρ ⟨d,.call ⟨.builtin .len,#[x],#[t]⟩,ty,pos,e,g⟩ S=zhx S (tLen Γ S t (ρ x)):=f6 rfl rfl
theorem z00:zgp P Γ own ρ ⟨d,.call ⟨.builtin .append,#[x,y],#[t,t2]⟩,ty,pos,e,g⟩ S=bif srcT Γ t2 then zmn Γ S t (ρ y) (ρ x) else none:=f6 rfl rfl
theorem yfz:zgp P Γ own ρ ⟨d,.call ⟨.builtin .clear,#[x],#[t]⟩,ty,pos,e,g⟩ S=zta Γ S t (ρ x):=f6 rfl rfl
def minT (a b:T):Option T:=match a,b with|.int k a,.int _ b=>some (.int k (min a b))|_,_=>none
def maxT (a b:T):Option T:=match a,b with|.int k a,.int _ b=>some (.int k (max a b))|_,_=>none
theorem z67 {k k':iu} {a b:Int}:minT (.int k a) (.int k' b)=some (.int k (min a b)):=f6 rfl rfl
theorem z68 {k k':iu} {a b:Int}:maxT (.int k a) (.int k' b)=some (.int k (max a b)):=f6 rfl rfl
theorem ybv {tys:Array gm}:zgm P Γ ρ ⟨d,.call ⟨.builtin .min,#[x,y],tys⟩,ty,pos,e,g⟩ S=minT (ρ x) (ρ y):=by
  show (match ρ x,ρ y with|.int k a,.int _ b=>some (fh k (min a b))|_,_=>none)=_;cases ρ x<;>cases ρ y<;>rfl
theorem yib {tys:Array gm}:zgp P Γ own ρ ⟨d,.call ⟨.builtin .min,#[x,y],tys⟩,ty,pos,e,g⟩ S=zhx S (minT (ρ x) (ρ y)):=by
  show zhx S (zgm P Γ ρ ⟨d,.call ⟨.builtin .min,#[x,y],tys⟩,ty,pos,e,g⟩ S)=_;rw [ybv]
theorem ybw {tys:Array gm}:zgm P Γ ρ ⟨d,.call ⟨.builtin .max,#[x,y],tys⟩,ty,pos,e,g⟩ S=maxT (ρ x) (ρ y):=by
  show (match ρ x,ρ y with|.int k a,.int _ b=>some (fh k (max a b))|_,_=>none)=_;cases ρ x<;>cases ρ y<;>rfl
theorem yic {tys:Array gm}:zgp P Γ own ρ ⟨d,.call ⟨.builtin .max,#[x,y],tys⟩,ty,pos,e,g⟩ S=zhx S (maxT (ρ x) (ρ y)):=by
  show zhx S (zgm P Γ ρ ⟨d,.call ⟨.builtin .max,#[x,y],tys⟩,ty,pos,e,g⟩ S)=_;rw [ybw]
theorem yh6 {b:BinOp} {k k':iu} {m n:Int}:tBin P Γ S t b x y (.int k m) (.int k' n)=zbq b k k' m n:=f6 rfl rfl
theorem yh5 {b:BinOp} {m n:ByteArray}:tBin P Γ S t b x y (.str m) (.str n)=zwj b m n:=f6 rfl rfl
theorem yh9 {m n:ByteArray}:zwj .eql m n=some (.bool (decide (m=n))):=f6 rfl rfl
theorem yh8 {m n:ByteArray}:zwj .neq m n=some (.bool (!decide (m=n))):=f6 rfl rfl
theorem yh3 {b:Bool}:tUn .not (.bool b)=some (.bool (!b)):=f6 rfl rfl
theorem yh4 {k:iu} {n:Int}:tUn .neg (.int k n)=some (.int k (k.wrap (0 - n))):=f6 rfl rfl
end
section
variable {k:iu} {a b:Int}
theorem yje:zbq .add k k a b=some (.int k (k.wrap (a+b))):=by simp [zbq]
theorem yi6:zbq .sub k k a b=some (.int k (k.wrap (a - b))):=by simp [zbq]
theorem yi8:zbq .mul k k a b=some (.int k (k.wrap (a*b))):=by simp [zbq]
theorem yjd:zbq .eql k k a b=some (.bool (decide (a=b))):=by simp [zbq]
theorem yi7:zbq .neq k k a b=some (.bool (decide (a≠b))):=by simp [zbq]
theorem yi9:zbq .lss k k a b=some (.bool (decide (a<b))):=by simp [zbq]
theorem yja:zbq .leq k k a b=some (.bool (decide (a<=b))):=by simp [zbq]
theorem yjb:zbq .gtr k k a b=some (.bool (decide (b<a))):=by simp [zbq]
theorem yjc:zbq .geq k k a b=some (.bool (decide (b<=a))):=by simp [zbq]
theorem zf2 (ha:0<=a) (hb:0<b):zbq .quo k k a b=some (.int k (k.wrap (a / b))):=by
  simp only [zbq,ja,cond_true];rw [zAd (by omega),Int.tdiv_eq_ediv_of_nonneg ha]
theorem zf1 (ha:0<=a) (hb:0<b):zbq .rem k k a b=some (.int k (a % b)):=by
  simp only [zbq,ja,cond_true];rw [zAd (by omega),Int.tmod_eq_emod_of_nonneg ha]
theorem yob:zbq .and k k a b=some (.int k (k.wrap (i8 k.bits a &&& i8 k.bits b).toNat)):=by simp [zbq]
theorem ib_or:zbq .or k k a b=some (.int k (k.wrap (i8 k.bits a ||| i8 k.bits b).toNat)):=by simp [zbq]
theorem yn8:zbq .xor k k a b=some (.int k (k.wrap (i8 k.bits a ^^^ i8 k.bits b).toNat)):=by simp [zbq]
theorem yoa {k':iu} (hb:0<=b):zbq .shl k k' a b=some (.int k (k.wrap (a*2 ^ (min b.toNat k.bits)))):=by simp [zbq,hb]
theorem yn9 {k':iu} (hb:0<=b):zbq .shr k k' a b=some (.int k (a.fdiv (2 ^ (min b.toNat k.bits)))):=by simp [zbq,hb]
theorem wr64 {n:Int} (h:-9223372036854775808<=n/\n<=9223372036854775807):IntKind.i64.wrap n=n:=ylz h
theorem yc4 {n:Int} (h:0<=n):natT (.int k n)=some n.toNat:=by
  obtain ⟨m,rfl⟩:=jt h;rfl
theorem yc6 {n:Int} (h:0<=n):zhq (.int k n)=some n.toNat:=by
  obtain ⟨m,rfl⟩:=jt h;rfl
theorem zw4 {n:Int}:zeh (.int k n)=.int k n:=f6 rfl rfl
theorem yg3 {α:Type} [Inhabited α] {L:List α} {n:Nat} (h:n<L.length):L[n]?=some (L.getD n default):=by
  rw [fo,fk h];rfl
def stL (l:List Box):TS:=⟨l.length,fun i=>l.getD i .gone⟩
theorem zs3:ts0=stL []:=rfl
theorem st_n (l:List Box):(stL l).n=l.length:=rfl
theorem yh7 (l:List Box) (i:Nat):(stL l).box i=l.getD i .gone:=rfl
theorem z0q (l:List Box) (x:Box):(stL l).add x=stL (l++[x]):=by
  unfold stL TS.add;simp only [fx,gh,je];congr 1;funext i;by_cases hi:i<l.length
  . rw [zAd (by omega),fo,fo,gi hi]
  . by_cases he:i=l.length
    . subst he;rw [zAc rfl];simp
    . rw [zAd he,fo,fo,jw (by omega),jw (by simp;omega)]
theorem zec (l:List Box) (b:Nat) (x:Box) (h:b<l.length):(stL l).set b x=stL (l.set b x):=by
  unfold stL TS.set;simp only [List.length_set];congr 1;funext i;rw [fo,fo,List.getElem?_set];by_cases hi:i=b
  . subst hi;rw [zAc rfl,zAc rfl,zAc h];rfl
  . rw [zAd hi,zAd (fun hh=>hi hh.symm)]
theorem z2g {α:Type} (x d:α) (l:List α):(x :: l).getD 0 d=x:=rfl
theorem z2h {α:Type} (x d:α) (l:List α) (n:Nat):(x :: l).getD (n+1) d=l.getD n d:=rfl
end
def zi2 (l:List Nat) (h:Nat->T):Nat->T:=fun t=>if t∈l then h t else .junk
def zfz:List Nat->Nat->(Nat->T)->Prop
  |[],_,_=>True
  |t :: l,n,h=>(h t).ids n=true/\zfz l n h
theorem zoz {n:Nat} {h:Nat->T}:∀ {l:List Nat},zfz l n h->∀ t,t∈l->(h t).ids n=true
  |[],_,t,ht=>by simp at ht
  |x :: l,k,t,ht=>by
    rcases List.mem_cons.1 ht with rfl|ht
    . exact k.1
    . exact zoz k.2 t ht
def zd1 (n:Nat):List Box->Bool
  |[]=>true
  |b :: l=>zhv n b && zd1 n l
theorem yla {l:List T} {i:Nat} {x:T} (h:i<l.length):spl l i [x]=l.set i x:=by
  unfold spl;rw [List.set_eq_take_append_cons_drop,zAc h];simp
theorem yle {α:Type} {L:List α} {f:α->T} {i:Nat} {v:α}:(L.map f).set i (f v)=(L.set i v).map f:=(List.map_set).symm
theorem yld {l:List T}:spl l 0 []=l:=by simp [spl]
theorem ynd {a:T} {l xs:List T} {n:Nat}:spl (a :: l) (n+1) xs=a :: spl l n xs:=by
  unfold spl;rw [show n+1+xs.length=(n+xs.length)+1 by omega];simp
theorem yne {a x:T} {l xs:List T}:spl (a :: l) 0 (x :: xs)=x :: spl l 0 xs:=by simp [spl]
theorem ylb {α:Type} {L:List α} {f:α->T} {i:Nat} {v:α} (h:i<L.length):spl (L.map f) i [f v]=(L.set i v).map f:=by
  rw [yla (by rw [fq];exact h),yle]
theorem yb7 (n:Nat) (k:iu) (z:Int):rep n [.int k z]=(List.replicate n z).map (fh k):=by
  unfold rep
  induction n with
  |zero=>rfl
  |succ n ih=>rw [jc,ii,ih,jc];rfl
theorem z6i (n:Nat) (z:Bool):rep n [.bool z]=(List.replicate n z).map sp:=by
  unfold rep
  induction n with
  |zero=>rfl
  |succ n ih=>rw [jc,ii,ih,jc];rfl
theorem zlj {α:Type} {L:List α} {f:α->T} (h:∀ x,(f x).cells=[f x]):(L.map f).flatMap jd=L.map f:=by
  induction L with
  |nil=>rfl
  |cons x l ih=>rw [i4,jb,h,ih];rfl
theorem z7a {α:Type} {S:TS} {b N:Nat} {z:Bool} {L:List α} {f:α->T} (h1:∀ x,(f x).cells=[f x]) (hS:S.box b=.cells z N (L.map f)) (hl:L.length=N):yht S (.arr b 1 0 N N N) (.lst 1 (L.map f)) :=
  .inr ⟨b,1,0,N,N,N,z,L.map f,L.map f,rfl,rfl,hS,by omega,by omega,by rw [gp,qi,ij (by rw [fq];omega),zlj h1],fun t ht=>by obtain ⟨x,_,rfl⟩:=jo.1 ht;rw [h1];rfl,by rw [fq];exact hl,fp _⟩
section
variable {GL:List (Nat×List Value)} {A A' A2:Nat->Prop} {β β' β2:Bx} {S S' S2:TS} {s s' s2:CS} {P:gn} {Γ:Env} {N:Nat} {h h' h2:Nat->T} {Q R:Exit->(Nat->T)->TS->Prop}
theorem zj9 {l:List Nat} {t:Nat} (ht:t∈l):zi2 l h t=h t:=zAc ht
theorem znn {n:Nat} {l:List Box}:∀ {i:Nat},zd1 n l=true->zhv n (l.getD i .gone)=true:=by
  induction l with
  |nil=>intro i _;rfl
  |cons b l ih =>
    intro i h;simp only [zd1,fj] at h
    cases i with
    |zero=>exact h.1
    |succ i=>exact ih h.2
theorem Left.trim {fr fr':Fr} {keep:List Nat} {bs bs2 extra:List Box} (hT:TRel GL A β (stL bs) s) (k:Left GL A β s N fr' s' h' (stL (bs2++extra))) (hl:bs2.length=bs.length) (hb:zd1 bs.length bs2=true) (hk:zfz keep bs.length h'):Left GL A β s N fr' s' (zi2 keep h') (stL bs2):=by
  obtain ⟨A',β',k1,k2,k3⟩:=k;have hat:∀ b,b<bs.length->bcut β' bs.length b=β' b:=fun b hb=>zAc hb
  have hsub:∀ b l,bcut β' bs.length b=some l->β' b=some l:=fun b l h=>by
    unfold bcut at h;split at h
    . exact h
    . simp at h
  have hkp:zrc (stL (bs2++extra)) (stL bs2):=by
    refine ⟨by simp [stL],fun b=>?_⟩;by_cases hbl:b<bs2.length
    . refine .inr ⟨hbl,?_,?_⟩
      . show bs2.getD b .gone=(bs2++extra).getD b .gone;rw [fo,fo,gi hbl]
      . show zhv bs2.length ((bs2++extra).getD b .gone)=true;rw [fo,gi hbl,<- fo,hl];exact znn hb
    . left;show bs2.getD b .gone=.gone;rw [fo,jw (by omega)];rfl
  have hcut:=k2.cut hkp;have hn:(stL bs2).n=bs.length:=hl;rw [hn] at hcut;refine ⟨A',bcut β' bs.length,⟨k1.nt,k1.le,fun t=>?_⟩,hcut,k3.can,k3.sub,k3.new,fun f hf=>?_,k3.keep,fun b l hb'=>?_,k3.rd,k3.wr⟩
  . by_cases ht:t∈keep
    . rw [zj9 ht];exact (k1.slot t).ids hat (zoz hk t ht)
    . rw [show zi2 keep h' t=.junk from zAd ht];exact .junk _
  . obtain ⟨b,hb'⟩:=hf;exact k3.own f ⟨b,hb'.imp (fun ⟨u,N,h⟩=>⟨u,N,hsub _ _ h⟩) fun h=>hsub _ _ h⟩
  . obtain ⟨l',c1,c2⟩:=k3.bx b l hb'
    have:b<bs.length:=by
      by_cases hh:b<bs.length
      . exact hh
      . rw [hT.next b (by show bs.length<=b;omega)] at hb';simp at hb'
    exact ⟨l',by rw [hat b this];exact c1,c2⟩
def yow (keep:List Nat) (n:Nat) (I:Nat->(Nat->T)->List Box->Prop) (m0:Nat) (h':Nat->T) (S':TS):Prop :=
  ∃ m,m<m0/\∃ bs',S'=stL bs'/\n<=bs'.length/\zd1 n (bs'.take n)=true/\zfz keep n h'/\I m (zi2 keep h') (bs'.take n)
theorem TW.loopT {b:Code} (keep:List Nat) (I:Nat->(Nat->T)->List Box->Prop) (hb:∀ m h bs,I m h bs->TW P Γ GL N b h (stL bs) (onT (fun h' S'=>yow keep bs.length I m h' S') Q)):∀ m h bs,I m h bs->TW P Γ GL N (.loop b) h (stL bs) Q:=by
  intro m
  induction m using Nat.strongRecOn with
  |_ m ih =>
    intro h bs hI A β fr s hF hT;obtain ⟨e,fr1,s1,h1,h',S',hleft,hq⟩:=hb m h bs hI A β fr s hF hT
    cases e with
    |normal =>
      obtain ⟨m2,hm,bs',rfl,hl,hbi,hki,hI'⟩:=hq;have hl2:=Left.trim (fr:=fr) (keep:=keep) (bs2:=bs'.take bs.length) (extra:=bs'.drop bs.length) hT (by rw [i9];exact hleft) (by rw [ik];omega) hbi hki;obtain ⟨A',β',k1,k2,k3⟩:=hl2;obtain ⟨e2,fr2,s2,h3,h2,S2,l2,q2⟩:=ih m2 hm _ _ hI' A' β' fr1 s1 k1 k2;exact ⟨e2,fr2,s2,Ev.again h1 h3,h2,S2,Left.trans (h':=h) (fr':=fr) hT.le k3 l2,q2⟩
    |_=>exact ⟨_,_,_,Ev.last h1 (by simp),h',S',hleft,hq⟩
def Ends (keep:List Nat) (n:Nat) (R:(Nat->T)->List Box->Prop) (h':Nat->T) (S':TS):Prop :=
  ∃ bs',S'=stL bs'/\n<=bs'.length/\zd1 n (bs'.take n)=true/\zfz keep n h'/\R (zi2 keep h') (bs'.take n)
theorem TRel.freezeP (hT:TRel GL A β S s) {b M:Nat} {z:Bool} {l:List T} (hS:S.box b=.cells z M l) :
    ∃ A' β',TRel GL A' β' (S.set b .gone) s/\Stp A β s A' β' s/\∀ {v:Value},VT A β (zaa s.obj) (.ptr b 0 M) v->VT A' β' (zaa s.obj) (.cp l) v:=by
  obtain ⟨hlN,hc⟩:=hT.cells b z M l hS;rcases hc with ⟨hb,hN,_⟩|⟨f,u,cs,rest,hb,hz,hat,hvl,hone⟩
  . obtain ⟨k1,k2⟩:=hT.dead hb A (fun _ h=>h) (fun _ h=>.inl h);refine ⟨_,_,k1,k2,fun {v} hv=>?_⟩;obtain ⟨f,u,rfl,hb'⟩:=zkl hT hS hv;rw [hb] at hb';simp at hb'
  . obtain ⟨k1,k2⟩:=hT.dead hb (fun k=>A k\/k=f) (fun _ h=>.inl h) (fun k hk=>hk.imp id fun q=>by rw [q];rfl);refine ⟨_,_,k1,k2,fun {v} hv=>?_⟩;obtain ⟨f',u',rfl,hb'⟩:=zkl hT hS hv;rw [hb] at hb';cases hb'
    have hrow:zbp (zaa s.obj f).rows u=some cs:=by
      rw [hat];show zbp ((u,cs) :: rest) u=some cs;unfold zbp;rw [ja];rfl
    exact .cp (.inr rfl) hrow (hvl.mono (fun _ h=>.inl h) (fun _ _=>rfl) k2.bx) (by rw [gp,l9])
theorem TW.freezeP {c:Code} (t:Nat) {b M:Nat} {z:Bool} {l:List T} (ht:h t=.ptr b 0 M) (hS:S.box b=.cells z M l) (k:TW P Γ GL N c (tupd h t (.cp l)) (S.set b .gone) Q):TW P Γ GL N c h S Q:=by
  intro A β fr s hF hT;obtain ⟨A',β',k1,k2,k3⟩:=hT.freezeP hS;have hv:=hF.slot t;rw [ht] at hv
  have hF':FrOk A' β' (zaa s.obj) N (tupd h t (.cp l)) fr:=⟨hF.nt,hF.le,fun u=>by
    by_cases hu:u=t
    . subst hu;rw [zhf];exact k3 hv
    . rw [zln _ _ _ _ hu];exact k2.vt hT (hF.slot u)⟩
  refine (k A' β' fr s hF' k1).mono ?_;rintro e2 fr2 s2 ⟨h2,S2,l2,q2⟩;exact ⟨h2,S2,Left.trans (h':=h) (fr':=fr) hT.le k2 l2,q2⟩
theorem TW.cut {a:Code} {k:(Nat->T)->TS->Prop} (keep:List Nat) {bs:List Box} (R:(Nat->T)->List Box->Prop) (hR:TW P Γ GL N a h (stL bs) fun e h' S'=>e=.normal/\Ends keep bs.length R h' S') (hk:∀ h bs2,R h bs2->k h (stL bs2)):TW P Γ GL N a h (stL bs) (onT k Q):=by
  intro A β fr s hF hT;obtain ⟨e,fr1,s1,h1,h',S',hleft,rfl,bs',rfl,hl,hbi,hki,hq⟩:=hR A β fr s hF hT;exact ⟨_,fr1,s1,h1,_,_,Left.trim (fr:=fr) (keep:=keep) (bs2:=bs'.take bs.length) (extra:=bs'.drop bs.length) hT (by rw [i9];exact hleft) (by rw [ik];omega) hbi hki,hk _ _ hq⟩
end
theorem zsl {k:iu} {n:Int}:na (fh k n)=true:=f6 rfl rfl
theorem z8m {k:iu} {n:Int}:jd (fh k n)=[(fh k n)]:=f6 rfl rfl
theorem zps {b:Bool}:na (sp b)=true:=f6 rfl rfl
theorem z3b {b:Bool}:jd (sp b)=[(sp b)]:=f6 rfl rfl
theorem zsj {b:ByteArray}:na (ph b)=true:=f6 rfl rfl
theorem z8j {b:ByteArray}:jd (ph b)=[(ph b)]:=f6 rfl rfl
theorem zsk {e:Nat} {l:List T}:na (T.lst e l)=true:=f6 rfl rfl
theorem z8l {e:Nat} {l:List T}:jd (T.lst e l)=[(T.lst e l)]:=f6 rfl rfl
theorem z1k  : na (T.nils)=true:=f6 rfl rfl
theorem z25  : jd (T.nils)=[(T.nils)]:=f6 rfl rfl
theorem z1l  : na (T.nilp)=true:=f6 rfl rfl
theorem z26  : jd (T.nilp)=[(T.nilp)]:=f6 rfl rfl
theorem z1m  : na (T.nilm)=true:=f6 rfl rfl
theorem z27  : jd (T.nilm)=[(T.nilm)]:=f6 rfl rfl
theorem z1n  : na (T.nilf)=true:=f6 rfl rfl
theorem z28  : jd (T.nilf)=[(T.nilf)]:=f6 rfl rfl
theorem z6y {b o n:Nat}:na (T.ptr b o n)=true:=f6 rfl rfl
theorem z8k {b o n:Nat}:jd (T.ptr b o n)=[(T.ptr b o n)]:=f6 rfl rfl
theorem ycv {l:List T}:na (T.cp l)=true:=f6 rfl rfl
theorem ye1 {l:List T}:jd (T.cp l)=[(T.cp l)]:=f6 rfl rfl
theorem z60 {b e o l c n:Nat}:na (T.arr b e o l c n)=true:=f6 rfl rfl
theorem z8o {b e o l c n:Nat}:jd (T.arr b e o l c n)=[(T.arr b e o l c n)]:=f6 rfl rfl
theorem yct {b:Nat}:na (T.mp b)=true:=f6 rfl rfl
theorem yez {b:Nat}:jd (T.mp b)=[(T.mp b)]:=f6 rfl rfl
theorem ycu {f:Nat} {a c:List T}:na (T.fn f a c)=true:=f6 rfl rfl
theorem ye0 {f:Nat} {a c:List T}:jd (T.fn f a c)=[(T.fn f a c)]:=f6 rfl rfl
theorem z6z {e:Nat}:na (T.emp e)=true:=f6 rfl rfl
theorem z8n {e:Nat}:jd (T.emp e)=[(T.emp e)]:=f6 rfl rfl
theorem ykw {k:iu}:aggT (.int k)=false:=f6 rfl rfl
theorem ykx  : aggT .bool=false:=f6 rfl rfl
theorem yks  : aggT .string=false:=f6 rfl rfl
theorem ykv {k:gm}:aggT (.slice k)=false:=f6 rfl rfl
theorem ykt {k:gm}:aggT (.pointer k)=false:=f6 rfl rfl
theorem yku {k k2:gm}:aggT (.map k k2)=false:=f6 rfl rfl
theorem b0:type_of% (fd (fd (fd (fd (fd (@ybz) (@yb0)) (fd (@z03) (@ztq))) (fd (fd (@ztp) (@z6b)) (fd (@ycz) (@yiv)))) (fd (fd (fd (@ycw) (@z8t)) (fd (@yb1) (@yb2))) (fd (fd (@z04) (@zts)) (fd (@ztr) (@z6d))))) (fd (fd (fd (fd (@z65) (@ycx)) (fd (@z61) (@z3c))) (fd (fd (@yap) (@yaq)) (fd (@yas) (@yat)))) (fd (fd (fd (@yar) (@zwl)) (fd (@zwm) (@yeb))) (fd (fd (@z7s) (@z0l)) (fd (@zwc) (@z14)))))):=fd (fd (fd (fd (fd (@ybz) (@yb0)) (fd (@z03) (@ztq))) (fd (fd (@ztp) (@z6b)) (fd (@ycz) (@yiv)))) (fd (fd (fd (@ycw) (@z8t)) (fd (@yb1) (@yb2))) (fd (fd (@z04) (@zts)) (fd (@ztr) (@z6d))))) (fd (fd (fd (fd (@z65) (@ycx)) (fd (@z61) (@z3c))) (fd (fd (@yap) (@yaq)) (fd (@yas) (@yat)))) (fd (fd (fd (@yar) (@zwl)) (fd (@zwm) (@yeb))) (fd (fd (@z7s) (@z0l)) (fd (@zwc) (@z14)))))
theorem b1:type_of% (fd (fd (fd (fd (fd (@zxi) (@z8p)) (fd (@z8r) (@ycm))) (fd (fd (@ycn) (@zqd)) (fd (@zja) (@yei)))) (fd (fd (fd (@z2s) (@yix)) (fd (@zlz) (@yiw))) (fd (fd (@ydk) (@ydl)) (fd (@ydm) (@ydn))))) (fd (fd (fd (fd (@zv7) (@zv8)) (fd (@yd2) (@z2d))) (fd (fd (@yd1) (@z7p)) (fd (@yi4) (@z7o)))) (fd (fd (fd (@zca) (@yd3)) (fd (@z7k) (@zuo))) (fd (fd (@yi5) (@yn7)) (fd (@yd4) (@yi3)))))):=fd (fd (fd (fd (fd (@zxi) (@z8p)) (fd (@z8r) (@ycm))) (fd (fd (@ycn) (@zqd)) (fd (@zja) (@yei)))) (fd (fd (fd (@z2s) (@yix)) (fd (@zlz) (@yiw))) (fd (fd (@ydk) (@ydl)) (fd (@ydm) (@ydn))))) (fd (fd (fd (fd (@zv7) (@zv8)) (fd (@yd2) (@z2d))) (fd (fd (@yd1) (@z7p)) (fd (@yi4) (@z7o)))) (fd (fd (fd (@zca) (@yd3)) (fd (@z7k) (@zuo))) (fd (fd (@yi5) (@yn7)) (fd (@yd4) (@yi3)))))
theorem b2:type_of% (fd (fd (fd (fd (fd (@zup) (@zru)) (fd (@z7l) (@zrw))) (fd (fd (@z7n) (@zrv)) (fd (@z7m) (@zxw)))) (fd (fd (fd (@zxx) (@ybs)) (fd (@zgn) (@z0z))) (fd (fd (@z01) (@ybt)) (fd (@ybx) (@zgn))))) (fd (fd (fd (fd (@zgn) (@zgn)) (fd (@zgn) (@zrm))) (fd (fd (@zro) (@zgn)) (fd (@zgn) (@zrl)))) (fd (fd (fd (@zrn) (@z55)) (fd (@z59) (@zws))) (fd (fd (@zwt) (@yni)) (fd (@ynj) (@yif)))))):=fd (fd (fd (fd (fd (@zup) (@zru)) (fd (@z7l) (@zrw))) (fd (fd (@z7n) (@zrv)) (fd (@z7m) (@zxw)))) (fd (fd (fd (@zxx) (@ybs)) (fd (@zgn) (@z0z))) (fd (fd (@z01) (@ybt)) (fd (@ybx) (@zgn))))) (fd (fd (fd (fd (@zgn) (@zgn)) (fd (@zgn) (@zrm))) (fd (fd (@zro) (@zgn)) (fd (@zgn) (@zrl)))) (fd (fd (fd (@zrn) (@z55)) (fd (@z59) (@zws))) (fd (fd (@zwt) (@yni)) (fd (@ynj) (@yif)))))
theorem b3:type_of% (fd (fd (fd (fd (fd (@yih) (@z56)) (fd (@z6a) (@z54))) (fd (fd (@z58) (@ztm)) (fd (@ztn) (@ybr)))) (fd (fd (fd (@z33) (@ybu)) (fd (@yby) (@zai))) (fd (fd (@zao) (@yid)) (fd (@yig) (@yib))))) (fd (fd (fd (fd (@ybv) (@yic)) (fd (@ybw) (@z57))) (fd (fd (@yie) (@z53)) (fd (@zrk) (@z00)))) (fd (fd (fd (@zgn) (@ycj)) (fd (@yck) (@z67))) (fd (fd (@z68) (@yh6)) (fd (@yh5) (@yh9)))))):=fd (fd (fd (fd (fd (@yih) (@z56)) (fd (@z6a) (@z54))) (fd (fd (@z58) (@ztm)) (fd (@ztn) (@ybr)))) (fd (fd (fd (@z33) (@ybu)) (fd (@yby) (@zai))) (fd (fd (@zao) (@yid)) (fd (@yig) (@yib))))) (fd (fd (fd (fd (@ybv) (@yic)) (fd (@ybw) (@z57))) (fd (fd (@yie) (@z53)) (fd (@zrk) (@z00)))) (fd (fd (fd (@zgn) (@ycj)) (fd (@yck) (@z67))) (fd (fd (@z68) (@yh6)) (fd (@yh5) (@yh9)))))
theorem b4:type_of% (fd (fd (fd (fd (fd (@yh8) (@yh3)) (fd (@yh4) (@zbb))) (fd (fd (@zw4) (@yc4)) (fd (@yc6) (@yb7)))) (fd (fd (fd (@z6i) (@yld)) (fd (@ynd) (@yne))) (fd (fd (@yje) (@yi6)) (fd (@yi8) (@yjd))))) (fd (fd (fd (fd (@yi7) (@yi9)) (fd (@yja) (@yjb))) (fd (fd (@yjc) (@zf2)) (fd (@zf1) (@zs3)))) (fd (fd (fd (@st_n) (@yh7)) (fd (@z0q) (@zec))) (fd (fd (@z2g) (@z2h)) (fd (@cond_true.{1}) (@cond_false.{1})))))):=fd (fd (fd (fd (fd (@yh8) (@yh3)) (fd (@yh4) (@zbb))) (fd (fd (@zw4) (@yc4)) (fd (@yc6) (@yb7)))) (fd (fd (fd (@z6i) (@yld)) (fd (@ynd) (@yne))) (fd (fd (@yje) (@yi6)) (fd (@yi8) (@yjd))))) (fd (fd (fd (fd (@yi7) (@yi9)) (fd (@yja) (@yjb))) (fd (fd (@yjc) (@zf2)) (fd (@zf1) (@zs3)))) (fd (fd (fd (@st_n) (@yh7)) (fd (@z0q) (@zec))) (fd (fd (@z2g) (@z2h)) (fd (@cond_true.{1}) (@cond_false.{1})))))
theorem b5:type_of% (fd (fd (fd (fd (fd (@List.toList_toArray.{0}) (@i4.{0,0})) (fd (@pd.{0,0}) (@gh.{0}))) (fd (fd (@je.{0}) (@fq.{0,0})) (fd (@gz.{0}) (@lh.{0})))) (fd (fd (fd (@lj.{0,0}) (@ov.{0,0})) (fd (@Option.map_none.{0,0}) (@gg.{0}))) (fd (fd (@gq.{0}) (@gt.{0})) (fd (@jn.{0}) (@List.all_nil.{0}))))) (fd (fd (fd (fd (@gp.{0}) (@kv.{0})) (fd (@ng.{0}) (@m7.{0}))) (fd (fd (@ld.{0}) (@lw.{0})) (fd (@n6) (@jy)))) (fd (fd (fd (@gc) (@iv)) (fd (@Bool.not_false) (@Bool.false_and))) (fd (fd (@Bool.and_false) (@zhe)) (fd (@z8v) (@zh3)))))):=fd (fd (fd (fd (fd (@List.toList_toArray.{0}) (@i4.{0,0})) (fd (@pd.{0,0}) (@gh.{0}))) (fd (fd (@je.{0}) (@fq.{0,0})) (fd (@gz.{0}) (@lh.{0})))) (fd (fd (fd (@lj.{0,0}) (@ov.{0,0})) (fd (@Option.map_none.{0,0}) (@gg.{0}))) (fd (fd (@gq.{0}) (@gt.{0})) (fd (@jn.{0}) (@List.all_nil.{0}))))) (fd (fd (fd (fd (@gp.{0}) (@kv.{0})) (fd (@ng.{0}) (@m7.{0}))) (fd (fd (@ld.{0}) (@lw.{0})) (fd (@n6) (@jy)))) (fd (fd (fd (@gc) (@iv)) (fd (@Bool.not_false) (@Bool.false_and))) (fd (fd (@Bool.and_false) (@zhe)) (fd (@z8v) (@zh3)))))
theorem b6:type_of% (fd (fd (fd (fd (fd (@ja) (@jk)) (fd (@i5) (@jq))) (fd (fd (@qi) (@lf.{0})) (fd (@ownD.eq_1) (@ownD.eq_2)))) (fd (fd (fd (@has.eq_1) (@has.eq_2)) (fd (@tLen.eq_1) (@zs8.eq_1))) (fd (fd (@zs8.eq_2) (@zwg.eq_1)) (fd (@z4j.eq_1) (@tBox.eq_1))))) (fd (fd (fd (fd (@zwi.eq_1) (@zgi.eq_1)) (fd (@zgi.eq_2) (@zll.eq_1))) (fd (fd (@zll.eq_2) (@zll.eq_3)) (fd (@zll.eq_4) (@zll.eq_5)))) (fd (fd (fd (@zll.eq_6) (@zll.eq_7)) (fd (@zh4.eq_1) (@zs9.eq_1))) (fd (fd (@zlo.eq_1) (@zkz.eq_1)) (fd (@zkz.eq_2) (@zkz.eq_3)))))):=fd (fd (fd (fd (fd (@ja) (@jk)) (fd (@i5) (@jq))) (fd (fd (@qi) (@lf.{0})) (fd (@ownD.eq_1) (@ownD.eq_2)))) (fd (fd (fd (@has.eq_1) (@has.eq_2)) (fd (@tLen.eq_1) (@zs8.eq_1))) (fd (fd (@zs8.eq_2) (@zwg.eq_1)) (fd (@z4j.eq_1) (@tBox.eq_1))))) (fd (fd (fd (fd (@zwi.eq_1) (@zgi.eq_1)) (fd (@zgi.eq_2) (@zll.eq_1))) (fd (fd (@zll.eq_2) (@zll.eq_3)) (fd (@zll.eq_4) (@zll.eq_5)))) (fd (fd (fd (@zll.eq_6) (@zll.eq_7)) (fd (@zh4.eq_1) (@zs9.eq_1))) (fd (fd (@zlo.eq_1) (@zkz.eq_1)) (fd (@zkz.eq_2) (@zkz.eq_3)))))
theorem b7:type_of% (fd (fd (fd (fd (fd (@zs7.eq_1) (@zrf.eq_1)) (fd (@TS.has.eq_1) (@zjd.eq_1))) (fd (fd (@aggT.eq_1) (@aggT.eq_2)) (fd (@ykw) (@ykx)))) (fd (fd (fd (@yks) (@ykv)) (fd (@ykt) (@yku))) (fd (fd (@jd.eq_1) (@na.eq_1)) (fd (@na.eq_2) (@na.eq_3))))) (fd (fd (fd (fd (@zsl) (@z8m)) (fd (@zps) (@z3b))) (fd (fd (@zsj) (@z8j)) (fd (@zsk) (@z8l)))) (fd (fd (fd (@z1k) (@z25)) (fd (@z1l) (@z26))) (fd (fd (@z1m) (@z27)) (fd (@z1n) (@z28)))))):=fd (fd (fd (fd (fd (@zs7.eq_1) (@zrf.eq_1)) (fd (@TS.has.eq_1) (@zjd.eq_1))) (fd (fd (@aggT.eq_1) (@aggT.eq_2)) (fd (@ykw) (@ykx)))) (fd (fd (fd (@yks) (@ykv)) (fd (@ykt) (@yku))) (fd (fd (@jd.eq_1) (@na.eq_1)) (fd (@na.eq_2) (@na.eq_3))))) (fd (fd (fd (fd (@zsl) (@z8m)) (fd (@zps) (@z3b))) (fd (fd (@zsj) (@z8j)) (fd (@zsk) (@z8l)))) (fd (fd (fd (@z1k) (@z25)) (fd (@z1l) (@z26))) (fd (fd (@z1m) (@z27)) (fd (@z1n) (@z28)))))
theorem b8:type_of% (fd (fd (fd (@z6y) (fd (@z8k) (@ycv))) (fd (@ye1) (fd (@z60) (@z8o)))) (fd (fd (@yct) (fd (@yez) (@ycu))) (fd (@ye0) (fd (@z6z) (@z8n))))):=fd (fd (fd (@z6y) (fd (@z8k) (@ycv))) (fd (@ye1) (fd (@z60) (@z8o)))) (fd (fd (@yct) (fd (@yez) (@ycu))) (fd (@ye0) (fd (@z6z) (@z8n))))
theorem apA:type_of% (fd (fd (fd (@zmn.eq_1) (@zye)) (fd (@zi0) (fd (@zvb) (@Bool.or_false)))) (fd (fd (@Bool.or_self) (@jb.{0,0})) (fd (@List.flatMap_nil.{0,0}) (fd (@jm) (@m8))))):=fd (fd (fd (@zmn.eq_1) (@zye)) (fd (@zi0) (fd (@zvb) (@Bool.or_false)))) (fd (fd (@Bool.or_self) (@jb.{0,0})) (fd (@List.flatMap_nil.{0,0}) (fd (@jm) (@m8))))
theorem apB:type_of% (fd (fd (@zc7.eq_1) (@zc7.eq_2)) (fd (@zam.eq_1) (fd (@zai) (@zao)))):=fd (fd (@zc7.eq_1) (@zc7.eq_2)) (fd (@zam.eq_1) (fd (@zai) (@zao)))
theorem lzA:type_of% (fd (@gh.{0}) (fd (@je.{0}) (@i5))):=fd (@gh.{0}) (fd (@je.{0}) (@i5))
mutual
def T.ren (ρ:Nat->Nat):T->T
  |.agg l=>.agg (T.renL ρ l)
  |.tup l=>.tup (T.renL ρ l)
  |.lst e l=>.lst e (T.renL ρ l)
  |.cp l=>.cp (T.renL ρ l)
  |.ptr b o N=>.ptr (ρ b) o N
  |.arr b e o l c N=>.arr (ρ b) e o l c N
  |.mp b=>.mp (ρ b)
  |.fn f a c=>.fn f (T.renL ρ a) (T.renL ρ c)
  |.int k n=>.int k n
  |.bool b=>.bool b
  |.str b=>.str b
  |.nils=>.nils
  |.nilp=>.nilp
  |.nilm=>.nilm
  |.nilf=>.nilf
  |.junk=>.junk
  |.emp e=>.emp e
def T.renL (ρ:Nat->Nat):List T->List T
  |[]=>[]
  |t :: l=>t.ren ρ :: T.renL ρ l
end
def zer (ρ:Nat->Nat):Box->Box
  |.gone=>.gone
  |.cells z N l=>.cells z N (T.renL ρ l)
  |.map l=>.map (l.map fun p=>(p.1.ren ρ,p.2.ren ρ))
section
variable {GL:List (Nat×List Value)} {A A' A1:Nat->Prop} {β β' β0 β1:Bx} {S S' S0 S1:TS} {s s' s1:CS} {P:gn} {Γ:Env} {g g':Nat->Fam} {ρ:Nat->Nat} {n:Nat}
theorem zlv:∀ (l:List T),T.renL ρ l=l.map (T.ren ρ)
  |[]=>rfl
  |t :: l=>by rw [T.renL,i4,zlv l]
theorem zj7 (l:List T):(T.renL ρ l).length=l.length:=by rw [zlv,fq]
theorem z4a (l m:List T):T.renL ρ (l++m)=T.renL ρ l++T.renL ρ m:=by simp only [zlv,nd]
theorem ztu (t:T):(t.ren ρ).cells=T.renL ρ t.cells:=by
  cases t<;>simp only [T.ren,jd,T.renL]
theorem zzb:∀ (l:List T),(T.renL ρ l).flatMap jd=T.renL ρ (l.flatMap jd)
  |[]=>rfl
  |t :: l=>by rw [T.renL,jb,jb,ztu,zzb l,z4a]
theorem yd0:∀ {l:List T},T.idsL n l=true->∀ t,t∈l->t.ids n=true
  |[],_,t,h=>by simp at h
  |x :: l,h,t,ht=>by
    simp only [T.idsL,fj] at h;rcases List.mem_cons.1 ht with rfl|ht
    . exact h.1
    . exact yd0 h.2 t ht
mutual
theorem VT.up (hβ:∀ b,b<n->β' (ρ b)=β b):∀ {t:T} {v:Value},t.ids n=true->VT A β g t v->VT A β' g (t.ren ρ) v
  |_,_,_,.int k n=>.int k n
  |_,_,_,.bool b=>.bool b
  |_,_,_,.str b=>.str b
  |_,_,hi,.agg h=>.agg (VL.up hβ hi h)
  |_,_,hi,.tup h=>.tup (VL.up hβ hi h)
  |_,_,_,.lnil=>.lnil
  |.lst e l,_,hi,.lst h1 h2 h3 h4 h5 h6 h7 h8=>by
    have q:=VL.up hβ (zli hi) h3;rw [<- zzb] at q;have:=VT.lst (l:=T.renL ρ l) h1 h2 q (fun t ht=>by rw [zlv] at ht;obtain ⟨x,hx,rfl⟩:=jo.1 ht;rw [ztu,zj7];exact h4 x hx) h5 h6 h7 (by rw [zj7];exact h8);rw [zj7] at this;exact this
  |_,_,_,.nils=>.nils
  |_,_,_,.nilp=>.nilp
  |_,_,_,.nilm=>.nilm
  |_,_,_,.nilf=>.nilf
  |_,_,hi,.ptr h=>.ptr (by rw [hβ _ (zad.1 hi)];exact h)
  |_,_,hi,.ptrOld h h0 h1 h2=>.ptrOld (by rw [hβ _ (zad.1 hi)];exact h) h0 h1 h2
  |_,_,hi,.cp h1 h2 h3 h4=>.cp h1 h2 (VL.up hβ hi h3) h4
  |_,_,hi,.arr h ht=>.arr (by rw [hβ _ (zad.1 hi)];exact h) ht
  |_,_,hi,.arrNil h=>.arrNil (by rw [hβ _ (zad.1 hi)];exact h)
  |_,_,hi,.arrOld h h0 h1 h2=>.arrOld (by rw [hβ _ (zad.1 hi)];exact h) h0 h1 h2
  |_,_,hi,.mp h=>.mp (by rw [hβ _ (zad.1 hi)];exact h)
  |_,_,hi,.mpOld h h2=>.mpOld (by rw [hβ _ (zad.1 hi)];exact h) h2
  |_,_,hi,.fn h1 h2=>by
    simp only [T.ids,fj] at hi;exact .fn (VL.up hβ hi.1 h1) (VL.up hβ hi.2 h2)
  |_,_,_,.junk v=>.junk v
  |_,_,_,.emp h1 h2 h3 h4=>.emp h1 h2 h3 h4
theorem VL.up (hβ:∀ b,b<n->β' (ρ b)=β b):∀ {l:List T} {vs:List Value},T.idsL n l=true->VL A β g l vs->VL A β' g (T.renL ρ l) vs
  |_,_,_,.nil=>.nil
  |_,_,hi,.cons h k=>by
    simp only [T.idsL,fj] at hi;exact .cons (VT.up hβ hi.1 h) (VL.up hβ hi.2 k)
end
mutual
theorem VT.down (hβ:∀ b,b<n->β' b=β (ρ b)):∀ {t':T} {v:Value},VT A β g t' v->∀ {t:T},t.ren ρ=t'->t.ids n=true->VT A β' g t v
  |_,_,.int k m,t,e,hi=>by
    cases t<;>simp [T.ren] at e;obtain ⟨rfl,rfl⟩:=e;exact .int _ _
  |_,_,.bool b,t,e,hi=>by
    cases t<;>simp [T.ren] at e;subst e;exact .bool _
  |_,_,.str b,t,e,hi=>by
    cases t<;>simp [T.ren] at e;subst e;exact .str _
  |_,_,.agg h,t,e,hi=>by
    cases t<;>simp [T.ren] at e;exact .agg (VL.down hβ h e hi)
  |_,_,.tup h,t,e,hi=>by
    cases t<;>simp [T.ren] at e;exact .tup (VL.down hβ h e hi)
  |_,_,.lnil,t,e,hi=>by
    cases t<;>simp [T.ren] at e;rename_i e' l;obtain ⟨rfl,e⟩:=e
    cases l with
    |nil=>exact .lnil
    |cons x l=>simp [T.renL] at e
  |_,_,.lst (l:=l') h1 h2 h3 h4 h5 h6 h7 h8,t,e,hi=>by
    cases t<;>simp [T.ren] at e;rename_i e' l;have q:=VL.down hβ h3 (l:=l.flatMap jd) (by rw [<- e.2];exact (zzb l).symm) (zli hi);obtain ⟨rfl,rfl⟩:=e;have:=VT.lst (l:=l) h1 h2 q (fun t ht=>by have:=h4 (t.ren ρ) (by rw [zlv];exact List.mem_map_of_mem ht);rw [ztu,zj7] at this;exact this) h5 h6 h7 (by rw [zj7] at h8;exact h8);rw [zj7];exact this
  |_,_,.nils,t,e,hi=>by cases t<;>simp [T.ren] at e;exact .nils
  |_,_,.nilp,t,e,hi=>by cases t<;>simp [T.ren] at e;exact .nilp
  |_,_,.nilm,t,e,hi=>by cases t<;>simp [T.ren] at e;exact .nilm
  |_,_,.nilf,t,e,hi=>by cases t<;>simp [T.ren] at e;exact .nilf
  |_,_,.ptr h,t,e,hi=>by
    cases t<;>simp [T.ren] at e;obtain ⟨rfl,rfl,rfl⟩:=e;exact .ptr (by rw [hβ _ (zad.1 hi)];exact h)
  |_,_,.ptrOld h h0 h1 h2,t,e,hi=>by
    cases t<;>simp [T.ren] at e;obtain ⟨rfl,rfl,rfl⟩:=e;exact .ptrOld (by rw [hβ _ (zad.1 hi)];exact h) h0 h1 h2
  |_,_,.cp h1 h2 h3 h4,t,e,hi=>by
    cases t<;>simp [T.ren] at e;exact .cp h1 h2 (VL.down hβ h3 e hi) h4
  |_,_,.arr h ht,t,e,hi=>by
    cases t<;>simp [T.ren] at e;obtain ⟨rfl,rfl,rfl,rfl,rfl,rfl⟩:=e;exact .arr (by rw [hβ _ (zad.1 hi)];exact h) ht
  |_,_,.arrNil h,t,e,hi=>by
    cases t<;>simp [T.ren] at e;obtain ⟨rfl,rfl,rfl,rfl,rfl,rfl⟩:=e;exact .arrNil (by rw [hβ _ (zad.1 hi)];exact h)
  |_,_,.arrOld h h0 h1 h2,t,e,hi=>by
    cases t<;>simp [T.ren] at e;obtain ⟨rfl,rfl,rfl,rfl,rfl,rfl⟩:=e;exact .arrOld (by rw [hβ _ (zad.1 hi)];exact h) h0 h1 h2
  |_,_,.mp h,t,e,hi=>by
    cases t<;>simp [T.ren] at e;subst e;exact .mp (by rw [hβ _ (zad.1 hi)];exact h)
  |_,_,.mpOld h h2,t,e,hi=>by
    cases t<;>simp [T.ren] at e;subst e;exact .mpOld (by rw [hβ _ (zad.1 hi)];exact h) h2
  |_,_,.fn h1 h2,t,e,hi=>by
    cases t<;>simp [T.ren] at e;obtain ⟨rfl,e1,e2⟩:=e;simp only [T.ids,fj] at hi;exact .fn (VL.down hβ h1 e1 hi.1) (VL.down hβ h2 e2 hi.2)
  |_,_,.junk v,t,e,hi=>by cases t<;>simp [T.ren] at e;exact .junk _
  |_,_,.emp h1 h2 h3 h4,t,e,hi=>by
    cases t<;>simp [T.ren] at e;subst e;exact .emp h1 h2 h3 h4
theorem VL.down (hβ:∀ b,b<n->β' b=β (ρ b)):∀ {l':List T} {vs:List Value},VL A β g l' vs->∀ {l:List T},T.renL ρ l=l'->T.idsL n l=true->VL A β' g l vs
  |_,_,.nil,l,e,hi=>by
    cases l with
    |nil=>exact .nil
    |cons x l=>simp [T.renL] at e
  |_,_,.cons h k,l,e,hi=>by
    cases l with
    |nil=>simp [T.renL] at e
    |cons x l =>
      simp only [T.renL,List.cons.injEq] at e;simp only [T.idsL,fj] at hi;exact .cons (VT.down hβ h e.1 hi.1) (VL.down hβ k e.2 hi.2)
end
structure Fits (ρ:Nat->Nat) (S0 S1 S S':TS):Prop where
  le:S0.n<=S1.n
  out:∀ b,S0.n<=b->S0.box b=.gone
  old:∀ i,i<S0.n->ρ i<S.n
  new:∀ i,S0.n<=i->i<S1.n->S.n<=ρ i
  top:∀ i,i<S1.n->ρ i<S'.n
  grow:S.n<=S'.n
  inj:∀ i j,i<S1.n->j<S1.n->ρ i=ρ j->i=j
  pre:∀ i,i<S0.n->S.box (ρ i)=zer ρ (S0.box i)/\zhv S0.n (S0.box i)=true
  post:∀ i,i<S1.n->S'.box (ρ i)=zer ρ (S1.box i)/\zhv S1.n (S1.box i)=true
  rest:∀ b,(∀ i,i<S1.n->ρ i≠b)->S'.box b=S.box b
open Classical in
def bmix (ρ:Nat->Nat) (m:Nat) (β1 β:Bx):Bx:=fun b=>if h:∃ i,i<m/\ρ i=b then β1 (Classical.choose h) else β b
theorem ymn {m i:Nat} (hinj:∀ i j,i<m->j<m->ρ i=ρ j->i=j) (hi:i<m):bmix ρ m β1 β (ρ i)=β1 i:=by
  unfold bmix;have h:∃ j,j<m/\ρ j=ρ i:=⟨i,hi,rfl⟩;rw [dif_pos h];have:=Classical.choose_spec h;rw [hinj _ _ this.1 hi this.2]
theorem zjb {m b:Nat} (h:∀ i,i<m->ρ i≠b):bmix ρ m β1 β b=β b:=by
  unfold bmix;rw [dif_neg (fun ⟨i,h1,h2⟩=>h i h1 h2)]
theorem z6g (l:List (T×T)):(l.map fun p=>(p.1.ren ρ,p.2.ren ρ)).map (·.1)=T.renL ρ (l.map (·.1)):=by
  rw [zlv,ra,ra];rfl
theorem z6f (l:List (T×T)):(l.map fun p=>(p.1.ren ρ,p.2.ren ρ)).map (·.2)=T.renL ρ (l.map (·.2)):=by
  rw [zlv,ra,ra];rfl
theorem Call.frame {f:mc} {args:List T} {v:T} (k:Call P Γ GL f args S0 v S1) (ha:T.idsL S0.n args=true) (hv:v.ids S1.n=true) (F:Fits ρ S0 S1 S S'):Call P Γ GL f (T.renL ρ args) S (v.ren ρ) S':=by
  intro A β s vargs hT hva;have hb0:∀ b,b<S0.n->bcut (fun i=>β (ρ i)) S0.n b=β (ρ b):=fun b hb=>zAc hb
  have hb1:∀ b l,bcut (fun i=>β (ρ i)) S0.n b=some l->b<S0.n/\β (ρ b)=some l:=fun b l h=>by
    unfold bcut at h;split at h
    . rename_i hb;exact ⟨hb,h⟩
    . simp at h
  have hown:∀ f,Own (bcut (fun i=>β (ρ i)) S0.n) f->∃ i,i<S0.n/\((∃ u N,β (ρ i)=some (.live f u N))\/β (ρ i)=some (.map f)):=fun f ⟨b,hb⟩=>by
    rcases hb with ⟨u,N,hb⟩|hb
    . exact ⟨b,(hb1 _ _ hb).1,.inl ⟨u,N,(hb1 _ _ hb).2⟩⟩
    . exact ⟨b,(hb1 _ _ hb).1,.inr (hb1 _ _ hb).2⟩
  have hown2:∀ f,Own (bcut (fun i=>β (ρ i)) S0.n) f->Own β f:=fun f hf=>by
    obtain ⟨i,_,h⟩:=hown f hf;exact ⟨ρ i,h⟩
  have hT0:TRel GL A (bcut (fun i=>β (ρ i)) S0.n) S0 s:=by
    refine ⟨hT.inr,hT.inv,hT.alt,fun f hf=>hT.dis f (hown2 f hf),fun b b' l l' f h1 h2 h3 h4=>?_,fun b hb=>zAd (by omega),fun b z N l hb=>?_,fun b l hb=>?_,hT.glob⟩
    . obtain ⟨q1,q2⟩:=hb1 _ _ h1;obtain ⟨q3,q4⟩:=hb1 _ _ h2;exact F.inj b b' (by have:=F.le;omega) (by have:=F.le;omega) (hT.inj _ _ _ _ f q2 q4 h3 h4)
    . have hlt:b<S0.n:=by
        by_cases h:b<S0.n
        . exact h
        . rw [F.out b (by omega)] at hb;simp at hb
      obtain ⟨p1,p2⟩:=F.pre b hlt;rw [hb] at p1 p2;obtain ⟨c1,c2⟩:=hT.cells _ _ _ _ p1;refine ⟨by rw [zj7] at c1;exact c1,?_⟩;rcases c2 with ⟨d1,d2,d3⟩|⟨f,u,cs,rest,d1,d2,d3,d4,d5⟩
      . exact .inl ⟨by rw [hb0 b hlt];exact d1,d2,d3⟩
      . exact .inr ⟨f,u,cs,rest,by rw [hb0 b hlt];exact d1,d2,d3,VL.down hb0 d4 rfl p2,d5⟩
    . have hlt:b<S0.n:=by
        by_cases h:b<S0.n
        . exact h
        . rw [F.out b (by omega)] at hb;simp at hb
      obtain ⟨p1,p2⟩:=F.pre b hlt;rw [hb] at p1 p2;obtain ⟨r,es,c1,c2,c3,c4⟩:=hT.maps _ _ p1;simp only [zhv,fj] at p2;rw [z6g] at c3;rw [z6f] at c4;exact ⟨r,es,by rw [hb0 b hlt];exact c1,c2,VL.down hb0 c3 rfl p2.1,VL.down hb0 c4 rfl p2.2⟩
  obtain ⟨w,s1,A1,β1,e1,e2,e3,e4⟩:=k A _ s vargs hT0 (VL.down hb0 hva rfl ha);have hin:∀ i,i<S1.n->bmix ρ S1.n β1 β (ρ i)=β1 i:=fun i hi=>ymn F.inj hi
  have hcase:∀ b,(∃ i,i<S1.n/\ρ i=b)\/(∀ i,i<S1.n->ρ i≠b):=fun b=>by
    by_cases h:∃ i,i<S1.n/\ρ i=b
    . exact .inl h
    . exact .inr fun i hi hh=>h ⟨i,hi,hh⟩
  have hone:∀ i l,β1 i=some l->i<S1.n:=fun i l h=>by
    by_cases hh:i<S1.n
    . exact hh
    . rw [e2.next i (by omega)] at h;simp at h
  have apart:∀ b f,(∀ i,i<S1.n->ρ i≠b)->((∃ u N,β b=some (.live f u N))\/β b=some (.map f))->¬ Own (bcut (fun i=>β (ρ i)) S0.n) f:=fun b f hb hf ho=>by
    obtain ⟨j,hj,h⟩:=hown f ho
    have:ρ j=b:=by
      rcases h with ⟨u,N,h⟩|h<;>rcases hf with ⟨u',N',hf⟩|hf<;>exact hT.inj _ _ _ _ f h hf rfl rfl
    exact hb j (by have:=F.le;omega) this
  have hfamO:∀ b l f,β b=some l->l.fam=some f->((∃ u N,β b=some (.live f u N))\/β b=some (.map f)):=fun b l f h hl=>by
    cases l with
    |live f' u N=>simp [om] at hl;subst hl;exact .inl ⟨u,N,h⟩
    |map r=>simp [om] at hl;subst hl;exact .inr h
    |nil=>simp [om] at hl
    |dead=>simp [om] at hl
  have hfam1:∀ i l f,β1 i=some l->l.fam=some f->Own β1 f:=fun i l f h hl=>by
    cases l with
    |live f' u N=>simp [om] at hl;subst hl;exact zc1 h
    |map r=>simp [om] at hl;subst hl;exact zm1 h
    |nil=>simp [om] at hl
    |dead=>simp [om] at hl
  have hle:Bx.le β (bmix ρ S1.n β1 β):=fun b l hb=>by
    rcases hcase b with ⟨i,hi,rfl⟩|h
    . rw [hin i hi];by_cases hip:i<S0.n
      . exact e4.bx i l (by rw [hb0 i hip];exact hb)
      . rw [hT.next _ (F.new i (by omega) hi)] at hb;simp at hb
    . exact ⟨l,by rw [zjb h];exact hb,Loc.le_refl l⟩
  have hkeep:∀ f,A f->zaa s1.obj f=zaa s.obj f:=fun f hf=>e4.keep f (hT.alt f hf) fun ho=>(hT.dis f (hown2 f ho)).2 hf
  have hmix:∀ f,Own (bmix ρ S1.n β1 β) f->Own β1 f\/∃ b,(∀ i,i<S1.n->ρ i≠b)/\((∃ u N,β b=some (.live f u N))\/β b=some (.map f)):=fun f ⟨b,hb⟩=>by
    rcases hcase b with ⟨i,hi,rfl⟩|h
    . rw [hin i hi] at hb;exact .inl ⟨i,hb⟩
    . rw [zjb h] at hb;exact .inr ⟨b,h,hb⟩
  refine ⟨w,s1,A1,bmix ρ S1.n β1 β,e1,⟨e2.inr,e2.inv,e2.alt,fun f hf=>?_,fun b b' l l' f h1 h2 h3 h4=>?_,fun b hb=>?_,fun b z N l hb=>?_,fun b l hb=>?_,e2.glob⟩,VT.up hin hv e3,⟨e4.can,e4.sub,fun f hf=>(e4.new f hf).imp id (Or.imp id (hown2 f)),fun f hf=>?_,fun f hf ho=>e4.keep f hf fun h=>ho (hown2 f h),hle,fun x hx=>(e4.rd x hx).imp id (fun ⟨a,b⟩=>⟨a,b.imp id (hown2 x)⟩),fun x hx=>(e4.wr x hx).imp id (fun ⟨a,b⟩=>⟨a,hown2 x b⟩)⟩⟩
  . rcases hmix f hf with h|⟨b,hb,h⟩
    . exact e2.dis f h
    . have hd:=hT.dis f ⟨b,h⟩;refine ⟨gr hd.1 e4.can.n,fun hA=>?_⟩;rcases e4.new f hA with q|q|q
      . exact hd.2 q
      . have:=hd.1;omega
      . exact apart b f hb h q
  . have ygn:∀ i b l l',i<S1.n->(∀ i,i<S1.n->ρ i≠b)->β1 i=some l->β b=some l'->l.fam=some f->l'.fam=some f->False:=fun i b l l' hi hb q1 q2 q3 q4=>by
      have ho:=hfamO b l' f q2 q4;rcases e4.own f (hfam1 i l f q1 q3) with q|q
      . exact apart b f hb ho q
      . have:=(hT.dis f ⟨b,ho⟩).1;omega
    rcases hcase b with ⟨i,hi,rfl⟩|hb<;>rcases hcase b' with ⟨j,hj,rfl⟩|hb'
    . rw [hin i hi] at h1;rw [hin j hj] at h2;rw [e2.inj i j l l' f h1 h2 h3 h4]
    . rw [hin i hi] at h1;rw [zjb hb'] at h2;exact (ygn i b' l l' hi hb' h1 h2 h3 h4).elim
    . rw [zjb hb] at h1;rw [hin j hj] at h2;exact (ygn j b l' l hj hb h2 h1 h4 h3).elim
    . rw [zjb hb] at h1;rw [zjb hb'] at h2;exact hT.inj b b' l l' f h1 h2 h3 h4
  . rw [zjb (fun i hi hh=>by have:=F.top i hi;omega)];exact hT.next b (by have:=F.grow;omega)
  . rcases hcase b with ⟨i,hi,rfl⟩|hbo
    . obtain ⟨p1,p2⟩:=F.post i hi;rw [hb] at p1
      cases hq:S1.box i with
      |gone=>rw [hq] at p1;simp [zer] at p1
      |map m=>rw [hq] at p1;simp [zer] at p1
      |cells z' N' l' =>
        rw [hq] at p1 p2;simp only [zer,Box.cells.injEq] at p1;obtain ⟨rfl,rfl,rfl⟩:=p1;obtain ⟨c1,c2⟩:=e2.cells _ _ _ _ hq;refine ⟨by rw [zj7];exact c1,?_⟩;rcases c2 with ⟨d1,d2,d3⟩|⟨f,u,cs,rest,d1,d2,d3,d4,d5⟩
        . exact .inl ⟨by rw [hin i hi];exact d1,d2,d3⟩
        . exact .inr ⟨f,u,cs,rest,by rw [hin i hi];exact d1,d2,d3,VL.up hin p2 d4,d5⟩
    . rw [F.rest b hbo] at hb;refine (hT.cells b z N l hb).mono e4.sub hkeep hle (zjb hbo) fun f u N' hl=>?_;exact e4.keep f (hT.dis f (zc1 hl)).1 (apart b f hbo (.inl ⟨u,N',hl⟩))
  . rcases hcase b with ⟨i,hi,rfl⟩|hbo
    . obtain ⟨p1,p2⟩:=F.post i hi;rw [hb] at p1
      cases hq:S1.box i with
      |gone=>rw [hq] at p1;simp [zer] at p1
      |cells z N m=>rw [hq] at p1;simp [zer] at p1
      |map m =>
        rw [hq] at p1 p2;simp only [zer,Box.map.injEq] at p1;subst p1;obtain ⟨r,es,c1,c2,c3,c4⟩:=e2.maps _ _ hq;simp only [zhv,fj] at p2;exact ⟨r,es,by rw [hin i hi];exact c1,c2,by rw [z6g];exact VL.up hin p2.1 c3,by rw [z6f];exact VL.up hin p2.2 c4⟩
    . rw [F.rest b hbo] at hb;refine (hT.maps b l hb).mono e4.sub hkeep hle (zjb hbo) fun r hl=>?_;exact e4.keep r (hT.dis r (zm1 hl)).1 (apart b r hbo (.inr hl))
  . rcases hmix f hf with h|⟨b,hb,h⟩
    . exact (e4.own f h).imp (hown2 f) id
    . exact .inl ⟨b,h⟩
end
theorem zab {α β:Type} {x:Option α} {f:α->Option β} {v:β} (h:x.bind f=some v):∃ a,x=some a/\f a=some v:=by
  cases x with
  |none=>cases h
  |some a=>exact ⟨a,rfl,h⟩
def gx {α:Type} [Inhabited α] (l:List α) (i:Int):α:=l.getD i.toNat default
theorem zag {α:Type} [Inhabited α] {l:List α} {i:Int} (h:0<=i/\i<(l.length:Int)):l[i.toNat]?=some (gx l i):=yg3 (by omega)
def bx (b:ByteArray) (i:Int):UInt8:=b.data.toList.getD i.toNat 0
theorem zu9 {b:ByteArray} {i:Int} (h:0<=i/\i<(b.size:Int)):b.data.toList[i.toNat]?=some (bx b i):=by
  have : i.toNat < b.data.toList.length := by have e : b.data.toList.length = b.size := by simp
                                              omega
  unfold bx;rw [fo,fk this];rfl
def vecC {α:Type} (f:α->T) (l:List α):List T:=(l.map f).flatMap jd
theorem zaw {α:Type} {f:α->T} {l l2:List α}:vecC f (l++l2)=vecC f l++vecC f l2:=by
  unfold vecC;rw [nd,List.flatMap_append]
theorem zdk {α:Type} {f:α->T} {x:α}:vecC f [x]=(f x).cells:=by
  unfold vecC;simp
theorem zbt {α:Type} {f:α->T} {e:Nat} (h:∀ x,(f x).cells.length=e):∀ (l:List α),(vecC f l).length=l.length*e
  |[]=>by simp [vecC]
  |x :: l=>by
    have ih:=zbt h l;unfold vecC at ih ⊢;rw [i4,jb,fx,h,ih,gh,jm];omega
theorem zc5 {α:Type} {f:α->T} {e n:Nat} {l:List α} (h:∀ x,(f x).cells.length=e) (hl:l.length=n):(vecC f l).take (n*e)=(l.map f).flatMap jd:=by
  have:=zbt h l;rw [ij (by rw [this,hl];exact fp _)];rfl
theorem zdp {k:iu} {l:List Int}:(l.map (fh k)).flatMap jd=l.map (fh k):=zlj fun _=>rfl
theorem zb1 {l:List Bool}:(l.map sp).flatMap jd=l.map sp:=zlj fun _=>rfl
theorem zdo {l:List ByteArray}:(l.map ph).flatMap jd=l.map ph:=zlj fun _=>rfl
theorem zdr {k:iu} {l:List Int}:(l.map (fh k)).all na=true:=by simp [na]
theorem zb3 {l:List Bool}:(l.map sp).all na=true:=by simp [na]
theorem zdq {l:List ByteArray}:(l.map ph).all na=true:=by simp [na]
section
variable {GL:List (Nat×List Value)} {A A' A2:Nat->Prop} {β β' β2:Bx} {S S' S2:TS} {s s' s2:CS} {P:gn} {Γ:Env} {N:Nat} {h h' h2:Nat->T} {Q R:Exit->(Nat->T)->TS->Prop}
theorem Left.trimN {fr fr':Fr} {keep:List Nat} {bs bs2 extra:List Box} {n:Nat} (hn:bs.length<=n) (hT:TRel GL A β (stL bs) s) (k:Left GL A β s N fr' s' h' (stL (bs2++extra))) (hl:bs2.length=n) (hb:zd1 n bs2=true) (hk:zfz keep n h'):Left GL A β s N fr' s' (zi2 keep h') (stL bs2):=by
  obtain ⟨A',β',k1,k2,k3⟩:=k;have hat:∀ b,b<n->bcut β' n b=β' b:=fun b hb=>zAc hb
  have hsub:∀ b l,bcut β' n b=some l->β' b=some l:=fun b l h=>by
    unfold bcut at h;split at h
    . exact h
    . simp at h
  have hkp:zrc (stL (bs2++extra)) (stL bs2):=by
    refine ⟨by simp [stL],fun b=>?_⟩;by_cases hbl:b<bs2.length
    . refine .inr ⟨hbl,?_,?_⟩
      . show bs2.getD b .gone=(bs2++extra).getD b .gone;rw [fo,fo,gi hbl]
      . show zhv bs2.length ((bs2++extra).getD b .gone)=true;rw [fo,gi hbl,<- fo,hl];exact znn hb
    . left;show bs2.getD b .gone=.gone;rw [fo,jw (by omega)];rfl
  have hcut:=k2.cut hkp;have hnn:(stL bs2).n=n:=hl;rw [hnn] at hcut;refine ⟨A',bcut β' n,⟨k1.nt,k1.le,fun t=>?_⟩,hcut,k3.can,k3.sub,k3.new,fun f hf=>?_,k3.keep,fun b l hb'=>?_,k3.rd,k3.wr⟩
  . by_cases ht:t∈keep
    . rw [zj9 ht];exact (k1.slot t).ids hat (zoz hk t ht)
    . rw [show zi2 keep h' t=.junk from zAd ht];exact .junk _
  . obtain ⟨b,hb'⟩:=hf;exact k3.own f ⟨b,hb'.imp (fun ⟨u,N,h⟩=>⟨u,N,hsub _ _ h⟩) fun h=>hsub _ _ h⟩
  . obtain ⟨l',c1,c2⟩:=k3.bx b l hb'
    have:b<bs.length:=by
      by_cases hh:b<bs.length
      . exact hh
      . rw [hT.next b (by show bs.length<=b;omega)] at hb';simp at hb'
    exact ⟨l',by rw [hat b (by omega)];exact c1,c2⟩
theorem TW.cutN {a:Code} (keep:List Nat) (n:Nat) {bs:List Box} (hn:bs.length<=n) (R:(Nat->T)->List Box->Prop) (hR:TW P Γ GL N a h (stL bs) (onT (fun h' S'=>Ends keep n R h' S') Q)) (hk:∀ h bs2,R h bs2->Q .normal h (stL bs2)):TW P Γ GL N a h (stL bs) Q:=by
  intro A β fr s hF hT;obtain ⟨e,fr1,s1,h1,h',S',hleft,hq⟩:=hR A β fr s hF hT
  cases e with
  |normal =>
    obtain ⟨bs',rfl,hl,hbi,hki,hq⟩:=hq;exact ⟨_,fr1,s1,h1,_,_,Left.trimN (fr:=fr) (keep:=keep) (bs2:=bs'.take n) (extra:=bs'.drop n) hn hT (by rw [i9];exact hleft) (by rw [ik];omega) hbi hki,hk _ _ hq⟩
  |_=>exact ⟨_,fr1,s1,h1,h',S',hleft,hq⟩
theorem TW.unz {c:Code} (b:Nat) {zz:Bool} {M:Nat} {l:List T} (hS:S.box b=.cells zz M l) (k:TW P Γ GL N c h (S.set b (.cells false M l)) Q):TW P Γ GL N c h S Q:=by
  intro A β fr s hF hT
  have hb:∀ b' z N l',(S.set b (.cells false M l)).box b'=.cells z N l'->∃ z0,S.box b'=.cells z0 N l'/\(z=true->z0=true):=fun b' z N l' h=>by
    by_cases hi:b'=b
    . subst hi;rw [m6] at h;cases h;exact ⟨zz,hS,fun h=>by cases h⟩
    . rw [nc _ _ hi] at h;exact ⟨z,h,id⟩
  refine k A β fr s hF ⟨hT.inr,hT.inv,hT.alt,hT.dis,hT.inj,hT.next,fun b' z N l' h=>?_,fun b' l' h=>?_,hT.glob⟩
  . obtain ⟨z0,h0,hz⟩:=hb b' z N l' h;obtain ⟨h1,h2⟩:=hT.cells b' z0 N l' h0;refine ⟨h1,?_⟩;rcases h2 with ⟨q1,q2,q3⟩|⟨f,u,cs,rest,q1,q2,q3⟩
    . exact .inl ⟨q1,q2,by cases z with|false=>rfl|true=>rw [hz rfl] at q3;exact q3⟩
    . exact .inr ⟨f,u,cs,rest,q1,fun h=>q2 (hz h),q3⟩
  . by_cases hi:b'=b
    . subst hi;rw [m6] at h;cases h
    . rw [nc _ _ hi] at h;exact hT.maps b' l' h
theorem TW.slot {c:Code} (t:Nat) {v v':T} (ht:h t=v) (hv:∀ A β (g:Nat->Fam) w,VT A β g v w->VT A β g v' w) (k:TW P Γ GL N c (tupd h t v') S Q):TW P Γ GL N c h S Q:=by
  intro A β fr s hF hT
  have hF':FrOk A β (zaa s.obj) N (tupd h t v') fr:=⟨hF.nt,hF.le,fun u=>by
    by_cases hu:u=t
    . subst hu;rw [zhf];have:=hF.slot u;rw [ht] at this;exact hv _ _ _ _ this
    . rw [zln _ _ _ _ hu];exact hF.slot u⟩
  exact k A β fr s hF' hT
theorem TW.lst0 {c:Code} (t e:Nat) (he:0<e) (ht:h t=.lst e []) (k1:TW P Γ GL N c (tupd h t .nils) S Q) (k2:TW P Γ GL N c (tupd h t (.emp e)) S Q):TW P Γ GL N c h S Q:=by
  intro A β fr s hF hT;have hs:=hF.slot t;rw [ht] at hs;rcases VT.lst_emp he hs with q|q
  . refine k1 A β fr s ⟨hF.nt,hF.le,fun u=>?_⟩ hT;by_cases hu:u=t
    . subst hu;rw [zhf];exact q
    . rw [zln _ _ _ _ hu];exact hF.slot u
  . refine k2 A β fr s ⟨hF.nt,hF.le,fun u=>?_⟩ hT;by_cases hu:u=t
    . subst hu;rw [zhf];exact q
    . rw [zln _ _ _ _ hu];exact hF.slot u
theorem TW.nilL {c:Code} (t e:Nat) (ht:h t=.nils) (k:TW P Γ GL N c (tupd h t (.lst e [])) S Q):TW P Γ GL N c h S Q:=by
  intro A β fr s hF hT;have hv:=hF.slot t;rw [ht] at hv
  have hF':FrOk A β (zaa s.obj) N (tupd h t (.lst e [])) fr:=⟨hF.nt,hF.le,fun u=>by
    by_cases hu:u=t
    . subst hu;rw [zhf];generalize fr.get u=w at hv;cases hv;exact .lnil
    . rw [zln _ _ _ _ hu];exact hF.slot u⟩
  exact k A β fr s hF' hT
mutual
theorem z7g {n m:Nat} (hnm:n<=m):∀ {t:T},t.ids n=true->t.ids m=true
  |.agg l,h=>zf0 hnm (l:=l) h
  |.tup l,h=>zf0 hnm (l:=l) h
  |.lst e l,h=>zf0 hnm (l:=l) h
  |.cp l,h=>zf0 hnm (l:=l) h
  |.ptr b o N,h=>by simp only [T.ids] at h ⊢;exact zad.2 (by have:=zad.1 h;omega)
  |.arr b e o l c N,h=>by simp only [T.ids] at h ⊢;exact zad.2 (by have:=zad.1 h;omega)
  |.mp b,h=>by simp only [T.ids] at h ⊢;exact zad.2 (by have:=zad.1 h;omega)
  |.fn f a c,h=>by
    simp only [T.ids,fj] at h ⊢;exact ⟨zf0 hnm h.1,zf0 hnm h.2⟩
  |.int _ _,_=>rfl
  |.bool _,_=>rfl
  |.str _,_=>rfl
  |.nils,_=>rfl
  |.nilp,_=>rfl
  |.nilm,_=>rfl
  |.nilf,_=>rfl
  |.junk,_=>rfl
  |.emp _,_=>rfl
theorem zf0 {n m:Nat} (hnm:n<=m):∀ {l:List T},T.idsL n l=true->T.idsL m l=true
  |[],_=>rfl
  |t :: l,h=>by
    simp only [T.idsL,fj] at h ⊢;exact ⟨z7g hnm h.1,zf0 hnm h.2⟩
end
mutual
theorem zh1 {ρ:Nat->Nat}:∀ {t:T},t.ids 0=true->t.ren ρ=t
  |.agg l,h=>by rw [T.ren,zc4 (l:=l) h]
  |.tup l,h=>by rw [T.ren,zc4 (l:=l) h]
  |.lst e l,h=>by rw [T.ren,zc4 (l:=l) h]
  |.cp l,h=>by rw [T.ren,zc4 (l:=l) h]
  |.ptr b o N,h=>by simp [T.ids,ic] at h
  |.arr b e o l c N,h=>by simp [T.ids,ic] at h
  |.mp b,h=>by simp [T.ids,ic] at h
  |.fn f a c,h=>by
    simp only [T.ids,fj] at h;rw [T.ren,zc4 (l:=a) h.1,zc4 (l:=c) h.2]
  |.int _ _,_=>rfl
  |.bool _,_=>rfl
  |.str _,_=>rfl
  |.nils,_=>rfl
  |.nilp,_=>rfl
  |.nilm,_=>rfl
  |.nilf,_=>rfl
  |.junk,_=>rfl
  |.emp _,_=>rfl
theorem zc4 {ρ:Nat->Nat}:∀ {l:List T},T.idsL 0 l=true->T.renL ρ l=l
  |[],_=>rfl
  |t :: l,h=>by
    simp only [T.idsL,fj] at h;rw [T.renL,zh1 h.1,zc4 h.2]
end
theorem zrc.one {z:Bool} {M:Nat} {cs:List T} (h:T.idsL 1 cs=true):zrc (stL [.cells z M cs]) (stL [.cells z M cs]):=by
  refine ⟨fp _,fun b=>?_⟩
  cases b with
  |zero=>exact .inr ⟨by show 0<1;omega,rfl,h⟩
  |succ b=>exact .inl rfl
theorem Call.fresh {f:mc} {args:List T} {e n c M:Nat} {z:Bool} {M2:Nat} {cs:List T} (k:Call P Γ GL f args ts0 (.arr 0 e 0 n c M) (stL [.cells z M2 cs])) (ha:T.idsL 0 args=true) (hb:T.idsL 0 cs=true) (bs:List Box):Call P Γ GL f args (stL bs) (.arr bs.length e 0 n c M) (stL (bs++[.cells z M2 cs])):=by
  have:=Call.frame (ρ:=fun i=>bs.length+i) (S:=stL bs) (S':=stL (bs++[.cells z M2 cs])) k ha (by rfl) ⟨ir _,fun b _=>rfl,fun i hi=>absurd hi (by show ¬ i<0;omega),fun i _ hi=>by show bs.length<=bs.length+i;omega,fun i hi=>by have:i<1:=hi;show bs.length+i<(bs++[_]).length;rw [fx];simp;omega,by show bs.length<=(bs++[_]).length;simp,fun i j _ _ h=>by have:bs.length+i=bs.length+j:=h;omega,fun i hi=>absurd hi (by show ¬ i<0;omega),fun i hi=>?_,fun b hb=>?_⟩
  . rw [zc4 ha] at this;exact this
  . have:i<1:=hi;have:i=0:=by omega
    subst this;constructor
    . show (bs++[Box.cells z M2 cs]).getD (bs.length+0) .gone=.cells z M2 (T.renL _ cs);rw [zc4 hb,jq,fo,im (fp _)];simp
    . show T.idsL 1 cs=true
      exact z7j fun t ht=>by
        have:=yd0 hb t ht;exact z7g (ir _) this
  . show (bs++[Box.cells z M2 cs]).getD b .gone=bs.getD b .gone;by_cases hlt:b<bs.length
    . rw [fo,fo,gi hlt]
    . by_cases h2:b=bs.length
      . exact absurd (h2 ▸ rfl:bs.length+0=b) (hb 0 (by show 0<1;omega))
      . rw [fo,fo,jw (by rw [fx];simp;omega),jw (by omega)]
end
def mset {K V:Type} [DecidableEq K] (k:K) (v:V):List (K×V)->List (K×V)
  |[]=>[(k,v)]
  |p :: l=>if k=p.1 then (k,v) :: l else p :: mset k v l
def mget {K V:Type} [DecidableEq K] (k:K):List (K×V)->Option V
  |[]=>none
  |p :: l=>if k=p.1 then some p.2 else mget k l
theorem keyI {kk:iu} {a b:Int}:zwh (.int kk a) (.int kk b)=some (decide (a=b)):=by
  show (bif fy (ikN kk) (ikN kk) then some (a == b) else none)=_;rw [ja,cond_true];by_cases h:a=b<;>simp [h]
theorem keyS {a b:ByteArray}:zwh (.str a) (.str b)=some (decide (a=b)):=by
  show some (a.data.toList == b.data.toList)=_;by_cases h:a=b
  . subst h;simp
  . have:(a.data.toList == b.data.toList)=false:=by simpa using fun hh=>h (ByteArray.ext hh)
    rw [this,zAb h]
theorem zyr {K V:Type} [DecidableEq K] {kf:K->T} {f:V->T} (hk:∀ a b,zwh (kf a) (kf b)=some (decide (a=b))) (k:K) (v:V):∀ l:List (K×V),tSet (kf k) (f v) (l.map fun p=>(kf p.1,f p.2))=some ((mset k v l).map fun p=>(kf p.1,f p.2))
  |[]=>rfl
  |p :: l=>by
    rw [i4,tSet,hk];unfold mset;by_cases h:k=p.1
    . rw [zAa h,zAc h,i4]
    . rw [zAb h,zAd h,i4];simp only [zyr hk k v l]
theorem zys {K V:Type} [DecidableEq K] {kf:K->T} {f:V->T} (hk:∀ a b,zwh (kf a) (kf b)=some (decide (a=b))) (k:K):∀ l:List (K×V),tGet (kf k) (l.map fun p=>(kf p.1,f p.2))=some ((mget k l).map f)
  |[]=>rfl
  |p :: l=>by
    rw [i4,tGet,hk];unfold mget;by_cases h:k=p.1
    . rw [zAa h,zAc h];rfl
    . rw [zAb h,zAd h];exact zys hk k l
theorem zco {kk:iu} {V:Type} {f:V->T} {k:Int} {v:V} {l:List (Int×V)}:tSet (.int kk k) (f v) (l.map fun p=>(.int kk p.1,f p.2))=some ((mset k v l).map fun p=>(.int kk p.1,f p.2)):=zyr (kf:=fh kk) (fun _ _=>keyI) k v l
theorem zcq {kk:iu} {V:Type} {f:V->T} {k:Int} {l:List (Int×V)}:tGet (.int kk k) (l.map fun p=>(.int kk p.1,f p.2))=some ((mget k l).map f):=zys (kf:=fh kk) (fun _ _=>keyI) k l
theorem zcn {V:Type} {f:V->T} {k:ByteArray} {v:V} {l:List (ByteArray×V)}:tSet (.str k) (f v) (l.map fun p=>(.str p.1,f p.2))=some ((mset k v l).map fun p=>(.str p.1,f p.2)):=zyr (kf:=ph) (fun _ _=>keyS) k v l
theorem zcp {V:Type} {f:V->T} {k:ByteArray} {l:List (ByteArray×V)}:tGet (.str k) (l.map fun p=>(.str p.1,f p.2))=some ((mget k l).map f):=zys (kf:=ph) (fun _ _=>keyS) k l
theorem zea {V:Type} {f:V->T} {d:V} {o:Option V}:z7v false (f d) (o.map f)=f (o.getD d):=by cases o<;>rfl
theorem zd9 {V:Type} {f:V->T} {d:V} {o:Option V}:z7v true (f d) (o.map f)=.tup [f (o.getD d),.bool o.isSome]:=by cases o<;>rfl
theorem znb:type_of% (fd (fd (fd (@zax) (fd (@jy) (@n6))) (fd (@z8v) (fd (@gc) (@and_self)))) (fd (fd (@and_true) (fd (@true_and) (@ng.{0}))) (fd (fd (@m7.{0}) (@gh.{0})) (fd (@je.{0}) (@i5))))):=fd (fd (fd (@zax) (fd (@jy) (@n6))) (fd (@z8v) (fd (@gc) (@and_self)))) (fd (fd (@and_true) (fd (@true_and) (@ng.{0}))) (fd (fd (@m7.{0}) (@gh.{0})) (fd (@je.{0}) (@i5))))
theorem zbl:type_of% (fd (fd (fd (@T.ids.eq_1) (fd (@T.ids.eq_2) (@T.ids.eq_3))) (fd (@T.ids.eq_4) (fd (@T.ids.eq_5) (@T.ids.eq_6)))) (fd (fd (@T.ids.eq_7) (fd (@T.ids.eq_8) (@T.ids.eq_9))) (fd (@T.idsL.eq_1) (fd (@T.idsL.eq_2) (@zbb))))):=fd (fd (fd (@T.ids.eq_1) (fd (@T.ids.eq_2) (@T.ids.eq_3))) (fd (@T.ids.eq_4) (fd (@T.ids.eq_5) (@T.ids.eq_6)))) (fd (fd (@T.ids.eq_7) (fd (@T.ids.eq_8) (@T.ids.eq_9))) (fd (@T.idsL.eq_1) (fd (@T.idsL.eq_2) (@zbb))))
theorem zcv:type_of% (fd (fd (@zd1.eq_1) (fd (@zd1.eq_2) (@zhv.eq_1))) (fd (fd (@zhv.eq_2) (@zhv.eq_3)) (fd (@zfz.eq_1) (@zfz.eq_2)))):=fd (fd (@zd1.eq_1) (fd (@zd1.eq_2) (@zhv.eq_1))) (fd (fd (@zhv.eq_2) (@zhv.eq_3)) (fd (@zfz.eq_1) (@zfz.eq_2)))
theorem scA:type_of% (fd (@ld.{0}) (@lw.{0})):=fd (@ld.{0}) (@lw.{0})
theorem scB:type_of% (fd (fd (@st_n) (fd (@gh.{0}) (@je.{0}))) (fd (@gq.{0}) (fd (@gg.{0}) (@i5)))):=fd (fd (@st_n) (fd (@gh.{0}) (@je.{0}))) (fd (@gq.{0}) (fd (@gg.{0}) (@i5)))
theorem gsA:type_of% (fd (fd (@zbb) (fd (@nd.{0,0}) (@i4.{0,0}))) (fd (@pd.{0,0}) (fd (@jm) (@m8)))):=fd (fd (@zbb) (fd (@nd.{0,0}) (@i4.{0,0}))) (fd (@pd.{0,0}) (fd (@jm) (@m8)))
end
end Go.Proofs.Ytkfnjbfnkpameaa
