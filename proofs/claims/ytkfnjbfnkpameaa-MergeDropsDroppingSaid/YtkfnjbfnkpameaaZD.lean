/- Part 4 of the proof of MergeDropsDropping (several texts in one; no further condition). -/
import Derived.Test.YtkfnjbfnkpameaaZC
set_option linter.unusedSimpArgs false
set_option linter.unusedVariables false
set_option linter.unusedSectionVars false
namespace Go.Proofs.Ytkfnjbfnkpameaa
noncomputable section
open _root_.And renaming intro->eh
open _root_.Array renaming toList_map->oq
open _root_.BitVec renaming ofInt->il
open _root_.Bool renaming and_eq_true->ep,and_self->fm,and_true->nj,not_true->gw,true_and->ji
open Go.Proofs.Ytkfnjbfnkpameaa.Bx renaming le_refl->ls
open Go.Proofs.Ytkfnjbfnkpameaa.CS renaming inner->rq
open Go.Call renaming operands->rh
open Go.Proofs.Ytkfnjbfnkpameaa.Can renaming refl->ja
open _root_.Eq renaming trans->fj
open Go.Proofs.Ytkfnjbfnkpameaa.Fr renaming get_put_other->ru
open Go renaming FuncId->lp,IntKind->gu,Operand->fk,Program->fx,TypeDesc->mz,TypeId->fw,eqGuard->ln
open _root_.Int renaming eq_ofNat_of_zero_le->jp,toNat_natCast->i5
open _root_.List renaming all_cons->i9,all_eq_true->gg,append_assoc->fy,append_nil->gn,cons_append->f6,drop_succ_cons->jw,drop_zero->ge,eq_nil_of_length_eq_zero->jb,flatMap_cons->im,flatten_cons->gj,getD_eq_getElem?_getD->fe,getElem?_append_left->fp,getElem?_append_right->gp,getElem?_cons_succ->ki,getElem?_cons_zero->gc,getElem?_eq_getElem->fb,getElem?_eq_none->jf,getElem?_eq_some_iff->fo,getElem?_map->ko,length_append->fi,length_cons->fq,length_drop->iw,length_map->fc,length_nil->iu,length_replicate->kh,length_singleton->i4,length_take->gq,map_append->my,map_cons->ic,map_map->qp,map_nil->ov,mem_map->i6,nil_append->ft,replicate_succ->io,set_cons_succ->lc,set_cons_zero->kb,take_append_drop->ip,take_length->me,take_of_length_le->gz,take_succ_cons->m5,take_zero->mo
open Go.Proofs.Ytkfnjbfnkpameaa.Loc renaming fam->nv
open _root_.Nat renaming add_mul->i8,add_zero->jc,beq->fg,beq_refl->ij,ble->gd,blt->gh,eq_of_beq_eq_true->et,le_refl->fd,lt_of_lt_of_le->gr,mul_one->py,one_mul->mq,testBit->ii,testBit_and->kx,testBit_or->mn,testBit_two_pow_sub_one->l6,zero_add->ig,zero_le->ik
open Go.Proofs.Ytkfnjbfnkpameaa.Ok0 renaming same->mb
open Go.Op renaming intArith->pu,intBits->pi,intCmp->nq,operands->gb
open _root_.Option renaming map_some->n5
open _root_.Option.some renaming injEq->ei
open _root_.Prod.mk renaming injEq->eu
open Go.Proofs.Ytkfnjbfnkpameaa.Stp renaming refl->qy
open Go.Proofs.Ytkfnjbfnkpameaa.T renaming bool->rv,cells->iq,int->eo,one->mv,str->oy
open Go.Proofs.Ytkfnjbfnkpameaa.TS renaming set_ne->mw,set_same->mm
open Go Go.RowKit
section
variable {GL:List (Nat×List Value)} {A A' A2:Nat->Prop} {β β' β2:Bx} {S S':TS} {s s' s2:CS} {P:fx} {Γ:Env}
def zbn (op:BinOp) (k k':gu) (a b:Int):Option T :=
  match op with
  |.shl=>if 0<=b then some (.int k (k.wrap (a*2 ^ (min b.toNat k.bits)))) else none
  |.shr=>if 0<=b then some (.int k (a.fdiv (2 ^ (min b.toNat k.bits)))) else none
  |op=>bif fg (ikN k) (ikN k') then (match op with
    |.add=>some (.int k (k.wrap (a+b)))
    |.sub=>some (.int k (k.wrap (a - b)))
    |.mul=>some (.int k (k.wrap (a*b)))
    |.quo=>if b=0 then none else some (.int k (k.wrap (a.tdiv b)))
    |.rem=>if b=0 then none else some (.int k (a.tmod b))
    |.and=>some (.int k (k.wrap (il k.bits a &&& il k.bits b).toNat))
    |.or=>some (.int k (k.wrap (il k.bits a ||| il k.bits b).toNat))
    |.xor=>some (.int k (k.wrap (il k.bits a ^^^ il k.bits b).toNat))
    |.andNot=>some (.int k (k.wrap (il k.bits a &&& ~~~ il k.bits b).toNat))
    |.eql=>some (.bool (decide (a=b)))
    |.neq=>some (.bool (decide (a≠b)))
    |.lss=>some (.bool (decide (a<b)))
    |.leq=>some (.bool (decide (a<=b)))
    |.gtr=>some (.bool (decide (b<a)))
    |.geq=>some (.bool (decide (b<=a)))
    |_=>none) else none
theorem ybr {op:BinOp} {k k':gu} {a b:Int} {r:T} (h:zbn op k k' a b=some r):∃ v,VT A β (zaa s.obj) r v/\∀ {ρ:fk->Value} {o:Oper} {t t2:fw} {x y:fk} {s:CS},o.op=.binOp op t x y t2->ρ x=.int k a->ρ y=.int k' b->zla P Γ ρ o s t op (.int k a) (.int k' b)=some (v,s):=by
  unfold zbn at h;split at h
  . split at h
    . rename_i h0;cases h;exact ⟨_,.int _ _,fun ho hx hy=>zbu ho hx hy default (by simp only [binOp,Op.shift];rw [zAd (by omega)]) rfl⟩
    . simp at h
  . split at h
    . rename_i h0;cases h;exact ⟨_,.int _ _,fun ho hx hy=>zbu ho hx hy default (by simp only [binOp,Op.shift];rw [zAd (by omega)]) rfl⟩
    . simp at h
  . cases hq:fg (ikN k) (ikN k') with
    |false=>rw [hq] at h;simp at h
    |true =>
      rw [hq,cond_true] at h;have:=ybu hq;subst this;split at h
      . cases h;exact ⟨_,.int _ _,fun ho hx hy=>zbu ho hx hy default (by simp only [binOp,pu,ne_eq,not_true,if_false]) rfl⟩
      . cases h;exact ⟨_,.int _ _,fun ho hx hy=>zbu ho hx hy default (by simp only [binOp,pu,ne_eq,not_true,if_false]) rfl⟩
      . cases h;exact ⟨_,.int _ _,fun ho hx hy=>zbu ho hx hy default (by simp only [binOp,pu,ne_eq,not_true,if_false]) rfl⟩
      . split at h
        . simp at h
        . rename_i hb;cases h;exact ⟨_,.int _ _,fun ho hx hy=>zbu ho hx hy default (by simp only [binOp,Op.intDiv,ne_eq,not_true,if_false];rw [zAd hb]) rfl⟩
      . split at h
        . simp at h
        . rename_i hb;cases h;exact ⟨_,.int _ _,fun ho hx hy=>zbu ho hx hy default (by simp only [binOp,Op.intDiv,ne_eq,not_true,if_false];rw [zAd hb]) rfl⟩
      . cases h;exact ⟨_,.int _ _,fun ho hx hy=>zbu ho hx hy default (by simp only [binOp,pi,ne_eq,not_true,if_false]) rfl⟩
      . cases h;exact ⟨_,.int _ _,fun ho hx hy=>zbu ho hx hy default (by simp only [binOp,pi,ne_eq,not_true,if_false]) rfl⟩
      . cases h;exact ⟨_,.int _ _,fun ho hx hy=>zbu ho hx hy default (by simp only [binOp,pi,ne_eq,not_true,if_false]) rfl⟩
      . cases h;exact ⟨_,.int _ _,fun ho hx hy=>zbu ho hx hy default (by simp only [binOp,pi,ne_eq,not_true,if_false]) rfl⟩
      . cases h;exact ⟨_,.bool _,fun ho hx hy=>zbu ho hx hy default (by simp [binOp,nq];rfl) rfl⟩
      . cases h;exact ⟨_,.bool _,fun ho hx hy=>zbu ho hx hy default (by simp [binOp,nq]<;>rfl) rfl⟩
      . cases h;exact ⟨_,.bool _,fun ho hx hy=>zbu ho hx hy default (by simp [binOp,nq]) rfl⟩
      . cases h;exact ⟨_,.bool _,fun ho hx hy=>zbu ho hx hy default (by simp [binOp,nq]) rfl⟩
      . cases h;exact ⟨_,.bool _,fun ho hx hy=>zbu ho hx hy default (by simp [binOp,nq]) rfl⟩
      . cases h;exact ⟨_,.bool _,fun ho hx hy=>zbu ho hx hy default (by simp [binOp,nq]) rfl⟩
      . simp at h
def zuy (op:BinOp) (a b:ByteArray):Option T:=match op with
  |.eql=>some (.bool (decide (a=b)))
  |.neq=>some (.bool (!decide (a=b)))
  |.add=>if a.size+b.size<=9223372036854775807 then some (.str (a++b)) else none
  |_=>none
theorem z9c {op:BinOp} {a b:ByteArray} {r:T} (h:zuy op a b=some r):∃ v,VT A β (zaa s.obj) r v/\∀ {ρ:fk->Value} {o:Oper} {t t2:fw} {x y:fk} {s:CS},o.op=.binOp op t x y t2->ρ x=.string a->ρ y=.string b->zla P Γ ρ o s t op (.string a) (.string b)=some (v,s):=by
  unfold zuy at h;split at h
  . cases h;exact ⟨_,.bool _,fun ho hx hy=>zlw ho hx hy rfl (fun d=>zxv d a) rfl rfl (by unfold ln;simp) (by show some _=_;rw [z9b]) rfl⟩
  . cases h;exact ⟨_,.bool _,fun ho hx hy=>zlw ho hx hy rfl (fun d=>zxv d a) rfl rfl (by unfold ln;simp) (by show some _=_;rw [z9b]) rfl⟩
  . split at h
    . rename_i hs;cases h
      exact ⟨_,.str _,fun ho hx hy=>zlw ho hx hy rfl (fun d=>zxv d a) rfl rfl (by unfold ln;simp) (by
        show za3 P (Op.stringOp .add a b)=_;unfold Op.stringOp;simp only
        rw [zAd (by have : IntKind.i64.max = 9223372036854775807 := by decide
                    omega)]
        rfl) rfl⟩
    . simp at h
  . simp at h
theorem zaf {α γ:Type} {f:α->Sem γ}:∀ {m:Sem α},za3 P (m >>= f)=(za3 P m).bind fun v=>za3 P (f v):=by
  intro m
  induction m with
  |pure a=>rfl
  |program k ih=>exact ih P
  |_=>rfl
theorem z7w {ρ:fk->Value} {t t2:fw} {x y:fk} {op:BinOp} {v w r:Value} {o:Oper} (ho:o.op=.binOp op t x y t2) (hx:ρ x=v) (hy:ρ y=w) (hc:binC op v w=none) (hn:∀ d,nilT d v=none) (hpv:za2 3 v=true) (hpw:za2 3 w=true)
    (hr:za3 P (do ln op t x y v w;binOp op t v w)=some r) (hp:za2 3 r=true):zla P Γ ρ o s t op v w=some (r,s):=by
  unfold zla;rw [hc];simp only;rw [z57 hn];simp only [zgu];unfold zlp
  have hops:(o.op.operands.toList.all fun z=>za2 3 (ρ z))=true:=by
    rw [ho];simp [gb,hx,hy,hpv,hpw]
  rw [hops]
  have he:execOp ρ o=((do ln op t x y v w;binOp op t v w) >>= fun z=>pure (Next.value z)):=by
    unfold execOp;rw [ho];simp only [hx,hy]
  rw [he]
  have hv:za3 P ((do ln op t x y v w;binOp op t v w) >>= fun z=>pure (Next.value z))=some (.value r):=by
    rw [zaf,hr];rfl
  simp only [cond_true];rw [hv];show retC s (bif za2 3 r then some r else none)=some (r,s);rw [hp];rfl
def ydz:T->Option Value
  |.int k n=>some (.int k n)
  |.bool b=>some (.bool b)
  |.str b=>some (.string b)
  |_=>none
def zfv:List T->Option (List Value)
  |[]=>some []
  |t :: l=>match ydz t,zfv l with|some v,some r=>some (v :: r)|_,_=>none
theorem ydy {g:Nat->Fam} {t:T} {v w:Value} (h:ydz t=some w) (hv:VT A β g t v):v=w/\∀ n,za2 n v=true:=by
  unfold ydz at h;split at h
  . cases h;cases hv;exact ⟨rfl,fun n=>by cases n<;>rfl⟩
  . cases h;cases hv;exact ⟨rfl,fun n=>by cases n<;>rfl⟩
  . cases h;cases hv;exact ⟨rfl,fun n=>by cases n<;>rfl⟩
  . simp at h
theorem zr2 {g:Nat->Fam}:∀ {l:List T} {vs ws:List Value},zfv l=some ws->VL A β g l vs->vs=ws/\vs.all (za2 2)=true
  |[],_,ws,h,.nil=>by simp only [zfv,ei] at h;subst h;exact ⟨rfl,rfl⟩
  |t :: l,_,ws,h,.cons h1 h2=>by
    unfold zfv at h;split at h
    . rename_i v r e1 e2;cases h;obtain ⟨a,b⟩:=ydy e1 h1;obtain ⟨c,d⟩:=zr2 e2 h2;rw [a,c] at *;exact ⟨rfl,by rw [i9,b 2,d];rfl⟩
    . simp at h
def zm9 (P:fx) (t:fw) (op:BinOp) (x y:fk) (a b:List T):Option T:=match zfv a,zfv b with
  |some va,some vb=>(match za3 P (do ln op t x y (.agg ⟨va⟩) (.agg ⟨vb⟩);binOp op t (.agg ⟨va⟩) (.agg ⟨vb⟩)) with
    |some (.bool r)=>some (.bool r)
    |_=>none)
  |_,_=>none
theorem yaz (d:mz) (a:Array Value):nilT d (.agg a)=none:=by cases d<;>rfl
def tNil (S:TS):mz->T->Option Bool
  |.pointer _,.nilp=>some true
  |.pointer _,.ptr b _ N=>bif S.has b N then some false else none
  |.pointer _,.cp _=>some false
  |.slice _,.nils=>some true
  |.slice _,.arr b _ _ _ _ N=>bif S.has b N && gh 0 N then some false else none
  |.slice _,.lst _ (_ :: _)=>some false
  |.slice _,.emp _=>some false
  |.map _ _,.nilm=>some true
  |.func _ _ _,.nilf=>some true
  |.func _ _ _,.fn _ _ _=>some false
  |_,_=>none
theorem z84 (h:TRel GL A β S s) {d:mz} {t:T} {v:Value} {b:Bool} (hv:VT A β (zaa s.obj) t v) (ht:tNil S d t=some b):nilT d v=some b:=by
  unfold tNil at ht;split at ht
  . cases ht;cases hv;rfl
  . rename_i b' _ N
    cases hs:S.has b' N with
    |false=>rw [hs] at ht;simp at ht
    |true =>
      rw [hs] at ht;cases ht;obtain ⟨z,l,hS⟩:=TS.has_ok hs;obtain ⟨f,u,rfl,hb⟩:=zjh h hS hv;rfl
  . cases ht;cases hv;rfl
  . cases ht;cases hv;rfl
  . rename_i b' _ _ _ _ N
    cases hs:(S.has b' N && gh 0 N) with
    |false=>rw [hs] at ht;simp at ht
    |true =>
      rw [hs] at ht;cases ht;simp only [ep] at hs;obtain ⟨z,l,hS⟩:=TS.has_ok hs.1;have:=zab.1 hs.2;rcases zg1 h hS hv with ⟨f,u,rfl,hb,htag⟩|⟨rfl,hb,rfl,rfl,rfl,rfl⟩
      . rfl
      . omega
  . cases ht;cases hv;rfl
  . cases ht;cases hv;rfl
  . cases ht;cases hv;rfl
  . cases ht;cases hv;rfl
  . cases ht;cases hv;rfl
  . simp at ht
def tBin (P:fx) (Γ:Env) (S:TS) (t:fw) (op:BinOp) (x y:fk) (a b:T):Option T:=match a,b with
  |.int k m,.int k' n=>zbn op k k' m n
  |.str m,.str n=>zuy op m n
  |.bool m,.bool n=>(match Γ.ti.at t with
    |some i=>(match i.desc,op with|.bool,.eql=>some (.bool (m == n))|.bool,.neq=>some (.bool (!(m == n)))|_,_=>none)
    |none=>none)
  |.agg m,.agg n=>zm9 P t op x y m n
  |a,b=>(match Γ.ti.at t with
    |some i=>(match tNil S i.desc a,tNil S i.desc b with
      |some p,some q=>bif p || q then (match op with|.eql=>some (.bool (p && q))|.neq=>some (.bool (!(p && q)))|_=>none) else none
      |_,_=>none)
    |none=>none)
theorem z66 {op:BinOp} {v w:Value} {d:mz} {p:Bool} (h:nilT d v=some p):binC op v w=none:=by
  unfold nilT at h;split at h<;>first | (simp at h;done)|rfl
theorem yja (hE:zdy P Γ) (h:TRel GL A β S s) {t t2:fw} {op:BinOp} {x y:fk} {o:Oper} {a b r:T} {ρ:fk->Value} (ho:o.op=.binOp op t x y t2) (hx:VT A β (zaa s.obj) a (ρ x)) (hy:VT A β (zaa s.obj) b (ρ y)) (ht:tBin P Γ S t op x y a b=some r):Ok0 GL A β S s (zla P Γ ρ o s t op (ρ x) (ρ y)) r:=by
  unfold tBin at ht;split at ht
  . rename_i k m k' n;obtain ⟨v,h1,h2⟩:=ybr (A:=A) (β:=β) (s:=s) (P:=P) (Γ:=Γ) ht;generalize e1:ρ x=vx at hx;generalize e2:ρ y=vy at hy;cases hx;cases hy;rw [h2 ho e1 e2];exact mb h h1
  . rename_i m n;obtain ⟨v,h1,h2⟩:=z9c (A:=A) (β:=β) (s:=s) (P:=P) (Γ:=Γ) ht;generalize e1:ρ x=vx at hx;generalize e2:ρ y=vy at hy;cases hx;cases hy;rw [h2 ho e1 e2];exact mb h h1
  . rename_i m n;generalize e1:ρ x=vx at hx;generalize e2:ρ y=vy at hy;cases hx;cases hy;split at ht
    . rename_i i hi;have hd:=(hE.ti _ _ hi).und;split at ht
      . rename_i hdb;cases ht;rw [hdb] at hd
        rw [zlw ho e1 e2 rfl (fun d=>zzw d m) rfl rfl (by unfold ln;simp) (r:=.bool (m == n)) (by
          show za3 P (do pure (Value.bool (<- Op.equal t (.bool m) (.bool n))):Sem Value)=_
          rw [zgk (zk4 hd)];rfl) rfl]
        exact mb h (.bool _)
      . rename_i hdb;cases ht;rw [hdb] at hd
        rw [zlw ho e1 e2 rfl (fun d=>zzw d m) rfl rfl (by unfold ln;simp) (r:=.bool (!(m == n))) (by
          show za3 P (do pure (Value.bool (!(<- Op.equal t (.bool m) (.bool n)))):Sem Value)=_
          rw [zgk (zk4 hd)];rfl) rfl]
        exact mb h (.bool _)
      . simp at ht
    . simp at ht
  . rename_i m n;generalize e1:ρ x=vx at hx;generalize e2:ρ y=vy at hy;cases hx;cases hy;rename_i va ha vb hb;unfold zm9 at ht;split at ht
    . rename_i wa wb h1 h2;obtain ⟨rfl,k1⟩:=zr2 h1 ‹VL A β (zaa s.obj) m _›;obtain ⟨rfl,k2⟩:=zr2 h2 ‹VL A β (zaa s.obj) n _›;split at ht
      . rename_i r' hr;cases ht;rw [z7w ho e1 e2 rfl (fun d=>yaz d _) k1 k2 hr rfl];exact mb h (.bool _)
      . simp at ht
    . simp at ht
  . split at ht
    . rename_i i hi;split at ht
      . rename_i p q h1 h2
        cases hpq:(p || q) with
        |false=>rw [hpq] at ht;simp at ht
        |true =>
          rw [hpq] at ht;simp only [cond_true] at ht;have n1:=z84 h hx h1;have n2:=z84 h hy h2;split at ht
          . cases ht
            have:zla P Γ ρ o s t .eql (ρ x) (ρ y)=some (.bool (p && q),s):=by
              unfold zla;rw [z66 n1];simp only;unfold eqC;simp only [hi,n1,n2];unfold nilC;simp only [hpq,cond_true];simp [zgu]
            rw [this];exact mb h (.bool _)
          . cases ht
            have:zla P Γ ρ o s t .neq (ρ x) (ρ y)=some (.bool (!(p && q)),s):=by
              unfold zla;rw [z66 n1];simp only;unfold eqC;simp only [hi,n1,n2];unfold nilC;simp only [hpq,cond_true];simp [zgu]
            rw [this];exact mb h (.bool _)
          . simp at ht
      . simp at ht
    . simp at ht
def tUn (op:UnOp):T->Option T
  |.bool b=>(match op with|.not=>some (.bool (!b))|_=>none)
  |.int k a=>(match op with
    |.neg=>some (.int k (k.wrap (0 - a)))
    |.xor=>some (.int k (k.wrap (il k.bits (if k.signed then -1 else k.max) ^^^ il k.bits a).toNat))
    |_=>none)
  |_=>none
theorem yld (h:TRel GL A β S s) {t:fw} {op:UnOp} {x:fk} {o:Oper} {a r:T} {ρ:fk->Value} (ho:o.op=.unOp op t x) (hx:VT A β (zaa s.obj) a (ρ x)) (ht:tUn op a=some r):Ok0 GL A β S s (zgu P ρ o s (unC op (ρ x))) r:=by
  obtain ⟨d,opx,ty,pos,e,g⟩:=o;simp only at ho;subst ho;unfold tUn at ht;split at ht
  . rename_i b;generalize e1:ρ x=vx at hx;cases hx;split at ht
    . cases ht;exact mb h (.bool _)
    . simp at ht
  . rename_i k m;generalize e1:ρ x=vx at hx;cases hx;split at ht
    . cases ht;rw [ylu e1];exact mb h (.int _ _)
    . cases ht;rw [ylt e1];exact mb h (.int _ _)
    . simp at ht
  . simp at ht
def ztt:List T->Option (List UInt8)
  |[]=>some []
  |.int .u8 k :: l=>(match ztt l with|some r=>some (UInt8.ofNat k.toNat :: r)|none=>none)
  |_ :: _=>none
theorem z1t {g:Nat->Fam}:∀ {l:List T} {vs:List Value} {r:List UInt8},VL A β g l vs->ztt l=some r->zyn vs=some r
  |[],_,r,.nil,h=>by simp only [ztt,ei] at h;subst h;rfl
  |t :: l,_,r,.cons h1 h2,h=>by
    unfold ztt at h;split at h
    . simp_all
    . rename_i k l' hh;cases hh;split at h
      . rename_i r' hr;cases h;cases h1;unfold zyn;rw [z1t h2 hr]
      . simp at h
    . simp at h
def tStr (Γ:Env) (S:TS) (d1 d2:mz) (x:T):Option T:=match d1,d2 with
  |.slice e,.string=>bif isU8 Γ e then (match tSrc S 1 x with
    |some (_,xs)=>(match ztt xs with|some r=>some (.str ⟨r.toArray⟩)|none=>none)
    |none=>none) else none
  |_,_=>none
theorem z10 (h:TRel GL A β S s) {src dst:fw} {x:fk} {o:Oper} {a r:T} {ρ:fk->Value} {i j:TI} (hi:Γ.ti.at src=some i) (hj:Γ.ti.at dst=some j) (hx:VT A β (zaa s.obj) a (ρ x)) (ht:tStr Γ S i.desc j.desc a=some r) (hsl:∀ n xs,tSrc S 1 a=some (n,xs)->∃ aa c m,ρ x=.slice aa m c):Ok0 GL A β S s (zdl P Γ ρ o s src dst (ρ x)) r:=by
  unfold tStr at ht;split at ht
  . rename_i e hd1 hd2
    cases hq:isU8 Γ e with
    |false=>rw [hq] at ht;simp at ht
    |true =>
      rw [hq] at ht;simp only [cond_true] at ht;split at ht
      . rename_i n xs hsrc;obtain ⟨e1,e2,e3⟩:=z11 h (show 0<1 by omega) hx hsrc;obtain ⟨ys,s1,f1,f2,f3⟩:=e3 n (fd _);rw [gz (by omega)] at f2;split at ht
        . rename_i r' hr';cases ht;obtain ⟨aa,c,m,hsl⟩:=hsl n xs hsrc;rw [hsl] at e1 f1 ⊢;simp only [lenC,ei] at e1;subst e1
          have:zdl P Γ ρ o s src dst (.slice aa m c)=some (.string ⟨r'.toArray⟩,s1):=by
            unfold zdl;simp only [hi,hj,hd1,hd2,hq,cond_true];rw [f1];unfold strC;simp only [z1t f2 hr']
          rw [this];exact Ok0.rd h (f3.rel0 h) (.str _)
        . simp at ht
      . simp at ht
  . simp at ht
def zp7 (Γ:Env) (S:TS) (src dst:fw) (x:T):Option T:=match Γ.ti.at src,Γ.ti.at dst with
  |some i,some j=>(match x with
    |.int _ n=>(match j.desc with|.int k=>some (.int k (k.wrap n))|_=>none)
    |.str b=>(match i.desc,j.desc with
      |.string,.slice e=>bif isU8 Γ e && gd b.size 1000000000 then some (.lst 1 (zgz b)) else none
      |.string,.string=>some (.str b)
      |_,_=>none)
    |.lst e' l=>tStr Γ S i.desc j.desc (.lst e' l)
    |.arr b e' off len cap N=>tStr Γ S i.desc j.desc (.arr b e' off len cap N)
    |.nils=>tStr Γ S i.desc j.desc .nils
    |_=>none)
  |_,_=>none
theorem z6k {ρ:fk->Value} {o:Oper} {src dst e:fw} {i j:TI} {b:ByteArray} (hi:Γ.ti.at src=some i) (hj:Γ.ti.at dst=some j) (hd1:i.desc=.string) (hd2:j.desc=.slice e) (hq:(isU8 Γ e && gd b.size 1000000000)=true):zdl P Γ ρ o s src dst (.string b)=zg5 b.size b.size (s.newRow 2 (zh8 b)):=by
  unfold zdl;simp only [hi,hj,hd1,hd2,hq,cond_true]
theorem zyw (hE:zdy P Γ) (h:TRel GL A β S s) {src dst:fw} {x:fk} {o:Oper} {a r:T} {ρ:fk->Value} (ho:o.op=.convert src dst x) (hx:VT A β (zaa s.obj) a (ρ x)) (ht:zp7 Γ S src dst a=some r):Ok0 GL A β S s (zdl P Γ ρ o s src dst (ρ x)) r:=by
  unfold zp7 at ht;split at ht
  . rename_i i j hi hj;split at ht
    . rename_i k n;generalize e1:ρ x=vx at hx;cases hx;split at ht
      . rename_i k' hd;cases ht;obtain ⟨d,opx,ty,pos,e,g⟩:=o;simp only at ho;subst ho;have hs:=(hE.ti _ _ hi).und;have hdd:=(hE.ti _ _ hj).und;rw [hd] at hdd;unfold zdl;simp only [hi,hj,hd];rw [ylz ⟨k,e1⟩ (by rw [hs];rfl) hdd];exact mb h (.int _ _)
      . simp at ht
    . rename_i b;generalize e1:ρ x=vx at hx;cases hx;split at ht
      . rename_i e hd1 hd2
        cases hq:(isU8 Γ e && gd b.size 1000000000) with
        |false=>rw [hq] at ht;simp at ht
        |true =>
          rw [hq] at ht;cases ht;have hv:VL A β (zaa s.obj) (zgz b) (zh8 b):=zrj _;obtain ⟨s',A',k1,k2,k3,k4,k5⟩:=h.newFrozen 2 (by omega) hv;rw [z6k hi hj hd1 hd2 hq,k1];refine ⟨_,s',A',rfl,k4,?_,k5⟩
          have hfm:(zgz b).flatMap iq=zgz b:=by
            unfold zgz yfk;rw [List.flatMap_map]
            have:∀ l:List UInt8,List.flatMap (fun (a:UInt8)=>(eo IntKind.u8 (a.toNat:Int)).cells) l=l.map fun a=>.int .u8 (a.toNat:Int):=by
              intro l
              induction l with
              |nil=>rfl
              |cons c l ih=>rw [im,ih];rfl
            exact this _
          have hln:(zgz b).length=b.size:=by simp [zgz]
          have:=VT.lst (A:=A') (β:=β) (g:=zaa s'.obj) (e:=1) (off:=0) (cap:=b.size) (l:=zgz b) k2 k3 (by rw [hfm];exact k5.stp.vl h hv) (fun t ht=>by
            obtain ⟨c,_,rfl⟩:=i6.1 ht
            rfl) (by omega) (by rw [ge,me]) (.inr (by omega)) (by omega)
          rw [hln] at this;exact this
      . rename_i hd1 hd2;cases ht
        have:zdl P Γ ρ o s src dst (.string b)=some (.string b,s):=by
          unfold zdl;simp only [hi,hj,hd1,hd2]
        rw [this];exact mb h (.str _)
      . simp at ht
    . refine z10 h hi hj hx ht fun n xs hs=>?_;generalize ρ x=vx at hx
      cases hx with
      |lnil=>exact ⟨_,_,_,rfl⟩
      |lst=>exact ⟨_,_,_,rfl⟩
    . rename_i b e' off len cap N;refine z10 h hi hj hx ht fun n xs hs=>?_;unfold tSrc at hs;simp only at hs;split at hs
      . rename_i z N' l hS
        cases hq:(fg N N' && (fg e' 1 && gd (off+len*1) N)) with
        |false=>rw [hq] at hs;simp at hs
        |true =>
          simp only [ep] at hq;have:=et hq.1;subst this;rcases zg1 h hS hx with ⟨f,u,h1,hb,_⟩|⟨h1,_⟩
          . exact ⟨_,_,_,h1⟩
          . exact ⟨_,_,_,h1⟩
      . simp at hs
    . refine z10 h hi hj hx ht fun n xs hs=>?_;generalize ρ x=vx at hx;cases hx;exact ⟨_,_,_,rfl⟩
    . simp at ht
  . simp at ht
def zq3 (Γ:Env) (S:TS) (src dst:fw) (x:T):Option (T×TS):=match Γ.ti.at src,Γ.ti.at dst,x with
  |some i,some j,.str b=>(match i.desc,j.desc with
    |.string,.slice e=>bif isU8 Γ e && gd b.size 1000000000 then some (.arr S.n 1 0 b.size b.size (zgz b).length,S.add (.cells false (zgz b).length (zgz b))) else none
    |_,_=>none)
  |_,_,_=>none
theorem z13 (h:TRel GL A β S s) {src dst:fw} {x:fk} {o:Oper} {a r:T} {ρ:fk->Value} (hx:VT A β (zaa s.obj) a (ρ x)) (ht:zq3 Γ S src dst a=some (r,S')):Ok GL A β s (zdl P Γ ρ o s src dst (ρ x)) r S':=by
  unfold zq3 at ht;split at ht
  . rename_i i j b hi hj;generalize e1:ρ x=vx at hx;cases hx;split at ht
    . rename_i e hd1 hd2
      cases hq:(isU8 Γ e && gd b.size 1000000000) with
      |false=>rw [hq] at ht;simp at ht
      |true =>
        rw [hq] at ht;cases ht;have hv:VL A β (zaa s.obj) (zgz b) (zh8 b):=zrj _
        have hone:(zgz b).all mv=true:=by
          unfold zgz yfk;rw [gg];intro t ht;obtain ⟨c,_,rfl⟩:=i6.1 ht;rfl
        obtain ⟨s',β',k1,k2,k3,k4⟩:=h.newBox 2 (by omega) hv (hv.one hone);rw [z6k hi hj hd1 hd2 hq,k1];exact ⟨_,s',A,β',rfl,k3,.arr k2 (.inr (by omega)),k4⟩
    . simp at ht
  . simp at ht
end
def ziv (Γ:Env) (t:fw) (k:T):Bool:=match Γ.ti.at t with
  |some i=>(match i.desc,k with|.int a,.int b _=>fg (ikN a) (ikN b)|.string,.str _=>true|.bool,.bool _=>true|_,_=>false)
  |none=>false
def zuw:T->T->Option Bool
  |.int k a,.int k' b=>bif fg (ikN k) (ikN k') then some (a == b) else none
  |.str a,.str b=>some (a.data.toList == b.data.toList)
  |.bool a,.bool b=>some (a == b)
  |_,_=>none
def tGet (k:T):List (T×T)->Option (Option T)
  |[]=>some none
  |(k',v) :: l=>match zuw k k' with
    |some true=>some (some v)
    |some false=>tGet k l
    |none=>none
def tSet (k v:T):List (T×T)->Option (List (T×T))
  |[]=>some [(k,v)]
  |(k',v') :: l=>match zuw k k' with
    |some true=>some ((k,v) :: l)
    |some false=>(match tSet k v l with|some l=>some ((k',v') :: l)|none=>none)
    |none=>none
def zfu (i:TI):Option T:=bif aggT i.desc then (match zft i.zero with|some l=>some (.agg l)|none=>none) else match i.zero with | [z]=>zke z|_=>none
def z5z (ok:Bool) (z:T):Option T->T
  |some v=>bif ok then .tup [v,.bool true] else v
  |none=>bif ok then .tup [z,.bool false] else z
def zdn (Γ:Env) (S:TS) (t:fw) (x k:T) (ok:Bool):Option T:=match Γ.ti.at t with
  |some i=>(match i.desc with
    |.map kt e=>bif ziv Γ kt k then (match Γ.ti.at e with
      |some j=>(match zfu j with
        |some z=>(match x with
          |.nilm=>some (z5z ok z none)
          |.mp b=>(match S.box b with|.map l=>(match tGet k l with|some r=>some (z5z ok z r)|none=>none)|_=>none)
          |_=>none)
        |none=>none)
      |none=>none) else none
    |_=>none)
  |none=>none
def za4 (Γ:Env) (S:TS) (t:fw) (k v m:T):Option TS:=match m,Γ.ti.at t with
  |.mp b,some i=>(match i.desc with
    |.map kt _=>bif ziv Γ kt k then (match S.box b with|.map l=>(match tSet k v l with|some l'=>some (S.set b (.map l'))|none=>none)|_=>none) else none
    |_=>none)
  |_,_=>none
def zcm (S:TS):Option (T×TS):=some (.mp S.n,S.add (.map []))
section
variable {GL:List (Nat×List Value)} {A A':Nat->Prop} {β β':Bx} {S S':TS} {s s':CS} {P:fx} {Γ:Env} {g g':Nat->Fam}
theorem VM.mk {k x:T} {v w:Value} {l:List (T×T)} {es:List (Value×Value)} (a:VT A β g k v) (c:VT A β g x w) (h:VM A β g l es):VM A β g ((k,x) :: l) ((v,w) :: es):=⟨.cons a h.1,.cons c h.2⟩
end
def zmc (v:Value):T:=match zke v with
  |some t=>t
  |none=>match v with
    |.agg cs=>(match zft cs.toList with|some l=>.agg l|none=>.junk)
    |_=>.junk
def yb9:List (Nat×List Value)->Nat->T
  |[],_=>.junk
  |x :: l,k=>bif fg x.1 k then (match zft x.2 with|some c=>.cp c|none=>.junk) else yb9 l k
def zc4 (GL:List (Nat×List Value)) (h:Nat->T):fk->T
  |.tmp t=>h t
  |.const v=>zmc v
  |.global k=>yb9 GL k
  |.func f=>.fn f [] []
def tupd (h:Nat->T) (t:Nat) (v:T):Nat->T:=fun u=>if u=t then v else h u
theorem zgn (h:Nat->T) (t:Nat) (v:T):tupd h t v t=v:=zAc rfl
theorem zkh (h:Nat->T) (t u:Nat) (v:T) (hn:u≠t):tupd h t v u=h u:=zAd hn
def putT (h:Nat->T):Option Tmp->T->Nat->T
  |some d,v=>tupd h d v
  |none,_=>h
def zg2 (S:TS):Option T->Option (T×TS)
  |some t=>some (t,S)
  |none=>none
def z8t:Option TS->Option (T×TS)
  |some S=>some (.junk,S)
  |none=>none
def ownD (own:List Nat) (d:Option Tmp):Bool:=match d with|some d=>has own d|none=>false
def zlc (Γ:Env) (S:TS) (ρ:fk->T) (b:Builtin) (args:List fk) (ts:List fw):Option T:=match b with
  |.len=>(match args,ts with | [x],[t]=>tLen Γ S t (ρ x)|_,_=>none)
  |.min=>(match args with | [x,y]=>(match ρ x,ρ y with|.int k a,.int _ b=>some (.int k (min a b))|_,_=>none)|_=>none)
  |.max=>(match args with | [x,y]=>(match ρ x,ρ y with|.int k a,.int _ b=>some (.int k (max a b))|_,_=>none)|_=>none)
  |_=>none
def zfx (P:fx) (Γ:Env) (ρ:fk->T) (o:Oper) (S:TS):Option T :=
  match o.op with
  |.move x=>some (ρ x)
  |.assign x=>some (ρ x)
  |.pick c a b=>(match ρ c with|.bool t=>some (bif t then ρ a else ρ b)|_=>none)
  |.build t parts=>zi3 Γ ρ t parts.toList
  |.buildSlice t n parts=>zai Γ ρ t n parts.toList
  |.load t x=>zrt Γ S t (ρ x)
  |.makeFunc fn first captured=>(match fn with|.func f=>some (.fn f (first.toList.map ρ) (captured.toList.map ρ))|_=>none)
  |.slice t x lo hi mx=>zrs Γ S t (ρ x) (lo.map ρ) (hi.map ρ) (mx.map ρ)
  |.fieldAddr t x k=>zaj Γ S t k (ρ x)
  |.indexAddr t x ix=>zha Γ S t (ρ x) (ρ ix)
  |.index t x ix=>zru Γ t (ρ x) (ρ ix)
  |.extract x k=>zki k (ρ x)
  |.unOp op _ x=>tUn op (ρ x)
  |.convert src dst x=>zp7 Γ S src dst (ρ x)
  |.binOp op t x y _=>tBin P Γ S t op x y (ρ x) (ρ y)
  |.call c=>(match c.callee with
    |.builtin b=>zlc Γ S ρ b c.args.toList c.argTypes.toList
    |_=>none)
  |_=>none
def zf0 (P:fx) (Γ:Env) (own:List Nat) (ρ:fk->T) (o:Oper) (S:TS):Option (T×TS) :=
  match o.op with
  |.alloc e=>zux Γ S e
  |.box _ x=>tBox S (ρ x)
  |.buildSlice t n parts=>bif ownD own o.dst then zap Γ S ρ t n parts.toList else zg2 S (zai Γ ρ t n parts.toList)
  |.store t x v=>z8t (zuv Γ S t (ρ v) (ρ x))
  |.makeSlice t l c=>zig Γ S t (ρ l) (ρ c)
  |.convert src dst x=>bif ownD own o.dst then zq3 Γ S src dst (ρ x) else zg2 S (zp7 Γ S src dst (ρ x))
  |.call c=>(match c.callee with
    |.builtin .append=>(match c.args.toList,c.argTypes.toList with | [x,y],[t,tx]=>bif srcT Γ tx then zle Γ S t (ρ y) (ρ x) else none|_,_=>none)
    |.builtin .clear=>(match c.args.toList,c.argTypes.toList with | [x],[t]=>zrv Γ S t (ρ x)|_,_=>none)
    |.builtin b=>zg2 S (zlc Γ S ρ b c.args.toList c.argTypes.toList)
    |_=>none)
  |_=>zg2 S (zfx P Γ ρ o S)
section
variable {GL:List (Nat×List Value)} {A A' A2:Nat->Prop} {β β' β2:Bx} {S S':TS} {s s' s2:CS} {P:fx} {Γ:Env}
theorem VT.undf {g:Nat->Fam}:VT A β g (.tup []) undef:=VT.tup (vs:=[]) .nil
theorem ycq {g:Nat->Fam} (v:Value):VT A β g (zmc v) v:=by
  unfold zmc;split
  . rename_i t ht;exact (z3t ht).1
  . split
    . rename_i cs;split
      . rename_i l hl;obtain ⟨cs⟩:=cs;exact .agg (zil hl).1
      . exact .junk _
    . exact .junk _
theorem z5v {g:Nat->Fam}:∀ (L:List (Nat×List Value)) (k:Nat),(∀ x,x∈L->A x.1/\zbm (g x.1).rows (x.1*1024)=some x.2)->VT A β g (yb9 L k) (.pointer (some (mkA k (k*1024) 0)))
  |[],k,_=>.junk _
  |x :: l,k,h=>by
    unfold yb9
    cases hb:fg x.1 k with
    |false=>exact z5v l k fun y hy=>h y (by simp [hy])
    |true =>
      have:=et hb;subst this;simp only [cond_true];split
      . rename_i c hc;obtain ⟨h1,h2⟩:=h x (by simp);exact .cp h1 h2 (zil hc).1 (by rw [ge,me])
      . exact .junk _
structure FrOk (A:Nat->Prop) (β:Bx) (g:Nat->Fam) (N:Nat) (h:Nat->T) (fr:Fr):Prop where
  nt:fr.nt=N
  le:N<=512
  slot:∀ t,VT A β g (h t) (fr.get t)
theorem FrOk.mono {N:Nat} {h:Nat->T} {fr:Fr} {g g':Nat->Fam} (k:FrOk A β g N h fr) (hA:∀ f,A f->A' f) (hg:∀ f,A f->g' f=g f) (hβ:Bx.le β β'):FrOk A' β' g' N h fr:=⟨k.nt,k.le,fun t=>(k.slot t).mono hA hg hβ⟩
theorem FrOk.eval (hT:TRel GL A β S s) {N:Nat} {h:Nat->T} {fr:Fr} (k:FrOk A β (zaa s.obj) N h fr) (x:fk):VT A β (zaa s.obj) (zc4 GL h x) (zge fr x):=by
  cases x with
  |tmp t=>exact k.slot t
  |const v=>exact ycq v
  |global g=>exact z5v GL g hT.glob
  |func f=>exact .fn .nil .nil
def zev (N:Nat) (ops:List Oper):Bool:=ops.all fun o=>match o.dst with|some d=>gh d N|none=>true
theorem FrOk.put {N:Nat} {h:Nat->T} {fr:Fr} {g:Nat->Fam} (k:FrOk A β g N h fr) {d:Option Tmp} (hd:∀ t,d=some t->t<N) {t:T} {v:Value} (hv:VT A β g t v):FrOk A β g N (putT h d t) (putC fr d v):=by
  cases d with
  |none=>exact k
  |some d =>
    have hdN:=hd d rfl;refine ⟨?_,k.le,fun u=>?_⟩
    . show (fr.put d v).nt=N;unfold Fr.put;rw [zcg];split<;>exact k.nt
    . show VT A β g (tupd h d t u) ((fr.put d v).get u);by_cases hu:u=d
      . subst hu;rw [zgn,Fr.get_put_same v (by rw [k.nt];exact hdN) (by rw [k.nt];exact k.le)];exact hv
      . rw [zkh _ _ _ _ hu,ru v (by rw [k.nt];exact k.le) (fun hh=>hu hh.symm)];exact k.slot u
theorem ztu {g:Nat->Fam} {ρT:fk->T} {ρ:fk->Value} (hρ:∀ x,VT A β g (ρT x) (ρ x)):∀ (l:List fk),VL A β g (l.map ρT) (l.map ρ)
  |[]=>.nil
  |x :: l=>.cons (hρ x) (ztu hρ l)
theorem ydd {g:Nat->Fam} {ρT:fk->T} {ρ:fk->Value} (hρ:∀ x,VT A β g (ρT x) (ρ x)):∀ (l:Option fk),VO A β g (l.map ρT) (l.map ρ)
  |none=>.none
  |some x=>.some (hρ x)
theorem zq1 {r:Option T} {t:T} {S1 S2:TS} (h:zg2 S1 r=some (t,S2)):r=some t/\S2=S1:=by
  unfold zg2 at h;split at h
  . cases h;exact ⟨rfl,rfl⟩
  . simp at h
theorem ydm {r:Option TS} {t:T} {S2:TS} (h:z8t r=some (t,S2)):r=some S2/\t=.junk:=by
  unfold z8t at h;split at h
  . cases h;exact ⟨rfl,rfl⟩
  . simp at h
theorem zp8 (hT:TRel GL A β S s) {ρT:fk->T} {ρ:fk->Value} (hρ:∀ x,VT A β (zaa s.obj) (ρT x) (ρ x)) {o:Oper} {b:Builtin} {args:Array fk} {ts:Array fw} {r:T} (ho:o.op=.call ⟨.builtin b,args,ts⟩) (ht:zlc Γ S ρT b args.toList ts.toList=some r):Ok0 GL A β S s (zfd P Γ ρ o s b args.toList ts.toList) r:=by
  unfold zlc at ht;split at ht
  . split at ht
    . rename_i x t e1 e2;rw [e1,e2];exact yi8 hT (hρ x) ht
    . simp at ht
  . split at ht
    . rename_i x y e1;split at ht
      . rename_i k a k' b' e2 e3;cases ht;obtain ⟨args⟩:=args;simp only at e1;subst e1;obtain ⟨d,opx,ty,pos,e,g⟩:=o;simp only at ho;subst ho;have h1:=hρ x;have h2:=hρ y;rw [e2] at h1;rw [e3] at h2;generalize f1:ρ x=vx at h1;generalize f2:ρ y=vy at h2;cases h1;cases h2;show Ok0 GL A β S s (zfd P Γ ρ _ s .min [x,y] ts.toList) _;rw [o_min f1 f2];exact mb hT (.int _ _)
      . simp at ht
    . simp at ht
  . split at ht
    . rename_i x y e1;split at ht
      . rename_i k a k' b' e2 e3;cases ht;obtain ⟨args⟩:=args;simp only at e1;subst e1;obtain ⟨d,opx,ty,pos,e,g⟩:=o;simp only at ho;subst ho;have h1:=hρ x;have h2:=hρ y;rw [e2] at h1;rw [e3] at h2;generalize f1:ρ x=vx at h1;generalize f2:ρ y=vy at h2;cases h1;cases h2;show Ok0 GL A β S s (zfd P Γ ρ _ s .max [x,y] ts.toList) _;rw [o_max f1 f2];exact mb hT (.int _ _)
      . simp at ht
    . simp at ht
  . simp at ht
theorem z35 (hE:zdy P Γ) (hT:TRel GL A β S s) {ρT:fk->T} {ρ:fk->Value} (hρ:∀ x,VT A β (zaa s.obj) (ρT x) (ρ x)) {call:zdz} {o:Oper} {r:T} (ht:zfx P Γ ρT o S=some r):Ok0 GL A β S s (cop P Γ call ρ o s) r:=by
  unfold zfx at ht;split at ht
  . rename_i x ho;cases ht;unfold cop;simp only [ho];exact mb hT (hρ x)
  . rename_i x ho;cases ht;unfold cop;simp only [ho];exact mb hT (hρ x)
  . rename_i c a b ho;split at ht
    . rename_i t hc;cases ht;unfold cop;simp only [ho];have h1:=hρ c;rw [hc] at h1;generalize f1:ρ c=vc at h1;cases h1;rw [yjo]
      cases t with
      |true=>exact mb hT (hρ a)
      |false=>exact mb hT (hρ b)
    . simp at ht
  . rename_i t parts ho;unfold cop;simp only [ho];exact z87 hT hρ ht
  . rename_i t n parts ho;unfold cop;simp only [ho];exact zld hT hρ ht
  . rename_i t x ho;unfold cop;simp only [ho];exact ydu hT (hρ x) ht
  . rename_i fn first captured ho
    split at ht
    . rename_i f;cases ht;unfold cop;simp only [ho];have e1:first.map ρ=⟨first.toList.map ρ⟩:=by rw [<- oq]
      have e2:captured.map ρ=⟨captured.toList.map ρ⟩:=by rw [<- oq]
      rw [e1,e2];exact mb hT (.fn (ztu hρ _) (ztu hρ _))
    . simp at ht
  . rename_i t x lo hi mx ho;unfold cop;simp only [ho];exact z83 hT (hρ x) (ydd hρ _) (ydd hρ _) (ydd hρ _) ht
  . rename_i t x k ho;unfold cop;simp only [ho];exact zw7 hT (hρ x) ht
  . rename_i t x ix ho;unfold cop;simp only [ho];exact zw6 hT (hρ x) (hρ ix) ht
  . rename_i t x ix ho;unfold cop;simp only [ho];exact z85 hT (hρ x) (hρ ix) ht
  . rename_i x k ho;unfold cop;simp only [ho];exact z12 hT (hρ x) ht
  . rename_i op t x ho;unfold cop;simp only [ho];exact yld hT ho (hρ x) ht
  . rename_i src dst x ho;unfold cop;simp only [ho];exact zyw hE hT ho (hρ x) ht
  . rename_i op t x y t2 ho;unfold cop;simp only [ho];exact yja hE hT ho (hρ x) (hρ y) ht
  . rename_i c ho;split at ht
    . rename_i b hc;obtain ⟨cal,args,tys⟩:=c;simp only at hc ht;subst hc;unfold cop;simp only [ho];exact zp8 hT hρ ho ht
    . simp at ht
  . simp at ht
theorem zw8 (hE:zdy P Γ) (hT:TRel GL A β S s) {own:List Nat} {ρT:fk->T} {ρ:fk->Value} (hρ:∀ x,VT A β (zaa s.obj) (ρT x) (ρ x)) {call:zdz} {o:Oper} {r:T} (ht:zf0 P Γ own ρT o S=some (r,S')):Ok GL A β s (cop P Γ call ρ o s) r S':=by
  unfold zf0 at ht;split at ht
  . rename_i e ho;unfold cop;simp only [ho];exact z89 hT ht
  . rename_i e x ho;unfold cop;simp only [ho];exact yi9 hT (hρ x) ht
  . rename_i t n parts ho;unfold cop;simp only [ho]
    cases hw:ownD own o.dst with
    |true=>rw [hw] at ht;exact zyx hT hρ ht
    |false =>
      rw [hw] at ht;obtain ⟨h1,rfl⟩:=zq1 ht;exact (zld hT hρ h1).ok
  . rename_i t x v ho;obtain ⟨h1,rfl⟩:=ydm ht;unfold cop;simp only [ho];exact z82 hT (hρ x) (hρ v) h1
  . rename_i t l c ho;unfold cop;simp only [ho];exact zw5 hT (hρ l) (hρ c) ht
  . rename_i src dst x ho;unfold cop;simp only [ho]
    cases hw:ownD own o.dst with
    |true=>rw [hw] at ht;exact z13 hT (hρ x) ht
    |false =>
      rw [hw] at ht;obtain ⟨h1,rfl⟩:=zq1 ht;exact (zyw hE hT ho (hρ x) h1).ok
  . rename_i c ho;obtain ⟨cal,args,tys⟩:=c;simp only at ht;split at ht
    . split at ht
      . rename_i x y t tx e1 e2;unfold cop;simp only [ho];rw [e1,e2]
        cases hq:srcT Γ tx with
        |false=>rw [hq] at ht;simp at ht
        |true =>
          rw [hq,cond_true] at ht;rw [yat hq];exact z7c hT (hρ x) (hρ y) ht
      . simp at ht
    . split at ht
      . rename_i x t e1 e2;unfold cop;simp only [ho];rw [e1,e2];exact z86 hT (hρ x) ht
      . simp at ht
    . obtain ⟨h1,rfl⟩:=zq1 ht;unfold cop;simp only [ho];exact (zp8 hT hρ ho h1).ok
    . simp at ht
  . obtain ⟨h1,rfl⟩:=zq1 ht;exact (z35 hE hT hρ h1).ok
end
def Call (P:fx) (Γ:Env) (GL:List (Nat×List Value)) (f:lp) (args:List T) (S:TS) (v:T) (S':TS):Prop :=
  ∀ A β s vargs,TRel GL A β S s->VL A β (zaa s.obj) args vargs->Ok GL A β s (zd6 P Γ f vargs s) v S'
def zhz (ops:List Oper) (h:Nat->T):Option (Nat×Bool)->Option Bool
  |none=>some true
  |some (j,want)=>match znp ops j with
    |some d=>(match h d with|.bool b=>some (b == want)|.tup _=>some false|_=>none)
    |none=>none
def zyi (P:fx) (Γ:Env) (GL:List (Nat×List Value)) (S:TS) (args:List T) (f:T) (r:T×TS):Option Prop:=match f with
  |.fn k first cap=>some (Call P Γ GL k (first++args++cap) S r.1 r.2)
  |_=>none
def andT (p:Prop):Option (Prop×(Nat->T)×TS)->Option (Prop×(Nat->T)×TS)
  |some (q,h,S)=>some (p/\q,h,S)
  |none=>none
def runT (P:fx) (Γ:Env) (GL:List (Nat×List Value)) (own:List Nat) (ops:List Oper):List Oper->(Nat->T)->TS->List (T×TS)->Option (Prop×(Nat->T)×TS)
  |[],h,S,_=>some (True,h,S)
  |o :: l,h,S,outs=>match zhz ops h o.guard with
    |none=>none
    |some false=>runT P Γ GL own ops l (putT h o.dst (.tup [])) S outs
    |some true=>match o.op with
      |.call ⟨.value f,args,tys⟩=>(match outs with
        |r :: outs=>(match zyi P Γ GL S (args.toList.map (zc4 GL h)) (zc4 GL h f) r with
          |some p=>andT p (runT P Γ GL own ops l (putT h o.dst r.1) r.2 outs)
          |none=>none)
        |[]=>none)
      |_=>(match zf0 P Γ own (zc4 GL h) o S with
        |some (t,S1)=>runT P Γ GL own ops l (putT h o.dst t) S1 outs
        |none=>none)
section
variable {GL:List (Nat×List Value)} {A A' A2:Nat->Prop} {β β' β2:Bx} {S S':TS} {s s' s2:CS} {P:fx} {Γ:Env}
theorem zhy {g:Nat->Fam} {ops:List Oper} {h:Nat->T} {N:Nat} {fr:Fr} {o:Oper} {b:Bool} (k:FrOk A β g N h fr) (hg:zhz ops h o.guard=some b):zcz ops fr o=b:=by
  unfold zhz at hg;unfold zcz;split at hg
  . rename_i hh;cases hg;rw [hh]
  . rename_i j want hh;rw [hh];split at hg
    . rename_i d hd;simp only [hd];split at hg
      . rename_i b' hb;have:=k.slot d;rw [hb] at this;generalize fr.get d=v at this;cases this;simp only [ei] at hg;exact hg
      . rename_i l hb;have:=k.slot d;rw [hb] at this;generalize fr.get d=v at this;cases this;simp only [ei] at hg;exact hg
      . simp at hg
    . simp at hg
def Left (GL:List (Nat×List Value)) (A:Nat->Prop) (β:Bx) (s:CS) (N:Nat) (fr':Fr) (s':CS) (h':Nat->T) (S':TS):Prop :=
  ∃ A' β',FrOk A' β' (zaa s'.obj) N h' fr'/\TRel GL A' β' S' s'/\Stp A β s A' β' s'
theorem Left.trans {N:Nat} {fr' fr2:Fr} {h' h2:Nat->T} {S2:TS} (hl:s.lim<=s.n) (hS:Stp A β s A' β' s') (k:Left GL A' β' s' N fr2 s2 h2 S2):Left GL A β s N fr2 s2 h2 S2:=by
  obtain ⟨A2,β2,k1,k2,k3⟩:=k;exact ⟨A2,β2,k1,k2,hS.trans hl k3⟩
theorem z2f (hE:zdy P Γ) {own:List Nat} {ops:List Oper} {N:Nat}:∀ {l:List Oper} {h h':Nat->T} {S S':TS} {outs:List (T×TS)} {ob:Prop} {A:Nat->Prop} {β:Bx} {fr:Fr} {s:CS},zev N l=true->FrOk A β (zaa s.obj) N h fr->TRel GL A β S s->runT P Γ GL own ops l h S outs=some (ob,h',S')->ob ->
    ∃ fr' s',runC P Γ (zd6 P Γ) ops l fr s=some (fr',s')/\Left GL A β s N fr' s' h' S'
  |[],h,h',S,S',outs,ob,A,β,fr,s,hd,hF,hT,hr,hob=>by
    simp only [runT,ei,eu] at hr;obtain ⟨rfl,rfl,rfl⟩:=hr;exact ⟨fr,s,rfl,A,β,hF,hT,qy⟩
  |o :: l,h,h',S,S',outs,ob,A,β,fr,s,hd,hF,hT,hr,hob=>by
    have hd':zev N l=true/\∀ t,o.dst=some t->t<N:=by
      unfold zev at hd ⊢;rw [i9,ep] at hd;refine ⟨hd.2,fun t ht=>?_⟩;have:=hd.1;rw [ht] at this;exact zab.1 this
    -- one step that is done
    have go:∀ {t:T} {S1:TS} {r:Option (Value×CS)} {l':List (T×TS)} {ob':Prop},Ok GL A β s r t S1->(cop P Γ (zd6 P Γ) (zge fr) o s=r)->zcz ops fr o=true->runT P Γ GL own ops l (putT h o.dst t) S1 l'=some (ob',h',S')->ob'->∃ fr' s',runC P Γ (zd6 P Γ) ops (o :: l) fr s=some (fr',s')/\Left GL A β s N fr' s' h' S':=by
      rintro t S1 r l' ob' ⟨v,s1,A1,β1,rfl,k1,k2,k3⟩ hc hw hrun hob';have hF1:FrOk A1 β1 (zaa s1.obj) N h fr:=hF.mono k3.sub (k3.old hT) k3.bx;obtain ⟨fr',s',e1,e2⟩:=z2f hE hd'.1 (hF1.put hd'.2 k2) k1 hrun hob';refine ⟨fr',s',?_,Left.trans (h':=h) (fr':=fr) hT.le k3 e2⟩;rw [runC]
      have:zcn P Γ (zd6 P Γ) ops o fr s=some (putC fr o.dst v,s1):=by
        unfold zcn;rw [hw,cond_true,hc]
      rw [this];exact e1
    unfold runT at hr;split at hr
    . simp at hr
    . rename_i hg;have hw:=zhy hF hg;obtain ⟨fr',s',e1,e2⟩:=z2f hE hd'.1 (hF.put hd'.2 VT.undf) hT hr hob;refine ⟨fr',s',?_,e2⟩;rw [runC]
      have:zcn P Γ (zd6 P Γ) ops o fr s=some (putC fr o.dst undef,s):=by
        unfold zcn;rw [hw,cond_false]
      rw [this];exact e1
    . rename_i hg;have hw:=zhy hF hg;split at hr
      . rename_i f args tys ho;split at hr
        . rename_i r outs';split at hr
          . rename_i p hp;unfold zyi at hp;split at hp
            . rename_i k first cap hf
              simp only [ei] at hp;subst hp
              cases hrun:runT P Γ GL own ops l (putT h o.dst r.1) r.2 outs' with
              |none=>rw [hrun] at hr;simp [andT] at hr
              |some q =>
                obtain ⟨q1,q2,q3⟩:=q;rw [hrun] at hr;simp only [andT,ei,eu] at hr;obtain ⟨rfl,rfl,rfl⟩:=hr;have hfv:=hF.eval hT f;rw [hf] at hfv;generalize e1:zge fr f=vf at hfv
                cases hfv with
                |fn h1 h2 =>
                  rename_i va vc;have hargs:=ztu (hF.eval hT) args.toList;have hcall:=hob.1 A β s _ hT ((h1.append hargs).append h2);refine go hcall ?_ hw hrun hob.2;unfold cop;simp only [ho,e1];unfold zm4;rfl
            . simp at hp
          . simp at hr
        . simp at hr
      . split at hr
        . rename_i t S1 hst;exact go (zw8 hE hT (hF.eval hT) hst) rfl hw hr hob
        . simp at hr
end
section
variable {GL:List (Nat×List Value)} {A A' A2:Nat->Prop} {β β' β2:Bx} {S S' S2:TS} {s s' s2:CS} {P:fx} {Γ:Env} {N:Nat} {h h' h2:Nat->T} {Q R:Exit->(Nat->T)->TS->Prop}
def TW (P:fx) (Γ:Env) (GL:List (Nat×List Value)) (N:Nat) (c:Code) (h:Nat->T) (S:TS) (Q:Exit->(Nat->T)->TS->Prop):Prop :=
  ∀ A β fr s,FrOk A β (zaa s.obj) N h fr->TRel GL A β S s->W P Γ c fr s fun e fr' s'=>∃ h' S',Left GL A β s N fr' s' h' S'/\Q e h' S'
def onT (k:(Nat->T)->TS->Prop) (Q:Exit->(Nat->T)->TS->Prop) (e:Exit) (h:Nat->T) (S:TS):Prop:=match e with
  |.normal=>k h S
  |e=>Q e h S
def onTB (id:Nat) (Q:Exit->(Nat->T)->TS->Prop) (e:Exit) (h:Nat->T) (S:TS):Prop:=match e with
  |.exit i=>bif fg i id then Q .normal h S else Q (.exit i) h S
  |e=>Q e h S
theorem Left.refl {fr:Fr} (hF:FrOk A β (zaa s.obj) N h fr) (hT:TRel GL A β S s):Left GL A β s N fr s h S:=⟨A,β,hF,hT,qy⟩
theorem TW.mono {c:Code} (k:TW P Γ GL N c h S Q) (hq:∀ e h S,Q e h S->R e h S):TW P Γ GL N c h S R:=fun A β fr s hF hT =>
  (k A β fr s hF hT).mono fun e fr' s' ⟨h',S',h1,h2⟩=>⟨h',S',h1,hq _ _ _ h2⟩
theorem TW.skip (k:Q .normal h S):TW P Γ GL N .skip h S Q:=fun A β fr s hF hT=>W.skip ⟨h,S,Left.refl hF hT,k⟩
theorem TW.ret (k:Q .ret h S):TW P Γ GL N .ret h S Q:=fun A β fr s hF hT=>W.ret ⟨h,S,Left.refl hF hT,k⟩
theorem TW.exit {id:Nat} (k:Q (.exit id) h S):TW P Γ GL N (.exit id) h S Q:=fun A β fr s hF hT=>W.exit ⟨h,S,Left.refl hF hT,k⟩
theorem TW.label {l:Nat} (k:Q .normal h S):TW P Γ GL N (.label l) h S Q:=fun A β fr s hF hT=>W.label ⟨h,S,Left.refl hF hT,k⟩
theorem TW.seq {a b:Code} (k:TW P Γ GL N a h S (onT (fun h S=>TW P Γ GL N b h S Q) Q)):TW P Γ GL N (.seq a b) h S Q:=fun A β fr s hF hT=>by
  refine W.seq ((k A β fr s hF hT).mono ?_);rintro e fr' s' ⟨h',S',⟨A',β',k1,k2,k3⟩,hq⟩
  cases e with
  |normal =>
    refine (hq A' β' fr' s' k1 k2).mono ?_;rintro e2 fr2 s2 ⟨h2,S2,l2,q2⟩;exact ⟨h2,S2,Left.trans (h':=h) (fr':=fr) hT.le k3 l2,q2⟩
  |_=>exact ⟨h',S',⟨A',β',k1,k2,k3⟩,hq⟩
theorem TW.cond {c:fk} {t f:Code} {b:Bool} (hb:zc4 GL h c=.bool b) (k:TW P Γ GL N (bif b then t else f) h S Q):TW P Γ GL N (.cond c t f) h S Q:=fun A β fr s hF hT=>by
  have:=hF.eval hT c;rw [hb] at this;refine W.cond (b:=b) ?_ (k A β fr s hF hT);generalize zge fr c=v at this;cases this;rfl
theorem TW.block {id:Nat} {b:Code} (k:TW P Γ GL N b h S (onTB id Q)):TW P Γ GL N (.block id b) h S Q:=fun A β fr s hF hT=>by
  refine W.block ((k A β fr s hF hT).mono ?_);rintro e fr' s' ⟨h',S',l,hq⟩
  cases e with
  |exit i =>
    simp only [onB];simp only [onTB] at hq
    cases hb:fg i id with
    |true=>rw [hb] at hq;exact ⟨h',S',l,hq⟩
    |false=>rw [hb] at hq;exact ⟨h',S',l,hq⟩
  |_=>exact ⟨h',S',l,hq⟩
theorem TW.scope {b:Code} (k:TW P Γ GL N b h S Q):TW P Γ GL N (.scope b) h S Q:=fun A β fr s hF hT=>W.scope (k A β fr s hF hT)
theorem TW.loop {b:Code} (I:Nat->(Nat->T)->TS->Prop) (hb:∀ n h S,I n h S->TW P Γ GL N b h S (onT (fun h S=>∃ m,m<n/\I m h S) Q)):∀ n h S,I n h S->TW P Γ GL N (.loop b) h S Q:=by
  intro n
  induction n using Nat.strongRecOn with
  |_ n ih =>
    intro h S hI A β fr s hF hT;obtain ⟨e,fr1,s1,h1,h',S',⟨A',β',k1,k2,k3⟩,hq⟩:=hb n h S hI A β fr s hF hT
    cases e with
    |normal =>
      obtain ⟨m,hm,hI'⟩:=hq;obtain ⟨e2,fr2,s2,h3,h2,S2,l2,q2⟩:=ih m hm h' S' hI' A' β' fr1 s1 k1 k2;exact ⟨e2,fr2,s2,Ev.again h1 h3,h2,S2,Left.trans (h':=h) (fr':=fr) hT.le k3 l2,q2⟩
    |_=>exact ⟨_,_,_,Ev.last h1 (by simp),h',S',⟨A',β',k1,k2,k3⟩,hq⟩
theorem TW.region (hE:zdy P Γ) {id:Nat} {ops:Array Oper} (own:List Nat) (outs:List (T×TS)) {ob:Prop} (hd:zev N ops.toList=true) (hr:runT P Γ GL own ops.toList ops.toList h S outs=some (ob,h',S')) (hob:ob) (hq:Q .normal h' S'):TW P Γ GL N (.region id ops false) h S Q:=fun A β fr s hF hT=>by
  obtain ⟨fr',s',e1,e2⟩:=z2f hE hd hF hT hr hob;exact W.region e1 ⟨h',S',e2,hq⟩
def resT (Γ:Env) (S:TS) (h:Nat->T):List ResultVar->Option (List T)
  |[]=>some []
  |.tmp t :: l=>(match resT Γ S h l with|some vs=>some (h t :: vs)|none=>none)
  |.cell a ty :: l=>(match zrt Γ S ty (h a),resT Γ S h l with|some v,some vs=>some (v :: vs)|_,_=>none)
def tupT:List T->T
  |[v]=>v
  |vs=>.tup vs
theorem zxk:∀ {l:List ResultVar} {vs:List T} {fr:Fr} {s:CS},FrOk A β (zaa s.obj) N h fr->TRel GL A β S s->resT Γ S h l=some vs->∃ ws s',resC Γ fr s l=some (ws,s')/\VL A β (zaa s.obj) vs ws/\TRel GL A β S s'/\Stp A β s A β s'/\s'.obj=s.obj
  |[],vs,fr,s,hF,hT,hr=>by
    simp only [resT,ei] at hr;subst hr;exact ⟨[],s,rfl,.nil,hT,qy,rfl⟩
  |.tmp t :: l,vs,fr,s,hF,hT,hr=>by
    simp only [resT] at hr;split at hr
    . rename_i vs' hv;cases hr;obtain ⟨ws,s',k1,k2,k3,k4,k5⟩:=zxk hF hT hv;exact ⟨_,s',by simp only [resC,k1],.cons (hF.slot t) k2,k3,k4,k5⟩
    . simp at hr
  |.cell a ty :: l,vs,fr,s,hF,hT,hr=>by
    simp only [resT] at hr;split at hr
    . rename_i v vs' hv hvs;cases hr;obtain ⟨ad,i,w,f,q1,q2,q3,q4,q5⟩:=z33 hT (hF.slot a) hv;obtain ⟨ws,s',k1,k2,k3,k4,k5⟩:=zxk (s:={ s with rd:=ins s.lim s.rd f }) hF (hT.read f) hvs;refine ⟨w :: ws,s',?_,.cons q5 k2,k3,(Stp.read q3).trans hT.le k4,k5⟩;simp only [resC,q1,q2,q4,k1]
    . simp at hr
def argT:List T->Nat->(Nat->T)->(Nat->T)
  |[],_,h=>h
  |v :: l,i,h=>argT l (i+1) (tupd h i v)
theorem zmf (v:T) (l:List T) (i:Nat) (h:Nat->T):argT (v :: l) i h=argT l (i+1) (tupd h i v):=rfl
theorem zpe (i:Nat) (h:Nat->T):argT [] i h=h:=rfl
theorem z3p {g:Nat->Fam}:∀ {args:List T} {vargs:List Value} {i:Nat} {h:Nat->T} {fr:Fr},VL A β g args vargs->FrOk A β g N h fr->i+args.length<=N->FrOk A β g N (argT args i h) (Fr.ofArgs vargs i fr)
  |_,_,i,h,fr,.nil,hF,_=>hF
  |_,_,i,h,fr,.cons h1 h2,hF,hl=>by
    rw [fq] at hl;show FrOk A β g N (argT _ (i+1) _) (Fr.ofArgs _ (i+1) (fr.put i _));have hi:i<N:=by omega
    exact z3p (i:=i+1) h2 (hF.put (d:=some i) (fun t ht=>by cases ht;exact hi) h1) (by rw [Nat.add_right_comm];exact hl)
theorem FrOk.start {g:Nat->Fam} (hN:N<=512):FrOk A β g N (fun _=>.junk) ⟨N,Tr.all undef 9⟩:=⟨rfl,hN,fun t=>.junk _⟩
def zuf (GL:List (Nat×List Value)) (v:T) (S:TS) (v':T) (S':TS):Prop :=
  ∀ A β s w,TRel GL A β S s->VT A β (zaa s.obj) v w->∃ A' β',TRel GL A' β' S' s/\VT A' β' (zaa s.obj) v' w/\Stp A β s A' β' s
theorem zuf.refl (v:T) (S:TS):zuf GL v S v S:=fun A β s w hT hv=>⟨A,β,hT,hv,qy⟩
theorem yf3 {g:Nat->Fam} {vs:List T} {ws:List Value} (h:VL A β g vs ws):VT A β g (tupT vs) (tupC ws):=by
  cases h with
  |nil=>exact .tup .nil
  |cons h1 h2 =>
    cases h2 with
    |nil=>exact h1
    |cons h3 h4=>exact .tup (.cons h1 (.cons h3 h4))
theorem Call.go {f:lp} {fn:Func} {body:Code} {args:List T} {v:T} {Sf:TS} (N:Nat) (hax:Γ.ax f=none) (hf:Γ.fn.at f=some fn) (hb:fn.body=some body) (hn:fn.ntmps=N) (hN:N<=512) (hl:args.length<=N)
    (k:TW P Γ GL N body (argT args 0 fun _=>.junk) S fun e h' S'=>(e=.normal\/e=.ret)/\∃ vs,resT Γ S' h' fn.results.toList=some vs/\zuf GL (tupT vs) S' v Sf):Call P Γ GL f args S v Sf:=by
  intro A β s vargs hT hargs;obtain ⟨e,fr',s1,h1,h',S',⟨A',β',k1,k2,k3⟩,he,vs,hr,hsh⟩:=k A β _ s (z3p hargs (FrOk.start hN) (by omega)) hT;obtain ⟨ws,s2,r1,r2,r3,r4,r5⟩:=zxk k1 k2 hr;rw [<- r5] at r2;obtain ⟨A2,β2,q1,q2,q3⟩:=hsh A' β' s2 _ r3 (yf3 r2);refine ⟨tupC ws,s2,A2,β2,?_,q1,q2,(k3.trans hT.le (r4.trans k2.le q3))⟩;have hlen:=hargs.len;exact zp1 hax hf hb (by omega) ⟨e,fr',s1,by rw [hn];exact h1,he,ws,r1,rfl⟩
end
mutual
def T.ids (n:Nat):T->Bool
  |.agg l=>T.idsL n l
  |.tup l=>T.idsL n l
  |.lst _ l=>T.idsL n l
  |.cp l=>T.idsL n l
  |.ptr b _ _=>gh b n
  |.arr b _ _ _ _ _=>gh b n
  |.mp b=>gh b n
  |.fn _ a c=>T.idsL n a && T.idsL n c
  |_=>true
def T.idsL (n:Nat):List T->Bool
  |[]=>true
  |t :: l=>T.ids n t && T.idsL n l
end
mutual
def T.flat:T->Bool
  |.agg l=>T.flatL l
  |.tup l=>T.flatL l
  |.int _ _=>true
  |.bool _=>true
  |.str _=>true
  |.nils=>true
  |.nilp=>true
  |.nilm=>true
  |.nilf=>true
  |.junk=>true
  |_=>false
def T.flatL:List T->Bool
  |[]=>true
  |t :: l=>T.flat t && T.flatL l
end
section
variable {GL:List (Nat×List Value)} {A A' A2:Nat->Prop} {β β' β2:Bx} {S S' S2:TS} {s s' s2:CS} {P:fx} {Γ:Env} {N:Nat} {h h' h2:Nat->T} {Q R:Exit->(Nat->T)->TS->Prop} {g g':Nat->Fam}
theorem zas {n:Nat}:∀ {l l2:List T},T.idsL n (l++l2)=(T.idsL n l && T.idsL n l2)
  |[],l2=>by simp [T.idsL]
  |t :: l,l2=>by simp only [f6,T.idsL,zas,Bool.and_assoc]
theorem ybw {n:Nat} {t:T} (h:t.ids n=true):T.idsL n t.cells=true:=by
  cases t<;>first|exact h | (simp only [iq,T.idsL,h,fm])
theorem zkb {n:Nat}:∀ {l:List T},T.idsL n l=true->T.idsL n (l.flatMap iq)=true
  |[],_=>rfl
  |t :: l,h=>by
    simp only [T.idsL,ep] at h;rw [im,zas,ybw h.1,zkb h.2];rfl
theorem z5n {n:Nat}:∀ {l:List T},(∀ t,t∈l->t.ids n=true)->T.idsL n l=true
  |[],_=>rfl
  |t :: l,h=>by
    simp only [T.idsL,ep];exact ⟨h t (by simp),z5n fun t ht=>h t (by simp [ht])⟩
mutual
theorem VT.ids {n:Nat} (hβ:∀ b,b<n->β' b=β b):∀ {t:T} {v:Value},t.ids n=true->VT A β g t v->VT A β' g t v
  |_,_,_,.int k n=>.int k n
  |_,_,_,.bool b=>.bool b
  |_,_,_,.str b=>.str b
  |_,_,hi,.agg h=>.agg (VL.ids hβ hi h)
  |_,_,hi,.tup h=>.tup (VL.ids hβ hi h)
  |_,_,_,.lnil=>.lnil
  |_,_,hi,.lst h1 h2 h3 h4 h5 h6 h7 h8=>.lst h1 h2 (VL.ids hβ (zkb hi) h3) h4 h5 h6 h7 h8
  |_,_,_,.nils=>.nils
  |_,_,_,.nilp=>.nilp
  |_,_,_,.nilm=>.nilm
  |_,_,_,.nilf=>.nilf
  |_,_,hi,.ptr h=>.ptr (by rw [hβ _ (zab.1 hi)];exact h)
  |_,_,hi,.ptrOld h h0 h1 h2=>.ptrOld (by rw [hβ _ (zab.1 hi)];exact h) h0 h1 h2
  |_,_,hi,.cp h1 h2 h3 h4=>.cp h1 h2 (VL.ids hβ hi h3) h4
  |_,_,hi,.arr h ht=>.arr (by rw [hβ _ (zab.1 hi)];exact h) ht
  |_,_,hi,.arrNil h=>.arrNil (by rw [hβ _ (zab.1 hi)];exact h)
  |_,_,hi,.arrOld h h0 h1 h2=>.arrOld (by rw [hβ _ (zab.1 hi)];exact h) h0 h1 h2
  |_,_,hi,.mp h=>.mp (by rw [hβ _ (zab.1 hi)];exact h)
  |_,_,hi,.mpOld h h2=>.mpOld (by rw [hβ _ (zab.1 hi)];exact h) h2
  |_,_,hi,.fn h1 h2=>by
    simp only [T.ids,ep] at hi;exact .fn (VL.ids hβ hi.1 h1) (VL.ids hβ hi.2 h2)
  |_,_,_,.junk v=>.junk v
  |_,_,_,.emp h1 h2 h3 h4=>.emp h1 h2 h3 h4
theorem VL.ids {n:Nat} (hβ:∀ b,b<n->β' b=β b):∀ {l:List T} {vs:List Value},T.idsL n l=true->VL A β g l vs->VL A β' g l vs
  |_,_,_,.nil=>.nil
  |_,_,hi,.cons h k=>by
    simp only [T.idsL,ep] at hi;exact .cons (VT.ids hβ hi.1 h) (VL.ids hβ hi.2 k)
end
mutual
theorem VT.flat:∀ {t:T} {v:Value},t.flat=true->VT A β g t v->VT A' β' g' t v
  |_,_,_,.int k n=>.int k n
  |_,_,_,.bool b=>.bool b
  |_,_,_,.str b=>.str b
  |_,_,hi,.agg h=>.agg (VL.flat hi h)
  |_,_,hi,.tup h=>.tup (VL.flat hi h)
  |_,_,_,.nils=>.nils
  |_,_,_,.nilp=>.nilp
  |_,_,_,.nilm=>.nilm
  |_,_,_,.nilf=>.nilf
  |_,_,_,.junk v=>.junk v
  |_,_,hi,.lnil=>by simp [T.flat] at hi
  |_,_,hi,.lst _ _ _ _ _ _ _ _=>by simp [T.flat] at hi
  |_,_,hi,.ptr _=>by simp [T.flat] at hi
  |_,_,hi,.ptrOld _ _ _ _=>by simp [T.flat] at hi
  |_,_,hi,.cp _ _ _ _=>by simp [T.flat] at hi
  |_,_,hi,.arr _ _=>by simp [T.flat] at hi
  |_,_,hi,.arrNil _=>by simp [T.flat] at hi
  |_,_,hi,.arrOld _ _ _ _=>by simp [T.flat] at hi
  |_,_,hi,.mp _=>by simp [T.flat] at hi
  |_,_,hi,.mpOld _ _=>by simp [T.flat] at hi
  |_,_,hi,.fn _ _=>by simp [T.flat] at hi
  |_,_,hi,.emp _ _ _ _=>by simp [T.flat] at hi
theorem VL.flat:∀ {l:List T} {vs:List Value},T.flatL l=true->VL A β g l vs->VL A' β' g' l vs
  |_,_,_,.nil=>.nil
  |_,_,hi,.cons h k=>by
    simp only [T.flatL,ep] at hi;exact .cons (VT.flat hi.1 h) (VL.flat hi.2 k)
end
def bx0:Bx:=fun _=>none
theorem zks {f:Nat}:¬ Own bx0 f:=fun ⟨b,h⟩=>by rcases h with ⟨u,N,h⟩|h<;>simp [bx0] at h
theorem TRel.bare (hT:TRel GL A β S s) (A1:Nat->Prop) (h1:∀ f,A f->A1 f) (h2:∀ f,A1 f->f<s.n):TRel GL A1 bx0 ts0 s :=
  ⟨hT.inr,hT.inv,h2,fun f hf=>absurd hf zks,fun b b' l l' f hb=>by simp [bx0] at hb,fun b _=>rfl,fun b z N l hb=>by simp [ts0] at hb,fun b l hb=>by simp [ts0] at hb,fun x hx=>⟨h1 _ (hT.glob x hx).1,(hT.glob x hx).2⟩⟩
def Pure (P:fx) (Γ:Env) (GL:List (Nat×List Value)) (f:lp) (args:List T) (v:T):Prop:=T.idsL 0 args=true/\v.ids 0=true/\Call P Γ GL f args ts0 v ts0
def zan (P:fx) (Γ:Env) (GL:List (Nat×List Value)) (f:lp) (args:List T) (S:TS) (v:T):Prop :=
  ∀ A β s vargs,TRel GL A β S s->VL A β (zaa s.obj) args vargs->Ok0 GL A β S s (zd6 P Γ f vargs s) v
theorem zan.call {f:lp} {args:List T} {v:T} (k:zan P Γ GL f args S v):Call P Γ GL f args S v S:=fun A β s vargs hT hv=>(k A β s vargs hT hv).ok
theorem Pure.call {f:lp} {args:List T} {v:T} (k:Pure P Γ GL f args v) (S:TS):zan P Γ GL f args S v:=by
  intro A β s vargs hT hv;obtain ⟨k1,k2,k3⟩:=k;have hT0:=hT.bare A (fun _ h=>h) hT.alt;obtain ⟨w,s',A',β',e1,e2,e3,e4⟩:=k3 A bx0 s vargs hT0 (VL.ids (n:=0) (fun b hb=>absurd hb (by omega)) k1 hv)
  have hc:zi2 A β s A' s':=by
    refine ⟨e4.can,e4.sub,fun f hf=>?_,fun f hf=>e4.keep f hf zks,fun x hx=>?_,fun x hx=>?_⟩
    . rcases e4.new f hf with q|q|q
      . exact .inl q
      . exact .inr q
      . exact absurd q zks
    . rcases e4.rd x hx with q|⟨q,q2⟩
      . exact .inl q
      . exact .inr ⟨q,.inl (q2.resolve_right zks)⟩
    . rcases e4.wr x hx with q|⟨_,q⟩
      . exact q
      . exact absurd q zks
  exact ⟨w,s',A',e1,hc.rel hT e2.inr e2.inv e2.alt,VT.ids (n:=0) (fun b hb=>absurd hb (by omega)) k2 e3,hc⟩
def yfv (S:TS) (t t':T):Prop:=t=t'\/∃ b e off len cap N z l L,t=.arr b e off len cap N/\t'=.lst e L/\S.box b=.cells z N l/\0<e/\off+len*e<=N/\(l.drop off).take (len*e)=L.flatMap iq/\(∀ t,t∈L->t.cells.length=e)/\L.length=len/\len<=cap
def Lend (S:TS):List T->List T->Prop
  |[],[]=>True
  |t :: l,t' :: l'=>yfv S t t'/\Lend S l l'
  |_,_=>False
theorem yex (hT:TRel GL A β S s) {t t':T} {v:Value} (hi:t'.ids 0=true) (hl:yfv S t t') (hv:VT A β (zaa s.obj) t v):VT (fun f=>A f\/Own β f) bx0 (zaa s.obj) t' v:=by
  rcases hl with rfl|⟨b,e,off,len,cap,N,z,l,L,rfl,rfl,hS,he,hN,hL,hs,hlen,hcap⟩
  . exact (VT.ids (n:=0) (β':=bx0) (fun b hb=>absurd hb (by omega)) hi hv).mono (fun _ h=>.inl h) (fun _ _=>rfl) (ls _)
  . rcases zg1 hT hS hv with ⟨f,u,rfl,hb,htag⟩|⟨rfl,hb,rfl,rfl,rfl,rfl⟩
    . obtain ⟨hlN,hc⟩:=hT.cells b z N l hS;rcases hc with ⟨hb2,_,_⟩|⟨f',u',cs,rest,hb2,hz,hat,hvl,hone⟩
      . rw [hb] at hb2;simp at hb2
      rw [hb] at hb2;cases hb2;have hcl:=hvl.len
      have hrow:zbm (zaa s.obj f).rows u=some cs:=by
        rw [hat];show zbm ((u,cs) :: rest) u=some cs;unfold zbm;rw [ij];rfl
      have h1:VL A β (zaa s.obj) (L.flatMap iq) ((cs.drop off).take (len*e)):=by rw [<- hL];exact (hvl.drop off).take _
      have h2:VL (fun f=>A f\/Own β f) bx0 (zaa s.obj) (L.flatMap iq) ((cs.drop off).take (len*e)) :=
        (VL.ids (n:=0) (β':=bx0) (fun b hb=>absurd hb (by omega)) (zkb hi) h1).mono (fun _ h=>.inl h) (fun _ _=>rfl) (ls _)
      have h3:((cs.drop off).take (len*e)).length=len*e:=by rw [gq,iw];omega
      have:=VT.lst (A:=fun f=>A f\/Own β f) (β:=bx0) (g:=zaa s.obj) (off:=off) (cap:=cap) (.inr (zcu hb)) hrow h2 hs he (by rw [h3]) htag (by omega);rw [hlen] at this;exact this
    . have:L=[]:=jb hlen;subst this;exact .lnil
theorem ybf (hT:TRel GL A β S s):∀ {l l':List T} {vs:List Value},T.idsL 0 l'=true->Lend S l l'->VL A β (zaa s.obj) l vs->VL (fun f=>A f\/Own β f) bx0 (zaa s.obj) l' vs
  |[],[],_,_,_,.nil=>.nil
  |t :: l,t' :: l',_,hi,hl,.cons h1 h2=>by
    simp only [T.idsL,ep] at hi;exact .cons (yex hT hi.1 hl.1 h1) (ybf hT hi.2 hl.2 h2)
  |[],_ :: _,_,_,hl,_=>hl.elim
  |_ :: _,[],_,_,hl,_=>hl.elim
theorem Pure.lend {f:lp} {args args':List T} {v:T} (k:Pure P Γ GL f args' v) (hl:Lend S args args') (hv:v.flat=true):zan P Γ GL f args S v:=by
  intro A β s vargs hT hva;obtain ⟨k1,k2,k3⟩:=k;have hA1:∀ f,(A f\/Own β f)->f<s.n:=fun f hf=>hf.elim (hT.alt f) fun h=>(hT.dis f h).1;have hT0:=hT.bare (fun f=>A f\/Own β f) (fun _ h=>.inl h) hA1;obtain ⟨w,s',A',β',e1,e2,e3,e4⟩:=k3 _ bx0 s vargs hT0 (ybf hT k1 hl hva)
  have hc:zi2 A β s A s':=by
    refine ⟨e4.can,fun _ h=>h,fun f hf=>.inl hf,fun f hf=>e4.keep f hf zks,fun x hx=>?_,fun x hx=>?_⟩
    . rcases e4.rd x hx with q|⟨q,q2⟩
      . exact .inl q
      . exact .inr ⟨q,q2.resolve_right zks⟩
    . rcases e4.wr x hx with q|⟨_,q⟩
      . exact q
      . exact absurd q zks
  exact ⟨w,s',A,e1,hc.rel hT e2.inr e2.inv (fun f hf=>gr (hT.alt f hf) e4.can.n),e3.flat hv,hc⟩
def bcut (β:Bx) (n:Nat):Bx:=fun b=>if b<n then β b else none
def zg0 (n:Nat):Box->Bool
  |.gone=>true
  |.cells _ _ l=>T.idsL n l
  |.map l=>T.idsL n (l.map (·.1)) && T.idsL n (l.map (·.2))
def zp4 (S1 Sf:TS):Prop:=Sf.n<=S1.n/\∀ b,Sf.box b=.gone\/(b<Sf.n/\Sf.box b=S1.box b/\zg0 Sf.n (S1.box b)=true)
theorem TRel.cut (hT:TRel GL A β S s) (hk:zp4 S S2):TRel GL A (bcut β S2.n) S2 s:=by
  have hat:∀ b,b<S2.n->bcut β S2.n b=β b:=fun b hb=>zAc hb
  have hsub:∀ b l,bcut β S2.n b=some l->β b=some l:=fun b l h=>by
    unfold bcut at h;split at h
    . exact h
    . simp at h
  have hown:∀ f,Own (bcut β S2.n) f->Own β f:=fun f ⟨b,hb⟩=>⟨b,hb.imp (fun ⟨u,N,h⟩=>⟨u,N,hsub _ _ h⟩) fun h=>hsub _ _ h⟩;refine ⟨hT.inr,hT.inv,hT.alt,fun f hf=>hT.dis f (hown f hf),fun b b' l l' f hb hb'=>hT.inj b b' l l' f (hsub _ _ hb) (hsub _ _ hb'),fun b hb=>zAd (by omega),fun b z N l hb=>?_,fun b l hb=>?_,hT.glob⟩
  . rcases hk.2 b with q|⟨q1,q2,q3⟩
    . rw [q] at hb;simp at hb
    . rw [q2] at hb;obtain ⟨c1,c2⟩:=hT.cells b z N l hb;rw [hb] at q3;refine ⟨c1,?_⟩;rcases c2 with ⟨d1,d2,d3⟩|⟨f,u,cs,rest,d1,d2,d3,d4,d5⟩
      . exact .inl ⟨by rw [hat b q1];exact d1,d2,d3⟩
      . exact .inr ⟨f,u,cs,rest,by rw [hat b q1];exact d1,d2,d3,VL.ids hat q3 d4,d5⟩
  . rcases hk.2 b with q|⟨q1,q2,q3⟩
    . rw [q] at hb;simp at hb
    . rw [q2] at hb;obtain ⟨r,es,c1,c2,c3,c4⟩:=hT.maps b l hb;rw [hb] at q3;simp only [zg0,ep] at q3;exact ⟨r,es,by rw [hat b q1];exact c1,c2,VL.ids hat q3.1 c3,VL.ids hat q3.2 c4⟩
theorem Call.enter {f:lp} {fn:Func} {body:Code} {args:List T} {v:T} {Sf:TS} (N:Nat) (hax:Γ.ax f=none) (hf:Γ.fn.at f=some fn) (hb:fn.body=some body) (hn:fn.ntmps=N) (hN:N<=512) (hl:args.length<=N) (hSf:S.n<=Sf.n) (hv:v.ids Sf.n=true)
    (k:TW P Γ GL N body (argT args 0 fun _=>.junk) S fun e h' S'=>(e=.normal\/e=.ret)/\∃ vs,resT Γ S' h' fn.results.toList=some vs/\∃ S1,zuf GL (tupT vs) S' v S1/\zp4 S1 Sf):Call P Γ GL f args S v Sf:=by
  intro A β s vargs hT hargs;obtain ⟨e,fr',s1,h1,h',S',⟨A',β',k1,k2,k3⟩,he,vs,hr,S1,hsh,hkp⟩:=k A β _ s (z3p hargs (FrOk.start hN) (by omega)) hT;obtain ⟨ws,s2,r1,r2,r3,r4,r5⟩:=zxk k1 k2 hr;rw [<- r5] at r2;obtain ⟨A2,β2,q1,q2,q3⟩:=hsh A' β' s2 _ r3 (yf3 r2);have hall:Stp A β s A2 β2 s2:=k3.trans hT.le (r4.trans k2.le q3);have hat:∀ b,b<Sf.n->bcut β2 Sf.n b=β2 b:=fun b hb=>zAc hb
  have hsub:∀ b l,bcut β2 Sf.n b=some l->β2 b=some l:=fun b l h=>by
    unfold bcut at h;split at h
    . exact h
    . simp at h
  refine ⟨tupC ws,s2,A2,bcut β2 Sf.n,?_,q1.cut hkp,q2.ids hat hv,hall.can,hall.sub,hall.new,fun f hf=>?_,hall.keep,fun b l hb=>?_,hall.rd,hall.wr⟩
  . have hlen:=hargs.len;exact zp1 hax hf hb (by omega) ⟨e,fr',s1,by rw [hn];exact h1,he,ws,r1,rfl⟩
  . obtain ⟨b,hb⟩:=hf;exact hall.own f ⟨b,hb.imp (fun ⟨u,N,h⟩=>⟨u,N,hsub _ _ h⟩) fun h=>hsub _ _ h⟩
  . obtain ⟨l',c1,c2⟩:=hall.bx b l hb
    have:b<S.n:=by
      by_cases hh:b<S.n
      . exact hh
      . rw [hT.next b (by omega)] at hb;simp at hb
    exact ⟨l',by rw [hat b (by omega)];exact c1,c2⟩
theorem zp4.none (S:TS):zp4 S ts0:=⟨ik _,fun b=>.inl rfl⟩
theorem Pure.enter {f:lp} {fn:Func} {body:Code} {args:List T} {v:T} (N:Nat) (hax:Γ.ax f=none) (hf:Γ.fn.at f=some fn) (hb:fn.body=some body) (hn:fn.ntmps=N) (hN:N<=512) (hl:args.length<=N) (ha:T.idsL 0 args=true) (hv:v.ids 0=true)
    (k:TW P Γ GL N body (argT args 0 fun _=>.junk) ts0 fun e h' S'=>(e=.normal\/e=.ret)/\resT Γ S' h' fn.results.toList=some [v]):Pure P Γ GL f args v :=
  ⟨ha,hv,Call.enter N hax hf hb hn hN hl (fd _) hv (k.mono fun e h' S' ⟨h1,h2⟩=>⟨h1,[v],h2,S',zuf.refl _ _,zp4.none S'⟩)⟩
theorem Pure.enterN {f:lp} {fn:Func} {body:Code} {args:List T} {vs:List T} (N:Nat) (hax:Γ.ax f=none) (hf:Γ.fn.at f=some fn) (hb:fn.body=some body) (hn:fn.ntmps=N) (hN:N<=512) (hl:args.length<=N) (ha:T.idsL 0 args=true) (hv:(tupT vs).ids 0=true)
    (k:TW P Γ GL N body (argT args 0 fun _=>.junk) ts0 fun e h' S'=>(e=.normal\/e=.ret)/\resT Γ S' h' fn.results.toList=some vs):Pure P Γ GL f args (tupT vs) :=
  ⟨ha,hv,Call.enter N hax hf hb hn hN hl (fd _) hv (k.mono fun e h' S' ⟨h1,h2⟩=>⟨h1,vs,h2,S',zuf.refl _ _,zp4.none S'⟩)⟩
theorem TRel.dead (hT:TRel GL A β S s) {b:Nat} {l0:Loc} (hb:β b=some l0) (A':Nat->Prop) (hA:∀ f,A f->A' f) (hA2:∀ f,A' f->A f\/l0.fam=some f) :
    TRel GL A' (bnew β b .dead) (S.set b .gone) s/\Stp A β s A' (bnew β b .dead) s:=by
  have hse:bnew β b .dead b=some .dead:=zAc rfl;have hne:∀ b',b'≠b->bnew β b .dead b'=β b':=fun b' hb'=>zAd hb'
  have hle:Bx.le β (bnew β b .dead):=fun i x hx=>by
    by_cases hi:i=b
    . subst hi;exact ⟨.dead,hse,by cases x<;>simp [Loc.le]⟩
    . exact ⟨x,by rw [hne i hi];exact hx,Loc.le_refl x⟩
  have hfam:∀ f,l0.fam=some f->Own β f:=fun f hf=>by
    cases l0 with
    |live f' u N=>simp [nv] at hf;subst hf;exact zcu hb
    |map r=>simp [nv] at hf;subst hf;exact zlr hb
    |nil=>simp [nv] at hf
    |dead=>simp [nv] at hf
  have hown:∀ f,Own (bnew β b .dead) f->Own β f/\l0.fam≠some f:=fun f ⟨b',hb'⟩=>by
    by_cases hi:b'=b
    . subst hi;rw [hse] at hb';rcases hb' with ⟨u,N,hb'⟩|hb'<;>simp at hb'
    . rw [hne b' hi] at hb';refine ⟨⟨b',hb'⟩,fun hh=>hi ?_⟩;rcases hb' with ⟨u,N,hb'⟩|hb'
      . exact hT.inj b' b _ l0 f hb' hb rfl hh
      . exact hT.inj b' b _ l0 f hb' hb rfl hh
  have hblt:b<S.n:=by
    by_cases hh:b<S.n
    . exact hh
    . rw [hT.next b (by omega)] at hb;simp at hb
  refine ⟨⟨hT.inr,hT.inv,fun f hf=>?_,fun f hf=>?_,fun b1 b2 l1 l2 f h1 h2 h3 h4=>?_,fun b' hb'=>?_,fun b' z N l hb'=>?_,fun b' l hb'=>?_,fun x hx=>⟨hA _ (hT.glob x hx).1,(hT.glob x hx).2⟩⟩,
    ja _,hA,fun f hf=>(hA2 f hf).imp id fun q=>.inr (hfam f q),fun f hf=>.inl (hown f hf).1,fun _ _ _=>rfl,hle,fun _ h=>.inl h,fun _ h=>.inl h⟩
  . rcases hA2 f hf with q|q
    . exact hT.alt f q
    . exact (hT.dis f (hfam f q)).1
  . obtain ⟨q1,q2⟩:=hown f hf;refine ⟨(hT.dis f q1).1,fun hh=>?_⟩;rcases hA2 f hh with q|q
    . exact (hT.dis f q1).2 q
    . exact q2 q
  . by_cases e1:b1=b
    . subst e1;rw [hse] at h1;cases h1;simp [nv] at h3
    . by_cases e2:b2=b
      . subst e2;rw [hse] at h2;cases h2;simp [nv] at h4
      . rw [hne b1 e1] at h1;rw [hne b2 e2] at h2;exact hT.inj b1 b2 l1 l2 f h1 h2 h3 h4
  . have:S.n<=b':=hb';rw [hne b' (by omega)];exact hT.next b' this
  . by_cases hi:b'=b
    . subst hi;rw [mm] at hb';simp at hb'
    . rw [mw _ _ hi] at hb';exact (hT.cells b' z N l hb').mono hA (fun _ _=>rfl) hle (hne b' hi) fun _ _ _ _=>rfl
  . by_cases hi:b'=b
    . subst hi;rw [mm] at hb';simp at hb'
    . rw [mw _ _ hi] at hb';exact (hT.maps b' l hb').mono hA (fun _ _=>rfl) hle (hne b' hi) fun _ _=>rfl
theorem TRel.freeze (hT:TRel GL A β S s) {b N:Nat} {z:Bool} {l:List T} (hS:S.box b=.cells z N l) :
    ∃ A' β',TRel GL A' β' (S.set b .gone) s/\Stp A β s A' β' s/\∀ {e off len cap:Nat} {v:Value} {L:List T},VT A β (zaa s.obj) (.arr b e off len cap N) v->0<e->off+len*e<=N->(l.drop off).take (len*e)=L.flatMap iq->(∀ t,t∈L->t.cells.length=e)->L.length=len->len<=cap->VT A' β' (zaa s.obj) (.lst e L) v:=by
  obtain ⟨hlN,hc⟩:=hT.cells b z N l hS;rcases hc with ⟨hb,hN,_⟩|⟨f,u,cs,rest,hb,hz,hat,hvl,hone⟩
  . obtain ⟨k1,k2⟩:=hT.dead hb A (fun _ h=>h) (fun _ h=>.inl h);refine ⟨_,_,k1,k2,fun {e off len cap v L} hv he hoff hL hs hlen hcap=>?_⟩;rcases zg1 hT hS hv with ⟨f,u,rfl,hb',_⟩|⟨rfl,_,rfl,rfl,rfl,_⟩
    . rw [hb] at hb';simp at hb'
    . have:L=[]:=jb hlen;subst this;exact .lnil
  . obtain ⟨k1,k2⟩:=hT.dead hb (fun k=>A k\/k=f) (fun _ h=>.inl h) (fun k hk=>hk.imp id fun q=>by rw [q];rfl);refine ⟨_,_,k1,k2,fun {e off len cap v L} hv he hoff hL hs hlen hcap=>?_⟩;rcases zg1 hT hS hv with ⟨f',u',rfl,hb',htag⟩|⟨rfl,hb',_⟩
    . rw [hb] at hb';cases hb';have hcl:=hvl.len
      have hrow:zbm (zaa s.obj f).rows u=some cs:=by
        rw [hat];show zbm ((u,cs) :: rest) u=some cs;unfold zbm;rw [ij];rfl
      have h1:VL A β (zaa s.obj) (L.flatMap iq) ((cs.drop off).take (len*e)):=by rw [<- hL];exact (hvl.drop off).take _
      have h3:((cs.drop off).take (len*e)).length=len*e:=by rw [gq,iw];omega
      have:=VT.lst (A:=fun k=>A k\/k=f) (β:=bnew β b .dead) (g:=zaa s.obj) (off:=off) (cap:=cap) (.inr rfl) hrow (h1.mono (fun _ h=>.inl h) (fun _ _=>rfl) k2.bx) hs he (by rw [h3]) htag (by omega);rw [hlen] at this;exact this
    . rw [hb] at hb';simp at hb'
theorem TW.freeze {c:Code} (t:Nat) {b e off len cap M:Nat} {z:Bool} {l:List T} (L:List T) (ht:h t=.arr b e off len cap M) (hS:S.box b=.cells z M l) (he:0<e) (hoff:off+len*e<=M) (hL:(l.drop off).take (len*e)=L.flatMap iq) (hs:∀ t,t∈L->t.cells.length=e) (hlen:L.length=len) (hcap:len<=cap)
    (k:TW P Γ GL N c (tupd h t (.lst e L)) (S.set b .gone) Q):TW P Γ GL N c h S Q:=by
  intro A β fr s hF hT;obtain ⟨A',β',k1,k2,k3⟩:=hT.freeze hS;have hv:=hF.slot t;rw [ht] at hv
  have hF':FrOk A' β' (zaa s.obj) N (tupd h t (.lst e L)) fr:=⟨hF.nt,hF.le,fun u=>by
    by_cases hu:u=t
    . subst hu;rw [zgn];exact k3 hv he hoff hL hs hlen hcap
    . rw [zkh _ _ _ _ hu];exact k2.vt hT (hF.slot u)⟩
  refine (k A' β' fr s hF' k1).mono ?_;rintro e2 fr2 s2 ⟨h2,S2,l2,q2⟩;exact ⟨h2,S2,Left.trans (h':=h) (fr':=fr) hT.le k2 l2,q2⟩
theorem TW.vec {c:Code} (t e:Nat) (ht:h t=.nils) (k:TW P Γ GL N c (tupd h t (.arr S.n e 0 0 0 0)) (S.add (.cells false 0 [])) Q):TW P Γ GL N c h S Q:=by
  intro A β fr s hF hT;have hv:=hF.slot t;rw [ht] at hv;have hb0:β S.n=none:=hT.next _ (fd _)
  have hle:Bx.le β (bnew β S.n .nil):=zyj hb0;have hse:bnew β S.n .nil S.n=some .nil:=zAc rfl;have hne:∀ b',b'≠S.n->bnew β S.n .nil b'=β b':=fun b' hb'=>zAd hb'
  have hown:∀ f,Own (bnew β S.n .nil) f->Own β f:=fun f ⟨b',hb'⟩=>by
    by_cases hi:b'=S.n
    . subst hi;rw [hse] at hb';rcases hb' with ⟨u,N,hb'⟩|hb'<;>simp at hb'
    . rw [hne b' hi] at hb';exact ⟨b',hb'⟩
  have hst:Stp A β s A (bnew β S.n .nil) s:=⟨ja _,fun _ h=>h,fun _ h=>.inl h,fun f hf=>.inl (hown f hf),fun _ _ _=>rfl,hle,fun _ h=>.inl h,fun _ h=>.inl h⟩
  have hT':TRel GL A (bnew β S.n .nil) (S.add (.cells false 0 [])) s:=by
    refine ⟨hT.inr,hT.inv,hT.alt,fun f hf=>hT.dis f (hown f hf),fun b1 b2 l1 l2 f h1 h2 h3 h4=>?_,fun b' hb'=>?_,fun b' z N l hb'=>?_,fun b' l hb'=>?_,hT.glob⟩
    . by_cases e1:b1=S.n
      . subst e1;rw [hse] at h1;cases h1;simp [nv] at h3
      . by_cases e2:b2=S.n
        . subst e2;rw [hse] at h2;cases h2;simp [nv] at h4
        . rw [hne b1 e1] at h1;rw [hne b2 e2] at h2;exact hT.inj b1 b2 l1 l2 f h1 h2 h3 h4
    . have:S.n+1<=b':=hb';rw [hne b' (by omega)];exact hT.next b' (by omega)
    . by_cases hi:b'=S.n
      . subst hi;rw [TS.add_same] at hb';cases hb';exact ⟨rfl,.inl ⟨hse,rfl,rfl⟩⟩
      . rw [TS.add_ne _ _ hi] at hb';exact (hT.cells b' z N l hb').mono (fun _ h=>h) (fun _ _=>rfl) hle (hne b' hi) fun _ _ _ _=>rfl
    . by_cases hi:b'=S.n
      . subst hi;rw [TS.add_same] at hb';cases hb'
      . rw [TS.add_ne _ _ hi] at hb';exact (hT.maps b' l hb').mono (fun _ h=>h) (fun _ _=>rfl) hle (hne b' hi) fun _ _=>rfl
  have hF':FrOk A (bnew β S.n .nil) (zaa s.obj) N (tupd h t (.arr S.n e 0 0 0 0)) fr:=⟨hF.nt,hF.le,fun u=>by
    by_cases hu:u=t
    . subst hu;rw [zgn];generalize fr.get u=w at hv;cases hv;exact .arrNil hse
    . rw [zkh _ _ _ _ hu];exact hst.vt hT (hF.slot u)⟩
  refine (k A _ fr s hF' hT').mono ?_;rintro e2 fr2 s2 ⟨h2,S2,l2,q2⟩;exact ⟨h2,S2,Left.trans (h':=h) (fr':=fr) hT.le hst l2,q2⟩
end
def zh3:Op->Bool
  |.move _=>true
  |.assign _=>true
  |.pick _ _ _=>true
  |.build _ _=>true
  |.makeFunc _ _ _=>true
  |.slice _ _ _ _ _=>true
  |.fieldAddr _ _ _=>true
  |.indexAddr _ _ _=>true
  |.index _ _ _=>true
  |.extract _ _=>true
  |.unOp _ _ _=>true
  |.binOp _ _ _ _ _=>true
  |_=>false
def zib:Op->Bool
  |.alloc _=>true
  |.box _ _=>true
  |.buildSlice _ _ _=>true
  |.makeSlice _ _ _=>true
  |o=>zh3 o
section
variable {GL:List (Nat×List Value)} {A A' A0:Nat->Prop} {β β':Bx} {S S':TS} {s s' s2:CS} {P:fx} {Γ:Env} {N:Nat} {h h':Nat->T} {call:zdz} {ρ:fk->Value} {o:Oper} {v:Value}
theorem zlo {r:Option Value} (hc:retC s r=some (v,s')):s'=s:=by
  unfold retC at hc;split at hc<;>first | (cases hc;rfl) | (simp at hc)
theorem zsi {r:Option Value} (hc:zgu P ρ o s r=some (v,s')):s'=s:=by
  unfold zgu at hc;split at hc
  . cases hc;rfl
  . exact zlo hc
theorem z1u {r:Option (List Value)} (hc:aggC s r=some (v,s')):s'=s:=by
  unfold aggC at hc;split at hc<;>first | (cases hc;rfl) | (simp at hc)
theorem z07 {size:Nat} {ex:Bool} {a:Addr} {b:Option (Nat×Nat×Nat)} (hc:cutC s size ex a b=some (v,s')):s'=s:=by
  unfold cutC at hc;split at hc
  . rename_i l hh m
    cases hq:(fg (Addr.ver a % 1024) 0 || (!ex && fg (Addr.ver a % 1024) (size+1))) with
    |false=>rw [hq] at hc;simp at hc
    |true=>rw [hq] at hc;cases hc;rfl
  . simp at hc
theorem ztl {d:mz} {a:Addr} {lo hi mx:Option Value} (hc:zm7 Γ s d a lo hi mx=some (v,s')):s'=s:=by
  unfold zm7 at hc;split at hc
  . split at hc
    . rw [zcg] at hc;split at hc
      . exact z07 hc
      . simp at hc
    . simp at hc
  . simp at hc
theorem zzp {t:fw} {x:Value} {lo hi mx:Option Value} (hc:zc9 Γ s t x lo hi mx=some (v,s')):s'=s:=by
  unfold zc9 at hc;split at hc
  . split at hc
    . rename_i b;split at hc
      . cases hq:mx.isNone with
        |false=>rw [hq] at hc;simp at hc
        |true =>
          rw [hq,cond_true] at hc;unfold z6h at hc;split at hc<;>first | (cases hc;rfl) | (simp at hc)
      . simp at hc
    . split at hc
      . split at hc
        . split at hc
          . split at hc<;>first | (cases hc;rfl) | (simp at hc)
          . simp at hc
        . split at hc
          . exact z07 hc
          . simp at hc
      . simp at hc
    . split at hc
      . split at hc
        . exact ztl hc
        . simp at hc
      . exact ztl hc
    . simp at hc
  . simp at hc
theorem zuz {size k n:Nat} {a:Addr} (hc:zt1 s size k n a=some (v,s')):s'=s:=by
  unfold zt1 at hc
  cases hq:gh k n with
  |false=>rw [hq] at hc;simp at hc
  |true=>rw [hq] at hc;cases hc;rfl
theorem zvr (hm:zh3 o.op=true) (hc:cop P Γ call ρ o s=some (v,s')):s'=s:=by
  obtain ⟨d,op,ty,pos,e,g⟩:=o;unfold cop at hc;simp only at hm hc
  cases op with
  |move x=>cases hc;rfl
  |assign x=>cases hc;rfl
  |pick c a b =>
    simp only at hc;unfold zvh at hc
    split at hc<;>first | (cases hc;rfl) | (simp at hc)
  |build t parts =>
    simp only at hc;unfold zjj at hc;split at hc
    . split at hc
      . rename_i fs _;rw [zcg] at hc;split at hc
        . exact z1u hc
        . simp at hc
      . split at hc
        . exact z1u hc
        . simp at hc
      . simp at hc
    . simp at hc
  |makeFunc fn a b=>cases hc;rfl
  |slice t x lo hi mx=>exact zzp hc
  |fieldAddr t x k =>
    simp only at hc;unfold zdr at hc;split at hc
    . split at hc
      . split at hc
        . split at hc
          . rename_i off size _
            cases hq:fg size 0 with
            |true=>rw [hq] at hc;simp at hc
            |false=>rw [hq] at hc;cases hc;rfl
          . simp at hc
        . simp at hc
      . simp at hc
    . simp at hc
  |indexAddr t x k =>
    simp only at hc;unfold zb4 at hc;split at hc
    . split at hc
      . split at hc
        . split at hc
          . exact zuz hc
          . simp at hc
        . simp at hc
      . split at hc
        . split at hc
          . exact zuz hc
          . simp at hc
        . simp at hc
      . simp at hc
    . simp at hc
  |index t x k =>
    simp only at hc;unfold zji at hc;split at hc
    . split at hc
      . split at hc
        . split at hc
          . rw [Bool.cond_eq_ite] at hc;split at hc
            . exact zlo hc
            . simp at hc
          . simp at hc
        . simp at hc
      . split at hc
        . split at hc<;>first | (cases hc;rfl) | (simp at hc)
        . simp at hc
      . simp at hc
    . simp at hc
  |extract x k =>
    simp only at hc;unfold zhv at hc;split at hc
    . exact zlo hc
    . simp at hc
  |unOp op t x=>exact zsi hc
  |binOp op t x y t2 =>
    simp only at hc;unfold zla at hc;split at hc
    . cases hc;rfl
    . exact zsi hc
  |_=>simp [zh3] at hm
theorem zmq {tag:Nat} {cs:List Value} {a:Addr} (hc:s.newRow tag cs=some (a,s')):s'.rd=s.rd/\s'.wr=s.wr:=by
  unfold CS.newRow at hc;rw [zcg] at hc;split at hc
  . cases hc;exact ⟨rfl,rfl⟩
  . simp at hc
theorem z4s {r:Option (Addr×CS)} (hr:∀ a t,r=some (a,t)->t.rd=s.rd/\t.wr=s.wr) (hc:ptrC r=some (v,s')):s'.rd=s.rd/\s'.wr=s.wr:=by
  unfold ptrC at hc;split at hc
  . cases hc;exact hr _ _ rfl
  . simp at hc
theorem zu2 {l c:Nat} {r:Option (Addr×CS)} (hr:∀ a t,r=some (a,t)->t.rd=s.rd/\t.wr=s.wr) (hc:zg5 l c r=some (v,s')):s'.rd=s.rd/\s'.wr=s.wr:=by
  unfold zg5 at hc;split at hc
  . cases hc;exact hr _ _ rfl
  . simp at hc
theorem z2m (hm:zib o.op=true) (hc:cop P Γ call ρ o s=some (v,s')):s'.rd=s.rd/\s'.wr=s.wr:=by
  by_cases hq:zh3 o.op=true
  . rw [zvr hq hc];exact ⟨rfl,rfl⟩
  obtain ⟨d,op,ty,pos,e,g⟩:=o;unfold cop at hc;simp only at hm hc hq
  cases op with
  |alloc e =>
    simp only at hc;unfold zlx at hc;split at hc
    . exact z4s (fun a t h=>zmq h) hc
    . simp at hc
  |box e x=>exact z4s (fun a t h=>zmq h) hc
  |buildSlice t n parts =>
    simp only at hc;unfold zca at hc;split at hc
    . rename_i j _
      cases hb:(gd (n*j.size) 16777216 && gh 0 j.size) with
      |false=>rw [hb] at hc;simp at hc
      |true =>
        rw [hb,cond_true] at hc;split at hc
        . exact zu2 (fun a t h=>zmq h) hc
        . simp at hc
    . simp at hc
  |makeSlice t l c =>
    simp only at hc;unfold zeq at hc;split at hc
    . rename_i j l' c' _ _ _
      cases hb:(gd l' c' && gd (c'*(j.bytes+1)) 1000000000 && gh 0 j.size) with
      |false=>rw [hb] at hc;simp at hc
      |true =>
        rw [hb,cond_true] at hc;exact zu2 (fun a t h=>zmq h) hc
    . simp at hc
  |_=>simp_all [zib,zh3]
def ym1 (o:Oper) (x:Lg):Prop:=(zh3 o.op=true->x.rd=[]/\x.wr=[]/\x.lo=x.hi)/\(zib o.op=true->x.rd=[]/\x.wr=[])
theorem zrh {ops:List Oper}:∀ {l:List Oper} {fr fr':Fr} {s s':CS} {L:List Lg},drawC P Γ call ops l fr s=some (L,fr',s')->L.length=l.length/\∀ (j:Nat) (o:Oper) (x:Lg),l[j]?=some o->L[j]?=some x->ym1 o x
  |[],fr,fr',s,s',L,hc=>by
    simp only [drawC,ei,eu] at hc;obtain ⟨rfl,_,_⟩:=hc;exact ⟨rfl,fun j o x hj=>by simp at hj⟩
  |o :: l,fr,fr',s,s',L,hc=>by
    simp only [drawC] at hc;split at hc
    . rename_i fr1 t h1;split at hc
      . rename_i logs fr2 s2 h2;cases hc;obtain ⟨i1,i2⟩:=zrh h2;refine ⟨by simp [i1],fun j o' x hj hx=>?_⟩
        cases j with
        |zero =>
          simp only [gc,ei] at hj hx;subst hj;subst hx;unfold zcn at h1
          cases hw:zcz ops fr o with
          |false =>
            rw [hw] at h1;simp only [cond_false,ei,eu] at h1;rw [<- h1.2];exact ⟨fun _=>⟨rfl,rfl,rfl⟩,fun _=>⟨rfl,rfl⟩⟩
          |true =>
            rw [hw,cond_true] at h1;split at h1
            . rename_i v s1 hcop;cases h1;refine ⟨fun hm=>?_,fun hm=>?_⟩
              . rw [zvr hm hcop];exact ⟨rfl,rfl,rfl⟩
              . exact z2m hm hcop
            . simp at h1
        |succ j=>exact i2 j o' x (by simpa using hj) (by simpa using hx)
      . simp at hc
    . simp at hc
theorem zjb {ops:List Oper}:∀ {l m:List Oper} {fr fr1 fr2:Fr} {s s1 s2:CS} {L M:List Lg},drawC P Γ call ops l fr s=some (L,fr1,s1)->drawC P Γ call ops m fr1 s1=some (M,fr2,s2)->drawC P Γ call ops (l++m) fr s=some (L++M,fr2,s2)
  |[],m,fr,fr1,fr2,s,s1,s2,L,M,h1,h2=>by
    simp only [drawC,ei,eu] at h1;obtain ⟨rfl,rfl,rfl⟩:=h1;exact h2
  |o :: l,m,fr,fr1,fr2,s,s1,s2,L,M,h1,h2=>by
    simp only [drawC] at h1;simp only [f6,drawC];split at h1
    . rename_i fra t ha;split at h1
      . rename_i logs frb sb hb;cases h1;rw [zjb hb h2];rfl
      . simp at h1
    . simp at h1
theorem zwm {m:Nat} {y:Lg}:∀ {done:List Lg} {i:Nat},(∀ j x,done[j]?=some x->ii m (i+j)=true\/clash x y=false)->zhl clash m y done i=true
  |[],_,_=>rfl
  |x :: l,i,h=>by
    have h0:ii m i=true\/clash x y=false:=h 0 x rfl
    have ih:zhl clash m y l (i+1)=true:=zwm fun j z hz=>by
      have:=h (j+1) z (by simpa using hz);rw [show i+1+j=i+(j+1) by omega];exact this
    rcases h0 with h0|h0
    . rw [ztn h0];exact ih
    . rw [zwl h0];exact ih
theorem zmy {ms:List Nat}:∀ {l done:List Lg},(∀ i j x y,i<j->done.length<=j->(done++l)[i]?=some x->(done++l)[j]?=some y->ii (nth 0 ms j) i=true\/clash x y=false)->zfz clash done l ms=true
  |[],_,_=>rfl
  |y :: l,done,h=>by
    rw [zmd,ep];refine ⟨zwm fun j x hx=>?_,zmy fun i j x z hij hd hx hz=>?_⟩
    . rw [ig];have hj:=(fo.1 hx).1;exact h j done.length x y hj (fd _) (by rw [fp hj];exact hx) (by simp)
    . rw [fy] at hx hz;rw [fi,i4] at hd;exact h i j x z hij (by omega) hx hz
theorem zst {ρ1 ρ2:fk->T} {l:List fk} (hρ:∀ x,x∈l->ρ1 x=ρ2 x):l.map ρ1=l.map ρ2:=List.map_congr_left hρ
theorem zpo {ρ1 ρ2:fk->T} {l:Option fk} (hρ:∀ x,l=some x->ρ1 x=ρ2 x):l.map ρ1=l.map ρ2:=by
  cases l with
  |none=>rfl
  |some x=>simp only [n5,hρ x rfl]
theorem zqh {place:Nat->Option (Nat×Nat)} {ρ1 ρ2:fk->T}:∀ {l:List (Nat×fk)},(∀ p,p∈l->ρ1 p.2=ρ2 p.2)->zbe place ρ1 l=zbe place ρ2 l
  |[],_=>rfl
  |(k,x) :: l,hρ=>by
    unfold zbe;rw [zqh fun p hp=>hρ p (by simp [hp]),hρ (k,x) (by simp)]
theorem zqo {e:Nat} {ρ1 ρ2:fk->T}:∀ {l:List (Nat×fk)} {i:Nat},(∀ p,p∈l->ρ1 p.2=ρ2 p.2)->zcy e ρ1 i l=zcy e ρ2 i l
  |[],_,_=>rfl
  |(k,x) :: l,i,hρ=>by
    unfold zcy;rw [zqo fun p hp=>hρ p (by simp [hp]),hρ (k,x) (by simp)]
theorem z15 {ρ1 ρ2:fk->T} (hρ:∀ x,x∈o.op.operands.toList->ρ1 x=ρ2 x):zfx P Γ ρ1 o S=zfx P Γ ρ2 o S:=by
  obtain ⟨d,op,ty,pos,e,g⟩:=o;simp only at hρ;unfold zfx
  cases op with
  |move x=>simp only [hρ x (by simp [gb])]
  |assign x=>simp only [hρ x (by simp [gb])]
  |pick c a b=>simp only [hρ c (by simp [gb]),hρ a (by simp [gb]),hρ b (by simp [gb])]
  |build t parts =>
    have hp:∀ p,p∈parts.toList->ρ1 p.2=ρ2 p.2:=fun p hp=>hρ p.2 (by simp [gb];exact ⟨p.1,by simpa using hp⟩)
    simp only [zi3,zqh hp]
  |buildSlice t n parts =>
    have hp:∀ p,p∈parts.toList->ρ1 p.2=ρ2 p.2:=fun p hp=>hρ p.2 (by simp [gb];exact ⟨p.1,by simpa using hp⟩)
    simp only [zai,zqo hp]
  |load t x=>simp only [hρ x (by simp [gb])]
  |makeFunc fn first captured =>
    have h1:first.toList.map ρ1=first.toList.map ρ2:=zst fun x hx=>hρ x (by simp [gb];left;simpa using hx)
    have h2:captured.toList.map ρ1=captured.toList.map ρ2:=zst fun x hx=>hρ x (by simp [gb];right;simpa using hx)
    simp only [h1,h2]
  |slice t x lo hi mx =>
    have h1:lo.map ρ1=lo.map ρ2:=zpo fun y hy=>hρ y (by simp [gb,hy]);have h2:hi.map ρ1=hi.map ρ2:=zpo fun y hy=>hρ y (by simp [gb,hy]);have h3:mx.map ρ1=mx.map ρ2:=zpo fun y hy=>hρ y (by simp [gb,hy])
    simp only [hρ x (by simp [gb]),h1,h2,h3]
  |fieldAddr t x k=>simp only [hρ x (by simp [gb])]
  |indexAddr t x ix=>simp only [hρ x (by simp [gb]),hρ ix (by simp [gb])]
  |index t x ix=>simp only [hρ x (by simp [gb]),hρ ix (by simp [gb])]
  |extract x k=>simp only [hρ x (by simp [gb])]
  |unOp op t x=>simp only [hρ x (by simp [gb])]
  |convert src dst x=>simp only [hρ x (by simp [gb])]
  |binOp op t x y t2=>simp only [hρ x (by simp [gb]),hρ y (by simp [gb])]
  |call c =>
    obtain ⟨cal,args,tys⟩:=c
    cases cal with
    |builtin b =>
      have ha:∀ x,x∈args.toList->ρ1 x=ρ2 x:=fun x hx=>hρ x (by simp [gb,rh];simpa using hx);simp only;unfold zlc
      cases b with
      |len =>
        simp only;split
        . rename_i x t e1 e2;rw [ha x (by rw [e1];simp)]
        . rfl
      |min =>
        simp only;split
        . rename_i x y e1;rw [ha x (by rw [e1];simp),ha y (by rw [e1];simp)]
        . rfl
      |max =>
        simp only;split
        . rename_i x y e1;rw [ha x (by rw [e1];simp),ha y (by rw [e1];simp)]
        . rfl
      |_=>rfl
    |_=>rfl
  |_=>rfl
end
def z3o (P:fx) (Γ:Env) (GL:List (Nat×List Value)) (S:TS) (args:List T) (f:T) (r:T):Option Prop:=match f with
  |.fn k first cap=>some (zan P Γ GL k (first++args++cap) S r)
  |_=>none
def andP (p:Prop):Option (Prop×(Nat->T))->Option (Prop×(Nat->T))
  |some (q,h)=>some (p/\q,h)
  |none=>none
def runP (P:fx) (Γ:Env) (GL:List (Nat×List Value)) (ops:List Oper):List Oper->(Nat->T)->TS->List T->Option (Prop×(Nat->T))
  |[],h,_,_=>some (True,h)
  |o :: l,h,S,outs=>match zhz ops h o.guard with
    |none=>none
    |some false=>runP P Γ GL ops l (putT h o.dst (.tup [])) S outs
    |some true=>match o.op with
      |.call ⟨.value f,args,tys⟩=>(match outs with
        |r :: outs=>(match z3o P Γ GL S (args.toList.map (zc4 GL h)) (zc4 GL h f) r with
          |some p=>andP p (runP P Γ GL ops l (putT h o.dst r) S outs)
          |none=>none)
        |[]=>none)
      |_=>(match zfx P Γ (zc4 GL h) o S with
        |some t=>runP P Γ GL ops l (putT h o.dst t) S outs
        |none=>none)
def yih (ops:List Oper) (x y:Oper):Bool:=match x.dst with|some d=>has (zez ops y) d|none=>false
def zut:Nat->List Oper->List (Bool×Oper)
  |_,[]=>[]
  |0,o :: l=>(true,o) :: zut 0 l
  |k+1,o :: l=>(false,o) :: zut k l
def ybi (x y:Bool×Oper):Bool:=y.1 && !(zh3 x.2.op || zib y.2.op)
def zq2 (m:Nat):List Nat->Nat->Bool
  |[],_=>true
  |x :: l,i=>(!Nat.testBit m i || fg (Nat.land x m) x) && zq2 m l (i+1)
def ziz (k:Nat) (ops:List Oper):Bool :=
  zfz (yih ops) [] ops (zdb ops []) && (zfz ybi [] (zut k ops) (zdb ops []) && (zdb ops []).all fun m=>zq2 m (zdb ops []) 0)
theorem zrp {m:Nat}:∀ {l:List Nat} {i:Nat},zq2 m l i=true->∀ j,j<l.length->ii m (i+j)=true->∀ b,ii (nth 0 l j) b=true->ii m b=true
  |[],_,_,j,hj,_,_,_=>by simp at hj
  |x :: l,i,h,j,hj,ht,b,hb=>by
    simp only [zq2,ep] at h
    cases j with
    |zero =>
      have h1:=h.1;rw [show ii m i=true from ht] at h1;simp only [gw,Bool.false_or] at h1;have h2:x &&& m=x:=et h1;have h3:ii x b=true:=hb;rw [<- h2,kx,ep] at h3;exact h3.2
    |succ j=>exact zrp h.2 j (by simpa using hj) (by rw [show i+1+j=i+(j+1) by omega];exact ht) b hb
theorem zz6:∀ (l:List Oper) (ms:List Nat),(zdb l ms).length=ms.length+l.length
  |[],ms=>by simp [zdb]
  |o :: l,ms=>by
    simp only [zdb];rw [zz6 l];simp only [fi,fq,iu];omega
theorem zmk:∀ {k:Nat} {ops:List Oper} {i:Nat} {o:Oper},ops[i]?=some o->(zut k ops)[i]?=some (decide (k<=i),o)
  |_,[],i,o,h=>by simp at h
  |0,x :: l,i,o,h=>by
    cases i with
    |zero=>simp only [gc,ei] at h;subst h;rfl
    |succ i =>
      have:=zmk (k:=0) (ops:=l) (i:=i) (by simpa using h)
      simpa [zut] using this
  |k+1,x :: l,i,o,h=>by
    cases i with
    |zero=>simp only [gc,ei] at h;subst h;rfl
    |succ i =>
      have:=zmk (k:=k) (ops:=l) (i:=i) (by simpa using h);simpa [zut] using this
section
variable {GL:List (Nat×List Value)} {A A' A0:Nat->Prop} {β β':Bx} {S S':TS} {s s0 s' s2:CS} {P:fx} {Γ:Env} {N:Nat} {h h':Nat->T}
theorem z8c {k:Nat} {ops:List Oper} (hd:ziz k ops=true) {i j:Nat} {x y:Oper} (hij:i<j) (hx:ops[i]?=some x) (hy:ops[j]?=some y) {d:Nat} (hxd:x.dst=some d) (hdy:d∈zez ops y):ii (nth 0 (zdb ops []) j) i=true:=by
  unfold ziz at hd;simp only [ep] at hd;rcases zfl hd.1 i j x y hij (ik _) (by simpa using hx) (by simpa using hy) with q|q
  . exact q
  . unfold yih at q;rw [hxd] at q;simp only at q;rw [zsp hdy] at q;simp at q
theorem z3g {k:Nat} {ops:List Oper} (hd:ziz k ops=true) {i j:Nat} {x y:Oper} (hij:i<j) (hkj:k<=j) (hx:ops[i]?=some x) (hy:ops[j]?=some y):ii (nth 0 (zdb ops []) j) i=true\/zh3 x.op=true\/zib y.op=true:=by
  unfold ziz at hd;simp only [ep] at hd;rcases zfl hd.2.1 i j _ _ hij (ik _) (by simpa using zmk hx) (by simpa using zmk hy) with q|q
  . exact .inl q
  . unfold ybi at q;rw [zAa hkj] at q;simp only [ji,Bool.not_eq_false',Bool.or_eq_true] at q;exact .inr q
theorem z04 {k:Nat} {ops:List Oper} (hd:ziz k ops=true) {j i b:Nat} (hj:j<ops.length) (hi:i<ops.length) (h1:ii (nth 0 (zdb ops []) j) i=true) (h2:ii (nth 0 (zdb ops []) i) b=true):ii (nth 0 (zdb ops []) j) b=true:=by
  unfold ziz at hd;simp only [ep] at hd;have hl:=zz6 ops [];simp only [iu,ig] at hl
  have hm:nth 0 (zdb ops []) j∈zdb ops []:=by
    have key:∀ (l:List Nat) (j:Nat),j<l.length->nth 0 l j∈l:=by
      intro l
      induction l with
      |nil=>intro j hj;simp at hj
      |cons x l ih =>
        intro j hj
        cases j with
        |zero=>exact List.mem_cons_self
        |succ j=>exact List.mem_cons_of_mem _ (ih j (by simpa using hj))
    exact key _ j (by omega)
  have:=gg.1 hd.2.2 _ hm;exact zrp this i (by omega) (by rw [ig];exact h1) b h2
def SupL (A0:Nat->Prop) (L:List Lg) (D:Nat) (f:Nat):Prop:=A0 f\/∃ (m:Nat) (x:Lg),ii D m=true/\L[m]?=some x/\x.lo<=f/\f<x.hi
theorem SupL.more {L M:List Lg} {D E:Nat} (hD:∀ m,m<L.length->ii D m=true->ii E m=true) {f:Nat} (k:SupL A0 L D f):SupL A0 (L++M) E f:=by
  rcases k with k|⟨m,x,h1,h2,h3⟩
  . exact .inl k
  . have hm:=(fo.1 h2).1;exact .inr ⟨m,x,hD m hm h1,by rw [fp hm];exact h2,h3⟩
theorem SupL.sub {L:List Lg} {D E:Nat} (hD:∀ m,m<L.length->ii D m=true->ii E m=true) {f:Nat} (k:SupL A0 L D f):SupL A0 L E f:=by
  have:=SupL.more (M:=[]) hD k;simpa using this
structure zpg (GL:List (Nat×List Value)) (ops:List Oper) (A0:Nat->Prop) (β:Bx) (S:TS) (s0:CS) (N:Nat) (L:List Lg) (h:Nat->T) (fr:Fr) (s:CS):Prop where
  nt:fr.nt=N
  le:N<=512
  rel:TRel GL A0 β S s
  slot:∀ t,∃ D,VT (SupL A0 L D) β (zaa s.obj) (h t) (fr.get t)/\∀ (j:Nat) (o:Oper),L.length<=j->ops[j]?=some o->t∈zez ops o->∀ m,m<L.length->ii D m=true->ii (nth 0 (zdb ops []) j) m=true
  log:∀ (k:Nat) (x:Lg),L[k]?=some x->s0.n<=x.lo/\x.lo<=x.hi/\x.hi<=s.n/\x.wr=[]/\∀ f,f∈x.rd->f<x.lo/\(SupL A0 L (nth 0 (zdb ops []) k) f\/Own β f)
  apart:∀ (k m:Nat) (x y:Lg),k<m->L[k]?=some x->L[m]?=some y->x.hi<=y.lo
  own:∀ f,Own β f->f<s0.n
  base:∀ f,A0 f->f<s0.n
  calm:zi2 A0 β s0 A0 s
  lim:s0.lim<=s0.n
theorem TRel.more (hT:TRel GL A β S s) (A1:Nat->Prop) (h1:∀ f,A f->A1 f) (h2:∀ f,A1 f->f<s.n) (h3:∀ f,A1 f->¬ Own β f):TRel GL A1 β S s :=
  ⟨hT.inr,hT.inv,h2,fun f hf=>⟨(hT.dis f hf).1,fun hh=>h3 f hh hf⟩,hT.inj,hT.next,fun b z N l hb=>(hT.cells b z N l hb).mono h1 (fun _ _=>rfl) (ls _) rfl fun _ _ _ _=>rfl,
    fun b l hb=>(hT.maps b l hb).mono h1 (fun _ _=>rfl) (ls _) rfl fun _ _=>rfl,fun x hx=>⟨h1 _ (hT.glob x hx).1,(hT.glob x hx).2⟩⟩
theorem TRel.inner (hT:TRel GL A β S s):TRel GL A β S s.inner:=⟨hT.inr,⟨hT.inv.none,hT.inv.vers,fd _⟩,hT.alt,hT.dis,hT.inj,hT.next,hT.cells,hT.maps,hT.glob⟩
theorem TRel.outer (hT:TRel GL A β S s') (hl:s.lim<=s'.n):TRel GL A β S (s.outer s'):=⟨hT.inr,⟨hT.inv.none,hT.inv.vers,hl⟩,hT.alt,hT.dis,hT.inj,hT.next,hT.cells,hT.maps,hT.glob⟩
theorem zi2.trans (hl:s.lim<=s.n) (k1:zi2 A β s A s') (k2:zi2 A β s' A s2):zi2 A β s A s2:=by
  refine ⟨k1.can.trans k2.can,fun _ h=>h,fun _ h=>.inl h,fun f hf=>?_,fun x hx=>?_,fun x hx=>k1.wr x (k2.wr x hx)⟩
  . rw [k2.keep f (gr hf k1.can.n)];exact k1.keep f hf
  . rcases k2.rd x hx with q|⟨q,q2⟩
    . exact k1.rd x q
    . rw [k1.can.lim] at q;exact .inr ⟨q,q2⟩
theorem zpg.next {k0:Nat} {ops:List Oper} (hd:ziz k0 ops=true) {L:List Lg} {fr:Fr} {o:Oper} (I:zpg GL ops A0 β S s0 N L h fr s) (ho:ops[L.length]?=some o) (hdst:∀ t,o.dst=some t->t<N) {t:T} {v:Value} {s1:CS}
    (k1:TRel GL A' β S s1) (k2:VT A' β (zaa s1.obj) t v) (k3:zi2 (SupL A0 L (nth 0 (zdb ops []) L.length)) β s.inner A' s1) :
    zpg GL ops A0 β S s0 N (L++[⟨s1.rd,s1.wr,s.n,s1.n⟩]) (putT h o.dst t) (putC fr o.dst v) (s.outer s1):=by
  have hsn:s.n<=s1.n:=k3.can.n;have hln:L.length<ops.length:=(fo.1 ho).1;have h0n:s0.n<=s.n:=I.calm.can.n
  have hsup:∀ f D,SupL A0 L D f->f<s.n:=fun f D hf=>by
    rcases hf with q|⟨m,x,_,q2,_,q4⟩
    . have:=I.base f q;omega
    . have:=(I.log m x q2).2.2.1;omega
  have hA':∀ f,A' f->SupL A0 (L++[⟨s1.rd,s1.wr,s.n,s1.n⟩]) (nth 0 (zdb ops []) L.length ||| 2 ^ L.length) f:=fun f hf=>by
    rcases k3.new f hf with q|q
    . refine SupL.more (fun m hm hb=>?_) q;rw [mn,hb];rfl
    . refine .inr ⟨L.length,⟨s1.rd,s1.wr,s.n,s1.n⟩,?_,by simp,q,k1.alt f hf⟩;rw [mn,Nat.testBit_two_pow_self];simp
  have hobj:∀ f,f<s.n->zaa s1.obj f=zaa s.obj f:=fun f hf=>k3.keep f hf
  have hwr:s1.wr=[]:=by
    rw [List.eq_nil_iff_forall_not_mem];intro x hx;have:=k3.wr x hx;simp [rq] at this
  have hcal:zi2 A0 β s A0 (s.outer s1):=by
    refine ⟨zlt I.rel.inv k3.can,fun _ h=>h,fun _ h=>.inl h,hobj,fun x hx=>?_,fun x hx=>?_⟩
    . rcases zmt (l:=s1.rd) rfl x hx with q|⟨q,q2⟩
      . exact .inl q
      . refine .inr ⟨q2,?_⟩;have hxn:x<s0.n:=by have h1:=I.calm.can.lim;have h2:=I.lim;rw [h1] at q2;omega
        rcases k3.rd x q with q3|⟨_,q3⟩
        . simp [rq] at q3
        . rcases q3 with (q3|⟨m,y,_,q5,q6,_⟩)|q3
          . exact .inl q3
          . have:=(I.log m y q5).1;omega
          . exact .inr q3
    . rcases zmt (l:=s1.wr) rfl x hx with q|⟨q,_⟩
      . exact q
      . rw [hwr] at q;simp at q
  have hrel:TRel GL A0 β S (s.outer s1):=hcal.rel I.rel k1.inr ⟨k1.inv.none,k1.inv.vers,by have:=I.rel.inv.lim;show s.lim<=s1.n;omega⟩ fun f hf=>by have:=I.rel.alt f hf;show f<s1.n;omega
  refine ⟨?_,I.le,hrel,fun t'=>?_,fun k x hx=>?_,fun k m x y hkm hx hy=>?_,I.own,I.base,?_,I.lim⟩
  . cases hd2:o.dst with
    |none=>exact I.nt
    |some d =>
      show (fr.put d v).nt=N;unfold Fr.put;rw [zcg];split<;>exact I.nt
  . by_cases ht':o.dst=some t'
    . rw [ht'];refine ⟨nth 0 (zdb ops []) L.length ||| 2 ^ L.length,?_,fun j o' hj ho' hn m hm hb=>?_⟩
      . show VT _ _ _ (tupd h t' t t') ((fr.put t' v).get t');rw [zgn,Fr.get_put_same v (by rw [I.nt];exact hdst _ ht') (by rw [I.nt];exact I.le)];exact k2.mono hA' (fun _ _=>rfl) (ls _)
      . rw [fi,i4] at hj hm;have hdep:=z8c hd (show L.length<j by omega) ho ho' ht' hn;rw [mn,Bool.or_eq_true] at hb;rcases hb with hb|hb
        . exact z04 hd (fo.1 ho').1 hln hdep hb
        . rw [Nat.testBit_two_pow] at hb;have:L.length=m:=by simpa using hb
          rw [<- this];exact hdep
    . obtain ⟨D,d1,d2⟩:=I.slot t';refine ⟨D &&& (2 ^ L.length - 1),?_,fun j o' hj ho' hn m hm hb=>?_⟩
      . have e1:putT h o.dst t t'=h t':=by
          cases hd2:o.dst with
          |none=>rfl
          |some d=>exact zkh _ _ _ _ fun hh=>ht' (by rw [hd2,hh])
        have e2:(putC fr o.dst v).get t'=fr.get t':=by
          cases hd2:o.dst with
          |none=>rfl
          |some d=>exact ru v (by rw [I.nt];exact I.le) fun hh=>ht' (by rw [hd2,hh])
        rw [e1,e2];refine d1.mono (fun f hf=>SupL.more (fun m hm hb=>?_) hf) (fun f hf=>hobj f (hsup f D hf)) (ls _);rw [kx,hb,l6];simp [hm]
      . rw [fi,i4] at hj;rw [kx,ep,l6] at hb;exact d2 j o' (by omega) ho' hn m (zAe hb.2) hb.1
  . by_cases hk:k<L.length
    . rw [fp hk] at hx;obtain ⟨l1,l2,l3,l4,l5⟩:=I.log k x hx;exact ⟨l1,l2,by show x.hi<=s1.n;omega,l4,fun f hf=>⟨(l5 f hf).1,(l5 f hf).2.imp (fun q=>SupL.more (fun _ _ hb=>hb) q) id⟩⟩
    . have hk2:k=L.length:=by
        have:=(fo.1 hx).1;rw [fi,i4] at this;omega
      subst hk2;simp only [gp (fd _),Nat.sub_self,gc,ei] at hx;subst hx;refine ⟨h0n,hsn,fd _,hwr,fun f hf=>?_⟩;rcases k3.rd f hf with q|⟨q,q2⟩
      . simp [rq] at q
      . exact ⟨q,q2.imp (fun q3=>SupL.more (fun _ _ hb=>hb) q3) id⟩
  . by_cases hm:m<L.length
    . rw [fp (by omega)] at hx;rw [fp hm] at hy;exact I.apart k m x y hkm hx hy
    . have hm2:m=L.length:=by
        have:=(fo.1 hy).1;rw [fi,i4] at this;omega
      subst hm2;rw [fp hkm] at hx;simp only [gp (fd _),Nat.sub_self,gc,ei] at hy;subst hy;exact (I.log k x hx).2.2.1
  . exact I.calm.trans I.lim hcal
theorem zxw {ops:List Oper} {o:Oper} {x:Nat} (hx:Operand.tmp x∈o.op.operands.toList):x∈zez ops o:=by
  unfold zez;refine List.mem_append.2 (.inl ?_);rw [List.mem_filterMap];exact ⟨.tmp x,hx,rfl⟩
theorem z2s {ops:List Oper} {o:Oper} {j d:Nat} {w:Bool} (hg:o.guard=some (j,w)) (hd:znp ops j=some d):d∈zez ops o:=by
  unfold zez;refine List.mem_append.2 (.inr ?_);rw [hg];simp only [hd];exact List.mem_singleton.2 rfl
theorem z4u (hE:zdy P Γ) {k0:Nat} {ops:List Oper} (hd:ziz k0 ops=true):∀ {l:List Oper} {L:List Lg} {h h':Nat->T} {fr:Fr} {s:CS} {outs:List T} {ob:Prop},zpg GL ops A0 β S s0 N L h fr s->(∀ (j:Nat) (o:Oper),l[j]?=some o->ops[L.length+j]?=some o)->zev N l=true->runP P Γ GL ops l h S outs=some (ob,h')->ob ->
    ∃ M fr' s',drawC P Γ (zd6 P Γ) ops l fr s=some (M,fr',s')/\zpg GL ops A0 β S s0 N (L++M) h' fr' s'/\M.length=l.length
  |[],L,h,h',fr,s,outs,ob,I,hl,hdo,hr,hob=>by
    simp only [runP,ei,eu] at hr;obtain ⟨rfl,rfl⟩:=hr;exact ⟨[],fr,s,rfl,by rw [gn];exact I,rfl⟩
  |o :: l,L,h,h',fr,s,outs,ob,I,hl,hdo,hr,hob=>by
    have hd':zev N l=true/\∀ t,o.dst=some t->t<N:=by
      unfold zev at hdo ⊢;rw [i9,ep] at hdo;refine ⟨hdo.2,fun t ht=>?_⟩;have:=hdo.1;rw [ht] at this;exact zab.1 this
    have ho:ops[L.length]?=some o:=by have:=hl 0 o rfl;simpa using this
    -- what the operation may lean on
    have hrel:TRel GL (SupL A0 L (nth 0 (zdb ops []) L.length)) β S s.inner:=by
      refine TRel.inner (I.rel.more _ (fun f hf=>.inl hf) (fun f hf=>?_) (fun f hf ho=>?_))
      . rcases hf with q|⟨m,x,_,q2,_,q4⟩
        . exact I.rel.alt f q
        . have:=(I.log m x q2).2.2.1;omega
      . rcases hf with q|⟨m,x,_,q2,q3,q4⟩
        . exact (I.rel.dis f ho).2 q
        . have:=(I.log m x q2).1;have:=I.own f ho;omega
    -- the slots that it names
    let ho':Nat->T:=fun t=>if t∈zez ops o then h t else .junk
    have hin:∀ t,t∈zez ops o->ho' t=h t:=fun t ht=>zAc ht
    have hF:FrOk (SupL A0 L (nth 0 (zdb ops []) L.length)) β (zaa s.inner.obj) N ho' fr:=⟨I.nt,I.le,fun t=>by
      by_cases ht:t∈zez ops o
      . rw [hin t ht];obtain ⟨D,d1,d2⟩:=I.slot t;exact d1.mono (fun f hf=>SupL.sub (fun m hm hb=>d2 L.length o (fd _) ho ht m hm hb) hf) (fun _ _=>rfl) (ls _)
      . rw [show ho' t=.junk from zAd ht]
        exact .junk _⟩
    have hev:∀ x,x∈o.op.operands.toList->zc4 GL ho' x=zc4 GL h x:=fun x hx=>by
      cases x with
      |tmp t=>exact hin t (zxw hx)
      |_=>rfl
    have hgd:zhz ops ho' o.guard=zhz ops h o.guard:=by
      cases hg:o.guard with
      |none=>rfl
      |some p =>
        obtain ⟨j,w⟩:=p;unfold zhz;simp only
        cases hdd:znp ops j with
        |none=>rfl
        |some d=>simp only [hin d (z2s hg hdd)]
    -- the rest behind a step that is done
    have go:∀ {t:T} {v:Value} {s1:CS} {A':Nat->Prop} {outs':List T} {ob':Prop},TRel GL A' β S s1->VT A' β (zaa s1.obj) t v->zi2 (SupL A0 L (nth 0 (zdb ops []) L.length)) β s.inner A' s1->zcn P Γ (zd6 P Γ) ops o fr s.inner=some (putC fr o.dst v,s1)->runP P Γ GL ops l (putT h o.dst t) S outs'=some (ob',h')->ob'->∃ M fr' s',drawC P Γ (zd6 P Γ) ops (o :: l) fr s=some (M,fr',s')/\zpg GL ops A0 β S s0 N (L++M) h' fr' s'/\M.length=(o :: l).length:=by
      intro t v s1 A' outs' ob' k1 k2 k3 hst hrun hob';have I2:=I.next hd ho hd'.2 k1 k2 k3
      obtain ⟨M,fr',s',m1,m2,m3⟩:=z4u hE hd I2 (fun j o' hj=>by
        have:=hl (j+1) o' (by simpa using hj);rw [fi,i4];rw [show L.length+1+j=L.length+(j+1) by omega]
        exact this) hd'.1 hrun hob'
      refine ⟨⟨s1.rd,s1.wr,s.n,s1.n⟩ :: M,fr',s',?_,?_,by simp [m3]⟩
      . rw [drawC,hst];simp only;rw [m1]
      . rw [fy] at m2;exact m2
    unfold runP at hr;split at hr
    . simp at hr
    . rename_i hg;rw [<- hgd] at hg;have hw:=zhy hF hg;refine go hrel VT.undf ⟨ja _,fun _ h=>h,fun _ h=>.inl h,fun _ _=>rfl,fun _ h=>.inl h,fun _ h=>h⟩ ?_ hr hob;unfold zcn;rw [hw,cond_false]
    . rename_i hg;rw [<- hgd] at hg;have hw:=zhy hF hg;split at hr
      . rename_i f args tys hop;split at hr
        . rename_i r outs';split at hr
          . rename_i p hp;unfold z3o at hp;split at hp
            . rename_i k first cap hf
              simp only [ei] at hp;subst hp
              cases hrun:runP P Γ GL ops l (putT h o.dst r) S outs' with
              |none=>rw [hrun] at hr;simp [andP] at hr
              |some q =>
                obtain ⟨q1,q2⟩:=q;rw [hrun] at hr;simp only [andP,ei,eu] at hr;obtain ⟨rfl,rfl⟩:=hr;have hfv:=hF.eval hrel f;rw [hev f (by rw [hop];simp [gb,rh]),hf] at hfv;generalize e1:zge fr f=vf at hfv
                cases hfv with
                |fn h1 h2 =>
                  rename_i va vc;have hargs:=ztu (hF.eval hrel) args.toList;have hargs':args.toList.map (zc4 GL ho')=args.toList.map (zc4 GL h):=zst fun x hx=>hev x (by rw [hop];simp [gb,rh];right;simpa using hx);rw [hargs'] at hargs;obtain ⟨v,s1,A',c1,c2,c3,c4⟩:=hob.1 _ β s.inner _ hrel ((h1.append hargs).append h2);refine go c2 c3 c4 ?_ hrun hob.2;unfold zcn;rw [hw,cond_true]
                  have:cop P Γ (zd6 P Γ) (zge fr) o s.inner=some (v,s1):=by
                    unfold cop;simp only [hop,e1];unfold zm4;exact c1
                  rw [this]
            . simp at hp
          . simp at hr
        . simp at hr
      . split at hr
        . rename_i t hst;have hst':zfx P Γ (zc4 GL ho') o S=some t:=by rw [z15 hev];exact hst
          obtain ⟨v,s1,A',c1,c2,c3,c4⟩:=z35 (call:=zd6 P Γ) hE hrel (hF.eval hrel) hst';refine go c2 c3 c4 ?_ hr hob;unfold zcn;rw [hw,cond_true,c1]
        . simp at hr
theorem Stp.outer (hI:CInv s) (k:Stp A β s.inner A' β' s'):Stp A β s A' β' (s.outer s'):=by
  refine ⟨zlt hI k.can,k.sub,k.new,k.own,k.keep,k.bx,fun x hx=>?_,fun x hx=>?_⟩
  . rcases zmt (l:=s'.rd) rfl x hx with q|⟨q,q2⟩
    . exact .inl q
    . rcases k.rd x q with q3|⟨_,q3⟩
      . simp [rq] at q3
      . exact .inr ⟨q2,q3⟩
  . rcases zmt (l:=s'.wr) rfl x hx with q|⟨q,q2⟩
    . exact .inl q
    . rcases k.wr x q with q3|⟨_,q3⟩
      . simp [rq] at q3
      . exact .inr ⟨q2,q3⟩
theorem zxq (hE:zdy P Γ) {own:List Nat} {ops:List Oper} {N:Nat}:∀ {l:List Oper} {h h':Nat->T} {S S':TS} {outs:List (T×TS)} {ob:Prop} {A:Nat->Prop} {β:Bx} {fr:Fr} {s:CS},zev N l=true->FrOk A β (zaa s.obj) N h fr->TRel GL A β S s->runT P Γ GL own ops l h S outs=some (ob,h',S')->ob ->
    ∃ M fr' s',drawC P Γ (zd6 P Γ) ops l fr s=some (M,fr',s')/\Left GL A β s N fr' s' h' S'
  |[],h,h',S,S',outs,ob,A,β,fr,s,hd,hF,hT,hr,hob=>by
    simp only [runT,ei,eu] at hr;obtain ⟨rfl,rfl,rfl⟩:=hr;exact ⟨[],fr,s,rfl,A,β,hF,hT,qy⟩
  |o :: l,h,h',S,S',outs,ob,A,β,fr,s,hd,hF,hT,hr,hob=>by
    have hd':zev N l=true/\∀ t,o.dst=some t->t<N:=by
      unfold zev at hd ⊢;rw [i9,ep] at hd;refine ⟨hd.2,fun t ht=>?_⟩;have:=hd.1;rw [ht] at this;exact zab.1 this
    have hTi:=hT.inner
    have go:∀ {t:T} {S1:TS} {r:Option (Value×CS)} {l':List (T×TS)} {ob':Prop},Ok GL A β s.inner r t S1->(cop P Γ (zd6 P Γ) (zge fr) o s.inner=r)->zcz ops fr o=true->runT P Γ GL own ops l (putT h o.dst t) S1 l'=some (ob',h',S')->ob'->∃ M fr' s',drawC P Γ (zd6 P Γ) ops (o :: l) fr s=some (M,fr',s')/\Left GL A β s N fr' s' h' S':=by
      rintro t S1 r l' ob' ⟨v,s1,A1,β1,rfl,k1,k2,k3⟩ hc hw hrun hob';have hF1:FrOk A1 β1 (zaa s1.obj) N h fr:=hF.mono k3.sub (Stp.old (s:=s.inner) hTi k3) k3.bx;have hS:Stp A β s A1 β1 (s.outer s1):=k3.outer hT.inv;obtain ⟨M,fr',s',e1,e2⟩:=zxq hE hd'.1 (s:=s.outer s1) (hF1.put hd'.2 k2) (k1.outer (Nat.le_trans hT.le k3.can.n)) hrun hob';refine ⟨⟨s1.rd,s1.wr,s.n,s1.n⟩ :: M,fr',s',?_,Left.trans (h':=h) (fr':=fr) hT.le hS e2⟩;rw [drawC]
      have:zcn P Γ (zd6 P Γ) ops o fr s.inner=some (putC fr o.dst v,s1):=by
        unfold zcn;rw [hw,cond_true,hc]
      rw [this];simp only;rw [e1]
    unfold runT at hr;split at hr
    . simp at hr
    . rename_i hg;have hw:=zhy hF hg;have hS:Stp A β s A β (s.outer s.inner):=Stp.outer hT.inv qy;obtain ⟨M,fr',s',e1,e2⟩:=zxq hE hd'.1 (s:=s.outer s.inner) (hF.put hd'.2 VT.undf) (hTi.outer hT.le) hr hob;refine ⟨⟨[],[],s.n,s.n⟩ :: M,fr',s',?_,Left.trans (h':=h) (fr':=fr) hT.le hS e2⟩;rw [drawC]
      have:zcn P Γ (zd6 P Γ) ops o fr s.inner=some (putC fr o.dst undef,s.inner):=by
        unfold zcn;rw [hw,cond_false]
      rw [this];simp only;rw [e1];rfl
    . rename_i hg;have hw:=zhy hF hg;split at hr
      . rename_i f args tys ho;split at hr
        . rename_i r outs';split at hr
          . rename_i p hp;unfold zyi at hp;split at hp
            . rename_i k first cap hf
              simp only [ei] at hp;subst hp
              cases hrun:runT P Γ GL own ops l (putT h o.dst r.1) r.2 outs' with
              |none=>rw [hrun] at hr;simp [andT] at hr
              |some q =>
                obtain ⟨q1,q2,q3⟩:=q;rw [hrun] at hr;simp only [andT,ei,eu] at hr;obtain ⟨rfl,rfl,rfl⟩:=hr;have hfv:=hF.eval hT f;rw [hf] at hfv;generalize e1:zge fr f=vf at hfv
                cases hfv with
                |fn h1 h2 =>
                  rename_i va vc;have hargs:=ztu (hF.eval hT) args.toList;have hcall:=hob.1 A β s.inner _ hTi ((h1.append hargs).append h2);refine go hcall ?_ hw hrun hob.2;unfold cop;simp only [ho,e1];unfold zm4;rfl
            . simp at hp
          . simp at hr
        . simp at hr
      . split at hr
        . rename_i t S1 hst;exact go (zw8 hE hTi (hF.eval hT) hst) rfl hw hr hob
        . simp at hr
theorem zhk {x y:Lg} (h1:x.rd=[]) (h2:x.wr=[]) (h3:x.lo=x.hi):clash x y=false:=by
  obtain ⟨rx,wx,lo,hi⟩:=x;obtain ⟨ry,wy,lo',hi'⟩:=y;simp only at h1 h2 h3;subst h1;subst h2;subst h3;exact zf8 (fun f hf=>by simp at hf) (fun f hf=>by simp at hf) (fun f _=>by omega) (fun f _=>by omega)
theorem zgf {x y:Lg} (h1:y.rd=[]) (h2:y.wr=[]):clash x y=false:=by
  obtain ⟨rx,wx,lo,hi⟩:=x;obtain ⟨ry,wy,lo',hi'⟩:=y;simp only at h1 h2;subst h1;subst h2;exact zf8 (fun f _=>by simp) (fun f _=>by simp) (fun f hf=>by simp at hf) (fun f hf=>by simp at hf)
theorem TW.draw (hE:zdy P Γ) {id:Nat} {ops:Array Oper} {Q:Exit->(Nat->T)->TS->Prop} (k:Nat) (outsP:List T) (own:List Nat) (outs:List (T×TS)) {h1:Nat->T} {ob1 ob2:Prop} (hd:zev N ops.toList=true) (hok:ziz k ops.toList=true)
    (hp:runP P Γ GL ops.toList (ops.toList.take k) h S outsP=some (ob1,h1)) (hob1:ob1) (hr:runT P Γ GL own ops.toList (ops.toList.drop k) h1 S outs=some (ob2,h',S')) (hob2:ob2) (hq:Q .normal h' S'):TW P Γ GL N (.region id ops true) h S Q:=fun A β fr s hF hT=>by
  have hsplit:ops.toList=ops.toList.take k++ops.toList.drop k:=(ip k _).symm
  have hdd:zev N (ops.toList.take k)=true/\zev N (ops.toList.drop k)=true:=by
    unfold zev at hd ⊢;rw [hsplit,List.all_append,ep] at hd;exact hd
  have I0:zpg GL ops.toList A β S s N [] h fr s:=by
    refine ⟨hF.nt,hF.le,hT,fun t=>⟨0,(hF.slot t).mono (fun f hf=>.inl hf) (fun _ _=>rfl) (ls _),fun j o _ _ _ m hm=>by simp at hm⟩,fun k x hx=>by simp at hx,fun k m x y _ hx=>by simp at hx,fun f hf=>(hT.dis f hf).1,hT.alt,?_,hT.le⟩;exact ⟨ja _,fun _ h=>h,fun _ h=>.inl h,fun _ _=>rfl,fun _ h=>.inl h,fun _ h=>h⟩
  obtain ⟨M1,fr1,s1,d1,I1,m1⟩:=z4u hE hok I0 (fun j o hj=>by
    rw [iu,ig];rw [List.getElem?_take] at hj;split at hj
    . exact hj
    . simp at hj) hdd.1 hp hob1
  rw [ft] at I1
  -- behind the first part all may lean on all
  let D:Nat:=2 ^ M1.length - 1
  have hDall:∀ m,m<M1.length->ii D m=true:=fun m hm=>by
    show ii (2 ^ M1.length - 1) m=true;rw [l6];exact zAa hm
  have hT1:TRel GL (SupL A M1 D) β S s1:=by
    refine I1.rel.more _ (fun f hf=>.inl hf) (fun f hf=>?_) (fun f hf ho=>?_)
    . rcases hf with q|⟨m,x,_,q2,_,q4⟩
      . exact I1.rel.alt f q
      . have:=(I1.log m x q2).2.2.1;omega
    . rcases hf with q|⟨m,x,_,q2,q3,q4⟩
      . exact (I1.rel.dis f ho).2 q
      . have:=(I1.log m x q2).1;have:=I1.own f ho;omega
  have hF1:FrOk (SupL A M1 D) β (zaa s1.obj) N h1 fr1:=⟨I1.nt,I1.le,fun t=>by
    obtain ⟨E,e1,_⟩:=I1.slot t
    exact e1.mono (fun f hf=>SupL.sub (fun m hm _=>hDall m hm) hf) (fun _ _=>rfl) (ls _)⟩
  have hS1:Stp A β s (SupL A M1 D) β s1:=by
    refine ⟨I1.calm.can,fun f hf=>.inl hf,fun f hf=>?_,fun f hf=>.inl hf,fun f hf _=>I1.calm.keep f hf,ls _,I1.calm.rd,fun x hx=>.inl (I1.calm.wr x hx)⟩;rcases hf with q|⟨m,x,_,q2,q3,_⟩
    . exact .inl q
    . have:=(I1.log m x q2).1;exact .inr (.inl (by omega))
  obtain ⟨M2,fr2,s2,d2,L2⟩:=zxq hE hdd.2 hF1 hT1 hr hob2;have hdraw:=zjb d1 d2;rw [<- hsplit] at hdraw;obtain ⟨f1,f2⟩:=zrh hdraw;refine W.draw hdraw ?_ ⟨h',S',Left.trans (h':=h) (fr':=fr) hT.le hS1 L2,hq⟩;refine zyh rfl (zmy fun i j x y hij _ hx hy=>?_);simp only [ft] at hx hy;have hjl:j<ops.toList.length:=by rw [<- f1];exact (fo.1 hy).1
  have ho1:ops.toList[i]?=some (ops.toList[i]'(by omega)):=fb _;have ho2:ops.toList[j]?=some (ops.toList[j]'hjl):=fb _;by_cases hkj:k<=j
  . rcases z3g hok hij hkj ho1 ho2 with q|q|q
    . exact .inl q
    . obtain ⟨a,b,c⟩:=(f2 i _ x ho1 hx).1 q;exact .inr (zhk a b c)
    . obtain ⟨a,b⟩:=(f2 j _ y ho2 hy).2 q;exact .inr (zgf a b)
  . have hjM:j<M1.length:=by rw [m1,gq];omega
    rw [fp (by omega)] at hx;rw [fp hjM] at hy;by_cases hbit:ii (nth 0 (zdb ops.toList []) j) i=true
    . exact .inl hbit
    . right;obtain ⟨x1,x2,x3,x4,x5⟩:=I1.log i x hx;obtain ⟨y1,y2,y3,y4,y5⟩:=I1.log j y hy;obtain ⟨rx,wx,lo,hi⟩:=x;obtain ⟨ry,wy,lo',hi'⟩:=y;simp only at x1 x2 x3 x4 x5 y1 y2 y3 y4 y5;subst x4;subst y4;refine zf8 (fun f hf=>by simp at hf) (fun f _=>by simp) (fun f hf=>?_) (fun f hf=>by simp at hf);obtain ⟨g1,g2⟩:=y5 f hf;rcases g2 with (g2|⟨m,z,g3,g4,g5,g6⟩)|g2
      . have:=I1.base f g2;omega
      . by_cases hmi:m=i
        . subst hmi;exact absurd g3 hbit
        . by_cases hlt:m<i
          . have:=I1.apart m i z _ hlt g4 hx;simp only at this;omega
          . have:=I1.apart i m _ z (by omega) hx g4;simp only at this;omega
      . have:=I1.own f g2;omega
end
section
variable {GL:List (Nat×List Value)} {P:fx} {Γ:Env} {own:List Nat} {ops l:List Oper} {h:Nat->T} {S:TS} {outs:List (T×TS)} {outsP:List T} {d:Option Tmp} {ty:fw} {pos:String} {e:Array Edge} {g:Option (Nat×Bool)}
def ydq {α:Type} (r:Option (T×TS)) (k:T->TS->Option α):Option α:=match r with
  |some (t,S)=>k t S
  |none=>none
def zm2 {α:Type} (b:Option Bool) (off on:Unit->Option α):Option α:=match b with
  |some true=>on ()
  |some false=>off ()
  |none=>none
theorem zyt {α:Type} (t:T) (S:TS) (k:T->TS->Option α):ydq (some (t,S)) k=k t S:=fj rfl rfl
theorem yca {α:Type} (a b:Unit->Option α):zm2 (some true) a b=b ():=fj rfl rfl
theorem z5w {α:Type} (a b:Unit->Option α):zm2 (some false) a b=a ():=fj rfl rfl
def zn6 (ops:List Oper) (h:Nat->T) (j:Nat):T:=match znp ops j with|some t=>h t|none=>.junk
def znz (t:T) (w:Bool):Option Bool:=match t with|.bool b=>some (b == w)|.tup _=>some false|_=>none
theorem z8w {l:List T} {w:Bool}:znz (.tup l) w=some false:=fj rfl rfl
theorem zik {j:Nat} {w:Bool}:zhz ops h (some (j,w))=znz (zn6 ops h j) w:=by
  unfold zhz zn6;simp only
  cases znp ops j with
  |none=>rfl
  |some t=>simp only;cases h t<;>rfl
theorem z8u:znz (.bool true) true=some true:=fj rfl rfl
theorem z8v:znz (.bool true) false=some false:=fj rfl rfl
theorem z8x:znz (.bool false) true=some false:=fj rfl rfl
theorem z8y:znz (.bool false) false=some true:=fj rfl rfl
theorem zu0 {t:Tmp} {op:Op}:zn6 (⟨some t,op,ty,pos,e,g⟩ :: l) h 0=h t:=fj rfl rfl
theorem zu1 {o:Oper} {n:Nat}:zn6 (o :: l) h (n+1)=zn6 l h n:=by
  unfold zn6 znp;rw [ki]
theorem z4j:runT P Γ GL own ops [] h S outs=some (True,h,S):=fj rfl rfl
theorem z4l:runP P Γ GL ops [] h S outsP=some (True,h):=fj rfl rfl
def zcf:Op->Bool
  |.call ⟨.value _,_,_⟩=>true
  |_=>false
def yeh (P:fx) (Γ:Env) (GL:List (Nat×List Value)) (own:List Nat) (ops l:List Oper) (outs:List (T×TS)) (h:Nat->T) (d:Option Tmp) (t:T) (S:TS):Option (Prop×(Nat->T)×TS):=runT P Γ GL own ops l (putT h d t) S outs
theorem ya0 {t:T}:yeh P Γ GL own ops l outs h d t S=runT P Γ GL own ops l (putT h d t) S outs:=fj rfl rfl
def offT (P:fx) (Γ:Env) (GL:List (Nat×List Value)) (own:List Nat) (ops l:List Oper) (outs:List (T×TS)) (h:Nat->T) (d:Option Tmp) (S:TS) (_:Unit):Option (Prop×(Nat->T)×TS):=runT P Γ GL own ops l (putT h d (.tup [])) S outs
theorem ygv {u:Unit}:offT P Γ GL own ops l outs h d S u=runT P Γ GL own ops l (putT h d (.tup [])) S outs:=fj rfl rfl
def yee (P:fx) (Γ:Env) (GL:List (Nat×List Value)) (own:List Nat) (ops l:List Oper) (outs:List (T×TS)) (h:Nat->T) (S:TS) (o:Oper) (_:Unit):Option (Prop×(Nat->T)×TS):=ydq (zf0 P Γ own (zc4 GL h) o S) (yeh P Γ GL own ops l outs h o.dst)
theorem yax {u:Unit} {op:Op}:yee P Γ GL own ops l outs h S ⟨d,op,ty,pos,e,g⟩ u=ydq (zf0 P Γ own (zc4 GL h) ⟨d,op,ty,pos,e,g⟩ S) (yeh P Γ GL own ops l outs h d):=fj rfl rfl
theorem z4k {op:Op} (hc:zcf op=false):runT P Γ GL own ops (⟨d,op,ty,pos,e,g⟩ :: l) h S outs=zm2 (zhz ops h g) (offT P Γ GL own ops l outs h d S) (yee P Γ GL own ops l outs h S ⟨d,op,ty,pos,e,g⟩):=by
  rw [runT];simp only
  cases hg:zhz ops h g with
  |none=>rfl
  |some b =>
    cases b with
    |false=>rfl
    |true =>
      simp only [zm2,yee]
      cases hs:zf0 P Γ own (zc4 GL h) ⟨d,op,ty,pos,e,g⟩ S with
      |none =>
        cases op with
        |call c =>
          obtain ⟨cal,args,tys⟩:=c
          cases cal with
          |value f=>simp [zcf] at hc
          |_=>rfl
        |_=>rfl
      |some r =>
        cases op with
        |call c =>
          obtain ⟨cal,args,tys⟩:=c
          cases cal with
          |value f=>simp [zcf] at hc
          |_=>rfl
        |_=>rfl
theorem z96 {op:Op} (hc:zcf op=false):runT P Γ GL own ops (⟨d,op,ty,pos,e,none⟩ :: l) h S outs=ydq (zf0 P Γ own (zc4 GL h) ⟨d,op,ty,pos,e,none⟩ S) (yeh P Γ GL own ops l outs h d):=by
  rw [z4k hc];rfl
theorem z97 {op:Op} {j:Nat} {w:Bool} (hc:zcf op=false):runT P Γ GL own ops (⟨d,op,ty,pos,e,some (j,w)⟩ :: l) h S outs=zm2 (znz (zn6 ops h j) w) (offT P Γ GL own ops l outs h d S) (yee P Γ GL own ops l outs h S ⟨d,op,ty,pos,e,some (j,w)⟩):=by
  rw [z4k hc,zik]
def ye1 (p:Option Prop) (k:Option (Prop×(Nat->T)×TS)):Option (Prop×(Nat->T)×TS):=match p,k with
  |some p,some (q,h,S)=>some (p/\q,h,S)
  |_,_=>none
theorem z0c {p q:Prop}:ye1 (some p) (some (q,h,S))=some (p/\q,h,S):=fj rfl rfl
def yfj (P:fx) (Γ:Env) (GL:List (Nat×List Value)) (own:List Nat) (ops l:List Oper) (outs:List (T×TS)) (h:Nat->T) (S:TS) (d:Option Tmp) (f:fk) (args:List fk) (r:T×TS) (_:Unit):Option (Prop×(Nat->T)×TS):=ye1 (zyi P Γ GL S (args.map (zc4 GL h)) (zc4 GL h f) r) (runT P Γ GL own ops l (putT h d r.1) r.2 outs)
theorem z6x {u:Unit} {f:fk} {args:List fk} {r:T×TS}:yfj P Γ GL own ops l outs h S d f args r u=ye1 (zyi P Γ GL S (args.map (zc4 GL h)) (zc4 GL h f) r) (runT P Γ GL own ops l (putT h d r.1) r.2 outs):=fj rfl rfl
theorem zvb {f:fk} {args:Array fk} {tys:Array fw} {r:T×TS}:runT P Γ GL own ops (⟨d,.call ⟨.value f,args,tys⟩,ty,pos,e,g⟩ :: l) h S (r :: outs)=zm2 (zhz ops h g) (offT P Γ GL own ops l (r :: outs) h d S) (yfj P Γ GL own ops l outs h S d f args.toList r):=by
  rw [runT];simp only
  cases hg:zhz ops h g with
  |none=>rfl
  |some b =>
    cases b with
    |false=>rfl
    |true =>
      simp only [zm2,yfj]
      cases zyi P Γ GL S (args.toList.map (zc4 GL h)) (zc4 GL h f) r with
      |none=>rfl
      |some p=>cases runT P Γ GL own ops l (putT h d r.1) r.2 outs<;>rfl
theorem zzc {f:fk} {args:Array fk} {tys:Array fw} {r:T×TS}:runT P Γ GL own ops (⟨d,.call ⟨.value f,args,tys⟩,ty,pos,e,none⟩ :: l) h S (r :: outs)=ye1 (zyi P Γ GL S (args.toList.map (zc4 GL h)) (zc4 GL h f) r) (runT P Γ GL own ops l (putT h d r.1) r.2 outs):=by
  rw [zvb];rfl
theorem zr8 {f:fk} {args:Array fk} {tys:Array fw} {r:T×TS} {j:Nat} {w:Bool}:runT P Γ GL own ops (⟨d,.call ⟨.value f,args,tys⟩,ty,pos,e,some (j,w)⟩ :: l) h S (r :: outs)=zm2 (znz (zn6 ops h j) w) (offT P Γ GL own ops l (r :: outs) h d S) (yfj P Γ GL own ops l outs h S d f args.toList r):=by
  rw [zvb,zik]
theorem zr7 {f:fk} {args:Array fk} {tys:Array fw} {j:Nat} {w:Bool}:runT P Γ GL own ops (⟨d,.call ⟨.value f,args,tys⟩,ty,pos,e,some (j,w)⟩ :: l) h S []=zm2 (znz (zn6 ops h j) w) (offT P Γ GL own ops l [] h d S) (fun _=>none):=by
  rw [runT];simp only [zik]
  cases znz (zn6 ops h j) w with
  |none=>rfl
  |some b=>cases b<;>rfl
theorem z6t {k:Nat} {first cap args:List T} {r:T×TS}:zyi P Γ GL S args (.fn k first cap) r=some (Call P Γ GL k (first++args++cap) S r.1 r.2):=fj rfl rfl
def ydr {α:Type} (r:Option T) (k:T->Option α):Option α:=match r with
  |some t=>k t
  |none=>none
theorem zur {α:Type} (t:T) (k:T->Option α):ydr (some t) k=k t:=fj rfl rfl
def yei (P:fx) (Γ:Env) (GL:List (Nat×List Value)) (ops l:List Oper) (outs:List T) (h:Nat->T) (d:Option Tmp) (S:TS) (t:T):Option (Prop×(Nat->T)):=runP P Γ GL ops l (putT h d t) S outs
theorem z48 {t:T}:yei P Γ GL ops l outsP h d S t=runP P Γ GL ops l (putT h d t) S outsP:=fj rfl rfl
def offP (P:fx) (Γ:Env) (GL:List (Nat×List Value)) (ops l:List Oper) (outs:List T) (h:Nat->T) (d:Option Tmp) (S:TS) (_:Unit):Option (Prop×(Nat->T)):=runP P Γ GL ops l (putT h d (.tup [])) S outs
theorem yay {u:Unit}:offP P Γ GL ops l outsP h d S u=runP P Γ GL ops l (putT h d (.tup [])) S outsP:=fj rfl rfl
def yef (P:fx) (Γ:Env) (GL:List (Nat×List Value)) (ops l:List Oper) (outs:List T) (h:Nat->T) (S:TS) (o:Oper) (_:Unit):Option (Prop×(Nat->T)):=ydr (zfx P Γ (zc4 GL h) o S) (yei P Γ GL ops l outs h o.dst S)
theorem z44 {u:Unit} {op:Op}:yef P Γ GL ops l outsP h S ⟨d,op,ty,pos,e,g⟩ u=ydr (zfx P Γ (zc4 GL h) ⟨d,op,ty,pos,e,g⟩ S) (yei P Γ GL ops l outsP h d S):=fj rfl rfl
theorem z4m {op:Op} (hc:zcf op=false):runP P Γ GL ops (⟨d,op,ty,pos,e,g⟩ :: l) h S outsP=zm2 (zhz ops h g) (offP P Γ GL ops l outsP h d S) (yef P Γ GL ops l outsP h S ⟨d,op,ty,pos,e,g⟩):=by
  rw [runP];simp only
  cases hg:zhz ops h g with
  |none=>rfl
  |some b =>
    cases b with
    |false=>rfl
    |true =>
      simp only [zm2,yef]
      cases hs:zfx P Γ (zc4 GL h) ⟨d,op,ty,pos,e,g⟩ S with
      |none =>
        cases op with
        |call c =>
          obtain ⟨cal,args,tys⟩:=c
          cases cal with
          |value f=>simp [zcf] at hc
          |_=>rfl
        |_=>rfl
      |some r =>
        cases op with
        |call c =>
          obtain ⟨cal,args,tys⟩:=c
          cases cal with
          |value f=>simp [zcf] at hc
          |_=>rfl
        |_=>rfl
theorem z98 {op:Op} (hc:zcf op=false):runP P Γ GL ops (⟨d,op,ty,pos,e,none⟩ :: l) h S outsP=ydr (zfx P Γ (zc4 GL h) ⟨d,op,ty,pos,e,none⟩ S) (yei P Γ GL ops l outsP h d S):=by
  rw [z4m hc];rfl
theorem z99 {op:Op} {j:Nat} {w:Bool} (hc:zcf op=false):runP P Γ GL ops (⟨d,op,ty,pos,e,some (j,w)⟩ :: l) h S outsP=zm2 (znz (zn6 ops h j) w) (offP P Γ GL ops l outsP h d S) (yef P Γ GL ops l outsP h S ⟨d,op,ty,pos,e,some (j,w)⟩):=by
  rw [z4m hc,zik]
def ye2 (p:Option Prop) (k:Option (Prop×(Nat->T))):Option (Prop×(Nat->T)):=match p,k with
  |some p,some (q,h)=>some (p/\q,h)
  |_,_=>none
theorem zvu {p q:Prop}:ye2 (some p) (some (q,h))=some (p/\q,h):=fj rfl rfl
def z6w (P:fx) (Γ:Env) (GL:List (Nat×List Value)) (ops l:List Oper) (outs:List T) (h:Nat->T) (S:TS) (d:Option Tmp) (f:fk) (args:List fk) (r:T) (_:Unit):Option (Prop×(Nat->T)):=ye2 (z3o P Γ GL S (args.map (zc4 GL h)) (zc4 GL h f) r) (runP P Γ GL ops l (putT h d r) S outs)
theorem z1k {u:Unit} {f:fk} {args:List fk} {r:T}:z6w P Γ GL ops l outsP h S d f args r u=ye2 (z3o P Γ GL S (args.map (zc4 GL h)) (zc4 GL h f) r) (runP P Γ GL ops l (putT h d r) S outsP):=fj rfl rfl
theorem zvc {f:fk} {args:Array fk} {tys:Array fw} {r:T}:runP P Γ GL ops (⟨d,.call ⟨.value f,args,tys⟩,ty,pos,e,g⟩ :: l) h S (r :: outsP)=zm2 (zhz ops h g) (offP P Γ GL ops l (r :: outsP) h d S) (z6w P Γ GL ops l outsP h S d f args.toList r):=by
  rw [runP];simp only
  cases hg:zhz ops h g with
  |none=>rfl
  |some b =>
    cases b with
    |false=>rfl
    |true =>
      simp only [zm2,z6w]
      cases z3o P Γ GL S (args.toList.map (zc4 GL h)) (zc4 GL h f) r with
      |none=>rfl
      |some p=>cases runP P Γ GL ops l (putT h d r) S outsP<;>rfl
theorem zzd {f:fk} {args:Array fk} {tys:Array fw} {r:T}:runP P Γ GL ops (⟨d,.call ⟨.value f,args,tys⟩,ty,pos,e,none⟩ :: l) h S (r :: outsP)=ye2 (z3o P Γ GL S (args.toList.map (zc4 GL h)) (zc4 GL h f) r) (runP P Γ GL ops l (putT h d r) S outsP):=by
  rw [zvc];rfl
theorem zsa {f:fk} {args:Array fk} {tys:Array fw} {r:T} {j:Nat} {w:Bool}:runP P Γ GL ops (⟨d,.call ⟨.value f,args,tys⟩,ty,pos,e,some (j,w)⟩ :: l) h S (r :: outsP)=zm2 (znz (zn6 ops h j) w) (offP P Γ GL ops l (r :: outsP) h d S) (z6w P Γ GL ops l outsP h S d f args.toList r):=by
  rw [zvc,zik]
theorem zr9 {f:fk} {args:Array fk} {tys:Array fw} {j:Nat} {w:Bool}:runP P Γ GL ops (⟨d,.call ⟨.value f,args,tys⟩,ty,pos,e,some (j,w)⟩ :: l) h S []=zm2 (znz (zn6 ops h j) w) (offP P Γ GL ops l [] h d S) (fun _=>none):=by
  rw [runP];simp only [zik]
  cases znz (zn6 ops h j) w with
  |none=>rfl
  |some b=>cases b<;>rfl
theorem z6v {k:Nat} {first cap args:List T} {r:T}:z3o P Γ GL S args (.fn k first cap) r=some (zan P Γ GL k (first++args++cap) S r):=fj rfl rfl
theorem za7 {t u:Nat} {v:T}:tupd h t v u=if u=t then v else h u:=fj rfl rfl
theorem yan {t:Tmp} {v:T}:putT h (some t) v=tupd h t v:=fj rfl rfl
theorem yao {v:T}:putT h none v=h:=fj rfl rfl
theorem zo5 {t:Tmp}:zc4 GL h (.tmp t)=h t:=fj rfl rfl
theorem zid {v:Value}:zc4 GL h (.const v)=zmc v:=fj rfl rfl
theorem ych {f:Nat}:zc4 GL h (.func f)=.fn f [] []:=fj rfl rfl
theorem z0z {f:Nat}:zc4 GL h (.global f)=yb9 GL f:=fj rfl rfl
theorem ygx {k:gu} {n:Int}:zmc (.int k n)=.int k n:=fj rfl rfl
theorem zkv {b:Bool}:zmc (.bool b)=.bool b:=fj rfl rfl
theorem ygw {b:ByteArray}:zmc (.string b)=.str b:=fj rfl rfl
theorem ybk:zmc (.slice none 0 0)=.nils:=fj rfl rfl
theorem ybl:zmc (.pointer none)=.nilp:=fj rfl rfl
theorem ybm:zmc (.map none)=.nilm:=fj rfl rfl
theorem ybn:zmc .nilFunc=.nilf:=fj rfl rfl
theorem zum {t:T}:zg2 S (some t)=some (t,S):=fj rfl rfl
theorem zun:z8t (some S)=some (.junk,S):=fj rfl rfl
-- which operations are calls
theorem yb2 {x}:zcf (.move x)=false:=fj rfl rfl
theorem z0l {x}:zcf (.assign x)=false:=fj rfl rfl
theorem yb1 {a b c}:zcf (.pick a b c)=false:=fj rfl rfl
theorem z5t {x}:zcf (.alloc x)=false:=fj rfl rfl
theorem yg4 {x y}:zcf (.box x y)=false:=fj rfl rfl
theorem z5s {x y}:zcf (.build x y)=false:=fj rfl rfl
theorem zb6 {x y z}:zcf (.buildSlice x y z)=false:=fj rfl rfl
theorem yb3 {x y}:zcf (.load x y)=false:=fj rfl rfl
theorem z5o {x y z}:zcf (.store x y z)=false:=fj rfl rfl
theorem zs5 {x}:zcf (.nilCheck x)=false:=fj rfl rfl
theorem yg5 {x y z w v}:zcf (.binOp x y z w v)=false:=fj rfl rfl
theorem yl9 {x y z}:zcf (.unOp x y z)=false:=fj rfl rfl
theorem yb4 {x y z}:zcf (.convert x y z)=false:=fj rfl rfl
theorem yg3 {x y}:zcf (.sliceToArrayPointer x y)=false:=fj rfl rfl
theorem zs6 {x y z}:zcf (.makeFunc x y z)=false:=fj rfl rfl
theorem zbo {x y z w}:zcf (.lookup x y z w)=false:=fj rfl rfl
theorem za5 {x y}:zcf (.makeMap x y)=false:=fj rfl rfl
theorem zau {x y z w}:zcf (.mapUpdate x y z w)=false:=fj rfl rfl
theorem zbp {x y z w}:zcf (.insert x y z w)=false:=fj rfl rfl
theorem zqk {x y z}:zcf (.makeSlice x y z)=false:=fj rfl rfl
theorem z5p {x y z w v}:zcf (.slice x y z w v)=false:=fj rfl rfl
theorem zqm {x y z}:zcf (.fieldAddr x y z)=false:=fj rfl rfl
theorem z5r {x y z}:zcf (.field x y z)=false:=fj rfl rfl
theorem zql {x y z}:zcf (.indexAddr x y z)=false:=fj rfl rfl
theorem z5q {x y z}:zcf (.index x y z)=false:=fj rfl rfl
theorem zv8 {x y}:zcf (.extract x y)=false:=fj rfl rfl
theorem zv9 {b x y}:zcf (.call ⟨.builtin b,x,y⟩)=false:=fj rfl rfl
variable {ρ:fk->T} {t t2:fw} {x y z:fk}
theorem z9z  : zf0 P Γ own ρ ⟨d,.move x,ty,pos,e,g⟩ S=zg2 S (some (ρ x)):=fj rfl rfl
theorem zfy  : zfx P Γ ρ ⟨d,.move x,ty,pos,e,g⟩ S=some (ρ x):=fj rfl rfl
theorem zy8  : zf0 P Γ own ρ ⟨d,.assign x,ty,pos,e,g⟩ S=zg2 S (some (ρ x)):=fj rfl rfl
theorem zza  : zfx P Γ ρ ⟨d,.assign x,ty,pos,e,g⟩ S=some (ρ x):=fj rfl rfl
theorem z90  : zf0 P Γ own ρ ⟨d,.load t x,ty,pos,e,g⟩ S=zg2 S (zrt Γ S t (ρ x)):=fj rfl rfl
theorem z94  : zfx P Γ ρ ⟨d,.load t x,ty,pos,e,g⟩ S=zrt Γ S t (ρ x):=fj rfl rfl
theorem zqd {k:Nat}:zf0 P Γ own ρ ⟨d,.fieldAddr t x k,ty,pos,e,g⟩ S=zg2 S (zaj Γ S t k (ρ x)):=fj rfl rfl
theorem zqf {k:Nat}:zfx P Γ ρ ⟨d,.fieldAddr t x k,ty,pos,e,g⟩ S=zaj Γ S t k (ρ x):=fj rfl rfl
theorem zqc  : zf0 P Γ own ρ ⟨d,.indexAddr t x y,ty,pos,e,g⟩ S=zg2 S (zha Γ S t (ρ x) (ρ y)):=fj rfl rfl
theorem zqe  : zfx P Γ ρ ⟨d,.indexAddr t x y,ty,pos,e,g⟩ S=zha Γ S t (ρ x) (ρ y):=fj rfl rfl
theorem z4d  : zf0 P Γ own ρ ⟨d,.index t x y,ty,pos,e,g⟩ S=zg2 S (zru Γ t (ρ x) (ρ y)):=fj rfl rfl
theorem z4h  : zfx P Γ ρ ⟨d,.index t x y,ty,pos,e,g⟩ S=zru Γ t (ρ x) (ρ y):=fj rfl rfl
theorem zu7 {k:Nat}:zf0 P Γ own ρ ⟨d,.extract x k,ty,pos,e,g⟩ S=zg2 S (zki k (ρ x)):=fj rfl rfl
theorem zu8 {k:Nat}:zfx P Γ ρ ⟨d,.extract x k,ty,pos,e,g⟩ S=zki k (ρ x):=fj rfl rfl
theorem yll {u:UnOp}:zf0 P Γ own ρ ⟨d,.unOp u t x,ty,pos,e,g⟩ S=zg2 S (tUn u (ρ x)):=fj rfl rfl
theorem ylm {u:UnOp}:zfx P Γ ρ ⟨d,.unOp u t x,ty,pos,e,g⟩ S=tUn u (ρ x):=fj rfl rfl
theorem ygg {b:BinOp}:zf0 P Γ own ρ ⟨d,.binOp b t x y t2,ty,pos,e,g⟩ S=zg2 S (tBin P Γ S t b x y (ρ x) (ρ y)):=fj rfl rfl
theorem ygi {b:BinOp}:zfx P Γ ρ ⟨d,.binOp b t x y t2,ty,pos,e,g⟩ S=tBin P Γ S t b x y (ρ x) (ρ y):=fj rfl rfl
theorem z4e {parts:Array (Nat×fk)}:zf0 P Γ own ρ ⟨d,.build t parts,ty,pos,e,g⟩ S=zg2 S (zi3 Γ ρ t parts.toList):=fj rfl rfl
theorem z4i {parts:Array (Nat×fk)}:zfx P Γ ρ ⟨d,.build t parts,ty,pos,e,g⟩ S=zi3 Γ ρ t parts.toList:=fj rfl rfl
theorem z4c {lo hi mx:Option fk}:zf0 P Γ own ρ ⟨d,.slice t x lo hi mx,ty,pos,e,g⟩ S=zg2 S (zrs Γ S t (ρ x) (lo.map ρ) (hi.map ρ) (mx.map ρ)):=fj rfl rfl
theorem z4g {lo hi mx:Option fk}:zfx P Γ ρ ⟨d,.slice t x lo hi mx,ty,pos,e,g⟩ S=zrs Γ S t (ρ x) (lo.map ρ) (hi.map ρ) (mx.map ρ):=fj rfl rfl
theorem zr4 {f:Nat} {a c:Array fk}:zf0 P Γ own ρ ⟨d,.makeFunc (.func f) a c,ty,pos,e,g⟩ S=zg2 S (some (.fn f (a.toList.map ρ) (c.toList.map ρ))):=fj rfl rfl
theorem zr5 {f:Nat} {a c:Array fk}:zfx P Γ ρ ⟨d,.makeFunc (.func f) a c,ty,pos,e,g⟩ S=some (.fn f (a.toList.map ρ) (c.toList.map ρ)):=fj rfl rfl
def yeb (c a b:T):Option T:=match c with|.bool t=>some (bif t then a else b)|_=>none
theorem yal {a b:T}:yeb (.bool true) a b=some a:=fj rfl rfl
theorem yam {a b:T}:yeb (.bool false) a b=some b:=fj rfl rfl
theorem z2d:zfx P Γ ρ ⟨d,.pick z x y,ty,pos,e,g⟩ S=yeb (ρ z) (ρ x) (ρ y):=by
  show (match ρ z with|.bool t=>some (bif t then ρ x else ρ y)|_=>none)=_;cases ρ z<;>rfl
theorem z9y:zf0 P Γ own ρ ⟨d,.pick z x y,ty,pos,e,g⟩ S=zg2 S (yeb (ρ z) (ρ x) (ρ y)):=by
  show zg2 S (zfx P Γ ρ ⟨d,.pick z x y,ty,pos,e,g⟩ S)=_;rw [z2d]
theorem z4f:zf0 P Γ own ρ ⟨d,.alloc t,ty,pos,e,g⟩ S=zux Γ S t:=fj rfl rfl
theorem ygf:zf0 P Γ own ρ ⟨d,.box t x,ty,pos,e,g⟩ S=tBox S (ρ x):=fj rfl rfl
theorem z4b:zf0 P Γ own ρ ⟨d,.store t x y,ty,pos,e,g⟩ S=z8t (zuv Γ S t (ρ y) (ρ x)):=fj rfl rfl
theorem zqb:zf0 P Γ own ρ ⟨d,.makeSlice t x y,ty,pos,e,g⟩ S=zig Γ S t (ρ x) (ρ y):=fj rfl rfl
theorem z91:zf0 P Γ own ρ ⟨d,.convert t t2 x,ty,pos,e,g⟩ S=bif ownD own d then zq3 Γ S t t2 (ρ x) else zg2 S (zp7 Γ S t t2 (ρ x)):=fj rfl rfl
theorem z95:zfx P Γ ρ ⟨d,.convert t t2 x,ty,pos,e,g⟩ S=zp7 Γ S t t2 (ρ x):=fj rfl rfl
theorem zad {n:Nat} {parts:Array (Nat×fk)}:zf0 P Γ own ρ ⟨d,.buildSlice t n parts,ty,pos,e,g⟩ S=bif ownD own d then zap Γ S ρ t n parts.toList else zg2 S (zai Γ ρ t n parts.toList):=fj rfl rfl
theorem zal {n:Nat} {parts:Array (Nat×fk)}:zfx P Γ ρ ⟨d,.buildSlice t n parts,ty,pos,e,g⟩ S=zai Γ ρ t n parts.toList:=fj rfl rfl
theorem ygh:zfx P Γ ρ ⟨d,.call ⟨.builtin .len,#[x],#[t]⟩,ty,pos,e,g⟩ S=tLen Γ S t (ρ x):=fj rfl rfl
theorem yge:zf0 P Γ own ρ ⟨d,.call ⟨.builtin .len,#[x],#[t]⟩,ty,pos,e,g⟩ S=zg2 S (tLen Γ S t (ρ x)):=fj rfl rfl
theorem zy9:zf0 P Γ own ρ ⟨d,.call ⟨.builtin .append,#[x,y],#[t,t2]⟩,ty,pos,e,g⟩ S=bif srcT Γ t2 then zle Γ S t (ρ y) (ρ x) else none:=fj rfl rfl
theorem yd0:zf0 P Γ own ρ ⟨d,.call ⟨.builtin .clear,#[x],#[t]⟩,ty,pos,e,g⟩ S=zrv Γ S t (ρ x):=fj rfl rfl
def minT (a b:T):Option T:=match a,b with|.int k a,.int _ b=>some (.int k (min a b))|_,_=>none
def maxT (a b:T):Option T:=match a,b with|.int k a,.int _ b=>some (.int k (max a b))|_,_=>none
theorem z5a {k k':gu} {a b:Int}:minT (.int k a) (.int k' b)=some (.int k (min a b)):=fj rfl rfl
theorem z5b {k k':gu} {a b:Int}:maxT (.int k a) (.int k' b)=some (.int k (max a b)):=fj rfl rfl
theorem z92 {tys:Array fw}:zfx P Γ ρ ⟨d,.call ⟨.builtin .min,#[x,y],tys⟩,ty,pos,e,g⟩ S=minT (ρ x) (ρ y):=by
  show (match ρ x,ρ y with|.int k a,.int _ b=>some (eo k (min a b))|_,_=>none)=_;cases ρ x<;>cases ρ y<;>rfl
theorem ygc {tys:Array fw}:zf0 P Γ own ρ ⟨d,.call ⟨.builtin .min,#[x,y],tys⟩,ty,pos,e,g⟩ S=zg2 S (minT (ρ x) (ρ y)):=by
  show zg2 S (zfx P Γ ρ ⟨d,.call ⟨.builtin .min,#[x,y],tys⟩,ty,pos,e,g⟩ S)=_;rw [z92]
theorem z93 {tys:Array fw}:zfx P Γ ρ ⟨d,.call ⟨.builtin .max,#[x,y],tys⟩,ty,pos,e,g⟩ S=maxT (ρ x) (ρ y):=by
  show (match ρ x,ρ y with|.int k a,.int _ b=>some (eo k (max a b))|_,_=>none)=_;cases ρ x<;>cases ρ y<;>rfl
theorem ygd {tys:Array fw}:zf0 P Γ own ρ ⟨d,.call ⟨.builtin .max,#[x,y],tys⟩,ty,pos,e,g⟩ S=zg2 S (maxT (ρ x) (ρ y)):=by
  show zg2 S (zfx P Γ ρ ⟨d,.call ⟨.builtin .max,#[x,y],tys⟩,ty,pos,e,g⟩ S)=_;rw [z93]
theorem yf7 {b:BinOp} {k k':gu} {m n:Int}:tBin P Γ S t b x y (.int k m) (.int k' n)=zbn b k k' m n:=fj rfl rfl
theorem yf6 {b:BinOp} {m n:ByteArray}:tBin P Γ S t b x y (.str m) (.str n)=zuy b m n:=fj rfl rfl
theorem yga {m n:ByteArray}:zuy .eql m n=some (.bool (decide (m=n))):=fj rfl rfl
theorem yf9 {m n:ByteArray}:zuy .neq m n=some (.bool (!decide (m=n))):=fj rfl rfl
theorem yf4 {b:Bool}:tUn .not (.bool b)=some (.bool (!b)):=fj rfl rfl
theorem yf5 {k:gu} {n:Int}:tUn .neg (.int k n)=some (.int k (k.wrap (0 - n))):=fj rfl rfl
end
section
variable {k:gu} {a b:Int}
theorem yhe:zbn .add k k a b=some (.int k (k.wrap (a+b))):=by simp [zbn]
theorem yg6:zbn .sub k k a b=some (.int k (k.wrap (a - b))):=by simp [zbn]
theorem yg8:zbn .mul k k a b=some (.int k (k.wrap (a*b))):=by simp [zbn]
theorem yhd:zbn .eql k k a b=some (.bool (decide (a=b))):=by simp [zbn]
theorem yg7:zbn .neq k k a b=some (.bool (decide (a≠b))):=by simp [zbn]
theorem yg9:zbn .lss k k a b=some (.bool (decide (a<b))):=by simp [zbn]
theorem yha:zbn .leq k k a b=some (.bool (decide (a<=b))):=by simp [zbn]
theorem yhb:zbn .gtr k k a b=some (.bool (decide (b<a))):=by simp [zbn]
theorem yhc:zbn .geq k k a b=some (.bool (decide (b<=a))):=by simp [zbn]
theorem zfh (ha:0<=a) (hb:0<b):zbn .quo k k a b=some (.int k (k.wrap (a / b))):=by
  simp only [zbn,ij,cond_true];rw [zAd (by omega),Int.tdiv_eq_ediv_of_nonneg ha]
theorem zfg (ha:0<=a) (hb:0<b):zbn .rem k k a b=some (.int k (a % b)):=by
  simp only [zbn,ij,cond_true];rw [zAd (by omega),Int.tmod_eq_emod_of_nonneg ha]
theorem ymd:zbn .and k k a b=some (.int k (k.wrap (il k.bits a &&& il k.bits b).toNat)):=by simp [zbn]
theorem ib_or:zbn .or k k a b=some (.int k (k.wrap (il k.bits a ||| il k.bits b).toNat)):=by simp [zbn]
theorem yma:zbn .xor k k a b=some (.int k (k.wrap (il k.bits a ^^^ il k.bits b).toNat)):=by simp [zbn]
theorem ymc {k':gu} (hb:0<=b):zbn .shl k k' a b=some (.int k (k.wrap (a*2 ^ (min b.toNat k.bits)))):=by simp [zbn,hb]
theorem ymb {k':gu} (hb:0<=b):zbn .shr k k' a b=some (.int k (a.fdiv (2 ^ (min b.toNat k.bits)))):=by simp [zbn,hb]
theorem wr64 {n:Int} (h:-9223372036854775808<=n/\n<=9223372036854775807):IntKind.i64.wrap n=n:=yj2 h
theorem ya5 {n:Int} (h:0<=n):natT (.int k n)=some n.toNat:=by
  obtain ⟨m,rfl⟩:=jp h;rfl
theorem ya6 {n:Int} (h:0<=n):zgv (.int k n)=some n.toNat:=by
  obtain ⟨m,rfl⟩:=jp h;rfl
theorem zvi {n:Int}:zd4 (.int k n)=.int k n:=fj rfl rfl
theorem ye6 {α:Type} [Inhabited α] {L:List α} {n:Nat} (h:n<L.length):L[n]?=some (L.getD n default):=by
  rw [fe,fb h];rfl
def stL (l:List Box):TS:=⟨l.length,fun i=>l.getD i .gone⟩
theorem zro:ts0=stL []:=rfl
theorem st_n (l:List Box):(stL l).n=l.length:=rfl
theorem yf8 (l:List Box) (i:Nat):(stL l).box i=l.getD i .gone:=rfl
theorem zyy (l:List Box) (x:Box):(stL l).add x=stL (l++[x]):=by
  unfold stL TS.add;simp only [fi,fq,iu];congr 1;funext i;by_cases hi:i<l.length
  . rw [zAd (by omega),fe,fe,fp hi]
  . by_cases he:i=l.length
    . subst he;rw [zAc rfl];simp
    . rw [zAd he,fe,fe,jf (by omega),jf (by simp;omega)]
theorem ze2 (l:List Box) (b:Nat) (x:Box) (h:b<l.length):(stL l).set b x=stL (l.set b x):=by
  unfold stL TS.set;simp only [List.length_set];congr 1;funext i;rw [fe,fe,List.getElem?_set];by_cases hi:i=b
  . subst hi;rw [zAc rfl,zAc rfl,zAc h];rfl
  . rw [zAd hi,zAd (fun hh=>hi hh.symm)]
theorem z0o {α:Type} (x d:α) (l:List α):(x :: l).getD 0 d=x:=rfl
theorem z0p {α:Type} (x d:α) (l:List α) (n:Nat):(x :: l).getD (n+1) d=l.getD n d:=rfl
end
def zh4 (l:List Nat) (h:Nat->T):Nat->T:=fun t=>if t∈l then h t else .junk
def zfe:List Nat->Nat->(Nat->T)->Prop
  |[],_,_=>True
  |t :: l,n,h=>(h t).ids n=true/\zfe l n h
theorem zno {n:Nat} {h:Nat->T}:∀ {l:List Nat},zfe l n h->∀ t,t∈l->(h t).ids n=true
  |[],_,t,ht=>by simp at ht
  |x :: l,k,t,ht=>by
    rcases List.mem_cons.1 ht with rfl|ht
    . exact k.1
    . exact zno k.2 t ht
def zdm (n:Nat):List Box->Bool
  |[]=>true
  |b :: l=>zg0 n b && zdm n l
theorem yjc {l:List T} {i:Nat} {x:T} (h:i<l.length):spl l i [x]=l.set i x:=by
  unfold spl;rw [List.set_eq_take_append_cons_drop,zAc h];simp
theorem yjg {α:Type} {L:List α} {f:α->T} {i:Nat} {v:α}:(L.map f).set i (f v)=(L.set i v).map f:=(List.map_set).symm
theorem yjf {l:List T}:spl l 0 []=l:=by simp [spl]
theorem ylg {a:T} {l xs:List T} {n:Nat}:spl (a :: l) (n+1) xs=a :: spl l n xs:=by
  unfold spl;rw [show n+1+xs.length=(n+xs.length)+1 by omega];simp
theorem ylh {a x:T} {l xs:List T}:spl (a :: l) 0 (x :: xs)=x :: spl l 0 xs:=by simp [spl]
theorem yjd {α:Type} {L:List α} {f:α->T} {i:Nat} {v:α} (h:i<L.length):spl (L.map f) i [f v]=(L.set i v).map f:=by
  rw [yjc (by rw [fc];exact h),yjg]
theorem yae (n:Nat) (k:gu) (z:Int):rep n [.int k z]=(List.replicate n z).map (eo k):=by
  unfold rep
  induction n with
  |zero=>rfl
  |succ n ih=>rw [io,gj,ih,io];rfl
theorem z4q (n:Nat) (z:Bool):rep n [.bool z]=(List.replicate n z).map rv:=by
  unfold rep
  induction n with
  |zero=>rfl
  |succ n ih=>rw [io,gj,ih,io];rfl
theorem zi0 {α:Type} {L:List α} {f:α->T} (h:∀ x,(f x).cells=[f x]):(L.map f).flatMap iq=L.map f:=by
  induction L with
  |nil=>rfl
  |cons x l ih=>rw [ic,im,h,ih];rfl
theorem z5e {α:Type} {S:TS} {b N:Nat} {z:Bool} {L:List α} {f:α->T} (h1:∀ x,(f x).cells=[f x]) (hS:S.box b=.cells z N (L.map f)) (hl:L.length=N):yfv S (.arr b 1 0 N N N) (.lst 1 (L.map f)) :=
  .inr ⟨b,1,0,N,N,N,z,L.map f,L.map f,rfl,rfl,hS,by omega,by omega,by rw [ge,py,gz (by rw [fc];omega),zi0 h1],fun t ht=>by obtain ⟨x,_,rfl⟩:=i6.1 ht;rw [h1];rfl,by rw [fc];exact hl,fd _⟩
section
variable {GL:List (Nat×List Value)} {A A' A2:Nat->Prop} {β β' β2:Bx} {S S' S2:TS} {s s' s2:CS} {P:fx} {Γ:Env} {N:Nat} {h h' h2:Nat->T} {Q R:Exit->(Nat->T)->TS->Prop}
theorem zi8 {l:List Nat} {t:Nat} (ht:t∈l):zh4 l h t=h t:=zAc ht
theorem zme {n:Nat} {l:List Box}:∀ {i:Nat},zdm n l=true->zg0 n (l.getD i .gone)=true:=by
  induction l with
  |nil=>intro i _;rfl
  |cons b l ih =>
    intro i h;simp only [zdm,ep] at h
    cases i with
    |zero=>exact h.1
    |succ i=>exact ih h.2
theorem Left.trim {fr fr':Fr} {keep:List Nat} {bs bs2 extra:List Box} (hT:TRel GL A β (stL bs) s) (k:Left GL A β s N fr' s' h' (stL (bs2++extra))) (hl:bs2.length=bs.length) (hb:zdm bs.length bs2=true) (hk:zfe keep bs.length h'):Left GL A β s N fr' s' (zh4 keep h') (stL bs2):=by
  obtain ⟨A',β',k1,k2,k3⟩:=k;have hat:∀ b,b<bs.length->bcut β' bs.length b=β' b:=fun b hb=>zAc hb
  have hsub:∀ b l,bcut β' bs.length b=some l->β' b=some l:=fun b l h=>by
    unfold bcut at h;split at h
    . exact h
    . simp at h
  have hkp:zp4 (stL (bs2++extra)) (stL bs2):=by
    refine ⟨by simp [stL],fun b=>?_⟩;by_cases hbl:b<bs2.length
    . refine .inr ⟨hbl,?_,?_⟩
      . show bs2.getD b .gone=(bs2++extra).getD b .gone;rw [fe,fe,fp hbl]
      . show zg0 bs2.length ((bs2++extra).getD b .gone)=true;rw [fe,fp hbl,<- fe,hl];exact zme hb
    . left;show bs2.getD b .gone=.gone;rw [fe,jf (by omega)];rfl
  have hcut:=k2.cut hkp;have hn:(stL bs2).n=bs.length:=hl;rw [hn] at hcut;refine ⟨A',bcut β' bs.length,⟨k1.nt,k1.le,fun t=>?_⟩,hcut,k3.can,k3.sub,k3.new,fun f hf=>?_,k3.keep,fun b l hb'=>?_,k3.rd,k3.wr⟩
  . by_cases ht:t∈keep
    . rw [zi8 ht];exact (k1.slot t).ids hat (zno hk t ht)
    . rw [show zh4 keep h' t=.junk from zAd ht];exact .junk _
  . obtain ⟨b,hb'⟩:=hf;exact k3.own f ⟨b,hb'.imp (fun ⟨u,N,h⟩=>⟨u,N,hsub _ _ h⟩) fun h=>hsub _ _ h⟩
  . obtain ⟨l',c1,c2⟩:=k3.bx b l hb'
    have:b<bs.length:=by
      by_cases hh:b<bs.length
      . exact hh
      . rw [hT.next b (by show bs.length<=b;omega)] at hb';simp at hb'
    exact ⟨l',by rw [hat b this];exact c1,c2⟩
def ymy (keep:List Nat) (n:Nat) (I:Nat->(Nat->T)->List Box->Prop) (m0:Nat) (h':Nat->T) (S':TS):Prop :=
  ∃ m,m<m0/\∃ bs',S'=stL bs'/\n<=bs'.length/\zdm n (bs'.take n)=true/\zfe keep n h'/\I m (zh4 keep h') (bs'.take n)
theorem TW.loopT {b:Code} (keep:List Nat) (I:Nat->(Nat->T)->List Box->Prop) (hb:∀ m h bs,I m h bs->TW P Γ GL N b h (stL bs) (onT (fun h' S'=>ymy keep bs.length I m h' S') Q)):∀ m h bs,I m h bs->TW P Γ GL N (.loop b) h (stL bs) Q:=by
  intro m
  induction m using Nat.strongRecOn with
  |_ m ih =>
    intro h bs hI A β fr s hF hT;obtain ⟨e,fr1,s1,h1,h',S',hleft,hq⟩:=hb m h bs hI A β fr s hF hT
    cases e with
    |normal =>
      obtain ⟨m2,hm,bs',rfl,hl,hbi,hki,hI'⟩:=hq;have hl2:=Left.trim (fr:=fr) (keep:=keep) (bs2:=bs'.take bs.length) (extra:=bs'.drop bs.length) hT (by rw [ip];exact hleft) (by rw [gq];omega) hbi hki;obtain ⟨A',β',k1,k2,k3⟩:=hl2;obtain ⟨e2,fr2,s2,h3,h2,S2,l2,q2⟩:=ih m2 hm _ _ hI' A' β' fr1 s1 k1 k2;exact ⟨e2,fr2,s2,Ev.again h1 h3,h2,S2,Left.trans (h':=h) (fr':=fr) hT.le k3 l2,q2⟩
    |_=>exact ⟨_,_,_,Ev.last h1 (by simp),h',S',hleft,hq⟩
def Ends (keep:List Nat) (n:Nat) (R:(Nat->T)->List Box->Prop) (h':Nat->T) (S':TS):Prop :=
  ∃ bs',S'=stL bs'/\n<=bs'.length/\zdm n (bs'.take n)=true/\zfe keep n h'/\R (zh4 keep h') (bs'.take n)
theorem TRel.freezeP (hT:TRel GL A β S s) {b M:Nat} {z:Bool} {l:List T} (hS:S.box b=.cells z M l) :
    ∃ A' β',TRel GL A' β' (S.set b .gone) s/\Stp A β s A' β' s/\∀ {v:Value},VT A β (zaa s.obj) (.ptr b 0 M) v->VT A' β' (zaa s.obj) (.cp l) v:=by
  obtain ⟨hlN,hc⟩:=hT.cells b z M l hS;rcases hc with ⟨hb,hN,_⟩|⟨f,u,cs,rest,hb,hz,hat,hvl,hone⟩
  . obtain ⟨k1,k2⟩:=hT.dead hb A (fun _ h=>h) (fun _ h=>.inl h);refine ⟨_,_,k1,k2,fun {v} hv=>?_⟩;obtain ⟨f,u,rfl,hb'⟩:=zjh hT hS hv;rw [hb] at hb';simp at hb'
  . obtain ⟨k1,k2⟩:=hT.dead hb (fun k=>A k\/k=f) (fun _ h=>.inl h) (fun k hk=>hk.imp id fun q=>by rw [q];rfl);refine ⟨_,_,k1,k2,fun {v} hv=>?_⟩;obtain ⟨f',u',rfl,hb'⟩:=zjh hT hS hv;rw [hb] at hb';cases hb'
    have hrow:zbm (zaa s.obj f).rows u=some cs:=by
      rw [hat];show zbm ((u,cs) :: rest) u=some cs;unfold zbm;rw [ij];rfl
    exact .cp (.inr rfl) hrow (hvl.mono (fun _ h=>.inl h) (fun _ _=>rfl) k2.bx) (by rw [ge,me])
theorem TW.freezeP {c:Code} (t:Nat) {b M:Nat} {z:Bool} {l:List T} (ht:h t=.ptr b 0 M) (hS:S.box b=.cells z M l) (k:TW P Γ GL N c (tupd h t (.cp l)) (S.set b .gone) Q):TW P Γ GL N c h S Q:=by
  intro A β fr s hF hT;obtain ⟨A',β',k1,k2,k3⟩:=hT.freezeP hS;have hv:=hF.slot t;rw [ht] at hv
  have hF':FrOk A' β' (zaa s.obj) N (tupd h t (.cp l)) fr:=⟨hF.nt,hF.le,fun u=>by
    by_cases hu:u=t
    . subst hu;rw [zgn];exact k3 hv
    . rw [zkh _ _ _ _ hu];exact k2.vt hT (hF.slot u)⟩
  refine (k A' β' fr s hF' k1).mono ?_;rintro e2 fr2 s2 ⟨h2,S2,l2,q2⟩;exact ⟨h2,S2,Left.trans (h':=h) (fr':=fr) hT.le k2 l2,q2⟩
theorem TW.cut {a:Code} {k:(Nat->T)->TS->Prop} (keep:List Nat) {bs:List Box} (R:(Nat->T)->List Box->Prop) (hR:TW P Γ GL N a h (stL bs) fun e h' S'=>e=.normal/\Ends keep bs.length R h' S') (hk:∀ h bs2,R h bs2->k h (stL bs2)):TW P Γ GL N a h (stL bs) (onT k Q):=by
  intro A β fr s hF hT;obtain ⟨e,fr1,s1,h1,h',S',hleft,rfl,bs',rfl,hl,hbi,hki,hq⟩:=hR A β fr s hF hT;exact ⟨_,fr1,s1,h1,_,_,Left.trim (fr:=fr) (keep:=keep) (bs2:=bs'.take bs.length) (extra:=bs'.drop bs.length) hT (by rw [ip];exact hleft) (by rw [gq];omega) hbi hki,hk _ _ hq⟩
end
theorem zq9 {k:gu} {n:Int}:mv (eo k n)=true:=fj rfl rfl
theorem z6q {k:gu} {n:Int}:iq (eo k n)=[(eo k n)]:=fj rfl rfl
theorem zoi {b:Bool}:mv (rv b)=true:=fj rfl rfl
theorem z1j {b:Bool}:iq (rv b)=[(rv b)]:=fj rfl rfl
theorem zq7 {b:ByteArray}:mv (oy b)=true:=fj rfl rfl
theorem z6n {b:ByteArray}:iq (oy b)=[(oy b)]:=fj rfl rfl
theorem zq8 {e:Nat} {l:List T}:mv (T.lst e l)=true:=fj rfl rfl
theorem z6p {e:Nat} {l:List T}:iq (T.lst e l)=[(T.lst e l)]:=fj rfl rfl
theorem zzq  : mv (T.nils)=true:=fj rfl rfl
theorem z1d  : iq (T.nils)=[(T.nils)]:=fj rfl rfl
theorem zzr  : mv (T.nilp)=true:=fj rfl rfl
theorem z1e  : iq (T.nilp)=[(T.nilp)]:=fj rfl rfl
theorem zzs  : mv (T.nilm)=true:=fj rfl rfl
theorem z1f  : iq (T.nilm)=[(T.nilm)]:=fj rfl rfl
theorem zzt  : mv (T.nilf)=true:=fj rfl rfl
theorem z1g  : iq (T.nilf)=[(T.nilf)]:=fj rfl rfl
theorem z41 {b o n:Nat}:mv (T.ptr b o n)=true:=fj rfl rfl
theorem z6o {b o n:Nat}:iq (T.ptr b o n)=[(T.ptr b o n)]:=fj rfl rfl
theorem yaw {l:List T}:mv (T.cp l)=true:=fj rfl rfl
theorem ycy {l:List T}:iq (T.cp l)=[(T.cp l)]:=fj rfl rfl
theorem z43 {b e o l c n:Nat}:mv (T.arr b e o l c n)=true:=fj rfl rfl
theorem z6s {b e o l c n:Nat}:iq (T.arr b e o l c n)=[(T.arr b e o l c n)]:=fj rfl rfl
theorem yau {b:Nat}:mv (T.mp b)=true:=fj rfl rfl
theorem ycw {b:Nat}:iq (T.mp b)=[(T.mp b)]:=fj rfl rfl
theorem yav {f:Nat} {a c:List T}:mv (T.fn f a c)=true:=fj rfl rfl
theorem ycx {f:Nat} {a c:List T}:iq (T.fn f a c)=[(T.fn f a c)]:=fj rfl rfl
theorem z42 {e:Nat}:mv (T.emp e)=true:=fj rfl rfl
theorem z6r {e:Nat}:iq (T.emp e)=[(T.emp e)]:=fj rfl rfl
theorem yiy {k:gu}:aggT (.int k)=false:=fj rfl rfl
theorem yiz  : aggT .bool=false:=fj rfl rfl
theorem yiu  : aggT .string=false:=fj rfl rfl
theorem yix {k:fw}:aggT (.slice k)=false:=fj rfl rfl
theorem yiv {k:fw}:aggT (.pointer k)=false:=fj rfl rfl
theorem yiw {k k2:fw}:aggT (.map k k2)=false:=fj rfl rfl
theorem b0:type_of% (eh (eh (eh (eh (eh (@z96) (@z97)) (eh (@zzc) (@zr8))) (eh (eh (@zr7) (@z4j)) (eh (@ya0) (@ygv)))) (eh (eh (eh (@yax) (@z6x)) (eh (@z98) (@z99))) (eh (eh (@zzd) (@zsa)) (eh (@zr9) (@z4l))))) (eh (eh (eh (eh (@z48) (@yay)) (eh (@z44) (@z1k))) (eh (eh (@z8u) (@z8v)) (eh (@z8x) (@z8y)))) (eh (eh (eh (@z8w) (@zu0)) (eh (@zu1) (@yca))) (eh (eh (@z5w) (@zyt)) (eh (@zur) (@z0c)))))):=eh (eh (eh (eh (eh (@z96) (@z97)) (eh (@zzc) (@zr8))) (eh (eh (@zr7) (@z4j)) (eh (@ya0) (@ygv)))) (eh (eh (eh (@yax) (@z6x)) (eh (@z98) (@z99))) (eh (eh (@zzd) (@zsa)) (eh (@zr9) (@z4l))))) (eh (eh (eh (eh (@z48) (@yay)) (eh (@z44) (@z1k))) (eh (eh (@z8u) (@z8v)) (eh (@z8x) (@z8y)))) (eh (eh (eh (@z8w) (@zu0)) (eh (@zu1) (@yca))) (eh (eh (@z5w) (@zyt)) (eh (@zur) (@z0c)))))
theorem b1:type_of% (eh (eh (eh (eh (eh (@zvu) (@z6t)) (eh (@z6v) (@yan))) (eh (eh (@yao) (@zo5)) (eh (@zid) (@ych)))) (eh (eh (eh (@z0z) (@ygx)) (eh (@zkv) (@ygw))) (eh (eh (@ybk) (@ybl)) (eh (@ybm) (@ybn))))) (eh (eh (eh (eh (@zum) (@zun)) (eh (@yb2) (@z0l))) (eh (eh (@yb1) (@z5t)) (eh (@yg4) (@z5s)))) (eh (eh (eh (@zb6) (@yb3)) (eh (@z5o) (@zs5))) (eh (eh (@yg5) (@yl9)) (eh (@yb4) (@yg3)))))):=eh (eh (eh (eh (eh (@zvu) (@z6t)) (eh (@z6v) (@yan))) (eh (eh (@yao) (@zo5)) (eh (@zid) (@ych)))) (eh (eh (eh (@z0z) (@ygx)) (eh (@zkv) (@ygw))) (eh (eh (@ybk) (@ybl)) (eh (@ybm) (@ybn))))) (eh (eh (eh (eh (@zum) (@zun)) (eh (@yb2) (@z0l))) (eh (eh (@yb1) (@z5t)) (eh (@yg4) (@z5s)))) (eh (eh (eh (@zb6) (@yb3)) (eh (@z5o) (@zs5))) (eh (eh (@yg5) (@yl9)) (eh (@yb4) (@yg3)))))
theorem b2:type_of% (eh (eh (eh (eh (eh (@zs6) (@zqk)) (eh (@z5p) (@zqm))) (eh (eh (@z5r) (@zql)) (eh (@z5q) (@zv8)))) (eh (eh (eh (@zv9) (@z9z)) (eh (@zfy) (@zy8))) (eh (eh (@zza) (@z90)) (eh (@z94) (@zfy))))) (eh (eh (eh (eh (@zfy) (@zfy)) (eh (@zfy) (@zqd))) (eh (eh (@zqf) (@zfy)) (eh (@zfy) (@zqc)))) (eh (eh (eh (@zqe) (@z4d)) (eh (@z4h) (@zu7))) (eh (eh (@zu8) (@yll)) (eh (@ylm) (@ygg)))))):=eh (eh (eh (eh (eh (@zs6) (@zqk)) (eh (@z5p) (@zqm))) (eh (eh (@z5r) (@zql)) (eh (@z5q) (@zv8)))) (eh (eh (eh (@zv9) (@z9z)) (eh (@zfy) (@zy8))) (eh (eh (@zza) (@z90)) (eh (@z94) (@zfy))))) (eh (eh (eh (eh (@zfy) (@zfy)) (eh (@zfy) (@zqd))) (eh (eh (@zqf) (@zfy)) (eh (@zfy) (@zqc)))) (eh (eh (eh (@zqe) (@z4d)) (eh (@z4h) (@zu7))) (eh (eh (@zu8) (@yll)) (eh (@ylm) (@ygg)))))
theorem b3:type_of% (eh (eh (eh (eh (eh (@ygi) (@z4e)) (eh (@z4i) (@z4c))) (eh (eh (@z4g) (@zr4)) (eh (@zr5) (@z9y)))) (eh (eh (eh (@z2d) (@z91)) (eh (@z95) (@zad))) (eh (eh (@zal) (@yge)) (eh (@ygh) (@ygc))))) (eh (eh (eh (eh (@z92) (@ygd)) (eh (@z93) (@z4f))) (eh (eh (@ygf) (@z4b)) (eh (@zqb) (@zy9)))) (eh (eh (eh (@zfy) (@yal)) (eh (@yam) (@z5a))) (eh (eh (@z5b) (@yf7)) (eh (@yf6) (@yga)))))):=eh (eh (eh (eh (eh (@ygi) (@z4e)) (eh (@z4i) (@z4c))) (eh (eh (@z4g) (@zr4)) (eh (@zr5) (@z9y)))) (eh (eh (eh (@z2d) (@z91)) (eh (@z95) (@zad))) (eh (eh (@zal) (@yge)) (eh (@ygh) (@ygc))))) (eh (eh (eh (eh (@z92) (@ygd)) (eh (@z93) (@z4f))) (eh (eh (@ygf) (@z4b)) (eh (@zqb) (@zy9)))) (eh (eh (eh (@zfy) (@yal)) (eh (@yam) (@z5a))) (eh (eh (@z5b) (@yf7)) (eh (@yf6) (@yga)))))
theorem b4:type_of% (eh (eh (eh (eh (eh (@yf9) (@yf4)) (eh (@yf5) (@za7))) (eh (eh (@zvi) (@ya5)) (eh (@ya6) (@yae)))) (eh (eh (eh (@z4q) (@yjf)) (eh (@ylg) (@ylh))) (eh (eh (@yhe) (@yg6)) (eh (@yg8) (@yhd))))) (eh (eh (eh (eh (@yg7) (@yg9)) (eh (@yha) (@yhb))) (eh (eh (@yhc) (@zfh)) (eh (@zfg) (@zro)))) (eh (eh (eh (@st_n) (@yf8)) (eh (@zyy) (@ze2))) (eh (eh (@z0o) (@z0p)) (eh (@cond_true.{1}) (@cond_false.{1})))))):=eh (eh (eh (eh (eh (@yf9) (@yf4)) (eh (@yf5) (@za7))) (eh (eh (@zvi) (@ya5)) (eh (@ya6) (@yae)))) (eh (eh (eh (@z4q) (@yjf)) (eh (@ylg) (@ylh))) (eh (eh (@yhe) (@yg6)) (eh (@yg8) (@yhd))))) (eh (eh (eh (eh (@yg7) (@yg9)) (eh (@yha) (@yhb))) (eh (eh (@yhc) (@zfh)) (eh (@zfg) (@zro)))) (eh (eh (eh (@st_n) (@yf8)) (eh (@zyy) (@ze2))) (eh (eh (@z0o) (@z0p)) (eh (@cond_true.{1}) (@cond_false.{1})))))
theorem b5:type_of% (eh (eh (eh (eh (eh (@List.toList_toArray.{0}) (@ic.{0,0})) (eh (@ov.{0,0}) (@fq.{0}))) (eh (eh (@iu.{0}) (@fc.{0,0})) (eh (@gc.{0}) (@ki.{0})))) (eh (eh (eh (@ko.{0,0}) (@n5.{0,0})) (eh (@Option.map_none.{0,0}) (@ft.{0}))) (eh (eh (@f6.{0}) (@gn.{0})) (eh (@i9.{0}) (@List.all_nil.{0}))))) (eh (eh (eh (eh (@ge.{0}) (@jw.{0})) (eh (@m5.{0}) (@mo.{0}))) (eh (eh (@kb.{0}) (@lc.{0})) (eh (@nj) (@ji)))) (eh (eh (eh (@fm) (@gw)) (eh (@Bool.not_false) (@Bool.false_and))) (eh (eh (@Bool.and_false) (@zgm)) (eh (@z60) (@zg9)))))):=eh (eh (eh (eh (eh (@List.toList_toArray.{0}) (@ic.{0,0})) (eh (@ov.{0,0}) (@fq.{0}))) (eh (eh (@iu.{0}) (@fc.{0,0})) (eh (@gc.{0}) (@ki.{0})))) (eh (eh (eh (@ko.{0,0}) (@n5.{0,0})) (eh (@Option.map_none.{0,0}) (@ft.{0}))) (eh (eh (@f6.{0}) (@gn.{0})) (eh (@i9.{0}) (@List.all_nil.{0}))))) (eh (eh (eh (eh (@ge.{0}) (@jw.{0})) (eh (@m5.{0}) (@mo.{0}))) (eh (eh (@kb.{0}) (@lc.{0})) (eh (@nj) (@ji)))) (eh (eh (eh (@fm) (@gw)) (eh (@Bool.not_false) (@Bool.false_and))) (eh (eh (@Bool.and_false) (@zgm)) (eh (@z60) (@zg9)))))
theorem b6:type_of% (eh (eh (eh (eh (eh (@ij) (@i5)) (eh (@ig) (@jc))) (eh (eh (@py) (@kh.{0})) (eh (@ownD.eq_1) (@ownD.eq_2)))) (eh (eh (eh (@has.eq_1) (@has.eq_2)) (eh (@tLen.eq_1) (@zrt.eq_1))) (eh (eh (@zrt.eq_2) (@zuv.eq_1)) (eh (@z2q.eq_1) (@tBox.eq_1))))) (eh (eh (eh (eh (@zux.eq_1) (@zft.eq_1)) (eh (@zft.eq_2) (@zke.eq_1))) (eh (eh (@zke.eq_2) (@zke.eq_3)) (eh (@zke.eq_4) (@zke.eq_5)))) (eh (eh (eh (@zke.eq_6) (@zke.eq_7)) (eh (@zha.eq_1) (@zru.eq_1))) (eh (eh (@zki.eq_1) (@zjv.eq_1)) (eh (@zjv.eq_2) (@zjv.eq_3)))))):=eh (eh (eh (eh (eh (@ij) (@i5)) (eh (@ig) (@jc))) (eh (eh (@py) (@kh.{0})) (eh (@ownD.eq_1) (@ownD.eq_2)))) (eh (eh (eh (@has.eq_1) (@has.eq_2)) (eh (@tLen.eq_1) (@zrt.eq_1))) (eh (eh (@zrt.eq_2) (@zuv.eq_1)) (eh (@z2q.eq_1) (@tBox.eq_1))))) (eh (eh (eh (eh (@zux.eq_1) (@zft.eq_1)) (eh (@zft.eq_2) (@zke.eq_1))) (eh (eh (@zke.eq_2) (@zke.eq_3)) (eh (@zke.eq_4) (@zke.eq_5)))) (eh (eh (eh (@zke.eq_6) (@zke.eq_7)) (eh (@zha.eq_1) (@zru.eq_1))) (eh (eh (@zki.eq_1) (@zjv.eq_1)) (eh (@zjv.eq_2) (@zjv.eq_3)))))
theorem b7:type_of% (eh (eh (eh (eh (eh (@zrs.eq_1) (@zp7.eq_1)) (eh (@TS.has.eq_1) (@zig.eq_1))) (eh (eh (@aggT.eq_1) (@aggT.eq_2)) (eh (@yiy) (@yiz)))) (eh (eh (eh (@yiu) (@yix)) (eh (@yiv) (@yiw))) (eh (eh (@iq.eq_1) (@mv.eq_1)) (eh (@mv.eq_2) (@mv.eq_3))))) (eh (eh (eh (eh (@zq9) (@z6q)) (eh (@zoi) (@z1j))) (eh (eh (@zq7) (@z6n)) (eh (@zq8) (@z6p)))) (eh (eh (eh (@zzq) (@z1d)) (eh (@zzr) (@z1e))) (eh (eh (@zzs) (@z1f)) (eh (@zzt) (@z1g)))))):=eh (eh (eh (eh (eh (@zrs.eq_1) (@zp7.eq_1)) (eh (@TS.has.eq_1) (@zig.eq_1))) (eh (eh (@aggT.eq_1) (@aggT.eq_2)) (eh (@yiy) (@yiz)))) (eh (eh (eh (@yiu) (@yix)) (eh (@yiv) (@yiw))) (eh (eh (@iq.eq_1) (@mv.eq_1)) (eh (@mv.eq_2) (@mv.eq_3))))) (eh (eh (eh (eh (@zq9) (@z6q)) (eh (@zoi) (@z1j))) (eh (eh (@zq7) (@z6n)) (eh (@zq8) (@z6p)))) (eh (eh (eh (@zzq) (@z1d)) (eh (@zzr) (@z1e))) (eh (eh (@zzs) (@z1f)) (eh (@zzt) (@z1g)))))
theorem b8:type_of% (eh (eh (eh (@z41) (eh (@z6o) (@yaw))) (eh (@ycy) (eh (@z43) (@z6s)))) (eh (eh (@yau) (eh (@ycw) (@yav))) (eh (@ycx) (eh (@z42) (@z6r))))):=eh (eh (eh (@z41) (eh (@z6o) (@yaw))) (eh (@ycy) (eh (@z43) (@z6s)))) (eh (eh (@yau) (eh (@ycw) (@yav))) (eh (@ycx) (eh (@z42) (@z6r))))
theorem apA:type_of% (eh (eh (eh (@zle.eq_1) (@zwq)) (eh (@zh2) (eh (@ztq) (@Bool.or_false)))) (eh (eh (@Bool.or_self) (@im.{0,0})) (eh (@List.flatMap_nil.{0,0}) (eh (@i8) (@mq))))):=eh (eh (eh (@zle.eq_1) (@zwq)) (eh (@zh2) (eh (@ztq) (@Bool.or_false)))) (eh (eh (@Bool.or_self) (@im.{0,0})) (eh (@List.flatMap_nil.{0,0}) (eh (@i8) (@mq))))
theorem apB:type_of% (eh (eh (@zcy.eq_1) (@zcy.eq_2)) (eh (@zai.eq_1) (eh (@zad) (@zal)))):=eh (eh (@zcy.eq_1) (@zcy.eq_2)) (eh (@zai.eq_1) (eh (@zad) (@zal)))
theorem lzA:type_of% (eh (@fq.{0}) (eh (@iu.{0}) (@ig))):=eh (@fq.{0}) (eh (@iu.{0}) (@ig))
mutual
def T.ren (ρ:Nat->Nat):T->T
  |.agg l=>.agg (T.renL ρ l)
  |.tup l=>.tup (T.renL ρ l)
  |.lst e l=>.lst e (T.renL ρ l)
  |.cp l=>.cp (T.renL ρ l)
  |.ptr b o N=>.ptr (ρ b) o N
  |.arr b e o l c N=>.arr (ρ b) e o l c N
  |.mp b=>.mp (ρ b)
  |.fn f a c=>.fn f (T.renL ρ a) (T.renL ρ c)
  |.int k n=>.int k n
  |.bool b=>.bool b
  |.str b=>.str b
  |.nils=>.nils
  |.nilp=>.nilp
  |.nilm=>.nilm
  |.nilf=>.nilf
  |.junk=>.junk
  |.emp e=>.emp e
def T.renL (ρ:Nat->Nat):List T->List T
  |[]=>[]
  |t :: l=>t.ren ρ :: T.renL ρ l
end
def zec (ρ:Nat->Nat):Box->Box
  |.gone=>.gone
  |.cells z N l=>.cells z N (T.renL ρ l)
  |.map l=>.map (l.map fun p=>(p.1.ren ρ,p.2.ren ρ))
section
variable {GL:List (Nat×List Value)} {A A' A1:Nat->Prop} {β β' β0 β1:Bx} {S S' S0 S1:TS} {s s' s1:CS} {P:fx} {Γ:Env} {g g':Nat->Fam} {ρ:Nat->Nat} {n:Nat}
theorem zkr:∀ (l:List T),T.renL ρ l=l.map (T.ren ρ)
  |[]=>rfl
  |t :: l=>by rw [T.renL,ic,zkr l]
theorem zi6 (l:List T):(T.renL ρ l).length=l.length:=by rw [zkr,fc]
theorem z2k (l m:List T):T.renL ρ (l++m)=T.renL ρ l++T.renL ρ m:=by simp only [zkr,my]
theorem zsc (t:T):(t.ren ρ).cells=T.renL ρ t.cells:=by
  cases t<;>simp only [T.ren,iq,T.renL]
theorem zxl:∀ (l:List T),(T.renL ρ l).flatMap iq=T.renL ρ (l.flatMap iq)
  |[]=>rfl
  |t :: l=>by rw [T.renL,im,im,zsc,zxl l,z2k]
theorem yb0:∀ {l:List T},T.idsL n l=true->∀ t,t∈l->t.ids n=true
  |[],_,t,h=>by simp at h
  |x :: l,h,t,ht=>by
    simp only [T.idsL,ep] at h;rcases List.mem_cons.1 ht with rfl|ht
    . exact h.1
    . exact yb0 h.2 t ht
mutual
theorem VT.up (hβ:∀ b,b<n->β' (ρ b)=β b):∀ {t:T} {v:Value},t.ids n=true->VT A β g t v->VT A β' g (t.ren ρ) v
  |_,_,_,.int k n=>.int k n
  |_,_,_,.bool b=>.bool b
  |_,_,_,.str b=>.str b
  |_,_,hi,.agg h=>.agg (VL.up hβ hi h)
  |_,_,hi,.tup h=>.tup (VL.up hβ hi h)
  |_,_,_,.lnil=>.lnil
  |.lst e l,_,hi,.lst h1 h2 h3 h4 h5 h6 h7 h8=>by
    have q:=VL.up hβ (zkb hi) h3;rw [<- zxl] at q;have:=VT.lst (l:=T.renL ρ l) h1 h2 q (fun t ht=>by rw [zkr] at ht;obtain ⟨x,hx,rfl⟩:=i6.1 ht;rw [zsc,zi6];exact h4 x hx) h5 h6 h7 (by rw [zi6];exact h8);rw [zi6] at this;exact this
  |_,_,_,.nils=>.nils
  |_,_,_,.nilp=>.nilp
  |_,_,_,.nilm=>.nilm
  |_,_,_,.nilf=>.nilf
  |_,_,hi,.ptr h=>.ptr (by rw [hβ _ (zab.1 hi)];exact h)
  |_,_,hi,.ptrOld h h0 h1 h2=>.ptrOld (by rw [hβ _ (zab.1 hi)];exact h) h0 h1 h2
  |_,_,hi,.cp h1 h2 h3 h4=>.cp h1 h2 (VL.up hβ hi h3) h4
  |_,_,hi,.arr h ht=>.arr (by rw [hβ _ (zab.1 hi)];exact h) ht
  |_,_,hi,.arrNil h=>.arrNil (by rw [hβ _ (zab.1 hi)];exact h)
  |_,_,hi,.arrOld h h0 h1 h2=>.arrOld (by rw [hβ _ (zab.1 hi)];exact h) h0 h1 h2
  |_,_,hi,.mp h=>.mp (by rw [hβ _ (zab.1 hi)];exact h)
  |_,_,hi,.mpOld h h2=>.mpOld (by rw [hβ _ (zab.1 hi)];exact h) h2
  |_,_,hi,.fn h1 h2=>by
    simp only [T.ids,ep] at hi;exact .fn (VL.up hβ hi.1 h1) (VL.up hβ hi.2 h2)
  |_,_,_,.junk v=>.junk v
  |_,_,_,.emp h1 h2 h3 h4=>.emp h1 h2 h3 h4
theorem VL.up (hβ:∀ b,b<n->β' (ρ b)=β b):∀ {l:List T} {vs:List Value},T.idsL n l=true->VL A β g l vs->VL A β' g (T.renL ρ l) vs
  |_,_,_,.nil=>.nil
  |_,_,hi,.cons h k=>by
    simp only [T.idsL,ep] at hi;exact .cons (VT.up hβ hi.1 h) (VL.up hβ hi.2 k)
end
mutual
theorem VT.down (hβ:∀ b,b<n->β' b=β (ρ b)):∀ {t':T} {v:Value},VT A β g t' v->∀ {t:T},t.ren ρ=t'->t.ids n=true->VT A β' g t v
  |_,_,.int k m,t,e,hi=>by
    cases t<;>simp [T.ren] at e;obtain ⟨rfl,rfl⟩:=e;exact .int _ _
  |_,_,.bool b,t,e,hi=>by
    cases t<;>simp [T.ren] at e;subst e;exact .bool _
  |_,_,.str b,t,e,hi=>by
    cases t<;>simp [T.ren] at e;subst e;exact .str _
  |_,_,.agg h,t,e,hi=>by
    cases t<;>simp [T.ren] at e;exact .agg (VL.down hβ h e hi)
  |_,_,.tup h,t,e,hi=>by
    cases t<;>simp [T.ren] at e;exact .tup (VL.down hβ h e hi)
  |_,_,.lnil,t,e,hi=>by
    cases t<;>simp [T.ren] at e;rename_i e' l;obtain ⟨rfl,e⟩:=e
    cases l with
    |nil=>exact .lnil
    |cons x l=>simp [T.renL] at e
  |_,_,.lst (l:=l') h1 h2 h3 h4 h5 h6 h7 h8,t,e,hi=>by
    cases t<;>simp [T.ren] at e;rename_i e' l;have q:=VL.down hβ h3 (l:=l.flatMap iq) (by rw [<- e.2];exact (zxl l).symm) (zkb hi);obtain ⟨rfl,rfl⟩:=e;have:=VT.lst (l:=l) h1 h2 q (fun t ht=>by have:=h4 (t.ren ρ) (by rw [zkr];exact List.mem_map_of_mem ht);rw [zsc,zi6] at this;exact this) h5 h6 h7 (by rw [zi6] at h8;exact h8);rw [zi6];exact this
  |_,_,.nils,t,e,hi=>by cases t<;>simp [T.ren] at e;exact .nils
  |_,_,.nilp,t,e,hi=>by cases t<;>simp [T.ren] at e;exact .nilp
  |_,_,.nilm,t,e,hi=>by cases t<;>simp [T.ren] at e;exact .nilm
  |_,_,.nilf,t,e,hi=>by cases t<;>simp [T.ren] at e;exact .nilf
  |_,_,.ptr h,t,e,hi=>by
    cases t<;>simp [T.ren] at e;obtain ⟨rfl,rfl,rfl⟩:=e;exact .ptr (by rw [hβ _ (zab.1 hi)];exact h)
  |_,_,.ptrOld h h0 h1 h2,t,e,hi=>by
    cases t<;>simp [T.ren] at e;obtain ⟨rfl,rfl,rfl⟩:=e;exact .ptrOld (by rw [hβ _ (zab.1 hi)];exact h) h0 h1 h2
  |_,_,.cp h1 h2 h3 h4,t,e,hi=>by
    cases t<;>simp [T.ren] at e;exact .cp h1 h2 (VL.down hβ h3 e hi) h4
  |_,_,.arr h ht,t,e,hi=>by
    cases t<;>simp [T.ren] at e;obtain ⟨rfl,rfl,rfl,rfl,rfl,rfl⟩:=e;exact .arr (by rw [hβ _ (zab.1 hi)];exact h) ht
  |_,_,.arrNil h,t,e,hi=>by
    cases t<;>simp [T.ren] at e;obtain ⟨rfl,rfl,rfl,rfl,rfl,rfl⟩:=e;exact .arrNil (by rw [hβ _ (zab.1 hi)];exact h)
  |_,_,.arrOld h h0 h1 h2,t,e,hi=>by
    cases t<;>simp [T.ren] at e;obtain ⟨rfl,rfl,rfl,rfl,rfl,rfl⟩:=e;exact .arrOld (by rw [hβ _ (zab.1 hi)];exact h) h0 h1 h2
  |_,_,.mp h,t,e,hi=>by
    cases t<;>simp [T.ren] at e;subst e;exact .mp (by rw [hβ _ (zab.1 hi)];exact h)
  |_,_,.mpOld h h2,t,e,hi=>by
    cases t<;>simp [T.ren] at e;subst e;exact .mpOld (by rw [hβ _ (zab.1 hi)];exact h) h2
  |_,_,.fn h1 h2,t,e,hi=>by
    cases t<;>simp [T.ren] at e;obtain ⟨rfl,e1,e2⟩:=e;simp only [T.ids,ep] at hi;exact .fn (VL.down hβ h1 e1 hi.1) (VL.down hβ h2 e2 hi.2)
  |_,_,.junk v,t,e,hi=>by cases t<;>simp [T.ren] at e;exact .junk _
  |_,_,.emp h1 h2 h3 h4,t,e,hi=>by
    cases t<;>simp [T.ren] at e;subst e;exact .emp h1 h2 h3 h4
theorem VL.down (hβ:∀ b,b<n->β' b=β (ρ b)):∀ {l':List T} {vs:List Value},VL A β g l' vs->∀ {l:List T},T.renL ρ l=l'->T.idsL n l=true->VL A β' g l vs
  |_,_,.nil,l,e,hi=>by
    cases l with
    |nil=>exact .nil
    |cons x l=>simp [T.renL] at e
  |_,_,.cons h k,l,e,hi=>by
    cases l with
    |nil=>simp [T.renL] at e
    |cons x l =>
      simp only [T.renL,List.cons.injEq] at e;simp only [T.idsL,ep] at hi;exact .cons (VT.down hβ h e.1 hi.1) (VL.down hβ k e.2 hi.2)
end
structure Fits (ρ:Nat->Nat) (S0 S1 S S':TS):Prop where
  le:S0.n<=S1.n
  out:∀ b,S0.n<=b->S0.box b=.gone
  old:∀ i,i<S0.n->ρ i<S.n
  new:∀ i,S0.n<=i->i<S1.n->S.n<=ρ i
  top:∀ i,i<S1.n->ρ i<S'.n
  grow:S.n<=S'.n
  inj:∀ i j,i<S1.n->j<S1.n->ρ i=ρ j->i=j
  pre:∀ i,i<S0.n->S.box (ρ i)=zec ρ (S0.box i)/\zg0 S0.n (S0.box i)=true
  post:∀ i,i<S1.n->S'.box (ρ i)=zec ρ (S1.box i)/\zg0 S1.n (S1.box i)=true
  rest:∀ b,(∀ i,i<S1.n->ρ i≠b)->S'.box b=S.box b
open Classical in
def bmix (ρ:Nat->Nat) (m:Nat) (β1 β:Bx):Bx:=fun b=>if h:∃ i,i<m/\ρ i=b then β1 (Classical.choose h) else β b
theorem ykq {m i:Nat} (hinj:∀ i j,i<m->j<m->ρ i=ρ j->i=j) (hi:i<m):bmix ρ m β1 β (ρ i)=β1 i:=by
  unfold bmix;have h:∃ j,j<m/\ρ j=ρ i:=⟨i,hi,rfl⟩;rw [dif_pos h];have:=Classical.choose_spec h;rw [hinj _ _ this.1 hi this.2]
theorem zie {m b:Nat} (h:∀ i,i<m->ρ i≠b):bmix ρ m β1 β b=β b:=by
  unfold bmix;rw [dif_neg (fun ⟨i,h1,h2⟩=>h i h1 h2)]
theorem z4o (l:List (T×T)):(l.map fun p=>(p.1.ren ρ,p.2.ren ρ)).map (·.1)=T.renL ρ (l.map (·.1)):=by
  rw [zkr,qp,qp];rfl
theorem z4n (l:List (T×T)):(l.map fun p=>(p.1.ren ρ,p.2.ren ρ)).map (·.2)=T.renL ρ (l.map (·.2)):=by
  rw [zkr,qp,qp];rfl
theorem Call.frame {f:lp} {args:List T} {v:T} (k:Call P Γ GL f args S0 v S1) (ha:T.idsL S0.n args=true) (hv:v.ids S1.n=true) (F:Fits ρ S0 S1 S S'):Call P Γ GL f (T.renL ρ args) S (v.ren ρ) S':=by
  intro A β s vargs hT hva;have hb0:∀ b,b<S0.n->bcut (fun i=>β (ρ i)) S0.n b=β (ρ b):=fun b hb=>zAc hb
  have hb1:∀ b l,bcut (fun i=>β (ρ i)) S0.n b=some l->b<S0.n/\β (ρ b)=some l:=fun b l h=>by
    unfold bcut at h;split at h
    . rename_i hb;exact ⟨hb,h⟩
    . simp at h
  have hown:∀ f,Own (bcut (fun i=>β (ρ i)) S0.n) f->∃ i,i<S0.n/\((∃ u N,β (ρ i)=some (.live f u N))\/β (ρ i)=some (.map f)):=fun f ⟨b,hb⟩=>by
    rcases hb with ⟨u,N,hb⟩|hb
    . exact ⟨b,(hb1 _ _ hb).1,.inl ⟨u,N,(hb1 _ _ hb).2⟩⟩
    . exact ⟨b,(hb1 _ _ hb).1,.inr (hb1 _ _ hb).2⟩
  have hown2:∀ f,Own (bcut (fun i=>β (ρ i)) S0.n) f->Own β f:=fun f hf=>by
    obtain ⟨i,_,h⟩:=hown f hf;exact ⟨ρ i,h⟩
  have hT0:TRel GL A (bcut (fun i=>β (ρ i)) S0.n) S0 s:=by
    refine ⟨hT.inr,hT.inv,hT.alt,fun f hf=>hT.dis f (hown2 f hf),fun b b' l l' f h1 h2 h3 h4=>?_,fun b hb=>zAd (by omega),fun b z N l hb=>?_,fun b l hb=>?_,hT.glob⟩
    . obtain ⟨q1,q2⟩:=hb1 _ _ h1;obtain ⟨q3,q4⟩:=hb1 _ _ h2;exact F.inj b b' (by have:=F.le;omega) (by have:=F.le;omega) (hT.inj _ _ _ _ f q2 q4 h3 h4)
    . have hlt:b<S0.n:=by
        by_cases h:b<S0.n
        . exact h
        . rw [F.out b (by omega)] at hb;simp at hb
      obtain ⟨p1,p2⟩:=F.pre b hlt;rw [hb] at p1 p2;obtain ⟨c1,c2⟩:=hT.cells _ _ _ _ p1;refine ⟨by rw [zi6] at c1;exact c1,?_⟩;rcases c2 with ⟨d1,d2,d3⟩|⟨f,u,cs,rest,d1,d2,d3,d4,d5⟩
      . exact .inl ⟨by rw [hb0 b hlt];exact d1,d2,d3⟩
      . exact .inr ⟨f,u,cs,rest,by rw [hb0 b hlt];exact d1,d2,d3,VL.down hb0 d4 rfl p2,d5⟩
    . have hlt:b<S0.n:=by
        by_cases h:b<S0.n
        . exact h
        . rw [F.out b (by omega)] at hb;simp at hb
      obtain ⟨p1,p2⟩:=F.pre b hlt;rw [hb] at p1 p2;obtain ⟨r,es,c1,c2,c3,c4⟩:=hT.maps _ _ p1;simp only [zg0,ep] at p2;rw [z4o] at c3;rw [z4n] at c4;exact ⟨r,es,by rw [hb0 b hlt];exact c1,c2,VL.down hb0 c3 rfl p2.1,VL.down hb0 c4 rfl p2.2⟩
  obtain ⟨w,s1,A1,β1,e1,e2,e3,e4⟩:=k A _ s vargs hT0 (VL.down hb0 hva rfl ha);have hin:∀ i,i<S1.n->bmix ρ S1.n β1 β (ρ i)=β1 i:=fun i hi=>ykq F.inj hi
  have hcase:∀ b,(∃ i,i<S1.n/\ρ i=b)\/(∀ i,i<S1.n->ρ i≠b):=fun b=>by
    by_cases h:∃ i,i<S1.n/\ρ i=b
    . exact .inl h
    . exact .inr fun i hi hh=>h ⟨i,hi,hh⟩
  have hone:∀ i l,β1 i=some l->i<S1.n:=fun i l h=>by
    by_cases hh:i<S1.n
    . exact hh
    . rw [e2.next i (by omega)] at h;simp at h
  have apart:∀ b f,(∀ i,i<S1.n->ρ i≠b)->((∃ u N,β b=some (.live f u N))\/β b=some (.map f))->¬ Own (bcut (fun i=>β (ρ i)) S0.n) f:=fun b f hb hf ho=>by
    obtain ⟨j,hj,h⟩:=hown f ho
    have:ρ j=b:=by
      rcases h with ⟨u,N,h⟩|h<;>rcases hf with ⟨u',N',hf⟩|hf<;>exact hT.inj _ _ _ _ f h hf rfl rfl
    exact hb j (by have:=F.le;omega) this
  have hfamO:∀ b l f,β b=some l->l.fam=some f->((∃ u N,β b=some (.live f u N))\/β b=some (.map f)):=fun b l f h hl=>by
    cases l with
    |live f' u N=>simp [nv] at hl;subst hl;exact .inl ⟨u,N,h⟩
    |map r=>simp [nv] at hl;subst hl;exact .inr h
    |nil=>simp [nv] at hl
    |dead=>simp [nv] at hl
  have hfam1:∀ i l f,β1 i=some l->l.fam=some f->Own β1 f:=fun i l f h hl=>by
    cases l with
    |live f' u N=>simp [nv] at hl;subst hl;exact zcu h
    |map r=>simp [nv] at hl;subst hl;exact zlr h
    |nil=>simp [nv] at hl
    |dead=>simp [nv] at hl
  have hle:Bx.le β (bmix ρ S1.n β1 β):=fun b l hb=>by
    rcases hcase b with ⟨i,hi,rfl⟩|h
    . rw [hin i hi];by_cases hip:i<S0.n
      . exact e4.bx i l (by rw [hb0 i hip];exact hb)
      . rw [hT.next _ (F.new i (by omega) hi)] at hb;simp at hb
    . exact ⟨l,by rw [zie h];exact hb,Loc.le_refl l⟩
  have hkeep:∀ f,A f->zaa s1.obj f=zaa s.obj f:=fun f hf=>e4.keep f (hT.alt f hf) fun ho=>(hT.dis f (hown2 f ho)).2 hf
  have hmix:∀ f,Own (bmix ρ S1.n β1 β) f->Own β1 f\/∃ b,(∀ i,i<S1.n->ρ i≠b)/\((∃ u N,β b=some (.live f u N))\/β b=some (.map f)):=fun f ⟨b,hb⟩=>by
    rcases hcase b with ⟨i,hi,rfl⟩|h
    . rw [hin i hi] at hb;exact .inl ⟨i,hb⟩
    . rw [zie h] at hb;exact .inr ⟨b,h,hb⟩
  refine ⟨w,s1,A1,bmix ρ S1.n β1 β,e1,⟨e2.inr,e2.inv,e2.alt,fun f hf=>?_,fun b b' l l' f h1 h2 h3 h4=>?_,fun b hb=>?_,fun b z N l hb=>?_,fun b l hb=>?_,e2.glob⟩,VT.up hin hv e3,⟨e4.can,e4.sub,fun f hf=>(e4.new f hf).imp id (Or.imp id (hown2 f)),fun f hf=>?_,fun f hf ho=>e4.keep f hf fun h=>ho (hown2 f h),hle,fun x hx=>(e4.rd x hx).imp id (fun ⟨a,b⟩=>⟨a,b.imp id (hown2 x)⟩),fun x hx=>(e4.wr x hx).imp id (fun ⟨a,b⟩=>⟨a,hown2 x b⟩)⟩⟩
  . rcases hmix f hf with h|⟨b,hb,h⟩
    . exact e2.dis f h
    . have hd:=hT.dis f ⟨b,h⟩;refine ⟨gr hd.1 e4.can.n,fun hA=>?_⟩;rcases e4.new f hA with q|q|q
      . exact hd.2 q
      . have:=hd.1;omega
      . exact apart b f hb h q
  . have yeo:∀ i b l l',i<S1.n->(∀ i,i<S1.n->ρ i≠b)->β1 i=some l->β b=some l'->l.fam=some f->l'.fam=some f->False:=fun i b l l' hi hb q1 q2 q3 q4=>by
      have ho:=hfamO b l' f q2 q4;rcases e4.own f (hfam1 i l f q1 q3) with q|q
      . exact apart b f hb ho q
      . have:=(hT.dis f ⟨b,ho⟩).1;omega
    rcases hcase b with ⟨i,hi,rfl⟩|hb<;>rcases hcase b' with ⟨j,hj,rfl⟩|hb'
    . rw [hin i hi] at h1;rw [hin j hj] at h2;rw [e2.inj i j l l' f h1 h2 h3 h4]
    . rw [hin i hi] at h1;rw [zie hb'] at h2;exact (yeo i b' l l' hi hb' h1 h2 h3 h4).elim
    . rw [zie hb] at h1;rw [hin j hj] at h2;exact (yeo j b l' l hj hb h2 h1 h4 h3).elim
    . rw [zie hb] at h1;rw [zie hb'] at h2;exact hT.inj b b' l l' f h1 h2 h3 h4
  . rw [zie (fun i hi hh=>by have:=F.top i hi;omega)];exact hT.next b (by have:=F.grow;omega)
  . rcases hcase b with ⟨i,hi,rfl⟩|hbo
    . obtain ⟨p1,p2⟩:=F.post i hi;rw [hb] at p1
      cases hq:S1.box i with
      |gone=>rw [hq] at p1;simp [zec] at p1
      |map m=>rw [hq] at p1;simp [zec] at p1
      |cells z' N' l' =>
        rw [hq] at p1 p2;simp only [zec,Box.cells.injEq] at p1;obtain ⟨rfl,rfl,rfl⟩:=p1;obtain ⟨c1,c2⟩:=e2.cells _ _ _ _ hq;refine ⟨by rw [zi6];exact c1,?_⟩;rcases c2 with ⟨d1,d2,d3⟩|⟨f,u,cs,rest,d1,d2,d3,d4,d5⟩
        . exact .inl ⟨by rw [hin i hi];exact d1,d2,d3⟩
        . exact .inr ⟨f,u,cs,rest,by rw [hin i hi];exact d1,d2,d3,VL.up hin p2 d4,d5⟩
    . rw [F.rest b hbo] at hb;refine (hT.cells b z N l hb).mono e4.sub hkeep hle (zie hbo) fun f u N' hl=>?_;exact e4.keep f (hT.dis f (zcu hl)).1 (apart b f hbo (.inl ⟨u,N',hl⟩))
  . rcases hcase b with ⟨i,hi,rfl⟩|hbo
    . obtain ⟨p1,p2⟩:=F.post i hi;rw [hb] at p1
      cases hq:S1.box i with
      |gone=>rw [hq] at p1;simp [zec] at p1
      |cells z N m=>rw [hq] at p1;simp [zec] at p1
      |map m =>
        rw [hq] at p1 p2;simp only [zec,Box.map.injEq] at p1;subst p1;obtain ⟨r,es,c1,c2,c3,c4⟩:=e2.maps _ _ hq;simp only [zg0,ep] at p2;exact ⟨r,es,by rw [hin i hi];exact c1,c2,by rw [z4o];exact VL.up hin p2.1 c3,by rw [z4n];exact VL.up hin p2.2 c4⟩
    . rw [F.rest b hbo] at hb;refine (hT.maps b l hb).mono e4.sub hkeep hle (zie hbo) fun r hl=>?_;exact e4.keep r (hT.dis r (zlr hl)).1 (apart b r hbo (.inr hl))
  . rcases hmix f hf with h|⟨b,hb,h⟩
    . exact (e4.own f h).imp (hown2 f) id
    . exact .inl ⟨b,h⟩
end
theorem zae {α β:Type} {x:Option α} {f:α->Option β} {v:β} (h:x.bind f=some v):∃ a,x=some a/\f a=some v:=by
  cases x with
  |none=>cases h
  |some a=>exact ⟨a,rfl,h⟩
def gx {α:Type} [Inhabited α] (l:List α) (i:Int):α:=l.getD i.toNat default
theorem zak {α:Type} [Inhabited α] {l:List α} {i:Int} (h:0<=i/\i<(l.length:Int)):l[i.toNat]?=some (gx l i):=ye6 (by omega)
def bx (b:ByteArray) (i:Int):UInt8:=b.data.toList.getD i.toNat 0
theorem zto {b:ByteArray} {i:Int} (h:0<=i/\i<(b.size:Int)):b.data.toList[i.toNat]?=some (bx b i):=by
  have : i.toNat < b.data.toList.length := by have e : b.data.toList.length = b.size := by simp
                                              omega
  unfold bx;rw [fe,fb this];rfl
def vecC {α:Type} (f:α->T) (l:List α):List T:=(l.map f).flatMap iq
theorem zay {α:Type} {f:α->T} {l l2:List α}:vecC f (l++l2)=vecC f l++vecC f l2:=by
  unfold vecC;rw [my,List.flatMap_append]
theorem zh9 {α:Type} {f:α->T} {x:α}:vecC f [x]=(f x).cells:=by
  unfold vecC;simp
theorem zdi {α:Type} {f:α->T} {e:Nat} (h:∀ x,(f x).cells.length=e):∀ (l:List α),(vecC f l).length=l.length*e
  |[]=>by simp [vecC]
  |x :: l=>by
    have ih:=zdi h l;unfold vecC at ih ⊢;rw [ic,im,fi,h,ih,fq,i8];omega
theorem ze6 {α:Type} {f:α->T} {e n:Nat} {l:List α} (h:∀ x,(f x).cells.length=e) (hl:l.length=n):(vecC f l).take (n*e)=(l.map f).flatMap iq:=by
  have:=zdi h l;rw [gz (by rw [this,hl];exact fd _)];rfl
theorem zdd {k:gu} {l:List Int}:(l.map (eo k)).flatMap iq=l.map (eo k):=zi0 fun _=>rfl
theorem zbw {l:List Bool}:(l.map rv).flatMap iq=l.map rv:=zi0 fun _=>rfl
theorem zdc {l:List ByteArray}:(l.map oy).flatMap iq=l.map oy:=zi0 fun _=>rfl
theorem zdf {k:gu} {l:List Int}:(l.map (eo k)).all mv=true:=by simp [mv]
theorem zby {l:List Bool}:(l.map rv).all mv=true:=by simp [mv]
theorem zde {l:List ByteArray}:(l.map oy).all mv=true:=by simp [mv]
section
variable {GL:List (Nat×List Value)} {A A' A2:Nat->Prop} {β β' β2:Bx} {S S' S2:TS} {s s' s2:CS} {P:fx} {Γ:Env} {N:Nat} {h h' h2:Nat->T} {Q R:Exit->(Nat->T)->TS->Prop}
theorem Left.trimN {fr fr':Fr} {keep:List Nat} {bs bs2 extra:List Box} {n:Nat} (hn:bs.length<=n) (hT:TRel GL A β (stL bs) s) (k:Left GL A β s N fr' s' h' (stL (bs2++extra))) (hl:bs2.length=n) (hb:zdm n bs2=true) (hk:zfe keep n h'):Left GL A β s N fr' s' (zh4 keep h') (stL bs2):=by
  obtain ⟨A',β',k1,k2,k3⟩:=k;have hat:∀ b,b<n->bcut β' n b=β' b:=fun b hb=>zAc hb
  have hsub:∀ b l,bcut β' n b=some l->β' b=some l:=fun b l h=>by
    unfold bcut at h;split at h
    . exact h
    . simp at h
  have hkp:zp4 (stL (bs2++extra)) (stL bs2):=by
    refine ⟨by simp [stL],fun b=>?_⟩;by_cases hbl:b<bs2.length
    . refine .inr ⟨hbl,?_,?_⟩
      . show bs2.getD b .gone=(bs2++extra).getD b .gone;rw [fe,fe,fp hbl]
      . show zg0 bs2.length ((bs2++extra).getD b .gone)=true;rw [fe,fp hbl,<- fe,hl];exact zme hb
    . left;show bs2.getD b .gone=.gone;rw [fe,jf (by omega)];rfl
  have hcut:=k2.cut hkp;have hnn:(stL bs2).n=n:=hl;rw [hnn] at hcut;refine ⟨A',bcut β' n,⟨k1.nt,k1.le,fun t=>?_⟩,hcut,k3.can,k3.sub,k3.new,fun f hf=>?_,k3.keep,fun b l hb'=>?_,k3.rd,k3.wr⟩
  . by_cases ht:t∈keep
    . rw [zi8 ht];exact (k1.slot t).ids hat (zno hk t ht)
    . rw [show zh4 keep h' t=.junk from zAd ht];exact .junk _
  . obtain ⟨b,hb'⟩:=hf;exact k3.own f ⟨b,hb'.imp (fun ⟨u,N,h⟩=>⟨u,N,hsub _ _ h⟩) fun h=>hsub _ _ h⟩
  . obtain ⟨l',c1,c2⟩:=k3.bx b l hb'
    have:b<bs.length:=by
      by_cases hh:b<bs.length
      . exact hh
      . rw [hT.next b (by show bs.length<=b;omega)] at hb';simp at hb'
    exact ⟨l',by rw [hat b (by omega)];exact c1,c2⟩
theorem TW.cutN {a:Code} (keep:List Nat) (n:Nat) {bs:List Box} (hn:bs.length<=n) (R:(Nat->T)->List Box->Prop) (hR:TW P Γ GL N a h (stL bs) (onT (fun h' S'=>Ends keep n R h' S') Q)) (hk:∀ h bs2,R h bs2->Q .normal h (stL bs2)):TW P Γ GL N a h (stL bs) Q:=by
  intro A β fr s hF hT;obtain ⟨e,fr1,s1,h1,h',S',hleft,hq⟩:=hR A β fr s hF hT
  cases e with
  |normal =>
    obtain ⟨bs',rfl,hl,hbi,hki,hq⟩:=hq;exact ⟨_,fr1,s1,h1,_,_,Left.trimN (fr:=fr) (keep:=keep) (bs2:=bs'.take n) (extra:=bs'.drop n) hn hT (by rw [ip];exact hleft) (by rw [gq];omega) hbi hki,hk _ _ hq⟩
  |_=>exact ⟨_,fr1,s1,h1,h',S',hleft,hq⟩
theorem TW.unz {c:Code} (b:Nat) {zz:Bool} {M:Nat} {l:List T} (hS:S.box b=.cells zz M l) (k:TW P Γ GL N c h (S.set b (.cells false M l)) Q):TW P Γ GL N c h S Q:=by
  intro A β fr s hF hT
  have hb:∀ b' z N l',(S.set b (.cells false M l)).box b'=.cells z N l'->∃ z0,S.box b'=.cells z0 N l'/\(z=true->z0=true):=fun b' z N l' h=>by
    by_cases hi:b'=b
    . subst hi;rw [mm] at h;cases h;exact ⟨zz,hS,fun h=>by cases h⟩
    . rw [mw _ _ hi] at h;exact ⟨z,h,id⟩
  refine k A β fr s hF ⟨hT.inr,hT.inv,hT.alt,hT.dis,hT.inj,hT.next,fun b' z N l' h=>?_,fun b' l' h=>?_,hT.glob⟩
  . obtain ⟨z0,h0,hz⟩:=hb b' z N l' h;obtain ⟨h1,h2⟩:=hT.cells b' z0 N l' h0;refine ⟨h1,?_⟩;rcases h2 with ⟨q1,q2,q3⟩|⟨f,u,cs,rest,q1,q2,q3⟩
    . exact .inl ⟨q1,q2,by cases z with|false=>rfl|true=>rw [hz rfl] at q3;exact q3⟩
    . exact .inr ⟨f,u,cs,rest,q1,fun h=>q2 (hz h),q3⟩
  . by_cases hi:b'=b
    . subst hi;rw [mm] at h;cases h
    . rw [mw _ _ hi] at h;exact hT.maps b' l' h
theorem TW.slot {c:Code} (t:Nat) {v v':T} (ht:h t=v) (hv:∀ A β (g:Nat->Fam) w,VT A β g v w->VT A β g v' w) (k:TW P Γ GL N c (tupd h t v') S Q):TW P Γ GL N c h S Q:=by
  intro A β fr s hF hT
  have hF':FrOk A β (zaa s.obj) N (tupd h t v') fr:=⟨hF.nt,hF.le,fun u=>by
    by_cases hu:u=t
    . subst hu;rw [zgn];have:=hF.slot u;rw [ht] at this;exact hv _ _ _ _ this
    . rw [zkh _ _ _ _ hu];exact hF.slot u⟩
  exact k A β fr s hF' hT
theorem TW.lst0 {c:Code} (t e:Nat) (he:0<e) (ht:h t=.lst e []) (k1:TW P Γ GL N c (tupd h t .nils) S Q) (k2:TW P Γ GL N c (tupd h t (.emp e)) S Q):TW P Γ GL N c h S Q:=by
  intro A β fr s hF hT;have hs:=hF.slot t;rw [ht] at hs;rcases VT.lst_emp he hs with q|q
  . refine k1 A β fr s ⟨hF.nt,hF.le,fun u=>?_⟩ hT;by_cases hu:u=t
    . subst hu;rw [zgn];exact q
    . rw [zkh _ _ _ _ hu];exact hF.slot u
  . refine k2 A β fr s ⟨hF.nt,hF.le,fun u=>?_⟩ hT;by_cases hu:u=t
    . subst hu;rw [zgn];exact q
    . rw [zkh _ _ _ _ hu];exact hF.slot u
theorem TW.nilL {c:Code} (t e:Nat) (ht:h t=.nils) (k:TW P Γ GL N c (tupd h t (.lst e [])) S Q):TW P Γ GL N c h S Q:=by
  intro A β fr s hF hT;have hv:=hF.slot t;rw [ht] at hv
  have hF':FrOk A β (zaa s.obj) N (tupd h t (.lst e [])) fr:=⟨hF.nt,hF.le,fun u=>by
    by_cases hu:u=t
    . subst hu;rw [zgn];generalize fr.get u=w at hv;cases hv;exact .lnil
    . rw [zkh _ _ _ _ hu];exact hF.slot u⟩
  exact k A β fr s hF' hT
mutual
theorem z5k {n m:Nat} (hnm:n<=m):∀ {t:T},t.ids n=true->t.ids m=true
  |.agg l,h=>zff hnm (l:=l) h
  |.tup l,h=>zff hnm (l:=l) h
  |.lst e l,h=>zff hnm (l:=l) h
  |.cp l,h=>zff hnm (l:=l) h
  |.ptr b o N,h=>by simp only [T.ids] at h ⊢;exact zab.2 (by have:=zab.1 h;omega)
  |.arr b e o l c N,h=>by simp only [T.ids] at h ⊢;exact zab.2 (by have:=zab.1 h;omega)
  |.mp b,h=>by simp only [T.ids] at h ⊢;exact zab.2 (by have:=zab.1 h;omega)
  |.fn f a c,h=>by
    simp only [T.ids,ep] at h ⊢;exact ⟨zff hnm h.1,zff hnm h.2⟩
  |.int _ _,_=>rfl
  |.bool _,_=>rfl
  |.str _,_=>rfl
  |.nils,_=>rfl
  |.nilp,_=>rfl
  |.nilm,_=>rfl
  |.nilf,_=>rfl
  |.junk,_=>rfl
  |.emp _,_=>rfl
theorem zff {n m:Nat} (hnm:n<=m):∀ {l:List T},T.idsL n l=true->T.idsL m l=true
  |[],_=>rfl
  |t :: l,h=>by
    simp only [T.idsL,ep] at h ⊢;exact ⟨z5k hnm h.1,zff hnm h.2⟩
end
mutual
theorem zg7 {ρ:Nat->Nat}:∀ {t:T},t.ids 0=true->t.ren ρ=t
  |.agg l,h=>by rw [T.ren,zcw (l:=l) h]
  |.tup l,h=>by rw [T.ren,zcw (l:=l) h]
  |.lst e l,h=>by rw [T.ren,zcw (l:=l) h]
  |.cp l,h=>by rw [T.ren,zcw (l:=l) h]
  |.ptr b o N,h=>by simp [T.ids,gh] at h
  |.arr b e o l c N,h=>by simp [T.ids,gh] at h
  |.mp b,h=>by simp [T.ids,gh] at h
  |.fn f a c,h=>by
    simp only [T.ids,ep] at h;rw [T.ren,zcw (l:=a) h.1,zcw (l:=c) h.2]
  |.int _ _,_=>rfl
  |.bool _,_=>rfl
  |.str _,_=>rfl
  |.nils,_=>rfl
  |.nilp,_=>rfl
  |.nilm,_=>rfl
  |.nilf,_=>rfl
  |.junk,_=>rfl
  |.emp _,_=>rfl
theorem zcw {ρ:Nat->Nat}:∀ {l:List T},T.idsL 0 l=true->T.renL ρ l=l
  |[],_=>rfl
  |t :: l,h=>by
    simp only [T.idsL,ep] at h;rw [T.renL,zg7 h.1,zcw h.2]
end
theorem zp4.one {z:Bool} {M:Nat} {cs:List T} (h:T.idsL 1 cs=true):zp4 (stL [.cells z M cs]) (stL [.cells z M cs]):=by
  refine ⟨fd _,fun b=>?_⟩
  cases b with
  |zero=>exact .inr ⟨by show 0<1;omega,rfl,h⟩
  |succ b=>exact .inl rfl
theorem Call.fresh {f:lp} {args:List T} {e n c M:Nat} {z:Bool} {M2:Nat} {cs:List T} (k:Call P Γ GL f args ts0 (.arr 0 e 0 n c M) (stL [.cells z M2 cs])) (ha:T.idsL 0 args=true) (hb:T.idsL 0 cs=true) (bs:List Box):Call P Γ GL f args (stL bs) (.arr bs.length e 0 n c M) (stL (bs++[.cells z M2 cs])):=by
  have:=Call.frame (ρ:=fun i=>bs.length+i) (S:=stL bs) (S':=stL (bs++[.cells z M2 cs])) k ha (by rfl) ⟨ik _,fun b _=>rfl,fun i hi=>absurd hi (by show ¬ i<0;omega),fun i _ hi=>by show bs.length<=bs.length+i;omega,fun i hi=>by have:i<1:=hi;show bs.length+i<(bs++[_]).length;rw [fi];simp;omega,by show bs.length<=(bs++[_]).length;simp,fun i j _ _ h=>by have:bs.length+i=bs.length+j:=h;omega,fun i hi=>absurd hi (by show ¬ i<0;omega),fun i hi=>?_,fun b hb=>?_⟩
  . rw [zcw ha] at this;exact this
  . have:i<1:=hi;have:i=0:=by omega
    subst this;constructor
    . show (bs++[Box.cells z M2 cs]).getD (bs.length+0) .gone=.cells z M2 (T.renL _ cs);rw [zcw hb,jc,fe,gp (fd _)];simp
    . show T.idsL 1 cs=true
      exact z5n fun t ht=>by
        have:=yb0 hb t ht;exact z5k (ik _) this
  . show (bs++[Box.cells z M2 cs]).getD b .gone=bs.getD b .gone;by_cases hlt:b<bs.length
    . rw [fe,fe,fp hlt]
    . by_cases h2:b=bs.length
      . exact absurd (h2 ▸ rfl:bs.length+0=b) (hb 0 (by show 0<1;omega))
      . rw [fe,fe,jf (by rw [fi];simp;omega),jf (by omega)]
end
def mset {K V:Type} [DecidableEq K] (k:K) (v:V):List (K×V)->List (K×V)
  |[]=>[(k,v)]
  |p :: l=>if k=p.1 then (k,v) :: l else p :: mset k v l
def mget {K V:Type} [DecidableEq K] (k:K):List (K×V)->Option V
  |[]=>none
  |p :: l=>if k=p.1 then some p.2 else mget k l
theorem keyI {kk:gu} {a b:Int}:zuw (.int kk a) (.int kk b)=some (decide (a=b)):=by
  show (bif fg (ikN kk) (ikN kk) then some (a == b) else none)=_;rw [ij,cond_true];by_cases h:a=b<;>simp [h]
theorem keyS {a b:ByteArray}:zuw (.str a) (.str b)=some (decide (a=b)):=by
  show some (a.data.toList == b.data.toList)=_;by_cases h:a=b
  . subst h;simp
  . have:(a.data.toList == b.data.toList)=false:=by simpa using fun hh=>h (ByteArray.ext hh)
    rw [this,zAb h]
theorem zw3 {K V:Type} [DecidableEq K] {kf:K->T} {f:V->T} (hk:∀ a b,zuw (kf a) (kf b)=some (decide (a=b))) (k:K) (v:V):∀ l:List (K×V),tSet (kf k) (f v) (l.map fun p=>(kf p.1,f p.2))=some ((mset k v l).map fun p=>(kf p.1,f p.2))
  |[]=>rfl
  |p :: l=>by
    rw [ic,tSet,hk];unfold mset;by_cases h:k=p.1
    . rw [zAa h,zAc h,ic]
    . rw [zAb h,zAd h,ic];simp only [zw3 hk k v l]
theorem zw4 {K V:Type} [DecidableEq K] {kf:K->T} {f:V->T} (hk:∀ a b,zuw (kf a) (kf b)=some (decide (a=b))) (k:K):∀ l:List (K×V),tGet (kf k) (l.map fun p=>(kf p.1,f p.2))=some ((mget k l).map f)
  |[]=>rfl
  |p :: l=>by
    rw [ic,tGet,hk];unfold mget;by_cases h:k=p.1
    . rw [zAa h,zAc h];rfl
    . rw [zAb h,zAd h];exact zw4 hk k l
theorem zcj {kk:gu} {V:Type} {f:V->T} {k:Int} {v:V} {l:List (Int×V)}:tSet (.int kk k) (f v) (l.map fun p=>(.int kk p.1,f p.2))=some ((mset k v l).map fun p=>(.int kk p.1,f p.2)):=zw3 (kf:=eo kk) (fun _ _=>keyI) k v l
theorem zcl {kk:gu} {V:Type} {f:V->T} {k:Int} {l:List (Int×V)}:tGet (.int kk k) (l.map fun p=>(.int kk p.1,f p.2))=some ((mget k l).map f):=zw4 (kf:=eo kk) (fun _ _=>keyI) k l
theorem zci {V:Type} {f:V->T} {k:ByteArray} {v:V} {l:List (ByteArray×V)}:tSet (.str k) (f v) (l.map fun p=>(.str p.1,f p.2))=some ((mset k v l).map fun p=>(.str p.1,f p.2)):=zw3 (kf:=oy) (fun _ _=>keyS) k v l
theorem zck {V:Type} {f:V->T} {k:ByteArray} {l:List (ByteArray×V)}:tGet (.str k) (l.map fun p=>(.str p.1,f p.2))=some ((mget k l).map f):=zw4 (kf:=oy) (fun _ _=>keyS) k l
theorem zdx {V:Type} {f:V->T} {d:V} {o:Option V}:z5z false (f d) (o.map f)=f (o.getD d):=by cases o<;>rfl
theorem zdw {V:Type} {f:V->T} {d:V} {o:Option V}:z5z true (f d) (o.map f)=.tup [f (o.getD d),.bool o.isSome]:=by cases o<;>rfl
theorem zl3:type_of% (eh (eh (eh (@zas) (eh (@ji) (@nj))) (eh (@z60) (eh (@fm) (@and_self)))) (eh (eh (@and_true) (eh (@true_and) (@m5.{0}))) (eh (eh (@mo.{0}) (@fq.{0})) (eh (@iu.{0}) (@ig))))):=eh (eh (eh (@zas) (eh (@ji) (@nj))) (eh (@z60) (eh (@fm) (@and_self)))) (eh (eh (@and_true) (eh (@true_and) (@m5.{0}))) (eh (eh (@mo.{0}) (@fq.{0})) (eh (@iu.{0}) (@ig))))
theorem zbj:type_of% (eh (eh (eh (@T.ids.eq_1) (eh (@T.ids.eq_2) (@T.ids.eq_3))) (eh (@T.ids.eq_4) (eh (@T.ids.eq_5) (@T.ids.eq_6)))) (eh (eh (@T.ids.eq_7) (eh (@T.ids.eq_8) (@T.ids.eq_9))) (eh (@T.idsL.eq_1) (eh (@T.idsL.eq_2) (@za7))))):=eh (eh (eh (@T.ids.eq_1) (eh (@T.ids.eq_2) (@T.ids.eq_3))) (eh (@T.ids.eq_4) (eh (@T.ids.eq_5) (@T.ids.eq_6)))) (eh (eh (@T.ids.eq_7) (eh (@T.ids.eq_8) (@T.ids.eq_9))) (eh (@T.idsL.eq_1) (eh (@T.idsL.eq_2) (@za7))))
theorem zcp:type_of% (eh (eh (@zdm.eq_1) (eh (@zdm.eq_2) (@zg0.eq_1))) (eh (eh (@zg0.eq_2) (@zg0.eq_3)) (eh (@zfe.eq_1) (@zfe.eq_2)))):=eh (eh (@zdm.eq_1) (eh (@zdm.eq_2) (@zg0.eq_1))) (eh (eh (@zg0.eq_2) (@zg0.eq_3)) (eh (@zfe.eq_1) (@zfe.eq_2)))
theorem scA:type_of% (eh (@kb.{0}) (@lc.{0})):=eh (@kb.{0}) (@lc.{0})
theorem scB:type_of% (eh (eh (@st_n) (eh (@fq.{0}) (@iu.{0}))) (eh (@f6.{0}) (eh (@ft.{0}) (@ig)))):=eh (eh (@st_n) (eh (@fq.{0}) (@iu.{0}))) (eh (@f6.{0}) (eh (@ft.{0}) (@ig)))
theorem gsA:type_of% (eh (eh (@za7) (eh (@my.{0,0}) (@ic.{0,0}))) (eh (@ov.{0,0}) (eh (@i8) (@mq)))):=eh (eh (@za7) (eh (@my.{0,0}) (@ic.{0,0}))) (eh (@ov.{0,0}) (eh (@i8) (@mq)))
end
end Go.Proofs.Ytkfnjbfnkpameaa
