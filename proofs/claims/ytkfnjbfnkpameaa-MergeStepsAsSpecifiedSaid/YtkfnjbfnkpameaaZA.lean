/- Part 1 of the proof of MergeStepsAsSpecified (several texts in one; no further condition). -/
import Derived.WalkKit
import Derived.Deep.AppendSrc
import Derived.Laws.AppendOwnNone
import Derived.Laws.CopyOwn
import Derived.Laws.Tables
import Derived.Laws.IdiomStrings
import Derived.Laws.MakeOwn
import Derived.Great.BuildSlice
set_option linter.unusedSimpArgs false
set_option linter.unusedVariables false
set_option linter.unusedSectionVars false
namespace Go.Proofs.Ytkfnjbfnkpameaa
noncomputable section
open Go.Addr renaming add_lit->nr
open _root_.Array renaming getElem?_eq_getElem->kw,getElem?_modify->o5,getElem?_toList->ki,length_toList->jr,toList_inj->n9
open _root_.BitVec renaming ofInt_natCast->o6
open _root_.Bool renaming and_eq_true->fj,eq_iff_iff->ku
open Go.Builtin renaming append_->pj,firstCells->lm,zeroCells->m9
open Go.Instr renaming sliceAt->pg,sureAddr->pq
open Go renaming IntKind->iu,Operand->f7,Program->gn,TypeDesc->nf,TypeId->gm,eqGuard->ma,execOp->mm,run_underlying->ig
open _root_.List renaming all_eq_true->ib,eq_nil_of_length_eq_zero->ji,ext_getElem?->sl,flatten_cons->ii,getElem?_append_left->gi,getElem?_append_right->im,getElem?_cons_succ->lh,getElem?_cons_zero->gz,getElem?_drop->lc,getElem?_eq_getElem->fk,getElem?_eq_none->jw,getElem?_eq_some_iff->ge,getElem?_map->lj,getElem?_range->n7,getElem?_take->mu,length_append->fx,length_drop->jf,mem_cons->kj,mem_cons_of_mem->np,mem_of_getElem?->jl,replicate->gb,replicate_succ->jc
open _root_.Nat renaming add_assoc->oz,add_mul->jm,beq->fy,ble->h9,blt->ic,div->mw,eq_of_beq_eq_true->fl,le_refl->fp,le_trans->jv,lt_of_lt_of_le->gr,mod_eq_of_lt->ni,mul->pi,mul_le_mul_right->lr,zero_add->i5
open _root_.Ne renaming symm->r7
open Go.Op renaming equalIn->kx,intArith->qg,intBits->p8,intCmp->od
open _root_.Option renaming map_some->ov
open _root_.Option.some renaming injEq->fe
open _root_.Prod renaming mk->q9
open _root_.Prod.mk renaming injEq->fm
open Go.Result renaming andThen_ok->mn
open Go.Sem renaming run_bind->nq
open Go.World renaming cell?_setCells_in->oc,cell?_setCells_out->my,frozen?->r8
theorem zAa {p:Prop} [Decidable p] (h:p):decide p=true:=decide_eq_true h
theorem zAb {p:Prop} [Decidable p] (h:¬p):decide p=false:=decide_eq_false h
theorem zAc.{u} {c:Prop} {x:Decidable c} (h:c) {α:Sort u} {t e:α}:ite c t e=t:=if_pos h
theorem zAd.{u} {c:Prop} {x:Decidable c} (h:¬c) {α:Sort u} {t e:α}:ite c t e=e:=if_neg h
theorem zAe {p:Prop} [Decidable p] (h:decide p=true):p:=of_decide_eq_true h
open Go Go.RowKit
section
open Go
def Tr (α:Type) (d:Nat):Type:=Nat.rec (motive:=fun _=>Type) α (fun _ ih=>ih×ih) d
def Tr.get {α:Type} (d:Nat):Tr α d->Nat->α :=
 Nat.rec (motive:=fun d=>Tr α d->Nat->α) (fun a _=>a)
  (fun _ ih t i=>Bool.rec (ih (Prod.snd t) (mw i 2)) (ih (Prod.fst t) (mw i 2)) (fy (Nat.mod i 2) 0)) d
def Tr.set {α:Type} (v:α) (d:Nat):Tr α d->Nat->Tr α d :=
 Nat.rec (motive:=fun d=>Tr α d->Nat->Tr α d) (fun _ _=>v)
  (fun _ ih t i=>Bool.rec (q9 (Prod.fst t) (ih (Prod.snd t) (mw i 2))) (q9 (ih (Prod.fst t) (mw i 2)) (Prod.snd t)) (fy (Nat.mod i 2) 0)) d
def Tr.all {α:Type} (v:α) (d:Nat):Tr α d:=Nat.rec (motive:=fun d=>Tr α d) v (fun _ ih=>q9 ih ih) d
def Tr.of {α:Type} (f:Nat->α) (d:Nat):Nat->Nat->Tr α d :=
 Nat.rec (motive:=fun d=>Nat->Nat->Tr α d) (fun k _=>f k) (fun _ ih k w=>q9 (ih k (pi 2 w)) (ih (Nat.add k w) (pi 2 w))) d
def sel {α:Type} (b:Bool) (x y:α):α:=Bool.rec y x b
abbrev Tab (α:Type):=Tr (Option α) 8
def Tab.at {α:Type} (t:Tab α) (i:Nat):Option α:=sel (ic i 256) (Tr.get 8 t i) none
structure Fr where
 nt:Nat
 tr:Tr Value 9
def Fr.get (fr:Fr) (t:Nat):Value:=sel (ic t 512) (Tr.get 9 fr.tr t) undef
def Fr.put (fr:Fr) (t:Nat) (v:Value):Fr:=sel (ic t fr.nt) ⟨fr.nt,Tr.set v 9 fr.tr t⟩ fr
def Fr.ofArgs:List Value->Nat->Fr->Fr
 |[],_,fr=>fr
 |v :: l,i,fr=>Fr.ofArgs l (i+1) (fr.put i v)
structure TI where
 desc:nf
 size:Nat
 bytes:Nat
 zero:List Value
structure Fam where
 ro:Bool
 rows:List (Nat×List Value)
 es:Option (List (Value×Value))
abbrev Sto:=Sum (Tr Fam 14) (Nat->Fam)
def zaa (t:Sto) (i:Nat):Fam:=match t with
 |.inl t=>sel (ic i 16384) (Tr.get 14 t i) ⟨true,[],none⟩
 |.inr g=>g i
def zbi (t:Sto) (i:Nat) (x:Fam):Sto:=match t with
 |.inl t=>.inl (Tr.set x 14 t i)
 |.inr g=>.inr fun j=>sel (fy j i) x (g j)
def zmb (t:Sto) (n:Nat):Bool:=match t with
 |.inl _=>ic n 16384
 |.inr _=>true
structure CS where
 n:Nat
 obj:Sto
 lim:Nat
 rd:List Nat
 wr:List Nat
structure It where
 key:List Value->CS->Option (List Nat×CS)
 xs:List Nat->List (List Value)
structure Env where
 ti:Tab TI
 fn:Tab Func
 ax:Nat->Option (List Value->CS->Option (Value×CS))
 it:Nat->Option It
def zh0:List Nat->List Nat->Bool
 |[],[]=>true
 |a :: l,b :: m=>fy a b && zh0 l m
 |_,_=>false
def has:List Nat->Nat->Bool
 |[],_=>false
 |x :: l,n=>bif fy x n then true else has l n
def ins (lim:Nat) (l:List Nat) (n:Nat):List Nat:=bif ic n lim then (bif has l n then l else n :: l) else l
def zui (lim:Nat) (l:List Nat):List Nat->List Nat
 |[]=>l
 |x :: xs=>zui lim (ins lim l x) xs
def zbp:List (Nat×List Value)->Nat->Option (List Value)
 |[],_=>none
 |(u,cs) :: l,v=>bif fy u v then some cs else zbp l v
def zgw:List (Nat×List Value)->Nat->List (Nat×List Value)
 |[],_=>[]
 |(u,cs) :: l,v=>bif fy u v then (u,cs) :: l else zgw l v
def Addr.ver (a:Addr):Nat:=a.spot.getD 0
def mkA (f u off:Nat):Addr:=⟨f,off,some u⟩
def CS.readRow (s:CS) (a:Addr):Option (List Value×CS) :=
 match zbp (zaa s.obj a.block).rows (Addr.ver a) with
 |some cs=>some (cs,{ s with rd:=ins s.lim s.rd a.block })
 |none=>none
def oneC:Value->Bool
 |.agg _=>false
 |.tuple _=>false
 |_=>true
def splice (cs:List Value) (off:Nat) (vs:List Value):List Value:=cs.take off++vs++cs.drop (off+vs.length)
def CS.newRow (s:CS) (tag:Nat) (cs:List Value):Option (Addr×CS) :=
 sel (zmb s.obj s.n) (some (mkA s.n (s.n*1024+tag) 0,{ s with n:=s.n+1,obj:=zbi s.obj s.n ⟨false,[(s.n*1024+tag,cs)],none⟩ })) none
def CS.write (s:CS) (a:Addr) (vs:List Value):Option CS :=
  match (zaa s.obj a.block).ro,zbp (zaa s.obj a.block).rows (Addr.ver a) with
  | false, some cs => sel (and (h9 (a.off + vs.length) cs.length) (vs.all oneC))
      (some { s with obj:=zbi s.obj a.block ⟨false,[(Addr.ver a,splice cs a.off vs)],none⟩,wr:=ins s.lim s.wr a.block }) none
  |_,_=>none
def Addr.plus (a:Addr) (k:Nat):Addr:=⟨a.block,a.off+k,a.spot⟩
def zhq:Value->Option Nat
 |.int _ (.ofNat n)=>some n
 |_=>none
def aggT (d:nf):Bool:=match d with|.struct _=>true|.array ..=>true|_=>false
def cut (l:List Value) (off k:Nat):Option (List Value):=let r:=(l.drop off).take k;bif fy r.length k then some r else none
def ztz (i:TI) (cs:List Value) (off:Nat):Option Value :=
 bif aggT i.desc then (match cut cs off i.size with|some l=>some (.agg l.toArray)|none=>none) else cs[off]?
def CS.loadVar (s:CS) (i:TI) (a:Addr):Option (Value×CS) :=
 match s.readRow a with
 |some (cs,s)=>match ztz i cs a.off with|some v=>some (v,s)|none=>none
 |none=>none
def za7 {α:Type} (P:gn):Sem α->Option α
 |.pure a=>some a
 |.program k=>za7 P (k P)
 |_=>none
def za6:Nat->Value->Bool
 |_,.bool _=>true
 |_,.int _ _=>true
 |_,.string _=>true
 |_,.nilIface=>true
 |n+1,.agg cs=>cs.toList.all (za6 n)
 |n+1,.tuple cs=>cs.toList.all (za6 n)
 |n+1,.iface _ v=>za6 n v
 |_,_=>false
def yfm:Value->Bool
 |.pointer none=>true
 |.slice none 0 0=>true
 |.map none=>true
 |.nilFunc=>true
 |.func _ first captured=>first.toList.isEmpty && captured.toList.isEmpty
 |v=>za6 3 v
def ybl (d:nf) (z:Value):Bool :=
 match z with
 |.agg _=>aggT d
 |.tuple _=>false
 |_=>not (aggT d)
def zi6 (s:ByteArray):List Value:=s.data.toList.map fun b=>.int .u8 b.toNat
def zg6 (fr:Fr):f7->Value
 |.tmp t=>fr.get t
 |.const v=>v
 |.global g=>.pointer (some (mkA g (g*1024) 0))
 |.func f=>.func (.func f) #[] #[]
def zq5 (cells:List Value):List (Nat×List Value)->Option (List Value)
 |[]=>some cells
 |(off,vs) :: r=>bif h9 (off+vs.length) cells.length then zq5 (splice cells off vs) r else none
def zho (place:Nat->Option (Nat×Nat)) (ρ:f7->Value):List (Nat×f7)->Option (List (Nat×List Value))
 |[]=>some []
 |(k,x) :: r=>match place k,zho place ρ r with
  |some (off,size),some l=>let c:=(ρ x).cells.toList;bif fy c.length size then some ((off,c) :: l) else none
  |_,_=>none
def ikN:iu->Nat:=fun k=>IntKind.rec 0 1 2 3 4 5 6 7 k
def topN:iu->Nat:=fun k=>IntKind.rec 128 32768 2147483648 9223372036854775808 256 65536 4294967296 18446744073709551616 k
def natI (k:iu) (b:Bool) (n:Nat):Option Value:=sel b (some (.int k (.ofNat n))) none
def zra (b:Bool):Option Value:=some (.bool b)
def binF (op:BinOp) (k:iu) (m n:Nat):Option Value :=
 match op with
 |.add=>natI k (ic (Nat.add m n) (topN k)) (Nat.add m n)
 |.sub=>natI k (and (h9 n m) (ic m (topN k))) (Nat.sub m n)
 |.mul=>natI k (ic (pi m n) (topN k)) (pi m n)
 |.quo=>natI k (and (ic 0 n) (ic m (topN k))) (mw m n)
 |.rem=>natI k (ic 0 n) (Nat.mod m n)
 |.and=>natI k (and (ic m (topN k)) (ic n (topN k))) (Nat.land m n)
 |.or=>natI k (and (ic m (topN k)) (ic n (topN k))) (Nat.lor m n)
 |.xor=>natI k (and (ic m (topN k)) (ic n (topN k))) (Nat.xor m n)
 |.shl=>natI k (and (ic n 64) (ic (pi m (Nat.pow 2 (Nat.min n k.bits))) (topN k))) (pi m (Nat.pow 2 (Nat.min n k.bits)))
 |.shr=>natI k true (mw m (Nat.pow 2 (Nat.min n k.bits)))
 |.andNot=>none
 |.eql=>zra (fy m n)
 |.neq=>zra (not (fy m n))
 |.lss=>zra (ic m n)
 |.leq=>zra (h9 m n)
 |.gtr=>zra (ic n m)
 |.geq=>zra (h9 n m)
def binC (op:BinOp):Value->Value->Option Value
 |.int k (.ofNat m),.int k' (.ofNat n)=>sel (fy (ikN k) (ikN k')) (binF op k m n) none
 |_,_=>none
def lenC:Value->Option Nat
 |.slice _ n _=>some n
 |.string s=>some s.size
 |_=>none
def CS.firstCells (s:CS) (size n:Nat):Value->Option (List Value×CS)
 |.slice x _ _=>bif fy (n*size) 0 then some ([],s) else match x with
  |some a=>match s.readRow a with
   |some (cs,s)=>(match cut cs a.off (n*size) with|some l=>some (l,s)|none=>none)
   |none=>none
  |none=>none
 |.string b=>bif fy size 1 && h9 n b.size then some (zi6 (b.extract 0 n),s) else none
 |_=>none
def zhz (len cap:Nat):Option (Addr×CS)->Option (Value×CS)
 |some x=>some (.slice (some x.1) len cap,x.2)
 |none=>none
def CS.grow (s:CS) (a:Addr) (tag stop need:Nat) (cells:List Value):Option (Value×CS) :=
  match (zaa s.obj a.block).ro,zbp (zaa s.obj a.block).rows (Addr.ver a) with
  | false, some cs => sel (fy stop cs.length)
      (some (.slice (some (mkA a.block (s.n*1024+tag) 0)) need need,
        { s with n:=s.n+1,obj:=zbi s.obj a.block ⟨false,(s.n*1024+tag,cells) :: zgw (zaa s.obj a.block).rows (Addr.ver a),none⟩,wr:=ins s.lim s.wr a.block })) none
  |_,_=>none
def CS.append (s:CS) (size bytes:Nat) (base:Option Addr) (len cap:Nat) (x:Value):Option (Value×CS) :=
  match lenC x with
  |none=>none
  |some n=>match s.firstCells size n x with
    |none=>none
    |some (new,s) =>
      let need:=len+n
      bif ic 1000000000 (need*(bytes+1)) || fy size 0 || h9 1000 size || not (new.all oneC) then none else
      match base with
      |none=>bif fy n 0 then some (.slice none len cap,s) else zhz need need (s.newRow (size+1) new)
      |some a =>
        bif h9 need cap then
          (bif fy n 0 then some (.slice (some a) need cap,s) else
           match s.write (Addr.plus a (len*size)) new with|some s=>some (.slice (some a) need cap,s)|none=>none)
        else
          match (bif fy len 0 then some ([],s) else s.firstCells size len (.slice (some a) len cap)) with
          |none=>none
          |some (old,s) =>
            let tag:=Addr.ver a % 1024
            bif fy tag 0 then zhz need need (s.newRow (size+1) (old++new))
            else bif fy tag (size+1) then s.grow a (size+1) (a.off+len*size) need (old++new)
            else none
def zb2 (len cap:Nat) (lo hi mx:Option Value):Option (Nat×Nat×Nat) :=
 match (match mx with|some v=>zhq v|none=>some cap),(match hi with|some v=>zhq v|none=>some len),(match lo with|some v=>zhq v|none=>some 0) with
 |some m,some h,some l=>bif h9 l h && h9 h m && h9 m cap && (mx.isNone || hi.isSome) then some (l,h,m) else none
 |_,_,_=>none
def CS.readMap (s:CS) (r:Nat):Option (List (Value×Value)×CS) :=
 match (zaa s.obj r).es with|some es=>some (es,{ s with rd:=ins s.lim s.rd r })|none=>none
def zm0 (P:gn) (ρ:f7->Value) (o:Oper):Option Value :=
 bif (o.op.operands.toList.all fun x=>za6 3 (ρ x)) then
  match za7 P (mm ρ o) with
  |some (.value v)=>bif za6 3 v then some v else none
  |_=>none
 else none
def retC (s:CS) (v:Option Value):Option (Value×CS):=match v with|some v=>some (v,s)|none=>none
def zfk (Γ:Env) (fs:Array Field) (k:Nat):Option (Nat×Nat) :=
 match fs[k]? with|some f=>(match Γ.ti.at f.type with|some j=>some (f.offset,j.size)|none=>none)|none=>none
def zb7 (size k:Nat):Option (Nat×Nat):=some (k*size,size)
def zqj (zero:List Value) (parts:Option (List (Nat×List Value))):Option (List Value) :=
 match parts with|some l=>zq5 zero l|none=>none
def aggC (s:CS) (cs:Option (List Value)):Option (Value×CS):=match cs with|some cs=>some (.agg cs.toArray,s)|none=>none
def ptrC:Option (Addr×CS)->Option (Value×CS)
 |some x=>some (.pointer (some x.1),x.2)
 |none=>none
def zdt (Γ:Env) (t:gm):Option TI :=
 match Γ.ti.at t with|some i=>(match i.desc with|.slice e=>Γ.ti.at e|_=>none)|none=>none
def zm6 (Γ:Env) (s:CS) (e:gm):Option (Value×CS) :=
 match Γ.ti.at e with|some i=>ptrC (s.newRow 0 i.zero)|none=>none
def zkn (Γ:Env) (s:CS) (ρ:f7->Value) (t:gm) (parts:List (Nat×f7)):Option (Value×CS) :=
 match Γ.ti.at t with
 |some i=>(match i.desc with
  |.struct fs=>sel (fs.toList.all fun f=>(Γ.ti.at f.type).isSome) (aggC s (zqj i.zero (zho (zfk Γ fs) ρ parts))) none
  |.array _ e=>(match Γ.ti.at e with|some j=>aggC s (zqj i.zero (zho (zb7 j.size) ρ parts))|none=>none)
  |_=>none)
 |none=>none
def zcf (Γ:Env) (s:CS) (ρ:f7->Value) (t:gm) (n:Nat) (parts:List (Nat×f7)):Option (Value×CS) :=
  match zdt Γ t with
  | some j => bif h9 (n * j.size) 16777216 && ic 0 j.size then
      (match zqj (gb n j.zero).flatten (zho (zb7 j.size) ρ parts) with
      |some cs=>zhz n n (s.newRow 0 cs)
      |none=>none) else none
  |none=>none
def zrs (Γ:Env) (s:CS) (t:gm):Value->Option (Value×CS)
 |.pointer (some a)=>(match Γ.ti.at t with|some i=>s.loadVar i a|none=>none)
 |_=>none
def z94:Option CS->Option (Value×CS)
 |some s=>some (undef,s)
 |none=>none
def zm4 (Γ:Env) (s:CS) (t:gm) (c:List Value):Value->Option (Value×CS)
 |.pointer (some a)=>(match Γ.ti.at t with|some i=>bif fy c.length i.size then z94 (s.write a c) else none|none=>none)
 |_=>none
def ze6 (Γ:Env) (s:CS) (t:gm) (l c:Option Nat):Option (Value×CS) :=
  match zdt Γ t,l,c with
  | some j, some l, some c => bif h9 l c && h9 (c * (j.bytes + 1)) 1000000000 && ic 0 j.size then
      zhz l c (s.newRow 0 (gb c j.zero).flatten) else none
  |_,_,_=>none
def cutC (s:CS) (size:Nat) (exact:Bool) (a:Addr):Option (Nat×Nat×Nat)->Option (Value×CS)
  | some (l, h, m) => bif fy (Addr.ver a % 1024) 0 || (!exact && fy (Addr.ver a % 1024) (size + 1)) then
      some (.slice (some (Addr.plus a (l*size))) (h - l) (m - l),s) else none
  |none=>none
def zoj (Γ:Env) (s:CS) (d:nf) (a:Addr) (lo hi mx:Option Value):Option (Value×CS) :=
 match d with
 |.array n e=>(match Γ.ti.at e with|some j=>sel (h9 n 1000000000) (cutC s j.size true a (zb2 n n lo hi mx)) none|none=>none)
 |_=>none
def z8d (s:CS) (b:ByteArray):Option (Nat×Nat×Nat)->Option (Value×CS)
 |some (l,h,_)=>some (.string (b.extract l h),s)
 |none=>none
def zdj (Γ:Env) (s:CS) (t:gm) (x:Value) (lo hi mx:Option Value):Option (Value×CS) :=
 match Γ.ti.at t with
 |some i=>(match x with
  |.string b=>(match i.desc with|.string=>bif mx.isNone then z8d s b (zb2 b.size b.size lo hi none) else none|_=>none)
  |.slice a len cap=>(match i.desc with
   |.slice e=>(match a with
    |none=>(match Γ.ti.at e with|some _=>(match zb2 len cap lo hi mx with|some (0,0,0)=>some (.slice none 0 0,s)|_=>none)|none=>none)
    |some a=>(match Γ.ti.at e with|some j=>cutC s j.size false a (zb2 len cap lo hi mx)|none=>none))
   |_=>none)
  |.pointer (some a)=>(match i.desc with
   |.pointer arr=>(match Γ.ti.at arr with|some ia=>zoj Γ s ia.desc a lo hi mx|none=>none)
   |d=>zoj Γ s d a lo hi mx)
  |_=>none)
 |none=>none
def zd6 (Γ:Env) (s:CS) (t:gm) (k:Nat):Value->Option (Value×CS)
 |.pointer (some a)=>(match Γ.ti.at t with
  |some i=>(match i.desc with
   |.struct fs=>(match zfk Γ fs k with
    |some (off,size)=>bif fy size 0 then none else some (.pointer (some (Addr.plus a off)),s)
    |none=>none)
   |_=>none)
  |none=>none)
 |_=>none
def zvn (s:CS) (size k n:Nat) (a:Addr):Option (Value×CS):=bif ic k n then some (.pointer (some (Addr.plus a (k*size))),s) else none
def zb8 (Γ:Env) (s:CS) (t:gm) (x:Value) (k:Option Nat):Option (Value×CS) :=
 match Γ.ti.at t,k with
 |some i,some k=>(match x with
  |.pointer (some a)=>(match i.desc with|.array n e=>(match Γ.ti.at e with|some j=>zvn s j.size k n a|none=>none)|_=>none)
  |.slice (some a) n _=>(match i.desc with|.slice e=>(match Γ.ti.at e with|some j=>zvn s j.size k n a|none=>none)|_=>none)
  |_=>none)
 |_,_=>none
def zkm (Γ:Env) (s:CS) (t:gm) (x:Value) (k:Option Nat):Option (Value×CS) :=
 match Γ.ti.at t,k with
 |some i,some k=>(match x with
  |.agg cs=>(match i.desc with
   |.array n e=>(match Γ.ti.at e with|some j=>bif ic k n then retC s (ztz j cs.toList (k*j.size)) else none|none=>none)
   |_=>none)
  |.string b=>(match i.desc with
   |.string=>(match b.data.toList[k]? with|some c=>some (.int .u8 c.toNat,s)|none=>none)
   |_=>none)
  |_=>none)
 |_,_=>none
def zin (s:CS) (k:Nat):Value->Option (Value×CS)
 |.tuple vs=>retC s vs.toList[k]?
 |_=>none
def unC (op:UnOp):Value->Option Value
 |.bool b=>(match op with|.not=>some (.bool (not b))|_=>none)
 |_=>none
def z95 (k:iu):Int->Option Value
 |.ofNat n=>natI k (ic n (topN k)) n
 |_=>none
def zhp (P:gn) (ρ:f7->Value) (o:Oper) (s:CS):Option Value->Option (Value×CS)
 |some v=>some (v,s)
 |none=>retC s (zm0 P ρ o)
def isU8 (Γ:Env) (e:gm):Bool:=match Γ.ti.at e with|some j=>(match j.desc with|.int .u8=>true|_=>false)|none=>false
def z0f:List Value->Option (List UInt8)
 |[]=>some []
 |.int .u8 k :: l=>(match z0f l with|some r=>some (UInt8.ofNat k.toNat :: r)|none=>none)
 |_ :: _=>none
def strC:Option (List Value×CS)->Option (Value×CS)
 |some (l,s)=>(match z0f l with|some r=>some (.string ⟨r.toArray⟩,s)|none=>none)
 |none=>none
def yda (v:Value):Option CS->Option (Value×CS)
 |some s=>some (v,s)
 |none=>none
def zdz (P:gn) (Γ:Env) (ρ:f7->Value) (o:Oper) (s:CS) (src dst:gm) (x:Value):Option (Value×CS) :=
 match Γ.ti.at src,Γ.ti.at dst with
 |some i,some j=>(match x with
  |.int _ n=>(match j.desc with|.int k=>zhp P ρ o s (z95 k n)|_=>none)
  |.string b=>(match i.desc,j.desc with
   |.string,.slice e=>bif isU8 Γ e && h9 b.size 1000000000 then zhz b.size b.size (s.newRow 2 (zi6 b)) else none
   |.string,.string=>some (.string b,s)
   |_,_=>none)
  |.slice a n c=>(match i.desc,j.desc with
   |.slice e,.string=>bif isU8 Γ e then strC (s.firstCells 1 n (.slice a n c)) else none
   |.slice e,.slice _=>(match a with|some a=>yda (.slice (some a) n c) (bif fy src dst && (ic 0 n && isU8 Γ e) then s.write a [] else none)|none=>none)
   |_,_=>none)
  |_=>retC s (zm0 P ρ o))
 |_,_=>none
def nilC (x y:Option Bool) (neg:Bool):Option Value :=
 match x,y with
 |some a,some b=>bif a || b then some (.bool (xor neg (a && b))) else none
 |_,_=>none
def nilT (d:nf) (x:Value):Option Bool :=
 match d,x with
 |.pointer _,.pointer a=>some a.isNone
 |.slice _,.slice a _ _=>some a.isNone
 |.map _ _,.map a=>some a.isNone
 |.func _ _ _,.func _ _ _=>some false
 |.func _ _ _,.nilFunc=>some true
 |_,_=>none
def eqC (Γ:Env) (t:gm) (op:BinOp) (x y:Value):Option Value :=
 match Γ.ti.at t with
 |some i=>(match op with
  |.eql=>nilC (nilT i.desc x) (nilT i.desc y) false
  |.neq=>nilC (nilT i.desc x) (nilT i.desc y) true
  |_=>none)
 |none=>none
def zmj (P:gn) (Γ:Env) (ρ:f7->Value) (o:Oper) (s:CS) (t:gm) (op:BinOp) (x y:Value):Option (Value×CS) :=
 match binC op x y with
 |some v=>some (v,s)
 |none=>zhp P ρ o s (eqC Γ t op x y)
def zc2 (Γ:Env) (s:CS) (t:gm) (y:Value):Value->Option (Value×CS)
 |.slice base len cap=>(match zdt Γ t with|some j=>s.append j.size j.bytes base len cap y|none=>none)
 |_=>none
def z8h (a:Addr) (n:Nat) (s:CS) (zero:List Value):Option (Value×CS) :=
 bif ic 0 (n*zero.length) then (match s.write a (gb n zero).flatten with|some s=>some (undef,s)|none=>none) else none
def zov (Γ:Env) (s:CS) (t:gm):Value->Option (Value×CS)
 |.slice (some a) n _=>(match zdt Γ t with|some j=>z8h a n s j.zero|none=>none)
 |_=>none
def z4s:Option (List (Value×Value)×CS)->Option (Value×CS)
 |some (es,s)=>some (.int .i64 es.length,s)
 |none=>none
def zmi (Γ:Env) (s:CS) (t:gm) (x:Value):Option (Value×CS) :=
 match Γ.ti.at t with
 |some i=>(match i.desc,x with
  |.string,.string b=>some (.int .i64 b.size,s)
  |.array n _,_=>some (.int .i64 n,s)
  |.slice _,.slice _ n _=>some (.int .i64 n,s)
  |.map _ _,.map none=>some (.int .i64 0,s)
  |.map _ _,.map (some r)=>z4s (s.readMap r)
  |_,_=>none)
 |none=>none
def srcT (Γ:Env) (t:gm):Bool:=match Γ.ti.at t with
 |some i=>(match i.desc with|.slice _=>true|.string=>true|_=>false)
 |none=>false
def zfy (P:gn) (Γ:Env) (ρ:f7->Value) (o:Oper) (s:CS) (b:Builtin) (args:List f7) (ts:List gm):Option (Value×CS) :=
 match b with
 |.append=>(match args,ts with | [x,y],[t,tx]=>sel (srcT Γ tx) (zc2 Γ s t (ρ y) (ρ x)) none|_,_=>none)
 |.clear=>(match args,ts with | [x],[t]=>zov Γ s t (ρ x)|_,_=>none)
 |.len=>(match args,ts with | [x],[t]=>zmi Γ s t (ρ x)|_,_=>none)
 |.min=>retC s (zm0 P ρ o)
 |.max=>retC s (zm0 P ρ o)
 |_=>none
def zoh (call:FuncId->List Value->CS->Option (Value×CS)) (s:CS) (args:List Value):Value->Option (Value×CS)
 |.func (.func f) first captured=>call f (first.toList++args++captured.toList) s
 |_=>none
def zw3 (s:CS) (a b:Value):Value->Option (Value×CS)
 |.bool t=>some (bif t then a else b,s)
 |_=>none
def cop (P:gn) (Γ:Env) (call:FuncId->List Value->CS->Option (Value×CS)) (ρ:f7->Value) (o:Oper) (s:CS):Option (Value×CS) :=
 match o.op with
 |.move x=>some (ρ x,s)
 |.assign x=>some (ρ x,s)
 |.pick c a b=>zw3 s (ρ a) (ρ b) (ρ c)
 |.alloc e=>zm6 Γ s e
 |.box _ x=>ptrC (s.newRow 0 (ρ x).cells.toList)
 |.build t parts=>zkn Γ s ρ t parts.toList
 |.buildSlice t n parts=>zcf Γ s ρ t n parts.toList
 |.load t x=>zrs Γ s t (ρ x)
 |.store t x v=>zm4 Γ s t (ρ v).cells.toList (ρ x)
 |.makeFunc fn first captured=>some (.func fn (first.map ρ) (captured.map ρ),s)
 |.makeSlice t l c=>ze6 Γ s t (zhq (ρ l)) (zhq (ρ c))
 |.slice t x lo hi mx=>zdj Γ s t (ρ x) (lo.map ρ) (hi.map ρ) (mx.map ρ)
 |.fieldAddr t x k=>zd6 Γ s t k (ρ x)
 |.indexAddr t x ix=>zb8 Γ s t (ρ x) (zhq (ρ ix))
 |.index t x ix=>zkm Γ s t (ρ x) (zhq (ρ ix))
 |.extract x k=>zin s k (ρ x)
 |.unOp op _ x=>zhp P ρ o s (unC op (ρ x))
 |.convert src dst x=>zdz P Γ ρ o s src dst (ρ x)
 |.binOp op t x y _=>zmj P Γ ρ o s t op (ρ x) (ρ y)
 |.call c=>match c.callee with
  |.value f=>zoh call s (c.args.toList.map ρ) (ρ f)
  |.builtin b=>zfy P Γ ρ o s b c.args.toList c.argTypes.toList
  |_=>none
 |_=>none
def putC (fr:Fr) (d:Option Tmp) (v:Value):Fr:=match d with|some d=>fr.put d v|none=>fr
def zo0 (ops:List Oper) (j:Nat):Option Tmp:=match ops[j]? with|some o=>o.dst|none=>none
def zc8 (ops:List Oper) (fr:Fr) (o:Oper):Bool :=
 match o.guard with
 |none=>true
 |some (j,want)=>match zo0 ops j with
  |some d=>(match fr.get d with|.bool b=>b == want|_=>false)
  |none=>false
abbrev zed:=FuncId->List Value->CS->Option (Value×CS)
def zcs (P:gn) (Γ:Env) (call:zed) (ops:List Oper) (o:Oper) (fr:Fr) (s:CS):Option (Fr×CS) :=
 bif zc8 ops fr o then match cop P Γ call (zg6 fr) o s with
  |some (v,s)=>some (putC fr o.dst v,s)
  |none=>none
 else some (putC fr o.dst undef,s)
def runC (P:gn) (Γ:Env) (call:zed) (ops:List Oper):List Oper->Fr->CS->Option (Fr×CS)
 |[],fr,s=>some (fr,s)
 |o :: l,fr,s=>match zcs P Γ call ops o fr s with
  |some (fr,s)=>runC P Γ call ops l fr s
  |none=>none
structure Lg where
 rd:List Nat
 wr:List Nat
 lo:Nat
 hi:Nat
def CS.inner (s:CS):CS:={ s with lim:=s.n,rd:=[],wr:=[] }
def CS.outer (s t:CS):CS:={ t with lim:=s.lim,rd:=zui s.lim s.rd t.rd,wr:=zui s.lim s.wr t.wr }
def drawC (P:gn) (Γ:Env) (call:zed) (ops:List Oper):List Oper->Fr->CS->Option (List Lg×Fr×CS)
 |[],fr,s=>some ([],fr,s)
 |o :: l,fr,s=>match zcs P Γ call ops o fr s.inner with
  |some (fr,t)=>(match drawC P Γ call ops l fr (s.outer t) with
   |some (logs,fr,s')=>some (⟨t.rd,t.wr,s.n,t.n⟩ :: logs,fr,s')
   |none=>none)
  |none=>none
def nth {α:Type} (d:α):List α->Nat->α
 |[],_=>d
 |x :: _,0=>x
 |_ :: l,i+1=>nth d l i
def zoi (ms:List Nat):List Edge->Nat
 |[]=>0
 |e :: l=>bif Region.binds .any e then Nat.lor (Nat.lor (Nat.pow 2 e.on) (nth 0 ms e.on)) (zoi ms l) else zoi ms l
def zdn:List Oper->List Nat->List Nat
 |[],ms=>ms
 |o :: l,ms=>zdn l (ms++[zoi ms o.after.toList])
def meet (a b:List Nat):Bool:=a.any (has b)
def zv6 (lo hi:Nat) (l:List Nat):Bool:=l.any fun f=>h9 lo f && ic f hi
def clash (x y:Lg):Bool:=meet x.wr y.rd || meet x.wr y.wr || meet x.rd y.wr || zv6 x.lo x.hi y.rd || zv6 x.lo x.hi y.wr
def zid {α:Type} (bad:α->α->Bool) (m:Nat) (y:α):List α->Nat->Bool
 |[],_=>true
 |x :: l,i=>(Nat.testBit m i || !bad x y) && zid bad m y l (i+1)
def zgo {α:Type} (bad:α->α->Bool):List α->List α->List Nat->Bool
 |_,[],_=>true
 |done,y :: l,ms=>zid bad (nth 0 ms done.length) y done 0 && zgo bad (done++[y]) l ms
def calm (n0:Nat) (ops:List Oper) (logs:List Lg):Bool :=
 bif logs.all (fun x=>x.wr.isEmpty && x.rd.all fun f=>ic f n0) then true else zgo clash [] logs (zdn ops [])
def zff (ops:List Oper) (o:Oper):List Nat :=
 (o.op.operands.toList.filterMap fun x=>match x with|.tmp t=>some t|_=>none)++(match o.guard with
  |some (g,_)=>(match zo0 ops g with|some d=>[d]|none=>[])
  |none=>[])
def zwb (ops:List Oper) (x y:Oper):Bool :=
 (match x.dst with|some d=>has (zff ops y) d || (match y.dst with|some e=>fy e d|none=>false)|none=>false) ||
 (match y.dst with|some d=>has (zff ops x) d|none=>false)
def zz3:List Oper->Nat->Bool
 |[],_=>true
 |o :: l,i=>(o.after.toList.all fun e=>!Region.binds .any e || ic e.on i) && zz3 l (i+1)
def tidy (ops:List Oper):Bool:=zz3 ops 0 && zgo (zwb ops) [] ops (zdn ops [])
def zlg (G:List Nat):f7->Bool
 |.tmp _=>true
 |.const v=>yfm v
 |.global g=>has G g
 |.func _=>true
def zm3 (G:List Nat) (nt:Nat) (o:Oper):Bool :=
 o.op.operands.toList.all (zlg G) && (match o.dst with|some d=>ic d nt|none=>true)
def zgx (G:List Nat) (nt:Nat):Code->Bool
 |.region _ ops draw=>ops.toList.all (zm3 G nt) && (!draw || tidy ops.toList)
 |.seq a b=>zgx G nt a && zgx G nt b
 |.cond c a b=>zlg G c && zgx G nt a && zgx G nt b
 |.block _ b=>zgx G nt b
 |.loop b=>zgx G nt b
 |.scope b=>zgx G nt b
 |.rangeFunc g ps a b=>zlg G g && ps.toList.all (fun p=>ic p nt) && zgx G nt a && zgx G nt b
 |_=>true
def z7u (G:List Nat) (fn:Func):Bool :=
 h9 fn.ntmps 512 && !(fn.name == "runtime.NumGoroutine") && (match fn.body with | some b => zgx G fn.ntmps b | none => true)
def resC (Γ:Env) (fr:Fr) (s:CS):List ResultVar->Option (List Value×CS)
 |[]=>some ([],s)
 |.tmp t :: l=>match resC Γ fr s l with|some (vs,s)=>some (fr.get t :: vs,s)|none=>none
 |.cell a t :: l=>match fr.get a,Γ.ti.at t with
  |.pointer (some a),some i=>(match s.loadVar i a with
   |some (v,s)=>(match resC Γ fr s l with|some (vs,s)=>some (v :: vs,s)|none=>none)
   |none=>none)
  |_,_=>none
def tupC:List Value->Value
 |[v]=>v
 |vs=>.tuple vs.toArray
def zpq (fr:Fr):List Tmp->List Value->Fr
 |p :: ps,v :: vs=>zpq (fr.put p v) ps vs
 |_,_=>fr
def zds (run:Code->Fr->CS->Option (Exit×Fr×CS)) (key:CS->Option (List Nat×CS)) (k0:List Nat) (ps:List Tmp) (a b:Code) (fr:Fr):List (List Value)->CS->Option (Exit×CS)
 |[],s=>some (.normal,s)
 |x :: xs,s=>sel (fy x.length ps.length) (match run a (zpq fr ps x) s with
  |some (.normal,fr1,s1)=>(match run b fr1 s1 with
   |some (.normal,_,s2)=>(match key s2 with
    |some (k1,s3)=>sel (zh0 k0 k1) (zds run key k0 ps a b fr xs s3) none
    |none=>none)
   |some (.ret,_,s2)=>some (.ret,s2)
   |some (.exit i,_,s2)=>some (.exit i,s2)
   |_=>none)
  |_=>none) none
def zpo (run:Code->Fr->CS->Option (Exit×Fr×CS)) (it:Nat->Option It) (g:Value) (ps:List Tmp) (a b:Code) (fr:Fr) (s:CS):Option (Exit×Fr×CS) :=
 match g with
 |.func (.func gf) first caps=>(match it gf,first.toList with
  |some i,[]=>(match i.key caps.toList s with
   |some (k0,s1)=>(match zds run (i.key caps.toList) k0 ps a b fr (i.xs k0) s1 with
    |some (e,s2)=>some (e,fr,s2)
    |none=>none)
   |none=>none)
  |_,_=>none)
 |_=>none
def cm (P:gn) (Γ:Env):Nat->Code->Fr->CS->Option (Exit×Fr×CS)
 |0,_,_,_=>none
 |n+1,c,fr,s=>match c with
  |.skip=>some (.normal,fr,s)
  |.label _=>some (.normal,fr,s)
  |.region _ ops draw =>
   let call:zed:=fun f args s=>match Γ.ax f with
    |some h=>h args s
    |none=>match Γ.fn.at f with
     |some fn=>(match fn.body with
      |some body=>(match sel (h9 args.length fn.ntmps) (cm P Γ n body (Fr.ofArgs args 0 ⟨fn.ntmps,Tr.all undef 9⟩) s) none with
       |some (.normal,fr,s)=>(match resC Γ fr s fn.results.toList with|some (vs,s)=>some (tupC vs,s)|none=>none)
       |some (.ret,fr,s)=>(match resC Γ fr s fn.results.toList with|some (vs,s)=>some (tupC vs,s)|none=>none)
       |_=>none)
      |none=>none)
     |none=>none
   bif draw then match drawC P Γ call ops.toList ops.toList fr s with
    |some (logs,fr,t)=>bif calm s.n ops.toList logs then some (.normal,fr,t) else none
    |none=>none
   else match runC P Γ call ops.toList ops.toList fr s with
    |some (fr,s)=>some (.normal,fr,s)
    |none=>none
  |.seq a b=>match cm P Γ n a fr s with
   |some (.normal,fr,s)=>cm P Γ n b fr s
   |r=>r
  |.cond c t e=>match zg6 fr c with
   |.bool v=>cm P Γ n (bif v then t else e) fr s
   |_=>none
  |.block id b=>match cm P Γ n b fr s with
   |some (.exit i,fr,s)=>some (bif fy i id then .normal else .exit i,fr,s)
   |r=>r
  |.loop b=>match cm P Γ n b fr s with
   |some (.normal,fr,s)=>cm P Γ n (.loop b) fr s
   |r=>r
  |.exit id=>some (.exit id,fr,s)
  |.ret=>some (.ret,fr,s)
  |.scope b=>cm P Γ n b fr s
  |.rangeFunc g ps a b=>zpo (cm P Γ n) Γ.it (zg6 fr g) ps.toList a b fr s
  |_=>none
def ygm {α:Type} (f:Nat->Option α):Tab α:=Tr.of f 8 0 1
def tiOf (P:gn) (t:gm):Option TI :=
 match P.info? t,P.underlying t with
 |some i,some d=>(match i.zero with
  |some z=>sel (and (fy z.cells.toList.length i.size) (and (z.cells.toList.all yfm) (ybl d z))) (some ⟨d,i.size,i.bytes,z.cells.toList⟩) none
  |none=>none)
 |_,_=>none
abbrev Axs:=Nat->Option (List Value->CS->Option (Value×CS))
def i64N:Value->Option Nat
 |.int k (.ofNat m)=>sel (and (fy (ikN k) (ikN .i64)) (ic m 9223372036854775808)) (some m) none
 |_=>none
def zgt:Nat->List Value->Option (List Nat)
 |0,_=>some []
 |n+1,v :: l=>(match i64N v,zgt n l with
  |some m,some r=>some (m :: r)
  |_,_=>none)
 |_,[]=>none
def zkp (n:Nat) (s:CS):Value->Option (List Nat×CS)
 |.pointer (some a)=>(match s.readRow a with
  |some (cs,s1)=>(match zgt n (cs.drop a.off) with|some r=>some (r,s1)|none=>none)
  |none=>none)
 |_=>none
def lz16 (w:Nat):Nat:=Nat.sub 15 (Nat.log2 w)
def zvc:Nat->Nat->List Nat
 |0,_=>[]
 |f+1,w=>sel (fy w 0) [] (lz16 w :: zvc f (Nat.sub w (Nat.pow 2 (Nat.log2 w))))
def zou:Nat->List Nat->List Nat->List Nat
 |i,a :: l,b :: m=>(zvc 17 (Nat.mod (Nat.sub a (Nat.land a b)) 65536)).map (Nat.add (pi 16 i))++zou (i+1) l m
 |_,_,_=>[]
def zj8:It where
 key:=fun caps s=>match caps with
  |[p,q]=>(match zkp 10 s p with
   |some (l,s1)=>(match zkp 10 s1 q with|some (m,s2)=>some (l++m,s2)|none=>none)
   |none=>none)
  |_=>none
 xs:=fun k=>(zou 0 (k.take 10) (k.drop 10)).map fun n=>[.int .i64 (.ofNat n)]
def zkq:Nat->List Value->Option (List Nat)
 |0,_=>some []
 |n+1,cs=>(match zgt 10 (cs.drop 1),zkq n (cs.drop 23) with
  |some l,some r=>some (l++r)
  |_,_=>none)
def zre (s:CS):Value->Option (List Nat×CS)
 |.slice _ 0 _=>some ([0],s)
 |.slice (some a) (n+1) _=>(match s.readRow a with
  |some (cs,s1)=>(match zkq (n+1) (cs.drop a.off) with|some l=>sel (ic (n+1) 1000000000) (some ((n+1) :: l,s1)) none|none=>none)
  |none=>none)
 |_=>none
def zes (l:List Nat) (i:Nat):List Nat:=(l.drop (10*i)).take 10
def zvu (kind i k:Nat):List Value:=[.agg #[.int .i64 (.ofNat kind),.int .i64 (.ofNat i),.int .i64 (.ofNat k)]]
def zi5 (l:List Nat) (k:Nat):Nat->List (List Value)
 |0=>[]
 |i+1=>zi5 l k i++sel (zh0 (zes l i) (zes l k)) [zvu 2 i k,zvu 3 i k] []
def zcw (l:List Nat):Nat->List (List Value)
 |0=>[]
 |k+1=>zcw l k++zi5 l k k
def ziz:Nat->List (List Value)
 |0=>[]
 |i+1=>ziz i++[zvu 1 i 0]
def zg5:It where
 key:=fun caps s=>match caps with
  |[.pointer (some a)]=>(match s.readRow a with
   |some (cs,s1)=>(match cs.drop a.off with
    |v :: _=>zre s1 v
    |[]=>none)
   |none=>none)
  |_=>none
 xs:=fun k=>match k with
  |n :: l=>ziz n++zcw l n
  |[]=>[]
def itOf (P:gn):Nat->Option It:=fun f=>sel (fy f 93) (some zj8) (sel (fy f 66) (some zg5) none)
def z4w (P:gn) (L:List Nat):Nat->Option It:=fun f=>sel (has L f) (itOf P f) none
def zhs (P:gn) (L:List Nat) (ax:Axs):Env:=⟨ygm (tiOf P),ygm fun f=>sel (has L f) P.funcs[f]? none,ax,z4w P L⟩
def zng (P:gn) (G L:List Nat):Bool:=L.all fun f=>match P.funcs[f]? with|some fn=>z7u G fn|none=>true
def zfh (P:gn) (Γ:Env) (n:Nat):zed:=fun f args s=>match Γ.ax f with
 |some h=>h args s
 |none=>match Γ.fn.at f with
  |some fn=>(match fn.body with
   |some body=>(match sel (h9 args.length fn.ntmps) (cm P Γ n body (Fr.ofArgs args 0 ⟨fn.ntmps,Tr.all undef 9⟩) s) none with
    |some (.normal,fr,s)=>(match resC Γ fr s fn.results.toList with|some (vs,s)=>some (tupC vs,s)|none=>none)
    |some (.ret,fr,s)=>(match resC Γ fr s fn.results.toList with|some (vs,s)=>some (tupC vs,s)|none=>none)
    |_=>none)
   |none=>none)
  |none=>none
def axC (Γ:Env):zed:=fun f args s=>match Γ.ax f with
 |some h=>h args s
 |none=>none
def cs0:CS:=⟨0,.inl (Tr.all ⟨true,[],none⟩ 14),0,[],[]⟩
end
section
open Go
theorem zbe {α:Type} (x y:α):sel true x y=x:=rfl
theorem z0y {α:Type} (x y:α):sel false x y=y:=rfl
theorem zcl {α:Type} (b:Bool) (x y:α):sel b x y=if b=true then x else y:=by cases b<;>rfl
theorem zad {a b:Nat}:ic a b=true↔a<b:=by unfold ic;rw [Nat.ble_eq];exact Iff.rfl
theorem zav {a b:Nat}:h9 a b=true↔a<=b:=by rw [Nat.ble_eq]
theorem yd7 {i j:Nat} (h:i≠j) (hm:i % 2=j % 2):i / 2≠j / 2:=by omega
theorem Tr.get_succ {α:Type} (d:Nat) (t:Tr α (d+1)) (i:Nat):Tr.get (d+1) t i=if i % 2=0 then Tr.get d t.1 (i / 2) else Tr.get d t.2 (i / 2):=by
 show (Bool.rec (motive:=fun _=>α) (Tr.get d t.2 (i / 2)) (Tr.get d t.1 (i / 2)) (fy (i % 2) 0):α)=_;by_cases h:i % 2=0
 .rw [zAc h,h];rfl
 .rw [zAd h,show i % 2=1 by omega];rfl
theorem Tr.set_succ {α:Type} (v:α) (d:Nat) (t:Tr α (d+1)) (i:Nat):Tr.set v (d+1) t i=if i % 2=0 then q9 (Tr.set v d t.1 (i / 2)) t.2 else q9 t.1 (Tr.set v d t.2 (i / 2)):=by
 show (Bool.rec (motive:=fun _=>Tr α (d+1)) (q9 t.1 (Tr.set v d t.2 (i / 2))) (q9 (Tr.set v d t.1 (i / 2)) t.2) (fy (i % 2) 0):Tr α (d+1))=_;by_cases h:i % 2=0
 .rw [zAc h,h];rfl
 .rw [zAd h,show i % 2=1 by omega];rfl
theorem Tr.get_set_same {α:Type} (v:α) (d:Nat):∀ (t:Tr α d) (i:Nat),Tr.get d (Tr.set v d t i) i=v:=by
 induction d with
 |zero=>intro t i;rfl
 |succ d ih =>
  intro t i;rw [Tr.get_succ,Tr.set_succ];by_cases h:i % 2=0
  .rw [zAc h,zAc h];exact ih _ _
  .rw [zAd h,zAd h];exact ih _ _
theorem Tr.get_set_other {α:Type} (v:α) (d:Nat):∀ (t:Tr α d) (i j:Nat),i≠j->i<2 ^ d->j<2 ^ d->Tr.get d (Tr.set v d t i) j=Tr.get d t j:=by
 induction d with
 |zero=>intro t i j h hi hj;simp at hi hj;omega
 |succ d ih =>
  intro t i j h hi hj;rw [Tr.get_succ,Tr.get_succ,Tr.set_succ];have hp:2 ^ (d+1)=2*2 ^ d:=by rw [Nat.pow_succ];omega
  by_cases hi2:i % 2=0<;>by_cases hj2:j % 2=0
  .rw [zAc hi2,zAc hj2,zAc hj2];exact ih _ _ _ (yd7 h (by omega)) (by omega) (by omega)
  .rw [zAc hi2,zAd hj2,zAd hj2]
  .rw [zAd hi2,zAc hj2,zAc hj2]
  .rw [zAd hi2,zAd hj2,zAd hj2];exact ih _ _ _ (yd7 h (by omega)) (by omega) (by omega)
theorem Tr.get_all {α:Type} (v:α) (d:Nat):∀ i,Tr.get d (Tr.all v d) i=v:=by
 induction d with
 |zero=>intro i;rfl
 |succ d ih =>
  intro i;rw [Tr.get_succ];split
  .exact ih _
  .exact ih _
theorem Tr.get_of {α:Type} (f:Nat->α) (d:Nat):∀ k w i,i<2 ^ d->Tr.get d (Tr.of f d k w) i=f (k+w*i):=by
  induction d with
  | zero => intro k w i h; have : i = 0 := by simp at h; omega
            subst this;simp;rfl
  |succ d ih =>
    intro k w i h;have hp:2 ^ (d+1)=2*2 ^ d:=by rw [Nat.pow_succ];omega
    rw [Tr.get_succ];by_cases h2:i % 2=0
    . rw [zAc h2];show Tr.get d (Tr.of f d k (2*w)) (i / 2)=_;rw [ih _ _ _ (by omega)];congr 1;have:i=2*(i / 2):=by omega
      calc k+2*w*(i / 2)=k+w*(2*(i / 2)):=by rw [Nat.mul_comm 2 w,Nat.mul_assoc]
        _=k+w*i:=by rw [<- this]
    . rw [zAd h2];show Tr.get d (Tr.of f d (k+w) (2*w)) (i / 2)=_;rw [ih _ _ _ (by omega)];congr 1;have:i=2*(i / 2)+1:=by omega
      calc k+w+2*w*(i / 2)=k+w*(2*(i / 2)+1):=by rw [Nat.mul_comm 2 w,Nat.mul_assoc,Nat.mul_add];omega
        _=k+w*i:=by rw [<- this]
theorem Tab.at_mk {α:Type} (f:Nat->Option α) (i:Nat) (a:α) (h:Tab.at (ygm f) i=some a):f i=some a:=by
 unfold Tab.at at h;rw [zcl] at h;split at h
 .rename_i hi;have hi':i<256:=zad.1 hi;unfold ygm at h;rw [Tr.get_of f 8 0 1 i (by simpa using hi')] at h;simpa using h
 .exact absurd h (by simp)
def ze7:Fam:=⟨true,[],none⟩
theorem zd7 {t:Sto} {i:Nat} (x:Fam) (h:zmb t i=true):zaa (zbi t i x) i=x:=by
 cases t with
 |inr g =>
  show sel (fy i i) x (g i)=x;rw [Nat.beq_refl,zcl,zAc rfl]
 |inl t =>
 unfold zaa zbi;show sel _ (Tr.get 14 (Tr.set x 14 t i) i) _=x;rw [zcl,zAc (show ic i 16384=true from h)];exact Tr.get_set_same _ _ _ _
theorem za2 {t:Sto} {i j:Nat} (x:Fam) (h:zmb t i=true) (hij:i≠j):zaa (zbi t i x) j=zaa t j:=by
 cases t with
 |inr g =>
  show sel (fy j i) x (g j)=g j;rw [zcl,zAd (fun k=>hij (fl k).symm)]
 |inl t =>
 have h:i<16384:=zad.1 h;unfold zaa zbi;show sel _ (Tr.get 14 (Tr.set x 14 t i) j) _=sel _ (Tr.get 14 t j) _;rw [zcl,zcl];by_cases hj:j<16384
 .rw [zAc (zad.2 hj),zAc (zad.2 hj)];exact Tr.get_set_other _ 14 _ _ _ hij (by simpa using h) (by simpa using hj)
 .rw [zAd (fun k=>hj (zad.1 k)),zAd (fun k=>hj (zad.1 k))]
abbrev Sg:=Nat->Nat->Option (Nat×Nat×Nat)
def RL (R:Value->Value->Prop):List Value->List Value->Prop
 |[],[]=>True
 |x :: l,y :: m=>R x y/\RL R l m
 |_,_=>False
theorem RL.mono {R R':Value->Value->Prop} (h:∀ x y,R x y->R' x y):∀ {l m:List Value},RL R l m->RL R' l m
 |[],[],_=>trivial
 |_ :: _,_ :: _,⟨a,b⟩=>⟨h _ _ a,RL.mono h b⟩
 |[],_ :: _,h=>h.elim
 |_ :: _,[],h=>h.elim
theorem RL.length {R:Value->Value->Prop}:∀ {l m:List Value},RL R l m->l.length=m.length
 |[],[],_=>rfl
 |_ :: l,_ :: m,⟨_,b⟩=>by simp [RL.length b]
 |[],_ :: _,h=>h.elim
 |_ :: _,[],h=>h.elim
theorem RL.at {R:Value->Value->Prop}:∀ {l m:List Value},RL R l m->∀ {i:Nat} {x:Value},l[i]?=some x->∃ y,m[i]?=some y/\R x y
 |x :: l,y :: m,⟨a,b⟩,0,z,h=>⟨y,rfl,by simp at h;exact h ▸ a⟩
 |x :: l,y :: m,⟨a,b⟩,i+1,z,h=>RL.at b (i:=i) (by simpa using h)
 |[],[],_,i,z,h=>by simp at h
 |[],_ :: _,h,_,_,_=>h.elim
 |_ :: _,[],h,_,_,_=>h.elim
theorem RL.of {R:Value->Value->Prop}:∀ {l m:List Value},l.length=m.length->(∀ (i:Nat) (x y:Value),l[i]?=some x->m[i]?=some y->R x y)->RL R l m
 |[],[],_,_=>trivial
 |x :: l,y :: m,hl,h=>⟨h 0 x y rfl rfl,RL.of (by simpa using hl) fun i a b ha hb=>h (i+1) a b (by simpa using ha) (by simpa using hb)⟩
 |[],_ :: _,hl,_=>by simp at hl
 |_ :: _,[],hl,_=>by simp at hl
theorem RL.append {R:Value->Value->Prop}:∀ {l m l' m':List Value},RL R l m->RL R l' m'->RL R (l++l') (m++m')
 |[],[],_,_,_,h=>h
 |_ :: _,_ :: _,_,_,⟨a,b⟩,h=>⟨a,RL.append b h⟩
 |[],_ :: _,_,_,h,_=>h.elim
 |_ :: _,[],_,_,h,_=>h.elim
theorem RL.take {R:Value->Value->Prop}:∀ {l m:List Value},RL R l m->∀ n,RL R (l.take n) (m.take n)
 |[],[],_,n=>by simp [RL]
 |_ :: _,_ :: _,_,0=>trivial
 |_ :: _,_ :: _,⟨a,b⟩,n+1=>⟨a,RL.take b n⟩
 |[],_ :: _,h,_=>h.elim
 |_ :: _,[],h,_=>h.elim
theorem RL.drop {R:Value->Value->Prop}:∀ {l m:List Value},RL R l m->∀ n,RL R (l.drop n) (m.drop n)
 |[],[],_,n=>by simp [RL]
 |_ :: _,_ :: _,h,0=>h
 |_ :: _,_ :: _,⟨_,b⟩,n+1=>RL.drop b n
 |[],_ :: _,h,_=>h.elim
 |_ :: _,[],h,_=>h.elim
theorem RL.map {R:Value->Value->Prop} {α:Type} {f g:α->Value}:∀ {l:List α},(∀ x∈l,R (f x) (g x))->RL R (l.map f) (l.map g)
 |[],_=>trivial
 |x :: l,h=>⟨h x (by simp),RL.map fun y hy=>h y (by simp [hy])⟩
def zo3 (σ:Sg) (R:Value->Value->Prop):Value->Value->Prop
  |.bool a,v=>v=.bool a
  |.int k n,v=>v=.int k n
  |.string s,v=>v=.string s
  |.pointer none,v=>v=.pointer none
  |.pointer (some a),v=>∃ b o z,σ a.block (Addr.ver a)=some (b,o,z)/\v=.pointer (some ⟨b,o+a.off,none⟩)
  |.slice none n c,v=>n=0/\c=0/\v=.slice none 0 0
  | .slice (some a) n c, v => ∃ b o z, σ a.block (Addr.ver a) = some (b, o, z) /\ ∃ a' c', v = .slice (some a') n c' /\ n <= c /\ c <= c' /\ c' <= maxLen /\ (c' ≠ 0 -> a' = ⟨b, o + a.off, none⟩) /\
      (Addr.ver a % 1024=0->c'=c)/\(Addr.ver a % 1024≠0->c'≠0->o+a.off+c'*(Addr.ver a % 1024 - 1)<=z)
  |.map none,v=>v=.map none
  |.map (some r),v=>∃ b o z,σ r (r*1024)=some (b,o,z)/\v=.map (some b)
  |.func fn xs ys,v=>∃ xs' ys',v=.func fn xs' ys'/\RL R xs.toList xs'.toList/\RL R ys.toList ys'.toList
  |.nilFunc,v=>v=.nilFunc
  |.iface t x,v=>∃ x',v=.iface t x'/\R x x'
  |.nilIface,v=>v=.nilIface
  |.agg xs,v=>∃ xs',v=.agg xs'/\RL R xs.toList xs'.toList
  |.tuple xs,v=>∃ xs',v=.tuple xs'/\RL R xs.toList xs'.toList
  |_,_=>False
def Sg.le (σ σ':Sg):Prop:=∀ f u p,σ f u=some p->σ' f u=some p
theorem zo3.mono {σ σ':Sg} (hσ:Sg.le σ σ') {R R':Value->Value->Prop} (hR:∀ x y,R x y->R' x y) {v v':Value} (h:zo3 σ R v v'):zo3 σ' R' v v':=by
 cases v with
 |bool a=>exact h
 |int k n=>exact h
 |string s=>exact h
 |pointer a=>cases a with
  |none=>exact h
  |some a=>obtain ⟨b,o,z,hs,hv⟩:=h;exact ⟨b,o,z,hσ _ _ _ hs,hv⟩
 |slice a n c=>cases a with
  |none=>exact h
  |some a=>obtain ⟨b,o,z,hs,hv⟩:=h;exact ⟨b,o,z,hσ _ _ _ hs,hv⟩
 |map r=>cases r with
  |none=>exact h
  |some r=>obtain ⟨b,o,z,hs,hv⟩:=h;exact ⟨b,o,z,hσ _ _ _ hs,hv⟩
 |func fn xs ys=>obtain ⟨xs',ys',hv,h1,h2⟩:=h;exact ⟨xs',ys',hv,h1.mono hR,h2.mono hR⟩
 |nilFunc=>exact h
 |iface t x=>obtain ⟨x',hv,h1⟩:=h;exact ⟨x',hv,hR _ _ h1⟩
 |nilIface=>exact h
 |agg xs=>obtain ⟨xs',hv,h1⟩:=h;exact ⟨xs',hv,h1.mono hR⟩
 |tuple xs=>obtain ⟨xs',hv,h1⟩:=h;exact ⟨xs',hv,h1.mono hR⟩
 |_=>exact h
def VR (σ:Sg) (v v':Value):Prop:=∀ R:Value->Value->Prop,(∀ x y,zo3 σ R x y->R x y)->R v v'
theorem VR.mk {σ:Sg} {v v':Value} (h:zo3 σ (VR σ) v v'):VR σ v v':=fun R hR=>hR _ _ (zo3.mono (fun _ _ _ h=>h) (fun _ _ k=>k R hR) h)
theorem VR.out {σ:Sg} {v v':Value} (h:VR σ v v'):zo3 σ (VR σ) v v':=h _ fun _ _ hs=>zo3.mono (fun _ _ _ h=>h) (fun _ _=>VR.mk) hs
theorem VR.mono {σ σ':Sg} (hσ:Sg.le σ σ') {v v':Value} (h:VR σ v v'):VR σ' v v':=h _ fun _ _ hs=>VR.mk (zo3.mono hσ (fun _ _ h=>h) hs)
theorem RL.up {σ σ':Sg} (hσ:Sg.le σ σ') {l m:List Value} (h:RL (VR σ) l m):RL (VR σ') l m:=h.mono fun _ _=>VR.mono hσ
theorem zia {σ:Sg}:∀ (n:Nat) {v:Value},za6 n v=true->VR σ v v:=by
 intro n
 induction n with
 |zero =>
  intro v h
  cases v<;>first|exact VR.mk rfl | (simp [za6] at h)
 |succ n ih =>
  intro v h
  cases v with
  |agg cs=>exact VR.mk ⟨cs,rfl,RL.of rfl fun i x y hx hy=>by rw [hx] at hy;cases hy;exact ih (by simp only [za6,ib] at h;exact h x (jl hx))⟩
  |tuple cs=>exact VR.mk ⟨cs,rfl,RL.of rfl fun i x y hx hy=>by rw [hx] at hy;cases hy;exact ih (by simp only [za6,ib] at h;exact h x (jl hx))⟩
  |iface t x=>exact VR.mk ⟨x,rfl,ih (by simpa [za6] using h)⟩
  |_=>first|exact VR.mk rfl | (simp [za6] at h)
theorem RL.eq {R:Value->Value->Prop}:∀ {l m:List Value},RL R l m->(∀ x∈l,∀ y,R x y->y=x)->m=l
 |[],[],_,_=>rfl
 |x :: l,y :: m,⟨a,b⟩,h=>by rw [h x (by simp) y a,RL.eq b fun z hz=>h z (by simp [hz])]
 |[],_ :: _,h,_=>h.elim
 |_ :: _,[],h,_=>h.elim
theorem z6s {σ:Sg}:∀ (n:Nat) {v v':Value},za6 n v=true->VR σ v v'->v'=v:=by
 intro n
 induction n with
 |zero =>
  intro v v' h hv;have:=hv.out
  cases v<;>first|exact this | (simp [za6] at h)
 |succ n ih =>
  intro v v' h hv;have:=hv.out
  cases v with
  |agg cs =>
   obtain ⟨xs',rfl,hl⟩:=this;have:=hl.eq fun x hx y hy=>ih (by simp only [za6,ib] at h;exact h x hx) hy;rw [n9.1 this]
  |tuple cs =>
   obtain ⟨xs',rfl,hl⟩:=this;have:=hl.eq fun x hx y hy=>ih (by simp only [za6,ib] at h;exact h x hx) hy;rw [n9.1 this]
  |iface t x =>
   obtain ⟨x',rfl,hx⟩:=this;rw [ih (by simpa [za6] using h) hx]
  |_=>first|exact this | (simp [za6] at h)
theorem z2o {α:Type} {P:gn}:∀ {m:Sem α} {x:α},za7 P m=some x->∀ w,m.run P w=.ok x w:=by
 intro m
 induction m with
 |pure a=>intro x h w;simp [za7] at h;subst h;rfl
 |program k ih=>intro x h w;exact ih P (by simpa [za7] using h) w
 |_=>intro x h;simp [za7] at h
end
section
open Go
def Up (w:World) (b:Nat):Prop:=∀ c e lo hi,w.heap[b]?=some (.cells c e (lo,hi))->lo<=hi
def zsa (σ:Sg) (w:World) (ro:Bool) (b o z:Nat) (cs:List Value):Prop :=
 o+cs.length<=z/\(∀ j,j<z->(w.cell? ⟨b,j,none⟩).isSome=true)/\(ro=false->(∀ j,j<z->w.frozen? ⟨b,j,none⟩=false)/\Up w b) /\
 (∀ (j:Nat) (u:Value),cs[j]?=some u->∃ u',w.cell? ⟨b,o+j,none⟩=some u'/\VR σ u u')
def EL (R:Value->Value->Prop):List (Value×Value)->List MapEntry->Prop
 |[],[]=>True
 |(k,v) :: l,e :: m=>e.key=k/\za6 3 k=true/\R v e.val/\EL R l m
 |_,_=>False
def z3n (σ:Sg) (w:World) (b:Nat) (es:List (Value×Value)):Prop:=∃ (ents:Array MapEntry) (clock:Nat),w.heap[b]?=some (.map ents clock)/\EL (VR σ) es ents.toList
def Desc (σ:Sg) (f:Nat):List (Nat×List Value)->Prop
 |[]=>True
 |q :: l=>(∀ p,p∈l->∀ b o z o' z',σ f q.1=some (b,o,z)->σ f p.1=some (b,o',z')->o'+p.2.length<=o+q.2.length)/\Desc σ f l
structure zjc (σ:Sg) (w:World) (f:Nat) (x:Fam):Prop where
 rows:∀ p,p∈x.rows->∀ b o z,σ f p.1=some (b,o,z)->zsa σ w x.ro b o z p.2
 desc:x.ro=false->Desc σ f x.rows
 es:∀ es,x.es=some es->∀ b o z,σ f (f*1024)=some (b,o,z)->z3n σ w b es
structure Rel (σ:Sg) (V:Nat->Prop) (s:CS) (w:World):Prop where
 inj:∀ f u b o z f' u' o' z',σ f u=some (b,o,z)->σ f' u'=some (b,o',z')->f=f'
 lt:∀ f u b o z,σ f u=some (b,o,z)->b<w.heap.size
 fam:∀ f,V f->zjc σ w f (zaa s.obj f)
 none:∀ f,s.n<=f->zaa s.obj f=ze7
 vers:∀ f p,p∈(zaa s.obj f).rows->p.1 / 1024<s.n
def ze8 (σ:Sg) (m n:Nat):Prop:=∀ f u,(m<=f/\f<n)\/(m<=u / 1024/\u / 1024<n)->σ f u=none
def Same (w w':World):Prop:=w'.os=w.os/\w'.tape=w.tape/\w'.output=w.output
theorem Same.refl (w:World):Same w w:=⟨rfl,rfl,rfl⟩
theorem Same.trans {a b c:World} (h:Same a b) (k:Same b c):Same a c:=⟨k.1.trans h.1,k.2.1.trans h.2.1,k.2.2.trans h.2.2⟩
structure Ext (σ:Sg) (V:Nat->Prop) (s:CS) (w:World) (σ':Sg) (s':CS) (w':World):Prop where
 le:Sg.le σ σ'
 new:∀ f u,σ f u=none->σ' f u≠none->s.n<=u / 1024/\u / 1024<s'.n/\f<s'.n/\(s.n<=f\/V f)
 old:∀ f u b o z,σ f u=none->σ' f u=some (b,o,z)->b<w.heap.size->∃ u0 o0 z0,σ f u0=some (b,o0,z0)/\V f/\(zaa s.obj f).ro=false
 size:w.heap.size<=w'.heap.size
 frame:∀ b,b<w.heap.size->(∀ f u o z,σ f u=some (b,o,z)->¬ V f\/(zaa s.obj f).ro=true)->w'.heap[b]?=w.heap[b]?
 st:Same w w'
structure Can (s s':CS):Prop where
 n:s.n<=s'.n
 lim:s'.lim=s.lim
 rd:∀ f,f∈s.rd->f∈s'.rd
 wr:∀ f,f∈s.wr->f∈s'.wr
 same:∀ f,f<s.n->f<s.lim->f ∉ s'.wr->zaa s'.obj f=zaa s.obj f
 ro:∀ f,f<s.n->(zaa s'.obj f).ro=(zaa s.obj f).ro
 none:(∀ f,s.n<=f->zaa s.obj f=ze7)->∀ f,s'.n<=f->zaa s'.obj f=ze7
 vers:(∀ f p,p∈(zaa s.obj f).rows->p.1 / 1024<s.n)->∀ f p,p∈(zaa s'.obj f).rows->p.1 / 1024<s'.n
 wlt:(∀ f,f∈s.wr->f<s.lim)->∀ f,f∈s'.wr->f<s'.lim
theorem Can.refl (s:CS):Can s s:=⟨fp _,rfl,fun _ h=>h,fun _ h=>h,fun _ _ _ _=>rfl,fun _ _=>rfl,fun h=>h,fun h=>h,fun h=>h⟩
theorem Can.trans {a b c:CS} (h:Can a b) (k:Can b c):Can a c :=
  ⟨jv h.n k.n,k.lim.trans h.lim,fun f hf=>k.rd f (h.rd f hf),fun f hf=>k.wr f (h.wr f hf),
   fun f hn hl hw=>(k.same f (gr hn h.n) (by rw [h.lim];exact hl) hw).trans (h.same f hn hl fun hb=>hw (k.wr f hb)),
   fun f hn=>(k.ro f (gr hn h.n)).trans (h.ro f hn),fun hd=>k.none (h.none hd),fun hd=>k.vers (h.vers hd),fun hd=>k.wlt (h.wlt hd)⟩
def zcm (V:Nat->Prop) (s:CS):Prop:=∀ f,(f∈s.rd\/f∈s.wr\/s.lim<=f)->V f
theorem zcm.back {V:Nat->Prop} {s s':CS} (h:zcm V s') (c:Can s s'):zcm V s:=fun f hf=>h f (by
 rcases hf with hf|hf|hf
 .exact .inl (c.rd f hf)
 .exact .inr (.inl (c.wr f hf))
 .exact .inr (.inr (by rw [c.lim];exact hf)))
theorem ze8.mono {σ:Sg} {m n m' n':Nat} (h:ze8 σ m n) (hm:m<=m') (hn:n'<=n):ze8 σ m' n':=fun f u hf=>h f u (by omega)
theorem ze8.next {σ σ':Sg} {V:Nat->Prop} {s s':CS} {w w':World} {n:Nat} (h:ze8 σ s.n n) (e:Ext σ V s w σ' s' w') (c:Can s s'):ze8 σ' s'.n n:=by
 intro f u hf;have h0:σ f u=Option.none:=h f u (by have:=c.n;omega)
 cases h1:σ' f u with
 |none=>rfl
 |some p =>
  have:=e.new f u h0 (by rw [h1];simp);omega
theorem Ext.refl (σ:Sg) (V:Nat->Prop) (s:CS) (w:World):Ext σ V s w σ s w :=
 ⟨fun _ _ _ h=>h,fun _ _ h k=>absurd h k,fun _ _ _ _ _ h k=>by rw [h] at k;simp at k,fp _,fun _ _ _=>rfl,Same.refl _⟩
theorem Ext.trans {σ σ1 σ2:Sg} {V:Nat->Prop} {s s1 s2:CS} {w w1 w2:World} (h:Ext σ V s w σ1 s1 w1) (k:Ext σ1 V s1 w1 σ2 s2 w2) (c:Can s s1) (c2:Can s1 s2) (hf:ze8 σ s.n s2.n) (hn:∀ f,s.n<=f->zaa s.obj f=ze7):Ext σ V s w σ2 s2 w2:=by
 have hro:∀ f u p,σ f u=some p->(zaa s1.obj f).ro=(zaa s.obj f).ro:=by
  intro f u p hp;by_cases hlt:f<s.n
  .exact c.ro f hlt
  .by_cases h2:f<s2.n
   .rw [hf f u (.inl ⟨by omega,h2⟩)] at hp;simp at hp
   .rw [hn f (by omega),c.none hn f (by have:=c2.n;omega)]
 refine ⟨fun f u p hp=>k.le f u p (h.le f u p hp),?_,?_,jv h.size k.size,?_,h.st.trans k.st⟩
 .intro f u h0 h2
  cases h1:σ1 f u with
  |none=>have q:=k.new f u h1 h2;have:=c.n;exact ⟨by omega,q.2.1,q.2.2.1,q.2.2.2.imp (fun x=>by omega) id⟩
  |some p=>have q:=h.new f u h0 (by rw [h1];simp);have:=c2.n;exact ⟨q.1,by omega,by omega,q.2.2.2⟩
 .intro f u b o z h0 h2 hb
  cases h1:σ1 f u with
  |none =>
   obtain ⟨u0,o0,z0,hs,hV,hr⟩:=k.old f u b o z h1 h2 (gr hb h.size)
   cases h3:σ f u0 with
   |none=>exact h.old f u0 b o0 z0 h3 hs hb
   |some p =>
    have:=h.le f u0 p h3;rw [hs] at this;cases this;exact ⟨u0,o0,z0,h3,hV,by rw [<- hro f u0 _ h3];exact hr⟩
  |some p =>
   have:=k.le f u p h1;rw [h2] at this;cases this;exact h.old f u b o z h0 h1 hb
 .intro b hb hq;rw [k.frame b (gr hb h.size) ?_,h.frame b hb hq];intro f u o z h1
  cases h0:σ f u with
  |some p =>
   have:=h.le f u p h0;rw [h1] at this;cases this;rcases hq f u o z h0 with hv|hr
   .exact .inl hv
   .exact .inr (by rw [hro f u _ h0];exact hr)
  |none =>
   obtain ⟨u0,o0,z0,hs,hV,hr⟩:=h.old f u b o z h0 h1 hb;rcases hq f u0 o0 z0 hs with hv|hr2
   .exact absurd hV hv
   .rw [hr] at hr2;simp at hr2
theorem zsa.up {σ σ':Sg} {w:World} {ro:Bool} {b o z:Nat} {cs:List Value} (h:zsa σ w ro b o z cs) (hs:Sg.le σ σ'):zsa σ' w ro b o z cs :=
 ⟨h.1,h.2.1,h.2.2.1,fun j u hj=>let ⟨u',h1,h2⟩:=h.2.2.2 j u hj;⟨u',h1,h2.mono hs⟩⟩
theorem zvv {w w':World} {b:Nat} (h:w'.heap[b]?=w.heap[b]?) (j:Nat):w'.frozen? ⟨b,j,none⟩=w.frozen? ⟨b,j,none⟩:=by unfold r8;rw [h]
theorem zsa.keep {σ:Sg} {w w':World} {ro:Bool} {b o z:Nat} {cs:List Value} (h:zsa σ w ro b o z cs) (hb:w'.heap[b]?=w.heap[b]?):zsa σ w' ro b o z cs :=
  ⟨h.1,fun j hj=>by rw [World.cell?_of_block (w:=w) hb];exact h.2.1 j hj,fun hr=>⟨fun j hj=>by rw [zvv hb];exact (h.2.2.1 hr).1 j hj,fun c e lo hi k=>(h.2.2.1 hr).2 c e lo hi (by rw [<- hb];exact k)⟩,
   fun j u hj=>let ⟨u',h1,h2⟩:=h.2.2.2 j u hj;⟨u',by rw [World.cell?_of_block (w:=w) hb];exact h1,h2⟩⟩
theorem EL.up {σ σ':Sg} (hs:Sg.le σ σ'):∀ {l:List (Value×Value)} {m:List MapEntry},EL (VR σ) l m->EL (VR σ') l m
 |[],[],_=>trivial
 |(_,_) :: _,_ :: _,⟨a,b,c,d⟩=>⟨a,b,c.mono hs,EL.up hs d⟩
 |[],_ :: _,h=>h.elim
 |_ :: _,[],h=>h.elim
theorem z3n.up {σ σ':Sg} {w:World} {b:Nat} {es:List (Value×Value)} (h:z3n σ w b es) (hs:Sg.le σ σ'):z3n σ' w b es :=
 let ⟨e,c,h1,h2⟩:=h;⟨e,c,h1,h2.up hs⟩
theorem z3n.keep {σ:Sg} {w w':World} {b:Nat} {es:List (Value×Value)} (h:z3n σ w b es) (hb:w'.heap[b]?=w.heap[b]?):z3n σ w' b es :=
 let ⟨e,c,h1,h2⟩:=h;⟨e,c,by rw [hb];exact h1,h2⟩
theorem zjr:∀ {l:List (Nat×List Value)} {u:Nat} {cs:List Value},zbp l u=some cs->(u,cs)∈l
 |(v,c) :: l,u,cs,h=>by
  simp only [zbp] at h
  cases hb:fy v u with
  |true=>rw [hb] at h;simp at h;have:=fl hb;simp [this,h]
  |false=>rw [hb] at h;exact np _ (zjr h)
theorem Desc.move {σ σ':Sg} {f:Nat}:∀ {l:List (Nat×List Value)},(∀ p,p∈l->σ' f p.1=σ f p.1)->Desc σ f l->Desc σ' f l
 |[],_,_=>trivial
 |q :: l,h,hd=>⟨fun p hp b o z o' z' h1 h2=>hd.1 p hp b o z o' z' (by rw [<- h q (by simp)];exact h1) (by rw [<- h p (by simp [hp])];exact h2),Desc.move (fun p hp=>h p (by simp [hp])) hd.2⟩
theorem zjc.move {σ σ':Sg} {w w':World} {f:Nat} {x:Fam} (h:zjc σ w f x) (hs:Sg.le σ σ') (hold:∀ u,(∃ cs,(u,cs)∈x.rows)\/u=f*1024->σ' f u=σ f u)
    (hb:∀ u b o z,σ f u=some (b,o,z)->w'.heap[b]?=w.heap[b]?):zjc σ' w' f x:=by
  refine ⟨?_,fun hro=>(h.desc hro).move fun p hp=>hold _ (.inl ⟨p.2,hp⟩),?_⟩
  . intro p hp b o z hσ;rw [hold p.1 (.inl ⟨p.2,hp⟩)] at hσ;exact ((h.rows p hp b o z hσ).up hs).keep (hb _ b o z hσ)
  . intro es he b o z hσ;rw [hold _ (.inr rfl)] at hσ;exact ((h.es es he b o z hσ).up hs).keep (hb _ b o z hσ)
theorem z4x {lim:Nat} {l:List Nat} {n f:Nat} (h:f∈l):f∈ins lim l n:=by
 unfold ins;cases ic n lim<;>simp
 .exact h
 .cases has l n<;>simp
  .exact .inr h
  .exact h
theorem zzv:∀ {l:List Nat} {n:Nat},has l n=true->n∈l
 |x :: l,n,h=>by
  simp only [has] at h
  cases hb:fy x n with
  |true=>have:=fl hb;simp [this]
  |false=>rw [hb] at h;exact np _ (zzv h)
theorem zpz {lim:Nat} {l:List Nat} {n:Nat}:n∈ins lim l n\/lim<=n:=by
 unfold ins
 cases hb:ic n lim with
 |false=>exact .inr (by rw [<- Nat.not_lt];intro k;rw [zad.2 k] at hb;simp at hb)
 |true =>
  left
  cases hh:has l n with
  |true=>exact zzv hh
  |false=>simp
theorem zow {lim:Nat} {l:List Nat} {n f:Nat} (h:f∈ins lim l n):f∈l\/(f=n/\f<lim):=by
 unfold ins at h;cases h1:ic n lim<;>rw [h1] at h
 .exact .inl h
 .have hlt:=zad.1 h1;cases h2:has l n<;>rw [h2] at h<;>simp at h
  .rcases h with h|h
   .exact .inr ⟨h,by omega⟩
   .exact .inl h
  .exact .inl h
end
theorem zdc {s s':CS} {a:Addr} {cs:List Value} (h:s.readRow a=some (cs,s')) :
    zbp (zaa s.obj a.block).rows (Addr.ver a)=some cs/\s'={ s with rd:=ins s.lim s.rd a.block }:=by
  unfold CS.readRow at h
  cases hr:zbp (zaa s.obj a.block).rows (Addr.ver a) with
  |none=>rw [hr] at h;simp at h
  |some c=>rw [hr] at h;simp at h;exact ⟨by rw [h.1],h.2.symm⟩
theorem z5e (s:CS) (f:Nat):Can s { s with rd:=ins s.lim s.rd f } :=
 ⟨fp _,rfl,fun _ h=>z4x h,fun _ h=>h,fun _ _ _ _=>rfl,fun _ _=>rfl,fun h=>h,fun h=>h,fun h=>h⟩
theorem Rel.log {σ:Sg} {V:Nat->Prop} {s:CS} {w:World} (h:Rel σ V s w) (rd:List Nat):Rel σ V { s with rd:=rd } w:=⟨h.inj,h.lt,h.fam,h.none,h.vers⟩
theorem Ext.log {σ:Sg} {V:Nat->Prop} {s:CS} {w:World} (rd:List Nat):Ext σ V s w σ { s with rd:=rd } w :=
 ⟨fun _ _ _ h=>h,fun _ _ h k=>absurd h k,fun _ _ _ _ _ h k=>by rw [h] at k;simp at k,fp _,fun _ _ _=>rfl,Same.refl _⟩
theorem znz {s s':CS} {a:Addr} {cs:List Value} (h:s.readRow a=some (cs,s')):Can s s':=by rw [(zdc h).2];exact z5e s _
theorem zzd {σ:Sg} {V:Nat->Prop} {s s':CS} {w:World} {a:Addr} {cs:List Value} (h:s.readRow a=some (cs,s')) (hr:Rel σ V s w):Rel σ V s' w:=by rw [(zdc h).2];exact hr.log _
theorem z6j {σ:Sg} {V:Nat->Prop} {s s':CS} {w:World} {a:Addr} {cs:List Value} (h:s.readRow a=some (cs,s')):Ext σ V s w σ s' w:=by rw [(zdc h).2];exact Ext.log _
theorem zpm {σ:Sg} {V:Nat->Prop} {s s':CS} {w:World} {a:Addr} {cs:List Value} (h:s.readRow a=some (cs,s')) (hr:Rel σ V s w) (hV:zcm V s') {b o z:Nat} (hσ:σ a.block (Addr.ver a)=some (b,o,z)) :
    zsa σ w (zaa s.obj a.block).ro b o z cs:=by
  obtain ⟨h1,rfl⟩:=zdc h;refine (hr.fam a.block (hV _ ?_)).rows _ (zjr h1) b o z hσ;rcases zpz (lim:=s.lim) (l:=s.rd) (n:=a.block) with h|h
  . exact .inl h
  . exact .inr (.inr h)
theorem zsa.part {σ:Sg} {w:World} {ro:Bool} {b o z:Nat} {cs l:List Value} {off k:Nat} (h:zsa σ w ro b o z cs) (hc:cut cs off k=some l) :
    ∃ l':List Value,l'.length=k/\(∀ j v,l'[j]?=some v->w.cell? ⟨b,o+off+j,none⟩=some v)/\RL (VR σ) l l':=by
  unfold cut at hc;dsimp only at hc
  cases hb:fy ((cs.drop off).take k).length k with
  |false=>rw [hb] at hc;simp at hc
  |true =>
    rw [hb] at hc;have hl:=fl hb;simp only [cond_true,fe] at hc;rw [hc] at hl;refine ⟨(List.range k).map fun j=>(w.cell? ⟨b,o+off+j,none⟩).getD undef,by simp,?_,RL.of (by simp [hl]) ?_⟩
    . intro j v hj;rw [lj] at hj;by_cases hjk:j<k
      . rw [n7 hjk] at hj;simp at hj;obtain ⟨x,hx⟩:∃ x,l[j]?=some x:=⟨_,fk (by omega)⟩;rw [<- hc] at hx;rw [mu,zAc hjk,lc] at hx;obtain ⟨u',hu,_⟩:=h.2.2.2 (off+j) _ hx;rw [oz] at hj ⊢;rw [hu] at hj ⊢;simp at hj;rw [hj]
      . rw [jw (by simp;omega)] at hj;simp at hj
    . intro i x y hx hy;have hik:i<k:=by have:=(ge.1 hx).1;omega
      rw [<- hc,mu,zAc hik,lc] at hx;obtain ⟨u',hu,hv⟩:=h.2.2.2 (off+i) _ hx;rw [lj,n7 hik] at hy;simp at hy;rw [oz,hu] at hy;simp at hy;rw [<- hy];exact hv
theorem zt6 {s s':CS} {a:Addr} {tag:Nat} {cs:List Value} (h:s.newRow tag cs=some (a,s')) :
    zmb s.obj s.n=true/\a=mkA s.n (s.n*1024+tag) 0/\s'={ s with n:=s.n+1,obj:=zbi s.obj s.n ⟨false,[(s.n*1024+tag,cs)],none⟩ }:=by
  unfold CS.newRow at h;rw [zcl] at h;split at h
  . rename_i hn;simp at h;exact ⟨hn,h.1.symm,h.2.symm⟩
  . simp at h
theorem yc1 {s s':CS} {x:Fam} (hn:zmb s.obj s.n=true) (hxv:∀ p,p∈x.rows->p.1 / 1024=s.n) (hs:s'={ s with n:=s.n+1,obj:=zbi s.obj s.n x }):Can s s':=by
 subst hs;refine ⟨by simp,rfl,fun _ h=>h,fun _ h=>h,fun f h _ _=>za2 _ hn (by omega),fun f h=>by show (zaa (zbi s.obj s.n x) f).ro=_;rw [za2 _ hn (by omega)],fun h f hf=>?_,fun h f p hp=>?_,fun h=>h⟩
 .show zaa (zbi s.obj s.n x) f=ze7;have:s.n+1<=f:=hf;rw [za2 _ hn (by omega)];exact h f (by omega)
 .show p.1 / 1024<s.n+1;have hp':p∈(zaa (zbi s.obj s.n x) f).rows:=hp;by_cases hfn:f=s.n
  .subst hfn;rw [zd7 _ hn] at hp';have:=hxv p hp';omega
  .rw [za2 _ hn (r7 hfn)] at hp';have:=h f p hp';omega
def Sg.add (σ:Sg) (f u:Nat) (p:Nat×Nat×Nat):Sg:=fun g v=>if g=f/\v=u then some p else σ g v
theorem Sg.add_same (σ:Sg) (f u:Nat) (p:Nat×Nat×Nat):σ.add f u p f u=some p:=by simp [Sg.add]
theorem Sg.add_other (σ:Sg) {f u g v:Nat} (p:Nat×Nat×Nat) (h:¬ (g=f/\v=u)):σ.add f u p g v=σ g v:=by simp [Sg.add,h]
theorem Sg.le_add {σ:Sg} {f u:Nat} {p:Nat×Nat×Nat} (h:σ f u=none):Sg.le σ (σ.add f u p):=by
 intro g v q hq;rw [Sg.add_other]
 .exact hq
 .rintro ⟨rfl,rfl⟩;rw [h] at hq;simp at hq
theorem yls {σ:Sg} {V:Nat->Prop} {s:CS} {w w':World} {x:Fam} {u:Nat} {p:Nat×Nat×Nat} (hn:zmb s.obj s.n=true) (hr:Rel σ V s w) (hF:∀ f v,(f=s.n\/v / 1024=s.n)->σ f v=none) (hu:u / 1024=s.n)
    (hp:p.1=w.heap.size) (hst:Same w w') (hw:w'.heap.size=w.heap.size+1) (hk:∀ k,k<w.heap.size->w'.heap[k]?=w.heap[k]?) (hx:zjc (σ.add s.n u p) w' s.n x) (hxv:∀ p,p∈x.rows->p.1 / 1024=s.n) :
    Rel (σ.add s.n u p) V { s with n:=s.n+1,obj:=zbi s.obj s.n x } w'/\Ext σ V s w (σ.add s.n u p) { s with n:=s.n+1,obj:=zbi s.obj s.n x } w':=by
  have h0:σ s.n u=none:=hF s.n u (.inl rfl);have hle:=Sg.le_add (p:=p) h0
  have hcase:∀ f v b o z,σ.add s.n u p f v=some (b,o,z)->(f=s.n/\v=u/\b=w.heap.size)\/(σ f v=some (b,o,z)/\b<w.heap.size):=by
    intro f v b o z h;by_cases hc:f=s.n/\v=u
    . obtain ⟨rfl,rfl⟩:=hc;rw [Sg.add_same] at h;cases h;exact .inl ⟨rfl,rfl,hp⟩
    . rw [Sg.add_other _ _ hc] at h;exact .inr ⟨h,hr.lt _ _ _ _ _ h⟩
  refine ⟨⟨?_,?_,?_,?_,?_⟩,⟨hle,?_,?_,by omega,fun b hb _=>hk b hb,hst⟩⟩
  . intro f v b o z f' v' o' z' h1 h2;rcases hcase _ _ _ _ _ h1 with ⟨rfl,rfl,hb⟩|⟨h3,hb⟩<;>rcases hcase _ _ _ _ _ h2 with ⟨h5,h6,hb2⟩|⟨h4,hb2⟩
    . exact h5.symm
    . omega
    . omega
    . exact hr.inj _ _ _ _ _ _ _ _ _ h3 h4
  . intro f v b o z h;rcases hcase _ _ _ _ _ h with ⟨_,_,hb⟩|⟨_,hb⟩<;>omega
  . intro f hf;by_cases hfn:f=s.n
    . subst hfn;show zjc _ _ _ (zaa (zbi s.obj s.n x) s.n);rw [zd7 _ hn];exact hx
    . show zjc _ _ _ (zaa (zbi s.obj s.n x) f);rw [za2 _ hn (r7 hfn)];refine (hr.fam f hf).move hle (fun v _=>Sg.add_other _ _ (fun h=>hfn h.1)) (fun v b o z h=>hk b (hr.lt _ _ _ _ _ h))
  . intro f hf;show zaa (zbi s.obj s.n x) f=ze7;have:s.n+1<=f:=hf;rw [za2 _ hn (by omega)];exact hr.none f (by omega)
  . intro f p hp;show p.1 / 1024<s.n+1;have hp':p∈(zaa (zbi s.obj s.n x) f).rows:=hp;by_cases hfn:f=s.n
    . subst hfn;rw [zd7 _ hn] at hp';have:=hxv p hp';omega
    . rw [za2 _ hn (r7 hfn)] at hp';have:=hr.vers f p hp';omega
  . intro f v h0 h1;by_cases hc:f=s.n/\v=u
    . obtain ⟨rfl,rfl⟩:=hc;exact ⟨by omega,by simp only;omega,by simp only;omega,.inl (fp _)⟩
    . rw [Sg.add_other _ _ hc] at h1;exact absurd h0 h1
  . intro f v b o z h0 h1 hb;rcases hcase _ _ _ _ _ h1 with ⟨_,_,hb2⟩|⟨h3,_⟩
    . omega
    . rw [h0] at h3;simp at h3
theorem zoa {w:World} {c:Array Value} {e:gm} {fr:Nat×Nat} (j:Nat):(w.alloc (.cells c e fr)).cell? ⟨w.heap.size,j,none⟩=c[j]?:=by
 rw [cell_of_row _ _ _ c e fr (heap_alloc_new w _)]
theorem zyg (w:World) (o:Obj) (k:Nat) (hk:k<w.heap.size):(w.alloc o).heap[k]?=w.heap[k]?:=Below.heap_alloc w o k hk
theorem zjj {σ:Sg} {V:Nat->Prop} {s s':CS} {w w0:World} {a:Addr} {tag:Nat} {cs:List Value} (h:s.newRow tag cs=some (a,s')) (hr:Rel σ V s w) (hF:ze8 σ s.n s'.n) (ht:tag<1024)
    (hw00:w0.heap=w.heap/\Same w w0) (c:Array Value) (e:gm) (fr:Nat×Nat) (hfr:∀ j,j<c.size->¬ (fr.1<=j/\j<fr.2)) (cs' more:List Value) (hc:c.toList=cs'++more) (hl:RL (VR σ) cs cs') (hup:fr.1<=fr.2:=by first|decide|simp) :
    let σ':=σ.add s.n (s.n*1024+tag) (w.heap.size,0,c.size)
    a=mkA s.n (s.n*1024+tag) 0/\Can s s'/\Rel σ' V s' (w0.alloc (.cells c e fr))/\Ext σ V s w σ' s' (w0.alloc (.cells c e fr))/\σ' a.block (Addr.ver a)=some (w.heap.size,0,c.size):=by
  obtain ⟨hn,rfl,rfl⟩:=zt6 h;obtain ⟨hw0,hst⟩:=hw00;intro σ';have hF':∀ f v,(f=s.n\/v / 1024=s.n)->σ f v=none:=fun f v hv=>hF f v (by simp;omega);have hsz:w0.heap.size=w.heap.size:=by rw [hw0]
  have hx:zjc σ' (w0.alloc (.cells c e fr)) s.n ⟨false,[(s.n*1024+tag,cs)],none⟩:=by
    refine ⟨?_,fun _=>⟨fun p hp=>by simp at hp,trivial⟩,fun es he=>by simp at he⟩;intro p hp b o z hσ;simp at hp;subst hp
    . have hσ':σ.add s.n (s.n*1024+tag) (w.heap.size,0,c.size) s.n (s.n*1024+tag)=some (b,o,z):=hσ;rw [Sg.add_same] at hσ';cases hσ'
      have hlen:cs.length+more.length=c.size:=by
        rw [hl.length,<- fx,<- hc,jr]
      refine ⟨by simp only;omega,?_,?_,?_⟩
      . intro j hj;rw [<- hsz,zoa j];simp [hj]
      . intro _;have hb:=heap_alloc_new w0 (.cells c e fr);refine ⟨fun j hj=>?_,fun c1 e1 lo hi k=>?_⟩
        case refine_2=>rw [<- hsz,hb] at k;cases k;exact hup
        unfold r8;rw [<- hsz,hb];have:=hfr j hj;obtain ⟨lo,hi⟩:=fr;simp only [Bool.and_eq_false_iff,decide_eq_false_iff_not];by_cases h1:lo<=j
        . exact .inr fun h2=>this ⟨h1,h2⟩
        . exact .inl h1
      . intro j u hj;obtain ⟨u',hu,hv⟩:=hl.at hj;refine ⟨u',?_,hv.mono (Sg.le_add (hF' _ _ (.inl rfl)))⟩;rw [<- hsz,i5,zoa j,<- ki,hc,gi (ge.1 hu).1];exact hu
  have:=yls (w':=w0.alloc (.cells c e fr)) hn hr hF' (u:=s.n*1024+tag) (by omega) (p:=(w.heap.size,0,c.size)) rfl hst (by simp [hsz]) (fun k hk=>by rw [zyg w0 _ k (by omega),hw0]) hx (by intro p hp;simp at hp;subst hp;simp;omega);exact ⟨rfl,yc1 hn (by intro p hp;simp at hp;subst hp;simp;omega) rfl,this.1,this.2,Sg.add_same _ _ _ _⟩
theorem zg3 (b:Nat):∀ (vs:List Value) (o:Nat) (w:World) (k:Nat),k≠b->(w.setCells b o vs).heap[k]?=w.heap[k]?
 |[],_,_,_,_=>rfl
 |v :: r,o,w,k,h=>by
  rw [World.setCells,zg3 b r (o+1) _ k h];simp [World.setCell,o5,r7 h]
theorem zhn (b:Nat):∀ (vs:List Value) (o:Nat) (w:World),(w.setCells b o vs).heap.size=w.heap.size
 |[],_,_=>rfl
 |v :: r,o,w=>by rw [World.setCells,zhn b r (o+1)];simp [World.setCell]
theorem zlr (b:Nat):∀ (vs:List Value) (o:Nat) (w:World),Same w (w.setCells b o vs)
 |[],_,_=>Same.refl _
 |v :: r,o,w=>by
  rw [World.setCells];exact Same.trans (b:=w.setCell ⟨b,o,none⟩ v) ⟨rfl,rfl,rfl⟩ (zlr b r (o+1) _)
theorem zph {cs vs:List Value} {off:Nat} (h:off+vs.length<=cs.length):(splice cs off vs).length=cs.length:=by
 unfold splice;simp;omega
theorem ztf {cs vs:List Value} {off:Nat} (h:off+vs.length<=cs.length) (j:Nat):(splice cs off vs)[j]?=if off<=j/\j<off+vs.length then vs[j - off]? else cs[j]?:=by
 unfold splice;rw [List.append_assoc];by_cases h1:j<off
 .rw [gi (by simp;omega),zAd (by omega),mu,zAc h1]
 .rw [im (by simp;omega)];simp only [List.length_take];rw [show j - min off cs.length=j - off by omega];by_cases h2:j<off+vs.length
  .rw [zAc ⟨by omega,h2⟩,gi (by omega)]
  .rw [zAd (by omega),im (by omega),lc];congr 1;omega
theorem VR.one {σ:Sg} {v v':Value} (h:VR σ v v') (h1:oneC v=true):v'.oneCell'=true:=by
 have:=h.out
 cases v with
 |pointer a=>cases a with
  |none=>rw [this];rfl
  |some a=>obtain ⟨b,o,z,_,rfl⟩:=this;rfl
 |slice a n c=>cases a with
  |none=>obtain ⟨_,_,rfl⟩:=this;rfl
  |some a=>obtain ⟨b,o,z,_,a',c',rfl,_⟩:=this;rfl
 |map r=>cases r with
  |none=>rw [this];rfl
  |some r=>obtain ⟨b,o,z,_,rfl⟩:=this;rfl
 |func fn xs ys=>obtain ⟨_,_,rfl,_⟩:=this;rfl
 |iface t x=>obtain ⟨_,rfl,_⟩:=this;rfl
 |agg xs=>simp [oneC] at h1
 |tuple xs=>simp [oneC] at h1
 |bool a=>rw [this];rfl
 |int k n=>rw [this];rfl
 |string s=>rw [this];rfl
 |nilFunc=>rw [this];rfl
 |nilIface=>rw [this];rfl
 |float k b=>exact this.elim
 |complex k a b=>exact this.elim
 |chan r=>exact this.elim
theorem RL.one {σ:Sg} {l m:List Value} (h:RL (VR σ) l m) (h1:l.all oneC=true):∀ v∈m,v.oneCell'=true:=by
 intro v hv;obtain ⟨i,hi⟩:=List.mem_iff_getElem?.1 hv;have hlt:i<l.length:=by rw [h.length];exact (ge.1 hi).1
 obtain ⟨y,hy,hr⟩:=h.at (fk hlt);rw [hi] at hy;cases hy;exact hr.one (by rw [ib] at h1;exact h1 _ (List.getElem_mem hlt))
theorem z62 {t:Sto} {i:Nat} (h:(zaa t i).ro=false):zmb t i=true:=by
 cases t with
 |inr g=>rfl
 |inl t =>
 unfold zaa at h;simp only at h;rw [zcl] at h;split at h
 .rename_i k;exact k
 .simp at h
theorem zkx {s s':CS} {a:Addr} {vs:List Value} (h:s.write a vs=some s') :
    ∃ cs,(zaa s.obj a.block).ro=false/\zbp (zaa s.obj a.block).rows (Addr.ver a)=some cs/\a.off+vs.length<=cs.length/\vs.all oneC=true /\
      s'={ s with obj:=zbi s.obj a.block ⟨false,[(Addr.ver a,splice cs a.off vs)],none⟩,wr:=ins s.lim s.wr a.block }:=by
  unfold CS.write at h
  cases hr:(zaa s.obj a.block).ro with
  |true=>rw [hr] at h;simp at h
  |false =>
    rw [hr] at h
    cases hc:zbp (zaa s.obj a.block).rows (Addr.ver a) with
    |none=>rw [hc] at h;simp at h
    |some cs =>
      rw [hc] at h;simp only at h;rw [zcl] at h;split at h
      . rename_i hb;rw [fj] at hb;simp at h;exact ⟨cs,rfl,rfl,zav.1 hb.1,hb.2,h.symm⟩
      . simp at h
theorem zzf {s s':CS} {f:Nat} {x:Fam} (hro:(zaa s.obj f).ro=false) (hx:x.ro=false) (hn:f<s.n) (m:Nat) (hm:s.n<=m) (hxv:(∀ f p,p∈(zaa s.obj f).rows->p.1 / 1024<s.n)->∀ p,p∈x.rows->p.1 / 1024<m) (hs:s'={ s with n:=m,obj:=zbi s.obj f x,wr:=ins s.lim s.wr f }):Can s s':=by
 have hlt:=z62 hro;subst hs;refine ⟨hm,rfl,fun _ h=>h,fun _ h=>z4x h,?_,?_,?_,?_,fun h g hg=>(zow hg).elim (h g) (fun k=>k.2)⟩
 .intro g hg hl hw
  have:g≠f:=by
   rintro rfl;rcases zpz (lim:=s.lim) (l:=s.wr) (n:=g) with h|h
   .exact hw h
   .omega
  exact za2 _ hlt (r7 this)
 .intro g hg;show (zaa (zbi s.obj f x) g).ro=_;by_cases h:f=g
  .subst h;rw [zd7 _ hlt,hx,hro]
  .rw [za2 _ hlt h]
 .intro h g hg;show zaa (zbi s.obj f x) g=ze7;have:m<=g:=hg;rw [za2 _ hlt (by omega)];exact h g (by omega)
 .intro h g p hp;show p.1 / 1024<m;have hp':p∈(zaa (zbi s.obj f x) g).rows:=hp;by_cases hfg:f=g
  .subst hfg;rw [zd7 _ hlt] at hp';exact hxv h p hp'
  .rw [za2 _ hlt hfg] at hp';have:=h g p hp';omega
theorem z2n {σ:Sg} {V:Nat->Prop} {s:CS} {w:World} (hr:Rel σ V s w) {f:Nat} (h:(zaa s.obj f).ro=false):f<s.n:=by
 by_cases hn:f<s.n
 .exact hn
 .rw [hr.none f (by omega)] at h;simp [ze7] at h
theorem yak {σ:Sg} {V:Nat->Prop} {w:World} {s s':CS} {a:Addr} {vs:List Value} (hr:Rel σ V s w) (h:s.write a vs=some s'):Can s s':=by
 obtain ⟨cs,h1,h2,h3,_,h4⟩:=zkx h;exact zzf (x:=⟨false,[(Addr.ver a,splice cs a.off vs)],none⟩) h1 rfl (z2n hr h1) s.n (fp _) (fun hv p hp=>by simp at hp;subst hp;have:=hv _ _ (zjr h2);exact this) (by rw [h4])
theorem zpn {V:Nat->Prop} {s s':CS} (hV:zcm V s') {f:Nat} (h:ins s.lim s.wr f=s'.wr) (hl:s'.lim=s.lim):V f:=by
 refine hV f ?_;rcases zpz (lim:=s.lim) (l:=s.wr) (n:=f) with k|k
 .exact .inr (.inl (by rw [<- h];exact k))
 .exact .inr (.inr (by rw [hl];exact k))
theorem z4h {σ σ':Sg} {V:Nat->Prop} {s:CS} {w w':World} {f:Nat} {x:Fam} {m:Nat} (wr:List Nat) (hr:Rel σ V s w) (hro:(zaa s.obj f).ro=false) (hm:s.n<=m)
    (hle:Sg.le σ σ') (hinj:∀ g u b o z g' u' o' z',σ' g u=some (b,o,z)->σ' g' u'=some (b,o',z')->g=g') (hlt:∀ g u b o z,σ' g u=some (b,o,z)->b<w'.heap.size)
    (hsame:∀ g u,g≠f->σ' g u=σ g u) (hblk:∀ g u b o z,g≠f->σ g u=some (b,o,z)->w'.heap[b]?=w.heap[b]?) (hx:zjc σ' w' f x) (hxv:∀ p,p∈x.rows->p.1 / 1024<m) :
    Rel σ' V { s with n:=m,obj:=zbi s.obj f x,wr:=wr } w':=by
  have hf:=z62 hro;refine ⟨hinj,hlt,?_,?_,?_⟩
  . intro g hg;show zjc σ' w' g (zaa (zbi s.obj f x) g);by_cases h:f=g
    . subst h;rw [zd7 _ hf];exact hx
    . rw [za2 _ hf h];exact (hr.fam g hg).move hle (fun u _=>hsame g u (r7 h)) (fun u b o z k=>hblk g u b o z (r7 h) k)
  . intro g hg;show zaa (zbi s.obj f x) g=ze7;have h1:m<=g:=hg;have h2:=z2n hr hro;rw [za2 _ hf (by omega)];exact hr.none g (by omega)
  . intro g p hp;show p.1 / 1024<m;have hp':p∈(zaa (zbi s.obj f x) g).rows:=hp;by_cases h:f=g
    . subst h;rw [zd7 _ hf] at hp';exact hxv p hp'
    . rw [za2 _ hf h] at hp';have:=hr.vers g p hp';omega
theorem zti (b:Nat):∀ (vs:List Value) (o:Nat) (w:World) (c:Array Value) (e:gm) (fr:Nat×Nat),(w.setCells b o vs).heap[b]?=some (.cells c e fr)->∃ c',w.heap[b]?=some (.cells c' e fr)
 |[],_,w,c,e,fr,h=>⟨c,h⟩
 |v :: r,o,w,c,e,fr,h=>by
  obtain ⟨c1,h1⟩:=zti b r _ _ c e fr h;unfold World.setCell at h1;simp only [o5,if_true] at h1
  cases hx:w.heap[b]? with
  |none=>rw [hx] at h1;simp at h1
  |some x =>
   rw [hx] at h1
   cases x with
   |cells c2 e2 fr2 =>
    simp only [ov,fe,Obj.cells.injEq] at h1;exact ⟨c2,by rw [h1.2.1,h1.2.2]⟩
   |_=>simp at h1
theorem Up.set {w:World} {b o:Nat} {vs:List Value} (h:Up w b):Up (w.setCells b o vs) b:=fun c e lo hi k=>let ⟨c',k'⟩:=zti b vs o w c e (lo,hi) k;h c' e lo hi k'
theorem zo7 {σ:Sg} {V:Nat->Prop} {s s':CS} {w:World} {a:Addr} {vs vs':List Value} (h:s.write a vs=some s') (hr:Rel σ V s w) (hV:zcm V s') {b o z:Nat} (hσ:σ a.block (Addr.ver a)=some (b,o,z)) (hl:RL (VR σ) vs vs') :
    let w':=w.setCells b (o+a.off) vs'
    (∀ j,j<vs'.length->(w.cell? ⟨b,o+a.off+j,none⟩).isSome=true)/\(∀ j,j<vs'.length->w.frozen? ⟨b,o+a.off+j,none⟩=false)/\(∀ v∈vs',v.oneCell'=true)/\Rel σ V s' w'/\Ext σ V s w σ s' w':=by
  obtain ⟨cs,h1,h2,h3,h5,rfl⟩:=zkx h;intro w';have hVf:V a.block:=zpn hV rfl rfl;obtain ⟨r1,r2,r3,r4⟩:=(hr.fam _ hVf).rows _ (zjr h2) b o z hσ;simp only at r1 r4;have r3':=r3 h1;have hlen:=hl.length;have hcell:∀ j,j<vs'.length->(w.cell? ⟨b,o+a.off+j,none⟩).isSome=true:=fun j hj=>r2 _ (by omega);have hw':∀ k,k≠b->w'.heap[k]?=w.heap[k]?:=fun k hk=>zg3 b _ _ _ k hk
  have hone:∀ g u b' o' z',g≠a.block->σ g u=some (b',o',z')->b'≠b:=by
    rintro g u b' o' z' hg hk rfl;exact hg (hr.inj _ _ _ _ _ _ _ _ _ hk hσ)
  refine ⟨hcell,fun j hj=>r3'.1 _ (by omega),hl.one h5,?_,?_⟩
  . refine z4h _ hr h1 (fp _) (fun _ _ _ h=>h) hr.inj (fun g u b' o' z' k=>by rw [zhn];exact hr.lt _ _ _ _ _ k) (fun _ _ _=>rfl) (fun g u b' o' z' hg k=>hw' b' (hone g u b' o' z' hg k)) ?_ ?_
    . refine ⟨?_,fun _=>⟨fun p hp=>by simp at hp,trivial⟩,fun es he=>by simp at he⟩;intro p hp b' o' z' hk;simp at hp;subst hp;rw [hσ] at hk;cases hk;refine ⟨by simp only;rw [zph h3];exact r1,?_,?_,?_⟩
      . intro j hj;by_cases hin:o+a.off<=j/\j<o+a.off+vs'.length
        . have:=oc b vs' (o+a.off) w hcell (j - (o+a.off)) (by omega);rw [show o+a.off+(j - (o+a.off))=j by omega] at this;rw [this];rfl
        . rw [my b vs' (o+a.off) w ⟨b,j,none⟩ (fun _ _=>by simp only;omega)];exact r2 j hj
      . intro _;refine ⟨fun j hj=>?_,r3'.2.set⟩;rw [World.frozen?_setCells];exact r3'.1 j hj
      . intro j u hj;simp only at hj;rw [ztf h3] at hj;split at hj
        . rename_i hin;obtain ⟨u',hu,hv⟩:=hl.at hj;have hlt:=(ge.1 hu).1;have:=oc b vs' (o+a.off) w hcell (j - a.off) hlt;refine ⟨u',?_,hv⟩;rw [show o+j=o+a.off+(j - a.off) by omega,this];rw [fk hlt] at hu;exact hu
        . rename_i hout;obtain ⟨u',hu,hv⟩:=r4 j u hj;refine ⟨u',?_,hv⟩;rw [my b vs' (o+a.off) w ⟨b,o+j,none⟩ (fun _ _=>by simp only;omega)];exact hu
    . intro p hp;simp at hp;subst hp;have:=hr.vers _ _ (zjr h2);exact this
  . refine ⟨fun _ _ _ h=>h,fun _ _ h k=>absurd h k,fun _ _ _ _ _ h k=>by rw [h] at k;simp at k,by rw [zhn];exact fp _,?_,zlr b _ _ _⟩;intro k hk hq;refine hw' k ?_;rintro rfl;rcases hq _ _ _ _ hσ with h|h
    . exact h hVf
    . rw [h1] at h;simp at h
theorem zjx:∀ {l:List (Nat×List Value)} {u:Nat} {cs:List Value},zbp l u=some cs->∃ r,zgw l u=(u,cs) :: r/\(∀ p,p∈zgw l u->p∈l)/\(∀ σ f,Desc σ f l->Desc σ f (zgw l u))
 |(v,c) :: l,u,cs,h=>by
  simp only [zbp] at h
  cases hb:fy v u with
  |true =>
   rw [hb] at h;simp only [cond_true,fe] at h;have:=fl hb;subst this;subst h;have hd:zgw ((v,c) :: l) v=(v,c) :: l:=by simp only [zgw,hb,cond_true]
   rw [hd];exact ⟨l,rfl,fun p hp=>hp,fun σ f k=>k⟩
  |false =>
   rw [hb] at h;obtain ⟨r,h1,h2,h3⟩:=zjx (l:=l) h;have hd:zgw ((v,c) :: l) u=zgw l u:=by simp only [zgw,hb,cond_false]
   rw [hd];exact ⟨r,h1,fun p hp=>np _ (h2 p hp),fun σ f k=>h3 σ f k.2⟩
theorem zne {s s':CS} {a:Addr} {tag stop need:Nat} {cells:List Value} {v:Value} (h:s.grow a tag stop need cells=some (v,s')) :
    ∃ cs,(zaa s.obj a.block).ro=false/\zbp (zaa s.obj a.block).rows (Addr.ver a)=some cs/\stop=cs.length/\v=.slice (some (mkA a.block (s.n*1024+tag) 0)) need need /\
      s'={ s with n:=s.n+1,obj:=zbi s.obj a.block ⟨false,(s.n*1024+tag,cells) :: zgw (zaa s.obj a.block).rows (Addr.ver a),none⟩,wr:=ins s.lim s.wr a.block }:=by
  unfold CS.grow at h
  cases hr:(zaa s.obj a.block).ro with
  |true=>rw [hr] at h;simp at h
  |false =>
    rw [hr] at h
    cases hc:zbp (zaa s.obj a.block).rows (Addr.ver a) with
    |none=>rw [hc] at h;simp at h
    |some cs =>
      rw [hc] at h;simp only at h;rw [zcl] at h;split at h
      . rename_i hb;simp at h;exact ⟨cs,rfl,rfl,fl hb,h.1.symm,h.2.symm⟩
      . simp at h
theorem yg2 {σ:Sg} {V:Nat->Prop} {w:World} {s s':CS} {a:Addr} {tag stop need:Nat} {cells:List Value} {v:Value} (hr:Rel σ V s w) (ht:tag<1024) (h:s.grow a tag stop need cells=some (v,s')):Can s s':=by
 obtain ⟨cs,h1,h2,_,_,h4⟩:=zne h;obtain ⟨_,_,d2,_⟩:=zjx h2
 exact zzf (x:=⟨false,(s.n*1024+tag,cells) :: zgw (zaa s.obj a.block).rows (Addr.ver a),none⟩) h1 rfl (z2n hr h1) (s.n+1) (by omega) (fun hv p hp=>by
  rcases kj.1 hp with rfl|hp
  .simp only;omega
  .have:=hv _ p (d2 p hp);omega) (by rw [h4])
theorem yl1 {σ:Sg} {V:Nat->Prop} {s s':CS} {w:World} {a:Addr} {tag need:Nat} {cs old new new':List Value} {v:Value} (h:s.grow a tag cs.length need (old++new)=some (v,s')) (hr:Rel σ V s w) (hV:zcm V s') (hF:ze8 σ s.n s'.n) (ht:tag<1024)
    {b o z:Nat} (hσ:σ a.block (Addr.ver a)=some (b,o,z)) (hc:zbp (zaa s.obj a.block).rows (Addr.ver a)=some cs) (hold:old=cs.drop a.off) (hoff:a.off<=cs.length) (hl:RL (VR σ) new new') (h5:new.all oneC=true) (hz:o+cs.length+new.length<=z) :
    let w':=w.setCells b (o+cs.length) new'
    let σ':=σ.add a.block (s.n*1024+tag) (b,o+a.off,z)
    v=.slice (some (mkA a.block (s.n*1024+tag) 0)) need need /\
    (∀ j,j<new'.length->(w.cell? ⟨b,o+cs.length+j,none⟩).isSome=true)/\(∀ j,j<new'.length->w.frozen? ⟨b,o+cs.length+j,none⟩=false)/\(∀ v∈new',v.oneCell'=true)/\Rel σ' V s' w'/\Ext σ V s w σ' s' w' /\
    σ' a.block (s.n*1024+tag)=some (b,o+a.off,z):=by
  obtain ⟨cs0,h1,h2,_,rfl,rfl⟩:=zne h;rw [hc] at h2;cases h2;intro w' σ';have hVf:V a.block:=zpn hV rfl rfl;have hF0:∀ f,σ f (s.n*1024+tag)=none:=fun f=>hF f _ (.inr (by simp only;omega));have hfam:=hr.fam _ hVf;obtain ⟨r1,r2,r3,r4⟩:=hfam.rows _ (zjr hc) b o z hσ;simp only at r1 r4;have r3':=r3 h1;have hlen:=hl.length;have hcell:∀ j,j<new'.length->(w.cell? ⟨b,o+cs.length+j,none⟩).isSome=true:=fun j hj=>r2 _ (by omega);have hw':∀ k,k≠b->w'.heap[k]?=w.heap[k]?:=fun k hk=>zg3 b _ _ _ k hk;have hle:Sg.le σ σ':=Sg.le_add (hF0 _)
  have hcase:∀ f u p,σ' f u=some p->(f=a.block/\u=s.n*1024+tag/\p=(b,o+a.off,z))\/σ f u=some p:=by
    intro f u p k;by_cases hq:f=a.block/\u=s.n*1024+tag
    . obtain ⟨rfl,rfl⟩:=hq;have k':σ.add a.block (s.n*1024+tag) (b,o+a.off,z) a.block (s.n*1024+tag)=some p:=k;rw [Sg.add_same] at k';cases k';exact .inl ⟨rfl,rfl,rfl⟩
    . have k':σ.add a.block (s.n*1024+tag) (b,o+a.off,z) f u=some p:=k;rw [Sg.add_other _ _ hq] at k';exact .inr k'
  obtain ⟨rest,d1,d2,d3⟩:=zjx hc;have hdesc:=d3 σ a.block (hfam.desc h1)
  -- an older version over the same block ends before what is written
  have hend:∀ p,p∈zgw (zaa s.obj a.block).rows (Addr.ver a)->∀ o' z',σ a.block p.1=some (b,o',z')->o'+p.2.length<=o+cs.length:=by
    intro p hp o' z' hk;rw [d1] at hp hdesc;rcases kj.1 hp with rfl|hp
    . rw [hσ] at hk;cases hk;exact fp _
    . exact hdesc.1 p hp b o z o' z' hσ hk
  have hout:∀ j,j<o+cs.length->w'.cell? ⟨b,j,none⟩=w.cell? ⟨b,j,none⟩:=fun j hj=>my b new' (o+cs.length) w ⟨b,j,none⟩ (fun _ _=>by simp only;omega)
  have hsome:∀ j,j<z->(w'.cell? ⟨b,j,none⟩).isSome=true:=by
    intro j hj;by_cases hin:o+cs.length<=j/\j<o+cs.length+new'.length
    . have:=oc b new' (o+cs.length) w hcell (j - (o+cs.length)) (by omega);rw [show o+cs.length+(j - (o+cs.length))=j by omega] at this;show ((w.setCells b (o+cs.length) new').cell? _).isSome=true;rw [this];rfl
    . show ((w.setCells b (o+cs.length) new').cell? _).isSome=true;rw [my b new' (o+cs.length) w ⟨b,j,none⟩ (fun _ _=>by simp only;omega)];exact r2 j hj
  have hfz:∀ j,w'.frozen? ⟨b,j,none⟩=w.frozen? ⟨b,j,none⟩:=fun j=>World.frozen?_setCells b _ _ _ _
  have hvne:∀ p,p∈zgw (zaa s.obj a.block).rows (Addr.ver a)->p.1≠s.n*1024+tag:=by
    intro p hp hq;have:=hr.vers _ p (d2 p hp);omega
  refine ⟨rfl,hcell,fun j hj=>r3'.1 _ (by omega),hl.one h5,?_,?_,Sg.add_same _ _ _ _⟩
  . refine z4h _ hr h1 (by omega) hle ?_ ?_ (fun g u hg=>Sg.add_other _ _ (fun k=>hg k.1)) (fun g u b' o' z' hg k=>hw' b' ?_) ?_ ?_
    . intro g u b' o' z' g' u' o'' z'' k1 k2;rcases hcase _ _ _ k1 with ⟨rfl,rfl,e1⟩|k1<;>rcases hcase _ _ _ k2 with ⟨e2,e3,e4⟩|k2
      . exact e2.symm
      . cases e1;exact hr.inj _ _ _ _ _ _ _ _ _ hσ k2
      . cases e4;rw [e2];exact hr.inj _ _ _ _ _ _ _ _ _ k1 hσ
      . exact hr.inj _ _ _ _ _ _ _ _ _ k1 k2
    . intro g u b' o' z' k;rw [zhn];rcases hcase _ _ _ k with ⟨_,_,e⟩|k
      . cases e;exact hr.lt _ _ _ _ _ hσ
      . exact hr.lt _ _ _ _ _ k
    . rintro rfl;exact hg (hr.inj _ _ _ _ _ _ _ _ _ k hσ)
    . refine ⟨?_,fun _=>⟨?_,hdesc.move fun p hp=>Sg.add_other _ _ (fun k=>hvne p hp k.2)⟩,fun es he=>by simp at he⟩
      . intro p hp b' o' z' hk;rcases kj.1 hp with rfl|hp
        . have hk':σ.add a.block (s.n*1024+tag) (b,o+a.off,z) a.block (s.n*1024+tag)=some (b',o',z'):=hk;rw [Sg.add_same] at hk';cases hk';refine ⟨by simp only [hold,fx,jf];omega,hsome,fun _=>⟨fun j hj=>by rw [hfz];exact r3'.1 j hj,r3'.2.set⟩,?_⟩;intro j u hj;simp only [hold] at hj;by_cases hlt:j<cs.length - a.off
          . rw [gi (by simp;omega),lc] at hj;obtain ⟨u',hu,hv⟩:=r4 _ _ hj;refine ⟨u',?_,hv.mono hle⟩;rw [hout _ (by omega),show o+a.off+j=o+(a.off+j) by omega];exact hu
          . rw [im (by simp;omega)] at hj;simp only [jf] at hj;obtain ⟨u',hu,hv⟩:=hl.at hj;have hlt2:=(ge.1 hu).1;have:=oc b new' (o+cs.length) w hcell (j - (cs.length - a.off)) hlt2;refine ⟨u',?_,hv.mono hle⟩;rw [show o+a.off+j=o+cs.length+(j - (cs.length - a.off)) by omega];show (w.setCells b (o+cs.length) new').cell? _=_;rw [this];rw [fk hlt2] at hu;exact hu
        . have hk':σ a.block p.1=some (b',o',z'):=by
            rw [<- hk];exact (Sg.add_other _ _ (fun k=>hvne p hp k.2)).symm
          have old:=hfam.rows p (d2 p hp) b' o' z' hk';by_cases hbb:b'=b
          . subst hbb;obtain ⟨q1,q2,q3,q4⟩:=old;have he:=hend p hp o' z' hk'
            have hzz:∀ j,j<z'->(w'.cell? ⟨b',j,none⟩).isSome=true:=by
              intro j hj;by_cases hin:o+cs.length<=j/\j<o+cs.length+new'.length
              . exact hsome j (by omega)
              . show ((w.setCells b' (o+cs.length) new').cell? _).isSome=true;rw [my b' new' (o+cs.length) w ⟨b',j,none⟩ (fun _ _=>by simp only;omega)];exact q2 j hj
            refine ⟨q1,hzz,fun hr0=>⟨fun j hj=>by rw [hfz];exact (q3 h1).1 j hj,(q3 h1).2.set⟩,?_⟩;intro j u hj;obtain ⟨u',hu,hv⟩:=q4 j u hj;have hlt:=(ge.1 hj).1;exact ⟨u',by rw [hout _ (by omega)];exact hu,hv.mono hle⟩
          . have:=(old.up hle).keep (hw' b' hbb);rw [h1] at this;exact this
      . intro p hp b' o' z' o'' z'' k1 k2;simp only at k1;have k1':σ.add a.block (s.n*1024+tag) (b,o+a.off,z) a.block (s.n*1024+tag)=some (b',o',z'):=k1;rw [Sg.add_same] at k1';cases k1'
        have k2':σ a.block p.1=some (b,o'',z''):=by
          rw [<- k2];exact (Sg.add_other _ _ (fun k=>hvne p hp k.2)).symm
        have:=hend p hp o'' z'' k2';simp only [hold,fx,jf];omega
    . intro p hp;rcases kj.1 hp with rfl|hp
      . simp only;omega
      . have:=hr.vers _ p (d2 p hp);omega
  . refine ⟨hle,?_,?_,by rw [zhn];exact fp _,?_,zlr b _ _ _⟩
    . intro f u h0 hne;by_cases hq:f=a.block/\u=s.n*1024+tag
      . obtain ⟨rfl,rfl⟩:=hq;have:=z2n hr h1;exact ⟨by omega,by simp only;omega,by simp only;omega,.inr hVf⟩
      . exfalso;apply hne;show σ.add a.block (s.n*1024+tag) (b,o+a.off,z) f u=none;rw [Sg.add_other _ _ hq];exact h0
    . intro f u b' o' z' h0 hs hb';rcases hcase _ _ _ hs with ⟨rfl,rfl,e⟩|k
      . cases e;exact ⟨_,_,_,hσ,hVf,h1⟩
      . rw [h0] at k;simp at k
    . intro k hk hq;refine hw' k ?_;rintro rfl;rcases hq _ _ _ _ hσ with h|h
      . exact h hVf
      . rw [h1] at h;simp at h
theorem yg1 {σ:Sg} {V:Nat->Prop} {s s':CS} {w w0:World} {a:Addr} {tag stop need:Nat} {cells:List Value} {v:Value} (h:s.grow a tag stop need cells=some (v,s')) (hr:Rel σ V s w) (hV:zcm V s') (hF:ze8 σ s.n s'.n) (ht:tag<1024)
    (hw00:w0.heap=w.heap/\Same w w0) (c:Array Value) (e:gm) (cs' more:List Value) (hc:c.toList=cs'++more) (hl:RL (VR σ) cells cs') :
    let σ':=σ.add a.block (s.n*1024+tag) (w.heap.size,0,c.size)
    v=.slice (some (mkA a.block (s.n*1024+tag) 0)) need need/\Rel σ' V s' (w0.alloc (.cells c e (0,0)))/\Ext σ V s w σ' s' (w0.alloc (.cells c e (0,0)))/\σ' a.block (s.n*1024+tag)=some (w.heap.size,0,c.size):=by
  obtain ⟨cs,h1,h2,_,rfl,rfl⟩:=zne h;obtain ⟨hw0,hst⟩:=hw00;intro σ';have hVf:V a.block:=zpn hV rfl rfl;have hF0:∀ f,σ f (s.n*1024+tag)=none:=fun f=>hF f _ (.inr (by simp only;omega));have hfam:=hr.fam _ hVf;have hsz:w0.heap.size=w.heap.size:=by rw [hw0]
  have hle:Sg.le σ σ':=Sg.le_add (hF0 _);have hkeep:∀ k,k<w.heap.size->(w0.alloc (.cells c e (0,0))).heap[k]?=w.heap[k]?:=fun k hk=>by rw [zyg w0 _ k (by omega),hw0]
  have hcase:∀ f u b o z,σ' f u=some (b,o,z)->(f=a.block/\u=s.n*1024+tag/\b=w.heap.size/\o=0/\z=c.size)\/(σ f u=some (b,o,z)/\b<w.heap.size):=by
    intro f u b o z k;by_cases hq:f=a.block/\u=s.n*1024+tag
    . obtain ⟨rfl,rfl⟩:=hq;have k':σ.add a.block (s.n*1024+tag) (w.heap.size,0,c.size) a.block (s.n*1024+tag)=some (b,o,z):=k;rw [Sg.add_same] at k';cases k';exact .inl ⟨rfl,rfl,rfl,rfl,rfl⟩
    . have k':σ.add a.block (s.n*1024+tag) (w.heap.size,0,c.size) f u=some (b,o,z):=k;rw [Sg.add_other _ _ hq] at k';exact .inr ⟨k',hr.lt _ _ _ _ _ k'⟩
  obtain ⟨rest,d1,d2,d3⟩:=zjx h2;have hdesc:=d3 σ a.block (hfam.desc h1)
  have hvne:∀ p,p∈zgw (zaa s.obj a.block).rows (Addr.ver a)->p.1≠s.n*1024+tag:=by
    intro p hp hq;have:=hr.vers _ p (d2 p hp);omega
  have hlen:cells.length+more.length=c.size:=by rw [hl.length,<- fx,<- hc,jr]
  refine ⟨rfl,?_,?_,Sg.add_same _ _ _ _⟩
  . refine z4h _ hr h1 (by omega) hle ?_ ?_ (fun g u hg=>Sg.add_other _ _ (fun k=>hg k.1)) (fun g u b' o' z' _ k=>hkeep b' (hr.lt _ _ _ _ _ k)) ?_ ?_
    . intro g u b o z g' u' o' z' k1 k2;rcases hcase _ _ _ _ _ k1 with ⟨e1,_,hb,_⟩|⟨k1,hb⟩<;>rcases hcase _ _ _ _ _ k2 with ⟨e2,_,hb2,_⟩|⟨k2,hb2⟩
      . rw [e1,e2]
      . omega
      . omega
      . exact hr.inj _ _ _ _ _ _ _ _ _ k1 k2
    . intro g u b o z k;rw [show (w0.alloc (.cells c e (0,0))).heap.size=w.heap.size+1 by simp [hsz]];rcases hcase _ _ _ _ _ k with ⟨_,_,hb,_⟩|⟨_,hb⟩<;>omega
    . refine ⟨?_,fun _=>⟨?_,hdesc.move fun p hp=>Sg.add_other _ _ (fun k=>hvne p hp k.2)⟩,fun es he=>by simp at he⟩
      . intro p hp b o z hk;rcases kj.1 hp with rfl|hp
        . have hk':σ.add a.block (s.n*1024+tag) (w.heap.size,0,c.size) a.block (s.n*1024+tag)=some (b,o,z):=hk;rw [Sg.add_same] at hk';cases hk';refine ⟨by simp only;omega,?_,?_,?_⟩
          . intro j hj;rw [<- hsz,zoa j];simp [hj]
          . intro _;have hb:=heap_alloc_new w0 (.cells c e (0,0));refine ⟨fun j hj=>?_,fun c1 e1 lo hi k=>?_⟩
            case refine_2=>rw [<- hsz,hb] at k;cases k;exact fp _
            unfold r8;rw [<- hsz,hb];simp
          . intro j u hj;obtain ⟨u',hu,hv⟩:=hl.at hj;refine ⟨u',?_,hv.mono hle⟩;rw [<- hsz,i5,zoa j,<- ki,hc,gi (ge.1 hu).1];exact hu
        . have hk':σ a.block p.1=some (b,o,z):=by
            rw [<- hk];exact (Sg.add_other _ _ (fun k=>hvne p hp k.2)).symm
          have:=((hfam.rows p (d2 p hp) b o z hk').up hle).keep (hkeep b (hr.lt _ _ _ _ _ hk'));rw [h1] at this;exact this
      . intro p hp b o z o' z' k1 k2;have k1':σ.add a.block (s.n*1024+tag) (w.heap.size,0,c.size) a.block (s.n*1024+tag)=some (b,o,z):=k1;rw [Sg.add_same] at k1';cases k1'
        have k2':σ a.block p.1=some (w.heap.size,o',z'):=by
          rw [<- k2];exact (Sg.add_other _ _ (fun k=>hvne p hp k.2)).symm
        have:=hr.lt _ _ _ _ _ k2';omega
    . intro p hp;rcases kj.1 hp with rfl|hp
      . simp only;omega
      . have:=hr.vers _ p (d2 p hp);omega
  . refine ⟨hle,?_,?_,by simp [hsz],fun k hk _=>hkeep k hk,hst⟩
    . intro f u h0 hne;by_cases hq:f=a.block/\u=s.n*1024+tag
      . obtain ⟨rfl,rfl⟩:=hq;have:=z2n hr h1;exact ⟨by omega,by simp only;omega,by simp only;omega,.inr hVf⟩
      . exfalso;apply hne;show σ.add a.block (s.n*1024+tag) (w.heap.size,0,c.size) f u=none;rw [Sg.add_other _ _ hq];exact h0
    . intro f u b o z h0 hs hb;rcases hcase _ _ _ _ _ hs with ⟨_,_,e,_⟩|⟨k,_⟩
      . omega
      . rw [h0] at k;simp at k
theorem zrp {s s':CS} {r:Nat} {es:List (Value×Value)} (h:s.readMap r=some (es,s')):(zaa s.obj r).es=some es/\s'={ s with rd:=ins s.lim s.rd r }:=by
 unfold CS.readMap at h
 cases hr:(zaa s.obj r).es with
 |none=>rw [hr] at h;simp at h
 |some c=>rw [hr] at h;simp at h;exact ⟨by rw [h.1],h.2.symm⟩
theorem z9f {σ:Sg} {V:Nat->Prop} {s s':CS} {w:World} {r:Nat} {es:List (Value×Value)} (h:s.readMap r=some (es,s')) (hr:Rel σ V s w) (hV:zcm V s') {b o z:Nat} (hσ:σ r (r*1024)=some (b,o,z)) :
    z3n σ w b es/\Can s s'/\Rel σ V s' w/\Ext σ V s w σ s' w:=by
  obtain ⟨h1,rfl⟩:=zrp h;refine ⟨(hr.fam r (hV _ ?_)).es es h1 b o z hσ,z5e s r,hr.log _,Ext.log _⟩;rcases zpz (lim:=s.lim) (l:=s.rd) (n:=r) with h|h
  . exact .inl h
  . exact .inr (.inr h)
structure TIOk (P:gn) (t:gm) (i:TI):Prop where
 und:P.underlying t=some i.desc
 info:∃ j z,P.info? t=some j/\j.size=i.size/\j.bytes=i.bytes/\j.zero=some z/\z.cells.toList=i.zero/\ybl i.desc z=true
 len:i.zero.length=i.size
 refl:∀ σ,RL (VR σ) i.zero i.zero
structure zeb (P:gn) (Γ:Env):Prop where
 ti:∀ t i,Γ.ti.at t=some i->TIOk P t i
 fn:∀ f x,Γ.fn.at f=some x->P.funcs[f]?=some x
theorem zv4 {σ:Sg} {v:Value} (h:yfm v=true):VR σ v v:=by
 unfold yfm at h;split at h
 .exact VR.mk rfl
 .exact VR.mk ⟨rfl,rfl,rfl⟩
 .exact VR.mk rfl
 .exact VR.mk rfl
 .rename_i fn first captured
  simp at h;exact VR.mk ⟨first,captured,rfl,by rw [h.1];trivial,by rw [h.2];trivial⟩
 .exact zia 3 h
theorem yeg (P:gn) (L:List Nat) (ax:Axs):zeb P (zhs P L ax):=by
 refine ⟨fun t i h=>?_,fun f x h=>?_⟩
 case refine_2 =>
  have h1:=Tab.at_mk _ _ _ h;rw [zcl] at h1;split at h1
  .exact h1
  .simp at h1
 have h1:tiOf P t=some i:=Tab.at_mk _ _ _ h;unfold tiOf at h1
 cases hi:P.info? t with
 |none=>rw [hi] at h1;simp at h1
 |some j =>
  cases hu:P.underlying t with
  |none=>rw [hi,hu] at h1;simp at h1
  |some d =>
   rw [hi,hu] at h1;simp only at h1
   cases hz:j.zero with
   |none=>rw [hz] at h1;simp at h1
   |some z =>
    rw [hz] at h1;simp only at h1;rw [zcl] at h1;split at h1
    .rename_i hc;simp only [fj] at hc;simp only [fe] at h1;subst h1;refine ⟨hu,⟨j,z,hi,rfl,rfl,hz,rfl,hc.2.2⟩,fl hc.1,fun σ=>RL.of rfl fun i x y hx hy=>?_⟩;rw [hx] at hy;cases hy;exact zv4 (ib.1 hc.2.1 x (jl hx))
    .simp at h1
def DidV (σ:Sg) (V:Nat->Prop) (s:CS) (w:World) (m:Result Value) (v:Value) (s':CS):Prop :=
 ∃ σ' w' v',m=.ok v' w'/\VR σ' v v'/\Rel σ' V s' w'/\Ext σ V s w σ' s' w'
def Did (σ:Sg) (V:Nat->Prop) (s:CS) (w:World) (m:Result Next) (v:Value) (s':CS):Prop :=
 ∃ σ' w' nx v',m=.ok nx w'/\(nx=.value v'\/nx=.skip/\v'=undef)/\VR σ' v v'/\Rel σ' V s' w'/\Ext σ V s w σ' s' w'
theorem DidV.up {σ:Sg} {V:Nat->Prop} {P:gn} {s s':CS} {w:World} {m:Sem Value} {v:Value} (h:DidV σ V s w (m.run P w) v s'):Did σ V s w ((do pure (.value (<- m)):Sem Next).run P w) v s':=by
 obtain ⟨σ',w',v',h1,h2,h3,h4⟩:=h;refine ⟨σ',w',.value v',v',?_,.inl rfl,h2,h3,h4⟩;simp [h1,mn]
theorem Did.same {σ:Sg} {V:Nat->Prop} {s:CS} {w:World} {m:Result Next} {v v':Value} (hr:Rel σ V s w) (hm:m=.ok (.value v') w) (hv:VR σ v v'):Did σ V s w m v s :=
 ⟨σ,w,_,v',hm,.inl rfl,hv,hr,Ext.refl _ _ _ _⟩
theorem DidV.same {σ:Sg} {V:Nat->Prop} {s:CS} {w:World} {m:Result Value} {v v':Value} (hr:Rel σ V s w) (hm:m=.ok v' w) (hv:VR σ v v'):DidV σ V s w m v s :=
 ⟨σ,w,v',hm,hv,hr,Ext.refl _ _ _ _⟩
theorem VR.undef {σ:Sg}:VR σ undef undef:=VR.mk ⟨#[],rfl,trivial⟩
theorem VR.cells {σ:Sg} {v v':Value} (h:VR σ v v'):RL (VR σ) v.cells.toList v'.cells.toList:=by
 have:=h.out
 cases v with
 |agg xs=>obtain ⟨xs',rfl,hl⟩:=this;exact hl
 |pointer a=>cases a with
  |none=>rw [this];exact ⟨this ▸ h,trivial⟩
  |some a=>obtain ⟨b,o,z,_,rfl⟩:=this;exact ⟨h,trivial⟩
 |slice a n c=>cases a with
  |none=>obtain ⟨_,_,rfl⟩:=this;exact ⟨h,trivial⟩
  |some a=>obtain ⟨b,o,z,_,a',c',rfl,_⟩:=this;exact ⟨h,trivial⟩
 |map r=>cases r with
  |none=>rw [this];exact ⟨this ▸ h,trivial⟩
  |some r=>obtain ⟨b,o,z,_,rfl⟩:=this;exact ⟨h,trivial⟩
 |func fn xs ys=>obtain ⟨_,_,rfl,_⟩:=this;exact ⟨h,trivial⟩
 |iface t x=>obtain ⟨_,rfl,_⟩:=this;exact ⟨h,trivial⟩
 |tuple xs=>obtain ⟨_,rfl,_⟩:=this;exact ⟨h,trivial⟩
 |bool a=>rw [this];exact ⟨this ▸ h,trivial⟩
 |int k n=>rw [this];exact ⟨this ▸ h,trivial⟩
 |string s=>rw [this];exact ⟨this ▸ h,trivial⟩
 |nilFunc=>rw [this];exact ⟨this ▸ h,trivial⟩
 |nilIface=>rw [this];exact ⟨this ▸ h,trivial⟩
 |float k b=>exact this.elim
 |complex k a b=>exact this.elim
 |chan r=>exact this.elim
theorem VR.ptr {σ:Sg} {a:Addr} {v:Value} (h:VR σ (.pointer (some a)) v):∃ b o z,σ a.block (Addr.ver a)=some (b,o,z)/\v=.pointer (some ⟨b,o+a.off,none⟩):=h.out
theorem VR.ofPtr {σ:Sg} {a:Addr} {b o z:Nat} (h:σ a.block (Addr.ver a)=some (b,o,z)):VR σ (.pointer (some a)) (.pointer (some ⟨b,o+a.off,none⟩)):=VR.mk ⟨b,o,z,h,rfl⟩
theorem VR.int {σ:Sg} {k:iu} {n:Int} {v:Value} (h:VR σ (.int k n) v):v=.int k n:=h.out
theorem VR.str {σ:Sg} {b:ByteArray} {v:Value} (h:VR σ (.string b) v):v=.string b:=h.out
theorem VR.bool {σ:Sg} {b:Bool} {v:Value} (h:VR σ (.bool b) v):v=.bool b:=h.out
theorem VR.ofInt {σ:Sg} (k:iu) (n:Int):VR σ (.int k n) (.int k n):=VR.mk rfl
theorem VR.ofBool {σ:Sg} (b:Bool):VR σ (.bool b) (.bool b):=VR.mk rfl
theorem VR.ofStr {σ:Sg} (b:ByteArray):VR σ (.string b) (.string b):=VR.mk rfl
theorem VR.agg {σ:Sg} {xs:Array Value} {v:Value} (h:VR σ (.agg xs) v):∃ xs',v=.agg xs'/\RL (VR σ) xs.toList xs'.toList:=h.out
theorem VR.ofAgg {σ:Sg} {xs ys:List Value} (h:RL (VR σ) xs ys):VR σ (.agg xs.toArray) (.agg ys.toArray):=VR.mk ⟨ys.toArray,rfl,by simpa using h⟩
theorem zlh {v:Value} {n:Nat} (h:zhq v=some n):∃ k,v=.int k (n:Int):=by
 unfold zhq at h;split at h
 .rename_i k m;simp at h;subst h;exact ⟨k,rfl⟩
 .simp at h
section
variable {P:gn} {Γ:Env} {σ:Sg} {V:Nat->Prop} {s s':CS} {w:World}
theorem TIOk.size {t:gm} {i:TI} (h:TIOk P t i):(P.info? t).map (·.size)=some i.size:=by
 obtain ⟨j,z,h1,h2,_⟩:=h.info;rw [h1];simp [h2]
theorem zwv {t:gm} {i:TI} (h:TIOk P t i) (w:World):(isAgg t).run P w=.ok (aggT i.desc) w:=by
 unfold isAgg;rw [nq,ig h.und];simp only [mn];cases i.desc<;>rfl
theorem zd5 {t:gm} {i:TI} (h:TIOk P t i) (w:World):(sizeOf t).run P w=.ok i.size w:=by
 obtain ⟨j,z,h1,h2,_⟩:=h.info;simp [sizeOf,typeInfo,h1,h2]
theorem z02 {t:gm} {i:TI} (h:TIOk P t i):∃ z,z.cells.toList=i.zero/\ybl i.desc z=true/\∀ w,(zeroValue t).run P w=.ok z w:=by
 obtain ⟨j,z,h1,_,_,h4,h5,h6⟩:=h.info;exact ⟨z,h5,h6,fun w=>by simp [zeroValue,typeInfo,h1,h4]⟩
theorem z9k {i:TI} {t:gm} (hi:TIOk P t i) {cs:List Value} {xs:Array Value} {off:Nat} {v:Value} (h:ztz i cs off=some v) (hl:RL (VR σ) cs xs.toList):∃ v',(part t xs off).run P w=.ok v' w/\VR σ v v':=by
 unfold ztz at h;unfold part;simp only [nq,zwv hi,mn]
 cases ha:aggT i.desc with
 |true =>
  rw [ha] at h;simp only [cond_true] at h
  cases hc:cut cs off i.size with
  |none=>rw [hc] at h;simp at h
  |some l =>
   rw [hc] at h;simp only [fe] at h;subst h;unfold cut at hc;dsimp only at hc
   cases hb:fy ((cs.drop off).take i.size).length i.size with
   |false=>rw [hb] at hc;simp at hc
   |true =>
    rw [hb] at hc;simp only [cond_true,fe] at hc;subst hc;refine ⟨.agg (xs.extract off (off+i.size)),by simp [zd5 hi],?_⟩
    have:xs.extract off (off+i.size)=((xs.toList.drop off).take i.size).toArray:=by
     apply n9.1;rw [Array.toList_extract,List.extract_eq_take_drop];simp
    rw [this];exact VR.ofAgg ((hl.drop off).take i.size)
 |false =>
  rw [ha] at h;simp only [cond_false] at h;obtain ⟨v',hv,hR⟩:=hl.at h;refine ⟨v',?_,hR⟩;rw [ki] at hv;simp [hv]
theorem zue (hE:zeb P Γ) (hr:Rel σ V s w) {t:gm} {i:TI} {a:Addr} {v:Value} (hi:Γ.ti.at t=some i) (h:s.loadVar i a=some (v,s')) (hV:zcm V s') {b o z:Nat} (hσ:σ a.block (Addr.ver a)=some (b,o,z)) :
    ∃ v',(loadVar t ⟨b,o+a.off,none⟩).run P w=.ok v' w/\VR σ v v'/\Rel σ V s' w/\Ext σ V s w σ s' w:=by
  unfold CS.loadVar at h
  cases hq:s.readRow a with
  |none=>rw [hq] at h;simp at h
  |some p =>
    obtain ⟨cs,s1⟩:=p;rw [hq] at h;simp only at h
    cases hp:ztz i cs a.off with
    |none=>rw [hp] at h;simp at h
    |some v1 =>
      rw [hp] at h;simp only [fe,fm] at h;obtain ⟨rfl,rfl⟩:=h;have hrow:=zpm hq hr hV hσ;have hti:=hE.ti _ _ hi
      suffices hs:∃ v',(loadVar t ⟨b,o+a.off,none⟩).run P w=.ok v' w/\VR σ v1 v' by
        obtain ⟨v',h1,h2⟩:=hs;exact ⟨v',h1,h2,zzd hq hr,z6j hq⟩
      unfold loadVar;simp only [nq,zwv hti,mn];unfold ztz at hp
      cases ha:aggT i.desc with
      |true =>
        rw [ha] at hp;simp only [cond_true] at hp
        cases hc:cut cs a.off i.size with
        |none=>rw [hc] at hp;simp at hp
        |some l =>
          rw [hc] at hp;simp only [fe] at hp;subst hp;obtain ⟨l',e1,e2,e3⟩:=hrow.part hc;have:=run_loadCells_list (P:=P) w ⟨b,o+a.off,none⟩ l' (fun j v hj=>by rw [nr];exact e2 j v hj);rw [e1] at this;exact ⟨.agg l'.toArray,by simp [nq,zd5 hti,this],VR.ofAgg e3⟩
      |false =>
        rw [ha] at hp;simp only [cond_false] at hp;obtain ⟨u',hu,hv⟩:=hrow.2.2.2 _ _ hp;refine ⟨u',?_,hv⟩;simp [run_load,hu]
theorem z4r (hE:zeb P Γ) (hr:Rel σ V s w) {t:gm} {i:TI} {a:Addr} {v:Value} (hi:Γ.ti.at t=some i) (h:s.loadVar i a=some (v,s')) (hV:zcm V s') {b o z:Nat} (hσ:σ a.block (Addr.ver a)=some (b,o,z)) :
    DidV σ V s w ((loadVar t ⟨b,o+a.off,none⟩).run P w) v s':=⟨σ,w,zue hE hr hi h hV hσ⟩
end
section
variable {P:gn} {Γ:Env} {σ:Sg} {V:Nat->Prop} {s s':CS} {w:World} {v:Value}
theorem zjs {x:Option Value} (h:retC s x=some (v,s')):x=some v/\s'=s:=by
 unfold retC at h
 cases x with
 |none=>simp at h
 |some y=>simp at h;exact ⟨by rw [h.1],h.2.symm⟩
theorem yga (hr:Rel σ V s w) {a b c a' b' c':Value} (h:zw3 s a b c=some (v,s')) (ha:VR σ a a') (hb:VR σ b b') (hc:VR σ c c'):Did σ V s w ((do pure (.value (if <- asBool c' then a' else b')):Sem Next).run P w) v s':=by
 unfold zw3 at h;split at h
 .rename_i t;simp only [fe,fm] at h;obtain ⟨rfl,rfl⟩:=h;rw [hc.bool];cases t
  .exact Did.same hr (by simp [asBool]) hb
  .exact Did.same hr (by simp [asBool]) ha
 .simp at h
theorem z1f {x:Option (Addr×CS)} (h:ptrC x=some (v,s')):∃ a,x=some (a,s')/\v=.pointer (some a):=by
 unfold ptrC at h
 cases x with
 |none=>simp at h
 |some p=>obtain ⟨a,s1⟩:=p;simp at h;exact ⟨a,by rw [h.2],h.1.symm⟩
theorem zh7 {x:Option (Addr×CS)} {len cap:Nat} (h:zhz len cap x=some (v,s')):∃ a,x=some (a,s')/\v=.slice (some a) len cap:=by
 unfold zhz at h
 cases x with
 |none=>simp at h
 |some p=>obtain ⟨a,s1⟩:=p;simp at h;exact ⟨a,by rw [h.2],h.1.symm⟩
theorem zw9 (hr:Rel σ V s w) (hF:ze8 σ s.n s'.n) {cs:List Value} {x:Value} {t:gm} (h:ptrC (s.newRow 0 cs)=some (v,s')) (hx:RL (VR σ) cs x.cells.toList):DidV σ V s w ((do pure (.pointer (some (<- newVar t x))):Sem Value).run P w) v s':=by
 obtain ⟨a,h1,rfl⟩:=z1f h;obtain ⟨rfl,_,h3,h4,h5⟩:=zjj (w0:=w) h1 hr hF (by decide) ⟨rfl,rfl,rfl,rfl⟩ x.cells t (0,0) (by intro j _;simp) x.cells.toList [] (by simp) hx;refine ⟨_,_,.pointer (some ⟨w.heap.size,0,none⟩),?_,VR.ofPtr h5,h3,h4⟩;simp [newVar,newRow]
theorem yfc (hE:zeb P Γ) (hr:Rel σ V s w) (hF:ze8 σ s.n s'.n) {e:gm} (h:zm6 Γ s e=some (v,s')):DidV σ V s w ((Instr.alloc e true (.tuple #[])).run P w) v s':=by
 unfold zm6 at h
 cases hi:Γ.ti.at e with
 |none=>rw [hi] at h;simp at h
 |some i =>
  rw [hi] at h;simp only at h;have hti:=hE.ti _ _ hi;obtain ⟨z,hz1,_,hz2⟩:=z02 hti;have:=zw9 (P:=P) (t:=e) (x:=z) hr hF h (by rw [hz1];exact hti.refl σ);unfold Instr.alloc;simp only [nq,hz2,mn];simpa using this
theorem ymm (hr:Rel σ V s w) (hF:ze8 σ s.n s'.n) {e:gm} {x x':Value} (h:ptrC (s.newRow 0 x.cells.toList)=some (v,s')) (hx:VR σ x x'):DidV σ V s w ((Instr.box e x').run P w) v s' :=
 zw9 (P:=P) (t:=e) hr hF h hx.cells
theorem ygt (hE:zeb P Γ) (hr:Rel σ V s w) (hV:zcm V s') {t:gm} {x x':Value} (h:zrs Γ s t x=some (v,s')) (hx:VR σ x x'):DidV σ V s w ((Instr.loadAt t x').run P w) v s':=by
 unfold zrs at h;split at h
 .rename_i a
  cases hi:Γ.ti.at t with
  |none=>rw [hi] at h;simp at h
  |some i =>
   rw [hi] at h;obtain ⟨b,o,z,h1,rfl⟩:=hx.ptr;have:=z4r hE hr hi h hV h1;unfold Instr.loadAt;simpa [pq] using this
 .simp at h
theorem ya7 (hE:zeb P Γ) (hr:Rel σ V s w) (hV:zcm V s') {t:gm} {x x' y y':Value} (h:zm4 Γ s t y.cells.toList x=some (v,s')) (hx:VR σ x x') (hy:VR σ y y'):Did σ V s w ((do Instr.storeAt t x' y';pure .skip:Sem Next).run P w) v s':=by
 unfold zm4 at h;split at h
 .rename_i a
  cases hi:Γ.ti.at t with
  |none=>rw [hi] at h;simp at h
  |some i =>
   rw [hi] at h;simp only at h
   cases hb:fy y.cells.toList.length i.size with
   |false=>rw [hb] at h;simp at h
   |true =>
    rw [hb] at h;simp only [cond_true] at h
    cases hw:s.write a y.cells.toList with
    |none=>rw [hw] at h;simp [z94] at h
    |some s1 =>
     rw [hw] at h;simp only [z94,fe,fm] at h;obtain ⟨rfl,rfl⟩:=h;obtain ⟨b,o,z,h1,rfl⟩:=hx.ptr;have hl:=hy.cells;obtain ⟨e1,e2,e3,e4,e5⟩:=zo7 hw hr hV h1 hl;have hlen:y'.cells.size=i.size:=by rw [<- jr,<- hl.length];exact fl hb
     have hst:=run_storeCells_cells (P:=P) b (o+a.off) y'.cells.toList 0 w (by simpa using e1) (by simpa using e2) e3;refine ⟨σ,_,.skip,undef,?_,.inr ⟨rfl,rfl⟩,VR.undef,e4,e5⟩;simp only [Nat.add_zero] at hst;simp [Instr.storeAt,pq,storeVar,zd5 (hE.ti _ _ hi),hlen,hst]
 .simp at h
theorem zzz (hE:zeb P Γ) (hr:Rel σ V s w) {t:gm} {k:Nat} {x x':Value} (h:zd6 Γ s t k x=some (v,s')) (hx:VR σ x x'):DidV σ V s w ((Instr.fieldAt t x' k).run P w) v s':=by
 unfold zd6 at h;split at h
 .rename_i a
  cases hi:Γ.ti.at t with
  |none=>rw [hi] at h;simp at h
  |some i =>
   rw [hi] at h;simp only at h;split at h
   .rename_i fs hd;have hu:=(hE.ti _ _ hi).und;rw [hd] at hu
    cases hp:zfk Γ fs k with
    |none=>rw [hp] at h;simp at h
    |some p =>
     obtain ⟨off,size⟩:=p;rw [hp] at h;simp only at h
     cases hb:fy size 0 with
     |true=>rw [hb] at h;simp at h
     |false =>
      rw [hb] at h;simp only [cond_false,fe,fm] at h;obtain ⟨rfl,rfl⟩:=h;have hs0:size≠0:=by rintro rfl;simp at hb
      unfold zfk at hp
      cases hf:fs[k]? with
      |none=>rw [hf] at hp;simp at hp
      |some f =>
       rw [hf] at hp;simp only at hp
       cases hj:Γ.ti.at f.type with
       |none=>rw [hj] at hp;simp at hp
       |some j =>
        rw [hj] at hp;simp only [fe,fm] at hp;obtain ⟨rfl,rfl⟩:=hp;obtain ⟨b,o,z,hσ,rfl⟩:=hx.ptr;have:VR σ (.pointer (some (Addr.plus a f.offset))) (.pointer (some ⟨b,o+(a.off+f.offset),none⟩)):=VR.mk ⟨b,o,z,hσ,rfl⟩;refine DidV.same hr ?_ this;simp [Instr.fieldAt,ig hu,hf,pq,fieldPlace,zd5 (hE.ti _ _ hj),hs0,nr,oz]
   .simp at h
 .simp at h
end
section
variable {P:gn} {Γ:Env} {σ:Sg} {V:Nat->Prop} {s s':CS} {w:World} {v:Value}
theorem znu {size k n:Nat} {a:Addr} (h:zvn s size k n a=some (v,s')):k<n/\v=.pointer (some (Addr.plus a (k*size)))/\s'=s:=by
 unfold zvn at h
 cases hb:ic k n with
 |false=>rw [hb] at h;simp at h
 |true=>rw [hb] at h;simp at h;exact ⟨zad.1 hb,h.1.symm,h.2.symm⟩
theorem zzu (hE:zeb P Γ) (hr:Rel σ V s w) {t:gm} {x x' y y':Value} (h:zb8 Γ s t x (zhq y)=some (v,s')) (hx:VR σ x x') (hy:VR σ y y'):DidV σ V s w ((Instr.indexAt t x' y').run P w) v s':=by
 unfold zb8 at h
 cases hi:Γ.ti.at t with
 |none=>rw [hi] at h;simp at h
 |some i =>
  cases hk:zhq y with
  |none=>rw [hi,hk] at h;simp at h
  |some k =>
   rw [hi,hk] at h;simp only at h;obtain ⟨kk,rfl⟩:=zlh hk;obtain rfl:=hy.int;have hti:=hE.ti _ _ hi;split at h
   .rename_i a;split at h
    .rename_i n e hd;have hu:=hti.und;rw [hd] at hu
     cases hj:Γ.ti.at e with
     |none=>rw [hj] at h;simp at h
     |some j =>
      rw [hj] at h;obtain ⟨h1,rfl,rfl⟩:=znu h;obtain ⟨b,o,z,hσ,rfl⟩:=hx.ptr;have:VR σ (.pointer (some (Addr.plus a (k*j.size)))) (.pointer (some ⟨b,o+(a.off+k*j.size),none⟩)):=VR.mk ⟨b,o,z,hσ,rfl⟩;refine DidV.same hr ?_ this;simp [Instr.indexAt,asIntOf,ig hu,pq,zd5 (hE.ti _ _ hj),h1,nr,oz]
    .simp at h
   .rename_i a n c;split at h
    .rename_i e hd;have hu:=hti.und;rw [hd] at hu
     cases hj:Γ.ti.at e with
     |none=>rw [hj] at h;simp at h
     |some j =>
      rw [hj] at h;obtain ⟨h1,rfl,rfl⟩:=znu h;obtain ⟨b,o,z,hσ,a',c',rfl,h3,h4,h5,h6,_⟩:=hx.out;have:=h6 (by omega);subst this;have:VR σ (.pointer (some (Addr.plus a (k*j.size)))) (.pointer (some ⟨b,o+(a.off+k*j.size),none⟩)):=VR.mk ⟨b,o,z,hσ,rfl⟩;refine DidV.same hr ?_ this;simp [Instr.indexAt,asIntOf,ig hu,zd5 (hE.ti _ _ hj),h1,nr,oz]
    .simp at h
   .simp at h
theorem ydt (hE:zeb P Γ) (hr:Rel σ V s w) {t:gm} {x x' y y':Value} (h:zkm Γ s t x (zhq y)=some (v,s')) (hx:VR σ x x') (hy:VR σ y y'):DidV σ V s w ((Instr.index t x' y').run P w) v s':=by
 unfold zkm at h
 cases hi:Γ.ti.at t with
 |none=>rw [hi] at h;simp at h
 |some i =>
  cases hk:zhq y with
  |none=>rw [hi,hk] at h;simp at h
  |some k =>
   rw [hi,hk] at h;simp only at h;obtain ⟨kk,rfl⟩:=zlh hk;obtain rfl:=hy.int;have hti:=hE.ti _ _ hi;split at h
   .rename_i cs;split at h
    .rename_i n e hd;have hu:=hti.und;rw [hd] at hu
     cases hj:Γ.ti.at e with
     |none=>rw [hj] at h;simp at h
     |some j =>
      rw [hj] at h;simp only at h
      cases hb:ic k n with
      |false=>rw [hb] at h;simp at h
      |true =>
       rw [hb] at h;obtain ⟨hp,rfl⟩:=zjs h;obtain ⟨xs',rfl,hl⟩:=hx.agg;obtain ⟨v',h1,h2⟩:=z9k (P:=P) (w:=w) (hE.ti _ _ hj) hp hl;refine DidV.same hr ?_ h2;have hkn:=zad.1 hb;simp [Instr.index,asIntOf,ig hu,zd5 (hE.ti _ _ hj),hkn,h1]
    .simp at h
   .rename_i b;split at h
    .rename_i hd;have hu:=hti.und;rw [hd] at hu
     cases hc:b.data.toList[k]? with
     |none=>rw [hc] at h;simp at h
     |some c =>
      rw [hc] at h;simp only [fe,fm] at h;obtain ⟨rfl,rfl⟩:=h;obtain rfl:=hx.str;refine DidV.same hr ?_ (VR.ofInt _ _)
      have hlt:k<b.data.size:=by
       have:=(ge.1 hc).1
       rwa [jr] at this
      have hbk:b[k]?=some c:=by
       rw [ki] at hc;have h1:b[k]?=some b[k]:=getElem?_pos b k hlt;rw [h1];have h2:b.data[k]?=some b.data[k]:=kw hlt;rw [h2] at hc;exact hc
      simp [Instr.index,asIntOf,ig hu,hbk]
    .simp at h
   .simp at h
theorem z43 (hr:Rel σ V s w) {k:Nat} {x x':Value} (h:zin s k x=some (v,s')) (hx:VR σ x x'):DidV σ V s w ((Instr.extract x' k).run P w) v s':=by
 unfold zin at h;split at h
 .rename_i vs;obtain ⟨hp,rfl⟩:=zjs h;obtain ⟨xs',rfl,hl⟩:=hx.out;obtain ⟨v',h1,h2⟩:=hl.at hp;refine DidV.same hr ?_ h2;rw [ki] at h1;simp [Instr.extract,h1]
 .simp at h
def zme (x:Option Value) (d n:Nat):Prop:=(x=none/\n=d)\/∃ k,x=some (.int k (n:Int))
theorem zl2 {len cap l h m:Nat} {lo hi mx:Option Value} (hb:zb2 len cap lo hi mx=some (l,h,m)) :
    zme lo 0 l/\zme hi len h/\zme mx cap m/\l<=h/\h<=m/\m<=cap/\(mx=none\/hi≠none):=by
  have one:∀ (x:Option Value) (d n:Nat),(match x with|some v=>zhq v|none=>some d)=some n->zme x d n:=by
    intro x d n hx
    cases x with
    |none=>simp at hx;exact .inl ⟨rfl,hx.symm⟩
    |some y=>obtain ⟨k,hk⟩:=zlh hx;exact .inr ⟨k,by rw [hk]⟩
  unfold zb2 at hb;split at hb
  . rename_i m' h' l' e1 e2 e3
    cases hc:(h9 l' h' && h9 h' m' && h9 m' cap && (mx.isNone || hi.isSome)) with
    |false=>rw [hc] at hb;simp at hb
    |true =>
      rw [hc] at hb;simp only [cond_true,fe,fm] at hb;obtain ⟨rfl,rfl,rfl⟩:=hb;simp only [fj] at hc;refine ⟨one _ _ _ e3,one _ _ _ e2,one _ _ _ e1,zav.1 hc.1.1.1,zav.1 hc.1.1.2,zav.1 hc.1.2,?_⟩;cases mx<;>cases hi<;>simp_all
  . simp at hb
theorem zme.rel {x x':Option Value} {d n:Nat} (h:zme x d n) (hx:match x,x' with|none,none=>True|some a,some b=>VR σ a b|_,_=>False):zme x' d n:=by
 rcases h with ⟨rfl,rfl⟩|⟨k,rfl⟩
 .cases x' with
  |none=>exact .inl ⟨rfl,rfl⟩
  |some y=>exact hx.elim
 .cases x' with
  |none=>exact hx.elim
  |some y=>exact .inr ⟨k,by rw [VR.int (hx:VR σ _ _)]⟩
theorem znw {len cap' l h m:Nat} {lo hi mx:Option Value} (b:Bool) (h1:zme lo 0 l) (h2:zme hi len h) (h3:mx=none/\m=cap'\/∃ k,mx=some (.int k (m:Int))) (h4:l<=h) (h5:h<=m) (h6:m<=cap') (h7:mx=none\/hi≠none) (w:World) :
    (Instr.sliceBounds b len cap' lo hi mx).run P w=.ok (l,h,m) w:=by
  have h8:h<=cap':=jv h5 h6
  rcases h1 with ⟨rfl,rfl⟩|⟨k1,rfl⟩<;>rcases h2 with ⟨rfl,rfl⟩|⟨k2,rfl⟩<;>rcases h3 with ⟨rfl,rfl⟩|⟨k3,rfl⟩ <;>
    first | (exfalso;rcases h7 with h7|h7<;>simp at h7;done) | (simp [Instr.sliceBounds,Instr.sliceBound,asIntOf,h4,h5,h6,h8])
def OptR (σ:Sg):Option Value->Option Value->Prop
 |none,none=>True
 |some a,some b=>VR σ a b
 |_,_=>False
theorem zme.rel' {x x':Option Value} {d n:Nat} (h:zme x d n) (hx:OptR σ x x'):zme x' d n:=by
 rcases h with ⟨rfl,rfl⟩|⟨k,rfl⟩
 .cases x' with
  |none=>exact .inl ⟨rfl,rfl⟩
  |some y=>exact hx.elim
 .cases x' with
  |none=>exact hx.elim
  |some y=>exact .inr ⟨k,by rw [VR.int (hx:VR σ _ _)]⟩
theorem OptR.none {x x':Option Value} (hx:OptR σ x x'):x=none↔x'=none:=by
 cases x<;>cases x'<;>simp_all [OptR]
theorem yky (b o n:Nat):(⟨b,o,none⟩:Addr).add n=⟨b,o+n,none⟩:=nr b o n
theorem zu5 {size:Nat} {exact:Bool} {a:Addr} {x:Option (Nat×Nat×Nat)} (h:cutC s size exact a x=some (v,s')) :
    ∃ l hh m,x=some (l,hh,m)/\(Addr.ver a % 1024=0\/exact=false/\Addr.ver a % 1024=size+1)/\v=.slice (some (Addr.plus a (l*size))) (hh - l) (m - l)/\s'=s:=by
  unfold cutC at h;split at h
  . rename_i l hh m
    cases hb:(fy (Addr.ver a % 1024) 0 || (!exact && fy (Addr.ver a % 1024) (size+1))) with
    |false=>rw [hb] at h;simp at h
    |true =>
      rw [hb] at h;simp only [cond_true,fe,fm] at h;refine ⟨l,hh,m,rfl,?_,h.1.symm,h.2.symm⟩;rw [Bool.or_eq_true] at hb;rcases hb with hb|hb
      . exact .inl (fl hb)
      . rw [fj] at hb;exact .inr ⟨by simpa using hb.1,fl hb.2⟩
  . simp at h
theorem zx6 (hE:zeb P Γ) (hr:Rel σ V s w) {d:nf} {a:Addr} {lo hi mx lo' hi' mx':Option Value} (h:zoj Γ s d a lo hi mx=some (v,s')) (hlo:OptR σ lo lo') (hhi:OptR σ hi hi') (hmx:OptR σ mx mx') {b o z:Nat} (hσ:σ a.block (Addr.ver a)=some (b,o,z)) :
    ∃ n e size l hh m,d=.array n e/\(sizeOf e).run P w=.ok size w/\(∀ bb,(Instr.sliceBounds bb n n lo' hi' mx').run P w=.ok (l,hh,m) w)/\s'=s /\
      VR σ v (.slice (some (if m=l then ⟨b,o+a.off,none⟩ else (⟨b,o+a.off,none⟩:Addr).add (l*size))) (hh - l) (m - l)):=by
  unfold zoj at h;split at h
  . rename_i n e
    cases hj:Γ.ti.at e with
    |none=>rw [hj] at h;simp at h
    |some j =>
      rw [hj] at h;simp only at h;rw [zcl] at h;split at h
      . rename_i hn;obtain ⟨l,hh,m,hb,ht,rfl,rfl⟩:=zu5 h;obtain ⟨b1,b2,b3,b4,b5,b6,b7⟩:=zl2 hb
        have ht0:Addr.ver a % 1024=0:=by
          rcases ht with ht|ht
          . exact ht
          . simp at ht
        have hnn:=zav.1 hn;refine ⟨n,e,j.size,l,hh,m,rfl,zd5 (hE.ti _ _ hj) w,fun bb=>?_,rfl,?_⟩
        . refine znw bb (b1.rel' hlo) (b2.rel' hhi) ?_ b4 b5 b6 ?_ w
          . rcases b3.rel' hmx with ⟨h1,h2⟩|h1
            . exact .inl ⟨h1,h2⟩
            . exact .inr h1
          . rcases b7 with h1|h1
            . exact .inl (hmx.none.1 h1)
            . exact .inr fun k=>h1 (hhi.none.2 k)
        . refine VR.mk ⟨b,o,z,hσ,_,m - l,rfl,by omega,fp _,by unfold maxLen;omega,?_,fun _=>rfl,fun k=>absurd ht0 k⟩;intro hne;rw [zAd (by omega),yky,oz];rfl
      . simp at h
  . simp at h
theorem ybh (hE:zeb P Γ) (hr:Rel σ V s w) {t:gm} {x x':Value} {lo hi mx lo' hi' mx':Option Value} (h:zdj Γ s t x lo hi mx=some (v,s')) (hx:VR σ x x') (hlo:OptR σ lo lo') (hhi:OptR σ hi hi') (hmx:OptR σ mx mx') :
    DidV σ V s w ((pg t x' lo' hi' mx').run P w) v s':=by
  unfold zdj at h
  cases hi1:Γ.ti.at t with
  |none=>rw [hi1] at h;simp at h
  |some i =>
    rw [hi1] at h;simp only at h;have hti:=hE.ti _ _ hi1;split at h
    . rename_i b;split at h
      . rename_i hd;have hu:=hti.und;rw [hd] at hu
        cases hm:mx with
        |some _=>rw [hm] at h;simp at h
        |none =>
          rw [hm] at h;simp only [Option.isNone_none,cond_true] at h;unfold z8d at h;split at h
          . rename_i l hh m hb;simp only [fe,fm] at h;obtain ⟨rfl,rfl⟩:=h;obtain ⟨b1,b2,b3,b4,b5,b6,_⟩:=zl2 hb;obtain rfl:=hx.str;have hm':mx'=none:=(hmx.none (σ:=σ)).1 hm;subst hm';have hmm:m=b.size:=by rcases b3 with ⟨_,h1⟩|⟨k,h1⟩;exact h1;simp at h1
            subst hmm;have:=znw (P:=P) (len:=b.size) (cap':=b.size) (m:=b.size) (mx:=none) false (b1.rel' hlo) (b2.rel' hhi) (.inl ⟨rfl,rfl⟩) b4 b5 (fp _) (.inl rfl) w;refine DidV.same hr ?_ (VR.ofStr _);simp [pg,Instr.slice,ig hu,this]
          . simp at h
      . simp at h
    . rename_i a len cap;split at h
      . rename_i e hd;have hu:=hti.und;rw [hd] at hu
        cases a with
        |none =>
          simp only at h
          cases hj:Γ.ti.at e with
          |none=>rw [hj] at h;simp at h
          |some j =>
          rw [hj] at h;simp only at h;split at h
          . rename_i hb;simp only [fe,fm] at h;obtain ⟨rfl,rfl⟩:=h;obtain ⟨rfl,rfl,rfl⟩:=hx.out;obtain ⟨b1,b2,b3,b4,b5,b6,b7⟩:=zl2 hb
            have:=znw (P:=P) (len:=0) (cap':=0) (m:=0) (mx:=mx') true (b1.rel' hlo) (b2.rel' hhi) (by
              rcases b3.rel' hmx with ⟨h1,h2⟩|h1
              . exact .inl ⟨h1,rfl⟩
              . exact .inr h1) (fp _) (fp _) (fp _) (by
              rcases b7 with h1|h1
              . exact .inl (hmx.none.1 h1)
              . exact .inr fun k=>h1 (hhi.none.2 k)) w
            refine DidV.same (v':=.slice none 0 0) hr ?_ (VR.mk ⟨rfl,rfl,rfl⟩);simp [pg,Instr.slice,ig hu,this,zd5 (hE.ti _ _ hj)]
          . simp at h
        |some a =>
          simp only at h
          cases hj:Γ.ti.at e with
          |none=>rw [hj] at h;simp at h
          |some j =>
            rw [hj] at h;simp only at h;obtain ⟨l,hh,m,hb,ht,rfl,rfl⟩:=zu5 h;obtain ⟨b1,b2,b3,b4,b5,b6,b7⟩:=zl2 hb;obtain ⟨b,o,z,hσ,a',c',rfl,h3,h4,h5,h6,h7,h8⟩:=hx.out
            -- the end of the capacity, in the model
            obtain ⟨m',hm1,hm2,hm3,hm4⟩:∃ m',(mx'=none/\m'=c'\/∃ k,mx'=some (.int k (m':Int)))/\m<=m'/\m'<=c'/\(c'=cap->m'=m):=by
              rcases b3.rel' hmx with ⟨h1,h2⟩|h1
              . exact ⟨c',.inl ⟨h1,rfl⟩,by omega,fp _,by omega⟩
              . exact ⟨m,.inr h1,fp _,by omega,fun _=>rfl⟩
            have:=znw (P:=P) (len:=len) (cap':=c') (m:=m') (mx:=mx') true (b1.rel' hlo) (b2.rel' hhi) hm1 b4 (by omega) hm3 (by
              rcases b7 with h1|h1
              . exact .inl (hmx.none.1 h1)
              . exact .inr fun k=>h1 (hhi.none.2 k)) w
            refine DidV.same (v':=.slice (some (if m'=l then a' else a'.add (l*j.size))) (hh - l) (m' - l)) hr ?_ ?_
            . have hif:(if m'=l then some a' else some (a'.add (l*j.size)))=some (if m'=l then a' else a'.add (l*j.size)):=by split<;>rfl
              simp [pg,Instr.slice,ig hu,this,zd5 (hE.ti _ _ hj),hif]
            . refine VR.mk ⟨b,o,z,hσ,_,m' - l,rfl,by omega,by omega,by omega,?_,?_,?_⟩
              . intro hne;rw [zAd (by omega),h6 (by omega),yky,oz];rfl
              . intro h0;have:=hm4 (h7 h0);omega
              . intro h0 hne;rcases ht with ht|ht
                . exact absurd ht h0
                . have hb2:=h8 h0 (by omega);have hv:Addr.ver (Addr.plus a (l*j.size))=Addr.ver a:=rfl;rw [ht.2] at hb2;rw [hv,ht.2];simp only [Nat.add_sub_cancel] at hb2 ⊢
                  have:l*j.size+(m' - l)*j.size<=c'*j.size:=by
                    rw [<- jm];exact lr _ (by omega)
                  show o+(a.off+l*j.size)+(m' - l)*j.size<=z;omega
      . simp at h
    . rename_i a;obtain ⟨b,o,z,hσ,rfl⟩:=hx.ptr;split at h
      . rename_i arr hd;have hu:=hti.und;rw [hd] at hu
        cases hia:Γ.ti.at arr with
        |none=>rw [hia] at h;simp at h
        |some ia =>
          rw [hia] at h;simp only at h;obtain ⟨n,e,size,l,hh,m,hd2,hsz,hbd,rfl,hv⟩:=zx6 (P:=P) (w:=w) hE hr h hlo hhi hmx hσ;have hu2:=(hE.ti _ _ hia).und;rw [hd2] at hu2;refine DidV.same hr ?_ hv;simp [pg,Instr.slice,ig hu,ig hu2,asAddr,hbd,hsz]
      . rename_i d hd;obtain ⟨n,e,size,l,hh,m,hd2,hsz,hbd,rfl,hv⟩:=zx6 (P:=P) (w:=w) hE hr h hlo hhi hmx hσ;have hu:=hti.und;rw [hd2] at hu;refine DidV.same hr ?_ hv;simp [pg,ig hu,pq,hbd,hsz]
    . simp at h
end
theorem z3z {cs:List Value} {off:Nat} {x:Value} {l:List Value} (h:off+(l.length+1)<=cs.length):splice (cs.set off x) (off+1) l=splice cs off (x :: l):=by
 apply sl;intro j;rw [ztf (by simp;omega),ztf (by simp;omega)];by_cases h1:j=off
 .subst h1;rw [zAd (by omega),zAc (by simp)];simp only [Nat.sub_self,gz];rw [List.getElem?_set_self (by omega)]
 .by_cases h2:off<j/\j<off+1+l.length
  .rw [zAc ⟨by omega,by omega⟩,zAc ⟨by omega,by simp;omega⟩];rw [show j - off=(j - (off+1))+1 by omega,lh]
  .rw [zAd (by omega),zAd (by simp;omega),List.getElem?_set_ne (by omega)]
theorem zuu (off:Nat):∀ (l:List Value) (k:Nat) (cs:Array Value),off+k+l.length<=cs.size->((l.zipIdx k).foldl (fun cs (p:Value×Nat)=>cs.setIfInBounds (off+p.2) p.1) cs).toList=splice cs.toList (off+k) l
 |[],k,cs,h=>by
  unfold splice
  simp
 |x :: l,k,cs,h=>by
  simp only [List.zipIdx_cons,List.foldl_cons];simp only [List.length_cons] at h;rw [zuu off l (k+1) _ (by simp;omega),Array.toList_setIfInBounds,show off+(k+1)=off+k+1 by omega,z3z (by simp;omega)]
theorem z2j {off:Nat} {v:Value} {cs:Array Value} (h:off+v.cells.size<=cs.size):(v.cells.zipIdx.foldl (fun cs (x:Value×Nat)=>cs.setIfInBounds (off+x.2) x.1) cs).toList=splice cs.toList off v.cells.toList:=by
 rw [<- Array.foldl_toList];simp only [Array.toList_zipIdx];have:=zuu off v.cells.toList 0 cs (by simpa using h);simpa using this
theorem RL.splice {R:Value->Value->Prop} {a b x y:List Value} (h:RL R a b) (k:RL R x y) (off:Nat):RL R (splice a off x) (splice b off y):=by
 unfold Go.Proofs.Ytkfnjbfnkpameaa.splice;rw [k.length];exact ((h.take off).append k).append (h.drop _)
section
variable {P:gn} {Γ:Env} {σ:Sg} {V:Nat->Prop} {s s':CS} {w:World} {v:Value}
theorem zst {place place':Nat->Option (Nat×Nat)} (hp:∀ k p,place k=some p->place' k=some p) {ρ ρ':f7->Value} :
    ∀ (parts:List (Nat×f7)) (l:List (Nat×List Value)) (cells:List Value) (cells':Array Value) (r:List Value),(∀ p,p∈parts->VR σ (ρ p.2) (ρ' p.2))->zho place ρ parts=some l->zq5 cells l=some r->RL (VR σ) cells cells'.toList ->
      ∃ r',Instr.fill place' cells' (parts.map fun (i,x)=>(i,ρ' x))=some r'/\RL (VR σ) r r'.toList
  |[],l,cells,cells',r,_,h,hf,hl=>by
    simp only [zho,fe] at h;subst h;simp only [zq5,fe] at hf;subst hf;exact ⟨cells',rfl,hl⟩
  |(k,x) :: parts,l,cells,cells',r,hρ,h,hf,hl=>by
    simp only [zho] at h
    cases hk:place k with
    |none=>rw [hk] at h;simp at h
    |some p =>
      obtain ⟨off,size⟩:=p
      cases hq:zho place ρ parts with
      |none=>rw [hk,hq] at h;simp at h
      |some l1 =>
        rw [hk,hq] at h;simp only at h
        cases hb:fy (ρ x).cells.toList.length size with
        |false=>rw [hb] at h;simp at h
        |true =>
          rw [hb] at h;simp only [cond_true,fe] at h;subst h;simp only [zq5] at hf
          cases hc:h9 (off+(ρ x).cells.toList.length) cells.length with
          |false=>rw [hc] at hf;simp at hf
          |true =>
            rw [hc] at hf;simp only [cond_true] at hf;have hx:=(hρ (k,x) (by simp)).cells;have h1:=zav.1 hc;have h2:=fl hb;have h3:=hx.length;have h4:=hl.length;have h5:(ρ' x).cells.size=size:=by rw [<- jr,<- h3];exact h2
            have h6:off+(ρ' x).cells.size<=cells'.size:=by rw [<- jr,<- h3,<- jr (xs:=cells'),<- h4];exact h1
            have hs:=z2j (off:=off) (v:=ρ' x) (cs:=cells') h6;obtain ⟨r',e1,e2⟩:=zst hp parts l1 _ ((ρ' x).cells.zipIdx.foldl (fun cs (x:Value×Nat)=>cs.setIfInBounds (off+x.2) x.1) cells') r (fun p hp2=>hρ p (by simp [hp2])) hq hf (by rw [hs];exact hl.splice hx off);refine ⟨r',?_,e2⟩;simp only [List.map_cons,Instr.fill,hp _ _ hk];rw [zAd (by simp [h5];rw [h5] at h6;exact h6)];exact e1
theorem z1g : ∀ (fs : List Field), (fs.all fun f => (Γ.ti.at f.type).isSome) = true -> zeb P Γ -> ∃ places, fs.mapM (fun f => (P.info? f.type).map fun i => (f.offset, i.size)) = some places /\
    ∀ (k:Nat) (f:Field) (j:TI),fs[k]?=some f->Γ.ti.at f.type=some j->places[k]?=some (f.offset,j.size)
  |[],_,_=>⟨[],rfl,fun k f j h=>by simp at h⟩
  |f :: fs,h,hE=>by
    simp only [List.all_cons,fj] at h;obtain ⟨places,h1,h2⟩:=z1g fs h.2 hE;obtain ⟨j,hj⟩:=Option.isSome_iff_exists.1 h.1;obtain ⟨i,z,hi,hs,_⟩:=(hE.ti _ _ hj).info;refine ⟨(f.offset,i.size) :: places,by simp [List.mapM_cons,hi,h1],?_⟩;intro k f' j' hf hj'
    cases k with
    |zero =>
      simp only [gz,fe] at hf;subst hf;rw [hj] at hj';cases hj'
      simp [hs]
    |succ k =>
      simp only [lh] at hf ⊢;exact h2 k f' j' hf hj'
theorem zqn {x:Option (List Value)} (h:aggC s x=some (v,s')):∃ cs,x=some cs/\v=.agg cs.toArray/\s'=s:=by
 unfold aggC at h
 cases x with
 |none=>simp at h
 |some cs=>simp at h;exact ⟨cs,rfl,h.1.symm,h.2.symm⟩
theorem zo1 {zero:List Value} {l:Option (List (Nat×List Value))} {cs:List Value} (h:zqj zero l=some cs):∃ l',l=some l'/\zq5 zero l'=some cs:=by
 unfold zqj at h
 cases l with
 |none=>simp at h
 |some l=>exact ⟨l,rfl,h⟩
theorem zqs (parts:Array (Nat×f7)) (ρ:f7->Value):(parts.map fun (i,x)=>(i,ρ x)).toList=parts.toList.map fun (i,x)=>(i,ρ x):=by simp
theorem ye4 (hE:zeb P Γ) (hr:Rel σ V s w) {t:gm} {parts:Array (Nat×f7)} {ρ ρ':f7->Value} (h:zkn Γ s ρ t parts.toList=some (v,s')) (hρ:∀ p,p∈parts.toList->VR σ (ρ p.2) (ρ' p.2)) :
    DidV σ V s w ((Instr.build t (parts.map fun (i,x)=>(i,ρ' x))).run P w) v s':=by
  unfold zkn at h
  cases hi:Γ.ti.at t with
  |none=>rw [hi] at h;simp at h
  |some i =>
    rw [hi] at h;simp only at h;have hti:=hE.ti _ _ hi;obtain ⟨it,z,g1,g2,g3,g4,g5,g6⟩:=hti.info;have hz0:RL (VR σ) i.zero z.cells.toList:=by rw [g5];exact hti.refl σ
    split at h
    . rename_i fs hd;have hu:=hti.und;rw [hd] at hu;rw [zcl] at h;split at h
      . rename_i hall;obtain ⟨cs,h1,rfl,rfl⟩:=zqn h;obtain ⟨l,h2,h3⟩:=zo1 h1;obtain ⟨places,p1,p2⟩:=z1g (P:=P) fs.toList hall hE
        obtain ⟨r',f1,f2⟩:=zst (place':=(places.toArray[·]?)) (fun k p hk=>by
          unfold zfk at hk
          cases hf:fs[k]? with
          |none=>rw [hf] at hk;simp at hk
          |some f =>
            rw [hf] at hk;simp only at hk
            cases hj:Γ.ti.at f.type with
            |none=>rw [hj] at hk;simp at hk
            |some j =>
              rw [hj] at hk;simp only [fe] at hk;subst hk;simp only [List.getElem?_toArray]
              exact p2 k f j (by rw [ki];exact hf) hj) parts.toList l i.zero z.cells cs hρ h2 h3 hz0
        refine DidV.same hr (run_build w t _ r' ?_) (VR.mk ⟨r',rfl,by simpa using f2⟩);simp only [Program.built,g1,hu,g4,p1,zqs];exact f1
      . simp at h
    . rename_i n e hd;have hu:=hti.und;rw [hd] at hu
      cases hj:Γ.ti.at e with
      |none=>rw [hj] at h;simp at h
      |some j =>
        rw [hj] at h;obtain ⟨cs,h1,rfl,rfl⟩:=zqn h;obtain ⟨l,h2,h3⟩:=zo1 h1;obtain ⟨ie,ze,e1,e2,_⟩:=(hE.ti _ _ hj).info;obtain ⟨r',f1,f2⟩:=zst (place':=fun i=>some (i*ie.size,ie.size)) (fun k p hk=>by unfold zb7 at hk;rw [e2];exact hk) parts.toList l i.zero z.cells cs hρ h2 h3 hz0;refine DidV.same hr (run_build w t _ r' ?_) (VR.mk ⟨r',rfl,by simpa using f2⟩);simp only [Program.built,g1,hu,g4,e1,zqs];exact f1
    . simp at h
theorem z12 (z:Array Value) (m:Nat) (hm:z.size=m) (h0:0<m):∀ n:Nat,((Array.range (n*m)).map (z[· % m]!)).toList=(gb n z.toList).flatten:=by
  intro n
  induction n with
  |zero=>simp
  |succ n ih =>
    apply sl;intro j;rw [jc,ii,<- ih];simp only [Array.toList_map,Array.toList_range,lj];by_cases h1:j<m
    . rw [gi (by simp;omega),n7 (by rw [jm];omega)];simp only [ov,ni h1];rw [ki,kw (by omega),getElem!_pos z j (by omega)]
    . rw [im (by simp;omega)];simp only [jr,hm];rw [lj];by_cases h2:j<(n+1)*m
      . rw [n7 h2,n7 (by rw [jm] at h2;omega)];simp only [ov];rw [<- Nat.mod_eq_sub_mod (by omega)]
      . rw [jw (by simp;omega),jw (by simp;rw [jm] at h2;omega)]
theorem zqc {t:gm} {j:TI} (hE:zeb P Γ) (h:zdt Γ t=some j):∃ e,P.underlying t=some (.slice e)/\TIOk P e j:=by
 unfold zdt at h
 cases hi:Γ.ti.at t with
 |none=>rw [hi] at h;simp at h
 |some i =>
  rw [hi] at h;simp only at h;split at h
  .rename_i e hd;have hu:=(hE.ti _ _ hi).und;rw [hd] at hu;exact ⟨e,hu,hE.ti _ _ h⟩
  .simp at h
theorem RL.flat {R:Value->Value->Prop} {a b:List Value} (h:RL R a b):∀ n,RL R (gb n a).flatten (gb n b).flatten
 |0=>trivial
 |n+1=>by simp only [jc,ii];exact h.append (RL.flat h n)
theorem zvx (hE:zeb P Γ) (hr:Rel σ V s w) (hF:ze8 σ s.n s'.n) {t:gm} {n:Nat} {parts:Array (Nat×f7)} {ρ ρ':f7->Value} (h:zcf Γ s ρ t n parts.toList=some (v,s')) (hρ:∀ p,p∈parts.toList->VR σ (ρ p.2) (ρ' p.2)) :
    DidV σ V s w ((Instr.buildSlice t n (parts.map fun (i,x)=>(i,ρ' x))).run P w) v s':=by
  unfold zcf at h
  cases hi:zdt Γ t with
  |none=>rw [hi] at h;simp at h
  |some j =>
    rw [hi] at h;simp only at h;obtain ⟨e,hu,hti⟩:=zqc hE hi
    cases hb:(h9 (n*j.size) 16777216 && ic 0 j.size) with
    |false=>rw [hb] at h;simp at h
    |true =>
      rw [hb] at h;simp only [cond_true] at h;rw [fj] at hb;have hn1:=zav.1 hb.1;have hn2:=zad.1 hb.2
      cases hc:zqj (gb n j.zero).flatten (zho (zb7 j.size) ρ parts.toList) with
      |none=>rw [hc] at h;simp at h
      |some cs =>
        rw [hc] at h;obtain ⟨a,h1,rfl⟩:=zh7 h;obtain ⟨l,h2,h3⟩:=zo1 hc;obtain ⟨ie,z,g1,g2,g3,g4,g5,g6⟩:=hti.info;have hzs:z.cells.size=j.size:=by rw [<- jr,g5];exact hti.len
        have hmade:=z12 z.cells j.size hzs hn2 n;have hz0:RL (VR σ) (gb n j.zero).flatten ((Array.range (n*j.size)).map (z.cells[· % j.size]!)).toList:=by rw [hmade,g5];exact (hti.refl σ).flat n
        obtain ⟨r',f1,f2⟩:=zst (place':=fun i=>some (i*ie.size,ie.size)) (fun k p hk=>by unfold zb7 at hk;rw [g2];exact hk) parts.toList l _ _ cs hρ h2 h3 hz0
        have hlen:cs.length<=16777216:=by
          have h5:∀ (l:List (Nat×List Value)) (c r:List Value),zq5 c l=some r->r.length=c.length:=by
            intro l
            induction l with
            |nil=>intro c r h;simp [zq5] at h;rw [h]
            |cons p l ih =>
              intro c r h;simp only [zq5] at h
              cases hq:h9 (p.1+p.2.length) c.length with
              |false=>rw [hq] at h;simp at h
              |true =>
                rw [hq] at h;rw [ih _ _ h,zph (zav.1 hq)]
          rw [h5 _ _ _ h3,hz0.length];simpa using hn1
        obtain ⟨rfl,_,e3,e4,e5⟩:=zjj (w0:=w) h1 hr hF (by decide) ⟨rfl,rfl,rfl,rfl⟩ r' e (0,0) (by intro j _;simp) r'.toList [] (by simp) f2;refine ⟨_,_,.slice (some ⟨w.heap.size,0,none⟩) n n,?_,VR.mk ⟨_,_,_,e5,_,n,rfl,fp _,fp _,?_,fun _=>rfl,fun _=>rfl,?_⟩,e3,e4⟩
        . by_cases hn0:n=0
          . subst hn0
            have f1':Instr.fill (fun i=>some (i*ie.size,ie.size)) #[] (List.map (fun x=>(x.fst,ρ' x.snd)) parts.toList)=some r':=by
              rw [<- f1];simp [Array.range_zero']
            simp [Instr.buildSlice,ig hu,sizeOf,typeInfo,g1,newRow,Array.range_zero',f1']
          . refine run_buildSlice w t e n _ r' ie z hu g1 g4 (by rw [g2];omega) (by rw [g2];intro h0;rcases Nat.mul_eq_zero.1 h0 with h0|h0<;>omega) ?_;rw [zqs,hzs,g2];rw [g2] at f1;exact f1
        . have:n<=n*j.size:=Nat.le_mul_of_pos_right n hn2;unfold maxLen;omega
        . intro h0;exfalso;apply h0;show (s.n*1024+0) % 1024=0;omega
theorem zzp (hE:zeb P Γ) (hr:Rel σ V s w) (hF:ze8 σ s.n s'.n) {t:gm} {x x' y y':Value} (h:ze6 Γ s t (zhq x) (zhq y)=some (v,s')) (hx:VR σ x x') (hy:VR σ y y') :
    DidV σ V s w ((Instr.makeSlice t x' y').run P w) v s':=by
  unfold ze6 at h;split at h
  . rename_i j l c hi hl hc;obtain ⟨e,hu,hti⟩:=zqc hE hi;obtain ⟨k1,rfl⟩:=zlh hl;obtain ⟨k2,rfl⟩:=zlh hc;obtain rfl:=hx.int;obtain rfl:=hy.int
    cases hb:(h9 l c && h9 (c*(j.bytes+1)) 1000000000 && ic 0 j.size) with
    |false=>rw [hb] at h;simp at h
    |true =>
      rw [hb] at h;simp only [cond_true] at h;simp only [fj] at hb;have h1:=zav.1 hb.1.1;have h2:=zav.1 hb.1.2;have h3:=zad.1 hb.2;obtain ⟨a,h4,rfl⟩:=zh7 h;obtain ⟨ie,z,g1,g2,g3,g4,g5,g6⟩:=hti.info;have hzs:z.cells.size=j.size:=by rw [<- jr,g5];exact hti.len
      have hmade:=z12 z.cells j.size hzs h3 c;have hcm:c<=c*(j.bytes+1):=Nat.le_mul_of_pos_right c (by omega);have hbm:j.bytes*c<=1000000000:=by rw [Nat.mul_add,Nat.mul_comm c] at h2;omega
      have hr1:=run_make (P:=P) w t e ie z hu g1 g4 k1 k2 l c (by omega) (by omega) (by rw [g3,<- Int.natCast_mul];omega) (by omega);simp only [Int.toNat_natCast] at hr1;have hcells:(madeCells z.cells (c*ie.size)).toList=(gb c z.cells.toList).flatten:=by unfold madeCells;rw [g2,hzs];exact hmade
      obtain ⟨rfl,_,e3,e4,e5⟩:=zjj (w0:=w) h4 hr hF (by decide) ⟨rfl,rfl,rfl,rfl⟩ (madeCells z.cells (c*ie.size)) e (0,0) (by intro j _;simp) _ [] (by rw [hcells,List.append_nil]) (by rw [g5];exact (hti.refl σ).flat c);refine ⟨_,_,_,hr1,VR.mk ⟨_,_,_,e5,_,c,rfl,h1,fp _,by unfold maxLen;omega,fun _=>rfl,fun _=>rfl,?_⟩,e3,e4⟩;intro h0;exfalso;apply h0;show (s.n*1024+0) % 1024=0;omega
  . simp at h
end
theorem zif (k:iu) (n:Nat) (h:n<topN k):k.wrap (n:Int)=n:=by
 cases k<;>simp [topN] at h<;>simp [IntKind.wrap,IntKind.bits,IntKind.signed]<;>omega
theorem yfq (k:iu):topN k<=2 ^ k.bits:=by cases k<;>simp [topN,IntKind.bits]
theorem z3p (k:iu):∃ t,topN k=2 ^ t:=by
 cases k
 .exact ⟨7,rfl⟩
 .exact ⟨15,rfl⟩
 .exact ⟨31,rfl⟩
 .exact ⟨63,rfl⟩
 .exact ⟨8,rfl⟩
 .exact ⟨16,rfl⟩
 .exact ⟨32,rfl⟩
 .exact ⟨64,rfl⟩
theorem ydu {k k':iu} (h:fy (ikN k) (ikN k')=true):k=k':=by
 cases k<;>cases k'<;>first|rfl | (exact absurd h (by decide))
theorem zei {k:iu} {b:Bool} {n:Nat} {v:Value} (h:natI k b n=some v):b=true/\v=.int k (n:Int):=by
 unfold natI at h;rw [zcl] at h;split at h
 .rename_i hb;simp at h;exact ⟨hb,h.symm⟩
 .simp at h
theorem zyc (m:Nat) (k:iu) (h:m<topN k):(BitVec.ofInt k.bits (m:Int)).toNat=m:=by
 rw [o6,BitVec.toNat_ofNat,ni (gr h (yfq k))]
theorem ye5 (m n:Nat):ic m n=decide ((m:Int)<(n:Int)):=by
 rw [ku,zad,decide_eq_true_iff];omega
theorem ye6 (m n:Nat):h9 m n=decide ((m:Int)<=(n:Int)):=by
 rw [ku,zav,decide_eq_true_iff];omega
theorem ye7 (m n:Nat):fy m n=((m:Int) == (n:Int)):=by
 rw [ku,beq_iff_eq];constructor
 .intro h;rw [fl h]
 .intro h;have:m=n:=by omega
  subst this;exact Nat.beq_refl m
theorem yhk {P:gn} {op:BinOp} {k:iu} {m n:Nat} {v:Value} {t:gm} {w:World} (h:binF op k m n=some v):(binOp op t (.int k (m:Int)) (.int k (n:Int))).run P w=.ok v w:=by
 unfold binF at h
 cases op with
 |add =>
  obtain ⟨h1,rfl⟩:=zei h;have h2:=zad.1 h1;have:=zif k (m+n) h2;simp only [Int.natCast_add] at this
  simp [binOp,qg,this]
 |sub =>
  obtain ⟨h1,rfl⟩:=zei h;rw [fj] at h1;have h2:=zav.1 h1.1;have h3:=zad.1 h1.2;have:=zif k (m - n) (by omega);rw [show ((m - n:Nat):Int)=(m:Int) - n by omega] at this;simp [binOp,qg,this];show (m:Int) - n=((m - n:Nat):Int);omega
 |mul =>
  obtain ⟨h1,rfl⟩:=zei h;have h2:=zad.1 h1;have:=zif k (m*n) h2;simp only [Int.natCast_mul] at this
  simp [binOp,qg,this]
 |quo =>
  obtain ⟨h1,rfl⟩:=zei h;rw [fj] at h1;have h2:=zad.1 h1.1;have h3:=zad.1 h1.2;have h4:m / n<=m:=Nat.div_le_self m n;have:=zif k (m / n) (by omega);have h5:(m:Int).tdiv (n:Int)=((m / n:Nat):Int):=by rw [Int.tdiv_eq_ediv_of_nonneg (by omega)];rfl
  simp [binOp,Op.intDiv,show n≠0 by omega,h5];rw [show (m:Int) / n=((m / n:Nat):Int) by rfl];exact this
 |rem =>
  obtain ⟨h1,rfl⟩:=zei h;have h2:=zad.1 h1;have h5:(m:Int).tmod (n:Int)=((m % n:Nat):Int):=by rw [Int.tmod_eq_emod_of_nonneg (by omega)];rfl
  simp [binOp,Op.intDiv,show n≠0 by omega,h5];rfl
 |and =>
  obtain ⟨h1,rfl⟩:=zei h;rw [fj] at h1;have h2:=zad.1 h1.1;have h3:=zad.1 h1.2;obtain ⟨t,ht⟩:=z3p k;have:=zif k (m &&& n) (by rw [ht] at h3 ⊢;exact Nat.and_lt_two_pow _ h3);simp [binOp,p8,BitVec.toNat_and,zyc _ _ h2,zyc _ _ h3,-o6];exact this
 |or =>
  obtain ⟨h1,rfl⟩:=zei h;rw [fj] at h1;have h2:=zad.1 h1.1;have h3:=zad.1 h1.2;obtain ⟨t,ht⟩:=z3p k;have:=zif k (m ||| n) (by rw [ht] at h2 h3 ⊢;exact Nat.or_lt_two_pow h2 h3);simp [binOp,p8,BitVec.toNat_or,zyc _ _ h2,zyc _ _ h3,-o6];exact this
 |xor =>
  obtain ⟨h1,rfl⟩:=zei h;rw [fj] at h1;have h2:=zad.1 h1.1;have h3:=zad.1 h1.2;obtain ⟨t,ht⟩:=z3p k;have:=zif k (m ^^^ n) (by rw [ht] at h2 h3 ⊢;exact Nat.xor_lt_two_pow h2 h3);simp [binOp,p8,BitVec.toNat_xor,zyc _ _ h2,zyc _ _ h3,-o6];exact this
 |shl =>
  obtain ⟨h1,rfl⟩:=zei h;rw [fj] at h1;have h3:=zad.1 h1.2;have h3':m*2 ^ (min n k.bits)<topN k:=h3;have:=zif k _ h3';simp only [Int.natCast_mul,Int.natCast_pow] at this;simp [binOp,Op.shift,show ¬ ((n:Int)<0) by omega];rw [show ((2:Int) ^ min n k.bits)=((2:Nat):Int) ^ min n k.bits by rfl,this]
 |shr =>
  obtain ⟨h1,rfl⟩:=zei h;simp [binOp,Op.shift,show ¬ ((n:Int)<0) by omega];show (m:Int).fdiv _=((m / 2 ^ (min n k.bits):Nat):Int);rw [Int.fdiv_eq_ediv_of_nonneg _ (Int.pow_nonneg (by omega))];rw [Int.natCast_ediv,Int.natCast_pow];rfl
 |andNot=>simp at h
 |eql=>simp only [zra,fe] at h;subst h;rw [ye7];simp [binOp,od]
 |neq=>simp only [zra,fe] at h;subst h;rw [ye7];simp [binOp,od];rfl
 |lss=>simp only [zra,fe] at h;subst h;rw [ye5];simp [binOp,od]
 |leq=>simp only [zra,fe] at h;subst h;rw [ye6];simp [binOp,od]
 |gtr=>simp only [zra,fe] at h;subst h;rw [ye5];simp [binOp,od]
 |geq=>simp only [zra,fe] at h;subst h;rw [ye6];simp [binOp,od]
section
variable {P:gn} {Γ:Env} {σ:Sg} {V:Nat->Prop} {s s':CS} {w:World} {v:Value}
theorem zpr {ρ ρ':f7->Value} {o:Oper} (hs:∀ cs b,o.op≠.select cs b) (h:zm0 P ρ o=some v) (hρ:∀ x,x∈o.op.operands.toList->VR σ (ρ x) (ρ' x)) :
    (mm ρ' o).run P w=.ok (.value v) w/\VR σ v v:=by
  unfold zm0 at h
  cases hp:o.op.operands.toList.all fun x=>za6 3 (ρ x) with
  |false=>rw [hp] at h;simp at h
  |true =>
    rw [hp] at h;simp only [cond_true] at h;rw [ib] at hp;have he:mm ρ' o=mm ρ o:=execOp_congr o hs fun x hx=>z6s 3 (hp x (by simpa using hx)) (hρ x (by simpa using hx));split at h
    . rename_i v1 hv
      cases hq:za6 3 v1 with
      |false=>rw [hq] at h;simp at h
      |true =>
        rw [hq] at h;simp only [cond_true,fe] at h;subst h;exact ⟨by rw [he];exact z2o hv w,zia 3 hq⟩
    . simp at h
theorem zqt (hr:Rel σ V s w) {ρ ρ':f7->Value} {o:Oper} (hs:∀ cs b,o.op≠.select cs b) {x:Option Value} (h:zhp P ρ o s x=some (v,s')) (hρ:∀ x,x∈o.op.operands.toList->VR σ (ρ x) (ρ' x))
    (hx:∀ y,x=some y->(mm ρ' o).run P w=.ok (.value y) w/\VR σ y y):Did σ V s w ((mm ρ' o).run P w) v s':=by
  unfold zhp at h
  cases x with
  |some y =>
    simp only [fe,fm] at h;obtain ⟨rfl,rfl⟩:=h;obtain ⟨h1,h2⟩:=hx _ rfl;exact Did.same hr h1 h2
  |none =>
    obtain ⟨h1,rfl⟩:=zjs h;obtain ⟨h2,h3⟩:=zpr (w:=w) hs h1 hρ;exact Did.same hr h2 h3
theorem yk3 {op:UnOp} {x x' y:Value} (h:unC op x=some y) (hx:VR σ x x'):(Op.unary op x').run P w=.ok y w/\VR σ y y:=by
 unfold unC at h;split at h
 .split at h
  .simp only [fe] at h;subst h;rw [hx.bool];exact ⟨by simp [Op.unary],VR.ofBool _⟩
  .simp at h
 .simp at h
theorem z46 {op:BinOp} {t:gm} {x y:f7} {k k':iu} {m n:Int}:(ma op t x y (.int k m) (.int k' n)).run P w=.ok () w:=by
 unfold ma;cases op<;>simp
theorem z80 {op:BinOp} {t:gm} {x y:f7} {a b a' b':Value} (h:binC op a b=some v) (ha:VR σ a a') (hb:VR σ b b'):(ma op t x y a' b').run P w=.ok () w/\(binOp op t a' b').run P w=.ok v w/\VR σ v v:=by
 unfold binC at h;split at h
 .rename_i k m k' n;rw [zcl] at h;split at h
  .rename_i hk;have:=ydu hk;subst this;have h1:a'=.int k (m:Int):=ha.int;have h2:b'=.int k (n:Int):=hb.int;subst h1;subst h2;refine ⟨z46,yhk h,?_⟩;unfold binF at h
   cases op<;>simp only [zra,fe] at h<;>first
    |(obtain ⟨_,rfl⟩:=zei h;exact VR.ofInt _ _)
    |(subst h;exact VR.ofBool _)
    |(simp at h)
  .simp at h
 .simp at h
theorem yer {src dst:gm} {i j:TI} (hi:TIOk P src i) (hj:TIOk P dst j) {k k1:iu} {n:Int} (hd:j.desc=.int k) {y:Value} (h:z95 k n=some y):(convert src dst (.int k1 n)).run P w=.ok y w/\VR σ y y:=by
 unfold z95 at h;split at h
 .rename_i m;obtain ⟨h1,rfl⟩:=zei h;have:=zif k m (zad.1 h1);have hu:=hj.und;rw [hd] at hu;refine ⟨?_,VR.ofInt _ _⟩;simp only [convert,nq,ig hi.und,ig hu,mn]
  have e:∀ d:nf,(match d,TypeDesc.int k,Value.int k1 (Int.ofNat m) with
   |_,.int k,.int _ n=>Conv.intToInt k n
   | _, _, _ => stuck "") = Conv.intToInt k (Int.ofNat m) := fun d => rfl
  simp [Conv.intToInt];exact this
 .simp at h
theorem zi3 {t:gm} {x y:Value} {b:Bool} {o1 o2:f7} (h:∀ d,(kx (d+1) t x y).run P w=.ok b w)
    (h1:(Op.equal t x y).run P w=.ok b w->(binOp .eql t x y).run P w=.ok (.bool b) w) (h2:(Op.equal t x y).run P w=.ok b w->(binOp .neq t x y).run P w=.ok (.bool (!b)) w) (h3:∀ op,(ma op t o1 o2 x y).run P w=.ok () w) :
    (binOp .eql t x y).run P w=.ok (.bool b) w/\(binOp .neq t x y).run P w=.ok (.bool (!b)) w/\(∀ op,(ma op t o1 o2 x y).run P w=.ok () w) :=
  ⟨h1 (h 9999),h2 (h 9999),h3⟩
set_option maxHeartbeats 1000000 in
theorem z64 {i:TI} {t:gm} (hi:TIOk P t i) {x y x' y':Value} {a b:Bool} (hx:nilT i.desc x=some a) (hy:nilT i.desc y=some b) (hab:(a || b)=true) (vx:VR σ x x') (vy:VR σ y y') (o1 o2:f7) :
    (binOp .eql t x' y').run P w=.ok (.bool (a && b)) w/\(binOp .neq t x' y').run P w=.ok (.bool (!(a && b))) w/\(∀ op,(ma op t o1 o2 x' y').run P w=.ok () w):=by
  have hu:=hi.und
  cases hd:i.desc with
  |pointer e =>
    rw [hd] at hu hx hy
    cases x with
    |pointer p =>
      cases y with
      |pointer q =>
        simp only [nilT,fe] at hx hy
        cases p with
        |none =>
          obtain rfl:=vx.out
          cases q with
          |none =>
            obtain rfl:=vy.out;subst hx;subst hy;exact zi3 (fun d=>by simp [kx,ig hu]) (fun h=>by simp [binOp,h]) (fun h=>by simp [binOp,h]) (fun op=>by unfold ma;cases op<;>simp)
          |some q =>
            obtain ⟨_,_,_,_,rfl⟩:=vy.out;subst hx;subst hy;exact zi3 (fun d=>by simp [kx,ig hu]) (fun h=>by simp [binOp,h]) (fun h=>by simp [binOp,h]) (fun op=>by unfold ma;cases op<;>simp)
        |some p =>
          obtain ⟨_,_,_,_,rfl⟩:=vx.out
          cases q with
          |none =>
            obtain rfl:=vy.out;subst hx;subst hy;exact zi3 (fun d=>by simp [kx,ig hu]) (fun h=>by simp [binOp,h]) (fun h=>by simp [binOp,h]) (fun op=>by unfold ma;cases op<;>simp)
          |some q=>subst hx;subst hy;simp at hab
      |_=>simp [nilT] at hy
    |_=>simp [nilT] at hx
  |slice e =>
    rw [hd] at hu hx hy
    cases x with
    |slice p n c =>
      cases y with
      |slice q n2 c2 =>
        simp only [nilT,fe] at hx hy
        cases p with
        |none =>
          obtain ⟨rfl,rfl,rfl⟩:=vx.out
          cases q with
          |none =>
            obtain ⟨rfl,rfl,rfl⟩:=vy.out;subst hx;subst hy;exact zi3 (fun d=>by simp [kx,ig hu]) (fun h=>by simp [binOp,h]) (fun h=>by simp [binOp,h]) (fun op=>by unfold ma;cases op<;>simp)
          |some q =>
            obtain ⟨_,_,_,_,_,_,rfl,_⟩:=vy.out;subst hx;subst hy;exact zi3 (fun d=>by simp [kx,ig hu]) (fun h=>by simp [binOp,h]) (fun h=>by simp [binOp,h]) (fun op=>by unfold ma;cases op<;>simp)
        |some p =>
          obtain ⟨_,_,_,_,_,_,rfl,_⟩:=vx.out
          cases q with
          |none =>
            obtain ⟨rfl,rfl,rfl⟩:=vy.out;subst hx;subst hy;exact zi3 (fun d=>by simp [kx,ig hu]) (fun h=>by simp [binOp,h]) (fun h=>by simp [binOp,h]) (fun op=>by unfold ma;cases op<;>simp)
          |some q=>subst hx;subst hy;simp at hab
      |_=>simp [nilT] at hy
    |_=>simp [nilT] at hx
  |map kt e =>
    rw [hd] at hu hx hy
    cases x with
    |map p =>
      cases y with
      |map q =>
        simp only [nilT,fe] at hx hy
        cases p with
        |none =>
          obtain rfl:=vx.out
          cases q with
          |none =>
            obtain rfl:=vy.out;subst hx;subst hy;exact zi3 (fun d=>by simp [kx,ig hu]) (fun h=>by simp [binOp,h]) (fun h=>by simp [binOp,h]) (fun op=>by unfold ma;cases op<;>simp)
          |some q =>
            obtain ⟨_,_,_,_,rfl⟩:=vy.out;subst hx;subst hy;exact zi3 (fun d=>by simp [kx,ig hu]) (fun h=>by simp [binOp,h]) (fun h=>by simp [binOp,h]) (fun op=>by unfold ma;cases op<;>simp)
        |some p =>
          obtain ⟨_,_,_,_,rfl⟩:=vx.out
          cases q with
          |none =>
            obtain rfl:=vy.out;subst hx;subst hy;exact zi3 (fun d=>by simp [kx,ig hu]) (fun h=>by simp [binOp,h]) (fun h=>by simp [binOp,h]) (fun op=>by unfold ma;cases op<;>simp)
          |some q=>subst hx;subst hy;simp at hab
      |_=>simp [nilT] at hy
    |_=>simp [nilT] at hx
  |func ps rs va =>
    rw [hd] at hu hx hy
    cases x with
    |func f1 a1 b1 =>
      obtain ⟨_,_,rfl,_⟩:=vx.out;simp only [nilT,fe] at hx
      cases y with
      |func f2 a2 b2=>simp only [nilT,fe] at hy;subst hx;subst hy;simp at hab
      |nilFunc =>
        obtain rfl:=vy.out;simp only [nilT,fe] at hy;subst hx;subst hy;exact zi3 (fun d=>by simp [kx,ig hu]) (fun h=>by simp [binOp,h]) (fun h=>by simp [binOp,h]) (fun op=>by unfold ma;cases op<;>simp)
      |_=>simp [nilT] at hy
    |nilFunc =>
      obtain rfl:=vx.out;simp only [nilT,fe] at hx
      cases y with
      |func f2 a2 b2 =>
        obtain ⟨_,_,rfl,_⟩:=vy.out;simp only [nilT,fe] at hy;subst hx;subst hy;exact zi3 (fun d=>by simp [kx,ig hu]) (fun h=>by simp [binOp,h]) (fun h=>by simp [binOp,h]) (fun op=>by unfold ma;cases op<;>simp)
      |nilFunc =>
        obtain rfl:=vy.out;simp only [nilT,fe] at hy;subst hx;subst hy;exact zi3 (fun d=>by simp [kx,ig hu]) (fun h=>by simp [binOp,h]) (fun h=>by simp [binOp,h]) (fun op=>by unfold ma;cases op<;>simp)
      |_=>simp [nilT] at hy
    |_=>simp [nilT] at hx
  |_=>rw [hd] at hx;cases x<;>simp [nilT] at hx
theorem z1r {x y:Option Bool} {neg:Bool} {r:Value} (h:nilC x y neg=some r):∃ a b,x=some a/\y=some b/\(a || b)=true/\r=.bool (xor neg (a && b)):=by
 unfold nilC at h;split at h
 .rename_i a b
  cases hab:(a || b) with
  |false=>rw [hab] at h;simp at h
  |true=>rw [hab] at h;simp only [cond_true,fe] at h;exact ⟨a,b,rfl,rfl,hab,h.symm⟩
 .simp at h
theorem ymo (hE:zeb P Γ) (hr:Rel σ V s w) {ρ ρ':f7->Value} {o:Oper} {op:BinOp} {t yt:gm} {x y:f7} (ho:o.op=.binOp op t x y yt) (h:zmj P Γ ρ o s t op (ρ x) (ρ y)=some (v,s')) (hρ:∀ x,x∈o.op.operands.toList->VR σ (ρ x) (ρ' x)) :
    Did σ V s w ((mm ρ' o).run P w) v s':=by
  have vx:VR σ (ρ x) (ρ' x):=hρ x (by rw [ho];simp [Op.operands]);have vy:VR σ (ρ y) (ρ' y):=hρ y (by rw [ho];simp [Op.operands]);unfold zmj at h;split at h
  . rename_i v1 hb;simp only [fe,fm] at h;obtain ⟨rfl,rfl⟩:=h;obtain ⟨h1,h2,h3⟩:=z80 (P:=P) (w:=w) (t:=t) (x:=x) (y:=y) hb vx vy;refine Did.same hr ?_ h3;simp [mm,ho,h1,h2]
  . refine zqt hr (by intro cs b;rw [ho];simp) h hρ ?_;intro r hq;unfold eqC at hq
    cases hi:Γ.ti.at t with
    |none=>rw [hi] at hq;simp at hq
    |some i =>
      rw [hi] at hq;simp only at hq;have hti:=hE.ti _ _ hi;split at hq
      . obtain ⟨a,b,e1,e2,e3,rfl⟩:=z1r hq;obtain ⟨h1,h2,h3⟩:=z64 (P:=P) (w:=w) hti e1 e2 e3 vx vy x y;refine ⟨?_,VR.ofBool _⟩;simp [mm,ho,h1,h3]
      . obtain ⟨a,b,e1,e2,e3,rfl⟩:=z1r hq;obtain ⟨h1,h2,h3⟩:=z64 (P:=P) (w:=w) hti e1 e2 e3 vx vy x y;refine ⟨?_,VR.ofBool _⟩;simp [mm,ho,h2,h3]
      . simp at hq
end
section
variable {P:gn} {Γ:Env} {σ:Sg} {V:Nat->Prop} {s s':CS} {w:World} {v:Value}
theorem zgc {s s':CS} {a:Addr} {tag:Nat} {cs:List Value} (ht:tag<1024) (h:s.newRow tag cs=some (a,s')):Can s s':=by
 obtain ⟨h1,_,h2⟩:=zt6 h;exact yc1 h1 (by intro p hp;simp at hp;subst hp;simp;omega) h2
theorem RL.ints {σ:Sg} (b:ByteArray):RL (VR σ) (zi6 b) (zi6 b):=RL.of rfl fun i x y hx hy=>by
 rw [hx] at hy;cases hy;unfold zi6 at hx;rw [lj] at hx
 cases h:b.data.toList[i]? with
 |none=>rw [h] at hx;simp at hx
 |some c=>rw [h] at hx;simp at hx;rw [<- hx];exact VR.ofInt _ _
theorem zks {s1:CS} {size n:Nat} {y y':Value} {new:List Value} (hr:Rel σ V s w) (h:s.firstCells size n y=some (new,s1)) (hV:zcm V s1) (hn:∃ m,lenC y=some m/\n<=m) (hy:VR σ y y') :
    ∃ new',(∀ w0:World,w0.heap=w.heap->(lm size n y').run P w0=.ok new'.toArray w0)/\RL (VR σ) new new'/\new'.length=n*size/\Can s s1/\Rel σ V s1 w/\Ext σ V s w σ s1 w:=by
  obtain ⟨m,hm,hnm⟩:=hn;unfold CS.firstCells at h
  cases y with
  |slice x n0 c =>
    simp only [lenC,fe] at hm;subst hm;simp only at h
    cases hb:fy (n*size) 0 with
    |true =>
      rw [hb] at h;simp only [cond_true,fe,fm] at h;obtain ⟨rfl,rfl⟩:=h;have h0:n*size=0:=fl hb;refine ⟨[],fun w0 _=>?_,trivial,h0.symm,Can.refl _,hr,Ext.refl _ _ _ _⟩
      cases x with
      |none=>obtain ⟨_,_,rfl⟩:=hy.out;simp [lm]
      |some a=>obtain ⟨_,_,_,_,_,_,rfl,_⟩:=hy.out;simp [lm,h0,loadCells,loadCellsFrom]
    |false =>
      rw [hb] at h;simp only [cond_false] at h
      cases x with
      |none=>simp at h
      |some a =>
        simp only at h
        cases hq:s.readRow a with
        |none=>rw [hq] at h;simp at h
        |some p =>
          obtain ⟨cs,s2⟩:=p;rw [hq] at h;simp only at h
          cases hc:cut cs a.off (n*size) with
          |none=>rw [hc] at h;simp at h
          |some l =>
            rw [hc] at h;simp only [fe,fm] at h;obtain ⟨rfl,rfl⟩:=h;obtain ⟨b,o,z,hσ,a',c',rfl,h3,h4,h5,h6,_⟩:=hy.out;have hrow:=zpm hq hr hV hσ;obtain ⟨l',e1,e2,e3⟩:=hrow.part hc
            have hne:c'≠0:=by
              rintro rfl;have:n=0:=by omega
              subst this;simp at hb
            have:=h6 hne;subst this;refine ⟨l',fun w0 hw0=>?_,e3,e1,znz hq,zzd hq hr,z6j hq⟩
            have:=run_loadCells_list (P:=P) w0 ⟨b,o+a.off,none⟩ l' (fun j v hj=>by
              rw [nr];have:=e2 j v hj;unfold World.cell? at this ⊢
              rw [hw0];exact this)
            rw [e1] at this
            simp [lm,this]
  |string b =>
    simp only [lenC,fe] at hm;subst hm;simp only at h
    cases hb:(fy size 1 && h9 n b.size) with
    |false=>rw [hb] at h;simp at h
    |true =>
      rw [hb] at h;simp only [cond_true,fe,fm] at h;obtain ⟨rfl,rfl⟩:=h;rw [fj] at hb;have h1:size=1:=fl hb.1;subst h1;obtain rfl:=hy.str;refine ⟨zi6 (b.extract 0 n),fun w0 _=>?_,RL.ints _,?_,Can.refl _,hr,Ext.refl _ _ _ _⟩
      . simp only [lm,Sem.run_pure];congr 1;unfold zi6;apply n9.1;simp
      . unfold zi6;rw [List.length_map,jr];show (b.extract 0 n).size=n*1;rw [ByteArray.size_extract];omega
  |_=>simp at h
theorem zf4 {s1:CS} {size n:Nat} {y:Value} {new:List Value} (h:s.firstCells size n y=some (new,s1)):Can s s1/\(Rel σ V s w->Rel σ V s1 w)/\s1.n=s.n/\s1.obj=s.obj:=by
 unfold CS.firstCells at h;split at h
 .rename_i x n0 c
  cases hb:fy (n*size) 0 with
  |true =>
   rw [hb] at h;simp only [cond_true,fe,fm] at h;obtain ⟨rfl,rfl⟩:=h;exact ⟨Can.refl _,fun k=>k,rfl,rfl⟩
  |false =>
   rw [hb] at h;simp only [cond_false] at h
   cases x with
   |none=>simp at h
   |some a =>
    simp only at h
    cases hq:s.readRow a with
    |none=>rw [hq] at h;simp at h
    |some p =>
     obtain ⟨cs,s2⟩:=p;rw [hq] at h;simp only at h
     cases hc:cut cs a.off (n*size) with
     |none=>rw [hc] at h;simp at h
     |some l =>
      rw [hc] at h;simp only [fe,fm] at h;obtain ⟨rfl,rfl⟩:=h;refine ⟨znz hq,fun k=>zzd hq k,?_,?_⟩<;>rw [(zdc hq).2]
 .rename_i b
  cases hb:(fy size 1 && h9 n b.size) with
  |false=>rw [hb] at h;simp at h
  |true =>
   rw [hb] at h;simp only [cond_true,fe,fm] at h;obtain ⟨rfl,rfl⟩:=h;exact ⟨Can.refl _,fun k=>k,rfl,rfl⟩
 .simp at h
theorem ygw {y y':Value} {n:Nat} (h:lenC y=some n) (hy:VR σ y y'):∀ w0:World,(Builtin.lenOf y').run P w0=.ok n w0:=by
 intro w0;unfold lenC at h;split at h
 .rename_i x m c;simp only [fe] at h;subst h
  cases x with
  |none=>obtain ⟨rfl,_,rfl⟩:=hy.out;rfl
  |some a=>obtain ⟨_,_,_,_,_,_,rfl,_⟩:=hy.out;rfl
 .simp only [fe] at h;subst h;obtain rfl:=hy.str;rfl
 .simp at h
theorem ybd (hE:zeb P Γ) {t:gm} (h:srcT Γ t=true):(∃ e',P.underlying t=some (.slice e'))\/P.underlying t=some .string:=by
 unfold srcT at h
 cases hi:Γ.ti.at t with
 |none=>rw [hi] at h;simp at h
 |some i =>
  rw [hi] at h;have hu:=(hE.ti _ _ hi).und;simp only at h;split at h
  .rename_i e hd;rw [hd] at hu;exact .inl ⟨e,hu⟩
  .rename_i hd;rw [hd] at hu;exact .inr hu
  .simp at h
theorem zmx {t tx ty e:gm} {i:TypeInfo} (ht:P.underlying t=some (.slice e)) (hi:P.info? e=some i) {base:Option Addr} {len cap:Nat} {x:Value} (hs:Src P i.size tx x 0 [] w) (hc:len<=cap) :
    (pj #[t,tx] ty #[.slice base len cap,x]).run P w=.ok (.slice base len cap) w:=by
  have h1:(lm i.size 0 x).run P w=.ok #[] w:=hs.cells
  cases base with
  |none=>rcases hs.kind with ⟨e',hk⟩|hk<;>simp [pj,ig ht,ig hk,sizeOf,typeInfo,hi,hs.len,hc,h1]
  |some a=>rcases hs.kind with ⟨e',hk⟩|hk<;>simp [pj,ig ht,ig hk,sizeOf,typeInfo,hi,hs.len,hc,h1,storeCells]
theorem z4z {z:Array Value} {n m:Nat} (hz:z.size=m):(m9 z n).size=n*m:=by simp [m9,hz]
theorem zto {t tx ty e:gm} {ie:TypeInfo} {z:Value} (hu:P.underlying t=some (.slice e)) (g1:P.info? e=some ie) (g4:ie.zero=some z) (hzs:z.cells.size=ie.size) (hsz:0<ie.size)
    {base:Option Addr} {len cap n:Nat} {olds news:List Value} {y':Value} (hold:(lm ie.size len (.slice base len cap)).run P w.drew=.ok olds.toArray w.drew) (hs:Src P ie.size tx y' n news w) (hol:olds.length=len*ie.size)
    (hg:cap<len+n) (h5:len+n<=1000000000) (h6:(len+n)*ie.bytes<=1000000000) :
    ∃ (C:Array Value) (more:List Value) (newCap:Nat),(pj #[t,tx] ty #[.slice base len cap,y']).run P w=.ok (.slice (some ⟨w.heap.size,0,none⟩) (len+n) newCap) (w.drew.alloc (.cells C e)) /\
      C.toList=(olds++news)++more/\C.size=newCap*ie.size/\len+n<=newCap/\newCap<=maxLen:=by
  have hr:=run_append_grow_src (P:=P) w t tx ty e ie z hu g1 g4 base len cap olds hold y' n news hs hg (by omega) (growslice_fits hg (by omega));have h1:=grownCap_ge w (len+n) cap e;have h2:=grownCap_le_maxLen w (len+n) cap e (by unfold maxLen;omega);refine ⟨_,_,_,hr,by rw [Array.toList_append],?_,h1,h2⟩;rw [Array.size_append,z4z hzs];simp only [List.size_toArray,fx,hol,hs.newsLen];rw [<- jm,<- jm];congr 1;omega
set_option maxHeartbeats 1000000 in
theorem yac (hE:zeb P Γ) (hr:Rel σ V s w) (hV:zcm V s') (hF:ze8 σ s.n s'.n) {t tx ty:gm} {x x' y y':Value} (h:zc2 Γ s t y x=some (v,s')) (htx:srcT Γ tx=true) (hx:VR σ x x') (hy:VR σ y y') :
    DidV σ V s w ((pj #[t,tx] ty #[x',y']).run P w) v s':=by
  unfold zc2 at h;split at h
  . rename_i base len cap
    cases hi:zdt Γ t with
    |none=>rw [hi] at h;simp at h
    |some j =>
      rw [hi] at h;simp only at h;obtain ⟨e,hu,hti⟩:=zqc hE hi;obtain ⟨ie,z,g1,g2,g3,g4,g5,g6⟩:=hti.info;have hzs:z.cells.size=j.size:=by rw [<- jr,g5];exact hti.len
      unfold CS.append at h
      cases hn:lenC y with
      |none=>rw [hn] at h;simp at h
      |some n =>
        rw [hn] at h;simp only at h
        cases hq:s.firstCells j.size n y with
        |none=>rw [hq] at h;simp at h
        |some p =>
          obtain ⟨new,s1⟩:=p;rw [hq] at h;simp only at h
          cases hb:(ic 1000000000 ((len+n)*(j.bytes+1)) || fy j.size 0 || h9 1000 j.size || !(new.all oneC)) with
          |true=>rw [hb] at h;simp at h
          |false =>
            rw [hb] at h;simp only [cond_false] at h;simp only [Bool.or_eq_false_iff] at hb;obtain ⟨⟨⟨hb1,hb2⟩,hb3⟩,hb4⟩:=hb
            have q1:(len+n)*(j.bytes+1)<=1000000000:=by
              by_cases hh:(len+n)*(j.bytes+1)<=1000000000
              . exact hh
              . rw [zad.2 (by omega)] at hb1;simp at hb1
            have q2:j.size≠0:=by rintro h0;rw [h0] at hb2;simp at hb2
            have q3:j.size<1000:=by
              by_cases hh:j.size<1000
              . exact hh
              . rw [zav.2 (by omega)] at hb3;simp at hb3
            have q4:new.all oneC=true:=by simpa using hb4
            have q5:len+n<=1000000000:=jv (Nat.le_mul_of_pos_right _ (by omega)) q1;have q6:(len+n)*j.bytes<=1000000000:=jv (Nat.mul_le_mul_left _ (by omega)) q1;obtain ⟨c1,k1,n1,o1⟩:=zf4 (σ:=σ) (V:=V) (w:=w) hq;have hr1:=k1 hr
            -- what is appended, once the plain machine's later steps are known to keep the log
            have hsrc:Can s1 s'->∃ new',Src P ie.size tx y' n new' w/\RL (VR σ) new new'/\new'.length=n*j.size/\Ext σ V s w σ s1 w:=by
              intro hc;obtain ⟨new',e1,e2,e3,_,_,e4⟩:=zks (P:=P) hr hq (hV.back hc) ⟨n,hn,fp _⟩ hy;refine ⟨new',⟨ybd hE htx,ygw hn hy,?_,?_,?_,e2.one q4⟩,e2,e3,e4⟩
              . rw [g2];exact e1 w rfl
              . rw [g2];exact e1 w.drew rfl
              . rw [g2];exact e3
            have q6':(len+n)*ie.bytes<=1000000000:=by rw [g3];exact q6
            have htag:∀ m,(m*1024+(j.size+1)) % 1024=j.size+1:=fun m=>by omega
            cases base with
            |none =>
              simp only at h;obtain ⟨rfl,rfl,rfl⟩:=hx.out
              cases hn0:fy n 0 with
              |true =>
                rw [hn0] at h;simp only [cond_true,fe,fm] at h;obtain ⟨rfl,rfl⟩:=h;have h0:n=0:=fl hn0;subst h0;obtain ⟨new',hs,_,e3,e4⟩:=hsrc (Can.refl _);have:new'=[]:=ji (by simpa using e3);subst this;exact ⟨σ,w,_,zmx hu g1 hs (fp _),hx,hr1,e4⟩
              |false =>
                rw [hn0] at h;simp only [cond_false,i5] at h
                have hn1:0<n:=by
                  rcases Nat.eq_zero_or_pos n with h0|h0
                  . rw [h0] at hn0;simp at hn0
                  . exact h0
                obtain ⟨a,h1,rfl⟩:=zh7 h;have c2:Can s1 s':=zgc (by omega) h1;obtain ⟨new',hs,e2,e3,e4⟩:=hsrc c2;obtain ⟨C,more,newCap,r1,r2,r3,r4,r5⟩:=zto (P:=P) (w:=w) (ty:=ty) hu g1 g4 (by rw [hzs,g2]) (by omega) (base:=none) (len:=0) (cap:=0) (olds:=[]) (by simp [lm]) hs (by simp) (by omega) (by omega) (by simpa using q6');simp only [i5,List.nil_append] at r1 r2 r4;obtain ⟨rfl,_,m1,m2,m3⟩:=zjj (w0:=w.drew) h1 hr1 (hF.mono (by omega) (fp _)) (by omega) ⟨rfl,rfl,rfl,rfl⟩ C e (0,0) (by intro j _;simp) new' more r2 e2;refine ⟨_,_,_,r1,?_,m1,e4.trans m2 c1 c2 hF hr.none⟩;refine VR.mk ⟨_,_,_,m3,_,newCap,rfl,fp _,r4,r5,fun _=>rfl,fun h0=>?_,fun _ _=>?_⟩
                . exfalso;have:(s1.n*1024+(j.size+1)) % 1024=0:=h0;omega
                . show 0+0+newCap*((s1.n*1024+(j.size+1)) % 1024 - 1)<=C.size;rw [htag,r3,g2]
                  simp
            |some a =>
              simp only at h;obtain ⟨b,o,zz,hσ,a',c',rfl,v1,v2,v3,v4,v5,v6⟩:=hx.out
              cases hroom:h9 (len+n) cap with
              |true =>
                rw [hroom] at h;simp only [cond_true] at h;have hle:=zav.1 hroom
                cases hn0:fy n 0 with
                |true =>
                  rw [hn0] at h;simp only [cond_true,fe,fm] at h;obtain ⟨rfl,rfl⟩:=h;have h0:n=0:=fl hn0;subst h0;obtain ⟨new',hs,_,e3,e4⟩:=hsrc (Can.refl _);have:new'=[]:=ji (by simpa using e3);subst this;exact ⟨σ,w,_,zmx hu g1 hs (by omega),hx,hr1,e4⟩
                |false =>
                  rw [hn0] at h;simp only [cond_false] at h
                  have hn1:0<n:=by
                    rcases Nat.eq_zero_or_pos n with h0|h0
                    . rw [h0] at hn0;simp at hn0
                    . exact h0
                  cases hw:s1.write (Addr.plus a (len*j.size)) new with
                  |none=>rw [hw] at h;simp at h
                  |some s2 =>
                    rw [hw] at h;simp only [fe,fm] at h;obtain ⟨rfl,rfl⟩:=h;have c2:Can s1 s2:=yak hr1 hw;obtain ⟨new',hs,e2,e3,e4⟩:=hsrc c2;have:=v4 (by omega);subst this;obtain ⟨w1,w2,w3,w4,w5⟩:=zo7 hw hr1 hV (a:=Addr.plus a (len*j.size)) hσ e2;have hoff:o+(Addr.plus a (len*j.size)).off=o+a.off+len*ie.size:=by rw [g2];show o+(a.off+len*j.size)=_;omega
                    rw [hoff] at w1 w2 w4 w5;have hrun:=run_append_room_src (P:=P) w t tx ty e ie hu g1 b (o+a.off) len c' y' n new' hs (by omega) w1 w2;refine ⟨σ,_,_,hrun,?_,w4,e4.trans w5 c1 c2 hF hr.none⟩;exact VR.mk ⟨b,o,zz,hσ,_,c',rfl,hle,v2,v3,fun _=>rfl,v5,v6⟩
              |false =>
                rw [hroom] at h;simp only [cond_false] at h
                have hgt:cap<len+n:=by
                  by_cases hh:len+n<=cap
                  . rw [zav.2 hh] at hroom;simp at hroom
                  . omega
                -- the old cells
                cases hold:(bif fy len 0 then some ([],s1) else s1.firstCells j.size len (.slice (some a) len cap)) with
                |none=>rw [hold] at h;simp at h
                |some p =>
                  obtain ⟨old,s2⟩:=p;rw [hold] at h;simp only at h
                  have keep2:Can s1 s2/\Rel σ V s2 w/\s2.n=s1.n/\s2.obj=s1.obj:=by
                    cases hl0:fy len 0 with
                    |true =>
                      rw [hl0] at hold;simp only [cond_true,fe,fm] at hold;obtain ⟨_,rfl⟩:=hold;exact ⟨Can.refl _,hr1,rfl,rfl⟩
                    |false =>
                      rw [hl0] at hold;simp only [cond_false] at hold;obtain ⟨x1,x2,x3,x4⟩:=zf4 (σ:=σ) (V:=V) (w:=w) hold;exact ⟨x1,x2 hr1,x3,x4⟩
                  obtain ⟨c2,hr2,n2,o2⟩:=keep2
                  have holds:zcm V s2->∃ old',(∀ w0:World,w0.heap=w.heap->(lm ie.size len (.slice (some a') len c')).run P w0=.ok old'.toArray w0)/\RL (VR σ) old old'/\old'.length=len*ie.size/\Ext σ V s1 w σ s2 w:=by
                    intro hV2
                    cases hl0:fy len 0 with
                    |true =>
                      rw [hl0] at hold;simp only [cond_true,fe,fm] at hold;obtain ⟨rfl,rfl⟩:=hold;have:len=0:=fl hl0;subst this;exact ⟨[],fun w0 _=>by simp [lm,loadCells,loadCellsFrom],trivial,by simp,Ext.refl _ _ _ _⟩
                    |false =>
                      rw [hl0] at hold;simp only [cond_false] at hold;obtain ⟨old',e1,e2,e3,_,_,e4⟩:=zks (P:=P) hr1 hold hV2 ⟨len,rfl,fp _⟩ hx;exact ⟨old',fun w0 hw0=>by rw [g2];exact e1 w0 hw0,e2,by rw [g2];exact e3,e4⟩
                  have hF2:ze8 σ s2.n s'.n:=hF.mono (by omega) (fp _)
                  cases ht0:fy (Addr.ver a % 1024) 0 with
                  |true =>
                    rw [ht0] at h;simp only [cond_true] at h;have htg:Addr.ver a % 1024=0:=fl ht0;obtain ⟨a2,h1,rfl⟩:=zh7 h;have c3:Can s2 s':=zgc (by omega) h1;obtain ⟨new',hs,e2,e3,e4⟩:=hsrc (c2.trans c3);obtain ⟨old',f1,f2,f3,f4⟩:=holds (hV.back c3);obtain ⟨C,more,newCap,r1,r2,r3,r4,r5⟩:=zto (P:=P) (w:=w) (ty:=ty) hu g1 g4 (by rw [hzs,g2]) (by omega) (f1 w.drew rfl) hs f3 (by rw [v5 htg];omega) q5 q6';obtain ⟨rfl,_,m1,m2,m3⟩:=zjj (w0:=w.drew) h1 hr2 hF2 (by omega) ⟨rfl,rfl,rfl,rfl⟩ C e (0,0) (by intro j _;simp) _ more r2 (f2.append e2);refine ⟨_,_,_,r1,?_,m1,(e4.trans f4 c1 c2 (hF.mono (fp _) (by have:=c3.n;omega)) hr.none).trans m2 (c1.trans c2) c3 hF hr.none⟩;refine VR.mk ⟨_,_,_,m3,_,newCap,rfl,fp _,r4,r5,fun _=>rfl,fun h0=>?_,fun _ _=>?_⟩
                    . exfalso;have:(s2.n*1024+(j.size+1)) % 1024=0:=h0;omega
                    . show 0+0+newCap*((s2.n*1024+(j.size+1)) % 1024 - 1)<=C.size;rw [htag,r3,g2]
                      simp
                  |false =>
                    rw [ht0] at h;simp only [cond_false] at h
                    cases ht1:fy (Addr.ver a % 1024) (j.size+1) with
                    |false=>rw [ht1] at h;simp at h
                    |true =>
                      rw [ht1] at h;simp only [cond_true] at h;have htg:Addr.ver a % 1024=j.size+1:=fl ht1;have c3:Can s2 s':=yg2 hr2 (by omega) h;obtain ⟨new',hs,e2,e3,e4⟩:=hsrc (c2.trans c3);obtain ⟨old',f1,f2,f3,f4⟩:=holds (hV.back c3);obtain ⟨cs,x1,x2,x3,x4,x5⟩:=zne h;have hext:=e4.trans f4 c1 c2 (hF.mono (fp _) (by have:=c3.n;omega)) hr.none;by_cases hin:len+n<=c'
                      . -- in place
                        have:=v4 (by omega);subst this;have hb6:=v6 (by omega) (by omega);rw [htg] at hb6;simp only [Nat.add_sub_cancel] at hb6;have hmul:(len+n)*j.size<=c'*j.size:=lr _ hin;rw [jm] at hmul;have hnl:new.length=n*j.size:=by rw [e2.length];exact e3
                        have holdd:old=cs.drop a.off:=by
                          have hdl:(cs.drop a.off).length=len*j.size:=by rw [jf];omega
                          cases hl0:fy len 0 with
                          |true =>
                            rw [hl0] at hold;simp only [cond_true,fe,fm] at hold;have:len=0:=fl hl0;subst this;rw [<- hold.1];exact (ji (by simpa using hdl)).symm
                          |false =>
                            rw [hl0] at hold;simp only [cond_false] at hold;unfold CS.firstCells at hold;simp only at hold
                            cases hz0:fy (len*j.size) 0 with
                            |true =>
                              exfalso;have h0:=fl hz0;rcases Nat.mul_eq_zero.1 h0 with h0|h0
                              . rw [h0] at hl0;simp at hl0
                              . exact q2 h0
                            |false =>
                              rw [hz0] at hold;simp only [cond_false] at hold
                              cases hq2:s1.readRow a with
                              |none=>rw [hq2] at hold;simp at hold
                              |some p2 =>
                                obtain ⟨cs2,s3⟩:=p2;rw [hq2] at hold;simp only at hold;have hrow2:=(zdc hq2).1;rw [o2] at x2;rw [x2] at hrow2;cases hrow2
                                cases hcut:cut cs a.off (len*j.size) with
                                |none=>rw [hcut] at hold;simp at hold
                                |some l =>
                                  rw [hcut] at hold;simp only [fe,fm] at hold;rw [<- hold.1];unfold cut at hcut;dsimp only at hcut;rw [List.take_of_length_le (by omega)] at hcut
                                  cases hbq:fy (cs.drop a.off).length (len*j.size) with
                                  |false=>rw [hbq] at hcut;simp at hcut
                                  |true=>rw [hbq] at hcut;simp only [cond_true,fe] at hcut;exact hcut.symm
                        rw [x3] at h;obtain ⟨y1,y2,y3,y4,y5,y6,y7⟩:=yl1 h hr2 hV hF2 (by omega) hσ x2 holdd (by omega) e2 q4 (by omega);have hrun:=run_append_room_src (P:=P) w t tx ty e ie hu g1 b (o+a.off) len c' y' n new' hs hin (by rw [g2,show o+a.off+len*j.size=o+cs.length by omega];exact y2) (by rw [g2,show o+a.off+len*j.size=o+cs.length by omega];exact y3);rw [g2,show o+a.off+len*j.size=o+cs.length by omega] at hrun;subst y1;refine ⟨_,_,_,hrun,?_,y5,hext.trans y6 (c1.trans c2) c3 hF hr.none⟩;refine VR.mk ⟨b,o+a.off,zz,y7,_,c',rfl,fp _,hin,v3,fun _=>rfl,fun h0=>?_,fun _ _=>?_⟩
                        . exfalso;have:(s2.n*1024+(j.size+1)) % 1024=0:=h0;omega
                        . show o+a.off+0+c'*((s2.n*1024+(j.size+1)) % 1024 - 1)<=zz;rw [htag];simp only [Nat.add_sub_cancel];omega
                      . obtain ⟨C,more,newCap,r1,r2,r3,r4,r5⟩:=zto (P:=P) (w:=w) (ty:=ty) hu g1 g4 (by rw [hzs,g2]) (by omega) (f1 w.drew rfl) hs f3 (by omega) q5 q6';obtain ⟨rfl,m1,m2,m3⟩:=yg1 (w0:=w.drew) h hr2 hV hF2 (by omega) ⟨rfl,rfl,rfl,rfl⟩ C e _ more r2 (f2.append e2);refine ⟨_,_,_,r1,?_,m1,hext.trans m2 (c1.trans c2) c3 hF hr.none⟩;refine VR.mk ⟨_,_,_,m3,_,newCap,rfl,fp _,r4,r5,fun _=>rfl,fun h0=>?_,fun _ _=>?_⟩
                        . exfalso;have:(s2.n*1024+(j.size+1)) % 1024=0:=h0;omega
                        . show 0+0+newCap*((s2.n*1024+(j.size+1)) % 1024 - 1)<=C.size;rw [htag,r3,g2];simp
  . simp at h
end
end
end Go.Proofs.Ytkfnjbfnkpameaa
