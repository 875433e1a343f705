/- Part 1 of the proof of FitKeepsPackets (several texts in one; no further condition). -/
import Derived.WalkKit
import Derived.Deep.AppendSrc
import Derived.Laws.AppendOwnNone
import Derived.Laws.CopyOwn
import Derived.Laws.Tables
import Derived.Laws.IdiomStrings
import Derived.Laws.MakeOwn
import Derived.Great.BuildSlice
set_option linter.unusedSimpArgs false
set_option linter.unusedVariables false
set_option linter.unusedSectionVars false
namespace Go.Proofs.YteifcnjpjjaikaaGreat
noncomputable section
open Go.Addr renaming add_lit->mo
open _root_.Array renaming getElem?_eq_getElem->jq,getElem?_toList->ja,length_toList->io,toList_inj->lw
open _root_.BitVec renaming ofInt_natCast->n5
open _root_.Bool renaming and_eq_true->d8,eq_iff_iff->np
open Go.Builtin renaming append_->ou,firstCells->jz
open Go renaming FuncId->jx,IntKind->gl,MapEntry->kc,Operand->ep,Program->fe,TypeDesc->la,TypeId->fc,eqGuard->kj,execOp->ls,run_underlying->fi
open Go.Instr renaming sliceAt->om,sureAddr->pa
open _root_.List renaming all_eq_true->fd,eq_nil_of_length_eq_zero->jk,ext_getElem?->nv,flatten_cons->gh,getElem?_append_left->fk,getElem?_append_right->gm,getElem?_cons_succ->jo,getElem?_cons_zero->fx,getElem?_drop->js,getElem?_eq_getElem->ef,getElem?_eq_none->je,getElem?_eq_some_iff->et,getElem?_map->ki,getElem?_range->mz,getElem?_take->mi,length_append->eu,length_drop->ir,mem_cons->ic,mem_cons_of_mem->ml,mem_of_getElem?->ij,replicate->ew,replicate_succ->jg
open _root_.Nat renaming add_assoc->nr,add_mul->jc,beq->er,ble->gj,blt->fw,eq_of_beq_eq_true->eg,le_refl->ei,le_trans->kh,lt_of_lt_of_le->fh,mod_eq_of_lt->m6,mul_le_mul_right->kp,zero_add->f6
open _root_.Ne renaming symm->qr
open Go.Op renaming equalIn->kg,intArith->o7,intBits->ox,intCmp->m7
open _root_.Option renaming map_some->ld
open _root_.Option.some renaming injEq->dy
open _root_.Prod renaming mk->qq
open _root_.Prod.mk renaming injEq->ec
open Go.Result renaming andThen_ok->mc
open Go.Sem renaming run_bind->ni
open Go.World renaming cell?_setCells_in->m5,cell?_setCells_out->l7
theorem zAa {p:Prop} [Decidable p] (h:p):decide p=true:=decide_eq_true h
theorem zAb {p:Prop} [Decidable p] (h:¬p):decide p=false:=decide_eq_false h
theorem zAc.{u} {c:Prop} {x:Decidable c} (h:c) {α:Sort u} {t e:α}:ite c t e=t:=if_pos h
theorem zAd.{u} {c:Prop} {x:Decidable c} (h:¬c) {α:Sort u} {t e:α}:ite c t e=e:=if_neg h
theorem zAe {p:Prop} [Decidable p] (h:decide p=true):p:=of_decide_eq_true h
open Go Go.RowKit
section
open Go
def Tr (α:Type) (d:Nat):Type:=Nat.rec (motive:=fun _=>Type) α (fun _ ih=>ih×ih) d
def Tr.get {α:Type} (d:Nat):Tr α d->Nat->α :=
  Nat.rec (motive:=fun d=>Tr α d->Nat->α) (fun a _=>a)
    (fun _ ih t i=>Bool.rec (ih (Prod.snd t) (Nat.div i 2)) (ih (Prod.fst t) (Nat.div i 2)) (er (Nat.mod i 2) 0)) d
def Tr.set {α:Type} (v:α) (d:Nat):Tr α d->Nat->Tr α d :=
  Nat.rec (motive:=fun d=>Tr α d->Nat->Tr α d) (fun _ _=>v)
    (fun _ ih t i=>Bool.rec (qq (Prod.fst t) (ih (Prod.snd t) (Nat.div i 2))) (qq (ih (Prod.fst t) (Nat.div i 2)) (Prod.snd t)) (er (Nat.mod i 2) 0)) d
def Tr.all {α:Type} (v:α) (d:Nat):Tr α d:=Nat.rec (motive:=fun d=>Tr α d) v (fun _ ih=>qq ih ih) d
def Tr.of {α:Type} (f:Nat->α) (d:Nat):Nat->Nat->Tr α d :=
  Nat.rec (motive:=fun d=>Nat->Nat->Tr α d) (fun k _=>f k) (fun _ ih k w=>qq (ih k (Nat.mul 2 w)) (ih (Nat.add k w) (Nat.mul 2 w))) d
def sel {α:Type} (b:Bool) (x y:α):α:=Bool.rec y x b
abbrev Tab (α:Type):=Tr (Option α) 8
def Tab.at {α:Type} (t:Tab α) (i:Nat):Option α:=sel (fw i 256) (Tr.get 8 t i) none
structure Fr where
  nt:Nat
  tr:Tr Value 9
def Fr.get (fr:Fr) (t:Nat):Value:=sel (fw t 512) (Tr.get 9 fr.tr t) undef
def Fr.put (fr:Fr) (t:Nat) (v:Value):Fr:=sel (fw t fr.nt) ⟨fr.nt,Tr.set v 9 fr.tr t⟩ fr
def Fr.ofArgs:List Value->Nat->Fr->Fr
  |[],_,fr=>fr
  |v :: l,i,fr=>Fr.ofArgs l (i+1) (fr.put i v)
structure TI where
  desc:la
  size:Nat
  bytes:Nat
  zero:List Value
structure Lp where
  fr:Fr
  ps:List Tmp
  a:Code
  b:Code
  st:Option Exit
structure Fam where
  ro:Bool
  rows:List (Nat×List Value)
  es:Option (List (Value×Value))
  lp:Option Lp
abbrev Sto:=Sum (Tr Fam 14) (Nat->Fam)
def zaa (t:Sto) (i:Nat):Fam:=match t with
  |.inl t=>sel (fw i 16384) (Tr.get 14 t i) ⟨true,[],none,none⟩
  |.inr g=>g i
def zaw (t:Sto) (i:Nat) (x:Fam):Sto:=match t with
  |.inl t=>.inl (Tr.set x 14 t i)
  |.inr g=>.inr fun j=>sel (er j i) x (g j)
def zis (t:Sto) (n:Nat):Bool:=match t with
  |.inl _=>fw n 16384
  |.inr _=>true
structure CS where
  n:Nat
  obj:Sto
  lim:Nat
  rd:List Nat
  wr:List Nat
structure It where
  key:List Value->CS->Option (List Nat×CS)
  xs:List Nat->List (List Value)
structure Env where
  ti:Tab TI
  fn:Tab Func
  ax:Nat->Option (List Value->CS->Option (Value×CS))
  it:Nat->Option It
def zy0:List Nat->List Nat->Bool
  |[],[]=>true
  |a :: l,b :: m=>er a b && zy0 l m
  |_,_=>false
def has:List Nat->Nat->Bool
  |[],_=>false
  |x :: l,n=>bif er x n then true else has l n
def ins (lim:Nat) (l:List Nat) (n:Nat):List Nat:=bif fw n lim then (bif has l n then l else n :: l) else l
def zwf (lim:Nat) (l:List Nat):List Nat->List Nat
  |[]=>l
  |x :: xs=>zwf lim (ins lim l x) xs
def zcb:List (Nat×List Value)->Nat->Option (List Value)
  |[],_=>none
  |(u,cs) :: l,v=>bif er u v then some cs else zcb l v
def zgw:List (Nat×List Value)->Nat->List (Nat×List Value)
  |[],_=>[]
  |(u,cs) :: l,v=>bif er u v then (u,cs) :: l else zgw l v
def Addr.ver (a:Addr):Nat:=a.spot.getD 0
def mkA (f u off:Nat):Addr:=⟨f,off,some u⟩
def CS.readRow (s:CS) (a:Addr):Option (List Value×CS) :=
  match zcb (zaa s.obj a.block).rows (Addr.ver a) with
  |some cs=>some (cs,{ s with rd:=ins s.lim s.rd a.block })
  |none=>none
def oneC:Value->Bool
  |.agg _=>false
  |.tuple _=>false
  |_=>true
def splice (cs:List Value) (off:Nat) (vs:List Value):List Value:=cs.take off++vs++cs.drop (off+vs.length)
def CS.newRow (s:CS) (tag:Nat) (cs:List Value):Option (Addr×CS) :=
  sel (zis s.obj s.n) (some (mkA s.n (s.n*1024+tag) 0,{ s with n:=s.n+1,obj:=zaw s.obj s.n ⟨false,[(s.n*1024+tag,cs)],none,none⟩ })) none
def CS.write (s:CS) (a:Addr) (vs:List Value):Option CS :=
  match (zaa s.obj a.block).ro,zcb (zaa s.obj a.block).rows (Addr.ver a) with
  | false, some cs => sel (and (gj (a.off + vs.length) cs.length) (vs.all oneC))
      (some { s with obj:=zaw s.obj a.block ⟨false,[(Addr.ver a,splice cs a.off vs)],none,none⟩,wr:=ins s.lim s.wr a.block }) none
  |_,_=>none
def Addr.plus (a:Addr) (k:Nat):Addr:=⟨a.block,a.off+k,a.spot⟩
def zgv:Value->Option Nat
  |.int _ (.ofNat n)=>some n
  |_=>none
def aggT (d:la):Bool:=match d with|.struct _=>true|.array ..=>true|_=>false
def cut (l:List Value) (off k:Nat):Option (List Value):=let r:=(l.drop off).take k;bif er r.length k then some r else none
def zvu (i:TI) (cs:List Value) (off:Nat):Option Value :=
  bif aggT i.desc then (match cut cs off i.size with|some l=>some (.agg l.toArray)|none=>none) else cs[off]?
def CS.loadVar (s:CS) (i:TI) (a:Addr):Option (Value×CS) :=
  match s.readRow a with
  |some (cs,s)=>match zvu i cs a.off with|some v=>some (v,s)|none=>none
  |none=>none
def zbl {α:Type} (P:fe):Sem α->Option α
  |.pure a=>some a
  |.program k=>zbl P (k P)
  |_=>none
def za6:Nat->Value->Bool
  |_,.bool _=>true
  |_,.int _ _=>true
  |_,.string _=>true
  |_,.nilIface=>true
  |n+1,.agg cs=>cs.toList.all (za6 n)
  |n+1,.tuple cs=>cs.toList.all (za6 n)
  |n+1,.iface _ v=>za6 n v
  |_,_=>false
def yka:Value->Bool
  |.pointer none=>true
  |.slice none 0 0=>true
  |.map none=>true
  |.nilFunc=>true
  |.func (.func _) first captured=>first.toList.isEmpty && captured.toList.isEmpty
  |v=>za6 3 v
def z9d (d:la) (z:Value):Bool :=
  match z with
  |.agg _=>aggT d
  |.tuple _=>false
  |_=>not (aggT d)
def zpr (s:ByteArray):List Value:=s.data.toList.map fun b=>.int .u8 b.toNat
def zgp (fr:Fr):ep->Value
  |.tmp t=>fr.get t
  |.const v=>v
  |.global g=>.pointer (some (mkA g (g*1024) 0))
  |.func f=>.func (.func f) #[] #[]
def zsn (cells:List Value):List (Nat×List Value)->Option (List Value)
  |[]=>some cells
  |(off,vs) :: r=>bif gj (off+vs.length) cells.length then zsn (splice cells off vs) r else none
def zh1 (place:Nat->Option (Nat×Nat)) (ρ:ep->Value):List (Nat×ep)->Option (List (Nat×List Value))
  |[]=>some []
  |(k,x) :: r=>match place k,zh1 place ρ r with
    |some (off,size),some l=>let c:=(ρ x).cells.toList;bif er c.length size then some ((off,c) :: l) else none
    |_,_=>none
def ikN:gl->Nat:=fun k=>IntKind.rec 0 1 2 3 4 5 6 7 k
def topN:gl->Nat:=fun k=>IntKind.rec 128 32768 2147483648 9223372036854775808 256 65536 4294967296 18446744073709551616 k
def natI (k:gl) (b:Bool) (n:Nat):Option Value:=sel b (some (.int k (.ofNat n))) none
def zst (b:Bool):Option Value:=some (.bool b)
def binF (op:BinOp) (k:gl) (m n:Nat):Option Value :=
  match op with
  |.add=>natI k (fw (Nat.add m n) (topN k)) (Nat.add m n)
  |.sub=>natI k (and (gj n m) (fw m (topN k))) (Nat.sub m n)
  |.mul=>natI k (fw (Nat.mul m n) (topN k)) (Nat.mul m n)
  |.quo=>natI k (and (fw 0 n) (fw m (topN k))) (Nat.div m n)
  |.rem=>natI k (fw 0 n) (Nat.mod m n)
  |.and=>natI k (and (fw m (topN k)) (fw n (topN k))) (Nat.land m n)
  |.or=>natI k (and (fw m (topN k)) (fw n (topN k))) (Nat.lor m n)
  |.xor=>natI k (and (fw m (topN k)) (fw n (topN k))) (Nat.xor m n)
  |.shl=>natI k (and (fw n 64) (fw (Nat.mul m (Nat.pow 2 (Nat.min n k.bits))) (topN k))) (Nat.mul m (Nat.pow 2 (Nat.min n k.bits)))
  |.shr=>natI k true (Nat.div m (Nat.pow 2 (Nat.min n k.bits)))
  |.andNot=>none
  |.eql=>zst (er m n)
  |.neq=>zst (not (er m n))
  |.lss=>zst (fw m n)
  |.leq=>zst (gj m n)
  |.gtr=>zst (fw n m)
  |.geq=>zst (gj n m)
def binC (op:BinOp):Value->Value->Option Value
  |.int k (.ofNat m),.int k' (.ofNat n)=>sel (er (ikN k) (ikN k')) (binF op k m n) none
  |_,_=>none
def lenC:Value->Option Nat
  |.slice _ n _=>some n
  |.string s=>some s.size
  |_=>none
def CS.firstCells (s:CS) (size n:Nat):Value->Option (List Value×CS)
  |.slice x _ _=>bif er (n*size) 0 then some ([],s) else match x with
    |some a=>match s.readRow a with
      |some (cs,s)=>(match cut cs a.off (n*size) with|some l=>some (l,s)|none=>none)
      |none=>none
    |none=>none
  |.string b=>bif er size 1 && gj n b.size then some (zpr (b.extract 0 n),s) else none
  |_=>none
def zja (len cap:Nat):Option (Addr×CS)->Option (Value×CS)
  |some x=>some (.slice (some x.1) len cap,x.2)
  |none=>none
def CS.grow (s:CS) (a:Addr) (tag stop need:Nat) (cells:List Value):Option (Value×CS) :=
  match (zaa s.obj a.block).ro,zcb (zaa s.obj a.block).rows (Addr.ver a) with
  | false, some cs => sel (er stop cs.length)
      (some (.slice (some (mkA a.block (s.n*1024+tag) 0)) need need,
        { s with n:=s.n+1,obj:=zaw s.obj a.block ⟨false,(s.n*1024+tag,cells) :: zgw (zaa s.obj a.block).rows (Addr.ver a),none,none⟩,wr:=ins s.lim s.wr a.block })) none
  |_,_=>none
def CS.append (s:CS) (size bytes:Nat) (base:Option Addr) (len cap:Nat) (x:Value):Option (Value×CS) :=
  match lenC x with
  |none=>none
  |some n=>match s.firstCells size n x with
    |none=>none
    |some (new,s) =>
      let need:=len+n
      bif fw 1000000000 (need*(bytes+1)) || er size 0 || gj 1000 size || not (new.all oneC) then none else
      match base with
      |none=>bif er n 0 then some (.slice none len cap,s) else zja need need (s.newRow (size+1) new)
      |some a =>
        bif gj need cap then
          (bif er n 0 then some (.slice (some a) need cap,s) else
           match s.write (Addr.plus a (len*size)) new with|some s=>some (.slice (some a) need cap,s)|none=>none)
        else
          match (bif er len 0 then some ([],s) else s.firstCells size len (.slice (some a) len cap)) with
          |none=>none
          |some (old,s) =>
            let tag:=Addr.ver a % 1024
            bif er tag 0 then zja need need (s.newRow (size+1) (old++new))
            else bif er tag (size+1) then s.grow a (size+1) (a.off+len*size) need (old++new)
            else none
def zd5 (len cap:Nat) (lo hi mx:Option Value):Option (Nat×Nat×Nat) :=
  match (match mx with|some v=>zgv v|none=>some cap),(match hi with|some v=>zgv v|none=>some len),(match lo with|some v=>zgv v|none=>some 0) with
  |some m,some h,some l=>bif gj l h && gj h m && gj m cap && (mx.isNone || hi.isSome) then some (l,h,m) else none
  |_,_,_=>none
def CS.readMap (s:CS) (r:Nat):Option (List (Value×Value)×CS) :=
  match (zaa s.obj r).es with|some es=>some (es,{ s with rd:=ins s.lim s.rd r })|none=>none
def z14:Value->Value->Option Bool
  |.int k a,.int k' b=>sel (er (ikN k) (ikN k')) (some (a == b)) none
  |.string a,.string b=>some (a.data.toList == b.data.toList)
  |.bool a,.bool b=>some (a == b)
  |_,_=>none
def zpl (k:Value):List (Value×Value)->Option (Option Value)
  |[]=>some none
  |(k',v) :: l=>match z14 k k' with
    |some true=>some (some v)
    |some false=>zpl k l
    |none=>none
def zun (i:TI):Option Value:=bif aggT i.desc then some (.agg i.zero.toArray) else match i.zero with | [z]=>some z|_=>none
def zq0 (P:fe) (ρ:ep->Value) (o:Oper):Option Value :=
  bif (o.op.operands.toList.all fun x=>za6 3 (ρ x)) then
    match zbl P (ls ρ o) with
    |some (.value v)=>bif za6 3 v then some v else none
    |_=>none
  else none
def retC (s:CS) (v:Option Value):Option (Value×CS):=match v with|some v=>some (v,s)|none=>none
def zex (Γ:Env) (fs:Array Field) (k:Nat):Option (Nat×Nat) :=
  match fs[k]? with|some f=>(match Γ.ti.at f.type with|some j=>some (f.offset,j.size)|none=>none)|none=>none
def zbg (size k:Nat):Option (Nat×Nat):=some (k*size,size)
def zrx (zero:List Value) (parts:Option (List (Nat×List Value))):Option (List Value) :=
  match parts with|some l=>zsn zero l|none=>none
def aggC (s:CS) (cs:Option (List Value)):Option (Value×CS):=match cs with|some cs=>some (.agg cs.toArray,s)|none=>none
def ptrC:Option (Addr×CS)->Option (Value×CS)
  |some x=>some (.pointer (some x.1),x.2)
  |none=>none
def zen (Γ:Env) (t:fc):Option TI :=
  match Γ.ti.at t with|some i=>(match i.desc with|.slice e=>Γ.ti.at e|_=>none)|none=>none
def zk6 (Γ:Env) (s:CS) (e:fc):Option (Value×CS) :=
  match Γ.ti.at e with|some i=>ptrC (s.newRow 0 i.zero)|none=>none
def zi2 (Γ:Env) (s:CS) (ρ:ep->Value) (t:fc) (parts:List (Nat×ep)):Option (Value×CS) :=
  match Γ.ti.at t with
  |some i=>(match i.desc with
    |.struct fs=>sel (fs.toList.all fun f=>(Γ.ti.at f.type).isSome) (aggC s (zrx i.zero (zh1 (zex Γ fs) ρ parts))) none
    |.array _ e=>(match Γ.ti.at e with|some j=>aggC s (zrx i.zero (zh1 (zbg j.size) ρ parts))|none=>none)
    |_=>none)
  |none=>none
def zct (Γ:Env) (s:CS) (ρ:ep->Value) (t:fc) (n:Nat) (parts:List (Nat×ep)):Option (Value×CS) :=
  match zen Γ t with
  | some j => bif gj (n * j.size) 16777216 && fw 0 j.size then
      (match zrx (ew n j.zero).flatten (zh1 (zbg j.size) ρ parts) with
      |some cs=>zja n n (s.newRow 0 cs)
      |none=>none) else none
  |none=>none
def zpj (Γ:Env) (s:CS) (t:fc):Value->Option (Value×CS)
  |.pointer (some a)=>(match Γ.ti.at t with|some i=>s.loadVar i a|none=>none)
  |_=>none
def zw8:Option CS->Option (Value×CS)
  |some s=>some (undef,s)
  |none=>none
def zk4 (Γ:Env) (s:CS) (t:fc) (c:List Value):Value->Option (Value×CS)
  |.pointer (some a)=>(match Γ.ti.at t with|some i=>bif er c.length i.size then zw8 (s.write a c) else none|none=>none)
  |_=>none
def zfm (Γ:Env) (s:CS) (t:fc) (l c:Option Nat):Option (Value×CS) :=
  match zen Γ t,l,c with
  | some j, some l, some c => bif gj l c && gj (c * (j.bytes + 1)) 1000000000 && fw 0 j.size then
      zja l c (s.newRow 0 (ew c j.zero).flatten) else none
  |_,_,_=>none
def cutC (s:CS) (size:Nat) (exact:Bool) (a:Addr):Option (Nat×Nat×Nat)->Option (Value×CS)
  | some (l, h, m) => bif er (Addr.ver a % 1024) 0 || (!exact && er (Addr.ver a % 1024) (size + 1)) then
      some (.slice (some (Addr.plus a (l*size))) (h - l) (m - l),s) else none
  |none=>none
def zpq (Γ:Env) (s:CS) (d:la) (a:Addr) (lo hi mx:Option Value):Option (Value×CS) :=
  match d with
  |.array n e=>(match Γ.ti.at e with|some j=>sel (gj n 1000000000) (cutC s j.size true a (zd5 n n lo hi mx)) none|none=>none)
  |_=>none
def ybp (s:CS) (b:ByteArray):Option (Nat×Nat×Nat)->Option (Value×CS)
  |some (l,h,_)=>some (.string (b.extract l h),s)
  |none=>none
def zdy (Γ:Env) (s:CS) (t:fc) (x:Value) (lo hi mx:Option Value):Option (Value×CS) :=
  match Γ.ti.at t with
  |some i=>(match x with
    |.string b=>(match i.desc with|.string=>bif mx.isNone then ybp s b (zd5 b.size b.size lo hi none) else none|_=>none)
    |.slice a len cap=>(match i.desc with
      |.slice e=>(match a with
        |none=>(match Γ.ti.at e with|some _=>(match zd5 len cap lo hi mx with|some (0,0,0)=>some (.slice none 0 0,s)|_=>none)|none=>none)
        |some a=>(match Γ.ti.at e with|some j=>cutC s j.size false a (zd5 len cap lo hi mx)|none=>none))
      |_=>none)
    |.pointer (some a)=>(match i.desc with
      |.pointer arr=>(match Γ.ti.at arr with|some ia=>zpq Γ s ia.desc a lo hi mx|none=>none)
      |d=>zpq Γ s d a lo hi mx)
    |_=>none)
  |none=>none
def zdg (Γ:Env) (s:CS) (t:fc) (k:Nat):Value->Option (Value×CS)
  |.pointer (some a)=>(match Γ.ti.at t with
    |some i=>(match i.desc with
      |.struct fs=>(match zex Γ fs k with
        |some (off,size)=>bif er size 0 then none else some (.pointer (some (Addr.plus a off)),s)
        |none=>none)
      |_=>none)
    |none=>none)
  |_=>none
def ztt (s:CS) (size k n:Nat) (a:Addr):Option (Value×CS):=bif fw k n then some (.pointer (some (Addr.plus a (k*size))),s) else none
def zb5 (Γ:Env) (s:CS) (t:fc) (x:Value) (k:Option Nat):Option (Value×CS) :=
  match Γ.ti.at t,k with
  |some i,some k=>(match x with
    |.pointer (some a)=>(match i.desc with|.array n e=>(match Γ.ti.at e with|some j=>ztt s j.size k n a|none=>none)|_=>none)
    |.slice (some a) n _=>(match i.desc with|.slice e=>(match Γ.ti.at e with|some j=>ztt s j.size k n a|none=>none)|_=>none)
    |_=>none)
  |_,_=>none
def zk5 (Γ:Env) (s:CS) (t:fc) (x:Value) (k:Option Nat):Option (Value×CS) :=
  match Γ.ti.at t,k with
  |some i,some k=>(match x with
    |.agg cs=>(match i.desc with
      |.array n e=>(match Γ.ti.at e with|some j=>bif fw k n then retC s (zvu j cs.toList (k*j.size)) else none|none=>none)
      |_=>none)
    |.string b=>(match i.desc with
      |.string=>(match b.data.toList[k]? with|some c=>some (.int .u8 c.toNat,s)|none=>none)
      |_=>none)
    |_=>none)
  |_,_=>none
def zgu (s:CS) (k:Nat):Value->Option (Value×CS)
  |.tuple vs=>retC s vs.toList[k]?
  |_=>none
def unC (op:UnOp):Value->Option Value
  |.bool b=>(match op with|.not=>some (.bool (not b))|_=>none)
  |_=>none
def zh2 (P:fe) (ρ:ep->Value) (o:Oper) (s:CS):Option Value->Option (Value×CS)
  |some v=>some (v,s)
  |none=>retC s (zq0 P ρ o)
def nilC (x y:Option Bool) (neg:Bool):Option Value :=
  match x,y with
  |some a,some b=>bif a || b then some (.bool (xor neg (a && b))) else none
  |_,_=>none
def nilT (d:la) (x:Value):Option Bool :=
  match d,x with
  |.pointer _,.pointer a=>some a.isNone
  |.slice _,.slice a _ _=>some a.isNone
  |.map _ _,.map a=>some a.isNone
  |.func _ _ _,.func _ _ _=>some false
  |.func _ _ _,.nilFunc=>some true
  |_,_=>none
def eqC (Γ:Env) (t:fc) (op:BinOp) (x y:Value):Option Value :=
  match Γ.ti.at t with
  |some i=>(match op with
    |.eql=>nilC (nilT i.desc x) (nilT i.desc y) false
    |.neq=>nilC (nilT i.desc x) (nilT i.desc y) true
    |_=>none)
  |none=>none
def zls (P:fe) (Γ:Env) (ρ:ep->Value) (o:Oper) (s:CS) (t:fc) (op:BinOp) (x y:Value):Option (Value×CS) :=
  match binC op x y with
  |some v=>some (v,s)
  |none=>zh2 P ρ o s (eqC Γ t op x y)
def mapC (s:CS):Option (Value×CS):=sel (zis s.obj s.n) (some (.map (some s.n),{ s with n:=s.n+1,obj:=zaw s.obj s.n ⟨false,[],some [],none⟩ })) none
def zwv (ok:Bool) (z:Value):Option Value->Value
  |some v=>bif ok then .tuple #[v,.bool true] else v
  |none=>bif ok then .tuple #[z,.bool false] else z
def z71 (k:Value) (ok:Bool) (z:Option Value):Option (List (Value×Value)×CS)->Option (Value×CS)
  |some (es,s)=>(match z,zpl k es with|some z,some r=>some (zwv ok z r,s)|_,_=>none)
  |none=>none
def keyV (Γ:Env) (t:fc) (k:Value):Bool:=match Γ.ti.at t with
  |some i=>(match i.desc,k with|.int a,.int b _=>er (ikN a) (ikN b)|.string,.string _=>true|.bool,.bool _=>true|_,_=>false)
  |none=>false
def zg0 (Γ:Env) (s:CS) (t:fc) (x k:Value) (ok:Bool):Option (Value×CS) :=
  match x with
  |.map r=>(match Γ.ti.at t with
    |some i=>(match i.desc with
      |.map kt e=>sel (keyV Γ kt k) (match Γ.ti.at e with
        |some j=>z71 k ok (zun j) (match r with|none=>some ([],s)|some r=>s.readMap r)
        |none=>none) none
      |_=>none)
    |none=>none)
  |_=>none
def zxp (Γ:Env) (t:fc):Bool:=match Γ.ti.at t with
  |some i=>aggT i.desc
  |none=>false
def keyC (P:fe) (b:Bool) (t:fc) (k:Value):Bool:=match zbl P (Instr.checkKey b 10000 t k) with
  |some _=>true
  |none=>false
def keyW (P:fe) (t:fc) (k:Value):Bool:=and (za6 3 k) (and (keyC P false t k) (keyC P true t k))
def eqW (P:fe) (t:fc) (k k':Value):Option Bool:=match zbl P (Op.equal t k k') with
  |some true=>sel (Instr.sameBits 10000 k' k) (some true) none
  |some false=>some false
  |none=>none
def eqK (P:fe) (Γ:Env) (t:fc) (k:Value):Option (Value->Option Bool) :=
  sel (keyV Γ t k) (some (z14 k)) (sel (and (zxp Γ t) (keyW P t k)) (some (eqW P t k)) none)
def zfn (eq:Value->Option Bool):List (Value×Value)->Nat->Option (Option (Nat×Value))
  |[],_=>some none
  |(k',v) :: l,i=>match eq k' with
    |some true=>some (some (i,v))
    |some false=>zfn eq l (i+1)
    |none=>none
def zwc (Γ:Env) (t:fc):Option (fc×fc):=match Γ.ti.at t with
  |some i=>(match i.desc with|.map kt e=>some (kt,e)|_=>none)
  |none=>none
def CS.readMapO (s:CS):Option Nat->Option (List (Value×Value)×CS)
  |none=>some ([],s)
  |some r=>s.readMap r
def z7z (eq:Value->Option Bool) (ok:Bool) (z:Option Value):Option (List (Value×Value)×CS)->Option (Value×CS)
  |some (es,s)=>(match z,zfn eq es 0 with|some z,some r=>some (zwv ok z (r.map (·.2)),s)|_,_=>none)
  |none=>none
def zf4 (P:fe) (Γ:Env) (s:CS) (t:fc) (x k:Value) (ok:Bool):Option (Value×CS) :=
  match x,zwc Γ t with
  |.map r,some (kt,e)=>(match eqK P Γ kt k,Γ.ti.at e with
    |some eq,some j=>z7z eq ok (zun j) (s.readMapO r)
    |_,_=>none)
  |_,_=>none
def yp2 (es:List (Value×Value)) (k v:Value):Option (Nat×Value)->List (Value×Value)
  |some (j,_)=>es.set j (k,v)
  |none=>es++[(k,v)]
def CS.putEs (s:CS) (r:Nat) (es:List (Value×Value)):Option CS :=
  sel (zaa s.obj r).ro none (some { s with obj:=zaw s.obj r ⟨false,[],some es,none⟩,wr:=ins s.lim s.wr r })
def entC (es:List (Value×Value)) (z:Value):Option (Nat×Value)->Value
  |some (j,v)=>.tuple #[v,.int .i64 (.ofNat j)]
  |none=>.tuple #[z,.int .i64 (.ofNat es.length)]
def ypm (z:Value):Option (Nat×Value)->Value
  |some (_,v)=>v
  |none=>z
def yc3 (v:Value):Option CS->Option (Value×CS)
  |some s=>some (v,s)
  |none=>none
def zhn (P:fe) (Γ:Env) (s:CS) (t:fc) (k:Value) (x:Value):Option (Value×CS) :=
  match x,zwc Γ t with
  |.map (some r),some (kt,e)=>(match eqK P Γ kt k,Γ.ti.at e,s.readMap r with
    |some eq,some j,some (es,s)=>(match zfn eq es 0,zun j with
      |some f,some z=>yc3 (entC es z f) (s.putEs r (yp2 es k (ypm z f) f))
      |_,_=>none)
    |_,_,_=>none)
  |_,_=>none
def zf5 (s:CS) (st v:Value):Value->Option (Value×CS)
  |.map (some r)=>(match zgv st,s.readMap r with
    |some j,some (es,s)=>(match es[j]? with
      |some (k,_)=>zw8 (s.putEs r (es.set j (k,v)))
      |none=>none)
    |_,_=>none)
  |_=>none
def orW {α:Type}:Option α->Option α->Option α
  |some a,_=>some a
  |none,b=>b
def zdd (Γ:Env) (s:CS) (t:fc) (y:Value):Value->Option (Value×CS)
  |.slice base len cap=>(match zen Γ t with|some j=>s.append j.size j.bytes base len cap y|none=>none)
  |_=>none
def z73:Option (List (Value×Value)×CS)->Option (Value×CS)
  |some (es,s)=>some (.int .i64 es.length,s)
  |none=>none
def zm4 (Γ:Env) (s:CS) (t:fc) (x:Value):Option (Value×CS) :=
  match Γ.ti.at t with
  |some i=>(match i.desc,x with
    |.string,.string b=>some (.int .i64 b.size,s)
    |.array n _,_=>some (.int .i64 n,s)
    |.slice _,.slice _ n _=>some (.int .i64 n,s)
    |.map _ _,.map none=>some (.int .i64 0,s)
    |.map _ _,.map (some r)=>z73 (s.readMap r)
    |_,_=>none)
  |none=>none
def srcT (Γ:Env) (t:fc):Bool:=match Γ.ti.at t with
  |some i=>(match i.desc with|.slice _=>true|.string=>true|_=>false)
  |none=>false
def zf6 (P:fe) (Γ:Env) (ρ:ep->Value) (o:Oper) (s:CS) (b:Builtin) (args:List ep) (ts:List fc):Option (Value×CS) :=
  match b with
  |.append=>(match args,ts with | [x,y],[t,tx]=>sel (srcT Γ tx) (zdd Γ s t (ρ y) (ρ x)) none|_,_=>none)
  |.len=>(match args,ts with | [x],[t]=>zm4 Γ s t (ρ x)|_,_=>none)
  |.min=>retC s (zq0 P ρ o)
  |.max=>retC s (zq0 P ρ o)
  |_=>none
def zkx (d:Nat):Nat:=Nat.add d 1099511627776
def zmz (call:jx->List Value->CS->Option (Value×CS)) (s:CS) (args:List Value):Value->Option (Value×CS)
  |.func (.func f) first captured=>call f (first.toList++args++captured.toList) s
  |.func (.yield d) first captured=>sel (and first.toList.isEmpty captured.toList.isEmpty) (call (zkx d) (.chan none :: args) s) none
  |_=>none
def zs9 (s:CS) (a b:Value):Value->Option (Value×CS)
  |.bool t=>some (bif t then a else b,s)
  |_=>none
def cop (P:fe) (Γ:Env) (call:jx->List Value->CS->Option (Value×CS)) (ρ:ep->Value) (o:Oper) (s:CS):Option (Value×CS) :=
  match o.op with
  |.move x=>some (ρ x,s)
  |.assign x=>some (ρ x,s)
  |.pick c a b=>zs9 s (ρ a) (ρ b) (ρ c)
  |.alloc e=>zk6 Γ s e
  |.box _ x=>ptrC (s.newRow 0 (ρ x).cells.toList)
  |.build t parts=>zi2 Γ s ρ t parts.toList
  |.buildSlice t n parts=>zct Γ s ρ t n parts.toList
  |.load t x=>zpj Γ s t (ρ x)
  |.store t x v=>zk4 Γ s t (ρ v).cells.toList (ρ x)
  |.makeFunc (.func f) first captured=>some (.func (.func f) (first.map ρ) (captured.map ρ),s)
  |.makeSlice t l c=>zfm Γ s t (zgv (ρ l)) (zgv (ρ c))
  |.slice t x lo hi mx=>zdy Γ s t (ρ x) (lo.map ρ) (hi.map ρ) (mx.map ρ)
  |.fieldAddr t x k=>zdg Γ s t k (ρ x)
  |.indexAddr t x ix=>zb5 Γ s t (ρ x) (zgv (ρ ix))
  |.index t x ix=>zk5 Γ s t (ρ x) (zgv (ρ ix))
  |.extract x k=>zgu s k (ρ x)
  |.unOp op _ x=>zh2 P ρ o s (unC op (ρ x))
  |.binOp op t x y _=>zls P Γ ρ o s t op (ρ x) (ρ y)
  |.makeMap _ none=>mapC s
  |.lookup t x k ok=>orW (zg0 Γ s t (ρ x) (ρ k) ok) (zf4 P Γ s t (ρ x) (ρ k) ok)
  |.mapEntry t m k=>zhn P Γ s t (ρ k) (ρ m)
  |.entryStore _ m st v=>zf5 s (ρ st) (ρ v) (ρ m)
  |.call c=>match c.callee with
    |.value f=>zmz call s (c.args.toList.map ρ) (ρ f)
    |.builtin b=>zf6 P Γ ρ o s b c.args.toList c.argTypes.toList
    |_=>none
  |_=>none
def putC (fr:Fr) (d:Option Tmp) (v:Value):Fr:=match d with|some d=>fr.put d v|none=>fr
def zp8 (ops:List Oper) (j:Nat):Option Tmp:=match ops[j]? with|some o=>o.dst|none=>none
def zde (ops:List Oper) (fr:Fr) (o:Oper):Bool :=
  match o.guard with
  |none=>true
  |some (j,want)=>match zp8 ops j with
    |some d=>(match fr.get d with|.bool b=>b == want|_=>false)
    |none=>false
abbrev zc8:=jx->List Value->CS->Option (Value×CS)
def zcw (P:fe) (Γ:Env) (call:zc8) (ops:List Oper) (o:Oper) (fr:Fr) (s:CS):Option (Fr×CS) :=
  bif zde ops fr o then match cop P Γ call (zgp fr) o s with
    |some (v,s)=>some (putC fr o.dst v,s)
    |none=>none
  else some (putC fr o.dst undef,s)
def runC (P:fe) (Γ:Env) (call:zc8) (ops:List Oper):List Oper->Fr->CS->Option (Fr×CS)
  |[],fr,s=>some (fr,s)
  |o :: l,fr,s=>match zcw P Γ call ops o fr s with
    |some (fr,s)=>runC P Γ call ops l fr s
    |none=>none
structure Lg where
  rd:List Nat
  wr:List Nat
  lo:Nat
  hi:Nat
def CS.inner (s:CS):CS:={ s with lim:=s.n,rd:=[],wr:=[] }
def CS.outer (s t:CS):CS:={ t with lim:=s.lim,rd:=zwf s.lim s.rd t.rd,wr:=zwf s.lim s.wr t.wr }
def drawC (P:fe) (Γ:Env) (call:zc8) (ops:List Oper):List Oper->Fr->CS->Option (List Lg×Fr×CS)
  |[],fr,s=>some ([],fr,s)
  |o :: l,fr,s=>match zcw P Γ call ops o fr s.inner with
    |some (fr,t)=>(match drawC P Γ call ops l fr (s.outer t) with
      |some (logs,fr,s')=>some (⟨t.rd,t.wr,s.n,t.n⟩ :: logs,fr,s')
      |none=>none)
    |none=>none
def nth {α:Type} (d:α):List α->Nat->α
  |[],_=>d
  |x :: _,0=>x
  |_ :: l,i+1=>nth d l i
def zpk (ms:List Nat):List Edge->Nat
  |[]=>0
  |e :: l=>bif Region.binds .any e then Nat.lor (Nat.lor (Nat.pow 2 e.on) (nth 0 ms e.on)) (zpk ms l) else zpk ms l
def zd1:List Oper->List Nat->List Nat
  |[],ms=>ms
  |o :: l,ms=>zd1 l (ms++[zpk ms o.after.toList])
def meet (a b:List Nat):Bool:=a.any (has b)
def zyd (lo hi:Nat) (l:List Nat):Bool:=l.any fun f=>gj lo f && fw f hi
def clash (x y:Lg):Bool:=meet x.wr y.rd || meet x.wr y.wr || meet x.rd y.wr || zyd x.lo x.hi y.rd || zyd x.lo x.hi y.wr
def zii {α:Type} (bad:α->α->Bool) (m:Nat) (y:α):List α->Nat->Bool
  |[],_=>true
  |x :: l,i=>(Nat.testBit m i || !bad x y) && zii bad m y l (i+1)
def zgq {α:Type} (bad:α->α->Bool):List α->List α->List Nat->Bool
  |_,[],_=>true
  |done,y :: l,ms=>zii bad (nth 0 ms done.length) y done 0 && zgq bad (done++[y]) l ms
def calm (n0:Nat) (ops:List Oper) (logs:List Lg):Bool :=
  bif logs.all (fun x=>x.wr.isEmpty && x.rd.all fun f=>fw f n0) then true else zgq clash [] logs (zd1 ops [])
def zfu (ops:List Oper) (o:Oper):List Nat :=
  (o.op.operands.toList.filterMap fun x=>match x with|.tmp t=>some t|_=>none)++(match o.guard with
    |some (g,_)=>(match zp8 ops g with|some d=>[d]|none=>[])
    |none=>[])
def zyj (ops:List Oper) (x y:Oper):Bool :=
  (match x.dst with|some d=>has (zfu ops y) d || (match y.dst with|some e=>er e d|none=>false)|none=>false) ||
  (match y.dst with|some d=>has (zfu ops x) d|none=>false)
def z2g:List Oper->Nat->Bool
  |[],_=>true
  |o :: l,i=>(o.after.toList.all fun e=>!Region.binds .any e || fw e.on i) && z2g l (i+1)
def tidy (ops:List Oper):Bool:=z2g ops 0 && zgq (zyj ops) [] ops (zd1 ops [])
def zgt (G:List Nat):ep->Bool
  |.tmp _=>true
  |.const v=>yka v
  |.global g=>has G g
  |.func _=>true
def zko (G:List Nat) (nt:Nat) (o:Oper):Bool :=
  o.op.operands.toList.all (zgt G) && (match o.dst with|some d=>fw d nt|none=>true)
def zc3 (G:List Nat) (nt:Nat):Code->Bool
  |.region _ ops draw=>ops.toList.all (zko G nt) && (!draw || tidy ops.toList)
  |.seq a b=>zc3 G nt a && zc3 G nt b
  |.cond c a b=>zgt G c && zc3 G nt a && zc3 G nt b
  |.block _ b=>zc3 G nt b
  |.loop b=>zc3 G nt b
  |.scope b=>zc3 G nt b
  |.rangeFunc g ps a b=>zgt G g && ps.toList.all (fun p=>fw p nt) && zc3 G nt a && zc3 G nt b
  |_=>true
def ya3 (G:List Nat) (fn:Func):Bool :=
  gj fn.ntmps 512 && !(fn.name == "runtime.NumGoroutine") && (match fn.body with | some b => zc3 G fn.ntmps b | none => true)
def resC (Γ:Env) (fr:Fr) (s:CS):List ResultVar->Option (List Value×CS)
  |[]=>some ([],s)
  |.tmp t :: l=>match resC Γ fr s l with|some (vs,s)=>some (fr.get t :: vs,s)|none=>none
  |.cell a t :: l=>match fr.get a,Γ.ti.at t with
    |.pointer (some a),some i=>(match s.loadVar i a with
      |some (v,s)=>(match resC Γ fr s l with|some (vs,s)=>some (v :: vs,s)|none=>none)
      |none=>none)
    |_,_=>none
def tupC:List Value->Value
  |[v]=>v
  |vs=>.tuple vs.toArray
def zqz (fr:Fr):List Tmp->List Value->Fr
  |p :: ps,v :: vs=>zqz (fr.put p v) ps vs
  |_,_=>fr
def CS.setLp (s:CS) (d:Nat) (x:Option Lp):CS:={ s with obj:=zaw s.obj d ⟨false,[],none,x⟩,wr:=ins s.lim s.wr d }
def ztb:Exit->Option (Option Exit)
  |.normal=>some none
  |.ret=>some (some .ret)
  |.exit i=>some (some (.exit i))
  |_=>none
def yd3 (run:Code->Fr->CS->Option (Exit×Fr×CS)) (d:Nat) (args:List Value) (s:CS) (L:Lp):Option (Value×CS) :=
  match run L.a (zqz L.fr L.ps args) (s.setLp d none).inner with
  |some (.normal,fr1,s1)=>(match run L.b fr1 s1 with
    |some (e,_,s2)=>sel (and (!has s2.rd d) (!has s2.wr d)) (match ztb e with
      |some st=>some (.bool (match st with|none=>true|some _=>false),((s.setLp d none).outer s2).setLp d (some { L with st:=st }))
      |none=>none) none
    |none=>none)
  |_=>none
def yd1 (run:Code->Fr->CS->Option (Exit×Fr×CS)) (d:Nat) (args:List Value) (s:CS):Option (Value×CS) :=
  match (zaa s.obj d).lp with
  |some L=>sel (and (!(zaa s.obj d).ro) (and (match L.st with|none=>true|some _=>false) (er args.length L.ps.length))) (yd3 run d args s L) none
  |none=>none
def zm7 (run:Code->Fr->CS->Option (Exit×Fr×CS)) (f:Nat) (args:List Value) (s:CS):Option (Value×CS) :=
  match args with
  |.chan none :: args=>sel (gj 1099511627776 f) (yd1 run (Nat.sub f 1099511627776) args s) none
  |_=>none
def yp6:Option Exit->Option Exit
  |none=>some .normal
  |some .ret=>some .ret
  |some (.exit i)=>some (.exit i)
  |_=>none
def zs6 (call:zc8) (gf:jx) (first caps:List Value) (ps:List Tmp) (a b:Code) (fr:Fr) (s:CS):Option (Exit×Fr×CS) :=
  sel (and (zis s.obj s.n) (and first.isEmpty (and (ps.all fun p=>fw p fr.nt) (and (zc3 [] fr.nt a) (zc3 [] fr.nt b)))))
    (match call gf (.func (.yield s.n) #[] #[] :: caps) { s with n:=s.n+1,obj:=zaw s.obj s.n ⟨false,[],none,some ⟨fr,ps,a,b,none⟩⟩ } with
    |some (_,s2)=>(match (zaa s2.obj s.n).lp with
      |some L=>(match yp6 L.st with
        |some e=>some (e,fr,s2.setLp s.n none)
        |none=>none)
      |none=>none)
    |none=>none) none
def zi1 (run:Code->Fr->CS->Option (Exit×Fr×CS)) (key:CS->Option (List Nat×CS)) (k0:List Nat) (ps:List Tmp) (a b:Code) (fr:Fr):List (List Value)->CS->Option (Exit×CS)
  |[],s=>some (.normal,s)
  |x :: xs,s=>sel (er x.length ps.length) (match run a (zqz fr ps x) s with
    |some (.normal,fr1,s1)=>(match run b fr1 s1 with
      |some (.normal,_,s2)=>(match key s2 with
        |some (k1,s3)=>sel (zy0 k0 k1) (zi1 run key k0 ps a b fr xs s3) none
        |none=>none)
      |some (.ret,_,s2)=>some (.ret,s2)
      |some (.exit i,_,s2)=>some (.exit i,s2)
      |_=>none)
    |_=>none) none
def z30 (run:Code->Fr->CS->Option (Exit×Fr×CS)) (it:Nat->Option It) (g:Value) (ps:List Tmp) (a b:Code) (fr:Fr) (s:CS):Option (Exit×Fr×CS) :=
  match g with
  |.func (.func gf) first caps=>(match it gf,first.toList with
    |some i,[]=>(match i.key caps.toList s with
      |some (k0,s1)=>(match zi1 run (i.key caps.toList) k0 ps a b fr (i.xs k0) s1 with
        |some (e,s2)=>some (e,fr,s2)
        |none=>none)
      |none=>none)
    |_,_=>none)
  |_=>none
def zpc (Γ:Env) (run:Code->Fr->CS->Option (Exit×Fr×CS)):zc8:=fun f args s=>match Γ.ax f with
  |some h=>h args s
  |none=>match Γ.fn.at f with
    |some fn=>(match fn.body with
      |some body=>(match sel (gj args.length fn.ntmps) (run body (Fr.ofArgs args 0 ⟨fn.ntmps,Tr.all undef 9⟩) s) none with
        |some (.normal,fr,s)=>(match resC Γ fr s fn.results.toList with|some (vs,s)=>some (tupC vs,s)|none=>none)
        |some (.ret,fr,s)=>(match resC Γ fr s fn.results.toList with|some (vs,s)=>some (tupC vs,s)|none=>none)
        |_=>none)
      |none=>none)
    |none=>zm7 run f args s
def cm (P:fe) (Γ:Env):Nat->Code->Fr->CS->Option (Exit×Fr×CS)
  |0,_,_,_=>none
  |n+1,c,fr,s=>match c with
    |.skip=>some (.normal,fr,s)
    |.label _=>some (.normal,fr,s)
    |.region _ ops draw =>
      let call:zc8:=zpc Γ (cm P Γ n)
      bif draw then match drawC P Γ call ops.toList ops.toList fr s with
        |some (logs,fr,t)=>bif calm s.n ops.toList logs then some (.normal,fr,t) else none
        |none=>none
      else match runC P Γ call ops.toList ops.toList fr s with
        |some (fr,s)=>some (.normal,fr,s)
        |none=>none
    |.seq a b=>match cm P Γ n a fr s with
      |some (.normal,fr,s)=>cm P Γ n b fr s
      |r=>r
    |.cond c t e=>match zgp fr c with
      |.bool v=>cm P Γ n (bif v then t else e) fr s
      |_=>none
    |.block id b=>match cm P Γ n b fr s with
      |some (.exit i,fr,s)=>some (bif er i id then .normal else .exit i,fr,s)
      |r=>r
    |.loop b=>match cm P Γ n b fr s with
      |some (.normal,fr,s)=>cm P Γ n (.loop b) fr s
      |r=>r
    |.exit id=>some (.exit id,fr,s)
    |.ret=>some (.ret,fr,s)
    |.scope b=>cm P Γ n b fr s
    |.rangeFunc g ps a b=>(match zgp fr g with
      |.func (.func gf) first caps=>(match Γ.it gf with
        |some _=>z30 (cm P Γ n) Γ.it (.func (.func gf) first caps) ps.toList a b fr s
        |none=>zs6 (zpc Γ (cm P Γ n)) gf first.toList caps.toList ps.toList a b fr s)
      |_=>none)
    |_=>none
def yk6 {α:Type} (f:Nat->Option α):Tab α:=Tr.of f 8 0 1
def tiOf (P:fe) (t:fc):Option TI :=
  match P.info? t,P.underlying t with
  |some i,some d=>(match i.zero with
    |some z=>sel (and (er z.cells.toList.length i.size) (and (z.cells.toList.all yka) (z9d d z))) (some ⟨d,i.size,i.bytes,z.cells.toList⟩) none
    |none=>none)
  |_,_=>none
abbrev Axs:=Nat->Option (List Value->CS->Option (Value×CS))
def itOf (P:fe):Nat->Option It:=fun _=>none
def yhm (P:fe) (L:List Nat):Nat->Option It:=fun f=>sel (has L f) (itOf P f) none
def zeh (P:fe) (L:List Nat) (ax:Axs):Env:=⟨yk6 (tiOf P),yk6 fun f=>sel (has L f) P.funcs[f]? none,fun f=>sel (fw f 1099511627776) (ax f) none,yhm P L⟩
def zj8 (P:fe) (G L:List Nat):Bool:=L.all fun f=>match P.funcs[f]? with|some fn=>ya3 G fn|none=>true
def zeo (P:fe) (Γ:Env) (n:Nat):zc8:=zpc Γ (cm P Γ n)
def axC (Γ:Env):zc8:=fun f args s=>match Γ.ax f with
  |some h=>h args s
  |none=>none
def cs0:CS:=⟨0,.inl (Tr.all ⟨true,[],none,none⟩ 14),0,[],[]⟩
def z6b (P:fe) (Γ:Env) (f:jx) (fuel:Nat):Bool :=
  match zeo P Γ fuel f [] cs0 with
  |some (.bool true,_)=>true
  |_=>false
end
section
open Go
theorem zbn {α:Type} (x y:α):sel true x y=x:=rfl
theorem zqu {α:Type} (x y:α):sel false x y=y:=rfl
theorem zcr {α:Type} (b:Bool) (x y:α):sel b x y=if b=true then x else y:=by cases b<;>rfl
theorem zaf {a b:Nat}:fw a b=true↔a<b:=by unfold fw;rw [Nat.ble_eq];exact Iff.rfl
theorem zbk {a b:Nat}:gj a b=true↔a<=b:=by rw [Nat.ble_eq]
theorem yh4 {i j:Nat} (h:i≠j) (hm:i % 2=j % 2):i / 2≠j / 2:=by omega
theorem Tr.get_succ {α:Type} (d:Nat) (t:Tr α (d+1)) (i:Nat):Tr.get (d+1) t i=if i % 2=0 then Tr.get d t.1 (i / 2) else Tr.get d t.2 (i / 2):=by
  show (Bool.rec (motive:=fun _=>α) (Tr.get d t.2 (i / 2)) (Tr.get d t.1 (i / 2)) (er (i % 2) 0):α)=_;by_cases h:i % 2=0
  . rw [zAc h,h];rfl
  . rw [zAd h,show i % 2=1 by omega];rfl
theorem Tr.set_succ {α:Type} (v:α) (d:Nat) (t:Tr α (d+1)) (i:Nat):Tr.set v (d+1) t i=if i % 2=0 then qq (Tr.set v d t.1 (i / 2)) t.2 else qq t.1 (Tr.set v d t.2 (i / 2)):=by
  show (Bool.rec (motive:=fun _=>Tr α (d+1)) (qq t.1 (Tr.set v d t.2 (i / 2))) (qq (Tr.set v d t.1 (i / 2)) t.2) (er (i % 2) 0):Tr α (d+1))=_;by_cases h:i % 2=0
  . rw [zAc h,h];rfl
  . rw [zAd h,show i % 2=1 by omega];rfl
theorem Tr.get_set_same {α:Type} (v:α) (d:Nat):∀ (t:Tr α d) (i:Nat),Tr.get d (Tr.set v d t i) i=v:=by
  induction d with
  |zero=>intro t i;rfl
  |succ d ih =>
    intro t i;rw [Tr.get_succ,Tr.set_succ];by_cases h:i % 2=0
    . rw [zAc h,zAc h];exact ih _ _
    . rw [zAd h,zAd h];exact ih _ _
theorem Tr.get_set_other {α:Type} (v:α) (d:Nat):∀ (t:Tr α d) (i j:Nat),i≠j->i<2 ^ d->j<2 ^ d->Tr.get d (Tr.set v d t i) j=Tr.get d t j:=by
  induction d with
  |zero=>intro t i j h hi hj;simp at hi hj;omega
  |succ d ih =>
    intro t i j h hi hj;rw [Tr.get_succ,Tr.get_succ,Tr.set_succ];have hp:2 ^ (d+1)=2*2 ^ d:=by rw [Nat.pow_succ];omega
    by_cases hi2:i % 2=0<;>by_cases hj2:j % 2=0
    . rw [zAc hi2,zAc hj2,zAc hj2];exact ih _ _ _ (yh4 h (by omega)) (by omega) (by omega)
    . rw [zAc hi2,zAd hj2,zAd hj2]
    . rw [zAd hi2,zAc hj2,zAc hj2]
    . rw [zAd hi2,zAd hj2,zAd hj2];exact ih _ _ _ (yh4 h (by omega)) (by omega) (by omega)
theorem Tr.get_all {α:Type} (v:α) (d:Nat):∀ i,Tr.get d (Tr.all v d) i=v:=by
  induction d with
  |zero=>intro i;rfl
  |succ d ih =>
    intro i;rw [Tr.get_succ];split
    . exact ih _
    . exact ih _
theorem Tr.get_of {α:Type} (f:Nat->α) (d:Nat):∀ k w i,i<2 ^ d->Tr.get d (Tr.of f d k w) i=f (k+w*i):=by
  induction d with
  | zero => intro k w i h; have : i = 0 := by simp at h; omega
            subst this;simp;rfl
  |succ d ih =>
    intro k w i h;have hp:2 ^ (d+1)=2*2 ^ d:=by rw [Nat.pow_succ];omega
    rw [Tr.get_succ];by_cases h2:i % 2=0
    . rw [zAc h2];show Tr.get d (Tr.of f d k (2*w)) (i / 2)=_;rw [ih _ _ _ (by omega)];congr 1;have:i=2*(i / 2):=by omega
      calc k+2*w*(i / 2)=k+w*(2*(i / 2)):=by rw [Nat.mul_comm 2 w,Nat.mul_assoc]
        _=k+w*i:=by rw [<- this]
    . rw [zAd h2];show Tr.get d (Tr.of f d (k+w) (2*w)) (i / 2)=_;rw [ih _ _ _ (by omega)];congr 1;have:i=2*(i / 2)+1:=by omega
      calc k+w+2*w*(i / 2)=k+w*(2*(i / 2)+1):=by rw [Nat.mul_comm 2 w,Nat.mul_assoc,Nat.mul_add];omega
        _=k+w*i:=by rw [<- this]
theorem Tab.at_mk {α:Type} (f:Nat->Option α) (i:Nat) (a:α) (h:Tab.at (yk6 f) i=some a):f i=some a:=by
  unfold Tab.at at h;rw [zcr] at h;split at h
  . rename_i hi;have hi':i<256:=zaf.1 hi;unfold yk6 at h;rw [Tr.get_of f 8 0 1 i (by simpa using hi')] at h;simpa using h
  . exact absurd h (by simp)
def zd4:Fam:=⟨true,[],none,none⟩
theorem zbs {t:Sto} {i:Nat} (x:Fam) (h:zis t i=true):zaa (zaw t i x) i=x:=by
  cases t with
  |inr g =>
    show sel (er i i) x (g i)=x;rw [Nat.beq_refl,zcr,zAc rfl]
  |inl t =>
  unfold zaa zaw;show sel _ (Tr.get 14 (Tr.set x 14 t i) i) _=x;rw [zcr,zAc (show fw i 16384=true from h)];exact Tr.get_set_same _ _ _ _
theorem zav {t:Sto} {i j:Nat} (x:Fam) (h:zis t i=true) (hij:i≠j):zaa (zaw t i x) j=zaa t j:=by
  cases t with
  |inr g =>
    show sel (er j i) x (g j)=g j;rw [zcr,zAd (fun k=>hij (eg k).symm)]
  |inl t =>
  have h:i<16384:=zaf.1 h;unfold zaa zaw;show sel _ (Tr.get 14 (Tr.set x 14 t i) j) _=sel _ (Tr.get 14 t j) _;rw [zcr,zcr];by_cases hj:j<16384
  . rw [zAc (zaf.2 hj),zAc (zaf.2 hj)];exact Tr.get_set_other _ 14 _ _ _ hij (by simpa using h) (by simpa using hj)
  . rw [zAd (fun k=>hj (zaf.1 k)),zAd (fun k=>hj (zaf.1 k))]
abbrev Sg:=Nat->Nat->Option (Nat×Nat×Nat)
def RL (R:Value->Value->Prop):List Value->List Value->Prop
  |[],[]=>True
  |x :: l,y :: m=>R x y/\RL R l m
  |_,_=>False
theorem RL.mono {R R':Value->Value->Prop} (h:∀ x y,R x y->R' x y):∀ {l m:List Value},RL R l m->RL R' l m
  |[],[],_=>trivial
  |_ :: _,_ :: _,⟨a,b⟩=>⟨h _ _ a,RL.mono h b⟩
  |[],_ :: _,h=>h.elim
  |_ :: _,[],h=>h.elim
theorem RL.length {R:Value->Value->Prop}:∀ {l m:List Value},RL R l m->l.length=m.length
  |[],[],_=>rfl
  |_ :: l,_ :: m,⟨_,b⟩=>by simp [RL.length b]
  |[],_ :: _,h=>h.elim
  |_ :: _,[],h=>h.elim
theorem RL.at {R:Value->Value->Prop}:∀ {l m:List Value},RL R l m->∀ {i:Nat} {x:Value},l[i]?=some x->∃ y,m[i]?=some y/\R x y
  |x :: l,y :: m,⟨a,b⟩,0,z,h=>⟨y,rfl,by simp at h;exact h ▸ a⟩
  |x :: l,y :: m,⟨a,b⟩,i+1,z,h=>RL.at b (i:=i) (by simpa using h)
  |[],[],_,i,z,h=>by simp at h
  |[],_ :: _,h,_,_,_=>h.elim
  |_ :: _,[],h,_,_,_=>h.elim
theorem RL.of {R:Value->Value->Prop}:∀ {l m:List Value},l.length=m.length->(∀ (i:Nat) (x y:Value),l[i]?=some x->m[i]?=some y->R x y)->RL R l m
  |[],[],_,_=>trivial
  |x :: l,y :: m,hl,h=>⟨h 0 x y rfl rfl,RL.of (by simpa using hl) fun i a b ha hb=>h (i+1) a b (by simpa using ha) (by simpa using hb)⟩
  |[],_ :: _,hl,_=>by simp at hl
  |_ :: _,[],hl,_=>by simp at hl
theorem RL.append {R:Value->Value->Prop}:∀ {l m l' m':List Value},RL R l m->RL R l' m'->RL R (l++l') (m++m')
  |[],[],_,_,_,h=>h
  |_ :: _,_ :: _,_,_,⟨a,b⟩,h=>⟨a,RL.append b h⟩
  |[],_ :: _,_,_,h,_=>h.elim
  |_ :: _,[],_,_,h,_=>h.elim
theorem RL.take {R:Value->Value->Prop}:∀ {l m:List Value},RL R l m->∀ n,RL R (l.take n) (m.take n)
  |[],[],_,n=>by simp [RL]
  |_ :: _,_ :: _,_,0=>trivial
  |_ :: _,_ :: _,⟨a,b⟩,n+1=>⟨a,RL.take b n⟩
  |[],_ :: _,h,_=>h.elim
  |_ :: _,[],h,_=>h.elim
theorem RL.drop {R:Value->Value->Prop}:∀ {l m:List Value},RL R l m->∀ n,RL R (l.drop n) (m.drop n)
  |[],[],_,n=>by simp [RL]
  |_ :: _,_ :: _,h,0=>h
  |_ :: _,_ :: _,⟨_,b⟩,n+1=>RL.drop b n
  |[],_ :: _,h,_=>h.elim
  |_ :: _,[],h,_=>h.elim
theorem RL.map {R:Value->Value->Prop} {α:Type} {f g:α->Value}:∀ {l:List α},(∀ x∈l,R (f x) (g x))->RL R (l.map f) (l.map g)
  |[],_=>trivial
  |x :: l,h=>⟨h x (by simp),RL.map fun y hy=>h y (by simp [hy])⟩
def lpAt (d:Nat):Nat:=d*1024+1023
def FnR (σ:Sg):Fn->Fn->Prop
  |.yield d,fn=>∃ b,σ d (lpAt d)=some (b,0,0)/\fn=.yield b
  |f,fn=>fn=f
theorem FnR.mono {σ σ':Sg} (hσ:∀ f u p,σ f u=some p->σ' f u=some p) {f fn:Fn} (h:FnR σ f fn):FnR σ' f fn:=by
  cases f with
  |yield d=>obtain ⟨b,h1,h2⟩:=h;exact ⟨b,hσ _ _ _ h1,h2⟩
  |_=>exact h
theorem FnR.func {σ:Sg} {g:jx} {fn:Fn} (h:FnR σ (.func g) fn):fn=.func g:=h
def zqb (σ:Sg) (R:Value->Value->Prop):Value->Value->Prop
  |.bool a,v=>v=.bool a
  |.int k n,v=>v=.int k n
  |.string s,v=>v=.string s
  |.pointer none,v=>v=.pointer none
  |.pointer (some a),v=>∃ b o z,σ a.block (Addr.ver a)=some (b,o,z)/\v=.pointer (some ⟨b,o+a.off,none⟩)
  |.slice none n c,v=>n=0/\c=0/\v=.slice none 0 0
  | .slice (some a) n c, v => ∃ b o z, σ a.block (Addr.ver a) = some (b, o, z) /\ ∃ a' c', v = .slice (some a') n c' /\ n <= c /\ c <= c' /\ c' <= maxLen /\ (c' ≠ 0 -> a' = ⟨b, o + a.off, none⟩) /\
      (Addr.ver a % 1024=0->c'=c)/\(Addr.ver a % 1024≠0->c'≠0->o+a.off+c'*(Addr.ver a % 1024 - 1)<=z)
  |.map none,v=>v=.map none
  |.map (some r),v=>∃ b o z,σ r (r*1024)=some (b,o,z)/\v=.map (some b)
  |.func fn xs ys,v=>∃ fn' xs' ys',v=.func fn' xs' ys'/\FnR σ fn fn'/\RL R xs.toList xs'.toList/\RL R ys.toList ys'.toList
  |.nilFunc,v=>v=.nilFunc
  |.iface t x,v=>∃ x',v=.iface t x'/\R x x'
  |.nilIface,v=>v=.nilIface
  |.agg xs,v=>∃ xs',v=.agg xs'/\RL R xs.toList xs'.toList
  |.tuple xs,v=>∃ xs',v=.tuple xs'/\RL R xs.toList xs'.toList
  |_,_=>False
def Sg.le (σ σ':Sg):Prop:=∀ f u p,σ f u=some p->σ' f u=some p
theorem zqb.mono {σ σ':Sg} (hσ:Sg.le σ σ') {R R':Value->Value->Prop} (hR:∀ x y,R x y->R' x y) {v v':Value} (h:zqb σ R v v'):zqb σ' R' v v':=by
  cases v with
  |bool a=>exact h
  |int k n=>exact h
  |string s=>exact h
  |pointer a=>cases a with
    |none=>exact h
    |some a=>obtain ⟨b,o,z,hs,hv⟩:=h;exact ⟨b,o,z,hσ _ _ _ hs,hv⟩
  |slice a n c=>cases a with
    |none=>exact h
    |some a=>obtain ⟨b,o,z,hs,hv⟩:=h;exact ⟨b,o,z,hσ _ _ _ hs,hv⟩
  |map r=>cases r with
    |none=>exact h
    |some r=>obtain ⟨b,o,z,hs,hv⟩:=h;exact ⟨b,o,z,hσ _ _ _ hs,hv⟩
  |func fn xs ys=>obtain ⟨fn',xs',ys',hv,hf,h1,h2⟩:=h;exact ⟨fn',xs',ys',hv,hf.mono hσ,h1.mono hR,h2.mono hR⟩
  |nilFunc=>exact h
  |iface t x=>obtain ⟨x',hv,h1⟩:=h;exact ⟨x',hv,hR _ _ h1⟩
  |nilIface=>exact h
  |agg xs=>obtain ⟨xs',hv,h1⟩:=h;exact ⟨xs',hv,h1.mono hR⟩
  |tuple xs=>obtain ⟨xs',hv,h1⟩:=h;exact ⟨xs',hv,h1.mono hR⟩
  |_=>exact h
def VR (σ:Sg) (v v':Value):Prop:=∀ R:Value->Value->Prop,(∀ x y,zqb σ R x y->R x y)->R v v'
theorem VR.mk {σ:Sg} {v v':Value} (h:zqb σ (VR σ) v v'):VR σ v v':=fun R hR=>hR _ _ (zqb.mono (fun _ _ _ h=>h) (fun _ _ k=>k R hR) h)
theorem VR.out {σ:Sg} {v v':Value} (h:VR σ v v'):zqb σ (VR σ) v v':=h _ fun _ _ hs=>zqb.mono (fun _ _ _ h=>h) (fun _ _=>VR.mk) hs
theorem VR.mono {σ σ':Sg} (hσ:Sg.le σ σ') {v v':Value} (h:VR σ v v'):VR σ' v v':=h _ fun _ _ hs=>VR.mk (zqb.mono hσ (fun _ _ h=>h) hs)
theorem RL.up {σ σ':Sg} (hσ:Sg.le σ σ') {l m:List Value} (h:RL (VR σ) l m):RL (VR σ') l m:=h.mono fun _ _=>VR.mono hσ
theorem zig {σ:Sg}:∀ (n:Nat) {v:Value},za6 n v=true->VR σ v v:=by
  intro n
  induction n with
  |zero =>
    intro v h
    cases v<;>first|exact VR.mk rfl | (simp [za6] at h)
  |succ n ih =>
    intro v h
    cases v with
    |agg cs=>exact VR.mk ⟨cs,rfl,RL.of rfl fun i x y hx hy=>by rw [hx] at hy;cases hy;exact ih (by simp only [za6,fd] at h;exact h x (ij hx))⟩
    |tuple cs=>exact VR.mk ⟨cs,rfl,RL.of rfl fun i x y hx hy=>by rw [hx] at hy;cases hy;exact ih (by simp only [za6,fd] at h;exact h x (ij hx))⟩
    |iface t x=>exact VR.mk ⟨x,rfl,ih (by simpa [za6] using h)⟩
    |_=>first|exact VR.mk rfl | (simp [za6] at h)
theorem RL.eq {R:Value->Value->Prop}:∀ {l m:List Value},RL R l m->(∀ x∈l,∀ y,R x y->y=x)->m=l
  |[],[],_,_=>rfl
  |x :: l,y :: m,⟨a,b⟩,h=>by rw [h x (by simp) y a,RL.eq b fun z hz=>h z (by simp [hz])]
  |[],_ :: _,h,_=>h.elim
  |_ :: _,[],h,_=>h.elim
theorem zq1 {σ:Sg}:∀ (n:Nat) {v v':Value},za6 n v=true->VR σ v v'->v'=v:=by
  intro n
  induction n with
  |zero =>
    intro v v' h hv;have:=hv.out
    cases v<;>first|exact this | (simp [za6] at h)
  |succ n ih =>
    intro v v' h hv;have:=hv.out
    cases v with
    |agg cs =>
      obtain ⟨xs',rfl,hl⟩:=this;have:=hl.eq fun x hx y hy=>ih (by simp only [za6,fd] at h;exact h x hx) hy;rw [lw.1 this]
    |tuple cs =>
      obtain ⟨xs',rfl,hl⟩:=this;have:=hl.eq fun x hx y hy=>ih (by simp only [za6,fd] at h;exact h x hx) hy;rw [lw.1 this]
    |iface t x =>
      obtain ⟨x',rfl,hx⟩:=this;rw [ih (by simpa [za6] using h) hx]
    |_=>first|exact this | (simp [za6] at h)
theorem zw3 {α:Type} {P:fe}:∀ {m:Sem α} {x:α},zbl P m=some x->∀ w,m.run P w=.ok x w:=by
  intro m
  induction m with
  |pure a=>intro x h w;simp [zbl] at h;subst h;rfl
  |program k ih=>intro x h w;exact ih P (by simpa [zbl] using h) w
  |_=>intro x h;simp [zbl] at h
end
section
open Go
def Up (w:World) (b:Nat):Prop:=∀ c e lo hi,w.heap[b]?=some (.cells c e (lo,hi))->lo<=hi
def zx4 (σ:Sg) (w:World) (ro:Bool) (b o z:Nat) (cs:List Value):Prop :=
  o+cs.length<=z/\(∀ j,j<z->(w.cell? ⟨b,j,none⟩).isSome=true)/\(ro=false->(∀ j,j<z->w.frozen? ⟨b,j,none⟩=false)/\Up w b) /\
  (∀ (j:Nat) (u:Value),cs[j]?=some u->∃ u',w.cell? ⟨b,o+j,none⟩=some u'/\VR σ u u')
def EL (R:Value->Value->Prop):List (Value×Value)->List kc->Prop
  |[],[]=>True
  |(k,v) :: l,e :: m=>e.key=k/\za6 3 k=true/\R v e.val/\EL R l m
  |_,_=>False
def Born (ents:Array kc) (clock:Nat):Prop:=clock=ents.size/\∀ (i:Nat) (e:kc),ents[i]?=some e->e.born=i
theorem Born.modify {ents:Array kc} {clock j:Nat} {f:kc->kc} (h:Born ents clock) (hf:∀ e,(f e).born=e.born):Born (ents.modify j f) clock:=by
  refine ⟨by simpa using h.1,fun i e he=>?_⟩;rw [Array.getElem?_modify] at he;split at he
  . cases hi:ents[i]? with
    |none=>rw [hi] at he;simp at he
    |some e0=>rw [hi] at he;simp at he;subst he;rw [hf];exact h.2 i e0 hi
  . exact h.2 i e he
theorem Born.push {ents:Array kc} {clock:Nat} {e:kc} (h:Born ents clock) (he:e.born=clock):Born (ents.push e) (clock+1):=by
  refine ⟨by simp [h.1],fun i x hx=>?_⟩;rw [Array.getElem?_push] at hx;split at hx
  . rename_i hi;simp at hx;subst hx;rw [he,h.1,hi]
  . exact h.2 i x hx
theorem Born.empty:Born #[] 0:=⟨rfl,fun i e h=>by simp at h⟩
def z6q (σ:Sg) (w:World) (b:Nat) (es:List (Value×Value)):Prop:=∃ (ents:Array kc) (clock:Nat),w.heap[b]?=some (.map ents clock)/\EL (VR σ) es ents.toList/\Born ents clock
def Desc (σ:Sg) (f:Nat):List (Nat×List Value)->Prop
  |[]=>True
  |q :: l=>(∀ p,p∈l->∀ b o z o' z',σ f q.1=some (b,o,z)->σ f p.1=some (b,o',z')->o'+p.2.length<=o+q.2.length)/\Desc σ f l
structure FrR (σ:Sg) (fr:Fr) (a:Act):Prop where
  size:fr.nt=a.tmps.size
  small:fr.nt<=512
  val:∀ t,VR σ (fr.get t) (a.tmps.getD t undef)
theorem FrR.up {σ σ':Sg} {fr:Fr} {a:Act} (h:FrR σ fr a) (k:Sg.le σ σ'):FrR σ' fr a:=⟨h.size,h.small,fun t=>(h.val t).mono k⟩
def z4y:Exit->Option Code
  |.ret=>some .ret
  |.exit i=>some (.exit i)
  |_=>none
def LpAt (σ:Sg) (w:World) (f:Nat) (L:Lp):Prop:=∃ b rec,σ f (lpAt f)=some (b,0,0)/\w.heap[b]?=some (.loop rec)/\rec.params.toList=L.ps/\rec.assign=L.a/\rec.body=L.b/\FrR σ L.fr { tmps:=rec.tmps,defers:=[] } /\
  (zc3 [] L.fr.nt L.a=true/\zc3 [] L.fr.nt L.b=true/\∀ p,p∈L.ps->p<L.fr.nt)/\(L.st=none->rec.state=.ready/\rec.pending=none)/\∀ e,L.st=some e->rec.state=.done/\∃ c,z4y e=some c/\rec.pending=some c
theorem LpAt.move {σ σ':Sg} {w w':World} {f:Nat} {L:Lp} (h:LpAt σ w f L) (hs:Sg.le σ σ') (hb:∀ b,σ f (lpAt f)=some (b,0,0)->w'.heap[b]?=w.heap[b]?):LpAt σ' w' f L:=by
  obtain ⟨b,rec,h1,h2,h3,h4,h5,h6,h7⟩:=h;exact ⟨b,rec,hs _ _ _ h1,(hb b h1).trans h2,h3,h4,h5,h6.up hs,h7⟩
structure zh8 (σ:Sg) (w:World) (f:Nat) (x:Fam):Prop where
  rows:∀ p,p∈x.rows->∀ b o z,σ f p.1=some (b,o,z)->zx4 σ w x.ro b o z p.2
  desc:x.ro=false->Desc σ f x.rows
  es:∀ es,x.es=some es->∀ b o z,σ f (f*1024)=some (b,o,z)->z6q σ w b es
  lp:∀ L,x.lp=some L->LpAt σ w f L
structure Rel (σ:Sg) (V:Nat->Prop) (s:CS) (w:World):Prop where
  inj:∀ f u b o z f' u' o' z',σ f u=some (b,o,z)->σ f' u'=some (b,o',z')->f=f'
  lt:∀ f u b o z,σ f u=some (b,o,z)->b<w.heap.size
  fam:∀ f,V f->zh8 σ w f (zaa s.obj f)
  none:∀ f,s.n<=f->zaa s.obj f=zd4
  vers:∀ f p,p∈(zaa s.obj f).rows->p.1 / 1024<s.n
def zeq (σ:Sg) (m n:Nat):Prop:=∀ f u,(m<=f/\f<n)\/(m<=u / 1024/\u / 1024<n)->σ f u=none
def Same (w w':World):Prop:=w'.os=w.os/\w'.tape=w.tape/\w'.output=w.output
theorem Same.refl (w:World):Same w w:=⟨rfl,rfl,rfl⟩
theorem Same.trans {a b c:World} (h:Same a b) (k:Same b c):Same a c:=⟨k.1.trans h.1,k.2.1.trans h.2.1,k.2.2.trans h.2.2⟩
structure Ext (σ:Sg) (V:Nat->Prop) (s:CS) (w:World) (σ':Sg) (s':CS) (w':World):Prop where
  le:Sg.le σ σ'
  new:∀ f u,σ f u=none->σ' f u≠none->s.n<=u / 1024/\u / 1024<s'.n/\f<s'.n/\(s.n<=f\/V f)
  old:∀ f u b o z,σ f u=none->σ' f u=some (b,o,z)->b<w.heap.size->∃ u0 o0 z0,σ f u0=some (b,o0,z0)/\V f/\(zaa s.obj f).ro=false
  size:w.heap.size<=w'.heap.size
  frame:∀ b,b<w.heap.size->(∀ f u o z,σ f u=some (b,o,z)->¬ V f\/(zaa s.obj f).ro=true)->w'.heap[b]?=w.heap[b]?
  st:Same w w'
structure Can (s s':CS):Prop where
  n:s.n<=s'.n
  lim:s'.lim=s.lim
  rd:∀ f,f∈s.rd->f∈s'.rd
  wr:∀ f,f∈s.wr->f∈s'.wr
  same:∀ f,f<s.n->f<s.lim->f ∉ s'.wr->zaa s'.obj f=zaa s.obj f
  ro:∀ f,f<s.n->(zaa s'.obj f).ro=(zaa s.obj f).ro
  none:(∀ f,s.n<=f->zaa s.obj f=zd4)->∀ f,s'.n<=f->zaa s'.obj f=zd4
  vers:(∀ f p,p∈(zaa s.obj f).rows->p.1 / 1024<s.n)->∀ f p,p∈(zaa s'.obj f).rows->p.1 / 1024<s'.n
  wlt:(∀ f,f∈s.wr->f<s.lim)->∀ f,f∈s'.wr->f<s'.lim
theorem Can.refl (s:CS):Can s s:=⟨ei _,rfl,fun _ h=>h,fun _ h=>h,fun _ _ _ _=>rfl,fun _ _=>rfl,fun h=>h,fun h=>h,fun h=>h⟩
theorem Can.trans {a b c:CS} (h:Can a b) (k:Can b c):Can a c :=
  ⟨kh h.n k.n,k.lim.trans h.lim,fun f hf=>k.rd f (h.rd f hf),fun f hf=>k.wr f (h.wr f hf),
   fun f hn hl hw=>(k.same f (fh hn h.n) (by rw [h.lim];exact hl) hw).trans (h.same f hn hl fun hb=>hw (k.wr f hb)),
   fun f hn=>(k.ro f (fh hn h.n)).trans (h.ro f hn),fun hd=>k.none (h.none hd),fun hd=>k.vers (h.vers hd),fun hd=>k.wlt (h.wlt hd)⟩
def zci (V:Nat->Prop) (s:CS):Prop:=∀ f,(f∈s.rd\/f∈s.wr\/s.lim<=f)->V f
theorem zci.back {V:Nat->Prop} {s s':CS} (h:zci V s') (c:Can s s'):zci V s:=fun f hf=>h f (by
  rcases hf with hf|hf|hf
  . exact .inl (c.rd f hf)
  . exact .inr (.inl (c.wr f hf))
  . exact .inr (.inr (by rw [c.lim];exact hf)))
theorem zeq.mono {σ:Sg} {m n m' n':Nat} (h:zeq σ m n) (hm:m<=m') (hn:n'<=n):zeq σ m' n':=fun f u hf=>h f u (by omega)
theorem zeq.next {σ σ':Sg} {V:Nat->Prop} {s s':CS} {w w':World} {n:Nat} (h:zeq σ s.n n) (e:Ext σ V s w σ' s' w') (c:Can s s'):zeq σ' s'.n n:=by
  intro f u hf;have h0:σ f u=Option.none:=h f u (by have:=c.n;omega)
  cases h1:σ' f u with
  |none=>rfl
  |some p =>
    have:=e.new f u h0 (by rw [h1];simp);omega
theorem Ext.refl (σ:Sg) (V:Nat->Prop) (s:CS) (w:World):Ext σ V s w σ s w :=
  ⟨fun _ _ _ h=>h,fun _ _ h k=>absurd h k,fun _ _ _ _ _ h k=>by rw [h] at k;simp at k,ei _,fun _ _ _=>rfl,Same.refl _⟩
theorem Ext.trans {σ σ1 σ2:Sg} {V:Nat->Prop} {s s1 s2:CS} {w w1 w2:World} (h:Ext σ V s w σ1 s1 w1) (k:Ext σ1 V s1 w1 σ2 s2 w2) (c:Can s s1) (c2:Can s1 s2) (hf:zeq σ s.n s2.n) (hn:∀ f,s.n<=f->zaa s.obj f=zd4):Ext σ V s w σ2 s2 w2:=by
  have hro:∀ f u p,σ f u=some p->(zaa s1.obj f).ro=(zaa s.obj f).ro:=by
    intro f u p hp;by_cases hlt:f<s.n
    . exact c.ro f hlt
    . by_cases h2:f<s2.n
      . rw [hf f u (.inl ⟨by omega,h2⟩)] at hp;simp at hp
      . rw [hn f (by omega),c.none hn f (by have:=c2.n;omega)]
  refine ⟨fun f u p hp=>k.le f u p (h.le f u p hp),?_,?_,kh h.size k.size,?_,h.st.trans k.st⟩
  . intro f u h0 h2
    cases h1:σ1 f u with
    |none=>have q:=k.new f u h1 h2;have:=c.n;exact ⟨by omega,q.2.1,q.2.2.1,q.2.2.2.imp (fun x=>by omega) id⟩
    |some p=>have q:=h.new f u h0 (by rw [h1];simp);have:=c2.n;exact ⟨q.1,by omega,by omega,q.2.2.2⟩
  . intro f u b o z h0 h2 hb
    cases h1:σ1 f u with
    |none =>
      obtain ⟨u0,o0,z0,hs,hV,hr⟩:=k.old f u b o z h1 h2 (fh hb h.size)
      cases h3:σ f u0 with
      |none=>exact h.old f u0 b o0 z0 h3 hs hb
      |some p =>
        have:=h.le f u0 p h3;rw [hs] at this;cases this;exact ⟨u0,o0,z0,h3,hV,by rw [<- hro f u0 _ h3];exact hr⟩
    |some p =>
      have:=k.le f u p h1;rw [h2] at this;cases this;exact h.old f u b o z h0 h1 hb
  . intro b hb hq;rw [k.frame b (fh hb h.size) ?_,h.frame b hb hq];intro f u o z h1
    cases h0:σ f u with
    |some p =>
      have:=h.le f u p h0;rw [h1] at this;cases this;rcases hq f u o z h0 with hv|hr
      . exact .inl hv
      . exact .inr (by rw [hro f u _ h0];exact hr)
    |none =>
      obtain ⟨u0,o0,z0,hs,hV,hr⟩:=h.old f u b o z h0 h1 hb;rcases hq f u0 o0 z0 hs with hv|hr2
      . exact absurd hV hv
      . rw [hr] at hr2;simp at hr2
theorem zx4.up {σ σ':Sg} {w:World} {ro:Bool} {b o z:Nat} {cs:List Value} (h:zx4 σ w ro b o z cs) (hs:Sg.le σ σ'):zx4 σ' w ro b o z cs :=
  ⟨h.1,h.2.1,h.2.2.1,fun j u hj=>let ⟨u',h1,h2⟩:=h.2.2.2 j u hj;⟨u',h1,h2.mono hs⟩⟩
theorem zxz {w w':World} {b:Nat} (h:w'.heap[b]?=w.heap[b]?) (j:Nat):w'.frozen? ⟨b,j,none⟩=w.frozen? ⟨b,j,none⟩:=by unfold World.frozen?;rw [h]
theorem zx4.keep {σ:Sg} {w w':World} {ro:Bool} {b o z:Nat} {cs:List Value} (h:zx4 σ w ro b o z cs) (hb:w'.heap[b]?=w.heap[b]?):zx4 σ w' ro b o z cs :=
  ⟨h.1,fun j hj=>by rw [World.cell?_of_block (w:=w) hb];exact h.2.1 j hj,fun hr=>⟨fun j hj=>by rw [zxz hb];exact (h.2.2.1 hr).1 j hj,fun c e lo hi k=>(h.2.2.1 hr).2 c e lo hi (by rw [<- hb];exact k)⟩,
   fun j u hj=>let ⟨u',h1,h2⟩:=h.2.2.2 j u hj;⟨u',by rw [World.cell?_of_block (w:=w) hb];exact h1,h2⟩⟩
theorem EL.up {σ σ':Sg} (hs:Sg.le σ σ'):∀ {l:List (Value×Value)} {m:List kc},EL (VR σ) l m->EL (VR σ') l m
  |[],[],_=>trivial
  |(_,_) :: _,_ :: _,⟨a,b,c,d⟩=>⟨a,b,c.mono hs,EL.up hs d⟩
  |[],_ :: _,h=>h.elim
  |_ :: _,[],h=>h.elim
theorem z6q.up {σ σ':Sg} {w:World} {b:Nat} {es:List (Value×Value)} (h:z6q σ w b es) (hs:Sg.le σ σ'):z6q σ' w b es :=
  let ⟨e,c,h1,h2,h3⟩:=h;⟨e,c,h1,h2.up hs,h3⟩
theorem z6q.keep {σ:Sg} {w w':World} {b:Nat} {es:List (Value×Value)} (h:z6q σ w b es) (hb:w'.heap[b]?=w.heap[b]?):z6q σ w' b es :=
  let ⟨e,c,h1,h2⟩:=h;⟨e,c,by rw [hb];exact h1,h2⟩
theorem zj4:∀ {l:List (Nat×List Value)} {u:Nat} {cs:List Value},zcb l u=some cs->(u,cs)∈l
  |(v,c) :: l,u,cs,h=>by
    simp only [zcb] at h
    cases hb:er v u with
    |true=>rw [hb] at h;simp at h;have:=eg hb;simp [this,h]
    |false=>rw [hb] at h;exact ml _ (zj4 h)
theorem Desc.move {σ σ':Sg} {f:Nat}:∀ {l:List (Nat×List Value)},(∀ p,p∈l->σ' f p.1=σ f p.1)->Desc σ f l->Desc σ' f l
  |[],_,_=>trivial
  |q :: l,h,hd=>⟨fun p hp b o z o' z' h1 h2=>hd.1 p hp b o z o' z' (by rw [<- h q (by simp)];exact h1) (by rw [<- h p (by simp [hp])];exact h2),Desc.move (fun p hp=>h p (by simp [hp])) hd.2⟩
theorem zh8.move {σ σ':Sg} {w w':World} {f:Nat} {x:Fam} (h:zh8 σ w f x) (hs:Sg.le σ σ') (hold:∀ u,(∃ cs,(u,cs)∈x.rows)\/u=f*1024->σ' f u=σ f u)
    (hb:∀ u b o z,σ f u=some (b,o,z)->w'.heap[b]?=w.heap[b]?):zh8 σ' w' f x:=by
  refine ⟨?_,fun hro=>(h.desc hro).move fun p hp=>hold _ (.inl ⟨p.2,hp⟩),?_,fun L hL=>(h.lp L hL).move hs fun b k=>hb _ b 0 0 k⟩
  . intro p hp b o z hσ;rw [hold p.1 (.inl ⟨p.2,hp⟩)] at hσ;exact ((h.rows p hp b o z hσ).up hs).keep (hb _ b o z hσ)
  . intro es he b o z hσ;rw [hold _ (.inr rfl)] at hσ;exact ((h.es es he b o z hσ).up hs).keep (hb _ b o z hσ)
theorem zwe {lim:Nat} {l:List Nat} {n f:Nat} (h:f∈l):f∈ins lim l n:=by
  unfold ins;cases fw n lim<;>simp
  . exact h
  . cases has l n<;>simp
    . exact .inr h
    . exact h
theorem z19:∀ {l:List Nat} {n:Nat},has l n=true->n∈l
  |x :: l,n,h=>by
    simp only [has] at h
    cases hb:er x n with
    |true=>have:=eg hb;simp [this]
    |false=>rw [hb] at h;exact ml _ (z19 h)
theorem zmn {lim:Nat} {l:List Nat} {n:Nat}:n∈ins lim l n\/lim<=n:=by
  unfold ins
  cases hb:fw n lim with
  |false=>exact .inr (by rw [<- Nat.not_lt];intro k;rw [zaf.2 k] at hb;simp at hb)
  |true =>
    left
    cases hh:has l n with
    |true=>exact z19 hh
    |false=>simp
theorem zmm {lim:Nat} {l:List Nat} {n f:Nat} (h:f∈ins lim l n):f∈l\/(f=n/\f<lim):=by
  unfold ins at h;cases h1:fw n lim<;>rw [h1] at h
  . exact .inl h
  . have hlt:=zaf.1 h1;cases h2:has l n<;>rw [h2] at h<;>simp at h
    . rcases h with h|h
      . exact .inr ⟨h,by omega⟩
      . exact .inl h
    . exact .inl h
end
theorem zhm {s s':CS} {a:Addr} {cs:List Value} (h:s.readRow a=some (cs,s')) :
    zcb (zaa s.obj a.block).rows (Addr.ver a)=some cs/\s'={ s with rd:=ins s.lim s.rd a.block }:=by
  unfold CS.readRow at h
  cases hr:zcb (zaa s.obj a.block).rows (Addr.ver a) with
  |none=>rw [hr] at h;simp at h
  |some c=>rw [hr] at h;simp at h;exact ⟨by rw [h.1],h.2.symm⟩
theorem z2r (s:CS) (f:Nat):Can s { s with rd:=ins s.lim s.rd f } :=
  ⟨ei _,rfl,fun _ h=>zwe h,fun _ h=>h,fun _ _ _ _=>rfl,fun _ _=>rfl,fun h=>h,fun h=>h,fun h=>h⟩
theorem Rel.log {σ:Sg} {V:Nat->Prop} {s:CS} {w:World} (h:Rel σ V s w) (rd:List Nat):Rel σ V { s with rd:=rd } w:=⟨h.inj,h.lt,h.fam,h.none,h.vers⟩
theorem Ext.log {σ:Sg} {V:Nat->Prop} {s:CS} {w:World} (rd:List Nat):Ext σ V s w σ { s with rd:=rd } w :=
  ⟨fun _ _ _ h=>h,fun _ _ h k=>absurd h k,fun _ _ _ _ _ h k=>by rw [h] at k;simp at k,ei _,fun _ _ _=>rfl,Same.refl _⟩
theorem z1t {s s':CS} {a:Addr} {cs:List Value} (h:s.readRow a=some (cs,s')):Can s s':=by rw [(zhm h).2];exact z2r s _
theorem z1s {σ:Sg} {V:Nat->Prop} {s s':CS} {w:World} {a:Addr} {cs:List Value} (h:s.readRow a=some (cs,s')) (hr:Rel σ V s w):Rel σ V s' w:=by rw [(zhm h).2];exact hr.log _
theorem z92 {σ:Sg} {V:Nat->Prop} {s s':CS} {w:World} {a:Addr} {cs:List Value} (h:s.readRow a=some (cs,s')):Ext σ V s w σ s' w:=by rw [(zhm h).2];exact Ext.log _
theorem z91 {σ:Sg} {V:Nat->Prop} {s s':CS} {w:World} {a:Addr} {cs:List Value} (h:s.readRow a=some (cs,s')) (hr:Rel σ V s w) (hV:zci V s') {b o z:Nat} (hσ:σ a.block (Addr.ver a)=some (b,o,z)) :
    zx4 σ w (zaa s.obj a.block).ro b o z cs:=by
  obtain ⟨h1,rfl⟩:=zhm h;refine (hr.fam a.block (hV _ ?_)).rows _ (zj4 h1) b o z hσ;rcases zmn (lim:=s.lim) (l:=s.rd) (n:=a.block) with h|h
  . exact .inl h
  . exact .inr (.inr h)
theorem zx4.part {σ:Sg} {w:World} {ro:Bool} {b o z:Nat} {cs l:List Value} {off k:Nat} (h:zx4 σ w ro b o z cs) (hc:cut cs off k=some l) :
    ∃ l':List Value,l'.length=k/\(∀ j v,l'[j]?=some v->w.cell? ⟨b,o+off+j,none⟩=some v)/\RL (VR σ) l l':=by
  unfold cut at hc;dsimp only at hc
  cases hb:er ((cs.drop off).take k).length k with
  |false=>rw [hb] at hc;simp at hc
  |true =>
    rw [hb] at hc;have hl:=eg hb;simp only [cond_true,dy] at hc;rw [hc] at hl;refine ⟨(List.range k).map fun j=>(w.cell? ⟨b,o+off+j,none⟩).getD undef,by simp,?_,RL.of (by simp [hl]) ?_⟩
    . intro j v hj;rw [ki] at hj;by_cases hjk:j<k
      . rw [mz hjk] at hj;simp at hj;obtain ⟨x,hx⟩:∃ x,l[j]?=some x:=⟨_,ef (by omega)⟩;rw [<- hc] at hx;rw [mi,zAc hjk,js] at hx;obtain ⟨u',hu,_⟩:=h.2.2.2 (off+j) _ hx;rw [nr] at hj ⊢;rw [hu] at hj ⊢;simp at hj;rw [hj]
      . rw [je (by simp;omega)] at hj;simp at hj
    . intro i x y hx hy;have hik:i<k:=by have:=(et.1 hx).1;omega
      rw [<- hc,mi,zAc hik,js] at hx;obtain ⟨u',hu,hv⟩:=h.2.2.2 (off+i) _ hx;rw [ki,mz hik] at hy;simp at hy;rw [nr,hu] at hy;simp at hy;rw [<- hy];exact hv
theorem zv2 {s s':CS} {a:Addr} {tag:Nat} {cs:List Value} (h:s.newRow tag cs=some (a,s')) :
    zis s.obj s.n=true/\a=mkA s.n (s.n*1024+tag) 0/\s'={ s with n:=s.n+1,obj:=zaw s.obj s.n ⟨false,[(s.n*1024+tag,cs)],none,none⟩ }:=by
  unfold CS.newRow at h;rw [zcr] at h;split at h
  . rename_i hn;simp at h;exact ⟨hn,h.1.symm,h.2.symm⟩
  . simp at h
theorem zsg {s s':CS} {x:Fam} (hn:zis s.obj s.n=true) (hxv:∀ p,p∈x.rows->p.1 / 1024=s.n) (hs:s'={ s with n:=s.n+1,obj:=zaw s.obj s.n x }):Can s s':=by
  subst hs;refine ⟨by simp,rfl,fun _ h=>h,fun _ h=>h,fun f h _ _=>zav _ hn (by omega),fun f h=>by show (zaa (zaw s.obj s.n x) f).ro=_;rw [zav _ hn (by omega)],fun h f hf=>?_,fun h f p hp=>?_,fun h=>h⟩
  . show zaa (zaw s.obj s.n x) f=zd4;have:s.n+1<=f:=hf;rw [zav _ hn (by omega)];exact h f (by omega)
  . show p.1 / 1024<s.n+1;have hp':p∈(zaa (zaw s.obj s.n x) f).rows:=hp;by_cases hfn:f=s.n
    . subst hfn;rw [zbs _ hn] at hp';have:=hxv p hp';omega
    . rw [zav _ hn (qr hfn)] at hp';have:=h f p hp';omega
def Sg.add (σ:Sg) (f u:Nat) (p:Nat×Nat×Nat):Sg:=fun g v=>if g=f/\v=u then some p else σ g v
theorem Sg.add_same (σ:Sg) (f u:Nat) (p:Nat×Nat×Nat):σ.add f u p f u=some p:=by simp [Sg.add]
theorem Sg.add_other (σ:Sg) {f u g v:Nat} (p:Nat×Nat×Nat) (h:¬ (g=f/\v=u)):σ.add f u p g v=σ g v:=by simp [Sg.add,h]
theorem Sg.le_add {σ:Sg} {f u:Nat} {p:Nat×Nat×Nat} (h:σ f u=none):Sg.le σ (σ.add f u p):=by
  intro g v q hq;rw [Sg.add_other]
  . exact hq
  . rintro ⟨rfl,rfl⟩;rw [h] at hq;simp at hq
theorem yg0 {σ:Sg} {V:Nat->Prop} {s:CS} {w w':World} {x:Fam} {u:Nat} {p:Nat×Nat×Nat} (hn:zis s.obj s.n=true) (hr:Rel σ V s w) (hF:∀ f v,(f=s.n\/v / 1024=s.n)->σ f v=none) (hu:u / 1024=s.n)
    (hp:p.1=w.heap.size) (hst:Same w w') (hw:w'.heap.size=w.heap.size+1) (hk:∀ k,k<w.heap.size->w'.heap[k]?=w.heap[k]?) (hx:zh8 (σ.add s.n u p) w' s.n x) (hxv:∀ p,p∈x.rows->p.1 / 1024=s.n) :
    Rel (σ.add s.n u p) V { s with n:=s.n+1,obj:=zaw s.obj s.n x } w'/\Ext σ V s w (σ.add s.n u p) { s with n:=s.n+1,obj:=zaw s.obj s.n x } w':=by
  have h0:σ s.n u=none:=hF s.n u (.inl rfl);have hle:=Sg.le_add (p:=p) h0
  have hcase:∀ f v b o z,σ.add s.n u p f v=some (b,o,z)->(f=s.n/\v=u/\b=w.heap.size)\/(σ f v=some (b,o,z)/\b<w.heap.size):=by
    intro f v b o z h;by_cases hc:f=s.n/\v=u
    . obtain ⟨rfl,rfl⟩:=hc;rw [Sg.add_same] at h;cases h;exact .inl ⟨rfl,rfl,hp⟩
    . rw [Sg.add_other _ _ hc] at h;exact .inr ⟨h,hr.lt _ _ _ _ _ h⟩
  refine ⟨⟨?_,?_,?_,?_,?_⟩,⟨hle,?_,?_,by omega,fun b hb _=>hk b hb,hst⟩⟩
  . intro f v b o z f' v' o' z' h1 h2;rcases hcase _ _ _ _ _ h1 with ⟨rfl,rfl,hb⟩|⟨h3,hb⟩<;>rcases hcase _ _ _ _ _ h2 with ⟨h5,h6,hb2⟩|⟨h4,hb2⟩
    . exact h5.symm
    . omega
    . omega
    . exact hr.inj _ _ _ _ _ _ _ _ _ h3 h4
  . intro f v b o z h;rcases hcase _ _ _ _ _ h with ⟨_,_,hb⟩|⟨_,hb⟩<;>omega
  . intro f hf;by_cases hfn:f=s.n
    . subst hfn;show zh8 _ _ _ (zaa (zaw s.obj s.n x) s.n);rw [zbs _ hn];exact hx
    . show zh8 _ _ _ (zaa (zaw s.obj s.n x) f);rw [zav _ hn (qr hfn)];refine (hr.fam f hf).move hle (fun v _=>Sg.add_other _ _ (fun h=>hfn h.1)) (fun v b o z h=>hk b (hr.lt _ _ _ _ _ h))
  . intro f hf;show zaa (zaw s.obj s.n x) f=zd4;have:s.n+1<=f:=hf;rw [zav _ hn (by omega)];exact hr.none f (by omega)
  . intro f p hp;show p.1 / 1024<s.n+1;have hp':p∈(zaa (zaw s.obj s.n x) f).rows:=hp;by_cases hfn:f=s.n
    . subst hfn;rw [zbs _ hn] at hp';have:=hxv p hp';omega
    . rw [zav _ hn (qr hfn)] at hp';have:=hr.vers f p hp';omega
  . intro f v h0 h1;by_cases hc:f=s.n/\v=u
    . obtain ⟨rfl,rfl⟩:=hc;exact ⟨by omega,by simp only;omega,by simp only;omega,.inl (ei _)⟩
    . rw [Sg.add_other _ _ hc] at h1;exact absurd h0 h1
  . intro f v b o z h0 h1 hb;rcases hcase _ _ _ _ _ h1 with ⟨_,_,hb2⟩|⟨h3,_⟩
    . omega
    . rw [h0] at h3;simp at h3
theorem zo6 {w:World} {c:Array Value} {e:fc} {fr:Nat×Nat} (j:Nat):(w.alloc (.cells c e fr)).cell? ⟨w.heap.size,j,none⟩=c[j]?:=by
  rw [cell_of_row _ _ _ c e fr (heap_alloc_new w _)]
theorem zsv (w:World) (o:Obj) (k:Nat) (hk:k<w.heap.size):(w.alloc o).heap[k]?=w.heap[k]?:=Below.heap_alloc w o k hk
theorem zlt {σ:Sg} {V:Nat->Prop} {s s':CS} {w w0:World} {a:Addr} {tag:Nat} {cs:List Value} (h:s.newRow tag cs=some (a,s')) (hr:Rel σ V s w) (hF:zeq σ s.n s'.n) (ht:tag<1024)
    (hw00:w0.heap=w.heap/\Same w w0) (c:Array Value) (e:fc) (fr:Nat×Nat) (hfr:∀ j,j<c.size->¬ (fr.1<=j/\j<fr.2)) (cs' more:List Value) (hc:c.toList=cs'++more) (hl:RL (VR σ) cs cs') (hup:fr.1<=fr.2:=by first|decide|simp) :
    let σ':=σ.add s.n (s.n*1024+tag) (w.heap.size,0,c.size)
    a=mkA s.n (s.n*1024+tag) 0/\Can s s'/\Rel σ' V s' (w0.alloc (.cells c e fr))/\Ext σ V s w σ' s' (w0.alloc (.cells c e fr))/\σ' a.block (Addr.ver a)=some (w.heap.size,0,c.size):=by
  obtain ⟨hn,rfl,rfl⟩:=zv2 h;obtain ⟨hw0,hst⟩:=hw00;intro σ';have hF':∀ f v,(f=s.n\/v / 1024=s.n)->σ f v=none:=fun f v hv=>hF f v (by simp;omega);have hsz:w0.heap.size=w.heap.size:=by rw [hw0]
  have hx:zh8 σ' (w0.alloc (.cells c e fr)) s.n ⟨false,[(s.n*1024+tag,cs)],none,none⟩:=by
    refine ⟨?_,fun _=>⟨fun p hp=>by simp at hp,trivial⟩,fun es he=>by simp at he,fun L hL=>by simp at hL⟩;intro p hp b o z hσ;simp at hp;subst hp
    . have hσ':σ.add s.n (s.n*1024+tag) (w.heap.size,0,c.size) s.n (s.n*1024+tag)=some (b,o,z):=hσ;rw [Sg.add_same] at hσ';cases hσ'
      have hlen:cs.length+more.length=c.size:=by
        rw [hl.length,<- eu,<- hc,io]
      refine ⟨by simp only;omega,?_,?_,?_⟩
      . intro j hj;rw [<- hsz,zo6 j];simp [hj]
      . intro _;have hb:=heap_alloc_new w0 (.cells c e fr);refine ⟨fun j hj=>?_,fun c1 e1 lo hi k=>?_⟩
        case refine_2=>rw [<- hsz,hb] at k;cases k;exact hup
        unfold World.frozen?;rw [<- hsz,hb];have:=hfr j hj;obtain ⟨lo,hi⟩:=fr;simp only [Bool.and_eq_false_iff,decide_eq_false_iff_not];by_cases h1:lo<=j
        . exact .inr fun h2=>this ⟨h1,h2⟩
        . exact .inl h1
      . intro j u hj;obtain ⟨u',hu,hv⟩:=hl.at hj;refine ⟨u',?_,hv.mono (Sg.le_add (hF' _ _ (.inl rfl)))⟩;rw [<- hsz,f6,zo6 j,<- ja,hc,fk (et.1 hu).1];exact hu
  have:=yg0 (w':=w0.alloc (.cells c e fr)) hn hr hF' (u:=s.n*1024+tag) (by omega) (p:=(w.heap.size,0,c.size)) rfl hst (by simp [hsz]) (fun k hk=>by rw [zsv w0 _ k (by omega),hw0]) hx (by intro p hp;simp at hp;subst hp;simp;omega);exact ⟨rfl,zsg hn (by intro p hp;simp at hp;subst hp;simp;omega) rfl,this.1,this.2,Sg.add_same _ _ _ _⟩
theorem zg6 (b:Nat):∀ (vs:List Value) (o:Nat) (w:World) (k:Nat),k≠b->(w.setCells b o vs).heap[k]?=w.heap[k]?
  |[],_,_,_,_=>rfl
  |v :: r,o,w,k,h=>by
    rw [World.setCells,zg6 b r (o+1) _ k h];simp [World.setCell,Array.getElem?_modify,qr h]
theorem zhz (b:Nat):∀ (vs:List Value) (o:Nat) (w:World),(w.setCells b o vs).heap.size=w.heap.size
  |[],_,_=>rfl
  |v :: r,o,w=>by rw [World.setCells,zhz b r (o+1)];simp [World.setCell]
theorem zme (b:Nat):∀ (vs:List Value) (o:Nat) (w:World),Same w (w.setCells b o vs)
  |[],_,_=>Same.refl _
  |v :: r,o,w=>by
    rw [World.setCells];exact Same.trans (b:=w.setCell ⟨b,o,none⟩ v) ⟨rfl,rfl,rfl⟩ (zme b r (o+1) _)
theorem zqq {cs vs:List Value} {off:Nat} (h:off+vs.length<=cs.length):(splice cs off vs).length=cs.length:=by
  unfold splice;simp;omega
theorem zu1 {cs vs:List Value} {off:Nat} (h:off+vs.length<=cs.length) (j:Nat):(splice cs off vs)[j]?=if off<=j/\j<off+vs.length then vs[j - off]? else cs[j]?:=by
  unfold splice;rw [List.append_assoc];by_cases h1:j<off
  . rw [fk (by simp;omega),zAd (by omega),mi,zAc h1]
  . rw [gm (by simp;omega)];simp only [List.length_take];rw [show j - min off cs.length=j - off by omega];by_cases h2:j<off+vs.length
    . rw [zAc ⟨by omega,h2⟩,fk (by omega)]
    . rw [zAd (by omega),gm (by omega),js];congr 1;omega
theorem VR.one {σ:Sg} {v v':Value} (h:VR σ v v') (h1:oneC v=true):v'.oneCell'=true:=by
  have:=h.out
  cases v with
  |pointer a=>cases a with
    |none=>rw [this];rfl
    |some a=>obtain ⟨b,o,z,_,rfl⟩:=this;rfl
  |slice a n c=>cases a with
    |none=>obtain ⟨_,_,rfl⟩:=this;rfl
    |some a=>obtain ⟨b,o,z,_,a',c',rfl,_⟩:=this;rfl
  |map r=>cases r with
    |none=>rw [this];rfl
    |some r=>obtain ⟨b,o,z,_,rfl⟩:=this;rfl
  |func fn xs ys=>obtain ⟨_,_,_,rfl,_⟩:=this;rfl
  |iface t x=>obtain ⟨_,rfl,_⟩:=this;rfl
  |agg xs=>simp [oneC] at h1
  |tuple xs=>simp [oneC] at h1
  |bool a=>rw [this];rfl
  |int k n=>rw [this];rfl
  |string s=>rw [this];rfl
  |nilFunc=>rw [this];rfl
  |nilIface=>rw [this];rfl
  |float k b=>exact this.elim
  |complex k a b=>exact this.elim
  |chan r=>exact this.elim
theorem RL.one {σ:Sg} {l m:List Value} (h:RL (VR σ) l m) (h1:l.all oneC=true):∀ v∈m,v.oneCell'=true:=by
  intro v hv;obtain ⟨i,hi⟩:=List.mem_iff_getElem?.1 hv;have hlt:i<l.length:=by rw [h.length];exact (et.1 hi).1
  obtain ⟨y,hy,hr⟩:=h.at (ef hlt);rw [hi] at hy;cases hy;exact hr.one (by rw [fd] at h1;exact h1 _ (List.getElem_mem hlt))
theorem zkp {t:Sto} {i:Nat} (h:(zaa t i).ro=false):zis t i=true:=by
  cases t with
  |inr g=>rfl
  |inl t =>
  unfold zaa at h;simp only at h;rw [zcr] at h;split at h
  . rename_i k;exact k
  . simp at h
theorem zr1 {s s':CS} {a:Addr} {vs:List Value} (h:s.write a vs=some s') :
    ∃ cs,(zaa s.obj a.block).ro=false/\zcb (zaa s.obj a.block).rows (Addr.ver a)=some cs/\a.off+vs.length<=cs.length/\vs.all oneC=true /\
      s'={ s with obj:=zaw s.obj a.block ⟨false,[(Addr.ver a,splice cs a.off vs)],none,none⟩,wr:=ins s.lim s.wr a.block }:=by
  unfold CS.write at h
  cases hr:(zaa s.obj a.block).ro with
  |true=>rw [hr] at h;simp at h
  |false =>
    rw [hr] at h
    cases hc:zcb (zaa s.obj a.block).rows (Addr.ver a) with
    |none=>rw [hc] at h;simp at h
    |some cs =>
      rw [hc] at h;simp only at h;rw [zcr] at h;split at h
      . rename_i hb;rw [d8] at hb;simp at h;exact ⟨cs,rfl,rfl,zbk.1 hb.1,hb.2,h.symm⟩
      . simp at h
theorem zp3 {s s':CS} {f:Nat} {x:Fam} (hro:(zaa s.obj f).ro=false) (hx:x.ro=false) (hn:f<s.n) (m:Nat) (hm:s.n<=m) (hxv:(∀ f p,p∈(zaa s.obj f).rows->p.1 / 1024<s.n)->∀ p,p∈x.rows->p.1 / 1024<m) (hs:s'={ s with n:=m,obj:=zaw s.obj f x,wr:=ins s.lim s.wr f }):Can s s':=by
  have hlt:=zkp hro;subst hs;refine ⟨hm,rfl,fun _ h=>h,fun _ h=>zwe h,?_,?_,?_,?_,fun h g hg=>(zmm hg).elim (h g) (fun k=>k.2)⟩
  . intro g hg hl hw
    have:g≠f:=by
      rintro rfl;rcases zmn (lim:=s.lim) (l:=s.wr) (n:=g) with h|h
      . exact hw h
      . omega
    exact zav _ hlt (qr this)
  . intro g hg;show (zaa (zaw s.obj f x) g).ro=_;by_cases h:f=g
    . subst h;rw [zbs _ hlt,hx,hro]
    . rw [zav _ hlt h]
  . intro h g hg;show zaa (zaw s.obj f x) g=zd4;have:m<=g:=hg;rw [zav _ hlt (by omega)];exact h g (by omega)
  . intro h g p hp;show p.1 / 1024<m;have hp':p∈(zaa (zaw s.obj f x) g).rows:=hp;by_cases hfg:f=g
    . subst hfg;rw [zbs _ hlt] at hp';exact hxv h p hp'
    . rw [zav _ hlt hfg] at hp';have:=h g p hp';omega
theorem zz7 {σ:Sg} {V:Nat->Prop} {s:CS} {w:World} (hr:Rel σ V s w) {f:Nat} (h:(zaa s.obj f).ro=false):f<s.n:=by
  by_cases hn:f<s.n
  . exact hn
  . rw [hr.none f (by omega)] at h;simp [zd4] at h
theorem yd5 {σ:Sg} {V:Nat->Prop} {w:World} {s s':CS} {a:Addr} {vs:List Value} (hr:Rel σ V s w) (h:s.write a vs=some s'):Can s s':=by
  obtain ⟨cs,h1,h2,h3,_,h4⟩:=zr1 h;exact zp3 (x:=⟨false,[(Addr.ver a,splice cs a.off vs)],none,none⟩) h1 rfl (zz7 hr h1) s.n (ei _) (fun hv p hp=>by simp at hp;subst hp;have:=hv _ _ (zj4 h2);exact this) (by rw [h4])
theorem zvi {V:Nat->Prop} {s s':CS} (hV:zci V s') {f:Nat} (h:ins s.lim s.wr f=s'.wr) (hl:s'.lim=s.lim):V f:=by
  refine hV f ?_;rcases zmn (lim:=s.lim) (l:=s.wr) (n:=f) with k|k
  . exact .inr (.inl (by rw [<- h];exact k))
  . exact .inr (.inr (by rw [hl];exact k))
theorem zvp {σ σ':Sg} {V:Nat->Prop} {s:CS} {w w':World} {f:Nat} {x:Fam} {m:Nat} (wr:List Nat) (hr:Rel σ V s w) (hro:(zaa s.obj f).ro=false) (hm:s.n<=m)
    (hle:Sg.le σ σ') (hinj:∀ g u b o z g' u' o' z',σ' g u=some (b,o,z)->σ' g' u'=some (b,o',z')->g=g') (hlt:∀ g u b o z,σ' g u=some (b,o,z)->b<w'.heap.size)
    (hsame:∀ g u,g≠f->σ' g u=σ g u) (hblk:∀ g u b o z,g≠f->σ g u=some (b,o,z)->w'.heap[b]?=w.heap[b]?) (hx:zh8 σ' w' f x) (hxv:∀ p,p∈x.rows->p.1 / 1024<m) :
    Rel σ' V { s with n:=m,obj:=zaw s.obj f x,wr:=wr } w':=by
  have hf:=zkp hro;refine ⟨hinj,hlt,?_,?_,?_⟩
  . intro g hg;show zh8 σ' w' g (zaa (zaw s.obj f x) g);by_cases h:f=g
    . subst h;rw [zbs _ hf];exact hx
    . rw [zav _ hf h];exact (hr.fam g hg).move hle (fun u _=>hsame g u (qr h)) (fun u b o z k=>hblk g u b o z (qr h) k)
  . intro g hg;show zaa (zaw s.obj f x) g=zd4;have h1:m<=g:=hg;have h2:=zz7 hr hro;rw [zav _ hf (by omega)];exact hr.none g (by omega)
  . intro g p hp;show p.1 / 1024<m;have hp':p∈(zaa (zaw s.obj f x) g).rows:=hp;by_cases h:f=g
    . subst h;rw [zbs _ hf] at hp';exact hxv p hp'
    . rw [zav _ hf h] at hp';have:=hr.vers g p hp';omega
theorem zu6 (b:Nat):∀ (vs:List Value) (o:Nat) (w:World) (c:Array Value) (e:fc) (fr:Nat×Nat),(w.setCells b o vs).heap[b]?=some (.cells c e fr)->∃ c',w.heap[b]?=some (.cells c' e fr)
  |[],_,w,c,e,fr,h=>⟨c,h⟩
  |v :: r,o,w,c,e,fr,h=>by
    obtain ⟨c1,h1⟩:=zu6 b r _ _ c e fr h;unfold World.setCell at h1;simp only [Array.getElem?_modify,if_true] at h1
    cases hx:w.heap[b]? with
    |none=>rw [hx] at h1;simp at h1
    |some x =>
      rw [hx] at h1
      cases x with
      |cells c2 e2 fr2 =>
        simp only [ld,dy,Obj.cells.injEq] at h1;exact ⟨c2,by rw [h1.2.1,h1.2.2]⟩
      |_=>simp at h1
theorem Up.set {w:World} {b o:Nat} {vs:List Value} (h:Up w b):Up (w.setCells b o vs) b:=fun c e lo hi k=>let ⟨c',k'⟩:=zu6 b vs o w c e (lo,hi) k;h c' e lo hi k'
theorem z28 {σ:Sg} {V:Nat->Prop} {s s':CS} {w:World} {a:Addr} {vs vs':List Value} (h:s.write a vs=some s') (hr:Rel σ V s w) (hV:zci V s') {b o z:Nat} (hσ:σ a.block (Addr.ver a)=some (b,o,z)) (hl:RL (VR σ) vs vs') :
    let w':=w.setCells b (o+a.off) vs'
    (∀ j,j<vs'.length->(w.cell? ⟨b,o+a.off+j,none⟩).isSome=true)/\(∀ j,j<vs'.length->w.frozen? ⟨b,o+a.off+j,none⟩=false)/\(∀ v∈vs',v.oneCell'=true)/\Rel σ V s' w'/\Ext σ V s w σ s' w':=by
  obtain ⟨cs,h1,h2,h3,h5,rfl⟩:=zr1 h;intro w';have hVf:V a.block:=zvi hV rfl rfl;obtain ⟨r1,r2,r3,r4⟩:=(hr.fam _ hVf).rows _ (zj4 h2) b o z hσ;simp only at r1 r4;have r3':=r3 h1;have hlen:=hl.length;have hcell:∀ j,j<vs'.length->(w.cell? ⟨b,o+a.off+j,none⟩).isSome=true:=fun j hj=>r2 _ (by omega);have hw':∀ k,k≠b->w'.heap[k]?=w.heap[k]?:=fun k hk=>zg6 b _ _ _ k hk
  have hone:∀ g u b' o' z',g≠a.block->σ g u=some (b',o',z')->b'≠b:=by
    rintro g u b' o' z' hg hk rfl;exact hg (hr.inj _ _ _ _ _ _ _ _ _ hk hσ)
  refine ⟨hcell,fun j hj=>r3'.1 _ (by omega),hl.one h5,?_,?_⟩
  . refine zvp _ hr h1 (ei _) (fun _ _ _ h=>h) hr.inj (fun g u b' o' z' k=>by rw [zhz];exact hr.lt _ _ _ _ _ k) (fun _ _ _=>rfl) (fun g u b' o' z' hg k=>hw' b' (hone g u b' o' z' hg k)) ?_ ?_
    . refine ⟨?_,fun _=>⟨fun p hp=>by simp at hp,trivial⟩,fun es he=>by simp at he,fun L hL=>by simp at hL⟩;intro p hp b' o' z' hk;simp at hp;subst hp;rw [hσ] at hk;cases hk;refine ⟨by simp only;rw [zqq h3];exact r1,?_,?_,?_⟩
      . intro j hj;by_cases hin:o+a.off<=j/\j<o+a.off+vs'.length
        . have:=m5 b vs' (o+a.off) w hcell (j - (o+a.off)) (by omega);rw [show o+a.off+(j - (o+a.off))=j by omega] at this;rw [this];rfl
        . rw [l7 b vs' (o+a.off) w ⟨b,j,none⟩ (fun _ _=>by simp only;omega)];exact r2 j hj
      . intro _;refine ⟨fun j hj=>?_,r3'.2.set⟩;rw [World.frozen?_setCells];exact r3'.1 j hj
      . intro j u hj;simp only at hj;rw [zu1 h3] at hj;split at hj
        . rename_i hin;obtain ⟨u',hu,hv⟩:=hl.at hj;have hlt:=(et.1 hu).1;have:=m5 b vs' (o+a.off) w hcell (j - a.off) hlt;refine ⟨u',?_,hv⟩;rw [show o+j=o+a.off+(j - a.off) by omega,this];rw [ef hlt] at hu;exact hu
        . rename_i hout;obtain ⟨u',hu,hv⟩:=r4 j u hj;refine ⟨u',?_,hv⟩;rw [l7 b vs' (o+a.off) w ⟨b,o+j,none⟩ (fun _ _=>by simp only;omega)];exact hu
    . intro p hp;simp at hp;subst hp;have:=hr.vers _ _ (zj4 h2);exact this
  . refine ⟨fun _ _ _ h=>h,fun _ _ h k=>absurd h k,fun _ _ _ _ _ h k=>by rw [h] at k;simp at k,by rw [zhz];exact ei _,?_,zme b _ _ _⟩;intro k hk hq;refine hw' k ?_;rintro rfl;rcases hq _ _ _ _ hσ with h|h
    . exact h hVf
    . rw [h1] at h;simp at h
theorem zka:∀ {l:List (Nat×List Value)} {u:Nat} {cs:List Value},zcb l u=some cs->∃ r,zgw l u=(u,cs) :: r/\(∀ p,p∈zgw l u->p∈l)/\(∀ σ f,Desc σ f l->Desc σ f (zgw l u))
  |(v,c) :: l,u,cs,h=>by
    simp only [zcb] at h
    cases hb:er v u with
    |true =>
      rw [hb] at h;simp only [cond_true,dy] at h;have:=eg hb;subst this;subst h;have hd:zgw ((v,c) :: l) v=(v,c) :: l:=by simp only [zgw,hb,cond_true]
      rw [hd];exact ⟨l,rfl,fun p hp=>hp,fun σ f k=>k⟩
    |false =>
      rw [hb] at h;obtain ⟨r,h1,h2,h3⟩:=zka (l:=l) h;have hd:zgw ((v,c) :: l) u=zgw l u:=by simp only [zgw,hb,cond_false]
      rw [hd];exact ⟨r,h1,fun p hp=>ml _ (h2 p hp),fun σ f k=>h3 σ f k.2⟩
theorem znx {s s':CS} {a:Addr} {tag stop need:Nat} {cells:List Value} {v:Value} (h:s.grow a tag stop need cells=some (v,s')) :
    ∃ cs,(zaa s.obj a.block).ro=false/\zcb (zaa s.obj a.block).rows (Addr.ver a)=some cs/\stop=cs.length/\v=.slice (some (mkA a.block (s.n*1024+tag) 0)) need need /\
      s'={ s with n:=s.n+1,obj:=zaw s.obj a.block ⟨false,(s.n*1024+tag,cells) :: zgw (zaa s.obj a.block).rows (Addr.ver a),none,none⟩,wr:=ins s.lim s.wr a.block }:=by
  unfold CS.grow at h
  cases hr:(zaa s.obj a.block).ro with
  |true=>rw [hr] at h;simp at h
  |false =>
    rw [hr] at h
    cases hc:zcb (zaa s.obj a.block).rows (Addr.ver a) with
    |none=>rw [hc] at h;simp at h
    |some cs =>
      rw [hc] at h;simp only at h;rw [zcr] at h;split at h
      . rename_i hb;simp at h;exact ⟨cs,rfl,rfl,eg hb,h.1.symm,h.2.symm⟩
      . simp at h
theorem ylk {σ:Sg} {V:Nat->Prop} {w:World} {s s':CS} {a:Addr} {tag stop need:Nat} {cells:List Value} {v:Value} (hr:Rel σ V s w) (ht:tag<1024) (h:s.grow a tag stop need cells=some (v,s')):Can s s':=by
  obtain ⟨cs,h1,h2,_,_,h4⟩:=znx h;obtain ⟨_,_,d2,_⟩:=zka h2
  exact zp3 (x:=⟨false,(s.n*1024+tag,cells) :: zgw (zaa s.obj a.block).rows (Addr.ver a),none,none⟩) h1 rfl (zz7 hr h1) (s.n+1) (by omega) (fun hv p hp=>by
    rcases ic.1 hp with rfl|hp
    . simp only;omega
    . have:=hv _ p (d2 p hp);omega) (by rw [h4])
theorem yqk {σ:Sg} {V:Nat->Prop} {s s':CS} {w:World} {a:Addr} {tag need:Nat} {cs old new new':List Value} {v:Value} (h:s.grow a tag cs.length need (old++new)=some (v,s')) (hr:Rel σ V s w) (hV:zci V s') (hF:zeq σ s.n s'.n) (ht:tag<1024)
    {b o z:Nat} (hσ:σ a.block (Addr.ver a)=some (b,o,z)) (hc:zcb (zaa s.obj a.block).rows (Addr.ver a)=some cs) (hold:old=cs.drop a.off) (hoff:a.off<=cs.length) (hl:RL (VR σ) new new') (h5:new.all oneC=true) (hz:o+cs.length+new.length<=z) :
    let w':=w.setCells b (o+cs.length) new'
    let σ':=σ.add a.block (s.n*1024+tag) (b,o+a.off,z)
    v=.slice (some (mkA a.block (s.n*1024+tag) 0)) need need /\
    (∀ j,j<new'.length->(w.cell? ⟨b,o+cs.length+j,none⟩).isSome=true)/\(∀ j,j<new'.length->w.frozen? ⟨b,o+cs.length+j,none⟩=false)/\(∀ v∈new',v.oneCell'=true)/\Rel σ' V s' w'/\Ext σ V s w σ' s' w' /\
    σ' a.block (s.n*1024+tag)=some (b,o+a.off,z):=by
  obtain ⟨cs0,h1,h2,_,rfl,rfl⟩:=znx h;rw [hc] at h2;cases h2;intro w' σ';have hVf:V a.block:=zvi hV rfl rfl;have hF0:∀ f,σ f (s.n*1024+tag)=none:=fun f=>hF f _ (.inr (by simp only;omega));have hfam:=hr.fam _ hVf;obtain ⟨r1,r2,r3,r4⟩:=hfam.rows _ (zj4 hc) b o z hσ;simp only at r1 r4;have r3':=r3 h1;have hlen:=hl.length;have hcell:∀ j,j<new'.length->(w.cell? ⟨b,o+cs.length+j,none⟩).isSome=true:=fun j hj=>r2 _ (by omega);have hw':∀ k,k≠b->w'.heap[k]?=w.heap[k]?:=fun k hk=>zg6 b _ _ _ k hk;have hle:Sg.le σ σ':=Sg.le_add (hF0 _)
  have hcase:∀ f u p,σ' f u=some p->(f=a.block/\u=s.n*1024+tag/\p=(b,o+a.off,z))\/σ f u=some p:=by
    intro f u p k;by_cases hq:f=a.block/\u=s.n*1024+tag
    . obtain ⟨rfl,rfl⟩:=hq;have k':σ.add a.block (s.n*1024+tag) (b,o+a.off,z) a.block (s.n*1024+tag)=some p:=k;rw [Sg.add_same] at k';cases k';exact .inl ⟨rfl,rfl,rfl⟩
    . have k':σ.add a.block (s.n*1024+tag) (b,o+a.off,z) f u=some p:=k;rw [Sg.add_other _ _ hq] at k';exact .inr k'
  obtain ⟨rest,d1,d2,d3⟩:=zka hc;have hdesc:=d3 σ a.block (hfam.desc h1)
  -- an older version over the same block ends before what is written
  have hend:∀ p,p∈zgw (zaa s.obj a.block).rows (Addr.ver a)->∀ o' z',σ a.block p.1=some (b,o',z')->o'+p.2.length<=o+cs.length:=by
    intro p hp o' z' hk;rw [d1] at hp hdesc;rcases ic.1 hp with rfl|hp
    . rw [hσ] at hk;cases hk;exact ei _
    . exact hdesc.1 p hp b o z o' z' hσ hk
  have hout:∀ j,j<o+cs.length->w'.cell? ⟨b,j,none⟩=w.cell? ⟨b,j,none⟩:=fun j hj=>l7 b new' (o+cs.length) w ⟨b,j,none⟩ (fun _ _=>by simp only;omega)
  have hsome:∀ j,j<z->(w'.cell? ⟨b,j,none⟩).isSome=true:=by
    intro j hj;by_cases hin:o+cs.length<=j/\j<o+cs.length+new'.length
    . have:=m5 b new' (o+cs.length) w hcell (j - (o+cs.length)) (by omega);rw [show o+cs.length+(j - (o+cs.length))=j by omega] at this;show ((w.setCells b (o+cs.length) new').cell? _).isSome=true;rw [this];rfl
    . show ((w.setCells b (o+cs.length) new').cell? _).isSome=true;rw [l7 b new' (o+cs.length) w ⟨b,j,none⟩ (fun _ _=>by simp only;omega)];exact r2 j hj
  have hfz:∀ j,w'.frozen? ⟨b,j,none⟩=w.frozen? ⟨b,j,none⟩:=fun j=>World.frozen?_setCells b _ _ _ _
  have hvne:∀ p,p∈zgw (zaa s.obj a.block).rows (Addr.ver a)->p.1≠s.n*1024+tag:=by
    intro p hp hq;have:=hr.vers _ p (d2 p hp);omega
  refine ⟨rfl,hcell,fun j hj=>r3'.1 _ (by omega),hl.one h5,?_,?_,Sg.add_same _ _ _ _⟩
  . refine zvp _ hr h1 (by omega) hle ?_ ?_ (fun g u hg=>Sg.add_other _ _ (fun k=>hg k.1)) (fun g u b' o' z' hg k=>hw' b' ?_) ?_ ?_
    . intro g u b' o' z' g' u' o'' z'' k1 k2;rcases hcase _ _ _ k1 with ⟨rfl,rfl,e1⟩|k1<;>rcases hcase _ _ _ k2 with ⟨e2,e3,e4⟩|k2
      . exact e2.symm
      . cases e1;exact hr.inj _ _ _ _ _ _ _ _ _ hσ k2
      . cases e4;rw [e2];exact hr.inj _ _ _ _ _ _ _ _ _ k1 hσ
      . exact hr.inj _ _ _ _ _ _ _ _ _ k1 k2
    . intro g u b' o' z' k;rw [zhz];rcases hcase _ _ _ k with ⟨_,_,e⟩|k
      . cases e;exact hr.lt _ _ _ _ _ hσ
      . exact hr.lt _ _ _ _ _ k
    . rintro rfl;exact hg (hr.inj _ _ _ _ _ _ _ _ _ k hσ)
    . refine ⟨?_,fun _=>⟨?_,hdesc.move fun p hp=>Sg.add_other _ _ (fun k=>hvne p hp k.2)⟩,fun es he=>by simp at he,fun L hL=>by simp at hL⟩
      . intro p hp b' o' z' hk;rcases ic.1 hp with rfl|hp
        . have hk':σ.add a.block (s.n*1024+tag) (b,o+a.off,z) a.block (s.n*1024+tag)=some (b',o',z'):=hk;rw [Sg.add_same] at hk';cases hk';refine ⟨by simp only [hold,eu,ir];omega,hsome,fun _=>⟨fun j hj=>by rw [hfz];exact r3'.1 j hj,r3'.2.set⟩,?_⟩;intro j u hj;simp only [hold] at hj;by_cases hlt:j<cs.length - a.off
          . rw [fk (by simp;omega),js] at hj;obtain ⟨u',hu,hv⟩:=r4 _ _ hj;refine ⟨u',?_,hv.mono hle⟩;rw [hout _ (by omega),show o+a.off+j=o+(a.off+j) by omega];exact hu
          . rw [gm (by simp;omega)] at hj;simp only [ir] at hj;obtain ⟨u',hu,hv⟩:=hl.at hj;have hlt2:=(et.1 hu).1;have:=m5 b new' (o+cs.length) w hcell (j - (cs.length - a.off)) hlt2;refine ⟨u',?_,hv.mono hle⟩;rw [show o+a.off+j=o+cs.length+(j - (cs.length - a.off)) by omega];show (w.setCells b (o+cs.length) new').cell? _=_;rw [this];rw [ef hlt2] at hu;exact hu
        . have hk':σ a.block p.1=some (b',o',z'):=by
            rw [<- hk];exact (Sg.add_other _ _ (fun k=>hvne p hp k.2)).symm
          have old:=hfam.rows p (d2 p hp) b' o' z' hk';by_cases hbb:b'=b
          . subst hbb;obtain ⟨q1,q2,q3,q4⟩:=old;have he:=hend p hp o' z' hk'
            have hzz:∀ j,j<z'->(w'.cell? ⟨b',j,none⟩).isSome=true:=by
              intro j hj;by_cases hin:o+cs.length<=j/\j<o+cs.length+new'.length
              . exact hsome j (by omega)
              . show ((w.setCells b' (o+cs.length) new').cell? _).isSome=true;rw [l7 b' new' (o+cs.length) w ⟨b',j,none⟩ (fun _ _=>by simp only;omega)];exact q2 j hj
            refine ⟨q1,hzz,fun hr0=>⟨fun j hj=>by rw [hfz];exact (q3 h1).1 j hj,(q3 h1).2.set⟩,?_⟩;intro j u hj;obtain ⟨u',hu,hv⟩:=q4 j u hj;have hlt:=(et.1 hj).1;exact ⟨u',by rw [hout _ (by omega)];exact hu,hv.mono hle⟩
          . have:=(old.up hle).keep (hw' b' hbb);rw [h1] at this;exact this
      . intro p hp b' o' z' o'' z'' k1 k2;simp only at k1;have k1':σ.add a.block (s.n*1024+tag) (b,o+a.off,z) a.block (s.n*1024+tag)=some (b',o',z'):=k1;rw [Sg.add_same] at k1';cases k1'
        have k2':σ a.block p.1=some (b,o'',z''):=by
          rw [<- k2];exact (Sg.add_other _ _ (fun k=>hvne p hp k.2)).symm
        have:=hend p hp o'' z'' k2';simp only [hold,eu,ir];omega
    . intro p hp;rcases ic.1 hp with rfl|hp
      . simp only;omega
      . have:=hr.vers _ p (d2 p hp);omega
  . refine ⟨hle,?_,?_,by rw [zhz];exact ei _,?_,zme b _ _ _⟩
    . intro f u h0 hne;by_cases hq:f=a.block/\u=s.n*1024+tag
      . obtain ⟨rfl,rfl⟩:=hq;have:=zz7 hr h1;exact ⟨by omega,by simp only;omega,by simp only;omega,.inr hVf⟩
      . exfalso;apply hne;show σ.add a.block (s.n*1024+tag) (b,o+a.off,z) f u=none;rw [Sg.add_other _ _ hq];exact h0
    . intro f u b' o' z' h0 hs hb';rcases hcase _ _ _ hs with ⟨rfl,rfl,e⟩|k
      . cases e;exact ⟨_,_,_,hσ,hVf,h1⟩
      . rw [h0] at k;simp at k
    . intro k hk hq;refine hw' k ?_;rintro rfl;rcases hq _ _ _ _ hσ with h|h
      . exact h hVf
      . rw [h1] at h;simp at h
theorem ylj {σ:Sg} {V:Nat->Prop} {s s':CS} {w w0:World} {a:Addr} {tag stop need:Nat} {cells:List Value} {v:Value} (h:s.grow a tag stop need cells=some (v,s')) (hr:Rel σ V s w) (hV:zci V s') (hF:zeq σ s.n s'.n) (ht:tag<1024)
    (hw00:w0.heap=w.heap/\Same w w0) (c:Array Value) (e:fc) (cs' more:List Value) (hc:c.toList=cs'++more) (hl:RL (VR σ) cells cs') :
    let σ':=σ.add a.block (s.n*1024+tag) (w.heap.size,0,c.size)
    v=.slice (some (mkA a.block (s.n*1024+tag) 0)) need need/\Rel σ' V s' (w0.alloc (.cells c e (0,0)))/\Ext σ V s w σ' s' (w0.alloc (.cells c e (0,0)))/\σ' a.block (s.n*1024+tag)=some (w.heap.size,0,c.size):=by
  obtain ⟨cs,h1,h2,_,rfl,rfl⟩:=znx h;obtain ⟨hw0,hst⟩:=hw00;intro σ';have hVf:V a.block:=zvi hV rfl rfl;have hF0:∀ f,σ f (s.n*1024+tag)=none:=fun f=>hF f _ (.inr (by simp only;omega));have hfam:=hr.fam _ hVf;have hsz:w0.heap.size=w.heap.size:=by rw [hw0]
  have hle:Sg.le σ σ':=Sg.le_add (hF0 _);have hkeep:∀ k,k<w.heap.size->(w0.alloc (.cells c e (0,0))).heap[k]?=w.heap[k]?:=fun k hk=>by rw [zsv w0 _ k (by omega),hw0]
  have hcase:∀ f u b o z,σ' f u=some (b,o,z)->(f=a.block/\u=s.n*1024+tag/\b=w.heap.size/\o=0/\z=c.size)\/(σ f u=some (b,o,z)/\b<w.heap.size):=by
    intro f u b o z k;by_cases hq:f=a.block/\u=s.n*1024+tag
    . obtain ⟨rfl,rfl⟩:=hq;have k':σ.add a.block (s.n*1024+tag) (w.heap.size,0,c.size) a.block (s.n*1024+tag)=some (b,o,z):=k;rw [Sg.add_same] at k';cases k';exact .inl ⟨rfl,rfl,rfl,rfl,rfl⟩
    . have k':σ.add a.block (s.n*1024+tag) (w.heap.size,0,c.size) f u=some (b,o,z):=k;rw [Sg.add_other _ _ hq] at k';exact .inr ⟨k',hr.lt _ _ _ _ _ k'⟩
  obtain ⟨rest,d1,d2,d3⟩:=zka h2;have hdesc:=d3 σ a.block (hfam.desc h1)
  have hvne:∀ p,p∈zgw (zaa s.obj a.block).rows (Addr.ver a)->p.1≠s.n*1024+tag:=by
    intro p hp hq;have:=hr.vers _ p (d2 p hp);omega
  have hlen:cells.length+more.length=c.size:=by rw [hl.length,<- eu,<- hc,io]
  refine ⟨rfl,?_,?_,Sg.add_same _ _ _ _⟩
  . refine zvp _ hr h1 (by omega) hle ?_ ?_ (fun g u hg=>Sg.add_other _ _ (fun k=>hg k.1)) (fun g u b' o' z' _ k=>hkeep b' (hr.lt _ _ _ _ _ k)) ?_ ?_
    . intro g u b o z g' u' o' z' k1 k2;rcases hcase _ _ _ _ _ k1 with ⟨e1,_,hb,_⟩|⟨k1,hb⟩<;>rcases hcase _ _ _ _ _ k2 with ⟨e2,_,hb2,_⟩|⟨k2,hb2⟩
      . rw [e1,e2]
      . omega
      . omega
      . exact hr.inj _ _ _ _ _ _ _ _ _ k1 k2
    . intro g u b o z k;rw [show (w0.alloc (.cells c e (0,0))).heap.size=w.heap.size+1 by simp [hsz]];rcases hcase _ _ _ _ _ k with ⟨_,_,hb,_⟩|⟨_,hb⟩<;>omega
    . refine ⟨?_,fun _=>⟨?_,hdesc.move fun p hp=>Sg.add_other _ _ (fun k=>hvne p hp k.2)⟩,fun es he=>by simp at he,fun L hL=>by simp at hL⟩
      . intro p hp b o z hk;rcases ic.1 hp with rfl|hp
        . have hk':σ.add a.block (s.n*1024+tag) (w.heap.size,0,c.size) a.block (s.n*1024+tag)=some (b,o,z):=hk;rw [Sg.add_same] at hk';cases hk';refine ⟨by simp only;omega,?_,?_,?_⟩
          . intro j hj;rw [<- hsz,zo6 j];simp [hj]
          . intro _;have hb:=heap_alloc_new w0 (.cells c e (0,0));refine ⟨fun j hj=>?_,fun c1 e1 lo hi k=>?_⟩
            case refine_2=>rw [<- hsz,hb] at k;cases k;exact ei _
            unfold World.frozen?;rw [<- hsz,hb];simp
          . intro j u hj;obtain ⟨u',hu,hv⟩:=hl.at hj;refine ⟨u',?_,hv.mono hle⟩;rw [<- hsz,f6,zo6 j,<- ja,hc,fk (et.1 hu).1];exact hu
        . have hk':σ a.block p.1=some (b,o,z):=by
            rw [<- hk];exact (Sg.add_other _ _ (fun k=>hvne p hp k.2)).symm
          have:=((hfam.rows p (d2 p hp) b o z hk').up hle).keep (hkeep b (hr.lt _ _ _ _ _ hk'));rw [h1] at this;exact this
      . intro p hp b o z o' z' k1 k2;have k1':σ.add a.block (s.n*1024+tag) (w.heap.size,0,c.size) a.block (s.n*1024+tag)=some (b,o,z):=k1;rw [Sg.add_same] at k1';cases k1'
        have k2':σ a.block p.1=some (w.heap.size,o',z'):=by
          rw [<- k2];exact (Sg.add_other _ _ (fun k=>hvne p hp k.2)).symm
        have:=hr.lt _ _ _ _ _ k2';omega
    . intro p hp;rcases ic.1 hp with rfl|hp
      . simp only;omega
      . have:=hr.vers _ p (d2 p hp);omega
  . refine ⟨hle,?_,?_,by simp [hsz],fun k hk _=>hkeep k hk,hst⟩
    . intro f u h0 hne;by_cases hq:f=a.block/\u=s.n*1024+tag
      . obtain ⟨rfl,rfl⟩:=hq;have:=zz7 hr h1;exact ⟨by omega,by simp only;omega,by simp only;omega,.inr hVf⟩
      . exfalso;apply hne;show σ.add a.block (s.n*1024+tag) (w.heap.size,0,c.size) f u=none;rw [Sg.add_other _ _ hq];exact h0
    . intro f u b o z h0 hs hb;rcases hcase _ _ _ _ _ hs with ⟨_,_,e,_⟩|⟨k,_⟩
      . omega
      . rw [h0] at k;simp at k
theorem z4s {s s':CS} {v:Value} (h:mapC s=some (v,s')):zis s.obj s.n=true/\v=.map (some s.n)/\s'={ s with n:=s.n+1,obj:=zaw s.obj s.n ⟨false,[],some [],none⟩ }:=by
  unfold mapC at h;rw [zcr] at h;split at h
  . rename_i hn;simp at h;exact ⟨hn,h.1.symm,h.2.symm⟩
  . simp at h
theorem yk8 {σ:Sg} {V:Nat->Prop} {s s':CS} {w:World} {v:Value} (h:mapC s=some (v,s')) (hr:Rel σ V s w) (hF:zeq σ s.n s'.n) :
    let σ':=σ.add s.n (s.n*1024) (w.heap.size,0,0)
    v=.map (some s.n)/\Can s s'/\Rel σ' V s' (w.alloc (.map #[] 0))/\Ext σ V s w σ' s' (w.alloc (.map #[] 0))/\σ' s.n (s.n*1024)=some (w.heap.size,0,0):=by
  obtain ⟨hn,rfl,rfl⟩:=z4s h;intro σ';have hF':∀ f v,(f=s.n\/v / 1024=s.n)->σ f v=none:=fun f v hv=>hF f v (by simp;omega)
  have hx:zh8 σ' (w.alloc (.map #[] 0)) s.n ⟨false,[],some [],none⟩:=by
    refine ⟨fun p hp=>by simp at hp,fun _=>trivial,?_,fun L hL=>by simp at hL⟩;intro es he b o z hk;simp at he;subst he;have hk':σ.add s.n (s.n*1024) (w.heap.size,0,0) s.n (s.n*1024)=some (b,o,z):=hk;rw [Sg.add_same] at hk';cases hk';exact ⟨#[],0,heap_alloc_new w _,trivial,Born.empty⟩
  have:=yg0 (w':=w.alloc (.map #[] 0)) hn hr hF' (u:=s.n*1024) (by omega) (p:=(w.heap.size,0,0)) rfl ⟨rfl,rfl,rfl⟩ (by simp) (fun k hk=>zsv w _ k hk) hx (fun p hp=>by simp at hp);exact ⟨rfl,zsg hn (fun p hp=>by simp at hp) rfl,this.1,this.2,Sg.add_same _ _ _ _⟩
theorem zkn {s s':CS} {r:Nat} {es:List (Value×Value)} (h:s.readMap r=some (es,s')):(zaa s.obj r).es=some es/\s'={ s with rd:=ins s.lim s.rd r }:=by
  unfold CS.readMap at h
  cases hr:(zaa s.obj r).es with
  |none=>rw [hr] at h;simp at h
  |some c=>rw [hr] at h;simp at h;exact ⟨by rw [h.1],h.2.symm⟩
theorem zop {σ:Sg} {V:Nat->Prop} {s s':CS} {w:World} {r:Nat} {es:List (Value×Value)} (h:s.readMap r=some (es,s')) (hr:Rel σ V s w) (hV:zci V s') {b o z:Nat} (hσ:σ r (r*1024)=some (b,o,z)) :
    z6q σ w b es/\Can s s'/\Rel σ V s' w/\Ext σ V s w σ s' w:=by
  obtain ⟨h1,rfl⟩:=zkn h;refine ⟨(hr.fam r (hV _ ?_)).es es h1 b o z hσ,z2r s r,hr.log _,Ext.log _⟩;rcases zmn (lim:=s.lim) (l:=s.rd) (n:=r) with h|h
  . exact .inl h
  . exact .inr (.inr h)
theorem zsb {s s':CS} {r:Nat} {es':List (Value×Value)} (h:s.putEs r es'=some s'):(zaa s.obj r).ro=false /\
    s'={ s with obj:=zaw s.obj r ⟨false,[],some es',none⟩,wr:=ins s.lim s.wr r }:=by
  unfold CS.putEs at h;rw [zcr] at h;split at h
  . simp at h
  . rename_i hro;simp only [dy] at h;exact ⟨by simpa using hro,h.symm⟩
theorem yf5 {σ:Sg} {V:Nat->Prop} {s s':CS} {w:World} {r:Nat} {es':List (Value×Value)} (h:s.putEs r es'=some s') (hr:Rel σ V s w) (hVf:V r) {b o z:Nat} (hσ:σ r (r*1024)=some (b,o,z)) {ents:Array kc} {clock:Nat}
    (hel:EL (VR σ) es' ents.toList) (hbn:Born ents clock) :
    Can s s'/\Rel σ V s' { w with heap:=w.heap.setIfInBounds b (.map ents clock) }/\Ext σ V s w σ s' { w with heap:=w.heap.setIfInBounds b (.map ents clock) }:=by
  obtain ⟨h2,h3⟩:=zsb h;subst h3;have hblt:=hr.lt _ _ _ _ _ hσ;have hw':∀ k,k≠b->(({ w with heap:=w.heap.setIfInBounds b (.map ents clock) }:World).heap)[k]?=w.heap[k]?:=fun k hk=>by simp [Array.getElem?_setIfInBounds,qr hk]
  refine ⟨?_,?_,?_⟩
  . have:=zp3 (s':={ s with n:=s.n,obj:=zaw s.obj r ⟨false,[],some es',none⟩,wr:=ins s.lim s.wr r }) h2 rfl (zz7 hr h2) s.n (ei _) (fun _ p hp=>by simp at hp) rfl;exact this
  . have:=zvp (ins s.lim s.wr r) hr (w':={ w with heap:=w.heap.setIfInBounds b (.map ents clock) }) h2 (ei _) (fun _ _ _ h=>h) hr.inj (fun g u b' o' z' k=>by simp;exact hr.lt _ _ _ _ _ k) (fun _ _ _=>rfl)
      (fun g u b' o' z' hg k=>hw' b' (by rintro rfl;exact hg (hr.inj _ _ _ _ _ _ _ _ _ k hσ))) (x:=⟨false,[],some es',none⟩) ?_ (fun p hp=>by simp at hp)
    . exact ⟨this.inj,this.lt,this.fam,this.none,this.vers⟩
    . refine ⟨fun p hp=>by simp at hp,fun _=>trivial,?_,fun L hL=>by simp at hL⟩;intro es2 he b' o' z' hk;simp at he;subst he;rw [hσ] at hk;cases hk;exact ⟨ents,clock,by simp [hblt],hel,hbn⟩
  . refine ⟨fun _ _ _ h=>h,fun _ _ h k=>absurd h k,fun _ _ _ _ _ h k=>by rw [h] at k;simp at k,by simp,?_,⟨rfl,rfl,rfl⟩⟩;intro k hk hq;refine hw' k ?_;rintro rfl;rcases hq _ _ _ _ hσ with h|h
    . exact h hVf
    . rw [h2] at h;simp at h
structure TIOk (P:fe) (t:fc) (i:TI):Prop where
  und:P.underlying t=some i.desc
  info:∃ j z,P.info? t=some j/\j.size=i.size/\j.bytes=i.bytes/\j.zero=some z/\z.cells.toList=i.zero/\z9d i.desc z=true
  len:i.zero.length=i.size
  refl:∀ σ,RL (VR σ) i.zero i.zero
structure zei (P:fe) (Γ:Env):Prop where
  ti:∀ t i,Γ.ti.at t=some i->TIOk P t i
  fn:∀ f x,Γ.fn.at f=some x->P.funcs[f]?=some x
theorem zx8 {σ:Sg} {v:Value} (h:yka v=true):VR σ v v:=by
  unfold yka at h;split at h
  . exact VR.mk rfl
  . exact VR.mk ⟨rfl,rfl,rfl⟩
  . exact VR.mk rfl
  . exact VR.mk rfl
  . rename_i fn first captured
    simp at h;exact VR.mk ⟨_,first,captured,rfl,rfl,by rw [h.1];trivial,by rw [h.2];trivial⟩
  . exact zig 3 h
theorem yi4 (P:fe) (L:List Nat) (ax:Axs):zei P (zeh P L ax):=by
  refine ⟨fun t i h=>?_,fun f x h=>?_⟩
  case refine_2 =>
    have h1:=Tab.at_mk _ _ _ h;rw [zcr] at h1;split at h1
    . exact h1
    . simp at h1
  have h1:tiOf P t=some i:=Tab.at_mk _ _ _ h;unfold tiOf at h1
  cases hi:P.info? t with
  |none=>rw [hi] at h1;simp at h1
  |some j =>
    cases hu:P.underlying t with
    |none=>rw [hi,hu] at h1;simp at h1
    |some d =>
      rw [hi,hu] at h1;simp only at h1
      cases hz:j.zero with
      |none=>rw [hz] at h1;simp at h1
      |some z =>
        rw [hz] at h1;simp only at h1;rw [zcr] at h1;split at h1
        . rename_i hc;simp only [d8] at hc;simp only [dy] at h1;subst h1;refine ⟨hu,⟨j,z,hi,rfl,rfl,hz,rfl,hc.2.2⟩,eg hc.1,fun σ=>RL.of rfl fun i x y hx hy=>?_⟩;rw [hx] at hy;cases hy;exact zx8 (fd.1 hc.2.1 x (ij hx))
        . simp at h1
def DidV (σ:Sg) (V:Nat->Prop) (s:CS) (w:World) (m:Result Value) (v:Value) (s':CS):Prop :=
  ∃ σ' w' v',m=.ok v' w'/\VR σ' v v'/\Rel σ' V s' w'/\Ext σ V s w σ' s' w'
def Did (σ:Sg) (V:Nat->Prop) (s:CS) (w:World) (m:Result Next) (v:Value) (s':CS):Prop :=
  ∃ σ' w' nx v',m=.ok nx w'/\(nx=.value v'\/nx=.skip/\v'=undef)/\VR σ' v v'/\Rel σ' V s' w'/\Ext σ V s w σ' s' w'
theorem DidV.up {σ:Sg} {V:Nat->Prop} {P:fe} {s s':CS} {w:World} {m:Sem Value} {v:Value} (h:DidV σ V s w (m.run P w) v s'):Did σ V s w ((do pure (.value (<- m)):Sem Next).run P w) v s':=by
  obtain ⟨σ',w',v',h1,h2,h3,h4⟩:=h;refine ⟨σ',w',.value v',v',?_,.inl rfl,h2,h3,h4⟩;simp [h1,mc]
theorem Did.same {σ:Sg} {V:Nat->Prop} {s:CS} {w:World} {m:Result Next} {v v':Value} (hr:Rel σ V s w) (hm:m=.ok (.value v') w) (hv:VR σ v v'):Did σ V s w m v s :=
  ⟨σ,w,_,v',hm,.inl rfl,hv,hr,Ext.refl _ _ _ _⟩
theorem DidV.same {σ:Sg} {V:Nat->Prop} {s:CS} {w:World} {m:Result Value} {v v':Value} (hr:Rel σ V s w) (hm:m=.ok v' w) (hv:VR σ v v'):DidV σ V s w m v s :=
  ⟨σ,w,v',hm,hv,hr,Ext.refl _ _ _ _⟩
theorem VR.undef {σ:Sg}:VR σ undef undef:=VR.mk ⟨#[],rfl,trivial⟩
theorem VR.cells {σ:Sg} {v v':Value} (h:VR σ v v'):RL (VR σ) v.cells.toList v'.cells.toList:=by
  have:=h.out
  cases v with
  |agg xs=>obtain ⟨xs',rfl,hl⟩:=this;exact hl
  |pointer a=>cases a with
    |none=>rw [this];exact ⟨this ▸ h,trivial⟩
    |some a=>obtain ⟨b,o,z,_,rfl⟩:=this;exact ⟨h,trivial⟩
  |slice a n c=>cases a with
    |none=>obtain ⟨_,_,rfl⟩:=this;exact ⟨h,trivial⟩
    |some a=>obtain ⟨b,o,z,_,a',c',rfl,_⟩:=this;exact ⟨h,trivial⟩
  |map r=>cases r with
    |none=>rw [this];exact ⟨this ▸ h,trivial⟩
    |some r=>obtain ⟨b,o,z,_,rfl⟩:=this;exact ⟨h,trivial⟩
  |func fn xs ys=>obtain ⟨_,_,_,rfl,_⟩:=this;exact ⟨h,trivial⟩
  |iface t x=>obtain ⟨_,rfl,_⟩:=this;exact ⟨h,trivial⟩
  |tuple xs=>obtain ⟨_,rfl,_⟩:=this;exact ⟨h,trivial⟩
  |bool a=>rw [this];exact ⟨this ▸ h,trivial⟩
  |int k n=>rw [this];exact ⟨this ▸ h,trivial⟩
  |string s=>rw [this];exact ⟨this ▸ h,trivial⟩
  |nilFunc=>rw [this];exact ⟨this ▸ h,trivial⟩
  |nilIface=>rw [this];exact ⟨this ▸ h,trivial⟩
  |float k b=>exact this.elim
  |complex k a b=>exact this.elim
  |chan r=>exact this.elim
theorem VR.ptr {σ:Sg} {a:Addr} {v:Value} (h:VR σ (.pointer (some a)) v):∃ b o z,σ a.block (Addr.ver a)=some (b,o,z)/\v=.pointer (some ⟨b,o+a.off,none⟩):=h.out
theorem VR.ofPtr {σ:Sg} {a:Addr} {b o z:Nat} (h:σ a.block (Addr.ver a)=some (b,o,z)):VR σ (.pointer (some a)) (.pointer (some ⟨b,o+a.off,none⟩)):=VR.mk ⟨b,o,z,h,rfl⟩
theorem VR.int {σ:Sg} {k:gl} {n:Int} {v:Value} (h:VR σ (.int k n) v):v=.int k n:=h.out
theorem VR.str {σ:Sg} {b:ByteArray} {v:Value} (h:VR σ (.string b) v):v=.string b:=h.out
theorem VR.bool {σ:Sg} {b:Bool} {v:Value} (h:VR σ (.bool b) v):v=.bool b:=h.out
theorem VR.ofInt {σ:Sg} (k:gl) (n:Int):VR σ (.int k n) (.int k n):=VR.mk rfl
theorem VR.ofBool {σ:Sg} (b:Bool):VR σ (.bool b) (.bool b):=VR.mk rfl
theorem VR.ofStr {σ:Sg} (b:ByteArray):VR σ (.string b) (.string b):=VR.mk rfl
theorem VR.agg {σ:Sg} {xs:Array Value} {v:Value} (h:VR σ (.agg xs) v):∃ xs',v=.agg xs'/\RL (VR σ) xs.toList xs'.toList:=h.out
theorem VR.ofAgg {σ:Sg} {xs ys:List Value} (h:RL (VR σ) xs ys):VR σ (.agg xs.toArray) (.agg ys.toArray):=VR.mk ⟨ys.toArray,rfl,by simpa using h⟩
theorem zlu {v:Value} {n:Nat} (h:zgv v=some n):∃ k,v=.int k (n:Int):=by
  unfold zgv at h;split at h
  . rename_i k m;simp at h;subst h;exact ⟨k,rfl⟩
  . simp at h
section
variable {P:fe} {Γ:Env} {σ:Sg} {V:Nat->Prop} {s s':CS} {w:World}
theorem TIOk.size {t:fc} {i:TI} (h:TIOk P t i):(P.info? t).map (·.size)=some i.size:=by
  obtain ⟨j,z,h1,h2,_⟩:=h.info;rw [h1];simp [h2]
theorem zy3 {t:fc} {i:TI} (h:TIOk P t i) (w:World):(isAgg t).run P w=.ok (aggT i.desc) w:=by
  unfold isAgg;rw [ni,fi h.und];simp only [mc];cases i.desc<;>rfl
theorem zel {t:fc} {i:TI} (h:TIOk P t i) (w:World):(sizeOf t).run P w=.ok i.size w:=by
  obtain ⟨j,z,h1,h2,_⟩:=h.info;simp [sizeOf,typeInfo,h1,h2]
theorem z3s {t:fc} {i:TI} (h:TIOk P t i):∃ z,z.cells.toList=i.zero/\z9d i.desc z=true/\∀ w,(zeroValue t).run P w=.ok z w:=by
  obtain ⟨j,z,h1,_,_,h4,h5,h6⟩:=h.info;exact ⟨z,h5,h6,fun w=>by simp [zeroValue,typeInfo,h1,h4]⟩
theorem yc2 {i:TI} {t:fc} (hi:TIOk P t i) {cs:List Value} {xs:Array Value} {off:Nat} {v:Value} (h:zvu i cs off=some v) (hl:RL (VR σ) cs xs.toList):∃ v',(part t xs off).run P w=.ok v' w/\VR σ v v':=by
  unfold zvu at h;unfold part;simp only [ni,zy3 hi,mc]
  cases ha:aggT i.desc with
  |true =>
    rw [ha] at h;simp only [cond_true] at h
    cases hc:cut cs off i.size with
    |none=>rw [hc] at h;simp at h
    |some l =>
      rw [hc] at h;simp only [dy] at h;subst h;unfold cut at hc;dsimp only at hc
      cases hb:er ((cs.drop off).take i.size).length i.size with
      |false=>rw [hb] at hc;simp at hc
      |true =>
        rw [hb] at hc;simp only [cond_true,dy] at hc;subst hc;refine ⟨.agg (xs.extract off (off+i.size)),by simp [zel hi],?_⟩
        have:xs.extract off (off+i.size)=((xs.toList.drop off).take i.size).toArray:=by
          apply lw.1;rw [Array.toList_extract,List.extract_eq_take_drop];simp
        rw [this];exact VR.ofAgg ((hl.drop off).take i.size)
  |false =>
    rw [ha] at h;simp only [cond_false] at h;obtain ⟨v',hv,hR⟩:=hl.at h;refine ⟨v',?_,hR⟩;rw [ja] at hv;simp [hv]
theorem zv7 (hE:zei P Γ) (hr:Rel σ V s w) {t:fc} {i:TI} {a:Addr} {v:Value} (hi:Γ.ti.at t=some i) (h:s.loadVar i a=some (v,s')) (hV:zci V s') {b o z:Nat} (hσ:σ a.block (Addr.ver a)=some (b,o,z)) :
    ∃ v',(loadVar t ⟨b,o+a.off,none⟩).run P w=.ok v' w/\VR σ v v'/\Rel σ V s' w/\Ext σ V s w σ s' w:=by
  unfold CS.loadVar at h
  cases hq:s.readRow a with
  |none=>rw [hq] at h;simp at h
  |some p =>
    obtain ⟨cs,s1⟩:=p;rw [hq] at h;simp only at h
    cases hp:zvu i cs a.off with
    |none=>rw [hp] at h;simp at h
    |some v1 =>
      rw [hp] at h;simp only [dy,ec] at h;obtain ⟨rfl,rfl⟩:=h;have hrow:=z91 hq hr hV hσ;have hti:=hE.ti _ _ hi
      suffices hs:∃ v',(loadVar t ⟨b,o+a.off,none⟩).run P w=.ok v' w/\VR σ v1 v' by
        obtain ⟨v',h1,h2⟩:=hs;exact ⟨v',h1,h2,z1s hq hr,z92 hq⟩
      unfold loadVar;simp only [ni,zy3 hti,mc];unfold zvu at hp
      cases ha:aggT i.desc with
      |true =>
        rw [ha] at hp;simp only [cond_true] at hp
        cases hc:cut cs a.off i.size with
        |none=>rw [hc] at hp;simp at hp
        |some l =>
          rw [hc] at hp;simp only [dy] at hp;subst hp;obtain ⟨l',e1,e2,e3⟩:=hrow.part hc;have:=run_loadCells_list (P:=P) w ⟨b,o+a.off,none⟩ l' (fun j v hj=>by rw [mo];exact e2 j v hj);rw [e1] at this;exact ⟨.agg l'.toArray,by simp [ni,zel hti,this],VR.ofAgg e3⟩
      |false =>
        rw [ha] at hp;simp only [cond_false] at hp;obtain ⟨u',hu,hv⟩:=hrow.2.2.2 _ _ hp;refine ⟨u',?_,hv⟩;simp [run_load,hu]
theorem z72 (hE:zei P Γ) (hr:Rel σ V s w) {t:fc} {i:TI} {a:Addr} {v:Value} (hi:Γ.ti.at t=some i) (h:s.loadVar i a=some (v,s')) (hV:zci V s') {b o z:Nat} (hσ:σ a.block (Addr.ver a)=some (b,o,z)) :
    DidV σ V s w ((loadVar t ⟨b,o+a.off,none⟩).run P w) v s':=⟨σ,w,zv7 hE hr hi h hV hσ⟩
end
section
variable {P:fe} {Γ:Env} {σ:Sg} {V:Nat->Prop} {s s':CS} {w:World} {v:Value}
theorem zj5 {x:Option Value} (h:retC s x=some (v,s')):x=some v/\s'=s:=by
  unfold retC at h
  cases x with
  |none=>simp at h
  |some y=>simp at h;exact ⟨by rw [h.1],h.2.symm⟩
theorem ykt (hr:Rel σ V s w) {a b c a' b' c':Value} (h:zs9 s a b c=some (v,s')) (ha:VR σ a a') (hb:VR σ b b') (hc:VR σ c c'):Did σ V s w ((do pure (.value (if <- asBool c' then a' else b')):Sem Next).run P w) v s':=by
  unfold zs9 at h;split at h
  . rename_i t;simp only [dy,ec] at h;obtain ⟨rfl,rfl⟩:=h;rw [hc.bool];cases t
    . exact Did.same hr (by simp [asBool]) hb
    . exact Did.same hr (by simp [asBool]) ha
  . simp at h
theorem zvt {x:Option (Addr×CS)} (h:ptrC x=some (v,s')):∃ a,x=some (a,s')/\v=.pointer (some a):=by
  unfold ptrC at h
  cases x with
  |none=>simp at h
  |some p=>obtain ⟨a,s1⟩:=p;simp at h;exact ⟨a,by rw [h.2],h.1.symm⟩
theorem zj3 {x:Option (Addr×CS)} {len cap:Nat} (h:zja len cap x=some (v,s')):∃ a,x=some (a,s')/\v=.slice (some a) len cap:=by
  unfold zja at h
  cases x with
  |none=>simp at h
  |some p=>obtain ⟨a,s1⟩:=p;simp at h;exact ⟨a,by rw [h.2],h.1.symm⟩
theorem zze (hr:Rel σ V s w) (hF:zeq σ s.n s'.n) {cs:List Value} {x:Value} {t:fc} (h:ptrC (s.newRow 0 cs)=some (v,s')) (hx:RL (VR σ) cs x.cells.toList):DidV σ V s w ((do pure (.pointer (some (<- newVar t x))):Sem Value).run P w) v s':=by
  obtain ⟨a,h1,rfl⟩:=zvt h;obtain ⟨rfl,_,h3,h4,h5⟩:=zlt (w0:=w) h1 hr hF (by decide) ⟨rfl,rfl,rfl,rfl⟩ x.cells t (0,0) (by intro j _;simp) x.cells.toList [] (by simp) hx;refine ⟨_,_,.pointer (some ⟨w.heap.size,0,none⟩),?_,VR.ofPtr h5,h3,h4⟩;simp [newVar,newRow]
theorem yj0 (hE:zei P Γ) (hr:Rel σ V s w) (hF:zeq σ s.n s'.n) {e:fc} (h:zk6 Γ s e=some (v,s')):DidV σ V s w ((Instr.alloc e true (.tuple #[])).run P w) v s':=by
  unfold zk6 at h
  cases hi:Γ.ti.at e with
  |none=>rw [hi] at h;simp at h
  |some i =>
    rw [hi] at h;simp only at h;have hti:=hE.ti _ _ hi;obtain ⟨z,hz1,_,hz2⟩:=z3s hti;have:=zze (P:=P) (t:=e) (x:=z) hr hF h (by rw [hz1];exact hti.refl σ);unfold Instr.alloc;simp only [ni,hz2,mc];simpa using this
theorem yq8 (hr:Rel σ V s w) (hF:zeq σ s.n s'.n) {e:fc} {x x':Value} (h:ptrC (s.newRow 0 x.cells.toList)=some (v,s')) (hx:VR σ x x'):DidV σ V s w ((Instr.box e x').run P w) v s' :=
  zze (P:=P) (t:=e) hr hF h hx.cells
theorem yk9 (hE:zei P Γ) (hr:Rel σ V s w) (hV:zci V s') {t:fc} {x x':Value} (h:zpj Γ s t x=some (v,s')) (hx:VR σ x x'):DidV σ V s w ((Instr.loadAt t x').run P w) v s':=by
  unfold zpj at h;split at h
  . rename_i a
    cases hi:Γ.ti.at t with
    |none=>rw [hi] at h;simp at h
    |some i =>
      rw [hi] at h;obtain ⟨b,o,z,h1,rfl⟩:=hx.ptr;have:=z72 hE hr hi h hV h1;unfold Instr.loadAt;simpa [pa] using this
  . simp at h
theorem yex (hE:zei P Γ) (hr:Rel σ V s w) (hV:zci V s') {t:fc} {x x' y y':Value} (h:zk4 Γ s t y.cells.toList x=some (v,s')) (hx:VR σ x x') (hy:VR σ y y'):Did σ V s w ((do Instr.storeAt t x' y';pure .skip:Sem Next).run P w) v s':=by
  unfold zk4 at h;split at h
  . rename_i a
    cases hi:Γ.ti.at t with
    |none=>rw [hi] at h;simp at h
    |some i =>
      rw [hi] at h;simp only at h
      cases hb:er y.cells.toList.length i.size with
      |false=>rw [hb] at h;simp at h
      |true =>
        rw [hb] at h;simp only [cond_true] at h
        cases hw:s.write a y.cells.toList with
        |none=>rw [hw] at h;simp [zw8] at h
        |some s1 =>
          rw [hw] at h;simp only [zw8,dy,ec] at h;obtain ⟨rfl,rfl⟩:=h;obtain ⟨b,o,z,h1,rfl⟩:=hx.ptr;have hl:=hy.cells;obtain ⟨e1,e2,e3,e4,e5⟩:=z28 hw hr hV h1 hl;have hlen:y'.cells.size=i.size:=by rw [<- io,<- hl.length];exact eg hb
          have hst:=run_storeCells_cells (P:=P) b (o+a.off) y'.cells.toList 0 w (by simpa using e1) (by simpa using e2) e3;refine ⟨σ,_,.skip,undef,?_,.inr ⟨rfl,rfl⟩,VR.undef,e4,e5⟩;simp only [Nat.add_zero] at hst;simp [Instr.storeAt,pa,storeVar,zel (hE.ti _ _ hi),hlen,hst]
  . simp at h
theorem z2c (hE:zei P Γ) (hr:Rel σ V s w) {t:fc} {k:Nat} {x x':Value} (h:zdg Γ s t k x=some (v,s')) (hx:VR σ x x'):DidV σ V s w ((Instr.fieldAt t x' k).run P w) v s':=by
  unfold zdg at h;split at h
  . rename_i a
    cases hi:Γ.ti.at t with
    |none=>rw [hi] at h;simp at h
    |some i =>
      rw [hi] at h;simp only at h;split at h
      . rename_i fs hd;have hu:=(hE.ti _ _ hi).und;rw [hd] at hu
        cases hp:zex Γ fs k with
        |none=>rw [hp] at h;simp at h
        |some p =>
          obtain ⟨off,size⟩:=p;rw [hp] at h;simp only at h
          cases hb:er size 0 with
          |true=>rw [hb] at h;simp at h
          |false =>
            rw [hb] at h;simp only [cond_false,dy,ec] at h;obtain ⟨rfl,rfl⟩:=h;have hs0:size≠0:=by rintro rfl;simp at hb
            unfold zex at hp
            cases hf:fs[k]? with
            |none=>rw [hf] at hp;simp at hp
            |some f =>
              rw [hf] at hp;simp only at hp
              cases hj:Γ.ti.at f.type with
              |none=>rw [hj] at hp;simp at hp
              |some j =>
                rw [hj] at hp;simp only [dy,ec] at hp;obtain ⟨rfl,rfl⟩:=hp;obtain ⟨b,o,z,hσ,rfl⟩:=hx.ptr;have:VR σ (.pointer (some (Addr.plus a f.offset))) (.pointer (some ⟨b,o+(a.off+f.offset),none⟩)):=VR.mk ⟨b,o,z,hσ,rfl⟩;refine DidV.same hr ?_ this;simp [Instr.fieldAt,fi hu,hf,pa,fieldPlace,zel (hE.ti _ _ hj),hs0,mo,nr]
      . simp at h
  . simp at h
end
section
variable {P:fe} {Γ:Env} {σ:Sg} {V:Nat->Prop} {s s':CS} {w:World} {v:Value}
theorem zoj {size k n:Nat} {a:Addr} (h:ztt s size k n a=some (v,s')):k<n/\v=.pointer (some (Addr.plus a (k*size)))/\s'=s:=by
  unfold ztt at h
  cases hb:fw k n with
  |false=>rw [hb] at h;simp at h
  |true=>rw [hb] at h;simp at h;exact ⟨zaf.1 hb,h.1.symm,h.2.symm⟩
theorem z16 (hE:zei P Γ) (hr:Rel σ V s w) {t:fc} {x x' y y':Value} (h:zb5 Γ s t x (zgv y)=some (v,s')) (hx:VR σ x x') (hy:VR σ y y'):DidV σ V s w ((Instr.indexAt t x' y').run P w) v s':=by
  unfold zb5 at h
  cases hi:Γ.ti.at t with
  |none=>rw [hi] at h;simp at h
  |some i =>
    cases hk:zgv y with
    |none=>rw [hi,hk] at h;simp at h
    |some k =>
      rw [hi,hk] at h;simp only at h;obtain ⟨kk,rfl⟩:=zlu hk;obtain rfl:=hy.int;have hti:=hE.ti _ _ hi;split at h
      . rename_i a;split at h
        . rename_i n e hd;have hu:=hti.und;rw [hd] at hu
          cases hj:Γ.ti.at e with
          |none=>rw [hj] at h;simp at h
          |some j =>
            rw [hj] at h;obtain ⟨h1,rfl,rfl⟩:=zoj h;obtain ⟨b,o,z,hσ,rfl⟩:=hx.ptr;have:VR σ (.pointer (some (Addr.plus a (k*j.size)))) (.pointer (some ⟨b,o+(a.off+k*j.size),none⟩)):=VR.mk ⟨b,o,z,hσ,rfl⟩;refine DidV.same hr ?_ this;simp [Instr.indexAt,asIntOf,fi hu,pa,zel (hE.ti _ _ hj),h1,mo,nr]
        . simp at h
      . rename_i a n c;split at h
        . rename_i e hd;have hu:=hti.und;rw [hd] at hu
          cases hj:Γ.ti.at e with
          |none=>rw [hj] at h;simp at h
          |some j =>
            rw [hj] at h;obtain ⟨h1,rfl,rfl⟩:=zoj h;obtain ⟨b,o,z,hσ,a',c',rfl,h3,h4,h5,h6,_⟩:=hx.out;have:=h6 (by omega);subst this;have:VR σ (.pointer (some (Addr.plus a (k*j.size)))) (.pointer (some ⟨b,o+(a.off+k*j.size),none⟩)):=VR.mk ⟨b,o,z,hσ,rfl⟩;refine DidV.same hr ?_ this;simp [Instr.indexAt,asIntOf,fi hu,zel (hE.ti _ _ hj),h1,mo,nr]
        . simp at h
      . simp at h
theorem yhq (hE:zei P Γ) (hr:Rel σ V s w) {t:fc} {x x' y y':Value} (h:zk5 Γ s t x (zgv y)=some (v,s')) (hx:VR σ x x') (hy:VR σ y y'):DidV σ V s w ((Instr.index t x' y').run P w) v s':=by
  unfold zk5 at h
  cases hi:Γ.ti.at t with
  |none=>rw [hi] at h;simp at h
  |some i =>
    cases hk:zgv y with
    |none=>rw [hi,hk] at h;simp at h
    |some k =>
      rw [hi,hk] at h;simp only at h;obtain ⟨kk,rfl⟩:=zlu hk;obtain rfl:=hy.int;have hti:=hE.ti _ _ hi;split at h
      . rename_i cs;split at h
        . rename_i n e hd;have hu:=hti.und;rw [hd] at hu
          cases hj:Γ.ti.at e with
          |none=>rw [hj] at h;simp at h
          |some j =>
            rw [hj] at h;simp only at h
            cases hb:fw k n with
            |false=>rw [hb] at h;simp at h
            |true =>
              rw [hb] at h;obtain ⟨hp,rfl⟩:=zj5 h;obtain ⟨xs',rfl,hl⟩:=hx.agg;obtain ⟨v',h1,h2⟩:=yc2 (P:=P) (w:=w) (hE.ti _ _ hj) hp hl;refine DidV.same hr ?_ h2;have hkn:=zaf.1 hb;simp [Instr.index,asIntOf,fi hu,zel (hE.ti _ _ hj),hkn,h1]
        . simp at h
      . rename_i b;split at h
        . rename_i hd;have hu:=hti.und;rw [hd] at hu
          cases hc:b.data.toList[k]? with
          |none=>rw [hc] at h;simp at h
          |some c =>
            rw [hc] at h;simp only [dy,ec] at h;obtain ⟨rfl,rfl⟩:=h;obtain rfl:=hx.str;refine DidV.same hr ?_ (VR.ofInt _ _)
            have hlt:k<b.data.size:=by
              have:=(et.1 hc).1
              rwa [io] at this
            have hbk:b[k]?=some c:=by
              rw [ja] at hc;have h1:b[k]?=some b[k]:=getElem?_pos b k hlt;rw [h1];have h2:b.data[k]?=some b.data[k]:=jq hlt;rw [h2] at hc;exact hc
            simp [Instr.index,asIntOf,fi hu,hbk]
        . simp at h
      . simp at h
theorem z8g (hr:Rel σ V s w) {k:Nat} {x x':Value} (h:zgu s k x=some (v,s')) (hx:VR σ x x'):DidV σ V s w ((Instr.extract x' k).run P w) v s':=by
  unfold zgu at h;split at h
  . rename_i vs;obtain ⟨hp,rfl⟩:=zj5 h;obtain ⟨xs',rfl,hl⟩:=hx.out;obtain ⟨v',h1,h2⟩:=hl.at hp;refine DidV.same hr ?_ h2;rw [ja] at h1;simp [Instr.extract,h1]
  . simp at h
def zm3 (x:Option Value) (d n:Nat):Prop:=(x=none/\n=d)\/∃ k,x=some (.int k (n:Int))
theorem zms {len cap l h m:Nat} {lo hi mx:Option Value} (hb:zd5 len cap lo hi mx=some (l,h,m)) :
    zm3 lo 0 l/\zm3 hi len h/\zm3 mx cap m/\l<=h/\h<=m/\m<=cap/\(mx=none\/hi≠none):=by
  have one:∀ (x:Option Value) (d n:Nat),(match x with|some v=>zgv v|none=>some d)=some n->zm3 x d n:=by
    intro x d n hx
    cases x with
    |none=>simp at hx;exact .inl ⟨rfl,hx.symm⟩
    |some y=>obtain ⟨k,hk⟩:=zlu hx;exact .inr ⟨k,by rw [hk]⟩
  unfold zd5 at hb;split at hb
  . rename_i m' h' l' e1 e2 e3
    cases hc:(gj l' h' && gj h' m' && gj m' cap && (mx.isNone || hi.isSome)) with
    |false=>rw [hc] at hb;simp at hb
    |true =>
      rw [hc] at hb;simp only [cond_true,dy,ec] at hb;obtain ⟨rfl,rfl,rfl⟩:=hb;simp only [d8] at hc;refine ⟨one _ _ _ e3,one _ _ _ e2,one _ _ _ e1,zbk.1 hc.1.1.1,zbk.1 hc.1.1.2,zbk.1 hc.1.2,?_⟩;cases mx<;>cases hi<;>simp_all
  . simp at hb
theorem zm3.rel {x x':Option Value} {d n:Nat} (h:zm3 x d n) (hx:match x,x' with|none,none=>True|some a,some b=>VR σ a b|_,_=>False):zm3 x' d n:=by
  rcases h with ⟨rfl,rfl⟩|⟨k,rfl⟩
  . cases x' with
    |none=>exact .inl ⟨rfl,rfl⟩
    |some y=>exact hx.elim
  . cases x' with
    |none=>exact hx.elim
    |some y=>exact .inr ⟨k,by rw [VR.int (hx:VR σ _ _)]⟩
theorem zon {len cap' l h m:Nat} {lo hi mx:Option Value} (b:Bool) (h1:zm3 lo 0 l) (h2:zm3 hi len h) (h3:mx=none/\m=cap'\/∃ k,mx=some (.int k (m:Int))) (h4:l<=h) (h5:h<=m) (h6:m<=cap') (h7:mx=none\/hi≠none) (w:World) :
    (Instr.sliceBounds b len cap' lo hi mx).run P w=.ok (l,h,m) w:=by
  have h8:h<=cap':=kh h5 h6
  rcases h1 with ⟨rfl,rfl⟩|⟨k1,rfl⟩<;>rcases h2 with ⟨rfl,rfl⟩|⟨k2,rfl⟩<;>rcases h3 with ⟨rfl,rfl⟩|⟨k3,rfl⟩ <;>
    first | (exfalso;rcases h7 with h7|h7<;>simp at h7;done) | (simp [Instr.sliceBounds,Instr.sliceBound,asIntOf,h4,h5,h6,h8])
def OptR (σ:Sg):Option Value->Option Value->Prop
  |none,none=>True
  |some a,some b=>VR σ a b
  |_,_=>False
theorem zm3.rel' {x x':Option Value} {d n:Nat} (h:zm3 x d n) (hx:OptR σ x x'):zm3 x' d n:=by
  rcases h with ⟨rfl,rfl⟩|⟨k,rfl⟩
  . cases x' with
    |none=>exact .inl ⟨rfl,rfl⟩
    |some y=>exact hx.elim
  . cases x' with
    |none=>exact hx.elim
    |some y=>exact .inr ⟨k,by rw [VR.int (hx:VR σ _ _)]⟩
theorem OptR.none {x x':Option Value} (hx:OptR σ x x'):x=none↔x'=none:=by
  cases x<;>cases x'<;>simp_all [OptR]
theorem ype (b o n:Nat):(⟨b,o,none⟩:Addr).add n=⟨b,o+n,none⟩:=mo b o n
theorem zw9 {size:Nat} {exact:Bool} {a:Addr} {x:Option (Nat×Nat×Nat)} (h:cutC s size exact a x=some (v,s')) :
    ∃ l hh m,x=some (l,hh,m)/\(Addr.ver a % 1024=0\/exact=false/\Addr.ver a % 1024=size+1)/\v=.slice (some (Addr.plus a (l*size))) (hh - l) (m - l)/\s'=s:=by
  unfold cutC at h;split at h
  . rename_i l hh m
    cases hb:(er (Addr.ver a % 1024) 0 || (!exact && er (Addr.ver a % 1024) (size+1))) with
    |false=>rw [hb] at h;simp at h
    |true =>
      rw [hb] at h;simp only [cond_true,dy,ec] at h;refine ⟨l,hh,m,rfl,?_,h.1.symm,h.2.symm⟩;rw [Bool.or_eq_true] at hb;rcases hb with hb|hb
      . exact .inl (eg hb)
      . rw [d8] at hb;exact .inr ⟨by simpa using hb.1,eg hb.2⟩
  . simp at h
theorem z0h (hE:zei P Γ) (hr:Rel σ V s w) {d:la} {a:Addr} {lo hi mx lo' hi' mx':Option Value} (h:zpq Γ s d a lo hi mx=some (v,s')) (hlo:OptR σ lo lo') (hhi:OptR σ hi hi') (hmx:OptR σ mx mx') {b o z:Nat} (hσ:σ a.block (Addr.ver a)=some (b,o,z)) :
    ∃ n e size l hh m,d=.array n e/\(sizeOf e).run P w=.ok size w/\(∀ bb,(Instr.sliceBounds bb n n lo' hi' mx').run P w=.ok (l,hh,m) w)/\s'=s /\
      VR σ v (.slice (some (if m=l then ⟨b,o+a.off,none⟩ else (⟨b,o+a.off,none⟩:Addr).add (l*size))) (hh - l) (m - l)):=by
  unfold zpq at h;split at h
  . rename_i n e
    cases hj:Γ.ti.at e with
    |none=>rw [hj] at h;simp at h
    |some j =>
      rw [hj] at h;simp only at h;rw [zcr] at h;split at h
      . rename_i hn;obtain ⟨l,hh,m,hb,ht,rfl,rfl⟩:=zw9 h;obtain ⟨b1,b2,b3,b4,b5,b6,b7⟩:=zms hb
        have ht0:Addr.ver a % 1024=0:=by
          rcases ht with ht|ht
          . exact ht
          . simp at ht
        have hnn:=zbk.1 hn;refine ⟨n,e,j.size,l,hh,m,rfl,zel (hE.ti _ _ hj) w,fun bb=>?_,rfl,?_⟩
        . refine zon bb (b1.rel' hlo) (b2.rel' hhi) ?_ b4 b5 b6 ?_ w
          . rcases b3.rel' hmx with ⟨h1,h2⟩|h1
            . exact .inl ⟨h1,h2⟩
            . exact .inr h1
          . rcases b7 with h1|h1
            . exact .inl (hmx.none.1 h1)
            . exact .inr fun k=>h1 (hhi.none.2 k)
        . refine VR.mk ⟨b,o,z,hσ,_,m - l,rfl,by omega,ei _,by unfold maxLen;omega,?_,fun _=>rfl,fun k=>absurd ht0 k⟩;intro hne;rw [zAd (by omega),ype,nr];rfl
      . simp at h
  . simp at h
theorem ye7 (hE:zei P Γ) (hr:Rel σ V s w) {t:fc} {x x':Value} {lo hi mx lo' hi' mx':Option Value} (h:zdy Γ s t x lo hi mx=some (v,s')) (hx:VR σ x x') (hlo:OptR σ lo lo') (hhi:OptR σ hi hi') (hmx:OptR σ mx mx') :
    DidV σ V s w ((om t x' lo' hi' mx').run P w) v s':=by
  unfold zdy at h
  cases hi1:Γ.ti.at t with
  |none=>rw [hi1] at h;simp at h
  |some i =>
    rw [hi1] at h;simp only at h;have hti:=hE.ti _ _ hi1;split at h
    . rename_i b;split at h
      . rename_i hd;have hu:=hti.und;rw [hd] at hu
        cases hm:mx with
        |some _=>rw [hm] at h;simp at h
        |none =>
          rw [hm] at h;simp only [Option.isNone_none,cond_true] at h;unfold ybp at h;split at h
          . rename_i l hh m hb;simp only [dy,ec] at h;obtain ⟨rfl,rfl⟩:=h;obtain ⟨b1,b2,b3,b4,b5,b6,_⟩:=zms hb;obtain rfl:=hx.str;have hm':mx'=none:=(hmx.none (σ:=σ)).1 hm;subst hm';have hmm:m=b.size:=by rcases b3 with ⟨_,h1⟩|⟨k,h1⟩;exact h1;simp at h1
            subst hmm;have:=zon (P:=P) (len:=b.size) (cap':=b.size) (m:=b.size) (mx:=none) false (b1.rel' hlo) (b2.rel' hhi) (.inl ⟨rfl,rfl⟩) b4 b5 (ei _) (.inl rfl) w;refine DidV.same hr ?_ (VR.ofStr _);simp [om,Instr.slice,fi hu,this]
          . simp at h
      . simp at h
    . rename_i a len cap;split at h
      . rename_i e hd;have hu:=hti.und;rw [hd] at hu
        cases a with
        |none =>
          simp only at h
          cases hj:Γ.ti.at e with
          |none=>rw [hj] at h;simp at h
          |some j =>
          rw [hj] at h;simp only at h;split at h
          . rename_i hb;simp only [dy,ec] at h;obtain ⟨rfl,rfl⟩:=h;obtain ⟨rfl,rfl,rfl⟩:=hx.out;obtain ⟨b1,b2,b3,b4,b5,b6,b7⟩:=zms hb
            have:=zon (P:=P) (len:=0) (cap':=0) (m:=0) (mx:=mx') true (b1.rel' hlo) (b2.rel' hhi) (by
              rcases b3.rel' hmx with ⟨h1,h2⟩|h1
              . exact .inl ⟨h1,rfl⟩
              . exact .inr h1) (ei _) (ei _) (ei _) (by
              rcases b7 with h1|h1
              . exact .inl (hmx.none.1 h1)
              . exact .inr fun k=>h1 (hhi.none.2 k)) w
            refine DidV.same (v':=.slice none 0 0) hr ?_ (VR.mk ⟨rfl,rfl,rfl⟩);simp [om,Instr.slice,fi hu,this,zel (hE.ti _ _ hj)]
          . simp at h
        |some a =>
          simp only at h
          cases hj:Γ.ti.at e with
          |none=>rw [hj] at h;simp at h
          |some j =>
            rw [hj] at h;simp only at h;obtain ⟨l,hh,m,hb,ht,rfl,rfl⟩:=zw9 h;obtain ⟨b1,b2,b3,b4,b5,b6,b7⟩:=zms hb;obtain ⟨b,o,z,hσ,a',c',rfl,h3,h4,h5,h6,h7,h8⟩:=hx.out
            -- the end of the capacity, in the model
            obtain ⟨m',hm1,hm2,hm3,hm4⟩:∃ m',(mx'=none/\m'=c'\/∃ k,mx'=some (.int k (m':Int)))/\m<=m'/\m'<=c'/\(c'=cap->m'=m):=by
              rcases b3.rel' hmx with ⟨h1,h2⟩|h1
              . exact ⟨c',.inl ⟨h1,rfl⟩,by omega,ei _,by omega⟩
              . exact ⟨m,.inr h1,ei _,by omega,fun _=>rfl⟩
            have:=zon (P:=P) (len:=len) (cap':=c') (m:=m') (mx:=mx') true (b1.rel' hlo) (b2.rel' hhi) hm1 b4 (by omega) hm3 (by
              rcases b7 with h1|h1
              . exact .inl (hmx.none.1 h1)
              . exact .inr fun k=>h1 (hhi.none.2 k)) w
            refine DidV.same (v':=.slice (some (if m'=l then a' else a'.add (l*j.size))) (hh - l) (m' - l)) hr ?_ ?_
            . have hif:(if m'=l then some a' else some (a'.add (l*j.size)))=some (if m'=l then a' else a'.add (l*j.size)):=by split<;>rfl
              simp [om,Instr.slice,fi hu,this,zel (hE.ti _ _ hj),hif]
            . refine VR.mk ⟨b,o,z,hσ,_,m' - l,rfl,by omega,by omega,by omega,?_,?_,?_⟩
              . intro hne;rw [zAd (by omega),h6 (by omega),ype,nr];rfl
              . intro h0;have:=hm4 (h7 h0);omega
              . intro h0 hne;rcases ht with ht|ht
                . exact absurd ht h0
                . have hb2:=h8 h0 (by omega);have hv:Addr.ver (Addr.plus a (l*j.size))=Addr.ver a:=rfl;rw [ht.2] at hb2;rw [hv,ht.2];simp only [Nat.add_sub_cancel] at hb2 ⊢
                  have:l*j.size+(m' - l)*j.size<=c'*j.size:=by
                    rw [<- jc];exact kp _ (by omega)
                  show o+(a.off+l*j.size)+(m' - l)*j.size<=z;omega
      . simp at h
    . rename_i a;obtain ⟨b,o,z,hσ,rfl⟩:=hx.ptr;split at h
      . rename_i arr hd;have hu:=hti.und;rw [hd] at hu
        cases hia:Γ.ti.at arr with
        |none=>rw [hia] at h;simp at h
        |some ia =>
          rw [hia] at h;simp only at h;obtain ⟨n,e,size,l,hh,m,hd2,hsz,hbd,rfl,hv⟩:=z0h (P:=P) (w:=w) hE hr h hlo hhi hmx hσ;have hu2:=(hE.ti _ _ hia).und;rw [hd2] at hu2;refine DidV.same hr ?_ hv;simp [om,Instr.slice,fi hu,fi hu2,asAddr,hbd,hsz]
      . rename_i d hd;obtain ⟨n,e,size,l,hh,m,hd2,hsz,hbd,rfl,hv⟩:=z0h (P:=P) (w:=w) hE hr h hlo hhi hmx hσ;have hu:=hti.und;rw [hd2] at hu;refine DidV.same hr ?_ hv;simp [om,fi hu,pa,hbd,hsz]
    . simp at h
end
theorem z68 {cs:List Value} {off:Nat} {x:Value} {l:List Value} (h:off+(l.length+1)<=cs.length):splice (cs.set off x) (off+1) l=splice cs off (x :: l):=by
  apply nv;intro j;rw [zu1 (by simp;omega),zu1 (by simp;omega)];by_cases h1:j=off
  . subst h1;rw [zAd (by omega),zAc (by simp)];simp only [Nat.sub_self,fx];rw [List.getElem?_set_self (by omega)]
  . by_cases h2:off<j/\j<off+1+l.length
    . rw [zAc ⟨by omega,by omega⟩,zAc ⟨by omega,by simp;omega⟩];rw [show j - off=(j - (off+1))+1 by omega,jo]
    . rw [zAd (by omega),zAd (by simp;omega),List.getElem?_set_ne (by omega)]
theorem zww (off:Nat):∀ (l:List Value) (k:Nat) (cs:Array Value),off+k+l.length<=cs.size->((l.zipIdx k).foldl (fun cs (p:Value×Nat)=>cs.setIfInBounds (off+p.2) p.1) cs).toList=splice cs.toList (off+k) l
  |[],k,cs,h=>by
    unfold splice
    simp
  |x :: l,k,cs,h=>by
    simp only [List.zipIdx_cons,List.foldl_cons];simp only [List.length_cons] at h;rw [zww off l (k+1) _ (by simp;omega),Array.toList_setIfInBounds,show off+(k+1)=off+k+1 by omega,z68 (by simp;omega)]
theorem z5e {off:Nat} {v:Value} {cs:Array Value} (h:off+v.cells.size<=cs.size):(v.cells.zipIdx.foldl (fun cs (x:Value×Nat)=>cs.setIfInBounds (off+x.2) x.1) cs).toList=splice cs.toList off v.cells.toList:=by
  rw [<- Array.foldl_toList];simp only [Array.toList_zipIdx];have:=zww off v.cells.toList 0 cs (by simpa using h);simpa using this
theorem RL.splice {R:Value->Value->Prop} {a b x y:List Value} (h:RL R a b) (k:RL R x y) (off:Nat):RL R (splice a off x) (splice b off y):=by
  unfold Go.Proofs.YteifcnjpjjaikaaGreat.splice;rw [k.length];exact ((h.take off).append k).append (h.drop _)
section
variable {P:fe} {Γ:Env} {σ:Sg} {V:Nat->Prop} {s s':CS} {w:World} {v:Value}
theorem zud {place place':Nat->Option (Nat×Nat)} (hp:∀ k p,place k=some p->place' k=some p) {ρ ρ':ep->Value} :
    ∀ (parts:List (Nat×ep)) (l:List (Nat×List Value)) (cells:List Value) (cells':Array Value) (r:List Value),(∀ p,p∈parts->VR σ (ρ p.2) (ρ' p.2))->zh1 place ρ parts=some l->zsn cells l=some r->RL (VR σ) cells cells'.toList ->
      ∃ r',Instr.fill place' cells' (parts.map fun (i,x)=>(i,ρ' x))=some r'/\RL (VR σ) r r'.toList
  |[],l,cells,cells',r,_,h,hf,hl=>by
    simp only [zh1,dy] at h;subst h;simp only [zsn,dy] at hf;subst hf;exact ⟨cells',rfl,hl⟩
  |(k,x) :: parts,l,cells,cells',r,hρ,h,hf,hl=>by
    simp only [zh1] at h
    cases hk:place k with
    |none=>rw [hk] at h;simp at h
    |some p =>
      obtain ⟨off,size⟩:=p
      cases hq:zh1 place ρ parts with
      |none=>rw [hk,hq] at h;simp at h
      |some l1 =>
        rw [hk,hq] at h;simp only at h
        cases hb:er (ρ x).cells.toList.length size with
        |false=>rw [hb] at h;simp at h
        |true =>
          rw [hb] at h;simp only [cond_true,dy] at h;subst h;simp only [zsn] at hf
          cases hc:gj (off+(ρ x).cells.toList.length) cells.length with
          |false=>rw [hc] at hf;simp at hf
          |true =>
            rw [hc] at hf;simp only [cond_true] at hf;have hx:=(hρ (k,x) (by simp)).cells;have h1:=zbk.1 hc;have h2:=eg hb;have h3:=hx.length;have h4:=hl.length;have h5:(ρ' x).cells.size=size:=by rw [<- io,<- h3];exact h2
            have h6:off+(ρ' x).cells.size<=cells'.size:=by rw [<- io,<- h3,<- io (xs:=cells'),<- h4];exact h1
            have hs:=z5e (off:=off) (v:=ρ' x) (cs:=cells') h6;obtain ⟨r',e1,e2⟩:=zud hp parts l1 _ ((ρ' x).cells.zipIdx.foldl (fun cs (x:Value×Nat)=>cs.setIfInBounds (off+x.2) x.1) cells') r (fun p hp2=>hρ p (by simp [hp2])) hq hf (by rw [hs];exact hl.splice hx off);refine ⟨r',?_,e2⟩;simp only [List.map_cons,Instr.fill,hp _ _ hk];rw [zAd (by simp [h5];rw [h5] at h6;exact h6)];exact e1
theorem z4a : ∀ (fs : List Field), (fs.all fun f => (Γ.ti.at f.type).isSome) = true -> zei P Γ -> ∃ places, fs.mapM (fun f => (P.info? f.type).map fun i => (f.offset, i.size)) = some places /\
    ∀ (k:Nat) (f:Field) (j:TI),fs[k]?=some f->Γ.ti.at f.type=some j->places[k]?=some (f.offset,j.size)
  |[],_,_=>⟨[],rfl,fun k f j h=>by simp at h⟩
  |f :: fs,h,hE=>by
    simp only [List.all_cons,d8] at h;obtain ⟨places,h1,h2⟩:=z4a fs h.2 hE;obtain ⟨j,hj⟩:=Option.isSome_iff_exists.1 h.1;obtain ⟨i,z,hi,hs,_⟩:=(hE.ti _ _ hj).info;refine ⟨(f.offset,i.size) :: places,by simp [List.mapM_cons,hi,h1],?_⟩;intro k f' j' hf hj'
    cases k with
    |zero =>
      simp only [fx,dy] at hf;subst hf;rw [hj] at hj';cases hj'
      simp [hs]
    |succ k =>
      simp only [jo] at hf ⊢;exact h2 k f' j' hf hj'
theorem zoc {x:Option (List Value)} (h:aggC s x=some (v,s')):∃ cs,x=some cs/\v=.agg cs.toArray/\s'=s:=by
  unfold aggC at h
  cases x with
  |none=>simp at h
  |some cs=>simp at h;exact ⟨cs,rfl,h.1.symm,h.2.symm⟩
theorem zqa {zero:List Value} {l:Option (List (Nat×List Value))} {cs:List Value} (h:zrx zero l=some cs):∃ l',l=some l'/\zsn zero l'=some cs:=by
  unfold zrx at h
  cases l with
  |none=>simp at h
  |some l=>exact ⟨l,rfl,h⟩
theorem zsd (parts:Array (Nat×ep)) (ρ:ep->Value):(parts.map fun (i,x)=>(i,ρ x)).toList=parts.toList.map fun (i,x)=>(i,ρ x):=by simp
theorem yjo (hE:zei P Γ) (hr:Rel σ V s w) {t:fc} {parts:Array (Nat×ep)} {ρ ρ':ep->Value} (h:zi2 Γ s ρ t parts.toList=some (v,s')) (hρ:∀ p,p∈parts.toList->VR σ (ρ p.2) (ρ' p.2)) :
    DidV σ V s w ((Instr.build t (parts.map fun (i,x)=>(i,ρ' x))).run P w) v s':=by
  unfold zi2 at h
  cases hi:Γ.ti.at t with
  |none=>rw [hi] at h;simp at h
  |some i =>
    rw [hi] at h;simp only at h;have hti:=hE.ti _ _ hi;obtain ⟨it,z,g1,g2,g3,g4,g5,g6⟩:=hti.info;have hz0:RL (VR σ) i.zero z.cells.toList:=by rw [g5];exact hti.refl σ
    split at h
    . rename_i fs hd;have hu:=hti.und;rw [hd] at hu;rw [zcr] at h;split at h
      . rename_i hall;obtain ⟨cs,h1,rfl,rfl⟩:=zoc h;obtain ⟨l,h2,h3⟩:=zqa h1;obtain ⟨places,p1,p2⟩:=z4a (P:=P) fs.toList hall hE
        obtain ⟨r',f1,f2⟩:=zud (place':=(places.toArray[·]?)) (fun k p hk=>by
          unfold zex at hk
          cases hf:fs[k]? with
          |none=>rw [hf] at hk;simp at hk
          |some f =>
            rw [hf] at hk;simp only at hk
            cases hj:Γ.ti.at f.type with
            |none=>rw [hj] at hk;simp at hk
            |some j =>
              rw [hj] at hk;simp only [dy] at hk;subst hk;simp only [List.getElem?_toArray]
              exact p2 k f j (by rw [ja];exact hf) hj) parts.toList l i.zero z.cells cs hρ h2 h3 hz0
        refine DidV.same hr (run_build w t _ r' ?_) (VR.mk ⟨r',rfl,by simpa using f2⟩);simp only [Program.built,g1,hu,g4,p1,zsd];exact f1
      . simp at h
    . rename_i n e hd;have hu:=hti.und;rw [hd] at hu
      cases hj:Γ.ti.at e with
      |none=>rw [hj] at h;simp at h
      |some j =>
        rw [hj] at h;obtain ⟨cs,h1,rfl,rfl⟩:=zoc h;obtain ⟨l,h2,h3⟩:=zqa h1;obtain ⟨ie,ze,e1,e2,_⟩:=(hE.ti _ _ hj).info;obtain ⟨r',f1,f2⟩:=zud (place':=fun i=>some (i*ie.size,ie.size)) (fun k p hk=>by unfold zbg at hk;rw [e2];exact hk) parts.toList l i.zero z.cells cs hρ h2 h3 hz0;refine DidV.same hr (run_build w t _ r' ?_) (VR.mk ⟨r',rfl,by simpa using f2⟩);simp only [Program.built,g1,hu,g4,e1,zsd];exact f1
    . simp at h
theorem z4t (z:Array Value) (m:Nat) (hm:z.size=m) (h0:0<m):∀ n:Nat,((Array.range (n*m)).map (z[· % m]!)).toList=(ew n z.toList).flatten:=by
  intro n
  induction n with
  |zero=>simp
  |succ n ih =>
    apply nv;intro j;rw [jg,gh,<- ih];simp only [Array.toList_map,Array.toList_range,ki];by_cases h1:j<m
    . rw [fk (by simp;omega),mz (by rw [jc];omega)];simp only [ld,m6 h1];rw [ja,jq (by omega),getElem!_pos z j (by omega)]
    . rw [gm (by simp;omega)];simp only [io,hm];rw [ki];by_cases h2:j<(n+1)*m
      . rw [mz h2,mz (by rw [jc] at h2;omega)];simp only [ld];rw [<- Nat.mod_eq_sub_mod (by omega)]
      . rw [je (by simp;omega),je (by simp;rw [jc] at h2;omega)]
theorem zw4 {t:fc} {j:TI} (hE:zei P Γ) (h:zen Γ t=some j):∃ e,P.underlying t=some (.slice e)/\TIOk P e j:=by
  unfold zen at h
  cases hi:Γ.ti.at t with
  |none=>rw [hi] at h;simp at h
  |some i =>
    rw [hi] at h;simp only at h;split at h
    . rename_i e hd;have hu:=(hE.ti _ _ hi).und;rw [hd] at hu;exact ⟨e,hu,hE.ti _ _ h⟩
    . simp at h
theorem RL.flat {R:Value->Value->Prop} {a b:List Value} (h:RL R a b):∀ n,RL R (ew n a).flatten (ew n b).flatten
  |0=>trivial
  |n+1=>by simp only [jg,gh];exact h.append (RL.flat h n)
theorem zx3 (hE:zei P Γ) (hr:Rel σ V s w) (hF:zeq σ s.n s'.n) {t:fc} {n:Nat} {parts:Array (Nat×ep)} {ρ ρ':ep->Value} (h:zct Γ s ρ t n parts.toList=some (v,s')) (hρ:∀ p,p∈parts.toList->VR σ (ρ p.2) (ρ' p.2)) :
    DidV σ V s w ((Instr.buildSlice t n (parts.map fun (i,x)=>(i,ρ' x))).run P w) v s':=by
  unfold zct at h
  cases hi:zen Γ t with
  |none=>rw [hi] at h;simp at h
  |some j =>
    rw [hi] at h;simp only at h;obtain ⟨e,hu,hti⟩:=zw4 hE hi
    cases hb:(gj (n*j.size) 16777216 && fw 0 j.size) with
    |false=>rw [hb] at h;simp at h
    |true =>
      rw [hb] at h;simp only [cond_true] at h;rw [d8] at hb;have hn1:=zbk.1 hb.1;have hn2:=zaf.1 hb.2
      cases hc:zrx (ew n j.zero).flatten (zh1 (zbg j.size) ρ parts.toList) with
      |none=>rw [hc] at h;simp at h
      |some cs =>
        rw [hc] at h;obtain ⟨a,h1,rfl⟩:=zj3 h;obtain ⟨l,h2,h3⟩:=zqa hc;obtain ⟨ie,z,g1,g2,g3,g4,g5,g6⟩:=hti.info;have hzs:z.cells.size=j.size:=by rw [<- io,g5];exact hti.len
        have hmade:=z4t z.cells j.size hzs hn2 n;have hz0:RL (VR σ) (ew n j.zero).flatten ((Array.range (n*j.size)).map (z.cells[· % j.size]!)).toList:=by rw [hmade,g5];exact (hti.refl σ).flat n
        obtain ⟨r',f1,f2⟩:=zud (place':=fun i=>some (i*ie.size,ie.size)) (fun k p hk=>by unfold zbg at hk;rw [g2];exact hk) parts.toList l _ _ cs hρ h2 h3 hz0
        have hlen:cs.length<=16777216:=by
          have h5:∀ (l:List (Nat×List Value)) (c r:List Value),zsn c l=some r->r.length=c.length:=by
            intro l
            induction l with
            |nil=>intro c r h;simp [zsn] at h;rw [h]
            |cons p l ih =>
              intro c r h;simp only [zsn] at h
              cases hq:gj (p.1+p.2.length) c.length with
              |false=>rw [hq] at h;simp at h
              |true =>
                rw [hq] at h;rw [ih _ _ h,zqq (zbk.1 hq)]
          rw [h5 _ _ _ h3,hz0.length];simpa using hn1
        obtain ⟨rfl,_,e3,e4,e5⟩:=zlt (w0:=w) h1 hr hF (by decide) ⟨rfl,rfl,rfl,rfl⟩ r' e (0,0) (by intro j _;simp) r'.toList [] (by simp) f2;refine ⟨_,_,.slice (some ⟨w.heap.size,0,none⟩) n n,?_,VR.mk ⟨_,_,_,e5,_,n,rfl,ei _,ei _,?_,fun _=>rfl,fun _=>rfl,?_⟩,e3,e4⟩
        . by_cases hn0:n=0
          . subst hn0
            have f1':Instr.fill (fun i=>some (i*ie.size,ie.size)) #[] (List.map (fun x=>(x.fst,ρ' x.snd)) parts.toList)=some r':=by
              rw [<- f1];simp [Array.range_zero']
            simp [Instr.buildSlice,fi hu,sizeOf,typeInfo,g1,newRow,Array.range_zero',f1']
          . refine run_buildSlice w t e n _ r' ie z hu g1 g4 (by rw [g2];omega) (by rw [g2];intro h0;rcases Nat.mul_eq_zero.1 h0 with h0|h0<;>omega) ?_;rw [zsd,hzs,g2];rw [g2] at f1;exact f1
        . have:n<=n*j.size:=Nat.le_mul_of_pos_right n hn2;unfold maxLen;omega
        . intro h0;exfalso;apply h0;show (s.n*1024+0) % 1024=0;omega
theorem z13 (hE:zei P Γ) (hr:Rel σ V s w) (hF:zeq σ s.n s'.n) {t:fc} {x x' y y':Value} (h:zfm Γ s t (zgv x) (zgv y)=some (v,s')) (hx:VR σ x x') (hy:VR σ y y') :
    DidV σ V s w ((Instr.makeSlice t x' y').run P w) v s':=by
  unfold zfm at h;split at h
  . rename_i j l c hi hl hc;obtain ⟨e,hu,hti⟩:=zw4 hE hi;obtain ⟨k1,rfl⟩:=zlu hl;obtain ⟨k2,rfl⟩:=zlu hc;obtain rfl:=hx.int;obtain rfl:=hy.int
    cases hb:(gj l c && gj (c*(j.bytes+1)) 1000000000 && fw 0 j.size) with
    |false=>rw [hb] at h;simp at h
    |true =>
      rw [hb] at h;simp only [cond_true] at h;simp only [d8] at hb;have h1:=zbk.1 hb.1.1;have h2:=zbk.1 hb.1.2;have h3:=zaf.1 hb.2;obtain ⟨a,h4,rfl⟩:=zj3 h;obtain ⟨ie,z,g1,g2,g3,g4,g5,g6⟩:=hti.info;have hzs:z.cells.size=j.size:=by rw [<- io,g5];exact hti.len
      have hmade:=z4t z.cells j.size hzs h3 c;have hcm:c<=c*(j.bytes+1):=Nat.le_mul_of_pos_right c (by omega);have hbm:j.bytes*c<=1000000000:=by rw [Nat.mul_add,Nat.mul_comm c] at h2;omega
      have hr1:=run_make (P:=P) w t e ie z hu g1 g4 k1 k2 l c (by omega) (by omega) (by rw [g3,<- Int.natCast_mul];omega) (by omega);simp only [Int.toNat_natCast] at hr1;have hcells:(madeCells z.cells (c*ie.size)).toList=(ew c z.cells.toList).flatten:=by unfold madeCells;rw [g2,hzs];exact hmade
      obtain ⟨rfl,_,e3,e4,e5⟩:=zlt (w0:=w) h4 hr hF (by decide) ⟨rfl,rfl,rfl,rfl⟩ (madeCells z.cells (c*ie.size)) e (0,0) (by intro j _;simp) _ [] (by rw [hcells,List.append_nil]) (by rw [g5];exact (hti.refl σ).flat c);refine ⟨_,_,_,hr1,VR.mk ⟨_,_,_,e5,_,c,rfl,h1,ei _,by unfold maxLen;omega,fun _=>rfl,fun _=>rfl,?_⟩,e3,e4⟩;intro h0;exfalso;apply h0;show (s.n*1024+0) % 1024=0;omega
  . simp at h
end
theorem zkh (k:gl) (n:Nat) (h:n<topN k):k.wrap (n:Int)=n:=by
  cases k<;>simp [topN] at h<;>simp [IntKind.wrap,IntKind.bits,IntKind.signed]<;>omega
theorem ykf (k:gl):topN k<=2 ^ k.bits:=by cases k<;>simp [topN,IntKind.bits]
theorem z6w (k:gl):∃ t,topN k=2 ^ t:=by
  cases k
  . exact ⟨7,rfl⟩
  . exact ⟨15,rfl⟩
  . exact ⟨31,rfl⟩
  . exact ⟨63,rfl⟩
  . exact ⟨8,rfl⟩
  . exact ⟨16,rfl⟩
  . exact ⟨32,rfl⟩
  . exact ⟨64,rfl⟩
theorem z75 {k k':gl} (h:er (ikN k) (ikN k')=true):k=k':=by
  cases k<;>cases k'<;>first|rfl | (exact absurd h (by decide))
theorem zf7 {k:gl} {b:Bool} {n:Nat} {v:Value} (h:natI k b n=some v):b=true/\v=.int k (n:Int):=by
  unfold natI at h;rw [zcr] at h;split at h
  . rename_i hb;simp at h;exact ⟨hb,h.symm⟩
  . simp at h
theorem z0o (m:Nat) (k:gl) (h:m<topN k):(BitVec.ofInt k.bits (m:Int)).toNat=m:=by
  rw [n5,BitVec.toNat_ofNat,m6 (fh h (ykf k))]
theorem yjp (m n:Nat):fw m n=decide ((m:Int)<(n:Int)):=by
  rw [np,zaf,decide_eq_true_iff];omega
theorem yjq (m n:Nat):gj m n=decide ((m:Int)<=(n:Int)):=by
  rw [np,zbk,decide_eq_true_iff];omega
theorem yjs (m n:Nat):er m n=((m:Int) == (n:Int)):=by
  rw [np,beq_iff_eq];constructor
  . intro h;rw [eg h]
  . intro h;have:m=n:=by omega
    subst this;exact Nat.beq_refl m
theorem ymc {P:fe} {op:BinOp} {k:gl} {m n:Nat} {v:Value} {t:fc} {w:World} (h:binF op k m n=some v):(binOp op t (.int k (m:Int)) (.int k (n:Int))).run P w=.ok v w:=by
  unfold binF at h
  cases op with
  |add =>
    obtain ⟨h1,rfl⟩:=zf7 h;have h2:=zaf.1 h1;have:=zkh k (m+n) h2;simp only [Int.natCast_add] at this
    simp [binOp,o7,this]
  |sub =>
    obtain ⟨h1,rfl⟩:=zf7 h;rw [d8] at h1;have h2:=zbk.1 h1.1;have h3:=zaf.1 h1.2;have:=zkh k (m - n) (by omega);rw [show ((m - n:Nat):Int)=(m:Int) - n by omega] at this;simp [binOp,o7,this];show (m:Int) - n=((m - n:Nat):Int);omega
  |mul =>
    obtain ⟨h1,rfl⟩:=zf7 h;have h2:=zaf.1 h1;have:=zkh k (m*n) h2;simp only [Int.natCast_mul] at this
    simp [binOp,o7,this]
  |quo =>
    obtain ⟨h1,rfl⟩:=zf7 h;rw [d8] at h1;have h2:=zaf.1 h1.1;have h3:=zaf.1 h1.2;have h4:m / n<=m:=Nat.div_le_self m n;have:=zkh k (m / n) (by omega);have h5:(m:Int).tdiv (n:Int)=((m / n:Nat):Int):=by rw [Int.tdiv_eq_ediv_of_nonneg (by omega)];rfl
    simp [binOp,Op.intDiv,show n≠0 by omega,h5];rw [show (m:Int) / n=((m / n:Nat):Int) by rfl];exact this
  |rem =>
    obtain ⟨h1,rfl⟩:=zf7 h;have h2:=zaf.1 h1;have h5:(m:Int).tmod (n:Int)=((m % n:Nat):Int):=by rw [Int.tmod_eq_emod_of_nonneg (by omega)];rfl
    simp [binOp,Op.intDiv,show n≠0 by omega,h5];rfl
  |and =>
    obtain ⟨h1,rfl⟩:=zf7 h;rw [d8] at h1;have h2:=zaf.1 h1.1;have h3:=zaf.1 h1.2;obtain ⟨t,ht⟩:=z6w k;have:=zkh k (m &&& n) (by rw [ht] at h3 ⊢;exact Nat.and_lt_two_pow _ h3);simp [binOp,ox,BitVec.toNat_and,z0o _ _ h2,z0o _ _ h3,-n5];exact this
  |or =>
    obtain ⟨h1,rfl⟩:=zf7 h;rw [d8] at h1;have h2:=zaf.1 h1.1;have h3:=zaf.1 h1.2;obtain ⟨t,ht⟩:=z6w k;have:=zkh k (m ||| n) (by rw [ht] at h2 h3 ⊢;exact Nat.or_lt_two_pow h2 h3);simp [binOp,ox,BitVec.toNat_or,z0o _ _ h2,z0o _ _ h3,-n5];exact this
  |xor =>
    obtain ⟨h1,rfl⟩:=zf7 h;rw [d8] at h1;have h2:=zaf.1 h1.1;have h3:=zaf.1 h1.2;obtain ⟨t,ht⟩:=z6w k;have:=zkh k (m ^^^ n) (by rw [ht] at h2 h3 ⊢;exact Nat.xor_lt_two_pow h2 h3);simp [binOp,ox,BitVec.toNat_xor,z0o _ _ h2,z0o _ _ h3,-n5];exact this
  |shl =>
    obtain ⟨h1,rfl⟩:=zf7 h;rw [d8] at h1;have h3:=zaf.1 h1.2;have h3':m*2 ^ (min n k.bits)<topN k:=h3;have:=zkh k _ h3';simp only [Int.natCast_mul,Int.natCast_pow] at this;simp [binOp,Op.shift,show ¬ ((n:Int)<0) by omega];rw [show ((2:Int) ^ min n k.bits)=((2:Nat):Int) ^ min n k.bits by rfl,this]
  |shr =>
    obtain ⟨h1,rfl⟩:=zf7 h;simp [binOp,Op.shift,show ¬ ((n:Int)<0) by omega];show (m:Int).fdiv _=((m / 2 ^ (min n k.bits):Nat):Int);rw [Int.fdiv_eq_ediv_of_nonneg _ (Int.pow_nonneg (by omega))];rw [Int.natCast_ediv,Int.natCast_pow];rfl
  |andNot=>simp at h
  |eql=>simp only [zst,dy] at h;subst h;rw [yjs];simp [binOp,m7]
  |neq=>simp only [zst,dy] at h;subst h;rw [yjs];simp [binOp,m7];rfl
  |lss=>simp only [zst,dy] at h;subst h;rw [yjp];simp [binOp,m7]
  |leq=>simp only [zst,dy] at h;subst h;rw [yjq];simp [binOp,m7]
  |gtr=>simp only [zst,dy] at h;subst h;rw [yjp];simp [binOp,m7]
  |geq=>simp only [zst,dy] at h;subst h;rw [yjq];simp [binOp,m7]
section
variable {P:fe} {Γ:Env} {σ:Sg} {V:Nat->Prop} {s s':CS} {w:World} {v:Value}
theorem zvs {ρ ρ':ep->Value} {o:Oper} (hs:∀ cs b,o.op≠.select cs b) (h:zq0 P ρ o=some v) (hρ:∀ x,x∈o.op.operands.toList->VR σ (ρ x) (ρ' x)) :
    (ls ρ' o).run P w=.ok (.value v) w/\VR σ v v:=by
  unfold zq0 at h
  cases hp:o.op.operands.toList.all fun x=>za6 3 (ρ x) with
  |false=>rw [hp] at h;simp at h
  |true =>
    rw [hp] at h;simp only [cond_true] at h;rw [fd] at hp;have he:ls ρ' o=ls ρ o:=execOp_congr o hs fun x hx=>zq1 3 (hp x (by simpa using hx)) (hρ x (by simpa using hx));split at h
    . rename_i v1 hv
      cases hq:za6 3 v1 with
      |false=>rw [hq] at h;simp at h
      |true =>
        rw [hq] at h;simp only [cond_true,dy] at h;subst h;exact ⟨by rw [he];exact zw3 hv w,zig 3 hq⟩
    . simp at h
theorem zy6 (hr:Rel σ V s w) {ρ ρ':ep->Value} {o:Oper} (hs:∀ cs b,o.op≠.select cs b) {x:Option Value} (h:zh2 P ρ o s x=some (v,s')) (hρ:∀ x,x∈o.op.operands.toList->VR σ (ρ x) (ρ' x))
    (hx:∀ y,x=some y->(ls ρ' o).run P w=.ok (.value y) w/\VR σ y y):Did σ V s w ((ls ρ' o).run P w) v s':=by
  unfold zh2 at h
  cases x with
  |some y =>
    simp only [dy,ec] at h;obtain ⟨rfl,rfl⟩:=h;obtain ⟨h1,h2⟩:=hx _ rfl;exact Did.same hr h1 h2
  |none =>
    obtain ⟨h1,rfl⟩:=zj5 h;obtain ⟨h2,h3⟩:=zvs (w:=w) hs h1 hρ;exact Did.same hr h2 h3
theorem ypn {op:UnOp} {x x' y:Value} (h:unC op x=some y) (hx:VR σ x x'):(Op.unary op x').run P w=.ok y w/\VR σ y y:=by
  unfold unC at h;split at h
  . split at h
    . simp only [dy] at h;subst h;rw [hx.bool];exact ⟨by simp [Op.unary],VR.ofBool _⟩
    . simp at h
  . simp at h
theorem z8j {op:BinOp} {t:fc} {x y:ep} {k k':gl} {m n:Int}:(kj op t x y (.int k m) (.int k' n)).run P w=.ok () w:=by
  unfold kj;cases op<;>simp
theorem yb9 {op:BinOp} {t:fc} {x y:ep} {a b a' b':Value} (h:binC op a b=some v) (ha:VR σ a a') (hb:VR σ b b'):(kj op t x y a' b').run P w=.ok () w/\(binOp op t a' b').run P w=.ok v w/\VR σ v v:=by
  unfold binC at h;split at h
  . rename_i k m k' n;rw [zcr] at h;split at h
    . rename_i hk;have:=z75 hk;subst this;have h1:a'=.int k (m:Int):=ha.int;have h2:b'=.int k (n:Int):=hb.int;subst h1;subst h2;refine ⟨z8j,ymc h,?_⟩;unfold binF at h
      cases op<;>simp only [zst,dy] at h<;>first
        |(obtain ⟨_,rfl⟩:=zf7 h;exact VR.ofInt _ _)
        |(subst h;exact VR.ofBool _)
        |(simp at h)
    . simp at h
  . simp at h
theorem zi6 {t:fc} {x y:Value} {b:Bool} {o1 o2:ep} (h:∀ d,(kg (d+1) t x y).run P w=.ok b w)
    (h1:(Op.equal t x y).run P w=.ok b w->(binOp .eql t x y).run P w=.ok (.bool b) w) (h2:(Op.equal t x y).run P w=.ok b w->(binOp .neq t x y).run P w=.ok (.bool (!b)) w) (h3:∀ op,(kj op t o1 o2 x y).run P w=.ok () w) :
    (binOp .eql t x y).run P w=.ok (.bool b) w/\(binOp .neq t x y).run P w=.ok (.bool (!b)) w/\(∀ op,(kj op t o1 o2 x y).run P w=.ok () w) :=
  ⟨h1 (h 9999),h2 (h 9999),h3⟩
set_option maxHeartbeats 1000000 in
theorem yae {i:TI} {t:fc} (hi:TIOk P t i) {x y x' y':Value} {a b:Bool} (hx:nilT i.desc x=some a) (hy:nilT i.desc y=some b) (hab:(a || b)=true) (vx:VR σ x x') (vy:VR σ y y') (o1 o2:ep) :
    (binOp .eql t x' y').run P w=.ok (.bool (a && b)) w/\(binOp .neq t x' y').run P w=.ok (.bool (!(a && b))) w/\(∀ op,(kj op t o1 o2 x' y').run P w=.ok () w):=by
  have hu:=hi.und
  cases hd:i.desc with
  |pointer e =>
    rw [hd] at hu hx hy
    cases x with
    |pointer p =>
      cases y with
      |pointer q =>
        simp only [nilT,dy] at hx hy
        cases p with
        |none =>
          obtain rfl:=vx.out
          cases q with
          |none =>
            obtain rfl:=vy.out;subst hx;subst hy;exact zi6 (fun d=>by simp [kg,fi hu]) (fun h=>by simp [binOp,h]) (fun h=>by simp [binOp,h]) (fun op=>by unfold kj;cases op<;>simp)
          |some q =>
            obtain ⟨_,_,_,_,rfl⟩:=vy.out;subst hx;subst hy;exact zi6 (fun d=>by simp [kg,fi hu]) (fun h=>by simp [binOp,h]) (fun h=>by simp [binOp,h]) (fun op=>by unfold kj;cases op<;>simp)
        |some p =>
          obtain ⟨_,_,_,_,rfl⟩:=vx.out
          cases q with
          |none =>
            obtain rfl:=vy.out;subst hx;subst hy;exact zi6 (fun d=>by simp [kg,fi hu]) (fun h=>by simp [binOp,h]) (fun h=>by simp [binOp,h]) (fun op=>by unfold kj;cases op<;>simp)
          |some q=>subst hx;subst hy;simp at hab
      |_=>simp [nilT] at hy
    |_=>simp [nilT] at hx
  |slice e =>
    rw [hd] at hu hx hy
    cases x with
    |slice p n c =>
      cases y with
      |slice q n2 c2 =>
        simp only [nilT,dy] at hx hy
        cases p with
        |none =>
          obtain ⟨rfl,rfl,rfl⟩:=vx.out
          cases q with
          |none =>
            obtain ⟨rfl,rfl,rfl⟩:=vy.out;subst hx;subst hy;exact zi6 (fun d=>by simp [kg,fi hu]) (fun h=>by simp [binOp,h]) (fun h=>by simp [binOp,h]) (fun op=>by unfold kj;cases op<;>simp)
          |some q =>
            obtain ⟨_,_,_,_,_,_,rfl,_⟩:=vy.out;subst hx;subst hy;exact zi6 (fun d=>by simp [kg,fi hu]) (fun h=>by simp [binOp,h]) (fun h=>by simp [binOp,h]) (fun op=>by unfold kj;cases op<;>simp)
        |some p =>
          obtain ⟨_,_,_,_,_,_,rfl,_⟩:=vx.out
          cases q with
          |none =>
            obtain ⟨rfl,rfl,rfl⟩:=vy.out;subst hx;subst hy;exact zi6 (fun d=>by simp [kg,fi hu]) (fun h=>by simp [binOp,h]) (fun h=>by simp [binOp,h]) (fun op=>by unfold kj;cases op<;>simp)
          |some q=>subst hx;subst hy;simp at hab
      |_=>simp [nilT] at hy
    |_=>simp [nilT] at hx
  |map kt e =>
    rw [hd] at hu hx hy
    cases x with
    |map p =>
      cases y with
      |map q =>
        simp only [nilT,dy] at hx hy
        cases p with
        |none =>
          obtain rfl:=vx.out
          cases q with
          |none =>
            obtain rfl:=vy.out;subst hx;subst hy;exact zi6 (fun d=>by simp [kg,fi hu]) (fun h=>by simp [binOp,h]) (fun h=>by simp [binOp,h]) (fun op=>by unfold kj;cases op<;>simp)
          |some q =>
            obtain ⟨_,_,_,_,rfl⟩:=vy.out;subst hx;subst hy;exact zi6 (fun d=>by simp [kg,fi hu]) (fun h=>by simp [binOp,h]) (fun h=>by simp [binOp,h]) (fun op=>by unfold kj;cases op<;>simp)
        |some p =>
          obtain ⟨_,_,_,_,rfl⟩:=vx.out
          cases q with
          |none =>
            obtain rfl:=vy.out;subst hx;subst hy;exact zi6 (fun d=>by simp [kg,fi hu]) (fun h=>by simp [binOp,h]) (fun h=>by simp [binOp,h]) (fun op=>by unfold kj;cases op<;>simp)
          |some q=>subst hx;subst hy;simp at hab
      |_=>simp [nilT] at hy
    |_=>simp [nilT] at hx
  |func ps rs va =>
    rw [hd] at hu hx hy
    cases x with
    |func f1 a1 b1 =>
      obtain ⟨_,_,_,rfl,_⟩:=vx.out;simp only [nilT,dy] at hx
      cases y with
      |func f2 a2 b2=>simp only [nilT,dy] at hy;subst hx;subst hy;simp at hab
      |nilFunc =>
        obtain rfl:=vy.out;simp only [nilT,dy] at hy;subst hx;subst hy;exact zi6 (fun d=>by simp [kg,fi hu]) (fun h=>by simp [binOp,h]) (fun h=>by simp [binOp,h]) (fun op=>by unfold kj;cases op<;>simp)
      |_=>simp [nilT] at hy
    |nilFunc =>
      obtain rfl:=vx.out;simp only [nilT,dy] at hx
      cases y with
      |func f2 a2 b2 =>
        obtain ⟨_,_,_,rfl,_⟩:=vy.out;simp only [nilT,dy] at hy;subst hx;subst hy;exact zi6 (fun d=>by simp [kg,fi hu]) (fun h=>by simp [binOp,h]) (fun h=>by simp [binOp,h]) (fun op=>by unfold kj;cases op<;>simp)
      |nilFunc =>
        obtain rfl:=vy.out;simp only [nilT,dy] at hy;subst hx;subst hy;exact zi6 (fun d=>by simp [kg,fi hu]) (fun h=>by simp [binOp,h]) (fun h=>by simp [binOp,h]) (fun op=>by unfold kj;cases op<;>simp)
      |_=>simp [nilT] at hy
    |_=>simp [nilT] at hx
  |_=>rw [hd] at hx;cases x<;>simp [nilT] at hx
theorem z4j {x y:Option Bool} {neg:Bool} {r:Value} (h:nilC x y neg=some r):∃ a b,x=some a/\y=some b/\(a || b)=true/\r=.bool (xor neg (a && b)):=by
  unfold nilC at h;split at h
  . rename_i a b
    cases hab:(a || b) with
    |false=>rw [hab] at h;simp at h
    |true=>rw [hab] at h;simp only [cond_true,dy] at h;exact ⟨a,b,rfl,rfl,hab,h.symm⟩
  . simp at h
theorem yrb (hE:zei P Γ) (hr:Rel σ V s w) {ρ ρ':ep->Value} {o:Oper} {op:BinOp} {t yt:fc} {x y:ep} (ho:o.op=.binOp op t x y yt) (h:zls P Γ ρ o s t op (ρ x) (ρ y)=some (v,s')) (hρ:∀ x,x∈o.op.operands.toList->VR σ (ρ x) (ρ' x)) :
    Did σ V s w ((ls ρ' o).run P w) v s':=by
  have vx:VR σ (ρ x) (ρ' x):=hρ x (by rw [ho];simp [Op.operands]);have vy:VR σ (ρ y) (ρ' y):=hρ y (by rw [ho];simp [Op.operands]);unfold zls at h;split at h
  . rename_i v1 hb;simp only [dy,ec] at h;obtain ⟨rfl,rfl⟩:=h;obtain ⟨h1,h2,h3⟩:=yb9 (P:=P) (w:=w) (t:=t) (x:=x) (y:=y) hb vx vy;refine Did.same hr ?_ h3;simp [ls,ho,h1,h2]
  . refine zy6 hr (by intro cs b;rw [ho];simp) h hρ ?_;intro r hq;unfold eqC at hq
    cases hi:Γ.ti.at t with
    |none=>rw [hi] at hq;simp at hq
    |some i =>
      rw [hi] at hq;simp only at hq;have hti:=hE.ti _ _ hi;split at hq
      . obtain ⟨a,b,e1,e2,e3,rfl⟩:=z4j hq;obtain ⟨h1,h2,h3⟩:=yae (P:=P) (w:=w) hti e1 e2 e3 vx vy x y;refine ⟨?_,VR.ofBool _⟩;simp [ls,ho,h1,h3]
      . obtain ⟨a,b,e1,e2,e3,rfl⟩:=z4j hq;obtain ⟨h1,h2,h3⟩:=yae (P:=P) (w:=w) hti e1 e2 e3 vx vy x y;refine ⟨?_,VR.ofBool _⟩;simp [ls,ho,h2,h3]
      . simp at hq
end
section
variable {P:fe} {Γ:Env} {σ:Sg} {V:Nat->Prop} {s s':CS} {w:World} {v:Value}
theorem zho {s s':CS} {a:Addr} {tag:Nat} {cs:List Value} (ht:tag<1024) (h:s.newRow tag cs=some (a,s')):Can s s':=by
  obtain ⟨h1,_,h2⟩:=zv2 h;exact zsg h1 (by intro p hp;simp at hp;subst hp;simp;omega) h2
theorem RL.ints {σ:Sg} (b:ByteArray):RL (VR σ) (zpr b) (zpr b):=RL.of rfl fun i x y hx hy=>by
  rw [hx] at hy;cases hy;unfold zpr at hx;rw [ki] at hx
  cases h:b.data.toList[i]? with
  |none=>rw [h] at hx;simp at hx
  |some c=>rw [h] at hx;simp at hx;rw [<- hx];exact VR.ofInt _ _
theorem zpm {s1:CS} {size n:Nat} {y y':Value} {new:List Value} (hr:Rel σ V s w) (h:s.firstCells size n y=some (new,s1)) (hV:zci V s1) (hn:∃ m,lenC y=some m/\n<=m) (hy:VR σ y y') :
    ∃ new',(∀ w0:World,w0.heap=w.heap->(jz size n y').run P w0=.ok new'.toArray w0)/\RL (VR σ) new new'/\new'.length=n*size/\Can s s1/\Rel σ V s1 w/\Ext σ V s w σ s1 w:=by
  obtain ⟨m,hm,hnm⟩:=hn;unfold CS.firstCells at h
  cases y with
  |slice x n0 c =>
    simp only [lenC,dy] at hm;subst hm;simp only at h
    cases hb:er (n*size) 0 with
    |true =>
      rw [hb] at h;simp only [cond_true,dy,ec] at h;obtain ⟨rfl,rfl⟩:=h;have h0:n*size=0:=eg hb;refine ⟨[],fun w0 _=>?_,trivial,h0.symm,Can.refl _,hr,Ext.refl _ _ _ _⟩
      cases x with
      |none=>obtain ⟨_,_,rfl⟩:=hy.out;simp [jz]
      |some a=>obtain ⟨_,_,_,_,_,_,rfl,_⟩:=hy.out;simp [jz,h0,loadCells,loadCellsFrom]
    |false =>
      rw [hb] at h;simp only [cond_false] at h
      cases x with
      |none=>simp at h
      |some a =>
        simp only at h
        cases hq:s.readRow a with
        |none=>rw [hq] at h;simp at h
        |some p =>
          obtain ⟨cs,s2⟩:=p;rw [hq] at h;simp only at h
          cases hc:cut cs a.off (n*size) with
          |none=>rw [hc] at h;simp at h
          |some l =>
            rw [hc] at h;simp only [dy,ec] at h;obtain ⟨rfl,rfl⟩:=h;obtain ⟨b,o,z,hσ,a',c',rfl,h3,h4,h5,h6,_⟩:=hy.out;have hrow:=z91 hq hr hV hσ;obtain ⟨l',e1,e2,e3⟩:=hrow.part hc
            have hne:c'≠0:=by
              rintro rfl;have:n=0:=by omega
              subst this;simp at hb
            have:=h6 hne;subst this;refine ⟨l',fun w0 hw0=>?_,e3,e1,z1t hq,z1s hq hr,z92 hq⟩
            have:=run_loadCells_list (P:=P) w0 ⟨b,o+a.off,none⟩ l' (fun j v hj=>by
              rw [mo];have:=e2 j v hj;unfold World.cell? at this ⊢
              rw [hw0];exact this)
            rw [e1] at this
            simp [jz,this]
  |string b =>
    simp only [lenC,dy] at hm;subst hm;simp only at h
    cases hb:(er size 1 && gj n b.size) with
    |false=>rw [hb] at h;simp at h
    |true =>
      rw [hb] at h;simp only [cond_true,dy,ec] at h;obtain ⟨rfl,rfl⟩:=h;rw [d8] at hb;have h1:size=1:=eg hb.1;subst h1;obtain rfl:=hy.str;refine ⟨zpr (b.extract 0 n),fun w0 _=>?_,RL.ints _,?_,Can.refl _,hr,Ext.refl _ _ _ _⟩
      . simp only [jz,Sem.run_pure];congr 1;unfold zpr;apply lw.1;simp
      . unfold zpr;rw [List.length_map,io];show (b.extract 0 n).size=n*1;rw [ByteArray.size_extract];omega
  |_=>simp at h
theorem zh4 {s1:CS} {size n:Nat} {y:Value} {new:List Value} (h:s.firstCells size n y=some (new,s1)):Can s s1/\(Rel σ V s w->Rel σ V s1 w)/\s1.n=s.n/\s1.obj=s.obj:=by
  unfold CS.firstCells at h;split at h
  . rename_i x n0 c
    cases hb:er (n*size) 0 with
    |true =>
      rw [hb] at h;simp only [cond_true,dy,ec] at h;obtain ⟨rfl,rfl⟩:=h;exact ⟨Can.refl _,fun k=>k,rfl,rfl⟩
    |false =>
      rw [hb] at h;simp only [cond_false] at h
      cases x with
      |none=>simp at h
      |some a =>
        simp only at h
        cases hq:s.readRow a with
        |none=>rw [hq] at h;simp at h
        |some p =>
          obtain ⟨cs,s2⟩:=p;rw [hq] at h;simp only at h
          cases hc:cut cs a.off (n*size) with
          |none=>rw [hc] at h;simp at h
          |some l =>
            rw [hc] at h;simp only [dy,ec] at h;obtain ⟨rfl,rfl⟩:=h;refine ⟨z1t hq,fun k=>z1s hq k,?_,?_⟩<;>rw [(zhm hq).2]
  . rename_i b
    cases hb:(er size 1 && gj n b.size) with
    |false=>rw [hb] at h;simp at h
    |true =>
      rw [hb] at h;simp only [cond_true,dy,ec] at h;obtain ⟨rfl,rfl⟩:=h;exact ⟨Can.refl _,fun k=>k,rfl,rfl⟩
  . simp at h
theorem ylb {y y':Value} {n:Nat} (h:lenC y=some n) (hy:VR σ y y'):∀ w0:World,(Builtin.lenOf y').run P w0=.ok n w0:=by
  intro w0;unfold lenC at h;split at h
  . rename_i x m c;simp only [dy] at h;subst h
    cases x with
    |none=>obtain ⟨rfl,_,rfl⟩:=hy.out;rfl
    |some a=>obtain ⟨_,_,_,_,_,_,rfl,_⟩:=hy.out;rfl
  . simp only [dy] at h;subst h;obtain rfl:=hy.str;rfl
  . simp at h
theorem ye2 (hE:zei P Γ) {t:fc} (h:srcT Γ t=true):(∃ e',P.underlying t=some (.slice e'))\/P.underlying t=some .string:=by
  unfold srcT at h
  cases hi:Γ.ti.at t with
  |none=>rw [hi] at h;simp at h
  |some i =>
    rw [hi] at h;have hu:=(hE.ti _ _ hi).und;simp only at h;split at h
    . rename_i e hd;rw [hd] at hu;exact .inl ⟨e,hu⟩
    . rename_i hd;rw [hd] at hu;exact .inr hu
    . simp at h
theorem znj {t tx ty e:fc} {i:TypeInfo} (ht:P.underlying t=some (.slice e)) (hi:P.info? e=some i) {base:Option Addr} {len cap:Nat} {x:Value} (hs:Src P i.size tx x 0 [] w) (hc:len<=cap) :
    (ou #[t,tx] ty #[.slice base len cap,x]).run P w=.ok (.slice base len cap) w:=by
  have h1:(jz i.size 0 x).run P w=.ok #[] w:=hs.cells
  cases base with
  |none=>rcases hs.kind with ⟨e',hk⟩|hk<;>simp [ou,fi ht,fi hk,sizeOf,typeInfo,hi,hs.len,hc,h1]
  |some a=>rcases hs.kind with ⟨e',hk⟩|hk<;>simp [ou,fi ht,fi hk,sizeOf,typeInfo,hi,hs.len,hc,h1,storeCells]
theorem z8a {z:Array Value} {n m:Nat} (hz:z.size=m):(Builtin.zeroCells z n).size=n*m:=by simp [Builtin.zeroCells,hz]
theorem zva {t tx ty e:fc} {ie:TypeInfo} {z:Value} (hu:P.underlying t=some (.slice e)) (g1:P.info? e=some ie) (g4:ie.zero=some z) (hzs:z.cells.size=ie.size) (hsz:0<ie.size)
    {base:Option Addr} {len cap n:Nat} {olds news:List Value} {y':Value} (hold:(jz ie.size len (.slice base len cap)).run P w.drew=.ok olds.toArray w.drew) (hs:Src P ie.size tx y' n news w) (hol:olds.length=len*ie.size)
    (hg:cap<len+n) (h5:len+n<=1000000000) (h6:(len+n)*ie.bytes<=1000000000) :
    ∃ (C:Array Value) (more:List Value) (newCap:Nat),(ou #[t,tx] ty #[.slice base len cap,y']).run P w=.ok (.slice (some ⟨w.heap.size,0,none⟩) (len+n) newCap) (w.drew.alloc (.cells C e)) /\
      C.toList=(olds++news)++more/\C.size=newCap*ie.size/\len+n<=newCap/\newCap<=maxLen:=by
  have hr:=run_append_grow_src (P:=P) w t tx ty e ie z hu g1 g4 base len cap olds hold y' n news hs hg (by omega) (growslice_fits hg (by omega));have h1:=grownCap_ge w (len+n) cap e;have h2:=grownCap_le_maxLen w (len+n) cap e (by unfold maxLen;omega);refine ⟨_,_,_,hr,by rw [Array.toList_append],?_,h1,h2⟩;rw [Array.size_append,z8a hzs];simp only [List.size_toArray,eu,hol,hs.newsLen];rw [<- jc,<- jc];congr 1;omega
set_option maxHeartbeats 1000000 in
theorem ydq (hE:zei P Γ) (hr:Rel σ V s w) (hV:zci V s') (hF:zeq σ s.n s'.n) {t tx ty:fc} {x x' y y':Value} (h:zdd Γ s t y x=some (v,s')) (htx:srcT Γ tx=true) (hx:VR σ x x') (hy:VR σ y y') :
    DidV σ V s w ((ou #[t,tx] ty #[x',y']).run P w) v s':=by
  unfold zdd at h;split at h
  . rename_i base len cap
    cases hi:zen Γ t with
    |none=>rw [hi] at h;simp at h
    |some j =>
      rw [hi] at h;simp only at h;obtain ⟨e,hu,hti⟩:=zw4 hE hi;obtain ⟨ie,z,g1,g2,g3,g4,g5,g6⟩:=hti.info;have hzs:z.cells.size=j.size:=by rw [<- io,g5];exact hti.len
      unfold CS.append at h
      cases hn:lenC y with
      |none=>rw [hn] at h;simp at h
      |some n =>
        rw [hn] at h;simp only at h
        cases hq:s.firstCells j.size n y with
        |none=>rw [hq] at h;simp at h
        |some p =>
          obtain ⟨new,s1⟩:=p;rw [hq] at h;simp only at h
          cases hb:(fw 1000000000 ((len+n)*(j.bytes+1)) || er j.size 0 || gj 1000 j.size || !(new.all oneC)) with
          |true=>rw [hb] at h;simp at h
          |false =>
            rw [hb] at h;simp only [cond_false] at h;simp only [Bool.or_eq_false_iff] at hb;obtain ⟨⟨⟨hb1,hb2⟩,hb3⟩,hb4⟩:=hb
            have q1:(len+n)*(j.bytes+1)<=1000000000:=by
              by_cases hh:(len+n)*(j.bytes+1)<=1000000000
              . exact hh
              . rw [zaf.2 (by omega)] at hb1;simp at hb1
            have q2:j.size≠0:=by rintro h0;rw [h0] at hb2;simp at hb2
            have q3:j.size<1000:=by
              by_cases hh:j.size<1000
              . exact hh
              . rw [zbk.2 (by omega)] at hb3;simp at hb3
            have q4:new.all oneC=true:=by simpa using hb4
            have q5:len+n<=1000000000:=kh (Nat.le_mul_of_pos_right _ (by omega)) q1;have q6:(len+n)*j.bytes<=1000000000:=kh (Nat.mul_le_mul_left _ (by omega)) q1;obtain ⟨c1,k1,n1,o1⟩:=zh4 (σ:=σ) (V:=V) (w:=w) hq;have hr1:=k1 hr
            -- what is appended, once the plain machine's later steps are known to keep the log
            have hsrc:Can s1 s'->∃ new',Src P ie.size tx y' n new' w/\RL (VR σ) new new'/\new'.length=n*j.size/\Ext σ V s w σ s1 w:=by
              intro hc;obtain ⟨new',e1,e2,e3,_,_,e4⟩:=zpm (P:=P) hr hq (hV.back hc) ⟨n,hn,ei _⟩ hy;refine ⟨new',⟨ye2 hE htx,ylb hn hy,?_,?_,?_,e2.one q4⟩,e2,e3,e4⟩
              . rw [g2];exact e1 w rfl
              . rw [g2];exact e1 w.drew rfl
              . rw [g2];exact e3
            have q6':(len+n)*ie.bytes<=1000000000:=by rw [g3];exact q6
            have htag:∀ m,(m*1024+(j.size+1)) % 1024=j.size+1:=fun m=>by omega
            cases base with
            |none =>
              simp only at h;obtain ⟨rfl,rfl,rfl⟩:=hx.out
              cases hn0:er n 0 with
              |true =>
                rw [hn0] at h;simp only [cond_true,dy,ec] at h;obtain ⟨rfl,rfl⟩:=h;have h0:n=0:=eg hn0;subst h0;obtain ⟨new',hs,_,e3,e4⟩:=hsrc (Can.refl _);have:new'=[]:=jk (by simpa using e3);subst this;exact ⟨σ,w,_,znj hu g1 hs (ei _),hx,hr1,e4⟩
              |false =>
                rw [hn0] at h;simp only [cond_false,f6] at h
                have hn1:0<n:=by
                  rcases Nat.eq_zero_or_pos n with h0|h0
                  . rw [h0] at hn0;simp at hn0
                  . exact h0
                obtain ⟨a,h1,rfl⟩:=zj3 h;have c2:Can s1 s':=zho (by omega) h1;obtain ⟨new',hs,e2,e3,e4⟩:=hsrc c2;obtain ⟨C,more,newCap,r1,r2,r3,r4,r5⟩:=zva (P:=P) (w:=w) (ty:=ty) hu g1 g4 (by rw [hzs,g2]) (by omega) (base:=none) (len:=0) (cap:=0) (olds:=[]) (by simp [jz]) hs (by simp) (by omega) (by omega) (by simpa using q6');simp only [f6,List.nil_append] at r1 r2 r4;obtain ⟨rfl,_,m1,m2,m3⟩:=zlt (w0:=w.drew) h1 hr1 (hF.mono (by omega) (ei _)) (by omega) ⟨rfl,rfl,rfl,rfl⟩ C e (0,0) (by intro j _;simp) new' more r2 e2;refine ⟨_,_,_,r1,?_,m1,e4.trans m2 c1 c2 hF hr.none⟩;refine VR.mk ⟨_,_,_,m3,_,newCap,rfl,ei _,r4,r5,fun _=>rfl,fun h0=>?_,fun _ _=>?_⟩
                . exfalso;have:(s1.n*1024+(j.size+1)) % 1024=0:=h0;omega
                . show 0+0+newCap*((s1.n*1024+(j.size+1)) % 1024 - 1)<=C.size;rw [htag,r3,g2]
                  simp
            |some a =>
              simp only at h;obtain ⟨b,o,zz,hσ,a',c',rfl,v1,v2,v3,v4,v5,v6⟩:=hx.out
              cases hroom:gj (len+n) cap with
              |true =>
                rw [hroom] at h;simp only [cond_true] at h;have hle:=zbk.1 hroom
                cases hn0:er n 0 with
                |true =>
                  rw [hn0] at h;simp only [cond_true,dy,ec] at h;obtain ⟨rfl,rfl⟩:=h;have h0:n=0:=eg hn0;subst h0;obtain ⟨new',hs,_,e3,e4⟩:=hsrc (Can.refl _);have:new'=[]:=jk (by simpa using e3);subst this;exact ⟨σ,w,_,znj hu g1 hs (by omega),hx,hr1,e4⟩
                |false =>
                  rw [hn0] at h;simp only [cond_false] at h
                  have hn1:0<n:=by
                    rcases Nat.eq_zero_or_pos n with h0|h0
                    . rw [h0] at hn0;simp at hn0
                    . exact h0
                  cases hw:s1.write (Addr.plus a (len*j.size)) new with
                  |none=>rw [hw] at h;simp at h
                  |some s2 =>
                    rw [hw] at h;simp only [dy,ec] at h;obtain ⟨rfl,rfl⟩:=h;have c2:Can s1 s2:=yd5 hr1 hw;obtain ⟨new',hs,e2,e3,e4⟩:=hsrc c2;have:=v4 (by omega);subst this;obtain ⟨w1,w2,w3,w4,w5⟩:=z28 hw hr1 hV (a:=Addr.plus a (len*j.size)) hσ e2;have hoff:o+(Addr.plus a (len*j.size)).off=o+a.off+len*ie.size:=by rw [g2];show o+(a.off+len*j.size)=_;omega
                    rw [hoff] at w1 w2 w4 w5;have hrun:=run_append_room_src (P:=P) w t tx ty e ie hu g1 b (o+a.off) len c' y' n new' hs (by omega) w1 w2;refine ⟨σ,_,_,hrun,?_,w4,e4.trans w5 c1 c2 hF hr.none⟩;exact VR.mk ⟨b,o,zz,hσ,_,c',rfl,hle,v2,v3,fun _=>rfl,v5,v6⟩
              |false =>
                rw [hroom] at h;simp only [cond_false] at h
                have hgt:cap<len+n:=by
                  by_cases hh:len+n<=cap
                  . rw [zbk.2 hh] at hroom;simp at hroom
                  . omega
                -- the old cells
                cases hold:(bif er len 0 then some ([],s1) else s1.firstCells j.size len (.slice (some a) len cap)) with
                |none=>rw [hold] at h;simp at h
                |some p =>
                  obtain ⟨old,s2⟩:=p;rw [hold] at h;simp only at h
                  have keep2:Can s1 s2/\Rel σ V s2 w/\s2.n=s1.n/\s2.obj=s1.obj:=by
                    cases hl0:er len 0 with
                    |true =>
                      rw [hl0] at hold;simp only [cond_true,dy,ec] at hold;obtain ⟨_,rfl⟩:=hold;exact ⟨Can.refl _,hr1,rfl,rfl⟩
                    |false =>
                      rw [hl0] at hold;simp only [cond_false] at hold;obtain ⟨x1,x2,x3,x4⟩:=zh4 (σ:=σ) (V:=V) (w:=w) hold;exact ⟨x1,x2 hr1,x3,x4⟩
                  obtain ⟨c2,hr2,n2,o2⟩:=keep2
                  have holds:zci V s2->∃ old',(∀ w0:World,w0.heap=w.heap->(jz ie.size len (.slice (some a') len c')).run P w0=.ok old'.toArray w0)/\RL (VR σ) old old'/\old'.length=len*ie.size/\Ext σ V s1 w σ s2 w:=by
                    intro hV2
                    cases hl0:er len 0 with
                    |true =>
                      rw [hl0] at hold;simp only [cond_true,dy,ec] at hold;obtain ⟨rfl,rfl⟩:=hold;have:len=0:=eg hl0;subst this;exact ⟨[],fun w0 _=>by simp [jz,loadCells,loadCellsFrom],trivial,by simp,Ext.refl _ _ _ _⟩
                    |false =>
                      rw [hl0] at hold;simp only [cond_false] at hold;obtain ⟨old',e1,e2,e3,_,_,e4⟩:=zpm (P:=P) hr1 hold hV2 ⟨len,rfl,ei _⟩ hx;exact ⟨old',fun w0 hw0=>by rw [g2];exact e1 w0 hw0,e2,by rw [g2];exact e3,e4⟩
                  have hF2:zeq σ s2.n s'.n:=hF.mono (by omega) (ei _)
                  cases ht0:er (Addr.ver a % 1024) 0 with
                  |true =>
                    rw [ht0] at h;simp only [cond_true] at h;have htg:Addr.ver a % 1024=0:=eg ht0;obtain ⟨a2,h1,rfl⟩:=zj3 h;have c3:Can s2 s':=zho (by omega) h1;obtain ⟨new',hs,e2,e3,e4⟩:=hsrc (c2.trans c3);obtain ⟨old',f1,f2,f3,f4⟩:=holds (hV.back c3);obtain ⟨C,more,newCap,r1,r2,r3,r4,r5⟩:=zva (P:=P) (w:=w) (ty:=ty) hu g1 g4 (by rw [hzs,g2]) (by omega) (f1 w.drew rfl) hs f3 (by rw [v5 htg];omega) q5 q6';obtain ⟨rfl,_,m1,m2,m3⟩:=zlt (w0:=w.drew) h1 hr2 hF2 (by omega) ⟨rfl,rfl,rfl,rfl⟩ C e (0,0) (by intro j _;simp) _ more r2 (f2.append e2);refine ⟨_,_,_,r1,?_,m1,(e4.trans f4 c1 c2 (hF.mono (ei _) (by have:=c3.n;omega)) hr.none).trans m2 (c1.trans c2) c3 hF hr.none⟩;refine VR.mk ⟨_,_,_,m3,_,newCap,rfl,ei _,r4,r5,fun _=>rfl,fun h0=>?_,fun _ _=>?_⟩
                    . exfalso;have:(s2.n*1024+(j.size+1)) % 1024=0:=h0;omega
                    . show 0+0+newCap*((s2.n*1024+(j.size+1)) % 1024 - 1)<=C.size;rw [htag,r3,g2]
                      simp
                  |false =>
                    rw [ht0] at h;simp only [cond_false] at h
                    cases ht1:er (Addr.ver a % 1024) (j.size+1) with
                    |false=>rw [ht1] at h;simp at h
                    |true =>
                      rw [ht1] at h;simp only [cond_true] at h;have htg:Addr.ver a % 1024=j.size+1:=eg ht1;have c3:Can s2 s':=ylk hr2 (by omega) h;obtain ⟨new',hs,e2,e3,e4⟩:=hsrc (c2.trans c3);obtain ⟨old',f1,f2,f3,f4⟩:=holds (hV.back c3);obtain ⟨cs,x1,x2,x3,x4,x5⟩:=znx h;have hext:=e4.trans f4 c1 c2 (hF.mono (ei _) (by have:=c3.n;omega)) hr.none;by_cases hin:len+n<=c'
                      . -- in place
                        have:=v4 (by omega);subst this;have hb6:=v6 (by omega) (by omega);rw [htg] at hb6;simp only [Nat.add_sub_cancel] at hb6;have hmul:(len+n)*j.size<=c'*j.size:=kp _ hin;rw [jc] at hmul;have hnl:new.length=n*j.size:=by rw [e2.length];exact e3
                        have holdd:old=cs.drop a.off:=by
                          have hdl:(cs.drop a.off).length=len*j.size:=by rw [ir];omega
                          cases hl0:er len 0 with
                          |true =>
                            rw [hl0] at hold;simp only [cond_true,dy,ec] at hold;have:len=0:=eg hl0;subst this;rw [<- hold.1];exact (jk (by simpa using hdl)).symm
                          |false =>
                            rw [hl0] at hold;simp only [cond_false] at hold;unfold CS.firstCells at hold;simp only at hold
                            cases hz0:er (len*j.size) 0 with
                            |true =>
                              exfalso;have h0:=eg hz0;rcases Nat.mul_eq_zero.1 h0 with h0|h0
                              . rw [h0] at hl0;simp at hl0
                              . exact q2 h0
                            |false =>
                              rw [hz0] at hold;simp only [cond_false] at hold
                              cases hq2:s1.readRow a with
                              |none=>rw [hq2] at hold;simp at hold
                              |some p2 =>
                                obtain ⟨cs2,s3⟩:=p2;rw [hq2] at hold;simp only at hold;have hrow2:=(zhm hq2).1;rw [o2] at x2;rw [x2] at hrow2;cases hrow2
                                cases hcut:cut cs a.off (len*j.size) with
                                |none=>rw [hcut] at hold;simp at hold
                                |some l =>
                                  rw [hcut] at hold;simp only [dy,ec] at hold;rw [<- hold.1];unfold cut at hcut;dsimp only at hcut;rw [List.take_of_length_le (by omega)] at hcut
                                  cases hbq:er (cs.drop a.off).length (len*j.size) with
                                  |false=>rw [hbq] at hcut;simp at hcut
                                  |true=>rw [hbq] at hcut;simp only [cond_true,dy] at hcut;exact hcut.symm
                        rw [x3] at h;obtain ⟨y1,y2,y3,y4,y5,y6,y7⟩:=yqk h hr2 hV hF2 (by omega) hσ x2 holdd (by omega) e2 q4 (by omega);have hrun:=run_append_room_src (P:=P) w t tx ty e ie hu g1 b (o+a.off) len c' y' n new' hs hin (by rw [g2,show o+a.off+len*j.size=o+cs.length by omega];exact y2) (by rw [g2,show o+a.off+len*j.size=o+cs.length by omega];exact y3);rw [g2,show o+a.off+len*j.size=o+cs.length by omega] at hrun;subst y1;refine ⟨_,_,_,hrun,?_,y5,hext.trans y6 (c1.trans c2) c3 hF hr.none⟩;refine VR.mk ⟨b,o+a.off,zz,y7,_,c',rfl,ei _,hin,v3,fun _=>rfl,fun h0=>?_,fun _ _=>?_⟩
                        . exfalso;have:(s2.n*1024+(j.size+1)) % 1024=0:=h0;omega
                        . show o+a.off+0+c'*((s2.n*1024+(j.size+1)) % 1024 - 1)<=zz;rw [htag];simp only [Nat.add_sub_cancel];omega
                      . obtain ⟨C,more,newCap,r1,r2,r3,r4,r5⟩:=zva (P:=P) (w:=w) (ty:=ty) hu g1 g4 (by rw [hzs,g2]) (by omega) (f1 w.drew rfl) hs f3 (by omega) q5 q6';obtain ⟨rfl,m1,m2,m3⟩:=ylj (w0:=w.drew) h hr2 hV hF2 (by omega) ⟨rfl,rfl,rfl,rfl⟩ C e _ more r2 (f2.append e2);refine ⟨_,_,_,r1,?_,m1,hext.trans m2 (c1.trans c2) c3 hF hr.none⟩;refine VR.mk ⟨_,_,_,m3,_,newCap,rfl,ei _,r4,r5,fun _=>rfl,fun h0=>?_,fun _ _=>?_⟩
                        . exfalso;have:(s2.n*1024+(j.size+1)) % 1024=0:=h0;omega
                        . show 0+0+newCap*((s2.n*1024+(j.size+1)) % 1024 - 1)<=C.size;rw [htag,r3,g2];simp
  . simp at h
end
end
end Go.Proofs.YteifcnjpjjaikaaGreat
