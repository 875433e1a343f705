/- Part 5 of the proof of FitMovesAsSpecified (several texts in one; no further condition). -/
import Derived.Test.YteifcnjpjjaikaaGreatZD
import Derived.Test.YteifcnjpjjaikaaGreatProg
import Derived.KernelRfl
import GoSem.Claim
import Derived.ProofKit
import Derived.OpenShut
import Derived.ShutString
import Derived.ChangeOld
import Derived.Below
import Derived.Carry
import Derived.Deep.Slices
import Derived.SizedLaws
import Derived.JoinedCond
set_option linter.unusedSimpArgs false
set_option linter.unusedVariables false
set_option linter.unusedSectionVars false
namespace Go.Proofs.YteifcnjpjjaikaaGreat
open Go.Addr renaming add_lit->l9
open _root_.And renaming intro->dr
open _root_.Array renaming getElem?_eq_getElem->ji
open _root_.BitVec renaming ofInt->gq
open _root_.Bool renaming and_eq_true->dz,and_self->ef,not_eq_false'->n9,not_eq_true'->ou,or_eq_true->kc,true_and->jn
open Go.Proofs.YteifcnjpjjaikaaGreat.Bx renaming le_refl->jm
open _root_.Eq renaming trans->eg
open Go.Proofs.YteifcnjpjjaikaaGreat.Fr renaming get_put_same->qg
open Go renaming IntKind->gl,Operand->ej,Program->fd,TypeId->ez
open Go.Proofs.YteifcnjpjjaikaaGreat.Left renaming trans->qr
open _root_.List renaming all_append->kw,all_cons->gy,all_eq_true->fe,all_nil->nq,append_assoc->ew,append_nil->fo,cons_append->fk,drop_append->lu,drop_drop->kb,drop_of_length_le->gu,drop_succ_cons->jh,drop_zero->fl,flatMap_cons->iu,flatten_cons->f5,getD_eq_getElem?_getD->eh,getElem?_append_left->fj,getElem?_append_right->gi,getElem?_cons_zero->fp,getElem?_drop->js,getElem?_eq_getElem->d6,getElem?_eq_some_iff->ek,getElem?_map->kg,getElem?_take->lz,getElem_of_mem->ku,length_append->ep,length_cons->et,length_drop->ii,length_map->ed,length_nil->gb,length_take->gh,map_cons->gj,mem_cons->ij,mem_map->ic,mem_of_getElem?->gv,mem_of_mem_drop->ko,mem_singleton->lc,nil_append->eu,replicate->el,replicate_succ->i8,take_append->np,take_append_drop->jg,take_of_length_le->fx,take_zero->lh
open _root_.Nat renaming add_mul->iy,add_zero->gw,beq->ei,ble->gc,blt->fq,eq_of_beq_eq_true->ec,le_refl->ee,le_trans->jx,one_mul->ni,reduceAdd->d8,reduceSub->gp,testBit->gm,testBit_two_pow_sub_one->jp,zero_add->fy,zero_le->ft
open _root_.Option renaming bind_some->dw
open _root_.Option.some renaming injEq->du
open _root_.Prod.mk renaming injEq->d7
open Go.Proofs.YteifcnjpjjaikaaGreat.T renaming cells->gn,ids->nv,idsL->ir,int->dy
open Go.Value renaming int->la,okWide->qa
set_option maxRecDepth 100000
open Go Go.RowKit
theorem Ar.len {n:Nat} (a:Ar n):a.l.length=n:=a.h
def Ar.set {n:Nat} (a:Ar n) (i v:Int):Ar n:=⟨a.l.set i.toNat v,by rw [List.length_set,a.h]⟩
theorem yir {k:gl} {n:Nat} (a:Ar n):eAr k a=.agg (a.l.map (dy k)):=eg rfl rfl
theorem arIx {n:Nat} (a:Ar n) {i:Int} (h:0<=i/\i<(n:Int)):a.l[i.toNat]?=some (gx a.l i):=zaf (by rw [a.h];exact h)
theorem arSpl {k:gl} {n:Nat} (a b:Ar n):spl (a.l.map (dy k)) 0 (b.l.map (dy k))=b.l.map (dy k):=by
  unfold spl;rw [lh,eu,gu (by rw [ed,ed,a.h,b.h];omega),fo]
theorem yqr {k:gl} {n:Nat} (a:Ar n) {i:Int} (v:Int) (h:0<=i/\i<(n:Int)):spl (a.l.map (dy k)) i.toNat [dy k v]=(a.set i v).l.map (dy k):=by
  exact zu4 (f:=dy k) (v:=v) (L:=a.l) (i:=i.toNat) (by rw [a.h];omega)
def u8o (z:Int):UInt8:=UInt8.ofNat z.toNat
def strL (l:List Int):ByteArray:=⟨(l.map u8o).toArray⟩
def bytL (s:ByteArray):List Int:=s.data.toList.map fun c=>(c.toNat:Int)
theorem ybt (s:ByteArray):(bytL s).length=s.size:=by unfold bytL;rw [ed];exact Array.length_toList
theorem z6b (s:ByteArray):z6c s=(bytL s).map (dy .u8):=by
  unfold z6c bytL;rw [List.map_map];rfl
theorem z2w:∀ (l:List Int),yjh (l.map (dy .u8))=some (l.map u8o)
  |[]=>rfl
  |x :: l=>by rw [gj];unfold yjh;rw [z2w l];rfl
theorem z8y (l:List Int):(⟨(l.map u8o).toArray⟩:ByteArray)=strL l:=eg rfl rfl
theorem z2p {k:gl}:∀ (l:List Int),(l.map (dy k)).flatMap gn=l.map (dy k)
  |[]=>rfl
  |x :: l=>by rw [gj,iu,z2p l];rfl
theorem yo8 {k:gl} {l:List Int} {n:Nat} (h:l.length=n):(l.map (dy k)).take n=l.map (dy k):=fx (by rw [ed,h];omega)
theorem yd6 {k:gl} {l:List Int}:(l.map (dy k)).take l.length=l.map (dy k):=yo8 rfl
def cpA {n:Nat} (a:Ar n) (s:ByteArray):Ar n:=⟨(bytL s).take (min s.size n)++a.l.drop (min s.size n),by rw [ep,gh,ii,ybt,a.h];omega⟩
theorem yop {n:Nat} (a:Ar n) (s:ByteArray):spl (a.l.map (dy .u8)) 0 (((bytL s).map (dy .u8)).take (min s.size n))=(cpA a s).l.map (dy .u8):=by
  unfold spl cpA;rw [lh,eu,gh,ed,ybt,List.map_append,List.map_take,List.map_drop,fy];congr 2;omega
theorem yji {k:gl} {l:List Int} {n:Nat}:((l.map (dy k)).take n).all T.one=true:=by rw [<- List.map_take];exact zsj _
theorem yoo {n:Nat}:zeh n n none none none=some (0,n,n):=ydb (ee _)
theorem sub0 {n:Nat}:n - 0=n:=Nat.sub_zero n
inductive CK where
  |int (k:gl)
  |bool
  |str
def ckV:CK->Value->Bool
  |.int k,.int k' _=>decide (k=k')
  |.bool,.bool _=>true
  |.str,.string _=>true
  |_,_=>false
def zf9:List CK->List Value->Bool
  |[],[]=>true
  |c :: l,v :: m=>ckV c v && zf9 l m
  |_,_=>false
def zto:Value->Value->Bool
  |.int _ a,.int _ b=>a == b
  |.bool a,.bool b=>a == b
  |.string a,.string b=>a == b
  |_,_=>false
def eqVs:List Value->List Value->Bool
  |v :: l,w :: m=>zto v w && eqVs l m
  |_,_=>true
theorem zrd:∀ {sh:List CK} {xs:List Value},zf9 sh xs=true->xs.length=sh.length
  |[],[],_=>rfl
  |_ :: _,_ :: _,h=>by
    simp only [zf9,dz] at h;rw [et,et,zrd h.2]
  |[],_ :: _,h=>by simp [zf9] at h
  |_ :: _,[],h=>by simp [zf9] at h
theorem zov {c:CK}:∀ {xs:List Value},zf9 [c] xs=true->∃ v,xs=[v]/\ckV c v=true
  |[],h=>by simp [zf9] at h
  |[v],h=>⟨v,rfl,by simpa [zf9] using h⟩
  |_ :: _ :: _,h=>by simp [zf9] at h
theorem zsh:∀ {a b:List CK} {xs:List Value},zf9 (a++b) xs=true->zf9 a (xs.take a.length)=true/\zf9 b (xs.drop a.length)=true
  |[],b,xs,h=>⟨by simp [zf9],by simpa using h⟩
  |c :: a,b,[],h=>by simp [zf9] at h
  |c :: a,b,v :: xs,h=>by
    simp only [fk,zf9,dz] at h;obtain ⟨h1,h2⟩:=zsh h.2;exact ⟨by simp only [et,List.take_succ_cons,zf9,h.1,h1,ef],by simpa using h2⟩
theorem zmq:∀ {a b c d:List Value},a.length=c.length->eqVs (a++b) (c++d)=(eqVs a c && eqVs b d)
  |[],b,[],d,_=>rfl
  |x :: a,b,y :: c,d,h=>by
    simp only [fk,eqVs,zmq (Nat.succ.inj h),Bool.and_assoc]
  |[],_,_ :: _,_,h=>by simp at h
  |_ :: _,_,[],_,h=>by simp at h
def valA (a:Bool) (xs:List Value):Value:=if a then .agg xs.toArray else xs.headD undef
noncomputable def zpo (P:fd) (g:ez->Option (Bool×List CK)):List Field->Nat->Option (List CK)
  |[],_=>some []
  |f :: l,off=>match g f.type,(P.info? f.type).map (fun i=>i.size) with
    | some (_, sh), some sz => if f.name ≠ "_" /\ f.offset = off /\ sz = sh.length then
        (match zpo P g l (off+sh.length) with|some r=>some (sh++r)|none=>none) else none
    |_,_=>none
noncomputable def zhj (P:fd):Nat->ez->Option (Bool×List CK)
  |0,_=>none
  |d+1,t=>match P.underlying t with
    |some (.int k)=>some (false,[.int k])
    |some .bool=>some (false,[.bool])
    |some .string=>some (false,[.str])
    |some (.struct fs)=>if P.stoodInHeld t=true then none else (match zpo P (zhj P d) fs.toList 0 with|some l=>some (true,l)|none=>none)
    |some (.array n e)=>(match zhj P d e,(P.info? e).map (fun i=>i.size) with
      |some (_,sh),some sz=>if sz=sh.length then some (true,(el n sh).flatten) else none
      |_,_=>none)
    |_=>none
section
variable {P:fd}
theorem z2d {α σ:Type} (s0 s1:σ) (f:α->σ->Sem (ForInStep σ)) (b:α->Bool):∀ (l:List α),(∀ x,x∈l->zdg P (f x s0)=some (if b x then .yield s0 else .done s1))->zdg P (forIn l s0 f:Sem σ)=some (if l.all b then s0 else s1)
  |[],_=>by simp;rfl
  |x :: l,h=>by
    rw [List.forIn_cons,zay,h x (.head _)]
    cases hb:b x with
    |true =>
      show zdg P (forIn l s0 f)=_;rw [z2d s0 s1 f b l fun y hy=>h y (.tail _ hy),gy,hb,jn]
    |false =>
      rw [gy,hb,Bool.false_and];rfl
theorem yk5 {d:Nat} {t:ez} {a:Bool} {sh:List CK} (h:zhj P d t=some (a,sh)):zdg P (isAgg t)=some a:=by
  cases d with
  |zero=>simp [zhj] at h
  |succ d =>
    unfold zhj at h;unfold isAgg;rw [zay]
    cases hu:P.underlying t with
    |none=>rw [hu] at h;simp at h
    |some u =>
      rw [hu] at h;rw [zi9 hu]
      cases u with
      |int k=>simp at h;rw [<- h.1];rfl
      |bool=>simp at h;rw [<- h.1];rfl
      |string=>simp at h;rw [<- h.1];rfl
      |struct fs =>
        simp only at h;split at h
        . simp at h
        . split at h
          . simp at h;rw [<- h.1];rfl
          . simp at h
      |array n e =>
        simp only at h;split at h
        . split at h
          . simp at h;rw [<- h.1];rfl
          . simp at h
        . simp at h
      |_=>simp at h
theorem yew {d:Nat} {t:ez} {sh:List CK} (h:zhj P d t=some (false,sh)):∃ c,sh=[c]:=by
  cases d with
  |zero=>simp [zhj] at h
  |succ d =>
    unfold zhj at h;split at h
    . simp at h;exact ⟨_,h.symm⟩
    . simp at h;exact ⟨_,h.symm⟩
    . simp at h;exact ⟨_,h.symm⟩
    . split at h
      . simp at h
      . split at h<;>simp at h
    . split at h
      . split at h<;>simp at h
      . simp at h
    . simp at h
theorem z5i {t:ez} {sz:Nat} (h:(P.info? t).map (fun i=>i.size)=some sz):zdg P (sizeOf t)=some sz:=by
  cases hi:P.info? t with
  |none=>rw [hi] at h;simp at h
  |some i =>
    rw [hi] at h;unfold sizeOf typeInfo;rw [zay,zay];show ((zdg P (match P.info? t with|some i=>pure i|none=>_)).bind _)=_;rw [hi];simp at h;show zdg P (pure i.size)=_;rw [h];rfl
theorem zuh {d : Nat} {t : ez} {a : Bool} {sh : List CK} (h : zhj P d t = some (a, sh)) (hs : (P.info? t).map (fun i => i.size) = some sh.length) (xs : List Value) (off : Nat) (hl : off + sh.length <= xs.length) :
    zdg P (part t xs.toArray off)=some (valA a ((xs.drop off).take sh.length)):=by
  unfold part;rw [zay,yk5 h]
  cases a with
  |true =>
    show zdg P (do let n <- sizeOf t;pure (Value.agg (xs.toArray.extract off (off+n))))=_;rw [zay,z5i hs];show some (Value.agg (xs.toArray.extract off (off+sh.length)))=_;rw [List.extract_toArray,List.extract_eq_take_drop,Nat.add_sub_cancel_left];rfl
  |false =>
    obtain ⟨c,rfl⟩:=yew h;simp only [et,gb,fy] at hl ⊢;show zdg P (match xs.toArray[off]? with|some v=>pure v|none=>_)=_;rw [List.getElem?_toArray,d6 (by omega),List.drop_eq_getElem_cons (by omega)];rfl
theorem zz9 {g:ez->Option (Bool×List CK)}:∀ {l:List Field} {off:Nat} {sh:List CK} {xs ys:List Value},zpo P g l off=some sh->xs.length=off+sh.length->ys.length=off+sh.length ->
    (l.all fun f=>match g f.type with|some (_,s)=>eqVs ((xs.drop f.offset).take s.length) ((ys.drop f.offset).take s.length)|none=>true)=eqVs (xs.drop off) (ys.drop off)
  |[],off,sh,xs,ys,h,hx,hy=>by
    simp only [zpo,du] at h;subst h;rw [gu (by simp at hx;omega),gu (by simp at hy;omega)];rfl
  |f :: l,off,sh,xs,ys,h,hx,hy=>by
    unfold zpo at h;split at h
    . rename_i a s sz hg hs;split at h
      . rename_i hc;split at h
        . rename_i r hr;cases h;rw [ep] at hx hy;rw [gy,zz9 hr (by omega) (by omega),hg];simp only;rw [hc.2.1]
          have hr2:eqVs (xs.drop off) (ys.drop off)=(eqVs ((xs.drop off).take s.length) ((ys.drop off).take s.length) && eqVs (xs.drop (off+s.length)) (ys.drop (off+s.length))):=by
            conv=>lhs;rw [<- jg s.length (xs.drop off),<- jg s.length (ys.drop off)]
            rw [zmq (by rw [gh,gh,ii,ii];omega),kb,kb]
          rw [hr2]
        . cases h
      . cases h
    . cases h
theorem zpn {g : ez -> Option (Bool × List CK)} : ∀ {l : List Field} {off : Nat} {sh : List CK} {xs : List Value}, zpo P g l off = some sh -> xs.length = off + sh.length -> zf9 sh (xs.drop off) = true -> ∀ f, f ∈ l -> ∃ a s, g f.type = some (a, s) /\ (P.info? f.type).map (fun i => i.size) = some s.length /\ f.name ≠ "_" /\ f.offset + s.length <= xs.length /\ zf9 s ((xs.drop f.offset).take s.length) = true
  |[],off,sh,xs,h,hx,hf,f,hm=>by cases hm
  |f' :: l,off,sh,xs,h,hx,hf,f,hm=>by
    unfold zpo at h;split at h
    . rename_i a s sz hg hs;split at h
      . rename_i hc;split at h
        . rename_i r hr;cases h;rw [ep] at hx;obtain ⟨f1,f2⟩:=zsh hf;rw [kb] at f2
          cases hm with
          |head=>exact ⟨a,s,hg,by rw [hs,hc.2.2],hc.1,by rw [hc.2.1];omega,by rw [hc.2.1];exact f1⟩
          |tail _ hm=>exact zpn hr (by omega) f2 f hm
        . cases h
      . cases h
    . cases h
theorem ya4 {s:List CK}:∀ (n k:Nat) {xs ys:List Value},xs.length=(k+n)*s.length->ys.length=(k+n)*s.length ->
    ((List.range' k n).all fun i=>eqVs ((xs.drop (i*s.length)).take s.length) ((ys.drop (i*s.length)).take s.length))=eqVs (xs.drop (k*s.length)) (ys.drop (k*s.length))
  |0,k,xs,ys,hx,hy=>by
    rw [gu (by rw [hx];exact ee _),gu (by rw [hy];exact ee _)];rfl
  |n+1,k,xs,ys,hx,hy=>by
    have e:(k+(n+1))*s.length=k*s.length+s.length+n*s.length:=by rw [iy,iy,ni];omega
    rw [List.range'_succ,gy,ya4 n (k+1) (by rw [hx];congr 1;omega) (by rw [hy];congr 1;omega)];rw [iy,ni,<- kb,<- kb,<- zmq (by rw [gh,gh,ii,ii];omega),jg,jg]
theorem z2a {s:List CK}:∀ {n:Nat} {xs:List Value},zf9 (el n s).flatten xs=true->∀ i,i<n->zf9 s ((xs.drop (i*s.length)).take s.length)=true
  |0,xs,h,i,hi=>by omega
  |n+1,xs,h,i,hi=>by
    rw [i8,f5] at h;obtain ⟨h1,h2⟩:=zsh h
    cases i with
    |zero=>simpa using h1
    |succ i =>
      have:=z2a h2 i (by omega);rw [kb] at this;rw [iy,ni,Nat.add_comm];exact this
theorem yob:∀ (d:Nat) {t:ez} {a:Bool} {sh:List CK},zhj P d t=some (a,sh)->∀ {xs ys:List Value},zf9 sh xs=true->zf9 sh ys=true->zdg P (Op.equalIn d t (valA a xs) (valA a ys))=some (eqVs xs ys):=by
  intro d
  induction d with
  |zero=>intro t a sh h;simp [zhj] at h
  |succ d ih =>
    intro t a sh h xs ys hx hy;have hpu:∀ {α:Type} (v:α),zdg P (pure v:Sem α)=some v:=fun v=>rfl;unfold zhj at h;unfold Op.equalIn;rw [zay]
    cases hu:P.underlying t with
    |none=>rw [hu] at h;simp at h
    |some u =>
      rw [hu] at h;rw [zi9 hu]
      cases u with
      |int k =>
        simp at h;obtain ⟨rfl,rfl⟩:=h;obtain ⟨v,rfl,h1⟩:=zov hx;obtain ⟨w,rfl,h2⟩:=zov hy
        . cases v<;>simp [ckV] at h1;cases w<;>simp [ckV] at h2;subst h1 h2
          simp [valA,eqVs,zto,hpu]
      |bool =>
        simp at h;obtain ⟨rfl,rfl⟩:=h;obtain ⟨v,rfl,h1⟩:=zov hx;obtain ⟨w,rfl,h2⟩:=zov hy
        . cases v<;>simp [ckV] at h1;cases w<;>simp [ckV] at h2
          simp [valA,eqVs,zto,hpu]
      |string =>
        simp at h;obtain ⟨rfl,rfl⟩:=h;obtain ⟨v,rfl,h1⟩:=zov hx;obtain ⟨w,rfl,h2⟩:=zov hy
        . cases v<;>simp [ckV] at h1;cases w<;>simp [ckV] at h2
          simp [valA,eqVs,zto,hpu]
      |struct fs =>
        simp only at h;split at h
        . simp at h
        . rename_i hst;split at h
          . rename_i l hl;simp at h;obtain ⟨rfl,rfl⟩:=h;have lx:=zrd hx;have ly:=zrd hy;have hall:=zz9 hl (by rw [lx];omega) (by rw [ly];omega);rw [fl,fl] at hall;simp only [valA,if_true,dw];rw [zay];show (((some P:Option fd)).bind _)=_;simp only [dw,zAd hst];rw [zay];show ((zdg P (forIn fs _ _)).bind _)=_;rw [<- Array.forIn_toList];rw [z2d (P:=P) (none,()) (some false,()) _ (fun f=>match zhj P d f.type with|some (_,s)=>eqVs ((xs.drop f.offset).take s.length) ((ys.drop f.offset).take s.length)|none=>true) fs.toList ?_]
            . rw [hall];cases eqVs xs ys<;>rfl
            . intro f hf;obtain ⟨a,s,g1,g2,g3,g4,g5⟩:=zpn hl (by rw [lx];omega) (by rw [fl];exact hx) f hf;obtain ⟨a',s',g1',_,_,g4',g5'⟩:=zpn hl (by rw [ly];omega) (by rw [fl];exact hy) f hf;rw [g1] at g1';cases g1';rw [zAc g3,zay,zuh g1 g2 _ _ g4];simp only [dw];rw [zay,zuh g1 g2 _ _ g4'];simp only [dw];rw [zay,ih g1 g5 g5',g1];simp only [dw];have hq:∀ q:Bool,zdg P (if (!q)=true then pure (ForInStep.done (some false,())) else pure (ForInStep.yield (none,())):Sem (ForInStep (Option Bool×Unit)))=some (if q=true then .yield (none,()) else .done (some false,())):=by intro q;cases q<;>rfl
              exact hq _
          . simp at h
      |array n e =>
        simp only at h;split at h
        . rename_i ae se sz hse hsz;split at h
          . rename_i hc;subst hc;simp at h;obtain ⟨rfl,rfl⟩:=h;have lx:=zrd hx;have ly:=zrd hy;have hlen:(el n se).flatten.length=n*se.length:=by simp
            rw [hlen] at lx ly;simp only [valA,if_true,dw];rw [zay,z5i hsz];simp only [dw,yhy];rw [zay,z2d (P:=P) (none,()) (some false,()) _ (fun i=>eqVs ((xs.drop (i*se.length)).take se.length) ((ys.drop (i*se.length)).take se.length)) (List.range' 0 n) ?_]
            . rw [ya4 n 0 (by rw [lx];congr 1;omega) (by rw [ly];congr 1;omega),Nat.zero_mul,fl,fl];cases eqVs xs ys<;>rfl
            . intro i hi;have hin:i<n:=by have:=List.mem_range'_1.1 hi;omega
              have hle:i*se.length+se.length<=n*se.length:=by
                have:=Nat.mul_le_mul_right se.length (show i+1<=n by omega);rw [iy,ni] at this;exact this
              rw [zay,zuh hse hsz _ _ (by omega)];simp only [dw];rw [zay,zuh hse hsz _ _ (by omega)];simp only [dw];rw [zay,ih hse (z2a hx i hin) (z2a hy i hin)];simp only [dw];have hq:∀ q:Bool,zdg P (if (!q)=true then pure (ForInStep.done (some false,())) else pure (ForInStep.yield (none,())):Sem (ForInStep (Option Bool×Unit)))=some (if q=true then .yield (none,()) else .done (some false,())):=by intro q;cases q<;>rfl
              exact hq _
          . simp at h
        . simp at h
      |_=>simp at h
variable {Γ:Env} {S:TS} {t:ez} {x y:ej}
theorem z03 {sh:List CK} {l m:List T} {vs ws:List Value} (ht:zhj P 10000 t=some (true,sh)) (hq:P.eqGuardType P.depth t=false) (hl:zgv l=some vs) (hm:zgv m=some ws) (hx:zf9 sh vs=true) (hy:zf9 sh ws=true) {b:Bool} (hb:eqVs vs ws=b) :
    tBin P Γ S t .eql x y (.agg l) (.agg m)=some (.bool b)/\tBin P Γ S t .neq x y (.agg l) (.agg m)=some (.bool (!b)):=by
  have h:zdg P (Op.equal t (.agg vs.toArray) (.agg ws.toArray))=some b:=by rw [<- hb];exact yob 10000 ht hx hy
  have hg:∀ op,op=.eql\/op=.neq->zdg P (eqGuard op t x y (.agg vs.toArray) (.agg ws.toArray))=some ():=by
    intro op hop;rcases hop with rfl|rfl
    . show zdg P (if !(P.eqGuardType P.depth t) then pure () else _)=some ();rw [hq];rfl
    . show zdg P (if !(P.eqGuardType P.depth t) then pure () else _)=some ();rw [hq];rfl
  have he:zdg P (binOp .eql t (.agg vs.toArray) (.agg ws.toArray))=some (.bool b):=by
    show zdg P (do pure (Value.bool (<- Op.equal t (.agg vs.toArray) (.agg ws.toArray))):Sem Value)=_;rw [zay,h];rfl
  have hn:zdg P (binOp .neq t (.agg vs.toArray) (.agg ws.toArray))=some (.bool (!b)):=by
    show zdg P (do pure (Value.bool (!(<- Op.equal t (.agg vs.toArray) (.agg ws.toArray)))):Sem Value)=_;rw [zay,h];rfl
  constructor
  . show z0q P t .eql x y _ _=_;unfold z0q;rw [hl,hm];simp only;rw [zay,hg _ (.inl rfl)];show (match zdg P (binOp .eql t (.agg vs.toArray) (.agg ws.toArray)) with|some (.bool r)=>some (T.bool r)|_=>none)=_;rw [he]
  . show z0q P t .neq x y _ _=_;unfold z0q;rw [hl,hm];simp only;rw [zay,hg _ (.inr rfl)];show (match zdg P (binOp .neq t (.agg vs.toArray) (.agg ws.toArray)) with|some (.bool r)=>some (T.bool r)|_=>none)=_;rw [hn]
theorem zmi:∀ {a b:List T} {x y:List Value},zgv a=some x->zgv b=some y->zgv (a++b)=some (x++y)
  |[],b,x,y,h,h2=>by simp only [zgv,du] at h;subst h;exact h2
  |t :: a,b,x,y,h,h2=>by
    unfold zgv at h;split at h
    . rename_i v r e1 e2;cases h;rw [fk];unfold zgv;rw [e1,zmi e2 h2];rfl
    . cases h
theorem z5j {k:gl}:∀ {a b:List Int},a.length=b.length->eqVs (a.map (la k)) (b.map (la k))=decide (a=b)
  |[],[],_=>rfl
  |x :: a,y :: b,h=>by
    rw [gj,gj,eqVs,z5j (Nat.succ.inj h)];simp only [zto,List.cons.injEq,Bool.decide_and]
    congr 1
  |[],_ :: _,h=>by simp at h
  |_ :: _,[],h=>by simp at h
theorem z76 {k:gl} {n:Nat} (a b:Ar n):eqVs (a.l.map (la k)) (b.l.map (la k))=decide (a=b):=by
  rw [z5j (by rw [a.h,b.h])];exact decide_eq_decide.2 (Ar.eq_iff.symm)
theorem z5c {k:gl}:∀ {l:List Int} {r:List CK} {vs:List Value},zf9 r vs=true->zf9 (el l.length (.int k)++r) (l.map (la k)++vs)=true
  |[],r,vs,h=>h
  |x :: l,r,vs,h=>by
    rw [et,i8,gj,fk,fk,zf9,z5c h];simp [ckV]
end
section
variable {k:gl} {n m:Nat} (a b:Ar n) (r xs:List T)
theorem sgT (h:n<=m):(a.l.map (dy k)++r).take m=a.l.map (dy k)++r.take (m - n):=by
  rw [np,fx (by rw [ed,a.h];exact h),ed,a.h]
theorem sgT1 (h:n<=m):(a.l.map (dy k)).take m=a.l.map (dy k):=fx (by rw [ed,a.h];exact h)
theorem sgD (h:n<=m):(a.l.map (dy k)++r).drop m=r.drop (m - n):=by
  rw [lu,gu (by rw [ed,a.h];exact h),eu,ed,a.h]
theorem sgD1 (h:n<=m):(a.l.map (dy k)).drop m=[]:=gu (by rw [ed,a.h];exact h)
theorem sgG (h:n<=m):(a.l.map (dy k)++r)[m]?=r[m - n]?:=by
  rw [gi (by rw [ed,a.h];exact h),ed,a.h]
theorem splA:spl (a.l.map (dy k)++r) 0 (b.l.map (dy k)++xs)=b.l.map (dy k)++spl r 0 xs:=by
  unfold spl;rw [lh,lh,eu,eu,ew,fy,fy,ep,ed,b.h,<- kb];congr 3;rw [lu,gu (by rw [ed,a.h];exact ee _),ed,a.h,Nat.sub_self];rfl
theorem yrg:spl (a.l.map (dy k)++r) 0 (b.l.map (dy k))=b.l.map (dy k)++r:=by
  have:=splA (k:=k) a b r [];rw [fo] at this;rw [this,ype]
theorem yrf:spl (a.l.map (dy k)) 0 (b.l.map (dy k))=b.l.map (dy k):=arSpl a b
theorem splS (h:n<=m):spl (a.l.map (dy k)++r) m xs=a.l.map (dy k)++spl r (m - n) xs:=by
  unfold spl;rw [sgT a r h,lu,gu (by rw [ed,a.h];omega),ed,a.h,eu];simp only [ew];congr 4;omega
theorem ych (v:T) (h:n<=m):(a.l.map (dy k)++r).set m v=a.l.map (dy k)++r.set (m - n) v:=by
  rw [List.set_append,zAd (by rw [ed,a.h];omega),ed,a.h]
end
theorem zn4 {k:gl} {n off:Nat} {L r:List T} (a:Ar n) {i:Int} (h:0<=i/\i<(n:Int)) (hL:L.drop off=a.l.map (dy k)++r:=by first|rfl | (simp (disch:=decide) only [ew,fo,ep,fk,eu,ed,et,gb,Ar.len,sgD,sgD1,jh,fl,gp,d8,fy];done)):L[off+i.toNat]?=some (dy k (gx a.l i)):=by
  rw [<- js,hL,fj (by rw [ed,a.h];omega),kg,arIx a h];rfl
theorem zn3 {k:gl} {n:Nat} {L r:List T} (a:Ar n) {i:Int} (h:0<=i/\i<(n:Int)) (hL:L=a.l.map (dy k)++r:=by first|rfl | (simp (disch:=decide) only [ew,fo,ep,fk,eu,ed,et,gb,Ar.len,sgD,sgD1,jh,fl,gp,d8,fy];done)):L[i.toNat]?=some (dy k (gx a.l i)):=by
  have:=zn4 (off:=0) (L:=L) a h (by rw [fl];exact hL)
  rwa [fy] at this
theorem setAt {k:gl} {n off:Nat} {L L2 p r:List T} (a:Ar n) {i:Int} (v:Int) (h:0<=i/\i<(n:Int)) (hL:L=p++(a.l.map (dy k)++r):=by first|rfl | (simp (disch:=decide) only [ew,fo,ep,fk,eu,ed,et,gb,Ar.len,sgD,sgD1,jh,fl,gp,d8,fy];done)) (hp:p.length=off:=by first|rfl | (simp (disch:=decide) only [ew,fo,ep,fk,eu,ed,et,gb,Ar.len,sgD,sgD1,jh,fl,gp,d8,fy];done)) (h2:L2=p++((a.set i v).l.map (dy k)++r):=by first|rfl | (simp (disch:=decide) only [ew,fo,ep,fk,eu,ed,et,gb,Ar.len,sgD,sgD1,jh,fl,gp,d8,fy];done)):spl L (off+i.toNat) [dy k v]=L2:=by
  subst hL h2;have hs:=yqr (k:=k) a v h;unfold spl at hs ⊢;have hi:i.toNat+1<=n:=by omega
  rw [<- hs];simp only [et,gb,fy];rw [np,fx (show p.length<=off+i.toNat by omega),show off+i.toNat - p.length=i.toNat by omega,List.take_append_of_le_length (by rw [ed,a.h];omega)];rw [lu,gu (show p.length<=off+i.toNat+1 by omega),show off+i.toNat+1 - p.length=i.toNat+1 by omega,eu,List.drop_append_of_le_length (by rw [ed,a.h];omega)];simp only [ew]
theorem yez {k:gl} {n:Nat} {L L2 r:List T} (a:Ar n) {i:Int} (v:Int) (h:0<=i/\i<(n:Int)) (hL:L=a.l.map (dy k)++r:=by first|rfl | (simp (disch:=decide) only [ew,fo,ep,fk,eu,ed,et,gb,Ar.len,sgD,sgD1,jh,fl,gp,d8,fy];done)) (h2:L2=(a.set i v).l.map (dy k)++r:=by first|rfl | (simp (disch:=decide) only [ew,fo,ep,fk,eu,ed,et,gb,Ar.len,sgD,sgD1,jh,fl,gp,d8,fy];done)):spl L i.toNat [dy k v]=L2:=by
  have:=setAt (off:=0) (p:=[]) (L:=L) (L2:=L2) a v h hL rfl h2
  rwa [fy] at this
/-! bits of integers -/
def iAnd (k:gl) (a b:Int):Int:=k.wrap (gq k.bits a &&& gq k.bits b).toNat
def iOr (k:gl) (a b:Int):Int:=k.wrap (gq k.bits a ||| gq k.bits b).toNat
def iXor (k:gl) (a b:Int):Int:=k.wrap (gq k.bits a ^^^ gq k.bits b).toNat
def z7y (k:gl) (a b:Int):Int:=k.wrap (gq k.bits a &&& ~~~ gq k.bits b).toNat
theorem ymy {k:gl} {a b:Int}:zdf .and k k a b=some (.int k (iAnd k a b)):=yr9
theorem yr6 {k:gl} {a b:Int}:zdf .or k k a b=some (.int k (iOr k a b)):=ib_or
theorem ymx {k:gl} {a b:Int}:zdf .xor k k a b=some (.int k (iXor k a b)):=yr8
theorem yg4 {k:gl} {a b:Int}:zdf .andNot k k a b=some (.int k (z7y k a b)):=by simp [zdf,z7y]
theorem z66 {t:T} {l:List T} {v:Value} {r:List Value} (h:ye1 t=some v) (k:zgv l=some r):zgv (t :: l)=some (v :: r):=by
  unfold zgv;rw [h,k]
theorem yhz {c:CK} {v:Value} {r:List CK} {vs:List Value} (h:ckV c v=true) (k:zf9 r vs=true):zf9 (c :: r) (v :: vs)=true:=by
  rw [zf9,h,k];rfl
theorem ysj (k:gl) (n:Int):ckV (.int k) (.int k n)=true:=by simp [ckV]
theorem z71 {k:gl} {n:Nat} (a:Ar n) {r:List CK} {vs:List Value} (h:zf9 r vs=true):zf9 (el n (.int k)++r) (a.l.map (la k)++vs)=true:=by
  have:=z5c (k:=k) (l:=a.l) h
  rwa [a.h] at this
theorem yaw {k:gl} {n:Nat} (a:Ar n):zf9 (el n (.int k)) (a.l.map (la k))=true:=by
  have:=z71 (k:=k) a (r:=[]) (vs:=[]) rfl
  rwa [fo,fo] at this
theorem yin {k:gl} {n:Nat} (a b:Ar n) (x y:List Value):eqVs (a.l.map (la k)++x) (b.l.map (la k)++y)=(decide (a=b) && eqVs x y):=by
  rw [zmq (by rw [ed,ed,a.h,b.h]),z76]
theorem yhf {k:gl} {m:Nat} (l:List Int):(T.agg (l.map (dy k))).ids m=true:=zev l
theorem yje (l:List T):l++[]=l:=fo l
theorem z6k (a b c:List T):a++b++c=a++(b++c):=ew a b c
theorem zv8 (a b:List T):(a++b).length=a.length+b.length:=ep
theorem z2v (a b:List T) (p:T->Bool):(a++b).all p=(a.all p && b.all p):=kw
theorem z27 (n:Nat):([]:List T).take n=[]:=List.take_nil
theorem z5n (n:Nat):([]:List T).drop n=[]:=List.drop_nil
noncomputable def LL:List Nat:=[3,4,5,6,7,8,9,10,11,12,13,14,15,16,17,18,19,20,21,22,23,24,25,26,27,28,29,30,31,32,33,34,35,36,37,38,39,40,41,42,43,44,45,46,47,48,49,50,51,52,53,54,55,56,57,58,59,60,61,62,63,64,65,66,67,68,69,70,71,72,73,74,75,76,77,78,79,80,81,82,83,84,85,86,87,88,89,90,91,92,93,94,95,96,97,98,99,100,101,102,103,104,105,106,107,108,109,110,111,112,113,114,115,116,117,118,119,120,121,122,123,124,125,126,127,128,129,130,131,132,133,134,135,136]
def GG:List Nat:=[]
noncomputable def EE (ax:Axs):Env:=zew Tryz.prog LL ax
theorem zbt (ax:Axs):zex Tryz.prog (EE ax):=yio _ _ _
theorem zrc:zj8 Tryz.prog GG LL=true:=by kernel_rfl
theorem z7k:Tryz.prog.follows .mixedOrders=true:=by kernel_rfl
noncomputable def aggO:Option (List T)->Option T
  |some l=>some (.agg l)
  |none=>none
theorem fn4 (ax:Axs):(EE ax).fn.at 4=some Tryz.f4:=by kernel_rfl
theorem fn7 (ax:Axs):(EE ax).fn.at 7=some Tryz.f7:=by kernel_rfl
theorem fn8 (ax:Axs):(EE ax).fn.at 8=some Tryz.f8:=by kernel_rfl
theorem fn9 (ax:Axs):(EE ax).fn.at 9=some Tryz.f9:=by kernel_rfl
theorem fn11 (ax:Axs):(EE ax).fn.at 11=some Tryz.f11:=by kernel_rfl
theorem fn12 (ax:Axs):(EE ax).fn.at 12=some Tryz.f12:=by kernel_rfl
theorem fn13 (ax:Axs):(EE ax).fn.at 13=some Tryz.f13:=by kernel_rfl
theorem fn20 (ax:Axs):(EE ax).fn.at 20=some Tryz.f20:=by kernel_rfl
theorem fn22 (ax:Axs):(EE ax).fn.at 22=some Tryz.f22:=by kernel_rfl
theorem fn23 (ax:Axs):(EE ax).fn.at 23=some Tryz.f23:=by kernel_rfl
theorem fn24 (ax:Axs):(EE ax).fn.at 24=some Tryz.f24:=by kernel_rfl
theorem fn25 (ax:Axs):(EE ax).fn.at 25=some Tryz.f25:=by kernel_rfl
theorem fn26 (ax:Axs):(EE ax).fn.at 26=some Tryz.f26:=by kernel_rfl
theorem fn27 (ax:Axs):(EE ax).fn.at 27=some Tryz.f27:=by kernel_rfl
theorem fn28 (ax:Axs):(EE ax).fn.at 28=some Tryz.f28:=by kernel_rfl
theorem fn29 (ax:Axs):(EE ax).fn.at 29=some Tryz.f29:=by kernel_rfl
theorem fn35 (ax:Axs):(EE ax).fn.at 35=some Tryz.f35:=by kernel_rfl
theorem fn37 (ax:Axs):(EE ax).fn.at 37=some Tryz.f37:=by kernel_rfl
theorem fn38 (ax:Axs):(EE ax).fn.at 38=some Tryz.f38:=by kernel_rfl
theorem fn39 (ax:Axs):(EE ax).fn.at 39=some Tryz.f39:=by kernel_rfl
theorem fn43 (ax:Axs):(EE ax).fn.at 43=some Tryz.f43:=by kernel_rfl
theorem fn44 (ax:Axs):(EE ax).fn.at 44=some Tryz.f44:=by kernel_rfl
theorem fn45 (ax:Axs):(EE ax).fn.at 45=some Tryz.f45:=by kernel_rfl
theorem fn46 (ax:Axs):(EE ax).fn.at 46=some Tryz.f46:=by kernel_rfl
theorem fn47 (ax:Axs):(EE ax).fn.at 47=some Tryz.f47:=by kernel_rfl
theorem fn48 (ax:Axs):(EE ax).fn.at 48=some Tryz.f48:=by kernel_rfl
theorem fn49 (ax:Axs):(EE ax).fn.at 49=some Tryz.f49:=by kernel_rfl
theorem fn50 (ax:Axs):(EE ax).fn.at 50=some Tryz.f50:=by kernel_rfl
theorem fn52 (ax:Axs):(EE ax).fn.at 52=some Tryz.f52:=by kernel_rfl
theorem fn53 (ax:Axs):(EE ax).fn.at 53=some Tryz.f53:=by kernel_rfl
theorem fn54 (ax:Axs):(EE ax).fn.at 54=some Tryz.f54:=by kernel_rfl
theorem fn55 (ax:Axs):(EE ax).fn.at 55=some Tryz.f55:=by kernel_rfl
theorem fn56 (ax:Axs):(EE ax).fn.at 56=some Tryz.f56:=by kernel_rfl
theorem fn57 (ax:Axs):(EE ax).fn.at 57=some Tryz.f57:=by kernel_rfl
theorem fn58 (ax:Axs):(EE ax).fn.at 58=some Tryz.f58:=by kernel_rfl
theorem fn59 (ax:Axs):(EE ax).fn.at 59=some Tryz.f59:=by kernel_rfl
theorem fn60 (ax:Axs):(EE ax).fn.at 60=some Tryz.f60:=by kernel_rfl
theorem fn61 (ax:Axs):(EE ax).fn.at 61=some Tryz.f61:=by kernel_rfl
theorem fn62 (ax:Axs):(EE ax).fn.at 62=some Tryz.f62:=by kernel_rfl
theorem fn63 (ax:Axs):(EE ax).fn.at 63=some Tryz.f63:=by kernel_rfl
theorem fn64 (ax:Axs):(EE ax).fn.at 64=some Tryz.f64:=by kernel_rfl
theorem fn65 (ax:Axs):(EE ax).fn.at 65=some Tryz.f65:=by kernel_rfl
theorem fn66 (ax:Axs):(EE ax).fn.at 66=some Tryz.f66:=by kernel_rfl
theorem fn67 (ax:Axs):(EE ax).fn.at 67=some Tryz.f67:=by kernel_rfl
theorem fn68 (ax:Axs):(EE ax).fn.at 68=some Tryz.f68:=by kernel_rfl
theorem fn69 (ax:Axs):(EE ax).fn.at 69=some Tryz.f69:=by kernel_rfl
theorem fn70 (ax:Axs):(EE ax).fn.at 70=some Tryz.f70:=by kernel_rfl
theorem fn71 (ax:Axs):(EE ax).fn.at 71=some Tryz.f71:=by kernel_rfl
theorem fn72 (ax:Axs):(EE ax).fn.at 72=some Tryz.f72:=by kernel_rfl
theorem fn73 (ax:Axs):(EE ax).fn.at 73=some Tryz.f73:=by kernel_rfl
theorem fn74 (ax:Axs):(EE ax).fn.at 74=some Tryz.f74:=by kernel_rfl
theorem fn75 (ax:Axs):(EE ax).fn.at 75=some Tryz.f75:=by kernel_rfl
theorem fn76 (ax:Axs):(EE ax).fn.at 76=some Tryz.f76:=by kernel_rfl
theorem fn82 (ax:Axs):(EE ax).fn.at 82=some Tryz.f82:=by kernel_rfl
theorem fn85 (ax:Axs):(EE ax).fn.at 85=some Tryz.f85:=by kernel_rfl
theorem fn86 (ax:Axs):(EE ax).fn.at 86=some Tryz.f86:=by kernel_rfl
theorem fn87 (ax:Axs):(EE ax).fn.at 87=some Tryz.f87:=by kernel_rfl
theorem fn88 (ax:Axs):(EE ax).fn.at 88=some Tryz.f88:=by kernel_rfl
theorem fn89 (ax:Axs):(EE ax).fn.at 89=some Tryz.f89:=by kernel_rfl
theorem fn90 (ax:Axs):(EE ax).fn.at 90=some Tryz.f90:=by kernel_rfl
theorem fn91 (ax:Axs):(EE ax).fn.at 91=some Tryz.f91:=by kernel_rfl
theorem fn92 (ax:Axs):(EE ax).fn.at 92=some Tryz.f92:=by kernel_rfl
theorem fn93 (ax:Axs):(EE ax).fn.at 93=some Tryz.f93:=by kernel_rfl
theorem fn94 (ax:Axs):(EE ax).fn.at 94=some Tryz.f94:=by kernel_rfl
theorem fn95 (ax:Axs):(EE ax).fn.at 95=some Tryz.f95:=by kernel_rfl
theorem fn96 (ax:Axs):(EE ax).fn.at 96=some Tryz.f96:=by kernel_rfl
theorem fn97 (ax:Axs):(EE ax).fn.at 97=some Tryz.f97:=by kernel_rfl
theorem fn98 (ax:Axs):(EE ax).fn.at 98=some Tryz.f98:=by kernel_rfl
theorem fn99 (ax:Axs):(EE ax).fn.at 99=some Tryz.f99:=by kernel_rfl
theorem fn100 (ax:Axs):(EE ax).fn.at 100=some Tryz.f100:=by kernel_rfl
theorem fn101 (ax:Axs):(EE ax).fn.at 101=some Tryz.f101:=by kernel_rfl
theorem fn104 (ax:Axs):(EE ax).fn.at 104=some Tryz.f104:=by kernel_rfl
theorem fn114 (ax:Axs):(EE ax).fn.at 114=some Tryz.f114:=by kernel_rfl
theorem fn115 (ax:Axs):(EE ax).fn.at 115=some Tryz.f115:=by kernel_rfl
theorem fn116 (ax:Axs):(EE ax).fn.at 116=some Tryz.f116:=by kernel_rfl
theorem fn117 (ax:Axs):(EE ax).fn.at 117=some Tryz.f117:=by kernel_rfl
theorem fn118 (ax:Axs):(EE ax).fn.at 118=some Tryz.f118:=by kernel_rfl
theorem fn119 (ax:Axs):(EE ax).fn.at 119=some Tryz.f119:=by kernel_rfl
theorem fn120 (ax:Axs):(EE ax).fn.at 120=some Tryz.f120:=by kernel_rfl
theorem fn127 (ax:Axs):(EE ax).fn.at 127=some Tryz.f127:=by kernel_rfl
theorem fn128 (ax:Axs):(EE ax).fn.at 128=some Tryz.f128:=by kernel_rfl
theorem fn129 (ax:Axs):(EE ax).fn.at 129=some Tryz.f129:=by kernel_rfl
theorem fn130 (ax:Axs):(EE ax).fn.at 130=some Tryz.f130:=by kernel_rfl
theorem fn131 (ax:Axs):(EE ax).fn.at 131=some Tryz.f131:=by kernel_rfl
theorem fn132 (ax:Axs):(EE ax).fn.at 132=some Tryz.f132:=by kernel_rfl
theorem ti3 (ax:Axs):(EE ax).ti.at 3=some ⟨.int .i64,1,8,[.int .i64 0]⟩:=by kernel_rfl
theorem ti4 (ax:Axs):(EE ax).ti.at 4=some ⟨.bool,1,1,[.bool false]⟩:=by kernel_rfl
theorem ti9 (ax:Axs):(EE ax).ti.at 9=some ⟨.string,1,16,[.string ⟨#[]⟩]⟩:=by kernel_rfl
theorem ti22 (ax:Axs):(EE ax).ti.at 22=some ⟨.slice 43,1,24,[.slice none 0 0]⟩:=by kernel_rfl
theorem ti23 (ax:Axs):(EE ax).ti.at 23=some ⟨.slice 65,1,24,[.slice none 0 0]⟩:=by kernel_rfl
theorem ti24 (ax:Axs):(EE ax).ti.at 24=some ⟨.slice 85,1,24,[.slice none 0 0]⟩:=by kernel_rfl
theorem yoa (ax:Axs) (S:TS) (b off N:Nat):zab (EE ax) S 26 0 (.ptr b off N)=bif S.has b N then some (.ptr b (off+0) N) else none:=by kernel_rfl
theorem ynp (ax:Axs) (S:TS) (l:List T):zab (EE ax) S 26 0 (.cp l)=some (.cp (l.drop 0)):=by kernel_rfl
theorem yn9 (ax:Axs) (S:TS) (b off N:Nat):zab (EE ax) S 26 1 (.ptr b off N)=bif S.has b N then some (.ptr b (off+1) N) else none:=by kernel_rfl
theorem yno (ax:Axs) (S:TS) (l:List T):zab (EE ax) S 26 1 (.cp l)=some (.cp (l.drop 1)):=by kernel_rfl
theorem yn8 (ax:Axs) (S:TS) (b off N:Nat):zab (EE ax) S 26 2 (.ptr b off N)=bif S.has b N then some (.ptr b (off+2) N) else none:=by kernel_rfl
noncomputable def fs26:Array Field:=match Tryz.prog.underlying 26 with|some (.struct fs)=>fs|_=>#[]
theorem ti26 (ax:Axs):(EE ax).ti.at 26=some ⟨.struct fs26,3,72,[.slice none 0 0,.slice none 0 0,.slice none 0 0]⟩:=by kernel_rfl
theorem ti27 (ax:Axs):(EE ax).ti.at 27=some ⟨.slice 41,1,24,[.slice none 0 0]⟩:=by kernel_rfl
theorem sr27 (ax:Axs):srcT (EE ax) 27=true:=by kernel_rfl
theorem ti28 (ax:Axs):(EE ax).ti.at 28=some ⟨.slice 91,1,24,[.slice none 0 0]⟩:=by kernel_rfl
theorem yn7 (ax:Axs) (S:TS) (b off N:Nat):zab (EE ax) S 30 0 (.ptr b off N)=bif S.has b N then some (.ptr b (off+0) N) else none:=by kernel_rfl
theorem yn6 (ax:Axs) (S:TS) (b off N:Nat):zab (EE ax) S 30 1 (.ptr b off N)=bif S.has b N then some (.ptr b (off+1) N) else none:=by kernel_rfl
theorem ynn (ax:Axs) (S:TS) (l:List T):zab (EE ax) S 30 1 (.cp l)=some (.cp (l.drop 1)):=by kernel_rfl
theorem yn5 (ax:Axs) (S:TS) (b off N:Nat):zab (EE ax) S 30 2 (.ptr b off N)=bif S.has b N then some (.ptr b (off+2) N) else none:=by kernel_rfl
theorem ynm (ax:Axs) (S:TS) (l:List T):zab (EE ax) S 30 2 (.cp l)=some (.cp (l.drop 2)):=by kernel_rfl
noncomputable def fs30:Array Field:=match Tryz.prog.underlying 30 with|some (.struct fs)=>fs|_=>#[]
theorem bt30 (ax:Axs) (ρ:ej->T) (parts:List (Nat×ej)):zio (EE ax) ρ 30 parts=aggO (zbg [.int .i64 0,.slice none 0 0,.slice none 0 0] (za1 (zdw (EE ax) fs30) ρ parts)):=by kernel_rfl
theorem ti30 (ax:Axs):(EE ax).ti.at 30=some ⟨.struct fs30,3,56,[.int .i64 0,.slice none 0 0,.slice none 0 0]⟩:=by kernel_rfl
theorem yrs (ax:Axs):zdw (EE ax) fs30 0=some (0,1):=by kernel_rfl
theorem yrr (ax:Axs):zdw (EE ax) fs30 2=some (2,1):=by kernel_rfl
theorem ti33 (ax:Axs):(EE ax).ti.at 33=some ⟨.int .i64,1,8,[.int .i64 0]⟩:=by kernel_rfl
theorem ti37 (ax:Axs):(EE ax).ti.at 37=some ⟨.slice 3,1,24,[.slice none 0 0]⟩:=by kernel_rfl
theorem sr37 (ax:Axs):srcT (EE ax) 37=true:=by kernel_rfl
theorem ti40 (ax:Axs):(EE ax).ti.at 40=some ⟨.slice 104,1,24,[.slice none 0 0]⟩:=by kernel_rfl
theorem sr40 (ax:Axs):srcT (EE ax) 40=true:=by kernel_rfl
theorem ti41 (ax:Axs):(EE ax).ti.at 41=some ⟨.slice 104,1,24,[.slice none 0 0]⟩:=by kernel_rfl
theorem sr41 (ax:Axs):srcT (EE ax) 41=true:=by kernel_rfl
theorem ynl (ax:Axs) (S:TS) (l:List T):zab (EE ax) S 43 0 (.cp l)=some (.cp (l.drop 0)):=by kernel_rfl
theorem yn4 (ax:Axs) (S:TS) (b off N:Nat):zab (EE ax) S 43 2 (.ptr b off N)=bif S.has b N then some (.ptr b (off+2) N) else none:=by kernel_rfl
theorem ynk (ax:Axs) (S:TS) (l:List T):zab (EE ax) S 43 2 (.cp l)=some (.cp (l.drop 2)):=by kernel_rfl
theorem yn3 (ax:Axs) (S:TS) (b off N:Nat):zab (EE ax) S 43 3 (.ptr b off N)=bif S.has b N then some (.ptr b (off+3) N) else none:=by kernel_rfl
noncomputable def fs43:Array Field:=match Tryz.prog.underlying 43 with|some (.struct fs)=>fs|_=>#[]
theorem ti43 (ax:Axs):(EE ax).ti.at 43=some ⟨.struct fs43,4,40,[.string ⟨#[]⟩,.bool false,.int .i64 0,.int .i64 0]⟩:=by kernel_rfl
theorem ti45 (ax:Axs):(EE ax).ti.at 45=some ⟨.slice 78,1,24,[.slice none 0 0]⟩:=by kernel_rfl
theorem sr45 (ax:Axs):srcT (EE ax) 45=true:=by kernel_rfl
theorem ti48 (ax:Axs):(EE ax).ti.at 48=some ⟨.slice 54,1,24,[.slice none 0 0]⟩:=by kernel_rfl
theorem zkb (ax:Axs) (S:TS) (b off N:Nat):zab (EE ax) S 54 0 (.ptr b off N)=bif S.has b N then some (.ptr b (off+0) N) else none:=by kernel_rfl
theorem zpf (ax:Axs) (S:TS) (l:List T):zab (EE ax) S 54 0 (.cp l)=some (.cp (l.drop 0)):=by kernel_rfl
theorem zw1 (ax:Axs) (S:TS) (b off N:Nat):zab (EE ax) S 54 1 (.ptr b off N)=bif S.has b N then some (.ptr b (off+1) N) else none:=by kernel_rfl
theorem yh3 (ax:Axs) (S:TS) (l:List T):zab (EE ax) S 54 1 (.cp l)=some (.cp (l.drop 1)):=by kernel_rfl
theorem z5h (ax:Axs) (S:TS) (b off N:Nat):zab (EE ax) S 54 2 (.ptr b off N)=bif S.has b N then some (.ptr b (off+2) N) else none:=by kernel_rfl
theorem ynj (ax:Axs) (S:TS) (l:List T):zab (EE ax) S 54 2 (.cp l)=some (.cp (l.drop 2)):=by kernel_rfl
theorem zka (ax:Axs) (S:TS) (b off N:Nat):zab (EE ax) S 54 3 (.ptr b off N)=bif S.has b N then some (.ptr b (off+3) N) else none:=by kernel_rfl
theorem ztm (ax:Axs) (S:TS) (l:List T):zab (EE ax) S 54 3 (.cp l)=some (.cp (l.drop 3)):=by kernel_rfl
theorem zn0 (ax:Axs) (S:TS) (b off N:Nat):zab (EE ax) S 54 4 (.ptr b off N)=bif S.has b N then some (.ptr b (off+4) N) else none:=by kernel_rfl
theorem zwy (ax:Axs) (S:TS) (l:List T):zab (EE ax) S 54 4 (.cp l)=some (.cp (l.drop 4)):=by kernel_rfl
theorem ztn (ax:Axs) (S:TS) (b off N:Nat):zab (EE ax) S 54 5 (.ptr b off N)=bif S.has b N then some (.ptr b (off+5) N) else none:=by kernel_rfl
theorem ztl (ax:Axs) (S:TS) (l:List T):zab (EE ax) S 54 5 (.cp l)=some (.cp (l.drop 5)):=by kernel_rfl
noncomputable def fs54:Array Field:=match Tryz.prog.underlying 54 with|some (.struct fs)=>fs|_=>#[]
theorem ti54 (ax:Axs):(EE ax).ti.at 54=some ⟨.struct fs54,6,48,[.int .i64 0,.int .i64 0,.int .i64 0,.int .i64 0,.int .i64 0,.int .i64 0]⟩:=by kernel_rfl
theorem yn2 (ax:Axs) (S:TS) (b off N:Nat):zab (EE ax) S 56 0 (.ptr b off N)=bif S.has b N then some (.ptr b (off+0) N) else none:=by kernel_rfl
theorem ya1 (ax:Axs) (S:TS) (b off N:Nat):zab (EE ax) S 56 1 (.ptr b off N)=bif S.has b N then some (.ptr b (off+3) N) else none:=by kernel_rfl
noncomputable def fs56:Array Field:=match Tryz.prog.underlying 56 with|some (.struct fs)=>fs|_=>#[]
theorem bt56 (ax:Axs) (ρ:ej->T) (parts:List (Nat×ej)):zio (EE ax) ρ 56 parts=aggO (zbg [.int .i64 0,.slice none 0 0,.slice none 0 0,.int .i64 0] (za1 (zdw (EE ax) fs56) ρ parts)):=by kernel_rfl
theorem ti56 (ax:Axs):(EE ax).ti.at 56=some ⟨.struct fs56,4,64,[.int .i64 0,.slice none 0 0,.slice none 0 0,.int .i64 0]⟩:=by kernel_rfl
theorem yrq (ax:Axs):zdw (EE ax) fs56 0=some (0,3):=by kernel_rfl
theorem zy6 (ax:Axs):zdw (EE ax) fs56 1=some (3,1):=by kernel_rfl
theorem tz60 (ax:Axs):(EE ax).ti.at 60=some ⟨.array 10 3,10,80,zVs 10 .i64⟩:=by kernel_rfl
theorem yn1 (ax:Axs) (S:TS) (b off N:Nat):zab (EE ax) S 65 0 (.ptr b off N)=bif S.has b N then some (.ptr b (off+0) N) else none:=by kernel_rfl
theorem yni (ax:Axs) (S:TS) (l:List T):zab (EE ax) S 65 0 (.cp l)=some (.cp (l.drop 0)):=by kernel_rfl
theorem yn0 (ax:Axs) (S:TS) (b off N:Nat):zab (EE ax) S 65 1 (.ptr b off N)=bif S.has b N then some (.ptr b (off+1) N) else none:=by kernel_rfl
theorem ynh (ax:Axs) (S:TS) (l:List T):zab (EE ax) S 65 1 (.cp l)=some (.cp (l.drop 1)):=by kernel_rfl
theorem ynz (ax:Axs) (S:TS) (b off N:Nat):zab (EE ax) S 65 2 (.ptr b off N)=bif S.has b N then some (.ptr b (off+2) N) else none:=by kernel_rfl
noncomputable def fs65:Array Field:=match Tryz.prog.underlying 65 with|some (.struct fs)=>fs|_=>#[]
theorem ti65 (ax:Axs):(EE ax).ti.at 65=some ⟨.struct fs65,3,24,[.int .i64 0,.int .i64 0,.int .i64 0]⟩:=by kernel_rfl
theorem sr66 (ax:Axs):srcT (EE ax) 66=true:=by kernel_rfl
theorem yny (ax:Axs) (S:TS) (b off N:Nat):zab (EE ax) S 78 0 (.ptr b off N)=bif S.has b N then some (.ptr b (off+0) N) else none:=by kernel_rfl
theorem yng (ax:Axs) (S:TS) (l:List T):zab (EE ax) S 78 0 (.cp l)=some (.cp (l.drop 0)):=by kernel_rfl
theorem ynx (ax:Axs) (S:TS) (b off N:Nat):zab (EE ax) S 78 1 (.ptr b off N)=bif S.has b N then some (.ptr b (off+1) N) else none:=by kernel_rfl
theorem ynf (ax:Axs) (S:TS) (l:List T):zab (EE ax) S 78 1 (.cp l)=some (.cp (l.drop 1)):=by kernel_rfl
theorem ynw (ax:Axs) (S:TS) (b off N:Nat):zab (EE ax) S 78 2 (.ptr b off N)=bif S.has b N then some (.ptr b (off+2) N) else none:=by kernel_rfl
theorem yne (ax:Axs) (S:TS) (l:List T):zab (EE ax) S 78 2 (.cp l)=some (.cp (l.drop 2)):=by kernel_rfl
noncomputable def fs78:Array Field:=match Tryz.prog.underlying 78 with|some (.struct fs)=>fs|_=>#[]
theorem bt78 (ax:Axs) (ρ:ej->T) (parts:List (Nat×ej)):zio (EE ax) ρ 78 parts=aggO (zbg [.int .i64 0,.int .i64 0,.slice none 0 0] (za1 (zdw (EE ax) fs78) ρ parts)):=by kernel_rfl
theorem ti78 (ax:Axs):(EE ax).ti.at 78=some ⟨.struct fs78,3,40,[.int .i64 0,.int .i64 0,.slice none 0 0]⟩:=by kernel_rfl
theorem yfu (ax:Axs):zdw (EE ax) fs78 0=some (0,1):=by kernel_rfl
theorem yft (ax:Axs):zdw (EE ax) fs78 1=some (1,1):=by kernel_rfl
theorem yrp (ax:Axs):zdw (EE ax) fs78 2=some (2,1):=by kernel_rfl
theorem ti79 (ax:Axs):(EE ax).ti.at 79=some ⟨.slice 9,1,24,[.slice none 0 0]⟩:=by kernel_rfl
theorem sr79 (ax:Axs):srcT (EE ax) 79=true:=by kernel_rfl
theorem ynd (ax:Axs) (S:TS) (l:List T):zab (EE ax) S 85 0 (.cp l)=some (.cp (l.drop 0)):=by kernel_rfl
theorem ync (ax:Axs) (S:TS) (l:List T):zab (EE ax) S 85 1 (.cp l)=some (.cp (l.drop 1)):=by kernel_rfl
noncomputable def fs85:Array Field:=match Tryz.prog.underlying 85 with|some (.struct fs)=>fs|_=>#[]
theorem ti85 (ax:Axs):(EE ax).ti.at 85=some ⟨.struct fs85,2,24,[.string ⟨#[]⟩,.int .i64 0]⟩:=by kernel_rfl
theorem ynv (ax:Axs) (S:TS) (b off N:Nat):zab (EE ax) S 91 0 (.ptr b off N)=bif S.has b N then some (.ptr b (off+0) N) else none:=by kernel_rfl
theorem ynu (ax:Axs) (S:TS) (b off N:Nat):zab (EE ax) S 91 1 (.ptr b off N)=bif S.has b N then some (.ptr b (off+1) N) else none:=by kernel_rfl
theorem ynt (ax:Axs) (S:TS) (b off N:Nat):zab (EE ax) S 91 2 (.ptr b off N)=bif S.has b N then some (.ptr b (off+2) N) else none:=by kernel_rfl
theorem yns (ax:Axs) (S:TS) (b off N:Nat):zab (EE ax) S 91 3 (.ptr b off N)=bif S.has b N then some (.ptr b (off+3) N) else none:=by kernel_rfl
theorem ynr (ax:Axs) (S:TS) (b off N:Nat):zab (EE ax) S 91 4 (.ptr b off N)=bif S.has b N then some (.ptr b (off+4) N) else none:=by kernel_rfl
theorem ynq (ax:Axs) (S:TS) (b off N:Nat):zab (EE ax) S 91 5 (.ptr b off N)=bif S.has b N then some (.ptr b (off+5) N) else none:=by kernel_rfl
noncomputable def fs91:Array Field:=match Tryz.prog.underlying 91 with|some (.struct fs)=>fs|_=>#[]
theorem ti91 (ax:Axs):(EE ax).ti.at 91=some ⟨.struct fs91,6,80,[.int .i64 0,.string ⟨#[]⟩,.slice none 0 0,.string ⟨#[]⟩,.int .i64 0,.int .i64 0]⟩:=by kernel_rfl
theorem ti98 (ax:Axs):(EE ax).ti.at 98=some ⟨.map 106 37,1,8,[.map none]⟩:=by kernel_rfl
theorem ti99 (ax:Axs):(EE ax).ti.at 99=some ⟨.slice 106,1,24,[.slice none 0 0]⟩:=by kernel_rfl
theorem sr99 (ax:Axs):srcT (EE ax) 99=true:=by kernel_rfl
def yjt:List Value:=[.int .i64 0,.int .i64 0,.int .i64 0,.int .i64 0,.int .i64 0,.int .i64 0,.int .i64 0,.int .i64 0,.int .i64 0,.int .i64 0,.int .i64 0,.int .i64 0,.int .i64 0,.int .i64 0,.int .i64 0,.int .i64 0,.int .i64 0,.int .i64 0,.int .i64 0,.int .i64 0]
theorem ydo:zg4 yjt=some ((zA 10).l.map (dy .i64)++((zA 10).l.map (dy .i64))):=rfl
theorem z22:yjt.length=20:=rfl
theorem yim (ax:Axs) (S:TS) (b off N:Nat):zab (EE ax) S 101 0 (.ptr b off N)=bif S.has b N then some (.ptr b (off+0) N) else none:=by kernel_rfl
theorem yil (ax:Axs) (S:TS) (b off N:Nat):zab (EE ax) S 101 1 (.ptr b off N)=bif S.has b N then some (.ptr b (off+10) N) else none:=by kernel_rfl
theorem yh8 (ax:Axs) (S:TS) (l:List T):zab (EE ax) S 101 1 (.cp l)=some (.cp (l.drop 10)):=by kernel_rfl
noncomputable def yk0:Array Field:=match Tryz.prog.underlying 101 with|some (.struct fs)=>fs|_=>#[]
theorem ysr (ax:Axs) (ρ:ej->T) (parts:List (Nat×ej)):zio (EE ax) ρ 101 parts=aggO (zbg yjt (za1 (zdw (EE ax) yk0) ρ parts)):=by kernel_rfl
theorem yq6 (ax:Axs):(EE ax).ti.at 101=some ⟨.struct yk0,20,160,yjt⟩:=by kernel_rfl
theorem yf2 (ax:Axs):zdw (EE ax) yk0 0=some (0,10):=by kernel_rfl
theorem yf1 (ax:Axs):zdw (EE ax) yk0 1=some (10,10):=by kernel_rfl
theorem yq5 (ax:Axs):(EE ax).ti.at 102=some ⟨.slice 120,1,24,[.slice none 0 0]⟩:=by kernel_rfl
theorem yrb (ax:Axs):srcT (EE ax) 102=true:=by kernel_rfl
def yb6:List Value:=[.int .i64 0,.int .i64 0,.int .i64 0,.int .i64 0,.int .i64 0,.int .i64 0,.int .i64 0,.int .i64 0,.int .i64 0,.int .i64 0,.int .i64 0,.int .i64 0,.int .i64 0,.int .i64 0,.int .i64 0,.int .i64 0,.int .i64 0,.int .i64 0,.int .i64 0,.int .i64 0,.int .i64 0,.int .i64 0,.slice none 0 0]
theorem ydn:zg4 yb6=some (dy .i64 0 :: ((zA 10).l.map (dy .i64)++((zA 10).l.map (dy .i64)++[dy .i64 0,T.nils]))):=rfl
theorem z21:yb6.length=23:=rfl
theorem yik (ax:Axs) (S:TS) (b off N:Nat):zab (EE ax) S 104 0 (.ptr b off N)=bif S.has b N then some (.ptr b (off+0) N) else none:=by kernel_rfl
theorem yh7 (ax:Axs) (S:TS) (l:List T):zab (EE ax) S 104 0 (.cp l)=some (.cp (l.drop 0)):=by kernel_rfl
theorem yij (ax:Axs) (S:TS) (b off N:Nat):zab (EE ax) S 104 1 (.ptr b off N)=bif S.has b N then some (.ptr b (off+1) N) else none:=by kernel_rfl
theorem yh6 (ax:Axs) (S:TS) (l:List T):zab (EE ax) S 104 1 (.cp l)=some (.cp (l.drop 1)):=by kernel_rfl
theorem yii (ax:Axs) (S:TS) (b off N:Nat):zab (EE ax) S 104 2 (.ptr b off N)=bif S.has b N then some (.ptr b (off+21) N) else none:=by kernel_rfl
theorem yp2 (ax:Axs) (S:TS) (l:List T):zab (EE ax) S 104 2 (.cp l)=some (.cp (l.drop 21)):=by kernel_rfl
theorem yih (ax:Axs) (S:TS) (b off N:Nat):zab (EE ax) S 104 3 (.ptr b off N)=bif S.has b N then some (.ptr b (off+22) N) else none:=by kernel_rfl
theorem yh5 (ax:Axs) (S:TS) (l:List T):zab (EE ax) S 104 3 (.cp l)=some (.cp (l.drop 22)):=by kernel_rfl
noncomputable def z70:Array Field:=match Tryz.prog.underlying 104 with|some (.struct fs)=>fs|_=>#[]
theorem yda (ax:Axs) (ρ:ej->T) (parts:List (Nat×ej)):zio (EE ax) ρ 104 parts=aggO (zbg yb6 (za1 (zdw (EE ax) z70) ρ parts)):=by kernel_rfl
theorem yq4 (ax:Axs):(EE ax).ti.at 104=some ⟨.struct z70,23,200,yb6⟩:=by kernel_rfl
theorem zr8 (ax:Axs):zdw (EE ax) z70 1=some (1,20):=by kernel_rfl
theorem zr7 (ax:Axs):zdw (EE ax) z70 2=some (21,1):=by kernel_rfl
theorem z1s (ax:Axs):zdw (EE ax) z70 3=some (22,1):=by kernel_rfl
theorem yig (ax:Axs) (S:TS) (b off N:Nat):zab (EE ax) S 106 0 (.ptr b off N)=bif S.has b N then some (.ptr b (off+0) N) else none:=by kernel_rfl
theorem z74 (ax:Axs) (S:TS) (l:List T):zab (EE ax) S 106 0 (.cp l)=some (.cp (l.drop 0)):=by kernel_rfl
theorem yif (ax:Axs) (S:TS) (b off N:Nat):zab (EE ax) S 106 1 (.ptr b off N)=bif S.has b N then some (.ptr b (off+1) N) else none:=by kernel_rfl
theorem yh4 (ax:Axs) (S:TS) (l:List T):zab (EE ax) S 106 1 (.cp l)=some (.cp (l.drop 1)):=by kernel_rfl
noncomputable def yhv:Array Field:=match Tryz.prog.underlying 106 with|some (.struct fs)=>fs|_=>#[]
theorem ysq (ax:Axs) (ρ:ej->T) (parts:List (Nat×ej)):zio (EE ax) ρ 106 parts=aggO (zbg [.int .i64 0,.int .i64 0] (za1 (zdw (EE ax) yhv) ρ parts)):=by kernel_rfl
theorem z6t (ax:Axs):(EE ax).ti.at 106=some ⟨.struct yhv,2,16,[.int .i64 0,.int .i64 0]⟩:=by kernel_rfl
theorem yf0 (ax:Axs):zdw (EE ax) yhv 0=some (0,1):=by kernel_rfl
theorem yfz (ax:Axs):zdw (EE ax) yhv 1=some (1,1):=by kernel_rfl
def yjs:List Value:=[.int .i64 0,.int .i64 0,.int .i64 0,.int .i64 0,.int .i64 0,.int .i64 0,.int .i64 0,.int .i64 0,.int .i64 0,.int .i64 0,.int .i64 0,.int .i64 0,.int .i64 0,.int .i64 0,.int .i64 0,.int .i64 0,.int .i64 0,.int .i64 0,.int .i64 0,.int .i64 0]
theorem ydm:zg4 yjs=some ((zA 10).l.map (dy .i64)++((zA 10).l.map (dy .i64))):=rfl
theorem z20:yjs.length=20:=rfl
theorem yie (ax:Axs) (S:TS) (b off N:Nat):zab (EE ax) S 119 0 (.ptr b off N)=bif S.has b N then some (.ptr b (off+0) N) else none:=by kernel_rfl
theorem yid (ax:Axs) (S:TS) (b off N:Nat):zab (EE ax) S 119 1 (.ptr b off N)=bif S.has b N then some (.ptr b (off+10) N) else none:=by kernel_rfl
noncomputable def ykz:Array Field:=match Tryz.prog.underlying 119 with|some (.struct fs)=>fs|_=>#[]
theorem ysp (ax:Axs) (ρ:ej->T) (parts:List (Nat×ej)):zio (EE ax) ρ 119 parts=aggO (zbg yjs (za1 (zdw (EE ax) ykz) ρ parts)):=by kernel_rfl
theorem yq3 (ax:Axs):(EE ax).ti.at 119=some ⟨.struct ykz,20,160,yjs⟩:=by kernel_rfl
theorem yfy (ax:Axs):zdw (EE ax) ykz 0=some (0,10):=by kernel_rfl
theorem yfx (ax:Axs):zdw (EE ax) ykz 1=some (10,10):=by kernel_rfl
theorem zuu (ax:Axs):(EE ax).ti.at 120=some ⟨.slice 123,1,24,[.slice none 0 0]⟩:=by kernel_rfl
theorem zxu (ax:Axs):srcT (EE ax) 120=true:=by kernel_rfl
def ydl:List Value:=[.int .i64 0,.int .i64 0,.int .i64 0,.int .i64 0,.int .i64 0,.int .i64 0,.int .i64 0,.int .i64 0,.int .i64 0,.int .i64 0,.int .i64 0,.int .i64 0,.int .i64 0,.int .i64 0,.int .i64 0,.int .i64 0,.int .i64 0,.int .i64 0,.int .i64 0,.int .i64 0,.int .i64 0]
theorem ydk:zg4 ydl=some (dy .i64 0 :: ((zA 10).l.map (dy .i64)++((zA 10).l.map (dy .i64)))):=rfl
theorem z2z:ydl.length=21:=rfl
theorem yic (ax:Axs) (S:TS) (b off N:Nat):zab (EE ax) S 123 0 (.ptr b off N)=bif S.has b N then some (.ptr b (off+0) N) else none:=by kernel_rfl
theorem yp1 (ax:Axs) (S:TS) (l:List T):zab (EE ax) S 123 0 (.cp l)=some (.cp (l.drop 0)):=by kernel_rfl
theorem yib (ax:Axs) (S:TS) (b off N:Nat):zab (EE ax) S 123 1 (.ptr b off N)=bif S.has b N then some (.ptr b (off+1) N) else none:=by kernel_rfl
theorem yp0 (ax:Axs) (S:TS) (l:List T):zab (EE ax) S 123 1 (.cp l)=some (.cp (l.drop 1)):=by kernel_rfl
noncomputable def yhu:Array Field:=match Tryz.prog.underlying 123 with|some (.struct fs)=>fs|_=>#[]
theorem yso (ax:Axs) (ρ:ej->T) (parts:List (Nat×ej)):zio (EE ax) ρ 123 parts=aggO (zbg ydl (za1 (zdw (EE ax) yhu) ρ parts)):=by kernel_rfl
theorem yq2 (ax:Axs):(EE ax).ti.at 123=some ⟨.struct yhu,21,168,ydl⟩:=by kernel_rfl
theorem yfw (ax:Axs):zdw (EE ax) yhu 0=some (0,1):=by kernel_rfl
theorem yfv (ax:Axs):zdw (EE ax) yhu 1=some (1,20):=by kernel_rfl
theorem yia (ax:Axs) (S:TS) (b off N:Nat):zab (EE ax) S 135 0 (.ptr b off N)=bif S.has b N then some (.ptr b (off+0) N) else none:=by kernel_rfl
theorem yh9 (ax:Axs) (S:TS) (b off N:Nat):zab (EE ax) S 135 1 (.ptr b off N)=bif S.has b N then some (.ptr b (off+1) N) else none:=by kernel_rfl
noncomputable def fs135:Array Field:=match Tryz.prog.underlying 135 with|some (.struct fs)=>fs|_=>#[]
theorem yq1 (ax:Axs):(EE ax).ti.at 135=some ⟨.struct fs135,2,32,[.slice none 0 0,.int .i64 0]⟩:=by kernel_rfl
noncomputable def fd162:TypeDesc:=match Tryz.prog.underlying 162 with|some d=>d|none=>.bool
theorem yq0 (ax:Axs):(EE ax).ti.at 162=some ⟨fd162,1,8,[.nilFunc]⟩:=by kernel_rfl
theorem el27 (ax:Axs):ze0 (EE ax) 27=some ⟨.slice 104,1,24,[.slice none 0 0]⟩:=by kernel_rfl
theorem el37 (ax:Axs):ze0 (EE ax) 37=some ⟨.int .i64,1,8,[.int .i64 0]⟩:=by kernel_rfl
theorem el40 (ax:Axs):ze0 (EE ax) 40=some ⟨.struct z70,23,200,yb6⟩:=by kernel_rfl
theorem el41 (ax:Axs):ze0 (EE ax) 41=some ⟨.struct z70,23,200,yb6⟩:=by kernel_rfl
theorem el45 (ax:Axs):ze0 (EE ax) 45=some ⟨.struct fs78,3,40,[.int .i64 0,.int .i64 0,.slice none 0 0]⟩:=by kernel_rfl
theorem el66 (ax:Axs):ze0 (EE ax) 66=some ⟨.array 10 3,10,80,(zVs 10 .i64)⟩:=by kernel_rfl
theorem el79 (ax:Axs):ze0 (EE ax) 79=some ⟨.string,1,16,[.string ⟨#[]⟩]⟩:=by kernel_rfl
theorem el99 (ax:Axs):ze0 (EE ax) 99=some ⟨.struct yhv,2,16,[.int .i64 0,.int .i64 0]⟩:=by kernel_rfl
theorem ysg (ax:Axs):ze0 (EE ax) 102=some ⟨.slice 123,1,24,[.slice none 0 0]⟩:=by kernel_rfl
theorem zw4 (ax:Axs):ze0 (EE ax) 120=some ⟨.struct yhu,21,168,ydl⟩:=by kernel_rfl
instance:Inhabited ByteArray:=⟨⟨#[]⟩⟩
theorem zby {α:Type} {n:Nat} {f:α->T} (h:∀ x,(f x).ids n=true):∀ (l:List α),ir n (l.map f)=true
  |[]=>rfl
  |x :: l=>by simp only [gj,ir,h,zby h l,ef]
theorem zh5 {α:Type} {n:Nat} {f:α->T} (h:∀ x,ir n (f x).cells=true):∀ (l:List α),ir n (vecC f l)=true
  |[]=>rfl
  |x :: l=>by
    have:=zh5 h l;unfold vecC at this ⊢;rw [gj,iu,zar,h,this];rfl
def ints (l:List Int):T:=.lst 1 (l.map (dy .i64))
theorem zos {n:Nat} (l:List Int):(ints l).ids n=true:=zby (fun _=>rfl) l
theorem z41 {n:Nat} (l:List Int):ir n (l.map (dy .i64))=true:=zby (fun _=>rfl) l
def ypv (l:List (Ar 10)):T:=.lst 10 (l.map (eAr .i64))
theorem z44 {n:Nat} (l:List (Ar 10)):(ypv l).ids n=true:=zby (fun x=>yal x) l
theorem zzz {n:Nat} (l:List (Ar 10)):ir n (l.map (eAr .i64))=true:=zby (fun x=>yal x) l
theorem zzr {n:Nat} (l:List (Ar 10)):ir n (vecC (eAr .i64) l)=true:=zh5 (fun x=>zev x.l) l
def strs (l:List ByteArray):T:=.lst 1 (l.map T.str)
theorem zua {n:Nat} (l:List ByteArray):(strs l).ids n=true:=zby (fun _=>rfl) l
theorem z4z {n:Nat} (l:List ByteArray):ir n (l.map T.str)=true:=zby (fun _=>rfl) l
structure Node where
  name:ByteArray
  box:Bool
  rules:Int
  entries:Int
deriving Inhabited,DecidableEq
def zrj (x:Node):T:=.agg ([T.str x.name,T.bool x.box,dy .i64 x.rules,dy .i64 x.entries])
theorem ycz {n:Nat} (x:Node):ir n (zrj x).cells=true:=by simp only [zrj,gn,nv,ir,zar,zev,ef]
theorem zq9 {n:Nat} (x:Node):(zrj x).ids n=true:=by simp only [zrj,nv,ir,zar,zev,ef]
structure Offl where
  node:Int
  port:Int
  tag:Int
  out:Int
  back:Int
  first:Int
deriving Inhabited,DecidableEq
def zri (x:Offl):T:=.agg ([dy .i64 x.node,dy .i64 x.port,dy .i64 x.tag,dy .i64 x.out,dy .i64 x.back,dy .i64 x.first])
theorem ycy {n:Nat} (x:Offl):ir n (zri x).cells=true:=by simp only [zri,gn,nv,ir,zar,zev,ef]
theorem zq8 {n:Nat} (x:Offl):(zri x).ids n=true:=by simp only [zri,nv,ir,zar,zev,ef]
structure Link where
  frm:Int
  to:Int
  cap:Int
deriving Inhabited,DecidableEq
def zrk (x:Link):T:=.agg ([dy .i64 x.frm,dy .i64 x.to,dy .i64 x.cap])
theorem yc0 {n:Nat} (x:Link):ir n (zrk x).cells=true:=by simp only [zrk,gn,nv,ir,zar,zev,ef]
theorem zra {n:Nat} (x:Link):(zrk x).ids n=true:=by simp only [zrk,nv,ir,zar,zev,ef]
structure zfe where
  port:Int
  tag:Int
  rules:List Int
deriving Inhabited,DecidableEq
def zgy (x:zfe):T:=.agg ([dy .i64 x.port,dy .i64 x.tag,ints x.rules])
theorem z7x {n:Nat} (x:zfe):ir n (zgy x).cells=true:=by simp only [zgy,gn,nv,ir,zar,zev,zos,ef]
theorem zou {n:Nat} (x:zfe):(zgy x).ids n=true:=by simp only [zgy,nv,ir,zar,zev,zos,ef]
structure Edge where
  name:ByteArray
  node:Int
deriving Inhabited,DecidableEq
def zrl (x:Edge):T:=.agg ([T.str x.name,dy .i64 x.node])
theorem yc1 {n:Nat} (x:Edge):ir n (zrl x).cells=true:=by simp only [zrl,gn,nv,ir,zar,zev,ef]
theorem zrb {n:Nat} (x:Edge):(zrl x).ids n=true:=by simp only [zrl,nv,ir,zar,zev,ef]
def zau (l:List Node):T:=.lst 4 (l.map zrj)
theorem zwn {n:Nat} (l:List Node):(zau l).ids n=true:=zby (fun x=>zq9 x) l
theorem zzv {n:Nat} (l:List Node):ir n (l.map zrj)=true:=zby (fun x=>zq9 x) l
theorem zzo {n:Nat} (l:List Node):ir n (vecC zrj l)=true:=zh5 (fun x=>ycz x) l
def zav (l:List Link):T:=.lst 3 (l.map zrk)
theorem zwo {n:Nat} (l:List Link):(zav l).ids n=true:=zby (fun x=>zra x) l
theorem zzw {n:Nat} (l:List Link):ir n (l.map zrk)=true:=zby (fun x=>zra x) l
theorem zzp {n:Nat} (l:List Link):ir n (vecC zrk l)=true:=zh5 (fun x=>yc0 x) l
def zaw (l:List Edge):T:=.lst 2 (l.map zrl)
theorem zwp {n:Nat} (l:List Edge):(zaw l).ids n=true:=zby (fun x=>zrb x) l
theorem zzy {n:Nat} (l:List Edge):ir n (l.map zrl)=true:=zby (fun x=>zrb x) l
theorem zzq {n:Nat} (l:List Edge):ir n (vecC zrl l)=true:=zh5 (fun x=>yc1 x) l
structure Net where
  nodes:List Node
  links:List Link
  edges:List Edge
deriving Inhabited,DecidableEq
def eNet (x:Net):T:=.agg ([zau x.nodes,zav x.links,zaw x.edges])
theorem yak {n:Nat} (x:Net):(eNet x).ids n=true:=by simp only [eNet,nv,ir,zar,zev,zwn,zwo,zwp,ef]
structure zc1 where
  kind:Int
  var:ByteArray
  key:List ByteArray
  field:ByteArray
  n:Int
  m:Int
deriving Inhabited,DecidableEq
def zht (x:zc1):T:=.agg ([dy .i64 x.kind,T.str x.var,strs x.key,T.str x.field,dy .i64 x.n,dy .i64 x.m])
theorem z7w {n:Nat} (x:zc1):ir n (zht x).cells=true:=by simp only [zht,gn,nv,ir,zar,zev,zua,ef]
theorem zot {n:Nat} (x:zc1):(zht x).ids n=true:=by simp only [zht,nv,ir,zar,zev,zua,ef]
structure Pat where
  mask:Ar 10
  bits:Ar 10
deriving Inhabited,DecidableEq
def ePat (x:Pat):T:=.agg (x.mask.l.map (dy .i64)++(x.bits.l.map (dy .i64)))
theorem yaj {n:Nat} (x:Pat):(ePat x).ids n=true:=by simp only [ePat,nv,ir,zar,zev,ef]
theorem ze3 (x:Pat):(ePat x).cells.length=20:=by simp only [ePat,gn,et,gb,zv8,ed,Ar.len]
def zur (x:Pat):List Value:=x.mask.l.map (la .i64)++(x.bits.l.map (la .i64))
def yeu:List CK:=el 10 (CK.int .i64)++(el 10 (CK.int .i64))
theorem z88 (x:Pat):zgv (x.mask.l.map (dy .i64)++(x.bits.l.map (dy .i64)))=some (zur x):=(zmi (zqn _) (zqn _))
theorem yax (x:Pat):zf9 yeu (zur x)=true:=(z71 _ (yaw _))
theorem yjn (a b:Pat):a=b↔a.mask=b.mask/\a.bits=b.bits:=by cases a;cases b;simp
theorem yoc (a b:Pat):eqVs (zur a) (zur b)=decide (a=b):=by
  rw [Bool.eq_iff_iff];simp [zur,yin,z76,eqVs,zto,and_assoc,yjn]
structure Spot where
  port:Int
  tag:Int
deriving Inhabited,DecidableEq
def zed (x:Spot):T:=.agg ([dy .i64 x.port,dy .i64 x.tag])
theorem ycw {n:Nat} (x:Spot):ir n (zed x).cells=true:=by simp only [zed,gn,nv,ir,zar,zev,ef]
theorem zq6 {n:Nat} (x:Spot):(zed x).ids n=true:=by simp only [zed,nv,ir,zar,zev,ef]
structure Alt where
  link:Int
  mod:Pat
deriving Inhabited,DecidableEq
def eAlt (x:Alt):T:=.agg (dy .i64 x.link :: (x.mod.mask.l.map (dy .i64)++(x.mod.bits.l.map (dy .i64))))
theorem yhe {n:Nat} (x:Alt):ir n (eAlt x).cells=true:=by simp only [eAlt,gn,nv,ir,zar,zev,ef]
theorem zuc {n:Nat} (x:Alt):(eAlt x).ids n=true:=by simp only [eAlt,nv,ir,zar,zev,ef]
theorem zca (x:Alt):(eAlt x).cells.length=21:=by simp only [eAlt,gn,et,gb,zv8,ed,Ar.len]
theorem z1w (x:Alt):(eAlt x).cells.all T.one=true:=by simp only [eAlt,gn,gy,nq,z2v,zsj,zt8,zqw,zt6,zt7,ef]
def zus (x:Alt):List Value:=la .i64 x.link :: (x.mod.mask.l.map (la .i64)++(x.mod.bits.l.map (la .i64)))
def yev:List CK:=CK.int .i64 :: (el 10 (CK.int .i64)++(el 10 (CK.int .i64)))
theorem z89 (x:Alt):zgv (dy .i64 x.link :: (x.mod.mask.l.map (dy .i64)++(x.mod.bits.l.map (dy .i64))))=some (zus x):=(z66 rfl (zmi (zqn _) (zqn _)))
theorem yay (x:Alt):zf9 yev (zus x)=true:=(yhz (ysj _ _) (z71 _ (yaw _)))
theorem yqw (a b:Alt):a=b↔a.link=b.link/\a.mod=b.mod:=by cases a;cases b;simp
theorem yod (a b:Alt):eqVs (zus a) (zus b)=decide (a=b):=by
  rw [Bool.eq_iff_iff];simp [zus,yin,z76,eqVs,zto,and_assoc,yjn,yqw]
def lAlt (l:List Alt):T:=.lst 21 (l.map eAlt)
theorem zub {n:Nat} (l:List Alt):(lAlt l).ids n=true:=zby (fun x=>zuc x) l
theorem z40 {n:Nat} (l:List Alt):ir n (l.map eAlt)=true:=zby (fun x=>zuc x) l
theorem z4y {n:Nat} (l:List Alt):ir n (vecC eAlt l)=true:=zh5 (fun x=>yhe x) l
def zbb (l:List (List Alt)):T:=.lst 1 (l.map lAlt)
theorem zq5 {n:Nat} (l:List (List Alt)):(zbb l).ids n=true:=zby (fun x=>zub x) l
theorem zzx {n:Nat} (l:List (List Alt)):ir n (l.map lAlt)=true:=zby (fun x=>zub x) l
theorem z55 (x:List Alt):(lAlt x).cells=[lAlt x]:=eg rfl rfl
theorem z4d (x:List Alt):T.one (lAlt x)=true:=eg rfl rfl
structure Rule where
  prio:Int
  mat:Pat
  step:Int
  outs:List (List Alt)
deriving Inhabited,DecidableEq
def zai (x:Rule):T:=.agg (dy .i64 x.prio :: (x.mat.mask.l.map (dy .i64)++(x.mat.bits.l.map (dy .i64)++[dy .i64 x.step,zbb x.outs])))
theorem ycx {n:Nat} (x:Rule):ir n (zai x).cells=true:=by simp only [zai,gn,nv,ir,zar,zev,zq5,ef]
theorem zq7 {n:Nat} (x:Rule):(zai x).ids n=true:=by simp only [zai,nv,ir,zar,zev,zq5,ef]
theorem zbc (x:Rule):(zai x).cells.length=23:=by simp only [zai,gn,et,gb,zv8,ed,Ar.len]
theorem znq (x:Rule):(zai x).cells.all T.one=true:=by simp only [zai,gn,gy,nq,z2v,zsj,zt8,zqw,zt6,zt7,ef,zbb.eq_1]
def zag (l:List Rule):T:=.lst 23 (l.map zai)
theorem zq4 {n:Nat} (l:List Rule):(zag l).ids n=true:=zby (fun x=>zq7 x) l
theorem zzt {n:Nat} (l:List Rule):ir n (l.map zai)=true:=zby (fun x=>zq7 x) l
theorem zzm {n:Nat} (l:List Rule):ir n (vecC zai l)=true:=zh5 (fun x=>ycx x) l
def zak (l:List (List Rule)):T:=.lst 1 (l.map zag)
theorem zor {n:Nat} (l:List (List Rule)):(zak l).ids n=true:=zby (fun x=>zq4 x) l
theorem zwl {n:Nat} (l:List (List Rule)):ir n (l.map zag)=true:=zby (fun x=>zq4 x) l
theorem z0l (x:List Rule):(zag x).cells=[zag x]:=eg rfl rfl
theorem zza (x:List Rule):T.one (zag x)=true:=eg rfl rfl
def zah (l:List zc1):T:=.lst 6 (l.map zht)
theorem zoq {n:Nat} (l:List zc1):(zah l).ids n=true:=zby (fun x=>zot x) l
theorem zwk {n:Nat} (l:List zc1):ir n (l.map zht)=true:=zby (fun x=>zot x) l
theorem zwi {n:Nat} (l:List zc1):ir n (vecC zht l)=true:=zh5 (fun x=>z7w x) l
structure zam where
  version:Int
  tables:List (List Rule)
  steps:List zc1
deriving Inhabited,DecidableEq
def zds (x:zam):T:=.agg ([dy .i64 x.version,zak x.tables,zah x.steps])
theorem zwq {n:Nat} (x:zam):(zds x).ids n=true:=by simp only [zds,nv,ir,zar,zev,zor,zoq,ef]
structure zxq where
  c:zam
  e:Int
deriving Inhabited,DecidableEq
def zw5 (x:zxq):T:=.agg ([dy .i64 x.c.version,zak x.c.tables,zah x.c.steps,dy .i64 x.e])
theorem zz1 {n:Nat} (x:zxq):(zw5 x).ids n=true:=by simp only [zw5,nv,ir,zar,zev,zor,zoq,ef]
structure yjq where
  links:List Int
  node:Int
deriving Inhabited,DecidableEq
def zuj (x:yjq):T:=.agg ([ints x.links,dy .i64 x.node])
theorem ztd {n:Nat} (x:yjq):(zuj x).ids n=true:=by simp only [zuj,nv,ir,zar,zev,zos,ef]
def ztc (l:List zfe):T:=.lst 3 (l.map zgy)
theorem zz0 {n:Nat} (l:List zfe):(ztc l).ids n=true:=zby (fun x=>zou x) l
theorem zwm {n:Nat} (l:List zfe):ir n (l.map zgy)=true:=zby (fun x=>zou x) l
theorem zwj {n:Nat} (l:List zfe):ir n (vecC zgy l)=true:=zh5 (fun x=>z7x x) l
def zwa (l:List Offl):T:=.lst 6 (l.map zri)
theorem z43 {n:Nat} (l:List Offl):(zwa l).ids n=true:=zby (fun x=>zq8 x) l
theorem zzu {n:Nat} (l:List Offl):ir n (l.map zri)=true:=zby (fun x=>zq8 x) l
theorem zzn {n:Nat} (l:List Offl):ir n (vecC zri l)=true:=zh5 (fun x=>ycy x) l
def ypu (l:List Spot):T:=.lst 2 (l.map zed)
theorem z42 {n:Nat} (l:List Spot):(ypu l).ids n=true:=zby (fun x=>zq6 x) l
theorem zzs {n:Nat} (l:List Spot):ir n (l.map zed)=true:=zby (fun x=>zq6 x) l
theorem zzl {n:Nat} (l:List Spot):ir n (vecC zed l)=true:=zh5 (fun x=>ycw x) l
theorem ylu (ax:Axs) (a b:Pat):(∀ (S:TS) (x y:ej),tBin Tryz.prog (EE ax) S 101 .eql x y (.agg (a.mask.l.map (dy .i64)++(a.bits.l.map (dy .i64)))) (.agg (b.mask.l.map (dy .i64)++(b.bits.l.map (dy .i64))))=some (.bool (decide (a=b))))/\(∀ (S:TS) (x y:ej),tBin Tryz.prog (EE ax) S 101 .neq x y (.agg (a.mask.l.map (dy .i64)++(a.bits.l.map (dy .i64)))) (.agg (b.mask.l.map (dy .i64)++(b.bits.l.map (dy .i64))))=some (.bool (!(decide (a=b))))):=⟨fun _ _ _=>(z03 (sh:=yeu) (by kernel_rfl) (by kernel_rfl) (z88 a) (z88 b) (yax a) (yax b) (yoc a b)).1,fun _ _ _=>(z03 (sh:=yeu) (by kernel_rfl) (by kernel_rfl) (z88 a) (z88 b) (yax a) (yax b) (yoc a b)).2⟩
theorem ysx (ax:Axs) (a b:Alt):(∀ (S:TS) (x y:ej),tBin Tryz.prog (EE ax) S 123 .eql x y (.agg (dy .i64 a.link :: (a.mod.mask.l.map (dy .i64)++(a.mod.bits.l.map (dy .i64))))) (.agg (dy .i64 b.link :: (b.mod.mask.l.map (dy .i64)++(b.mod.bits.l.map (dy .i64)))))=some (.bool (decide (a=b))))/\(∀ (S:TS) (x y:ej),tBin Tryz.prog (EE ax) S 123 .neq x y (.agg (dy .i64 a.link :: (a.mod.mask.l.map (dy .i64)++(a.mod.bits.l.map (dy .i64))))) (.agg (dy .i64 b.link :: (b.mod.mask.l.map (dy .i64)++(b.mod.bits.l.map (dy .i64)))))=some (.bool (!(decide (a=b))))):=⟨fun _ _ _=>(z03 (sh:=yev) (by kernel_rfl) (by kernel_rfl) (z89 a) (z89 b) (yay a) (yay b) (yod a b)).1,fun _ _ _=>(z03 (sh:=yev) (by kernel_rfl) (by kernel_rfl) (z89 a) (z89 b) (yay a) (yay b) (yod a b)).2⟩
theorem eqA:type_of% (dr (dr (dr (dr (@ints.eq_1) (dr (@ypv.eq_1) (@strs.eq_1))) (dr (@zrj.eq_1) (dr (@zri.eq_1) (@zrk.eq_1)))) (dr (dr (@zgy.eq_1) (dr (@zrl.eq_1) (@zau.eq_1))) (dr (@zav.eq_1) (dr (@zaw.eq_1) (@eNet.eq_1))))) (dr (dr (dr (@zht.eq_1) (dr (@ePat.eq_1) (@zed.eq_1))) (dr (@eAlt.eq_1) (dr (@lAlt.eq_1) (@zbb.eq_1)))) (dr (dr (@z55) (dr (@z4d) (@zai.eq_1))) (dr (@zag.eq_1) (dr (@zak.eq_1) (@z0l)))))):=dr (dr (dr (dr (@ints.eq_1) (dr (@ypv.eq_1) (@strs.eq_1))) (dr (@zrj.eq_1) (dr (@zri.eq_1) (@zrk.eq_1)))) (dr (dr (@zgy.eq_1) (dr (@zrl.eq_1) (@zau.eq_1))) (dr (@zav.eq_1) (dr (@zaw.eq_1) (@eNet.eq_1))))) (dr (dr (dr (@zht.eq_1) (dr (@ePat.eq_1) (@zed.eq_1))) (dr (@eAlt.eq_1) (dr (@lAlt.eq_1) (@zbb.eq_1)))) (dr (dr (@z55) (dr (@z4d) (@zai.eq_1))) (dr (@zag.eq_1) (dr (@zak.eq_1) (@z0l)))))
theorem eqB:type_of% (dr (dr (dr (dr (@zza) (@zah.eq_1)) (dr (@zds.eq_1) (@zw5.eq_1))) (dr (dr (@zuj.eq_1) (@ztc.eq_1)) (dr (@zwa.eq_1) (@ypu.eq_1)))) (dr (dr (dr (@ydo) (@z22)) (dr (@ydn) (@z21))) (dr (dr (@ydm) (@z20)) (dr (@ydk) (@z2z))))):=dr (dr (dr (dr (@zza) (@zah.eq_1)) (dr (@zds.eq_1) (@zw5.eq_1))) (dr (dr (@zuj.eq_1) (@ztc.eq_1)) (dr (@zwa.eq_1) (@ypu.eq_1)))) (dr (dr (dr (@ydo) (@z22)) (dr (@ydn) (@z21))) (dr (dr (@ydm) (@z20)) (dr (@ydk) (@z2z))))
theorem eqsA:type_of% (dr (dr (dr (dr (@ych) (dr (@sgT) (@sgT1))) (dr (@sgD) (dr (@sgD1) (@sgG)))) (dr (dr (@splA) (dr (@yrg) (@yrf))) (dr (@splS) (dr (@yje) (@z6k))))) (dr (dr (dr (@zv8) (dr (@z2v) (@z27))) (dr (@z5n) (dr (@ymy) (@yr6)))) (dr (dr (@ymx) (dr (@yg4) (@yir))) (dr (@yqx) (dr (@Ar.len) (@zsj)))))):=dr (dr (dr (dr (@ych) (dr (@sgT) (@sgT1))) (dr (@sgD) (dr (@sgD1) (@sgG)))) (dr (dr (@splA) (dr (@yrg) (@yrf))) (dr (@splS) (dr (@yje) (@z6k))))) (dr (dr (dr (@zv8) (dr (@z2v) (@z27))) (dr (@z5n) (dr (@ymy) (@yr6)))) (dr (dr (@ymx) (dr (@yg4) (@yir))) (dr (@yqx) (dr (@Ar.len) (@zsj)))))
theorem eqsB:type_of% (dr (dr (dr (@z6b) (@z2w)) (dr (@yoo) (@sub0))) (dr (dr (@z8y) (@z2p)) (dr (@yd6) (dr (@yop) (@yji))))):=dr (dr (dr (@z6b) (@z2w)) (dr (@yoo) (@sub0))) (dr (dr (@z8y) (@z2p)) (dr (@yd6) (dr (@yop) (@yji))))
theorem idsA:type_of% (dr (dr (dr (dr (@zos) (dr (@z41) (@z44))) (dr (@zzz) (dr (@zzr) (@zua)))) (dr (dr (@z4z) (dr (@zq9) (@zq8))) (dr (@zra) (dr (@zou) (@zrb))))) (dr (dr (dr (@zwn) (dr (@zzv) (@zzo))) (dr (@zwo) (dr (@zzw) (@zzp)))) (dr (dr (@zwp) (dr (@zzy) (@zzq))) (dr (@yak) (dr (@zot) (@yaj)))))):=dr (dr (dr (dr (@zos) (dr (@z41) (@z44))) (dr (@zzz) (dr (@zzr) (@zua)))) (dr (dr (@z4z) (dr (@zq9) (@zq8))) (dr (@zra) (dr (@zou) (@zrb))))) (dr (dr (dr (@zwn) (dr (@zzv) (@zzo))) (dr (@zwo) (dr (@zzw) (@zzp)))) (dr (dr (@zwp) (dr (@zzy) (@zzq))) (dr (@yak) (dr (@zot) (@yaj)))))
theorem idsB:type_of% (dr (dr (dr (dr (@zq6) (dr (@zuc) (@zub))) (dr (@z40) (dr (@z4y) (@zq5)))) (dr (dr (@zzx) (dr (@zq7) (@zq4))) (dr (@zzt) (dr (@zzm) (@zor))))) (dr (dr (dr (@zwl) (dr (@zoq) (@zwk))) (dr (@zwi) (dr (@zwq) (@zz1)))) (dr (dr (@ztd) (dr (@zz0) (@zwm))) (dr (@zwj) (dr (@z43) (@zzu)))))):=dr (dr (dr (dr (@zq6) (dr (@zuc) (@zub))) (dr (@z40) (dr (@z4y) (@zq5)))) (dr (dr (@zzx) (dr (@zq7) (@zq4))) (dr (@zzt) (dr (@zzm) (@zor))))) (dr (dr (dr (@zwl) (dr (@zoq) (@zwk))) (dr (@zwi) (dr (@zwq) (@zz1)))) (dr (dr (@ztd) (dr (@zz0) (@zwm))) (dr (@zwj) (dr (@z43) (@zzu)))))
theorem idsC:type_of% (dr (dr (dr (@zzn) (@z42)) (dr (@zzs) (@zzl))) (dr (dr (@yal) (@zev)) (dr (@yhf) (@zar)))):=dr (dr (dr (@zzn) (@z42)) (dr (@zzs) (@zzl))) (dr (dr (@yal) (@zev)) (dr (@yhf) (@zar)))
structure ylv (ax:Axs):Prop where
  no:∀ f,ei f 8=false->ax f=none
  san:Pure Tryz.prog (EE ax) [] 8 [] (.bool true)
theorem Pure.clr {P:fd} {Γ:Env} {GL:List (Nat×List Value)} {f:FuncId} {args:List T} {v v2:T} {S:TS} (k:Pure P Γ GL f args v) (e:v=v2):zap P Γ GL f args S v2:=e ▸ k.call S
mutual
inductive Rt (W:World):T->Value->Prop
  |int (k n):Rt W (.int k n) (.int k n)
  |bool (b):Rt W (.bool b) (.bool b)
  |str (b):Rt W (.str b) (.string b)
  |agg {l cs}:RtL W l cs->Rt W (.agg l) (.agg ⟨cs⟩)
  |nil {e}:Rt W (.lst e []) (.slice none 0 0)
  |zero {e a}:0<e->0<W.heap.size->Rt W (.lst e []) (.slice (some a) 0 0)
  |lst {e l b off cap cs}:RtL W (l.flatMap gn) cs->(∀ t,t∈l->t.cells.length=e)->0<e->l.length<=cap->cap<=maxLen->(W.cell? ⟨b,off,none⟩).isSome=true->(∀ (j:Nat) u,cs[j]?=some u->W.cell? ⟨b,off+j,none⟩=some u)->Rt W (.lst e l) (.slice (some ⟨b,off,none⟩) l.length cap)
inductive RtL (W:World):List T->List Value->Prop
  |nil:RtL W [] []
  |cons {t v l vs}:Rt W t v->RtL W l vs->RtL W (t :: l) (v :: vs)
end
section
variable {W:World} {N:Nat} {G:List Nat} {K:List (Nat×List Value)}
theorem RtL.len:∀ {l:List T} {vs:List Value},RtL W l vs->l.length=vs.length
  |_,_,.nil=>rfl
  |_,_,.cons _ h=>by rw [et,et,h.len]
theorem z8i {b j k:Nat} (h:(W.cell? ⟨b,k,none⟩).isSome=true) (hj:j<=k):(W.cell? ⟨b,j,none⟩).isSome=true:=by
  unfold World.cell? at h ⊢;simp only at h ⊢;split at h
  . rename_i c _ _ hb;simp only [Option.isSome_none,Bool.false_eq_true,if_false] at h ⊢
    have:k<c.size:=by
      by_cases hk:k<c.size
      . exact hk
      . rw [Array.getElem?_eq_none (by omega)] at h;simp at h
    rw [ji (by omega)];rfl
  . simp at h
theorem ylj {b k:Nat} (h:(W.cell? ⟨b,k,none⟩).isSome=true):b<W.heap.size:=by
  unfold World.cell? at h;simp only at h;by_cases hb:b<W.heap.size
  . exact hb
  . rw [Array.getElem?_eq_none (by omega)] at h;simp at h
theorem zvj {u:Nat} {m:List (Nat×List Value)}:∀ {l:List (Nat×List Value)},(∀ p,p∈l->p.1≠u)->zck (l++m) u=zck m u
  |[],_=>rfl
  |p :: l,h=>by
    show (bif ei p.1 u then some p.2 else zck (l++m) u)=_;rw [zpi (h p (by simp)),cond_false];exact zvj fun q hq=>h q (by simp [hq])
theorem zva {f:Nat} {q:Seg}:∀ {F:List Seg} {i j:Nat},F[i]?=some q->q.b=f->zck (zk3 N f j F) ((N+(j+i))*1024)=some q.cs
  |[],i,j,h,_=>by simp at h
  |p :: F,0,j,h,hb=>by
    simp only [fp,du] at h;subst h;unfold zk3;rw [zAc hb]
    simp [zck,Nat.beq_refl]
  |p :: F,i+1,j,h,hb=>by
    have ih:=zva (F:=F) (i:=i) (j:=j+1) (by simpa using h) hb;rw [show j+1+i=j+(i+1) by omega] at ih;unfold zk3;split
    . unfold zck
      have:ei ((N+j)*1024) ((N+(j+(i+1)))*1024)=false:=by
        cases hq:ei ((N+j)*1024) ((N+(j+(i+1)))*1024) with
        |false=>rfl
        |true=>have:=ec hq;omega
      rw [this];exact ih
    . exact ih
def Low (N:Nat):Nat->Prop:=fun f=>f<N
structure En (W:World) (N:Nat) (G:List Nat) (K:List (Nat×List Value)) (pre A:List Seg) (l:List T) (xs vs:List Value):Prop where
  vr:∀ post,RL (VR (sgS N G K (pre++A++post))) xs vs
  vl:∀ post,VL (Low N) bx0 (famS N K (pre++A++post)) l xs
  at_:∀ post q,q∈A->ys3 (sgS N G K (pre++A++post)) W q
theorem yrh (hK:∀ p,p∈K->has G p.1=true) (hG:∀ g,has G g=true->g<N) {F:List Seg} {i:Nat} {q:Seg} (hq:F[i]?=some q) (hb:q.b<N) :
    sgS N G K F q.b ((N+i)*1024)=some (q.b,q.o,q.o+q.cs.length)/\zck (famS N K F q.b).rows ((N+i)*1024)=some q.cs:=by
  constructor
  . unfold sgS;rw [zAd (by rintro ⟨_,h⟩;omega),zAc (by omega)];have e:(N+i)*1024 / 1024 - N=i:=by omega
    rw [e,hq];show (if q.b=q.b then _ else _)=_;rw [zAc rfl]
  . show zck ((famK K q.b).rows++zk3 N q.b 0 F) _=_;rw [zvj fun p hp=>?_]
    . have:=zva (N:=N) (j:=0) hq rfl
      rwa [fy] at this
    . obtain ⟨h1,h2,_⟩:=zwz hp;have:=hG _ (hK _ h2);rw [h1];simp only at this;omega
theorem yha {α:Type} (pre A post:List α) (q:α):(pre++(A++[q])++post)[pre.length+A.length]?=some q:=by
  rw [ew,ew,gi (by omega),gi (by omega)];simp
mutual
theorem ent (hN:N=W.heap.size) (hK:∀ p,p∈K->has G p.1=true) (hG:∀ g,has G g=true->g<N):∀ {t:T} {v:Value},Rt W t v->∀ pre,∃ A x,En W N G K pre A [t] [x] [v]
  |_,_,.int k n,pre=>⟨[],.int k n,⟨fun _=>⟨zig 3 rfl,trivial⟩,fun _=>.cons (.int k n) .nil,fun _ q hq=>by simp at hq⟩⟩
  |_,_,.bool b,pre=>⟨[],.bool b,⟨fun _=>⟨zig 3 rfl,trivial⟩,fun _=>.cons (.bool b) .nil,fun _ q hq=>by simp at hq⟩⟩
  |_,_,.str b,pre=>⟨[],.string b,⟨fun _=>⟨zig 3 rfl,trivial⟩,fun _=>.cons (.str b) .nil,fun _ q hq=>by simp at hq⟩⟩
  |_,_,.agg h,pre=>by
    obtain ⟨A,xs,k⟩:=entL hN hK hG h pre;exact ⟨A,.agg ⟨xs⟩,fun post=>⟨VR.mk ⟨_,rfl,k.vr post⟩,trivial⟩,fun post=>.cons (.agg (k.vl post)) .nil,k.at_⟩
  |_,_,.nil,pre=>⟨[],.slice none 0 0,⟨fun _=>⟨VR.mk ⟨rfl,rfl,rfl⟩,trivial⟩,fun _=>.cons .lnil .nil,fun _ q hq=>by simp at hq⟩⟩
  |.lst e _,.slice _ _ _,@Rt.zero _ _ a he hs,pre=>by
    have hi:=fun post=>yha pre [] post (⟨0,0,[]⟩:Seg);have h0:∀ post,_:=fun post=>yrh (q:=(⟨0,0,[]⟩:Seg)) hK hG (hi post) (by show 0<N;omega);refine ⟨[⟨0,0,[]⟩],.slice (some (mkA 0 ((N+(pre.length+0))*1024) 0)) 0 0,⟨fun post=>⟨VR.mk ⟨0,0,_,(h0 post).1,a,0,rfl,ee _,ee _,ft _,fun h=>absurd rfl h,fun _=>rfl,fun _ h=>absurd rfl h⟩,trivial⟩,fun post=>.cons ?_ .nil,fun post q hq=>?_⟩⟩
    . exact .lst (l:=[]) (cs:=[]) (show (0:Nat)<N by omega) (h0 post).2 .nil (fun t ht=>by simp at ht) he rfl (.inl (by omega)) (ee _)
    . simp only [lc] at hq;subst hq;exact ⟨hs,fun j hj=>by simp at hj,fun j u hu=>by simp at hu⟩
  |.lst e l,.slice _ _ cap,@Rt.lst _ _ _ b off _ cs h hs he hl hm hc hcell,pre=>by
    obtain ⟨A,xs,k⟩:=entL hN hK hG h pre;have hxl:xs.length=cs.length:=(k.vr []).length;have hb:b<W.heap.size:=ylj hc;have hi:=fun post=>yha pre A post (⟨b,off,xs⟩:Seg);have h0:=fun post=>yrh (q:=(⟨b,off,xs⟩:Seg)) hK hG (hi post) (by show b<N;omega);have hF:∀ post,pre++(A++[⟨b,off,xs⟩])++post=pre++A++((⟨b,off,xs⟩:Seg) :: post):=fun post=>by simp
    refine ⟨A++[⟨b,off,xs⟩],.slice (some (mkA b ((N+(pre.length+A.length))*1024) 0)) l.length cap,⟨fun post=>⟨VR.mk ⟨b,off,_,(h0 post).1,⟨b,off,none⟩,cap,rfl,hl,ee _,hm,fun _=>rfl,fun _=>rfl,fun ht=>?_⟩,trivial⟩,fun post=>.cons ?_ .nil,fun post q hq=>?_⟩⟩
    . rw [zjv] at ht;omega
    . refine .lst (cs:=xs) (show b<N by omega) (h0 post).2 ?_ hs he (by rw [fl,List.take_length]) (.inl (by omega)) hl;rw [hF];exact k.vl _
    . rcases List.mem_append.1 hq with hq|hq
      . rw [hF];exact k.at_ _ q hq
      . simp only [lc] at hq;subst hq;refine ⟨hb,fun j hj=>?_,fun j u hu=>?_⟩
        . have hj:j<off+xs.length:=hj;by_cases h1:j<=off
          . exact z8i hc h1
          . have hjc:j - off<cs.length:=by omega
            have:=hcell (j - off) _ (d6 hjc);rw [show off+(j - off)=j by omega] at this;rw [this];rfl
        . have hju:j<xs.length:=(ek.1 hu).1;have hu:xs[j]?=some u:=hu;have hcs:=d6 (l:=cs) (i:=j) (by omega);refine ⟨_,hcell j _ hcs,?_⟩;rw [hF];obtain ⟨y,hy1,hy2⟩:=(k.vr (⟨b,off,xs⟩ :: post)).at hu;rw [hcs] at hy1;cases hy1;exact hy2
theorem entL (hN:N=W.heap.size) (hK:∀ p,p∈K->has G p.1=true) (hG:∀ g,has G g=true->g<N):∀ {l:List T} {vs:List Value},RtL W l vs->∀ pre,∃ A xs,En W N G K pre A l xs vs
  |_,_,.nil,pre=>⟨[],[],⟨fun _=>trivial,fun _=>.nil,fun _ q hq=>by simp at hq⟩⟩
  |_,_,.cons h1 h2,pre=>by
    obtain ⟨A1,x,k1⟩:=ent hN hK hG h1 pre;obtain ⟨A2,xs,k2⟩:=entL hN hK hG h2 (pre++A1);have e1:∀ post,pre++(A1++A2)++post=pre++A1++(A2++post):=fun post=>by simp
    have e2:∀ post,pre++(A1++A2)++post=pre++A1++A2++post:=fun post=>by simp
    refine ⟨A1++A2,x :: xs,⟨fun post=>⟨?_,?_⟩,fun post=>?_,fun post q hq=>?_⟩⟩
    . rw [e1];exact (k1.vr _).1
    . rw [e2];exact k2.vr _
    . have a:=k1.vl (A2++post);have b:=k2.vl post;rw [<- e1] at a;rw [<- e2] at b
      cases a with
      |cons a _=>exact .cons a b
    . rcases List.mem_append.1 hq with hq|hq
      . rw [e1];exact k1.at_ _ q hq
      . rw [e2];exact k2.at_ _ q hq
end
end
inductive Sh where
  |int (k:gl)
  |bool
  |str
  |slice (e:Sh)
  |struct (l:List Sh)
  |arr (k:gl) (n:Nat)
mutual
def Sh.sz:Sh->Nat
  |.struct l=>Sh.szL l
  |.arr _ n=>n
  |_=>1
def Sh.szL:List Sh->Nat
  |[]=>0
  |s :: l=>s.sz+Sh.szL l
end
mutual
def shOk (P:fd):Sh->ez->Bool
  |.int k,t=>match P.underlying t with|some (.int k')=>decide (k=k')|_=>false
  |.bool,t=>match P.underlying t with|some .bool=>true|_=>false
  |.str,t=>match P.underlying t with|some .string=>true|_=>false
  |.slice s,t=>match P.underlying t with|some (.slice e)=>ei (P.cellsOf e) s.sz && (fq 0 s.sz && shOk P s e)|_=>false
  |.struct l,t=>match P.underlying t with|some (.struct fs)=>ei (P.cellsOf t) (Sh.szL l) && ycg P l fs.toList 0|_=>false
  |.arr k n,t=>match P.underlying t with|some (.array m e)=>ei m n && (ei (P.cellsOf t) n && (ei (P.cellsOf e) 1 && (match P.underlying e with|some (.int k')=>decide (k=k')|_=>false)))|_=>false
def ycg (P:fd):List Sh->List Field->Nat->Bool
  |[],[],_=>true
  |s :: l,f :: fs,o=>ei f.offset o && (ei (P.cellsOf f.type) s.sz && (shOk P s f.type && ycg P l fs (o+s.sz)))
  |_,_,_=>false
end
mutual
def conf:Sh->T->Prop
  |.int k,t=>∃ n,t=.int k n/\(Lit.int k n).wf=true
  |.bool,t=>∃ b,t=.bool b
  |.str,t=>∃ s,t=.str s/\s.size<=maxLen
  |.slice e,t=>∃ l,t=.lst e.sz l/\l.length<=maxLen/\∀ x,x∈l->conf e x
  |.struct l,t=>∃ cs,t=.agg cs/\yqb l cs
  |.arr k n,t=>∃ a:Ar n,t=.agg (a.l.map (dy k))/\∀ x,x∈a.l->(Lit.int k x).wf=true
def yqb:List Sh->List T->Prop
  |[],cs=>cs=[]
  |s :: l,cs=>∃ x r,cs=x.cells++r/\conf s x/\yqb l r
end
theorem yi2 {α:Type} {p:Nat->α->Prop}:∀ n,(∀ i,i<n->∃ x,p i x)->∃ l:List α,l.length=n/\∀ i (hi:i<l.length),p i l[i]:=by
  intro n
  induction n with
  |zero=>intro _;exact ⟨[],rfl,fun i hi=>by simp at hi⟩
  |succ n ih =>
    intro h;obtain ⟨l,hl,hp⟩:=ih (fun i hi=>h i (by omega));obtain ⟨x,hx⟩:=h n (by omega);refine ⟨l++[x],by simp [hl],fun i hi=>?_⟩;by_cases hin:i<l.length
    . rw [List.getElem_append_left hin];exact hp i hin
    . have:i=l.length:=by simp at hi;omega
      subst this;rw [List.getElem_append_right (ee _)];simpa [hl] using hx
section
variable {H:Type} {enc:ez×Value->H} {P:fd} {W:World}
theorem RtL.append:∀ {l l2:List T} {vs vs2:List Value},RtL W l vs->RtL W l2 vs2->RtL W (l++l2) (vs++vs2)
  |_,_,_,_,.nil,k=>k
  |_,_,_,_,.cons h k,k2=>.cons h (k.append k2)
theorem RtL.flat:∀ {l:List (T×List Value)},(∀ p,p∈l->RtL W p.1.cells p.2)->RtL W ((l.map (·.1)).flatMap gn) (l.map (·.2)).flatten
  |[],_=>.nil
  |p :: l,h=>by
    rw [gj,iu,gj,f5];exact (h p (by simp)).append (RtL.flat fun q hq=>h q (by simp [hq]))
theorem zz4 {b k:Nat}:∀ {l:List (List Value)} {o:Nat},(∀ c,c∈l->c.length=k)->(∀ (i:Nat) c,l[i]?=some c->∀ j,j<k->W.cell? ⟨b,o+i*k+j,none⟩=c[j]?)->∀ (j:Nat) u,l.flatten[j]?=some u->W.cell? ⟨b,o+j,none⟩=some u
  |[],o,_,_,j,u,h=>by simp at h
  |c :: l,o,hl,hc,j,u,h=>by
    have hck:=hl c (by simp);rw [f5] at h;by_cases hj:j<c.length
    . rw [fj hj] at h;have:=hc 0 c rfl j (by omega);rw [Nat.zero_mul,gw] at this;rw [this,h]
    . rw [gi (by omega)] at h
      have:=zz4 (o:=o+k) (fun c hc=>hl c (by simp [hc])) (fun i c' hi j hj=>by
        have:=hc (i+1) c' (by simpa using hi) j hj;rw [show o+(i+1)*k+j=o+k+i*k+j by rw [iy];omega] at this
        exact this) (j - c.length) u h
      rw [show o+k+(j - c.length)=o+j by omega] at this;exact this
def zxp (W:World) (cs:List Value):Prop:=∀ v,v∈cs->(∃ a n c,v=.slice (some a) n c)->0<W.heap.size
theorem zxp.of (h:0<W.heap.size) (cs:List Value):zxp W cs:=fun _ _ _=>h
theorem zxp.sub {cs cs':List Value} (h:zxp W cs) (hs:∀ v,v∈cs'->v∈cs):zxp W cs':=fun v hv=>h v (hs v hv)
theorem ycf {s:Sh} {e t:ez} {fuel:Nat} {cs:List Value} {x:DataW H×List MemPlace} (ht:P.underlying t=some (.slice e)) (hsz:P.cellsOf e=s.sz) (hpos:0<s.sz)
    (ih:∀ {fuel:Nat} {cs:List Value} {x:DataW H×List MemPlace},DataW.trod enc P W 0 (fun _=>true) true fuel e cs=some x->zxp W cs->∃ tr,conf s tr/\RtL W tr.cells cs)
    (h:DataW.trod enc P W 0 (fun _=>true) true fuel t cs=some x) (hz:zxp W cs):∃ tr,conf (.slice s) tr/\RtL W tr.cells cs:=by
  rcases Go.Deep.open_slice ht h with ⟨rfl,_⟩|⟨a,len,cap,m,n,D,Pl,rfl,hb,hl,hm,hmm,_,hall⟩
  . exact ⟨.lst s.sz [],⟨[],rfl,ft _,fun x hx=>by simp at hx⟩,.cons .nil .nil⟩
  . have hh:0<W.heap.size:=hz (.slice (some a) len cap) (by simp) ⟨_,_,_,rfl⟩;simp only [if_true] at hmm;subst hmm;rw [hsz] at hall;by_cases h0:m=0
    . subst h0;have:len=0:=by omega
      subst this;exact ⟨.lst s.sz [],⟨[],rfl,ft _,fun x hx=>by simp at hx⟩,.cons (.zero hpos hh) .nil⟩
    obtain ⟨cs0,hc0,_⟩:=hall 0 (by omega);obtain ⟨_,hl0,hcc0⟩:=World.cells?_some hc0
    have hcell0:((W.cell? ((a.add (0*s.sz)).add 0))).isSome=true:=by
      rw [hcc0 0 hpos,d6 (by omega)];rfl
    obtain ⟨b,off,spot⟩:=a
    have hspot:spot=none:=by
      cases hq:W.cell? (((⟨b,off,spot⟩:Addr).add (0*s.sz)).add 0) with
      |none=>rw [hq] at hcell0;simp at hcell0
      |some u=>simpa [Addr.add] using World.cell?_spot hq
    subst hspot;simp only [l9,Nat.zero_mul,gw] at hcell0
    obtain ⟨l,hll,hp⟩:=yi2 (p:=fun i (p:T×List Value)=>conf s p.1/\RtL W p.1.cells p.2/\p.2.length=s.sz/\∀ j,j<s.sz->W.cell? ⟨b,off+i*s.sz+j,none⟩=p.2[j]?) len (fun i hi=>by
      obtain ⟨cs',h1,h2⟩:=hall i (by omega);obtain ⟨tr,k1,k2⟩:=ih h2 (zxp.of hh _);obtain ⟨-,hcl,hcc⟩:=World.cells?_some h1
      exact ⟨(tr,cs'),k1,k2,hcl,fun j hj=>by have:=hcc j hj;rw [l9,l9] at this;exact this⟩)
    have hmem:∀ p,p∈l->∃ i,i<l.length/\l[i]?=some p/\conf s p.1/\RtL W p.1.cells p.2/\p.2.length=s.sz:=fun p hp'=>by
      obtain ⟨i,hi,rfl⟩:=ku hp';exact ⟨i,hi,d6 hi,(hp i hi).1,(hp i hi).2.1,(hp i hi).2.2.1⟩
    refine ⟨.lst s.sz (l.map (·.1)),⟨_,rfl,by rw [ed];omega,fun x hx=>?_⟩,.cons ?_ .nil⟩
    . obtain ⟨p,hp1,rfl⟩:=ic.1 hx;obtain ⟨_,_,_,k,_⟩:=hmem p hp1;exact k
    . have:=Rt.lst (W:=W) (e:=s.sz) (l:=l.map (·.1)) (b:=b) (off:=off) (cap:=m) (cs:=(l.map (·.2)).flatten) (RtL.flat fun p hp1=>by obtain ⟨_,_,_,_,k,_⟩:=hmem p hp1;exact k) (fun t ht'=>?_) hpos (by rw [ed];omega) hm hcell0 ?_
      . rw [ed,hll] at this;exact this
      . obtain ⟨p,hp1,rfl⟩:=ic.1 ht';obtain ⟨_,_,_,_,k,k2⟩:=hmem p hp1;rw [k.len,k2]
      . refine zz4 (k:=s.sz) (fun c hc=>?_) (fun i c hi=>?_)
        . obtain ⟨p,hp1,rfl⟩:=ic.1 hc;obtain ⟨_,_,_,_,_,k2⟩:=hmem p hp1;exact k2
        . rw [kg] at hi
          cases hq:l[i]? with
          |none=>rw [hq] at hi;simp at hi
          |some p =>
            rw [hq] at hi;simp only [Option.map_some,du] at hi;subst hi;have hil:=(ek.1 hq).1;have:l[i]=p:=(ek.1 hq).2;have:=(hp i hil).2.2.2;rw [‹l[i]=p›] at this;exact this
theorem yb4 {W:World} {k:gl}:∀ (l:List Int),RtL W (l.map (dy k)) (l.map (la k))
  |[]=>.nil
  |x :: l=>.cons (.int _ _) (yb4 l)
theorem beqN {a b:Nat} (h:ei a b=true):a=b:=ec h
mutual
theorem zvx:∀ {s:Sh} {t:ez} {fuel:Nat} {cs:List Value} {x:DataW H×List MemPlace},shOk P s t=true->DataW.trod enc P W 0 (fun _=>true) true fuel t cs=some x->zxp W cs->∃ tr,conf s tr/\RtL W tr.cells cs
  |.int k,t,fuel,cs,x,hs,h,hz=>by
    unfold shOk at hs;split at hs
    . rename_i k' hu;have:k=k':=zAe hs;subst this;obtain ⟨n,rfl,-,hw⟩:=DataW.trod_int hu h;exact ⟨.int k n,⟨n,rfl,hw⟩,.cons (.int k n) .nil⟩
    . simp at hs
  |.bool,t,fuel,cs,x,hs,h,hz=>by
    unfold shOk at hs;split at hs
    . rename_i hu;obtain ⟨b,rfl,-⟩:=DataW.trod_bool hu h;exact ⟨.bool b,⟨b,rfl⟩,.cons (.bool b) .nil⟩
    . simp at hs
  |.str,t,fuel,cs,x,hs,h,hz=>by
    unfold shOk at hs;split at hs
    . rename_i hu;obtain ⟨b,rfl,-,hb⟩:=DataW.trod_string hu h;exact ⟨.str b,⟨b,rfl,hb⟩,.cons (.str b) .nil⟩
    . simp at hs
  |.slice s,t,fuel,cs,x,hs,h,hz=>by
    unfold shOk at hs;split at hs
    . rename_i e hu;simp only [dz] at hs;exact ycf hu (beqN hs.1) (zaj.1 hs.2.1) (fun h hz=>zvx hs.2.2 h hz) h hz
    . simp at hs
  |.struct l,t,fuel,cs,x,hs,h,hz=>by
    unfold shOk at hs;split at hs
    . rename_i fs hu;simp only [dz] at hs;obtain ⟨xs,n,-,-,hl,hxl,hall⟩:=DataW.trod_struct hu h
      obtain ⟨ts,k1,k2⟩:=z9z (fs:=fs.toList) (o:=0) (pre:=cs) (fuel:=n) hs.2 (fun f hf=>by
        obtain ⟨i,hi,rfl⟩:=ku hf;have hi':i<fs.size:=by simpa using hi
        have:=hall i fs[i] (ji hi');rw [d6 (by omega)] at this
        exact ⟨_,by rw [Array.getElem_toList];exact this⟩) (by rw [hl,beqN hs.1];omega) hz
      rw [fl] at k2;have hlen:cs.take (Sh.szL l)=cs:=fx (by rw [hl,beqN hs.1];exact ee _);rw [hlen] at k2;exact ⟨.agg ts,⟨ts,rfl,k1⟩,k2⟩
    . simp at hs
  |.arr k n,t,fuel,cs,x,hs,h,hz=>by
    unfold shOk at hs;split at hs
    . rename_i m e hu;simp only [dz] at hs;obtain ⟨h1,h2,h3,h4⟩:=hs;split at h4
      . rename_i k' he;have hkk:k=k':=zAe h4;subst hkk;have hmn:=beqN h1;subst hmn;obtain ⟨xs,fu,rfl,hx1,hlen,hxl,hel⟩:=DataW.trod_array hu h;have hl:cs.length=m:=by rw [hlen];exact beqN h2
        have key:∀ i,i<m->∃ z,cs[i]?=some (.int k z)/\(Lit.int k z).wf=true:=by
          intro i hi;have h0:=hel i hi;rw [beqN h3,Nat.mul_one,d6 (by omega)] at h0;obtain ⟨z,e1,e2,e3⟩:=DataW.trod_int he h0;refine ⟨z,?_,e3⟩;have:(cs.drop i)[0]?=((cs.drop i).take 1)[0]?:=by rw [List.getElem?_take_of_lt (by omega)]
          have e1':(cs.drop i).take 1=[.int k z]:=e1;rw [e1'] at this;simpa using this
        obtain ⟨l,hl2,hp⟩:=yi2 (p:=fun i (z:Int)=>cs[i]?=some (.int k z)/\(Lit.int k z).wf=true) m key
        have hcl:cs=l.map (la k):=by
          apply List.ext_getElem (by rw [hl,ed,hl2]);intro i h1 h2;have:=(hp i (by rw [hl2,<- hl];exact h1)).1;rw [d6 h1] at this;rw [List.getElem_map];exact Option.some.inj this
        refine ⟨.agg (l.map (dy k)),⟨⟨l,hl2⟩,rfl,fun x hx=>?_⟩,?_⟩
        . obtain ⟨i,hi,rfl⟩:=ku hx;exact (hp i hi).2
        . rw [hcl];exact yb4 l
      . simp at h4
    . simp at hs
theorem z9z:∀ {l:List Sh} {fs:List Field} {o fuel:Nat} {pre:List Value},ycg P l fs o=true->(∀ f,f∈fs->∃ x,DataW.trod enc P W 0 (fun _=>true) true fuel f.type ((pre.drop f.offset).take (P.cellsOf f.type))=some x)->o+Sh.szL l<=pre.length->zxp W pre->∃ ts,yqb l ts/\RtL W ts ((pre.drop o).take (Sh.szL l))
  |[],[],o,fuel,pre,hs,h,hl,hz=>⟨[],rfl,by unfold Sh.szL;rw [lh];exact .nil⟩
  |[],_ :: _,o,fuel,pre,hs,h,hl,hz=>by simp [ycg] at hs
  |_ :: _,[],o,fuel,pre,hs,h,hl,hz=>by simp [ycg] at hs
  |s :: l,f :: fs,o,fuel,pre,hs,h,hl,hz=>by
    unfold ycg at hs;unfold Sh.szL at hl ⊢;simp only [dz] at hs;obtain ⟨x,hx⟩:=h f (by simp);rw [beqN hs.1,beqN hs.2.1] at hx;obtain ⟨tr,k1,k2⟩:=zvx hs.2.2.1 hx (hz.sub fun v hv=>ko (List.mem_of_mem_take hv));obtain ⟨ts,k3,k4⟩:=z9z (o:=o+s.sz) (pre:=pre) (fuel:=fuel) hs.2.2.2 (fun g hg=>h g (by simp [hg])) (by omega) hz;refine ⟨tr.cells++ts,⟨tr,ts,rfl,k1,k3⟩,?_⟩;have:=k2.append k4;rw [show List.take s.sz (List.drop o pre)++List.take (Sh.szL l) (List.drop (o+s.sz) pre)=List.take (s.sz+Sh.szL l) (List.drop o pre) by rw [List.take_add,kb]] at this;exact this
end
theorem ztq {r:Reach} {base:Nat} {u:ez} {a:Addr} {n c:Nat} (h:Cell.okWide P W r base u (.slice (some a) n c)):0<W.heap.size:=by
  have key:Cell.ok P W r base u (.slice (some a) n c)->0<W.heap.size:=fun h=>by
    unfold Cell.ok at h;split at h<;>first|contradiction | (exact h.elim)|skip
    rename_i hq;cases hq;obtain ⟨-,-,-,-,row,cells,hs,-⟩:=h;unfold World.shape? at hs;by_cases hb:0<W.heap.size
    . exact hb
    . rw [Array.getElem?_eq_none (by omega)] at hs;simp at hs
  unfold Cell.okWide at h;split at h<;>first|exact key h|contradiction
theorem yc9 {r:Reach} {base:Nat} {u:ez} {cs:Array Value} (h:Cell.okWide P W r base u (.agg cs)):False:=by
  unfold Cell.okWide at h;split at h<;>first|contradiction | (unfold Cell.ok at h;split at h<;>first|contradiction|exact h)
theorem zt5 {r:Reach} {base:Nat} {s:Sh} {t:ez} {v:Value} {d:DataW H} {ps:List MemPlace} (hs:shOk P s t=true) (hv:qa P W r base t v) (h:DataW.Trod enc P W 0 (fun _=>true) true t v d ps):∃ tr,conf s tr/\Rt W tr v:=by
  obtain ⟨fuel,h⟩:=h
  have one:(∀ fs,P.underlying t≠some (.struct fs))->(∀ n e,P.underlying t≠some (.array n e))->(∀ l,s≠.struct l)->(∀ k n,s≠.arr k n)->∃ tr,conf s tr/\Rt W tr v:=fun h1 h2 h3 h4=>by
    have hc:Cell.okWide P W r base t v:=by
      unfold qa at hv;split at hv
      . rename_i fs hu;exact absurd hu (h1 fs)
      . rename_i n e hu;exact absurd hu (h2 n e)
      . exact hv
    have hcs:v.cells.toList=[v]:=by
      cases v<;>first|rfl|exact (yc9 hc).elim
    rw [hcs] at h
    obtain ⟨tr,k1,k2⟩:=zvx hs h (fun x hx ⟨a,n,c,he⟩=>by
      simp only [lc] at hx;subst hx;subst he
      exact ztq hc)
    have ht:tr.cells=[tr]:=by
      cases s with
      |struct l=>exact absurd rfl (h3 l)
      |int k=>obtain ⟨n,rfl,_⟩:=k1;rfl
      |bool=>obtain ⟨n,rfl⟩:=k1;rfl
      |str=>obtain ⟨n,rfl,_⟩:=k1;rfl
      |slice e=>obtain ⟨l,rfl,_⟩:=k1;rfl
      |arr k n=>exact absurd rfl (h4 k n)
    rw [ht] at k2
    cases k2 with
    |cons a _=>exact ⟨tr,k1,a⟩
  cases s with
  |struct l =>
    have hu:∃ fs,P.underlying t=some (.struct fs):=by
      unfold shOk at hs;split at hs
      . rename_i fs hu;exact ⟨fs,hu⟩
      . simp at hs
    obtain ⟨fs,hu⟩:=hu;unfold qa at hv;rw [hu] at hv;obtain ⟨cs,rfl,-,ts,-,-,hall⟩:=hv
    obtain ⟨tr,k1,k2⟩:=zvx hs h (fun x hx ⟨a,n,c,he⟩=>by
      subst he;obtain ⟨i,hi,hq⟩:=ku hx;have hi':i<cs.size:=by simpa [Value.cells] using hi
      obtain ⟨u,-,hu2⟩:=hall i _ (ji hi');have:cs[i]=.slice (some a) n c:=by simpa [Value.cells] using hq
      rw [this] at hu2
      exact ztq hu2)
    obtain ⟨ts,rfl,_⟩:=id k1;exact ⟨_,k1,.agg (by simpa [gn,Value.cells] using k2)⟩
  |int k =>
    have:∃ k',P.underlying t=some (.int k'):=by
      unfold shOk at hs;split at hs
      . rename_i k' hu;exact ⟨k',hu⟩
      . simp at hs
    obtain ⟨k',hu⟩:=this;exact one (fun fs hh=>by rw [hu] at hh;simp at hh) (fun n e hh=>by rw [hu] at hh;simp at hh) (fun l hh=>by simp at hh) (fun k n hh=>by simp at hh)
  |bool =>
    have:P.underlying t=some .bool:=by
      unfold shOk at hs;split at hs
      . rename_i hu;exact hu
      . simp at hs
    exact one (fun fs hh=>by rw [this] at hh;simp at hh) (fun n e hh=>by rw [this] at hh;simp at hh) (fun l hh=>by simp at hh) (fun k n hh=>by simp at hh)
  |str =>
    have:P.underlying t=some .string:=by
      unfold shOk at hs;split at hs
      . rename_i hu;exact hu
      . simp at hs
    exact one (fun fs hh=>by rw [this] at hh;simp at hh) (fun n e hh=>by rw [this] at hh;simp at hh) (fun l hh=>by simp at hh) (fun k n hh=>by simp at hh)
  |slice e =>
    have:∃ e,P.underlying t=some (.slice e):=by
      unfold shOk at hs;split at hs
      . rename_i e hu;exact ⟨e,hu⟩
      . simp at hs
    obtain ⟨e',hu⟩:=this;exact one (fun fs hh=>by rw [hu] at hh;simp at hh) (fun n e hh=>by rw [hu] at hh;simp at hh) (fun l hh=>by simp at hh) (fun k n hh=>by simp at hh)
  |arr k n =>
    have hu:∃ m e,P.underlying t=some (.array m e):=by
      unfold shOk at hs;split at hs
      . rename_i m e hu;exact ⟨m,e,hu⟩
      . simp at hs
    obtain ⟨m,e,hu⟩:=hu;unfold qa at hv;rw [hu] at hv;obtain ⟨cs,rfl,-⟩:=hv;have hnoslice:∀ tr:T,conf (.arr k n) tr->True:=fun _ _=>trivial;have hs0:=hs;unfold shOk at hs0;rw [hu] at hs0;simp only [dz] at hs0;obtain ⟨q1,q2,q3,q4⟩:=hs0;split at q4
    . rename_i k' he;obtain ⟨xs,fu,-,-,hlen,hxlen,hel⟩:=DataW.trod_array hu h
      have hz:zxp W (Value.agg cs).cells.toList:=fun x hx ⟨a,n2,c,he2⟩=>by
        subst he2;obtain ⟨i,hi,hq⟩:=ku hx;have hl:(Value.agg cs).cells.toList.length=n:=by rw [hlen];exact beqN q2
        have hmn:=beqN q1;have h0:=hel i (by omega);rw [beqN q3,Nat.mul_one] at h0
        cases hxi:xs[i]? with
        |none =>
          rw [hxi] at h0;have:=List.getElem?_eq_none_iff.1 hxi;omega
        |some z =>
          rw [hxi] at h0;obtain ⟨w,e1,-,-⟩:=DataW.trod_int he h0;have e2:((Value.agg cs).cells.toList.drop i)[0]?=(((Value.agg cs).cells.toList.drop i).take 1)[0]?:=by rw [List.getElem?_take_of_lt (by omega)]
          rw [e1,js,gw,d6 hi,hq] at e2;simp at e2
      obtain ⟨tr,k1,k2⟩:=zvx hs h hz;obtain ⟨a,rfl,_⟩:=id k1;exact ⟨_,k1,.agg (by simpa [gn,Value.cells] using k2)⟩
    . simp at q4
end
def nlI:Option (List Int)->T
  |none=>.nils
  |some l=>.lst 1 (l.map (dy .i64))
theorem zba {n:Nat} (o:Option (List Int)):(nlI o).ids n=true:=by
  cases o with
  |none=>rfl
  |some l=>exact zos l
theorem ze5 {P:fd} {Γ:Env} {S:TS} {t:ez} {op:BinOp} {x y:ej} {m n:Bool}:tBin P Γ S t op x y (.bool m) (.bool n)=(Γ.ti.at t).bind fun i=>match i.desc,op with|.bool,.eql=>some (.bool (m == n))|.bool,.neq=>some (.bool (!(m == n)))|_,_=>none:=by
  unfold tBin;cases Γ.ti.at t<;>rfl
theorem zl5:(true == true)=true:=eg rfl rfl
theorem zl6:(true == false)=false:=eg rfl rfl
theorem zl7:(false == true)=false:=eg rfl rfl
theorem zl8:(false == false)=true:=eg rfl rfl
def atR (rl:List Nat) (i:Nat):Nat:=rl.getD i 0
def memB:List Nat->Nat->Bool
  |[],_=>false
  |y :: l,x=>ei y x || memB l x
def zzf:List Nat->Bool
  |[]=>true
  |x :: l=>!(memB l x) && zzf l
def rlOk (n0 n1 m m':Nat) (rl:List Nat):Bool :=
  gc n0 n1 && (ei rl.length n1 && (gc m m' && (rl.all (fun x=>fq x m') && ((rl.take n0).all (fun x=>fq x m) && ((rl.drop n0).all (fun x=>gc m x) && zzf rl)))))
def PreL (ρ:Nat->Nat) (n:Nat) (bs:List Box):List Nat->List Box->Prop
  |r :: rl,b :: bl=>(bs.getD r .gone=zfl ρ b/\zh7 n b=true)/\PreL ρ n bs rl bl
  |_,_=>True
def zx7 (rl:List Nat):Nat->List Box->List Box->Prop
  |i,a :: l,b :: m=>(memB rl i=true\/b=a)/\zx7 rl (i+1) l m
  |i,[],b :: m=>memB rl i=true/\zx7 rl (i+1) [] m
  |_,_,[]=>True
theorem PreL.get {ρ:Nat->Nat} {n:Nat} {bs:List Box}:∀ {rl:List Nat} {bl:List Box},PreL ρ n bs rl bl->∀ i,i<rl.length->i<bl.length->bs.getD (rl.getD i 0) .gone=zfl ρ (bl.getD i .gone)/\zh7 n (bl.getD i .gone)=true
  |r :: rl,b :: bl,h,0,_,_=>h.1
  |r :: rl,b :: bl,h,i+1,h1,h2=>PreL.get (rl:=rl) (bl:=bl) h.2 i (by simpa using h1) (by simpa using h2)
theorem zx7.get {rl:List Nat}:∀ {i:Nat} {l m:List Box},zx7 rl i l m->l.length<=m.length->∀ b,memB rl (i+b)=false->m.getD b .gone=l.getD b .gone
  |i,a :: l,b :: m,h,hl,0,hm=>by
    rcases h.1 with q|q
    . rw [gw] at hm;rw [hm] at q;cases q
    . exact q
  |i,a :: l,b :: m,h,hl,k+1,hm=>zx7.get (l:=l) (m:=m) h.2 (by simpa using hl) k (by rw [show i+1+k=i+(k+1) by omega];exact hm)
  |i,[],b :: m,h,hl,0,hm=>by have q:=h.1;rw [gw] at hm;rw [hm] at q;cases q
  |i,[],b :: m,h,hl,k+1,hm=>zx7.get (l:=[]) (m:=m) h.2 (ft _) k (by rw [show i+1+k=i+(k+1) by omega];exact hm)
  |i,[],[],h,hl,k,hm=>rfl
theorem zul {p:Nat->Bool}:∀ {l:List Nat},l.all p=true->∀ i,i<l.length->p (l.getD i 0)=true
  |x :: l,h,0,_=>by simp only [gy,dz] at h;exact h.1
  |x :: l,h,i+1,hi=>by
    simp only [gy,dz] at h;exact zul (l:=l) h.2 i (by simpa using hi)
theorem z10:∀ {l:List Nat} {i:Nat},i<l.length->memB l (l.getD i 0)=true
  |x :: l,0,_=>by show (ei x x || memB l x)=true;rw [Nat.beq_refl];rfl
  |x :: l,i+1,h=>by
    show (ei x (l.getD i 0) || memB l (l.getD i 0))=true;rw [z10 (l:=l) (by simpa using h),Bool.or_true]
theorem zze:∀ {l:List Nat},zzf l=true->∀ i j,i<l.length->j<l.length->l.getD i 0=l.getD j 0->i=j
  |x :: l,h,0,0,_,_,_=>rfl
  |x :: l,h,0,j+1,_,hj,e=>by
    simp only [zzf,dz,ou] at h;have:=z10 (l:=l) (i:=j) (by simpa using hj);rw [show l.getD j 0=x from e.symm] at this;rw [h.1] at this;cases this
  |x :: l,h,i+1,0,hi,_,e=>by
    simp only [zzf,dz,ou] at h;have:=z10 (l:=l) (i:=i) (by simpa using hi);rw [show l.getD i 0=x from e] at this;rw [h.1] at this;cases this
  |x :: l,h,i+1,j+1,hi,hj,e=>by
    simp only [zzf,dz] at h;rw [zze (l:=l) h.2 i j (by simpa using hi) (by simpa using hj) e]
theorem yem {bs:List Box} {b:Nat} (h:bs.length<=b):(stL bs).box b=.gone:=by
  show bs.getD b .gone=.gone;rw [eh,List.getElem?_eq_none h];rfl
theorem ypz {rl:List Nat} {bs0 bs1 bs bs':List Box} (h1:rlOk bs0.length bs1.length bs.length bs'.length rl=true) (h4:PreL (atR rl) bs0.length bs rl bs0) (h5:PreL (atR rl) bs1.length bs' rl bs1) (h6:zx7 rl 0 bs bs'):Fits (atR rl) (stL bs0) (stL bs1) (stL bs) (stL bs'):=by
  unfold rlOk at h1;simp only [dz] at h1;obtain ⟨a1,a2,a3,a4,a5,a6,a7⟩:=h1;have a1:=zbp.1 a1;have a2:=ec a2;have a3:=zbp.1 a3;refine ⟨a1,fun b hb=>yem hb,fun i hi=>?_,fun i hi hj=>?_,fun i hi=>?_,a3,fun i j hi hj e=>?_,fun i hi=>?_,fun i hi=>?_,fun b hb=>?_⟩
  . have hi:i<bs0.length:=hi;have:=zul a5 i (by rw [gh];omega);rw [eh,lz,zAc hi,<- eh] at this;exact zaj.1 this
  . have hi:bs0.length<=i:=hi;have hj:i<bs1.length:=hj;have:=zul a6 (i - bs0.length) (by rw [ii];omega);rw [eh,js,show bs0.length+(i - bs0.length)=i by omega,<- eh] at this;exact zbp.1 this
  . have hi:i<bs1.length:=hi;exact zaj.1 (zul a4 i (by omega))
  . exact zze a7 i j (by rw [a2];exact hi) (by rw [a2];exact hj) e
  . have hi:i<bs0.length:=hi;exact h4.get i (by omega) hi
  . have hi:i<bs1.length:=hi;exact h5.get i (by omega) hi
  . refine h6.get a3 b ?_;rw [fy]
    cases hm:memB rl b with
    |false=>rfl
    |true =>
      exfalso
      have key:∀ {l:List Nat},memB l b=true->∃ i,i<l.length/\l.getD i 0=b:=by
        intro l
        induction l with
        |nil=>intro h;cases h
        |cons x l ih =>
          intro h;simp only [memB,kc] at h;rcases h with h|h
          . exact ⟨0,by simp,ec h⟩
          . obtain ⟨i,h1,h2⟩:=ih h;exact ⟨i+1,by simpa using h1,h2⟩
      obtain ⟨i,q1,q2⟩:=key hm;exact hb i (by show i<bs1.length;omega) q2
theorem Call.at {P:fd} {Γ:Env} {GL:List (Nat×List Value)} {f:FuncId} {args args':List T} {v v':T} {bs0 bs1 bs bs':List Box} (rl:List Nat) (k:Call P Γ GL f args (stL bs0) v (stL bs1)) (h1:rlOk bs0.length bs1.length bs.length bs'.length rl=true) (h2:ir bs0.length args=true) (h3:v.ids bs1.length=true) (h4:PreL (atR rl) bs0.length bs rl bs0) (h5:PreL (atR rl) bs1.length bs' rl bs1) (h6:zx7 rl 0 bs bs') (ea:T.renL (atR rl) args=args') (ev:v.ren (atR rl)=v'):Call P Γ GL f args' (stL bs) v' (stL bs'):=by
  subst ea ev;exact Call.frame k h2 h3 (ypz h1 h4 h5 h6)
theorem zjj {α:Type} [Inhabited α] (f:α->T) (e:Nat) (he:∀ x,(f x).cells.length=e):∀ {l:List α} {i:Nat},i<l.length->vecC f l=vecC f (l.take i)++((f (l.getD i default)).cells++vecC f (l.drop (i+1)))/\(vecC f (l.take i)).length=i*e
  |x :: l,0,_=>⟨by show vecC f (x :: l)=[]++((f x).cells++vecC f l);unfold vecC;simp,by simp [vecC]⟩
  |x :: l,i+1,h=>by
    obtain ⟨h1,h2⟩:=zjj f e he (l:=l) (i:=i) (by simpa using h);have c:∀ m:List α,vecC f (x :: m)=(f x).cells++vecC f m:=fun m=>by unfold vecC;simp
    constructor
    . show vecC f (x :: l)=vecC f (x :: l.take i)++((f (l.getD i default)).cells++vecC f (l.drop (i+1)));rw [c,c,ew,<- h1]
    . show (vecC f (x :: l.take i)).length=(i+1)*e;rw [c,ep,he,h2,iy];omega
theorem yjv {α:Type} [Inhabited α] (f:α->T) (e:Nat) {l:List α} {i:Nat} (he:∀ x,(f x).cells.length=e) (h:i<l.length):((vecC f l).drop (i*e)).take e=(f (l.getD i default)).cells:=by
  obtain ⟨h1,h2⟩:=zjj f e he h;have hc:=he (l.getD i default);rw [h1,List.drop_append_of_le_length (by omega),gu (by omega),eu,List.take_append_of_le_length (by omega),fx (by omega)]
theorem z64 {a b b2 c:List T} {n:Nat} (ha:a.length=n) (hb:b2.length=b.length):spl (a++(b++c)) n b2=a++(b2++c):=by
  subst ha;unfold spl;rw [List.take_left,lu,gu (by omega),eu,show a.length+b2.length - a.length=b.length by omega,List.drop_left,ew]
theorem z8v {α:Type} [Inhabited α] (f:α->T) (e:Nat) {l:List α} {i:Nat} (v:α) (he:∀ x,(f x).cells.length=e) (h:i<l.length):spl (vecC f l) (i*e) (f v).cells=vecC f (l.set i v):=by
  obtain ⟨h1,h2⟩:=zjj f e he h;obtain ⟨h3,h4⟩:=zjj f e he (l:=l.set i v) (i:=i) (by rw [List.length_set];exact h);have hc:=he (l.getD i default);have hv:=he v;rw [h3,List.take_set_of_le (ee _),List.drop_set_of_lt (by omega)];rw [show (l.set i v).getD i default=v by rw [eh,List.getElem?_set_self h];rfl];rw [h1];exact z64 h2 (by omega)
theorem yrd {a b c:List T} {n j:Nat} {t:T} (ha:a.length=n) (hj:j<b.length):spl (a++(b++c)) (n+j) [t]=a++(b.set j t++c):=by
  rw [yep (by rw [ep,ep];omega),List.set_append_right _ _ (by omega),show n+j - a.length=j by omega,List.set_append_left _ _ hj]
theorem yd4 {α:Type} [Inhabited α] (f:α->T) (e j:Nat) {l:List α} {i:Nat} {t:T} (v:α) (he:∀ x,(f x).cells.length=e) (hj:j<e) (h:i<l.length) (hv:(f (l.getD i default)).cells.set j t=(f v).cells):spl (vecC f l) (i*e+j) [t]=vecC f (l.set i v):=by
  rw [<- z8v f e v he h];obtain ⟨h1,h2⟩:=zjj f e he h;have hc:=he (l.getD i default);have hv2:=he v;rw [h1,yrd h2 (by omega),hv];exact (z64 h2 (by omega)).symm
theorem yb8 {α:Type} [Inhabited α] (f:α->T) (e:Nat) {l:List α} {i:Nat} {t:T} (v:α) (he:∀ x,(f x).cells.length=e) (hj:0<e) (h:i<l.length) (hv:(f (l.getD i default)).cells.set 0 t=(f v).cells):spl (vecC f l) (i*e) [t]=vecC f (l.set i v):=yd4 f e 0 v he hj h hv
theorem yab {α:Type} {S:TS} {b n e:Nat} {z:Bool} {L:List α} {f:α->T} (h1:∀ x,(f x).cells.length=e) (h0:0<e) (hS:S.box b=.cells z (n*e) (vecC f L)) (hl:L.length=n):yqu S (.arr b e 0 n n (n*e)) (.lst e (L.map f)):=by
  refine .inr ⟨b,e,0,n,n,n*e,z,_,_,rfl,rfl,hS,h0,by omega,?_,fun t ht=>?_,by rw [ed];exact hl,ee _⟩
  . rw [fl];exact zgd h1 hl
  . obtain ⟨x,_,rfl⟩:=ic.1 ht;exact h1 x
noncomputable def lsOf (o:Oper):Option (Nat×Nat):=match o.op with
  |.load _ (.tmp a)=>some (0,a)
  |.store _ (.tmp a) _=>some (1,a)
  |.alloc _=>(match o.dst with|some d=>some (2,d)|none=>none)
  |.box _ _=>(match o.dst with|some d=>some (2,d)|none=>none)
  |.makeSlice _ _ _=>(match o.dst with|some d=>some (2,d)|none=>none)
  |.buildSlice _ _ _=>(match o.dst with|some d=>some (2,d)|none=>none)
  |_=>none
noncomputable def zjh (a:Nat) (l:List Oper):Bool:=l.all fun o=>match o.dst with|some d=>!(ei d a)|none=>true
noncomputable def zlo (k a:Nat) (o:Oper) (l:List Oper):Bool:=zjh a l && (ei k 2 || zjh a [o])
noncomputable def z7p:List (Nat×Option Nat)->Nat->Option (Option Nat)
  |[],_=>none
  |(a,b) :: l,x=>bif ei a x then some b else z7p l x
noncomputable def zwf (bx:List (Nat×Option Nat)) (o:Oper) (l:List Oper):Option (Nat×Option Nat):=match lsOf o with
  |some (w,a)=>bif zlo w a o l then (match z7p bx a with|some b=>some (w,b)|none=>none) else none
  |none=>none
noncomputable def tagS (bx:List (Nat×Option Nat)):Nat->List Oper->List (Bool×Oper×Option (Nat×Option Nat))
  |_,[]=>[]
  |0,o :: l=>(true,o,zwf bx o l) :: tagS bx 0 l
  |k+1,o :: l=>(false,o,zwf bx o l) :: tagS bx k l
noncomputable def yf9:Option Nat->Option Nat->Bool
  |some a,some b=>!(ei a b)
  |none,none=>false
  |_,_=>true
noncomputable def yc3 (p q:Option (Nat×Option Nat)):Bool:=match p,q with
  |some (w1,b1),some (w2,b2)=>gc w2 1 && ((ei w1 0 && ei w2 0) || yf9 b1 b2)
  |_,_=>false
noncomputable def znu (Γ:Env) (o:Oper):Bool:=match o.op with
  |.call ⟨.builtin .len,_,ts⟩=>(match ts.toList with | [t]=>(match Γ.ti.at t with|some i=>(match i.desc with|.slice _=>true|.string=>true|_=>false)|none=>false)|_=>false)
  |.call ⟨.builtin .min,_,_⟩=>true
  |.call ⟨.builtin .max,_,_⟩=>true
  |_=>false
noncomputable def yac (Γ:Env) (x y:Bool×Oper×Option (Nat×Option Nat)):Bool:=y.1 && !(zi6 x.2.1.op || (zjg y.2.1.op || (znu Γ x.2.1 || (znu Γ y.2.1 || yc3 x.2.2 y.2.2))))
noncomputable def zw7 (Γ:Env) (k:Nat) (bx:List (Nat×Option Nat)) (ops:List Oper):Bool:=zjd ops.length ops && zg3 (yac Γ) [] (tagS bx k ops) (zec ops [])
def adr1 (S:TS):T->Option Nat->Prop
  |.ptr b _ N,some c=>b=c/\S.has b N=true
  |.cp _,none=>True
  |.arr b _ _ _ _ N,some c=>b=c/\S.has b N=true
  |.tup [],some _=>True
  |_,_=>False
def z0r (bx:List (Nat×Option Nat)) (h:Nat->T) (S:TS):Prop:=match bx with
  |[]=>True
  |(a,b) :: l=>adr1 S (h a) b/\z0r l h S
theorem zob {bx:List (Nat×Option Nat)}:∀ {k:Nat} {ops:List Oper} {i:Nat} {o:Oper},ops[i]?=some o->(tagS bx k ops)[i]?=some (decide (k<=i),o,zwf bx o (ops.drop (i+1)))
  |_,[],i,o,h=>by simp at h
  |0,x :: l,i,o,h=>by
    cases i with
    |zero=>simp only [fp,du] at h;subst h;rfl
    |succ i =>
      have:=zob (bx:=bx) (k:=0) (ops:=l) (i:=i) (by simpa using h)
      simpa [tagS] using this
  |k+1,x :: l,i,o,h=>by
    cases i with
    |zero=>simp only [fp,du] at h;subst h;rfl
    |succ i =>
      have:=zob (bx:=bx) (k:=k) (ops:=l) (i:=i) (by simpa using h);simpa [tagS] using this
theorem z5q {Γ:Env} {k:Nat} {bx:List (Nat×Option Nat)} {ops:List Oper} (hd:zw7 Γ k bx ops=true) {i j:Nat} {x y:Oper} (hij:i<j) (hkj:k<=j) (hx:ops[i]?=some x) (hy:ops[j]?=some y):gm (nth 0 (zec ops []) j) i=true\/zi6 x.op=true\/zjg y.op=true\/znu Γ x=true\/znu Γ y=true\/yc3 (zwf bx x (ops.drop (i+1))) (zwf bx y (ops.drop (j+1)))=true:=by
  unfold zw7 at hd;simp only [dz] at hd;rcases zgp hd.2 i j _ _ hij (ft _) (by simpa using zob hx) (by simpa using zob hy) with q|q
  . exact .inl q
  . unfold yac at q;rw [zAa hkj] at q;simp only [jn,n9,kc] at q;exact .inr q
theorem yk1 {bx:List (Nat×Option Nat)} {x y:Oper} {l m:List Oper} (h:yc3 (zwf bx x l) (zwf bx y m)=true):∃ w1 a1 b1 w2 a2 b2,lsOf x=some (w1,a1)/\zlo w1 a1 x l=true/\z7p bx a1=some b1/\lsOf y=some (w2,a2)/\zlo w2 a2 y m=true/\z7p bx a2=some b2/\w2<=1/\((w1=0/\w2=0)\/yf9 b1 b2=true):=by
  have key:∀ {o:Oper} {l:List Oper} {w b},zwf bx o l=some (w,b)->∃ a,lsOf o=some (w,a)/\zlo w a o l=true/\z7p bx a=some b:=by
    intro o l w b h;unfold zwf at h;split at h
    . rename_i w' a' h1
      cases h2:zlo w' a' o l with
      |false=>rw [h2] at h;simp at h
      |true =>
        rw [h2,cond_true] at h;split at h
        . rename_i b' h3;cases h;exact ⟨a',h1,h2,h3⟩
        . simp at h
    . simp at h
  cases h1:zwf bx x l with
  |none=>rw [h1] at h;simp [yc3] at h
  |some p =>
    cases h2:zwf bx y m with
    |none=>rw [h1,h2] at h;simp [yc3] at h
    |some q =>
      obtain ⟨w1,b1⟩:=p;obtain ⟨w2,b2⟩:=q;rw [h1,h2] at h;obtain ⟨a1,c1,c2,c3⟩:=key h1;obtain ⟨a2,d1,d2,d3⟩:=key h2;simp only [yc3,kc,dz] at h;refine ⟨w1,a1,b1,w2,a2,b2,c1,c2,c3,d1,d2,d3,zbp.1 h.1,?_⟩;rcases h.2 with q|q
      . exact .inl ⟨ec q.1,ec q.2⟩
      . exact .inr q
theorem z2y {h:Nat->T} {S:TS}:∀ {bx:List (Nat×Option Nat)} {a:Nat} {b:Option Nat},z0r bx h S->z7p bx a=some b->adr1 S (h a) b
  |(a',b') :: l,a,b,k,e=>by
    unfold z7p at e
    cases hb:ei a' a with
    |true =>
      rw [hb,cond_true] at e;cases e;rw [<- ec hb];exact k.1
    |false =>
      rw [hb,cond_false] at e;exact z2y k.2 e
section
variable {GL:List (Nat×List Value)} {A A' A0:Nat->Prop} {β β':Bx} {S S':TS} {s s0 s' s2:CS} {P:fd} {Γ:Env} {N:Nat} {h h':Nat->T} {call:zdj}
def IsAd (v:Value) (ad:Addr):Prop:=v=.pointer (some ad)\/∃ n c,v=.slice (some ad) n c
def ydi (fr:Fr) (w:Nat) (a:Nat) (x:Lg):Prop:=(x.rd=[]/\x.wr=[]/\x.lo=x.hi)\/∃ ad,IsAd (fr.get a) ad/\(∀ y,y∈x.rd->y=ad.block)/\(∀ y,y∈x.wr->y=ad.block)/\(x.lo=x.hi\/(x.hi=x.lo+1/\x.lo=ad.block))/\(w=0->x.wr=[])/\(w<=1->x.lo=x.hi)
theorem z19 {fr:Fr} {d:Option Tmp} {v:Value} {a:Nat} (h5:fr.nt<=512) (hd:(match d with|some d=>!(ei d a)|none=>true)=true):(putC fr d v).get a=fr.get a:=by
  cases d with
  |none=>rfl
  |some d =>
    refine Fr.get_put_other v h5 fun e=>?_;subst e;simp at hd
theorem zrm {ops:List Oper} {a:Nat}:∀ {l:List Oper} {fr fr':Fr} {s s':CS} {L:List Lg},drawC P Γ call ops l fr s=some (L,fr',s')->fr.nt<=512->zjh a l=true->fr'.get a=fr.get a
  |[],fr,fr',s,s',L,hc,_,_=>by
    simp only [drawC,du,d7] at hc;rw [hc.2.1]
  |o :: l,fr,fr',s,s',L,hc,h5,hn=>by
    simp only [drawC] at hc;unfold zjh at hn;rw [gy,dz] at hn;split at hc
    . rename_i fr1 t h1;split at hc
      . rename_i logs fr2 s2 h2;cases hc
        have e:∃ v,fr1=putC fr o.dst v:=by
          unfold zc9 at h1
          cases hw:zdp ops fr o with
          |false =>
            rw [hw] at h1;simp only [cond_false,du,d7] at h1;exact ⟨_,h1.1.symm⟩
          |true =>
            rw [hw,cond_true] at h1;split at h1
            . cases h1;exact ⟨_,rfl⟩
            . simp at h1
        obtain ⟨v,rfl⟩:=e;rw [zrm h2 (by rw [zvs];exact h5) hn.2];exact z19 h5 hn.1
      . simp at hc
    . simp at hc
theorem yg8 {lim n y:Nat} (h:y∈ins lim [] n):y=n:=by
  unfold ins at h
  cases hb:fq n lim with
  |false=>rw [hb] at h;simp at h
  |true =>
    rw [hb] at h;have:has ([]:List Nat) n=false:=rfl;rw [cond_true,this,cond_false] at h;simpa using h
theorem ygk {s s1:CS} {tag:Nat} {cs:List Value} {a:Addr} (h:s.newRow tag cs=some (a,s1)):s1.rd=s.rd/\s1.wr=s.wr/\s1.n=s.n+1/\a.block=s.n:=by
  unfold CS.newRow at h;generalize (ziw s.obj s.n:Bool)=b at h
  cases b with
  |true=>cases h;exact ⟨rfl,rfl,rfl,rfl⟩
  |false=>cases h
theorem yfr {s s1:CS} {tag:Nat} {cs:List Value} {v:Value} (h:ptrC (s.inner.newRow tag cs)=some (v,s1)):s1.rd=[]/\s1.wr=[]/\s1.n=s.n+1/\∃ ad,IsAd v ad/\ad.block=s.n:=by
  unfold ptrC at h;split at h
  . rename_i x hx;cases h;obtain ⟨a,t⟩:=x;obtain ⟨h1,h2,h3,h4⟩:=ygk hx;exact ⟨h1,h2,h3,a,.inl rfl,h4⟩
  . simp at h
theorem z3f {s s1:CS} {tag l c:Nat} {cs:List Value} {v:Value} (h:zjc l c (s.inner.newRow tag cs)=some (v,s1)):s1.rd=[]/\s1.wr=[]/\s1.n=s.n+1/\∃ ad,IsAd v ad/\ad.block=s.n:=by
  unfold zjc at h;split at h
  . rename_i x hx;cases h;obtain ⟨a,t⟩:=x;obtain ⟨h1,h2,h3,h4⟩:=ygk hx;exact ⟨h1,h2,h3,a,.inr ⟨_,_,rfl⟩,h4⟩
  . simp at h
theorem yr1 {o:Oper} {fr:Fr} {s s1:CS} {v:Value} {w:Nat} {a:Nat} (ho:lsOf o=some (w,a)) (hc:cop P Γ call (zg1 fr) o s.inner=some (v,s1)):(w<=1/\s1.n=s.n/\∃ ad,fr.get a=.pointer (some ad)/\(w=0->s1.wr=[])/\(∀ y,y∈s1.rd->y=ad.block)/\(∀ y,y∈s1.wr->y=ad.block))\/(w=2/\o.dst=some a/\s1.rd=[]/\s1.wr=[]/\s1.n=s.n+1/\∃ ad,IsAd v ad/\ad.block=s.n):=by
  unfold lsOf at ho;split at ho
  . rename_i t a' hop;cases ho;unfold cop at hc;rw [hop] at hc;simp only [zg1] at hc;unfold zpb at hc;split at hc
    . rename_i ad had;split at hc
      . rename_i i hi;unfold CS.loadVar at hc;split at hc
        . rename_i cs s3 hr;split at hc
          . cases hc;unfold CS.readRow at hr;split at hr
            . cases hr;exact .inl ⟨by omega,rfl,ad,had,fun _=>rfl,fun y hy=>yg8 hy,fun y hy=>by cases hy⟩
            . simp at hr
          . simp at hc
        . simp at hc
      . simp at hc
    . simp at hc
  . rename_i t a' vv hop;cases ho;unfold cop at hc;rw [hop] at hc;change zk6 Γ s.inner t (zg1 fr vv).cells.toList (fr.get a)=_ at hc;generalize (zg1 fr vv).cells.toList=vs at hc;unfold zk6 at hc;split at hc
    . rename_i ad had;split at hc
      . rename_i i hi
        cases hb:ei vs.length i.size with
        |false=>rw [hb] at hc;simp at hc
        |true =>
          rw [hb,cond_true] at hc;unfold zw8 at hc;split at hc
          . rename_i s2 hw;cases hc;unfold CS.write at hw;split at hw
            . generalize ((gc _ _ && vs.all oneC):Bool)=bb at hw
              cases bb with
              |true =>
                cases hw;exact .inl ⟨by omega,rfl,ad,had,fun e=>(by cases e),fun y hy=>(by cases hy),fun y hy=>yg8 hy⟩
              |false=>cases hw
            . simp at hw
          . simp at hc
      . simp at hc
    . simp at hc
  . rename_i e hop;split at ho
    . rename_i d hd;cases ho;refine .inr ⟨rfl,hd,?_⟩;unfold cop at hc;rw [hop] at hc;simp only at hc;unfold zk8 at hc;split at hc
      . exact yfr hc
      . simp at hc
    . simp at ho
  . rename_i e x hop;split at ho
    . rename_i d hd;cases ho;refine .inr ⟨rfl,hd,?_⟩;unfold cop at hc;rw [hop] at hc;exact yfr hc
    . simp at ho
  . rename_i e l c hop;split at ho
    . rename_i d hd;cases ho;refine .inr ⟨rfl,hd,?_⟩;unfold cop at hc;rw [hop] at hc;simp only at hc;unfold zfx at hc;split at hc
      . rename_i j l' c' _ _ _
        cases hb:(gc l' c' && gc (c'*(j.bytes+1)) 1000000000 && fq 0 j.size) with
        |false=>rw [hb] at hc;simp at hc
        |true =>
          rw [hb,cond_true] at hc;exact z3f hc
      . simp at hc
    . simp at ho
  . rename_i e n parts hop;split at ho
    . rename_i d hd;cases ho;refine .inr ⟨rfl,hd,?_⟩;unfold cop at hc;rw [hop] at hc;simp only at hc;unfold zc6 at hc;split at hc
      . rename_i j _
        cases hb:(gc (n*j.size) 16777216 && fq 0 j.size) with
        |false=>rw [hb] at hc;simp at hc
        |true =>
          rw [hb,cond_true] at hc;split at hc
          . exact z3f hc
          . simp at hc
      . simp at hc
    . simp at ho
  . simp at ho
theorem zw6 {ops:List Oper}:∀ {l:List Oper} {fr fr':Fr} {s s':CS} {L:List Lg},drawC P Γ call ops l fr s=some (L,fr',s')->fr.nt<=512->zff fr.nt l=true->∀ (j:Nat) (o:Oper) (x:Lg) (w:Nat) (a:Nat),l[j]?=some o->L[j]?=some x->lsOf o=some (w,a)->zlo w a o (l.drop (j+1))=true->ydi fr' w a x
  |[],fr,fr',s,s',L,hc,_,_,j,o,x,w,a,hj,_,_,_=>by simp at hj
  |o :: l,fr,fr',s,s',L,hc,h5,hdo,j,o',x,w,a,hj,hx,ho,hn=>by
    have hc0:=hc;simp only [drawC] at hc;split at hc
    . rename_i fr1 t h1;split at hc
      . rename_i logs fr2 s2 h2;cases hc
        have hfr:∃ v,fr1=putC fr o.dst v:=by
          unfold zc9 at h1
          cases hw:zdp ops fr o with
          |false =>
            rw [hw] at h1;simp only [cond_false,du,d7] at h1;exact ⟨_,h1.1.symm⟩
          |true =>
            rw [hw,cond_true] at h1;split at h1
            . cases h1;exact ⟨_,rfl⟩
            . simp at h1
        have hnt:fr1.nt=fr.nt:=by obtain ⟨v,rfl⟩:=hfr;exact zvs _ _ _
        unfold zff at hdo;rw [gy,dz] at hdo
        cases j with
        |zero =>
          simp only [fp,du] at hj hx;subst hj;subst hx;unfold zlo at hn;simp only [dz,kc] at hn;obtain ⟨hn1,hn2⟩:=hn;have hg1:=zrm h2 (by rw [hnt];exact h5) (show zjh a l=true by simpa using hn1);unfold zc9 at h1
          cases hw:zdp ops fr o with
          |false =>
            rw [hw] at h1;simp only [cond_false,du,d7] at h1;rw [<- h1.2];exact .inl ⟨rfl,rfl,rfl⟩
          |true =>
            rw [hw,cond_true] at h1;split at h1
            . rename_i v s1 hcop;cases h1;rcases yr1 ho hcop with ⟨q0,q1,ad,q2,q3,q4,q5⟩|⟨q0,q1,q2,q3,q4,ad,q5,q6⟩
              . have hn3:zjh a [o]=true:=by
                  rcases hn2 with q|q
                  . have:=ec q;omega
                  . exact q
                have e:(putC fr o.dst v).get a=fr.get a:=z19 h5 (by unfold zjh at hn3;rw [gy,dz] at hn3;exact hn3.1);refine .inr ⟨ad,.inl (by rw [hg1,e];exact q2),q4,q5,.inl q1.symm,q3,fun _=>q1.symm⟩
              . subst q0
                have e:(putC fr o.dst v).get a=v:=by
                  rw [q1];refine qg v ?_ h5;have:=hdo.1;rw [q1] at this;exact zaj.1 this
                refine .inr ⟨ad,by rw [hg1,e];exact q5,fun y hy=>?_,fun y hy=>?_,.inr ⟨q4,q6.symm⟩,fun h=>(by cases h),fun h=>by omega⟩
                . simp only [q2] at hy;cases hy
                . simp only [q3] at hy;cases hy
            . simp at h1
        |succ j=>exact zw6 h2 (by rw [hnt];exact h5) (by rw [hnt];exact hdo.2) j o' x w a (by simpa using hj) (by simpa using hx) ho (by simpa using hn)
      . simp at hc
    . simp at hc
theorem ypx {o:Oper} {ρ:ej->Value} {s s1:CS} {v:Value} (hm:znu Γ o=true) (hc:cop P Γ call ρ o s=some (v,s1)):s1=s:=by
  unfold znu at hm;split at hm
  . rename_i args ts hop;unfold cop at hc;rw [hop] at hc;simp only at hc;unfold zgl at hc;simp only at hc;split at hc
    . rename_i x t _ hts;rw [hts] at hm;simp only at hm;unfold zm6 at hc;split at hc
      . rename_i i hi;rw [hi] at hm;simp only at hm;split at hc
        . cases hc;rfl
        . cases hc;rfl
        . cases hc;rfl
        . cases hc;rfl
        . rename_i hd _;rw [hd] at hm;simp at hm
        . simp at hc
      . simp at hc
    . simp at hc
  . rename_i args ts hop;unfold cop at hc;rw [hop] at hc;exact znl hc
  . rename_i args ts hop;unfold cop at hc;rw [hop] at hc;exact znl hc
  . simp at hm
theorem zn1 {ops:List Oper}:∀ {l:List Oper} {fr fr':Fr} {s s':CS} {L:List Lg},drawC P Γ call ops l fr s=some (L,fr',s')->∀ (j:Nat) (o:Oper) (x:Lg),l[j]?=some o->L[j]?=some x->znu Γ o=true->x.rd=[]/\x.wr=[]/\x.lo=x.hi
  |[],fr,fr',s,s',L,hc,j,o,x,hj,_,_=>by simp at hj
  |o :: l,fr,fr',s,s',L,hc,j,o',x,hj,hx,hm=>by
    simp only [drawC] at hc;split at hc
    . rename_i fr1 t h1;split at hc
      . rename_i logs fr2 s2 h2;cases hc
        cases j with
        |zero =>
          simp only [fp,du] at hj hx;subst hj;subst hx;unfold zc9 at h1
          cases hw:zdp ops fr o with
          |false =>
            rw [hw] at h1;simp only [cond_false,du,d7] at h1;rw [<- h1.2];exact ⟨rfl,rfl,rfl⟩
          |true =>
            rw [hw,cond_true] at h1;split at h1
            . rename_i v s1 hcop;cases h1;rw [ypx hm hcop];exact ⟨rfl,rfl,rfl⟩
            . simp at h1
        |succ j=>exact zn1 h2 j o' x (by simpa using hj) (by simpa using hx) hm
      . simp at hc
    . simp at hc
def FamOf (A:Nat->Prop) (β:Bx) (f:Nat):Option Nat->Prop
  |some b=>∃ u N',β b=some (.live f u N')
  |none=>A f
theorem z2x {S:TS} {s:CS} {fr:Fr} (hF:FrOk A β (zaa s.obj) N h fr) (hT:TRel GL A β S s) {a:Nat} {b:Option Nat} (k:adr1 S (h a) b) {ad:Addr} (e:IsAd (fr.get a) ad):FamOf A β ad.block b:=by
  have hv:=hF.slot a;generalize fr.get a=v at hv e;generalize h a=t at hv k
  cases b with
  |none =>
    cases t with
    |cp l=>cases hv with|cp q1 q2 q3=>(rcases e with e|⟨n,c,e⟩<;>cases e);exact q1
    |tup l=>cases l<;>exact k.elim
    |_=>exact k.elim
  |some c =>
    cases t with
    |ptr b' off N' =>
      obtain ⟨rfl,k2⟩:=k;obtain ⟨z,l,hS⟩:=TS.has_ok k2;obtain ⟨f,u,q1,q2⟩:=zk4 hT hS hv;subst q1;rcases e with e|⟨n,c,e⟩<;>cases e;exact ⟨u,N',q2⟩
    |arr b' e' off len cap N' =>
      obtain ⟨rfl,k2⟩:=k;obtain ⟨z,l,hS⟩:=TS.has_ok k2;rcases zjb hT hS hv with ⟨f,u,q1,q2,_⟩|⟨q1,_⟩
      . subst q1;rcases e with e|⟨n,c,e⟩<;>cases e;exact ⟨u,N',q2⟩
      . subst q1
        rcases e with e|⟨n,c,e⟩<;>cases e
    |tup l =>
      cases l with
      |nil =>
        cases hv with
        |tup q=>cases q;rcases e with e|⟨n,c,e⟩<;>cases e
      |cons x l=>exact k.elim
    |_=>exact k.elim
theorem ypr {S:TS} {s:CS} {fr:Fr} (hF:FrOk A β (zaa s.obj) N h fr) (hT:TRel GL A β S s) {a1 a2:Nat} {b1 b2:Option Nat} {w1 w2:Nat} {x y:Lg} (k1:adr1 S (h a1) b1) (k2:adr1 S (h a2) b2) (hw:w2<=1) (hne:(w1=0/\w2=0)\/yf9 b1 b2=true) (z1:ydi fr w1 a1 x) (z2:ydi fr w2 a2 y):clash x y=false:=by
  obtain ⟨rx,wx,lo,hi⟩:=x;obtain ⟨ry,wy,lo',hi'⟩:=y;simp only [ydi] at z1 z2;rcases z1 with ⟨p1,p2,p3⟩|⟨ad1,p1,p2,p3,p4,p5,p6⟩
  . exact zii p1 p2 p3
  rcases z2 with ⟨q1,q2,_⟩|⟨ad2,q1,q2,q3,q4,q5,q6⟩
  . exact zhm q1 q2
  have g1:=z2x hF hT k1 p1;have g2:=z2x hF hT k2 q1;rcases hne with ⟨rfl,rfl⟩|hne
  . have e1:=p5 rfl;have e2:=q5 rfl;have e3:=p6 (by omega);subst e1;subst e2;subst e3;exact zhc (fun f hf=>by cases hf) (fun f _=>by simp) (fun f _=>by omega) (fun f hf=>by cases hf)
  . have hb:ad1.block≠ad2.block:=by
      intro hb
      cases b1 with
      |none =>
        cases b2 with
        |none=>simp [yf9] at hne
        |some b2 =>
          obtain ⟨u,M,g2⟩:=g2;exact (hT.dis ad2.block ⟨b2,.inl ⟨u,M,g2⟩⟩).2 (hb ▸ g1)
      |some b1 =>
        obtain ⟨u1,M1,g1⟩:=g1
        cases b2 with
        |none=>exact (hT.dis ad1.block ⟨b1,.inl ⟨u1,M1,g1⟩⟩).2 (hb ▸ g2)
        |some b2 =>
          obtain ⟨u2,M2,g2⟩:=g2;have:=hT.inj b1 b2 _ _ ad1.block g1 g2 rfl (by rw [hb];rfl);subst this;simp [yf9] at hne
    refine zhc (fun f hf=>⟨fun hf2=>?_,fun hf2=>?_⟩) (fun f hf hf2=>?_) (fun f hf=>?_) (fun f hf=>?_)
    . exact hb ((p3 f hf).symm.trans (q2 f hf2))
    . exact hb ((p3 f hf).symm.trans (q3 f hf2))
    . exact hb ((p2 f hf).symm.trans (q3 f hf2))
    . have:=q2 f hf;rcases p4 with p4|⟨p4,p7⟩<;>omega
    . have:=q3 f hf;rcases p4 with p4|⟨p4,p7⟩<;>omega
theorem TW.drawS (hE:zex P Γ) {id:Nat} {ops:Array Oper} {Q:Exit->(Nat->T)->TS->Prop} (k:Nat) (bx:List (Nat×Option Nat)) (outsP:List T) (own:List Nat) (outs:List (T×TS)) {h1:Nat->T} {ob1 ob2:Prop} (hd:zff N ops.toList=true) (hoS:zw7 Γ k bx ops.toList=true)
    (hp:runP P Γ GL ops.toList (ops.toList.take k) h S outsP=some (ob1,h1)) (hob1:ob1) (hr:runT P Γ GL own ops.toList (ops.toList.drop k) h1 S outs=some (ob2,h',S')) (hob2:ob2) (hbx:z0r bx h' S') (hq:Q .normal h' S'):TW P Γ GL N (.region id ops true) h S Q:=fun A β fr s hF hT=>by
  have hok:zjd ops.toList.length ops.toList=true:=by
    unfold zw7 at hoS;simp only [dz] at hoS;exact hoS.1
  have hsplit:ops.toList=ops.toList.take k++ops.toList.drop k:=(jg k _).symm
  have hdd:zff N (ops.toList.take k)=true/\zff N (ops.toList.drop k)=true:=by
    unfold zff at hd ⊢;rw [hsplit,kw,dz] at hd;exact hd
  have I0:zrs GL ops.toList A β S s N [] h fr s:=by
    refine ⟨hF.nt,hF.le,hT,fun t=>⟨0,(hF.slot t).mono (fun f hf=>.inl hf) (fun _ _=>rfl) (jm _),fun j o _ _ _ m hm=>by simp at hm⟩,fun k x hx=>by simp at hx,fun k m x y _ hx=>by simp at hx,fun f hf=>(hT.dis f hf).1,hT.alt,?_,hT.le⟩;exact ⟨Can.refl _,fun _ h=>h,fun _ h=>.inl h,fun _ _=>rfl,fun _ h=>.inl h,fun _ h=>h⟩
  obtain ⟨M1,fr1,s1,d1,I1,m1⟩:=z9x hE hok I0 (fun j o hj=>by
    rw [gb,fy];rw [lz] at hj;split at hj
    . exact hj
    . simp at hj) hdd.1 hp hob1
  rw [eu] at I1
  -- behind the first part all may lean on all
  let D:Nat:=2 ^ M1.length - 1
  have hDall:∀ m,m<M1.length->gm D m=true:=fun m hm=>by
    show gm (2 ^ M1.length - 1) m=true;rw [jp];exact zAa hm
  have hT1:TRel GL (SupL A M1 D) β S s1:=by
    refine I1.rel.more _ (fun f hf=>.inl hf) (fun f hf=>?_) (fun f hf ho=>?_)
    . rcases hf with q|⟨m,x,_,q2,_,q4⟩
      . exact I1.rel.alt f q
      . have:=(I1.log m x q2).2.2.1;omega
    . rcases hf with q|⟨m,x,_,q2,q3,q4⟩
      . exact (I1.rel.dis f ho).2 q
      . have:=(I1.log m x q2).1;have:=I1.own f ho;omega
  have hF1:FrOk (SupL A M1 D) β (zaa s1.obj) N h1 fr1:=⟨I1.nt,I1.le,fun t=>by
    obtain ⟨E,e1,_⟩:=I1.slot t
    exact e1.mono (fun f hf=>SupL.sub (fun m hm _=>hDall m hm) hf) (fun _ _=>rfl) (jm _)⟩
  have hS1:Stp A β s (SupL A M1 D) β s1:=by
    refine ⟨I1.calm.can,fun f hf=>.inl hf,fun f hf=>?_,fun f hf=>.inl hf,fun f hf _=>I1.calm.keep f hf,jm _,I1.calm.rd,fun x hx=>.inl (I1.calm.wr x hx)⟩;rcases hf with q|⟨m,x,_,q2,q3,_⟩
    . exact .inl q
    . have:=(I1.log m x q2).1;exact .inr (.inl (by omega))
  obtain ⟨M2,fr2,s2,d2,L2⟩:=z1r hE hdd.2 hF1 hT1 hr hob2;have hdraw:=zku d1 d2;rw [<- hsplit] at hdraw;obtain ⟨f1,f2⟩:=zuk hdraw;have L2':=L2;obtain ⟨A2,β2,hF2,hT2,_⟩:=L2';refine W.draw hdraw ?_ ⟨h',S',qr (h':=h) (fr':=fr) hT.le hS1 L2,hq⟩;refine z2r rfl (zox fun i j x y hij _ hx hy=>?_);simp only [eu] at hx hy;have hjl:j<ops.toList.length:=by rw [<- f1];exact (ek.1 hy).1
  have ho1:ops.toList[i]?=some (ops.toList[i]'(by omega)):=d6 _;have ho2:ops.toList[j]?=some (ops.toList[j]'hjl):=d6 _;by_cases hkj:k<=j
  . rcases z5q hoS hij hkj ho1 ho2 with q|q|q|q|q|q
    . exact .inl q
    . obtain ⟨a,b,c⟩:=(f2 i _ x ho1 hx).1 q;exact .inr (zii a b c)
    . obtain ⟨a,b⟩:=(f2 j _ y ho2 hy).2 q;exact .inr (zhm a b)
    . obtain ⟨a,b,c⟩:=zn1 hdraw i _ x ho1 hx q;exact .inr (zii a b c)
    . obtain ⟨a,b,c⟩:=zn1 hdraw j _ y ho2 hy q;exact .inr (zhm a b)
    . obtain ⟨w1,a1,b1,w2,a2,b2,g1,g2,g3,g4,g5,g6,g7,g8⟩:=yk1 q;have z1:=zw6 hdraw (by rw [hF.nt];exact hF.le) (by rw [hF.nt];exact hd) i _ x w1 a1 ho1 hx g1 g2;have z2:=zw6 hdraw (by rw [hF.nt];exact hF.le) (by rw [hF.nt];exact hd) j _ y w2 a2 ho2 hy g4 g5;exact .inr (ypr hF2 hT2 (z2y hbx g3) (z2y hbx g6) g7 g8 z1 z2)
  . have hjM:j<M1.length:=by rw [m1,gh];omega
    rw [fj (by omega)] at hx;rw [fj hjM] at hy;by_cases hbit:gm (nth 0 (zec ops.toList []) j) i=true
    . exact .inl hbit
    . right;obtain ⟨x1,x2,x3,x4,x5⟩:=I1.log i x hx;obtain ⟨y1,y2,y3,y4,y5⟩:=I1.log j y hy;obtain ⟨rx,wx,lo,hi⟩:=x;obtain ⟨ry,wy,lo',hi'⟩:=y;simp only at x1 x2 x3 x4 x5 y1 y2 y3 y4 y5;subst x4;subst y4;refine zhc (fun f hf=>by simp at hf) (fun f _=>by simp) (fun f hf=>?_) (fun f hf=>by simp at hf);obtain ⟨g1,g2⟩:=y5 f hf;rcases g2 with (g2|⟨m,z,g3,g4,g5,g6⟩)|g2
      . have:=I1.base f g2;omega
      . by_cases hmi:m=i
        . subst hmi;exact absurd g3 hbit
        . by_cases hlt:m<i
          . have:=I1.apart m i z _ hlt g4 hx;simp only at this;omega
          . have:=I1.apart i m _ z (by omega) hx g4;simp only at this;omega
      . have:=I1.own f g2;omega
end
section
variable {GL:List (Nat×List Value)} {A A' A2:Nat->Prop} {β β' β2:Bx} {S S' S2:TS} {s s' s2:CS} {P:fd} {Γ:Env} {N:Nat} {h h' h2:Nat->T} {Q R:Exit->(Nat->T)->TS->Prop}
theorem z7h (hE:zex P Γ) {own:List Nat} {ops:List Oper} {N:Nat}:∀ {l:List Oper} {h h':Nat->T} {S S':TS} {outs:List (T×TS)} {ob:Prop} {A:Nat->Prop} {β:Bx} {fr:Fr} {s:CS},zff N l=true->FrOk A β (zaa s.obj) N h fr->TRel GL A β S s->runT P Γ GL own ops l h S outs=some (ob,h',S')->ob ->
    ∃ M fr' s',drawC P Γ (zfd P Γ) ops l fr s=some (M,fr',s')/\Left GL A β s N fr' s' h' S'/\∀ x,x∈M->s.n<=x.lo/\∀ f,f∈x.wr->Own β f\/s.n<=f
  |[],h,h',S,S',outs,ob,A,β,fr,s,hd,hF,hT,hr,hob=>by
    simp only [runT,du,d7] at hr;obtain ⟨rfl,rfl,rfl⟩:=hr;exact ⟨[],fr,s,rfl,⟨A,β,hF,hT,Stp.refl⟩,fun x hx=>by simp at hx⟩
  |o :: l,h,h',S,S',outs,ob,A,β,fr,s,hd,hF,hT,hr,hob=>by
    have hd':zff N l=true/\∀ t,o.dst=some t->t<N:=by
      unfold zff at hd ⊢;rw [gy,dz] at hd;refine ⟨hd.2,fun t ht=>?_⟩;have:=hd.1;rw [ht] at this;exact zaj.1 this
    have hTi:=hT.inner
    have go:∀ {t:T} {S1:TS} {r:Option (Value×CS)} {l':List (T×TS)} {ob':Prop},Ok GL A β s.inner r t S1->(cop P Γ (zfd P Γ) (zg1 fr) o s.inner=r)->zdp ops fr o=true->runT P Γ GL own ops l (putT h o.dst t) S1 l'=some (ob',h',S')->ob'->∃ M fr' s',drawC P Γ (zfd P Γ) ops (o :: l) fr s=some (M,fr',s')/\Left GL A β s N fr' s' h' S'/\∀ x,x∈M->s.n<=x.lo/\∀ f,f∈x.wr->Own β f\/s.n<=f:=by
      rintro t S1 r l' ob' ⟨v,s1,A1,β1,rfl,k1,k2,k3⟩ hc hw hrun hob';have hF1:FrOk A1 β1 (zaa s1.obj) N h fr:=hF.mono k3.sub (Stp.old (s:=s.inner) hTi k3) k3.bx;have hS:Stp A β s A1 β1 (s.outer s1):=k3.outer hT.inv;obtain ⟨M,fr',s',e1,e2,e3⟩:=z7h hE hd'.1 (s:=s.outer s1) (hF1.put hd'.2 k2) (k1.outer (jx hT.le k3.can.n)) hrun hob';refine ⟨⟨s1.rd,s1.wr,s.n,s1.n⟩ :: M,fr',s',?_,qr (h':=h) (fr':=fr) hT.le hS e2,fun x hx=>?_⟩;rotate_left
      . rcases ij.1 hx with rfl|hx
        . refine ⟨ee _,fun f hf=>?_⟩;rcases k3.wr f hf with q|q
          . exact absurd q (by simp [CS.inner])
          . exact .inl q.2
        . refine ⟨jx hS.can.n (e3 x hx).1,fun f hf=>?_⟩;rcases (e3 x hx).2 f hf with q|q
          . rcases hS.own f q with r|r
            . exact .inl r
            . exact .inr r
          . exact .inr (jx hS.can.n q)
      rw [drawC]
      have:zc9 P Γ (zfd P Γ) ops o fr s.inner=some (putC fr o.dst v,s1):=by
        unfold zc9;rw [hw,cond_true,hc]
      rw [this];simp only;rw [e1]
    unfold runT at hr;split at hr
    . simp at hr
    . rename_i hg;have hw:=ziz hF hg;have hS:Stp A β s A β (s.outer s.inner):=Stp.outer hT.inv Stp.refl;obtain ⟨M,fr',s',e1,e2,e3⟩:=z7h hE hd'.1 (s:=s.outer s.inner) (hF.put hd'.2 VT.undf) (hTi.outer hT.le) hr hob;refine ⟨⟨[],[],s.n,s.n⟩ :: M,fr',s',?_,qr (h':=h) (fr':=fr) hT.le hS e2,fun x hx=>?_⟩;rotate_left
      . rcases ij.1 hx with rfl|hx
        . exact ⟨ee _,fun f hf=>by simp at hf⟩
        . exact e3 x hx
      rw [drawC]
      have:zc9 P Γ (zfd P Γ) ops o fr s.inner=some (putC fr o.dst undef,s.inner):=by
        unfold zc9;rw [hw,cond_false]
      rw [this];simp only;rw [e1];rfl
    . rename_i hg;have hw:=ziz hF hg;split at hr
      . rename_i f args tys ho;split at hr
        . rename_i r outs';split at hr
          . rename_i p hp;unfold z2t at hp;split at hp
            . rename_i k first cap hf
              simp only [du] at hp;subst hp
              cases hrun:runT P Γ GL own ops l (putT h o.dst r.1) r.2 outs' with
              |none=>rw [hrun] at hr;simp [andT] at hr
              |some q =>
                obtain ⟨q1,q2,q3⟩:=q;rw [hrun] at hr;simp only [andT,du,d7] at hr;obtain ⟨rfl,rfl,rfl⟩:=hr;have hfv:=hF.eval hT f;rw [hf] at hfv;generalize e1:zg1 fr f=vf at hfv
                cases hfv with
                |fn h1 h2 =>
                  rename_i va vc;have hargs:=zxo (hF.eval hT) args.toList;have hcall:=hob.1 A β s.inner _ hTi ((h1.append hargs).append h2);refine go hcall ?_ hw hrun hob.2;unfold cop;simp only [ho,e1];unfold zm1;rfl
            . simp at hp
          . simp at hr
        . simp at hr
      . split at hr
        . rename_i t S1 hst;exact go (z05 hE hTi (hF.eval hT) hst) rfl hw hr hob
        . simp at hr
def isCp:T->Prop
  |.cp _=>True
  |_=>False
def z8s (h:Nat->T):List Nat->Prop
  |[]=>True
  |a :: l=>isCp (h a)/\z8s h l
theorem zxb {h:Nat->T} {a:Nat}:∀ {l:List Nat},z8s h l->a∈l->∃ m,h a=.cp m
  |[],_,ha=>by simp at ha
  |b :: l,k,ha=>by
    rcases ij.1 ha with rfl|ha
    . have:=k.1;unfold isCp at this;split at this
      . next m e=>exact ⟨m,e⟩
      . exact this.elim
    . exact zxb k.2 ha
noncomputable def zw0 (cs:List Nat) (a:Nat) (all:List Oper):List Oper->Bool
  |[]=>false
  |o :: l=>match o.dst with
    |some d=>bif ei d a then (match o.op with|.fieldAddr _ (.tmp b) _=>cs.any (ei b) && (zjh b all && zjh a l)|_=>false)
      else (match lsOf o with|some (_,c)=>!(ei c a)|none=>true) && zw0 cs a all l
    |none=>(match lsOf o with|some (_,c)=>!(ei c a)|none=>true) && zw0 cs a all l
noncomputable def ybf (cs:List Nat) (all:List Oper) (o:Oper):Bool:=match lsOf o with
  |some (0,a)=>(cs.any (ei a) && zjh a all) || zw0 cs a all all
  |_=>false
noncomputable def yad (Γ:Env) (cs:List Nat) (all:List Oper) (x y:Bool×Oper×Option (Nat×Option Nat)):Bool:=y.1 && !(zi6 x.2.1.op || (zjg y.2.1.op || (znu Γ x.2.1 || (znu Γ y.2.1 || (ybf cs all x.2.1 || ybf cs all y.2.1)))))
noncomputable def zsk (Γ:Env) (k:Nat) (cs:List Nat) (ops:List Oper):Bool:=zjd ops.length ops && zg3 (yad Γ cs ops) [] (tagS [] k ops) (zec ops [])
theorem yer {a:Nat} {all:List Oper} {i:Nat} {o:Oper} (h:zjh a all=true) (ho:all[i]?=some o):zlo 0 a o (all.drop (i+1))=true:=by
  unfold zlo;unfold zjh at h ⊢;rw [fe] at h;rw [dz,kc];refine ⟨fe.2 fun x hx=>h x (ko hx),.inr ?_⟩;rw [gy,nq,Bool.and_true];exact h o (gv ho)
def FaAt (a b:Nat) (all:List Oper):Prop:=∃ (i0:Nat) (o0:Oper) (ty:ez) (k:Nat),all[i0]?=some o0/\o0.op=.fieldAddr ty (.tmp b) k/\o0.dst=some a/\zjh a (all.drop (i0+1))=true
theorem yjf {cs:List Nat} {a:Nat} (h:cs.any (ei a)=true):a∈cs:=by
  obtain ⟨b,hb,hab⟩:=List.any_eq_true.1 h;have:a=b:=ec hab;subst this;exact hb
theorem zz8 {cs:List Nat} {a:Nat} {all:List Oper}:∀ {l:List Oper},zw0 cs a all l=true->∃ b i0 o0 ty k,b∈cs/\zjh b all=true/\l[i0]?=some o0/\o0.op=.fieldAddr ty (.tmp b) k/\o0.dst=some a/\zjh a (l.drop (i0+1))=true/\∀ i o w,l[i]?=some o->lsOf o=some (w,a)->i0<i
  |[],h=>by simp [zw0] at h
  |o :: l,h=>by
    have next:(match lsOf o with|some (_,c)=>!(ei c a)|none=>true)=true->zw0 cs a all l=true->∃ b i0 o0 ty k,b∈cs/\zjh b all=true/\(o :: l)[i0]?=some o0/\o0.op=.fieldAddr ty (.tmp b) k/\o0.dst=some a/\zjh a ((o :: l).drop (i0+1))=true/\∀ i o' w,(o :: l)[i]?=some o'->lsOf o'=some (w,a)->i0<i:=by
      intro h1 h2;obtain ⟨b,i0,o0,ty,k,q1,q2,q3,q4,q5,q6,q7⟩:=zz8 h2;refine ⟨b,i0+1,o0,ty,k,q1,q2,by simpa using q3,q4,q5,by simpa using q6,fun i o' w hi hw=>?_⟩
      cases i with
      |zero =>
        simp only [fp,du] at hi;subst hi;rw [hw] at h1
        simp at h1
      |succ i=>have:=q7 i o' w (by simpa using hi) hw;omega
    rw [zw0] at h
    cases hd:o.dst with
    |none =>
      rw [hd] at h;simp only [dz] at h
      exact next h.1 h.2
    |some d =>
      rw [hd] at h;simp only at h
      cases hb:ei d a with
      |false =>
        rw [hb,cond_false,dz] at h
        exact next h.1 h.2
      |true =>
        rw [hb,cond_true] at h;have:=ec hb;subst this;split at h
        . next ty b k e =>
          simp only [dz] at h;refine ⟨b,0,o,ty,k,yjf h.1,h.2.1,rfl,e,hd,by simpa using h.2.2,fun i o' w hi hw=>?_⟩
          cases i with
          |zero =>
            simp only [fp,du] at hi;subst hi;unfold lsOf at hw;rw [e] at hw
            simp at hw
          |succ i=>omega
        . simp at h
theorem z0j {cs:List Nat} {all:List Oper} {o:Oper} (h:ybf cs all o=true) {i:Nat} (ho:all[i]?=some o):∃ a b,lsOf o=some (0,a)/\b∈cs/\zjh b all=true/\zlo 0 a o (all.drop (i+1))=true/\(a=b\/FaAt a b all):=by
  unfold ybf at h;split at h
  . next a e =>
    rw [kc,dz] at h;rcases h with h|h
    . exact ⟨a,a,e,yjf h.1,h.2,yer h.2 ho,.inl rfl⟩
    . obtain ⟨b,i0,o0,ty,k,q1,q2,q3,q4,q5,q6,q7⟩:=zz8 h;have hlt:=q7 i o 0 ho e;refine ⟨a,b,e,q1,q2,?_,.inr ⟨i0,o0,ty,k,q3,q4,q5,q6⟩⟩;unfold zlo;unfold zjh at q6 ⊢;rw [fe] at q6;rw [dz,kc];refine ⟨fe.2 fun x hx=>q6 x ?_,.inr ?_⟩
      . have:all.drop (i+1)=(all.drop (i0+1)).drop (i - i0):=by rw [kb];congr 1;omega
        rw [this] at hx;exact ko hx
      . rw [gy,nq,Bool.and_true];refine q6 o ?_;have:(all.drop (i0+1))[i - (i0+1)]?=some o:=by rw [js,<- ho];congr 1;omega
        exact gv this
  . simp at h
theorem z79 {ops:List Oper} {a b:Nat}:∀ {l:List Oper} {fr fr':Fr} {s s':CS} {L:List Lg} {call:zdj},drawC P Γ call ops l fr s=some (L,fr',s')->fr.nt<=512->zff fr.nt l=true->zjh b l=true->FaAt a b l->∀ {ad:Addr},IsAd (fr'.get a) ad->∃ ad0,IsAd (fr.get b) ad0/\ad0.block=ad.block
  |[],fr,fr',s,s',L,call,hc,_,_,_,⟨i0,o0,ty,k,q,_⟩,_,_=>by simp at q
  |o :: l,fr,fr',s,s',L,call,hc,h5,hdo,hn,⟨i0,o0,ty,k,q3,q4,q5,q6⟩,ad,had=>by
    simp only [drawC] at hc;have hn':=hn;unfold zjh at hn;rw [gy,dz] at hn;unfold zff at hdo;rw [gy,dz] at hdo;split at hc
    . rename_i fr1 t h1;split at hc
      . rename_i logs fr2 s2 h2;cases hc
        have hfr:∃ v,fr1=putC fr o.dst v:=by
          unfold zc9 at h1
          cases hw:zdp ops fr o with
          |false =>
            rw [hw] at h1;simp only [cond_false,du,d7] at h1;exact ⟨_,h1.1.symm⟩
          |true =>
            rw [hw,cond_true] at h1;split at h1
            . cases h1;exact ⟨_,rfl⟩
            . simp at h1
        have hnt:fr1.nt=fr.nt:=by obtain ⟨v,rfl⟩:=hfr;exact zvs _ _ _
        cases i0 with
        |succ i0 =>
          obtain ⟨ad0,k1,k2⟩:=z79 h2 (by rw [hnt];exact h5) (by rw [hnt];exact hdo.2) hn.2 ⟨i0,o0,ty,k,by simpa using q3,q4,q5,by simpa using q6⟩ had;obtain ⟨v,rfl⟩:=hfr;rw [z19 h5 hn.1] at k1;exact ⟨ad0,k1,k2⟩
        |zero =>
          simp only [fp,du] at q3;subst q3;rw [zrm h2 (by rw [hnt];exact h5) (show zjh a l=true by simpa using q6)] at had;unfold zc9 at h1;rw [q5] at h1 hdo;have hlt:a<fr.nt:=zaj.1 hdo.1
          cases hw:zdp ops fr o with
          |false =>
            rw [hw] at h1;simp only [cond_false,du,d7] at h1;rw [<- h1.1] at had;change IsAd ((fr.put a undef).get a) ad at had;rw [qg _ hlt h5] at had
            rcases had with e|⟨_,_,e⟩<;>cases e
          |true =>
            rw [hw,cond_true] at h1;split at h1
            . rename_i v t2 hcop;cases h1;change IsAd ((fr.put a v).get a) ad at had;rw [qg _ hlt h5] at had;unfold cop at hcop;rw [q4] at hcop;simp only at hcop;change zdr Γ _ ty k (fr.get b)=_ at hcop;unfold zdr at hcop;split at hcop
              . rename_i a0 hv0;split at hcop
                . split at hcop
                  . split at hcop
                    . rename_i off size _
                      cases hz:ei size 0 with
                      |true=>rw [hz] at hcop;simp at hcop
                      |false =>
                        rw [hz] at hcop;simp only [cond_false,du,d7] at hcop;refine ⟨a0,.inl hv0,?_⟩;rw [<- hcop.1] at had;rcases had with e|⟨_,_,e⟩
                        . cases e;rfl
                        . cases e
                    . simp at hcop
                  . simp at hcop
                . simp at hcop
              . simp at hcop
            . simp at h1
      . simp at hc
    . simp at hc
theorem z5r {Γ:Env} {k:Nat} {cs:List Nat} {ops:List Oper} (hd:zsk Γ k cs ops=true) {i j:Nat} {x y:Oper} (hij:i<j) (hkj:k<=j) (hx:ops[i]?=some x) (hy:ops[j]?=some y):gm (nth 0 (zec ops []) j) i=true\/zi6 x.op=true\/zjg y.op=true\/znu Γ x=true\/znu Γ y=true\/(∃ a b,lsOf x=some (0,a)/\b∈cs/\zjh b ops=true/\zlo 0 a x (ops.drop (i+1))=true/\(a=b\/FaAt a b ops))\/(∃ a b,lsOf y=some (0,a)/\b∈cs/\zjh b ops=true/\zlo 0 a y (ops.drop (j+1))=true/\(a=b\/FaAt a b ops)):=by
  unfold zsk at hd;simp only [dz] at hd;rcases zgp hd.2 i j _ _ hij (ft _) (by simpa using zob hx) (by simpa using zob hy) with q|q
  . exact .inl q
  . unfold yad at q;rw [zAa hkj] at q;simp only [jn,n9,kc] at q;rcases q with q|q|q|q|q|q
    . exact .inr (.inl q)
    . exact .inr (.inr (.inl q))
    . exact .inr (.inr (.inr (.inl q)))
    . exact .inr (.inr (.inr (.inr (.inl q))))
    . exact .inr (.inr (.inr (.inr (.inr (.inl (z0j q hx))))))
    . exact .inr (.inr (.inr (.inr (.inr (.inr (z0j q hy))))))
theorem TW.drawC (hE:zex P Γ) {id:Nat} {ops:Array Oper} {Q:Exit->(Nat->T)->TS->Prop} (k:Nat) (cs:List Nat) (outsP:List T) (own:List Nat) (outs:List (T×TS)) {h1:Nat->T} {ob1 ob2:Prop} (hd:zff N ops.toList=true) (hoS:zsk Γ k cs ops.toList=true)
    (hp:runP P Γ GL ops.toList (ops.toList.take k) h S outsP=some (ob1,h1)) (hob1:ob1) (hr:runT P Γ GL own ops.toList (ops.toList.drop k) h1 S outs=some (ob2,h',S')) (hob2:ob2) (hcs:z8s h cs) (hq:Q .normal h' S'):TW P Γ GL N (.region id ops true) h S Q:=fun A β fr s hF hT=>by
  have hok:zjd ops.toList.length ops.toList=true:=by
    unfold zsk at hoS;simp only [dz] at hoS;exact hoS.1
  have hsplit:ops.toList=ops.toList.take k++ops.toList.drop k:=(jg k _).symm
  have hdd:zff N (ops.toList.take k)=true/\zff N (ops.toList.drop k)=true:=by
    unfold zff at hd ⊢;rw [hsplit,kw,dz] at hd;exact hd
  have I0:zrs GL ops.toList A β S s N [] h fr s:=by
    refine ⟨hF.nt,hF.le,hT,fun t=>⟨0,(hF.slot t).mono (fun f hf=>.inl hf) (fun _ _=>rfl) (jm _),fun j o _ _ _ m hm=>by simp at hm⟩,fun k x hx=>by simp at hx,fun k m x y _ hx=>by simp at hx,fun f hf=>(hT.dis f hf).1,hT.alt,?_,hT.le⟩;exact ⟨Can.refl _,fun _ h=>h,fun _ h=>.inl h,fun _ _=>rfl,fun _ h=>.inl h,fun _ h=>h⟩
  obtain ⟨M1,fr1,s1,d1,I1,m1⟩:=z9x hE hok I0 (fun j o hj=>by
    rw [gb,fy];rw [lz] at hj;split at hj
    . exact hj
    . simp at hj) hdd.1 hp hob1
  rw [eu] at I1
  -- behind the first part all may lean on all
  let D:Nat:=2 ^ M1.length - 1
  have hDall:∀ m,m<M1.length->gm D m=true:=fun m hm=>by
    show gm (2 ^ M1.length - 1) m=true;rw [jp];exact zAa hm
  have hT1:TRel GL (SupL A M1 D) β S s1:=by
    refine I1.rel.more _ (fun f hf=>.inl hf) (fun f hf=>?_) (fun f hf ho=>?_)
    . rcases hf with q|⟨m,x,_,q2,_,q4⟩
      . exact I1.rel.alt f q
      . have:=(I1.log m x q2).2.2.1;omega
    . rcases hf with q|⟨m,x,_,q2,q3,q4⟩
      . exact (I1.rel.dis f ho).2 q
      . have:=(I1.log m x q2).1;have:=I1.own f ho;omega
  have hF1:FrOk (SupL A M1 D) β (zaa s1.obj) N h1 fr1:=⟨I1.nt,I1.le,fun t=>by
    obtain ⟨E,e1,_⟩:=I1.slot t
    exact e1.mono (fun f hf=>SupL.sub (fun m hm _=>hDall m hm) hf) (fun _ _=>rfl) (jm _)⟩
  have hS1:Stp A β s (SupL A M1 D) β s1:=by
    refine ⟨I1.calm.can,fun f hf=>.inl hf,fun f hf=>?_,fun f hf=>.inl hf,fun f hf _=>I1.calm.keep f hf,jm _,I1.calm.rd,fun x hx=>.inl (I1.calm.wr x hx)⟩;rcases hf with q|⟨m,x,_,q2,q3,_⟩
    . exact .inl q
    . have:=(I1.log m x q2).1;exact .inr (.inl (by omega))
  obtain ⟨M2,fr2,s2,d2,L2,W2⟩:=z7h hE hdd.2 hF1 hT1 hr hob2;have hdraw:=zku d1 d2;rw [<- hsplit] at hdraw;obtain ⟨f1,f2⟩:=zuk hdraw;have L2':=L2;obtain ⟨A2,β2,hF2,hT2,_⟩:=L2';refine W.draw hdraw ?_ ⟨h',S',qr (h':=h) (fr':=fr) hT.le hS1 L2,hq⟩;refine z2r rfl (zox fun i j x y hij _ hx hy=>?_);simp only [eu] at hx hy;have hjl:j<ops.toList.length:=by rw [<- f1];exact (ek.1 hy).1
  have ho1:ops.toList[i]?=some (ops.toList[i]'(by omega)):=d6 _;have ho2:ops.toList[j]?=some (ops.toList[j]'hjl):=d6 _;by_cases hkj:k<=j
  . rcases z5r hoS hij hkj ho1 ho2 with q|q|q|q|q|⟨a1,b1,q1,q2,q3,q4,q5⟩|⟨a1,b1,q1,q2,q3,q4,q5⟩
    . exact .inl q
    . obtain ⟨a,b,c⟩:=(f2 i _ x ho1 hx).1 q;exact .inr (zii a b c)
    . obtain ⟨a,b⟩:=(f2 j _ y ho2 hy).2 q;exact .inr (zhm a b)
    . obtain ⟨a,b,c⟩:=zn1 hdraw i _ x ho1 hx q;exact .inr (zii a b c)
    . obtain ⟨a,b,c⟩:=zn1 hdraw j _ y ho2 hy q;exact .inr (zhm a b)
    . have z1:=zw6 hdraw (by rw [hF.nt];exact hF.le) (by rw [hF.nt];exact hd) i _ x 0 a1 ho1 hx q1 q4
      have hyM:y∈M2:=by
        have hm1:M1.length<=j:=by rw [m1,gh];omega
        rw [gi hm1] at hy;exact gv hy
      have ga:∀ {ad:Addr},IsAd (fr2.get a1) ad->∃ ad0,IsAd (fr.get b1) ad0/\ad0.block=ad.block:=by
        intro ad had;rcases q5 with rfl|q5
        . rw [zrm hdraw (by rw [hF.nt];exact hF.le) q3] at had;exact ⟨ad,had,rfl⟩
        . exact z79 hdraw (by rw [hF.nt];exact hF.le) (by rw [hF.nt];exact hd) q3 q5 had
      obtain ⟨l,hl⟩:=zxb hcs q2;obtain ⟨rx,wx,lo,hi⟩:=x;obtain ⟨ry,wy,lo',hi'⟩:=y;simp only [ydi] at z1;rcases z1 with ⟨p1,p2,p3⟩|⟨ad1,p1,p2,p3,p4,p5,p6⟩
      . exact .inr (zii p1 p2 p3)
      . obtain ⟨ad0,g1,g2⟩:=ga p1
        have fa:A ad1.block:=by
          rw [<- g2];exact z2x (S:=S) (b:=none) hF hT (by rw [hl];trivial) g1
        have e5:=p5 trivial;have e6:=p6 (by omega);refine .inr (zhc (fun f hf=>by simp [e5] at hf) (fun f hf hw=>?_) (fun f _=>by omega) (fun f _=>by omega));rw [p2 f hf] at hw;rcases (W2 _ hyM).2 _ hw with r|r
        . exact (hT.dis _ r).2 fa
        . have:=hT.alt _ fa;have:=I1.calm.can.n;omega
    . have z1:=zw6 hdraw (by rw [hF.nt];exact hF.le) (by rw [hF.nt];exact hd) j _ y 0 a1 ho2 hy q1 q4
      have ga:∀ {ad:Addr},IsAd (fr2.get a1) ad->∃ ad0,IsAd (fr.get b1) ad0/\ad0.block=ad.block:=by
        intro ad had;rcases q5 with rfl|q5
        . rw [zrm hdraw (by rw [hF.nt];exact hF.le) q3] at had;exact ⟨ad,had,rfl⟩
        . exact z79 hdraw (by rw [hF.nt];exact hF.le) (by rw [hF.nt];exact hd) q3 q5 had
      obtain ⟨l,hl⟩:=zxb hcs q2
      have xlo:s.n<=x.lo/\∀ f,f∈x.wr->Own β f\/s.n<=f:=by
        by_cases hi:i<M1.length
        . rw [fj hi] at hx;obtain ⟨x1,_,_,x4,_⟩:=I1.log i x hx;exact ⟨x1,fun f hf=>by rw [x4] at hf;simp at hf⟩
        . rw [gi (by omega)] at hx;have w:=W2 _ (gv hx);have:=I1.calm.can.n;exact ⟨by omega,fun f hf=>(w.2 f hf).imp (fun r=>r) (fun r=>by omega)⟩
      obtain ⟨rx,wx,lo,hi⟩:=x;obtain ⟨ry,wy,lo',hi'⟩:=y;simp only [ydi] at z1;rcases z1 with ⟨p1,p2,p3⟩|⟨ad1,p1,p2,p3,p4,p5,p6⟩
      . exact .inr (zhm p1 p2)
      . obtain ⟨ad0,g1,g2⟩:=ga p1
        have fa:A ad1.block:=by
          rw [<- g2];exact z2x (S:=S) (b:=none) hF hT (by rw [hl];trivial) g1
        have e5:=p5 trivial;have:=hT.alt _ fa;simp only at xlo;refine .inr (zhc (fun f hf=>⟨fun hr=>?_,fun hw=>by simp [e5] at hw⟩) (fun f hf hw=>by simp [e5] at hw) (fun f hr=>.inl ?_) (fun f hw=>by simp [e5] at hw))
        . rw [p2 f hr] at hf;rcases xlo.2 _ hf with r|r
          . exact (hT.dis _ r).2 fa
          . omega
        . rw [p2 f hr];omega
  . have hjM:j<M1.length:=by rw [m1,gh];omega
    rw [fj (by omega)] at hx;rw [fj hjM] at hy;by_cases hbit:gm (nth 0 (zec ops.toList []) j) i=true
    . exact .inl hbit
    . right;obtain ⟨x1,x2,x3,x4,x5⟩:=I1.log i x hx;obtain ⟨y1,y2,y3,y4,y5⟩:=I1.log j y hy;obtain ⟨rx,wx,lo,hi⟩:=x;obtain ⟨ry,wy,lo',hi'⟩:=y;simp only at x1 x2 x3 x4 x5 y1 y2 y3 y4 y5;subst x4;subst y4;refine zhc (fun f hf=>by simp at hf) (fun f _=>by simp) (fun f hf=>?_) (fun f hf=>by simp at hf);obtain ⟨g1,g2⟩:=y5 f hf;rcases g2 with (g2|⟨m,z,g3,g4,g5,g6⟩)|g2
      . have:=I1.base f g2;omega
      . by_cases hmi:m=i
        . subst hmi;exact absurd g3 hbit
        . by_cases hlt:m<i
          . have:=I1.apart m i z _ hlt g4 hx;simp only at this;omega
          . have:=I1.apart i m _ z (by omega) hx g4;simp only at this;omega
      . have:=I1.own f g2;omega
end
end Go.Proofs.YteifcnjpjjaikaaGreat
