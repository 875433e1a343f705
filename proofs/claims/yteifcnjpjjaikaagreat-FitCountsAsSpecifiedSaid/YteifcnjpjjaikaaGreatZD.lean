/- Part 4 of the proof of FitCountsAsSpecified (several texts in one; no further condition). -/
import Derived.Test.YteifcnjpjjaikaaGreatZC
set_option linter.unusedSimpArgs false
set_option linter.unusedVariables false
set_option linter.unusedSectionVars false
namespace Go.Proofs.YteifcnjpjjaikaaGreat
noncomputable section
open _root_.Array renaming toList_map->lw
open _root_.BitVec renaming ofInt->ge
open _root_.Bool renaming and_eq_true->dr,not_eq_false'->nc,or_eq_false_iff->jl
open Go.Proofs.YteifcnjpjjaikaaGreat.Bx renaming le->qc,le_refl->ip
open Go.Proofs.YteifcnjpjjaikaaGreat.CS renaming append->kc,firstCells->gz,readMap->pj
open Go renaming FuncId->jz,Operand->d8,Program->ep,TypeDesc->je,TypeId->ed,eqGuard->jt
open _root_.List renaming all_append->oc,all_eq_true->ez,append_assoc->fe,cons_append->fd,drop_zero->fp,eq_nil_of_length_eq_zero->gv,flatMap_cons->ij,flatten_cons->fm,length_append->er,length_cons->eh,length_drop->gp,length_take->fi,mem_of_mem_drop->ki,mem_of_mem_take->n7,replicate->ew,replicate_succ->gu,take_length->mz,take_of_length_le->fk,take_take->pf
open Go.Proofs.YteifcnjpjjaikaaGreat.Loc renaming fam->i4
open _root_.Nat renaming add_mul->ig,beq->d7,beq_refl->gw,ble->fg,blt->fb,eq_of_beq_eq_true->dx,le_refl->dz,min_eq_left->pc,mul_le_mul_right->jw,testBit->ft,zero_add->fz
open Go.Proofs.YteifcnjpjjaikaaGreat.Ok0 renaming same->im
open Go.Op renaming intArith->n5,intBits->np,intCmp->ls,operands->eg
open _root_.Option.some renaming injEq->dp
open _root_.Prod.mk renaming injEq->du
open Go.Proofs.YteifcnjpjjaikaaGreat.Stp renaming refl->pl
open Go.Proofs.YteifcnjpjjaikaaGreat.T renaming cells->gd,one->jn
open Go.Proofs.YteifcnjpjjaikaaGreat.TS renaming add_ne->ld,add_same->l8,has_ok->pu,set_ne->gl,set_same->g0
open Go.Proofs.YteifcnjpjjaikaaGreat.VL renaming nil->qa
open Go Go.RowKit
def yjt (c:UInt8):T:=.int .u8 (c.toNat:Int)
def zho (b:ByteArray):List T:=b.data.toList.map yjt
section
variable {GL:List (Nat×List Value)} {A A' A2:Nat->Prop} {β β' β2:Bx} {S S':TS} {s s' s2:CS} {P:ep} {Γ:Env}
theorem ztp {g:Nat->Fam}:∀ (l:List UInt8),VL A β g (l.map yjt) (l.map fun b=>.int .u8 b.toNat)
  |[]=>.nil
  |c :: l=>.cons (.int _ _) (ztp l)
def tSrc (S:TS) (e:Nat):T->Option (Nat×List T)
  |.lst es l=>bif d7 es e then some (l.length,l.flatMap gd) else none
  |.str b=>bif d7 e 1 then some (b.size,zho b) else none
  |.nils=>some (0,[])
  |.arr b es off len cap N=>(match S.box b with
    |.cells _ N' l=>bif d7 N N' && (d7 es e && fg (off+len*e) N) then some (len,(l.drop off).take (len*e)) else none
    |_=>none)
  |.emp es=>bif d7 es e then some (0,[]) else none
  |_=>none
def Rd (A:Nat->Prop) (β:Bx) (s s':CS):Prop:=s'=s\/∃ f,(A f\/Own β f)/\s'={ s with rd:=ins s.lim s.rd f }
theorem Rd.rel (h:TRel GL A β S s) (k:Rd A β s s'):TRel GL A β S s'/\Stp A β s A β s'/\s'.obj=s.obj/\s'.n=s.n/\s'.lim=s.lim/\s'.wr=s.wr:=by
  rcases k with rfl|⟨f,hf,rfl⟩
  . exact ⟨h,pl,rfl,rfl,rfl,rfl⟩
  . exact ⟨h.read f,Stp.read hf,rfl,rfl,rfl,rfl⟩
theorem Rd.rel0 (h:TRel GL A β S s) (k:Rd A β s s'):TRel GL A β S s'/\zj4 A β s A s':=by
  rcases k with rfl|⟨f,hf,rfl⟩
  . exact ⟨h,Can.refl _,fun _ h=>h,fun _ h=>.inl h,fun _ _=>rfl,fun _ h=>.inl h,fun _ h=>h⟩
  . exact ⟨h.read f,zj4.read hf⟩
theorem zzp (h:TRel GL A β S s) {e n:Nat} {y:T} {xs:List T} {v:Value} (he:0<e) (hy:VT A β (zaa s.obj) y v) (ht:tSrc S e y=some (n,xs)) :
    lenC v=some n/\xs.length=n*e/\∀ k,k<=n->∃ ys s',s.firstCells e k v=some (ys,s')/\VL A β (zaa s.obj) (xs.take (k*e)) ys/\Rd A β s s':=by
  unfold tSrc at ht;split at ht
  . rename_i es l
    cases hq:d7 es e with
    |false=>rw [hq] at ht;simp at ht
    |true =>
      rw [hq] at ht;have:=dx hq;subst this;cases ht
      cases hy with
      |lnil =>
        refine ⟨rfl,by simp,fun k hk=>?_⟩;have:k=0:=by simpa using hk
        subst this;refine ⟨[],s,?_,by simpa using qa,.inl rfl⟩;unfold gz
        simp
      |lst k1 k2 k3 k4 k5 k6 k7 k8 =>
        rename_i f u off cap cs cs0;refine ⟨rfl,zti k4,fun k hk=>?_⟩;have hcl:cs.length=l.length*es:=by rw [<- k3.len,zti k4]
        have hkl:k*es<=l.length*es:=jw es hk
        have hcs0:off+cs.length<=cs0.length\/cs.length=0:=by
          have:=congrArg List.length k6;rw [fi,gp] at this;omega
        cases hz:d7 (k*es) 0 with
        |true =>
          have hz':=dx hz;refine ⟨[],s,?_,by rw [hz'];simpa using qa,.inl rfl⟩;unfold gz
          simp only [hz,cond_true]
        |false =>
          have hnz:k*es≠0:=fun hh=>by rw [hh] at hz;simp at hz
          refine ⟨cs.take (k*es),{ s with rd:=ins s.lim s.rd f },?_,k3.take _,.inr ⟨f,.inl k1,rfl⟩⟩;unfold gz CS.readRow;simp only [hz,cond_false,zjm,zl9,k2,zsf];rw [z9o (by omega)]
          have:(cs0.drop off).take (k*es)=cs.take (k*es):=by
            rw [<- k6,pf,pc (by omega)]
          rw [this]
  . rename_i b
    cases hq:d7 e 1 with
    |false=>rw [hq] at ht;simp at ht
    |true =>
      rw [hq] at ht;have:=dx hq;subst this;cases ht;cases hy;refine ⟨rfl,by simp [zho],fun k hk=>⟨_,s,yf7 hk,?_,.inl rfl⟩⟩
      have:zix (b.extract 0 k)=(b.data.toList.take k).map fun b=>.int .u8 b.toNat:=by
        unfold zix;simp [ByteArray.data_extract]
      rw [this,Nat.mul_one,zho,<- List.map_take];exact ztp _
  . cases ht;cases hy;refine ⟨rfl,by simp,fun k hk=>?_⟩;have:k=0:=by omega
    subst this;refine ⟨[],s,?_,by simpa using qa,.inl rfl⟩;unfold gz;simp
  . rename_i b es off len cap N;split at ht
    . rename_i z N' l hS
      cases hq:(d7 N N' && (d7 es e && fg (off+len*e) N)) with
      |false=>rw [hq] at ht;simp at ht
      |true =>
        rw [hq] at ht;simp only [dr] at hq;obtain ⟨q1,q2,q3⟩:=hq;have:=dx q1;subst this;have:=dx q2;subst this;have q3:=zax.1 q3;simp only [cond_true,dp,du] at ht;obtain ⟨rfl,rfl⟩:=ht;have hlN:=(h.cells b z N l hS).1;have hxl:((l.drop off).take (len*es)).length=len*es:=by rw [fi,gp];omega
        rcases zf1 h hS hy with ⟨f,u,rfl,hb,_⟩|⟨rfl,hb,rfl,rfl,rfl,rfl⟩
        . refine ⟨rfl,hxl,fun k hk=>?_⟩;have hkl:k*es<=len*es:=jw es hk;obtain ⟨cs,h1,h2,h3⟩:=h.look (off:=off) hS hb;have hcl:=h2.len
          cases hz:d7 (k*es) 0 with
          |true =>
            have hz':=dx hz;refine ⟨[],s,?_,by rw [hz'];simpa using qa,.inl rfl⟩;unfold gz
            simp only [hz,cond_true]
          |false =>
            refine ⟨(cs.drop off).take (k*es),{ s with rd:=ins s.lim s.rd f },?_,?_,.inr ⟨f,.inr (zci hb),rfl⟩⟩
            . unfold gz;simp only [hz,cond_false,h1,zsf];rw [z9o (by omega)]
            . rw [pf,pc (by omega)];exact (h2.drop off).take _
        . refine ⟨rfl,by simp,fun k hk=>?_⟩;have:k=0:=by omega
          subst this;refine ⟨[],s,?_,by simpa using qa,.inl rfl⟩;unfold gz;simp
    . simp at ht
  . rename_i es
    cases hq:d7 es e with
    |false=>rw [hq] at ht;simp at ht
    |true =>
      rw [hq] at ht;cases ht;cases hy;refine ⟨rfl,by simp,fun k hk=>?_⟩;have:k=0:=by omega
      subst this;refine ⟨[],s,?_,by simpa using qa,.inl rfl⟩;unfold gz;simp
  . simp at ht
def tLen (Γ:Env) (S:TS) (t:ed) (x:T):Option T:=match Γ.ti.at t with
  |some i=>(match i.desc,x with
    |.string,.str b=>some (.int .i64 b.size)
    |.array n _,_=>some (.int .i64 n)
    |.slice _,.lst _ l=>some (.int .i64 l.length)
    |.slice _,.nils=>some (.int .i64 0)
    |.slice _,.emp _=>some (.int .i64 0)
    |.slice _,.arr b _ _ len _ N=>bif S.has b N then some (.int .i64 len) else none
    |_,_=>none)
  |none=>none
theorem ym8 (h:TRel GL A β S s) {t:ed} {x r:T} {v:Value} (hx:VT A β (zaa s.obj) x v) (ht:tLen Γ S t x=some r):Ok0 GL A β S s (zmk Γ s t v) r:=by
  unfold tLen at ht;split at ht
  . rename_i i hi;split at ht
    . rename_i b hd;cases ht;cases hx;have:zmk Γ s t (.string b)=some (.int .i64 b.size,s):=by unfold zmk;simp only [hi,hd]
      rw [this];exact im h (.int _ _)
    . rename_i n e hd;cases ht;have:zmk Γ s t v=some (.int .i64 n,s):=by unfold zmk;simp only [hi,hd]
      rw [this];exact im h (.int _ _)
    . rename_i e es l hd;cases ht;have key:∀ a n c,zmk Γ s t (.slice a n c)=some (.int .i64 n,s):=fun a n c=>by unfold zmk;simp only [hi,hd]
      cases hx with
      |lnil=>rw [key];exact im h (.int _ _)
      |lst=>rw [key];exact im h (.int _ _)
    . rename_i e hd;cases ht;have key:∀ a n c,zmk Γ s t (.slice a n c)=some (.int .i64 n,s):=fun a n c=>by unfold zmk;simp only [hi,hd]
      cases hx;rw [key];exact im h (.int _ _)
    . rename_i e es hd;cases ht;have key:∀ a n c,zmk Γ s t (.slice a n c)=some (.int .i64 n,s):=fun a n c=>by unfold zmk;simp only [hi,hd]
      cases hx;rw [key];exact im h (.int _ _)
    . rename_i e b es off len cap N hd;have key:∀ a n c,zmk Γ s t (.slice a n c)=some (.int .i64 n,s):=fun a n c=>by unfold zmk;simp only [hi,hd]
      cases hs:S.has b N with
      |false=>rw [hs] at ht;simp at ht
      |true =>
        rw [hs] at ht;cases ht;obtain ⟨z,l,hS⟩:=pu hs;rcases zf1 h hS hx with ⟨f,u,rfl,hb,_⟩|⟨rfl,hb,rfl,rfl,rfl,rfl⟩
        . rw [key];exact im h (.int _ _)
        . rw [key];exact im h (.int _ _)
    . simp at ht
  . simp at ht
def zej:T->Value
  |.int k n=>.int k n
  |_=>undef
theorem zu0 {g:Nat->Fam} {t:T} {v:Value} {n:Nat} (h:VT A β g t v) (hn:zgs (zej t)=some n):zgs v=some n:=by
  unfold zej at hn;split at hn
  . cases h;exact hn
  . simp [zgs,undef] at hn
inductive VO (A:Nat->Prop) (β:Bx) (g:Nat->Fam):Option T->Option Value->Prop
  |none:VO A β g none none
  |some {t v}:VT A β g t v->VO A β g (some t) (some v)
def natO (d:Nat):Option Value->Option Nat
  |some v=>zgs v
  |none=>some d
theorem zrx (len cap : Nat) (lo hi mx : Option Value) : zds len cap lo hi mx = match natO cap mx, natO len hi, natO 0 lo with
    |some m,some h,some l=>bif fg l h && fg h m && fg m cap && (mx.isNone || hi.isSome) then some (l,h,m) else none
    |_,_,_=>none:=by
  unfold zds;cases lo<;>cases hi<;>cases mx<;>rfl
theorem zlk {g:Nat->Fam} {len cap:Nat} {lo hi mx:Option T} {lov hiv mxv:Option Value} {r:Nat×Nat×Nat} (h1:VO A β g lo lov) (h2:VO A β g hi hiv) (h3:VO A β g mx mxv) (hb:zds len cap (lo.map zej) (hi.map zej) (mx.map zej)=some r):zds len cap lov hiv mxv=some r:=by
  have key:∀ {o:Option T} {o':Option Value} {d k:Nat},VO A β g o o'->natO d (o.map zej)=some k->natO d o'=some k:=by
    intro o o' d k ho hk
    cases ho with
    |none=>exact hk
    |some hv=>exact zu0 hv hk
  rw [zrx] at hb ⊢;split at hb
  . rename_i m hh l e1 e2 e3;rw [key h3 e1,key h2 e2,key h1 e3];have n1:mxv.isNone=(mx.map zej).isNone:=by cases h3<;>rfl
    have n2:hiv.isSome=(hi.map zej).isSome:=by cases h2<;>rfl
    simp only [n1,n2];exact hb
  . simp at hb
def zt0 (Γ:Env) (S:TS) (t:ed) (x:T) (lo hi mx:Option T):Option T:=match Γ.ti.at t with
  |some i=>(match x with
    |.str b=>(match i.desc,mx with
      |.string,none=>(match zds b.size b.size (lo.map zej) (hi.map zej) none with|some (l,h,_)=>some (.str (b.extract l h))|none=>none)
      |_,_=>none)
    |.nils=>(match i.desc with
      |.slice e=>(match Γ.ti.at e with|some _=>(match zds 0 0 (lo.map zej) (hi.map zej) (mx.map zej) with|some (0,0,0)=>some .nils|_=>none)|none=>none)
      |_=>none)
    |.arr b es off len cap N=>(match i.desc with
      |.slice e=>(match Γ.ti.at e with
        |some j=>bif S.has b N && d7 es j.size then (match zds len cap (lo.map zej) (hi.map zej) (mx.map zej) with|some (l,h,m)=>some (.arr b es (off+l*es) (h - l) (m - l) N)|none=>none) else none
        |none=>none)
      |_=>none)
    |.lst es l=>(match i.desc,mx with
      |.slice e,none=>(match Γ.ti.at e with
        |some j=>bif d7 es j.size then (match zds l.length l.length (lo.map zej) (hi.map zej) none with|some (a,h,_)=>some (.lst es ((l.drop a).take (h - a)))|none=>none) else none
        |none=>none)
      |_,_=>none)
    |.ptr b off N=>(match S.box b,i.desc with
      |.cells true N' _,.array n e=>(match Γ.ti.at e with
        |some j=>bif d7 N N' && fg n 1000000000 then (match zds n n (lo.map zej) (hi.map zej) (mx.map zej) with|some (l,h,m)=>some (.arr b j.size (off+l*j.size) (h - l) (m - l) N)|none=>none) else none
        |none=>none)
      |.cells true N' _,.pointer arr=>(match Γ.ti.at arr with
        |some ia=>(match ia.desc with
          |.array n e=>(match Γ.ti.at e with
            |some j=>bif d7 N N' && fg n 1000000000 then (match zds n n (lo.map zej) (hi.map zej) (mx.map zej) with|some (l,h,m)=>some (.arr b j.size (off+l*j.size) (h - l) (m - l) N)|none=>none) else none
            |none=>none)
          |_=>none)
        |none=>none)
      |_,_=>none)
    |_=>none)
  |none=>none
theorem zzh {len cap:Nat} {lo hi:Option Value} {a h m:Nat} (hc:len<=cap) (hb:zds len len lo hi none=some (a,h,m)):zds len cap lo hi none=some (a,h,cap)/\a<=h/\h<=len:=by
  rw [zrx] at hb ⊢;split at hb
  . rename_i m' h' l' e1 e2 e3;have e1':len=m':=by simpa [natO] using e1
    subst e1';rw [e2,e3,show natO cap none=some cap from rfl];simp only
    cases hq:(fg l' h' && fg h' len && fg len len && ((none:Option Value).isNone || hi.isSome)) with
    |false=>rw [hq] at hb;simp at hb
    |true =>
      rw [hq] at hb;simp only [cond_true,dp,du] at hb;obtain ⟨rfl,rfl,rfl⟩:=hb;simp only [dr] at hq;obtain ⟨⟨⟨q1,q2⟩,q3⟩,q4⟩:=hq;have q2':=zax.1 q2;refine ⟨?_,zax.1 q1,q2'⟩;rw [q1,zkd (show h'<=cap by omega),zkd (dz cap)];rfl
  . simp at hb
theorem z4q {len cap:Nat} {lo hi mx:Option Value} {a h m:Nat} (hb:zds len cap lo hi mx=some (a,h,m)):a<=h/\h<=m/\m<=cap:=by
  rw [zrx] at hb;split at hb
  . rename_i m' h' l' e1 e2 e3
    cases hq:(fg l' h' && fg h' m' && fg m' cap && (mx.isNone || hi.isSome)) with
    |false=>rw [hq] at hb;simp at hb
    |true =>
      rw [hq] at hb;simp only [cond_true,dp,du] at hb;obtain ⟨rfl,rfl,rfl⟩:=hb;simp only [dr] at hq;exact ⟨zax.1 hq.1.1.1,zax.1 hq.1.1.2,zax.1 hq.1.2⟩
  . simp at hb
theorem ycj (h:TRel GL A β S s) {t:ed} {x r:T} {v:Value} {lo hi mx:Option T} {lov hiv mxv:Option Value} (hx:VT A β (zaa s.obj) x v) (h1:VO A β (zaa s.obj) lo lov) (h2:VO A β (zaa s.obj) hi hiv) (h3:VO A β (zaa s.obj) mx mxv) (ht:zt0 Γ S t x lo hi mx=some r):Ok0 GL A β S s (zdo Γ s t v lov hiv mxv) r:=by
  unfold zt0 at ht;split at ht
  . rename_i i hi';split at ht
    . rename_i b;cases hx;split at ht
      . rename_i hd;split at ht
        . rename_i l hh m hb;cases ht;cases h3
          have:zdo Γ s t (.string b) lov hiv none=some (.string (b.extract l hh),s):=by
            unfold zdo;simp only [hi',hd,Option.isNone_none,cond_true];rw [zlk h1 h2 .none hb];rfl
          rw [this];exact im h (.str _)
        . simp at ht
      . simp at ht
    . cases hx;split at ht
      . rename_i e hd;split at ht
        . rename_i j hj;split at ht
          . rename_i hb;cases ht
            have:zdo Γ s t (.slice none 0 0) lov hiv mxv=some (.slice none 0 0,s):=by
              unfold zdo;simp only [hi',hd,hj];rw [zlk h1 h2 h3 hb];rfl
            rw [this];exact im h .nils
          . simp at ht
        . simp at ht
      . simp at ht
    . rename_i b es off len cap N;split at ht
      . rename_i e hd;split at ht
        . rename_i j hj
          cases hq:(S.has b N && d7 es j.size) with
          |false=>rw [hq] at ht;simp at ht
          |true =>
            rw [hq] at ht;simp only [dr] at hq;have hes:=dx hq.2;obtain ⟨z,l0,hS⟩:=pu hq.1;simp only [cond_true] at ht;split at ht
            . rename_i l hh m hb;cases ht;have hb':=zlk h1 h2 h3 hb;have hbl:=z4q hb;rcases zf1 h hS hx with ⟨f,u,rfl,hbb,htag⟩|⟨rfl,hbb,rfl,rfl,rfl,rfl⟩
              . have:zdo Γ s t (.slice (some (mkA f u off)) len cap) lov hiv mxv=some (.slice (some (mkA f u (off+l*es))) (hh - l) (m - l),s):=by
                  unfold zdo;simp only [hi',hd,hj,hb'];unfold cutC;simp only [zjm,zju];rw [hes] at htag ⊢;rcases htag with hu|hu
                  . rw [zke hu];rfl
                  . rw [zke hu];simp
                rw [this];exact im h (.arr hbb htag)
              . obtain ⟨b1,b2,b3⟩:=hbl;have e1:m=0:=by omega
                have e2:hh=0:=by omega
                have e3:l=0:=by omega
                subst e1;subst e2;subst e3
                have:zdo Γ s t (.slice none 0 0) lov hiv mxv=some (.slice none 0 0,s):=by
                  unfold zdo;simp only [hi',hd,hj,hb']
                rw [this];simp only [Nat.zero_mul,Nat.add_zero,Nat.sub_zero];exact im h (.arrNil hbb)
            . simp at ht
        . simp at ht
      . simp at ht
    . rename_i es l;split at ht
      . rename_i e hd;cases h3;split at ht
        . rename_i j hj
          cases hq:d7 es j.size with
          |false=>rw [hq] at ht;simp at ht
          |true =>
            rw [hq] at ht;have hes:=dx hq;simp only [cond_true] at ht;split at ht
            . rename_i a hh m hb;cases ht;have hb':=zlk h1 h2 .none hb;obtain ⟨_,ha,hhl⟩:=zzh (dz _) hb'
              cases hx with
              |lnil =>
                have e2:hh=0:=by simpa using hhl
                have e3:a=0:=by omega
                subst e2;subst e3;have hm:m=0:=by have:=z4q hb';simpa using this.2.2
                subst hm
                have:zdo Γ s t (.slice none 0 0) lov hiv none=some (.slice none 0 0,s):=by
                  unfold zdo;simp only [hi',hd,hj];simp only [List.length_nil] at hb';rw [hb'];rfl
                rw [this];exact im h .lnil
              |lst k1 k2 k3 k4 k5 k6 k7 k8 =>
                rename_i f u off cap cs cs0;obtain ⟨hb2,_,_⟩:=zzh k8 hb'
                have:zdo Γ s t (.slice (some (mkA f u off)) l.length cap) lov hiv none=some (.slice (some (mkA f u (off+a*es))) (hh - a) (cap - a),s):=by
                  unfold zdo;simp only [hi',hd,hj,hb2];unfold cutC;simp only [zjm,zju];rw [hes] at k7 ⊢;rcases k7 with hu|hu
                  . rw [zke hu];rfl
                  . rw [zke hu];simp
                rw [this];have hlen:((l.drop a).take (hh - a)).length=hh - a:=by rw [fi,gp];omega
                refine im h ?_
                have hcs:VL A β (zaa s.obj) (((l.drop a).take (hh - a)).flatMap gd) ((cs.drop (a*es)).take ((hh - a)*es)):=by
                  rw [<- z3u (e:=es) _ (fun t ht=>k4 t (ki ht)),<- zvy (e:=es) _ k4];exact (k3.drop _).take _
                have hcl:cs.length=l.length*es:=by rw [<- k3.len,zti k4]
                have hal:hh*es<=l.length*es:=jw es hhl;have hsub:(hh - a)*es=hh*es - a*es:=Nat.sub_mul hh a es;have hae:a*es<=hh*es:=jw es ha
                have:=VT.lst (A:=A) (β:=β) (g:=zaa s.obj) (off:=off+a*es) (cap:=cap - a) k1 k2 hcs (fun t ht=>k4 t (ki (n7 ht))) k5 (by
                  have e1:((cs.drop (a*es)).take ((hh - a)*es)).length=(hh - a)*es:=by rw [fi,gp];omega
                  rw [e1];have:=congrArg (List.drop (a*es)) k6;rw [List.drop_take,List.drop_drop] at this
                  rw [<- this,pf,pc (by omega)]) k7 (by rw [hlen];omega)
                rw [hlen] at this;exact this
            . simp at ht
        . simp at ht
      . simp at ht
    . rename_i b off N;split at ht
      . rename_i N' l0 n e hS hd;split at ht
        . rename_i j hj
          cases hq:(d7 N N' && fg n 1000000000) with
          |false=>rw [hq] at ht;simp at ht
          |true =>
            rw [hq] at ht;simp only [dr] at hq;have:=dx hq.1;subst this;simp only [cond_true] at ht;split at ht
            . rename_i l hh m hb;cases ht;have hb':=zlk h1 h2 h3 hb;obtain ⟨f,u,rfl,hbb⟩:=zjt h hS hx
              have hu:u % 1024=0:=by
                obtain ⟨_,hc⟩:=h.cells b true N l0 hS;rcases hc with ⟨_,_,hc⟩|⟨f',u',cs,rest,hb2,hz,_⟩
                . simp at hc
                . rw [hbb] at hb2;cases hb2;exact hz rfl
              have:zdo Γ s t (.pointer (some (mkA f u off))) lov hiv mxv=some (.slice (some (mkA f u (off+l*j.size))) (hh - l) (m - l),s):=by
                unfold zdo;simp only [hi',hd];unfold zov;simp only [hj,hq.2,za7,hb'];unfold cutC;simp only [zjm,zju];rw [zke hu];rfl
              rw [this];exact im h (.arr hbb (.inl hu))
            . simp at ht
        . simp at ht
      . rename_i N' l0 arr hS hd;split at ht
        . rename_i ia hia;split at ht
          . rename_i n e hda;split at ht
            . rename_i j hj
              cases hq:(d7 N N' && fg n 1000000000) with
              |false=>rw [hq] at ht;simp at ht
              |true =>
                rw [hq] at ht;simp only [dr] at hq;have:=dx hq.1;subst this;simp only [cond_true] at ht;split at ht
                . rename_i l hh m hb;cases ht;have hb':=zlk h1 h2 h3 hb;obtain ⟨f,u,rfl,hbb⟩:=zjt h hS hx
                  have hu:u % 1024=0:=by
                    obtain ⟨_,hc⟩:=h.cells b true N l0 hS;rcases hc with ⟨_,_,hc⟩|⟨f',u',cs,rest,hb2,hz,_⟩
                    . simp at hc
                    . rw [hbb] at hb2;cases hb2;exact hz rfl
                  have:zdo Γ s t (.pointer (some (mkA f u off))) lov hiv mxv=some (.slice (some (mkA f u (off+l*j.size))) (hh - l) (m - l),s):=by
                    unfold zdo;simp only [hi',hd,hia,hda];unfold zov;simp only [hj,hq.2,za7,hb'];unfold cutC;simp only [zjm,zju];rw [zke hu];rfl
                  rw [this];exact im h (.arr hbb (.inl hu))
                . simp at ht
            . simp at ht
          . simp at ht
        . simp at ht
      . simp at ht
    . simp at ht
  . simp at ht
end
section
variable {GL:List (Nat×List Value)} {A A' A2:Nat->Prop} {β β' β2:Bx} {S S':TS} {s s' s2:CS} {P:ep} {Γ:Env}
theorem TRel.moved (h:TRel GL A β S s) {b f2 u2 N2:Nat} {z:Bool} {l0:Loc} {g':Nat->Fam} {xs:List T} {cs2:List Value} {rest:List (Nat×List Value)} (hb:β b=some l0) (hle:Loc.le l0 (.live f2 u2 N2)) (hf2:f2=s.n\/l0.fam=some f2)
    (hin:s'.obj=.inr g') (hI:CInv s') (hn:s.n<=s'.n) (hlt:f2<s'.n) (hoth:∀ k,k≠f2->g' k=zaa s.obj k) (hat:g' f2=⟨false,(u2,cs2) :: rest,none,none⟩) (hv:VL A β (zaa s.obj) xs cs2) (h1:cs2.all oneC=true) (hN:xs.length=N2) (hz:z=true->u2 % 1024=0) :
    TRel GL A (bnew β b (.live f2 u2 N2)) (S.set b (.cells z N2 xs)) s'/\qc β (bnew β b (.live f2 u2 N2))/\(∀ f,Own (bnew β b (.live f2 u2 N2)) f->Own β f\/s.n<=f):=by
  have hobj:∀ k,zaa s'.obj k=g' k:=fun k=>by rw [hin];rfl
  have hne:∀ b',b'≠b->bnew β b (.live f2 u2 N2) b'=β b':=fun b' hb'=>zAd hb';have hse:bnew β b (.live f2 u2 N2) b=some (.live f2 u2 N2):=zAc rfl
  have hblt:b<S.n:=by
    by_cases hh:b<S.n
    . exact hh
    . rw [h.next b (by omega)] at hb;simp at hb
  have hbx:qc β (bnew β b (.live f2 u2 N2)):=fun i x hx=>by
    by_cases hi:i=b
    . subst hi;rw [hb] at hx;cases hx;exact ⟨_,hse,hle⟩
    . exact ⟨x,by rw [hne i hi];exact hx,Loc.le_refl x⟩
  have hnotA:¬ A f2:=fun hA=>by
    rcases hf2 with rfl|hf2
    . have:=h.alt _ hA;omega
    . cases l0 with
      |live f u N=>simp [i4] at hf2;subst hf2;exact (h.dis _ (zci hb)).2 hA
      |map r=>simp [Loc.le] at hle
      |nil=>simp [i4] at hf2
      |dead=>simp [i4] at hf2
  have hA:∀ k,A k->g' k=zaa s.obj k:=fun k hk=>hoth k fun hh=>hnotA (hh ▸ hk)
  have hother:∀ {b':Nat} {l:Loc} {k:Nat},β b'=some l->l.fam=some k->b'≠b->k≠f2:=by
    intro b' l k hb' hk hnb hh;subst hh;rcases hf2 with hf2|hf2
    . have hO:Own β k:=by
        cases l with
        |live f u N=>simp [i4] at hk;subst hk;exact zci hb'
        |map r=>simp [i4] at hk;subst hk;exact zd2 hb'
        |nil=>simp [i4] at hk
        |dead=>simp [i4] at hk
      have:=(h.dis _ hO).1;omega
    . exact hnb (h.inj b' b l l0 k hb' hb hk hf2)
  have hown:∀ f,Own (bnew β b (.live f2 u2 N2)) f->Own β f\/(s.n<=f/\f=f2):=fun f hf=>by
    obtain ⟨b',hb'⟩:=hf;by_cases hbb:b'=b
    . subst hbb;rw [hse] at hb';rcases hb' with ⟨u,N,hb'⟩|hb'
      . cases hb';rcases hf2 with rfl|hf2
        . exact .inr ⟨dz _,rfl⟩
        . refine .inl ?_
          cases l0 with
          |live f u N=>simp [i4] at hf2;subst hf2;exact zci hb
          |map r=>simp [Loc.le] at hle
          |nil=>simp [i4] at hf2
          |dead=>simp [i4] at hf2
      . simp at hb'
    . rw [hne b' hbb] at hb';exact .inl ⟨b',hb'⟩
  refine ⟨⟨⟨g',hin⟩,hI,fun f hf=>by have:=h.alt f hf;omega,fun f hf=>?_,fun b1 b2 l1 l2 f hb1 hb2 hf1 hf2'=>?_,fun b' hb'=>?_,fun b' z' N' l' hb'=>?_,fun b' l' hb'=>?_,fun x hx=>?_⟩,hbx,fun f hf=>(hown f hf).imp id (·.1)⟩
  . rcases hown f hf with q|⟨q,rfl⟩
    . have:=h.dis f q;exact ⟨by omega,this.2⟩
    . exact ⟨hlt,hnotA⟩
  . by_cases e1:b1=b<;>by_cases e2:b2=b
    . rw [e1,e2]
    . subst e1;rw [hse] at hb1;cases hb1;rw [hne b2 e2] at hb2;simp [i4] at hf1;subst hf1;exact absurd rfl (hother hb2 hf2' e2)
    . subst e2;rw [hse] at hb2;cases hb2;rw [hne b1 e1] at hb1;simp [i4] at hf2';subst hf2';exact absurd rfl (hother hb1 hf1 e1)
    . rw [hne b1 e1] at hb1;rw [hne b2 e2] at hb2;exact h.inj b1 b2 l1 l2 f hb1 hb2 hf1 hf2'
  . have:S.n<=b':=hb';rw [hne b' (by omega)];exact h.next b' this
  . by_cases hbb:b'=b
    . subst hbb;rw [g0] at hb';cases hb';refine ⟨hN,.inr ⟨f2,u2,cs2,rest,hse,hz,by rw [hobj];exact hat,?_,h1⟩⟩;exact hv.mono (fun _ h=>h) (fun f hf=>by rw [hobj];exact hA f hf) hbx
    . rw [gl _ _ hbb] at hb';exact (h.cells b' z' N' l' hb').mono (fun _ h=>h) (fun f hf=>by rw [hobj];exact hA f hf) hbx (hne b' hbb) fun f u N hl=>by rw [hobj];exact hoth f (hother hl rfl hbb)
  . by_cases hbb:b'=b
    . subst hbb;rw [g0] at hb';cases hb'
    . rw [gl _ _ hbb] at hb';exact (h.maps b' l' hb').mono (fun _ h=>h) (fun f hf=>by rw [hobj];exact hA f hf) hbx (hne b' hbb) fun r hl=>by rw [hobj];exact hoth r (hother hl rfl hbb)
  . have:=h.glob x hx;exact ⟨this.1,by rw [hobj,hA _ this.1];exact this.2⟩
def zrc (Γ:Env) (S:TS) (t:ed) (y x:T):Option (T×TS):=match zc0 Γ t with
  |some j=>(match tSrc S j.size y with
    |some (n,xs)=>(match x with
      | .nils => bif fb 1000000000 (n * (j.bytes + 1)) || d7 j.size 0 || fg 1000 j.size || not (xs.all jn) then none else
          bif d7 n 0 then some (.nils,S) else some (.arr S.n j.size 0 n n xs.length,S.add (.cells false xs.length xs))
      |.arr b es off len cap N=>(match S.box b with
        | .cells z N' l => bif fb 1000000000 ((len + n) * (j.bytes + 1)) || d7 j.size 0 || fg 1000 j.size || not (xs.all jn) || not (d7 N N') || not (d7 es j.size) then none else
            bif fg (len+n) cap then
              (bif d7 n 0 then some (.arr b es off (len+n) cap N,S) else
               bif fg (off+(len+n)*es) N then some (.arr b es off (len+n) cap N,S.set b (.cells z N (spl l (off+len*es) xs))) else none)
            else bif d7 off 0 && d7 (len*es) N && fb 0 n then some (.arr b es 0 (len+n) (len+n) (N+xs.length),S.set b (.cells false (N+xs.length) (l++xs))) else none
        |_=>none)
      |_=>none)
    |none=>none)
  |none=>none
theorem Stp.newObj {f2:Nat} {F:Fam} {n':Nat} {wr:List Nat} (hcan:Can s { s with n:=n',obj:=zal s.obj f2 F,wr:=wr }) (hin:∃ g,s.obj=.inr g) (hf2:f2=s.n\/Own β f2) (hbx:qc β β') (hown:∀ f,Own β' f->Own β f\/s.n<=f) (hwr:∀ x,x∈wr->x∈s.wr\/(x<s.lim/\Own β x)):Stp A β s A β' { s with n:=n',obj:=zal s.obj f2 F,wr:=wr }:=by
  refine ⟨hcan,fun _ h=>h,fun _ h=>.inl h,hown,fun f hf hno=>?_,hbx,fun _ h=>.inl h,hwr⟩;obtain ⟨g,hg⟩:=hin;show zaa (zal s.obj f2 F) f=_;rw [hg,zff,zqc,zqc];refine zh1 _ _ _ _ fun hh=>?_;subst hh;rcases hf2 with rfl|hf2
  . omega
  . exact hno hf2
theorem yap (h:TRel GL A β S s) {t:ed} {x y r:T} {v w:Value} (hx:VT A β (zaa s.obj) x v) (hy:VT A β (zaa s.obj) y w) (ht:zrc Γ S t y x=some (r,S')):Ok GL A β s (zc3 Γ s t w v) r S':=by
  unfold zrc at ht;split at ht
  . rename_i j hj;split at ht
    . rename_i n xs hsrc;split at ht
      . -- nil
        cases hx
        cases hq:(fb 1000000000 (n*(j.bytes+1)) || d7 j.size 0 || fg 1000 j.size || not (xs.all jn)) with
        |true=>rw [hq] at ht;simp at ht
        |false =>
          rw [hq,cond_false] at ht;simp only [jl,nc] at hq;obtain ⟨⟨⟨q1,q2⟩,q3⟩,q4⟩:=hq
          have hj0:0<j.size:=by
            by_cases hh:j.size=0
            . rw [hh] at q2;simp at q2
            . omega
          have hj1:j.size<1000:=by
            by_cases hh:1000<=j.size
            . rw [zkd hh] at q3;simp at q3
            . omega
          obtain ⟨e1,e2,e3⟩:=zzp h hj0 hy hsrc;obtain ⟨ys,s1,f1,f2,f3⟩:=e3 n (dz _);rw [fk (by omega)] at f2;obtain ⟨r1,r2,r3,r4,r5,r6⟩:=f3.rel h
          have c1:(fb 1000000000 ((0+n)*(j.bytes+1)) || d7 j.size 0 || fg 1000 j.size || not (ys.all oneC))=false:=by
            rw [fz,q1,q2,q3,f2.one q4];rfl
          cases hn:d7 n 0 with
          |true =>
            rw [hn] at ht;cases ht
            have:zc3 Γ s t w (.slice none 0 0)=some (.slice none 0 0,s1):=by
              unfold zc3 kc;simp only [hj,e1,f1,c1,cond_false,hn,cond_true]
            rw [this];exact ⟨_,s1,A,β,rfl,r1,.nils,r2⟩
          |false =>
            rw [hn] at ht;cases ht;rw [<- r3] at f2;obtain ⟨s2,β2,k1,k2,k3,k4⟩:=r1.newBox (j.size+1) (by omega) f2 (f2.one q4);have hb0:d7 (j.size+1) 0=false:=rfl;rw [hb0] at k3
            have:zc3 Γ s t w (.slice none 0 0)=some (.slice (some (mkA s1.n (s1.n*1024+(j.size+1)) 0)) (0+n) (0+n),s2):=by
              unfold zc3 kc;simp only [hj,e1,f1,c1,cond_false,hn,k1,zhp]
            rw [this,fz];exact ⟨_,s2,A,β2,rfl,k3,.arr k2 (.inr (by omega)),r2.trans h.le k4⟩
      . rename_i b es off len cap N;split at ht
        . rename_i z N' l hS
          cases hq:(fb 1000000000 ((len+n)*(j.bytes+1)) || d7 j.size 0 || fg 1000 j.size || not (xs.all jn) || not (d7 N N') || not (d7 es j.size)) with
          |true=>rw [hq] at ht;simp at ht
          |false =>
            rw [hq,cond_false] at ht;simp only [jl,nc] at hq;obtain ⟨⟨⟨⟨⟨q1,q2⟩,q3⟩,q4⟩,q5⟩,q6⟩:=hq;have:=dx q5;subst this;have:=dx q6;subst this
            have hj0:0<j.size:=by
              by_cases hh:j.size=0
              . rw [hh] at q2;simp at q2
              . omega
            have hj1:j.size<1000:=by
              by_cases hh:1000<=j.size
              . rw [zkd hh] at q3;simp at q3
              . omega
            obtain ⟨e1,e2,e3⟩:=zzp h hj0 hy hsrc;obtain ⟨ys,s1,f1,f2,f3⟩:=e3 n (dz _);rw [fk (by omega)] at f2;obtain ⟨r1,r2,r3,r4,r5,r6⟩:=f3.rel h;have f2':=f2;rw [<- r3] at f2';have q4':=f2.one q4
            have c1:(fb 1000000000 ((len+n)*(j.bytes+1)) || d7 j.size 0 || fg 1000 j.size || not (ys.all oneC))=false:=by
              rw [q1,q2,q3,q4'];rfl
            have hlN:=(h.cells b z N l hS).1;have hx':=hx;rw [<- r3] at hx'
            cases hc:fg (len+n) cap with
            |true =>
              rw [hc,cond_true] at ht
              cases hn:d7 n 0 with
              |true =>
                rw [hn] at ht;cases ht;have hn0:=dx hn;subst hn0;rcases zf1 h hS hx with ⟨f,u,rfl,hb,htag⟩|⟨rfl,hb,rfl,rfl,rfl,rfl⟩
                . have:zc3 Γ s t w (.slice (some (mkA f u off)) len cap)=some (.slice (some (mkA f u off)) (len+0) cap,s1):=by
                    unfold zc3 kc;simp only [hj,e1,f1,c1,cond_false,hc,cond_true];rfl
                  rw [this];exact ⟨_,s1,A,β,rfl,r1,.arr hb htag,r2⟩
                . have:zc3 Γ s t w (.slice none 0 0)=some (.slice none 0 0,s1):=by
                    unfold zc3 kc;simp only [hj,e1,f1,c1,cond_false];rfl
                  rw [this];exact ⟨_,s1,A,β,rfl,r1,.arrNil hb,r2⟩
              |false =>
                rw [hn,cond_false] at ht;have hn0:n≠0:=fun hh=>by rw [hh] at hn;simp at hn
                cases hfit:fg (off+(len+n)*j.size) N with
                |false=>rw [hfit] at ht;simp at ht
                |true =>
                  rw [hfit] at ht;cases ht;have hfit':=zax.1 hfit;rcases zf1 h hS hx with ⟨f,u,rfl,hb,htag⟩|⟨rfl,hb,rfl,rfl,rfl,rfl⟩
                  . obtain ⟨s2,k1,k2,k3⟩:=r1.write (off:=off+len*j.size) hS hb f2' q4' (by rw [e2];rw [ig] at hfit';omega)
                    have:zc3 Γ s t w (.slice (some (mkA f u off)) len cap)=some (.slice (some (mkA f u off)) (len+n) cap,s2):=by
                      unfold zc3 kc;simp only [hj,e1,f1,c1,cond_false,hc,cond_true,hn,zju,k1]
                    rw [this];exact ⟨_,s2,A,β,rfl,k2,.arr hb htag,r2.trans h.le k3⟩
                  . have:=zax.1 hc;omega
            |false =>
              rw [hc,cond_false] at ht
              cases hw:(d7 off 0 && d7 (len*j.size) N && fb 0 n) with
              |false=>rw [hw] at ht;simp at ht
              |true =>
                rw [hw] at ht;cases ht;simp only [dr] at hw;obtain ⟨⟨w1,w2⟩,w3⟩:=hw;have w1':=dx w1;subst w1';have w2':=dx w2
                have hcap:cap<len+n:=by
                  by_cases hh:len+n<=cap
                  . rw [zkd hh] at hc;simp at hc
                  . omega
                rcases zf1 h hS hx with ⟨f,u,rfl,hb,htag⟩|⟨rfl,hb,-,rfl,rfl,rfl⟩
                . -- a row that is too small
                  obtain ⟨_,hcell⟩:=r1.cells b z N l hS;rcases hcell with ⟨hb2,_,_⟩|⟨f',u',cs,rest,hb2,hz,hat,hv,hone⟩
                  . rw [hb] at hb2;simp at hb2
                  rw [hb] at hb2;cases hb2;have hcl:=hv.len;have hn0:0<n:=zac.1 w3;obtain ⟨g,hin⟩:=r1.inr;have hg:g f=⟨false,(u,cs) :: rest,none,none⟩:=by rw [hin] at hat;exact hat
                  have hrow:zbu ((u,cs) :: rest) u=some cs:=by unfold zbu;rw [gw];rfl
                  have hvl:VL A β (zaa s1.obj) (l++xs) (cs++ys):=hv.append f2';have hall:(cs++ys).all oneC=true:=by rw [oc,hone,q4'];rfl
                  -- the old cells
                  have hold:∃ s2,(bif d7 len 0 then some ([],s1) else s1.firstCells j.size len (.slice (some (mkA f u 0)) len cap))=some (cs,s2)/\Rd A β s1 s2:=by
                    cases hz0:d7 len 0 with
                    |true =>
                      have:=dx hz0;subst this
                      have:cs=[]:=by
                        apply gv;rw [<- hcl,hlN,<- w2'];simp
                      rw [this];exact ⟨s1,rfl,.inl rfl⟩
                    |false =>
                      have hne:len≠0:=fun hh=>by rw [hh] at hz0;simp at hz0
                      have hlm:0<len*j.size:=Nat.mul_pos (by omega) hj0;refine ⟨{ s1 with rd:=ins s1.lim s1.rd f },?_,.inr ⟨f,.inr (zci hb),rfl⟩⟩;rw [cond_false];unfold gz CS.readRow;simp only [zoy (show len*j.size≠0 by omega),cond_false,zjm,zl9,hat,hrow,zsf];rw [z9o (by omega),fp,fk (by omega)]
                  obtain ⟨s2,o1,o2⟩:=hold;obtain ⟨t1,t2,t3,t4,t5,t6⟩:=o2.rel r1;have hlen2:(l++xs).length=N+xs.length:=by rw [er,hlN]
                  have hxpos:0<xs.length:=by rw [e2];exact Nat.mul_pos hn0 hj0
                  have hvl2:VL A β (zaa s2.obj) (l++xs) (cs++ys):=by rw [t3];exact hvl
                  have hat2:zaa s2.obj f=⟨false,(u,cs) :: rest,none,none⟩:=by rw [t3];exact hat
                  have hin2:s2.obj=.inr g:=by rw [t3];exact hin
                  have base:∀ (res:Option (Value×CS)),(bif d7 (u % 1024) 0 then zhp (len+n) (len+n) (s2.newRow (j.size+1) (cs++ys)) else bif d7 (u % 1024) (j.size+1) then s2.grow (mkA f u 0) (j.size+1) (0+len*j.size) (len+n) (cs++ys) else none)=res->zc3 Γ s t w (.slice (some (mkA f u 0)) len cap)=res:=by
                    intro res hres;unfold zc3 kc;simp only [hj,e1,f1,c1,cond_false,hc,o1,zjm,zsf];exact hres
                  cases hu0:d7 (u % 1024) 0 with
                  |true =>
                    have hnr:s2.newRow (j.size+1) (cs++ys)=some (mkA s2.n (s2.n*1024+(j.size+1)) 0,s2.rowed (j.size+1) (cs++ys)):=by
                      unfold CS.newRow;have:zif s2.obj s2.n=true:=by rw [hin2];rfl
                      rw [this,za7];rfl
                    obtain ⟨p1,p2,p3,p4⟩:=t1.fresh ⟨false,[(s2.n*1024+(j.size+1),cs++ys)],none,none⟩ rfl (fun p hp=>by simp at hp;subst hp;show (s2.n*1024+(j.size+1)) / 1024<s2.n+1;omega)
                    obtain ⟨m1,m2,m3⟩:=t1.moved (s':=s2.rowed (j.size+1) (cs++ys)) (b:=b) (f2:=s2.n) (u2:=s2.n*1024+(j.size+1)) (N2:=N+xs.length) (z:=false) (g':=fupd g s2.n ⟨false,[(s2.n*1024+(j.size+1),cs++ys)],none,none⟩) (rest:=[]) hb (.inr (by omega)) (.inl rfl)
                      (by show zal s2.obj s2.n _=_;rw [hin2,zff]) p1.inv (by show s2.n<=s2.n+1;omega) (by show s2.n<s2.n+1;omega) (fun k hk=>by rw [zh1 _ _ _ _ hk,hin2];rfl) (ze7 _ _ _) hvl2 hall hlen2 (by simp)
                    rw [base (some (.slice (some (mkA s2.n (s2.n*1024+(j.size+1)) 0)) (len+n) (len+n),s2.rowed (j.size+1) (cs++ys))) (by rw [hu0,cond_true,hnr];rfl)];refine ⟨_,_,A,_,rfl,m1,.arr (zAc rfl) (.inr (by omega)),r2.trans h.le (t2.trans r1.le ?_)⟩;exact Stp.newObj p2 t1.inr (.inl rfl) m2 m3 (fun x hx=>.inl hx)
                  |false =>
                    have hu1:u % 1024=j.size+1:=by
                      rcases htag with hh|hh
                      . rw [hh] at hu0;simp at hu0
                      . exact hh
                    have hgr:s2.grow (mkA f u 0) (j.size+1) (0+len*j.size) (len+n) (cs++ys)=some (.slice (some (mkA f (s2.n*1024+(j.size+1)) 0)) (len+n) (len+n),{ s2 with n:=s2.n+1,obj:=zal s2.obj f ⟨false,(s2.n*1024+(j.size+1),cs++ys) :: zgu ((u,cs) :: rest) u,none,none⟩,wr:=ins s2.lim s2.wr f }):=by
                      unfold CS.grow;simp only [zl9,zjm,hat2,hrow];rw [zke (show 0+len*j.size=cs.length by omega),za7]
                    have hcan:=z3q t1.inv (show j.size+1<1024 by omega) hgr
                    obtain ⟨m1,m2,m3⟩:=t1.moved (s':={ s2 with n:=s2.n+1,obj:=zal s2.obj f ⟨false,(s2.n*1024+(j.size+1),cs++ys) :: zgu ((u,cs) :: rest) u,none,none⟩,wr:=ins s2.lim s2.wr f }) (b:=b) (f2:=f) (u2:=s2.n*1024+(j.size+1)) (N2:=N+xs.length) (z:=false) (g':=fupd g f ⟨false,(s2.n*1024+(j.size+1),cs++ys) :: zgu ((u,cs) :: rest) u,none,none⟩) hb (.inr (by omega)) (.inr rfl)
                      (by show zal s2.obj f _=_;rw [hin2,zff]) (t1.inv.next hcan) (by show s2.n<=s2.n+1;omega) (by have:=(t1.dis f (zci hb)).1;show f<s2.n+1;omega) (fun k hk=>by rw [zh1 _ _ _ _ hk,hin2];rfl) (ze7 _ _ _) hvl2 hall hlen2 (by simp)
                    rw [base _ (by rw [hu0,cond_false,zke hu1,cond_true,hgr])];refine ⟨_,_,A,_,rfl,m1,.arr (zAc rfl) (.inr (by omega)),r2.trans h.le (t2.trans r1.le ?_)⟩;refine Stp.newObj hcan t1.inr (.inr (zci hb)) m2 m3 (fun x hx=>?_);rcases zjw hx with q|⟨rfl,q⟩
                    . exact .inl q
                    . exact .inr ⟨q,zci hb⟩
                . -- nothing yet
                  have hn0:0<n:=zac.1 w3;have hl0:l=[]:=gv hlN;subst hl0;have hxpos:0<xs.length:=by rw [e2];exact Nat.mul_pos hn0 hj0
                  obtain ⟨g,hin⟩:=r1.inr
                  have hnr:s1.newRow (j.size+1) ys=some (mkA s1.n (s1.n*1024+(j.size+1)) 0,s1.rowed (j.size+1) ys):=by
                    unfold CS.newRow;have:zif s1.obj s1.n=true:=by rw [hin];rfl
                    rw [this,za7];rfl
                  obtain ⟨p1,p2,p3,p4⟩:=r1.fresh ⟨false,[(s1.n*1024+(j.size+1),ys)],none,none⟩ rfl (fun p hp=>by simp at hp;subst hp;show (s1.n*1024+(j.size+1)) / 1024<s1.n+1;omega)
                  obtain ⟨m1,m2,m3⟩:=r1.moved (s':=s1.rowed (j.size+1) ys) (b:=b) (f2:=s1.n) (u2:=s1.n*1024+(j.size+1)) (N2:=0+xs.length) (z:=false) (g':=fupd g s1.n ⟨false,[(s1.n*1024+(j.size+1),ys)],none,none⟩) (rest:=[]) (xs:=[]++xs) hb (by show 0<0+xs.length;omega) (.inl rfl)
                    (by show zal s1.obj s1.n _=_;rw [hin,zff]) p1.inv (by show s1.n<=s1.n+1;omega) (by show s1.n<s1.n+1;omega) (fun k hk=>by rw [zh1 _ _ _ _ hk,hin];rfl) (ze7 _ _ _) f2' q4' (by simp) (by simp)
                  have:zc3 Γ s t w (.slice none 0 0)=some (.slice (some (mkA s1.n (s1.n*1024+(j.size+1)) 0)) (0+n) (0+n),s1.rowed (j.size+1) ys):=by
                    unfold zc3 kc;simp only [hj,e1,f1,c1,cond_false,zoy (show n≠0 by omega),hnr,zhp]
                  rw [this];refine ⟨_,_,A,_,rfl,m1,.arr (zAc rfl) (.inr (by omega)),r2.trans h.le ?_⟩;exact Stp.newObj p2 r1.inr (.inl rfl) m2 m3 (fun x hx=>.inl hx)
        . simp at ht
      . simp at ht
    . simp at ht
  . simp at ht
end
section
variable {GL:List (Nat×List Value)} {A A' A2:Nat->Prop} {β β' β2:Bx} {S S':TS} {s s' s2:CS} {P:ep} {Γ:Env}
def yh8 (Γ:Env) (S:TS) (t:ed) (y x:T):Option (T×TS):=match zc0 Γ t with
  |some j=>(match tSrc S j.size y with
    |some (m,xs)=>(match x with
      |.arr b es off len cap N=>(match S.box b with
        | .cells z N' l => bif d7 N N' && (d7 es j.size && (fb 0 j.size && (fg (off + min m len * es) N && xs.all jn))) then
            some (.int .i64 (min m len:Nat),S.set b (.cells z N (spl l off (xs.take (min m len*es))))) else none
        |_=>none)
      |_=>none)
    |none=>none)
  |none=>none
theorem yne {l:List T} {off:Nat} (h:off<=l.length):spl l off []=l:=by
  unfold spl;simp
theorem yh7 (h:TRel GL A β S s) {t:ed} {x y r:T} {v w:Value} (hx:VT A β (zaa s.obj) x v) (hy:VT A β (zaa s.obj) y w) (ht:yh8 Γ S t y x=some (r,S')):Ok GL A β s (zp9 Γ s t w v) r S':=by
  unfold yh8 at ht;split at ht
  . rename_i j hj;split at ht
    . rename_i m xs hsrc;split at ht
      . rename_i b es off len cap N;split at ht
        . rename_i z N' l hS
          cases hq:(d7 N N' && (d7 es j.size && (fb 0 j.size && (fg (off+min m len*es) N && xs.all jn)))) with
          |false=>rw [hq] at ht;simp at ht
          |true =>
            rw [hq] at ht;simp only [dr] at hq;obtain ⟨q1,q2,q3,q4,q5⟩:=hq;have:=dx q1;subst this;have:=dx q2;subst this;have q4:=zax.1 q4;cases ht;have hj0:=zac.1 q3;have hlN:=(h.cells b z N l hS).1;obtain ⟨e1,e2,e3⟩:=zzp h hj0 hy hsrc;obtain ⟨ys,s1,f1,f2,f3⟩:=e3 (min m len) (Nat.min_le_left _ _);obtain ⟨r1,r2,r3,r4,r5,r6⟩:=f3.rel h
            have hxl:(xs.take (min m len*j.size)).length=min m len*j.size:=by
              rw [fi,e2];have:min m len*j.size<=m*j.size:=jw _ (Nat.min_le_left _ _);omega
            have h1:ys.all oneC=true:=f2.one (by
              rw [ez] at q5 ⊢
              exact fun x hx=>q5 x (n7 hx))
            cases hz:d7 (min m len*j.size) 0 with
            |true =>
              have hz':=dx hz
              have hm0:min m len=0:=by
                rcases Nat.mul_eq_zero.1 hz' with hh|hh
                . exact hh
                . omega
              have hnil:xs.take (min m len*j.size)=[]:=by rw [hz'];rfl
              rw [hnil,yne (by omega)]
              have hSS:S.set b (.cells z N l)=S:=by
                unfold TS.set;congr 1;funext i;split
                . rename_i hi;subst hi;exact hS.symm
                . rfl
              rw [hSS]
              have key:∀ a c,zp9 Γ s t w (.slice a len c)=some (.int .i64 (min m len:Nat),s1):=by
                intro a c;unfold zp9;simp only [hj,e1,f1];unfold ybn;simp only [hz,cond_true]
              rcases zf1 h hS hx with ⟨f,u,rfl,hb,htag⟩|⟨rfl,hb,rfl,rfl,rfl,rfl⟩
              . rw [key];exact ⟨_,s1,A,β,rfl,r1,.int _ _,r2⟩
              . rw [key];exact ⟨_,s1,A,β,rfl,r1,.int _ _,r2⟩
            |false =>
              rcases zf1 h hS hx with ⟨f,u,rfl,hb,htag⟩|⟨rfl,hb,rfl,rfl,rfl,rfl⟩
              . have f2':=f2;rw [<- r3] at f2';obtain ⟨s2,k1,k2,k3⟩:=r1.write (off:=off) hS hb f2' h1 (by omega)
                have:zp9 Γ s t w (.slice (some (mkA f u off)) len cap)=some (.int .i64 (min m len:Nat),s2):=by
                  unfold zp9;simp only [hj,e1,f1];unfold ybn;simp only [hz,cond_false,k1]
                rw [this];exact ⟨_,s2,A,β,rfl,k2,.int _ _,r2.trans h.le k3⟩
              . simp at hz
        . simp at ht
      . simp at ht
    . simp at ht
  . simp at ht
def rep (n:Nat) (l:List T):List T:=(ew n l).flatten
theorem yhu {g:Nat->Fam} {l:List T} {cs:List Value} (h:VL A β g l cs):∀ n,VL A β g (rep n l) (ew n cs).flatten
  |0=>.nil
  |n+1=>by
    unfold rep;rw [gu,gu,fm,fm];exact h.append (yhu h n)
theorem z5p {l:List T} (h:l.all jn=true):∀ n,(rep n l).all jn=true
  |0=>rfl
  |n+1=>by
    unfold rep;rw [gu,fm,oc,h];exact z5p h n
theorem yds (l:List T):∀ n,(rep n l).length=n*l.length
  |0=>by simp [rep]
  |n+1=>by
    have:=yds l n;unfold rep at this ⊢;rw [gu,fm,er,this,ig];omega
def ycp (Γ:Env) (S:TS) (t:ed) (x:T):Option (T×TS):=match zc0 Γ t with
  |some j=>(match zf6 j.zero with
    |some zs=>(match x with
      |.arr b es off len cap N=>(match S.box b with
        | .cells z N' l => bif d7 N N' && (d7 es j.zero.length && (fb 0 (len * es) && fg (off + len * es) N)) then
            some (.tup [],S.set b (.cells z N (spl l off (rep len zs)))) else none
        |_=>none)
      |_=>none)
    |none=>none)
  |none=>none
theorem yco (h:TRel GL A β S s) {t:ed} {x r:T} {v:Value} (hx:VT A β (zaa s.obj) x v) (ht:ycp Γ S t x=some (r,S')):Ok GL A β s (zo9 Γ s t v) r S':=by
  unfold ycp at ht;split at ht
  . rename_i j hj;split at ht
    . rename_i zs hzs;obtain ⟨z1,z2⟩:=zh8 (A:=A) (β:=β) (g:=zaa s.obj) hzs;split at ht
      . rename_i b es off len cap N;split at ht
        . rename_i z N' l hS
          cases hq:(d7 N N' && (d7 es j.zero.length && (fb 0 (len*es) && fg (off+len*es) N))) with
          |false=>rw [hq] at ht;simp at ht
          |true =>
            rw [hq] at ht;simp only [cond_true,dp,du] at ht;obtain ⟨rfl,rfl⟩:=ht;simp only [dr] at hq;obtain ⟨q1,q2,q3,q4⟩:=hq;have q1:=dx q1;subst q1;have q2:=dx q2;have q3:=zac.1 q3;have q4:=zax.1 q4;have hzl:zs.length=es:=by rw [z1.len,q2]
            rcases zf1 h hS hx with ⟨f,u,rfl,hb,htag⟩|⟨rfl,hb,rfl,rfl,rfl,rfl⟩
            . have hvl:=yhu z1 len;obtain ⟨s2,k1,k2,k3⟩:=h.write (off:=off) hS hb hvl (hvl.one (z5p z2 len)) (by rw [yds,hzl];exact q4)
              have:zo9 Γ s t (.slice (some (mkA f u off)) len cap)=some (undef,s2):=by
                unfold zo9;simp only [hj];unfold z9t;rw [show fb 0 (len*j.zero.length)=true from zac.2 (by rw [<- q2];exact q3)];simp only [cond_true,k1]
              rw [this];exact ⟨_,s2,A,β,rfl,k2,VT.tup (vs:=[]) .nil,k3⟩
            . simp at q3
        . simp at ht
      . simp at ht
    . simp at ht
  . simp at ht
def zi9 (Γ:Env) (S:TS) (t:ed) (l c:T):Option (T×TS):=match zc0 Γ t,zgs (zej l),zgs (zej c) with
  | some j, some l, some c => bif fg l c && (fg (c * (j.bytes + 1)) 1000000000 && fb 0 j.size) then
      (match zf6 j.zero with
      |some zs=>some (.arr S.n j.size 0 l c (rep c zs).length,S.add (.cells true (rep c zs).length (rep c zs)))
      |none=>none) else none
  |_,_,_=>none
theorem zzq (h:TRel GL A β S s) {t:ed} {l c r:T} {lv cv:Value} (hl:VT A β (zaa s.obj) l lv) (hc:VT A β (zaa s.obj) c cv) (ht:zi9 Γ S t l c=some (r,S')):Ok GL A β s (ze3 Γ s t (zgs lv) (zgs cv)) r S':=by
  unfold zi9 at ht;split at ht
  . rename_i j ll cc hj h1 h2;rw [zu0 hl h1,zu0 hc h2]
    cases hq:(fg ll cc && (fg (cc*(j.bytes+1)) 1000000000 && fb 0 j.size)) with
    |false=>rw [hq] at ht;simp at ht
    |true =>
      rw [hq] at ht;simp only [cond_true] at ht;split at ht
      . rename_i zs hz;cases ht;obtain ⟨a,b⟩:=zh8 (A:=A) (β:=β) (g:=zaa s.obj) hz;have hv:=yhu a cc;obtain ⟨s',β',k1,k2,k3,k4⟩:=h.newBox 0 (by omega) hv (hv.one (z5p b cc))
        have:ze3 Γ s t (some ll) (some cc)=some (.slice (some (mkA s.n (s.n*1024+0) 0)) ll cc,s'):=by
          unfold ze3;simp only [hj];rw [<- Bool.and_assoc] at hq;simp only [hq,cond_true,k1];rfl
        rw [this];exact ⟨_,s',A,β',rfl,k3,.arr k2 (.inl (by omega)),k4⟩
      . simp at ht
  . simp at ht
def zkq (cells:List T):List (Nat×List T)->Option (List T)
  |[]=>some cells
  |(off,vs) :: r=>bif fg (off+vs.length) cells.length then zkq (spl cells off vs) r else none
def zdn (place:Nat->Option (Nat×Nat)) (ρ:d8->T):List (Nat×d8)->Option (List (Nat×List T))
  |[]=>some []
  |(k,x) :: r=>match place k,zdn place ρ r with
    |some (off,size),some l=>bif d7 (ρ x).cells.length size && (ρ x).cells.all jn then some ((off,(ρ x).cells) :: l) else none
    |_,_=>none
inductive PL (A:Nat->Prop) (β:Bx) (g:Nat->Fam):List (Nat×List T)->List (Nat×List Value)->Prop
  |nil:PL A β g [] []
  |cons {k l cs r r'}:VL A β g l cs->l.all jn=true->PL A β g r r'->PL A β g ((k,l) :: r) ((k,cs) :: r')
theorem z2o {g:Nat->Fam} {place:Nat->Option (Nat×Nat)} {ρT:d8->T} {ρ:d8->Value} (hρ:∀ x,VT A β g (ρT x) (ρ x)):∀ {l:List (Nat×d8)} {r:List (Nat×List T)},zdn place ρT l=some r->∃ r',zhm place ρ l=some r'/\PL A β g r r'
  |[],r,h=>by simp only [zdn,dp] at h;subst h;exact ⟨[],rfl,.nil⟩
  |(k,x) :: l,r,h=>by
    unfold zdn at h;split at h
    . rename_i off size l' h1 h2
      cases hq:(d7 (ρT x).cells.length size && (ρT x).cells.all jn) with
      |false=>rw [hq] at h;simp at h
      |true =>
        rw [hq] at h;cases h;simp only [dr] at hq;obtain ⟨r',k1,k2⟩:=z2o hρ h2;have hc:=(hρ x).cells (zly hq.2);refine ⟨(off,(ρ x).cells.toList) :: r',?_,.cons hc hq.2 k2⟩;unfold zhm;simp only [h1,k1];rw [<- hc.len,hq.1];rfl
    . simp at h
theorem z9d {g:Nat->Fam}:∀ {r:List (Nat×List T)} {r':List (Nat×List Value)} {l l':List T} {cs:List Value},PL A β g r r'->VL A β g l cs->zkq l r=some l'->∃ cs',zrv cs r'=some cs'/\VL A β g l' cs'/\l'.length=l.length/\(l.all jn=true->l'.all jn=true)
  |[],_,l,l',cs,.nil,h,ht=>by
    simp only [zkq,dp] at ht;subst ht;exact ⟨cs,rfl,h,rfl,id⟩
  |(off,vs) :: r,_,l,l',cs,.cons k1 k3 k2,h,ht=>by
    rename_i cs2 r';unfold zkq at ht
    cases hq:fg (off+vs.length) l.length with
    |false=>rw [hq] at ht;simp at ht
    |true =>
      rw [hq] at ht;simp only [cond_true] at ht;obtain ⟨cs',a1,a2,a3,a4⟩:=z9d k2 (h.splice off k1) ht;refine ⟨cs',?_,a2,?_,?_⟩
      . unfold zrv;rw [<- k1.len,<- h.len,hq];exact a1
      . rw [a3];exact yc1 (zax.1 hq)
      . intro hl;refine a4 ?_;rw [oc,oc,k3,Bool.and_true,dr];rw [ez] at hl ⊢;exact ⟨fun x hx=>hl x (n7 hx),by rw [ez];exact fun x hx=>hl x (ki hx)⟩
def zfb (zero:List Value) (parts:Option (List (Nat×List T))):Option (List T):=match zf6 zero,parts with
  |some z,some l=>zkq z l
  |_,_=>none
def zku (Γ:Env) (ρ:d8->T) (t:ed) (parts:List (Nat×d8)):Option T:=match Γ.ti.at t with
  |some i=>(match i.desc with
    |.struct fs=>bif (fs.toList.all fun f=>(Γ.ti.at f.type).isSome) then (match zfb i.zero (zdn (zg7 Γ fs) ρ parts) with|some l=>some (.agg l)|none=>none) else none
    |.array _ e=>(match Γ.ti.at e with|some j=>(match zfb i.zero (zdn (ze6 j.size) ρ parts) with|some l=>some (.agg l)|none=>none)|none=>none)
    |_=>none)
  |none=>none
theorem zwb {g:Nat->Fam} {place:Nat->Option (Nat×Nat)} {ρT:d8->T} {ρ:d8->Value} {zero:List Value} {parts:List (Nat×d8)} {l:List T} (hρ:∀ x,VT A β g (ρT x) (ρ x)) (h:zfb zero (zdn place ρT parts)=some l):∃ cs,zq4 zero (zhm place ρ parts)=some cs/\VL A β g l cs/\l.all jn=true:=by
  unfold zfb at h;split at h
  . rename_i z p hz hp;obtain ⟨a,b⟩:=zh8 (A:=A) (β:=β) (g:=g) hz;obtain ⟨r',k1,k2⟩:=z2o hρ hp;obtain ⟨cs,c1,c2,c3,c4⟩:=z9d k2 a h;exact ⟨cs,by unfold zq4;rw [k1];exact c1,c2,c4 b⟩
  . simp at h
theorem ycq (h:TRel GL A β S s) {t:ed} {parts:List (Nat×d8)} {ρT:d8->T} {ρ:d8->Value} {r:T} (hρ:∀ x,VT A β (zaa s.obj) (ρT x) (ρ x)) (ht:zku Γ ρT t parts=some r):Ok0 GL A β S s (zio Γ s ρ t parts) r:=by
  unfold zku at ht;split at ht
  . rename_i i hi;split at ht
    . rename_i fs hd
      cases hq:(fs.toList.all fun f=>(Γ.ti.at f.type).isSome) with
      |false=>rw [hq] at ht;simp at ht
      |true =>
        rw [hq] at ht;simp only [cond_true] at ht;split at ht
        . rename_i l hl;cases ht;obtain ⟨cs,c1,c2,_⟩:=zwb hρ hl
          have:zio Γ s ρ t parts=some (.agg cs.toArray,s):=by
            unfold zio;simp only [hi,hd,hq,za7,c1];rfl
          rw [this];exact im h (.agg c2)
        . simp at ht
    . rename_i n e hd;split at ht
      . rename_i j hj;split at ht
        . rename_i l hl;cases ht;obtain ⟨cs,c1,c2,_⟩:=zwb hρ hl
          have:zio Γ s ρ t parts=some (.agg cs.toArray,s):=by
            unfold zio;simp only [hi,hd,hj,c1];rfl
          rw [this];exact im h (.agg c2)
        . simp at ht
      . simp at ht
    . simp at ht
  . simp at ht
def zbv (Γ:Env) (S:TS) (ρ:d8->T) (t:ed) (n:Nat) (parts:List (Nat×d8)):Option (T×TS):=match zc0 Γ t with
  | some j => bif fg (n * j.size) 16777216 && fb 0 j.size then
      (match zfb (ew n j.zero).flatten (zdn (ze6 j.size) ρ parts) with
      |some l=>some (.arr S.n j.size 0 n n l.length,S.add (.cells true l.length l))
      |none=>none) else none
  |none=>none
theorem z1w (h:TRel GL A β S s) {t:ed} {n:Nat} {parts:List (Nat×d8)} {ρT:d8->T} {ρ:d8->Value} {r:T} (hρ:∀ x,VT A β (zaa s.obj) (ρT x) (ρ x)) (ht:zbv Γ S ρT t n parts=some (r,S')):Ok GL A β s (zce Γ s ρ t n parts) r S':=by
  unfold zbv at ht;split at ht
  . rename_i j hj
    cases hq:(fg (n*j.size) 16777216 && fb 0 j.size) with
    |false=>rw [hq] at ht;simp at ht
    |true =>
      rw [hq] at ht;simp only [cond_true] at ht;split at ht
      . rename_i l hl;cases ht;obtain ⟨cs,c1,c2,c3⟩:=zwb hρ hl;obtain ⟨s',β',k1,k2,k3,k4⟩:=h.newBox 0 (by omega) c2 (c2.one c3)
        have:zce Γ s ρ t n parts=some (.slice (some (mkA s.n (s.n*1024+0) 0)) n n,s'):=by
          unfold zce;simp only [hj,hq,cond_true,c1,k1];rfl
        rw [this];exact ⟨_,s',A,β',rfl,k3,.arr k2 (.inl (by omega)),k4⟩
      . simp at ht
  . simp at ht
def zd7 (e:Nat) (ρ:d8->T):Nat->List (Nat×d8)->Option (List T)
  |_,[]=>some []
  |i,(k,x) :: r=>bif d7 k i && (d7 (ρ x).cells.length e && (ρ x).cells.all jn) then (match zd7 e ρ (i+1) r with|some l=>some (ρ x :: l)|none=>none) else none
def zah (Γ:Env) (ρ:d8->T) (t:ed) (n:Nat) (parts:List (Nat×d8)):Option T:=match zc0 Γ t with
  | some j => bif fg (n * j.size) 16777216 && (fb 0 j.size && (d7 j.zero.length j.size && d7 parts.length n)) then
      (match zd7 j.size ρ 0 parts with
      |some l=>some (.lst j.size l)
      |none=>none) else none
  |none=>none
theorem z9k {g:Nat->Fam} {e:Nat} {ρT:d8->T} {ρ:d8->Value} (hρ:∀ x,VT A β g (ρT x) (ρ x)):∀ {parts:List (Nat×d8)} {i:Nat} {l:List T} {done:List Value} {rest:List Value},zd7 e ρT i parts=some l->done.length=i*e->rest.length=parts.length*e ->
    ∃ r cs,zhm (ze6 e) ρ parts=some r/\zrv (done++rest) r=some (done++cs)/\VL A β g (l.flatMap gd) cs/\(∀ t,t∈l->t.cells.length=e)/\l.length=parts.length
  |[],i,l,done,rest,h,hd,hr=>by
    simp only [zd7,dp] at h;subst h;have:rest=[]:=gv (by simpa using hr);subst this;exact ⟨[],[],rfl,rfl,.nil,by simp,rfl⟩
  |(k,x) :: parts,i,l,done,rest,h,hd,hr=>by
    unfold zd7 at h
    cases hq:(d7 k i && (d7 (ρT x).cells.length e && (ρT x).cells.all jn)) with
    |false=>rw [hq] at h;simp at h
    |true =>
      rw [hq] at h;simp only [cond_true] at h;simp only [dr] at hq;obtain ⟨q1,q2,q3⟩:=hq;have:=dx q1;subst this;have q2':=dx q2;split at h
      . rename_i l' hl;cases h;have hc:=(hρ x).cells (zly q3);have hcl:=hc.len;have hlen:rest.length=e+parts.length*e:=by rw [hr,eh,ig];omega
        obtain ⟨r,cs,a1,a2,a3,a4,a5⟩:=z9k hρ (done:=done++(ρ x).cells.toList) (rest:=rest.drop e) hl (by rw [er,hd,<- hcl,q2',ig];omega) (by rw [gp];omega);refine ⟨(k*e,(ρ x).cells.toList) :: r,(ρ x).cells.toList++cs,?_,?_,?_,?_,by rw [eh,eh,a5]⟩
        . unfold zhm;simp only [ze6,a1];rw [<- hcl,q2];rfl
        . unfold zrv
          have hsp:splice (done++rest) (k*e) (ρ x).cells.toList=done++(ρ x).cells.toList++rest.drop e:=by
            unfold Go.Proofs.YteifcnjpjjaikaaGreat.splice;rw [<- hcl,q2',<- hd,List.take_append,List.drop_append];simp
          rw [hsp,a2,zkd (show k*e+(ρ x).cells.toList.length<=(done++rest).length by rw [er,<- hcl,q2',hd,hlen];omega),cond_true,fe]
        . rw [ij];exact hc.append a3
        . intro t ht;rcases List.mem_cons.1 ht with rfl|ht
          . exact q2'
          . exact a4 t ht
      . simp at h
theorem zmr (h:TRel GL A β S s) {t:ed} {n:Nat} {parts:List (Nat×d8)} {ρT:d8->T} {ρ:d8->Value} {r:T} (hρ:∀ x,VT A β (zaa s.obj) (ρT x) (ρ x)) (ht:zah Γ ρT t n parts=some r):Ok0 GL A β S s (zce Γ s ρ t n parts) r:=by
  unfold zah at ht;split at ht
  . rename_i j hj
    cases hq:(fg (n*j.size) 16777216 && (fb 0 j.size && (d7 j.zero.length j.size && d7 parts.length n))) with
    |false=>rw [hq] at ht;simp at ht
    |true =>
      rw [hq] at ht;simp only [cond_true] at ht;simp only [dr] at hq;obtain ⟨q1,q2,q3,q4⟩:=hq;have q3':=dx q3;have q4':=dx q4;split at ht
      . rename_i l hl;cases ht
        obtain ⟨r,cs,a1,a2,a3,a4,a5⟩:=z9k hρ (done:=[]) (rest:=(ew n j.zero).flatten) hl (by simp) (by
          rw [List.length_flatten];simp [q3',q4'])
        obtain ⟨s',A',k1,k2,k3,k4,k5⟩:=h.newFrozen 0 (by omega) a3
        have hop:zce Γ s ρ t n parts=some (.slice (some (mkA s.n (s.n*1024+0) 0)) n n,s'):=by
          unfold zce;simp only [hj,q1,q2,Bool.and_self,cond_true,a1,zq4];rw [List.nil_append] at a2;rw [a2];simp only [List.nil_append,k1];rfl
        rw [hop];refine ⟨_,s',A',rfl,k4,?_,k5⟩;have:=VT.lst (A:=A') (β:=β) (g:=zaa s'.obj) (off:=0) (cap:=n) k2 k3 (k5.stp.vl h a3) a4 (zac.1 q2) (by rw [fp,mz]) (.inl (by omega)) (by omega);rw [a5,q4'] at this;exact this
      . simp at ht
  . simp at ht
end
section
variable {GL:List (Nat×List Value)} {A A' A2:Nat->Prop} {β β' β2:Bx} {S S':TS} {s s' s2:CS} {P:ep} {Γ:Env}
def zcq (op:BinOp) (k k':IntKind) (a b:Int):Option T :=
  match op with
  |.shl=>if 0<=b then some (.int k (k.wrap (a*2 ^ (min b.toNat k.bits)))) else none
  |.shr=>if 0<=b then some (.int k (a.fdiv (2 ^ (min b.toNat k.bits)))) else none
  |op=>bif d7 (ikN k) (ikN k') then (match op with
    |.add=>some (.int k (k.wrap (a+b)))
    |.sub=>some (.int k (k.wrap (a - b)))
    |.mul=>some (.int k (k.wrap (a*b)))
    |.quo=>if b=0 then none else some (.int k (k.wrap (a.tdiv b)))
    |.rem=>if b=0 then none else some (.int k (a.tmod b))
    |.and=>some (.int k (k.wrap (ge k.bits a &&& ge k.bits b).toNat))
    |.or=>some (.int k (k.wrap (ge k.bits a ||| ge k.bits b).toNat))
    |.xor=>some (.int k (k.wrap (ge k.bits a ^^^ ge k.bits b).toNat))
    |.andNot=>some (.int k (k.wrap (ge k.bits a &&& ~~~ ge k.bits b).toNat))
    |.eql=>some (.bool (decide (a=b)))
    |.neq=>some (.bool (decide (a≠b)))
    |.lss=>some (.bool (decide (a<b)))
    |.leq=>some (.bool (decide (a<=b)))
    |.gtr=>some (.bool (decide (b<a)))
    |.geq=>some (.bool (decide (b<=a)))
    |_=>none) else none
theorem yff {op:BinOp} {k k':IntKind} {a b:Int} {r:T} (h:zcq op k k' a b=some r):∃ v,VT A β (zaa s.obj) r v/\∀ {ρ:d8->Value} {o:Oper} {t t2:ed} {x y:d8} {s:CS},o.op=.binOp op t x y t2->ρ x=.int k a->ρ y=.int k' b->zld P Γ ρ o s t op (.int k a) (.int k' b)=some (v,s):=by
  unfold zcq at h;split at h
  . split at h
    . rename_i h0;cases h;exact ⟨_,.int _ _,fun ho hx hy=>zbz ho hx hy default (by simp only [binOp,Op.shift];rw [zAd (by omega)]) rfl⟩
    . simp at h
  . split at h
    . rename_i h0;cases h;exact ⟨_,.int _ _,fun ho hx hy=>zbz ho hx hy default (by simp only [binOp,Op.shift];rw [zAd (by omega)]) rfl⟩
    . simp at h
  . cases hq:d7 (ikN k) (ikN k') with
    |false=>rw [hq] at h;simp at h
    |true =>
      rw [hq,cond_true] at h;have:=z59 hq;subst this;split at h
      . cases h;exact ⟨_,.int _ _,fun ho hx hy=>zbz ho hx hy default (by simp only [binOp,n5,ne_eq,not_true,if_false]) rfl⟩
      . cases h;exact ⟨_,.int _ _,fun ho hx hy=>zbz ho hx hy default (by simp only [binOp,n5,ne_eq,not_true,if_false]) rfl⟩
      . cases h;exact ⟨_,.int _ _,fun ho hx hy=>zbz ho hx hy default (by simp only [binOp,n5,ne_eq,not_true,if_false]) rfl⟩
      . split at h
        . simp at h
        . rename_i hb;cases h;exact ⟨_,.int _ _,fun ho hx hy=>zbz ho hx hy default (by simp only [binOp,Op.intDiv,ne_eq,not_true,if_false];rw [zAd hb]) rfl⟩
      . split at h
        . simp at h
        . rename_i hb;cases h;exact ⟨_,.int _ _,fun ho hx hy=>zbz ho hx hy default (by simp only [binOp,Op.intDiv,ne_eq,not_true,if_false];rw [zAd hb]) rfl⟩
      . cases h;exact ⟨_,.int _ _,fun ho hx hy=>zbz ho hx hy default (by simp only [binOp,np,ne_eq,not_true,if_false]) rfl⟩
      . cases h;exact ⟨_,.int _ _,fun ho hx hy=>zbz ho hx hy default (by simp only [binOp,np,ne_eq,not_true,if_false]) rfl⟩
      . cases h;exact ⟨_,.int _ _,fun ho hx hy=>zbz ho hx hy default (by simp only [binOp,np,ne_eq,not_true,if_false]) rfl⟩
      . cases h;exact ⟨_,.int _ _,fun ho hx hy=>zbz ho hx hy default (by simp only [binOp,np,ne_eq,not_true,if_false]) rfl⟩
      . cases h;exact ⟨_,.bool _,fun ho hx hy=>zbz ho hx hy default (by simp [binOp,ls];rfl) rfl⟩
      . cases h;exact ⟨_,.bool _,fun ho hx hy=>zbz ho hx hy default (by simp [binOp,ls]<;>rfl) rfl⟩
      . cases h;exact ⟨_,.bool _,fun ho hx hy=>zbz ho hx hy default (by simp [binOp,ls]) rfl⟩
      . cases h;exact ⟨_,.bool _,fun ho hx hy=>zbz ho hx hy default (by simp [binOp,ls]) rfl⟩
      . cases h;exact ⟨_,.bool _,fun ho hx hy=>zbz ho hx hy default (by simp [binOp,ls]) rfl⟩
      . cases h;exact ⟨_,.bool _,fun ho hx hy=>zbz ho hx hy default (by simp [binOp,ls]) rfl⟩
      . simp at h
def zxe (op:BinOp) (a b:ByteArray):Option T:=match op with
  |.eql=>some (.bool (decide (a=b)))
  |.neq=>some (.bool (!decide (a=b)))
  |.add=>if a.size+b.size<=9223372036854775807 then some (.str (a++b)) else none
  |_=>none
theorem yct {op:BinOp} {a b:ByteArray} {r:T} (h:zxe op a b=some r):∃ v,VT A β (zaa s.obj) r v/\∀ {ρ:d8->Value} {o:Oper} {t t2:ed} {x y:d8} {s:CS},o.op=.binOp op t x y t2->ρ x=.string a->ρ y=.string b->zld P Γ ρ o s t op (.string a) (.string b)=some (v,s):=by
  unfold zxe at h;split at h
  . cases h;exact ⟨_,.bool _,fun ho hx hy=>zm5 ho hx hy rfl (fun d=>z0g d a) rfl rfl (by unfold jt;simp) (by show some _=_;rw [ycs]) rfl⟩
  . cases h;exact ⟨_,.bool _,fun ho hx hy=>zm5 ho hx hy rfl (fun d=>z0g d a) rfl rfl (by unfold jt;simp) (by show some _=_;rw [ycs]) rfl⟩
  . split at h
    . rename_i hs;cases h
      exact ⟨_,.str _,fun ho hx hy=>zm5 ho hx hy rfl (fun d=>z0g d a) rfl rfl (by unfold jt;simp) (by
        show zch P (Op.stringOp .add a b)=_;unfold Op.stringOp;simp only
        rw [zAd (by have : IntKind.i64.max = 9223372036854775807 := by decide
                    omega)]
        rfl) rfl⟩
    . simp at h
  . simp at h
theorem zaq {α γ:Type} {f:α->Sem γ}:∀ {m:Sem α},zch P (m >>= f)=(zch P m).bind fun v=>zch P (f v):=by
  intro m
  induction m with
  |pure a=>rfl
  |program k ih=>exact ih P
  |_=>rfl
theorem ya4 {ρ:d8->Value} {t t2:ed} {x y:d8} {op:BinOp} {v w r:Value} {o:Oper} (ho:o.op=.binOp op t x y t2) (hx:ρ x=v) (hy:ρ y=w) (hc:binC op v w=none) (hn:∀ d,nilT d v=none) (hpv:zav 3 v=true) (hpw:zav 3 w=true)
    (hr:zch P (do jt op t x y v w;binOp op t v w)=some r) (hp:zav 3 r=true):zld P Γ ρ o s t op v w=some (r,s):=by
  unfold zld;rw [hc];simp only;rw [z9g hn];simp only [zf9];unfold zm1
  have hops:(o.op.operands.toList.all fun z=>zav 3 (ρ z))=true:=by
    rw [ho];simp [eg,hx,hy,hpv,hpw]
  rw [hops]
  have he:execOp ρ o=((do jt op t x y v w;binOp op t v w) >>= fun z=>pure (Next.value z)):=by
    unfold execOp;rw [ho];simp only [hx,hy]
  rw [he]
  have hv:zch P ((do jt op t x y v w;binOp op t v w) >>= fun z=>pure (Next.value z))=some (.value r):=by
    rw [zaq,hr];rfl
  simp only [cond_true];rw [hv];show retC s (bif zav 3 r then some r else none)=some (r,s);rw [hp];rfl
def ydb:T->Option Value
  |.int k n=>some (.int k n)
  |.bool b=>some (.bool b)
  |.str b=>some (.string b)
  |_=>none
def zf8:List T->Option (List Value)
  |[]=>some []
  |t :: l=>match ydb t,zf8 l with|some v,some r=>some (v :: r)|_,_=>none
theorem z7h {g:Nat->Fam} {t:T} {v w:Value} (h:ydb t=some w) (hv:VT A β g t v):v=w/\∀ n,zav n v=true:=by
  unfold ydb at h;split at h
  . cases h;cases hv;exact ⟨rfl,fun n=>by cases n<;>rfl⟩
  . cases h;cases hv;exact ⟨rfl,fun n=>by cases n<;>rfl⟩
  . cases h;cases hv;exact ⟨rfl,fun n=>by cases n<;>rfl⟩
  . simp at h
theorem zp2 {g:Nat->Fam}:∀ {l:List T} {vs ws:List Value},zf8 l=some ws->VL A β g l vs->vs=ws/\vs.all (zav 2)=true
  |[],_,ws,h,.nil=>by simp only [zf8,dp] at h;subst h;exact ⟨rfl,rfl⟩
  |t :: l,_,ws,h,.cons h1 h2=>by
    unfold zf8 at h;split at h
    . rename_i v r e1 e2;cases h;obtain ⟨a,b⟩:=z7h e1 h1;obtain ⟨c,d⟩:=zp2 e2 h2;rw [a,c] at *;exact ⟨rfl,by rw [List.all_cons,b 2,d];rfl⟩
    . simp at h
def zzj (P:ep) (t:ed) (op:BinOp) (x y:d8) (a b:List T):Option T:=match zf8 a,zf8 b with
  |some va,some vb=>(match zch P (do jt op t x y (.agg ⟨va⟩) (.agg ⟨vb⟩);binOp op t (.agg ⟨va⟩) (.agg ⟨vb⟩)) with
    |some (.bool r)=>some (.bool r)
    |_=>none)
  |_,_=>none
theorem yes (d:je) (a:Array Value):nilT d (.agg a)=none:=by cases d<;>rfl
def tNil (S:TS):je->T->Option Bool
  |.pointer _,.nilp=>some true
  |.pointer _,.ptr b _ N=>bif S.has b N then some false else none
  |.pointer _,.cp _=>some false
  |.slice _,.nils=>some true
  |.slice _,.arr b _ _ _ _ N=>bif S.has b N && fb 0 N then some false else none
  |.slice _,.lst _ (_ :: _)=>some false
  |.slice _,.emp _=>some false
  |.map _ _,.nilm=>some true
  |.func _ _ _,.nilf=>some true
  |.func _ _ _,.fn _ _ _=>some false
  |_,_=>none
theorem ycl (h:TRel GL A β S s) {d:je} {t:T} {v:Value} {b:Bool} (hv:VT A β (zaa s.obj) t v) (ht:tNil S d t=some b):nilT d v=some b:=by
  unfold tNil at ht;split at ht
  . cases ht;cases hv;rfl
  . rename_i b' _ N
    cases hs:S.has b' N with
    |false=>rw [hs] at ht;simp at ht
    |true =>
      rw [hs] at ht;cases ht;obtain ⟨z,l,hS⟩:=pu hs;obtain ⟨f,u,rfl,hb⟩:=zjt h hS hv;rfl
  . cases ht;cases hv;rfl
  . cases ht;cases hv;rfl
  . rename_i b' _ _ _ _ N
    cases hs:(S.has b' N && fb 0 N) with
    |false=>rw [hs] at ht;simp at ht
    |true =>
      rw [hs] at ht;cases ht;simp only [dr] at hs;obtain ⟨z,l,hS⟩:=pu hs.1;have:=zac.1 hs.2;rcases zf1 h hS hv with ⟨f,u,rfl,hb,htag⟩|⟨rfl,hb,rfl,rfl,rfl,rfl⟩
      . rfl
      . omega
  . cases ht;cases hv;rfl
  . cases ht;cases hv;rfl
  . cases ht;cases hv;rfl
  . cases ht;cases hv;rfl
  . cases ht;cases hv;rfl
  . simp at ht
def tBin (P:ep) (Γ:Env) (S:TS) (t:ed) (op:BinOp) (x y:d8) (a b:T):Option T:=match a,b with
  |.int k m,.int k' n=>zcq op k k' m n
  |.str m,.str n=>zxe op m n
  |.bool m,.bool n=>(match Γ.ti.at t with
    |some i=>(match i.desc,op with|.bool,.eql=>some (.bool (m == n))|.bool,.neq=>some (.bool (!(m == n)))|_,_=>none)
    |none=>none)
  |.agg m,.agg n=>zzj P t op x y m n
  |a,b=>(match Γ.ti.at t with
    |some i=>(match tNil S i.desc a,tNil S i.desc b with
      |some p,some q=>bif p || q then (match op with|.eql=>some (.bool (p && q))|.neq=>some (.bool (!(p && q)))|_=>none) else none
      |_,_=>none)
    |none=>none)
theorem yad {op:BinOp} {v w:Value} {d:je} {p:Bool} (h:nilT d v=some p):binC op v w=none:=by
  unfold nilT at h;split at h<;>first | (simp at h;done)|rfl
theorem yna (hE:zcv P Γ) (h:TRel GL A β S s) {t t2:ed} {op:BinOp} {x y:d8} {o:Oper} {a b r:T} {ρ:d8->Value} (ho:o.op=.binOp op t x y t2) (hx:VT A β (zaa s.obj) a (ρ x)) (hy:VT A β (zaa s.obj) b (ρ y)) (ht:tBin P Γ S t op x y a b=some r):Ok0 GL A β S s (zld P Γ ρ o s t op (ρ x) (ρ y)) r:=by
  unfold tBin at ht;split at ht
  . rename_i k m k' n;obtain ⟨v,h1,h2⟩:=yff (A:=A) (β:=β) (s:=s) (P:=P) (Γ:=Γ) ht;generalize e1:ρ x=vx at hx;generalize e2:ρ y=vy at hy;cases hx;cases hy;rw [h2 ho e1 e2];exact im h h1
  . rename_i m n;obtain ⟨v,h1,h2⟩:=yct (A:=A) (β:=β) (s:=s) (P:=P) (Γ:=Γ) ht;generalize e1:ρ x=vx at hx;generalize e2:ρ y=vy at hy;cases hx;cases hy;rw [h2 ho e1 e2];exact im h h1
  . rename_i m n;generalize e1:ρ x=vx at hx;generalize e2:ρ y=vy at hy;cases hx;cases hy;split at ht
    . rename_i i hi;have hd:=(hE.ti _ _ hi).und;split at ht
      . rename_i hdb;cases ht;rw [hdb] at hd
        rw [zm5 ho e1 e2 rfl (fun d=>z2y d m) rfl rfl (by unfold jt;simp) (r:=.bool (m == n)) (by
          show zch P (do pure (Value.bool (<- Op.equal t (.bool m) (.bool n))):Sem Value)=_
          rw [zg9 (zmh hd)];rfl) rfl]
        exact im h (.bool _)
      . rename_i hdb;cases ht;rw [hdb] at hd
        rw [zm5 ho e1 e2 rfl (fun d=>z2y d m) rfl rfl (by unfold jt;simp) (r:=.bool (!(m == n))) (by
          show zch P (do pure (Value.bool (!(<- Op.equal t (.bool m) (.bool n)))):Sem Value)=_
          rw [zg9 (zmh hd)];rfl) rfl]
        exact im h (.bool _)
      . simp at ht
    . simp at ht
  . rename_i m n;generalize e1:ρ x=vx at hx;generalize e2:ρ y=vy at hy;cases hx;cases hy;rename_i va ha vb hb;unfold zzj at ht;split at ht
    . rename_i wa wb h1 h2;obtain ⟨rfl,k1⟩:=zp2 h1 ‹VL A β (zaa s.obj) m _›;obtain ⟨rfl,k2⟩:=zp2 h2 ‹VL A β (zaa s.obj) n _›;split at ht
      . rename_i r' hr;cases ht;rw [ya4 ho e1 e2 rfl (fun d=>yes d _) k1 k2 hr rfl];exact im h (.bool _)
      . simp at ht
    . simp at ht
  . split at ht
    . rename_i i hi;split at ht
      . rename_i p q h1 h2
        cases hpq:(p || q) with
        |false=>rw [hpq] at ht;simp at ht
        |true =>
          rw [hpq] at ht;simp only [cond_true] at ht;have n1:=ycl h hx h1;have n2:=ycl h hy h2;split at ht
          . cases ht
            have:zld P Γ ρ o s t .eql (ρ x) (ρ y)=some (.bool (p && q),s):=by
              unfold zld;rw [yad n1];simp only;unfold eqC;simp only [hi,n1,n2];unfold nilC;simp only [hpq,cond_true];simp [zf9]
            rw [this];exact im h (.bool _)
          . cases ht
            have:zld P Γ ρ o s t .neq (ρ x) (ρ y)=some (.bool (!(p && q)),s):=by
              unfold zld;rw [yad n1];simp only;unfold eqC;simp only [hi,n1,n2];unfold nilC;simp only [hpq,cond_true];simp [zf9]
            rw [this];exact im h (.bool _)
          . simp at ht
      . simp at ht
    . simp at ht
def tUn (op:UnOp):T->Option T
  |.bool b=>(match op with|.not=>some (.bool (!b))|_=>none)
  |.int k a=>(match op with
    |.neg=>some (.int k (k.wrap (0 - a)))
    |.xor=>some (.int k (k.wrap (ge k.bits (if k.signed then -1 else k.max) ^^^ ge k.bits a).toNat))
    |_=>none)
  |_=>none
theorem ypc (h:TRel GL A β S s) {t:ed} {op:UnOp} {x:d8} {o:Oper} {a r:T} {ρ:d8->Value} (ho:o.op=.unOp op t x) (hx:VT A β (zaa s.obj) a (ρ x)) (ht:tUn op a=some r):Ok0 GL A β S s (zf9 P ρ o s (unC op (ρ x))) r:=by
  obtain ⟨d,opx,ty,pos,e,g⟩:=o;simp only at ho;subst ho;unfold tUn at ht;split at ht
  . rename_i b;generalize e1:ρ x=vx at hx;cases hx;split at ht
    . cases ht;exact im h (.bool _)
    . simp at ht
  . rename_i k m;generalize e1:ρ x=vx at hx;cases hx;split at ht
    . cases ht;rw [ypr e1];exact im h (.int _ _)
    . cases ht;rw [ypq e1];exact im h (.int _ _)
    . simp at ht
  . simp at ht
def zwg:List T->Option (List UInt8)
  |[]=>some []
  |.int .u8 k :: l=>(match zwg l with|some r=>some (UInt8.ofNat k.toNat :: r)|none=>none)
  |_ :: _=>none
theorem z4z {g:Nat->Fam}:∀ {l:List T} {vs:List Value} {r:List UInt8},VL A β g l vs->zwg l=some r->z1f vs=some r
  |[],_,r,.nil,h=>by simp only [zwg,dp] at h;subst h;rfl
  |t :: l,_,r,.cons h1 h2,h=>by
    unfold zwg at h;split at h
    . simp_all
    . rename_i k l' hh;cases hh;split at h
      . rename_i r' hr;cases h;cases h1;unfold z1f;rw [z4z h2 hr]
      . simp at h
    . simp at h
def tStr (Γ:Env) (S:TS) (d1 d2:je) (x:T):Option T:=match d1,d2 with
  |.slice e,.string=>bif isU8 Γ e then (match tSrc S 1 x with
    |some (_,xs)=>(match zwg xs with|some r=>some (.str ⟨r.toArray⟩)|none=>none)
    |none=>none) else none
  |_,_=>none
theorem z49 (h:TRel GL A β S s) {src dst:ed} {x:d8} {o:Oper} {a r:T} {ρ:d8->Value} {i j:TI} (hi:Γ.ti.at src=some i) (hj:Γ.ti.at dst=some j) (hx:VT A β (zaa s.obj) a (ρ x)) (ht:tStr Γ S i.desc j.desc a=some r) (hsl:∀ n xs,tSrc S 1 a=some (n,xs)->∃ aa c m,ρ x=.slice aa m c):Ok0 GL A β S s (zdy P Γ ρ o s src dst (ρ x)) r:=by
  unfold tStr at ht;split at ht
  . rename_i e hd1 hd2
    cases hq:isU8 Γ e with
    |false=>rw [hq] at ht;simp at ht
    |true =>
      rw [hq] at ht;simp only [cond_true] at ht;split at ht
      . rename_i n xs hsrc;obtain ⟨e1,e2,e3⟩:=zzp h (show 0<1 by omega) hx hsrc;obtain ⟨ys,s1,f1,f2,f3⟩:=e3 n (dz _);rw [fk (by omega)] at f2;split at ht
        . rename_i r' hr';cases ht;obtain ⟨aa,c,m,hsl⟩:=hsl n xs hsrc;rw [hsl] at e1 f1 ⊢;simp only [lenC,dp] at e1;subst e1
          have:zdy P Γ ρ o s src dst (.slice aa m c)=some (.string ⟨r'.toArray⟩,s1):=by
            unfold zdy;simp only [hi,hj,hd1,hd2,hq,cond_true];rw [f1];unfold strC;simp only [z4z f2 hr']
          rw [this];exact Ok0.rd h (f3.rel0 h) (.str _)
        . simp at ht
      . simp at ht
  . simp at ht
def zr4 (Γ:Env) (S:TS) (src dst:ed) (x:T):Option T:=match Γ.ti.at src,Γ.ti.at dst with
  |some i,some j=>(match x with
    |.int _ n=>(match j.desc with|.int k=>some (.int k (k.wrap n))|_=>none)
    |.str b=>(match i.desc,j.desc with
      |.string,.slice e=>bif isU8 Γ e && fg b.size 1000000000 then some (.lst 1 (zho b)) else none
      |.string,.string=>some (.str b)
      |_,_=>none)
    |.lst e' l=>tStr Γ S i.desc j.desc (.lst e' l)
    |.arr b e' off len cap N=>tStr Γ S i.desc j.desc (.arr b e' off len cap N)
    |.nils=>tStr Γ S i.desc j.desc .nils
    |_=>none)
  |_,_=>none
theorem z9s {ρ:d8->Value} {o:Oper} {src dst e:ed} {i j:TI} {b:ByteArray} (hi:Γ.ti.at src=some i) (hj:Γ.ti.at dst=some j) (hd1:i.desc=.string) (hd2:j.desc=.slice e) (hq:(isU8 Γ e && fg b.size 1000000000)=true):zdy P Γ ρ o s src dst (.string b)=zhp b.size b.size (s.newRow 2 (zix b)):=by
  unfold zdy;simp only [hi,hj,hd1,hd2,hq,cond_true]
theorem z1v (hE:zcv P Γ) (h:TRel GL A β S s) {src dst:ed} {x:d8} {o:Oper} {a r:T} {ρ:d8->Value} (ho:o.op=.convert src dst x) (hx:VT A β (zaa s.obj) a (ρ x)) (ht:zr4 Γ S src dst a=some r):Ok0 GL A β S s (zdy P Γ ρ o s src dst (ρ x)) r:=by
  unfold zr4 at ht;split at ht
  . rename_i i j hi hj;split at ht
    . rename_i k n;generalize e1:ρ x=vx at hx;cases hx;split at ht
      . rename_i k' hd;cases ht;obtain ⟨d,opx,ty,pos,e,g⟩:=o;simp only at ho;subst ho;have hs:=(hE.ti _ _ hi).und;have hdd:=(hE.ti _ _ hj).und;rw [hd] at hdd;unfold zdy;simp only [hi,hj,hd];rw [ypt ⟨k,e1⟩ (by rw [hs];rfl) hdd];exact im h (.int _ _)
      . simp at ht
    . rename_i b;generalize e1:ρ x=vx at hx;cases hx;split at ht
      . rename_i e hd1 hd2
        cases hq:(isU8 Γ e && fg b.size 1000000000) with
        |false=>rw [hq] at ht;simp at ht
        |true =>
          rw [hq] at ht;cases ht;have hv:VL A β (zaa s.obj) (zho b) (zix b):=ztp _;obtain ⟨s',A',k1,k2,k3,k4,k5⟩:=h.newFrozen 2 (by omega) hv;rw [z9s hi hj hd1 hd2 hq,k1];refine ⟨_,s',A',rfl,k4,?_,k5⟩
          have hfm:(zho b).flatMap gd=zho b:=by
            unfold zho yjt;rw [List.flatMap_map]
            have:∀ l:List UInt8,List.flatMap (fun (a:UInt8)=>(T.int IntKind.u8 (a.toNat:Int)).cells) l=l.map fun a=>.int .u8 (a.toNat:Int):=by
              intro l
              induction l with
              |nil=>rfl
              |cons c l ih=>rw [ij,ih];rfl
            exact this _
          have hln:(zho b).length=b.size:=by simp [zho]
          have:=VT.lst (A:=A') (β:=β) (g:=zaa s'.obj) (e:=1) (off:=0) (cap:=b.size) (l:=zho b) k2 k3 (by rw [hfm];exact k5.stp.vl h hv) (fun t ht=>by
            obtain ⟨c,_,rfl⟩:=List.mem_map.1 ht
            rfl) (by omega) (by rw [fp,mz]) (.inr (by omega)) (by omega)
          rw [hln] at this;exact this
      . rename_i hd1 hd2;cases ht
        have:zdy P Γ ρ o s src dst (.string b)=some (.string b,s):=by
          unfold zdy;simp only [hi,hj,hd1,hd2]
        rw [this];exact im h (.str _)
      . simp at ht
    . refine z49 h hi hj hx ht fun n xs hs=>?_;generalize ρ x=vx at hx
      cases hx with
      |lnil=>exact ⟨_,_,_,rfl⟩
      |lst=>exact ⟨_,_,_,rfl⟩
    . rename_i b e' off len cap N;refine z49 h hi hj hx ht fun n xs hs=>?_;unfold tSrc at hs;simp only at hs;split at hs
      . rename_i z N' l hS
        cases hq:(d7 N N' && (d7 e' 1 && fg (off+len*1) N)) with
        |false=>rw [hq] at hs;simp at hs
        |true =>
          simp only [dr] at hq;have:=dx hq.1;subst this;rcases zf1 h hS hx with ⟨f,u,h1,hb,_⟩|⟨h1,_⟩
          . exact ⟨_,_,_,h1⟩
          . exact ⟨_,_,_,h1⟩
      . simp at hs
    . refine z49 h hi hj hx ht fun n xs hs=>?_;generalize ρ x=vx at hx;cases hx;exact ⟨_,_,_,rfl⟩
    . simp at ht
  . simp at ht
def zs9 (Γ:Env) (S:TS) (src dst:ed) (x:T):Option (T×TS):=match Γ.ti.at src,Γ.ti.at dst,x with
  |some i,some j,.str b=>(match i.desc,j.desc with
    |.string,.slice e=>bif isU8 Γ e && fg b.size 1000000000 then some (.arr S.n 1 0 b.size b.size (zho b).length,S.add (.cells false (zho b).length (zho b))) else none
    |_,_=>none)
  |_,_,_=>none
theorem z5d (h:TRel GL A β S s) {src dst:ed} {x:d8} {o:Oper} {a r:T} {ρ:d8->Value} (hx:VT A β (zaa s.obj) a (ρ x)) (ht:zs9 Γ S src dst a=some (r,S')):Ok GL A β s (zdy P Γ ρ o s src dst (ρ x)) r S':=by
  unfold zs9 at ht;split at ht
  . rename_i i j b hi hj;generalize e1:ρ x=vx at hx;cases hx;split at ht
    . rename_i e hd1 hd2
      cases hq:(isU8 Γ e && fg b.size 1000000000) with
      |false=>rw [hq] at ht;simp at ht
      |true =>
        rw [hq] at ht;cases ht;have hv:VL A β (zaa s.obj) (zho b) (zix b):=ztp _
        have hone:(zho b).all jn=true:=by
          unfold zho yjt;rw [ez];intro t ht;obtain ⟨c,_,rfl⟩:=List.mem_map.1 ht;rfl
        obtain ⟨s',β',k1,k2,k3,k4⟩:=h.newBox 2 (by omega) hv (hv.one hone);rw [z9s hi hj hd1 hd2 hq,k1];exact ⟨_,s',A,β',rfl,k3,.arr k2 (.inr (by omega)),k4⟩
    . simp at ht
  . simp at ht
end
def zjx (Γ:Env) (t:ed) (k:T):Bool:=match Γ.ti.at t with
  |some i=>(match i.desc,k with|.int a,.int b _=>d7 (ikN a) (ikN b)|.string,.str _=>true|.bool,.bool _=>true|_,_=>false)
  |none=>false
def zr3:T->T->Option Bool
  |.int k a,.int k' b=>bif d7 (ikN k) (ikN k') then some (a == b) else none
  |.str a,.str b=>some (a.data.toList == b.data.toList)
  |.bool a,.bool b=>some (a == b)
  |_,_=>none
def tGet (k:T):List (T×T)->Option (Option T)
  |[]=>some none
  |(k',v) :: l=>match zr3 k k' with
    |some true=>some (some v)
    |some false=>tGet k l
    |none=>none
def tSet (k v:T):List (T×T)->Option (List (T×T))
  |[]=>some [(k,v)]
  |(k',v') :: l=>match zr3 k k' with
    |some true=>some ((k,v) :: l)
    |some false=>(match tSet k v l with|some l=>some ((k',v') :: l)|none=>none)
    |none=>none
def zfk (i:TI):Option T:=bif aggT i.desc then (match zf6 i.zero with|some l=>some (.agg l)|none=>none) else match i.zero with | [z]=>zll z|_=>none
def zsm (ok:Bool) (z:T):Option T->T
  |some v=>bif ok then .tup [v,.bool true] else v
  |none=>bif ok then .tup [z,.bool false] else z
def zed (Γ:Env) (S:TS) (t:ed) (x k:T) (ok:Bool):Option T:=match Γ.ti.at t with
  |some i=>(match i.desc with
    |.map kt e=>bif zjx Γ kt k then (match Γ.ti.at e with
      |some j=>(match zfk j with
        |some z=>(match x with
          |.nilm=>some (zsm ok z none)
          |.mp b=>(match S.box b with|.map l=>(match tGet k l with|some r=>some (zsm ok z r)|none=>none)|_=>none)
          |_=>none)
        |none=>none)
      |none=>none) else none
    |_=>none)
  |none=>none
def za9 (Γ:Env) (S:TS) (t:ed) (k v m:T):Option TS:=match m,Γ.ti.at t with
  |.mp b,some i=>(match i.desc with
    |.map kt _=>bif zjx Γ kt k then (match S.box b with|.map l=>(match tSet k v l with|some l'=>some (S.set b (.map l'))|none=>none)|_=>none) else none
    |_=>none)
  |_,_=>none
def zc2 (S:TS):Option (T×TS):=some (.mp S.n,S.add (.map []))
section
variable {GL:List (Nat×List Value)} {A A':Nat->Prop} {β β':Bx} {S S':TS} {s s':CS} {P:ep} {Γ:Env} {g g':Nat->Fam}
theorem z58 {t:ed} {k:T} {v:Value} (h:VT A β g k v) (hk:zjx Γ t k=true):keyV Γ t v=true:=by
  unfold zjx at hk;unfold keyV;split at hk
  . rename_i i hi;rw [hi];simp only;split at hk
    . rename_i hd;cases h;rw [hd];exact hk
    . rename_i hd;cases h;rw [hd]
    . rename_i hd;cases h;rw [hd]
    . simp at hk
  . simp at hk
theorem ztd {k k':T} {v v':Value} {r:Bool} (h:VT A β g k v) (h':VT A β g k' v') (hq:zr3 k k'=some r):zvd v v'=some r:=by
  unfold zr3 at hq;split at hq
  . cases h;cases h';rename_i k a k' b;show sel (d7 (ikN k) (ikN k')) (some (a == b)) none=some r
    cases hb:d7 (ikN k) (ikN k') with
    |true=>rw [hb,cond_true] at hq;rw [za7];exact hq
    |false=>rw [hb] at hq;simp at hq
  . cases h;cases h';exact hq
  . cases h;cases h';exact hq
  . simp at hq
def VO2 (A:Nat->Prop) (β:Bx) (g:Nat->Fam):Option T->Option Value->Prop
  |none,none=>True
  |some t,some v=>VT A β g t v
  |_,_=>False
theorem VM.cons_inv {k x:T} {l:List (T×T)} {es:List (Value×Value)} (h:VM A β g ((k,x) :: l) es):∃ v w es',es=(v,w) :: es'/\VT A β g k v/\VT A β g x w/\VM A β g l es':=by
  obtain ⟨h1,h2⟩:=h
  cases es with
  |nil=>cases h1
  |cons e es =>
    obtain ⟨v,w⟩:=e;simp only [List.map_cons] at h1 h2
    cases h1 with
    |cons a b =>
      cases h2 with
      |cons c d=>exact ⟨v,w,es,rfl,a,c,b,d⟩
theorem VM.nil_inv {es:List (Value×Value)} (h:VM A β g [] es):es=[]:=by
  obtain ⟨h1,_⟩:=h
  cases es with
  |nil=>rfl
  |cons e es=>cases h1
theorem VM.mk {k x:T} {v w:Value} {l:List (T×T)} {es:List (Value×Value)} (a:VT A β g k v) (c:VT A β g x w) (h:VM A β g l es):VM A β g ((k,x) :: l) ((v,w) :: es):=⟨.cons a h.1,.cons c h.2⟩
theorem z27 {k:T} {v:Value} (hk:VT A β g k v):∀ {l:List (T×T)} {es:List (Value×Value)} {r:Option T},VM A β g l es->tGet k l=some r->∃ r',zos v es=some r'/\VO2 A β g r r'
  |[],es,r,h,hr=>by
    rw [VM.nil_inv h];simp only [tGet,dp] at hr;subst hr;exact ⟨none,rfl,trivial⟩
  |(k',x) :: l,es,r,h,hr=>by
    obtain ⟨v',w,es',rfl,h1,h2,h3⟩:=VM.cons_inv h;simp only [tGet] at hr;split at hr
    . rename_i hq;cases hr;refine ⟨some w,?_,h2⟩;simp only [zos,ztd hk h1 hq]
    . rename_i hq;obtain ⟨r',q1,q2⟩:=z27 hk h3 hr;exact ⟨r',by simp only [zos,ztd hk h1 hq,q1],q2⟩
    . simp at hr
theorem z26 {k x:T} {v w:Value} (hk:VT A β g k v) (hx:VT A β g x w):∀ {l l':List (T×T)} {es:List (Value×Value)},VM A β g l es->tSet k x l=some l'->∃ es',zmf v w es=some es'/\VM A β g l' es'
  |[],l',es,h,hr=>by
    rw [VM.nil_inv h];simp only [tSet,dp] at hr;subst hr;exact ⟨_,rfl,VM.mk hk hx ⟨.nil,.nil⟩⟩
  |(k',x') :: l,l',es,h,hr=>by
    obtain ⟨v',w',es',rfl,h1,h2,h3⟩:=VM.cons_inv h;simp only [tSet] at hr;split at hr
    . rename_i hq;cases hr;exact ⟨_,by simp only [zmf,ztd hk h1 hq],VM.mk hk hx h3⟩
    . rename_i hq;split at hr
      . rename_i l2 hs;cases hr;obtain ⟨es2,q1,q2⟩:=z26 hk hx h3 hs;exact ⟨_,by simp only [zmf,ztd hk h1 hq,q1],VM.mk h1 h2 q2⟩
      . simp at hr
    . simp at hr
theorem ztr {i:TI} {z:T} (h:zfk i=some z):∃ v,ztt i=some v/\VT A β g z v:=by
  unfold zfk at h;unfold ztt
  cases ha:aggT i.desc with
  |true =>
    rw [ha,cond_true] at h;split at h
    . rename_i l hl;cases h;exact ⟨_,rfl,.agg (by simpa using (zh8 (A:=A) (β:=β) (g:=g) hl).1)⟩
    . simp at h
  |false =>
    rw [ha,cond_false] at h;split at h
    . rename_i z' hz;rw [hz];exact ⟨z',rfl,(zzl h).1⟩
    . simp at h
theorem znb {ok:Bool} {z:T} {zv:Value} {r:Option T} {r':Option Value} (hz:VT A β g z zv) (h:VO2 A β g r r'):VT A β g (zsm ok z r) (zvw ok zv r'):=by
  cases r<;>cases r'<;>simp only [VO2] at h
  . cases ok with
    |true=>exact .tup (.cons hz (.cons (.bool _) .nil))
    |false=>exact hz
  . cases ok with
    |true=>exact .tup (.cons h (.cons (.bool _) .nil))
    |false=>exact h
theorem ya6 (hT:TRel GL A β S s) {b:Nat} {l:List (T×T)} {v:Value} (hb:S.box b=.map l) (h:VT A β (zaa s.obj) (.mp b) v):∃ r es,v=.map (some r)/\β b=some (.map r)/\zaa s.obj r=⟨false,[],some es,none⟩/\VM A β (zaa s.obj) l es:=by
  obtain ⟨r,es,q1,q2,q3⟩:=hT.maps b l hb
  cases h with
  |mp h=>rw [q1] at h;cases h;exact ⟨_,es,rfl,q1,q2,q3⟩
  |mpOld h _=>rw [q1] at h;simp at h
theorem yao (hT:TRel GL A β S s) {t:ed} {x k r:T} {vx vk:Value} {ok:Bool} (hx:VT A β (zaa s.obj) x vx) (hk:VT A β (zaa s.obj) k vk) (ht:zed Γ S t x k ok=some r):Ok0 GL A β S s (zgx Γ s t vx vk ok) r:=by
  unfold zed at ht;split at ht
  . rename_i i hi;split at ht
    . rename_i kt e hd
      cases hkv:zjx Γ kt k with
      |false=>rw [hkv] at ht;simp at ht
      |true =>
        rw [hkv,cond_true] at ht;split at ht
        . rename_i j hj;split at ht
          . rename_i z hz;obtain ⟨zv,z1,z2⟩:=ztr (A:=A) (β:=β) (g:=zaa s.obj) hz;split at ht
            . cases ht;cases hx
              have:zgx Γ s t (.map none) vk ok=some (zvw ok zv none,s):=by
                simp only [zgx,hi,hd,z58 hk hkv,za7,hj,z54,z1,zos]
              rw [this];exact im hT (znb z2 trivial)
            . rename_i b;split at ht
              . rename_i l hb;split at ht
                . rename_i r0 hg;cases ht;obtain ⟨rr,es,rfl,q1,q2,q3⟩:=ya6 hT hb hx;obtain ⟨r',g1,g2⟩:=z27 hk q3 hg
                  have:zgx Γ s t (.map (some rr)) vk ok=some (zvw ok zv r',{ s with rd:=ins s.lim s.rd rr }):=by
                    simp only [zgx,hi,hd,z58 hk hkv,za7,hj,pj,q2,z54,z1,g1]
                  rw [this];exact Ok0.read hT (.inr (zd2 q1)) (znb z2 g2)
                . simp at ht
              . simp at ht
            . simp at ht
          . simp at ht
        . simp at ht
    . simp at ht
  . simp at ht
theorem zpp (hT:TRel GL A β S s) {t:ed} {k x m:T} {vk vx vm:Value} (hk:VT A β (zaa s.obj) k vk) (hx:VT A β (zaa s.obj) x vx) (hm:VT A β (zaa s.obj) m vm) (ht:za9 Γ S t k x m=some S'):Ok GL A β s (zc6 Γ s t vk vx vm) .junk S':=by
  unfold za9 at ht;split at ht
  . rename_i b i hi;split at ht
    . rename_i kt e hd
      cases hkv:zjx Γ kt k with
      |false=>rw [hkv] at ht;simp at ht
      |true =>
        rw [hkv,cond_true] at ht;split at ht
        . rename_i l hb;split at ht
          . rename_i l' hs;cases ht;obtain ⟨r,es,rfl,q1,q2,q3⟩:=ya6 hT hb hm;obtain ⟨es',g1,g2⟩:=z26 hk hx q3 hs;obtain ⟨gg,hin⟩:=hT.inr;have hobj:∀ f,zaa s.obj f=gg f:=fun f=>by rw [hin];rfl
            have hdis:=hT.dis r (zd2 q1)
            have hw:zc6 Γ s t vk vx (.map (some r))=some (undef,{ s with obj:=.inr (fupd gg r ⟨false,[],some es',none⟩),rd:=ins s.lim s.rd r,wr:=ins s.lim s.wr r }):=by
              have e1:zal s.obj r ⟨false,[],some es',none⟩=.inr (fupd gg r ⟨false,[],some es',none⟩):=by rw [hin,zff]
              simp only [zc6,hi,hd,z58 hk hkv,za7,CS.setMap,pj,q2,zla,g1,e1,zl5]
            have hcan:=zu4 hT.inv hw;have hold:∀ f,f≠r->fupd gg r ⟨false,[],some es',none⟩ f=zaa s.obj f:=fun f hf=>by rw [hobj];exact zh1 _ _ _ _ hf
            have hA:∀ f,A f->fupd gg r ⟨false,[],some es',none⟩ f=zaa s.obj f:=fun f hf=>hold f fun h=>hdis.2 (h ▸ hf)
            have hoth:∀ {b':Nat} {l:Loc} {f:Nat},β b'=some l->l.fam=some f->b'≠b->fupd gg r ⟨false,[],some es',none⟩ f=zaa s.obj f:=by
              intro b' l f hb2 hf hne;refine hold f fun hh=>hne ?_;subst hh;exact hT.inj b' b l _ f hb2 q1 hf rfl
            rw [hw];refine ⟨_,_,A,β,rfl,⟨⟨_,rfl⟩,hT.inv.next hcan,fun f hf=>hT.alt f hf,fun f hf=>hT.dis f hf,hT.inj,hT.next,fun b' z N l2 hb2=>?_,fun b' l2 hb2=>?_,fun y hy=>?_⟩,.junk _,hcan,fun _ h=>h,fun _ h=>.inl h,fun _ h=>.inl h,fun f hf hno=>?_,ip _,fun y hy=>?_,fun y hy=>?_⟩
            . by_cases hbb:b'=b
              . subst hbb;rw [g0] at hb2;cases hb2
              . rw [gl _ _ hbb] at hb2;exact (hT.cells b' z N l2 hb2).mono (fun _ h=>h) hA (ip _) rfl fun f u N2 hl=>hoth hl rfl hbb
            . by_cases hbb:b'=b
              . subst hbb;rw [g0] at hb2;cases hb2;exact ⟨r,es',q1,ze7 _ _ _,g2.1.mono (fun _ h=>h) hA (ip _),g2.2.mono (fun _ h=>h) hA (ip _)⟩
              . rw [gl _ _ hbb] at hb2;exact (hT.maps b' l2 hb2).mono (fun _ h=>h) hA (ip _) rfl fun r' hl=>hoth hl rfl hbb
            . have:=hT.glob y hy;refine ⟨this.1,?_⟩;show zbu (fupd gg r _ y.1).rows _=_;rw [hA _ this.1];exact this.2
            . show fupd gg r _ f=_;exact hold f fun hh=>hno (hh ▸ zd2 q1)
            . rcases zjw hy with q|⟨rfl,q⟩
              . exact .inl q
              . exact .inr ⟨q,.inr (zd2 q1)⟩
            . rcases zjw hy with q|⟨rfl,q⟩
              . exact .inl q
              . exact .inr ⟨q,zd2 q1⟩
          . simp at ht
        . simp at ht
    . simp at ht
  . simp at ht
theorem z5a (h:TRel GL A β S s) {r:T} (ht:zc2 S=some (r,S')):Ok GL A β s (mapC s) r S':=by
  simp only [zc2,dp,du] at ht;obtain ⟨rfl,rfl⟩:=ht;obtain ⟨q1,q2,q3,q4⟩:=h.fresh ⟨false,[],some [],none⟩ rfl (fun p hp=>by simp at hp);have hb0:β S.n=none:=h.next _ (dz _)
  have hle:qc β (bnew β S.n (.map s.n)):=zwc hb0;have hat:∀ b,b≠S.n->bnew β S.n (.map s.n) b=β b:=fun b hb=>zAd hb;have hat2:bnew β S.n (.map s.n) S.n=some (.map s.n):=zAc rfl;have hold:∀ f,f<s.n->zaa (zal s.obj s.n ⟨false,[],some [],none⟩) f=zaa s.obj f:=fun f hf=>q3 f (by omega)
  have hkey:∀ b x,β b=some x->x.fam=some s.n->False:=fun b x hb hx=>by
    have:Own β s.n:=by
      cases x with
      |live f u N=>simp [i4] at hx;subst hx;exact zci hb
      |map r=>simp [i4] at hx;subst hx;exact zd2 hb
      |nil=>simp [i4] at hx
      |dead=>simp [i4] at hx
    have:=(h.dis _ this).1;omega
  have hm:mapC s=some (.map (some s.n),{ s with n:=s.n+1,obj:=zal s.obj s.n ⟨false,[],some [],none⟩ }):=by
    unfold mapC;have:zif s.obj s.n=true:=by obtain ⟨g,hg⟩:=h.inr;rw [hg];rfl
    rw [this,za7]
  rw [hm];refine ⟨_,_,A,bnew β S.n (.map s.n),rfl,⟨q1.inr,q1.inv,q1.alt,fun f hf=>?_,fun b b' x x' f hb hb' hx hx'=>?_,fun b hb=>?_,fun b z N x hb=>?_,fun b x hb=>?_,q1.glob⟩,.mp hat2,q2,fun _ h=>h,fun _ h=>.inl h,fun f hf=>?_,fun f hf _=>q3 f (by omega),hle,fun _ h=>.inl h,fun _ h=>.inl h⟩
  . obtain ⟨b,hb⟩:=hf;by_cases hbn:b=S.n
    . subst hbn;rw [hat2] at hb;rcases hb with ⟨u,N,hb⟩|hb
      . simp at hb
      . cases hb;exact ⟨by show s.n<s.n+1;omega,fun hA=>by have:=h.alt _ hA;omega⟩
    . rw [hat b hbn] at hb;exact q1.dis f ⟨b,hb⟩
  . by_cases e1:b=S.n<;>by_cases e2:b'=S.n
    . rw [e1,e2]
    . subst e1;rw [hat2] at hb;rw [hat b' e2] at hb';cases hb;simp [i4] at hx;subst hx;exact (hkey b' x' hb' hx').elim
    . subst e2;rw [hat2] at hb';rw [hat b e1] at hb;cases hb';simp [i4] at hx';subst hx';exact (hkey b x hb hx).elim
    . rw [hat b e1] at hb;rw [hat b' e2] at hb';exact h.inj b b' x x' f hb hb' hx hx'
  . have:S.n+1<=b:=hb;rw [hat b (by omega)];exact h.next b (by omega)
  . by_cases hbn:b=S.n
    . subst hbn;rw [l8] at hb;cases hb
    . rw [ld _ _ hbn] at hb;exact (h.cells b z N x hb).mono (fun _ h=>h) (fun f hf=>hold f (h.alt f hf)) hle (hat b hbn) fun f u N hl=>hold f (h.dis f (zci hl)).1
  . by_cases hbn:b=S.n
    . subst hbn;rw [l8] at hb;cases hb;exact ⟨s.n,[],hat2,q4,.nil,.nil⟩
    . rw [ld _ _ hbn] at hb;exact (h.maps b x hb).mono (fun _ h=>h) (fun f hf=>hold f (h.alt f hf)) hle (hat b hbn) fun r hl=>hold r (h.dis r (zd2 hl)).1
  . obtain ⟨b,hb⟩:=hf;by_cases hbn:b=S.n
    . subst hbn;rw [hat2] at hb;rcases hb with ⟨u,N,hb⟩|hb
      . simp at hb
      . cases hb;exact .inr (dz _)
    . rw [hat b hbn] at hb;exact .inl ⟨b,hb⟩
end
def zot:T->Option Value
  |.agg l=>(match zf8 l with|some vs=>some (.agg ⟨vs⟩)|none=>none)
  |t=>ydb t
def zo2 (eq:Value->Option Bool):List (T×T)->Nat->Option (Option (Nat×T))
  |[],_=>some none
  |(k',x) :: l,i=>match zot k' with
    |some v=>(match eq v with
      |some true=>some (some (i,x))
      |some false=>zo2 eq l (i+1)
      |none=>none)
    |none=>none
def zh5 (P:ep) (Γ:Env) (S:TS) (t:ed) (x k:T) (ok:Bool):Option T:=match zqf Γ t,zot k with
  |some (kt,e),some kv=>(match sel (zsv Γ kt) (eqK P Γ kt kv) none,Γ.ti.at e with
    |some eq,some j=>(match zfk j with
      |some z=>(match x with
        |.nilm=>some (zsm ok z none)
        |.mp b=>(match S.box b with|.map l=>(match zo2 eq l 0 with|some r=>some (zsm ok z (r.map (·.2)))|none=>none)|_=>none)
        |_=>none)
      |none=>none)
    |_,_=>none)
  |_,_=>none
def yck (l:List (T×T)) (k x:T):Option (Nat×T)->List (T×T)
  |some (j,_)=>l.set j (k,x)
  |none=>l++[(k,x)]
def zht (P:ep) (Γ:Env) (S:TS) (t:ed) (k x m:T):Option TS:=match m,zqf Γ t,zot k with
  |.mp b,some (kt,_),some kv=>(match sel (zsv Γ kt) (eqK P Γ kt kv) none,S.box b with
    |some eq,.map l=>(match zo2 eq l 0 with|some f=>some (S.set b (.map (yck l k x f)))|none=>none)
    |_,_=>none)
  |_,_,_=>none
def tEnt (l:List (T×T)) (z:T):Option (Nat×T)->T
  |some (j,x)=>.tup [x,.int .i64 (.ofNat j)]
  |none=>.tup [z,.int .i64 (.ofNat l.length)]
def yj9 (z:T):Option (Nat×T)->T
  |some (_,x)=>x
  |none=>z
def zh9 (P:ep) (Γ:Env) (S:TS) (t:ed) (k m:T):Option (T×TS):=match m,zqf Γ t,zot k with
  |.mp b,some (kt,e),some kv=>(match eqK P Γ kt kv,Γ.ti.at e,S.box b with
    |some eq,some j,.map l=>(match zo2 eq l 0,zfk j with
      |some f,some z=>some (tEnt l z f,S.set b (.map (yck l k (yj9 z f) f)))
      |_,_=>none)
    |_,_,_=>none)
  |_,_,_=>none
def zfm (S:TS) (st x m:T):Option TS:=match m,st with
  |.mp b,.int _ (.ofNat j)=>(match S.box b with
    |.map l=>(match l[j]? with|some (k,_)=>some (S.set b (.map (l.set j (k,x))))|none=>none)
    |_=>none)
  |_,_=>none
section
variable {GL:List (Nat×List Value)} {A A':Nat->Prop} {β β':Bx} {S S':TS} {s s':CS} {P:ep} {Γ:Env} {g g':Nat->Fam}
theorem zqe {t:T} {v w:Value} (h:zot t=some w) (hv:VT A β g t v):v=w:=by
  unfold zot at h;split at h
  . split at h
    . rename_i vs hvs;cases h
      cases hv with
      |agg hl=>rw [(zp2 hvs hl).1]
    . simp at h
  . exact (z7h h hv).1
theorem VM.get {l:List (T×T)} {es:List (Value×Value)} (h:VM A β g l es):∀ {j:Nat} {k x:T},l[j]?=some (k,x)->∃ v w,es[j]?=some (v,w)/\VT A β g k v/\VT A β g x w:=by
  induction l generalizing es with
  |nil=>intro j k x hj;simp at hj
  |cons p l ih =>
    obtain ⟨k0,x0⟩:=p;obtain ⟨v,w,es',rfl,h1,h2,h3⟩:=VM.cons_inv h;intro j k x hj
    cases j with
    |zero=>simp at hj;obtain ⟨rfl,rfl⟩:=hj;exact ⟨v,w,rfl,h1,h2⟩
    |succ j=>obtain ⟨v',w',q1,q2⟩:=ih h3 (by simpa using hj);exact ⟨v',w',by simpa using q1,q2⟩
theorem VM.set {k x:T} {v w:Value} (hk:VT A β g k v) (hx:VT A β g x w):∀ {l:List (T×T)} {es:List (Value×Value)} (j:Nat),VM A β g l es->VM A β g (l.set j (k,x)) (es.set j (v,w))
  |[],es,j,h=>by rw [VM.nil_inv h];simpa using ⟨.nil,.nil⟩
  |(k0,x0) :: l,es,j,h=>by
    obtain ⟨v0,w0,es',rfl,h1,h2,h3⟩:=VM.cons_inv h
    cases j with
    |zero=>exact VM.mk hk hx h3
    |succ j=>exact VM.mk h1 h2 (VM.set hk hx j h3)
theorem VM.snoc {k x:T} {v w:Value} (hk:VT A β g k v) (hx:VT A β g x w):∀ {l:List (T×T)} {es:List (Value×Value)},VM A β g l es->VM A β g (l++[(k,x)]) (es++[(v,w)])
  |[],es,h=>by rw [VM.nil_inv h];exact VM.mk hk hx ⟨.nil,.nil⟩
  |(k0,x0) :: l,es,h=>by
    obtain ⟨v0,w0,es',rfl,h1,h2,h3⟩:=VM.cons_inv h;exact VM.mk h1 h2 (VM.snoc hk hx h3)
theorem VM.len {l:List (T×T)} {es:List (Value×Value)} (h:VM A β g l es):l.length=es.length:=by
  have:=h.1.len;simpa using this
theorem VM.mono {l:List (T×T)} {es:List (Value×Value)} (hA:∀ f,A f->A' f) (hg:∀ f,A f->g' f=g f) (hβ:qc β β') (h:VM A β g l es):VM A' β' g' l es:=⟨h.1.mono hA hg hβ,h.2.mono hA hg hβ⟩
theorem zs8 {eq:Value->Option Bool}:∀ {l:List (T×T)} {es:List (Value×Value)} {r:Option (Nat×T)} (i:Nat),VM A β g l es->zo2 eq l i=some r ->
    match r with
    |none=>zd3 eq es i=some none
    |some (j,x)=>∃ w,zd3 eq es i=some (some (j,w))/\VT A β g x w
  |[],es,r,i,h,hr=>by
    rw [VM.nil_inv h];simp only [zo2,dp] at hr;subst hr;rfl
  |(k',x) :: l,es,r,i,h,hr=>by
    obtain ⟨v',w,es',rfl,h1,h2,h3⟩:=VM.cons_inv h;simp only [zo2] at hr;split at hr
    . rename_i v hv;have:=zqe hv h1;subst this;split at hr
      . rename_i hq;cases hr;exact ⟨w,by simp only [zd3,hq],h2⟩
      . rename_i hq;have:=zs8 (i+1) h3 hr
        cases r with
        |none=>simp only [zd3,hq];exact this
        |some p=>obtain ⟨j,x0⟩:=p;obtain ⟨w0,q1,q2⟩:=this;exact ⟨w0,by simp only [zd3,hq];exact q1,q2⟩
      . simp at hr
    . simp at hr
theorem zvb {t:ed} {k:Value} (h:zsv Γ t=true):keyV Γ t k=false:=by
  unfold zsv at h;unfold keyV
  cases hi:Γ.ti.at t with
  |none=>rfl
  |some i =>
    rw [hi] at h;simp only at h ⊢;unfold aggT at h;split at h<;>first | (simp at h;done) | (rename_i hd;rw [hd])
theorem z7g {b:Bool} {α:Type} {x:Option α} {y:α} (h:sel b x none=some y):b=true/\x=some y:=by
  cases b with
  |true=>exact ⟨rfl,h⟩
  |false=>rw [zla] at h;simp at h
theorem z3d {t kt e:ed} (h:zqf Γ t=some (kt,e)):∃ i,Γ.ti.at t=some i/\i.desc=.map kt e:=by
  unfold zqf at h
  cases hi:Γ.ti.at t with
  |none=>rw [hi] at h;simp at h
  |some i =>
    rw [hi] at h;simp only at h;split at h
    . rename_i hd;simp only [dp,du] at h;obtain ⟨rfl,rfl⟩:=h;exact ⟨i,rfl,hd⟩
    . simp at h
theorem z5z {t kt e:ed} {vx vk:Value} {ok:Bool} (h:zqf Γ t=some (kt,e)) (hw:zsv Γ kt=true):zgx Γ s t vx vk ok=none:=by
  obtain ⟨i,hi,hd⟩:=z3d h;unfold zgx;split
  . rw [hi];simp only;rw [hd];simp only;rw [zvb hw,zla]
  . rfl
theorem ya7 {t kt e:ed} {vx vk vm:Value} (h:zqf Γ t=some (kt,e)) (hw:zsv Γ kt=true):zc6 Γ s t vk vx vm=none:=by
  obtain ⟨i,hi,hd⟩:=z3d h;unfold zc6;split
  . rw [hi];simp only;rw [hd];simp only;rw [zvb hw,zla]
  . rfl
theorem z5b (hT:TRel GL A β S s) {t:ed} {x k r:T} {vx vk:Value} {ok:Bool} (hx:VT A β (zaa s.obj) x vx) (hk:VT A β (zaa s.obj) k vk) (ht:zh5 P Γ S t x k ok=some r):Ok0 GL A β S s (orW (zgx Γ s t vx vk ok) (zft P Γ s t vx vk ok)) r:=by
  unfold zh5 at ht;split at ht
  . rename_i kt e kv hts hkv;have:=zqe hkv hk;subst this;split at ht
    . rename_i eq j heq hj;obtain ⟨hwd,heq⟩:=z7g heq;rw [z5z hts hwd];show Ok0 GL A β S s (zft P Γ s t vx vk ok) r;split at ht
      . rename_i z hz;obtain ⟨zv,z1,z2⟩:=ztr (A:=A) (β:=β) (g:=zaa s.obj) hz;split at ht
        . cases ht;cases hx
          have:zft P Γ s t (.map none) vk ok=some (zvw ok zv none,s):=by
            simp only [zft,hts,heq,hj,CS.readMapO,z52,z1,zd3,Option.map_none]
          rw [this];exact im hT (znb z2 (r:=none) (r':=none) trivial)
        . rename_i b;split at ht
          . rename_i l hb;split at ht
            . rename_i f hf;cases ht;obtain ⟨rr,es,rfl,q1,q2,q3⟩:=ya6 hT hb hx;have hq:=zs8 0 q3 hf
              have main:∀ (f':Option (Nat×Value)),zd3 eq es 0=some f'->zft P Γ s t (.map (some rr)) vk ok=some (zvw ok zv (f'.map (·.2)),{ s with rd:=ins s.lim s.rd rr }):=fun f' hf'=>by
                simp only [zft,hts,heq,hj,CS.readMapO,pj,q2,z52,z1,hf']
              cases f with
              |none =>
                rw [main none hq];exact Ok0.read hT (.inr (zd2 q1)) (znb z2 (r:=none) (r':=none) trivial)
              |some p =>
                obtain ⟨jj,x0⟩:=p;obtain ⟨w0,g1,g2⟩:=hq;rw [main _ g1];exact Ok0.read hT (.inr (zd2 q1)) (znb z2 (r:=some x0) (r':=some w0) g2)
            . simp at ht
          . simp at ht
        . simp at ht
      . simp at ht
    . simp at ht
  . simp at ht
theorem zuv (hT:TRel GL A β S s) {b r:Nat} {l l':List (T×T)} {es es':List (Value×Value)} (hb:S.box b=.map l) (q1:β b=some (.map r)) (q2:zaa s.obj r=⟨false,[],some es,none⟩) (g2:VM A β (zaa s.obj) l' es') :
    ∃ s1 s2,s.readMap r=some (es,s1)/\s1.putEs r es'=some s2/\TRel GL A β (S.set b (.map l')) s2/\Stp A β s A β s2/\(∀ f,A f->zaa s2.obj f=zaa s.obj f):=by
  obtain ⟨gg,hin⟩:=hT.inr;have hobj:∀ f,zaa s.obj f=gg f:=fun f=>by rw [hin];rfl
  have hdis:=hT.dis r (zd2 q1);have e1:zal s.obj r ⟨false,[],some es',none⟩=.inr (fupd gg r ⟨false,[],some es',none⟩):=by rw [hin,zff]
  have hro:(zaa s.obj r).ro=false:=by rw [q2]
  have w1:s.readMap r=some (es,{ s with rd:=ins s.lim s.rd r }):=by simp only [pj,q2]
  have w2:CS.putEs { s with rd:=ins s.lim s.rd r } r es'=some { s with obj:=.inr (fupd gg r ⟨false,[],some es',none⟩),rd:=ins s.lim s.rd r,wr:=ins s.lim s.wr r }:=by
    unfold CS.putEs;simp only [hro,zla,e1]
  refine ⟨_,_,w1,w2,?_⟩;have hcan:=(zdm w1).trans (zp6 (hT.inv.next (zdm w1)) w2);have hold:∀ f,f≠r->fupd gg r ⟨false,[],some es',none⟩ f=zaa s.obj f:=fun f hf=>by rw [hobj];exact zh1 _ _ _ _ hf
  have hA:∀ f,A f->fupd gg r ⟨false,[],some es',none⟩ f=zaa s.obj f:=fun f hf=>hold f fun h=>hdis.2 (h ▸ hf)
  have hoth:∀ {b':Nat} {l:Loc} {f:Nat},β b'=some l->l.fam=some f->b'≠b->fupd gg r ⟨false,[],some es',none⟩ f=zaa s.obj f:=by
    intro b' l f hb2 hf hne;refine hold f fun hh=>hne ?_;subst hh;exact hT.inj b' b l _ f hb2 q1 hf rfl
  refine ⟨⟨⟨_,rfl⟩,hT.inv.next hcan,fun f hf=>hT.alt f hf,fun f hf=>hT.dis f hf,hT.inj,hT.next,fun b' z N l2 hb2=>?_,fun b' l2 hb2=>?_,fun y hy=>?_⟩,⟨hcan,fun _ h=>h,fun _ h=>.inl h,fun _ h=>.inl h,fun f hf hno=>?_,ip _,fun y hy=>?_,fun y hy=>?_⟩,hA⟩
  . by_cases hbb:b'=b
    . subst hbb;rw [g0] at hb2;cases hb2
    . rw [gl _ _ hbb] at hb2;exact (hT.cells b' z N l2 hb2).mono (fun _ h=>h) hA (ip _) rfl fun f u N2 hl=>hoth hl rfl hbb
  . by_cases hbb:b'=b
    . subst hbb;rw [g0] at hb2;cases hb2;exact ⟨r,es',q1,ze7 _ _ _,g2.1.mono (fun _ h=>h) hA (ip _),g2.2.mono (fun _ h=>h) hA (ip _)⟩
    . rw [gl _ _ hbb] at hb2;exact (hT.maps b' l2 hb2).mono (fun _ h=>h) hA (ip _) rfl fun r' hl=>hoth hl rfl hbb
  . have:=hT.glob y hy;refine ⟨this.1,?_⟩;show zbu (fupd gg r _ y.1).rows _=_;rw [hA _ this.1];exact this.2
  . show fupd gg r _ f=_;exact hold f fun hh=>hno (hh ▸ zd2 q1)
  . rcases zjw hy with q|⟨rfl,q⟩
    . exact .inl q
    . exact .inr ⟨q,.inr (zd2 q1)⟩
  . rcases zjw hy with q|⟨rfl,q⟩
    . exact .inl q
    . exact .inr ⟨q,zd2 q1⟩
theorem zok (hT:TRel GL A β S s) {t:ed} {k x m:T} {vk vx vm:Value} (hk:VT A β (zaa s.obj) k vk) (hx:VT A β (zaa s.obj) x vx) (hm:VT A β (zaa s.obj) m vm) (ht:zht P Γ S t k x m=some S'):Ok GL A β s (orW (zc6 Γ s t vk vx vm) (zdl P Γ s t vk vx vm)) .junk S':=by
  unfold zht at ht;split at ht
  . rename_i b kt e kv hts hkv;have:=zqe hkv hk;subst this;split at ht
    . rename_i eq l heq hb;obtain ⟨hwd,heq⟩:=z7g heq;rw [ya7 hts hwd];show Ok GL A β s (zdl P Γ s t vk vx vm) .junk S';split at ht
      . rename_i f hf;cases ht;obtain ⟨r,es,rfl,q1,q2,q3⟩:=ya6 hT hb hm;have hq:=zs8 0 q3 hf
        have main:∀ (f':Option (Nat×Value)) (l':List (T×T)),zd3 eq es 0=some f'->VM A β (zaa s.obj) l' (ya2 es vk vx f')->Ok GL A β s (zdl P Γ s t vk vx (.map (some r))) .junk (S.set b (.map l')):=fun f' l' hf' hvm=>by
          obtain ⟨s1,s2,w1,w2,w3,w4,_⟩:=zuv hT hb q1 q2 hvm;exact ⟨undef,s2,A,β,by simp only [zdl,hts,heq,w1,hf',w2,zl5],w3,.junk _,w4⟩
        cases f with
        |none=>exact main none _ hq (VM.snoc hk hx q3)
        |some p=>obtain ⟨j,x0⟩:=p;obtain ⟨w0,g1,g2⟩:=hq;exact main _ _ g1 (VM.set hk hx j q3)
      . simp at ht
    . simp at ht
  . simp at ht
theorem z1t (hT:TRel GL A β S s) {t:ed} {k m r:T} {vk vm:Value} (hk:VT A β (zaa s.obj) k vk) (hm:VT A β (zaa s.obj) m vm) (ht:zh9 P Γ S t k m=some (r,S')):Ok GL A β s (zg8 P Γ s t vk vm) r S':=by
  unfold zh9 at ht;split at ht
  . rename_i b kt e kv hts hkv;have:=zqe hkv hk;subst this;split at ht
    . rename_i eq j l heq hj hb;split at ht
      . rename_i f z hf hz;simp only [dp,du] at ht;obtain ⟨rfl,rfl⟩:=ht;obtain ⟨zv,z1,z2⟩:=ztr (A:=A) (β:=β) (g:=zaa s.obj) hz;obtain ⟨r,es,rfl,q1,q2,q3⟩:=ya6 hT hb hm;have hq:=zs8 0 q3 hf
        have main:∀ (f':Option (Nat×Value)) (l':List (T×T)) (rt:T),zd3 eq es 0=some f'->VM A β (zaa s.obj) l' (ya2 es vk (ym3 zv f') f')->VT A β (zaa s.obj) rt (entC es zv f')->Ok GL A β s (zg8 P Γ s t vk (.map (some r))) rt (S.set b (.map l')):=fun f' l' rt hf' hvm hrt=>by
          obtain ⟨s1,s2,w1,w2,w3,w4,w5⟩:=zuv hT hb q1 q2 hvm;exact ⟨_,s2,A,β,by simp only [zg8,hts,heq,hj,w1,hf',z1,w2,ya3],w3,hrt.mono (fun _ h=>h) w5 (ip _),w4⟩
        cases f with
        |none =>
          refine main none _ _ hq (VM.snoc hk z2 q3) ?_;rw [tEnt,entC,q3.len];exact .tup (.cons z2 (.cons (.int _ _) .nil))
        |some p =>
          obtain ⟨jj,x0⟩:=p;obtain ⟨w0,g1,g2⟩:=hq;exact main _ _ _ g1 (VM.set hk g2 jj q3) (.tup (.cons g2 (.cons (.int _ _) .nil)))
      . simp at ht
    . simp at ht
  . simp at ht
theorem zwm (hT:TRel GL A β S s) {st x m:T} {vs vx vm:Value} (hs:VT A β (zaa s.obj) st vs) (hx:VT A β (zaa s.obj) x vx) (hm:VT A β (zaa s.obj) m vm) (ht:zfm S st x m=some S'):Ok GL A β s (zfu s vs vx vm) .junk S':=by
  unfold zfm at ht;split at ht
  . rename_i b ik j;split at ht
    . rename_i l hb;split at ht
      . rename_i k x0 hl;cases ht;cases hs;obtain ⟨r,es,rfl,q1,q2,q3⟩:=ya6 hT hb hm;obtain ⟨v0,w0,g1,g2,g3⟩:=VM.get q3 hl;obtain ⟨s1,s2,w1,w2,w3,w4,_⟩:=zuv hT hb q1 q2 (VM.set g2 hx j q3);exact ⟨undef,s2,A,β,by simp only [zfu,zgs,w1,g1,w2,zl5],w3,.junk _,w4⟩
      . simp at ht
    . simp at ht
  . simp at ht
end
def znf (v:Value):T:=match zll v with
  |some t=>t
  |none=>match v with
    |.agg cs=>(match zf6 cs.toList with|some l=>.agg l|none=>.junk)
    |_=>.junk
def yft:List (Nat×List Value)->Nat->T
  |[],_=>.junk
  |x :: l,k=>bif d7 x.1 k then (match zf6 x.2 with|some c=>.cp c|none=>.junk) else yft l k
def zd4 (GL:List (Nat×List Value)) (h:Nat->T):d8->T
  |.tmp t=>h t
  |.const v=>znf v
  |.global k=>yft GL k
  |.func f=>.fn f [] []
def tupd (h:Nat->T) (t:Nat) (v:T):Nat->T:=fun u=>if u=t then v else h u
theorem zjn (h:Nat->T) (t:Nat) (v:T):tupd h t v t=v:=zAc rfl
theorem zo1 (h:Nat->T) (t u:Nat) (v:T) (hn:u≠t):tupd h t v u=h u:=zAd hn
def putT (h:Nat->T):Option Tmp->T->Nat->T
  |some d,v=>tupd h d v
  |none,_=>h
def zgl (S:TS):Option T->Option (T×TS)
  |some t=>some (t,S)
  |none=>none
def ztv:Option TS->Option (T×TS)
  |some S=>some (.junk,S)
  |none=>none
def ownD (own:List Nat) (d:Option Tmp):Bool:=match d with|some d=>has own d|none=>false
def zmq (Γ:Env) (S:TS) (ρ:d8->T) (b:Builtin) (args:List d8) (ts:List ed):Option T:=match b with
  |.len=>(match args,ts with | [x],[t]=>tLen Γ S t (ρ x)|_,_=>none)
  |.min=>(match args with | [x,y]=>(match ρ x,ρ y with|.int k a,.int _ b=>some (.int k (min a b))|_,_=>none)|_=>none)
  |.max=>(match args with | [x,y]=>(match ρ x,ρ y with|.int k a,.int _ b=>some (.int k (max a b))|_,_=>none)|_=>none)
  |_=>none
def zfg (P:ep) (Γ:Env) (ρ:d8->T) (o:Oper) (S:TS):Option T :=
  match o.op with
  |.move x=>some (ρ x)
  |.assign x=>some (ρ x)
  |.pick c a b=>(match ρ c with|.bool t=>some (bif t then ρ a else ρ b)|_=>none)
  |.build t parts=>zku Γ ρ t parts.toList
  |.buildSlice t n parts=>zah Γ ρ t n parts.toList
  |.load t x=>zt1 Γ S t (ρ x)
  |.nilCheck x=>zfl S (ρ x)
  |.sliceToArrayPointer t x=>tS2A Γ S t (ρ x)
  |.makeFunc fn first captured=>(match fn with|.func f=>some (.fn f (first.toList.map ρ) (captured.toList.map ρ))|_=>none)
  |.slice t x lo hi mx=>zt0 Γ S t (ρ x) (lo.map ρ) (hi.map ρ) (mx.map ρ)
  |.fieldAddr t x k=>zab Γ S t k (ρ x)
  |.field t x k=>z1u Γ t k (ρ x)
  |.indexAddr t x ix=>zhu Γ S t (ρ x) (ρ ix)
  |.index t x ix=>zt2 Γ t (ρ x) (ρ ix)
  |.extract x k=>zlm k (ρ x)
  |.unOp op _ x=>tUn op (ρ x)
  |.convert src dst x=>zr4 Γ S src dst (ρ x)
  |.binOp op t x y _=>tBin P Γ S t op x y (ρ x) (ρ y)
  |.lookup t x k ok=>orW (zed Γ S t (ρ x) (ρ k) ok) (zh5 P Γ S t (ρ x) (ρ k) ok)
  |.call c=>(match c.callee with
    |.builtin b=>zmq Γ S ρ b c.args.toList c.argTypes.toList
    |_=>none)
  |_=>none
def zen (P:ep) (Γ:Env) (own:List Nat) (ρ:d8->T) (o:Oper) (S:TS):Option (T×TS) :=
  match o.op with
  |.alloc e=>zxd Γ S e
  |.box _ x=>tBox S (ρ x)
  |.buildSlice t n parts=>bif ownD own o.dst then zbv Γ S ρ t n parts.toList else zgl S (zah Γ ρ t n parts.toList)
  |.store t x v=>ztv (zxb Γ S t (ρ v) (ρ x))
  |.makeSlice t l c=>zi9 Γ S t (ρ l) (ρ c)
  |.convert src dst x=>bif ownD own o.dst then zs9 Γ S src dst (ρ x) else zgl S (zr4 Γ S src dst (ρ x))
  |.makeMap _ none=>zc2 S
  |.mapUpdate t m k v=>ztv (orW (za9 Γ S t (ρ k) (ρ v) (ρ m)) (zht P Γ S t (ρ k) (ρ v) (ρ m)))
  |.insert t m k v=>ztv (orW (za9 Γ S t (ρ k) (ρ v) (ρ m)) (zht P Γ S t (ρ k) (ρ v) (ρ m)))
  |.mapEntry t m k=>zh9 P Γ S t (ρ k) (ρ m)
  |.entryStore _ m st v=>ztv (zfm S (ρ st) (ρ v) (ρ m))
  |.call c=>(match c.callee with
    |.builtin .append=>(match c.args.toList,c.argTypes.toList with | [x,y],[t,tx]=>bif srcT Γ tx then zrc Γ S t (ρ y) (ρ x) else none|_,_=>none)
    |.builtin .copy=>(match c.args.toList,c.argTypes.toList with | [x,y],[t,_]=>yh8 Γ S t (ρ y) (ρ x)|_,_=>none)
    |.builtin .clear=>(match c.args.toList,c.argTypes.toList with | [x],[t]=>ycp Γ S t (ρ x)|_,_=>none)
    |.builtin b=>zgl S (zmq Γ S ρ b c.args.toList c.argTypes.toList)
    |_=>none)
  |_=>zgl S (zfg P Γ ρ o S)
section
variable {GL:List (Nat×List Value)} {A A' A2:Nat->Prop} {β β' β2:Bx} {S S':TS} {s s' s2:CS} {P:ep} {Γ:Env}
theorem VT.undf {g:Nat->Fam}:VT A β g (.tup []) undef:=VT.tup (vs:=[]) .nil
theorem yg6 {g:Nat->Fam} (v:Value):VT A β g (znf v) v:=by
  unfold znf;split
  . rename_i t ht;exact (zzl ht).1
  . split
    . rename_i cs;split
      . rename_i l hl;obtain ⟨cs⟩:=cs;exact .agg (zh8 hl).1
      . exact .junk _
    . exact .junk _
theorem z83 {g:Nat->Fam}:∀ (L:List (Nat×List Value)) (k:Nat),(∀ x,x∈L->A x.1/\zbu (g x.1).rows (x.1*1024)=some x.2)->VT A β g (yft L k) (.pointer (some (mkA k (k*1024) 0)))
  |[],k,_=>.junk _
  |x :: l,k,h=>by
    unfold yft
    cases hb:d7 x.1 k with
    |false=>exact z83 l k fun y hy=>h y (by simp [hy])
    |true =>
      have:=dx hb;subst this;simp only [cond_true];split
      . rename_i c hc;obtain ⟨h1,h2⟩:=h x (by simp);exact .cp h1 h2 (zh8 hc).1 (by rw [fp,mz])
      . exact .junk _
structure FrOk (A:Nat->Prop) (β:Bx) (g:Nat->Fam) (N:Nat) (h:Nat->T) (fr:Fr):Prop where
  nt:fr.nt=N
  le:N<=512
  slot:∀ t,VT A β g (h t) (fr.get t)
theorem FrOk.mono {N:Nat} {h:Nat->T} {fr:Fr} {g g':Nat->Fam} (k:FrOk A β g N h fr) (hA:∀ f,A f->A' f) (hg:∀ f,A f->g' f=g f) (hβ:qc β β'):FrOk A' β' g' N h fr:=⟨k.nt,k.le,fun t=>(k.slot t).mono hA hg hβ⟩
theorem FrOk.eval (hT:TRel GL A β S s) {N:Nat} {h:Nat->T} {fr:Fr} (k:FrOk A β (zaa s.obj) N h fr) (x:d8):VT A β (zaa s.obj) (zd4 GL h x) (zgf fr x):=by
  cases x with
  |tmp t=>exact k.slot t
  |const v=>exact yg6 v
  |global g=>exact z83 GL g hT.glob
  |func f=>exact .fn .nil .nil
def zfa (N:Nat) (ops:List Oper):Bool:=ops.all fun o=>match o.dst with|some d=>fb d N|none=>true
theorem FrOk.put {N:Nat} {h:Nat->T} {fr:Fr} {g:Nat->Fam} (k:FrOk A β g N h fr) {d:Option Tmp} (hd:∀ t,d=some t->t<N) {t:T} {v:Value} (hv:VT A β g t v):FrOk A β g N (putT h d t) (putC fr d v):=by
  cases d with
  |none=>exact k
  |some d =>
    have hdN:=hd d rfl;refine ⟨?_,k.le,fun u=>?_⟩
    . show (fr.put d v).nt=N;unfold Fr.put;rw [zb0];split<;>exact k.nt
    . show VT A β g (tupd h d t u) ((fr.put d v).get u);by_cases hu:u=d
      . subst hu;rw [zjn,Fr.get_put_same v (by rw [k.nt];exact hdN) (by rw [k.nt];exact k.le)];exact hv
      . rw [zo1 _ _ _ _ hu,Fr.get_put_other v (by rw [k.nt];exact k.le) (fun hh=>hu hh.symm)];exact k.slot u
theorem zwi {g:Nat->Fam} {ρT:d8->T} {ρ:d8->Value} (hρ:∀ x,VT A β g (ρT x) (ρ x)):∀ (l:List d8),VL A β g (l.map ρT) (l.map ρ)
  |[]=>.nil
  |x :: l=>.cons (hρ x) (zwi hρ l)
theorem yht {g:Nat->Fam} {ρT:d8->T} {ρ:d8->Value} (hρ:∀ x,VT A β g (ρT x) (ρ x)):∀ (l:Option d8),VO A β g (l.map ρT) (l.map ρ)
  |none=>.none
  |some x=>.some (hρ x)
theorem zs4 {r:Option T} {t:T} {S1 S2:TS} (h:zgl S1 r=some (t,S2)):r=some t/\S2=S1:=by
  unfold zgl at h;split at h
  . cases h;exact ⟨rfl,rfl⟩
  . simp at h
theorem zs5 {r:Option TS} {t:T} {S2:TS} (h:ztv r=some (t,S2)):r=some S2/\t=.junk:=by
  unfold ztv at h;split at h
  . cases h;exact ⟨rfl,rfl⟩
  . simp at h
theorem zr5 (hT:TRel GL A β S s) {ρT:d8->T} {ρ:d8->Value} (hρ:∀ x,VT A β (zaa s.obj) (ρT x) (ρ x)) {o:Oper} {b:Builtin} {args:Array d8} {ts:Array ed} {r:T} (ho:o.op=.call ⟨.builtin b,args,ts⟩) (ht:zmq Γ S ρT b args.toList ts.toList=some r):Ok0 GL A β S s (zfv P Γ ρ o s b args.toList ts.toList) r:=by
  unfold zmq at ht;split at ht
  . split at ht
    . rename_i x t e1 e2;rw [e1,e2];exact ym8 hT (hρ x) ht
    . simp at ht
  . split at ht
    . rename_i x y e1;split at ht
      . rename_i k a k' b' e2 e3;cases ht;obtain ⟨args⟩:=args;simp only at e1;subst e1;obtain ⟨d,opx,ty,pos,e,g⟩:=o;simp only at ho;subst ho;have h1:=hρ x;have h2:=hρ y;rw [e2] at h1;rw [e3] at h2;generalize f1:ρ x=vx at h1;generalize f2:ρ y=vy at h2;cases h1;cases h2;show Ok0 GL A β S s (zfv P Γ ρ _ s .min [x,y] ts.toList) _;rw [o_min f1 f2];exact im hT (.int _ _)
      . simp at ht
    . simp at ht
  . split at ht
    . rename_i x y e1;split at ht
      . rename_i k a k' b' e2 e3;cases ht;obtain ⟨args⟩:=args;simp only at e1;subst e1;obtain ⟨d,opx,ty,pos,e,g⟩:=o;simp only at ho;subst ho;have h1:=hρ x;have h2:=hρ y;rw [e2] at h1;rw [e3] at h2;generalize f1:ρ x=vx at h1;generalize f2:ρ y=vy at h2;cases h1;cases h2;show Ok0 GL A β S s (zfv P Γ ρ _ s .max [x,y] ts.toList) _;rw [o_max f1 f2];exact im hT (.int _ _)
      . simp at ht
    . simp at ht
  . simp at ht
theorem Ok0.orW {r:T} {a b:Option (Value×CS)} (h:Ok0 GL A β S s a r):Ok0 GL A β S s (orW a b) r:=by
  obtain ⟨v,s1,A1,h1,h2⟩:=h;exact ⟨v,s1,A1,by rw [h1];rfl,h2⟩
theorem Ok.orW {r:T} {a b:Option (Value×CS)} (h:Ok GL A β s a r S'):Ok GL A β s (orW a b) r S':=by
  obtain ⟨v,s1,A1,β1,h1,h2⟩:=h;exact ⟨v,s1,A1,β1,by rw [h1];rfl,h2⟩
theorem z68 (hE:zcv P Γ) (hT:TRel GL A β S s) {ρT:d8->T} {ρ:d8->Value} (hρ:∀ x,VT A β (zaa s.obj) (ρT x) (ρ x)) {call:zc1} {o:Oper} {r:T} (ht:zfg P Γ ρT o S=some r):Ok0 GL A β S s (cop P Γ call ρ o s) r:=by
  unfold zfg at ht;split at ht
  . rename_i x ho;cases ht;unfold cop;simp only [ho];exact im hT (hρ x)
  . rename_i x ho;cases ht;unfold cop;simp only [ho];exact im hT (hρ x)
  . rename_i c a b ho;split at ht
    . rename_i t hc;cases ht;unfold cop;simp only [ho];have h1:=hρ c;rw [hc] at h1;generalize f1:ρ c=vc at h1;cases h1;rw [ynn]
      cases t with
      |true=>exact im hT (hρ a)
      |false=>exact im hT (hρ b)
    . simp at ht
  . rename_i t parts ho;unfold cop;simp only [ho];exact ycq hT hρ ht
  . rename_i t n parts ho;unfold cop;simp only [ho];exact zmr hT hρ ht
  . rename_i t x ho;unfold cop;simp only [ho];exact yh6 hT (hρ x) ht
  . rename_i x ho;unfold cop;simp only [ho];exact z1s hT (hρ x) ht
  . rename_i t x ho;unfold cop;simp only [ho];exact ym7 hT (hρ x) ht
  . rename_i fn first captured ho
    split at ht
    . rename_i f;cases ht;unfold cop;simp only [ho];have e1:first.map ρ=⟨first.toList.map ρ⟩:=by rw [<- lw]
      have e2:captured.map ρ=⟨captured.toList.map ρ⟩:=by rw [<- lw]
      rw [e1,e2];exact im hT (.fn (zwi hρ _) (zwi hρ _))
    . simp at ht
  . rename_i t x lo hi mx ho;unfold cop;simp only [ho];exact ycj hT (hρ x) (yht hρ _) (yht hρ _) (yht hρ _) ht
  . rename_i t x k ho;unfold cop;simp only [ho];exact zzs hT (hρ x) ht
  . rename_i t x k ho;unfold cop;simp only [ho];exact ycn hT (hρ x) ht
  . rename_i t x ix ho;unfold cop;simp only [ho];exact zzr hT (hρ x) (hρ ix) ht
  . rename_i t x ix ho;unfold cop;simp only [ho];exact ycm hT (hρ x) (hρ ix) ht
  . rename_i x k ho;unfold cop;simp only [ho];exact z5c hT (hρ x) ht
  . rename_i op t x ho;unfold cop;simp only [ho];exact ypc hT ho (hρ x) ht
  . rename_i src dst x ho;unfold cop;simp only [ho];exact z1v hE hT ho (hρ x) ht
  . rename_i op t x y t2 ho;unfold cop;simp only [ho];exact yna hE hT ho (hρ x) (hρ y) ht
  . rename_i t x k ok ho;unfold cop;simp only [ho];rcases zi3 ht with ht|ht
    . exact (yao hT (hρ x) (hρ k) ht).orW
    . exact z5b hT (hρ x) (hρ k) ht
  . rename_i c ho;split at ht
    . rename_i b hc;obtain ⟨cal,args,tys⟩:=c;simp only at hc ht;subst hc;unfold cop;simp only [ho];exact zr5 hT hρ ho ht
    . simp at ht
  . simp at ht
theorem zzv (hE:zcv P Γ) (hT:TRel GL A β S s) {own:List Nat} {ρT:d8->T} {ρ:d8->Value} (hρ:∀ x,VT A β (zaa s.obj) (ρT x) (ρ x)) {call:zc1} {o:Oper} {r:T} (ht:zen P Γ own ρT o S=some (r,S')):Ok GL A β s (cop P Γ call ρ o s) r S':=by
  unfold zen at ht;split at ht
  . rename_i e ho;unfold cop;simp only [ho];exact ycr hT ht
  . rename_i e x ho;unfold cop;simp only [ho];exact ym9 hT (hρ x) ht
  . rename_i t n parts ho;unfold cop;simp only [ho]
    cases hw:ownD own o.dst with
    |true=>rw [hw] at ht;exact z1w hT hρ ht
    |false =>
      rw [hw] at ht;obtain ⟨h1,rfl⟩:=zs4 ht;exact (zmr hT hρ h1).ok
  . rename_i t x v ho;obtain ⟨h1,rfl⟩:=zs5 ht;unfold cop;simp only [ho];exact yci hT (hρ x) (hρ v) h1
  . rename_i t l c ho;unfold cop;simp only [ho];exact zzq hT (hρ l) (hρ c) ht
  . rename_i src dst x ho;unfold cop;simp only [ho]
    cases hw:ownD own o.dst with
    |true=>rw [hw] at ht;exact z5d hT (hρ x) ht
    |false =>
      rw [hw] at ht;obtain ⟨h1,rfl⟩:=zs4 ht;exact (z1v hE hT ho (hρ x) h1).ok
  . rename_i ho;unfold cop;simp only [ho];exact z5a hT ht
  . rename_i t m k v ho;obtain ⟨h1,rfl⟩:=zs5 ht;unfold cop;simp only [ho];rcases zi3 h1 with h1|h1
    . exact (zpp hT (hρ k) (hρ v) (hρ m) h1).orW
    . exact zok hT (hρ k) (hρ v) (hρ m) h1
  . rename_i t m k v ho;obtain ⟨h1,rfl⟩:=zs5 ht;unfold cop;simp only [ho];rcases zi3 h1 with h1|h1
    . exact (zpp hT (hρ k) (hρ v) (hρ m) h1).orW
    . exact zok hT (hρ k) (hρ v) (hρ m) h1
  . rename_i t m k ho;unfold cop;simp only [ho];exact z1t hT (hρ k) (hρ m) ht
  . rename_i t m st v ho;obtain ⟨h1,rfl⟩:=zs5 ht;unfold cop;simp only [ho];exact zwm hT (hρ st) (hρ v) (hρ m) h1
  . rename_i c ho;obtain ⟨cal,args,tys⟩:=c;simp only at ht;split at ht
    . split at ht
      . rename_i x y t tx e1 e2;unfold cop;simp only [ho];rw [e1,e2]
        cases hq:srcT Γ tx with
        |false=>rw [hq] at ht;simp at ht
        |true =>
          rw [hq,cond_true] at ht;rw [yem hq];exact yap hT (hρ x) (hρ y) ht
      . simp at ht
    . split at ht
      . rename_i x y t tx e1 e2;unfold cop;simp only [ho];rw [e1,e2];exact yh7 hT (hρ x) (hρ y) ht
      . simp at ht
    . split at ht
      . rename_i x t e1 e2;unfold cop;simp only [ho];rw [e1,e2];exact yco hT (hρ x) ht
      . simp at ht
    . obtain ⟨h1,rfl⟩:=zs4 ht;unfold cop;simp only [ho];exact (zr5 hT hρ ho h1).ok
    . simp at ht
  . obtain ⟨h1,rfl⟩:=zs4 ht;exact (z68 hE hT hρ h1).ok
end
def Call (P:ep) (Γ:Env) (GL:List (Nat×List Value)) (f:jz) (args:List T) (S:TS) (v:T) (S':TS):Prop :=
  ∀ A β s vargs,TRel GL A β S s->VL A β (zaa s.obj) args vargs->Ok GL A β s (zem P Γ f vargs s) v S'
def zij (ops:List Oper) (h:Nat->T):Option (Nat×Bool)->Option Bool
  |none=>some true
  |some (j,want)=>match zpg ops j with
    |some d=>(match h d with|.bool b=>some (b == want)|.tup _=>some false|_=>none)
    |none=>none
def z1b (P:ep) (Γ:Env) (GL:List (Nat×List Value)) (S:TS) (args:List T) (f:T) (r:T×TS):Option Prop:=match f with
  |.fn k first cap=>some (Call P Γ GL k (first++args++cap) S r.1 r.2)
  |_=>none
def andT (p:Prop):Option (Prop×(Nat->T)×TS)->Option (Prop×(Nat->T)×TS)
  |some (q,h,S)=>some (p/\q,h,S)
  |none=>none
def runT (P:ep) (Γ:Env) (GL:List (Nat×List Value)) (own:List Nat) (ops:List Oper):List Oper->(Nat->T)->TS->List (T×TS)->Option (Prop×(Nat->T)×TS)
  |[],h,S,_=>some (True,h,S)
  |o :: l,h,S,outs=>match zij ops h o.guard with
    |none=>none
    |some false=>runT P Γ GL own ops l (putT h o.dst (.tup [])) S outs
    |some true=>match o.op with
      |.call ⟨.value f,args,tys⟩=>(match outs with
        |r :: outs=>(match z1b P Γ GL S (args.toList.map (zd4 GL h)) (zd4 GL h f) r with
          |some p=>andT p (runT P Γ GL own ops l (putT h o.dst r.1) r.2 outs)
          |none=>none)
        |[]=>none)
      |_=>(match zen P Γ own (zd4 GL h) o S with
        |some (t,S1)=>runT P Γ GL own ops l (putT h o.dst t) S1 outs
        |none=>none)
section
variable {GL:List (Nat×List Value)} {A A' A2:Nat->Prop} {β β' β2:Bx} {S S':TS} {s s' s2:CS} {P:ep} {Γ:Env}
theorem zii {g:Nat->Fam} {ops:List Oper} {h:Nat->T} {N:Nat} {fr:Fr} {o:Oper} {b:Bool} (k:FrOk A β g N h fr) (hg:zij ops h o.guard=some b):zc4 ops fr o=b:=by
  unfold zij at hg;unfold zc4;split at hg
  . rename_i hh;cases hg;rw [hh]
  . rename_i j want hh;rw [hh];split at hg
    . rename_i d hd;simp only [hd];split at hg
      . rename_i b' hb;have:=k.slot d;rw [hb] at this;generalize fr.get d=v at this;cases this;simp only [dp] at hg;exact hg
      . rename_i l hb;have:=k.slot d;rw [hb] at this;generalize fr.get d=v at this;cases this;simp only [dp] at hg;exact hg
      . simp at hg
    . simp at hg
def Left (GL:List (Nat×List Value)) (A:Nat->Prop) (β:Bx) (s:CS) (N:Nat) (fr':Fr) (s':CS) (h':Nat->T) (S':TS):Prop :=
  ∃ A' β',FrOk A' β' (zaa s'.obj) N h' fr'/\TRel GL A' β' S' s'/\Stp A β s A' β' s'
theorem Left.trans {N:Nat} {fr' fr2:Fr} {h' h2:Nat->T} {S2:TS} (hl:s.lim<=s.n) (hS:Stp A β s A' β' s') (k:Left GL A' β' s' N fr2 s2 h2 S2):Left GL A β s N fr2 s2 h2 S2:=by
  obtain ⟨A2,β2,k1,k2,k3⟩:=k;exact ⟨A2,β2,k1,k2,hS.trans hl k3⟩
theorem z5m (hE:zcv P Γ) {own:List Nat} {ops:List Oper} {N:Nat}:∀ {l:List Oper} {h h':Nat->T} {S S':TS} {outs:List (T×TS)} {ob:Prop} {A:Nat->Prop} {β:Bx} {fr:Fr} {s:CS},zfa N l=true->FrOk A β (zaa s.obj) N h fr->TRel GL A β S s->runT P Γ GL own ops l h S outs=some (ob,h',S')->ob ->
    ∃ fr' s',runC P Γ (zem P Γ) ops l fr s=some (fr',s')/\Left GL A β s N fr' s' h' S'
  |[],h,h',S,S',outs,ob,A,β,fr,s,hd,hF,hT,hr,hob=>by
    simp only [runT,dp,du] at hr;obtain ⟨rfl,rfl,rfl⟩:=hr;exact ⟨fr,s,rfl,A,β,hF,hT,pl⟩
  |o :: l,h,h',S,S',outs,ob,A,β,fr,s,hd,hF,hT,hr,hob=>by
    have hd':zfa N l=true/\∀ t,o.dst=some t->t<N:=by
      unfold zfa at hd ⊢;rw [List.all_cons,dr] at hd;refine ⟨hd.2,fun t ht=>?_⟩;have:=hd.1;rw [ht] at this;exact zac.1 this
    -- one step that is done
    have go:∀ {t:T} {S1:TS} {r:Option (Value×CS)} {l':List (T×TS)} {ob':Prop},Ok GL A β s r t S1->(cop P Γ (zem P Γ) (zgf fr) o s=r)->zc4 ops fr o=true->runT P Γ GL own ops l (putT h o.dst t) S1 l'=some (ob',h',S')->ob'->∃ fr' s',runC P Γ (zem P Γ) ops (o :: l) fr s=some (fr',s')/\Left GL A β s N fr' s' h' S':=by
      rintro t S1 r l' ob' ⟨v,s1,A1,β1,rfl,k1,k2,k3⟩ hc hw hrun hob';have hF1:FrOk A1 β1 (zaa s1.obj) N h fr:=hF.mono k3.sub (k3.old hT) k3.bx;obtain ⟨fr',s',e1,e2⟩:=z5m hE hd'.1 (hF1.put hd'.2 k2) k1 hrun hob';refine ⟨fr',s',?_,Left.trans (h':=h) (fr':=fr) hT.le k3 e2⟩;rw [runC]
      have:zcj P Γ (zem P Γ) ops o fr s=some (putC fr o.dst v,s1):=by
        unfold zcj;rw [hw,cond_true,hc]
      rw [this];exact e1
    unfold runT at hr;split at hr
    . simp at hr
    . rename_i hg;have hw:=zii hF hg;obtain ⟨fr',s',e1,e2⟩:=z5m hE hd'.1 (hF.put hd'.2 VT.undf) hT hr hob;refine ⟨fr',s',?_,e2⟩;rw [runC]
      have:zcj P Γ (zem P Γ) ops o fr s=some (putC fr o.dst undef,s):=by
        unfold zcj;rw [hw,cond_false]
      rw [this];exact e1
    . rename_i hg;have hw:=zii hF hg;split at hr
      . rename_i f args tys ho;split at hr
        . rename_i r outs';split at hr
          . rename_i p hp;unfold z1b at hp;split at hp
            . rename_i k first cap hf
              simp only [dp] at hp;subst hp
              cases hrun:runT P Γ GL own ops l (putT h o.dst r.1) r.2 outs' with
              |none=>rw [hrun] at hr;simp [andT] at hr
              |some q =>
                obtain ⟨q1,q2,q3⟩:=q;rw [hrun] at hr;simp only [andT,dp,du] at hr;obtain ⟨rfl,rfl,rfl⟩:=hr;have hfv:=hF.eval hT f;rw [hf] at hfv;generalize e1:zgf fr f=vf at hfv
                cases hfv with
                |fn h1 h2 =>
                  rename_i va vc;have hargs:=zwi (hF.eval hT) args.toList;have hcall:=hob.1 A β s _ hT ((h1.append hargs).append h2);refine go hcall ?_ hw hrun hob.2;unfold cop;simp only [ho,e1];unfold zme;rfl
            . simp at hp
          . simp at hr
        . simp at hr
      . split at hr
        . rename_i t S1 hst;exact go (zzv hE hT (hF.eval hT) hst) rfl hw hr hob
        . simp at hr
end
section
variable {GL:List (Nat×List Value)} {A A' A2:Nat->Prop} {β β' β2:Bx} {S S' S2:TS} {s s' s2:CS} {P:ep} {Γ:Env} {N:Nat} {h h' h2:Nat->T} {Q R:Exit->(Nat->T)->TS->Prop}
def TW (P:ep) (Γ:Env) (GL:List (Nat×List Value)) (N:Nat) (c:Code) (h:Nat->T) (S:TS) (Q:Exit->(Nat->T)->TS->Prop):Prop :=
  ∀ A β fr s,FrOk A β (zaa s.obj) N h fr->TRel GL A β S s->W P Γ c fr s fun e fr' s'=>∃ h' S',Left GL A β s N fr' s' h' S'/\Q e h' S'
def onT (k:(Nat->T)->TS->Prop) (Q:Exit->(Nat->T)->TS->Prop) (e:Exit) (h:Nat->T) (S:TS):Prop:=match e with
  |.normal=>k h S
  |e=>Q e h S
def onTB (id:Nat) (Q:Exit->(Nat->T)->TS->Prop) (e:Exit) (h:Nat->T) (S:TS):Prop:=match e with
  |.exit i=>bif d7 i id then Q .normal h S else Q (.exit i) h S
  |e=>Q e h S
theorem Left.refl {fr:Fr} (hF:FrOk A β (zaa s.obj) N h fr) (hT:TRel GL A β S s):Left GL A β s N fr s h S:=⟨A,β,hF,hT,pl⟩
theorem TW.mono {c:Code} (k:TW P Γ GL N c h S Q) (hq:∀ e h S,Q e h S->R e h S):TW P Γ GL N c h S R:=fun A β fr s hF hT =>
  (k A β fr s hF hT).mono fun e fr' s' ⟨h',S',h1,h2⟩=>⟨h',S',h1,hq _ _ _ h2⟩
theorem TW.skip (k:Q .normal h S):TW P Γ GL N .skip h S Q:=fun A β fr s hF hT=>W.skip ⟨h,S,Left.refl hF hT,k⟩
theorem TW.ret (k:Q .ret h S):TW P Γ GL N .ret h S Q:=fun A β fr s hF hT=>W.ret ⟨h,S,Left.refl hF hT,k⟩
theorem TW.exit {id:Nat} (k:Q (.exit id) h S):TW P Γ GL N (.exit id) h S Q:=fun A β fr s hF hT=>W.exit ⟨h,S,Left.refl hF hT,k⟩
theorem TW.label {l:Nat} (k:Q .normal h S):TW P Γ GL N (.label l) h S Q:=fun A β fr s hF hT=>W.label ⟨h,S,Left.refl hF hT,k⟩
theorem TW.seq {a b:Code} (k:TW P Γ GL N a h S (onT (fun h S=>TW P Γ GL N b h S Q) Q)):TW P Γ GL N (.seq a b) h S Q:=fun A β fr s hF hT=>by
  refine W.seq ((k A β fr s hF hT).mono ?_);rintro e fr' s' ⟨h',S',⟨A',β',k1,k2,k3⟩,hq⟩
  cases e with
  |normal =>
    refine (hq A' β' fr' s' k1 k2).mono ?_;rintro e2 fr2 s2 ⟨h2,S2,l2,q2⟩;exact ⟨h2,S2,Left.trans (h':=h) (fr':=fr) hT.le k3 l2,q2⟩
  |_=>exact ⟨h',S',⟨A',β',k1,k2,k3⟩,hq⟩
theorem TW.cond {c:d8} {t f:Code} {b:Bool} (hb:zd4 GL h c=.bool b) (k:TW P Γ GL N (bif b then t else f) h S Q):TW P Γ GL N (.cond c t f) h S Q:=fun A β fr s hF hT=>by
  have:=hF.eval hT c;rw [hb] at this;refine W.cond (b:=b) ?_ (k A β fr s hF hT);generalize zgf fr c=v at this;cases this;rfl
theorem TW.block {id:Nat} {b:Code} (k:TW P Γ GL N b h S (onTB id Q)):TW P Γ GL N (.block id b) h S Q:=fun A β fr s hF hT=>by
  refine W.block ((k A β fr s hF hT).mono ?_);rintro e fr' s' ⟨h',S',l,hq⟩
  cases e with
  |exit i =>
    simp only [onB];simp only [onTB] at hq
    cases hb:d7 i id with
    |true=>rw [hb] at hq;exact ⟨h',S',l,hq⟩
    |false=>rw [hb] at hq;exact ⟨h',S',l,hq⟩
  |_=>exact ⟨h',S',l,hq⟩
theorem TW.scope {b:Code} (k:TW P Γ GL N b h S Q):TW P Γ GL N (.scope b) h S Q:=fun A β fr s hF hT=>W.scope (k A β fr s hF hT)
theorem TW.loop {b:Code} (I:Nat->(Nat->T)->TS->Prop) (hb:∀ n h S,I n h S->TW P Γ GL N b h S (onT (fun h S=>∃ m,m<n/\I m h S) Q)):∀ n h S,I n h S->TW P Γ GL N (.loop b) h S Q:=by
  intro n
  induction n using Nat.strongRecOn with
  |_ n ih =>
    intro h S hI A β fr s hF hT;obtain ⟨e,fr1,s1,h1,h',S',⟨A',β',k1,k2,k3⟩,hq⟩:=hb n h S hI A β fr s hF hT
    cases e with
    |normal =>
      obtain ⟨m,hm,hI'⟩:=hq;obtain ⟨e2,fr2,s2,h3,h2,S2,l2,q2⟩:=ih m hm h' S' hI' A' β' fr1 s1 k1 k2;exact ⟨e2,fr2,s2,Ev.again h1 h3,h2,S2,Left.trans (h':=h) (fr':=fr) hT.le k3 l2,q2⟩
    |_=>exact ⟨_,_,_,Ev.last h1 (by simp),h',S',⟨A',β',k1,k2,k3⟩,hq⟩
theorem TW.region (hE:zcv P Γ) {id:Nat} {ops:Array Oper} (own:List Nat) (outs:List (T×TS)) {ob:Prop} (hd:zfa N ops.toList=true) (hr:runT P Γ GL own ops.toList ops.toList h S outs=some (ob,h',S')) (hob:ob) (hq:Q .normal h' S'):TW P Γ GL N (.region id ops false) h S Q:=fun A β fr s hF hT=>by
  obtain ⟨fr',s',e1,e2⟩:=z5m hE hd hF hT hr hob;exact W.region e1 ⟨h',S',e2,hq⟩
def resT (Γ:Env) (S:TS) (h:Nat->T):List ResultVar->Option (List T)
  |[]=>some []
  |.tmp t :: l=>(match resT Γ S h l with|some vs=>some (h t :: vs)|none=>none)
  |.cell a ty :: l=>(match zt1 Γ S ty (h a),resT Γ S h l with|some v,some vs=>some (v :: vs)|_,_=>none)
def tupT:List T->T
  |[v]=>v
  |vs=>.tup vs
theorem zz8:∀ {l:List ResultVar} {vs:List T} {fr:Fr} {s:CS},FrOk A β (zaa s.obj) N h fr->TRel GL A β S s->resT Γ S h l=some vs->∃ ws s',resC Γ fr s l=some (ws,s')/\VL A β (zaa s.obj) vs ws/\TRel GL A β S s'/\Stp A β s A β s'/\s'.obj=s.obj
  |[],vs,fr,s,hF,hT,hr=>by
    simp only [resT,dp] at hr;subst hr;exact ⟨[],s,rfl,.nil,hT,pl,rfl⟩
  |.tmp t :: l,vs,fr,s,hF,hT,hr=>by
    simp only [resT] at hr;split at hr
    . rename_i vs' hv;cases hr;obtain ⟨ws,s',k1,k2,k3,k4,k5⟩:=zz8 hF hT hv;exact ⟨_,s',by simp only [resC,k1],.cons (hF.slot t) k2,k3,k4,k5⟩
    . simp at hr
  |.cell a ty :: l,vs,fr,s,hF,hT,hr=>by
    simp only [resT] at hr;split at hr
    . rename_i v vs' hv hvs;cases hr;obtain ⟨ad,i,w,f,q1,q2,q3,q4,q5⟩:=z66 hT (hF.slot a) hv;obtain ⟨ws,s',k1,k2,k3,k4,k5⟩:=zz8 (s:={ s with rd:=ins s.lim s.rd f }) hF (hT.read f) hvs;refine ⟨w :: ws,s',?_,.cons q5 k2,k3,(Stp.read q3).trans hT.le k4,k5⟩;simp only [resC,q1,q2,q4,k1]
    . simp at hr
def argT:List T->Nat->(Nat->T)->(Nat->T)
  |[],_,h=>h
  |v :: l,i,h=>argT l (i+1) (tupd h i v)
theorem z4w (v:T) (l:List T) (i:Nat) (h:Nat->T):argT (v :: l) i h=argT l (i+1) (tupd h i v):=rfl
theorem yag (i:Nat) (h:Nat->T):argT [] i h=h:=rfl
theorem z6z {g:Nat->Fam}:∀ {args:List T} {vargs:List Value} {i:Nat} {h:Nat->T} {fr:Fr},VL A β g args vargs->FrOk A β g N h fr->i+args.length<=N->FrOk A β g N (argT args i h) (Fr.ofArgs vargs i fr)
  |_,_,i,h,fr,.nil,hF,_=>hF
  |_,_,i,h,fr,.cons h1 h2,hF,hl=>by
    rw [eh] at hl;show FrOk A β g N (argT _ (i+1) _) (Fr.ofArgs _ (i+1) (fr.put i _));have hi:i<N:=by omega
    exact z6z (i:=i+1) h2 (hF.put (d:=some i) (fun t ht=>by cases ht;exact hi) h1) (by rw [Nat.add_right_comm];exact hl)
theorem FrOk.start {g:Nat->Fam} (hN:N<=512):FrOk A β g N (fun _=>.junk) ⟨N,Tr.all undef 9⟩:=⟨rfl,hN,fun t=>.junk _⟩
def ybw (GL:List (Nat×List Value)) (v:T) (S:TS) (v':T) (S':TS):Prop :=
  ∀ A β s w,TRel GL A β S s->VT A β (zaa s.obj) v w->∃ A' β',TRel GL A' β' S' s/\VT A' β' (zaa s.obj) v' w/\Stp A β s A' β' s
theorem ybw.refl (v:T) (S:TS):ybw GL v S v S:=fun A β s w hT hv=>⟨A,β,hT,hv,pl⟩
theorem yj8 {g:Nat->Fam} {vs:List T} {ws:List Value} (h:VL A β g vs ws):VT A β g (tupT vs) (tupC ws):=by
  cases h with
  |nil=>exact .tup .nil
  |cons h1 h2 =>
    cases h2 with
    |nil=>exact h1
    |cons h3 h4=>exact .tup (.cons h1 (.cons h3 h4))
theorem Call.go {f:jz} {fn:Func} {body:Code} {args:List T} {v:T} {Sf:TS} (N:Nat) (hax:Γ.ax f=none) (hf:Γ.fn.at f=some fn) (hb:fn.body=some body) (hn:fn.ntmps=N) (hN:N<=512) (hl:args.length<=N)
    (k:TW P Γ GL N body (argT args 0 fun _=>.junk) S fun e h' S'=>(e=.normal\/e=.ret)/\∃ vs,resT Γ S' h' fn.results.toList=some vs/\ybw GL (tupT vs) S' v Sf):Call P Γ GL f args S v Sf:=by
  intro A β s vargs hT hargs;obtain ⟨e,fr',s1,h1,h',S',⟨A',β',k1,k2,k3⟩,he,vs,hr,hsh⟩:=k A β _ s (z6z hargs (FrOk.start hN) (by omega)) hT;obtain ⟨ws,s2,r1,r2,r3,r4,r5⟩:=zz8 k1 k2 hr;rw [<- r5] at r2;obtain ⟨A2,β2,q1,q2,q3⟩:=hsh A' β' s2 _ r3 (yj8 r2);refine ⟨tupC ws,s2,A2,β2,?_,q1,q2,(k3.trans hT.le (r4.trans k2.le q3))⟩;have hlen:=hargs.len;exact zrw hax hf hb (by omega) ⟨e,fr',s1,by rw [hn];exact h1,he,ws,r1,rfl⟩
end
mutual
def T.ids (n:Nat):T->Bool
  |.agg l=>T.idsL n l
  |.tup l=>T.idsL n l
  |.lst _ l=>T.idsL n l
  |.cp l=>T.idsL n l
  |.ptr b _ _=>fb b n
  |.arr b _ _ _ _ _=>fb b n
  |.mp b=>fb b n
  |.fn _ a c=>T.idsL n a && T.idsL n c
  |_=>true
def T.idsL (n:Nat):List T->Bool
  |[]=>true
  |t :: l=>T.ids n t && T.idsL n l
end
mutual
def T.flat:T->Bool
  |.agg l=>T.flatL l
  |.tup l=>T.flatL l
  |.int _ _=>true
  |.bool _=>true
  |.str _=>true
  |.nils=>true
  |.nilp=>true
  |.nilm=>true
  |.nilf=>true
  |.junk=>true
  |_=>false
def T.flatL:List T->Bool
  |[]=>true
  |t :: l=>T.flat t && T.flatL l
end
section
variable {GL:List (Nat×List Value)} {A A' A2:Nat->Prop} {β β' β2:Bx} {S S' S2:TS} {s s' s2:CS} {P:ep} {Γ:Env} {N:Nat} {h h' h2:Nat->T} {Q R:Exit->(Nat->T)->TS->Prop} {g g':Nat->Fam}
theorem zag {n:Nat}:∀ {l l2:List T},T.idsL n (l++l2)=(T.idsL n l && T.idsL n l2)
  |[],l2=>by simp [T.idsL]
  |t :: l,l2=>by simp only [fd,T.idsL,zag,Bool.and_assoc]
theorem yfj {n:Nat} {t:T} (h:t.ids n=true):T.idsL n t.cells=true:=by
  cases t<;>first|exact h | (simp only [gd,T.idsL,h,Bool.and_self])
theorem zlh {n:Nat}:∀ {l:List T},T.idsL n l=true->T.idsL n (l.flatMap gd)=true
  |[],_=>rfl
  |t :: l,h=>by
    simp only [T.idsL,dr] at h;rw [ij,zag,yfj h.1,zlh h.2];rfl
theorem z8w {n:Nat}:∀ {l:List T},(∀ t,t∈l->t.ids n=true)->T.idsL n l=true
  |[],_=>rfl
  |t :: l,h=>by
    simp only [T.idsL,dr];exact ⟨h t (by simp),z8w fun t ht=>h t (by simp [ht])⟩
mutual
theorem VT.ids {n:Nat} (hβ:∀ b,b<n->β' b=β b):∀ {t:T} {v:Value},t.ids n=true->VT A β g t v->VT A β' g t v
  |_,_,_,.int k n=>.int k n
  |_,_,_,.bool b=>.bool b
  |_,_,_,.str b=>.str b
  |_,_,hi,.agg h=>.agg (VL.ids hβ hi h)
  |_,_,hi,.tup h=>.tup (VL.ids hβ hi h)
  |_,_,_,.lnil=>.lnil
  |_,_,hi,.lst h1 h2 h3 h4 h5 h6 h7 h8=>.lst h1 h2 (VL.ids hβ (zlh hi) h3) h4 h5 h6 h7 h8
  |_,_,_,.nils=>.nils
  |_,_,_,.nilp=>.nilp
  |_,_,_,.nilm=>.nilm
  |_,_,_,.nilf=>.nilf
  |_,_,hi,.ptr h=>.ptr (by rw [hβ _ (zac.1 hi)];exact h)
  |_,_,hi,.ptrOld h h0 h1 h2=>.ptrOld (by rw [hβ _ (zac.1 hi)];exact h) h0 h1 h2
  |_,_,hi,.cp h1 h2 h3 h4=>.cp h1 h2 (VL.ids hβ hi h3) h4
  |_,_,hi,.arr h ht=>.arr (by rw [hβ _ (zac.1 hi)];exact h) ht
  |_,_,hi,.arrNil h=>.arrNil (by rw [hβ _ (zac.1 hi)];exact h)
  |_,_,hi,.arrOld h h0 h1 h2=>.arrOld (by rw [hβ _ (zac.1 hi)];exact h) h0 h1 h2
  |_,_,hi,.mp h=>.mp (by rw [hβ _ (zac.1 hi)];exact h)
  |_,_,hi,.mpOld h h2=>.mpOld (by rw [hβ _ (zac.1 hi)];exact h) h2
  |_,_,hi,.fn h1 h2=>by
    simp only [T.ids,dr] at hi;exact .fn (VL.ids hβ hi.1 h1) (VL.ids hβ hi.2 h2)
  |_,_,_,.junk v=>.junk v
  |_,_,_,.emp h1 h2 h3 h4=>.emp h1 h2 h3 h4
theorem VL.ids {n:Nat} (hβ:∀ b,b<n->β' b=β b):∀ {l:List T} {vs:List Value},T.idsL n l=true->VL A β g l vs->VL A β' g l vs
  |_,_,_,.nil=>.nil
  |_,_,hi,.cons h k=>by
    simp only [T.idsL,dr] at hi;exact .cons (VT.ids hβ hi.1 h) (VL.ids hβ hi.2 k)
end
mutual
theorem VT.flat:∀ {t:T} {v:Value},t.flat=true->VT A β g t v->VT A' β' g' t v
  |_,_,_,.int k n=>.int k n
  |_,_,_,.bool b=>.bool b
  |_,_,_,.str b=>.str b
  |_,_,hi,.agg h=>.agg (VL.flat hi h)
  |_,_,hi,.tup h=>.tup (VL.flat hi h)
  |_,_,_,.nils=>.nils
  |_,_,_,.nilp=>.nilp
  |_,_,_,.nilm=>.nilm
  |_,_,_,.nilf=>.nilf
  |_,_,_,.junk v=>.junk v
  |_,_,hi,.lnil=>by simp [T.flat] at hi
  |_,_,hi,.lst _ _ _ _ _ _ _ _=>by simp [T.flat] at hi
  |_,_,hi,.ptr _=>by simp [T.flat] at hi
  |_,_,hi,.ptrOld _ _ _ _=>by simp [T.flat] at hi
  |_,_,hi,.cp _ _ _ _=>by simp [T.flat] at hi
  |_,_,hi,.arr _ _=>by simp [T.flat] at hi
  |_,_,hi,.arrNil _=>by simp [T.flat] at hi
  |_,_,hi,.arrOld _ _ _ _=>by simp [T.flat] at hi
  |_,_,hi,.mp _=>by simp [T.flat] at hi
  |_,_,hi,.mpOld _ _=>by simp [T.flat] at hi
  |_,_,hi,.fn _ _=>by simp [T.flat] at hi
  |_,_,hi,.emp _ _ _ _=>by simp [T.flat] at hi
theorem VL.flat:∀ {l:List T} {vs:List Value},T.flatL l=true->VL A β g l vs->VL A' β' g' l vs
  |_,_,_,.nil=>.nil
  |_,_,hi,.cons h k=>by
    simp only [T.flatL,dr] at hi;exact .cons (VT.flat hi.1 h) (VL.flat hi.2 k)
end
def bx0:Bx:=fun _=>none
theorem zjv {f:Nat}:¬ Own bx0 f:=fun ⟨b,h⟩=>by rcases h with ⟨u,N,h⟩|h<;>simp [bx0] at h
theorem TRel.bare (hT:TRel GL A β S s) (A1:Nat->Prop) (h1:∀ f,A f->A1 f) (h2:∀ f,A1 f->f<s.n):TRel GL A1 bx0 ts0 s :=
  ⟨hT.inr,hT.inv,h2,fun f hf=>absurd hf zjv,fun b b' l l' f hb=>by simp [bx0] at hb,fun b _=>rfl,fun b z N l hb=>by simp [ts0] at hb,fun b l hb=>by simp [ts0] at hb,fun x hx=>⟨h1 _ (hT.glob x hx).1,(hT.glob x hx).2⟩⟩
def Pure (P:ep) (Γ:Env) (GL:List (Nat×List Value)) (f:jz) (args:List T) (v:T):Prop:=T.idsL 0 args=true/\v.ids 0=true/\Call P Γ GL f args ts0 v ts0
def zaj (P:ep) (Γ:Env) (GL:List (Nat×List Value)) (f:jz) (args:List T) (S:TS) (v:T):Prop :=
  ∀ A β s vargs,TRel GL A β S s->VL A β (zaa s.obj) args vargs->Ok0 GL A β S s (zem P Γ f vargs s) v
theorem zaj.call {f:jz} {args:List T} {v:T} (k:zaj P Γ GL f args S v):Call P Γ GL f args S v S:=fun A β s vargs hT hv=>(k A β s vargs hT hv).ok
theorem Pure.call {f:jz} {args:List T} {v:T} (k:Pure P Γ GL f args v) (S:TS):zaj P Γ GL f args S v:=by
  intro A β s vargs hT hv;obtain ⟨k1,k2,k3⟩:=k;have hT0:=hT.bare A (fun _ h=>h) hT.alt;obtain ⟨w,s',A',β',e1,e2,e3,e4⟩:=k3 A bx0 s vargs hT0 (VL.ids (n:=0) (fun b hb=>absurd hb (by omega)) k1 hv)
  have hc:zj4 A β s A' s':=by
    refine ⟨e4.can,e4.sub,fun f hf=>?_,fun f hf=>e4.keep f hf zjv,fun x hx=>?_,fun x hx=>?_⟩
    . rcases e4.new f hf with q|q|q
      . exact .inl q
      . exact .inr q
      . exact absurd q zjv
    . rcases e4.rd x hx with q|⟨q,q2⟩
      . exact .inl q
      . exact .inr ⟨q,.inl (q2.resolve_right zjv)⟩
    . rcases e4.wr x hx with q|⟨_,q⟩
      . exact q
      . exact absurd q zjv
  exact ⟨w,s',A',e1,hc.rel hT e2.inr e2.inv e2.alt,VT.ids (n:=0) (fun b hb=>absurd hb (by omega)) k2 e3,hc⟩
def yov (S:TS) (t t':T):Prop:=t=t'\/∃ b e off len cap N z l L,t=.arr b e off len cap N/\t'=.lst e L/\S.box b=.cells z N l/\0<e/\off+len*e<=N/\(l.drop off).take (len*e)=L.flatMap gd/\(∀ t,t∈L->t.cells.length=e)/\L.length=len/\len<=cap
def Lend (S:TS):List T->List T->Prop
  |[],[]=>True
  |t :: l,t' :: l'=>yov S t t'/\Lend S l l'
  |_,_=>False
theorem yi0 (hT:TRel GL A β S s) {t t':T} {v:Value} (hi:t'.ids 0=true) (hl:yov S t t') (hv:VT A β (zaa s.obj) t v):VT (fun f=>A f\/Own β f) bx0 (zaa s.obj) t' v:=by
  rcases hl with rfl|⟨b,e,off,len,cap,N,z,l,L,rfl,rfl,hS,he,hN,hL,hs,hlen,hcap⟩
  . exact (VT.ids (n:=0) (β':=bx0) (fun b hb=>absurd hb (by omega)) hi hv).mono (fun _ h=>.inl h) (fun _ _=>rfl) (ip _)
  . rcases zf1 hT hS hv with ⟨f,u,rfl,hb,htag⟩|⟨rfl,hb,rfl,rfl,rfl,rfl⟩
    . obtain ⟨hlN,hc⟩:=hT.cells b z N l hS;rcases hc with ⟨hb2,_,_⟩|⟨f',u',cs,rest,hb2,hz,hat,hvl,hone⟩
      . rw [hb] at hb2;simp at hb2
      rw [hb] at hb2;cases hb2;have hcl:=hvl.len
      have hrow:zbu (zaa s.obj f).rows u=some cs:=by
        rw [hat];show zbu ((u,cs) :: rest) u=some cs;unfold zbu;rw [gw];rfl
      have h1:VL A β (zaa s.obj) (L.flatMap gd) ((cs.drop off).take (len*e)):=by rw [<- hL];exact (hvl.drop off).take _
      have h2:VL (fun f=>A f\/Own β f) bx0 (zaa s.obj) (L.flatMap gd) ((cs.drop off).take (len*e)) :=
        (VL.ids (n:=0) (β':=bx0) (fun b hb=>absurd hb (by omega)) (zlh hi) h1).mono (fun _ h=>.inl h) (fun _ _=>rfl) (ip _)
      have h3:((cs.drop off).take (len*e)).length=len*e:=by rw [fi,gp];omega
      have:=VT.lst (A:=fun f=>A f\/Own β f) (β:=bx0) (g:=zaa s.obj) (off:=off) (cap:=cap) (.inr (zci hb)) hrow h2 hs he (by rw [h3]) htag (by omega);rw [hlen] at this;exact this
    . have:L=[]:=gv hlen;subst this;exact .lnil
theorem ye4 (hT:TRel GL A β S s):∀ {l l':List T} {vs:List Value},T.idsL 0 l'=true->Lend S l l'->VL A β (zaa s.obj) l vs->VL (fun f=>A f\/Own β f) bx0 (zaa s.obj) l' vs
  |[],[],_,_,_,.nil=>.nil
  |t :: l,t' :: l',_,hi,hl,.cons h1 h2=>by
    simp only [T.idsL,dr] at hi;exact .cons (yi0 hT hi.1 hl.1 h1) (ye4 hT hi.2 hl.2 h2)
  |[],_ :: _,_,_,hl,_=>hl.elim
  |_ :: _,[],_,_,hl,_=>hl.elim
theorem Pure.lend {f:jz} {args args':List T} {v:T} (k:Pure P Γ GL f args' v) (hl:Lend S args args') (hv:v.flat=true):zaj P Γ GL f args S v:=by
  intro A β s vargs hT hva;obtain ⟨k1,k2,k3⟩:=k;have hA1:∀ f,(A f\/Own β f)->f<s.n:=fun f hf=>hf.elim (hT.alt f) fun h=>(hT.dis f h).1;have hT0:=hT.bare (fun f=>A f\/Own β f) (fun _ h=>.inl h) hA1;obtain ⟨w,s',A',β',e1,e2,e3,e4⟩:=k3 _ bx0 s vargs hT0 (ye4 hT k1 hl hva)
  have hc:zj4 A β s A s':=by
    refine ⟨e4.can,fun _ h=>h,fun f hf=>.inl hf,fun f hf=>e4.keep f hf zjv,fun x hx=>?_,fun x hx=>?_⟩
    . rcases e4.rd x hx with q|⟨q,q2⟩
      . exact .inl q
      . exact .inr ⟨q,q2.resolve_right zjv⟩
    . rcases e4.wr x hx with q|⟨_,q⟩
      . exact q
      . exact absurd q zjv
  exact ⟨w,s',A,e1,hc.rel hT e2.inr e2.inv (fun f hf=>Nat.lt_of_lt_of_le (hT.alt f hf) e4.can.n),e3.flat hv,hc⟩
def bcut (β:Bx) (n:Nat):Bx:=fun b=>if b<n then β b else none
def zhs (n:Nat):Box->Bool
  |.gone=>true
  |.cells _ _ l=>T.idsL n l
  |.map l=>T.idsL n (l.map (·.1)) && T.idsL n (l.map (·.2))
def zww (S1 Sf:TS):Prop:=Sf.n<=S1.n/\∀ b,Sf.box b=.gone\/(b<Sf.n/\Sf.box b=S1.box b/\zhs Sf.n (S1.box b)=true)
theorem TRel.cut (hT:TRel GL A β S s) (hk:zww S S2):TRel GL A (bcut β S2.n) S2 s:=by
  have hat:∀ b,b<S2.n->bcut β S2.n b=β b:=fun b hb=>zAc hb
  have hsub:∀ b l,bcut β S2.n b=some l->β b=some l:=fun b l h=>by
    unfold bcut at h;split at h
    . exact h
    . simp at h
  have hown:∀ f,Own (bcut β S2.n) f->Own β f:=fun f ⟨b,hb⟩=>⟨b,hb.imp (fun ⟨u,N,h⟩=>⟨u,N,hsub _ _ h⟩) fun h=>hsub _ _ h⟩;refine ⟨hT.inr,hT.inv,hT.alt,fun f hf=>hT.dis f (hown f hf),fun b b' l l' f hb hb'=>hT.inj b b' l l' f (hsub _ _ hb) (hsub _ _ hb'),fun b hb=>zAd (by omega),fun b z N l hb=>?_,fun b l hb=>?_,hT.glob⟩
  . rcases hk.2 b with q|⟨q1,q2,q3⟩
    . rw [q] at hb;simp at hb
    . rw [q2] at hb;obtain ⟨c1,c2⟩:=hT.cells b z N l hb;rw [hb] at q3;refine ⟨c1,?_⟩;rcases c2 with ⟨d1,d2,d3⟩|⟨f,u,cs,rest,d1,d2,d3,d4,d5⟩
      . exact .inl ⟨by rw [hat b q1];exact d1,d2,d3⟩
      . exact .inr ⟨f,u,cs,rest,by rw [hat b q1];exact d1,d2,d3,VL.ids hat q3 d4,d5⟩
  . rcases hk.2 b with q|⟨q1,q2,q3⟩
    . rw [q] at hb;simp at hb
    . rw [q2] at hb;obtain ⟨r,es,c1,c2,c3,c4⟩:=hT.maps b l hb;rw [hb] at q3;simp only [zhs,dr] at q3;exact ⟨r,es,by rw [hat b q1];exact c1,c2,VL.ids hat q3.1 c3,VL.ids hat q3.2 c4⟩
theorem Call.enter {f:jz} {fn:Func} {body:Code} {args:List T} {v:T} {Sf:TS} (N:Nat) (hax:Γ.ax f=none) (hf:Γ.fn.at f=some fn) (hb:fn.body=some body) (hn:fn.ntmps=N) (hN:N<=512) (hl:args.length<=N) (hSf:S.n<=Sf.n) (hv:v.ids Sf.n=true)
    (k:TW P Γ GL N body (argT args 0 fun _=>.junk) S fun e h' S'=>(e=.normal\/e=.ret)/\∃ vs,resT Γ S' h' fn.results.toList=some vs/\∃ S1,ybw GL (tupT vs) S' v S1/\zww S1 Sf):Call P Γ GL f args S v Sf:=by
  intro A β s vargs hT hargs;obtain ⟨e,fr',s1,h1,h',S',⟨A',β',k1,k2,k3⟩,he,vs,hr,S1,hsh,hkp⟩:=k A β _ s (z6z hargs (FrOk.start hN) (by omega)) hT;obtain ⟨ws,s2,r1,r2,r3,r4,r5⟩:=zz8 k1 k2 hr;rw [<- r5] at r2;obtain ⟨A2,β2,q1,q2,q3⟩:=hsh A' β' s2 _ r3 (yj8 r2);have hall:Stp A β s A2 β2 s2:=k3.trans hT.le (r4.trans k2.le q3);have hat:∀ b,b<Sf.n->bcut β2 Sf.n b=β2 b:=fun b hb=>zAc hb
  have hsub:∀ b l,bcut β2 Sf.n b=some l->β2 b=some l:=fun b l h=>by
    unfold bcut at h;split at h
    . exact h
    . simp at h
  refine ⟨tupC ws,s2,A2,bcut β2 Sf.n,?_,q1.cut hkp,q2.ids hat hv,hall.can,hall.sub,hall.new,fun f hf=>?_,hall.keep,fun b l hb=>?_,hall.rd,hall.wr⟩
  . have hlen:=hargs.len;exact zrw hax hf hb (by omega) ⟨e,fr',s1,by rw [hn];exact h1,he,ws,r1,rfl⟩
  . obtain ⟨b,hb⟩:=hf;exact hall.own f ⟨b,hb.imp (fun ⟨u,N,h⟩=>⟨u,N,hsub _ _ h⟩) fun h=>hsub _ _ h⟩
  . obtain ⟨l',c1,c2⟩:=hall.bx b l hb
    have:b<S.n:=by
      by_cases hh:b<S.n
      . exact hh
      . rw [hT.next b (by omega)] at hb;simp at hb
    exact ⟨l',by rw [hat b (by omega)];exact c1,c2⟩
theorem zww.none (S:TS):zww S ts0:=⟨Nat.zero_le _,fun b=>.inl rfl⟩
theorem Pure.enter {f:jz} {fn:Func} {body:Code} {args:List T} {v:T} (N:Nat) (hax:Γ.ax f=none) (hf:Γ.fn.at f=some fn) (hb:fn.body=some body) (hn:fn.ntmps=N) (hN:N<=512) (hl:args.length<=N) (ha:T.idsL 0 args=true) (hv:v.ids 0=true)
    (k:TW P Γ GL N body (argT args 0 fun _=>.junk) ts0 fun e h' S'=>(e=.normal\/e=.ret)/\resT Γ S' h' fn.results.toList=some [v]):Pure P Γ GL f args v :=
  ⟨ha,hv,Call.enter N hax hf hb hn hN hl (dz _) hv (k.mono fun e h' S' ⟨h1,h2⟩=>⟨h1,[v],h2,S',ybw.refl _ _,zww.none S'⟩)⟩
theorem Pure.enterN {f:jz} {fn:Func} {body:Code} {args:List T} {vs:List T} (N:Nat) (hax:Γ.ax f=none) (hf:Γ.fn.at f=some fn) (hb:fn.body=some body) (hn:fn.ntmps=N) (hN:N<=512) (hl:args.length<=N) (ha:T.idsL 0 args=true) (hv:(tupT vs).ids 0=true)
    (k:TW P Γ GL N body (argT args 0 fun _=>.junk) ts0 fun e h' S'=>(e=.normal\/e=.ret)/\resT Γ S' h' fn.results.toList=some vs):Pure P Γ GL f args (tupT vs) :=
  ⟨ha,hv,Call.enter N hax hf hb hn hN hl (dz _) hv (k.mono fun e h' S' ⟨h1,h2⟩=>⟨h1,vs,h2,S',ybw.refl _ _,zww.none S'⟩)⟩
theorem TRel.dead (hT:TRel GL A β S s) {b:Nat} {l0:Loc} (hb:β b=some l0) (A':Nat->Prop) (hA:∀ f,A f->A' f) (hA2:∀ f,A' f->A f\/l0.fam=some f) :
    TRel GL A' (bnew β b .dead) (S.set b .gone) s/\Stp A β s A' (bnew β b .dead) s:=by
  have hse:bnew β b .dead b=some .dead:=zAc rfl;have hne:∀ b',b'≠b->bnew β b .dead b'=β b':=fun b' hb'=>zAd hb'
  have hle:qc β (bnew β b .dead):=fun i x hx=>by
    by_cases hi:i=b
    . subst hi;exact ⟨.dead,hse,by cases x<;>simp [Loc.le]⟩
    . exact ⟨x,by rw [hne i hi];exact hx,Loc.le_refl x⟩
  have hfam:∀ f,l0.fam=some f->Own β f:=fun f hf=>by
    cases l0 with
    |live f' u N=>simp [i4] at hf;subst hf;exact zci hb
    |map r=>simp [i4] at hf;subst hf;exact zd2 hb
    |nil=>simp [i4] at hf
    |dead=>simp [i4] at hf
  have hown:∀ f,Own (bnew β b .dead) f->Own β f/\l0.fam≠some f:=fun f ⟨b',hb'⟩=>by
    by_cases hi:b'=b
    . subst hi;rw [hse] at hb';rcases hb' with ⟨u,N,hb'⟩|hb'<;>simp at hb'
    . rw [hne b' hi] at hb';refine ⟨⟨b',hb'⟩,fun hh=>hi ?_⟩;rcases hb' with ⟨u,N,hb'⟩|hb'
      . exact hT.inj b' b _ l0 f hb' hb rfl hh
      . exact hT.inj b' b _ l0 f hb' hb rfl hh
  have hblt:b<S.n:=by
    by_cases hh:b<S.n
    . exact hh
    . rw [hT.next b (by omega)] at hb;simp at hb
  refine ⟨⟨hT.inr,hT.inv,fun f hf=>?_,fun f hf=>?_,fun b1 b2 l1 l2 f h1 h2 h3 h4=>?_,fun b' hb'=>?_,fun b' z N l hb'=>?_,fun b' l hb'=>?_,fun x hx=>⟨hA _ (hT.glob x hx).1,(hT.glob x hx).2⟩⟩,
    Can.refl _,hA,fun f hf=>(hA2 f hf).imp id fun q=>.inr (hfam f q),fun f hf=>.inl (hown f hf).1,fun _ _ _=>rfl,hle,fun _ h=>.inl h,fun _ h=>.inl h⟩
  . rcases hA2 f hf with q|q
    . exact hT.alt f q
    . exact (hT.dis f (hfam f q)).1
  . obtain ⟨q1,q2⟩:=hown f hf;refine ⟨(hT.dis f q1).1,fun hh=>?_⟩;rcases hA2 f hh with q|q
    . exact (hT.dis f q1).2 q
    . exact q2 q
  . by_cases e1:b1=b
    . subst e1;rw [hse] at h1;cases h1;simp [i4] at h3
    . by_cases e2:b2=b
      . subst e2;rw [hse] at h2;cases h2;simp [i4] at h4
      . rw [hne b1 e1] at h1;rw [hne b2 e2] at h2;exact hT.inj b1 b2 l1 l2 f h1 h2 h3 h4
  . have:S.n<=b':=hb';rw [hne b' (by omega)];exact hT.next b' this
  . by_cases hi:b'=b
    . subst hi;rw [g0] at hb';simp at hb'
    . rw [gl _ _ hi] at hb';exact (hT.cells b' z N l hb').mono hA (fun _ _=>rfl) hle (hne b' hi) fun _ _ _ _=>rfl
  . by_cases hi:b'=b
    . subst hi;rw [g0] at hb';simp at hb'
    . rw [gl _ _ hi] at hb';exact (hT.maps b' l hb').mono hA (fun _ _=>rfl) hle (hne b' hi) fun _ _=>rfl
theorem TRel.freeze (hT:TRel GL A β S s) {b N:Nat} {z:Bool} {l:List T} (hS:S.box b=.cells z N l) :
    ∃ A' β',TRel GL A' β' (S.set b .gone) s/\Stp A β s A' β' s/\∀ {e off len cap:Nat} {v:Value} {L:List T},VT A β (zaa s.obj) (.arr b e off len cap N) v->0<e->off+len*e<=N->(l.drop off).take (len*e)=L.flatMap gd->(∀ t,t∈L->t.cells.length=e)->L.length=len->len<=cap->VT A' β' (zaa s.obj) (.lst e L) v:=by
  obtain ⟨hlN,hc⟩:=hT.cells b z N l hS;rcases hc with ⟨hb,hN,_⟩|⟨f,u,cs,rest,hb,hz,hat,hvl,hone⟩
  . obtain ⟨k1,k2⟩:=hT.dead hb A (fun _ h=>h) (fun _ h=>.inl h);refine ⟨_,_,k1,k2,fun {e off len cap v L} hv he hoff hL hs hlen hcap=>?_⟩;rcases zf1 hT hS hv with ⟨f,u,rfl,hb',_⟩|⟨rfl,_,rfl,rfl,rfl,_⟩
    . rw [hb] at hb';simp at hb'
    . have:L=[]:=gv hlen;subst this;exact .lnil
  . obtain ⟨k1,k2⟩:=hT.dead hb (fun k=>A k\/k=f) (fun _ h=>.inl h) (fun k hk=>hk.imp id fun q=>by rw [q];rfl);refine ⟨_,_,k1,k2,fun {e off len cap v L} hv he hoff hL hs hlen hcap=>?_⟩;rcases zf1 hT hS hv with ⟨f',u',rfl,hb',htag⟩|⟨rfl,hb',_⟩
    . rw [hb] at hb';cases hb';have hcl:=hvl.len
      have hrow:zbu (zaa s.obj f).rows u=some cs:=by
        rw [hat];show zbu ((u,cs) :: rest) u=some cs;unfold zbu;rw [gw];rfl
      have h1:VL A β (zaa s.obj) (L.flatMap gd) ((cs.drop off).take (len*e)):=by rw [<- hL];exact (hvl.drop off).take _
      have h3:((cs.drop off).take (len*e)).length=len*e:=by rw [fi,gp];omega
      have:=VT.lst (A:=fun k=>A k\/k=f) (β:=bnew β b .dead) (g:=zaa s.obj) (off:=off) (cap:=cap) (.inr rfl) hrow (h1.mono (fun _ h=>.inl h) (fun _ _=>rfl) k2.bx) hs he (by rw [h3]) htag (by omega);rw [hlen] at this;exact this
    . rw [hb] at hb';simp at hb'
theorem TW.freeze {c:Code} (t:Nat) {b e off len cap M:Nat} {z:Bool} {l:List T} (L:List T) (ht:h t=.arr b e off len cap M) (hS:S.box b=.cells z M l) (he:0<e) (hoff:off+len*e<=M) (hL:(l.drop off).take (len*e)=L.flatMap gd) (hs:∀ t,t∈L->t.cells.length=e) (hlen:L.length=len) (hcap:len<=cap)
    (k:TW P Γ GL N c (tupd h t (.lst e L)) (S.set b .gone) Q):TW P Γ GL N c h S Q:=by
  intro A β fr s hF hT;obtain ⟨A',β',k1,k2,k3⟩:=hT.freeze hS;have hv:=hF.slot t;rw [ht] at hv
  have hF':FrOk A' β' (zaa s.obj) N (tupd h t (.lst e L)) fr:=⟨hF.nt,hF.le,fun u=>by
    by_cases hu:u=t
    . subst hu;rw [zjn];exact k3 hv he hoff hL hs hlen hcap
    . rw [zo1 _ _ _ _ hu];exact k2.vt hT (hF.slot u)⟩
  refine (k A' β' fr s hF' k1).mono ?_;rintro e2 fr2 s2 ⟨h2,S2,l2,q2⟩;exact ⟨h2,S2,Left.trans (h':=h) (fr':=fr) hT.le k2 l2,q2⟩
theorem TW.vec {c:Code} (t e:Nat) (ht:h t=.nils) (k:TW P Γ GL N c (tupd h t (.arr S.n e 0 0 0 0)) (S.add (.cells false 0 [])) Q):TW P Γ GL N c h S Q:=by
  intro A β fr s hF hT;have hv:=hF.slot t;rw [ht] at hv;have hb0:β S.n=none:=hT.next _ (dz _)
  have hle:qc β (bnew β S.n .nil):=zwc hb0;have hse:bnew β S.n .nil S.n=some .nil:=zAc rfl;have hne:∀ b',b'≠S.n->bnew β S.n .nil b'=β b':=fun b' hb'=>zAd hb'
  have hown:∀ f,Own (bnew β S.n .nil) f->Own β f:=fun f ⟨b',hb'⟩=>by
    by_cases hi:b'=S.n
    . subst hi;rw [hse] at hb';rcases hb' with ⟨u,N,hb'⟩|hb'<;>simp at hb'
    . rw [hne b' hi] at hb';exact ⟨b',hb'⟩
  have hst:Stp A β s A (bnew β S.n .nil) s:=⟨Can.refl _,fun _ h=>h,fun _ h=>.inl h,fun f hf=>.inl (hown f hf),fun _ _ _=>rfl,hle,fun _ h=>.inl h,fun _ h=>.inl h⟩
  have hT':TRel GL A (bnew β S.n .nil) (S.add (.cells false 0 [])) s:=by
    refine ⟨hT.inr,hT.inv,hT.alt,fun f hf=>hT.dis f (hown f hf),fun b1 b2 l1 l2 f h1 h2 h3 h4=>?_,fun b' hb'=>?_,fun b' z N l hb'=>?_,fun b' l hb'=>?_,hT.glob⟩
    . by_cases e1:b1=S.n
      . subst e1;rw [hse] at h1;cases h1;simp [i4] at h3
      . by_cases e2:b2=S.n
        . subst e2;rw [hse] at h2;cases h2;simp [i4] at h4
        . rw [hne b1 e1] at h1;rw [hne b2 e2] at h2;exact hT.inj b1 b2 l1 l2 f h1 h2 h3 h4
    . have:S.n+1<=b':=hb';rw [hne b' (by omega)];exact hT.next b' (by omega)
    . by_cases hi:b'=S.n
      . subst hi;rw [l8] at hb';cases hb';exact ⟨rfl,.inl ⟨hse,rfl,rfl⟩⟩
      . rw [ld _ _ hi] at hb';exact (hT.cells b' z N l hb').mono (fun _ h=>h) (fun _ _=>rfl) hle (hne b' hi) fun _ _ _ _=>rfl
    . by_cases hi:b'=S.n
      . subst hi;rw [l8] at hb';cases hb'
      . rw [ld _ _ hi] at hb';exact (hT.maps b' l hb').mono (fun _ h=>h) (fun _ _=>rfl) hle (hne b' hi) fun _ _=>rfl
  have hF':FrOk A (bnew β S.n .nil) (zaa s.obj) N (tupd h t (.arr S.n e 0 0 0 0)) fr:=⟨hF.nt,hF.le,fun u=>by
    by_cases hu:u=t
    . subst hu;rw [zjn];generalize fr.get u=w at hv;cases hv;exact .arrNil hse
    . rw [zo1 _ _ _ _ hu];exact hst.vt hT (hF.slot u)⟩
  refine (k A _ fr s hF' hT').mono ?_;rintro e2 fr2 s2 ⟨h2,S2,l2,q2⟩;exact ⟨h2,S2,Left.trans (h':=h) (fr':=fr) hT.le hst l2,q2⟩
end
def ziq:Op->Bool
  |.move _=>true
  |.assign _=>true
  |.pick _ _ _=>true
  |.build _ _=>true
  |.nilCheck _=>true
  |.sliceToArrayPointer _ _=>true
  |.makeFunc _ _ _=>true
  |.slice _ _ _ _ _=>true
  |.fieldAddr _ _ _=>true
  |.field _ _ _=>true
  |.indexAddr _ _ _=>true
  |.index _ _ _=>true
  |.extract _ _=>true
  |.unOp _ _ _=>true
  |.binOp _ _ _ _ _=>true
  |_=>false
def zi2:Op->Bool
  |.alloc _=>true
  |.box _ _=>true
  |.buildSlice _ _ _=>true
  |.makeSlice _ _ _=>true
  |o=>ziq o
section
variable {GL:List (Nat×List Value)} {A A' A0:Nat->Prop} {β β':Bx} {S S':TS} {s s' s2:CS} {P:ep} {Γ:Env} {N:Nat} {h h':Nat->T} {call:zc1} {ρ:d8->Value} {o:Oper} {v:Value}
theorem zlb {r:Option Value} (hc:retC s r=some (v,s')):s'=s:=by
  unfold retC at hc;split at hc<;>first | (cases hc;rfl) | (simp at hc)
theorem zuy {r:Option Value} (hc:zf9 P ρ o s r=some (v,s')):s'=s:=by
  unfold zf9 at hc;split at hc
  . cases hc;rfl
  . exact zlb hc
theorem z40 {r:Option (List Value)} (hc:aggC s r=some (v,s')):s'=s:=by
  unfold aggC at hc;split at hc<;>first | (cases hc;rfl) | (simp at hc)
theorem z39 {size:Nat} {ex:Bool} {a:Addr} {b:Option (Nat×Nat×Nat)} (hc:cutC s size ex a b=some (v,s')):s'=s:=by
  unfold cutC at hc;split at hc
  . rename_i l hh m
    cases hq:(d7 (Addr.ver a % 1024) 0 || (!ex && d7 (Addr.ver a % 1024) (size+1))) with
    |false=>rw [hq] at hc;simp at hc
    |true=>rw [hq] at hc;cases hc;rfl
  . simp at hc
theorem zv6 {d:je} {a:Addr} {lo hi mx:Option Value} (hc:zov Γ s d a lo hi mx=some (v,s')):s'=s:=by
  unfold zov at hc;split at hc
  . split at hc
    . rw [zb0] at hc;split at hc
      . exact z39 hc
      . simp at hc
    . simp at hc
  . simp at hc
theorem z2q {t:ed} {x:Value} {lo hi mx:Option Value} (hc:zdo Γ s t x lo hi mx=some (v,s')):s'=s:=by
  unfold zdo at hc;split at hc
  . split at hc
    . rename_i b;split at hc
      . cases hq:mx.isNone with
        |false=>rw [hq] at hc;simp at hc
        |true =>
          rw [hq,cond_true] at hc;unfold z9p at hc;split at hc<;>first | (cases hc;rfl) | (simp at hc)
      . simp at hc
    . split at hc
      . split at hc
        . split at hc
          . split at hc<;>first | (cases hc;rfl) | (simp at hc)
          . simp at hc
        . split at hc
          . exact z39 hc
          . simp at hc
      . simp at hc
    . split at hc
      . split at hc
        . exact zv6 hc
        . simp at hc
      . exact zv6 hc
    . simp at hc
  . simp at hc
theorem zxf {size k n:Nat} {a:Addr} (hc:zsw s size k n a=some (v,s')):s'=s:=by
  unfold zsw at hc
  cases hq:fb k n with
  |false=>rw [hq] at hc;simp at hc
  |true=>rw [hq] at hc;cases hc;rfl
theorem zx7 (hm:ziq o.op=true) (hc:cop P Γ call ρ o s=some (v,s')):s'=s:=by
  obtain ⟨d,op,ty,pos,e,g⟩:=o;unfold cop at hc;simp only at hm hc
  cases op with
  |move x=>cases hc;rfl
  |assign x=>cases hc;rfl
  |pick c a b =>
    simp only at hc;unfold zse at hc
    split at hc<;>first | (cases hc;rfl) | (simp at hc)
  |build t parts =>
    simp only at hc;unfold zio at hc;split at hc
    . split at hc
      . rename_i fs _;rw [zb0] at hc;split at hc
        . exact z40 hc
        . simp at hc
      . split at hc
        . exact z40 hc
        . simp at hc
      . simp at hc
    . simp at hc
  |nilCheck x =>
    simp only at hc;unfold zjh at hc
    split at hc<;>first | (cases hc;rfl) | (simp at hc)
  |sliceToArrayPointer t x =>
    simp only at hc;unfold zwr at hc;split at hc
    . split at hc
      . split at hc
        . rw [Bool.cond_eq_ite] at hc;split at hc
          . cases hc;rfl
          . simp at hc
        . simp at hc
      . simp at hc
    . simp at hc
  |makeFunc fn a b =>
    cases fn with
    |func f=>cases hc;rfl
    |_=>simp at hc
  |slice t x lo hi mx=>exact z2q hc
  |fieldAddr t x k =>
    simp only at hc;unfold zc7 at hc;split at hc
    . split at hc
      . split at hc
        . split at hc
          . rename_i off size _
            cases hq:d7 size 0 with
            |true=>rw [hq] at hc;simp at hc
            |false=>rw [hq] at hc;cases hc;rfl
          . simp at hc
        . simp at hc
      . simp at hc
    . simp at hc
  |field t x k =>
    simp only at hc;unfold zm4 at hc;split at hc
    . split at hc
      . split at hc
        . split at hc
          . split at hc
            . exact zlb hc
            . simp at hc
          . simp at hc
        . simp at hc
      . simp at hc
    . simp at hc
  |indexAddr t x k =>
    simp only at hc;unfold zbr at hc;split at hc
    . split at hc
      . split at hc
        . split at hc
          . exact zxf hc
          . simp at hc
        . simp at hc
      . split at hc
        . split at hc
          . exact zxf hc
          . simp at hc
        . simp at hc
      . simp at hc
    . simp at hc
  |index t x k =>
    simp only at hc;unfold zkn at hc;split at hc
    . split at hc
      . split at hc
        . split at hc
          . rw [Bool.cond_eq_ite] at hc;split at hc
            . exact zlb hc
            . simp at hc
          . simp at hc
        . simp at hc
      . split at hc
        . split at hc<;>first | (cases hc;rfl) | (simp at hc)
        . simp at hc
      . simp at hc
    . simp at hc
  |extract x k =>
    simp only at hc;unfold zgr at hc;split at hc
    . exact zlb hc
    . simp at hc
  |unOp op t x=>exact zuy hc
  |binOp op t x y t2 =>
    simp only at hc;unfold zld at hc;split at hc
    . cases hc;rfl
    . exact zuy hc
  |_=>simp [ziq] at hm
theorem znv {tag:Nat} {cs:List Value} {a:Addr} (hc:s.newRow tag cs=some (a,s')):s'.rd=s.rd/\s'.wr=s.wr:=by
  unfold CS.newRow at hc;rw [zb0] at hc;split at hc
  . cases hc;exact ⟨rfl,rfl⟩
  . simp at hc
theorem z76 {r:Option (Addr×CS)} (hr:∀ a t,r=some (a,t)->t.rd=s.rd/\t.wr=s.wr) (hc:ptrC r=some (v,s')):s'.rd=s.rd/\s'.wr=s.wr:=by
  unfold ptrC at hc;split at hc
  . cases hc;exact hr _ _ rfl
  . simp at hc
theorem zxk {l c:Nat} {r:Option (Addr×CS)} (hr:∀ a t,r=some (a,t)->t.rd=s.rd/\t.wr=s.wr) (hc:zhp l c r=some (v,s')):s'.rd=s.rd/\s'.wr=s.wr:=by
  unfold zhp at hc;split at hc
  . cases hc;exact hr _ _ rfl
  . simp at hc
theorem z5u (hm:zi2 o.op=true) (hc:cop P Γ call ρ o s=some (v,s')):s'.rd=s.rd/\s'.wr=s.wr:=by
  by_cases hq:ziq o.op=true
  . rw [zx7 hq hc];exact ⟨rfl,rfl⟩
  obtain ⟨d,op,ty,pos,e,g⟩:=o;unfold cop at hc;simp only at hm hc hq
  cases op with
  |alloc e =>
    simp only at hc;unfold zko at hc;split at hc
    . exact z76 (fun a t h=>znv h) hc
    . simp at hc
  |box e x=>exact z76 (fun a t h=>znv h) hc
  |buildSlice t n parts =>
    simp only at hc;unfold zce at hc;split at hc
    . rename_i j _
      cases hb:(fg (n*j.size) 16777216 && fb 0 j.size) with
      |false=>rw [hb] at hc;simp at hc
      |true =>
        rw [hb,cond_true] at hc;split at hc
        . exact zxk (fun a t h=>znv h) hc
        . simp at hc
    . simp at hc
  |makeSlice t l c =>
    simp only at hc;unfold ze3 at hc;split at hc
    . rename_i j l' c' _ _ _
      cases hb:(fg l' c' && fg (c'*(j.bytes+1)) 1000000000 && fb 0 j.size) with
      |false=>rw [hb] at hc;simp at hc
      |true =>
        rw [hb,cond_true] at hc;exact zxk (fun a t h=>znv h) hc
    . simp at hc
  |_=>simp_all [zi2,ziq]
def yqv (o:Oper) (x:Lg):Prop:=(ziq o.op=true->x.rd=[]/\x.wr=[]/\x.lo=x.hi)/\(zi2 o.op=true->x.rd=[]/\x.wr=[])
theorem ztn {ops:List Oper}:∀ {l:List Oper} {fr fr':Fr} {s s':CS} {L:List Lg},drawC P Γ call ops l fr s=some (L,fr',s')->L.length=l.length/\∀ (j:Nat) (o:Oper) (x:Lg),l[j]?=some o->L[j]?=some x->yqv o x
  |[],fr,fr',s,s',L,hc=>by
    simp only [drawC,dp,du] at hc;obtain ⟨rfl,_,_⟩:=hc;exact ⟨rfl,fun j o x hj=>by simp at hj⟩
  |o :: l,fr,fr',s,s',L,hc=>by
    simp only [drawC] at hc;split at hc
    . rename_i fr1 t h1;split at hc
      . rename_i logs fr2 s2 h2;cases hc;obtain ⟨i1,i2⟩:=ztn h2;refine ⟨by simp [i1],fun j o' x hj hx=>?_⟩
        cases j with
        |zero =>
          simp only [List.getElem?_cons_zero,dp] at hj hx;subst hj;subst hx;unfold zcj at h1
          cases hw:zc4 ops fr o with
          |false =>
            rw [hw] at h1;simp only [cond_false,dp,du] at h1;rw [<- h1.2];exact ⟨fun _=>⟨rfl,rfl,rfl⟩,fun _=>⟨rfl,rfl⟩⟩
          |true =>
            rw [hw,cond_true] at h1;split at h1
            . rename_i v s1 hcop;cases h1;refine ⟨fun hm=>?_,fun hm=>?_⟩
              . rw [zx7 hm hcop];exact ⟨rfl,rfl,rfl⟩
              . exact z5u hm hcop
            . simp at h1
        |succ j=>exact i2 j o' x (by simpa using hj) (by simpa using hx)
      . simp at hc
    . simp at hc
theorem zkb {ops:List Oper}:∀ {l m:List Oper} {fr fr1 fr2:Fr} {s s1 s2:CS} {L M:List Lg},drawC P Γ call ops l fr s=some (L,fr1,s1)->drawC P Γ call ops m fr1 s1=some (M,fr2,s2)->drawC P Γ call ops (l++m) fr s=some (L++M,fr2,s2)
  |[],m,fr,fr1,fr2,s,s1,s2,L,M,h1,h2=>by
    simp only [drawC,dp,du] at h1;obtain ⟨rfl,rfl,rfl⟩:=h1;exact h2
  |o :: l,m,fr,fr1,fr2,s,s1,s2,L,M,h1,h2=>by
    simp only [drawC] at h1;simp only [fd,drawC];split at h1
    . rename_i fra t ha;split at h1
      . rename_i logs frb sb hb;cases h1;rw [zkb hb h2];rfl
      . simp at h1
    . simp at h1
theorem zzf {m:Nat} {y:Lg}:∀ {done:List Lg} {i:Nat},(∀ j x,done[j]?=some x->ft m (i+j)=true\/clash x y=false)->zh3 clash m y done i=true
  |[],_,_=>rfl
  |x :: l,i,h=>by
    have h0:ft m i=true\/clash x y=false:=h 0 x rfl
    have ih:zh3 clash m y l (i+1)=true:=zzf fun j z hz=>by
      have:=h (j+1) z (by simpa using hz);rw [show i+1+j=i+(j+1) by omega];exact this
    rcases h0 with h0|h0
    . rw [zv9 h0];exact ih
    . rw [zze h0];exact ih
theorem zn8 {ms:List Nat}:∀ {l done:List Lg},(∀ i j x y,i<j->done.length<=j->(done++l)[i]?=some x->(done++l)[j]?=some y->ft (nth 0 ms j) i=true\/clash x y=false)->zgh clash done l ms=true
  |[],_,_=>rfl
  |y :: l,done,h=>by
    rw [zng,dr];refine ⟨zzf fun j x hx=>?_,zn8 fun i j x z hij hd hx hz=>?_⟩
    . rw [fz];have hj:=(List.getElem?_eq_some_iff.1 hx).1;exact h j done.length x y hj (dz _) (by rw [List.getElem?_append_left hj];exact hx) (by simp)
    . rw [fe] at hx hz;rw [er,List.length_singleton] at hd;exact h i j x z hij (by omega) hx hz
theorem zu3 {ρ1 ρ2:d8->T} {l:List d8} (hρ:∀ x,x∈l->ρ1 x=ρ2 x):l.map ρ1=l.map ρ2:=List.map_congr_left hρ
theorem zro {ρ1 ρ2:d8->T} {l:Option d8} (hρ:∀ x,l=some x->ρ1 x=ρ2 x):l.map ρ1=l.map ρ2:=by
  cases l with
  |none=>rfl
  |some x=>simp only [Option.map_some,hρ x rfl]
theorem zsd {place:Nat->Option (Nat×Nat)} {ρ1 ρ2:d8->T}:∀ {l:List (Nat×d8)},(∀ p,p∈l->ρ1 p.2=ρ2 p.2)->zdn place ρ1 l=zdn place ρ2 l
  |[],_=>rfl
  |(k,x) :: l,hρ=>by
    unfold zdn;rw [zsd fun p hp=>hρ p (by simp [hp]),hρ (k,x) (by simp)]
theorem zsp {e:Nat} {ρ1 ρ2:d8->T}:∀ {l:List (Nat×d8)} {i:Nat},(∀ p,p∈l->ρ1 p.2=ρ2 p.2)->zd7 e ρ1 i l=zd7 e ρ2 i l
  |[],_,_=>rfl
  |(k,x) :: l,i,hρ=>by
    unfold zd7;rw [zsp fun p hp=>hρ p (by simp [hp]),hρ (k,x) (by simp)]
theorem z5f {ρ1 ρ2:d8->T} (hρ:∀ x,x∈o.op.operands.toList->ρ1 x=ρ2 x):zfg P Γ ρ1 o S=zfg P Γ ρ2 o S:=by
  obtain ⟨d,op,ty,pos,e,g⟩:=o;simp only at hρ;unfold zfg
  cases op with
  |move x=>simp only [hρ x (by simp [eg])]
  |assign x=>simp only [hρ x (by simp [eg])]
  |pick c a b=>simp only [hρ c (by simp [eg]),hρ a (by simp [eg]),hρ b (by simp [eg])]
  |build t parts =>
    have hp:∀ p,p∈parts.toList->ρ1 p.2=ρ2 p.2:=fun p hp=>hρ p.2 (by simp [eg];exact ⟨p.1,by simpa using hp⟩)
    simp only [zku,zsd hp]
  |buildSlice t n parts =>
    have hp:∀ p,p∈parts.toList->ρ1 p.2=ρ2 p.2:=fun p hp=>hρ p.2 (by simp [eg];exact ⟨p.1,by simpa using hp⟩)
    simp only [zah,zsp hp]
  |load t x=>simp only [hρ x (by simp [eg])]
  |nilCheck x=>simp only [hρ x (by simp [eg])]
  |sliceToArrayPointer t x=>simp only [hρ x (by simp [eg])]
  |makeFunc fn first captured =>
    have h1:first.toList.map ρ1=first.toList.map ρ2:=zu3 fun x hx=>hρ x (by simp [eg];left;simpa using hx)
    have h2:captured.toList.map ρ1=captured.toList.map ρ2:=zu3 fun x hx=>hρ x (by simp [eg];right;simpa using hx)
    simp only [h1,h2]
  |slice t x lo hi mx =>
    have h1:lo.map ρ1=lo.map ρ2:=zro fun y hy=>hρ y (by simp [eg,hy]);have h2:hi.map ρ1=hi.map ρ2:=zro fun y hy=>hρ y (by simp [eg,hy]);have h3:mx.map ρ1=mx.map ρ2:=zro fun y hy=>hρ y (by simp [eg,hy])
    simp only [hρ x (by simp [eg]),h1,h2,h3]
  |fieldAddr t x k=>simp only [hρ x (by simp [eg])]
  |field t x k=>simp only [hρ x (by simp [eg])]
  |indexAddr t x ix=>simp only [hρ x (by simp [eg]),hρ ix (by simp [eg])]
  |index t x ix=>simp only [hρ x (by simp [eg]),hρ ix (by simp [eg])]
  |extract x k=>simp only [hρ x (by simp [eg])]
  |unOp op t x=>simp only [hρ x (by simp [eg])]
  |convert src dst x=>simp only [hρ x (by simp [eg])]
  |binOp op t x y t2=>simp only [hρ x (by simp [eg]),hρ y (by simp [eg])]
  |lookup t x k ok=>simp only [hρ x (by simp [eg]),hρ k (by simp [eg])]
  |call c =>
    obtain ⟨cal,args,tys⟩:=c
    cases cal with
    |builtin b =>
      have ha:∀ x,x∈args.toList->ρ1 x=ρ2 x:=fun x hx=>hρ x (by simp [eg,Call.operands];simpa using hx);simp only;unfold zmq
      cases b with
      |len =>
        simp only;split
        . rename_i x t e1 e2;rw [ha x (by rw [e1];simp)]
        . rfl
      |min =>
        simp only;split
        . rename_i x y e1;rw [ha x (by rw [e1];simp),ha y (by rw [e1];simp)]
        . rfl
      |max =>
        simp only;split
        . rename_i x y e1;rw [ha x (by rw [e1];simp),ha y (by rw [e1];simp)]
        . rfl
      |_=>rfl
    |_=>rfl
  |_=>rfl
end
end
end Go.Proofs.YteifcnjpjjaikaaGreat
