/- Part 4 of the proof of SignChecksEverything (several texts in one; no further condition). -/
import Derived.Test.YtcgdomhednbdpaaDoorZC
set_option linter.unusedSimpArgs false
set_option linter.unusedVariables false
set_option linter.unusedSectionVars false
namespace Go.Proofs.YtcgdomhednbdpaaDoor
section
open Go Go.RowKit
def yeu (c:UInt8):T:=.int .u8 (c.toNat:Int)
def zgj (b:ByteArray):List T:=b.data.toList.map yeu
section
variable {GL:List (Nat×List Value)} {A A' A2:Nat→Prop} {β β' β2:Bx} {S S':TS} {s s' s2:CS} {P:Program} {Γ:Env}
theorem zq7 {g:Nat→Fam}:∀ (l:List UInt8),VL A β g (l.map yeu) (l.map fun b=>.int .u8 b.toNat)
 |[]=>.nil
 |c :: l=>.cons (.int _ _) (zq7 l)
noncomputable def tSrc (S:TS) (e:Nat):T→Option (Nat×List T)
 |.lst es l=>bif Nat.beq es e then some (l.length,l.flatMap T.cells) else none
 |.str b=>bif Nat.beq e 1 then some (b.size,zgj b) else none
 |.nils=>some (0,[])
 |.arr b es off len cap N=>(match S.box b with
  |.cells _ N' l=>bif Nat.beq N N' && (Nat.beq es e && Nat.ble (off+len*e) N) then some (len,(l.drop off).take (len*e)) else none
  |_=>none)
 |.emp es=>bif Nat.beq es e then some (0,[]) else none
 |_=>none
def Rd (A:Nat→Prop) (β:Bx) (s s':CS):Prop:=s'=s∨∃ f,(A f∨Own β f)∧s'={ s with rd:=ins s.lim s.rd f }
theorem Rd.rel (h:TRel GL A β S s) (k:Rd A β s s'):TRel GL A β S s'∧Stp A β s A β s'∧s'.obj=s.obj∧s'.n=s.n∧s'.lim=s.lim∧s'.wr=s.wr:=by
 rcases k with rfl|⟨f,hf,rfl⟩
 ·exact ⟨h,Stp.refl,rfl,rfl,rfl,rfl⟩
 ·exact ⟨h.read f,Stp.read hf,rfl,rfl,rfl,rfl⟩
theorem Rd.rel0 (h:TRel GL A β S s) (k:Rd A β s s'):TRel GL A β S s'∧zi3 A β s A s':=by
 rcases k with rfl|⟨f,hf,rfl⟩
 ·exact ⟨h,Can.refl _,fun _ h=>h,fun _ h=>.inl h,fun _ _=>rfl,fun _ h=>.inl h,fun _ h=>h⟩
 ·exact ⟨h.read f,zi3.read hf⟩
theorem zvs (h:TRel GL A β S s) {e n:Nat} {y:T} {xs:List T} {v:Value} (he:0<e) (hy:VT A β (zag s.obj) y v) (ht:tSrc S e y=some (n,xs)) :
    lenC v=some n∧xs.length=n*e∧∀ k,k≤n→∃ ys s',s.firstCells e k v=some (ys,s')∧VL A β (zag s.obj) (xs.take (k*e)) ys∧Rd A β s s':=by
  unfold tSrc at ht;split at ht
  · rename_i es l
    cases hq:Nat.beq es e with
    |false=>rw [hq] at ht;simp at ht
    |true =>
      rw [hq] at ht;have:=Nat.eq_of_beq_eq_true hq;subst this;cases ht
      cases hy with
      |lnil =>
        refine ⟨rfl,by simp,fun k hk=>?_⟩;have:k=0:=by simpa using hk
        subst this;refine ⟨[],s,?_,by simpa using VL.nil,.inl rfl⟩;unfold CS.firstCells
        simp
      |lst k1 k2 k3 k4 k5 k6 k7 k8 =>
        rename_i f u off cap cs cs0;refine ⟨rfl,zqw k4,fun k hk=>?_⟩;have hcl:cs.length=l.length*es:=by rw [← k3.len,zqw k4]
        have hkl:k*es≤l.length*es:=Nat.mul_le_mul_right es hk
        have hcs0:off+cs.length≤cs0.length∨cs.length=0:=by
          have:=congrArg List.length k6;rw [List.length_take,List.length_drop] at this;omega
        cases hz:Nat.beq (k*es) 0 with
        |true =>
          have hz':=Nat.eq_of_beq_eq_true hz;refine ⟨[],s,?_,by rw [hz'];simpa using VL.nil,.inl rfl⟩;unfold CS.firstCells
          simp only [hz,cond_true]
        |false =>
          have hnz:k*es≠0:=fun hh=>by rw [hh] at hz;simp at hz
          refine ⟨cs.take (k*es),{ s with rd:=ins s.lim s.rd f },?_,k3.take _,.inr ⟨f,.inl k1,rfl⟩⟩;unfold CS.firstCells CS.readRow;simp only [hz,cond_false,zfn,zdc,k2,zk0];rw [z47 (by omega)]
          have:(cs0.drop off).take (k*es)=cs.take (k*es):=by
            rw [← k6,List.take_take,Nat.min_eq_left (by omega)]
          rw [this]
  · rename_i b
    cases hq:Nat.beq e 1 with
    |false=>rw [hq] at ht;simp at ht
    |true =>
      rw [hq] at ht;have:=Nat.eq_of_beq_eq_true hq;subst this;cases ht;cases hy;refine ⟨rfl,by simp [zgj],fun k hk=>⟨_,s,zlt hk,?_,.inl rfl⟩⟩
      have:zfv (b.extract 0 k)=(b.data.toList.take k).map fun b=>.int .u8 b.toNat:=by
        unfold zfv;simp [ByteArray.data_extract]
      rw [this,Nat.mul_one,zgj,← List.map_take];exact zq7 _
  · cases ht;cases hy;refine ⟨rfl,by simp,fun k hk=>?_⟩;have:k=0:=by omega
    subst this;refine ⟨[],s,?_,by simpa using VL.nil,.inl rfl⟩;unfold CS.firstCells;simp
  · rename_i b es off len cap N;split at ht
    · rename_i z N' l hS
      cases hq:(Nat.beq N N' && (Nat.beq es e && Nat.ble (off+len*e) N)) with
      |false=>rw [hq] at ht;simp at ht
      |true =>
        rw [hq] at ht;simp only [Bool.and_eq_true] at hq;obtain ⟨q1,q2,q3⟩:=hq;have:=Nat.eq_of_beq_eq_true q1;subst this;have:=Nat.eq_of_beq_eq_true q2;subst this;have q3:=zax.1 q3;simp only [cond_true,Option.some.injEq,Prod.mk.injEq] at ht;obtain ⟨rfl,rfl⟩:=ht;have hlN:=(h.cells b z N l hS).1;have hxl:((l.drop off).take (len*es)).length=len*es:=by rw [List.length_take,List.length_drop];omega
        rcases zf8 h hS hy with ⟨f,u,rfl,hb,_⟩|⟨rfl,hb,rfl,rfl,rfl,rfl⟩
        · refine ⟨rfl,hxl,fun k hk=>?_⟩;have hkl:k*es≤len*es:=Nat.mul_le_mul_right es hk;obtain ⟨cs,h1,h2,h3⟩:=h.look (off:=off) hS hb;have hcl:=h2.len
          cases hz:Nat.beq (k*es) 0 with
          |true =>
            have hz':=Nat.eq_of_beq_eq_true hz;refine ⟨[],s,?_,by rw [hz'];simpa using VL.nil,.inl rfl⟩;unfold CS.firstCells
            simp only [hz,cond_true]
          |false =>
            refine ⟨(cs.drop off).take (k*es),{ s with rd:=ins s.lim s.rd f },?_,?_,.inr ⟨f,.inr (zb2 hb),rfl⟩⟩
            · unfold CS.firstCells;simp only [hz,cond_false,h1,zk0];rw [z47 (by omega)]
            · rw [List.take_take,Nat.min_eq_left (by omega)];exact (h2.drop off).take _
        · refine ⟨rfl,by simp,fun k hk=>?_⟩;have:k=0:=by omega
          subst this;refine ⟨[],s,?_,by simpa using VL.nil,.inl rfl⟩;unfold CS.firstCells;simp
    · simp at ht
  · rename_i es
    cases hq:Nat.beq es e with
    |false=>rw [hq] at ht;simp at ht
    |true =>
      rw [hq] at ht;cases ht;cases hy;refine ⟨rfl,by simp,fun k hk=>?_⟩;have:k=0:=by omega
      subst this;refine ⟨[],s,?_,by simpa using VL.nil,.inl rfl⟩;unfold CS.firstCells;simp
  · simp at ht
noncomputable def tLen (Γ:Env) (S:TS) (t:TypeId) (x:T):Option T:=match Γ.ti.at t with
 |some i=>(match i.desc,x with
  |.string,.str b=>some (.int .i64 b.size)
  |.array n _,_=>some (.int .i64 n)
  |.slice _,.lst _ l=>some (.int .i64 l.length)
  |.slice _,.nils=>some (.int .i64 0)
  |.slice _,.emp _=>some (.int .i64 0)
  |.slice _,.arr b _ _ len _ N=>bif S.has b N then some (.int .i64 len) else none
  |_,_=>none)
 |none=>none
theorem yhf (h:TRel GL A β S s) {t:TypeId} {x r:T} {v:Value} (hx:VT A β (zag s.obj) x v) (ht:tLen Γ S t x=some r):Ok0 GL A β S s (ziv Γ s t v) r:=by
 unfold tLen at ht;split at ht
 ·rename_i i hi;split at ht
  ·rename_i b hd;cases ht;cases hx;have:ziv Γ s t (.string b)=some (.int .i64 b.size,s):=by unfold ziv;simp only [hi,hd]
   rw [this];exact Ok0.same h (.int _ _)
  ·rename_i n e hd;cases ht;have:ziv Γ s t v=some (.int .i64 n,s):=by unfold ziv;simp only [hi,hd]
   rw [this];exact Ok0.same h (.int _ _)
  ·rename_i e es l hd;cases ht;have key:∀ a n c,ziv Γ s t (.slice a n c)=some (.int .i64 n,s):=fun a n c=>by unfold ziv;simp only [hi,hd]
   cases hx with
   |lnil=>rw [key];exact Ok0.same h (.int _ _)
   |lst=>rw [key];exact Ok0.same h (.int _ _)
  ·rename_i e hd;cases ht;have key:∀ a n c,ziv Γ s t (.slice a n c)=some (.int .i64 n,s):=fun a n c=>by unfold ziv;simp only [hi,hd]
   cases hx;rw [key];exact Ok0.same h (.int _ _)
  ·rename_i e es hd;cases ht;have key:∀ a n c,ziv Γ s t (.slice a n c)=some (.int .i64 n,s):=fun a n c=>by unfold ziv;simp only [hi,hd]
   cases hx;rw [key];exact Ok0.same h (.int _ _)
  ·rename_i e b es off len cap N hd;have key:∀ a n c,ziv Γ s t (.slice a n c)=some (.int .i64 n,s):=fun a n c=>by unfold ziv;simp only [hi,hd]
   cases hs:S.has b N with
   |false=>rw [hs] at ht;simp at ht
   |true =>
    rw [hs] at ht;cases ht;obtain ⟨z,l,hS⟩:=TS.has_ok hs;rcases zf8 h hS hx with ⟨f,u,rfl,hb,_⟩|⟨rfl,hb,rfl,rfl,rfl,rfl⟩
    ·rw [key];exact Ok0.same h (.int _ _)
    ·rw [key];exact Ok0.same h (.int _ _)
  ·simp at ht
 ·simp at ht
def zdo:T→Value
 |.int k n=>.int k n
 |_=>undef
theorem zr9 {g:Nat→Fam} {t:T} {v:Value} {n:Nat} (h:VT A β g t v) (hn:zet (zdo t)=some n):zet v=some n:=by
 unfold zdo at hn;split at hn
 ·cases h;exact hn
 ·simp [zet,undef] at hn
inductive VO (A:Nat→Prop) (β:Bx) (g:Nat→Fam):Option T→Option Value→Prop
 |none:VO A β g none none
 |some {t v}:VT A β g t v→VO A β g (some t) (some v)
noncomputable def natO (d:Nat):Option Value→Option Nat
 |some v=>zet v
 |none=>some d
theorem zpc (len cap : Nat) (lo hi mx : Option Value) : zbc len cap lo hi mx = match natO cap mx, natO len hi, natO 0 lo with
    |some m,some h,some l=>bif Nat.ble l h && Nat.ble h m && Nat.ble m cap && (mx.isNone || hi.isSome) then some (l,h,m) else none
    |_,_,_=>none:=by
  unfold zbc;cases lo<;>cases hi<;>cases mx<;>rfl
theorem zj8 {g:Nat→Fam} {len cap:Nat} {lo hi mx:Option T} {lov hiv mxv:Option Value} {r:Nat×Nat×Nat} (h1:VO A β g lo lov) (h2:VO A β g hi hiv) (h3:VO A β g mx mxv) (hb:zbc len cap (lo.map zdo) (hi.map zdo) (mx.map zdo)=some r):zbc len cap lov hiv mxv=some r:=by
 have key:∀ {o:Option T} {o':Option Value} {d k:Nat},VO A β g o o'→natO d (o.map zdo)=some k→natO d o'=some k:=by
  intro o o' d k ho hk
  cases ho with
  |none=>exact hk
  |some hv=>exact zr9 hv hk
 rw [zpc] at hb ⊢;split at hb
 ·rename_i m hh l e1 e2 e3;rw [key h3 e1,key h2 e2,key h1 e3];have n1:mxv.isNone=(mx.map zdo).isNone:=by cases h3<;>rfl
  have n2:hiv.isSome=(hi.map zdo).isSome:=by cases h2<;>rfl
  simp only [n1,n2];exact hb
 ·simp at hb
noncomputable def zrf (Γ:Env) (S:TS) (t:TypeId) (x:T) (lo hi mx:Option T):Option T:=match Γ.ti.at t with
 |some i=>(match x with
  |.str b=>(match i.desc,mx with
   |.string,none=>(match zbc b.size b.size (lo.map zdo) (hi.map zdo) none with|some (l,h,_)=>some (.str (b.extract l h))|none=>none)
   |_,_=>none)
  |.nils=>(match i.desc with
   |.slice e=>(match Γ.ti.at e with|some _=>(match zbc 0 0 (lo.map zdo) (hi.map zdo) (mx.map zdo) with|some (0,0,0)=>some .nils|_=>none)|none=>none)
   |_=>none)
  |.arr b es off len cap N=>(match i.desc with
   |.slice e=>(match Γ.ti.at e with
    |some j=>bif S.has b N && Nat.beq es j.size then (match zbc len cap (lo.map zdo) (hi.map zdo) (mx.map zdo) with|some (l,h,m)=>some (.arr b es (off+l*es) (h - l) (m - l) N)|none=>none) else none
    |none=>none)
   |_=>none)
  |.lst es l=>(match i.desc,mx with
   |.slice e,none=>(match Γ.ti.at e with
    |some j=>bif Nat.beq es j.size then (match zbc l.length l.length (lo.map zdo) (hi.map zdo) none with|some (a,h,_)=>some (.lst es ((l.drop a).take (h - a)))|none=>none) else none
    |none=>none)
   |_,_=>none)
  |.ptr b off N=>(match S.box b,i.desc with
   |.cells true N' _,.array n e=>(match Γ.ti.at e with
    |some j=>bif Nat.beq N N' && Nat.ble n 1000000000 then (match zbc n n (lo.map zdo) (hi.map zdo) (mx.map zdo) with|some (l,h,m)=>some (.arr b j.size (off+l*j.size) (h - l) (m - l) N)|none=>none) else none
    |none=>none)
   |.cells true N' _,.pointer arr=>(match Γ.ti.at arr with
    |some ia=>(match ia.desc with
     |.array n e=>(match Γ.ti.at e with
      |some j=>bif Nat.beq N N' && Nat.ble n 1000000000 then (match zbc n n (lo.map zdo) (hi.map zdo) (mx.map zdo) with|some (l,h,m)=>some (.arr b j.size (off+l*j.size) (h - l) (m - l) N)|none=>none) else none
      |none=>none)
     |_=>none)
    |none=>none)
   |_,_=>none)
  |_=>none)
 |none=>none
theorem zvh {len cap:Nat} {lo hi:Option Value} {a h m:Nat} (hc:len≤cap) (hb:zbc len len lo hi none=some (a,h,m)):zbc len cap lo hi none=some (a,h,cap)∧a≤h∧h≤len:=by
 rw [zpc] at hb ⊢;split at hb
 ·rename_i m' h' l' e1 e2 e3;have e1':len=m':=by simpa [natO] using e1
  subst e1';rw [e2,e3,show natO cap none=some cap from rfl];simp only
  cases hq:(Nat.ble l' h' && Nat.ble h' len && Nat.ble len len && ((none:Option Value).isNone || hi.isSome)) with
  |false=>rw [hq] at hb;simp at hb
  |true =>
   rw [hq] at hb;simp only [cond_true,Option.some.injEq,Prod.mk.injEq] at hb;obtain ⟨rfl,rfl,rfl⟩:=hb;simp only [Bool.and_eq_true] at hq;obtain ⟨⟨⟨q1,q2⟩,q3⟩,q4⟩:=hq;have q2':=zax.1 q2;refine ⟨?_,zax.1 q1,q2'⟩;rw [q1,zcl (show h'≤cap by omega),zcl (Nat.le_refl cap)];rfl
 ·simp at hb
theorem z0n {len cap:Nat} {lo hi mx:Option Value} {a h m:Nat} (hb:zbc len cap lo hi mx=some (a,h,m)):a≤h∧h≤m∧m≤cap:=by
 rw [zpc] at hb;split at hb
 ·rename_i m' h' l' e1 e2 e3
  cases hq:(Nat.ble l' h' && Nat.ble h' m' && Nat.ble m' cap && (mx.isNone || hi.isSome)) with
  |false=>rw [hq] at hb;simp at hb
  |true =>
   rw [hq] at hb;simp only [cond_true,Option.some.injEq,Prod.mk.injEq] at hb;obtain ⟨rfl,rfl,rfl⟩:=hb;simp only [Bool.and_eq_true] at hq;exact ⟨zax.1 hq.1.1.1,zax.1 hq.1.1.2,zax.1 hq.1.2⟩
 ·simp at hb
theorem z7q (h:TRel GL A β S s) {t:TypeId} {x r:T} {v:Value} {lo hi mx:Option T} {lov hiv mxv:Option Value} (hx:VT A β (zag s.obj) x v) (h1:VO A β (zag s.obj) lo lov) (h2:VO A β (zag s.obj) hi hiv) (h3:VO A β (zag s.obj) mx mxv) (ht:zrf Γ S t x lo hi mx=some r):Ok0 GL A β S s (zbh Γ s t v lov hiv mxv) r:=by
 unfold zrf at ht;split at ht
 ·rename_i i hi';split at ht
  ·rename_i b;cases hx;split at ht
   ·rename_i hd;split at ht
    ·rename_i l hh m hb;cases ht;cases h3
     have:zbh Γ s t (.string b) lov hiv none=some (.string (b.extract l hh),s):=by
      unfold zbh;simp only [hi',hd,Option.isNone_none,cond_true];rw [zj8 h1 h2 .none hb];rfl
     rw [this];exact Ok0.same h (.str _)
    ·simp at ht
   ·simp at ht
  ·cases hx;split at ht
   ·rename_i e hd;split at ht
    ·rename_i j hj;split at ht
     ·rename_i hb;cases ht
      have:zbh Γ s t (.slice none 0 0) lov hiv mxv=some (.slice none 0 0,s):=by
       unfold zbh;simp only [hi',hd,hj];rw [zj8 h1 h2 h3 hb];rfl
      rw [this];exact Ok0.same h .nils
     ·simp at ht
    ·simp at ht
   ·simp at ht
  ·rename_i b es off len cap N;split at ht
   ·rename_i e hd;split at ht
    ·rename_i j hj
     cases hq:(S.has b N && Nat.beq es j.size) with
     |false=>rw [hq] at ht;simp at ht
     |true =>
      rw [hq] at ht;simp only [Bool.and_eq_true] at hq;have hes:=Nat.eq_of_beq_eq_true hq.2;obtain ⟨z,l0,hS⟩:=TS.has_ok hq.1;simp only [cond_true] at ht;split at ht
      ·rename_i l hh m hb;cases ht;have hb':=zj8 h1 h2 h3 hb;have hbl:=z0n hb;rcases zf8 h hS hx with ⟨f,u,rfl,hbb,htag⟩|⟨rfl,hbb,rfl,rfl,rfl,rfl⟩
       ·have:zbh Γ s t (.slice (some (mkA f u off)) len cap) lov hiv mxv=some (.slice (some (mkA f u (off+l*es))) (hh - l) (m - l),s):=by
         unfold zbh;simp only [hi',hd,hj,hb'];unfold cutC;simp only [zfn,zf6];rw [hes] at htag ⊢;rcases htag with hu|hu
         ·rw [zd1 hu];rfl
         ·rw [zd1 hu];simp
        rw [this];exact Ok0.same h (.arr hbb htag)
       ·obtain ⟨b1,b2,b3⟩:=hbl;have e1:m=0:=by omega
        have e2:hh=0:=by omega
        have e3:l=0:=by omega
        subst e1;subst e2;subst e3
        have:zbh Γ s t (.slice none 0 0) lov hiv mxv=some (.slice none 0 0,s):=by
         unfold zbh;simp only [hi',hd,hj,hb']
        rw [this];simp only [Nat.zero_mul,Nat.add_zero,Nat.sub_zero];exact Ok0.same h (.arrNil hbb)
      ·simp at ht
    ·simp at ht
   ·simp at ht
  ·rename_i es l;split at ht
   ·rename_i e hd;cases h3;split at ht
    ·rename_i j hj
     cases hq:Nat.beq es j.size with
     |false=>rw [hq] at ht;simp at ht
     |true =>
      rw [hq] at ht;have hes:=Nat.eq_of_beq_eq_true hq;simp only [cond_true] at ht;split at ht
      ·rename_i a hh m hb;cases ht;have hb':=zj8 h1 h2 .none hb;obtain ⟨_,ha,hhl⟩:=zvh (Nat.le_refl _) hb'
       cases hx with
       |lnil =>
        have e2:hh=0:=by simpa using hhl
        have e3:a=0:=by omega
        subst e2;subst e3;have hm:m=0:=by have:=z0n hb';simpa using this.2.2
        subst hm
        have:zbh Γ s t (.slice none 0 0) lov hiv none=some (.slice none 0 0,s):=by
         unfold zbh;simp only [hi',hd,hj];simp only [List.length_nil] at hb';rw [hb'];rfl
        rw [this];exact Ok0.same h .lnil
       |lst k1 k2 k3 k4 k5 k6 k7 k8 =>
        rename_i f u off cap cs cs0;obtain ⟨hb2,_,_⟩:=zvh k8 hb'
        have:zbh Γ s t (.slice (some (mkA f u off)) l.length cap) lov hiv none=some (.slice (some (mkA f u (off+a*es))) (hh - a) (cap - a),s):=by
         unfold zbh;simp only [hi',hd,hj,hb2];unfold cutC;simp only [zfn,zf6];rw [hes] at k7 ⊢;rcases k7 with hu|hu
         ·rw [zd1 hu];rfl
         ·rw [zd1 hu];simp
        rw [this];have hlen:((l.drop a).take (hh - a)).length=hh - a:=by rw [List.length_take,List.length_drop];omega
        refine Ok0.same h ?_
        have hcs:VL A β (zag s.obj) (((l.drop a).take (hh - a)).flatMap T.cells) ((cs.drop (a*es)).take ((hh - a)*es)):=by
         rw [← zzk (e:=es) _ (fun t ht=>k4 t (List.mem_of_mem_drop ht)),← zsw (e:=es) _ k4];exact (k3.drop _).take _
        have hcl:cs.length=l.length*es:=by rw [← k3.len,zqw k4]
        have hal:hh*es≤l.length*es:=Nat.mul_le_mul_right es hhl;have hsub:(hh - a)*es=hh*es - a*es:=Nat.sub_mul hh a es;have hae:a*es≤hh*es:=Nat.mul_le_mul_right es ha
        have:=VT.lst (A:=A) (β:=β) (g:=zag s.obj) (off:=off+a*es) (cap:=cap - a) k1 k2 hcs (fun t ht=>k4 t (List.mem_of_mem_drop (List.mem_of_mem_take ht))) k5 (by
         have e1:((cs.drop (a*es)).take ((hh - a)*es)).length=(hh - a)*es:=by rw [List.length_take,List.length_drop];omega
         rw [e1];have:=congrArg (List.drop (a*es)) k6;rw [List.drop_take,List.drop_drop] at this
         rw [← this,List.take_take,Nat.min_eq_left (by omega)]) k7 (by rw [hlen];omega)
        rw [hlen] at this;exact this
      ·simp at ht
    ·simp at ht
   ·simp at ht
  ·rename_i b off N;split at ht
   ·rename_i N' l0 n e hS hd;split at ht
    ·rename_i j hj
     cases hq:(Nat.beq N N' && Nat.ble n 1000000000) with
     |false=>rw [hq] at ht;simp at ht
     |true =>
      rw [hq] at ht;simp only [Bool.and_eq_true] at hq;have:=Nat.eq_of_beq_eq_true hq.1;subst this;simp only [cond_true] at ht;split at ht
      ·rename_i l hh m hb;cases ht;have hb':=zj8 h1 h2 h3 hb;obtain ⟨f,u,rfl,hbb⟩:=ziu h hS hx
       have hu:u % 1024=0:=by
        obtain ⟨_,hc⟩:=h.cells b true N l0 hS;rcases hc with ⟨_,_,hc⟩|⟨f',u',cs,rest,hb2,hz,_⟩
        ·simp at hc
        ·rw [hbb] at hb2;cases hb2;exact hz rfl
       have:zbh Γ s t (.pointer (some (mkA f u off))) lov hiv mxv=some (.slice (some (mkA f u (off+l*j.size))) (hh - l) (m - l),s):=by
        unfold zbh;simp only [hi',hd];unfold zlx;simp only [hj,hq.2,zbe,hb'];unfold cutC;simp only [zfn,zf6];rw [zd1 hu];rfl
       rw [this];exact Ok0.same h (.arr hbb (.inl hu))
      ·simp at ht
    ·simp at ht
   ·rename_i N' l0 arr hS hd;split at ht
    ·rename_i ia hia;split at ht
     ·rename_i n e hda;split at ht
      ·rename_i j hj
       cases hq:(Nat.beq N N' && Nat.ble n 1000000000) with
       |false=>rw [hq] at ht;simp at ht
       |true =>
        rw [hq] at ht;simp only [Bool.and_eq_true] at hq;have:=Nat.eq_of_beq_eq_true hq.1;subst this;simp only [cond_true] at ht;split at ht
        ·rename_i l hh m hb;cases ht;have hb':=zj8 h1 h2 h3 hb;obtain ⟨f,u,rfl,hbb⟩:=ziu h hS hx
         have hu:u % 1024=0:=by
          obtain ⟨_,hc⟩:=h.cells b true N l0 hS;rcases hc with ⟨_,_,hc⟩|⟨f',u',cs,rest,hb2,hz,_⟩
          ·simp at hc
          ·rw [hbb] at hb2;cases hb2;exact hz rfl
         have:zbh Γ s t (.pointer (some (mkA f u off))) lov hiv mxv=some (.slice (some (mkA f u (off+l*j.size))) (hh - l) (m - l),s):=by
          unfold zbh;simp only [hi',hd,hia,hda];unfold zlx;simp only [hj,hq.2,zbe,hb'];unfold cutC;simp only [zfn,zf6];rw [zd1 hu];rfl
         rw [this];exact Ok0.same h (.arr hbb (.inl hu))
        ·simp at ht
      ·simp at ht
     ·simp at ht
    ·simp at ht
   ·simp at ht
  ·simp at ht
 ·simp at ht
end
end
section
open Go Go.RowKit
section
variable {GL:List (Nat×List Value)} {A A' A2:Nat→Prop} {β β' β2:Bx} {S S':TS} {s s' s2:CS} {P:Program} {Γ:Env}
theorem TRel.moved (h:TRel GL A β S s) {b f2 u2 N2:Nat} {z:Bool} {l0:Loc} {g':Nat→Fam} {xs:List T} {cs2:List Value} {rest:List (Nat×List Value)} (hb:β b=some l0) (hle:Loc.le l0 (.live f2 u2 N2)) (hf2:f2=s.n∨l0.fam=some f2)
    (hin:s'.obj=.inr g') (hI:CInv s') (hn:s.n≤s'.n) (hlt:f2<s'.n) (hoth:∀ k,k≠f2→g' k=zag s.obj k) (hat:g' f2=⟨false,(u2,cs2) :: rest,none⟩) (hv:VL A β (zag s.obj) xs cs2) (h1:cs2.all oneC=true) (hN:xs.length=N2) (hz:z=true→u2 % 1024=0) :
    TRel GL A (bnew β b (.live f2 u2 N2)) (S.set b (.cells z N2 xs)) s'∧Bx.le β (bnew β b (.live f2 u2 N2))∧(∀ f,Own (bnew β b (.live f2 u2 N2)) f→Own β f∨s.n≤f):=by
  have hobj:∀ k,zag s'.obj k=g' k:=fun k=>by rw [hin];rfl
  have hne:∀ b',b'≠b→bnew β b (.live f2 u2 N2) b'=β b':=fun b' hb'=>if_neg hb';have hse:bnew β b (.live f2 u2 N2) b=some (.live f2 u2 N2):=if_pos rfl
  have hblt:b<S.n:=by
    by_cases hh:b<S.n
    · exact hh
    · rw [h.next b (by omega)] at hb;simp at hb
  have hbx:Bx.le β (bnew β b (.live f2 u2 N2)):=fun i x hx=>by
    by_cases hi:i=b
    · subst hi;rw [hb] at hx;cases hx;exact ⟨_,hse,hle⟩
    · exact ⟨x,by rw [hne i hi];exact hx,Loc.le_refl x⟩
  have hnotA:¬ A f2:=fun hA=>by
    rcases hf2 with rfl|hf2
    · have:=h.alt _ hA;omega
    · cases l0 with
      |live f u N=>simp [Loc.fam] at hf2;subst hf2;exact (h.dis _ (zb2 hb)).2 hA
      |map r=>simp [Loc.le] at hle
      |nil=>simp [Loc.fam] at hf2
      |dead=>simp [Loc.fam] at hf2
  have hA:∀ k,A k→g' k=zag s.obj k:=fun k hk=>hoth k fun hh=>hnotA (hh ▸ hk)
  have hother:∀ {b':Nat} {l:Loc} {k:Nat},β b'=some l→l.fam=some k→b'≠b→k≠f2:=by
    intro b' l k hb' hk hnb hh;subst hh;rcases hf2 with hf2|hf2
    · have hO:Own β k:=by
        cases l with
        |live f u N=>simp [Loc.fam] at hk;subst hk;exact zb2 hb'
        |map r=>simp [Loc.fam] at hk;subst hk;exact zf7 hb'
        |nil=>simp [Loc.fam] at hk
        |dead=>simp [Loc.fam] at hk
      have:=(h.dis _ hO).1;omega
    · exact hnb (h.inj b' b l l0 k hb' hb hk hf2)
  have hown:∀ f,Own (bnew β b (.live f2 u2 N2)) f→Own β f∨(s.n≤f∧f=f2):=fun f hf=>by
    obtain ⟨b',hb'⟩:=hf;by_cases hbb:b'=b
    · subst hbb;rw [hse] at hb';rcases hb' with ⟨u,N,hb'⟩|hb'
      · cases hb';rcases hf2 with rfl|hf2
        · exact .inr ⟨Nat.le_refl _,rfl⟩
        · refine .inl ?_
          cases l0 with
          |live f u N=>simp [Loc.fam] at hf2;subst hf2;exact zb2 hb
          |map r=>simp [Loc.le] at hle
          |nil=>simp [Loc.fam] at hf2
          |dead=>simp [Loc.fam] at hf2
      · simp at hb'
    · rw [hne b' hbb] at hb';exact .inl ⟨b',hb'⟩
  refine ⟨⟨⟨g',hin⟩,hI,fun f hf=>by have:=h.alt f hf;omega,fun f hf=>?_,fun b1 b2 l1 l2 f hb1 hb2 hf1 hf2'=>?_,fun b' hb'=>?_,fun b' z' N' l' hb'=>?_,fun b' l' hb'=>?_,fun x hx=>?_⟩,hbx,fun f hf=>(hown f hf).imp id (·.1)⟩
  · rcases hown f hf with q|⟨q,rfl⟩
    · have:=h.dis f q;exact ⟨by omega,this.2⟩
    · exact ⟨hlt,hnotA⟩
  · by_cases e1:b1=b<;>by_cases e2:b2=b
    · rw [e1,e2]
    · subst e1;rw [hse] at hb1;cases hb1;rw [hne b2 e2] at hb2;simp [Loc.fam] at hf1;subst hf1;exact absurd rfl (hother hb2 hf2' e2)
    · subst e2;rw [hse] at hb2;cases hb2;rw [hne b1 e1] at hb1;simp [Loc.fam] at hf2';subst hf2';exact absurd rfl (hother hb1 hf1 e1)
    · rw [hne b1 e1] at hb1;rw [hne b2 e2] at hb2;exact h.inj b1 b2 l1 l2 f hb1 hb2 hf1 hf2'
  · have:S.n≤b':=hb';rw [hne b' (by omega)];exact h.next b' this
  · by_cases hbb:b'=b
    · subst hbb;rw [TS.set_same] at hb';cases hb';refine ⟨hN,.inr ⟨f2,u2,cs2,rest,hse,hz,by rw [hobj];exact hat,?_,h1⟩⟩;exact hv.mono (fun _ h=>h) (fun f hf=>by rw [hobj];exact hA f hf) hbx
    · rw [TS.set_ne _ _ hbb] at hb';exact (h.cells b' z' N' l' hb').mono (fun _ h=>h) (fun f hf=>by rw [hobj];exact hA f hf) hbx (hne b' hbb) fun f u N hl=>by rw [hobj];exact hoth f (hother hl rfl hbb)
  · by_cases hbb:b'=b
    · subst hbb;rw [TS.set_same] at hb';cases hb'
    · rw [TS.set_ne _ _ hbb] at hb';exact (h.maps b' l' hb').mono (fun _ h=>h) (fun f hf=>by rw [hobj];exact hA f hf) hbx (hne b' hbb) fun r hl=>by rw [hobj];exact hoth r (hother hl rfl hbb)
  · have:=h.glob x hx;exact ⟨this.1,by rw [hobj,hA _ this.1];exact this.2⟩
noncomputable def zoq (Γ:Env) (S:TS) (t:TypeId) (y x:T):Option (T×TS):=match zb7 Γ t with
  |some j=>(match tSrc S j.size y with
    |some (n,xs)=>(match x with
      | .nils => bif Nat.blt 1000000000 (n * (j.bytes + 1)) || Nat.beq j.size 0 || Nat.ble 1000 j.size || not (xs.all T.one) then none else
          bif Nat.beq n 0 then some (.nils,S) else some (.arr S.n j.size 0 n n xs.length,S.add (.cells false xs.length xs))
      |.arr b es off len cap N=>(match S.box b with
        | .cells z N' l => bif Nat.blt 1000000000 ((len + n) * (j.bytes + 1)) || Nat.beq j.size 0 || Nat.ble 1000 j.size || not (xs.all T.one) || not (Nat.beq N N') || not (Nat.beq es j.size) then none else
            bif Nat.ble (len+n) cap then
              (bif Nat.beq n 0 then some (.arr b es off (len+n) cap N,S) else
               bif Nat.ble (off+(len+n)*es) N then some (.arr b es off (len+n) cap N,S.set b (.cells z N (spl l (off+len*es) xs))) else none)
            else bif Nat.beq off 0 && Nat.beq (len*es) N && Nat.blt 0 n then some (.arr b es 0 (len+n) (len+n) (N+xs.length),S.set b (.cells false (N+xs.length) (l++xs))) else none
        |_=>none)
      |_=>none)
    |none=>none)
  |none=>none
theorem Stp.newObj {f2:Nat} {F:Fam} {n':Nat} {wr:List Nat} (hcan:Can s { s with n:=n',obj:=zay s.obj f2 F,wr:=wr }) (hin:∃ g,s.obj=.inr g) (hf2:f2=s.n∨Own β f2) (hbx:Bx.le β β') (hown:∀ f,Own β' f→Own β f∨s.n≤f) (hwr:∀ x,x∈wr→x∈s.wr∨(x<s.lim∧Own β x)):Stp A β s A β' { s with n:=n',obj:=zay s.obj f2 F,wr:=wr }:=by
 refine ⟨hcan,fun _ h=>h,fun _ h=>.inl h,hown,fun f hf hno=>?_,hbx,fun _ h=>.inl h,hwr⟩;obtain ⟨g,hg⟩:=hin;show zag (zay s.obj f2 F) f=_;rw [hg,zei,znx,znx];refine zae _ _ _ _ fun hh=>?_;subst hh;rcases hf2 with rfl|hf2
 ·omega
 ·exact hno hf2
theorem z59 (h:TRel GL A β S s) {t:TypeId} {x y r:T} {v w:Value} (hx:VT A β (zag s.obj) x v) (hy:VT A β (zag s.obj) y w) (ht:zoq Γ S t y x=some (r,S')):Ok GL A β s (zbp Γ s t w v) r S':=by
 unfold zoq at ht;split at ht
 ·rename_i j hj;split at ht
  ·rename_i n xs hsrc;split at ht
   ·-- nil
    cases hx
    cases hq:(Nat.blt 1000000000 (n*(j.bytes+1)) || Nat.beq j.size 0 || Nat.ble 1000 j.size || not (xs.all T.one)) with
    |true=>rw [hq] at ht;simp at ht
    |false =>
     rw [hq,cond_false] at ht;simp only [Bool.or_eq_false_iff,Bool.not_eq_false'] at hq;obtain ⟨⟨⟨q1,q2⟩,q3⟩,q4⟩:=hq
     have hj0:0<j.size:=by
      by_cases hh:j.size=0
      ·rw [hh] at q2;simp at q2
      ·omega
     have hj1:j.size<1000:=by
      by_cases hh:1000≤j.size
      ·rw [zcl hh] at q3;simp at q3
      ·omega
     obtain ⟨e1,e2,e3⟩:=zvs h hj0 hy hsrc;obtain ⟨ys,s1,f1,f2,f3⟩:=e3 n (Nat.le_refl _);rw [List.take_of_length_le (by omega)] at f2;obtain ⟨r1,r2,r3,r4,r5,r6⟩:=f3.rel h
     have c1:(Nat.blt 1000000000 ((0+n)*(j.bytes+1)) || Nat.beq j.size 0 || Nat.ble 1000 j.size || not (ys.all oneC))=false:=by
      rw [Nat.zero_add,q1,q2,q3,f2.one q4];rfl
     cases hn:Nat.beq n 0 with
     |true =>
      rw [hn] at ht;cases ht
      have:zbp Γ s t w (.slice none 0 0)=some (.slice none 0 0,s1):=by
       unfold zbp CS.append;simp only [hj,e1,f1,c1,cond_false,hn,cond_true]
      rw [this];exact ⟨_,s1,A,β,rfl,r1,.nils,r2⟩
     |false =>
      rw [hn] at ht;cases ht;rw [← r3] at f2;obtain ⟨s2,β2,k1,k2,k3,k4⟩:=r1.newBox (j.size+1) (by omega) f2 (f2.one q4);have hb0:Nat.beq (j.size+1) 0=false:=rfl;rw [hb0] at k3
      have:zbp Γ s t w (.slice none 0 0)=some (.slice (some (mkA s1.n (s1.n*1024+(j.size+1)) 0)) (0+n) (0+n),s2):=by
       unfold zbp CS.append;simp only [hj,e1,f1,c1,cond_false,hn,k1,zdy]
      rw [this,Nat.zero_add];exact ⟨_,s2,A,β2,rfl,k3,.arr k2 (.inr (by omega)),r2.trans h.le k4⟩
   ·rename_i b es off len cap N;split at ht
    ·rename_i z N' l hS
     cases hq:(Nat.blt 1000000000 ((len+n)*(j.bytes+1)) || Nat.beq j.size 0 || Nat.ble 1000 j.size || not (xs.all T.one) || not (Nat.beq N N') || not (Nat.beq es j.size)) with
     |true=>rw [hq] at ht;simp at ht
     |false =>
      rw [hq,cond_false] at ht;simp only [Bool.or_eq_false_iff,Bool.not_eq_false'] at hq;obtain ⟨⟨⟨⟨⟨q1,q2⟩,q3⟩,q4⟩,q5⟩,q6⟩:=hq;have:=Nat.eq_of_beq_eq_true q5;subst this;have:=Nat.eq_of_beq_eq_true q6;subst this
      have hj0:0<j.size:=by
       by_cases hh:j.size=0
       ·rw [hh] at q2;simp at q2
       ·omega
      have hj1:j.size<1000:=by
       by_cases hh:1000≤j.size
       ·rw [zcl hh] at q3;simp at q3
       ·omega
      obtain ⟨e1,e2,e3⟩:=zvs h hj0 hy hsrc;obtain ⟨ys,s1,f1,f2,f3⟩:=e3 n (Nat.le_refl _);rw [List.take_of_length_le (by omega)] at f2;obtain ⟨r1,r2,r3,r4,r5,r6⟩:=f3.rel h;have f2':=f2;rw [← r3] at f2';have q4':=f2.one q4
      have c1:(Nat.blt 1000000000 ((len+n)*(j.bytes+1)) || Nat.beq j.size 0 || Nat.ble 1000 j.size || not (ys.all oneC))=false:=by
       rw [q1,q2,q3,q4'];rfl
      have hlN:=(h.cells b z N l hS).1;have hx':=hx;rw [← r3] at hx'
      cases hc:Nat.ble (len+n) cap with
      |true =>
       rw [hc,cond_true] at ht
       cases hn:Nat.beq n 0 with
       |true =>
        rw [hn] at ht;cases ht;have hn0:=Nat.eq_of_beq_eq_true hn;subst hn0;rcases zf8 h hS hx with ⟨f,u,rfl,hb,htag⟩|⟨rfl,hb,rfl,rfl,rfl,rfl⟩
        ·have:zbp Γ s t w (.slice (some (mkA f u off)) len cap)=some (.slice (some (mkA f u off)) (len+0) cap,s1):=by
          unfold zbp CS.append;simp only [hj,e1,f1,c1,cond_false,hc,cond_true];rfl
         rw [this];exact ⟨_,s1,A,β,rfl,r1,.arr hb htag,r2⟩
        ·have:zbp Γ s t w (.slice none 0 0)=some (.slice none 0 0,s1):=by
          unfold zbp CS.append;simp only [hj,e1,f1,c1,cond_false];rfl
         rw [this];exact ⟨_,s1,A,β,rfl,r1,.arrNil hb,r2⟩
       |false =>
        rw [hn,cond_false] at ht;have hn0:n≠0:=fun hh=>by rw [hh] at hn;simp at hn
        cases hfit:Nat.ble (off+(len+n)*j.size) N with
        |false=>rw [hfit] at ht;simp at ht
        |true =>
         rw [hfit] at ht;cases ht;have hfit':=zax.1 hfit;rcases zf8 h hS hx with ⟨f,u,rfl,hb,htag⟩|⟨rfl,hb,rfl,rfl,rfl,rfl⟩
         ·obtain ⟨s2,k1,k2,k3⟩:=r1.write (off:=off+len*j.size) hS hb f2' q4' (by rw [e2];rw [Nat.add_mul] at hfit';omega)
          have:zbp Γ s t w (.slice (some (mkA f u off)) len cap)=some (.slice (some (mkA f u off)) (len+n) cap,s2):=by
           unfold zbp CS.append;simp only [hj,e1,f1,c1,cond_false,hc,cond_true,hn,zf6,k1]
          rw [this];exact ⟨_,s2,A,β,rfl,k2,.arr hb htag,r2.trans h.le k3⟩
         ·have:=zax.1 hc;omega
      |false =>
       rw [hc,cond_false] at ht
       cases hw:(Nat.beq off 0 && Nat.beq (len*j.size) N && Nat.blt 0 n) with
       |false=>rw [hw] at ht;simp at ht
       |true =>
        rw [hw] at ht;cases ht;simp only [Bool.and_eq_true] at hw;obtain ⟨⟨w1,w2⟩,w3⟩:=hw;have w1':=Nat.eq_of_beq_eq_true w1;subst w1';have w2':=Nat.eq_of_beq_eq_true w2
        have hcap:cap<len+n:=by
         by_cases hh:len+n≤cap
         ·rw [zcl hh] at hc;simp at hc
         ·omega
        rcases zf8 h hS hx with ⟨f,u,rfl,hb,htag⟩|⟨rfl,hb,-,rfl,rfl,rfl⟩
        ·-- a row that is too small
         obtain ⟨_,hcell⟩:=r1.cells b z N l hS;rcases hcell with ⟨hb2,_,_⟩|⟨f',u',cs,rest,hb2,hz,hat,hv,hone⟩
         ·rw [hb] at hb2;simp at hb2
         rw [hb] at hb2;cases hb2;have hcl:=hv.len;have hn0:0<n:=zai.1 w3;obtain ⟨g,hin⟩:=r1.inr;have hg:g f=⟨false,(u,cs) :: rest,none⟩:=by rw [hin] at hat;exact hat
         have hrow:zat ((u,cs) :: rest) u=some cs:=by unfold zat;rw [Nat.beq_refl];rfl
         have hvl:VL A β (zag s1.obj) (l++xs) (cs++ys):=hv.append f2';have hall:(cs++ys).all oneC=true:=by rw [List.all_append,hone,q4'];rfl
         -- the old cells
         have hold:∃ s2,(bif Nat.beq len 0 then some ([],s1) else s1.firstCells j.size len (.slice (some (mkA f u 0)) len cap))=some (cs,s2)∧Rd A β s1 s2:=by
          cases hz0:Nat.beq len 0 with
          |true =>
           have:=Nat.eq_of_beq_eq_true hz0;subst this
           have:cs=[]:=by
            apply List.eq_nil_of_length_eq_zero;rw [← hcl,hlN,← w2'];simp
           rw [this];exact ⟨s1,rfl,.inl rfl⟩
          |false =>
           have hne:len≠0:=fun hh=>by rw [hh] at hz0;simp at hz0
           have hlm:0<len*j.size:=Nat.mul_pos (by omega) hj0;refine ⟨{ s1 with rd:=ins s1.lim s1.rd f },?_,.inr ⟨f,.inr (zb2 hb),rfl⟩⟩;rw [cond_false];unfold CS.firstCells CS.readRow;simp only [zjj (show len*j.size≠0 by omega),cond_false,zfn,zdc,hat,hrow,zk0];rw [z47 (by omega),List.drop_zero,List.take_of_length_le (by omega)]
         obtain ⟨s2,o1,o2⟩:=hold;obtain ⟨t1,t2,t3,t4,t5,t6⟩:=o2.rel r1;have hlen2:(l++xs).length=N+xs.length:=by rw [List.length_append,hlN]
         have hxpos:0<xs.length:=by rw [e2];exact Nat.mul_pos hn0 hj0
         have hvl2:VL A β (zag s2.obj) (l++xs) (cs++ys):=by rw [t3];exact hvl
         have hat2:zag s2.obj f=⟨false,(u,cs) :: rest,none⟩:=by rw [t3];exact hat
         have hin2:s2.obj=.inr g:=by rw [t3];exact hin
         have base:∀ (res:Option (Value×CS)),(bif Nat.beq (u % 1024) 0 then zdy (len+n) (len+n) (s2.newRow (j.size+1) (cs++ys)) else bif Nat.beq (u % 1024) (j.size+1) then s2.grow (mkA f u 0) (j.size+1) (0+len*j.size) (len+n) (cs++ys) else none)=res→zbp Γ s t w (.slice (some (mkA f u 0)) len cap)=res:=by
          intro res hres;unfold zbp CS.append;simp only [hj,e1,f1,c1,cond_false,hc,o1,zfn,zk0];exact hres
         cases hu0:Nat.beq (u % 1024) 0 with
         |true =>
          have hnr:s2.newRow (j.size+1) (cs++ys)=some (mkA s2.n (s2.n*1024+(j.size+1)) 0,s2.rowed (j.size+1) (cs++ys)):=by
           unfold CS.newRow;have:zh0 s2.obj s2.n=true:=by rw [hin2];rfl
           rw [this,zbe];rfl
          obtain ⟨p1,p2,p3,p4⟩:=t1.fresh ⟨false,[(s2.n*1024+(j.size+1),cs++ys)],none⟩ rfl (fun p hp=>by simp at hp;subst hp;show (s2.n*1024+(j.size+1)) / 1024<s2.n+1;omega)
          obtain ⟨m1,m2,m3⟩:=t1.moved (s':=s2.rowed (j.size+1) (cs++ys)) (b:=b) (f2:=s2.n) (u2:=s2.n*1024+(j.size+1)) (N2:=N+xs.length) (z:=false) (g':=fupd g s2.n ⟨false,[(s2.n*1024+(j.size+1),cs++ys)],none⟩) (rest:=[]) hb (.inr (by omega)) (.inl rfl)
           (by show zay s2.obj s2.n _=_;rw [hin2,zei]) p1.inv (by show s2.n≤s2.n+1;omega) (by show s2.n<s2.n+1;omega) (fun k hk=>by rw [zae _ _ _ _ hk,hin2];rfl) (zaf _ _ _) hvl2 hall hlen2 (by simp)
          rw [base (some (.slice (some (mkA s2.n (s2.n*1024+(j.size+1)) 0)) (len+n) (len+n),s2.rowed (j.size+1) (cs++ys))) (by rw [hu0,cond_true,hnr];rfl)];refine ⟨_,_,A,_,rfl,m1,.arr (if_pos rfl) (.inr (by omega)),r2.trans h.le (t2.trans r1.le ?_)⟩;exact Stp.newObj p2 t1.inr (.inl rfl) m2 m3 (fun x hx=>.inl hx)
         |false =>
          have hu1:u % 1024=j.size+1:=by
           rcases htag with hh|hh
           ·rw [hh] at hu0;simp at hu0
           ·exact hh
          have hgr:s2.grow (mkA f u 0) (j.size+1) (0+len*j.size) (len+n) (cs++ys)=some (.slice (some (mkA f (s2.n*1024+(j.size+1)) 0)) (len+n) (len+n),{ s2 with n:=s2.n+1,obj:=zay s2.obj f ⟨false,(s2.n*1024+(j.size+1),cs++ys) :: zft ((u,cs) :: rest) u,none⟩,wr:=ins s2.lim s2.wr f }):=by
           unfold CS.grow;simp only [zdc,zfn,hat2,hrow];rw [zd1 (show 0+len*j.size=cs.length by omega),zbe]
          have hcan:=zze t1.inv (show j.size+1<1024 by omega) hgr
          obtain ⟨m1,m2,m3⟩:=t1.moved (s':={ s2 with n:=s2.n+1,obj:=zay s2.obj f ⟨false,(s2.n*1024+(j.size+1),cs++ys) :: zft ((u,cs) :: rest) u,none⟩,wr:=ins s2.lim s2.wr f }) (b:=b) (f2:=f) (u2:=s2.n*1024+(j.size+1)) (N2:=N+xs.length) (z:=false) (g':=fupd g f ⟨false,(s2.n*1024+(j.size+1),cs++ys) :: zft ((u,cs) :: rest) u,none⟩) hb (.inr (by omega)) (.inr rfl)
           (by show zay s2.obj f _=_;rw [hin2,zei]) (t1.inv.next hcan) (by show s2.n≤s2.n+1;omega) (by have:=(t1.dis f (zb2 hb)).1;show f<s2.n+1;omega) (fun k hk=>by rw [zae _ _ _ _ hk,hin2];rfl) (zaf _ _ _) hvl2 hall hlen2 (by simp)
          rw [base _ (by rw [hu0,cond_false,zd1 hu1,cond_true,hgr])];refine ⟨_,_,A,_,rfl,m1,.arr (if_pos rfl) (.inr (by omega)),r2.trans h.le (t2.trans r1.le ?_)⟩;refine Stp.newObj hcan t1.inr (.inr (zb2 hb)) m2 m3 (fun x hx=>?_);rcases zcf hx with q|⟨rfl,q⟩
          ·exact .inl q
          ·exact .inr ⟨q,zb2 hb⟩
        ·-- nothing yet
         have hn0:0<n:=zai.1 w3;have hl0:l=[]:=List.eq_nil_of_length_eq_zero hlN;subst hl0;have hxpos:0<xs.length:=by rw [e2];exact Nat.mul_pos hn0 hj0
         obtain ⟨g,hin⟩:=r1.inr
         have hnr:s1.newRow (j.size+1) ys=some (mkA s1.n (s1.n*1024+(j.size+1)) 0,s1.rowed (j.size+1) ys):=by
          unfold CS.newRow;have:zh0 s1.obj s1.n=true:=by rw [hin];rfl
          rw [this,zbe];rfl
         obtain ⟨p1,p2,p3,p4⟩:=r1.fresh ⟨false,[(s1.n*1024+(j.size+1),ys)],none⟩ rfl (fun p hp=>by simp at hp;subst hp;show (s1.n*1024+(j.size+1)) / 1024<s1.n+1;omega)
         obtain ⟨m1,m2,m3⟩:=r1.moved (s':=s1.rowed (j.size+1) ys) (b:=b) (f2:=s1.n) (u2:=s1.n*1024+(j.size+1)) (N2:=0+xs.length) (z:=false) (g':=fupd g s1.n ⟨false,[(s1.n*1024+(j.size+1),ys)],none⟩) (rest:=[]) (xs:=[]++xs) hb (by show 0<0+xs.length;omega) (.inl rfl)
          (by show zay s1.obj s1.n _=_;rw [hin,zei]) p1.inv (by show s1.n≤s1.n+1;omega) (by show s1.n<s1.n+1;omega) (fun k hk=>by rw [zae _ _ _ _ hk,hin];rfl) (zaf _ _ _) f2' q4' (by simp) (by simp)
         have:zbp Γ s t w (.slice none 0 0)=some (.slice (some (mkA s1.n (s1.n*1024+(j.size+1)) 0)) (0+n) (0+n),s1.rowed (j.size+1) ys):=by
          unfold zbp CS.append;simp only [hj,e1,f1,c1,cond_false,zjj (show n≠0 by omega),hnr,zdy]
         rw [this];refine ⟨_,_,A,_,rfl,m1,.arr (if_pos rfl) (.inr (by omega)),r2.trans h.le ?_⟩;exact Stp.newObj p2 r1.inr (.inl rfl) m2 m3 (fun x hx=>.inl hx)
    ·simp at ht
   ·simp at ht
  ·simp at ht
 ·simp at ht
end
end
section
open Go Go.RowKit
section
variable {GL:List (Nat×List Value)} {A A' A2:Nat→Prop} {β β' β2:Bx} {S S':TS} {s s' s2:CS} {P:Program} {Γ:Env}
noncomputable def z7u (Γ:Env) (S:TS) (t:TypeId) (y x:T):Option (T×TS):=match zb7 Γ t with
  |some j=>(match tSrc S j.size y with
    |some (m,xs)=>(match x with
      |.arr b es off len cap N=>(match S.box b with
        | .cells z N' l => bif Nat.beq N N' && (Nat.beq es j.size && (Nat.blt 0 j.size && (Nat.ble (off + min m len * es) N && xs.all T.one))) then
            some (.int .i64 (min m len:Nat),S.set b (.cells z N (spl l off (xs.take (min m len*es))))) else none
        |_=>none)
      |_=>none)
    |none=>none)
  |none=>none
theorem yhl {l:List T} {off:Nat} (h:off≤l.length):spl l off []=l:=by
 unfold spl;simp
theorem yda (h:TRel GL A β S s) {t:TypeId} {x y r:T} {v w:Value} (hx:VT A β (zag s.obj) x v) (hy:VT A β (zag s.obj) y w) (ht:z7u Γ S t y x=some (r,S')):Ok GL A β s (zjc Γ s t w v) r S':=by
 unfold z7u at ht;split at ht
 ·rename_i j hj;split at ht
  ·rename_i m xs hsrc;split at ht
   ·rename_i b es off len cap N;split at ht
    ·rename_i z N' l hS
     cases hq:(Nat.beq N N' && (Nat.beq es j.size && (Nat.blt 0 j.size && (Nat.ble (off+min m len*es) N && xs.all T.one)))) with
     |false=>rw [hq] at ht;simp at ht
     |true =>
      rw [hq] at ht;simp only [Bool.and_eq_true] at hq;obtain ⟨q1,q2,q3,q4,q5⟩:=hq;have:=Nat.eq_of_beq_eq_true q1;subst this;have:=Nat.eq_of_beq_eq_true q2;subst this;have q4:=zax.1 q4;cases ht;have hj0:=zai.1 q3;have hlN:=(h.cells b z N l hS).1;obtain ⟨e1,e2,e3⟩:=zvs h hj0 hy hsrc;obtain ⟨ys,s1,f1,f2,f3⟩:=e3 (min m len) (Nat.min_le_left _ _);obtain ⟨r1,r2,r3,r4,r5,r6⟩:=f3.rel h
      have hxl:(xs.take (min m len*j.size)).length=min m len*j.size:=by
       rw [List.length_take,e2];have:min m len*j.size≤m*j.size:=Nat.mul_le_mul_right _ (Nat.min_le_left _ _);omega
      have h1:ys.all oneC=true:=f2.one (by
       rw [List.all_eq_true] at q5 ⊢
       exact fun x hx=>q5 x (List.mem_of_mem_take hx))
      cases hz:Nat.beq (min m len*j.size) 0 with
      |true =>
       have hz':=Nat.eq_of_beq_eq_true hz
       have hm0:min m len=0:=by
        rcases Nat.mul_eq_zero.1 hz' with hh|hh
        ·exact hh
        ·omega
       have hnil:xs.take (min m len*j.size)=[]:=by rw [hz'];rfl
       rw [hnil,yhl (by omega)]
       have hSS:S.set b (.cells z N l)=S:=by
        unfold TS.set;congr 1;funext i;split
        ·rename_i hi;subst hi;exact hS.symm
        ·rfl
       rw [hSS]
       have key:∀ a c,zjc Γ s t w (.slice a len c)=some (.int .i64 (min m len:Nat),s1):=by
        intro a c;unfold zjc;simp only [hj,e1,f1];unfold zzz;simp only [hz,cond_true]
       rcases zf8 h hS hx with ⟨f,u,rfl,hb,htag⟩|⟨rfl,hb,rfl,rfl,rfl,rfl⟩
       ·rw [key];exact ⟨_,s1,A,β,rfl,r1,.int _ _,r2⟩
       ·rw [key];exact ⟨_,s1,A,β,rfl,r1,.int _ _,r2⟩
      |false =>
       rcases zf8 h hS hx with ⟨f,u,rfl,hb,htag⟩|⟨rfl,hb,rfl,rfl,rfl,rfl⟩
       ·have f2':=f2;rw [← r3] at f2';obtain ⟨s2,k1,k2,k3⟩:=r1.write (off:=off) hS hb f2' h1 (by omega)
        have:zjc Γ s t w (.slice (some (mkA f u off)) len cap)=some (.int .i64 (min m len:Nat),s2):=by
         unfold zjc;simp only [hj,e1,f1];unfold zzz;simp only [hz,cond_false,k1]
        rw [this];exact ⟨_,s2,A,β,rfl,k2,.int _ _,r2.trans h.le k3⟩
       ·simp at hz
    ·simp at ht
   ·simp at ht
  ·simp at ht
 ·simp at ht
def rep (n:Nat) (l:List T):List T:=(List.replicate n l).flatten
theorem yg3 {g:Nat→Fam} {l:List T} {cs:List Value} (h:VL A β g l cs):∀ n,VL A β g (rep n l) (List.replicate n cs).flatten
 |0=>.nil
 |n+1=>by
  unfold rep;rw [List.replicate_succ,List.replicate_succ,List.flatten_cons,List.flatten_cons];exact h.append (yg3 h n)
theorem z9b {l:List T} (h:l.all T.one=true):∀ n,(rep n l).all T.one=true
 |0=>rfl
 |n+1=>by
  unfold rep;rw [List.replicate_succ,List.flatten_cons,List.all_append,h];exact z9b h n
noncomputable def zic (Γ:Env) (S:TS) (t:TypeId) (l c:T):Option (T×TS):=match zb7 Γ t,zet (zdo l),zet (zdo c) with
  | some j, some l, some c => bif Nat.ble l c && (Nat.ble (c * (j.bytes + 1)) 1000000000 && Nat.blt 0 j.size) then
      (match zhh j.zero with
      |some zs=>some (.arr S.n j.size 0 l c (rep c zs).length,S.add (.cells true (rep c zs).length (rep c zs)))
      |none=>none) else none
  |_,_,_=>none
theorem zvt (h:TRel GL A β S s) {t:TypeId} {l c r:T} {lv cv:Value} (hl:VT A β (zag s.obj) l lv) (hc:VT A β (zag s.obj) c cv) (ht:zic Γ S t l c=some (r,S')):Ok GL A β s (zd6 Γ s t (zet lv) (zet cv)) r S':=by
 unfold zic at ht;split at ht
 ·rename_i j ll cc hj h1 h2;rw [zr9 hl h1,zr9 hc h2]
  cases hq:(Nat.ble ll cc && (Nat.ble (cc*(j.bytes+1)) 1000000000 && Nat.blt 0 j.size)) with
  |false=>rw [hq] at ht;simp at ht
  |true =>
   rw [hq] at ht;simp only [cond_true] at ht;split at ht
   ·rename_i zs hz;cases ht;obtain ⟨a,b⟩:=zil (A:=A) (β:=β) (g:=zag s.obj) hz;have hv:=yg3 a cc;obtain ⟨s',β',k1,k2,k3,k4⟩:=h.newBox 0 (by omega) hv (hv.one (z9b b cc))
    have:zd6 Γ s t (some ll) (some cc)=some (.slice (some (mkA s.n (s.n*1024+0) 0)) ll cc,s'):=by
     unfold zd6;simp only [hj];rw [← Bool.and_assoc] at hq;simp only [hq,cond_true,k1];rfl
    rw [this];exact ⟨_,s',A,β',rfl,k3,.arr k2 (.inl (by omega)),k4⟩
   ·simp at ht
 ·simp at ht
noncomputable def zlu (cells:List T):List (Nat×List T)→Option (List T)
 |[]=>some cells
 |(off,vs) :: r=>bif Nat.ble (off+vs.length) cells.length then zlu (spl cells off vs) r else none
noncomputable def ze3 (place:Nat→Option (Nat×Nat)) (ρ:Operand→T):List (Nat×Operand)→Option (List (Nat×List T))
 |[]=>some []
 |(k,x) :: r=>match place k,ze3 place ρ r with
  |some (off,size),some l=>bif Nat.beq (ρ x).cells.length size && (ρ x).cells.all T.one then some ((off,(ρ x).cells) :: l) else none
  |_,_=>none
inductive PL (A:Nat→Prop) (β:Bx) (g:Nat→Fam):List (Nat×List T)→List (Nat×List Value)→Prop
 |nil:PL A β g [] []
 |cons {k l cs r r'}:VL A β g l cs→l.all T.one=true→PL A β g r r'→PL A β g ((k,l) :: r) ((k,cs) :: r')
theorem zyl {g:Nat→Fam} {place:Nat→Option (Nat×Nat)} {ρT:Operand→T} {ρ:Operand→Value} (hρ:∀ x,VT A β g (ρT x) (ρ x)):∀ {l:List (Nat×Operand)} {r:List (Nat×List T)},ze3 place ρT l=some r→∃ r',zd4 place ρ l=some r'∧PL A β g r r'
 |[],r,h=>by simp only [ze3,Option.some.injEq] at h;subst h;exact ⟨[],rfl,.nil⟩
 |(k,x) :: l,r,h=>by
  unfold ze3 at h;split at h
  ·rename_i off size l' h1 h2
   cases hq:(Nat.beq (ρT x).cells.length size && (ρT x).cells.all T.one) with
   |false=>rw [hq] at h;simp at h
   |true =>
    rw [hq] at h;cases h;simp only [Bool.and_eq_true] at hq;obtain ⟨r',k1,k2⟩:=zyl hρ h2;have hc:=(hρ x).cells (zks hq.2);refine ⟨(off,(ρ x).cells.toList) :: r',?_,.cons hc hq.2 k2⟩;unfold zd4;simp only [h1,k1];rw [← hc.len,hq.1];rfl
  ·simp at h
theorem z40 {g:Nat→Fam}:∀ {r:List (Nat×List T)} {r':List (Nat×List Value)} {l l':List T} {cs:List Value},PL A β g r r'→VL A β g l cs→zlu l r=some l'→∃ cs',zm9 cs r'=some cs'∧VL A β g l' cs'∧l'.length=l.length∧(l.all T.one=true→l'.all T.one=true)
 |[],_,l,l',cs,.nil,h,ht=>by
  simp only [zlu,Option.some.injEq] at ht;subst ht;exact ⟨cs,rfl,h,rfl,id⟩
 |(off,vs) :: r,_,l,l',cs,.cons k1 k3 k2,h,ht=>by
  rename_i cs2 r';unfold zlu at ht
  cases hq:Nat.ble (off+vs.length) l.length with
  |false=>rw [hq] at ht;simp at ht
  |true =>
   rw [hq] at ht;simp only [cond_true] at ht;obtain ⟨cs',a1,a2,a3,a4⟩:=z40 k2 (h.splice off k1) ht;refine ⟨cs',?_,a2,?_,?_⟩
   ·unfold zm9;rw [← k1.len,← h.len,hq];exact a1
   ·rw [a3];exact z8b (zax.1 hq)
   ·intro hl;refine a4 ?_;rw [List.all_append,List.all_append,k3,Bool.and_true,Bool.and_eq_true];rw [List.all_eq_true] at hl ⊢;exact ⟨fun x hx=>hl x (List.mem_of_mem_take hx),by rw [List.all_eq_true];exact fun x hx=>hl x (List.mem_of_mem_drop hx)⟩
noncomputable def zht (zero:List Value) (parts:Option (List (Nat×List T))):Option (List T):=match zhh zero,parts with
 |some z,some l=>zlu z l
 |_,_=>none
noncomputable def zpk (Γ:Env) (ρ:Operand→T) (t:TypeId) (parts:List (Nat×Operand)):Option T:=match Γ.ti.at t with
 |some i=>(match i.desc with
  |.struct fs=>bif (fs.toList.all fun f=>(Γ.ti.at f.type).isSome) then (match zht i.zero (ze3 (zr5 Γ fs) ρ parts) with|some l=>some (.agg l)|none=>none) else none
  |.array _ e=>(match Γ.ti.at e with|some j=>(match zht i.zero (ze3 (zeo j.size) ρ parts) with|some l=>some (.agg l)|none=>none)|none=>none)
  |_=>none)
 |none=>none
theorem zta {g:Nat→Fam} {place:Nat→Option (Nat×Nat)} {ρT:Operand→T} {ρ:Operand→Value} {zero:List Value} {parts:List (Nat×Operand)} {l:List T} (hρ:∀ x,VT A β g (ρT x) (ρ x)) (h:zht zero (ze3 place ρT parts)=some l):∃ cs,zl0 zero (zd4 place ρ parts)=some cs∧VL A β g l cs∧l.all T.one=true:=by
 unfold zht at h;split at h
 ·rename_i z p hz hp;obtain ⟨a,b⟩:=zil (A:=A) (β:=β) (g:=g) hz;obtain ⟨r',k1,k2⟩:=zyl hρ hp;obtain ⟨cs,c1,c2,c3,c4⟩:=z40 k2 a h;exact ⟨cs,by unfold zl0;rw [k1];exact c1,c2,c4 b⟩
 ·simp at h
theorem z7v (h:TRel GL A β S s) {t:TypeId} {parts:List (Nat×Operand)} {ρT:Operand→T} {ρ:Operand→Value} {r:T} (hρ:∀ x,VT A β (zag s.obj) (ρT x) (ρ x)) (ht:zpk Γ ρT t parts=some r):Ok0 GL A β S s (zdn Γ s ρ t parts) r:=by
 unfold zpk at ht;split at ht
 ·rename_i i hi;split at ht
  ·rename_i fs hd
   cases hq:(fs.toList.all fun f=>(Γ.ti.at f.type).isSome) with
   |false=>rw [hq] at ht;simp at ht
   |true =>
    rw [hq] at ht;simp only [cond_true] at ht;split at ht
    ·rename_i l hl;cases ht;obtain ⟨cs,c1,c2,_⟩:=zta hρ hl
     have:zdn Γ s ρ t parts=some (.agg cs.toArray,s):=by
      unfold zdn;simp only [hi,hd,hq,zbe,c1];rfl
     rw [this];exact Ok0.same h (.agg c2)
    ·simp at ht
  ·rename_i n e hd;split at ht
   ·rename_i j hj;split at ht
    ·rename_i l hl;cases ht;obtain ⟨cs,c1,c2,_⟩:=zta hρ hl
     have:zdn Γ s ρ t parts=some (.agg cs.toArray,s):=by
      unfold zdn;simp only [hi,hd,hj,c1];rfl
     rw [this];exact Ok0.same h (.agg c2)
    ·simp at ht
   ·simp at ht
  ·simp at ht
 ·simp at ht
noncomputable def zcg (Γ:Env) (S:TS) (ρ:Operand→T) (t:TypeId) (n:Nat) (parts:List (Nat×Operand)):Option (T×TS):=match zb7 Γ t with
  | some j => bif Nat.ble (n * j.size) 16777216 && Nat.blt 0 j.size then
      (match zht (List.replicate n j.zero).flatten (ze3 (zeo j.size) ρ parts) with
      |some l=>some (.arr S.n j.size 0 n n l.length,S.add (.cells true l.length l))
      |none=>none) else none
  |none=>none
theorem zxt (h:TRel GL A β S s) {t:TypeId} {n:Nat} {parts:List (Nat×Operand)} {ρT:Operand→T} {ρ:Operand→Value} {r:T} (hρ:∀ x,VT A β (zag s.obj) (ρT x) (ρ x)) (ht:zcg Γ S ρT t n parts=some (r,S')):Ok GL A β s (za4 Γ s ρ t n parts) r S':=by
 unfold zcg at ht;split at ht
 ·rename_i j hj
  cases hq:(Nat.ble (n*j.size) 16777216 && Nat.blt 0 j.size) with
  |false=>rw [hq] at ht;simp at ht
  |true =>
   rw [hq] at ht;simp only [cond_true] at ht;split at ht
   ·rename_i l hl;cases ht;obtain ⟨cs,c1,c2,c3⟩:=zta hρ hl;obtain ⟨s',β',k1,k2,k3,k4⟩:=h.newBox 0 (by omega) c2 (c2.one c3)
    have:za4 Γ s ρ t n parts=some (.slice (some (mkA s.n (s.n*1024+0) 0)) n n,s'):=by
     unfold za4;simp only [hj,hq,cond_true,c1,k1];rfl
    rw [this];exact ⟨_,s',A,β',rfl,k3,.arr k2 (.inl (by omega)),k4⟩
   ·simp at ht
 ·simp at ht
noncomputable def zer (e:Nat) (ρ:Operand→T):Nat→List (Nat×Operand)→Option (List T)
 |_,[]=>some []
 |i,(k,x) :: r=>bif Nat.beq k i && (Nat.beq (ρ x).cells.length e && (ρ x).cells.all T.one) then (match zer e ρ (i+1) r with|some l=>some (ρ x :: l)|none=>none) else none
noncomputable def zar (Γ:Env) (ρ:Operand→T) (t:TypeId) (n:Nat) (parts:List (Nat×Operand)):Option T:=match zb7 Γ t with
  | some j => bif Nat.ble (n * j.size) 16777216 && (Nat.blt 0 j.size && (Nat.beq j.zero.length j.size && Nat.beq parts.length n)) then
      (match zer j.size ρ 0 parts with
      |some l=>some (.lst j.size l)
      |none=>none) else none
  |none=>none
theorem z43 {g:Nat→Fam} {e:Nat} {ρT:Operand→T} {ρ:Operand→Value} (hρ:∀ x,VT A β g (ρT x) (ρ x)):∀ {parts:List (Nat×Operand)} {i:Nat} {l:List T} {done:List Value} {rest:List Value},zer e ρT i parts=some l→done.length=i*e→rest.length=parts.length*e →
    ∃ r cs,zd4 (zeo e) ρ parts=some r∧zm9 (done++rest) r=some (done++cs)∧VL A β g (l.flatMap T.cells) cs∧(∀ t,t∈l→t.cells.length=e)∧l.length=parts.length
  |[],i,l,done,rest,h,hd,hr=>by
    simp only [zer,Option.some.injEq] at h;subst h;have:rest=[]:=List.eq_nil_of_length_eq_zero (by simpa using hr);subst this;exact ⟨[],[],rfl,rfl,.nil,by simp,rfl⟩
  |(k,x) :: parts,i,l,done,rest,h,hd,hr=>by
    unfold zer at h
    cases hq:(Nat.beq k i && (Nat.beq (ρT x).cells.length e && (ρT x).cells.all T.one)) with
    |false=>rw [hq] at h;simp at h
    |true =>
      rw [hq] at h;simp only [cond_true] at h;simp only [Bool.and_eq_true] at hq;obtain ⟨q1,q2,q3⟩:=hq;have:=Nat.eq_of_beq_eq_true q1;subst this;have q2':=Nat.eq_of_beq_eq_true q2;split at h
      · rename_i l' hl;cases h;have hc:=(hρ x).cells (zks q3);have hcl:=hc.len;have hlen:rest.length=e+parts.length*e:=by rw [hr,List.length_cons,Nat.add_mul];omega
        obtain ⟨r,cs,a1,a2,a3,a4,a5⟩:=z43 hρ (done:=done++(ρ x).cells.toList) (rest:=rest.drop e) hl (by rw [List.length_append,hd,← hcl,q2',Nat.add_mul];omega) (by rw [List.length_drop];omega);refine ⟨(k*e,(ρ x).cells.toList) :: r,(ρ x).cells.toList++cs,?_,?_,?_,?_,by rw [List.length_cons,List.length_cons,a5]⟩
        · unfold zd4;simp only [zeo,a1];rw [← hcl,q2];rfl
        · unfold zm9
          have hsp:splice (done++rest) (k*e) (ρ x).cells.toList=done++(ρ x).cells.toList++rest.drop e:=by
            unfold Go.Proofs.YtcgdomhednbdpaaDoor.splice;rw [← hcl,q2',← hd,List.take_append,List.drop_append];simp
          rw [hsp,a2,zcl (show k*e+(ρ x).cells.toList.length≤(done++rest).length by rw [List.length_append,← hcl,q2',hd,hlen];omega),cond_true,List.append_assoc]
        · rw [List.flatMap_cons];exact hc.append a3
        · intro t ht;rcases List.mem_cons.1 ht with rfl|ht
          · exact q2'
          · exact a4 t ht
      · simp at h
theorem zk9 (h:TRel GL A β S s) {t:TypeId} {n:Nat} {parts:List (Nat×Operand)} {ρT:Operand→T} {ρ:Operand→Value} {r:T} (hρ:∀ x,VT A β (zag s.obj) (ρT x) (ρ x)) (ht:zar Γ ρT t n parts=some r):Ok0 GL A β S s (za4 Γ s ρ t n parts) r:=by
 unfold zar at ht;split at ht
 ·rename_i j hj
  cases hq:(Nat.ble (n*j.size) 16777216 && (Nat.blt 0 j.size && (Nat.beq j.zero.length j.size && Nat.beq parts.length n))) with
  |false=>rw [hq] at ht;simp at ht
  |true =>
   rw [hq] at ht;simp only [cond_true] at ht;simp only [Bool.and_eq_true] at hq;obtain ⟨q1,q2,q3,q4⟩:=hq;have q3':=Nat.eq_of_beq_eq_true q3;have q4':=Nat.eq_of_beq_eq_true q4;split at ht
   ·rename_i l hl;cases ht
    obtain ⟨r,cs,a1,a2,a3,a4,a5⟩:=z43 hρ (done:=[]) (rest:=(List.replicate n j.zero).flatten) hl (by simp) (by
     rw [List.length_flatten];simp [q3',q4'])
    obtain ⟨s',A',k1,k2,k3,k4,k5⟩:=h.newFrozen 0 (by omega) a3
    have hop:za4 Γ s ρ t n parts=some (.slice (some (mkA s.n (s.n*1024+0) 0)) n n,s'):=by
     unfold za4;simp only [hj,q1,q2,Bool.and_self,cond_true,a1,zl0];rw [List.nil_append] at a2;rw [a2];simp only [List.nil_append,k1];rfl
    rw [hop];refine ⟨_,s',A',rfl,k4,?_,k5⟩;have:=VT.lst (A:=A') (β:=β) (g:=zag s'.obj) (off:=0) (cap:=n) k2 k3 (k5.stp.vl h a3) a4 (zai.1 q2) (by rw [List.drop_zero,List.take_length]) (.inl (by omega)) (by omega);rw [a5,q4'] at this;exact this
   ·simp at ht
 ·simp at ht
end
end
section
open Go Go.RowKit
section
variable {GL:List (Nat×List Value)} {A A' A2:Nat→Prop} {β β' β2:Bx} {S S':TS} {s s' s2:CS} {P:Program} {Γ:Env}
noncomputable def zbx (op:BinOp) (k k':IntKind) (a b:Int):Option T :=
 match op with
 |.shl=>if 0≤b then some (.int k (k.wrap (a*2 ^ (min b.toNat k.bits)))) else none
 |.shr=>if 0≤b then some (.int k (a.fdiv (2 ^ (min b.toNat k.bits)))) else none
 |op=>bif Nat.beq (ikN k) (ikN k') then (match op with
  |.add=>some (.int k (k.wrap (a+b)))
  |.sub=>some (.int k (k.wrap (a - b)))
  |.mul=>some (.int k (k.wrap (a*b)))
  |.quo=>if b=0 then none else some (.int k (k.wrap (a.tdiv b)))
  |.rem=>if b=0 then none else some (.int k (a.tmod b))
  |.and=>some (.int k (k.wrap (BitVec.ofInt k.bits a &&& BitVec.ofInt k.bits b).toNat))
  |.or=>some (.int k (k.wrap (BitVec.ofInt k.bits a ||| BitVec.ofInt k.bits b).toNat))
  |.xor=>some (.int k (k.wrap (BitVec.ofInt k.bits a ^^^ BitVec.ofInt k.bits b).toNat))
  |.andNot=>some (.int k (k.wrap (BitVec.ofInt k.bits a &&& ~~~ BitVec.ofInt k.bits b).toNat))
  |.eql=>some (.bool (decide (a=b)))
  |.neq=>some (.bool (decide (a≠b)))
  |.lss=>some (.bool (decide (a<b)))
  |.leq=>some (.bool (decide (a≤b)))
  |.gtr=>some (.bool (decide (b<a)))
  |.geq=>some (.bool (decide (b≤a)))
  |_=>none) else none
theorem yan {op:BinOp} {k k':IntKind} {a b:Int} {r:T} (h:zbx op k k' a b=some r):∃ v,VT A β (zag s.obj) r v∧∀ {ρ:Operand→Value} {o:Oper} {t t2:TypeId} {x y:Operand} {s:CS},o.op=.binOp op t x y t2→ρ x=.int k a→ρ y=.int k' b→zcq P Γ ρ o s t op (.int k a) (.int k' b)=some (v,s):=by
 unfold zbx at h;split at h
 ·split at h
  ·rename_i h0;cases h;exact ⟨_,.int _ _,fun ho hx hy=>zan ho hx hy default (by simp only [binOp,Op.shift];rw [if_neg (by omega)]) rfl⟩
  ·simp at h
 ·split at h
  ·rename_i h0;cases h;exact ⟨_,.int _ _,fun ho hx hy=>zan ho hx hy default (by simp only [binOp,Op.shift];rw [if_neg (by omega)]) rfl⟩
  ·simp at h
 ·cases hq:Nat.beq (ikN k) (ikN k') with
  |false=>rw [hq] at h;simp at h
  |true =>
   rw [hq,cond_true] at h;have:=z1x hq;subst this;split at h
   ·cases h;exact ⟨_,.int _ _,fun ho hx hy=>zan ho hx hy default (by simp only [binOp,Op.intArith,ne_eq,not_true,if_false]) rfl⟩
   ·cases h;exact ⟨_,.int _ _,fun ho hx hy=>zan ho hx hy default (by simp only [binOp,Op.intArith,ne_eq,not_true,if_false]) rfl⟩
   ·cases h;exact ⟨_,.int _ _,fun ho hx hy=>zan ho hx hy default (by simp only [binOp,Op.intArith,ne_eq,not_true,if_false]) rfl⟩
   ·split at h
    ·simp at h
    ·rename_i hb;cases h;exact ⟨_,.int _ _,fun ho hx hy=>zan ho hx hy default (by simp only [binOp,Op.intDiv,ne_eq,not_true,if_false];rw [if_neg hb]) rfl⟩
   ·split at h
    ·simp at h
    ·rename_i hb;cases h;exact ⟨_,.int _ _,fun ho hx hy=>zan ho hx hy default (by simp only [binOp,Op.intDiv,ne_eq,not_true,if_false];rw [if_neg hb]) rfl⟩
   ·cases h;exact ⟨_,.int _ _,fun ho hx hy=>zan ho hx hy default (by simp only [binOp,Op.intBits,ne_eq,not_true,if_false]) rfl⟩
   ·cases h;exact ⟨_,.int _ _,fun ho hx hy=>zan ho hx hy default (by simp only [binOp,Op.intBits,ne_eq,not_true,if_false]) rfl⟩
   ·cases h;exact ⟨_,.int _ _,fun ho hx hy=>zan ho hx hy default (by simp only [binOp,Op.intBits,ne_eq,not_true,if_false]) rfl⟩
   ·cases h;exact ⟨_,.int _ _,fun ho hx hy=>zan ho hx hy default (by simp only [binOp,Op.intBits,ne_eq,not_true,if_false]) rfl⟩
   ·cases h;exact ⟨_,.bool _,fun ho hx hy=>zan ho hx hy default (by simp [binOp,Op.intCmp];rfl) rfl⟩
   ·cases h;exact ⟨_,.bool _,fun ho hx hy=>zan ho hx hy default (by simp [binOp,Op.intCmp]<;>rfl) rfl⟩
   ·cases h;exact ⟨_,.bool _,fun ho hx hy=>zan ho hx hy default (by simp [binOp,Op.intCmp]) rfl⟩
   ·cases h;exact ⟨_,.bool _,fun ho hx hy=>zan ho hx hy default (by simp [binOp,Op.intCmp]) rfl⟩
   ·cases h;exact ⟨_,.bool _,fun ho hx hy=>zan ho hx hy default (by simp [binOp,Op.intCmp]) rfl⟩
   ·cases h;exact ⟨_,.bool _,fun ho hx hy=>zan ho hx hy default (by simp [binOp,Op.intCmp]) rfl⟩
   ·simp at h
noncomputable def zrj (op:BinOp) (a b:ByteArray):Option T:=match op with
 |.eql=>some (.bool (decide (a=b)))
 |.neq=>some (.bool (!decide (a=b)))
 |.add=>if a.size+b.size≤9223372036854775807 then some (.str (a++b)) else none
 |_=>none
theorem z70 {op:BinOp} {a b:ByteArray} {r:T} (h:zrj op a b=some r):∃ v,VT A β (zag s.obj) r v∧∀ {ρ:Operand→Value} {o:Oper} {t t2:TypeId} {x y:Operand} {s:CS},o.op=.binOp op t x y t2→ρ x=.string a→ρ y=.string b→zcq P Γ ρ o s t op (.string a) (.string b)=some (v,s):=by
  unfold zrj at h;split at h
  · cases h;exact ⟨_,.bool _,fun ho hx hy=>zj2 ho hx hy rfl (fun d=>zqq d a) rfl rfl (by unfold eqGuard;simp) (by show some _=_;rw [z07]) rfl⟩
  · cases h;exact ⟨_,.bool _,fun ho hx hy=>zj2 ho hx hy rfl (fun d=>zqq d a) rfl rfl (by unfold eqGuard;simp) (by show some _=_;rw [z07]) rfl⟩
  · split at h
    · rename_i hs;cases h
      exact ⟨_,.str _,fun ho hx hy=>zj2 ho hx hy rfl (fun d=>zqq d a) rfl rfl (by unfold eqGuard;simp) (by
        show zb6 P (Op.stringOp .add a b)=_;unfold Op.stringOp;simp only
        rw [if_neg (by have : IntKind.i64.max = 9223372036854775807 := by decide
                       omega)]
        rfl) rfl⟩
    · simp at h
  · simp at h
theorem zbg {α γ:Type} {f:α→Sem γ}:∀ {m:Sem α},zb6 P (m >>= f)=(zb6 P m).bind fun v=>zb6 P (f v):=by
 intro m
 induction m with
 |pure a=>rfl
 |program k ih=>exact ih P
 |_=>rfl
theorem z6k {ρ:Operand→Value} {t t2:TypeId} {x y:Operand} {op:BinOp} {v w r:Value} {o:Oper} (ho:o.op=.binOp op t x y t2) (hx:ρ x=v) (hy:ρ y=w) (hc:binC op v w=none) (hn:∀ d,nilT d v=none) (hpv:za3 3 v=true) (hpw:za3 3 w=true)
    (hr:zb6 P (do eqGuard op t x y v w;binOp op t v w)=some r) (hp:za3 3 r=true):zcq P Γ ρ o s t op v w=some (r,s):=by
  unfold zcq;rw [hc];simp only;rw [z42 hn];simp only [zea];unfold zll
  have hops:(o.op.operands.toList.all fun z=>za3 3 (ρ z))=true:=by
    rw [ho];simp [Op.operands,hx,hy,hpv,hpw]
  rw [hops]
  have he:execOp ρ o=((do eqGuard op t x y v w;binOp op t v w) >>= fun z=>pure (Next.value z)):=by
    unfold execOp;rw [ho];simp only [hx,hy]
  rw [he]
  have hv:zb6 P ((do eqGuard op t x y v w;binOp op t v w) >>= fun z=>pure (Next.value z))=some (.value r):=by
    rw [zbg,hr];rfl
  simp only [cond_true];rw [hv];show retC s (bif za3 3 r then some r else none)=some (r,s);rw [hp];rfl
def yhr:T→Option Value
 |.int k n=>some (.int k n)
 |.bool b=>some (.bool b)
 |.str b=>some (.string b)
 |_=>none
def zpp:List T→Option (List Value)
 |[]=>some []
 |t :: l=>match yhr t,zpp l with|some v,some r=>some (v :: r)|_,_=>none
theorem ydf {g:Nat→Fam} {t:T} {v w:Value} (h:yhr t=some w) (hv:VT A β g t v):v=w∧∀ n,za3 n v=true:=by
 unfold yhr at h;split at h
 ·cases h;cases hv;exact ⟨rfl,fun n=>by cases n<;>rfl⟩
 ·cases h;cases hv;exact ⟨rfl,fun n=>by cases n<;>rfl⟩
 ·cases h;cases hv;exact ⟨rfl,fun n=>by cases n<;>rfl⟩
 ·simp at h
theorem zro {g:Nat→Fam}:∀ {l:List T} {vs ws:List Value},zpp l=some ws→VL A β g l vs→vs=ws∧vs.all (za3 2)=true
 |[],_,ws,h,.nil=>by simp only [zpp,Option.some.injEq] at h;subst h;exact ⟨rfl,rfl⟩
 |t :: l,_,ws,h,.cons h1 h2=>by
  unfold zpp at h;split at h
  ·rename_i v r e1 e2;cases h;obtain ⟨a,b⟩:=ydf e1 h1;obtain ⟨c,d⟩:=zro e2 h2;rw [a,c] at *;exact ⟨rfl,by rw [List.all_cons,b 2,d];rfl⟩
  ·simp at h
noncomputable def zvj (P:Program) (t:TypeId) (op:BinOp) (x y:Operand) (a b:List T):Option T:=match zpp a,zpp b with
 |some va,some vb=>(match zb6 P (do eqGuard op t x y (.agg ⟨va⟩) (.agg ⟨vb⟩);binOp op t (.agg ⟨va⟩) (.agg ⟨vb⟩)) with
  |some (.bool r)=>some (.bool r)
  |_=>none)
 |_,_=>none
theorem z9z (d:TypeDesc) (a:Array Value):nilT d (.agg a)=none:=by cases d<;>rfl
noncomputable def tNil (S:TS):TypeDesc→T→Option Bool
 |.pointer _,.nilp=>some true
 |.pointer _,.ptr b _ N=>bif S.has b N then some false else none
 |.pointer _,.cp _=>some false
 |.slice _,.nils=>some true
 |.slice _,.arr b _ _ _ _ N=>bif S.has b N && Nat.blt 0 N then some false else none
 |.slice _,.lst _ (_ :: _)=>some false
 |.slice _,.emp _=>some false
 |.map _ _,.nilm=>some true
 |.func _ _ _,.nilf=>some true
 |.func _ _ _,.fn _ _ _=>some false
 |_,_=>none
theorem z7r (h:TRel GL A β S s) {d:TypeDesc} {t:T} {v:Value} {b:Bool} (hv:VT A β (zag s.obj) t v) (ht:tNil S d t=some b):nilT d v=some b:=by
 unfold tNil at ht;split at ht
 ·cases ht;cases hv;rfl
 ·rename_i b' _ N
  cases hs:S.has b' N with
  |false=>rw [hs] at ht;simp at ht
  |true =>
   rw [hs] at ht;cases ht;obtain ⟨z,l,hS⟩:=TS.has_ok hs;obtain ⟨f,u,rfl,hb⟩:=ziu h hS hv;rfl
 ·cases ht;cases hv;rfl
 ·cases ht;cases hv;rfl
 ·rename_i b' _ _ _ _ N
  cases hs:(S.has b' N && Nat.blt 0 N) with
  |false=>rw [hs] at ht;simp at ht
  |true =>
   rw [hs] at ht;cases ht;simp only [Bool.and_eq_true] at hs;obtain ⟨z,l,hS⟩:=TS.has_ok hs.1;have:=zai.1 hs.2;rcases zf8 h hS hv with ⟨f,u,rfl,hb,htag⟩|⟨rfl,hb,rfl,rfl,rfl,rfl⟩
   ·rfl
   ·omega
 ·cases ht;cases hv;rfl
 ·cases ht;cases hv;rfl
 ·cases ht;cases hv;rfl
 ·cases ht;cases hv;rfl
 ·cases ht;cases hv;rfl
 ·simp at ht
noncomputable def tBin (P:Program) (Γ:Env) (S:TS) (t:TypeId) (op:BinOp) (x y:Operand) (a b:T):Option T:=match a,b with
 |.int k m,.int k' n=>zbx op k k' m n
 |.str m,.str n=>zrj op m n
 |.bool m,.bool n=>(match Γ.ti.at t with
  |some i=>(match i.desc,op with|.bool,.eql=>some (.bool (m == n))|.bool,.neq=>some (.bool (!(m == n)))|_,_=>none)
  |none=>none)
 |.agg m,.agg n=>zvj P t op x y m n
 |a,b=>(match Γ.ti.at t with
  |some i=>(match tNil S i.desc a,tNil S i.desc b with
   |some p,some q=>bif p || q then (match op with|.eql=>some (.bool (p && q))|.neq=>some (.bool (!(p && q)))|_=>none) else none
   |_,_=>none)
  |none=>none)
theorem z53 {op:BinOp} {v w:Value} {d:TypeDesc} {p:Bool} (h:nilT d v=some p):binC op v w=none:=by
 unfold nilT at h;split at h<;>first | (simp at h;done)|rfl
theorem yhi (hE:zcm P Γ) (h:TRel GL A β S s) {t t2:TypeId} {op:BinOp} {x y:Operand} {o:Oper} {a b r:T} {ρ:Operand→Value} (ho:o.op=.binOp op t x y t2) (hx:VT A β (zag s.obj) a (ρ x)) (hy:VT A β (zag s.obj) b (ρ y)) (ht:tBin P Γ S t op x y a b=some r):Ok0 GL A β S s (zcq P Γ ρ o s t op (ρ x) (ρ y)) r:=by
 unfold tBin at ht;split at ht
 ·rename_i k m k' n;obtain ⟨v,h1,h2⟩:=yan (A:=A) (β:=β) (s:=s) (P:=P) (Γ:=Γ) ht;generalize e1:ρ x=vx at hx;generalize e2:ρ y=vy at hy;cases hx;cases hy;rw [h2 ho e1 e2];exact Ok0.same h h1
 ·rename_i m n;obtain ⟨v,h1,h2⟩:=z70 (A:=A) (β:=β) (s:=s) (P:=P) (Γ:=Γ) ht;generalize e1:ρ x=vx at hx;generalize e2:ρ y=vy at hy;cases hx;cases hy;rw [h2 ho e1 e2];exact Ok0.same h h1
 ·rename_i m n;generalize e1:ρ x=vx at hx;generalize e2:ρ y=vy at hy;cases hx;cases hy;split at ht
  ·rename_i i hi;have hd:=(hE.ti _ _ hi).und;split at ht
   ·rename_i hdb;cases ht;rw [hdb] at hd
    rw [zj2 ho e1 e2 rfl (fun d=>zyu d m) rfl rfl (by unfold eqGuard;simp) (r:=.bool (m == n)) (by
     show zb6 P (do pure (Value.bool (← Op.equal t (.bool m) (.bool n))):Sem Value)=_
     rw [zgg (zk3 hd)];rfl) rfl]
    exact Ok0.same h (.bool _)
   ·rename_i hdb;cases ht;rw [hdb] at hd
    rw [zj2 ho e1 e2 rfl (fun d=>zyu d m) rfl rfl (by unfold eqGuard;simp) (r:=.bool (!(m == n))) (by
     show zb6 P (do pure (Value.bool (!(← Op.equal t (.bool m) (.bool n)))):Sem Value)=_
     rw [zgg (zk3 hd)];rfl) rfl]
    exact Ok0.same h (.bool _)
   ·simp at ht
  ·simp at ht
 ·rename_i m n;generalize e1:ρ x=vx at hx;generalize e2:ρ y=vy at hy;cases hx;cases hy;rename_i va ha vb hb;unfold zvj at ht;split at ht
  ·rename_i wa wb h1 h2;obtain ⟨rfl,k1⟩:=zro h1 ‹VL A β (zag s.obj) m _›;obtain ⟨rfl,k2⟩:=zro h2 ‹VL A β (zag s.obj) n _›;split at ht
   ·rename_i r' hr;cases ht;rw [z6k ho e1 e2 rfl (fun d=>z9z d _) k1 k2 hr rfl];exact Ok0.same h (.bool _)
   ·simp at ht
  ·simp at ht
 ·split at ht
  ·rename_i i hi;split at ht
   ·rename_i p q h1 h2
    cases hpq:(p || q) with
    |false=>rw [hpq] at ht;simp at ht
    |true =>
     rw [hpq] at ht;simp only [cond_true] at ht;have n1:=z7r h hx h1;have n2:=z7r h hy h2;split at ht
     ·cases ht
      have:zcq P Γ ρ o s t .eql (ρ x) (ρ y)=some (.bool (p && q),s):=by
       unfold zcq;rw [z53 n1];simp only;unfold eqC;simp only [hi,n1,n2];unfold nilC;simp only [hpq,cond_true];simp [zea]
      rw [this];exact Ok0.same h (.bool _)
     ·cases ht
      have:zcq P Γ ρ o s t .neq (ρ x) (ρ y)=some (.bool (!(p && q)),s):=by
       unfold zcq;rw [z53 n1];simp only;unfold eqC;simp only [hi,n1,n2];unfold nilC;simp only [hpq,cond_true];simp [zea]
      rw [this];exact Ok0.same h (.bool _)
     ·simp at ht
   ·simp at ht
  ·simp at ht
noncomputable def tUn (op:UnOp):T→Option T
 |.bool b=>(match op with|.not=>some (.bool (!b))|_=>none)
 |.int k a=>(match op with
  |.neg=>some (.int k (k.wrap (0 - a)))
  |.xor=>some (.int k (k.wrap (BitVec.ofInt k.bits (if k.signed then -1 else k.max) ^^^ BitVec.ofInt k.bits a).toNat))
  |_=>none)
 |_=>none
theorem yjj (h:TRel GL A β S s) {t:TypeId} {op:UnOp} {x:Operand} {o:Oper} {a r:T} {ρ:Operand→Value} (ho:o.op=.unOp op t x) (hx:VT A β (zag s.obj) a (ρ x)) (ht:tUn op a=some r):Ok0 GL A β S s (zea P ρ o s (unC op (ρ x))) r:=by
 obtain ⟨d,opx,ty,pos,e,g⟩:=o;simp only at ho;subst ho;unfold tUn at ht;split at ht
 ·rename_i b;generalize e1:ρ x=vx at hx;cases hx;split at ht
  ·cases ht;exact Ok0.same h (.bool _)
  ·simp at ht
 ·rename_i k m;generalize e1:ρ x=vx at hx;cases hx;split at ht
  ·cases ht;rw [yfp e1];exact Ok0.same h (.int _ _)
  ·cases ht;rw [yfo e1];exact Ok0.same h (.int _ _)
  ·simp at ht
 ·simp at ht
def ztf:List T→Option (List UInt8)
 |[]=>some []
 |.int .u8 k :: l=>(match ztf l with|some r=>some (UInt8.ofNat k.toNat :: r)|none=>none)
 |_ :: _=>none
theorem z0t {g:Nat→Fam}:∀ {l:List T} {vs:List Value} {r:List UInt8},VL A β g l vs→ztf l=some r→ztg vs=some r
 |[],_,r,.nil,h=>by simp only [ztf,Option.some.injEq] at h;subst h;rfl
 |t :: l,_,r,.cons h1 h2,h=>by
  unfold ztf at h;split at h
  ·simp_all
  ·rename_i k l' hh;cases hh;split at h
   ·rename_i r' hr;cases h;cases h1;unfold ztg;rw [z0t h2 hr]
   ·simp at h
  ·simp at h
noncomputable def tStr (Γ:Env) (S:TS) (d1 d2:TypeDesc) (x:T):Option T:=match d1,d2 with
 |.slice e,.string=>bif isU8 Γ e then (match tSrc S 1 x with
  |some (_,xs)=>(match ztf xs with|some r=>some (.str ⟨r.toArray⟩)|none=>none)
  |none=>none) else none
 |_,_=>none
theorem z03 (h:TRel GL A β S s) {src dst:TypeId} {x:Operand} {o:Oper} {a r:T} {ρ:Operand→Value} {i j:TI} (hi:Γ.ti.at src=some i) (hj:Γ.ti.at dst=some j) (hx:VT A β (zag s.obj) a (ρ x)) (ht:tStr Γ S i.desc j.desc a=some r) (hsl:∀ n xs,tSrc S 1 a=some (n,xs)→∃ aa c m,ρ x=.slice aa m c):Ok0 GL A β S s (zak P Γ ρ o s src dst (ρ x)) r:=by
 unfold tStr at ht;split at ht
 ·rename_i e hd1 hd2
  cases hq:isU8 Γ e with
  |false=>rw [hq] at ht;simp at ht
  |true =>
   rw [hq] at ht;simp only [cond_true] at ht;split at ht
   ·rename_i n xs hsrc;obtain ⟨e1,e2,e3⟩:=zvs h (show 0<1 by omega) hx hsrc;obtain ⟨ys,s1,f1,f2,f3⟩:=e3 n (Nat.le_refl _);rw [List.take_of_length_le (by omega)] at f2;split at ht
    ·rename_i r' hr';cases ht;obtain ⟨aa,c,m,hsl⟩:=hsl n xs hsrc;rw [hsl] at e1 f1 ⊢;simp only [lenC,Option.some.injEq] at e1;subst e1
     have:zak P Γ ρ o s src dst (.slice aa m c)=some (.string ⟨r'.toArray⟩,s1):=by
      unfold zak;simp only [hi,hj,hd1,hd2,hq,cond_true];rw [f1];unfold strC;simp only [z0t f2 hr']
     rw [this];exact Ok0.rd h (f3.rel0 h) (.str _)
    ·simp at ht
   ·simp at ht
 ·simp at ht
noncomputable def zpi (Γ:Env) (S:TS) (src dst:TypeId) (x:T):Option T:=match Γ.ti.at src,Γ.ti.at dst with
 |some i,some j=>(match x with
  |.int _ n=>(match j.desc with|.int k=>some (.int k (k.wrap n))|_=>none)
  |.str b=>(match i.desc,j.desc with
   |.string,.slice e=>bif isU8 Γ e && Nat.ble b.size 1000000000 then some (.lst 1 (zgj b)) else none
   |.string,.string=>some (.str b)
   |_,_=>none)
  |.lst e' l=>tStr Γ S i.desc j.desc (.lst e' l)
  |.arr b e' off len cap N=>tStr Γ S i.desc j.desc (.arr b e' off len cap N)
  |.nils=>tStr Γ S i.desc j.desc .nils
  |_=>none)
 |_,_=>none
theorem z5e {ρ:Operand→Value} {o:Oper} {src dst e:TypeId} {i j:TI} {b:ByteArray} (hi:Γ.ti.at src=some i) (hj:Γ.ti.at dst=some j) (hd1:i.desc=.string) (hd2:j.desc=.slice e) (hq:(isU8 Γ e && Nat.ble b.size 1000000000)=true):zak P Γ ρ o s src dst (.string b)=zdy b.size b.size (s.newRow 2 (zfv b)):=by
 unfold zak;simp only [hi,hj,hd1,hd2,hq,cond_true]
theorem zxs (hE:zcm P Γ) (h:TRel GL A β S s) {src dst:TypeId} {x:Operand} {o:Oper} {a r:T} {ρ:Operand→Value} (ho:o.op=.convert src dst x) (hx:VT A β (zag s.obj) a (ρ x)) (ht:zpi Γ S src dst a=some r):Ok0 GL A β S s (zak P Γ ρ o s src dst (ρ x)) r:=by
 unfold zpi at ht;split at ht
 ·rename_i i j hi hj;split at ht
  ·rename_i k n;generalize e1:ρ x=vx at hx;cases hx;split at ht
   ·rename_i k' hd;cases ht;obtain ⟨d,opx,ty,pos,e,g⟩:=o;simp only at ho;subst ho;have hs:=(hE.ti _ _ hi).und;have hdd:=(hE.ti _ _ hj).und;rw [hd] at hdd;unfold zak;simp only [hi,hj,hd];rw [zho ⟨k,e1⟩ (by rw [hs];rfl) hdd];exact Ok0.same h (.int _ _)
   ·simp at ht
  ·rename_i b;generalize e1:ρ x=vx at hx;cases hx;split at ht
   ·rename_i e hd1 hd2
    cases hq:(isU8 Γ e && Nat.ble b.size 1000000000) with
    |false=>rw [hq] at ht;simp at ht
    |true =>
     rw [hq] at ht;cases ht;have hv:VL A β (zag s.obj) (zgj b) (zfv b):=zq7 _;obtain ⟨s',A',k1,k2,k3,k4,k5⟩:=h.newFrozen 2 (by omega) hv;rw [z5e hi hj hd1 hd2 hq,k1];refine ⟨_,s',A',rfl,k4,?_,k5⟩
     have hfm:(zgj b).flatMap T.cells=zgj b:=by
      unfold zgj yeu;rw [List.flatMap_map]
      have:∀ l:List UInt8,List.flatMap (fun (a:UInt8)=>(T.int IntKind.u8 (a.toNat:Int)).cells) l=l.map fun a=>.int .u8 (a.toNat:Int):=by
       intro l
       induction l with
       |nil=>rfl
       |cons c l ih=>rw [List.flatMap_cons,ih];rfl
      exact this _
     have hln:(zgj b).length=b.size:=by simp [zgj]
     have:=VT.lst (A:=A') (β:=β) (g:=zag s'.obj) (e:=1) (off:=0) (cap:=b.size) (l:=zgj b) k2 k3 (by rw [hfm];exact k5.stp.vl h hv) (fun t ht=>by
      obtain ⟨c,_,rfl⟩:=List.mem_map.1 ht
      rfl) (by omega) (by rw [List.drop_zero,List.take_length]) (.inr (by omega)) (by omega)
     rw [hln] at this;exact this
   ·rename_i hd1 hd2;cases ht
    have:zak P Γ ρ o s src dst (.string b)=some (.string b,s):=by
     unfold zak;simp only [hi,hj,hd1,hd2]
    rw [this];exact Ok0.same h (.str _)
   ·simp at ht
  ·refine z03 h hi hj hx ht fun n xs hs=>?_;generalize ρ x=vx at hx
   cases hx with
   |lnil=>exact ⟨_,_,_,rfl⟩
   |lst=>exact ⟨_,_,_,rfl⟩
  ·rename_i b e' off len cap N;refine z03 h hi hj hx ht fun n xs hs=>?_;unfold tSrc at hs;simp only at hs;split at hs
   ·rename_i z N' l hS
    cases hq:(Nat.beq N N' && (Nat.beq e' 1 && Nat.ble (off+len*1) N)) with
    |false=>rw [hq] at hs;simp at hs
    |true =>
     simp only [Bool.and_eq_true] at hq;have:=Nat.eq_of_beq_eq_true hq.1;subst this;rcases zf8 h hS hx with ⟨f,u,h1,hb,_⟩|⟨h1,_⟩
     ·exact ⟨_,_,_,h1⟩
     ·exact ⟨_,_,_,h1⟩
   ·simp at hs
  ·refine z03 h hi hj hx ht fun n xs hs=>?_;generalize ρ x=vx at hx;cases hx;exact ⟨_,_,_,rfl⟩
  ·simp at ht
 ·simp at ht
noncomputable def zl9 (Γ:Env) (S:TS) (src dst:TypeId) (x:T):Option (T×TS):=match Γ.ti.at src,Γ.ti.at dst,x with
 |some i,some j,.str b=>(match i.desc,j.desc with
  |.string,.slice e=>bif isU8 Γ e && Nat.ble b.size 1000000000 then some (.arr S.n 1 0 b.size b.size (zgj b).length,S.add (.cells false (zgj b).length (zgj b))) else none
  |_,_=>none)
 |_,_,_=>none
theorem z06 (h:TRel GL A β S s) {src dst:TypeId} {x:Operand} {o:Oper} {a r:T} {ρ:Operand→Value} (hx:VT A β (zag s.obj) a (ρ x)) (ht:zl9 Γ S src dst a=some (r,S')):Ok GL A β s (zak P Γ ρ o s src dst (ρ x)) r S':=by
 unfold zl9 at ht;split at ht
 ·rename_i i j b hi hj;generalize e1:ρ x=vx at hx;cases hx;split at ht
  ·rename_i e hd1 hd2
   cases hq:(isU8 Γ e && Nat.ble b.size 1000000000) with
   |false=>rw [hq] at ht;simp at ht
   |true =>
    rw [hq] at ht;cases ht;have hv:VL A β (zag s.obj) (zgj b) (zfv b):=zq7 _
    have hone:(zgj b).all T.one=true:=by
     unfold zgj yeu;rw [List.all_eq_true];intro t ht;obtain ⟨c,_,rfl⟩:=List.mem_map.1 ht;rfl
    obtain ⟨s',β',k1,k2,k3,k4⟩:=h.newBox 2 (by omega) hv (hv.one hone);rw [z5e hi hj hd1 hd2 hq,k1];exact ⟨_,s',A,β',rfl,k3,.arr k2 (.inr (by omega)),k4⟩
  ·simp at ht
 ·simp at ht
end
end
section
open Go Go.RowKit
noncomputable def zk6 (Γ:Env) (t:TypeId) (k:T):Bool:=match Γ.ti.at t with
 |some i=>(match i.desc,k with|.int a,.int b _=>Nat.beq (ikN a) (ikN b)|.string,.str _=>true|.bool,.bool _=>true|_,_=>false)
 |none=>false
noncomputable def zph:T→T→Option Bool
 |.int k a,.int k' b=>bif Nat.beq (ikN k) (ikN k') then some (a == b) else none
 |.str a,.str b=>some (a.data.toList == b.data.toList)
 |.bool a,.bool b=>some (a == b)
 |_,_=>none
noncomputable def tGet (k:T):List (T×T)→Option (Option T)
 |[]=>some none
 |(k',v) :: l=>match zph k k' with
  |some true=>some (some v)
  |some false=>tGet k l
  |none=>none
noncomputable def tSet (k v:T):List (T×T)→Option (List (T×T))
 |[]=>some [(k,v)]
 |(k',v') :: l=>match zph k k' with
  |some true=>some ((k,v) :: l)
  |some false=>(match tSet k v l with|some l=>some ((k',v') :: l)|none=>none)
  |none=>none
noncomputable def zim (i:TI):Option T:=bif aggT i.desc then (match zhh i.zero with|some l=>some (.agg l)|none=>none) else match i.zero with | [z]=>zka z|_=>none
def zzi (ok:Bool) (z:T):Option T→T
 |some v=>bif ok then .tup [v,.bool true] else v
 |none=>bif ok then .tup [z,.bool false] else z
noncomputable def zew (Γ:Env) (S:TS) (t:TypeId) (x k:T) (ok:Bool):Option T:=match Γ.ti.at t with
 |some i=>(match i.desc with
  |.map kt e=>bif zk6 Γ kt k then (match Γ.ti.at e with
   |some j=>(match zim j with
    |some z=>(match x with
     |.nilm=>some (zzi ok z none)
     |.mp b=>(match S.box b with|.map l=>(match tGet k l with|some r=>some (zzi ok z r)|none=>none)|_=>none)
     |_=>none)
    |none=>none)
   |none=>none) else none
  |_=>none)
 |none=>none
noncomputable def zbb (Γ:Env) (S:TS) (t:TypeId) (k v m:T):Option TS:=match m,Γ.ti.at t with
 |.mp b,some i=>(match i.desc with
  |.map kt _=>bif zk6 Γ kt k then (match S.box b with|.map l=>(match tSet k v l with|some l'=>some (S.set b (.map l'))|none=>none)|_=>none) else none
  |_=>none)
 |_,_=>none
def zdh (S:TS):Option (T×TS):=some (.mp S.n,S.add (.map []))
section
variable {GL:List (Nat×List Value)} {A A':Nat→Prop} {β β':Bx} {S S':TS} {s s':CS} {P:Program} {Γ:Env} {g g':Nat→Fam}
theorem z1u {t:TypeId} {k:T} {v:Value} (h:VT A β g k v) (hk:zk6 Γ t k=true):keyV Γ t v=true:=by
 unfold zk6 at hk;unfold keyV;split at hk
 ·rename_i i hi;rw [hi];simp only;split at hk
  ·rename_i hd;cases h;rw [hd];exact hk
  ·rename_i hd;cases h;rw [hd]
  ·rename_i hd;cases h;rw [hd]
  ·simp at hk
 ·simp at hk
theorem zqt {k k':T} {v v':Value} {r:Bool} (h:VT A β g k v) (h':VT A β g k' v') (hq:zph k k'=some r):z1v v v'=some r:=by
 unfold zph at hq;split at hq
 ·cases h;cases h';rename_i k a k' b;show sel (Nat.beq (ikN k) (ikN k')) (some (a == b)) none=some r
  cases hb:Nat.beq (ikN k) (ikN k') with
  |true=>rw [hb,cond_true] at hq;rw [zbe];exact hq
  |false=>rw [hb] at hq;simp at hq
 ·cases h;cases h';exact hq
 ·cases h;cases h';exact hq
 ·simp at hq
def VO2 (A:Nat→Prop) (β:Bx) (g:Nat→Fam):Option T→Option Value→Prop
 |none,none=>True
 |some t,some v=>VT A β g t v
 |_,_=>False
theorem VM.cons_inv {k x:T} {l:List (T×T)} {es:List (Value×Value)} (h:VM A β g ((k,x) :: l) es):∃ v w es',es=(v,w) :: es'∧VT A β g k v∧VT A β g x w∧VM A β g l es':=by
 obtain ⟨h1,h2⟩:=h
 cases es with
 |nil=>cases h1
 |cons e es =>
  obtain ⟨v,w⟩:=e;simp only [List.map_cons] at h1 h2
  cases h1 with
  |cons a b =>
   cases h2 with
   |cons c d=>exact ⟨v,w,es,rfl,a,c,b,d⟩
theorem VM.nil_inv {es:List (Value×Value)} (h:VM A β g [] es):es=[]:=by
 obtain ⟨h1,_⟩:=h
 cases es with
 |nil=>rfl
 |cons e es=>cases h1
theorem VM.mk {k x:T} {v w:Value} {l:List (T×T)} {es:List (Value×Value)} (a:VT A β g k v) (c:VT A β g x w) (h:VM A β g l es):VM A β g ((k,x) :: l) ((v,w) :: es):=⟨.cons a h.1,.cons c h.2⟩
theorem zy4 {k:T} {v:Value} (hk:VT A β g k v):∀ {l:List (T×T)} {es:List (Value×Value)} {r:Option T},VM A β g l es→tGet k l=some r→∃ r',zmz v es=some r'∧VO2 A β g r r'
 |[],es,r,h,hr=>by
  rw [VM.nil_inv h];simp only [tGet,Option.some.injEq] at hr;subst hr;exact ⟨none,rfl,trivial⟩
 |(k',x) :: l,es,r,h,hr=>by
  obtain ⟨v',w,es',rfl,h1,h2,h3⟩:=VM.cons_inv h;simp only [tGet] at hr;split at hr
  ·rename_i hq;cases hr;refine ⟨some w,?_,h2⟩;simp only [zmz,zqt hk h1 hq]
  ·rename_i hq;obtain ⟨r',q1,q2⟩:=zy4 hk h3 hr;exact ⟨r',by simp only [zmz,zqt hk h1 hq,q1],q2⟩
  ·simp at hr
theorem zy1 {k x:T} {v w:Value} (hk:VT A β g k v) (hx:VT A β g x w):∀ {l l':List (T×T)} {es:List (Value×Value)},VM A β g l es→tSet k x l=some l'→∃ es',zk1 v w es=some es'∧VM A β g l' es'
 |[],l',es,h,hr=>by
  rw [VM.nil_inv h];simp only [tSet,Option.some.injEq] at hr;subst hr;exact ⟨_,rfl,VM.mk hk hx ⟨.nil,.nil⟩⟩
 |(k',x') :: l,l',es,h,hr=>by
  obtain ⟨v',w',es',rfl,h1,h2,h3⟩:=VM.cons_inv h;simp only [tSet] at hr;split at hr
  ·rename_i hq;cases hr;exact ⟨_,by simp only [zk1,zqt hk h1 hq],VM.mk hk hx h3⟩
  ·rename_i hq;split at hr
   ·rename_i l2 hs;cases hr;obtain ⟨es2,q1,q2⟩:=zy1 hk hx h3 hs;exact ⟨_,by simp only [zk1,zqt hk h1 hq,q1],VM.mk h1 h2 q2⟩
   ·simp at hr
  ·simp at hr
theorem z65 {i:TI} {z:T} (h:zim i=some z):∃ v,z0w i=some v∧VT A β g z v:=by
 unfold zim at h;unfold z0w
 cases ha:aggT i.desc with
 |true =>
  rw [ha,cond_true] at h;split at h
  ·rename_i l hl;cases h;exact ⟨_,rfl,.agg (by simpa using (zil (A:=A) (β:=β) (g:=g) hl).1)⟩
  ·simp at h
 |false =>
  rw [ha,cond_false] at h;split at h
  ·rename_i z' hz;rw [hz];exact ⟨z',rfl,(zvm h).1⟩
  ·simp at h
theorem zzh {ok:Bool} {z:T} {zv:Value} {r:Option T} {r':Option Value} (hz:VT A β g z zv) (h:VO2 A β g r r'):VT A β g (zzi ok z r) (z4z ok zv r'):=by
 cases r<;>cases r'<;>simp only [VO2] at h
 ·cases ok with
  |true=>exact .tup (.cons hz (.cons (.bool _) .nil))
  |false=>exact hz
 ·cases ok with
  |true=>exact .tup (.cons h (.cons (.bool _) .nil))
  |false=>exact h
theorem ykb (hT:TRel GL A β S s) {b:Nat} {l:List (T×T)} {v:Value} (hb:S.box b=.map l) (h:VT A β (zag s.obj) (.mp b) v):∃ r es,v=.map (some r)∧β b=some (.map r)∧zag s.obj r=⟨false,[],some es⟩∧VM A β (zag s.obj) l es:=by
 obtain ⟨r,es,q1,q2,q3⟩:=hT.maps b l hb
 cases h with
 |mp h=>rw [q1] at h;cases h;exact ⟨_,es,rfl,q1,q2,q3⟩
 |mpOld h _=>rw [q1] at h;simp at h
theorem z58 (hT:TRel GL A β S s) {t:TypeId} {x k r:T} {vx vk:Value} {ok:Bool} (hx:VT A β (zag s.obj) x vx) (hk:VT A β (zag s.obj) k vk) (ht:zew Γ S t x k ok=some r):Ok0 GL A β S s (zh5 Γ s t vx vk ok) r:=by
 unfold zew at ht;split at ht
 ·rename_i i hi;split at ht
  ·rename_i kt e hd
   cases hkv:zk6 Γ kt k with
   |false=>rw [hkv] at ht;simp at ht
   |true =>
    rw [hkv,cond_true] at ht;split at ht
    ·rename_i j hj;split at ht
     ·rename_i z hz;obtain ⟨zv,z1,z2⟩:=z65 (A:=A) (β:=β) (g:=zag s.obj) hz;split at ht
      ·cases ht;cases hx
       have:zh5 Γ s t (.map none) vk ok=some (z4z ok zv none,s):=by
        simp only [zh5,hi,hd,z1u hk hkv,zbe,hj,z1q,z1,zmz]
       rw [this];exact Ok0.same hT (zzh z2 trivial)
      ·rename_i b;split at ht
       ·rename_i l hb;split at ht
        ·rename_i r0 hg;cases ht;obtain ⟨rr,es,rfl,q1,q2,q3⟩:=ykb hT hb hx;obtain ⟨r',g1,g2⟩:=zy4 hk q3 hg
         have:zh5 Γ s t (.map (some rr)) vk ok=some (z4z ok zv r',{ s with rd:=ins s.lim s.rd rr }):=by
          simp only [zh5,hi,hd,z1u hk hkv,zbe,hj,CS.readMap,q2,z1q,z1,g1]
         rw [this];exact Ok0.read hT (.inr (zf7 q1)) (zzh z2 g2)
        ·simp at ht
       ·simp at ht
      ·simp at ht
     ·simp at ht
    ·simp at ht
  ·simp at ht
 ·simp at ht
theorem zni (hT:TRel GL A β S s) {t:TypeId} {k x m:T} {vk vx vm:Value} (hk:VT A β (zag s.obj) k vk) (hx:VT A β (zag s.obj) x vx) (hm:VT A β (zag s.obj) m vm) (ht:zbb Γ S t k x m=some S'):Ok GL A β s (zd5 Γ s t vk vx vm) .junk S':=by
 unfold zbb at ht;split at ht
 ·rename_i b i hi;split at ht
  ·rename_i kt e hd
   cases hkv:zk6 Γ kt k with
   |false=>rw [hkv] at ht;simp at ht
   |true =>
    rw [hkv,cond_true] at ht;split at ht
    ·rename_i l hb;split at ht
     ·rename_i l' hs;cases ht;obtain ⟨r,es,rfl,q1,q2,q3⟩:=ykb hT hb hm;obtain ⟨es',g1,g2⟩:=zy1 hk hx q3 hs;obtain ⟨gg,hin⟩:=hT.inr;have hobj:∀ f,zag s.obj f=gg f:=fun f=>by rw [hin];rfl
      have hdis:=hT.dis r (zf7 q1)
      have hw:zd5 Γ s t vk vx (.map (some r))=some (undef,{ s with obj:=.inr (fupd gg r ⟨false,[],some es'⟩),rd:=ins s.lim s.rd r,wr:=ins s.lim s.wr r }):=by
       have e1:zay s.obj r ⟨false,[],some es'⟩=.inr (fupd gg r ⟨false,[],some es'⟩):=by rw [hin,zei]
       simp only [zd5,hi,hd,z1u hk hkv,zbe,CS.setMap,CS.readMap,q2,z8n,g1,e1,ztn]
      have hcan:=zse hT.inv hw;have hold:∀ f,f≠r→fupd gg r ⟨false,[],some es'⟩ f=zag s.obj f:=fun f hf=>by rw [hobj];exact zae _ _ _ _ hf
      have hA:∀ f,A f→fupd gg r ⟨false,[],some es'⟩ f=zag s.obj f:=fun f hf=>hold f fun h=>hdis.2 (h ▸ hf)
      have hoth:∀ {b':Nat} {l:Loc} {f:Nat},β b'=some l→l.fam=some f→b'≠b→fupd gg r ⟨false,[],some es'⟩ f=zag s.obj f:=by
       intro b' l f hb2 hf hne;refine hold f fun hh=>hne ?_;subst hh;exact hT.inj b' b l _ f hb2 q1 hf rfl
      rw [hw];refine ⟨_,_,A,β,rfl,⟨⟨_,rfl⟩,hT.inv.next hcan,fun f hf=>hT.alt f hf,fun f hf=>hT.dis f hf,hT.inj,hT.next,fun b' z N l2 hb2=>?_,fun b' l2 hb2=>?_,fun y hy=>?_⟩,.junk _,hcan,fun _ h=>h,fun _ h=>.inl h,fun _ h=>.inl h,fun f hf hno=>?_,Bx.le_refl _,fun y hy=>?_,fun y hy=>?_⟩
      ·by_cases hbb:b'=b
       ·subst hbb;rw [TS.set_same] at hb2;cases hb2
       ·rw [TS.set_ne _ _ hbb] at hb2;exact (hT.cells b' z N l2 hb2).mono (fun _ h=>h) hA (Bx.le_refl _) rfl fun f u N2 hl=>hoth hl rfl hbb
      ·by_cases hbb:b'=b
       ·subst hbb;rw [TS.set_same] at hb2;cases hb2;exact ⟨r,es',q1,zaf _ _ _,g2.1.mono (fun _ h=>h) hA (Bx.le_refl _),g2.2.mono (fun _ h=>h) hA (Bx.le_refl _)⟩
       ·rw [TS.set_ne _ _ hbb] at hb2;exact (hT.maps b' l2 hb2).mono (fun _ h=>h) hA (Bx.le_refl _) rfl fun r' hl=>hoth hl rfl hbb
      ·have:=hT.glob y hy;refine ⟨this.1,?_⟩;show zat (fupd gg r _ y.1).rows _=_;rw [hA _ this.1];exact this.2
      ·show fupd gg r _ f=_;exact hold f fun hh=>hno (hh ▸ zf7 q1)
      ·rcases zcf hy with q|⟨rfl,q⟩
       ·exact .inl q
       ·exact .inr ⟨q,.inr (zf7 q1)⟩
      ·rcases zcf hy with q|⟨rfl,q⟩
       ·exact .inl q
       ·exact .inr ⟨q,zf7 q1⟩
     ·simp at ht
    ·simp at ht
  ·simp at ht
 ·simp at ht
theorem z04 (h:TRel GL A β S s) {r:T} (ht:zdh S=some (r,S')):Ok GL A β s (mapC s) r S':=by
 simp only [zdh,Option.some.injEq,Prod.mk.injEq] at ht;obtain ⟨rfl,rfl⟩:=ht;obtain ⟨q1,q2,q3,q4⟩:=h.fresh ⟨false,[],some []⟩ rfl (fun p hp=>by simp at hp);have hb0:β S.n=none:=h.next _ (Nat.le_refl _)
 have hle:Bx.le β (bnew β S.n (.map s.n)):=ztb hb0;have hat:∀ b,b≠S.n→bnew β S.n (.map s.n) b=β b:=fun b hb=>if_neg hb;have hat2:bnew β S.n (.map s.n) S.n=some (.map s.n):=if_pos rfl;have hold:∀ f,f<s.n→zag (zay s.obj s.n ⟨false,[],some []⟩) f=zag s.obj f:=fun f hf=>q3 f (by omega)
 have hkey:∀ b x,β b=some x→x.fam=some s.n→False:=fun b x hb hx=>by
  have:Own β s.n:=by
   cases x with
   |live f u N=>simp [Loc.fam] at hx;subst hx;exact zb2 hb
   |map r=>simp [Loc.fam] at hx;subst hx;exact zf7 hb
   |nil=>simp [Loc.fam] at hx
   |dead=>simp [Loc.fam] at hx
  have:=(h.dis _ this).1;omega
 have hm:mapC s=some (.map (some s.n),{ s with n:=s.n+1,obj:=zay s.obj s.n ⟨false,[],some []⟩ }):=by
  unfold mapC;have:zh0 s.obj s.n=true:=by obtain ⟨g,hg⟩:=h.inr;rw [hg];rfl
  rw [this,zbe]
 rw [hm];refine ⟨_,_,A,bnew β S.n (.map s.n),rfl,⟨q1.inr,q1.inv,q1.alt,fun f hf=>?_,fun b b' x x' f hb hb' hx hx'=>?_,fun b hb=>?_,fun b z N x hb=>?_,fun b x hb=>?_,q1.glob⟩,.mp hat2,q2,fun _ h=>h,fun _ h=>.inl h,fun f hf=>?_,fun f hf _=>q3 f (by omega),hle,fun _ h=>.inl h,fun _ h=>.inl h⟩
 ·obtain ⟨b,hb⟩:=hf;by_cases hbn:b=S.n
  ·subst hbn;rw [hat2] at hb;rcases hb with ⟨u,N,hb⟩|hb
   ·simp at hb
   ·cases hb;exact ⟨by show s.n<s.n+1;omega,fun hA=>by have:=h.alt _ hA;omega⟩
  ·rw [hat b hbn] at hb;exact q1.dis f ⟨b,hb⟩
 ·by_cases e1:b=S.n<;>by_cases e2:b'=S.n
  ·rw [e1,e2]
  ·subst e1;rw [hat2] at hb;rw [hat b' e2] at hb';cases hb;simp [Loc.fam] at hx;subst hx;exact (hkey b' x' hb' hx').elim
  ·subst e2;rw [hat2] at hb';rw [hat b e1] at hb;cases hb';simp [Loc.fam] at hx';subst hx';exact (hkey b x hb hx).elim
  ·rw [hat b e1] at hb;rw [hat b' e2] at hb';exact h.inj b b' x x' f hb hb' hx hx'
 ·have:S.n+1≤b:=hb;rw [hat b (by omega)];exact h.next b (by omega)
 ·by_cases hbn:b=S.n
  ·subst hbn;rw [TS.add_same] at hb;cases hb
  ·rw [TS.add_ne _ _ hbn] at hb;exact (h.cells b z N x hb).mono (fun _ h=>h) (fun f hf=>hold f (h.alt f hf)) hle (hat b hbn) fun f u N hl=>hold f (h.dis f (zb2 hl)).1
 ·by_cases hbn:b=S.n
  ·subst hbn;rw [TS.add_same] at hb;cases hb;exact ⟨s.n,[],hat2,q4,.nil,.nil⟩
  ·rw [TS.add_ne _ _ hbn] at hb;exact (h.maps b x hb).mono (fun _ h=>h) (fun f hf=>hold f (h.alt f hf)) hle (hat b hbn) fun r hl=>hold r (h.dis r (zf7 hl)).1
 ·obtain ⟨b,hb⟩:=hf;by_cases hbn:b=S.n
  ·subst hbn;rw [hat2] at hb;rcases hb with ⟨u,N,hb⟩|hb
   ·simp at hb
   ·cases hb;exact .inr (Nat.le_refl _)
  ·rw [hat b hbn] at hb;exact .inl ⟨b,hb⟩
end
end
section
open Go Go.RowKit
noncomputable def zly (v:Value):T:=match zka v with
 |some t=>t
 |none=>match v with
  |.agg cs=>(match zhh cs.toList with|some l=>.agg l|none=>.junk)
  |_=>.junk
noncomputable def ya4:List (Nat×List Value)→Nat→T
 |[],_=>.junk
 |x :: l,k=>bif Nat.beq x.1 k then (match zhh x.2 with|some c=>.cp c|none=>.junk) else ya4 l k
noncomputable def zda (GL:List (Nat×List Value)) (h:Nat→T):Operand→T
 |.tmp t=>h t
 |.const v=>zly v
 |.global k=>ya4 GL k
 |.func f=>.fn f [] []
def tupd (h:Nat→T) (t:Nat) (v:T):Nat→T:=fun u=>if u=t then v else h u
theorem zjt (h:Nat→T) (t:Nat) (v:T):tupd h t v t=v:=if_pos rfl
theorem zon (h:Nat→T) (t u:Nat) (v:T) (hn:u≠t):tupd h t v u=h u:=if_neg hn
def putT (h:Nat→T):Option Tmp→T→Nat→T
 |some d,v=>tupd h d v
 |none,_=>h
noncomputable def zfm (S:TS):Option T→Option (T×TS)
 |some t=>some (t,S)
 |none=>none
noncomputable def zvp:Option TS→Option (T×TS)
 |some S=>some (.junk,S)
 |none=>none
noncomputable def ownD (own:List Nat) (d:Option Tmp):Bool:=match d with|some d=>has own d|none=>false
noncomputable def zk8 (Γ:Env) (S:TS) (ρ:Operand→T) (b:Builtin) (args:List Operand) (ts:List TypeId):Option T:=match b with
 |.len=>(match args,ts with | [x],[t]=>tLen Γ S t (ρ x)|_,_=>none)
 |.min=>(match args with | [x,y]=>(match ρ x,ρ y with|.int k a,.int _ b=>some (.int k (min a b))|_,_=>none)|_=>none)
 |.max=>(match args with | [x,y]=>(match ρ x,ρ y with|.int k a,.int _ b=>some (.int k (max a b))|_,_=>none)|_=>none)
 |_=>none
noncomputable def zek (P:Program) (Γ:Env) (ρ:Operand→T) (o:Oper) (S:TS):Option T :=
 match o.op with
 |.move x=>some (ρ x)
 |.assign x=>some (ρ x)
 |.pick c a b=>(match ρ c with|.bool t=>some (bif t then ρ a else ρ b)|_=>none)
 |.build t parts=>zpk Γ ρ t parts.toList
 |.buildSlice t n parts=>zar Γ ρ t n parts.toList
 |.load t x=>zrg Γ S t (ρ x)
 |.nilCheck x=>zev S (ρ x)
 |.sliceToArrayPointer t x=>tS2A Γ S t (ρ x)
 |.makeFunc fn first captured=>(match fn with|.func f=>some (.fn f (first.toList.map ρ) (captured.toList.map ρ))|_=>none)
 |.slice t x lo hi mx=>zrf Γ S t (ρ x) (lo.map ρ) (hi.map ρ) (mx.map ρ)
 |.fieldAddr t x k=>zju Γ S t k (ρ x)
 |.field t x k=>zxr Γ t k (ρ x)
 |.indexAddr t x ix=>zg0 Γ S t (ρ x) (ρ ix)
 |.index t x ix=>zrh Γ t (ρ x) (ρ ix)
 |.extract x k=>zke k (ρ x)
 |.unOp op _ x=>tUn op (ρ x)
 |.convert src dst x=>zpi Γ S src dst (ρ x)
 |.binOp op t x y _=>tBin P Γ S t op x y (ρ x) (ρ y)
 |.lookup t x k ok=>zew Γ S t (ρ x) (ρ k) ok
 |.call c=>(match c.callee with
  |.builtin b=>zk8 Γ S ρ b c.args.toList c.argTypes.toList
  |_=>none)
 |_=>none
noncomputable def zd9 (P:Program) (Γ:Env) (own:List Nat) (ρ:Operand→T) (o:Oper) (S:TS):Option (T×TS) :=
 match o.op with
 |.alloc e=>zt2 Γ S e
 |.box _ x=>tBox S (ρ x)
 |.buildSlice t n parts=>bif ownD own o.dst then zcg Γ S ρ t n parts.toList else zfm S (zar Γ ρ t n parts.toList)
 |.store t x v=>zvp (zt1 Γ S t (ρ v) (ρ x))
 |.makeSlice t l c=>zic Γ S t (ρ l) (ρ c)
 |.convert src dst x=>bif ownD own o.dst then zl9 Γ S src dst (ρ x) else zfm S (zpi Γ S src dst (ρ x))
 |.makeMap _ none=>zdh S
 |.mapUpdate t m k v=>zvp (zbb Γ S t (ρ k) (ρ v) (ρ m))
 |.insert t m k v=>zvp (zbb Γ S t (ρ k) (ρ v) (ρ m))
 |.call c=>(match c.callee with
  |.builtin .append=>(match c.args.toList,c.argTypes.toList with | [x,y],[t,tx]=>bif srcT Γ tx then zoq Γ S t (ρ y) (ρ x) else none|_,_=>none)
  |.builtin .copy=>(match c.args.toList,c.argTypes.toList with | [x,y],[t,_]=>z7u Γ S t (ρ y) (ρ x)|_,_=>none)
  |.builtin b=>zfm S (zk8 Γ S ρ b c.args.toList c.argTypes.toList)
  |_=>none)
 |_=>zfm S (zek P Γ ρ o S)
section
variable {GL:List (Nat×List Value)} {A A' A2:Nat→Prop} {β β' β2:Bx} {S S':TS} {s s' s2:CS} {P:Program} {Γ:Env}
theorem VT.undf {g:Nat→Fam}:VT A β g (.tup []) undef:=VT.tup (vs:=[]) .nil
theorem yb5 {g:Nat→Fam} (v:Value):VT A β g (zly v) v:=by
 unfold zly;split
 ·rename_i t ht;exact (zvm ht).1
 ·split
  ·rename_i cs;split
   ·rename_i l hl;obtain ⟨cs⟩:=cs;exact .agg (zil hl).1
   ·exact .junk _
  ·exact .junk _
theorem z4u {g:Nat→Fam}:∀ (L:List (Nat×List Value)) (k:Nat),(∀ x,x∈L→A x.1∧zat (g x.1).rows (x.1*1024)=some x.2)→VT A β g (ya4 L k) (.pointer (some (mkA k (k*1024) 0)))
 |[],k,_=>.junk _
 |x :: l,k,h=>by
  unfold ya4
  cases hb:Nat.beq x.1 k with
  |false=>exact z4u l k fun y hy=>h y (by simp [hy])
  |true =>
   have:=Nat.eq_of_beq_eq_true hb;subst this;simp only [cond_true];split
   ·rename_i c hc;obtain ⟨h1,h2⟩:=h x (by simp);exact .cp h1 h2 (zil hc).1 (by rw [List.drop_zero,List.take_length])
   ·exact .junk _
structure FrOk (A:Nat→Prop) (β:Bx) (g:Nat→Fam) (N:Nat) (h:Nat→T) (fr:Fr):Prop where
 nt:fr.nt=N
 le:N≤512
 slot:∀ t,VT A β g (h t) (fr.get t)
theorem FrOk.mono {N:Nat} {h:Nat→T} {fr:Fr} {g g':Nat→Fam} (k:FrOk A β g N h fr) (hA:∀ f,A f→A' f) (hg:∀ f,A f→g' f=g f) (hβ:Bx.le β β'):FrOk A' β' g' N h fr:=⟨k.nt,k.le,fun t=>(k.slot t).mono hA hg hβ⟩
theorem FrOk.eval (hT:TRel GL A β S s) {N:Nat} {h:Nat→T} {fr:Fr} (k:FrOk A β (zag s.obj) N h fr) (x:Operand):VT A β (zag s.obj) (zda GL h x) (zeu fr x):=by
 cases x with
 |tmp t=>exact k.slot t
 |const v=>exact yb5 v
 |global g=>exact z4u GL g hT.glob
 |func f=>exact .fn .nil .nil
def zfl (N:Nat) (ops:List Oper):Bool:=ops.all fun o=>match o.dst with|some d=>Nat.blt d N|none=>true
theorem FrOk.put {N:Nat} {h:Nat→T} {fr:Fr} {g:Nat→Fam} (k:FrOk A β g N h fr) {d:Option Tmp} (hd:∀ t,d=some t→t<N) {t:T} {v:Value} (hv:VT A β g t v):FrOk A β g N (putT h d t) (putC fr d v):=by
 cases d with
 |none=>exact k
 |some d =>
  have hdN:=hd d rfl;refine ⟨?_,k.le,fun u=>?_⟩
  ·show (fr.put d v).nt=N;unfold Fr.put;rw [zbw];split<;>exact k.nt
  ·show VT A β g (tupd h d t u) ((fr.put d v).get u);by_cases hu:u=d
   ·subst hu;rw [zjt,Fr.get_put_same v (by rw [k.nt];exact hdN) (by rw [k.nt];exact k.le)];exact hv
   ·rw [zon _ _ _ _ hu,Fr.get_put_other v (by rw [k.nt];exact k.le) (fun hh=>hu hh.symm)];exact k.slot u
theorem zth {g:Nat→Fam} {ρT:Operand→T} {ρ:Operand→Value} (hρ:∀ x,VT A β g (ρT x) (ρ x)):∀ (l:List Operand),VL A β g (l.map ρT) (l.map ρ)
 |[]=>.nil
 |x :: l=>.cons (hρ x) (zth hρ l)
theorem yct {g:Nat→Fam} {ρT:Operand→T} {ρ:Operand→Value} (hρ:∀ x,VT A β g (ρT x) (ρ x)):∀ (l:Option Operand),VO A β g (l.map ρT) (l.map ρ)
 |none=>.none
 |some x=>.some (hρ x)
theorem zqh {r:Option T} {t:T} {S1 S2:TS} (h:zfm S1 r=some (t,S2)):r=some t∧S2=S1:=by
 unfold zfm at h;split at h
 ·cases h;exact ⟨rfl,rfl⟩
 ·simp at h
theorem zvo {r:Option TS} {t:T} {S2:TS} (h:zvp r=some (t,S2)):r=some S2∧t=.junk:=by
 unfold zvp at h;split at h
 ·cases h;exact ⟨rfl,rfl⟩
 ·simp at h
theorem zpj (hT:TRel GL A β S s) {ρT:Operand→T} {ρ:Operand→Value} (hρ:∀ x,VT A β (zag s.obj) (ρT x) (ρ x)) {o:Oper} {b:Builtin} {args:Array Operand} {ts:Array TypeId} {r:T} (ho:o.op=.call ⟨.builtin b,args,ts⟩) (ht:zk8 Γ S ρT b args.toList ts.toList=some r):Ok0 GL A β S s (zc9 P Γ ρ o s b args.toList ts.toList) r:=by
 unfold zk8 at ht;split at ht
 ·split at ht
  ·rename_i x t e1 e2;rw [e1,e2];exact yhf hT (hρ x) ht
  ·simp at ht
 ·split at ht
  ·rename_i x y e1;split at ht
   ·rename_i k a k' b' e2 e3;cases ht;obtain ⟨args⟩:=args;simp only at e1;subst e1;obtain ⟨d,opx,ty,pos,e,g⟩:=o;simp only at ho;subst ho;have h1:=hρ x;have h2:=hρ y;rw [e2] at h1;rw [e3] at h2;generalize f1:ρ x=vx at h1;generalize f2:ρ y=vy at h2;cases h1;cases h2;show Ok0 GL A β S s (zc9 P Γ ρ _ s .min [x,y] ts.toList) _;rw [o_min f1 f2];exact Ok0.same hT (.int _ _)
   ·simp at ht
  ·simp at ht
 ·split at ht
  ·rename_i x y e1;split at ht
   ·rename_i k a k' b' e2 e3;cases ht;obtain ⟨args⟩:=args;simp only at e1;subst e1;obtain ⟨d,opx,ty,pos,e,g⟩:=o;simp only at ho;subst ho;have h1:=hρ x;have h2:=hρ y;rw [e2] at h1;rw [e3] at h2;generalize f1:ρ x=vx at h1;generalize f2:ρ y=vy at h2;cases h1;cases h2;show Ok0 GL A β S s (zc9 P Γ ρ _ s .max [x,y] ts.toList) _;rw [o_max f1 f2];exact Ok0.same hT (.int _ _)
   ·simp at ht
  ·simp at ht
 ·simp at ht
theorem z2p (hE:zcm P Γ) (hT:TRel GL A β S s) {ρT:Operand→T} {ρ:Operand→Value} (hρ:∀ x,VT A β (zag s.obj) (ρT x) (ρ x)) {call:zdg} {o:Oper} {r:T} (ht:zek P Γ ρT o S=some r):Ok0 GL A β S s (cop P Γ call ρ o s) r:=by
 unfold zek at ht;split at ht
 ·rename_i x ho;cases ht;unfold cop;simp only [ho];exact Ok0.same hT (hρ x)
 ·rename_i x ho;cases ht;unfold cop;simp only [ho];exact Ok0.same hT (hρ x)
 ·rename_i c a b ho;split at ht
  ·rename_i t hc;cases ht;unfold cop;simp only [ho];have h1:=hρ c;rw [hc] at h1;generalize f1:ρ c=vc at h1;cases h1;rw [z1m]
   cases t with
   |true=>exact Ok0.same hT (hρ a)
   |false=>exact Ok0.same hT (hρ b)
  ·simp at ht
 ·rename_i t parts ho;unfold cop;simp only [ho];exact z7v hT hρ ht
 ·rename_i t n parts ho;unfold cop;simp only [ho];exact zk9 hT hρ ht
 ·rename_i t x ho;unfold cop;simp only [ho];exact yc9 hT (hρ x) ht
 ·rename_i x ho;unfold cop;simp only [ho];exact zxq hT (hρ x) ht
 ·rename_i t x ho;unfold cop;simp only [ho];exact yhe hT (hρ x) ht
 ·rename_i fn first captured ho
  split at ht
  ·rename_i f;cases ht;unfold cop;simp only [ho];have e1:first.map ρ=⟨first.toList.map ρ⟩:=by rw [← Array.toList_map]
   have e2:captured.map ρ=⟨captured.toList.map ρ⟩:=by rw [← Array.toList_map]
   rw [e1,e2];exact Ok0.same hT (.fn (zth hρ _) (zth hρ _))
  ·simp at ht
 ·rename_i t x lo hi mx ho;unfold cop;simp only [ho];exact z7q hT (hρ x) (yct hρ _) (yct hρ _) (yct hρ _) ht
 ·rename_i t x k ho;unfold cop;simp only [ho];exact zvv hT (hρ x) ht
 ·rename_i t x k ho;unfold cop;simp only [ho];exact z7t hT (hρ x) ht
 ·rename_i t x ix ho;unfold cop;simp only [ho];exact zvu hT (hρ x) (hρ ix) ht
 ·rename_i t x ix ho;unfold cop;simp only [ho];exact z7s hT (hρ x) (hρ ix) ht
 ·rename_i x k ho;unfold cop;simp only [ho];exact z05 hT (hρ x) ht
 ·rename_i op t x ho;unfold cop;simp only [ho];exact yjj hT ho (hρ x) ht
 ·rename_i src dst x ho;unfold cop;simp only [ho];exact zxs hE hT ho (hρ x) ht
 ·rename_i op t x y t2 ho;unfold cop;simp only [ho];exact yhi hE hT ho (hρ x) (hρ y) ht
 ·rename_i t x k ok ho;unfold cop;simp only [ho];exact z58 hT (hρ x) (hρ k) ht
 ·rename_i c ho;split at ht
  ·rename_i b hc;obtain ⟨cal,args,tys⟩:=c;simp only at hc ht;subst hc;unfold cop;simp only [ho];exact zpj hT hρ ho ht
  ·simp at ht
 ·simp at ht
theorem zvw (hE:zcm P Γ) (hT:TRel GL A β S s) {own:List Nat} {ρT:Operand→T} {ρ:Operand→Value} (hρ:∀ x,VT A β (zag s.obj) (ρT x) (ρ x)) {call:zdg} {o:Oper} {r:T} (ht:zd9 P Γ own ρT o S=some (r,S')):Ok GL A β s (cop P Γ call ρ o s) r S':=by
 unfold zd9 at ht;split at ht
 ·rename_i e ho;unfold cop;simp only [ho];exact z7y hT ht
 ·rename_i e x ho;unfold cop;simp only [ho];exact yhg hT (hρ x) ht
 ·rename_i t n parts ho;unfold cop;simp only [ho]
  cases hw:ownD own o.dst with
  |true=>rw [hw] at ht;exact zxt hT hρ ht
  |false =>
   rw [hw] at ht;obtain ⟨h1,rfl⟩:=zqh ht;exact (zk9 hT hρ h1).ok
 ·rename_i t x v ho;obtain ⟨h1,rfl⟩:=zvo ht;unfold cop;simp only [ho];exact z7p hT (hρ x) (hρ v) h1
 ·rename_i t l c ho;unfold cop;simp only [ho];exact zvt hT (hρ l) (hρ c) ht
 ·rename_i src dst x ho;unfold cop;simp only [ho]
  cases hw:ownD own o.dst with
  |true=>rw [hw] at ht;exact z06 hT (hρ x) ht
  |false =>
   rw [hw] at ht;obtain ⟨h1,rfl⟩:=zqh ht;exact (zxs hE hT ho (hρ x) h1).ok
 ·rename_i ho;unfold cop;simp only [ho];exact z04 hT ht
 ·rename_i t m k v ho;obtain ⟨h1,rfl⟩:=zvo ht;unfold cop;simp only [ho];exact zni hT (hρ k) (hρ v) (hρ m) h1
 ·rename_i t m k v ho;obtain ⟨h1,rfl⟩:=zvo ht;unfold cop;simp only [ho];exact zni hT (hρ k) (hρ v) (hρ m) h1
 ·rename_i c ho;obtain ⟨cal,args,tys⟩:=c;simp only at ht;split at ht
  ·split at ht
   ·rename_i x y t tx e1 e2;unfold cop;simp only [ho];rw [e1,e2]
    cases hq:srcT Γ tx with
    |false=>rw [hq] at ht;simp at ht
    |true =>
     rw [hq,cond_true] at ht;rw [zc8 hq];exact z59 hT (hρ x) (hρ y) ht
   ·simp at ht
  ·split at ht
   ·rename_i x y t tx e1 e2;unfold cop;simp only [ho];rw [e1,e2];exact yda hT (hρ x) (hρ y) ht
   ·simp at ht
  ·obtain ⟨h1,rfl⟩:=zqh ht;unfold cop;simp only [ho];exact (zpj hT hρ ho h1).ok
  ·simp at ht
 ·obtain ⟨h1,rfl⟩:=zqh ht;exact (z2p hE hT hρ h1).ok
end
def Call (P:Program) (Γ:Env) (GL:List (Nat×List Value)) (f:FuncId) (args:List T) (S:TS) (v:T) (S':TS):Prop :=
 ∀ A β s vargs,TRel GL A β S s→VL A β (zag s.obj) args vargs→Ok GL A β s (za0 P Γ f vargs s) v S'
noncomputable def zhs (ops:List Oper) (h:Nat→T):Option (Nat×Bool)→Option Bool
 |none=>some true
 |some (j,want)=>match zk7 ops j with
  |some d=>(match h d with|.bool b=>some (b == want)|.tup _=>some false|_=>none)
  |none=>none
noncomputable def zxe (P:Program) (Γ:Env) (GL:List (Nat×List Value)) (S:TS) (args:List T) (f:T) (r:T×TS):Option Prop:=match f with
 |.fn k first cap=>some (Call P Γ GL k (first++args++cap) S r.1 r.2)
 |_=>none
noncomputable def andT (p:Prop):Option (Prop×(Nat→T)×TS)→Option (Prop×(Nat→T)×TS)
 |some (q,h,S)=>some (p∧q,h,S)
 |none=>none
noncomputable def runT (P:Program) (Γ:Env) (GL:List (Nat×List Value)) (own:List Nat) (ops:List Oper):List Oper→(Nat→T)→TS→List (T×TS)→Option (Prop×(Nat→T)×TS)
 |[],h,S,_=>some (True,h,S)
 |o :: l,h,S,outs=>match zhs ops h o.guard with
  |none=>none
  |some false=>runT P Γ GL own ops l (putT h o.dst (.tup [])) S outs
  |some true=>match o.op with
   |.call ⟨.value f,args,tys⟩=>(match outs with
    |r :: outs=>(match zxe P Γ GL S (args.toList.map (zda GL h)) (zda GL h f) r with
     |some p=>andT p (runT P Γ GL own ops l (putT h o.dst r.1) r.2 outs)
     |none=>none)
    |[]=>none)
   |_=>(match zd9 P Γ own (zda GL h) o S with
    |some (t,S1)=>runT P Γ GL own ops l (putT h o.dst t) S1 outs
    |none=>none)
section
variable {GL:List (Nat×List Value)} {A A' A2:Nat→Prop} {β β' β2:Bx} {S S':TS} {s s' s2:CS} {P:Program} {Γ:Env}
theorem zhr {g:Nat→Fam} {ops:List Oper} {h:Nat→T} {N:Nat} {fr:Fr} {o:Oper} {b:Bool} (k:FrOk A β g N h fr) (hg:zhs ops h o.guard=some b):zb9 ops fr o=b:=by
 unfold zhs at hg;unfold zb9;split at hg
 ·rename_i hh;cases hg;rw [hh]
 ·rename_i j want hh;rw [hh];split at hg
  ·rename_i d hd;simp only [hd];split at hg
   ·rename_i b' hb;have:=k.slot d;rw [hb] at this;generalize fr.get d=v at this;cases this;simp only [Option.some.injEq] at hg;exact hg
   ·rename_i l hb;have:=k.slot d;rw [hb] at this;generalize fr.get d=v at this;cases this;simp only [Option.some.injEq] at hg;exact hg
   ·simp at hg
  ·simp at hg
def Left (GL:List (Nat×List Value)) (A:Nat→Prop) (β:Bx) (s:CS) (N:Nat) (fr':Fr) (s':CS) (h':Nat→T) (S':TS):Prop :=
 ∃ A' β',FrOk A' β' (zag s'.obj) N h' fr'∧TRel GL A' β' S' s'∧Stp A β s A' β' s'
theorem Left.trans {N:Nat} {fr' fr2:Fr} {h' h2:Nat→T} {S2:TS} (hl:s.lim≤s.n) (hS:Stp A β s A' β' s') (k:Left GL A' β' s' N fr2 s2 h2 S2):Left GL A β s N fr2 s2 h2 S2:=by
 obtain ⟨A2,β2,k1,k2,k3⟩:=k;exact ⟨A2,β2,k1,k2,hS.trans hl k3⟩
theorem z1c (hE:zcm P Γ) {own:List Nat} {ops:List Oper} {N:Nat}:∀ {l:List Oper} {h h':Nat→T} {S S':TS} {outs:List (T×TS)} {ob:Prop} {A:Nat→Prop} {β:Bx} {fr:Fr} {s:CS},zfl N l=true→FrOk A β (zag s.obj) N h fr→TRel GL A β S s→runT P Γ GL own ops l h S outs=some (ob,h',S')→ob →
    ∃ fr' s',runC P Γ (za0 P Γ) ops l fr s=some (fr',s')∧Left GL A β s N fr' s' h' S'
  |[],h,h',S,S',outs,ob,A,β,fr,s,hd,hF,hT,hr,hob=>by
    simp only [runT,Option.some.injEq,Prod.mk.injEq] at hr;obtain ⟨rfl,rfl,rfl⟩:=hr;exact ⟨fr,s,rfl,A,β,hF,hT,Stp.refl⟩
  |o :: l,h,h',S,S',outs,ob,A,β,fr,s,hd,hF,hT,hr,hob=>by
    have hd':zfl N l=true∧∀ t,o.dst=some t→t<N:=by
      unfold zfl at hd ⊢;rw [List.all_cons,Bool.and_eq_true] at hd;refine ⟨hd.2,fun t ht=>?_⟩;have:=hd.1;rw [ht] at this;exact zai.1 this
    -- one step that is done
    have go:∀ {t:T} {S1:TS} {r:Option (Value×CS)} {l':List (T×TS)} {ob':Prop},Ok GL A β s r t S1→(cop P Γ (za0 P Γ) (zeu fr) o s=r)→zb9 ops fr o=true→runT P Γ GL own ops l (putT h o.dst t) S1 l'=some (ob',h',S')→ob'→∃ fr' s',runC P Γ (za0 P Γ) ops (o :: l) fr s=some (fr',s')∧Left GL A β s N fr' s' h' S':=by
      rintro t S1 r l' ob' ⟨v,s1,A1,β1,rfl,k1,k2,k3⟩ hc hw hrun hob';have hF1:FrOk A1 β1 (zag s1.obj) N h fr:=hF.mono k3.sub (k3.old hT) k3.bx;obtain ⟨fr',s',e1,e2⟩:=z1c hE hd'.1 (hF1.put hd'.2 k2) k1 hrun hob';refine ⟨fr',s',?_,Left.trans (h':=h) (fr':=fr) hT.le k3 e2⟩;rw [runC]
      have:zbj P Γ (za0 P Γ) ops o fr s=some (putC fr o.dst v,s1):=by
        unfold zbj;rw [hw,cond_true,hc]
      rw [this];exact e1
    unfold runT at hr;split at hr
    · simp at hr
    · rename_i hg;have hw:=zhr hF hg;obtain ⟨fr',s',e1,e2⟩:=z1c hE hd'.1 (hF.put hd'.2 VT.undf) hT hr hob;refine ⟨fr',s',?_,e2⟩;rw [runC]
      have:zbj P Γ (za0 P Γ) ops o fr s=some (putC fr o.dst undef,s):=by
        unfold zbj;rw [hw,cond_false]
      rw [this];exact e1
    · rename_i hg;have hw:=zhr hF hg;split at hr
      · rename_i f args tys ho;split at hr
        · rename_i r outs';split at hr
          · rename_i p hp;unfold zxe at hp;split at hp
            · rename_i k first cap hf
              simp only [Option.some.injEq] at hp;subst hp
              cases hrun:runT P Γ GL own ops l (putT h o.dst r.1) r.2 outs' with
              |none=>rw [hrun] at hr;simp [andT] at hr
              |some q =>
                obtain ⟨q1,q2,q3⟩:=q;rw [hrun] at hr;simp only [andT,Option.some.injEq,Prod.mk.injEq] at hr;obtain ⟨rfl,rfl,rfl⟩:=hr;have hfv:=hF.eval hT f;rw [hf] at hfv;generalize e1:zeu fr f=vf at hfv
                cases hfv with
                |fn h1 h2 =>
                  rename_i va vc;have hargs:=zth (hF.eval hT) args.toList;have hcall:=hob.1 A β s _ hT ((h1.append hargs).append h2);refine go hcall ?_ hw hrun hob.2;unfold cop;simp only [ho,e1];unfold zjd;rfl
            · simp at hp
          · simp at hr
        · simp at hr
      · split at hr
        · rename_i t S1 hst;exact go (zvw hE hT (hF.eval hT) hst) rfl hw hr hob
        · simp at hr
end
end
section
open Go Go.RowKit
section
variable {GL:List (Nat×List Value)} {A A' A2:Nat→Prop} {β β' β2:Bx} {S S' S2:TS} {s s' s2:CS} {P:Program} {Γ:Env} {N:Nat} {h h' h2:Nat→T} {Q R:Exit→(Nat→T)→TS→Prop}
def TW (P:Program) (Γ:Env) (GL:List (Nat×List Value)) (N:Nat) (c:Code) (h:Nat→T) (S:TS) (Q:Exit→(Nat→T)→TS→Prop):Prop :=
  ∀ A β fr s,FrOk A β (zag s.obj) N h fr→TRel GL A β S s→W P Γ c fr s fun e fr' s'=>∃ h' S',Left GL A β s N fr' s' h' S'∧Q e h' S'
def onT (k:(Nat→T)→TS→Prop) (Q:Exit→(Nat→T)→TS→Prop) (e:Exit) (h:Nat→T) (S:TS):Prop:=match e with
  |.normal=>k h S
  |e=>Q e h S
def onTB (id:Nat) (Q:Exit→(Nat→T)→TS→Prop) (e:Exit) (h:Nat→T) (S:TS):Prop:=match e with
  |.exit i=>bif Nat.beq i id then Q .normal h S else Q (.exit i) h S
  |e=>Q e h S
theorem Left.refl {fr:Fr} (hF:FrOk A β (zag s.obj) N h fr) (hT:TRel GL A β S s):Left GL A β s N fr s h S:=⟨A,β,hF,hT,Stp.refl⟩
theorem TW.mono {c:Code} (k:TW P Γ GL N c h S Q) (hq:∀ e h S,Q e h S→R e h S):TW P Γ GL N c h S R:=fun A β fr s hF hT =>
  (k A β fr s hF hT).mono fun e fr' s' ⟨h',S',h1,h2⟩=>⟨h',S',h1,hq _ _ _ h2⟩
theorem TW.skip (k:Q .normal h S):TW P Γ GL N .skip h S Q:=fun A β fr s hF hT=>W.skip ⟨h,S,Left.refl hF hT,k⟩
theorem TW.ret (k:Q .ret h S):TW P Γ GL N .ret h S Q:=fun A β fr s hF hT=>W.ret ⟨h,S,Left.refl hF hT,k⟩
theorem TW.exit {id:Nat} (k:Q (.exit id) h S):TW P Γ GL N (.exit id) h S Q:=fun A β fr s hF hT=>W.exit ⟨h,S,Left.refl hF hT,k⟩
theorem TW.label {l:Nat} (k:Q .normal h S):TW P Γ GL N (.label l) h S Q:=fun A β fr s hF hT=>W.label ⟨h,S,Left.refl hF hT,k⟩
theorem TW.seq {a b:Code} (k:TW P Γ GL N a h S (onT (fun h S=>TW P Γ GL N b h S Q) Q)):TW P Γ GL N (.seq a b) h S Q:=fun A β fr s hF hT=>by
  refine W.seq ((k A β fr s hF hT).mono ?_);rintro e fr' s' ⟨h',S',⟨A',β',k1,k2,k3⟩,hq⟩
  cases e with
  |normal =>
    refine (hq A' β' fr' s' k1 k2).mono ?_;rintro e2 fr2 s2 ⟨h2,S2,l2,q2⟩;exact ⟨h2,S2,Left.trans (h':=h) (fr':=fr) hT.le k3 l2,q2⟩
  |_=>exact ⟨h',S',⟨A',β',k1,k2,k3⟩,hq⟩
theorem TW.cond {c:Operand} {t f:Code} {b:Bool} (hb:zda GL h c=.bool b) (k:TW P Γ GL N (bif b then t else f) h S Q):TW P Γ GL N (.cond c t f) h S Q:=fun A β fr s hF hT=>by
  have:=hF.eval hT c;rw [hb] at this;refine W.cond (b:=b) ?_ (k A β fr s hF hT);generalize zeu fr c=v at this;cases this;rfl
theorem TW.block {id:Nat} {b:Code} (k:TW P Γ GL N b h S (onTB id Q)):TW P Γ GL N (.block id b) h S Q:=fun A β fr s hF hT=>by
  refine W.block ((k A β fr s hF hT).mono ?_);rintro e fr' s' ⟨h',S',l,hq⟩
  cases e with
  |exit i =>
    simp only [onB];simp only [onTB] at hq
    cases hb:Nat.beq i id with
    |true=>rw [hb] at hq;exact ⟨h',S',l,hq⟩
    |false=>rw [hb] at hq;exact ⟨h',S',l,hq⟩
  |_=>exact ⟨h',S',l,hq⟩
theorem TW.scope {b:Code} (k:TW P Γ GL N b h S Q):TW P Γ GL N (.scope b) h S Q:=fun A β fr s hF hT=>W.scope (k A β fr s hF hT)
theorem TW.loop {b:Code} (I:Nat→(Nat→T)→TS→Prop) (hb:∀ n h S,I n h S→TW P Γ GL N b h S (onT (fun h S=>∃ m,m<n∧I m h S) Q)):∀ n h S,I n h S→TW P Γ GL N (.loop b) h S Q:=by
  intro n
  induction n using Nat.strongRecOn with
  |_ n ih =>
    intro h S hI A β fr s hF hT;obtain ⟨e,fr1,s1,h1,h',S',⟨A',β',k1,k2,k3⟩,hq⟩:=hb n h S hI A β fr s hF hT
    cases e with
    |normal =>
      obtain ⟨m,hm,hI'⟩:=hq;obtain ⟨e2,fr2,s2,h3,h2,S2,l2,q2⟩:=ih m hm h' S' hI' A' β' fr1 s1 k1 k2;exact ⟨e2,fr2,s2,Ev.again h1 h3,h2,S2,Left.trans (h':=h) (fr':=fr) hT.le k3 l2,q2⟩
    |_=>exact ⟨_,_,_,Ev.last h1 (by simp),h',S',⟨A',β',k1,k2,k3⟩,hq⟩
theorem TW.region (hE:zcm P Γ) {id:Nat} {ops:Array Oper} (own:List Nat) (outs:List (T×TS)) {ob:Prop} (hd:zfl N ops.toList=true) (hr:runT P Γ GL own ops.toList ops.toList h S outs=some (ob,h',S')) (hob:ob) (hq:Q .normal h' S'):TW P Γ GL N (.region id ops false) h S Q:=fun A β fr s hF hT=>by
  obtain ⟨fr',s',e1,e2⟩:=z1c hE hd hF hT hr hob;exact W.region e1 ⟨h',S',e2,hq⟩
noncomputable def resT (Γ:Env) (S:TS) (h:Nat→T):List ResultVar→Option (List T)
  |[]=>some []
  |.tmp t :: l=>(match resT Γ S h l with|some vs=>some (h t :: vs)|none=>none)
  |.cell a ty :: l=>(match zrg Γ S ty (h a),resT Γ S h l with|some v,some vs=>some (v :: vs)|_,_=>none)
def tupT:List T→T
  |[v]=>v
  |vs=>.tup vs
theorem zv6:∀ {l:List ResultVar} {vs:List T} {fr:Fr} {s:CS},FrOk A β (zag s.obj) N h fr→TRel GL A β S s→resT Γ S h l=some vs→∃ ws s',resC Γ fr s l=some (ws,s')∧VL A β (zag s.obj) vs ws∧TRel GL A β S s'∧Stp A β s A β s'∧s'.obj=s.obj
  |[],vs,fr,s,hF,hT,hr=>by
    simp only [resT,Option.some.injEq] at hr;subst hr;exact ⟨[],s,rfl,.nil,hT,Stp.refl,rfl⟩
  |.tmp t :: l,vs,fr,s,hF,hT,hr=>by
    simp only [resT] at hr;split at hr
    · rename_i vs' hv;cases hr;obtain ⟨ws,s',k1,k2,k3,k4,k5⟩:=zv6 hF hT hv;exact ⟨_,s',by simp only [resC,k1],.cons (hF.slot t) k2,k3,k4,k5⟩
    · simp at hr
  |.cell a ty :: l,vs,fr,s,hF,hT,hr=>by
    simp only [resT] at hr;split at hr
    · rename_i v vs' hv hvs;cases hr;obtain ⟨ad,i,w,f,q1,q2,q3,q4,q5⟩:=z2m hT (hF.slot a) hv;obtain ⟨ws,s',k1,k2,k3,k4,k5⟩:=zv6 (s:={ s with rd:=ins s.lim s.rd f }) hF (hT.read f) hvs;refine ⟨w :: ws,s',?_,.cons q5 k2,k3,(Stp.read q3).trans hT.le k4,k5⟩;simp only [resC,q1,q2,q4,k1]
    · simp at hr
def argT:List T→Nat→(Nat→T)→(Nat→T)
  |[],_,h=>h
  |v :: l,i,h=>argT l (i+1) (tupd h i v)
theorem zoh (v:T) (l:List T) (i:Nat) (h:Nat→T):argT (v :: l) i h=argT l (i+1) (tupd h i v):=rfl
theorem zq5 (i:Nat) (h:Nat→T):argT [] i h=h:=rfl
theorem z2e {g:Nat→Fam}:∀ {args:List T} {vargs:List Value} {i:Nat} {h:Nat→T} {fr:Fr},VL A β g args vargs→FrOk A β g N h fr→i+args.length≤N→FrOk A β g N (argT args i h) (Fr.ofArgs vargs i fr)
  |_,_,i,h,fr,.nil,hF,_=>hF
  |_,_,i,h,fr,.cons h1 h2,hF,hl=>by
    rw [List.length_cons] at hl;show FrOk A β g N (argT _ (i+1) _) (Fr.ofArgs _ (i+1) (fr.put i _));have hi:i<N:=by omega
    exact z2e (i:=i+1) h2 (hF.put (d:=some i) (fun t ht=>by cases ht;exact hi) h1) (by rw [Nat.add_right_comm];exact hl)
theorem FrOk.start {g:Nat→Fam} (hN:N≤512):FrOk A β g N (fun _=>.junk) ⟨N,Tr.all undef 9⟩:=⟨rfl,hN,fun t=>.junk _⟩
def z2g (GL:List (Nat×List Value)) (v:T) (S:TS) (v':T) (S':TS):Prop :=
  ∀ A β s w,TRel GL A β S s→VT A β (zag s.obj) v w→∃ A' β',TRel GL A' β' S' s∧VT A' β' (zag s.obj) v' w∧Stp A β s A' β' s
theorem z2g.refl (v:T) (S:TS):z2g GL v S v S:=fun A β s w hT hv=>⟨A,β,hT,hv,Stp.refl⟩
theorem ye0 {g:Nat→Fam} {vs:List T} {ws:List Value} (h:VL A β g vs ws):VT A β g (tupT vs) (tupC ws):=by
  cases h with
  |nil=>exact .tup .nil
  |cons h1 h2 =>
    cases h2 with
    |nil=>exact h1
    |cons h3 h4=>exact .tup (.cons h1 (.cons h3 h4))
theorem Call.go {f:FuncId} {fn:Func} {body:Code} {args:List T} {v:T} {Sf:TS} (N:Nat) (hax:Γ.ax f=none) (hf:Γ.fn.at f=some fn) (hb:fn.body=some body) (hn:fn.ntmps=N) (hN:N≤512) (hl:args.length≤N)
    (k:TW P Γ GL N body (argT args 0 fun _=>.junk) S fun e h' S'=>(e=.normal∨e=.ret)∧∃ vs,resT Γ S' h' fn.results.toList=some vs∧z2g GL (tupT vs) S' v Sf):Call P Γ GL f args S v Sf:=by
  intro A β s vargs hT hargs;obtain ⟨e,fr',s1,h1,h',S',⟨A',β',k1,k2,k3⟩,he,vs,hr,hsh⟩:=k A β _ s (z2e hargs (FrOk.start hN) (by omega)) hT;obtain ⟨ws,s2,r1,r2,r3,r4,r5⟩:=zv6 k1 k2 hr;rw [← r5] at r2;obtain ⟨A2,β2,q1,q2,q3⟩:=hsh A' β' s2 _ r3 (ye0 r2);refine ⟨tupC ws,s2,A2,β2,?_,q1,q2,(k3.trans hT.le (r4.trans k2.le q3))⟩;have hlen:=hargs.len;exact zpb hax hf hb (by omega) ⟨e,fr',s1,by rw [hn];exact h1,he,ws,r1,rfl⟩
end
end
section
open Go Go.RowKit
mutual
def T.ids (n:Nat):T→Bool
 |.agg l=>T.idsL n l
 |.tup l=>T.idsL n l
 |.lst _ l=>T.idsL n l
 |.cp l=>T.idsL n l
 |.ptr b _ _=>Nat.blt b n
 |.arr b _ _ _ _ _=>Nat.blt b n
 |.mp b=>Nat.blt b n
 |.fn _ a c=>T.idsL n a && T.idsL n c
 |_=>true
def T.idsL (n:Nat):List T→Bool
 |[]=>true
 |t :: l=>T.ids n t && T.idsL n l
end
mutual
def T.flat:T→Bool
 |.agg l=>T.flatL l
 |.tup l=>T.flatL l
 |.int _ _=>true
 |.bool _=>true
 |.str _=>true
 |.nils=>true
 |.nilp=>true
 |.nilm=>true
 |.nilf=>true
 |.junk=>true
 |_=>false
def T.flatL:List T→Bool
 |[]=>true
 |t :: l=>T.flat t && T.flatL l
end
section
variable {GL:List (Nat×List Value)} {A A' A2:Nat→Prop} {β β' β2:Bx} {S S' S2:TS} {s s' s2:CS} {P:Program} {Γ:Env} {N:Nat} {h h' h2:Nat→T} {Q R:Exit→(Nat→T)→TS→Prop} {g g':Nat→Fam}
theorem ziz {n:Nat}:∀ {l l2:List T},T.idsL n (l++l2)=(T.idsL n l && T.idsL n l2)
 |[],l2=>by simp [T.idsL]
 |t :: l,l2=>by simp only [List.cons_append,T.idsL,ziz,Bool.and_assoc]
theorem yav {n:Nat} {t:T} (h:t.ids n=true):T.idsL n t.cells=true:=by
 cases t<;>first|exact h | (simp only [T.cells,T.idsL,h,Bool.and_self])
theorem zmj {n:Nat}:∀ {l:List T},T.idsL n l=true→T.idsL n (l.flatMap T.cells)=true
 |[],_=>rfl
 |t :: l,h=>by
  simp only [T.idsL,Bool.and_eq_true] at h;rw [List.flatMap_cons,ziz,yav h.1,zmj h.2];rfl
theorem z4h {n:Nat}:∀ {l:List T},(∀ t,t∈l→t.ids n=true)→T.idsL n l=true
 |[],_=>rfl
 |t :: l,h=>by
  simp only [T.idsL,Bool.and_eq_true];exact ⟨h t (by simp),z4h fun t ht=>h t (by simp [ht])⟩
mutual
theorem VT.ids {n:Nat} (hβ:∀ b,b<n→β' b=β b):∀ {t:T} {v:Value},t.ids n=true→VT A β g t v→VT A β' g t v
 |_,_,_,.int k n=>.int k n
 |_,_,_,.bool b=>.bool b
 |_,_,_,.str b=>.str b
 |_,_,hi,.agg h=>.agg (VL.ids hβ hi h)
 |_,_,hi,.tup h=>.tup (VL.ids hβ hi h)
 |_,_,_,.lnil=>.lnil
 |_,_,hi,.lst h1 h2 h3 h4 h5 h6 h7 h8=>.lst h1 h2 (VL.ids hβ (zmj hi) h3) h4 h5 h6 h7 h8
 |_,_,_,.nils=>.nils
 |_,_,_,.nilp=>.nilp
 |_,_,_,.nilm=>.nilm
 |_,_,_,.nilf=>.nilf
 |_,_,hi,.ptr h=>.ptr (by rw [hβ _ (zai.1 hi)];exact h)
 |_,_,hi,.ptrOld h h0 h1 h2=>.ptrOld (by rw [hβ _ (zai.1 hi)];exact h) h0 h1 h2
 |_,_,hi,.cp h1 h2 h3 h4=>.cp h1 h2 (VL.ids hβ hi h3) h4
 |_,_,hi,.arr h ht=>.arr (by rw [hβ _ (zai.1 hi)];exact h) ht
 |_,_,hi,.arrNil h=>.arrNil (by rw [hβ _ (zai.1 hi)];exact h)
 |_,_,hi,.arrOld h h0 h1 h2=>.arrOld (by rw [hβ _ (zai.1 hi)];exact h) h0 h1 h2
 |_,_,hi,.mp h=>.mp (by rw [hβ _ (zai.1 hi)];exact h)
 |_,_,hi,.mpOld h h2=>.mpOld (by rw [hβ _ (zai.1 hi)];exact h) h2
 |_,_,hi,.fn h1 h2=>by
  simp only [T.ids,Bool.and_eq_true] at hi;exact .fn (VL.ids hβ hi.1 h1) (VL.ids hβ hi.2 h2)
 |_,_,_,.junk v=>.junk v
 |_,_,_,.emp h1 h2 h3 h4=>.emp h1 h2 h3 h4
theorem VL.ids {n:Nat} (hβ:∀ b,b<n→β' b=β b):∀ {l:List T} {vs:List Value},T.idsL n l=true→VL A β g l vs→VL A β' g l vs
 |_,_,_,.nil=>.nil
 |_,_,hi,.cons h k=>by
  simp only [T.idsL,Bool.and_eq_true] at hi;exact .cons (VT.ids hβ hi.1 h) (VL.ids hβ hi.2 k)
end
mutual
theorem VT.flat:∀ {t:T} {v:Value},t.flat=true→VT A β g t v→VT A' β' g' t v
 |_,_,_,.int k n=>.int k n
 |_,_,_,.bool b=>.bool b
 |_,_,_,.str b=>.str b
 |_,_,hi,.agg h=>.agg (VL.flat hi h)
 |_,_,hi,.tup h=>.tup (VL.flat hi h)
 |_,_,_,.nils=>.nils
 |_,_,_,.nilp=>.nilp
 |_,_,_,.nilm=>.nilm
 |_,_,_,.nilf=>.nilf
 |_,_,_,.junk v=>.junk v
 |_,_,hi,.lnil=>by simp [T.flat] at hi
 |_,_,hi,.lst _ _ _ _ _ _ _ _=>by simp [T.flat] at hi
 |_,_,hi,.ptr _=>by simp [T.flat] at hi
 |_,_,hi,.ptrOld _ _ _ _=>by simp [T.flat] at hi
 |_,_,hi,.cp _ _ _ _=>by simp [T.flat] at hi
 |_,_,hi,.arr _ _=>by simp [T.flat] at hi
 |_,_,hi,.arrNil _=>by simp [T.flat] at hi
 |_,_,hi,.arrOld _ _ _ _=>by simp [T.flat] at hi
 |_,_,hi,.mp _=>by simp [T.flat] at hi
 |_,_,hi,.mpOld _ _=>by simp [T.flat] at hi
 |_,_,hi,.fn _ _=>by simp [T.flat] at hi
 |_,_,hi,.emp _ _ _ _=>by simp [T.flat] at hi
theorem VL.flat:∀ {l:List T} {vs:List Value},T.flatL l=true→VL A β g l vs→VL A' β' g' l vs
 |_,_,_,.nil=>.nil
 |_,_,hi,.cons h k=>by
  simp only [T.flatL,Bool.and_eq_true] at hi;exact .cons (VT.flat hi.1 h) (VL.flat hi.2 k)
end
def bx0:Bx:=fun _=>none
theorem zov {f:Nat}:¬ Own bx0 f:=fun ⟨b,h⟩=>by rcases h with ⟨u,N,h⟩|h<;>simp [bx0] at h
theorem TRel.bare (hT:TRel GL A β S s) (A1:Nat→Prop) (h1:∀ f,A f→A1 f) (h2:∀ f,A1 f→f<s.n):TRel GL A1 bx0 ts0 s :=
 ⟨hT.inr,hT.inv,h2,fun f hf=>absurd hf zov,fun b b' l l' f hb=>by simp [bx0] at hb,fun b _=>rfl,fun b z N l hb=>by simp [ts0] at hb,fun b l hb=>by simp [ts0] at hb,fun x hx=>⟨h1 _ (hT.glob x hx).1,(hT.glob x hx).2⟩⟩
def Pure (P:Program) (Γ:Env) (GL:List (Nat×List Value)) (f:FuncId) (args:List T) (v:T):Prop:=T.idsL 0 args=true∧v.ids 0=true∧Call P Γ GL f args ts0 v ts0
def za1 (P:Program) (Γ:Env) (GL:List (Nat×List Value)) (f:FuncId) (args:List T) (S:TS) (v:T):Prop :=
 ∀ A β s vargs,TRel GL A β S s→VL A β (zag s.obj) args vargs→Ok0 GL A β S s (za0 P Γ f vargs s) v
theorem za1.call {f:FuncId} {args:List T} {v:T} (k:za1 P Γ GL f args S v):Call P Γ GL f args S v S:=fun A β s vargs hT hv=>(k A β s vargs hT hv).ok
theorem Pure.call {f:FuncId} {args:List T} {v:T} (k:Pure P Γ GL f args v) (S:TS):za1 P Γ GL f args S v:=by
 intro A β s vargs hT hv;obtain ⟨k1,k2,k3⟩:=k;have hT0:=hT.bare A (fun _ h=>h) hT.alt;obtain ⟨w,s',A',β',e1,e2,e3,e4⟩:=k3 A bx0 s vargs hT0 (VL.ids (n:=0) (fun b hb=>absurd hb (by omega)) k1 hv)
 have hc:zi3 A β s A' s':=by
  refine ⟨e4.can,e4.sub,fun f hf=>?_,fun f hf=>e4.keep f hf zov,fun x hx=>?_,fun x hx=>?_⟩
  ·rcases e4.new f hf with q|q|q
   ·exact .inl q
   ·exact .inr q
   ·exact absurd q zov
  ·rcases e4.rd x hx with q|⟨q,q2⟩
   ·exact .inl q
   ·exact .inr ⟨q,.inl (q2.resolve_right zov)⟩
  ·rcases e4.wr x hx with q|⟨_,q⟩
   ·exact q
   ·exact absurd q zov
 exact ⟨w,s',A',e1,hc.rel hT e2.inr e2.inv e2.alt,VT.ids (n:=0) (fun b hb=>absurd hb (by omega)) k2 e3,hc⟩
def bcut (β:Bx) (n:Nat):Bx:=fun b=>if b<n then β b else none
def zgx (n:Nat):Box→Bool
 |.gone=>true
 |.cells _ _ l=>T.idsL n l
 |.map l=>T.idsL n (l.map (·.1)) && T.idsL n (l.map (·.2))
def ztt (S1 Sf:TS):Prop:=Sf.n≤S1.n∧∀ b,Sf.box b=.gone∨(b<Sf.n∧Sf.box b=S1.box b∧zgx Sf.n (S1.box b)=true)
theorem TRel.cut (hT:TRel GL A β S s) (hk:ztt S S2):TRel GL A (bcut β S2.n) S2 s:=by
 have hat:∀ b,b<S2.n→bcut β S2.n b=β b:=fun b hb=>if_pos hb
 have hsub:∀ b l,bcut β S2.n b=some l→β b=some l:=fun b l h=>by
  unfold bcut at h;split at h
  ·exact h
  ·simp at h
 have hown:∀ f,Own (bcut β S2.n) f→Own β f:=fun f ⟨b,hb⟩=>⟨b,hb.imp (fun ⟨u,N,h⟩=>⟨u,N,hsub _ _ h⟩) fun h=>hsub _ _ h⟩;refine ⟨hT.inr,hT.inv,hT.alt,fun f hf=>hT.dis f (hown f hf),fun b b' l l' f hb hb'=>hT.inj b b' l l' f (hsub _ _ hb) (hsub _ _ hb'),fun b hb=>if_neg (by omega),fun b z N l hb=>?_,fun b l hb=>?_,hT.glob⟩
 ·rcases hk.2 b with q|⟨q1,q2,q3⟩
  ·rw [q] at hb;simp at hb
  ·rw [q2] at hb;obtain ⟨c1,c2⟩:=hT.cells b z N l hb;rw [hb] at q3;refine ⟨c1,?_⟩;rcases c2 with ⟨d1,d2,d3⟩|⟨f,u,cs,rest,d1,d2,d3,d4,d5⟩
   ·exact .inl ⟨by rw [hat b q1];exact d1,d2,d3⟩
   ·exact .inr ⟨f,u,cs,rest,by rw [hat b q1];exact d1,d2,d3,VL.ids hat q3 d4,d5⟩
 ·rcases hk.2 b with q|⟨q1,q2,q3⟩
  ·rw [q] at hb;simp at hb
  ·rw [q2] at hb;obtain ⟨r,es,c1,c2,c3,c4⟩:=hT.maps b l hb;rw [hb] at q3;simp only [zgx,Bool.and_eq_true] at q3;exact ⟨r,es,by rw [hat b q1];exact c1,c2,VL.ids hat q3.1 c3,VL.ids hat q3.2 c4⟩
theorem Call.enter {f:FuncId} {fn:Func} {body:Code} {args:List T} {v:T} {Sf:TS} (N:Nat) (hax:Γ.ax f=none) (hf:Γ.fn.at f=some fn) (hb:fn.body=some body) (hn:fn.ntmps=N) (hN:N≤512) (hl:args.length≤N) (hSf:S.n≤Sf.n) (hv:v.ids Sf.n=true)
    (k:TW P Γ GL N body (argT args 0 fun _=>.junk) S fun e h' S'=>(e=.normal∨e=.ret)∧∃ vs,resT Γ S' h' fn.results.toList=some vs∧∃ S1,z2g GL (tupT vs) S' v S1∧ztt S1 Sf):Call P Γ GL f args S v Sf:=by
  intro A β s vargs hT hargs;obtain ⟨e,fr',s1,h1,h',S',⟨A',β',k1,k2,k3⟩,he,vs,hr,S1,hsh,hkp⟩:=k A β _ s (z2e hargs (FrOk.start hN) (by omega)) hT;obtain ⟨ws,s2,r1,r2,r3,r4,r5⟩:=zv6 k1 k2 hr;rw [← r5] at r2;obtain ⟨A2,β2,q1,q2,q3⟩:=hsh A' β' s2 _ r3 (ye0 r2);have hall:Stp A β s A2 β2 s2:=k3.trans hT.le (r4.trans k2.le q3);have hat:∀ b,b<Sf.n→bcut β2 Sf.n b=β2 b:=fun b hb=>if_pos hb
  have hsub:∀ b l,bcut β2 Sf.n b=some l→β2 b=some l:=fun b l h=>by
    unfold bcut at h;split at h
    · exact h
    · simp at h
  refine ⟨tupC ws,s2,A2,bcut β2 Sf.n,?_,q1.cut hkp,q2.ids hat hv,hall.can,hall.sub,hall.new,fun f hf=>?_,hall.keep,fun b l hb=>?_,hall.rd,hall.wr⟩
  · have hlen:=hargs.len;exact zpb hax hf hb (by omega) ⟨e,fr',s1,by rw [hn];exact h1,he,ws,r1,rfl⟩
  · obtain ⟨b,hb⟩:=hf;exact hall.own f ⟨b,hb.imp (fun ⟨u,N,h⟩=>⟨u,N,hsub _ _ h⟩) fun h=>hsub _ _ h⟩
  · obtain ⟨l',c1,c2⟩:=hall.bx b l hb
    have:b<S.n:=by
      by_cases hh:b<S.n
      · exact hh
      · rw [hT.next b (by omega)] at hb;simp at hb
    exact ⟨l',by rw [hat b (by omega)];exact c1,c2⟩
theorem ztt.none (S:TS):ztt S ts0:=⟨Nat.zero_le _,fun b=>.inl rfl⟩
theorem Pure.enter {f:FuncId} {fn:Func} {body:Code} {args:List T} {v:T} (N:Nat) (hax:Γ.ax f=none) (hf:Γ.fn.at f=some fn) (hb:fn.body=some body) (hn:fn.ntmps=N) (hN:N≤512) (hl:args.length≤N) (ha:T.idsL 0 args=true) (hv:v.ids 0=true)
    (k:TW P Γ GL N body (argT args 0 fun _=>.junk) ts0 fun e h' S'=>(e=.normal∨e=.ret)∧resT Γ S' h' fn.results.toList=some [v]):Pure P Γ GL f args v :=
  ⟨ha,hv,Call.enter N hax hf hb hn hN hl (Nat.le_refl _) hv (k.mono fun e h' S' ⟨h1,h2⟩=>⟨h1,[v],h2,S',z2g.refl _ _,ztt.none S'⟩)⟩
theorem Pure.enterN {f:FuncId} {fn:Func} {body:Code} {args:List T} {vs:List T} (N:Nat) (hax:Γ.ax f=none) (hf:Γ.fn.at f=some fn) (hb:fn.body=some body) (hn:fn.ntmps=N) (hN:N≤512) (hl:args.length≤N) (ha:T.idsL 0 args=true) (hv:(tupT vs).ids 0=true)
    (k:TW P Γ GL N body (argT args 0 fun _=>.junk) ts0 fun e h' S'=>(e=.normal∨e=.ret)∧resT Γ S' h' fn.results.toList=some vs):Pure P Γ GL f args (tupT vs) :=
  ⟨ha,hv,Call.enter N hax hf hb hn hN hl (Nat.le_refl _) hv (k.mono fun e h' S' ⟨h1,h2⟩=>⟨h1,vs,h2,S',z2g.refl _ _,ztt.none S'⟩)⟩
theorem TRel.dead (hT:TRel GL A β S s) {b:Nat} {l0:Loc} (hb:β b=some l0) (A':Nat→Prop) (hA:∀ f,A f→A' f) (hA2:∀ f,A' f→A f∨l0.fam=some f) :
    TRel GL A' (bnew β b .dead) (S.set b .gone) s∧Stp A β s A' (bnew β b .dead) s:=by
  have hse:bnew β b .dead b=some .dead:=if_pos rfl;have hne:∀ b',b'≠b→bnew β b .dead b'=β b':=fun b' hb'=>if_neg hb'
  have hle:Bx.le β (bnew β b .dead):=fun i x hx=>by
    by_cases hi:i=b
    · subst hi;exact ⟨.dead,hse,by cases x<;>simp [Loc.le]⟩
    · exact ⟨x,by rw [hne i hi];exact hx,Loc.le_refl x⟩
  have hfam:∀ f,l0.fam=some f→Own β f:=fun f hf=>by
    cases l0 with
    |live f' u N=>simp [Loc.fam] at hf;subst hf;exact zb2 hb
    |map r=>simp [Loc.fam] at hf;subst hf;exact zf7 hb
    |nil=>simp [Loc.fam] at hf
    |dead=>simp [Loc.fam] at hf
  have hown:∀ f,Own (bnew β b .dead) f→Own β f∧l0.fam≠some f:=fun f ⟨b',hb'⟩=>by
    by_cases hi:b'=b
    · subst hi;rw [hse] at hb';rcases hb' with ⟨u,N,hb'⟩|hb'<;>simp at hb'
    · rw [hne b' hi] at hb';refine ⟨⟨b',hb'⟩,fun hh=>hi ?_⟩;rcases hb' with ⟨u,N,hb'⟩|hb'
      · exact hT.inj b' b _ l0 f hb' hb rfl hh
      · exact hT.inj b' b _ l0 f hb' hb rfl hh
  have hblt:b<S.n:=by
    by_cases hh:b<S.n
    · exact hh
    · rw [hT.next b (by omega)] at hb;simp at hb
  refine ⟨⟨hT.inr,hT.inv,fun f hf=>?_,fun f hf=>?_,fun b1 b2 l1 l2 f h1 h2 h3 h4=>?_,fun b' hb'=>?_,fun b' z N l hb'=>?_,fun b' l hb'=>?_,fun x hx=>⟨hA _ (hT.glob x hx).1,(hT.glob x hx).2⟩⟩,
    Can.refl _,hA,fun f hf=>(hA2 f hf).imp id fun q=>.inr (hfam f q),fun f hf=>.inl (hown f hf).1,fun _ _ _=>rfl,hle,fun _ h=>.inl h,fun _ h=>.inl h⟩
  · rcases hA2 f hf with q|q
    · exact hT.alt f q
    · exact (hT.dis f (hfam f q)).1
  · obtain ⟨q1,q2⟩:=hown f hf;refine ⟨(hT.dis f q1).1,fun hh=>?_⟩;rcases hA2 f hh with q|q
    · exact (hT.dis f q1).2 q
    · exact q2 q
  · by_cases e1:b1=b
    · subst e1;rw [hse] at h1;cases h1;simp [Loc.fam] at h3
    · by_cases e2:b2=b
      · subst e2;rw [hse] at h2;cases h2;simp [Loc.fam] at h4
      · rw [hne b1 e1] at h1;rw [hne b2 e2] at h2;exact hT.inj b1 b2 l1 l2 f h1 h2 h3 h4
  · have:S.n≤b':=hb';rw [hne b' (by omega)];exact hT.next b' this
  · by_cases hi:b'=b
    · subst hi;rw [TS.set_same] at hb';simp at hb'
    · rw [TS.set_ne _ _ hi] at hb';exact (hT.cells b' z N l hb').mono hA (fun _ _=>rfl) hle (hne b' hi) fun _ _ _ _=>rfl
  · by_cases hi:b'=b
    · subst hi;rw [TS.set_same] at hb';simp at hb'
    · rw [TS.set_ne _ _ hi] at hb';exact (hT.maps b' l hb').mono hA (fun _ _=>rfl) hle (hne b' hi) fun _ _=>rfl
theorem TRel.freeze (hT:TRel GL A β S s) {b N:Nat} {z:Bool} {l:List T} (hS:S.box b=.cells z N l) :
    ∃ A' β',TRel GL A' β' (S.set b .gone) s∧Stp A β s A' β' s∧∀ {e off len cap:Nat} {v:Value} {L:List T},VT A β (zag s.obj) (.arr b e off len cap N) v→0<e→off+len*e≤N→(l.drop off).take (len*e)=L.flatMap T.cells→(∀ t,t∈L→t.cells.length=e)→L.length=len→len≤cap→VT A' β' (zag s.obj) (.lst e L) v:=by
  obtain ⟨hlN,hc⟩:=hT.cells b z N l hS;rcases hc with ⟨hb,hN,_⟩|⟨f,u,cs,rest,hb,hz,hat,hvl,hone⟩
  · obtain ⟨k1,k2⟩:=hT.dead hb A (fun _ h=>h) (fun _ h=>.inl h);refine ⟨_,_,k1,k2,fun {e off len cap v L} hv he hoff hL hs hlen hcap=>?_⟩;rcases zf8 hT hS hv with ⟨f,u,rfl,hb',_⟩|⟨rfl,_,rfl,rfl,rfl,_⟩
    · rw [hb] at hb';simp at hb'
    · have:L=[]:=List.eq_nil_of_length_eq_zero hlen;subst this;exact .lnil
  · obtain ⟨k1,k2⟩:=hT.dead hb (fun k=>A k∨k=f) (fun _ h=>.inl h) (fun k hk=>hk.imp id fun q=>by rw [q];rfl);refine ⟨_,_,k1,k2,fun {e off len cap v L} hv he hoff hL hs hlen hcap=>?_⟩;rcases zf8 hT hS hv with ⟨f',u',rfl,hb',htag⟩|⟨rfl,hb',_⟩
    · rw [hb] at hb';cases hb';have hcl:=hvl.len
      have hrow:zat (zag s.obj f).rows u=some cs:=by
        rw [hat];show zat ((u,cs) :: rest) u=some cs;unfold zat;rw [Nat.beq_refl];rfl
      have h1:VL A β (zag s.obj) (L.flatMap T.cells) ((cs.drop off).take (len*e)):=by rw [← hL];exact (hvl.drop off).take _
      have h3:((cs.drop off).take (len*e)).length=len*e:=by rw [List.length_take,List.length_drop];omega
      have:=VT.lst (A:=fun k=>A k∨k=f) (β:=bnew β b .dead) (g:=zag s.obj) (off:=off) (cap:=cap) (.inr rfl) hrow (h1.mono (fun _ h=>.inl h) (fun _ _=>rfl) k2.bx) hs he (by rw [h3]) htag (by omega);rw [hlen] at this;exact this
    · rw [hb] at hb';simp at hb'
theorem TW.freeze {c:Code} (t:Nat) {b e off len cap M:Nat} {z:Bool} {l:List T} (L:List T) (ht:h t=.arr b e off len cap M) (hS:S.box b=.cells z M l) (he:0<e) (hoff:off+len*e≤M) (hL:(l.drop off).take (len*e)=L.flatMap T.cells) (hs:∀ t,t∈L→t.cells.length=e) (hlen:L.length=len) (hcap:len≤cap)
    (k:TW P Γ GL N c (tupd h t (.lst e L)) (S.set b .gone) Q):TW P Γ GL N c h S Q:=by
  intro A β fr s hF hT;obtain ⟨A',β',k1,k2,k3⟩:=hT.freeze hS;have hv:=hF.slot t;rw [ht] at hv
  have hF':FrOk A' β' (zag s.obj) N (tupd h t (.lst e L)) fr:=⟨hF.nt,hF.le,fun u=>by
    by_cases hu:u=t
    · subst hu;rw [zjt];exact k3 hv he hoff hL hs hlen hcap
    · rw [zon _ _ _ _ hu];exact k2.vt hT (hF.slot u)⟩
  refine (k A' β' fr s hF' k1).mono ?_;rintro e2 fr2 s2 ⟨h2,S2,l2,q2⟩;exact ⟨h2,S2,Left.trans (h':=h) (fr':=fr) hT.le k2 l2,q2⟩
theorem TW.vec {c:Code} (t e:Nat) (ht:h t=.nils) (k:TW P Γ GL N c (tupd h t (.arr S.n e 0 0 0 0)) (S.add (.cells false 0 [])) Q):TW P Γ GL N c h S Q:=by
 intro A β fr s hF hT;have hv:=hF.slot t;rw [ht] at hv;have hb0:β S.n=none:=hT.next _ (Nat.le_refl _)
 have hle:Bx.le β (bnew β S.n .nil):=ztb hb0;have hse:bnew β S.n .nil S.n=some .nil:=if_pos rfl;have hne:∀ b',b'≠S.n→bnew β S.n .nil b'=β b':=fun b' hb'=>if_neg hb'
 have hown:∀ f,Own (bnew β S.n .nil) f→Own β f:=fun f ⟨b',hb'⟩=>by
  by_cases hi:b'=S.n
  ·subst hi;rw [hse] at hb';rcases hb' with ⟨u,N,hb'⟩|hb'<;>simp at hb'
  ·rw [hne b' hi] at hb';exact ⟨b',hb'⟩
 have hst:Stp A β s A (bnew β S.n .nil) s:=⟨Can.refl _,fun _ h=>h,fun _ h=>.inl h,fun f hf=>.inl (hown f hf),fun _ _ _=>rfl,hle,fun _ h=>.inl h,fun _ h=>.inl h⟩
 have hT':TRel GL A (bnew β S.n .nil) (S.add (.cells false 0 [])) s:=by
  refine ⟨hT.inr,hT.inv,hT.alt,fun f hf=>hT.dis f (hown f hf),fun b1 b2 l1 l2 f h1 h2 h3 h4=>?_,fun b' hb'=>?_,fun b' z N l hb'=>?_,fun b' l hb'=>?_,hT.glob⟩
  ·by_cases e1:b1=S.n
   ·subst e1;rw [hse] at h1;cases h1;simp [Loc.fam] at h3
   ·by_cases e2:b2=S.n
    ·subst e2;rw [hse] at h2;cases h2;simp [Loc.fam] at h4
    ·rw [hne b1 e1] at h1;rw [hne b2 e2] at h2;exact hT.inj b1 b2 l1 l2 f h1 h2 h3 h4
  ·have:S.n+1≤b':=hb';rw [hne b' (by omega)];exact hT.next b' (by omega)
  ·by_cases hi:b'=S.n
   ·subst hi;rw [TS.add_same] at hb';cases hb';exact ⟨rfl,.inl ⟨hse,rfl,rfl⟩⟩
   ·rw [TS.add_ne _ _ hi] at hb';exact (hT.cells b' z N l hb').mono (fun _ h=>h) (fun _ _=>rfl) hle (hne b' hi) fun _ _ _ _=>rfl
  ·by_cases hi:b'=S.n
   ·subst hi;rw [TS.add_same] at hb';cases hb'
   ·rw [TS.add_ne _ _ hi] at hb';exact (hT.maps b' l hb').mono (fun _ h=>h) (fun _ _=>rfl) hle (hne b' hi) fun _ _=>rfl
 have hF':FrOk A (bnew β S.n .nil) (zag s.obj) N (tupd h t (.arr S.n e 0 0 0 0)) fr:=⟨hF.nt,hF.le,fun u=>by
  by_cases hu:u=t
  ·subst hu;rw [zjt];generalize fr.get u=w at hv;cases hv;exact .arrNil hse
  ·rw [zon _ _ _ _ hu];exact hst.vt hT (hF.slot u)⟩
 refine (k A _ fr s hF' hT').mono ?_;rintro e2 fr2 s2 ⟨h2,S2,l2,q2⟩;exact ⟨h2,S2,Left.trans (h':=h) (fr':=fr) hT.le hst l2,q2⟩
end
end
section
open Go Go.RowKit
def zhu:Op→Bool
 |.move _=>true
 |.assign _=>true
 |.pick _ _ _=>true
 |.build _ _=>true
 |.nilCheck _=>true
 |.sliceToArrayPointer _ _=>true
 |.makeFunc _ _ _=>true
 |.slice _ _ _ _ _=>true
 |.fieldAddr _ _ _=>true
 |.field _ _ _=>true
 |.indexAddr _ _ _=>true
 |.index _ _ _=>true
 |.extract _ _=>true
 |.unOp _ _ _=>true
 |.binOp _ _ _ _ _=>true
 |_=>false
def zh4:Op→Bool
 |.alloc _=>true
 |.box _ _=>true
 |.buildSlice _ _ _=>true
 |.makeSlice _ _ _=>true
 |o=>zhu o
section
variable {GL:List (Nat×List Value)} {A A' A0:Nat→Prop} {β β':Bx} {S S':TS} {s s' s2:CS} {P:Program} {Γ:Env} {N:Nat} {h h':Nat→T} {call:zdg} {ρ:Operand→Value} {o:Oper} {v:Value}
theorem zj0 {r:Option Value} (hc:retC s r=some (v,s')):s'=s:=by
 unfold retC at hc;split at hc<;>first | (cases hc;rfl) | (simp at hc)
theorem zr6 {r:Option Value} (hc:zea P ρ o s r=some (v,s')):s'=s:=by
 unfold zea at hc;split at hc
 ·cases hc;rfl
 ·exact zj0 hc
theorem z0u {r:Option (List Value)} (hc:aggC s r=some (v,s')):s'=s:=by
 unfold aggC at hc;split at hc<;>first | (cases hc;rfl) | (simp at hc)
theorem zzw {size:Nat} {ex:Bool} {a:Addr} {b:Option (Nat×Nat×Nat)} (hc:cutC s size ex a b=some (v,s')):s'=s:=by
 unfold cutC at hc;split at hc
 ·rename_i l hh m
  cases hq:(Nat.beq (Addr.ver a % 1024) 0 || (!ex && Nat.beq (Addr.ver a % 1024) (size+1))) with
  |false=>rw [hq] at hc;simp at hc
  |true=>rw [hq] at hc;cases hc;rfl
 ·simp at hc
theorem zs4 {d:TypeDesc} {a:Addr} {lo hi mx:Option Value} (hc:zlx Γ s d a lo hi mx=some (v,s')):s'=s:=by
 unfold zlx at hc;split at hc
 ·split at hc
  ·rw [zbw] at hc;split at hc
   ·exact zzw hc
   ·simp at hc
  ·simp at hc
 ·simp at hc
theorem zyo {t:TypeId} {x:Value} {lo hi mx:Option Value} (hc:zbh Γ s t x lo hi mx=some (v,s')):s'=s:=by
 unfold zbh at hc;split at hc
 ·split at hc
  ·rename_i b;split at hc
   ·cases hq:mx.isNone with
    |false=>rw [hq] at hc;simp at hc
    |true =>
     rw [hq,cond_true] at hc;unfold zzv at hc;split at hc<;>first | (cases hc;rfl) | (simp at hc)
   ·simp at hc
  ·split at hc
   ·split at hc
    ·split at hc
     ·split at hc<;>first | (cases hc;rfl) | (simp at hc)
     ·simp at hc
    ·split at hc
     ·exact zzw hc
     ·simp at hc
   ·simp at hc
  ·split at hc
   ·split at hc
    ·exact zs4 hc
    ·simp at hc
   ·exact zs4 hc
  ·simp at hc
 ·simp at hc
theorem zt3 {size k n:Nat} {a:Addr} (hc:zqc s size k n a=some (v,s')):s'=s:=by
 unfold zqc at hc
 cases hq:Nat.blt k n with
 |false=>rw [hq] at hc;simp at hc
 |true=>rw [hq] at hc;cases hc;rfl
theorem zup (hm:zhu o.op=true) (hc:cop P Γ call ρ o s=some (v,s')):s'=s:=by
 obtain ⟨d,op,ty,pos,e,g⟩:=o;unfold cop at hc;simp only at hm hc
 cases op with
 |move x=>cases hc;rfl
 |assign x=>cases hc;rfl
 |pick c a b =>
  simp only at hc;unfold zr7 at hc
  split at hc<;>first | (cases hc;rfl) | (simp at hc)
 |build t parts =>
  simp only at hc;unfold zdn at hc;split at hc
  ·split at hc
   ·rename_i fs _;rw [zbw] at hc;split at hc
    ·exact z0u hc
    ·simp at hc
   ·split at hc
    ·exact z0u hc
    ·simp at hc
   ·simp at hc
  ·simp at hc
 |nilCheck x =>
  simp only at hc;unfold zg6 at hc
  split at hc<;>first | (cases hc;rfl) | (simp at hc)
 |sliceToArrayPointer t x =>
  simp only at hc;unfold zoz at hc;split at hc
  ·split at hc
   ·split at hc
    ·rw [Bool.cond_eq_ite] at hc;split at hc
     ·cases hc;rfl
     ·simp at hc
    ·simp at hc
   ·simp at hc
  ·simp at hc
 |makeFunc fn a b=>cases hc;rfl
 |slice t x lo hi mx=>exact zyo hc
 |fieldAddr t x k =>
  simp only at hc;unfold zce at hc;split at hc
  ·split at hc
   ·split at hc
    ·split at hc
     ·rename_i off size _
      cases hq:Nat.beq size 0 with
      |true=>rw [hq] at hc;simp at hc
      |false=>rw [hq] at hc;cases hc;rfl
     ·simp at hc
    ·simp at hc
   ·simp at hc
  ·simp at hc
 |field t x k =>
  simp only at hc;unfold zkr at hc;split at hc
  ·split at hc
   ·split at hc
    ·split at hc
     ·split at hc
      ·exact zj0 hc
      ·simp at hc
     ·simp at hc
    ·simp at hc
   ·simp at hc
  ·simp at hc
 |indexAddr t x k =>
  simp only at hc;unfold za2 at hc;split at hc
  ·split at hc
   ·split at hc
    ·split at hc
     ·exact zt3 hc
     ·simp at hc
    ·simp at hc
   ·split at hc
    ·split at hc
     ·exact zt3 hc
     ·simp at hc
    ·simp at hc
   ·simp at hc
  ·simp at hc
 |index t x k =>
  simp only at hc;unfold zg7 at hc;split at hc
  ·split at hc
   ·split at hc
    ·split at hc
     ·rw [Bool.cond_eq_ite] at hc;split at hc
      ·exact zj0 hc
      ·simp at hc
     ·simp at hc
    ·simp at hc
   ·split at hc
    ·split at hc<;>first | (cases hc;rfl) | (simp at hc)
    ·simp at hc
   ·simp at hc
  ·simp at hc
 |extract x k =>
  simp only at hc;unfold zgs at hc;split at hc
  ·exact zj0 hc
  ·simp at hc
 |unOp op t x=>exact zr6 hc
 |binOp op t x y t2 =>
  simp only at hc;unfold zcq at hc;split at hc
  ·cases hc;rfl
  ·exact zr6 hc
 |_=>simp [zhu] at hm
theorem zmf {tag:Nat} {cs:List Value} {a:Addr} (hc:s.newRow tag cs=some (a,s')):s'.rd=s.rd∧s'.wr=s.wr:=by
 unfold CS.newRow at hc;rw [zbw] at hc;split at hc
 ·cases hc;exact ⟨rfl,rfl⟩
 ·simp at hc
theorem z3l {r:Option (Addr×CS)} (hr:∀ a t,r=some (a,t)→t.rd=s.rd∧t.wr=s.wr) (hc:ptrC r=some (v,s')):s'.rd=s.rd∧s'.wr=s.wr:=by
 unfold ptrC at hc;split at hc
 ·cases hc;exact hr _ _ rfl
 ·simp at hc
theorem zt6 {l c:Nat} {r:Option (Addr×CS)} (hr:∀ a t,r=some (a,t)→t.rd=s.rd∧t.wr=s.wr) (hc:zdy l c r=some (v,s')):s'.rd=s.rd∧s'.wr=s.wr:=by
 unfold zdy at hc;split at hc
 ·cases hc;exact hr _ _ rfl
 ·simp at hc
theorem z1h (hm:zh4 o.op=true) (hc:cop P Γ call ρ o s=some (v,s')):s'.rd=s.rd∧s'.wr=s.wr:=by
 by_cases hq:zhu o.op=true
 ·rw [zup hq hc];exact ⟨rfl,rfl⟩
 obtain ⟨d,op,ty,pos,e,g⟩:=o;unfold cop at hc;simp only at hm hc hq
 cases op with
 |alloc e =>
  simp only at hc;unfold ziw at hc;split at hc
  ·exact z3l (fun a t h=>zmf h) hc
  ·simp at hc
 |box e x=>exact z3l (fun a t h=>zmf h) hc
 |buildSlice t n parts =>
  simp only at hc;unfold za4 at hc;split at hc
  ·rename_i j _
   cases hb:(Nat.ble (n*j.size) 16777216 && Nat.blt 0 j.size) with
   |false=>rw [hb] at hc;simp at hc
   |true =>
    rw [hb,cond_true] at hc;split at hc
    ·exact zt6 (fun a t h=>zmf h) hc
    ·simp at hc
  ·simp at hc
 |makeSlice t l c =>
  simp only at hc;unfold zd6 at hc;split at hc
  ·rename_i j l' c' _ _ _
   cases hb:(Nat.ble l' c' && Nat.ble (c'*(j.bytes+1)) 1000000000 && Nat.blt 0 j.size) with
   |false=>rw [hb] at hc;simp at hc
   |true =>
    rw [hb,cond_true] at hc;exact zt6 (fun a t h=>zmf h) hc
  ·simp at hc
 |_=>simp_all [zh4,zhu]
def yk7 (o:Oper) (x:Lg):Prop:=(zhu o.op=true→x.rd=[]∧x.wr=[]∧x.lo=x.hi)∧(zh4 o.op=true→x.rd=[]∧x.wr=[])
theorem zqy {ops:List Oper}:∀ {l:List Oper} {fr fr':Fr} {s s':CS} {L:List Lg},drawC P Γ call ops l fr s=some (L,fr',s')→L.length=l.length∧∀ (j:Nat) (o:Oper) (x:Lg),l[j]?=some o→L[j]?=some x→yk7 o x
 |[],fr,fr',s,s',L,hc=>by
  simp only [drawC,Option.some.injEq,Prod.mk.injEq] at hc;obtain ⟨rfl,_,_⟩:=hc;exact ⟨rfl,fun j o x hj=>by simp at hj⟩
 |o :: l,fr,fr',s,s',L,hc=>by
  simp only [drawC] at hc;split at hc
  ·rename_i fr1 t h1;split at hc
   ·rename_i logs fr2 s2 h2;cases hc;obtain ⟨i1,i2⟩:=zqy h2;refine ⟨by simp [i1],fun j o' x hj hx=>?_⟩
    cases j with
    |zero =>
     simp only [List.getElem?_cons_zero,Option.some.injEq] at hj hx;subst hj;subst hx;unfold zbj at h1
     cases hw:zb9 ops fr o with
     |false =>
      rw [hw] at h1;simp only [cond_false,Option.some.injEq,Prod.mk.injEq] at h1;rw [← h1.2];exact ⟨fun _=>⟨rfl,rfl,rfl⟩,fun _=>⟨rfl,rfl⟩⟩
     |true =>
      rw [hw,cond_true] at h1;split at h1
      ·rename_i v s1 hcop;cases h1;refine ⟨fun hm=>?_,fun hm=>?_⟩
       ·rw [zup hm hcop];exact ⟨rfl,rfl,rfl⟩
       ·exact z1h hm hcop
      ·simp at h1
    |succ j=>exact i2 j o' x (by simpa using hj) (by simpa using hx)
   ·simp at hc
  ·simp at hc
theorem zjg {ops:List Oper}:∀ {l m:List Oper} {fr fr1 fr2:Fr} {s s1 s2:CS} {L M:List Lg},drawC P Γ call ops l fr s=some (L,fr1,s1)→drawC P Γ call ops m fr1 s1=some (M,fr2,s2)→drawC P Γ call ops (l++m) fr s=some (L++M,fr2,s2)
 |[],m,fr,fr1,fr2,s,s1,s2,L,M,h1,h2=>by
  simp only [drawC,Option.some.injEq,Prod.mk.injEq] at h1;obtain ⟨rfl,rfl,rfl⟩:=h1;exact h2
 |o :: l,m,fr,fr1,fr2,s,s1,s2,L,M,h1,h2=>by
  simp only [drawC] at h1;simp only [List.cons_append,drawC];split at h1
  ·rename_i fra t ha;split at h1
   ·rename_i logs frb sb hb;cases h1;rw [zjg hb h2];rfl
   ·simp at h1
  ·simp at h1
theorem zvd {m:Nat} {y:Lg}:∀ {done:List Lg} {i:Nat},(∀ j x,done[j]?=some x→Nat.testBit m (i+j)=true∨clash x y=false)→ze7 clash m y done i=true
 |[],_,_=>rfl
 |x :: l,i,h=>by
  have h0:Nat.testBit m i=true∨clash x y=false:=h 0 x rfl
  have ih:ze7 clash m y l (i+1)=true:=zvd fun j z hz=>by
   have:=h (j+1) z (by simpa using hz);rw [show i+1+j=i+(j+1) by omega];exact this
  rcases h0 with h0|h0
  ·rw [zi2 h0];exact ih
  ·rw [zj6 h0];exact ih
theorem zmn {ms:List Nat}:∀ {l done:List Lg},(∀ i j x y,i<j→done.length≤j→(done++l)[i]?=some x→(done++l)[j]?=some y→Nat.testBit (nth 0 ms j) i=true∨clash x y=false)→zem clash done l ms=true
 |[],_,_=>rfl
 |y :: l,done,h=>by
  rw [zgh,Bool.and_eq_true];refine ⟨zvd fun j x hx=>?_,zmn fun i j x z hij hd hx hz=>?_⟩
  ·rw [Nat.zero_add];have hj:=(List.getElem?_eq_some_iff.1 hx).1;exact h j done.length x y hj (Nat.le_refl _) (by rw [List.getElem?_append_left hj];exact hx) (by simp)
  ·rw [List.append_assoc] at hx hz;rw [List.length_append,List.length_singleton] at hd;exact h i j x z hij (by omega) hx hz
theorem zsd {ρ1 ρ2:Operand→T} {l:List Operand} (hρ:∀ x,x∈l→ρ1 x=ρ2 x):l.map ρ1=l.map ρ2:=List.map_congr_left hρ
theorem zo0 {ρ1 ρ2:Operand→T} {l:Option Operand} (hρ:∀ x,l=some x→ρ1 x=ρ2 x):l.map ρ1=l.map ρ2:=by
 cases l with
 |none=>rfl
 |some x=>simp only [Option.map_some,hρ x rfl]
theorem zpy {place:Nat→Option (Nat×Nat)} {ρ1 ρ2:Operand→T}:∀ {l:List (Nat×Operand)},(∀ p,p∈l→ρ1 p.2=ρ2 p.2)→ze3 place ρ1 l=ze3 place ρ2 l
 |[],_=>rfl
 |(k,x) :: l,hρ=>by
  unfold ze3;rw [zpy fun p hp=>hρ p (by simp [hp]),hρ (k,x) (by simp)]
theorem zp5 {e:Nat} {ρ1 ρ2:Operand→T}:∀ {l:List (Nat×Operand)} {i:Nat},(∀ p,p∈l→ρ1 p.2=ρ2 p.2)→zer e ρ1 i l=zer e ρ2 i l
 |[],_,_=>rfl
 |(k,x) :: l,i,hρ=>by
  unfold zer;rw [zp5 fun p hp=>hρ p (by simp [hp]),hρ (k,x) (by simp)]
theorem z08 {ρ1 ρ2:Operand→T} (hρ:∀ x,x∈o.op.operands.toList→ρ1 x=ρ2 x):zek P Γ ρ1 o S=zek P Γ ρ2 o S:=by
 obtain ⟨d,op,ty,pos,e,g⟩:=o;simp only at hρ;unfold zek
 cases op with
 |move x=>simp only [hρ x (by simp [Op.operands])]
 |assign x=>simp only [hρ x (by simp [Op.operands])]
 |pick c a b=>simp only [hρ c (by simp [Op.operands]),hρ a (by simp [Op.operands]),hρ b (by simp [Op.operands])]
 |build t parts =>
  have hp:∀ p,p∈parts.toList→ρ1 p.2=ρ2 p.2:=fun p hp=>hρ p.2 (by simp [Op.operands];exact ⟨p.1,by simpa using hp⟩)
  simp only [zpk,zpy hp]
 |buildSlice t n parts =>
  have hp:∀ p,p∈parts.toList→ρ1 p.2=ρ2 p.2:=fun p hp=>hρ p.2 (by simp [Op.operands];exact ⟨p.1,by simpa using hp⟩)
  simp only [zar,zp5 hp]
 |load t x=>simp only [hρ x (by simp [Op.operands])]
 |nilCheck x=>simp only [hρ x (by simp [Op.operands])]
 |sliceToArrayPointer t x=>simp only [hρ x (by simp [Op.operands])]
 |makeFunc fn first captured =>
  have h1:first.toList.map ρ1=first.toList.map ρ2:=zsd fun x hx=>hρ x (by simp [Op.operands];left;simpa using hx)
  have h2:captured.toList.map ρ1=captured.toList.map ρ2:=zsd fun x hx=>hρ x (by simp [Op.operands];right;simpa using hx)
  simp only [h1,h2]
 |slice t x lo hi mx =>
  have h1:lo.map ρ1=lo.map ρ2:=zo0 fun y hy=>hρ y (by simp [Op.operands,hy]);have h2:hi.map ρ1=hi.map ρ2:=zo0 fun y hy=>hρ y (by simp [Op.operands,hy]);have h3:mx.map ρ1=mx.map ρ2:=zo0 fun y hy=>hρ y (by simp [Op.operands,hy])
  simp only [hρ x (by simp [Op.operands]),h1,h2,h3]
 |fieldAddr t x k=>simp only [hρ x (by simp [Op.operands])]
 |field t x k=>simp only [hρ x (by simp [Op.operands])]
 |indexAddr t x ix=>simp only [hρ x (by simp [Op.operands]),hρ ix (by simp [Op.operands])]
 |index t x ix=>simp only [hρ x (by simp [Op.operands]),hρ ix (by simp [Op.operands])]
 |extract x k=>simp only [hρ x (by simp [Op.operands])]
 |unOp op t x=>simp only [hρ x (by simp [Op.operands])]
 |convert src dst x=>simp only [hρ x (by simp [Op.operands])]
 |binOp op t x y t2=>simp only [hρ x (by simp [Op.operands]),hρ y (by simp [Op.operands])]
 |lookup t x k ok=>simp only [hρ x (by simp [Op.operands]),hρ k (by simp [Op.operands])]
 |call c =>
  obtain ⟨cal,args,tys⟩:=c
  cases cal with
  |builtin b =>
   have ha:∀ x,x∈args.toList→ρ1 x=ρ2 x:=fun x hx=>hρ x (by simp [Op.operands,Call.operands];simpa using hx);simp only;unfold zk8
   cases b with
   |len =>
    simp only;split
    ·rename_i x t e1 e2;rw [ha x (by rw [e1];simp)]
    ·rfl
   |min =>
    simp only;split
    ·rename_i x y e1;rw [ha x (by rw [e1];simp),ha y (by rw [e1];simp)]
    ·rfl
   |max =>
    simp only;split
    ·rename_i x y e1;rw [ha x (by rw [e1];simp),ha y (by rw [e1];simp)]
    ·rfl
   |_=>rfl
  |_=>rfl
 |_=>rfl
end
end
end Go.Proofs.YtcgdomhednbdpaaDoor
