/- Part 4 of the proof of TableEncodes (several texts in one; no further condition). -/
import Derived.Test.YtjgbkegkcbcjaaaGreatZC
set_option linter.unusedSimpArgs false
set_option linter.unusedVariables false
set_option linter.unusedSectionVars false
namespace Go.Proofs.YtjgbkegkcbcjaaaGreat
section
open Go Go.RowKit
section
variable {GL:List (Nat×List Value)} {A A' A2:Nat→Prop} {β β' β2:Bx} {S S':TS} {s s' s2:CS} {P:Program} {Γ:Env}
noncomputable def zbn (op:BinOp) (k k':IntKind) (a b:Int):Option T :=
  match op with
  |.shl=>if 0≤b then some (.int k (k.wrap (a*2 ^ (min b.toNat k.bits)))) else none
  |.shr=>if 0≤b then some (.int k (a.fdiv (2 ^ (min b.toNat k.bits)))) else none
  |op=>bif Nat.beq (ikN k) (ikN k') then (match op with
    |.add=>some (.int k (k.wrap (a+b)))
    |.sub=>some (.int k (k.wrap (a - b)))
    |.mul=>some (.int k (k.wrap (a*b)))
    |.quo=>if b=0 then none else some (.int k (k.wrap (a.tdiv b)))
    |.rem=>if b=0 then none else some (.int k (a.tmod b))
    |.and=>some (.int k (k.wrap (BitVec.ofInt k.bits a &&& BitVec.ofInt k.bits b).toNat))
    |.or=>some (.int k (k.wrap (BitVec.ofInt k.bits a ||| BitVec.ofInt k.bits b).toNat))
    |.xor=>some (.int k (k.wrap (BitVec.ofInt k.bits a ^^^ BitVec.ofInt k.bits b).toNat))
    |.andNot=>some (.int k (k.wrap (BitVec.ofInt k.bits a &&& ~~~ BitVec.ofInt k.bits b).toNat))
    |.eql=>some (.bool (decide (a=b)))
    |.neq=>some (.bool (decide (a≠b)))
    |.lss=>some (.bool (decide (a<b)))
    |.leq=>some (.bool (decide (a≤b)))
    |.gtr=>some (.bool (decide (b<a)))
    |.geq=>some (.bool (decide (b≤a)))
    |_=>none) else none
theorem z80 {op:BinOp} {k k':IntKind} {a b:Int} {r:T} (h:zbn op k k' a b=some r):∃ v,VT A β (zaa s.obj) r v∧∀ {ρ:Operand→Value} {o:Oper} {t t2:TypeId} {x y:Operand} {s:CS},o.op=.binOp op t x y t2→ρ x=.int k a→ρ y=.int k' b→zjd P Γ ρ o s t op (.int k a) (.int k' b)=some (v,s):=by
  unfold zbn at h;split at h
  · split at h
    · rename_i h0;cases h;exact ⟨_,.int _ _,fun ho hx hy=>zbu ho hx hy default (by simp only [binOp,Op.shift];rw [if_neg (by omega)]) rfl⟩
    · simp at h
  · split at h
    · rename_i h0;cases h;exact ⟨_,.int _ _,fun ho hx hy=>zbu ho hx hy default (by simp only [binOp,Op.shift];rw [if_neg (by omega)]) rfl⟩
    · simp at h
  · cases hq:Nat.beq (ikN k) (ikN k') with
    |false=>rw [hq] at h;simp at h
    |true =>
      rw [hq,cond_true] at h;have:=z0o hq;subst this;split at h
      · cases h;exact ⟨_,.int _ _,fun ho hx hy=>zbu ho hx hy default (by simp only [binOp,Op.intArith,ne_eq,not_true,if_false]) rfl⟩
      · cases h;exact ⟨_,.int _ _,fun ho hx hy=>zbu ho hx hy default (by simp only [binOp,Op.intArith,ne_eq,not_true,if_false]) rfl⟩
      · cases h;exact ⟨_,.int _ _,fun ho hx hy=>zbu ho hx hy default (by simp only [binOp,Op.intArith,ne_eq,not_true,if_false]) rfl⟩
      · split at h
        · simp at h
        · rename_i hb;cases h;exact ⟨_,.int _ _,fun ho hx hy=>zbu ho hx hy default (by simp only [binOp,Op.intDiv,ne_eq,not_true,if_false];rw [if_neg hb]) rfl⟩
      · split at h
        · simp at h
        · rename_i hb;cases h;exact ⟨_,.int _ _,fun ho hx hy=>zbu ho hx hy default (by simp only [binOp,Op.intDiv,ne_eq,not_true,if_false];rw [if_neg hb]) rfl⟩
      · cases h;exact ⟨_,.int _ _,fun ho hx hy=>zbu ho hx hy default (by simp only [binOp,Op.intBits,ne_eq,not_true,if_false]) rfl⟩
      · cases h;exact ⟨_,.int _ _,fun ho hx hy=>zbu ho hx hy default (by simp only [binOp,Op.intBits,ne_eq,not_true,if_false]) rfl⟩
      · cases h;exact ⟨_,.int _ _,fun ho hx hy=>zbu ho hx hy default (by simp only [binOp,Op.intBits,ne_eq,not_true,if_false]) rfl⟩
      · cases h;exact ⟨_,.int _ _,fun ho hx hy=>zbu ho hx hy default (by simp only [binOp,Op.intBits,ne_eq,not_true,if_false]) rfl⟩
      · cases h;exact ⟨_,.bool _,fun ho hx hy=>zbu ho hx hy default (by simp [binOp,Op.intCmp];rfl) rfl⟩
      · cases h;exact ⟨_,.bool _,fun ho hx hy=>zbu ho hx hy default (by simp [binOp,Op.intCmp]<;>rfl) rfl⟩
      · cases h;exact ⟨_,.bool _,fun ho hx hy=>zbu ho hx hy default (by simp [binOp,Op.intCmp]) rfl⟩
      · cases h;exact ⟨_,.bool _,fun ho hx hy=>zbu ho hx hy default (by simp [binOp,Op.intCmp]) rfl⟩
      · cases h;exact ⟨_,.bool _,fun ho hx hy=>zbu ho hx hy default (by simp [binOp,Op.intCmp]) rfl⟩
      · cases h;exact ⟨_,.bool _,fun ho hx hy=>zbu ho hx hy default (by simp [binOp,Op.intCmp]) rfl⟩
      · simp at h
noncomputable def zsw (op:BinOp) (a b:ByteArray):Option T:=match op with
  |.eql=>some (.bool (decide (a=b)))
  |.neq=>some (.bool (!decide (a=b)))
  |.add=>if a.size+b.size≤9223372036854775807 then some (.str (a++b)) else none
  |_=>none
theorem z6o {op:BinOp} {a b:ByteArray} {r:T} (h:zsw op a b=some r):∃ v,VT A β (zaa s.obj) r v∧∀ {ρ:Operand→Value} {o:Oper} {t t2:TypeId} {x y:Operand} {s:CS},o.op=.binOp op t x y t2→ρ x=.string a→ρ y=.string b→zjd P Γ ρ o s t op (.string a) (.string b)=some (v,s):=by
  unfold zsw at h;split at h
  · cases h;exact ⟨_,.bool _,fun ho hx hy=>zk1 ho hx hy rfl (fun d=>zvj d a) rfl rfl (by unfold eqGuard;simp) (by show some _=_;rw [z6n]) rfl⟩
  · cases h;exact ⟨_,.bool _,fun ho hx hy=>zk1 ho hx hy rfl (fun d=>zvj d a) rfl rfl (by unfold eqGuard;simp) (by show some _=_;rw [z6n]) rfl⟩
  · split at h
    · rename_i hs;cases h
      exact ⟨_,.str _,fun ho hx hy=>zk1 ho hx hy rfl (fun d=>zvj d a) rfl rfl (by unfold eqGuard;simp) (by
        show zcn P (Op.stringOp .add a b)=_;unfold Op.stringOp;simp only
        rw [if_neg (by have : IntKind.i64.max = 9223372036854775807 := by decide
                       omega)]
        rfl) rfl⟩
    · simp at h
  · simp at h
theorem zao {α γ:Type} {f:α→Sem γ}:∀ {m:Sem α},zcn P (m >>= f)=(zcn P m).bind fun v=>zcn P (f v):=by
  intro m
  induction m with
  |pure a=>rfl
  |program k ih=>exact ih P
  |_=>rfl
theorem z47 {ρ:Operand→Value} {t t2:TypeId} {x y:Operand} {op:BinOp} {v w r:Value} {o:Oper} (ho:o.op=.binOp op t x y t2) (hx:ρ x=v) (hy:ρ y=w) (hc:binC op v w=none) (hn:∀ d,nilT d v=none) (hpv:zax 3 v=true) (hpw:zax 3 w=true)
    (hr:zcn P (do eqGuard op t x y v w;binOp op t v w)=some r) (hp:zax 3 r=true):zjd P Γ ρ o s t op v w=some (r,s):=by
  unfold zjd;rw [hc];simp only;rw [z3z hn];simp only [zfh];unfold zkw
  have hops:(o.op.operands.toList.all fun z=>zax 3 (ρ z))=true:=by
    rw [ho];simp [Op.operands,hx,hy,hpv,hpw]
  rw [hops]
  have he:execOp ρ o=((do eqGuard op t x y v w;binOp op t v w) >>= fun z=>pure (Next.value z)):=by
    unfold execOp;rw [ho];simp only [hx,hy]
  rw [he]
  have hv:zcn P ((do eqGuard op t x y v w;binOp op t v w) >>= fun z=>pure (Next.value z))=some (.value r):=by
    rw [zao,hr];rfl
  simp only [cond_true];rw [hv];show retC s (bif zax 3 r then some r else none)=some (r,s);rw [hp];rfl
def ybk:T→Option Value
  |.int k n=>some (.int k n)
  |.bool b=>some (.bool b)
  |.str b=>some (.string b)
  |_=>none
def zfo:List T→Option (List Value)
  |[]=>some []
  |t :: l=>match ybk t,zfo l with|some v,some r=>some (v :: r)|_,_=>none
theorem ybj {g:Nat→Fam} {t:T} {v w:Value} (h:ybk t=some w) (hv:VT A β g t v):v=w∧∀ n,zax n v=true:=by
  unfold ybk at h;split at h
  · cases h;cases hv;exact ⟨rfl,fun n=>by cases n<;>rfl⟩
  · cases h;cases hv;exact ⟨rfl,fun n=>by cases n<;>rfl⟩
  · cases h;cases hv;exact ⟨rfl,fun n=>by cases n<;>rfl⟩
  · simp at h
theorem zqh {g:Nat→Fam}:∀ {l:List T} {vs ws:List Value},zfo l=some ws→VL A β g l vs→vs=ws∧vs.all (zax 2)=true
  |[],_,ws,h,.nil=>by simp only [zfo,Option.some.injEq] at h;subst h;exact ⟨rfl,rfl⟩
  |t :: l,_,ws,h,.cons h1 h2=>by
    unfold zfo at h;split at h
    · rename_i v r e1 e2;cases h;obtain ⟨a,b⟩:=ybj e1 h1;obtain ⟨c,d⟩:=zqh e2 h2;rw [a,c] at *;exact ⟨rfl,by rw [List.all_cons,b 2,d];rfl⟩
    · simp at h
noncomputable def zuo (P:Program) (t:TypeId) (op:BinOp) (x y:Operand) (a b:List T):Option T:=match zfo a,zfo b with
  |some va,some vb=>(match zcn P (do eqGuard op t x y (.agg ⟨va⟩) (.agg ⟨vb⟩);binOp op t (.agg ⟨va⟩) (.agg ⟨vb⟩)) with
    |some (.bool r)=>some (.bool r)
    |_=>none)
  |_,_=>none
theorem z8a (d:TypeDesc) (a:Array Value):nilT d (.agg a)=none:=by cases d<;>rfl
noncomputable def tNil (S:TS):TypeDesc→T→Option Bool
  |.pointer _,.nilp=>some true
  |.pointer _,.ptr b _ N=>bif S.has b N then some false else none
  |.pointer _,.cp _=>some false
  |.slice _,.nils=>some true
  |.slice _,.arr b _ _ _ _ N=>bif S.has b N && Nat.blt 0 N then some false else none
  |.slice _,.lst _ (_ :: _)=>some false
  |.slice _,.emp _=>some false
  |.map _ _,.nilm=>some true
  |.func _ _ _,.nilf=>some true
  |.func _ _ _,.fn _ _ _=>some false
  |_,_=>none
theorem z6h (h:TRel GL A β S s) {d:TypeDesc} {t:T} {v:Value} {b:Bool} (hv:VT A β (zaa s.obj) t v) (ht:tNil S d t=some b):nilT d v=some b:=by
  unfold tNil at ht;split at ht
  · cases ht;cases hv;rfl
  · rename_i b' _ N
    cases hs:S.has b' N with
    |false=>rw [hs] at ht;simp at ht
    |true =>
      rw [hs] at ht;cases ht;obtain ⟨z,l,hS⟩:=TS.has_ok hs;obtain ⟨f,u,rfl,hb⟩:=zii h hS hv;rfl
  · cases ht;cases hv;rfl
  · cases ht;cases hv;rfl
  · rename_i b' _ _ _ _ N
    cases hs:(S.has b' N && Nat.blt 0 N) with
    |false=>rw [hs] at ht;simp at ht
    |true =>
      rw [hs] at ht;cases ht;simp only [Bool.and_eq_true] at hs;obtain ⟨z,l,hS⟩:=TS.has_ok hs.1;have:=zac.1 hs.2;rcases zf0 h hS hv with ⟨f,u,rfl,hb,htag⟩|⟨rfl,hb,rfl,rfl,rfl,rfl⟩
      · rfl
      · omega
  · cases ht;cases hv;rfl
  · cases ht;cases hv;rfl
  · cases ht;cases hv;rfl
  · cases ht;cases hv;rfl
  · cases ht;cases hv;rfl
  · simp at ht
noncomputable def tBin (P:Program) (Γ:Env) (S:TS) (t:TypeId) (op:BinOp) (x y:Operand) (a b:T):Option T:=match a,b with
  |.int k m,.int k' n=>zbn op k k' m n
  |.str m,.str n=>zsw op m n
  |.bool m,.bool n=>(match Γ.ti.at t with
    |some i=>(match i.desc,op with|.bool,.eql=>some (.bool (m == n))|.bool,.neq=>some (.bool (!(m == n)))|_,_=>none)
    |none=>none)
  |.agg m,.agg n=>zuo P t op x y m n
  |a,b=>(match Γ.ti.at t with
    |some i=>(match tNil S i.desc a,tNil S i.desc b with
      |some p,some q=>bif p || q then (match op with|.eql=>some (.bool (p && q))|.neq=>some (.bool (!(p && q)))|_=>none) else none
      |_,_=>none)
    |none=>none)
theorem z4p {op:BinOp} {v w:Value} {d:TypeDesc} {p:Bool} (h:nilT d v=some p):binC op v w=none:=by
  unfold nilT at h;split at h<;>first | (simp at h;done)|rfl
theorem ygy (hE:zc3 P Γ) (h:TRel GL A β S s) {t t2:TypeId} {op:BinOp} {x y:Operand} {o:Oper} {a b r:T} {ρ:Operand→Value} (ho:o.op=.binOp op t x y t2) (hx:VT A β (zaa s.obj) a (ρ x)) (hy:VT A β (zaa s.obj) b (ρ y)) (ht:tBin P Γ S t op x y a b=some r):Ok0 GL A β S s (zjd P Γ ρ o s t op (ρ x) (ρ y)) r:=by
  unfold tBin at ht;split at ht
  · rename_i k m k' n;obtain ⟨v,h1,h2⟩:=z80 (A:=A) (β:=β) (s:=s) (P:=P) (Γ:=Γ) ht;generalize e1:ρ x=vx at hx;generalize e2:ρ y=vy at hy;cases hx;cases hy;rw [h2 ho e1 e2];exact Ok0.same h h1
  · rename_i m n;obtain ⟨v,h1,h2⟩:=z6o (A:=A) (β:=β) (s:=s) (P:=P) (Γ:=Γ) ht;generalize e1:ρ x=vx at hx;generalize e2:ρ y=vy at hy;cases hx;cases hy;rw [h2 ho e1 e2];exact Ok0.same h h1
  · rename_i m n;generalize e1:ρ x=vx at hx;generalize e2:ρ y=vy at hy;cases hx;cases hy;split at ht
    · rename_i i hi;have hd:=(hE.ti _ _ hi).und;split at ht
      · rename_i hdb;cases ht;rw [hdb] at hd
        rw [zk1 ho e1 e2 rfl (fun d=>zxu d m) rfl rfl (by unfold eqGuard;simp) (r:=.bool (m == n)) (by
          show zcn P (do pure (Value.bool (← Op.equal t (.bool m) (.bool n))):Sem Value)=_
          rw [zf5 (zj9 hd)];rfl) rfl]
        exact Ok0.same h (.bool _)
      · rename_i hdb;cases ht;rw [hdb] at hd
        rw [zk1 ho e1 e2 rfl (fun d=>zxu d m) rfl rfl (by unfold eqGuard;simp) (r:=.bool (!(m == n))) (by
          show zcn P (do pure (Value.bool (!(← Op.equal t (.bool m) (.bool n)))):Sem Value)=_
          rw [zf5 (zj9 hd)];rfl) rfl]
        exact Ok0.same h (.bool _)
      · simp at ht
    · simp at ht
  · rename_i m n;generalize e1:ρ x=vx at hx;generalize e2:ρ y=vy at hy;cases hx;cases hy;rename_i va ha vb hb;unfold zuo at ht;split at ht
    · rename_i wa wb h1 h2;obtain ⟨rfl,k1⟩:=zqh h1 ‹VL A β (zaa s.obj) m _›;obtain ⟨rfl,k2⟩:=zqh h2 ‹VL A β (zaa s.obj) n _›;split at ht
      · rename_i r' hr;cases ht;rw [z47 ho e1 e2 rfl (fun d=>z8a d _) k1 k2 hr rfl];exact Ok0.same h (.bool _)
      · simp at ht
    · simp at ht
  · split at ht
    · rename_i i hi;split at ht
      · rename_i p q h1 h2
        cases hpq:(p || q) with
        |false=>rw [hpq] at ht;simp at ht
        |true =>
          rw [hpq] at ht;simp only [cond_true] at ht;have n1:=z6h h hx h1;have n2:=z6h h hy h2;split at ht
          · cases ht
            have:zjd P Γ ρ o s t .eql (ρ x) (ρ y)=some (.bool (p && q),s):=by
              unfold zjd;rw [z4p n1];simp only;unfold eqC;simp only [hi,n1,n2];unfold nilC;simp only [hpq,cond_true];simp [zfh]
            rw [this];exact Ok0.same h (.bool _)
          · cases ht
            have:zjd P Γ ρ o s t .neq (ρ x) (ρ y)=some (.bool (!(p && q)),s):=by
              unfold zjd;rw [z4p n1];simp only;unfold eqC;simp only [hi,n1,n2];unfold nilC;simp only [hpq,cond_true];simp [zfh]
            rw [this];exact Ok0.same h (.bool _)
          · simp at ht
      · simp at ht
    · simp at ht
noncomputable def tUn (op:UnOp):T→Option T
  |.bool b=>(match op with|.not=>some (.bool (!b))|_=>none)
  |.int k a=>(match op with
    |.neg=>some (.int k (k.wrap (0 - a)))
    |.xor=>some (.int k (k.wrap (BitVec.ofInt k.bits (if k.signed then -1 else k.max) ^^^ BitVec.ofInt k.bits a).toNat))
    |_=>none)
  |_=>none
theorem yiq (h:TRel GL A β S s) {t:TypeId} {op:UnOp} {x:Operand} {o:Oper} {a r:T} {ρ:Operand→Value} (ho:o.op=.unOp op t x) (hx:VT A β (zaa s.obj) a (ρ x)) (ht:tUn op a=some r):Ok0 GL A β S s (zfh P ρ o s (unC op (ρ x))) r:=by
  obtain ⟨d,opx,ty,pos,e,g⟩:=o;simp only at ho;subst ho;unfold tUn at ht;split at ht
  · rename_i b;generalize e1:ρ x=vx at hx;cases hx;split at ht
    · cases ht;exact Ok0.same h (.bool _)
    · simp at ht
  · rename_i k m;generalize e1:ρ x=vx at hx;cases hx;split at ht
    · cases ht;rw [yje e1];exact Ok0.same h (.int _ _)
    · cases ht;rw [yjd e1];exact Ok0.same h (.int _ _)
    · simp at ht
  · simp at ht
def zr8:List T→Option (List UInt8)
  |[]=>some []
  |.int .u8 k :: l=>(match zr8 l with|some r=>some (UInt8.ofNat k.toNat :: r)|none=>none)
  |_ :: _=>none
theorem zzn {g:Nat→Fam}:∀ {l:List T} {vs:List Value} {r:List UInt8},VL A β g l vs→zr8 l=some r→zwj vs=some r
  |[],_,r,.nil,h=>by simp only [zr8,Option.some.injEq] at h;subst h;rfl
  |t :: l,_,r,.cons h1 h2,h=>by
    unfold zr8 at h;split at h
    · simp_all
    · rename_i k l' hh;cases hh;split at h
      · rename_i r' hr;cases h;cases h1;unfold zwj;rw [zzn h2 hr]
      · simp at h
    · simp at h
noncomputable def tStr (Γ:Env) (S:TS) (d1 d2:TypeDesc) (x:T):Option T:=match d1,d2 with
  |.slice e,.string=>bif isU8 Γ e then (match tSrc S 1 x with
    |some (_,xs)=>(match zr8 xs with|some r=>some (.str ⟨r.toArray⟩)|none=>none)
    |none=>none) else none
  |_,_=>none
theorem zzt (h:TRel GL A β S s) {src dst:TypeId} {x:Operand} {o:Oper} {a r:T} {ρ:Operand→Value} {i j:TI} (hi:Γ.ti.at src=some i) (hj:Γ.ti.at dst=some j) (hx:VT A β (zaa s.obj) a (ρ x)) (ht:tStr Γ S i.desc j.desc a=some r) (hsl:∀ n xs,tSrc S 1 a=some (n,xs)→∃ aa c m,ρ x=.slice aa m c):Ok0 GL A β S s (zdp P Γ ρ o s src dst (ρ x)) r:=by
  unfold tStr at ht;split at ht
  · rename_i e hd1 hd2
    cases hq:isU8 Γ e with
    |false=>rw [hq] at ht;simp at ht
    |true =>
      rw [hq] at ht;simp only [cond_true] at ht;split at ht
      · rename_i n xs hsrc;obtain ⟨e1,e2,e3⟩:=zux h (show 0<1 by omega) hx hsrc;obtain ⟨ys,s1,f1,f2,f3⟩:=e3 n (Nat.le_refl _);rw [List.take_of_length_le (by omega)] at f2;split at ht
        · rename_i r' hr';cases ht;obtain ⟨aa,c,m,hsl⟩:=hsl n xs hsrc;rw [hsl] at e1 f1 ⊢;simp only [lenC,Option.some.injEq] at e1;subst e1
          have:zdp P Γ ρ o s src dst (.slice aa m c)=some (.string ⟨r'.toArray⟩,s1):=by
            unfold zdp;simp only [hi,hj,hd1,hd2,hq,cond_true];rw [f1];unfold strC;simp only [zzn f2 hr']
          rw [this];exact Ok0.rd h (f3.rel0 h) (.str _)
        · simp at ht
      · simp at ht
  · simp at ht
noncomputable def zoj (Γ:Env) (S:TS) (src dst:TypeId) (x:T):Option T:=match Γ.ti.at src,Γ.ti.at dst with
  |some i,some j=>(match x with
    |.int _ n=>(match j.desc with|.int k=>some (.int k (k.wrap n))|_=>none)
    |.str b=>(match i.desc,j.desc with
      |.string,.slice e=>bif isU8 Γ e && Nat.ble b.size 1000000000 then some (.lst 1 (zgs b)) else none
      |.string,.string=>some (.str b)
      |_,_=>none)
    |.lst e' l=>tStr Γ S i.desc j.desc (.lst e' l)
    |.arr b e' off len cap N=>tStr Γ S i.desc j.desc (.arr b e' off len cap N)
    |.nils=>tStr Γ S i.desc j.desc .nils
    |_=>none)
  |_,_=>none
theorem z38 {ρ:Operand→Value} {o:Oper} {src dst e:TypeId} {i j:TI} {b:ByteArray} (hi:Γ.ti.at src=some i) (hj:Γ.ti.at dst=some j) (hd1:i.desc=.string) (hd2:j.desc=.slice e) (hq:(isU8 Γ e && Nat.ble b.size 1000000000)=true):zdp P Γ ρ o s src dst (.string b)=zgw b.size b.size (s.newRow 2 (zh0 b)):=by
  unfold zdp;simp only [hi,hj,hd1,hd2,hq,cond_true]
theorem zwu (hE:zc3 P Γ) (h:TRel GL A β S s) {src dst:TypeId} {x:Operand} {o:Oper} {a r:T} {ρ:Operand→Value} (ho:o.op=.convert src dst x) (hx:VT A β (zaa s.obj) a (ρ x)) (ht:zoj Γ S src dst a=some r):Ok0 GL A β S s (zdp P Γ ρ o s src dst (ρ x)) r:=by
  unfold zoj at ht;split at ht
  · rename_i i j hi hj;split at ht
    · rename_i k n;generalize e1:ρ x=vx at hx;cases hx;split at ht
      · rename_i k' hd;cases ht;obtain ⟨d,opx,ty,pos,e,g⟩:=o;simp only at ho;subst ho;have hs:=(hE.ti _ _ hi).und;have hdd:=(hE.ti _ _ hj).und;rw [hd] at hdd;unfold zdp;simp only [hi,hj,hd];rw [yjh ⟨k,e1⟩ (by rw [hs];rfl) hdd];exact Ok0.same h (.int _ _)
      · simp at ht
    · rename_i b;generalize e1:ρ x=vx at hx;cases hx;split at ht
      · rename_i e hd1 hd2
        cases hq:(isU8 Γ e && Nat.ble b.size 1000000000) with
        |false=>rw [hq] at ht;simp at ht
        |true =>
          rw [hq] at ht;cases ht;have hv:VL A β (zaa s.obj) (zgs b) (zh0 b):=zp1 _;obtain ⟨s',A',k1,k2,k3,k4,k5⟩:=h.newFrozen 2 (by omega) hv;rw [z38 hi hj hd1 hd2 hq,k1];refine ⟨_,s',A',rfl,k4,?_,k5⟩
          have hfm:(zgs b).flatMap T.cells=zgs b:=by
            unfold zgs ydb;rw [List.flatMap_map]
            have:∀ l:List UInt8,List.flatMap (fun (a:UInt8)=>(T.int IntKind.u8 (a.toNat:Int)).cells) l=l.map fun a=>.int .u8 (a.toNat:Int):=by
              intro l
              induction l with
              |nil=>rfl
              |cons c l ih=>rw [List.flatMap_cons,ih];rfl
            exact this _
          have hln:(zgs b).length=b.size:=by simp [zgs]
          have:=VT.lst (A:=A') (β:=β) (g:=zaa s'.obj) (e:=1) (off:=0) (cap:=b.size) (l:=zgs b) k2 k3 (by rw [hfm];exact k5.stp.vl h hv) (fun t ht=>by
            obtain ⟨c,_,rfl⟩:=List.mem_map.1 ht
            rfl) (by omega) (by rw [List.drop_zero,List.take_length]) (.inr (by omega)) (by omega)
          rw [hln] at this;exact this
      · rename_i hd1 hd2;cases ht
        have:zdp P Γ ρ o s src dst (.string b)=some (.string b,s):=by
          unfold zdp;simp only [hi,hj,hd1,hd2]
        rw [this];exact Ok0.same h (.str _)
      · simp at ht
    · refine zzt h hi hj hx ht fun n xs hs=>?_;generalize ρ x=vx at hx
      cases hx with
      |lnil=>exact ⟨_,_,_,rfl⟩
      |lst=>exact ⟨_,_,_,rfl⟩
    · rename_i b e' off len cap N;refine zzt h hi hj hx ht fun n xs hs=>?_;unfold tSrc at hs;simp only at hs;split at hs
      · rename_i z N' l hS
        cases hq:(Nat.beq N N' && (Nat.beq e' 1 && Nat.ble (off+len*1) N)) with
        |false=>rw [hq] at hs;simp at hs
        |true =>
          simp only [Bool.and_eq_true] at hq;have:=Nat.eq_of_beq_eq_true hq.1;subst this;rcases zf0 h hS hx with ⟨f,u,h1,hb,_⟩|⟨h1,_⟩
          · exact ⟨_,_,_,h1⟩
          · exact ⟨_,_,_,h1⟩
      · simp at hs
    · refine zzt h hi hj hx ht fun n xs hs=>?_;generalize ρ x=vx at hx;cases hx;exact ⟨_,_,_,rfl⟩
    · simp at ht
  · simp at ht
noncomputable def zpf (Γ:Env) (S:TS) (src dst:TypeId) (x:T):Option (T×TS):=match Γ.ti.at src,Γ.ti.at dst,x with
  |some i,some j,.str b=>(match i.desc,j.desc with
    |.string,.slice e=>bif isU8 Γ e && Nat.ble b.size 1000000000 then some (.arr S.n 1 0 b.size b.size (zgs b).length,S.add (.cells false (zgs b).length (zgs b))) else none
    |_,_=>none)
  |_,_,_=>none
theorem zzw (h:TRel GL A β S s) {src dst:TypeId} {x:Operand} {o:Oper} {a r:T} {ρ:Operand→Value} (hx:VT A β (zaa s.obj) a (ρ x)) (ht:zpf Γ S src dst a=some (r,S')):Ok GL A β s (zdp P Γ ρ o s src dst (ρ x)) r S':=by
  unfold zpf at ht;split at ht
  · rename_i i j b hi hj;generalize e1:ρ x=vx at hx;cases hx;split at ht
    · rename_i e hd1 hd2
      cases hq:(isU8 Γ e && Nat.ble b.size 1000000000) with
      |false=>rw [hq] at ht;simp at ht
      |true =>
        rw [hq] at ht;cases ht;have hv:VL A β (zaa s.obj) (zgs b) (zh0 b):=zp1 _
        have hone:(zgs b).all T.one=true:=by
          unfold zgs ydb;rw [List.all_eq_true];intro t ht;obtain ⟨c,_,rfl⟩:=List.mem_map.1 ht;rfl
        obtain ⟨s',β',k1,k2,k3,k4⟩:=h.newBox 2 (by omega) hv (hv.one hone);rw [z38 hi hj hd1 hd2 hq,k1];exact ⟨_,s',A,β',rfl,k3,.arr k2 (.inr (by omega)),k4⟩
    · simp at ht
  · simp at ht
end
end
section
open Go Go.RowKit
noncomputable def zjf (Γ:Env) (t:TypeId) (k:T):Bool:=match Γ.ti.at t with
  |some i=>(match i.desc,k with|.int a,.int b _=>Nat.beq (ikN a) (ikN b)|.string,.str _=>true|.bool,.bool _=>true|_,_=>false)
  |none=>false
noncomputable def zoi:T→T→Option Bool
  |.int k a,.int k' b=>bif Nat.beq (ikN k) (ikN k') then some (a == b) else none
  |.str a,.str b=>some (a.data.toList == b.data.toList)
  |.bool a,.bool b=>some (a == b)
  |_,_=>none
noncomputable def tGet (k:T):List (T×T)→Option (Option T)
  |[]=>some none
  |(k',v) :: l=>match zoi k k' with
    |some true=>some (some v)
    |some false=>tGet k l
    |none=>none
noncomputable def tSet (k v:T):List (T×T)→Option (List (T×T))
  |[]=>some [(k,v)]
  |(k',v') :: l=>match zoi k k' with
    |some true=>some ((k,v) :: l)
    |some false=>(match tSet k v l with|some l=>some ((k',v') :: l)|none=>none)
    |none=>none
noncomputable def zhh (i:TI):Option T:=bif aggT i.desc then (match zfl i.zero with|some l=>some (.agg l)|none=>none) else match i.zero with | [z]=>zjh z|_=>none
def zyn (ok:Bool) (z:T):Option T→T
  |some v=>bif ok then .tup [v,.bool true] else v
  |none=>bif ok then .tup [z,.bool false] else z
noncomputable def zef (Γ:Env) (S:TS) (t:TypeId) (x k:T) (ok:Bool):Option T:=match Γ.ti.at t with
  |some i=>(match i.desc with
    |.map kt e=>bif zjf Γ kt k then (match Γ.ti.at e with
      |some j=>(match zhh j with
        |some z=>(match x with
          |.nilm=>some (zyn ok z none)
          |.mp b=>(match S.box b with|.map l=>(match tGet k l with|some r=>some (zyn ok z r)|none=>none)|_=>none)
          |_=>none)
        |none=>none)
      |none=>none) else none
    |_=>none)
  |none=>none
noncomputable def zbd (Γ:Env) (S:TS) (t:TypeId) (k v m:T):Option TS:=match m,Γ.ti.at t with
  |.mp b,some i=>(match i.desc with
    |.map kt _=>bif zjf Γ kt k then (match S.box b with|.map l=>(match tSet k v l with|some l'=>some (S.set b (.map l'))|none=>none)|_=>none) else none
    |_=>none)
  |_,_=>none
def zc8 (S:TS):Option (T×TS):=some (.mp S.n,S.add (.map []))
section
variable {GL:List (Nat×List Value)} {A A':Nat→Prop} {β β':Bx} {S S':TS} {s s':CS} {P:Program} {Γ:Env} {g g':Nat→Fam}
theorem z0m {t:TypeId} {k:T} {v:Value} (h:VT A β g k v) (hk:zjf Γ t k=true):keyV Γ t v=true:=by
  unfold zjf at hk;unfold keyV;split at hk
  · rename_i i hi;rw [hi];simp only;split at hk
    · rename_i hd;cases h;rw [hd];exact hk
    · rename_i hd;cases h;rw [hd]
    · rename_i hd;cases h;rw [hd]
    · simp at hk
  · simp at hk
theorem zpl {k k':T} {v v':Value} {r:Bool} (h:VT A β g k v) (h':VT A β g k' v') (hq:zoi k k'=some r):z0n v v'=some r:=by
  unfold zoi at hq;split at hq
  · cases h;cases h';rename_i k a k' b;show sel (Nat.beq (ikN k) (ikN k')) (some (a == b)) none=some r
    cases hb:Nat.beq (ikN k) (ikN k') with
    |true=>rw [hb,cond_true] at hq;rw [zbw];exact hq
    |false=>rw [hb] at hq;simp at hq
  · cases h;cases h';exact hq
  · cases h;cases h';exact hq
  · simp at hq
def VO2 (A:Nat→Prop) (β:Bx) (g:Nat→Fam):Option T→Option Value→Prop
  |none,none=>True
  |some t,some v=>VT A β g t v
  |_,_=>False
theorem VM.cons_inv {k x:T} {l:List (T×T)} {es:List (Value×Value)} (h:VM A β g ((k,x) :: l) es):∃ v w es',es=(v,w) :: es'∧VT A β g k v∧VT A β g x w∧VM A β g l es':=by
  obtain ⟨h1,h2⟩:=h
  cases es with
  |nil=>cases h1
  |cons e es =>
    obtain ⟨v,w⟩:=e;simp only [List.map_cons] at h1 h2
    cases h1 with
    |cons a b =>
      cases h2 with
      |cons c d=>exact ⟨v,w,es,rfl,a,c,b,d⟩
theorem VM.nil_inv {es:List (Value×Value)} (h:VM A β g [] es):es=[]:=by
  obtain ⟨h1,_⟩:=h
  cases es with
  |nil=>rfl
  |cons e es=>cases h1
theorem VM.mk {k x:T} {v w:Value} {l:List (T×T)} {es:List (Value×Value)} (a:VT A β g k v) (c:VT A β g x w) (h:VM A β g l es):VM A β g ((k,x) :: l) ((v,w) :: es):=⟨.cons a h.1,.cons c h.2⟩
theorem zx2 {k:T} {v:Value} (hk:VT A β g k v):∀ {l:List (T×T)} {es:List (Value×Value)} {r:Option T},VM A β g l es→tGet k l=some r→∃ r',zl2 v es=some r'∧VO2 A β g r r'
  |[],es,r,h,hr=>by
    rw [VM.nil_inv h];simp only [tGet,Option.some.injEq] at hr;subst hr;exact ⟨none,rfl,trivial⟩
  |(k',x) :: l,es,r,h,hr=>by
    obtain ⟨v',w,es',rfl,h1,h2,h3⟩:=VM.cons_inv h;simp only [tGet] at hr;split at hr
    · rename_i hq;cases hr;refine ⟨some w,?_,h2⟩;simp only [zl2,zpl hk h1 hq]
    · rename_i hq;obtain ⟨r',q1,q2⟩:=zx2 hk h3 hr;exact ⟨r',by simp only [zl2,zpl hk h1 hq,q1],q2⟩
    · simp at hr
theorem zx1 {k x:T} {v w:Value} (hk:VT A β g k v) (hx:VT A β g x w):∀ {l l':List (T×T)} {es:List (Value×Value)},VM A β g l es→tSet k x l=some l'→∃ es',zj8 v w es=some es'∧VM A β g l' es'
  |[],l',es,h,hr=>by
    rw [VM.nil_inv h];simp only [tSet,Option.some.injEq] at hr;subst hr;exact ⟨_,rfl,VM.mk hk hx ⟨.nil,.nil⟩⟩
  |(k',x') :: l,l',es,h,hr=>by
    obtain ⟨v',w',es',rfl,h1,h2,h3⟩:=VM.cons_inv h;simp only [tSet] at hr;split at hr
    · rename_i hq;cases hr;exact ⟨_,by simp only [zj8,zpl hk h1 hq],VM.mk hk hx h3⟩
    · rename_i hq;split at hr
      · rename_i l2 hs;cases hr;obtain ⟨es2,q1,q2⟩:=zx1 hk hx h3 hs;exact ⟨_,by simp only [zj8,zpl hk h1 hq,q1],VM.mk h1 h2 q2⟩
      · simp at hr
    · simp at hr
theorem z50 {i:TI} {z:T} (h:zhh i=some z):∃ v,zzr i=some v∧VT A β g z v:=by
  unfold zhh at h;unfold zzr
  cases ha:aggT i.desc with
  |true =>
    rw [ha,cond_true] at h;split at h
    · rename_i l hl;cases h;exact ⟨_,rfl,.agg (by simpa using (zia (A:=A) (β:=β) (g:=g) hl).1)⟩
    · simp at h
  |false =>
    rw [ha,cond_false] at h;split at h
    · rename_i z' hz;rw [hz];exact ⟨z',rfl,(zur h).1⟩
    · simp at h
theorem zym {ok:Bool} {z:T} {zv:Value} {r:Option T} {r':Option Value} (hz:VT A β g z zv) (h:VO2 A β g r r'):VT A β g (zyn ok z r) (z3t ok zv r'):=by
  cases r<;>cases r'<;>simp only [VO2] at h
  · cases ok with
    |true=>exact .tup (.cons hz (.cons (.bool _) .nil))
    |false=>exact hz
  · cases ok with
    |true=>exact .tup (.cons h (.cons (.bool _) .nil))
    |false=>exact h
theorem yjk (hT:TRel GL A β S s) {b:Nat} {l:List (T×T)} {v:Value} (hb:S.box b=.map l) (h:VT A β (zaa s.obj) (.mp b) v):∃ r es,v=.map (some r)∧β b=some (.map r)∧zaa s.obj r=⟨false,[],some es⟩∧VM A β (zaa s.obj) l es:=by
  obtain ⟨r,es,q1,q2,q3⟩:=hT.maps b l hb
  cases h with
  |mp h=>rw [q1] at h;cases h;exact ⟨_,es,rfl,q1,q2,q3⟩
  |mpOld h _=>rw [q1] at h;simp at h
theorem z4u (hT:TRel GL A β S s) {t:TypeId} {x k r:T} {vx vk:Value} {ok:Bool} (hx:VT A β (zaa s.obj) x vx) (hk:VT A β (zaa s.obj) k vk) (ht:zef Γ S t x k ok=some r):Ok0 GL A β S s (zh3 Γ s t vx vk ok) r:=by
  unfold zef at ht;split at ht
  · rename_i i hi;split at ht
    · rename_i kt e hd
      cases hkv:zjf Γ kt k with
      |false=>rw [hkv] at ht;simp at ht
      |true =>
        rw [hkv,cond_true] at ht;split at ht
        · rename_i j hj;split at ht
          · rename_i z hz;obtain ⟨zv,z1,z2⟩:=z50 (A:=A) (β:=β) (g:=zaa s.obj) hz;split at ht
            · cases ht;cases hx
              have:zh3 Γ s t (.map none) vk ok=some (z3t ok zv none,s):=by
                simp only [zh3,hi,hd,z0m hk hkv,zbw,hj,z0h,z1,zl2]
              rw [this];exact Ok0.same hT (zym z2 trivial)
            · rename_i b;split at ht
              · rename_i l hb;split at ht
                · rename_i r0 hg;cases ht;obtain ⟨rr,es,rfl,q1,q2,q3⟩:=yjk hT hb hx;obtain ⟨r',g1,g2⟩:=zx2 hk q3 hg
                  have:zh3 Γ s t (.map (some rr)) vk ok=some (z3t ok zv r',{ s with rd:=ins s.lim s.rd rr }):=by
                    simp only [zh3,hi,hd,z0m hk hkv,zbw,hj,CS.readMap,q2,z0h,z1,g1]
                  rw [this];exact Ok0.read hT (.inr (zfx q1)) (zym z2 g2)
                · simp at ht
              · simp at ht
            · simp at ht
          · simp at ht
        · simp at ht
    · simp at ht
  · simp at ht
theorem zmm (hT:TRel GL A β S s) {t:TypeId} {k x m:T} {vk vx vm:Value} (hk:VT A β (zaa s.obj) k vk) (hx:VT A β (zaa s.obj) x vx) (hm:VT A β (zaa s.obj) m vm) (ht:zbd Γ S t k x m=some S'):Ok GL A β s (zek Γ s t vk vx vm) .junk S':=by
  unfold zbd at ht;split at ht
  · rename_i b i hi;split at ht
    · rename_i kt e hd
      cases hkv:zjf Γ kt k with
      |false=>rw [hkv] at ht;simp at ht
      |true =>
        rw [hkv,cond_true] at ht;split at ht
        · rename_i l hb;split at ht
          · rename_i l' hs;cases ht;obtain ⟨r,es,rfl,q1,q2,q3⟩:=yjk hT hb hm;obtain ⟨es',g1,g2⟩:=zx1 hk hx q3 hs;obtain ⟨gg,hin⟩:=hT.inr;have hobj:∀ f,zaa s.obj f=gg f:=fun f=>by rw [hin];rfl
            have hdis:=hT.dis r (zfx q1)
            have hw:zek Γ s t vk vx (.map (some r))=some (undef,{ s with obj:=.inr (fupd gg r ⟨false,[],some es'⟩),rd:=ins s.lim s.rd r,wr:=ins s.lim s.wr r }):=by
              have e1:za6 s.obj r ⟨false,[],some es'⟩=.inr (fupd gg r ⟨false,[],some es'⟩):=by rw [hin,zff]
              simp only [zek,hi,hd,z0m hk hkv,zbw,CS.setMap,CS.readMap,q2,zw0,g1,e1,zrz]
            have hcan:=zq8 hT.inv hw;have hold:∀ f,f≠r→fupd gg r ⟨false,[],some es'⟩ f=zaa s.obj f:=fun f hf=>by rw [hobj];exact zhv _ _ _ _ hf
            have hA:∀ f,A f→fupd gg r ⟨false,[],some es'⟩ f=zaa s.obj f:=fun f hf=>hold f fun h=>hdis.2 (h ▸ hf)
            have hoth:∀ {b':Nat} {l:Loc} {f:Nat},β b'=some l→l.fam=some f→b'≠b→fupd gg r ⟨false,[],some es'⟩ f=zaa s.obj f:=by
              intro b' l f hb2 hf hne;refine hold f fun hh=>hne ?_;subst hh;exact hT.inj b' b l _ f hb2 q1 hf rfl
            rw [hw];refine ⟨_,_,A,β,rfl,⟨⟨_,rfl⟩,hT.inv.next hcan,fun f hf=>hT.alt f hf,fun f hf=>hT.dis f hf,hT.inj,hT.next,fun b' z N l2 hb2=>?_,fun b' l2 hb2=>?_,fun y hy=>?_⟩,.junk _,hcan,fun _ h=>h,fun _ h=>.inl h,fun _ h=>.inl h,fun f hf hno=>?_,Bx.le_refl _,fun y hy=>?_,fun y hy=>?_⟩
            · by_cases hbb:b'=b
              · subst hbb;rw [TS.set_same] at hb2;cases hb2
              · rw [TS.set_ne _ _ hbb] at hb2;exact (hT.cells b' z N l2 hb2).mono (fun _ h=>h) hA (Bx.le_refl _) rfl fun f u N2 hl=>hoth hl rfl hbb
            · by_cases hbb:b'=b
              · subst hbb;rw [TS.set_same] at hb2;cases hb2;exact ⟨r,es',q1,ze9 _ _ _,g2.1.mono (fun _ h=>h) hA (Bx.le_refl _),g2.2.mono (fun _ h=>h) hA (Bx.le_refl _)⟩
              · rw [TS.set_ne _ _ hbb] at hb2;exact (hT.maps b' l2 hb2).mono (fun _ h=>h) hA (Bx.le_refl _) rfl fun r' hl=>hoth hl rfl hbb
            · have:=hT.glob y hy;refine ⟨this.1,?_⟩;show zbx (fupd gg r _ y.1).rows _=_;rw [hA _ this.1];exact this.2
            · show fupd gg r _ f=_;exact hold f fun hh=>hno (hh ▸ zfx q1)
            · rcases zju hy with q|⟨rfl,q⟩
              · exact .inl q
              · exact .inr ⟨q,.inr (zfx q1)⟩
            · rcases zju hy with q|⟨rfl,q⟩
              · exact .inl q
              · exact .inr ⟨q,zfx q1⟩
          · simp at ht
        · simp at ht
    · simp at ht
  · simp at ht
theorem zzu (h:TRel GL A β S s) {r:T} (ht:zc8 S=some (r,S')):Ok GL A β s (mapC s) r S':=by
  simp only [zc8,Option.some.injEq,Prod.mk.injEq] at ht;obtain ⟨rfl,rfl⟩:=ht;obtain ⟨q1,q2,q3,q4⟩:=h.fresh ⟨false,[],some []⟩ rfl (fun p hp=>by simp at hp);have hb0:β S.n=none:=h.next _ (Nat.le_refl _)
  have hle:Bx.le β (bnew β S.n (.map s.n)):=zr5 hb0;have hat:∀ b,b≠S.n→bnew β S.n (.map s.n) b=β b:=fun b hb=>if_neg hb;have hat2:bnew β S.n (.map s.n) S.n=some (.map s.n):=if_pos rfl;have hold:∀ f,f<s.n→zaa (za6 s.obj s.n ⟨false,[],some []⟩) f=zaa s.obj f:=fun f hf=>q3 f (by omega)
  have hkey:∀ b x,β b=some x→x.fam=some s.n→False:=fun b x hb hx=>by
    have:Own β s.n:=by
      cases x with
      |live f u N=>simp [Loc.fam] at hx;subst hx;exact zch hb
      |map r=>simp [Loc.fam] at hx;subst hx;exact zfx hb
      |nil=>simp [Loc.fam] at hx
      |dead=>simp [Loc.fam] at hx
    have:=(h.dis _ this).1;omega
  have hm:mapC s=some (.map (some s.n),{ s with n:=s.n+1,obj:=za6 s.obj s.n ⟨false,[],some []⟩ }):=by
    unfold mapC;have:zih s.obj s.n=true:=by obtain ⟨g,hg⟩:=h.inr;rw [hg];rfl
    rw [this,zbw]
  rw [hm];refine ⟨_,_,A,bnew β S.n (.map s.n),rfl,⟨q1.inr,q1.inv,q1.alt,fun f hf=>?_,fun b b' x x' f hb hb' hx hx'=>?_,fun b hb=>?_,fun b z N x hb=>?_,fun b x hb=>?_,q1.glob⟩,.mp hat2,q2,fun _ h=>h,fun _ h=>.inl h,fun f hf=>?_,fun f hf _=>q3 f (by omega),hle,fun _ h=>.inl h,fun _ h=>.inl h⟩
  · obtain ⟨b,hb⟩:=hf;by_cases hbn:b=S.n
    · subst hbn;rw [hat2] at hb;rcases hb with ⟨u,N,hb⟩|hb
      · simp at hb
      · cases hb;exact ⟨by show s.n<s.n+1;omega,fun hA=>by have:=h.alt _ hA;omega⟩
    · rw [hat b hbn] at hb;exact q1.dis f ⟨b,hb⟩
  · by_cases e1:b=S.n<;>by_cases e2:b'=S.n
    · rw [e1,e2]
    · subst e1;rw [hat2] at hb;rw [hat b' e2] at hb';cases hb;simp [Loc.fam] at hx;subst hx;exact (hkey b' x' hb' hx').elim
    · subst e2;rw [hat2] at hb';rw [hat b e1] at hb;cases hb';simp [Loc.fam] at hx';subst hx';exact (hkey b x hb hx).elim
    · rw [hat b e1] at hb;rw [hat b' e2] at hb';exact h.inj b b' x x' f hb hb' hx hx'
  · have:S.n+1≤b:=hb;rw [hat b (by omega)];exact h.next b (by omega)
  · by_cases hbn:b=S.n
    · subst hbn;rw [TS.add_same] at hb;cases hb
    · rw [TS.add_ne _ _ hbn] at hb;exact (h.cells b z N x hb).mono (fun _ h=>h) (fun f hf=>hold f (h.alt f hf)) hle (hat b hbn) fun f u N hl=>hold f (h.dis f (zch hl)).1
  · by_cases hbn:b=S.n
    · subst hbn;rw [TS.add_same] at hb;cases hb;exact ⟨s.n,[],hat2,q4,.nil,.nil⟩
    · rw [TS.add_ne _ _ hbn] at hb;exact (h.maps b x hb).mono (fun _ h=>h) (fun f hf=>hold f (h.alt f hf)) hle (hat b hbn) fun r hl=>hold r (h.dis r (zfx hl)).1
  · obtain ⟨b,hb⟩:=hf;by_cases hbn:b=S.n
    · subst hbn;rw [hat2] at hb;rcases hb with ⟨u,N,hb⟩|hb
      · simp at hb
      · cases hb;exact .inr (Nat.le_refl _)
    · rw [hat b hbn] at hb;exact .inl ⟨b,hb⟩
end
end
section
open Go Go.RowKit
noncomputable def zk7 (v:Value):T:=match zjh v with
  |some t=>t
  |none=>match v with
    |.agg cs=>(match zfl cs.toList with|some l=>.agg l|none=>.junk)
    |_=>.junk
noncomputable def z9i:List (Nat×List Value)→Nat→T
  |[],_=>.junk
  |x :: l,k=>bif Nat.beq x.1 k then (match zfl x.2 with|some c=>.cp c|none=>.junk) else z9i l k
noncomputable def zd1 (GL:List (Nat×List Value)) (h:Nat→T):Operand→T
  |.tmp t=>h t
  |.const v=>zk7 v
  |.global k=>z9i GL k
  |.func f=>.fn f [] []
def tupd (h:Nat→T) (t:Nat) (v:T):Nat→T:=fun u=>if u=t then v else h u
theorem zic (h:Nat→T) (t:Nat) (v:T):tupd h t v t=v:=if_pos rfl
theorem zl6 (h:Nat→T) (t u:Nat) (v:T) (hn:u≠t):tupd h t v u=h u:=if_neg hn
def putT (h:Nat→T):Option Tmp→T→Nat→T
  |some d,v=>tupd h d v
  |none,_=>h
noncomputable def zfm (S:TS):Option T→Option (T×TS)
  |some t=>some (t,S)
  |none=>none
noncomputable def zut:Option TS→Option (T×TS)
  |some S=>some (.junk,S)
  |none=>none
noncomputable def ownD (own:List Nat) (d:Option Tmp):Bool:=match d with|some d=>has own d|none=>false
noncomputable def zkf (Γ:Env) (S:TS) (ρ:Operand→T) (b:Builtin) (args:List Operand) (ts:List TypeId):Option T:=match b with
  |.len=>(match args,ts with | [x],[t]=>tLen Γ S t (ρ x)|_,_=>none)
  |.min=>(match args with | [x,y]=>(match ρ x,ρ y with|.int k a,.int _ b=>some (.int k (min a b))|_,_=>none)|_=>none)
  |.max=>(match args with | [x,y]=>(match ρ x,ρ y with|.int k a,.int _ b=>some (.int k (max a b))|_,_=>none)|_=>none)
  |_=>none
noncomputable def zer (P:Program) (Γ:Env) (ρ:Operand→T) (o:Oper) (S:TS):Option T :=
  match o.op with
  |.move x=>some (ρ x)
  |.assign x=>some (ρ x)
  |.pick c a b=>(match ρ c with|.bool t=>some (bif t then ρ a else ρ b)|_=>none)
  |.build t parts=>zkh Γ ρ t parts.toList
  |.buildSlice t n parts=>zan Γ ρ t n parts.toList
  |.load t x=>zp9 Γ S t (ρ x)
  |.nilCheck x=>ze1 S (ρ x)
  |.sliceToArrayPointer t x=>tS2A Γ S t (ρ x)
  |.makeFunc fn first captured=>(match fn with|.func f=>some (.fn f (first.toList.map ρ) (captured.toList.map ρ))|_=>none)
  |.slice t x lo hi mx=>zp8 Γ S t (ρ x) (lo.map ρ) (hi.map ρ) (mx.map ρ)
  |.fieldAddr t x k=>zaf Γ S t k (ρ x)
  |.field t x k=>zwt Γ t k (ρ x)
  |.indexAddr t x ix=>zgy Γ S t (ρ x) (ρ ix)
  |.index t x ix=>zqa Γ t (ρ x) (ρ ix)
  |.extract x k=>zjj k (ρ x)
  |.unOp op _ x=>tUn op (ρ x)
  |.convert src dst x=>zoj Γ S src dst (ρ x)
  |.binOp op t x y _=>tBin P Γ S t op x y (ρ x) (ρ y)
  |.lookup t x k ok=>zef Γ S t (ρ x) (ρ k) ok
  |.call c=>(match c.callee with
    |.builtin b=>zkf Γ S ρ b c.args.toList c.argTypes.toList
    |_=>none)
  |_=>none
noncomputable def zen (P:Program) (Γ:Env) (own:List Nat) (ρ:Operand→T) (o:Oper) (S:TS):Option (T×TS) :=
  match o.op with
  |.alloc e=>zsv Γ S e
  |.box _ x=>tBox S (ρ x)
  |.buildSlice t n parts=>bif ownD own o.dst then zb8 Γ S ρ t n parts.toList else zfm S (zan Γ ρ t n parts.toList)
  |.store t x v=>zut (zsu Γ S t (ρ v) (ρ x))
  |.makeSlice t l c=>zh6 Γ S t (ρ l) (ρ c)
  |.convert src dst x=>bif ownD own o.dst then zpf Γ S src dst (ρ x) else zfm S (zoj Γ S src dst (ρ x))
  |.makeMap _ none=>zc8 S
  |.mapUpdate t m k v=>zut (zbd Γ S t (ρ k) (ρ v) (ρ m))
  |.insert t m k v=>zut (zbd Γ S t (ρ k) (ρ v) (ρ m))
  |.call c=>(match c.callee with
    |.builtin .append=>(match c.args.toList,c.argTypes.toList with | [x,y],[t,tx]=>bif srcT Γ tx then zns Γ S t (ρ y) (ρ x) else none|_,_=>none)
    |.builtin .copy=>(match c.args.toList,c.argTypes.toList with | [x,y],[t,_]=>z6k Γ S t (ρ y) (ρ x)|_,_=>none)
    |.builtin b=>zfm S (zkf Γ S ρ b c.args.toList c.argTypes.toList)
    |_=>none)
  |_=>zfm S (zer P Γ ρ o S)
section
variable {GL:List (Nat×List Value)} {A A' A2:Nat→Prop} {β β' β2:Bx} {S S':TS} {s s' s2:CS} {P:Program} {Γ:Env}
theorem VT.undf {g:Nat→Fam}:VT A β g (.tup []) undef:=VT.tup (vs:=[]) .nil
theorem yaj {g:Nat→Fam} (v:Value):VT A β g (zk7 v) v:=by
  unfold zk7;split
  · rename_i t ht;exact (zur ht).1
  · split
    · rename_i cs;split
      · rename_i l hl;obtain ⟨cs⟩:=cs;exact .agg (zia hl).1
      · exact .junk _
    · exact .junk _
theorem z3o {g:Nat→Fam}:∀ (L:List (Nat×List Value)) (k:Nat),(∀ x,x∈L→A x.1∧zbx (g x.1).rows (x.1*1024)=some x.2)→VT A β g (z9i L k) (.pointer (some (mkA k (k*1024) 0)))
  |[],k,_=>.junk _
  |x :: l,k,h=>by
    unfold z9i
    cases hb:Nat.beq x.1 k with
    |false=>exact z3o l k fun y hy=>h y (by simp [hy])
    |true =>
      have:=Nat.eq_of_beq_eq_true hb;subst this;simp only [cond_true];split
      · rename_i c hc;obtain ⟨h1,h2⟩:=h x (by simp);exact .cp h1 h2 (zia hc).1 (by rw [List.drop_zero,List.take_length])
      · exact .junk _
structure FrOk (A:Nat→Prop) (β:Bx) (g:Nat→Fam) (N:Nat) (h:Nat→T) (fr:Fr):Prop where
  nt:fr.nt=N
  le:N≤512
  slot:∀ t,VT A β g (h t) (fr.get t)
theorem FrOk.mono {N:Nat} {h:Nat→T} {fr:Fr} {g g':Nat→Fam} (k:FrOk A β g N h fr) (hA:∀ f,A f→A' f) (hg:∀ f,A f→g' f=g f) (hβ:Bx.le β β'):FrOk A' β' g' N h fr:=⟨k.nt,k.le,fun t=>(k.slot t).mono hA hg hβ⟩
theorem FrOk.eval (hT:TRel GL A β S s) {N:Nat} {h:Nat→T} {fr:Fr} (k:FrOk A β (zaa s.obj) N h fr) (x:Operand):VT A β (zaa s.obj) (zd1 GL h x) (zfy fr x):=by
  cases x with
  |tmp t=>exact k.slot t
  |const v=>exact yaj v
  |global g=>exact z3o GL g hT.glob
  |func f=>exact .fn .nil .nil
def zfj (N:Nat) (ops:List Oper):Bool:=ops.all fun o=>match o.dst with|some d=>Nat.blt d N|none=>true
theorem FrOk.put {N:Nat} {h:Nat→T} {fr:Fr} {g:Nat→Fam} (k:FrOk A β g N h fr) {d:Option Tmp} (hd:∀ t,d=some t→t<N) {t:T} {v:Value} (hv:VT A β g t v):FrOk A β g N (putT h d t) (putC fr d v):=by
  cases d with
  |none=>exact k
  |some d =>
    have hdN:=hd d rfl;refine ⟨?_,k.le,fun u=>?_⟩
    · show (fr.put d v).nt=N;unfold Fr.put;rw [zb4];split<;>exact k.nt
    · show VT A β g (tupd h d t u) ((fr.put d v).get u);by_cases hu:u=d
      · subst hu;rw [zic,Fr.get_put_same v (by rw [k.nt];exact hdN) (by rw [k.nt];exact k.le)];exact hv
      · rw [zl6 _ _ _ _ hu,Fr.get_put_other v (by rw [k.nt];exact k.le) (fun hh=>hu hh.symm)];exact k.slot u
theorem zr9 {g:Nat→Fam} {ρT:Operand→T} {ρ:Operand→Value} (hρ:∀ x,VT A β g (ρT x) (ρ x)):∀ (l:List Operand),VL A β g (l.map ρT) (l.map ρ)
  |[]=>.nil
  |x :: l=>.cons (hρ x) (zr9 hρ l)
theorem ya5 {g:Nat→Fam} {ρT:Operand→T} {ρ:Operand→Value} (hρ:∀ x,VT A β g (ρT x) (ρ x)):∀ (l:Option Operand),VO A β g (l.map ρT) (l.map ρ)
  |none=>.none
  |some x=>.some (hρ x)
theorem zpb {r:Option T} {t:T} {S1 S2:TS} (h:zfm S1 r=some (t,S2)):r=some t∧S2=S1:=by
  unfold zfm at h;split at h
  · cases h;exact ⟨rfl,rfl⟩
  · simp at h
theorem zus {r:Option TS} {t:T} {S2:TS} (h:zut r=some (t,S2)):r=some S2∧t=.junk:=by
  unfold zut at h;split at h
  · cases h;exact ⟨rfl,rfl⟩
  · simp at h
theorem zok (hT:TRel GL A β S s) {ρT:Operand→T} {ρ:Operand→Value} (hρ:∀ x,VT A β (zaa s.obj) (ρT x) (ρ x)) {o:Oper} {b:Builtin} {args:Array Operand} {ts:Array TypeId} {r:T} (ho:o.op=.call ⟨.builtin b,args,ts⟩) (ht:zkf Γ S ρT b args.toList ts.toList=some r):Ok0 GL A β S s (ze8 P Γ ρ o s b args.toList ts.toList) r:=by
  unfold zkf at ht;split at ht
  · split at ht
    · rename_i x t e1 e2;rw [e1,e2];exact ygu hT (hρ x) ht
    · simp at ht
  · split at ht
    · rename_i x y e1;split at ht
      · rename_i k a k' b' e2 e3;cases ht;obtain ⟨args⟩:=args;simp only at e1;subst e1;obtain ⟨d,opx,ty,pos,e,g⟩:=o;simp only at ho;subst ho;have h1:=hρ x;have h2:=hρ y;rw [e2] at h1;rw [e3] at h2;generalize f1:ρ x=vx at h1;generalize f2:ρ y=vy at h2;cases h1;cases h2;show Ok0 GL A β S s (ze8 P Γ ρ _ s .min [x,y] ts.toList) _;rw [o_min f1 f2];exact Ok0.same hT (.int _ _)
      · simp at ht
    · simp at ht
  · split at ht
    · rename_i x y e1;split at ht
      · rename_i k a k' b' e2 e3;cases ht;obtain ⟨args⟩:=args;simp only at e1;subst e1;obtain ⟨d,opx,ty,pos,e,g⟩:=o;simp only at ho;subst ho;have h1:=hρ x;have h2:=hρ y;rw [e2] at h1;rw [e3] at h2;generalize f1:ρ x=vx at h1;generalize f2:ρ y=vy at h2;cases h1;cases h2;show Ok0 GL A β S s (ze8 P Γ ρ _ s .max [x,y] ts.toList) _;rw [o_max f1 f2];exact Ok0.same hT (.int _ _)
      · simp at ht
    · simp at ht
  · simp at ht
theorem z1o (hE:zc3 P Γ) (hT:TRel GL A β S s) {ρT:Operand→T} {ρ:Operand→Value} (hρ:∀ x,VT A β (zaa s.obj) (ρT x) (ρ x)) {call:zdd} {o:Oper} {r:T} (ht:zer P Γ ρT o S=some r):Ok0 GL A β S s (cop P Γ call ρ o s) r:=by
  unfold zer at ht;split at ht
  · rename_i x ho;cases ht;unfold cop;simp only [ho];exact Ok0.same hT (hρ x)
  · rename_i x ho;cases ht;unfold cop;simp only [ho];exact Ok0.same hT (hρ x)
  · rename_i c a b ho;split at ht
    · rename_i t hc;cases ht;unfold cop;simp only [ho];have h1:=hρ c;rw [hc] at h1;generalize f1:ρ c=vc at h1;cases h1;rw [yhb]
      cases t with
      |true=>exact Ok0.same hT (hρ a)
      |false=>exact Ok0.same hT (hρ b)
    · simp at ht
  · rename_i t parts ho;unfold cop;simp only [ho];exact z6l hT hρ ht
  · rename_i t n parts ho;unfold cop;simp only [ho];exact zkg hT hρ ht
  · rename_i t x ho;unfold cop;simp only [ho];exact ybh hT (hρ x) ht
  · rename_i x ho;unfold cop;simp only [ho];exact zws hT (hρ x) ht
  · rename_i t x ho;unfold cop;simp only [ho];exact ygt hT (hρ x) ht
  · rename_i fn first captured ho
    split at ht
    · rename_i f;cases ht;unfold cop;simp only [ho];have e1:first.map ρ=⟨first.toList.map ρ⟩:=by rw [← Array.toList_map]
      have e2:captured.map ρ=⟨captured.toList.map ρ⟩:=by rw [← Array.toList_map]
      rw [e1,e2];exact Ok0.same hT (.fn (zr9 hρ _) (zr9 hρ _))
    · simp at ht
  · rename_i t x lo hi mx ho;unfold cop;simp only [ho];exact z6g hT (hρ x) (ya5 hρ _) (ya5 hρ _) (ya5 hρ _) ht
  · rename_i t x k ho;unfold cop;simp only [ho];exact zu0 hT (hρ x) ht
  · rename_i t x k ho;unfold cop;simp only [ho];exact z6j hT (hρ x) ht
  · rename_i t x ix ho;unfold cop;simp only [ho];exact zuz hT (hρ x) (hρ ix) ht
  · rename_i t x ix ho;unfold cop;simp only [ho];exact z6i hT (hρ x) (hρ ix) ht
  · rename_i x k ho;unfold cop;simp only [ho];exact zzv hT (hρ x) ht
  · rename_i op t x ho;unfold cop;simp only [ho];exact yiq hT ho (hρ x) ht
  · rename_i src dst x ho;unfold cop;simp only [ho];exact zwu hE hT ho (hρ x) ht
  · rename_i op t x y t2 ho;unfold cop;simp only [ho];exact ygy hE hT ho (hρ x) (hρ y) ht
  · rename_i t x k ok ho;unfold cop;simp only [ho];exact z4u hT (hρ x) (hρ k) ht
  · rename_i c ho;split at ht
    · rename_i b hc;obtain ⟨cal,args,tys⟩:=c;simp only at hc ht;subst hc;unfold cop;simp only [ho];exact zok hT hρ ho ht
    · simp at ht
  · simp at ht
theorem zu2 (hE:zc3 P Γ) (hT:TRel GL A β S s) {own:List Nat} {ρT:Operand→T} {ρ:Operand→Value} (hρ:∀ x,VT A β (zaa s.obj) (ρT x) (ρ x)) {call:zdd} {o:Oper} {r:T} (ht:zen P Γ own ρT o S=some (r,S')):Ok GL A β s (cop P Γ call ρ o s) r S':=by
  unfold zen at ht;split at ht
  · rename_i e ho;unfold cop;simp only [ho];exact z6m hT ht
  · rename_i e x ho;unfold cop;simp only [ho];exact ygx hT (hρ x) ht
  · rename_i t n parts ho;unfold cop;simp only [ho]
    cases hw:ownD own o.dst with
    |true=>rw [hw] at ht;exact zwv hT hρ ht
    |false =>
      rw [hw] at ht;obtain ⟨h1,rfl⟩:=zpb ht;exact (zkg hT hρ h1).ok
  · rename_i t x v ho;obtain ⟨h1,rfl⟩:=zus ht;unfold cop;simp only [ho];exact z6f hT (hρ x) (hρ v) h1
  · rename_i t l c ho;unfold cop;simp only [ho];exact zuy hT (hρ l) (hρ c) ht
  · rename_i src dst x ho;unfold cop;simp only [ho]
    cases hw:ownD own o.dst with
    |true=>rw [hw] at ht;exact zzw hT (hρ x) ht
    |false =>
      rw [hw] at ht;obtain ⟨h1,rfl⟩:=zpb ht;exact (zwu hE hT ho (hρ x) h1).ok
  · rename_i ho;unfold cop;simp only [ho];exact zzu hT ht
  · rename_i t m k v ho;obtain ⟨h1,rfl⟩:=zus ht;unfold cop;simp only [ho];exact zmm hT (hρ k) (hρ v) (hρ m) h1
  · rename_i t m k v ho;obtain ⟨h1,rfl⟩:=zus ht;unfold cop;simp only [ho];exact zmm hT (hρ k) (hρ v) (hρ m) h1
  · rename_i c ho;obtain ⟨cal,args,tys⟩:=c;simp only at ht;split at ht
    · split at ht
      · rename_i x y t tx e1 e2;unfold cop;simp only [ho];rw [e1,e2]
        cases hq:srcT Γ tx with
        |false=>rw [hq] at ht;simp at ht
        |true =>
          rw [hq,cond_true] at ht;rw [z74 hq];exact z4v hT (hρ x) (hρ y) ht
      · simp at ht
    · split at ht
      · rename_i x y t tx e1 e2;unfold cop;simp only [ho];rw [e1,e2];exact ybi hT (hρ x) (hρ y) ht
      · simp at ht
    · obtain ⟨h1,rfl⟩:=zpb ht;unfold cop;simp only [ho];exact (zok hT hρ ho h1).ok
    · simp at ht
  · obtain ⟨h1,rfl⟩:=zpb ht;exact (z1o hE hT hρ h1).ok
end
def Call (P:Program) (Γ:Env) (GL:List (Nat×List Value)) (f:FuncId) (args:List T) (S:TS) (v:T) (S':TS):Prop :=
  ∀ A β s vargs,TRel GL A β S s→VL A β (zaa s.obj) args vargs→Ok GL A β s (zd9 P Γ f vargs s) v S'
noncomputable def zhp (ops:List Oper) (h:Nat→T):Option (Nat×Bool)→Option Bool
  |none=>some true
  |some (j,want)=>match zme ops j with
    |some d=>(match h d with|.bool b=>some (b == want)|.tup _=>some false|_=>none)
    |none=>none
noncomputable def zwh (P:Program) (Γ:Env) (GL:List (Nat×List Value)) (S:TS) (args:List T) (f:T) (r:T×TS):Option Prop:=match f with
  |.fn k first cap=>some (Call P Γ GL k (first++args++cap) S r.1 r.2)
  |_=>none
noncomputable def andT (p:Prop):Option (Prop×(Nat→T)×TS)→Option (Prop×(Nat→T)×TS)
  |some (q,h,S)=>some (p∧q,h,S)
  |none=>none
noncomputable def runT (P:Program) (Γ:Env) (GL:List (Nat×List Value)) (own:List Nat) (ops:List Oper):List Oper→(Nat→T)→TS→List (T×TS)→Option (Prop×(Nat→T)×TS)
  |[],h,S,_=>some (True,h,S)
  |o :: l,h,S,outs=>match zhp ops h o.guard with
    |none=>none
    |some false=>runT P Γ GL own ops l (putT h o.dst (.tup [])) S outs
    |some true=>match o.op with
      |.call ⟨.value f,args,tys⟩=>(match outs with
        |r :: outs=>(match zwh P Γ GL S (args.toList.map (zd1 GL h)) (zd1 GL h f) r with
          |some p=>andT p (runT P Γ GL own ops l (putT h o.dst r.1) r.2 outs)
          |none=>none)
        |[]=>none)
      |_=>(match zen P Γ own (zd1 GL h) o S with
        |some (t,S1)=>runT P Γ GL own ops l (putT h o.dst t) S1 outs
        |none=>none)
section
variable {GL:List (Nat×List Value)} {A A' A2:Nat→Prop} {β β' β2:Bx} {S S':TS} {s s' s2:CS} {P:Program} {Γ:Env}
theorem zho {g:Nat→Fam} {ops:List Oper} {h:Nat→T} {N:Nat} {fr:Fr} {o:Oper} {b:Bool} (k:FrOk A β g N h fr) (hg:zhp ops h o.guard=some b):zc4 ops fr o=b:=by
  unfold zhp at hg;unfold zc4;split at hg
  · rename_i hh;cases hg;rw [hh]
  · rename_i j want hh;rw [hh];split at hg
    · rename_i d hd;simp only [hd];split at hg
      · rename_i b' hb;have:=k.slot d;rw [hb] at this;generalize fr.get d=v at this;cases this;simp only [Option.some.injEq] at hg;exact hg
      · rename_i l hb;have:=k.slot d;rw [hb] at this;generalize fr.get d=v at this;cases this;simp only [Option.some.injEq] at hg;exact hg
      · simp at hg
    · simp at hg
def Left (GL:List (Nat×List Value)) (A:Nat→Prop) (β:Bx) (s:CS) (N:Nat) (fr':Fr) (s':CS) (h':Nat→T) (S':TS):Prop :=
  ∃ A' β',FrOk A' β' (zaa s'.obj) N h' fr'∧TRel GL A' β' S' s'∧Stp A β s A' β' s'
theorem Left.trans {N:Nat} {fr' fr2:Fr} {h' h2:Nat→T} {S2:TS} (hl:s.lim≤s.n) (hS:Stp A β s A' β' s') (k:Left GL A' β' s' N fr2 s2 h2 S2):Left GL A β s N fr2 s2 h2 S2:=by
  obtain ⟨A2,β2,k1,k2,k3⟩:=k;exact ⟨A2,β2,k1,k2,hS.trans hl k3⟩
theorem zz3 (hE:zc3 P Γ) {own:List Nat} {ops:List Oper} {N:Nat}:∀ {l:List Oper} {h h':Nat→T} {S S':TS} {outs:List (T×TS)} {ob:Prop} {A:Nat→Prop} {β:Bx} {fr:Fr} {s:CS},zfj N l=true→FrOk A β (zaa s.obj) N h fr→TRel GL A β S s→runT P Γ GL own ops l h S outs=some (ob,h',S')→ob →
    ∃ fr' s',runC P Γ (zd9 P Γ) ops l fr s=some (fr',s')∧Left GL A β s N fr' s' h' S'
  |[],h,h',S,S',outs,ob,A,β,fr,s,hd,hF,hT,hr,hob=>by
    simp only [runT,Option.some.injEq,Prod.mk.injEq] at hr;obtain ⟨rfl,rfl,rfl⟩:=hr;exact ⟨fr,s,rfl,A,β,hF,hT,Stp.refl⟩
  |o :: l,h,h',S,S',outs,ob,A,β,fr,s,hd,hF,hT,hr,hob=>by
    have hd':zfj N l=true∧∀ t,o.dst=some t→t<N:=by
      unfold zfj at hd ⊢;rw [List.all_cons,Bool.and_eq_true] at hd;refine ⟨hd.2,fun t ht=>?_⟩;have:=hd.1;rw [ht] at this;exact zac.1 this
    -- one step that is done
    have go:∀ {t:T} {S1:TS} {r:Option (Value×CS)} {l':List (T×TS)} {ob':Prop},Ok GL A β s r t S1→(cop P Γ (zd9 P Γ) (zfy fr) o s=r)→zc4 ops fr o=true→runT P Γ GL own ops l (putT h o.dst t) S1 l'=some (ob',h',S')→ob'→∃ fr' s',runC P Γ (zd9 P Γ) ops (o :: l) fr s=some (fr',s')∧Left GL A β s N fr' s' h' S':=by
      rintro t S1 r l' ob' ⟨v,s1,A1,β1,rfl,k1,k2,k3⟩ hc hw hrun hob';have hF1:FrOk A1 β1 (zaa s1.obj) N h fr:=hF.mono k3.sub (k3.old hT) k3.bx;obtain ⟨fr',s',e1,e2⟩:=zz3 hE hd'.1 (hF1.put hd'.2 k2) k1 hrun hob';refine ⟨fr',s',?_,Left.trans (h':=h) (fr':=fr) hT.le k3 e2⟩;rw [runC]
      have:zcc P Γ (zd9 P Γ) ops o fr s=some (putC fr o.dst v,s1):=by
        unfold zcc;rw [hw,cond_true,hc]
      rw [this];exact e1
    unfold runT at hr;split at hr
    · simp at hr
    · rename_i hg;have hw:=zho hF hg;obtain ⟨fr',s',e1,e2⟩:=zz3 hE hd'.1 (hF.put hd'.2 VT.undf) hT hr hob;refine ⟨fr',s',?_,e2⟩;rw [runC]
      have:zcc P Γ (zd9 P Γ) ops o fr s=some (putC fr o.dst undef,s):=by
        unfold zcc;rw [hw,cond_false]
      rw [this];exact e1
    · rename_i hg;have hw:=zho hF hg;split at hr
      · rename_i f args tys ho;split at hr
        · rename_i r outs';split at hr
          · rename_i p hp;unfold zwh at hp;split at hp
            · rename_i k first cap hf
              simp only [Option.some.injEq] at hp;subst hp
              cases hrun:runT P Γ GL own ops l (putT h o.dst r.1) r.2 outs' with
              |none=>rw [hrun] at hr;simp [andT] at hr
              |some q =>
                obtain ⟨q1,q2,q3⟩:=q;rw [hrun] at hr;simp only [andT,Option.some.injEq,Prod.mk.injEq] at hr;obtain ⟨rfl,rfl,rfl⟩:=hr;have hfv:=hF.eval hT f;rw [hf] at hfv;generalize e1:zfy fr f=vf at hfv
                cases hfv with
                |fn h1 h2 =>
                  rename_i va vc;have hargs:=zr9 (hF.eval hT) args.toList;have hcall:=hob.1 A β s _ hT ((h1.append hargs).append h2);refine go hcall ?_ hw hrun hob.2;unfold cop;simp only [ho,e1];unfold zj7;rfl
            · simp at hp
          · simp at hr
        · simp at hr
      · split at hr
        · rename_i t S1 hst;exact go (zu2 hE hT (hF.eval hT) hst) rfl hw hr hob
        · simp at hr
end
end
section
open Go Go.RowKit
section
variable {GL:List (Nat×List Value)} {A A' A2:Nat→Prop} {β β' β2:Bx} {S S' S2:TS} {s s' s2:CS} {P:Program} {Γ:Env} {N:Nat} {h h' h2:Nat→T} {Q R:Exit→(Nat→T)→TS→Prop}
def TW (P:Program) (Γ:Env) (GL:List (Nat×List Value)) (N:Nat) (c:Code) (h:Nat→T) (S:TS) (Q:Exit→(Nat→T)→TS→Prop):Prop :=
  ∀ A β fr s,FrOk A β (zaa s.obj) N h fr→TRel GL A β S s→W P Γ c fr s fun e fr' s'=>∃ h' S',Left GL A β s N fr' s' h' S'∧Q e h' S'
def onT (k:(Nat→T)→TS→Prop) (Q:Exit→(Nat→T)→TS→Prop) (e:Exit) (h:Nat→T) (S:TS):Prop:=match e with
  |.normal=>k h S
  |e=>Q e h S
def onTB (id:Nat) (Q:Exit→(Nat→T)→TS→Prop) (e:Exit) (h:Nat→T) (S:TS):Prop:=match e with
  |.exit i=>bif Nat.beq i id then Q .normal h S else Q (.exit i) h S
  |e=>Q e h S
theorem Left.refl {fr:Fr} (hF:FrOk A β (zaa s.obj) N h fr) (hT:TRel GL A β S s):Left GL A β s N fr s h S:=⟨A,β,hF,hT,Stp.refl⟩
theorem TW.mono {c:Code} (k:TW P Γ GL N c h S Q) (hq:∀ e h S,Q e h S→R e h S):TW P Γ GL N c h S R:=fun A β fr s hF hT =>
  (k A β fr s hF hT).mono fun e fr' s' ⟨h',S',h1,h2⟩=>⟨h',S',h1,hq _ _ _ h2⟩
theorem TW.skip (k:Q .normal h S):TW P Γ GL N .skip h S Q:=fun A β fr s hF hT=>W.skip ⟨h,S,Left.refl hF hT,k⟩
theorem TW.ret (k:Q .ret h S):TW P Γ GL N .ret h S Q:=fun A β fr s hF hT=>W.ret ⟨h,S,Left.refl hF hT,k⟩
theorem TW.exit {id:Nat} (k:Q (.exit id) h S):TW P Γ GL N (.exit id) h S Q:=fun A β fr s hF hT=>W.exit ⟨h,S,Left.refl hF hT,k⟩
theorem TW.label {l:Nat} (k:Q .normal h S):TW P Γ GL N (.label l) h S Q:=fun A β fr s hF hT=>W.label ⟨h,S,Left.refl hF hT,k⟩
theorem TW.seq {a b:Code} (k:TW P Γ GL N a h S (onT (fun h S=>TW P Γ GL N b h S Q) Q)):TW P Γ GL N (.seq a b) h S Q:=fun A β fr s hF hT=>by
  refine W.seq ((k A β fr s hF hT).mono ?_);rintro e fr' s' ⟨h',S',⟨A',β',k1,k2,k3⟩,hq⟩
  cases e with
  |normal =>
    refine (hq A' β' fr' s' k1 k2).mono ?_;rintro e2 fr2 s2 ⟨h2,S2,l2,q2⟩;exact ⟨h2,S2,Left.trans (h':=h) (fr':=fr) hT.le k3 l2,q2⟩
  |_=>exact ⟨h',S',⟨A',β',k1,k2,k3⟩,hq⟩
theorem TW.cond {c:Operand} {t f:Code} {b:Bool} (hb:zd1 GL h c=.bool b) (k:TW P Γ GL N (bif b then t else f) h S Q):TW P Γ GL N (.cond c t f) h S Q:=fun A β fr s hF hT=>by
  have:=hF.eval hT c;rw [hb] at this;refine W.cond (b:=b) ?_ (k A β fr s hF hT);generalize zfy fr c=v at this;cases this;rfl
theorem TW.block {id:Nat} {b:Code} (k:TW P Γ GL N b h S (onTB id Q)):TW P Γ GL N (.block id b) h S Q:=fun A β fr s hF hT=>by
  refine W.block ((k A β fr s hF hT).mono ?_);rintro e fr' s' ⟨h',S',l,hq⟩
  cases e with
  |exit i =>
    simp only [onB];simp only [onTB] at hq
    cases hb:Nat.beq i id with
    |true=>rw [hb] at hq;exact ⟨h',S',l,hq⟩
    |false=>rw [hb] at hq;exact ⟨h',S',l,hq⟩
  |_=>exact ⟨h',S',l,hq⟩
theorem TW.scope {b:Code} (k:TW P Γ GL N b h S Q):TW P Γ GL N (.scope b) h S Q:=fun A β fr s hF hT=>W.scope (k A β fr s hF hT)
theorem TW.loop {b:Code} (I:Nat→(Nat→T)→TS→Prop) (hb:∀ n h S,I n h S→TW P Γ GL N b h S (onT (fun h S=>∃ m,m<n∧I m h S) Q)):∀ n h S,I n h S→TW P Γ GL N (.loop b) h S Q:=by
  intro n
  induction n using Nat.strongRecOn with
  |_ n ih =>
    intro h S hI A β fr s hF hT;obtain ⟨e,fr1,s1,h1,h',S',⟨A',β',k1,k2,k3⟩,hq⟩:=hb n h S hI A β fr s hF hT
    cases e with
    |normal =>
      obtain ⟨m,hm,hI'⟩:=hq;obtain ⟨e2,fr2,s2,h3,h2,S2,l2,q2⟩:=ih m hm h' S' hI' A' β' fr1 s1 k1 k2;exact ⟨e2,fr2,s2,Ev.again h1 h3,h2,S2,Left.trans (h':=h) (fr':=fr) hT.le k3 l2,q2⟩
    |_=>exact ⟨_,_,_,Ev.last h1 (by simp),h',S',⟨A',β',k1,k2,k3⟩,hq⟩
theorem TW.region (hE:zc3 P Γ) {id:Nat} {ops:Array Oper} (own:List Nat) (outs:List (T×TS)) {ob:Prop} (hd:zfj N ops.toList=true) (hr:runT P Γ GL own ops.toList ops.toList h S outs=some (ob,h',S')) (hob:ob) (hq:Q .normal h' S'):TW P Γ GL N (.region id ops false) h S Q:=fun A β fr s hF hT=>by
  obtain ⟨fr',s',e1,e2⟩:=zz3 hE hd hF hT hr hob;exact W.region e1 ⟨h',S',e2,hq⟩
noncomputable def resT (Γ:Env) (S:TS) (h:Nat→T):List ResultVar→Option (List T)
  |[]=>some []
  |.tmp t :: l=>(match resT Γ S h l with|some vs=>some (h t :: vs)|none=>none)
  |.cell a ty :: l=>(match zp9 Γ S ty (h a),resT Γ S h l with|some v,some vs=>some (v :: vs)|_,_=>none)
def tupT:List T→T
  |[v]=>v
  |vs=>.tup vs
theorem zu9:∀ {l:List ResultVar} {vs:List T} {fr:Fr} {s:CS},FrOk A β (zaa s.obj) N h fr→TRel GL A β S s→resT Γ S h l=some vs→∃ ws s',resC Γ fr s l=some (ws,s')∧VL A β (zaa s.obj) vs ws∧TRel GL A β S s'∧Stp A β s A β s'∧s'.obj=s.obj
  |[],vs,fr,s,hF,hT,hr=>by
    simp only [resT,Option.some.injEq] at hr;subst hr;exact ⟨[],s,rfl,.nil,hT,Stp.refl,rfl⟩
  |.tmp t :: l,vs,fr,s,hF,hT,hr=>by
    simp only [resT] at hr;split at hr
    · rename_i vs' hv;cases hr;obtain ⟨ws,s',k1,k2,k3,k4,k5⟩:=zu9 hF hT hv;exact ⟨_,s',by simp only [resC,k1],.cons (hF.slot t) k2,k3,k4,k5⟩
    · simp at hr
  |.cell a ty :: l,vs,fr,s,hF,hT,hr=>by
    simp only [resT] at hr;split at hr
    · rename_i v vs' hv hvs;cases hr;obtain ⟨ad,i,w,f,q1,q2,q3,q4,q5⟩:=z1m hT (hF.slot a) hv;obtain ⟨ws,s',k1,k2,k3,k4,k5⟩:=zu9 (s:={ s with rd:=ins s.lim s.rd f }) hF (hT.read f) hvs;refine ⟨w :: ws,s',?_,.cons q5 k2,k3,(Stp.read q3).trans hT.le k4,k5⟩;simp only [resC,q1,q2,q4,k1]
    · simp at hr
def argT:List T→Nat→(Nat→T)→(Nat→T)
  |[],_,h=>h
  |v :: l,i,h=>argT l (i+1) (tupd h i v)
theorem znn (v:T) (l:List T) (i:Nat) (h:Nat→T):argT (v :: l) i h=argT l (i+1) (tupd h i v):=rfl
theorem zpz (i:Nat) (h:Nat→T):argT [] i h=h:=rfl
theorem z1c {g:Nat→Fam}:∀ {args:List T} {vargs:List Value} {i:Nat} {h:Nat→T} {fr:Fr},VL A β g args vargs→FrOk A β g N h fr→i+args.length≤N→FrOk A β g N (argT args i h) (Fr.ofArgs vargs i fr)
  |_,_,i,h,fr,.nil,hF,_=>hF
  |_,_,i,h,fr,.cons h1 h2,hF,hl=>by
    rw [List.length_cons] at hl;show FrOk A β g N (argT _ (i+1) _) (Fr.ofArgs _ (i+1) (fr.put i _));have hi:i<N:=by omega
    exact z1c (i:=i+1) h2 (hF.put (d:=some i) (fun t ht=>by cases ht;exact hi) h1) (by rw [Nat.add_right_comm];exact hl)
theorem FrOk.start {g:Nat→Fam} (hN:N≤512):FrOk A β g N (fun _=>.junk) ⟨N,Tr.all undef 9⟩:=⟨rfl,hN,fun t=>.junk _⟩
def z1d (GL:List (Nat×List Value)) (v:T) (S:TS) (v':T) (S':TS):Prop :=
  ∀ A β s w,TRel GL A β S s→VT A β (zaa s.obj) v w→∃ A' β',TRel GL A' β' S' s∧VT A' β' (zaa s.obj) v' w∧Stp A β s A' β' s
theorem z1d.refl (v:T) (S:TS):z1d GL v S v S:=fun A β s w hT hv=>⟨A,β,hT,hv,Stp.refl⟩
theorem ydo {g:Nat→Fam} {vs:List T} {ws:List Value} (h:VL A β g vs ws):VT A β g (tupT vs) (tupC ws):=by
  cases h with
  |nil=>exact .tup .nil
  |cons h1 h2 =>
    cases h2 with
    |nil=>exact h1
    |cons h3 h4=>exact .tup (.cons h1 (.cons h3 h4))
theorem Call.go {f:FuncId} {fn:Func} {body:Code} {args:List T} {v:T} {Sf:TS} (N:Nat) (hax:Γ.ax f=none) (hf:Γ.fn.at f=some fn) (hb:fn.body=some body) (hn:fn.ntmps=N) (hN:N≤512) (hl:args.length≤N)
    (k:TW P Γ GL N body (argT args 0 fun _=>.junk) S fun e h' S'=>(e=.normal∨e=.ret)∧∃ vs,resT Γ S' h' fn.results.toList=some vs∧z1d GL (tupT vs) S' v Sf):Call P Γ GL f args S v Sf:=by
  intro A β s vargs hT hargs;obtain ⟨e,fr',s1,h1,h',S',⟨A',β',k1,k2,k3⟩,he,vs,hr,hsh⟩:=k A β _ s (z1c hargs (FrOk.start hN) (by omega)) hT;obtain ⟨ws,s2,r1,r2,r3,r4,r5⟩:=zu9 k1 k2 hr;rw [← r5] at r2;obtain ⟨A2,β2,q1,q2,q3⟩:=hsh A' β' s2 _ r3 (ydo r2);refine ⟨tupC ws,s2,A2,β2,?_,q1,q2,(k3.trans hT.le (r4.trans k2.le q3))⟩;have hlen:=hargs.len;exact zob hax hf hb (by omega) ⟨e,fr',s1,by rw [hn];exact h1,he,ws,r1,rfl⟩
end
end
section
open Go Go.RowKit
mutual
def T.ids (n:Nat):T→Bool
  |.agg l=>T.idsL n l
  |.tup l=>T.idsL n l
  |.lst _ l=>T.idsL n l
  |.cp l=>T.idsL n l
  |.ptr b _ _=>Nat.blt b n
  |.arr b _ _ _ _ _=>Nat.blt b n
  |.mp b=>Nat.blt b n
  |.fn _ a c=>T.idsL n a && T.idsL n c
  |_=>true
def T.idsL (n:Nat):List T→Bool
  |[]=>true
  |t :: l=>T.ids n t && T.idsL n l
end
mutual
def T.flat:T→Bool
  |.agg l=>T.flatL l
  |.tup l=>T.flatL l
  |.int _ _=>true
  |.bool _=>true
  |.str _=>true
  |.nils=>true
  |.nilp=>true
  |.nilm=>true
  |.nilf=>true
  |.junk=>true
  |_=>false
def T.flatL:List T→Bool
  |[]=>true
  |t :: l=>T.flat t && T.flatL l
end
section
variable {GL:List (Nat×List Value)} {A A' A2:Nat→Prop} {β β' β2:Bx} {S S' S2:TS} {s s' s2:CS} {P:Program} {Γ:Env} {N:Nat} {h h' h2:Nat→T} {Q R:Exit→(Nat→T)→TS→Prop} {g g':Nat→Fam}
theorem zay {n:Nat}:∀ {l l2:List T},T.idsL n (l++l2)=(T.idsL n l && T.idsL n l2)
  |[],l2=>by simp [T.idsL]
  |t :: l,l2=>by simp only [List.cons_append,T.idsL,zay,Bool.and_assoc]
theorem z84 {n:Nat} {t:T} (h:t.ids n=true):T.idsL n t.cells=true:=by
  cases t<;>first|exact h | (simp only [T.cells,T.idsL,h,Bool.and_self])
theorem zlm {n:Nat}:∀ {l:List T},T.idsL n l=true→T.idsL n (l.flatMap T.cells)=true
  |[],_=>rfl
  |t :: l,h=>by
    simp only [T.idsL,Bool.and_eq_true] at h;rw [List.flatMap_cons,zay,z84 h.1,zlm h.2];rfl
theorem z3h {n:Nat}:∀ {l:List T},(∀ t,t∈l→t.ids n=true)→T.idsL n l=true
  |[],_=>rfl
  |t :: l,h=>by
    simp only [T.idsL,Bool.and_eq_true];exact ⟨h t (by simp),z3h fun t ht=>h t (by simp [ht])⟩
mutual
theorem VT.ids {n:Nat} (hβ:∀ b,b<n→β' b=β b):∀ {t:T} {v:Value},t.ids n=true→VT A β g t v→VT A β' g t v
  |_,_,_,.int k n=>.int k n
  |_,_,_,.bool b=>.bool b
  |_,_,_,.str b=>.str b
  |_,_,hi,.agg h=>.agg (VL.ids hβ hi h)
  |_,_,hi,.tup h=>.tup (VL.ids hβ hi h)
  |_,_,_,.lnil=>.lnil
  |_,_,hi,.lst h1 h2 h3 h4 h5 h6 h7 h8=>.lst h1 h2 (VL.ids hβ (zlm hi) h3) h4 h5 h6 h7 h8
  |_,_,_,.nils=>.nils
  |_,_,_,.nilp=>.nilp
  |_,_,_,.nilm=>.nilm
  |_,_,_,.nilf=>.nilf
  |_,_,hi,.ptr h=>.ptr (by rw [hβ _ (zac.1 hi)];exact h)
  |_,_,hi,.ptrOld h h0 h1 h2=>.ptrOld (by rw [hβ _ (zac.1 hi)];exact h) h0 h1 h2
  |_,_,hi,.cp h1 h2 h3 h4=>.cp h1 h2 (VL.ids hβ hi h3) h4
  |_,_,hi,.arr h ht=>.arr (by rw [hβ _ (zac.1 hi)];exact h) ht
  |_,_,hi,.arrNil h=>.arrNil (by rw [hβ _ (zac.1 hi)];exact h)
  |_,_,hi,.arrOld h h0 h1 h2=>.arrOld (by rw [hβ _ (zac.1 hi)];exact h) h0 h1 h2
  |_,_,hi,.mp h=>.mp (by rw [hβ _ (zac.1 hi)];exact h)
  |_,_,hi,.mpOld h h2=>.mpOld (by rw [hβ _ (zac.1 hi)];exact h) h2
  |_,_,hi,.fn h1 h2=>by
    simp only [T.ids,Bool.and_eq_true] at hi;exact .fn (VL.ids hβ hi.1 h1) (VL.ids hβ hi.2 h2)
  |_,_,_,.junk v=>.junk v
  |_,_,_,.emp h1 h2 h3 h4=>.emp h1 h2 h3 h4
theorem VL.ids {n:Nat} (hβ:∀ b,b<n→β' b=β b):∀ {l:List T} {vs:List Value},T.idsL n l=true→VL A β g l vs→VL A β' g l vs
  |_,_,_,.nil=>.nil
  |_,_,hi,.cons h k=>by
    simp only [T.idsL,Bool.and_eq_true] at hi;exact .cons (VT.ids hβ hi.1 h) (VL.ids hβ hi.2 k)
end
mutual
theorem VT.flat:∀ {t:T} {v:Value},t.flat=true→VT A β g t v→VT A' β' g' t v
  |_,_,_,.int k n=>.int k n
  |_,_,_,.bool b=>.bool b
  |_,_,_,.str b=>.str b
  |_,_,hi,.agg h=>.agg (VL.flat hi h)
  |_,_,hi,.tup h=>.tup (VL.flat hi h)
  |_,_,_,.nils=>.nils
  |_,_,_,.nilp=>.nilp
  |_,_,_,.nilm=>.nilm
  |_,_,_,.nilf=>.nilf
  |_,_,_,.junk v=>.junk v
  |_,_,hi,.lnil=>by simp [T.flat] at hi
  |_,_,hi,.lst _ _ _ _ _ _ _ _=>by simp [T.flat] at hi
  |_,_,hi,.ptr _=>by simp [T.flat] at hi
  |_,_,hi,.ptrOld _ _ _ _=>by simp [T.flat] at hi
  |_,_,hi,.cp _ _ _ _=>by simp [T.flat] at hi
  |_,_,hi,.arr _ _=>by simp [T.flat] at hi
  |_,_,hi,.arrNil _=>by simp [T.flat] at hi
  |_,_,hi,.arrOld _ _ _ _=>by simp [T.flat] at hi
  |_,_,hi,.mp _=>by simp [T.flat] at hi
  |_,_,hi,.mpOld _ _=>by simp [T.flat] at hi
  |_,_,hi,.fn _ _=>by simp [T.flat] at hi
  |_,_,hi,.emp _ _ _ _=>by simp [T.flat] at hi
theorem VL.flat:∀ {l:List T} {vs:List Value},T.flatL l=true→VL A β g l vs→VL A' β' g' l vs
  |_,_,_,.nil=>.nil
  |_,_,hi,.cons h k=>by
    simp only [T.flatL,Bool.and_eq_true] at hi;exact .cons (VT.flat hi.1 h) (VL.flat hi.2 k)
end
def bx0:Bx:=fun _=>none
theorem zkx {f:Nat}:¬ Own bx0 f:=fun ⟨b,h⟩=>by rcases h with ⟨u,N,h⟩|h<;>simp [bx0] at h
theorem TRel.bare (hT:TRel GL A β S s) (A1:Nat→Prop) (h1:∀ f,A f→A1 f) (h2:∀ f,A1 f→f<s.n):TRel GL A1 bx0 ts0 s :=
  ⟨hT.inr,hT.inv,h2,fun f hf=>absurd hf zkx,fun b b' l l' f hb=>by simp [bx0] at hb,fun b _=>rfl,fun b z N l hb=>by simp [ts0] at hb,fun b l hb=>by simp [ts0] at hb,fun x hx=>⟨h1 _ (hT.glob x hx).1,(hT.glob x hx).2⟩⟩
def Pure (P:Program) (Γ:Env) (GL:List (Nat×List Value)) (f:FuncId) (args:List T) (v:T):Prop:=T.idsL 0 args=true∧v.ids 0=true∧Call P Γ GL f args ts0 v ts0
def zau (P:Program) (Γ:Env) (GL:List (Nat×List Value)) (f:FuncId) (args:List T) (S:TS) (v:T):Prop :=
  ∀ A β s vargs,TRel GL A β S s→VL A β (zaa s.obj) args vargs→Ok0 GL A β S s (zd9 P Γ f vargs s) v
theorem zau.call {f:FuncId} {args:List T} {v:T} (k:zau P Γ GL f args S v):Call P Γ GL f args S v S:=fun A β s vargs hT hv=>(k A β s vargs hT hv).ok
theorem Pure.call {f:FuncId} {args:List T} {v:T} (k:Pure P Γ GL f args v) (S:TS):zau P Γ GL f args S v:=by
  intro A β s vargs hT hv;obtain ⟨k1,k2,k3⟩:=k;have hT0:=hT.bare A (fun _ h=>h) hT.alt;obtain ⟨w,s',A',β',e1,e2,e3,e4⟩:=k3 A bx0 s vargs hT0 (VL.ids (n:=0) (fun b hb=>absurd hb (by omega)) k1 hv)
  have hc:zi4 A β s A' s':=by
    refine ⟨e4.can,e4.sub,fun f hf=>?_,fun f hf=>e4.keep f hf zkx,fun x hx=>?_,fun x hx=>?_⟩
    · rcases e4.new f hf with q|q|q
      · exact .inl q
      · exact .inr q
      · exact absurd q zkx
    · rcases e4.rd x hx with q|⟨q,q2⟩
      · exact .inl q
      · exact .inr ⟨q,.inl (q2.resolve_right zkx)⟩
    · rcases e4.wr x hx with q|⟨_,q⟩
      · exact q
      · exact absurd q zkx
  exact ⟨w,s',A',e1,hc.rel hT e2.inr e2.inv e2.alt,VT.ids (n:=0) (fun b hb=>absurd hb (by omega)) k2 e3,hc⟩
def bcut (β:Bx) (n:Nat):Bx:=fun b=>if b<n then β b else none
def zgt (n:Nat):Box→Bool
  |.gone=>true
  |.cells _ _ l=>T.idsL n l
  |.map l=>T.idsL n (l.map (·.1)) && T.idsL n (l.map (·.2))
def zsk (S1 Sf:TS):Prop:=Sf.n≤S1.n∧∀ b,Sf.box b=.gone∨(b<Sf.n∧Sf.box b=S1.box b∧zgt Sf.n (S1.box b)=true)
theorem TRel.cut (hT:TRel GL A β S s) (hk:zsk S S2):TRel GL A (bcut β S2.n) S2 s:=by
  have hat:∀ b,b<S2.n→bcut β S2.n b=β b:=fun b hb=>if_pos hb
  have hsub:∀ b l,bcut β S2.n b=some l→β b=some l:=fun b l h=>by
    unfold bcut at h;split at h
    · exact h
    · simp at h
  have hown:∀ f,Own (bcut β S2.n) f→Own β f:=fun f ⟨b,hb⟩=>⟨b,hb.imp (fun ⟨u,N,h⟩=>⟨u,N,hsub _ _ h⟩) fun h=>hsub _ _ h⟩;refine ⟨hT.inr,hT.inv,hT.alt,fun f hf=>hT.dis f (hown f hf),fun b b' l l' f hb hb'=>hT.inj b b' l l' f (hsub _ _ hb) (hsub _ _ hb'),fun b hb=>if_neg (by omega),fun b z N l hb=>?_,fun b l hb=>?_,hT.glob⟩
  · rcases hk.2 b with q|⟨q1,q2,q3⟩
    · rw [q] at hb;simp at hb
    · rw [q2] at hb;obtain ⟨c1,c2⟩:=hT.cells b z N l hb;rw [hb] at q3;refine ⟨c1,?_⟩;rcases c2 with ⟨d1,d2,d3⟩|⟨f,u,cs,rest,d1,d2,d3,d4,d5⟩
      · exact .inl ⟨by rw [hat b q1];exact d1,d2,d3⟩
      · exact .inr ⟨f,u,cs,rest,by rw [hat b q1];exact d1,d2,d3,VL.ids hat q3 d4,d5⟩
  · rcases hk.2 b with q|⟨q1,q2,q3⟩
    · rw [q] at hb;simp at hb
    · rw [q2] at hb;obtain ⟨r,es,c1,c2,c3,c4⟩:=hT.maps b l hb;rw [hb] at q3;simp only [zgt,Bool.and_eq_true] at q3;exact ⟨r,es,by rw [hat b q1];exact c1,c2,VL.ids hat q3.1 c3,VL.ids hat q3.2 c4⟩
theorem Call.enter {f:FuncId} {fn:Func} {body:Code} {args:List T} {v:T} {Sf:TS} (N:Nat) (hax:Γ.ax f=none) (hf:Γ.fn.at f=some fn) (hb:fn.body=some body) (hn:fn.ntmps=N) (hN:N≤512) (hl:args.length≤N) (hSf:S.n≤Sf.n) (hv:v.ids Sf.n=true)
    (k:TW P Γ GL N body (argT args 0 fun _=>.junk) S fun e h' S'=>(e=.normal∨e=.ret)∧∃ vs,resT Γ S' h' fn.results.toList=some vs∧∃ S1,z1d GL (tupT vs) S' v S1∧zsk S1 Sf):Call P Γ GL f args S v Sf:=by
  intro A β s vargs hT hargs;obtain ⟨e,fr',s1,h1,h',S',⟨A',β',k1,k2,k3⟩,he,vs,hr,S1,hsh,hkp⟩:=k A β _ s (z1c hargs (FrOk.start hN) (by omega)) hT;obtain ⟨ws,s2,r1,r2,r3,r4,r5⟩:=zu9 k1 k2 hr;rw [← r5] at r2;obtain ⟨A2,β2,q1,q2,q3⟩:=hsh A' β' s2 _ r3 (ydo r2);have hall:Stp A β s A2 β2 s2:=k3.trans hT.le (r4.trans k2.le q3);have hat:∀ b,b<Sf.n→bcut β2 Sf.n b=β2 b:=fun b hb=>if_pos hb
  have hsub:∀ b l,bcut β2 Sf.n b=some l→β2 b=some l:=fun b l h=>by
    unfold bcut at h;split at h
    · exact h
    · simp at h
  refine ⟨tupC ws,s2,A2,bcut β2 Sf.n,?_,q1.cut hkp,q2.ids hat hv,hall.can,hall.sub,hall.new,fun f hf=>?_,hall.keep,fun b l hb=>?_,hall.rd,hall.wr⟩
  · have hlen:=hargs.len;exact zob hax hf hb (by omega) ⟨e,fr',s1,by rw [hn];exact h1,he,ws,r1,rfl⟩
  · obtain ⟨b,hb⟩:=hf;exact hall.own f ⟨b,hb.imp (fun ⟨u,N,h⟩=>⟨u,N,hsub _ _ h⟩) fun h=>hsub _ _ h⟩
  · obtain ⟨l',c1,c2⟩:=hall.bx b l hb
    have:b<S.n:=by
      by_cases hh:b<S.n
      · exact hh
      · rw [hT.next b (by omega)] at hb;simp at hb
    exact ⟨l',by rw [hat b (by omega)];exact c1,c2⟩
theorem zsk.none (S:TS):zsk S ts0:=⟨Nat.zero_le _,fun b=>.inl rfl⟩
theorem Pure.enter {f:FuncId} {fn:Func} {body:Code} {args:List T} {v:T} (N:Nat) (hax:Γ.ax f=none) (hf:Γ.fn.at f=some fn) (hb:fn.body=some body) (hn:fn.ntmps=N) (hN:N≤512) (hl:args.length≤N) (ha:T.idsL 0 args=true) (hv:v.ids 0=true)
    (k:TW P Γ GL N body (argT args 0 fun _=>.junk) ts0 fun e h' S'=>(e=.normal∨e=.ret)∧resT Γ S' h' fn.results.toList=some [v]):Pure P Γ GL f args v :=
  ⟨ha,hv,Call.enter N hax hf hb hn hN hl (Nat.le_refl _) hv (k.mono fun e h' S' ⟨h1,h2⟩=>⟨h1,[v],h2,S',z1d.refl _ _,zsk.none S'⟩)⟩
theorem Pure.enterN {f:FuncId} {fn:Func} {body:Code} {args:List T} {vs:List T} (N:Nat) (hax:Γ.ax f=none) (hf:Γ.fn.at f=some fn) (hb:fn.body=some body) (hn:fn.ntmps=N) (hN:N≤512) (hl:args.length≤N) (ha:T.idsL 0 args=true) (hv:(tupT vs).ids 0=true)
    (k:TW P Γ GL N body (argT args 0 fun _=>.junk) ts0 fun e h' S'=>(e=.normal∨e=.ret)∧resT Γ S' h' fn.results.toList=some vs):Pure P Γ GL f args (tupT vs) :=
  ⟨ha,hv,Call.enter N hax hf hb hn hN hl (Nat.le_refl _) hv (k.mono fun e h' S' ⟨h1,h2⟩=>⟨h1,vs,h2,S',z1d.refl _ _,zsk.none S'⟩)⟩
theorem TRel.dead (hT:TRel GL A β S s) {b:Nat} {l0:Loc} (hb:β b=some l0) (A':Nat→Prop) (hA:∀ f,A f→A' f) (hA2:∀ f,A' f→A f∨l0.fam=some f) :
    TRel GL A' (bnew β b .dead) (S.set b .gone) s∧Stp A β s A' (bnew β b .dead) s:=by
  have hse:bnew β b .dead b=some .dead:=if_pos rfl;have hne:∀ b',b'≠b→bnew β b .dead b'=β b':=fun b' hb'=>if_neg hb'
  have hle:Bx.le β (bnew β b .dead):=fun i x hx=>by
    by_cases hi:i=b
    · subst hi;exact ⟨.dead,hse,by cases x<;>simp [Loc.le]⟩
    · exact ⟨x,by rw [hne i hi];exact hx,Loc.le_refl x⟩
  have hfam:∀ f,l0.fam=some f→Own β f:=fun f hf=>by
    cases l0 with
    |live f' u N=>simp [Loc.fam] at hf;subst hf;exact zch hb
    |map r=>simp [Loc.fam] at hf;subst hf;exact zfx hb
    |nil=>simp [Loc.fam] at hf
    |dead=>simp [Loc.fam] at hf
  have hown:∀ f,Own (bnew β b .dead) f→Own β f∧l0.fam≠some f:=fun f ⟨b',hb'⟩=>by
    by_cases hi:b'=b
    · subst hi;rw [hse] at hb';rcases hb' with ⟨u,N,hb'⟩|hb'<;>simp at hb'
    · rw [hne b' hi] at hb';refine ⟨⟨b',hb'⟩,fun hh=>hi ?_⟩;rcases hb' with ⟨u,N,hb'⟩|hb'
      · exact hT.inj b' b _ l0 f hb' hb rfl hh
      · exact hT.inj b' b _ l0 f hb' hb rfl hh
  have hblt:b<S.n:=by
    by_cases hh:b<S.n
    · exact hh
    · rw [hT.next b (by omega)] at hb;simp at hb
  refine ⟨⟨hT.inr,hT.inv,fun f hf=>?_,fun f hf=>?_,fun b1 b2 l1 l2 f h1 h2 h3 h4=>?_,fun b' hb'=>?_,fun b' z N l hb'=>?_,fun b' l hb'=>?_,fun x hx=>⟨hA _ (hT.glob x hx).1,(hT.glob x hx).2⟩⟩,
    Can.refl _,hA,fun f hf=>(hA2 f hf).imp id fun q=>.inr (hfam f q),fun f hf=>.inl (hown f hf).1,fun _ _ _=>rfl,hle,fun _ h=>.inl h,fun _ h=>.inl h⟩
  · rcases hA2 f hf with q|q
    · exact hT.alt f q
    · exact (hT.dis f (hfam f q)).1
  · obtain ⟨q1,q2⟩:=hown f hf;refine ⟨(hT.dis f q1).1,fun hh=>?_⟩;rcases hA2 f hh with q|q
    · exact (hT.dis f q1).2 q
    · exact q2 q
  · by_cases e1:b1=b
    · subst e1;rw [hse] at h1;cases h1;simp [Loc.fam] at h3
    · by_cases e2:b2=b
      · subst e2;rw [hse] at h2;cases h2;simp [Loc.fam] at h4
      · rw [hne b1 e1] at h1;rw [hne b2 e2] at h2;exact hT.inj b1 b2 l1 l2 f h1 h2 h3 h4
  · have:S.n≤b':=hb';rw [hne b' (by omega)];exact hT.next b' this
  · by_cases hi:b'=b
    · subst hi;rw [TS.set_same] at hb';simp at hb'
    · rw [TS.set_ne _ _ hi] at hb';exact (hT.cells b' z N l hb').mono hA (fun _ _=>rfl) hle (hne b' hi) fun _ _ _ _=>rfl
  · by_cases hi:b'=b
    · subst hi;rw [TS.set_same] at hb';simp at hb'
    · rw [TS.set_ne _ _ hi] at hb';exact (hT.maps b' l hb').mono hA (fun _ _=>rfl) hle (hne b' hi) fun _ _=>rfl
theorem TRel.freeze (hT:TRel GL A β S s) {b N:Nat} {z:Bool} {l:List T} (hS:S.box b=.cells z N l) :
    ∃ A' β',TRel GL A' β' (S.set b .gone) s∧Stp A β s A' β' s∧∀ {e off len cap:Nat} {v:Value} {L:List T},VT A β (zaa s.obj) (.arr b e off len cap N) v→0<e→off+len*e≤N→(l.drop off).take (len*e)=L.flatMap T.cells→(∀ t,t∈L→t.cells.length=e)→L.length=len→len≤cap→VT A' β' (zaa s.obj) (.lst e L) v:=by
  obtain ⟨hlN,hc⟩:=hT.cells b z N l hS;rcases hc with ⟨hb,hN,_⟩|⟨f,u,cs,rest,hb,hz,hat,hvl,hone⟩
  · obtain ⟨k1,k2⟩:=hT.dead hb A (fun _ h=>h) (fun _ h=>.inl h);refine ⟨_,_,k1,k2,fun {e off len cap v L} hv he hoff hL hs hlen hcap=>?_⟩;rcases zf0 hT hS hv with ⟨f,u,rfl,hb',_⟩|⟨rfl,_,rfl,rfl,rfl,_⟩
    · rw [hb] at hb';simp at hb'
    · have:L=[]:=List.eq_nil_of_length_eq_zero hlen;subst this;exact .lnil
  · obtain ⟨k1,k2⟩:=hT.dead hb (fun k=>A k∨k=f) (fun _ h=>.inl h) (fun k hk=>hk.imp id fun q=>by rw [q];rfl);refine ⟨_,_,k1,k2,fun {e off len cap v L} hv he hoff hL hs hlen hcap=>?_⟩;rcases zf0 hT hS hv with ⟨f',u',rfl,hb',htag⟩|⟨rfl,hb',_⟩
    · rw [hb] at hb';cases hb';have hcl:=hvl.len
      have hrow:zbx (zaa s.obj f).rows u=some cs:=by
        rw [hat];show zbx ((u,cs) :: rest) u=some cs;unfold zbx;rw [Nat.beq_refl];rfl
      have h1:VL A β (zaa s.obj) (L.flatMap T.cells) ((cs.drop off).take (len*e)):=by rw [← hL];exact (hvl.drop off).take _
      have h3:((cs.drop off).take (len*e)).length=len*e:=by rw [List.length_take,List.length_drop];omega
      have:=VT.lst (A:=fun k=>A k∨k=f) (β:=bnew β b .dead) (g:=zaa s.obj) (off:=off) (cap:=cap) (.inr rfl) hrow (h1.mono (fun _ h=>.inl h) (fun _ _=>rfl) k2.bx) hs he (by rw [h3]) htag (by omega);rw [hlen] at this;exact this
    · rw [hb] at hb';simp at hb'
theorem TW.freeze {c:Code} (t:Nat) {b e off len cap M:Nat} {z:Bool} {l:List T} (L:List T) (ht:h t=.arr b e off len cap M) (hS:S.box b=.cells z M l) (he:0<e) (hoff:off+len*e≤M) (hL:(l.drop off).take (len*e)=L.flatMap T.cells) (hs:∀ t,t∈L→t.cells.length=e) (hlen:L.length=len) (hcap:len≤cap)
    (k:TW P Γ GL N c (tupd h t (.lst e L)) (S.set b .gone) Q):TW P Γ GL N c h S Q:=by
  intro A β fr s hF hT;obtain ⟨A',β',k1,k2,k3⟩:=hT.freeze hS;have hv:=hF.slot t;rw [ht] at hv
  have hF':FrOk A' β' (zaa s.obj) N (tupd h t (.lst e L)) fr:=⟨hF.nt,hF.le,fun u=>by
    by_cases hu:u=t
    · subst hu;rw [zic];exact k3 hv he hoff hL hs hlen hcap
    · rw [zl6 _ _ _ _ hu];exact k2.vt hT (hF.slot u)⟩
  refine (k A' β' fr s hF' k1).mono ?_;rintro e2 fr2 s2 ⟨h2,S2,l2,q2⟩;exact ⟨h2,S2,Left.trans (h':=h) (fr':=fr) hT.le k2 l2,q2⟩
theorem TW.vec {c:Code} (t e:Nat) (ht:h t=.nils) (k:TW P Γ GL N c (tupd h t (.arr S.n e 0 0 0 0)) (S.add (.cells false 0 [])) Q):TW P Γ GL N c h S Q:=by
  intro A β fr s hF hT;have hv:=hF.slot t;rw [ht] at hv;have hb0:β S.n=none:=hT.next _ (Nat.le_refl _)
  have hle:Bx.le β (bnew β S.n .nil):=zr5 hb0;have hse:bnew β S.n .nil S.n=some .nil:=if_pos rfl;have hne:∀ b',b'≠S.n→bnew β S.n .nil b'=β b':=fun b' hb'=>if_neg hb'
  have hown:∀ f,Own (bnew β S.n .nil) f→Own β f:=fun f ⟨b',hb'⟩=>by
    by_cases hi:b'=S.n
    · subst hi;rw [hse] at hb';rcases hb' with ⟨u,N,hb'⟩|hb'<;>simp at hb'
    · rw [hne b' hi] at hb';exact ⟨b',hb'⟩
  have hst:Stp A β s A (bnew β S.n .nil) s:=⟨Can.refl _,fun _ h=>h,fun _ h=>.inl h,fun f hf=>.inl (hown f hf),fun _ _ _=>rfl,hle,fun _ h=>.inl h,fun _ h=>.inl h⟩
  have hT':TRel GL A (bnew β S.n .nil) (S.add (.cells false 0 [])) s:=by
    refine ⟨hT.inr,hT.inv,hT.alt,fun f hf=>hT.dis f (hown f hf),fun b1 b2 l1 l2 f h1 h2 h3 h4=>?_,fun b' hb'=>?_,fun b' z N l hb'=>?_,fun b' l hb'=>?_,hT.glob⟩
    · by_cases e1:b1=S.n
      · subst e1;rw [hse] at h1;cases h1;simp [Loc.fam] at h3
      · by_cases e2:b2=S.n
        · subst e2;rw [hse] at h2;cases h2;simp [Loc.fam] at h4
        · rw [hne b1 e1] at h1;rw [hne b2 e2] at h2;exact hT.inj b1 b2 l1 l2 f h1 h2 h3 h4
    · have:S.n+1≤b':=hb';rw [hne b' (by omega)];exact hT.next b' (by omega)
    · by_cases hi:b'=S.n
      · subst hi;rw [TS.add_same] at hb';cases hb';exact ⟨rfl,.inl ⟨hse,rfl,rfl⟩⟩
      · rw [TS.add_ne _ _ hi] at hb';exact (hT.cells b' z N l hb').mono (fun _ h=>h) (fun _ _=>rfl) hle (hne b' hi) fun _ _ _ _=>rfl
    · by_cases hi:b'=S.n
      · subst hi;rw [TS.add_same] at hb';cases hb'
      · rw [TS.add_ne _ _ hi] at hb';exact (hT.maps b' l hb').mono (fun _ h=>h) (fun _ _=>rfl) hle (hne b' hi) fun _ _=>rfl
  have hF':FrOk A (bnew β S.n .nil) (zaa s.obj) N (tupd h t (.arr S.n e 0 0 0 0)) fr:=⟨hF.nt,hF.le,fun u=>by
    by_cases hu:u=t
    · subst hu;rw [zic];generalize fr.get u=w at hv;cases hv;exact .arrNil hse
    · rw [zl6 _ _ _ _ hu];exact hst.vt hT (hF.slot u)⟩
  refine (k A _ fr s hF' hT').mono ?_;rintro e2 fr2 s2 ⟨h2,S2,l2,q2⟩;exact ⟨h2,S2,Left.trans (h':=h) (fr':=fr) hT.le hst l2,q2⟩
end
end
section
open Go Go.RowKit
def zht:Op→Bool
  |.move _=>true
  |.assign _=>true
  |.pick _ _ _=>true
  |.build _ _=>true
  |.nilCheck _=>true
  |.sliceToArrayPointer _ _=>true
  |.makeFunc _ _ _=>true
  |.slice _ _ _ _ _=>true
  |.fieldAddr _ _ _=>true
  |.field _ _ _=>true
  |.indexAddr _ _ _=>true
  |.index _ _ _=>true
  |.extract _ _=>true
  |.unOp _ _ _=>true
  |.binOp _ _ _ _ _=>true
  |_=>false
def zh2:Op→Bool
  |.alloc _=>true
  |.box _ _=>true
  |.buildSlice _ _ _=>true
  |.makeSlice _ _ _=>true
  |o=>zht o
section
variable {GL:List (Nat×List Value)} {A A' A0:Nat→Prop} {β β':Bx} {S S':TS} {s s' s2:CS} {P:Program} {Γ:Env} {N:Nat} {h h':Nat→T} {call:zdd} {ρ:Operand→Value} {o:Oper} {v:Value}
theorem zjb {r:Option Value} (hc:retC s r=some (v,s')):s'=s:=by
  unfold retC at hc;split at hc<;>first | (cases hc;rfl) | (simp at hc)
theorem zqz {r:Option Value} (hc:zfh P ρ o s r=some (v,s')):s'=s:=by
  unfold zfh at hc;split at hc
  · cases hc;rfl
  · exact zjb hc
theorem zzo {r:Option (List Value)} (hc:aggC s r=some (v,s')):s'=s:=by
  unfold aggC at hc;split at hc<;>first | (cases hc;rfl) | (simp at hc)
theorem zy2 {size:Nat} {ex:Bool} {a:Addr} {b:Option (Nat×Nat×Nat)} (hc:cutC s size ex a b=some (v,s')):s'=s:=by
  unfold cutC at hc;split at hc
  · rename_i l hh m
    cases hq:(Nat.beq (Addr.ver a % 1024) 0 || (!ex && Nat.beq (Addr.ver a % 1024) (size+1))) with
    |false=>rw [hq] at hc;simp at hc
    |true=>rw [hq] at hc;cases hc;rfl
  · simp at hc
theorem zr1 {d:TypeDesc} {a:Addr} {lo hi mx:Option Value} (hc:zl4 Γ s d a lo hi mx=some (v,s')):s'=s:=by
  unfold zl4 at hc;split at hc
  · split at hc
    · rw [zb4] at hc;split at hc
      · exact zy2 hc
      · simp at hc
    · simp at hc
  · simp at hc
theorem zxm {t:TypeId} {x:Value} {lo hi mx:Option Value} (hc:zc7 Γ s t x lo hi mx=some (v,s')):s'=s:=by
  unfold zc7 at hc;split at hc
  · split at hc
    · rename_i b;split at hc
      · cases hq:mx.isNone with
        |false=>rw [hq] at hc;simp at hc
        |true =>
          rw [hq,cond_true] at hc;unfold z35 at hc;split at hc<;>first | (cases hc;rfl) | (simp at hc)
      · simp at hc
    · split at hc
      · split at hc
        · split at hc
          · split at hc<;>first | (cases hc;rfl) | (simp at hc)
          · simp at hc
        · split at hc
          · exact zy2 hc
          · simp at hc
      · simp at hc
    · split at hc
      · split at hc
        · exact zr1 hc
        · simp at hc
      · exact zr1 hc
    · simp at hc
  · simp at hc
theorem zsx {size k n:Nat} {a:Addr} (hc:zo5 s size k n a=some (v,s')):s'=s:=by
  unfold zo5 at hc
  cases hq:Nat.blt k n with
  |false=>rw [hq] at hc;simp at hc
  |true=>rw [hq] at hc;cases hc;rfl
theorem ztl (hm:zht o.op=true) (hc:cop P Γ call ρ o s=some (v,s')):s'=s:=by
  obtain ⟨d,op,ty,pos,e,g⟩:=o;unfold cop at hc;simp only at hm hc
  cases op with
  |move x=>cases hc;rfl
  |assign x=>cases hc;rfl
  |pick c a b =>
    simp only at hc;unfold zos at hc
    split at hc<;>first | (cases hc;rfl) | (simp at hc)
  |build t parts =>
    simp only at hc;unfold zhs at hc;split at hc
    · split at hc
      · rename_i fs _;rw [zb4] at hc;split at hc
        · exact zzo hc
        · simp at hc
      · split at hc
        · exact zzo hc
        · simp at hc
      · simp at hc
    · simp at hc
  |nilCheck x =>
    simp only at hc;unfold zh7 at hc
    split at hc<;>first | (cases hc;rfl) | (simp at hc)
  |sliceToArrayPointer t x =>
    simp only at hc;unfold zsf at hc;split at hc
    · split at hc
      · split at hc
        · rw [Bool.cond_eq_ite] at hc;split at hc
          · cases hc;rfl
          · simp at hc
        · simp at hc
      · simp at hc
    · simp at hc
  |makeFunc fn a b=>cases hc;rfl
  |slice t x lo hi mx=>exact zxm hc
  |fieldAddr t x k =>
    simp only at hc;unfold zdy at hc;split at hc
    · split at hc
      · split at hc
        · split at hc
          · rename_i off size _
            cases hq:Nat.beq size 0 with
            |true=>rw [hq] at hc;simp at hc
            |false=>rw [hq] at hc;cases hc;rfl
          · simp at hc
        · simp at hc
      · simp at hc
    · simp at hc
  |field t x k =>
    simp only at hc;unfold zk0 at hc;split at hc
    · split at hc
      · split at hc
        · split at hc
          · split at hc
            · exact zjb hc
            · simp at hc
          · simp at hc
        · simp at hc
      · simp at hc
    · simp at hc
  |indexAddr t x k =>
    simp only at hc;unfold zbf at hc;split at hc
    · split at hc
      · split at hc
        · split at hc
          · exact zsx hc
          · simp at hc
        · simp at hc
      · split at hc
        · split at hc
          · exact zsx hc
          · simp at hc
        · simp at hc
      · simp at hc
    · simp at hc
  |index t x k =>
    simp only at hc;unfold zi2 at hc;split at hc
    · split at hc
      · split at hc
        · split at hc
          · rw [Bool.cond_eq_ite] at hc;split at hc
            · exact zjb hc
            · simp at hc
          · simp at hc
        · simp at hc
      · split at hc
        · split at hc<;>first | (cases hc;rfl) | (simp at hc)
        · simp at hc
      · simp at hc
    · simp at hc
  |extract x k =>
    simp only at hc;unfold zfp at hc;split at hc
    · exact zjb hc
    · simp at hc
  |unOp op t x=>exact zqz hc
  |binOp op t x y t2 =>
    simp only at hc;unfold zjd at hc;split at hc
    · cases hc;rfl
    · exact zqz hc
  |_=>simp [zht] at hm
theorem zli {tag:Nat} {cs:List Value} {a:Addr} (hc:s.newRow tag cs=some (a,s')):s'.rd=s.rd∧s'.wr=s.wr:=by
  unfold CS.newRow at hc;rw [zb4] at hc;split at hc
  · cases hc;exact ⟨rfl,rfl⟩
  · simp at hc
theorem z2h {r:Option (Addr×CS)} (hr:∀ a t,r=some (a,t)→t.rd=s.rd∧t.wr=s.wr) (hc:ptrC r=some (v,s')):s'.rd=s.rd∧s'.wr=s.wr:=by
  unfold ptrC at hc;split at hc
  · cases hc;exact hr _ _ rfl
  · simp at hc
theorem zs1 {l c:Nat} {r:Option (Addr×CS)} (hr:∀ a t,r=some (a,t)→t.rd=s.rd∧t.wr=s.wr) (hc:zgw l c r=some (v,s')):s'.rd=s.rd∧s'.wr=s.wr:=by
  unfold zgw at hc;split at hc
  · cases hc;exact hr _ _ rfl
  · simp at hc
theorem zz7 (hm:zh2 o.op=true) (hc:cop P Γ call ρ o s=some (v,s')):s'.rd=s.rd∧s'.wr=s.wr:=by
  by_cases hq:zht o.op=true
  · rw [ztl hq hc];exact ⟨rfl,rfl⟩
  obtain ⟨d,op,ty,pos,e,g⟩:=o;unfold cop at hc;simp only at hm hc hq
  cases op with
  |alloc e =>
    simp only at hc;unfold zi3 at hc;split at hc
    · exact z2h (fun a t h=>zli h) hc
    · simp at hc
  |box e x=>exact z2h (fun a t h=>zli h) hc
  |buildSlice t n parts =>
    simp only at hc;unfold zb5 at hc;split at hc
    · rename_i j _
      cases hb:(Nat.ble (n*j.size) 16777216 && Nat.blt 0 j.size) with
      |false=>rw [hb] at hc;simp at hc
      |true =>
        rw [hb,cond_true] at hc;split at hc
        · exact zs1 (fun a t h=>zli h) hc
        · simp at hc
    · simp at hc
  |makeSlice t l c =>
    simp only at hc;unfold zel at hc;split at hc
    · rename_i j l' c' _ _ _
      cases hb:(Nat.ble l' c' && Nat.ble (c'*(j.bytes+1)) 1000000000 && Nat.blt 0 j.size) with
      |false=>rw [hb] at hc;simp at hc
      |true =>
        rw [hb,cond_true] at hc;exact zs1 (fun a t h=>zli h) hc
    · simp at hc
  |_=>simp_all [zh2,zht]
def yko (o:Oper) (x:Lg):Prop:=(zht o.op=true→x.rd=[]∧x.wr=[]∧x.lo=x.hi)∧(zh2 o.op=true→x.rd=[]∧x.wr=[])
theorem zpw {ops:List Oper}:∀ {l:List Oper} {fr fr':Fr} {s s':CS} {L:List Lg},drawC P Γ call ops l fr s=some (L,fr',s')→L.length=l.length∧∀ (j:Nat) (o:Oper) (x:Lg),l[j]?=some o→L[j]?=some x→yko o x
  |[],fr,fr',s,s',L,hc=>by
    simp only [drawC,Option.some.injEq,Prod.mk.injEq] at hc;obtain ⟨rfl,_,_⟩:=hc;exact ⟨rfl,fun j o x hj=>by simp at hj⟩
  |o :: l,fr,fr',s,s',L,hc=>by
    simp only [drawC] at hc;split at hc
    · rename_i fr1 t h1;split at hc
      · rename_i logs fr2 s2 h2;cases hc;obtain ⟨i1,i2⟩:=zpw h2;refine ⟨by simp [i1],fun j o' x hj hx=>?_⟩
        cases j with
        |zero =>
          simp only [List.getElem?_cons_zero,Option.some.injEq] at hj hx;subst hj;subst hx;unfold zcc at h1
          cases hw:zc4 ops fr o with
          |false =>
            rw [hw] at h1;simp only [cond_false,Option.some.injEq,Prod.mk.injEq] at h1;rw [← h1.2];exact ⟨fun _=>⟨rfl,rfl,rfl⟩,fun _=>⟨rfl,rfl⟩⟩
          |true =>
            rw [hw,cond_true] at h1;split at h1
            · rename_i v s1 hcop;cases h1;refine ⟨fun hm=>?_,fun hm=>?_⟩
              · rw [ztl hm hcop];exact ⟨rfl,rfl,rfl⟩
              · exact zz7 hm hcop
            · simp at h1
        |succ j=>exact i2 j o' x (by simpa using hj) (by simpa using hx)
      · simp at hc
    · simp at hc
theorem zit {ops:List Oper}:∀ {l m:List Oper} {fr fr1 fr2:Fr} {s s1 s2:CS} {L M:List Lg},drawC P Γ call ops l fr s=some (L,fr1,s1)→drawC P Γ call ops m fr1 s1=some (M,fr2,s2)→drawC P Γ call ops (l++m) fr s=some (L++M,fr2,s2)
  |[],m,fr,fr1,fr2,s,s1,s2,L,M,h1,h2=>by
    simp only [drawC,Option.some.injEq,Prod.mk.injEq] at h1;obtain ⟨rfl,rfl,rfl⟩:=h1;exact h2
  |o :: l,m,fr,fr1,fr2,s,s1,s2,L,M,h1,h2=>by
    simp only [drawC] at h1;simp only [List.cons_append,drawC];split at h1
    · rename_i fra t ha;split at h1
      · rename_i logs frb sb hb;cases h1;rw [zit hb h2];rfl
      · simp at h1
    · simp at h1
theorem zul {m:Nat} {y:Lg}:∀ {done:List Lg} {i:Nat},(∀ j x,done[j]?=some x→Nat.testBit m (i+j)=true∨clash x y=false)→zg7 clash m y done i=true
  |[],_,_=>rfl
  |x :: l,i,h=>by
    have h0:Nat.testBit m i=true∨clash x y=false:=h 0 x rfl
    have ih:zg7 clash m y l (i+1)=true:=zul fun j z hz=>by
      have:=h (j+1) z (by simpa using hz);rw [show i+1+j=i+(j+1) by omega];exact this
    rcases h0 with h0|h0
    · rw [zr3 h0];exact ih
    · rw [zuk h0];exact ih
theorem zlr {ms:List Nat}:∀ {l done:List Lg},(∀ i j x y,i<j→done.length≤j→(done++l)[i]?=some x→(done++l)[j]?=some y→Nat.testBit (nth 0 ms j) i=true∨clash x y=false)→zfk clash done l ms=true
  |[],_,_=>rfl
  |y :: l,done,h=>by
    rw [zk8,Bool.and_eq_true];refine ⟨zul fun j x hx=>?_,zlr fun i j x z hij hd hx hz=>?_⟩
    · rw [Nat.zero_add];have hj:=(List.getElem?_eq_some_iff.1 hx).1;exact h j done.length x y hj (Nat.le_refl _) (by rw [List.getElem?_append_left hj];exact hx) (by simp)
    · rw [List.append_assoc] at hx hz;rw [List.length_append,List.length_singleton] at hd;exact h i j x z hij (by omega) hx hz
theorem zq7 {ρ1 ρ2:Operand→T} {l:List Operand} (hρ:∀ x,x∈l→ρ1 x=ρ2 x):l.map ρ1=l.map ρ2:=List.map_congr_left hρ
theorem znz {ρ1 ρ2:Operand→T} {l:Option Operand} (hρ:∀ x,l=some x→ρ1 x=ρ2 x):l.map ρ1=l.map ρ2:=by
  cases l with
  |none=>rfl
  |some x=>simp only [Option.map_some,hρ x rfl]
theorem zor {place:Nat→Option (Nat×Nat)} {ρ1 ρ2:Operand→T}:∀ {l:List (Nat×Operand)},(∀ p,p∈l→ρ1 p.2=ρ2 p.2)→zda place ρ1 l=zda place ρ2 l
  |[],_=>rfl
  |(k,x) :: l,hρ=>by
    unfold zda;rw [zor fun p hp=>hρ p (by simp [hp]),hρ (k,x) (by simp)]
theorem zoz {e:Nat} {ρ1 ρ2:Operand→T}:∀ {l:List (Nat×Operand)} {i:Nat},(∀ p,p∈l→ρ1 p.2=ρ2 p.2)→zee e ρ1 i l=zee e ρ2 i l
  |[],_,_=>rfl
  |(k,x) :: l,i,hρ=>by
    unfold zee;rw [zoz fun p hp=>hρ p (by simp [hp]),hρ (k,x) (by simp)]
theorem zzy {ρ1 ρ2:Operand→T} (hρ:∀ x,x∈o.op.operands.toList→ρ1 x=ρ2 x):zer P Γ ρ1 o S=zer P Γ ρ2 o S:=by
  obtain ⟨d,op,ty,pos,e,g⟩:=o;simp only at hρ;unfold zer
  cases op with
  |move x=>simp only [hρ x (by simp [Op.operands])]
  |assign x=>simp only [hρ x (by simp [Op.operands])]
  |pick c a b=>simp only [hρ c (by simp [Op.operands]),hρ a (by simp [Op.operands]),hρ b (by simp [Op.operands])]
  |build t parts =>
    have hp:∀ p,p∈parts.toList→ρ1 p.2=ρ2 p.2:=fun p hp=>hρ p.2 (by simp [Op.operands];exact ⟨p.1,by simpa using hp⟩)
    simp only [zkh,zor hp]
  |buildSlice t n parts =>
    have hp:∀ p,p∈parts.toList→ρ1 p.2=ρ2 p.2:=fun p hp=>hρ p.2 (by simp [Op.operands];exact ⟨p.1,by simpa using hp⟩)
    simp only [zan,zoz hp]
  |load t x=>simp only [hρ x (by simp [Op.operands])]
  |nilCheck x=>simp only [hρ x (by simp [Op.operands])]
  |sliceToArrayPointer t x=>simp only [hρ x (by simp [Op.operands])]
  |makeFunc fn first captured =>
    have h1:first.toList.map ρ1=first.toList.map ρ2:=zq7 fun x hx=>hρ x (by simp [Op.operands];left;simpa using hx)
    have h2:captured.toList.map ρ1=captured.toList.map ρ2:=zq7 fun x hx=>hρ x (by simp [Op.operands];right;simpa using hx)
    simp only [h1,h2]
  |slice t x lo hi mx =>
    have h1:lo.map ρ1=lo.map ρ2:=znz fun y hy=>hρ y (by simp [Op.operands,hy]);have h2:hi.map ρ1=hi.map ρ2:=znz fun y hy=>hρ y (by simp [Op.operands,hy]);have h3:mx.map ρ1=mx.map ρ2:=znz fun y hy=>hρ y (by simp [Op.operands,hy])
    simp only [hρ x (by simp [Op.operands]),h1,h2,h3]
  |fieldAddr t x k=>simp only [hρ x (by simp [Op.operands])]
  |field t x k=>simp only [hρ x (by simp [Op.operands])]
  |indexAddr t x ix=>simp only [hρ x (by simp [Op.operands]),hρ ix (by simp [Op.operands])]
  |index t x ix=>simp only [hρ x (by simp [Op.operands]),hρ ix (by simp [Op.operands])]
  |extract x k=>simp only [hρ x (by simp [Op.operands])]
  |unOp op t x=>simp only [hρ x (by simp [Op.operands])]
  |convert src dst x=>simp only [hρ x (by simp [Op.operands])]
  |binOp op t x y t2=>simp only [hρ x (by simp [Op.operands]),hρ y (by simp [Op.operands])]
  |lookup t x k ok=>simp only [hρ x (by simp [Op.operands]),hρ k (by simp [Op.operands])]
  |call c =>
    obtain ⟨cal,args,tys⟩:=c
    cases cal with
    |builtin b =>
      have ha:∀ x,x∈args.toList→ρ1 x=ρ2 x:=fun x hx=>hρ x (by simp [Op.operands,Call.operands];simpa using hx);simp only;unfold zkf
      cases b with
      |len =>
        simp only;split
        · rename_i x t e1 e2;rw [ha x (by rw [e1];simp)]
        · rfl
      |min =>
        simp only;split
        · rename_i x y e1;rw [ha x (by rw [e1];simp),ha y (by rw [e1];simp)]
        · rfl
      |max =>
        simp only;split
        · rename_i x y e1;rw [ha x (by rw [e1];simp),ha y (by rw [e1];simp)]
        · rfl
      |_=>rfl
    |_=>rfl
  |_=>rfl
end
end
section
open Go Go.RowKit
noncomputable def z1a (P:Program) (Γ:Env) (GL:List (Nat×List Value)) (S:TS) (args:List T) (f:T) (r:T):Option Prop:=match f with
  |.fn k first cap=>some (zau P Γ GL k (first++args++cap) S r)
  |_=>none
noncomputable def andP (p:Prop):Option (Prop×(Nat→T))→Option (Prop×(Nat→T))
  |some (q,h)=>some (p∧q,h)
  |none=>none
noncomputable def runP (P:Program) (Γ:Env) (GL:List (Nat×List Value)) (ops:List Oper):List Oper→(Nat→T)→TS→List T→Option (Prop×(Nat→T))
  |[],h,_,_=>some (True,h)
  |o :: l,h,S,outs=>match zhp ops h o.guard with
    |none=>none
    |some false=>runP P Γ GL ops l (putT h o.dst (.tup [])) S outs
    |some true=>match o.op with
      |.call ⟨.value f,args,tys⟩=>(match outs with
        |r :: outs=>(match z1a P Γ GL S (args.toList.map (zd1 GL h)) (zd1 GL h f) r with
          |some p=>andP p (runP P Γ GL ops l (putT h o.dst r) S outs)
          |none=>none)
        |[]=>none)
      |_=>(match zer P Γ (zd1 GL h) o S with
        |some t=>runP P Γ GL ops l (putT h o.dst t) S outs
        |none=>none)
noncomputable def yfz (ops:List Oper) (x y:Oper):Bool:=match x.dst with|some d=>has (zet ops y) d|none=>false
noncomputable def zss:Nat→List Oper→List (Bool×Oper)
  |_,[]=>[]
  |0,o :: l=>(true,o) :: zss 0 l
  |k+1,o :: l=>(false,o) :: zss k l
noncomputable def z8m (x y:Bool×Oper):Bool:=y.1 && !(zht x.2.op || zh2 y.2.op)
noncomputable def zpe (m:Nat):List Nat→Nat→Bool
  |[],_=>true
  |x :: l,i=>(!Nat.testBit m i || Nat.beq (Nat.land x m) x) && zpe m l (i+1)
noncomputable def zim (k:Nat) (ops:List Oper):Bool :=
  zfk (yfz ops) [] ops (zc9 ops []) && (zfk z8m [] (zss k ops) (zc9 ops []) && (zc9 ops []).all fun m=>zpe m (zc9 ops []) 0)
theorem zp7 {m:Nat}:∀ {l:List Nat} {i:Nat},zpe m l i=true→∀ j,j<l.length→Nat.testBit m (i+j)=true→∀ b,Nat.testBit (nth 0 l j) b=true→Nat.testBit m b=true
  |[],_,_,j,hj,_,_,_=>by simp at hj
  |x :: l,i,h,j,hj,ht,b,hb=>by
    simp only [zpe,Bool.and_eq_true] at h
    cases j with
    |zero =>
      have h1:=h.1;rw [show Nat.testBit m i=true from ht] at h1;simp only [Bool.not_true,Bool.false_or] at h1;have h2:x &&& m=x:=Nat.eq_of_beq_eq_true h1;have h3:Nat.testBit x b=true:=hb;rw [← h2,Nat.testBit_and,Bool.and_eq_true] at h3;exact h3.2
    |succ j=>exact zp7 h.2 j (by simpa using hj) (by rw [show i+1+j=i+(j+1) by omega];exact ht) b hb
theorem zx0:∀ (l:List Oper) (ms:List Nat),(zc9 l ms).length=ms.length+l.length
  |[],ms=>by simp [zc9]
  |o :: l,ms=>by
    simp only [zc9];rw [zx0 l];simp only [List.length_append,List.length_cons,List.length_nil];omega
theorem zle:∀ {k:Nat} {ops:List Oper} {i:Nat} {o:Oper},ops[i]?=some o→(zss k ops)[i]?=some (decide (k≤i),o)
  |_,[],i,o,h=>by simp at h
  |0,x :: l,i,o,h=>by
    cases i with
    |zero=>simp only [List.getElem?_cons_zero,Option.some.injEq] at h;subst h;rfl
    |succ i =>
      have:=zle (k:=0) (ops:=l) (i:=i) (by simpa using h)
      simpa [zss] using this
  |k+1,x :: l,i,o,h=>by
    cases i with
    |zero=>simp only [List.getElem?_cons_zero,Option.some.injEq] at h;subst h;rfl
    |succ i =>
      have:=zle (k:=k) (ops:=l) (i:=i) (by simpa using h);simpa [zss] using this
section
variable {GL:List (Nat×List Value)} {A A' A0:Nat→Prop} {β β':Bx} {S S':TS} {s s0 s' s2:CS} {P:Program} {Γ:Env} {N:Nat} {h h':Nat→T}
theorem z5k {k:Nat} {ops:List Oper} (hd:zim k ops=true) {i j:Nat} {x y:Oper} (hij:i<j) (hx:ops[i]?=some x) (hy:ops[j]?=some y) {d:Nat} (hxd:x.dst=some d) (hdy:d∈zet ops y):Nat.testBit (nth 0 (zc9 ops []) j) i=true:=by
  unfold zim at hd;simp only [Bool.and_eq_true] at hd;rcases zfb hd.1 i j x y hij (Nat.zero_le _) (by simpa using hx) (by simpa using hy) with q|q
  · exact q
  · unfold yfz at q;rw [hxd] at q;simp only at q;rw [zq5 hdy] at q;simp at q
theorem z0z {k:Nat} {ops:List Oper} (hd:zim k ops=true) {i j:Nat} {x y:Oper} (hij:i<j) (hkj:k≤j) (hx:ops[i]?=some x) (hy:ops[j]?=some y):Nat.testBit (nth 0 (zc9 ops []) j) i=true∨zht x.op=true∨zh2 y.op=true:=by
  unfold zim at hd;simp only [Bool.and_eq_true] at hd;rcases zfb hd.2.1 i j _ _ hij (Nat.zero_le _) (by simpa using zle hx) (by simpa using zle hy) with q|q
  · exact .inl q
  · unfold z8m at q;rw [decide_eq_true hkj] at q;simp only [Bool.true_and,Bool.not_eq_false',Bool.or_eq_true] at q;exact .inr q
theorem zyx {k:Nat} {ops:List Oper} (hd:zim k ops=true) {j i b:Nat} (hj:j<ops.length) (hi:i<ops.length) (h1:Nat.testBit (nth 0 (zc9 ops []) j) i=true) (h2:Nat.testBit (nth 0 (zc9 ops []) i) b=true):Nat.testBit (nth 0 (zc9 ops []) j) b=true:=by
  unfold zim at hd;simp only [Bool.and_eq_true] at hd;have hl:=zx0 ops [];simp only [List.length_nil,Nat.zero_add] at hl
  have hm:nth 0 (zc9 ops []) j∈zc9 ops []:=by
    have key:∀ (l:List Nat) (j:Nat),j<l.length→nth 0 l j∈l:=by
      intro l
      induction l with
      |nil=>intro j hj;simp at hj
      |cons x l ih =>
        intro j hj
        cases j with
        |zero=>exact List.mem_cons_self
        |succ j=>exact List.mem_cons_of_mem _ (ih j (by simpa using hj))
    exact key _ j (by omega)
  have:=List.all_eq_true.1 hd.2.2 _ hm;exact zp7 this i (by omega) (by rw [Nat.zero_add];exact h1) b h2
def SupL (A0:Nat→Prop) (L:List Lg) (D:Nat) (f:Nat):Prop:=A0 f∨∃ (m:Nat) (x:Lg),Nat.testBit D m=true∧L[m]?=some x∧x.lo≤f∧f<x.hi
theorem SupL.more {L M:List Lg} {D E:Nat} (hD:∀ m,m<L.length→Nat.testBit D m=true→Nat.testBit E m=true) {f:Nat} (k:SupL A0 L D f):SupL A0 (L++M) E f:=by
  rcases k with k|⟨m,x,h1,h2,h3⟩
  · exact .inl k
  · have hm:=(List.getElem?_eq_some_iff.1 h2).1;exact .inr ⟨m,x,hD m hm h1,by rw [List.getElem?_append_left hm];exact h2,h3⟩
theorem SupL.sub {L:List Lg} {D E:Nat} (hD:∀ m,m<L.length→Nat.testBit D m=true→Nat.testBit E m=true) {f:Nat} (k:SupL A0 L D f):SupL A0 L E f:=by
  have:=SupL.more (M:=[]) hD k;simpa using this
structure znp (GL:List (Nat×List Value)) (ops:List Oper) (A0:Nat→Prop) (β:Bx) (S:TS) (s0:CS) (N:Nat) (L:List Lg) (h:Nat→T) (fr:Fr) (s:CS):Prop where
  nt:fr.nt=N
  le:N≤512
  rel:TRel GL A0 β S s
  slot:∀ t,∃ D,VT (SupL A0 L D) β (zaa s.obj) (h t) (fr.get t)∧∀ (j:Nat) (o:Oper),L.length≤j→ops[j]?=some o→t∈zet ops o→∀ m,m<L.length→Nat.testBit D m=true→Nat.testBit (nth 0 (zc9 ops []) j) m=true
  log:∀ (k:Nat) (x:Lg),L[k]?=some x→s0.n≤x.lo∧x.lo≤x.hi∧x.hi≤s.n∧x.wr=[]∧∀ f,f∈x.rd→f<x.lo∧(SupL A0 L (nth 0 (zc9 ops []) k) f∨Own β f)
  apart:∀ (k m:Nat) (x y:Lg),k<m→L[k]?=some x→L[m]?=some y→x.hi≤y.lo
  own:∀ f,Own β f→f<s0.n
  base:∀ f,A0 f→f<s0.n
  calm:zi4 A0 β s0 A0 s
  lim:s0.lim≤s0.n
theorem TRel.more (hT:TRel GL A β S s) (A1:Nat→Prop) (h1:∀ f,A f→A1 f) (h2:∀ f,A1 f→f<s.n) (h3:∀ f,A1 f→¬ Own β f):TRel GL A1 β S s :=
  ⟨hT.inr,hT.inv,h2,fun f hf=>⟨(hT.dis f hf).1,fun hh=>h3 f hh hf⟩,hT.inj,hT.next,fun b z N l hb=>(hT.cells b z N l hb).mono h1 (fun _ _=>rfl) (Bx.le_refl _) rfl fun _ _ _ _=>rfl,
    fun b l hb=>(hT.maps b l hb).mono h1 (fun _ _=>rfl) (Bx.le_refl _) rfl fun _ _=>rfl,fun x hx=>⟨h1 _ (hT.glob x hx).1,(hT.glob x hx).2⟩⟩
theorem TRel.inner (hT:TRel GL A β S s):TRel GL A β S s.inner:=⟨hT.inr,⟨hT.inv.none,hT.inv.vers,Nat.le_refl _⟩,hT.alt,hT.dis,hT.inj,hT.next,hT.cells,hT.maps,hT.glob⟩
theorem TRel.outer (hT:TRel GL A β S s') (hl:s.lim≤s'.n):TRel GL A β S (s.outer s'):=⟨hT.inr,⟨hT.inv.none,hT.inv.vers,hl⟩,hT.alt,hT.dis,hT.inj,hT.next,hT.cells,hT.maps,hT.glob⟩
theorem zi4.trans (hl:s.lim≤s.n) (k1:zi4 A β s A s') (k2:zi4 A β s' A s2):zi4 A β s A s2:=by
  refine ⟨k1.can.trans k2.can,fun _ h=>h,fun _ h=>.inl h,fun f hf=>?_,fun x hx=>?_,fun x hx=>k1.wr x (k2.wr x hx)⟩
  · rw [k2.keep f (Nat.lt_of_lt_of_le hf k1.can.n)];exact k1.keep f hf
  · rcases k2.rd x hx with q|⟨q,q2⟩
    · exact k1.rd x q
    · rw [k1.can.lim] at q;exact .inr ⟨q,q2⟩
theorem znp.next {k0:Nat} {ops:List Oper} (hd:zim k0 ops=true) {L:List Lg} {fr:Fr} {o:Oper} (I:znp GL ops A0 β S s0 N L h fr s) (ho:ops[L.length]?=some o) (hdst:∀ t,o.dst=some t→t<N) {t:T} {v:Value} {s1:CS}
    (k1:TRel GL A' β S s1) (k2:VT A' β (zaa s1.obj) t v) (k3:zi4 (SupL A0 L (nth 0 (zc9 ops []) L.length)) β s.inner A' s1) :
    znp GL ops A0 β S s0 N (L++[⟨s1.rd,s1.wr,s.n,s1.n⟩]) (putT h o.dst t) (putC fr o.dst v) (s.outer s1):=by
  have hsn:s.n≤s1.n:=k3.can.n;have hln:L.length<ops.length:=(List.getElem?_eq_some_iff.1 ho).1;have h0n:s0.n≤s.n:=I.calm.can.n
  have hsup:∀ f D,SupL A0 L D f→f<s.n:=fun f D hf=>by
    rcases hf with q|⟨m,x,_,q2,_,q4⟩
    · have:=I.base f q;omega
    · have:=(I.log m x q2).2.2.1;omega
  have hA':∀ f,A' f→SupL A0 (L++[⟨s1.rd,s1.wr,s.n,s1.n⟩]) (nth 0 (zc9 ops []) L.length ||| 2 ^ L.length) f:=fun f hf=>by
    rcases k3.new f hf with q|q
    · refine SupL.more (fun m hm hb=>?_) q;rw [Nat.testBit_or,hb];rfl
    · refine .inr ⟨L.length,⟨s1.rd,s1.wr,s.n,s1.n⟩,?_,by simp,q,k1.alt f hf⟩;rw [Nat.testBit_or,Nat.testBit_two_pow_self];simp
  have hobj:∀ f,f<s.n→zaa s1.obj f=zaa s.obj f:=fun f hf=>k3.keep f hf
  have hwr:s1.wr=[]:=by
    rw [List.eq_nil_iff_forall_not_mem];intro x hx;have:=k3.wr x hx;simp [CS.inner] at this
  have hcal:zi4 A0 β s A0 (s.outer s1):=by
    refine ⟨zky I.rel.inv k3.can,fun _ h=>h,fun _ h=>.inl h,hobj,fun x hx=>?_,fun x hx=>?_⟩
    · rcases zll (l:=s1.rd) rfl x hx with q|⟨q,q2⟩
      · exact .inl q
      · refine .inr ⟨q2,?_⟩;have hxn:x<s0.n:=by have h1:=I.calm.can.lim;have h2:=I.lim;rw [h1] at q2;omega
        rcases k3.rd x q with q3|⟨_,q3⟩
        · simp [CS.inner] at q3
        · rcases q3 with (q3|⟨m,y,_,q5,q6,_⟩)|q3
          · exact .inl q3
          · have:=(I.log m y q5).1;omega
          · exact .inr q3
    · rcases zll (l:=s1.wr) rfl x hx with q|⟨q,_⟩
      · exact q
      · rw [hwr] at q;simp at q
  have hrel:TRel GL A0 β S (s.outer s1):=hcal.rel I.rel k1.inr ⟨k1.inv.none,k1.inv.vers,by have:=I.rel.inv.lim;show s.lim≤s1.n;omega⟩ fun f hf=>by have:=I.rel.alt f hf;show f<s1.n;omega
  refine ⟨?_,I.le,hrel,fun t'=>?_,fun k x hx=>?_,fun k m x y hkm hx hy=>?_,I.own,I.base,?_,I.lim⟩
  · cases hd2:o.dst with
    |none=>exact I.nt
    |some d =>
      show (fr.put d v).nt=N;unfold Fr.put;rw [zb4];split<;>exact I.nt
  · by_cases ht':o.dst=some t'
    · rw [ht'];refine ⟨nth 0 (zc9 ops []) L.length ||| 2 ^ L.length,?_,fun j o' hj ho' hn m hm hb=>?_⟩
      · show VT _ _ _ (tupd h t' t t') ((fr.put t' v).get t');rw [zic,Fr.get_put_same v (by rw [I.nt];exact hdst _ ht') (by rw [I.nt];exact I.le)];exact k2.mono hA' (fun _ _=>rfl) (Bx.le_refl _)
      · rw [List.length_append,List.length_singleton] at hj hm;have hdep:=z5k hd (show L.length<j by omega) ho ho' ht' hn;rw [Nat.testBit_or,Bool.or_eq_true] at hb;rcases hb with hb|hb
        · exact zyx hd (List.getElem?_eq_some_iff.1 ho').1 hln hdep hb
        · rw [Nat.testBit_two_pow] at hb;have:L.length=m:=by simpa using hb
          rw [← this];exact hdep
    · obtain ⟨D,d1,d2⟩:=I.slot t';refine ⟨D &&& (2 ^ L.length - 1),?_,fun j o' hj ho' hn m hm hb=>?_⟩
      · have e1:putT h o.dst t t'=h t':=by
          cases hd2:o.dst with
          |none=>rfl
          |some d=>exact zl6 _ _ _ _ fun hh=>ht' (by rw [hd2,hh])
        have e2:(putC fr o.dst v).get t'=fr.get t':=by
          cases hd2:o.dst with
          |none=>rfl
          |some d=>exact Fr.get_put_other v (by rw [I.nt];exact I.le) fun hh=>ht' (by rw [hd2,hh])
        rw [e1,e2];refine d1.mono (fun f hf=>SupL.more (fun m hm hb=>?_) hf) (fun f hf=>hobj f (hsup f D hf)) (Bx.le_refl _);rw [Nat.testBit_and,hb,Nat.testBit_two_pow_sub_one];simp [hm]
      · rw [List.length_append,List.length_singleton] at hj;rw [Nat.testBit_and,Bool.and_eq_true,Nat.testBit_two_pow_sub_one] at hb;exact d2 j o' (by omega) ho' hn m (of_decide_eq_true hb.2) hb.1
  · by_cases hk:k<L.length
    · rw [List.getElem?_append_left hk] at hx;obtain ⟨l1,l2,l3,l4,l5⟩:=I.log k x hx;exact ⟨l1,l2,by show x.hi≤s1.n;omega,l4,fun f hf=>⟨(l5 f hf).1,(l5 f hf).2.imp (fun q=>SupL.more (fun _ _ hb=>hb) q) id⟩⟩
    · have hk2:k=L.length:=by
        have:=(List.getElem?_eq_some_iff.1 hx).1;rw [List.length_append,List.length_singleton] at this;omega
      subst hk2;simp only [List.getElem?_append_right (Nat.le_refl _),Nat.sub_self,List.getElem?_cons_zero,Option.some.injEq] at hx;subst hx;refine ⟨h0n,hsn,Nat.le_refl _,hwr,fun f hf=>?_⟩;rcases k3.rd f hf with q|⟨q,q2⟩
      · simp [CS.inner] at q
      · exact ⟨q,q2.imp (fun q3=>SupL.more (fun _ _ hb=>hb) q3) id⟩
  · by_cases hm:m<L.length
    · rw [List.getElem?_append_left (by omega)] at hx;rw [List.getElem?_append_left hm] at hy;exact I.apart k m x y hkm hx hy
    · have hm2:m=L.length:=by
        have:=(List.getElem?_eq_some_iff.1 hy).1;rw [List.length_append,List.length_singleton] at this;omega
      subst hm2;rw [List.getElem?_append_left hkm] at hx;simp only [List.getElem?_append_right (Nat.le_refl _),Nat.sub_self,List.getElem?_cons_zero,Option.some.injEq] at hy;subst hy;exact (I.log k x hx).2.2.1
  · exact I.calm.trans I.lim hcal
theorem zvl {ops:List Oper} {o:Oper} {x:Nat} (hx:Operand.tmp x∈o.op.operands.toList):x∈zet ops o:=by
  unfold zet;refine List.mem_append.2 (.inl ?_);rw [List.mem_filterMap];exact ⟨.tmp x,hx,rfl⟩
theorem z0d {ops:List Oper} {o:Oper} {j d:Nat} {w:Bool} (hg:o.guard=some (j,w)) (hd:zme ops j=some d):d∈zet ops o:=by
  unfold zet;refine List.mem_append.2 (.inr ?_);rw [hg];simp only [hd];exact List.mem_singleton.2 rfl
theorem z2k (hE:zc3 P Γ) {k0:Nat} {ops:List Oper} (hd:zim k0 ops=true):∀ {l:List Oper} {L:List Lg} {h h':Nat→T} {fr:Fr} {s:CS} {outs:List T} {ob:Prop},znp GL ops A0 β S s0 N L h fr s→(∀ (j:Nat) (o:Oper),l[j]?=some o→ops[L.length+j]?=some o)→zfj N l=true→runP P Γ GL ops l h S outs=some (ob,h')→ob →
    ∃ M fr' s',drawC P Γ (zd9 P Γ) ops l fr s=some (M,fr',s')∧znp GL ops A0 β S s0 N (L++M) h' fr' s'∧M.length=l.length
  |[],L,h,h',fr,s,outs,ob,I,hl,hdo,hr,hob=>by
    simp only [runP,Option.some.injEq,Prod.mk.injEq] at hr;obtain ⟨rfl,rfl⟩:=hr;exact ⟨[],fr,s,rfl,by rw [List.append_nil];exact I,rfl⟩
  |o :: l,L,h,h',fr,s,outs,ob,I,hl,hdo,hr,hob=>by
    have hd':zfj N l=true∧∀ t,o.dst=some t→t<N:=by
      unfold zfj at hdo ⊢;rw [List.all_cons,Bool.and_eq_true] at hdo;refine ⟨hdo.2,fun t ht=>?_⟩;have:=hdo.1;rw [ht] at this;exact zac.1 this
    have ho:ops[L.length]?=some o:=by have:=hl 0 o rfl;simpa using this
    -- what the operation may lean on
    have hrel:TRel GL (SupL A0 L (nth 0 (zc9 ops []) L.length)) β S s.inner:=by
      refine TRel.inner (I.rel.more _ (fun f hf=>.inl hf) (fun f hf=>?_) (fun f hf ho=>?_))
      · rcases hf with q|⟨m,x,_,q2,_,q4⟩
        · exact I.rel.alt f q
        · have:=(I.log m x q2).2.2.1;omega
      · rcases hf with q|⟨m,x,_,q2,q3,q4⟩
        · exact (I.rel.dis f ho).2 q
        · have:=(I.log m x q2).1;have:=I.own f ho;omega
    -- the slots that it names
    let ho':Nat→T:=fun t=>if t∈zet ops o then h t else .junk
    have hin:∀ t,t∈zet ops o→ho' t=h t:=fun t ht=>if_pos ht
    have hF:FrOk (SupL A0 L (nth 0 (zc9 ops []) L.length)) β (zaa s.inner.obj) N ho' fr:=⟨I.nt,I.le,fun t=>by
      by_cases ht:t∈zet ops o
      · rw [hin t ht];obtain ⟨D,d1,d2⟩:=I.slot t;exact d1.mono (fun f hf=>SupL.sub (fun m hm hb=>d2 L.length o (Nat.le_refl _) ho ht m hm hb) hf) (fun _ _=>rfl) (Bx.le_refl _)
      · rw [show ho' t=.junk from if_neg ht]
        exact .junk _⟩
    have hev:∀ x,x∈o.op.operands.toList→zd1 GL ho' x=zd1 GL h x:=fun x hx=>by
      cases x with
      |tmp t=>exact hin t (zvl hx)
      |_=>rfl
    have hgd:zhp ops ho' o.guard=zhp ops h o.guard:=by
      cases hg:o.guard with
      |none=>rfl
      |some p =>
        obtain ⟨j,w⟩:=p;unfold zhp;simp only
        cases hdd:zme ops j with
        |none=>rfl
        |some d=>simp only [hin d (z0d hg hdd)]
    -- the rest behind a step that is done
    have go:∀ {t:T} {v:Value} {s1:CS} {A':Nat→Prop} {outs':List T} {ob':Prop},TRel GL A' β S s1→VT A' β (zaa s1.obj) t v→zi4 (SupL A0 L (nth 0 (zc9 ops []) L.length)) β s.inner A' s1→zcc P Γ (zd9 P Γ) ops o fr s.inner=some (putC fr o.dst v,s1)→runP P Γ GL ops l (putT h o.dst t) S outs'=some (ob',h')→ob'→∃ M fr' s',drawC P Γ (zd9 P Γ) ops (o :: l) fr s=some (M,fr',s')∧znp GL ops A0 β S s0 N (L++M) h' fr' s'∧M.length=(o :: l).length:=by
      intro t v s1 A' outs' ob' k1 k2 k3 hst hrun hob';have I2:=I.next hd ho hd'.2 k1 k2 k3
      obtain ⟨M,fr',s',m1,m2,m3⟩:=z2k hE hd I2 (fun j o' hj=>by
        have:=hl (j+1) o' (by simpa using hj);rw [List.length_append,List.length_singleton];rw [show L.length+1+j=L.length+(j+1) by omega]
        exact this) hd'.1 hrun hob'
      refine ⟨⟨s1.rd,s1.wr,s.n,s1.n⟩ :: M,fr',s',?_,?_,by simp [m3]⟩
      · rw [drawC,hst];simp only;rw [m1]
      · rw [List.append_assoc] at m2;exact m2
    unfold runP at hr;split at hr
    · simp at hr
    · rename_i hg;rw [← hgd] at hg;have hw:=zho hF hg;refine go hrel VT.undf ⟨Can.refl _,fun _ h=>h,fun _ h=>.inl h,fun _ _=>rfl,fun _ h=>.inl h,fun _ h=>h⟩ ?_ hr hob;unfold zcc;rw [hw,cond_false]
    · rename_i hg;rw [← hgd] at hg;have hw:=zho hF hg;split at hr
      · rename_i f args tys hop;split at hr
        · rename_i r outs';split at hr
          · rename_i p hp;unfold z1a at hp;split at hp
            · rename_i k first cap hf
              simp only [Option.some.injEq] at hp;subst hp
              cases hrun:runP P Γ GL ops l (putT h o.dst r) S outs' with
              |none=>rw [hrun] at hr;simp [andP] at hr
              |some q =>
                obtain ⟨q1,q2⟩:=q;rw [hrun] at hr;simp only [andP,Option.some.injEq,Prod.mk.injEq] at hr;obtain ⟨rfl,rfl⟩:=hr;have hfv:=hF.eval hrel f;rw [hev f (by rw [hop];simp [Op.operands,Call.operands]),hf] at hfv;generalize e1:zfy fr f=vf at hfv
                cases hfv with
                |fn h1 h2 =>
                  rename_i va vc;have hargs:=zr9 (hF.eval hrel) args.toList;have hargs':args.toList.map (zd1 GL ho')=args.toList.map (zd1 GL h):=zq7 fun x hx=>hev x (by rw [hop];simp [Op.operands,Call.operands];right;simpa using hx);rw [hargs'] at hargs;obtain ⟨v,s1,A',c1,c2,c3,c4⟩:=hob.1 _ β s.inner _ hrel ((h1.append hargs).append h2);refine go c2 c3 c4 ?_ hrun hob.2;unfold zcc;rw [hw,cond_true]
                  have:cop P Γ (zd9 P Γ) (zfy fr) o s.inner=some (v,s1):=by
                    unfold cop;simp only [hop,e1];unfold zj7;exact c1
                  rw [this]
            · simp at hp
          · simp at hr
        · simp at hr
      · split at hr
        · rename_i t hst;have hst':zer P Γ (zd1 GL ho') o S=some t:=by rw [zzy hev];exact hst
          obtain ⟨v,s1,A',c1,c2,c3,c4⟩:=z1o (call:=zd9 P Γ) hE hrel (hF.eval hrel) hst';refine go c2 c3 c4 ?_ hr hob;unfold zcc;rw [hw,cond_true,c1]
        · simp at hr
theorem Stp.outer (hI:CInv s) (k:Stp A β s.inner A' β' s'):Stp A β s A' β' (s.outer s'):=by
  refine ⟨zky hI k.can,k.sub,k.new,k.own,k.keep,k.bx,fun x hx=>?_,fun x hx=>?_⟩
  · rcases zll (l:=s'.rd) rfl x hx with q|⟨q,q2⟩
    · exact .inl q
    · rcases k.rd x q with q3|⟨_,q3⟩
      · simp [CS.inner] at q3
      · exact .inr ⟨q2,q3⟩
  · rcases zll (l:=s'.wr) rfl x hx with q|⟨q,q2⟩
    · exact .inl q
    · rcases k.wr x q with q3|⟨_,q3⟩
      · simp [CS.inner] at q3
      · exact .inr ⟨q2,q3⟩
theorem zvf (hE:zc3 P Γ) {own:List Nat} {ops:List Oper} {N:Nat}:∀ {l:List Oper} {h h':Nat→T} {S S':TS} {outs:List (T×TS)} {ob:Prop} {A:Nat→Prop} {β:Bx} {fr:Fr} {s:CS},zfj N l=true→FrOk A β (zaa s.obj) N h fr→TRel GL A β S s→runT P Γ GL own ops l h S outs=some (ob,h',S')→ob →
    ∃ M fr' s',drawC P Γ (zd9 P Γ) ops l fr s=some (M,fr',s')∧Left GL A β s N fr' s' h' S'
  |[],h,h',S,S',outs,ob,A,β,fr,s,hd,hF,hT,hr,hob=>by
    simp only [runT,Option.some.injEq,Prod.mk.injEq] at hr;obtain ⟨rfl,rfl,rfl⟩:=hr;exact ⟨[],fr,s,rfl,A,β,hF,hT,Stp.refl⟩
  |o :: l,h,h',S,S',outs,ob,A,β,fr,s,hd,hF,hT,hr,hob=>by
    have hd':zfj N l=true∧∀ t,o.dst=some t→t<N:=by
      unfold zfj at hd ⊢;rw [List.all_cons,Bool.and_eq_true] at hd;refine ⟨hd.2,fun t ht=>?_⟩;have:=hd.1;rw [ht] at this;exact zac.1 this
    have hTi:=hT.inner
    have go:∀ {t:T} {S1:TS} {r:Option (Value×CS)} {l':List (T×TS)} {ob':Prop},Ok GL A β s.inner r t S1→(cop P Γ (zd9 P Γ) (zfy fr) o s.inner=r)→zc4 ops fr o=true→runT P Γ GL own ops l (putT h o.dst t) S1 l'=some (ob',h',S')→ob'→∃ M fr' s',drawC P Γ (zd9 P Γ) ops (o :: l) fr s=some (M,fr',s')∧Left GL A β s N fr' s' h' S':=by
      rintro t S1 r l' ob' ⟨v,s1,A1,β1,rfl,k1,k2,k3⟩ hc hw hrun hob';have hF1:FrOk A1 β1 (zaa s1.obj) N h fr:=hF.mono k3.sub (Stp.old (s:=s.inner) hTi k3) k3.bx;have hS:Stp A β s A1 β1 (s.outer s1):=k3.outer hT.inv;obtain ⟨M,fr',s',e1,e2⟩:=zvf hE hd'.1 (s:=s.outer s1) (hF1.put hd'.2 k2) (k1.outer (Nat.le_trans hT.le k3.can.n)) hrun hob';refine ⟨⟨s1.rd,s1.wr,s.n,s1.n⟩ :: M,fr',s',?_,Left.trans (h':=h) (fr':=fr) hT.le hS e2⟩;rw [drawC]
      have:zcc P Γ (zd9 P Γ) ops o fr s.inner=some (putC fr o.dst v,s1):=by
        unfold zcc;rw [hw,cond_true,hc]
      rw [this];simp only;rw [e1]
    unfold runT at hr;split at hr
    · simp at hr
    · rename_i hg;have hw:=zho hF hg;have hS:Stp A β s A β (s.outer s.inner):=Stp.outer hT.inv Stp.refl;obtain ⟨M,fr',s',e1,e2⟩:=zvf hE hd'.1 (s:=s.outer s.inner) (hF.put hd'.2 VT.undf) (hTi.outer hT.le) hr hob;refine ⟨⟨[],[],s.n,s.n⟩ :: M,fr',s',?_,Left.trans (h':=h) (fr':=fr) hT.le hS e2⟩;rw [drawC]
      have:zcc P Γ (zd9 P Γ) ops o fr s.inner=some (putC fr o.dst undef,s.inner):=by
        unfold zcc;rw [hw,cond_false]
      rw [this];simp only;rw [e1];rfl
    · rename_i hg;have hw:=zho hF hg;split at hr
      · rename_i f args tys ho;split at hr
        · rename_i r outs';split at hr
          · rename_i p hp;unfold zwh at hp;split at hp
            · rename_i k first cap hf
              simp only [Option.some.injEq] at hp;subst hp
              cases hrun:runT P Γ GL own ops l (putT h o.dst r.1) r.2 outs' with
              |none=>rw [hrun] at hr;simp [andT] at hr
              |some q =>
                obtain ⟨q1,q2,q3⟩:=q;rw [hrun] at hr;simp only [andT,Option.some.injEq,Prod.mk.injEq] at hr;obtain ⟨rfl,rfl,rfl⟩:=hr;have hfv:=hF.eval hT f;rw [hf] at hfv;generalize e1:zfy fr f=vf at hfv
                cases hfv with
                |fn h1 h2 =>
                  rename_i va vc;have hargs:=zr9 (hF.eval hT) args.toList;have hcall:=hob.1 A β s.inner _ hTi ((h1.append hargs).append h2);refine go hcall ?_ hw hrun hob.2;unfold cop;simp only [ho,e1];unfold zj7;rfl
            · simp at hp
          · simp at hr
        · simp at hr
      · split at hr
        · rename_i t S1 hst;exact go (zu2 hE hTi (hF.eval hT) hst) rfl hw hr hob
        · simp at hr
theorem zg6 {x y:Lg} (h1:x.rd=[]) (h2:x.wr=[]) (h3:x.lo=x.hi):clash x y=false:=by
  obtain ⟨rx,wx,lo,hi⟩:=x;obtain ⟨ry,wy,lo',hi'⟩:=y;simp only at h1 h2 h3;subst h1;subst h2;subst h3;exact zfv (fun f hf=>by simp at hf) (fun f hf=>by simp at hf) (fun f _=>by omega) (fun f _=>by omega)
theorem zfz {x y:Lg} (h1:y.rd=[]) (h2:y.wr=[]):clash x y=false:=by
  obtain ⟨rx,wx,lo,hi⟩:=x;obtain ⟨ry,wy,lo',hi'⟩:=y;simp only at h1 h2;subst h1;subst h2;exact zfv (fun f _=>by simp) (fun f _=>by simp) (fun f hf=>by simp at hf) (fun f hf=>by simp at hf)
theorem TW.draw (hE:zc3 P Γ) {id:Nat} {ops:Array Oper} {Q:Exit→(Nat→T)→TS→Prop} (k:Nat) (outsP:List T) (own:List Nat) (outs:List (T×TS)) {h1:Nat→T} {ob1 ob2:Prop} (hd:zfj N ops.toList=true) (hok:zim k ops.toList=true)
    (hp:runP P Γ GL ops.toList (ops.toList.take k) h S outsP=some (ob1,h1)) (hob1:ob1) (hr:runT P Γ GL own ops.toList (ops.toList.drop k) h1 S outs=some (ob2,h',S')) (hob2:ob2) (hq:Q .normal h' S'):TW P Γ GL N (.region id ops true) h S Q:=fun A β fr s hF hT=>by
  have hsplit:ops.toList=ops.toList.take k++ops.toList.drop k:=(List.take_append_drop k _).symm
  have hdd:zfj N (ops.toList.take k)=true∧zfj N (ops.toList.drop k)=true:=by
    unfold zfj at hd ⊢;rw [hsplit,List.all_append,Bool.and_eq_true] at hd;exact hd
  have I0:znp GL ops.toList A β S s N [] h fr s:=by
    refine ⟨hF.nt,hF.le,hT,fun t=>⟨0,(hF.slot t).mono (fun f hf=>.inl hf) (fun _ _=>rfl) (Bx.le_refl _),fun j o _ _ _ m hm=>by simp at hm⟩,fun k x hx=>by simp at hx,fun k m x y _ hx=>by simp at hx,fun f hf=>(hT.dis f hf).1,hT.alt,?_,hT.le⟩;exact ⟨Can.refl _,fun _ h=>h,fun _ h=>.inl h,fun _ _=>rfl,fun _ h=>.inl h,fun _ h=>h⟩
  obtain ⟨M1,fr1,s1,d1,I1,m1⟩:=z2k hE hok I0 (fun j o hj=>by
    rw [List.length_nil,Nat.zero_add];rw [List.getElem?_take] at hj;split at hj
    · exact hj
    · simp at hj) hdd.1 hp hob1
  rw [List.nil_append] at I1
  -- behind the first part all may lean on all
  let D:Nat:=2 ^ M1.length - 1
  have hDall:∀ m,m<M1.length→Nat.testBit D m=true:=fun m hm=>by
    show Nat.testBit (2 ^ M1.length - 1) m=true;rw [Nat.testBit_two_pow_sub_one];exact decide_eq_true hm
  have hT1:TRel GL (SupL A M1 D) β S s1:=by
    refine I1.rel.more _ (fun f hf=>.inl hf) (fun f hf=>?_) (fun f hf ho=>?_)
    · rcases hf with q|⟨m,x,_,q2,_,q4⟩
      · exact I1.rel.alt f q
      · have:=(I1.log m x q2).2.2.1;omega
    · rcases hf with q|⟨m,x,_,q2,q3,q4⟩
      · exact (I1.rel.dis f ho).2 q
      · have:=(I1.log m x q2).1;have:=I1.own f ho;omega
  have hF1:FrOk (SupL A M1 D) β (zaa s1.obj) N h1 fr1:=⟨I1.nt,I1.le,fun t=>by
    obtain ⟨E,e1,_⟩:=I1.slot t
    exact e1.mono (fun f hf=>SupL.sub (fun m hm _=>hDall m hm) hf) (fun _ _=>rfl) (Bx.le_refl _)⟩
  have hS1:Stp A β s (SupL A M1 D) β s1:=by
    refine ⟨I1.calm.can,fun f hf=>.inl hf,fun f hf=>?_,fun f hf=>.inl hf,fun f hf _=>I1.calm.keep f hf,Bx.le_refl _,I1.calm.rd,fun x hx=>.inl (I1.calm.wr x hx)⟩;rcases hf with q|⟨m,x,_,q2,q3,_⟩
    · exact .inl q
    · have:=(I1.log m x q2).1;exact .inr (.inl (by omega))
  obtain ⟨M2,fr2,s2,d2,L2⟩:=zvf hE hdd.2 hF1 hT1 hr hob2;have hdraw:=zit d1 d2;rw [← hsplit] at hdraw;obtain ⟨f1,f2⟩:=zpw hdraw;refine W.draw hdraw ?_ ⟨h',S',Left.trans (h':=h) (fr':=fr) hT.le hS1 L2,hq⟩;refine zwf rfl (zlr fun i j x y hij _ hx hy=>?_);simp only [List.nil_append] at hx hy;have hjl:j<ops.toList.length:=by rw [← f1];exact (List.getElem?_eq_some_iff.1 hy).1
  have ho1:ops.toList[i]?=some (ops.toList[i]'(by omega)):=List.getElem?_eq_getElem _;have ho2:ops.toList[j]?=some (ops.toList[j]'hjl):=List.getElem?_eq_getElem _;by_cases hkj:k≤j
  · rcases z0z hok hij hkj ho1 ho2 with q|q|q
    · exact .inl q
    · obtain ⟨a,b,c⟩:=(f2 i _ x ho1 hx).1 q;exact .inr (zg6 a b c)
    · obtain ⟨a,b⟩:=(f2 j _ y ho2 hy).2 q;exact .inr (zfz a b)
  · have hjM:j<M1.length:=by rw [m1,List.length_take];omega
    rw [List.getElem?_append_left (by omega)] at hx;rw [List.getElem?_append_left hjM] at hy;by_cases hbit:Nat.testBit (nth 0 (zc9 ops.toList []) j) i=true
    · exact .inl hbit
    · right;obtain ⟨x1,x2,x3,x4,x5⟩:=I1.log i x hx;obtain ⟨y1,y2,y3,y4,y5⟩:=I1.log j y hy;obtain ⟨rx,wx,lo,hi⟩:=x;obtain ⟨ry,wy,lo',hi'⟩:=y;simp only at x1 x2 x3 x4 x5 y1 y2 y3 y4 y5;subst x4;subst y4;refine zfv (fun f hf=>by simp at hf) (fun f _=>by simp) (fun f hf=>?_) (fun f hf=>by simp at hf);obtain ⟨g1,g2⟩:=y5 f hf;rcases g2 with (g2|⟨m,z,g3,g4,g5,g6⟩)|g2
      · have:=I1.base f g2;omega
      · by_cases hmi:m=i
        · subst hmi;exact absurd g3 hbit
        · by_cases hlt:m<i
          · have:=I1.apart m i z _ hlt g4 hx;simp only at this;omega
          · have:=I1.apart i m _ z (by omega) hx g4;simp only at this;omega
      · have:=I1.own f g2;omega
end
end
section
open Go Go.RowKit
section
variable {GL:List (Nat×List Value)} {P:Program} {Γ:Env} {own:List Nat} {ops l:List Oper} {h:Nat→T} {S:TS} {outs:List (T×TS)} {outsP:List T} {d:Option Tmp} {ty:TypeId} {pos:String} {e:Array Edge} {g:Option (Nat×Bool)}
noncomputable def ybe {α:Type} (r:Option (T×TS)) (k:T→TS→Option α):Option α:=match r with
  |some (t,S)=>k t S
  |none=>none
noncomputable def zly {α:Type} (b:Option Bool) (off on:Unit→Option α):Option α:=match b with
  |some true=>on ()
  |some false=>off ()
  |none=>none
theorem zwq {α:Type} (t:T) (S:TS) (k:T→TS→Option α):ybe (some (t,S)) k=k t S:=Eq.trans rfl rfl
theorem z9k {α:Type} (a b:Unit→Option α):zly (some true) a b=b ():=Eq.trans rfl rfl
theorem z3r {α:Type} (a b:Unit→Option α):zly (some false) a b=a ():=Eq.trans rfl rfl
noncomputable def zms (ops:List Oper) (h:Nat→T) (j:Nat):T:=match zme ops j with|some t=>h t|none=>.junk
noncomputable def zmk (t:T) (w:Bool):Option Bool:=match t with|.bool b=>some (b == w)|.tup _=>some false|_=>none
theorem z59 {l:List T} {w:Bool}:zmk (.tup l) w=some false:=Eq.trans rfl rfl
theorem zh9 {j:Nat} {w:Bool}:zhp ops h (some (j,w))=zmk (zms ops h j) w:=by
  unfold zhp zms;simp only
  cases zme ops j with
  |none=>rfl
  |some t=>simp only;cases h t<;>rfl
theorem z57:zmk (.bool true) true=some true:=Eq.trans rfl rfl
theorem z58:zmk (.bool true) false=some false:=Eq.trans rfl rfl
theorem z6a:zmk (.bool false) true=some false:=Eq.trans rfl rfl
theorem z6b:zmk (.bool false) false=some true:=Eq.trans rfl rfl
theorem zsz {t:Tmp} {op:Op}:zms (⟨some t,op,ty,pos,e,g⟩ :: l) h 0=h t:=Eq.trans rfl rfl
theorem zs0 {o:Oper} {n:Nat}:zms (o :: l) h (n+1)=zms l h n:=by
  unfold zms zme;rw [List.getElem?_cons_succ]
theorem z15:runT P Γ GL own ops [] h S outs=some (True,h,S):=Eq.trans rfl rfl
theorem z17:runP P Γ GL ops [] h S outsP=some (True,h):=Eq.trans rfl rfl
def zb9:Op→Bool
  |.call ⟨.value _,_,_⟩=>true
  |_=>false
noncomputable def ybx (P:Program) (Γ:Env) (GL:List (Nat×List Value)) (own:List Nat) (ops l:List Oper) (outs:List (T×TS)) (h:Nat→T) (d:Option Tmp) (t:T) (S:TS):Option (Prop×(Nat→T)×TS):=runT P Γ GL own ops l (putT h d t) S outs
theorem z8b {t:T}:ybx P Γ GL own ops l outs h d t S=runT P Γ GL own ops l (putT h d t) S outs:=Eq.trans rfl rfl
noncomputable def offT (P:Program) (Γ:Env) (GL:List (Nat×List Value)) (own:List Nat) (ops l:List Oper) (outs:List (T×TS)) (h:Nat→T) (d:Option Tmp) (S:TS) (_:Unit):Option (Prop×(Nat→T)×TS):=runT P Γ GL own ops l (putT h d (.tup [])) S outs
theorem yei {u:Unit}:offT P Γ GL own ops l outs h d S u=runT P Γ GL own ops l (putT h d (.tup [])) S outs:=Eq.trans rfl rfl
noncomputable def ybt (P:Program) (Γ:Env) (GL:List (Nat×List Value)) (own:List Nat) (ops l:List Oper) (outs:List (T×TS)) (h:Nat→T) (S:TS) (o:Oper) (_:Unit):Option (Prop×(Nat→T)×TS):=ybe (zen P Γ own (zd1 GL h) o S) (ybx P Γ GL own ops l outs h o.dst)
theorem z78 {u:Unit} {op:Op}:ybt P Γ GL own ops l outs h S ⟨d,op,ty,pos,e,g⟩ u=ybe (zen P Γ own (zd1 GL h) ⟨d,op,ty,pos,e,g⟩ S) (ybx P Γ GL own ops l outs h d):=Eq.trans rfl rfl
theorem z16 {op:Op} (hc:zb9 op=false):runT P Γ GL own ops (⟨d,op,ty,pos,e,g⟩ :: l) h S outs=zly (zhp ops h g) (offT P Γ GL own ops l outs h d S) (ybt P Γ GL own ops l outs h S ⟨d,op,ty,pos,e,g⟩):=by
  rw [runT];simp only
  cases hg:zhp ops h g with
  |none=>rfl
  |some b =>
    cases b with
    |false=>rfl
    |true =>
      simp only [zly,ybt]
      cases hs:zen P Γ own (zd1 GL h) ⟨d,op,ty,pos,e,g⟩ S with
      |none =>
        cases op with
        |call c =>
          obtain ⟨cal,args,tys⟩:=c
          cases cal with
          |value f=>simp [zb9] at hc
          |_=>rfl
        |_=>rfl
      |some r =>
        cases op with
        |call c =>
          obtain ⟨cal,args,tys⟩:=c
          cases cal with
          |value f=>simp [zb9] at hc
          |_=>rfl
        |_=>rfl
theorem z7d {op:Op} (hc:zb9 op=false):runT P Γ GL own ops (⟨d,op,ty,pos,e,none⟩ :: l) h S outs=ybe (zen P Γ own (zd1 GL h) ⟨d,op,ty,pos,e,none⟩ S) (ybx P Γ GL own ops l outs h d):=by
  rw [z16 hc];rfl
theorem z7e {op:Op} {j:Nat} {w:Bool} (hc:zb9 op=false):runT P Γ GL own ops (⟨d,op,ty,pos,e,some (j,w)⟩ :: l) h S outs=zly (zmk (zms ops h j) w) (offT P Γ GL own ops l outs h d S) (ybt P Γ GL own ops l outs h S ⟨d,op,ty,pos,e,some (j,w)⟩):=by
  rw [z16 hc,zh9]
noncomputable def ycd (p:Option Prop) (k:Option (Prop×(Nat→T)×TS)):Option (Prop×(Nat→T)×TS):=match p,k with
  |some p,some (q,h,S)=>some (p∧q,h,S)
  |_,_=>none
theorem zx7 {p q:Prop}:ycd (some p) (some (q,h,S))=some (p∧q,h,S):=Eq.trans rfl rfl
noncomputable def yda (P:Program) (Γ:Env) (GL:List (Nat×List Value)) (own:List Nat) (ops l:List Oper) (outs:List (T×TS)) (h:Nat→T) (S:TS) (d:Option Tmp) (f:Operand) (args:List Operand) (r:T×TS) (_:Unit):Option (Prop×(Nat→T)×TS):=ycd (zwh P Γ GL S (args.map (zd1 GL h)) (zd1 GL h f) r) (runT P Γ GL own ops l (putT h d r.1) r.2 outs)
theorem z4j {u:Unit} {f:Operand} {args:List Operand} {r:T×TS}:yda P Γ GL own ops l outs h S d f args r u=ycd (zwh P Γ GL S (args.map (zd1 GL h)) (zd1 GL h f) r) (runT P Γ GL own ops l (putT h d r.1) r.2 outs):=Eq.trans rfl rfl
theorem zs8 {f:Operand} {args:Array Operand} {tys:Array TypeId} {r:T×TS}:runT P Γ GL own ops (⟨d,.call ⟨.value f,args,tys⟩,ty,pos,e,g⟩ :: l) h S (r :: outs)=zly (zhp ops h g) (offT P Γ GL own ops l (r :: outs) h d S) (yda P Γ GL own ops l outs h S d f args.toList r):=by
  rw [runT];simp only
  cases hg:zhp ops h g with
  |none=>rfl
  |some b =>
    cases b with
    |false=>rfl
    |true =>
      simp only [zly,yda]
      cases zwh P Γ GL S (args.toList.map (zd1 GL h)) (zd1 GL h f) r with
      |none=>rfl
      |some p=>cases runT P Γ GL own ops l (putT h d r.1) r.2 outs<;>rfl
theorem zw9 {f:Operand} {args:Array Operand} {tys:Array TypeId} {r:T×TS}:runT P Γ GL own ops (⟨d,.call ⟨.value f,args,tys⟩,ty,pos,e,none⟩ :: l) h S (r :: outs)=ycd (zwh P Γ GL S (args.toList.map (zd1 GL h)) (zd1 GL h f) r) (runT P Γ GL own ops l (putT h d r.1) r.2 outs):=by
  rw [zs8];rfl
theorem zqp {f:Operand} {args:Array Operand} {tys:Array TypeId} {r:T×TS} {j:Nat} {w:Bool}:runT P Γ GL own ops (⟨d,.call ⟨.value f,args,tys⟩,ty,pos,e,some (j,w)⟩ :: l) h S (r :: outs)=zly (zmk (zms ops h j) w) (offT P Γ GL own ops l (r :: outs) h d S) (yda P Γ GL own ops l outs h S d f args.toList r):=by
  rw [zs8,zh9]
theorem zqo {f:Operand} {args:Array Operand} {tys:Array TypeId} {j:Nat} {w:Bool}:runT P Γ GL own ops (⟨d,.call ⟨.value f,args,tys⟩,ty,pos,e,some (j,w)⟩ :: l) h S []=zly (zmk (zms ops h j) w) (offT P Γ GL own ops l [] h d S) (fun _=>none):=by
  rw [runT];simp only [zh9]
  cases zmk (zms ops h j) w with
  |none=>rfl
  |some b=>cases b<;>rfl
theorem z4f {k:Nat} {first cap args:List T} {r:T×TS}:zwh P Γ GL S args (.fn k first cap) r=some (Call P Γ GL k (first++args++cap) S r.1 r.2):=Eq.trans rfl rfl
noncomputable def ybf {α:Type} (r:Option T) (k:T→Option α):Option α:=match r with
  |some t=>k t
  |none=>none
theorem zsr {α:Type} (t:T) (k:T→Option α):ybf (some t) k=k t:=Eq.trans rfl rfl
noncomputable def yby (P:Program) (Γ:Env) (GL:List (Nat×List Value)) (ops l:List Oper) (outs:List T) (h:Nat→T) (d:Option Tmp) (S:TS) (t:T):Option (Prop×(Nat→T)):=runP P Γ GL ops l (putT h d t) S outs
theorem z23 {t:T}:yby P Γ GL ops l outsP h d S t=runP P Γ GL ops l (putT h d t) S outsP:=Eq.trans rfl rfl
noncomputable def offP (P:Program) (Γ:Env) (GL:List (Nat×List Value)) (ops l:List Oper) (outs:List T) (h:Nat→T) (d:Option Tmp) (S:TS) (_:Unit):Option (Prop×(Nat→T)):=runP P Γ GL ops l (putT h d (.tup [])) S outs
theorem z79 {u:Unit}:offP P Γ GL ops l outsP h d S u=runP P Γ GL ops l (putT h d (.tup [])) S outsP:=Eq.trans rfl rfl
noncomputable def ybu (P:Program) (Γ:Env) (GL:List (Nat×List Value)) (ops l:List Oper) (outs:List T) (h:Nat→T) (S:TS) (o:Oper) (_:Unit):Option (Prop×(Nat→T)):=ybf (zer P Γ (zd1 GL h) o S) (yby P Γ GL ops l outs h o.dst S)
theorem z2y {u:Unit} {op:Op}:ybu P Γ GL ops l outsP h S ⟨d,op,ty,pos,e,g⟩ u=ybf (zer P Γ (zd1 GL h) ⟨d,op,ty,pos,e,g⟩ S) (yby P Γ GL ops l outsP h d S):=Eq.trans rfl rfl
theorem z18 {op:Op} (hc:zb9 op=false):runP P Γ GL ops (⟨d,op,ty,pos,e,g⟩ :: l) h S outsP=zly (zhp ops h g) (offP P Γ GL ops l outsP h d S) (ybu P Γ GL ops l outsP h S ⟨d,op,ty,pos,e,g⟩):=by
  rw [runP];simp only
  cases hg:zhp ops h g with
  |none=>rfl
  |some b =>
    cases b with
    |false=>rfl
    |true =>
      simp only [zly,ybu]
      cases hs:zer P Γ (zd1 GL h) ⟨d,op,ty,pos,e,g⟩ S with
      |none =>
        cases op with
        |call c =>
          obtain ⟨cal,args,tys⟩:=c
          cases cal with
          |value f=>simp [zb9] at hc
          |_=>rfl
        |_=>rfl
      |some r =>
        cases op with
        |call c =>
          obtain ⟨cal,args,tys⟩:=c
          cases cal with
          |value f=>simp [zb9] at hc
          |_=>rfl
        |_=>rfl
theorem z7f {op:Op} (hc:zb9 op=false):runP P Γ GL ops (⟨d,op,ty,pos,e,none⟩ :: l) h S outsP=ybf (zer P Γ (zd1 GL h) ⟨d,op,ty,pos,e,none⟩ S) (yby P Γ GL ops l outsP h d S):=by
  rw [z18 hc];rfl
theorem z7g {op:Op} {j:Nat} {w:Bool} (hc:zb9 op=false):runP P Γ GL ops (⟨d,op,ty,pos,e,some (j,w)⟩ :: l) h S outsP=zly (zmk (zms ops h j) w) (offP P Γ GL ops l outsP h d S) (ybu P Γ GL ops l outsP h S ⟨d,op,ty,pos,e,some (j,w)⟩):=by
  rw [z18 hc,zh9]
noncomputable def yce (p:Option Prop) (k:Option (Prop×(Nat→T))):Option (Prop×(Nat→T)):=match p,k with
  |some p,some (q,h)=>some (p∧q,h)
  |_,_=>none
theorem ztq {p q:Prop}:yce (some p) (some (q,h))=some (p∧q,h):=Eq.trans rfl rfl
noncomputable def z4i (P:Program) (Γ:Env) (GL:List (Nat×List Value)) (ops l:List Oper) (outs:List T) (h:Nat→T) (S:TS) (d:Option Tmp) (f:Operand) (args:List Operand) (r:T) (_:Unit):Option (Prop×(Nat→T)):=yce (z1a P Γ GL S (args.map (zd1 GL h)) (zd1 GL h f) r) (runP P Γ GL ops l (putT h d r) S outs)
theorem zzd {u:Unit} {f:Operand} {args:List Operand} {r:T}:z4i P Γ GL ops l outsP h S d f args r u=yce (z1a P Γ GL S (args.map (zd1 GL h)) (zd1 GL h f) r) (runP P Γ GL ops l (putT h d r) S outsP):=Eq.trans rfl rfl
theorem zs9 {f:Operand} {args:Array Operand} {tys:Array TypeId} {r:T}:runP P Γ GL ops (⟨d,.call ⟨.value f,args,tys⟩,ty,pos,e,g⟩ :: l) h S (r :: outsP)=zly (zhp ops h g) (offP P Γ GL ops l (r :: outsP) h d S) (z4i P Γ GL ops l outsP h S d f args.toList r):=by
  rw [runP];simp only
  cases hg:zhp ops h g with
  |none=>rfl
  |some b =>
    cases b with
    |false=>rfl
    |true =>
      simp only [zly,z4i]
      cases z1a P Γ GL S (args.toList.map (zd1 GL h)) (zd1 GL h f) r with
      |none=>rfl
      |some p=>cases runP P Γ GL ops l (putT h d r) S outsP<;>rfl
theorem zxa {f:Operand} {args:Array Operand} {tys:Array TypeId} {r:T}:runP P Γ GL ops (⟨d,.call ⟨.value f,args,tys⟩,ty,pos,e,none⟩ :: l) h S (r :: outsP)=yce (z1a P Γ GL S (args.toList.map (zd1 GL h)) (zd1 GL h f) r) (runP P Γ GL ops l (putT h d r) S outsP):=by
  rw [zs9];rfl
theorem zqr {f:Operand} {args:Array Operand} {tys:Array TypeId} {r:T} {j:Nat} {w:Bool}:runP P Γ GL ops (⟨d,.call ⟨.value f,args,tys⟩,ty,pos,e,some (j,w)⟩ :: l) h S (r :: outsP)=zly (zmk (zms ops h j) w) (offP P Γ GL ops l (r :: outsP) h d S) (z4i P Γ GL ops l outsP h S d f args.toList r):=by
  rw [zs9,zh9]
theorem zqq {f:Operand} {args:Array Operand} {tys:Array TypeId} {j:Nat} {w:Bool}:runP P Γ GL ops (⟨d,.call ⟨.value f,args,tys⟩,ty,pos,e,some (j,w)⟩ :: l) h S []=zly (zmk (zms ops h j) w) (offP P Γ GL ops l [] h d S) (fun _=>none):=by
  rw [runP];simp only [zh9]
  cases zmk (zms ops h j) w with
  |none=>rfl
  |some b=>cases b<;>rfl
theorem z4h {k:Nat} {first cap args:List T} {r:T}:z1a P Γ GL S args (.fn k first cap) r=some (zau P Γ GL k (first++args++cap) S r):=Eq.trans rfl rfl
theorem zca {t u:Nat} {v:T}:tupd h t v u=if u=t then v else h u:=Eq.trans rfl rfl
theorem z7z {t:Tmp} {v:T}:putT h (some t) v=tupd h t v:=Eq.trans rfl rfl
theorem z70 {v:T}:putT h none v=h:=Eq.trans rfl rfl
theorem zuc {t:Tmp}:zd1 GL h (.tmp t)=h t:=Eq.trans rfl rfl
theorem zlp {v:Value}:zd1 GL h (.const v)=zk7 v:=Eq.trans rfl rfl
theorem z91 {f:Nat}:zd1 GL h (.func f)=.fn f [] []:=Eq.trans rfl rfl
theorem zyu {f:Nat}:zd1 GL h (.global f)=z9i GL f:=Eq.trans rfl rfl
theorem yem {k:IntKind} {n:Int}:zk7 (.int k n)=.int k n:=Eq.trans rfl rfl
theorem zn5 {b:Bool}:zk7 (.bool b)=.bool b:=Eq.trans rfl rfl
theorem yel {b:ByteArray}:zk7 (.string b)=.str b:=Eq.trans rfl rfl
theorem z8p:zk7 (.slice none 0 0)=.nils:=Eq.trans rfl rfl
theorem z8q:zk7 (.pointer none)=.nilp:=Eq.trans rfl rfl
theorem z8r:zk7 (.map none)=.nilm:=Eq.trans rfl rfl
theorem z8s:zk7 .nilFunc=.nilf:=Eq.trans rfl rfl
theorem zsn {t:T}:zfm S (some t)=some (t,S):=Eq.trans rfl rfl
theorem zso:zut (some S)=some (.junk,S):=Eq.trans rfl rfl
-- which operations are calls
theorem z9a {x}:zb9 (.move x)=false:=Eq.trans rfl rfl
theorem zyi {x}:zb9 (.assign x)=false:=Eq.trans rfl rfl
theorem z89 {a b c}:zb9 (.pick a b c)=false:=Eq.trans rfl rfl
theorem z3n {x}:zb9 (.alloc x)=false:=Eq.trans rfl rfl
theorem yer {x y}:zb9 (.box x y)=false:=Eq.trans rfl rfl
theorem z3m {x y}:zb9 (.build x y)=false:=Eq.trans rfl rfl
theorem zm9 {x y z}:zb9 (.buildSlice x y z)=false:=Eq.trans rfl rfl
theorem z9b {x y}:zb9 (.load x y)=false:=Eq.trans rfl rfl
theorem z3i {x y z}:zb9 (.store x y z)=false:=Eq.trans rfl rfl
theorem zrm {x}:zb9 (.nilCheck x)=false:=Eq.trans rfl rfl
theorem yes {x y z w v}:zb9 (.binOp x y z w v)=false:=Eq.trans rfl rfl
theorem yjr {x y z}:zb9 (.unOp x y z)=false:=Eq.trans rfl rfl
theorem z9c {x y z}:zb9 (.convert x y z)=false:=Eq.trans rfl rfl
theorem yeq {x y}:zb9 (.sliceToArrayPointer x y)=false:=Eq.trans rfl rfl
theorem zrn {x y z}:zb9 (.makeFunc x y z)=false:=Eq.trans rfl rfl
theorem zdq {x y z w}:zb9 (.lookup x y z w)=false:=Eq.trans rfl rfl
theorem zcs {x y}:zb9 (.makeMap x y)=false:=Eq.trans rfl rfl
theorem zbk {x y z w}:zb9 (.mapUpdate x y z w)=false:=Eq.trans rfl rfl
theorem zdr {x y z w}:zb9 (.insert x y z w)=false:=Eq.trans rfl rfl
theorem zov {x y z}:zb9 (.makeSlice x y z)=false:=Eq.trans rfl rfl
theorem z3j {x y z w v}:zb9 (.slice x y z w v)=false:=Eq.trans rfl rfl
theorem zox {x y z}:zb9 (.fieldAddr x y z)=false:=Eq.trans rfl rfl
theorem z3l {x y z}:zb9 (.field x y z)=false:=Eq.trans rfl rfl
theorem zow {x y z}:zb9 (.indexAddr x y z)=false:=Eq.trans rfl rfl
theorem z3k {x y z}:zb9 (.index x y z)=false:=Eq.trans rfl rfl
theorem zt4 {x y}:zb9 (.extract x y)=false:=Eq.trans rfl rfl
theorem zt5 {b x y}:zb9 (.call ⟨.builtin b,x,y⟩)=false:=Eq.trans rfl rfl
variable {ρ:Operand→T} {t t2:TypeId} {x y z:Operand}
theorem z64  : zen P Γ own ρ ⟨d,.move x,ty,pos,e,g⟩ S=zfm S (some (ρ x)):=Eq.trans rfl rfl
theorem z68  : zer P Γ ρ ⟨d,.move x,ty,pos,e,g⟩ S=some (ρ x):=Eq.trans rfl rfl
theorem zw4  : zen P Γ own ρ ⟨d,.assign x,ty,pos,e,g⟩ S=zfm S (some (ρ x)):=Eq.trans rfl rfl
theorem zw6  : zer P Γ ρ ⟨d,.assign x,ty,pos,e,g⟩ S=some (ρ x):=Eq.trans rfl rfl
theorem z65  : zen P Γ own ρ ⟨d,.load t x,ty,pos,e,g⟩ S=zfm S (zp9 Γ S t (ρ x)):=Eq.trans rfl rfl
theorem z7b  : zer P Γ ρ ⟨d,.load t x,ty,pos,e,g⟩ S=zp9 Γ S t (ρ x):=Eq.trans rfl rfl
theorem zqj  : zen P Γ own ρ ⟨d,.nilCheck x,ty,pos,e,g⟩ S=zfm S (ze1 S (ρ x)):=Eq.trans rfl rfl
theorem zql  : zer P Γ ρ ⟨d,.nilCheck x,ty,pos,e,g⟩ S=ze1 S (ρ x):=Eq.trans rfl rfl
theorem ydw  : zen P Γ own ρ ⟨d,.sliceToArrayPointer t x,ty,pos,e,g⟩ S=zfm S (tS2A Γ S t (ρ x)):=Eq.trans rfl rfl
theorem yd2  : zer P Γ ρ ⟨d,.sliceToArrayPointer t x,ty,pos,e,g⟩ S=tS2A Γ S t (ρ x):=Eq.trans rfl rfl
theorem zoo {k:Nat}:zen P Γ own ρ ⟨d,.fieldAddr t x k,ty,pos,e,g⟩ S=zfm S (zaf Γ S t k (ρ x)):=Eq.trans rfl rfl
theorem zoq {k:Nat}:zer P Γ ρ ⟨d,.fieldAddr t x k,ty,pos,e,g⟩ S=zaf Γ S t k (ρ x):=Eq.trans rfl rfl
theorem z1y {k:Nat}:zen P Γ own ρ ⟨d,.field t x k,ty,pos,e,g⟩ S=zfm S (zwt Γ t k (ρ x)):=Eq.trans rfl rfl
theorem z13 {k:Nat}:zer P Γ ρ ⟨d,.field t x k,ty,pos,e,g⟩ S=zwt Γ t k (ρ x):=Eq.trans rfl rfl
theorem zon  : zen P Γ own ρ ⟨d,.indexAddr t x y,ty,pos,e,g⟩ S=zfm S (zgy Γ S t (ρ x) (ρ y)):=Eq.trans rfl rfl
theorem zop  : zer P Γ ρ ⟨d,.indexAddr t x y,ty,pos,e,g⟩ S=zgy Γ S t (ρ x) (ρ y):=Eq.trans rfl rfl
theorem z1x  : zen P Γ own ρ ⟨d,.index t x y,ty,pos,e,g⟩ S=zfm S (zqa Γ t (ρ x) (ρ y)):=Eq.trans rfl rfl
theorem z12  : zer P Γ ρ ⟨d,.index t x y,ty,pos,e,g⟩ S=zqa Γ t (ρ x) (ρ y):=Eq.trans rfl rfl
theorem zs5 {k:Nat}:zen P Γ own ρ ⟨d,.extract x k,ty,pos,e,g⟩ S=zfm S (zjj k (ρ x)):=Eq.trans rfl rfl
theorem zs6 {k:Nat}:zer P Γ ρ ⟨d,.extract x k,ty,pos,e,g⟩ S=zjj k (ρ x):=Eq.trans rfl rfl
theorem yix {u:UnOp}:zen P Γ own ρ ⟨d,.unOp u t x,ty,pos,e,g⟩ S=zfm S (tUn u (ρ x)):=Eq.trans rfl rfl
theorem yiy {u:UnOp}:zer P Γ ρ ⟨d,.unOp u t x,ty,pos,e,g⟩ S=tUn u (ρ x):=Eq.trans rfl rfl
theorem yd1 {b:BinOp}:zen P Γ own ρ ⟨d,.binOp b t x y t2,ty,pos,e,g⟩ S=zfm S (tBin P Γ S t b x y (ρ x) (ρ y)):=Eq.trans rfl rfl
theorem yd4 {b:BinOp}:zer P Γ ρ ⟨d,.binOp b t x y t2,ty,pos,e,g⟩ S=tBin P Γ S t b x y (ρ x) (ρ y):=Eq.trans rfl rfl
theorem z1z {parts:Array (Nat×Operand)}:zen P Γ own ρ ⟨d,.build t parts,ty,pos,e,g⟩ S=zfm S (zkh Γ ρ t parts.toList):=Eq.trans rfl rfl
theorem z14 {parts:Array (Nat×Operand)}:zer P Γ ρ ⟨d,.build t parts,ty,pos,e,g⟩ S=zkh Γ ρ t parts.toList:=Eq.trans rfl rfl
theorem z1w {lo hi mx:Option Operand}:zen P Γ own ρ ⟨d,.slice t x lo hi mx,ty,pos,e,g⟩ S=zfm S (zp8 Γ S t (ρ x) (lo.map ρ) (hi.map ρ) (mx.map ρ)):=Eq.trans rfl rfl
theorem z11 {lo hi mx:Option Operand}:zer P Γ ρ ⟨d,.slice t x lo hi mx,ty,pos,e,g⟩ S=zp8 Γ S t (ρ x) (lo.map ρ) (hi.map ρ) (mx.map ρ):=Eq.trans rfl rfl
theorem zqk {f:Nat} {a c:Array Operand}:zen P Γ own ρ ⟨d,.makeFunc (.func f) a c,ty,pos,e,g⟩ S=zfm S (some (.fn f (a.toList.map ρ) (c.toList.map ρ))):=Eq.trans rfl rfl
theorem zqm {f:Nat} {a c:Array Operand}:zer P Γ ρ ⟨d,.makeFunc (.func f) a c,ty,pos,e,g⟩ S=some (.fn f (a.toList.map ρ) (c.toList.map ρ)):=Eq.trans rfl rfl
noncomputable def ybq (c a b:T):Option T:=match c with|.bool t=>some (bif t then a else b)|_=>none
theorem z7x {a b:T}:ybq (.bool true) a b=some a:=Eq.trans rfl rfl
theorem z7y {a b:T}:ybq (.bool false) a b=some b:=Eq.trans rfl rfl
theorem zz1:zer P Γ ρ ⟨d,.pick z x y,ty,pos,e,g⟩ S=ybq (ρ z) (ρ x) (ρ y):=by
  show (match ρ z with|.bool t=>some (bif t then ρ x else ρ y)|_=>none)=_;cases ρ z<;>rfl
theorem z63:zen P Γ own ρ ⟨d,.pick z x y,ty,pos,e,g⟩ S=zfm S (ybq (ρ z) (ρ x) (ρ y)):=by
  show zfm S (zer P Γ ρ ⟨d,.pick z x y,ty,pos,e,g⟩ S)=_;rw [zz1]
theorem z10:zen P Γ own ρ ⟨d,.alloc t,ty,pos,e,g⟩ S=zsv Γ S t:=Eq.trans rfl rfl
theorem yd0:zen P Γ own ρ ⟨d,.box t x,ty,pos,e,g⟩ S=tBox S (ρ x):=Eq.trans rfl rfl
theorem z1v:zen P Γ own ρ ⟨d,.store t x y,ty,pos,e,g⟩ S=zut (zsu Γ S t (ρ y) (ρ x)):=Eq.trans rfl rfl
theorem zdm {k:Operand} {ok:Bool}:zen P Γ own ρ ⟨d,.lookup t x k ok,ty,pos,e,g⟩ S=zfm S (zef Γ S t (ρ x) (ρ k) ok):=Eq.trans rfl rfl
theorem zdo {k:Operand} {ok:Bool}:zer P Γ ρ ⟨d,.lookup t x k ok,ty,pos,e,g⟩ S=zef Γ S t (ρ x) (ρ k) ok:=Eq.trans rfl rfl
theorem zcq:zen P Γ own ρ ⟨d,.makeMap t none,ty,pos,e,g⟩ S=zc8 S:=Eq.trans rfl rfl
theorem zbj {k v:Operand}:zen P Γ own ρ ⟨d,.mapUpdate t x k v,ty,pos,e,g⟩ S=zut (zbd Γ S t (ρ k) (ρ v) (ρ x)):=Eq.trans rfl rfl
theorem zdn {k v:Operand}:zen P Γ own ρ ⟨d,.insert t x k v,ty,pos,e,g⟩ S=zut (zbd Γ S t (ρ k) (ρ v) (ρ x)):=Eq.trans rfl rfl
theorem zom:zen P Γ own ρ ⟨d,.makeSlice t x y,ty,pos,e,g⟩ S=zh6 Γ S t (ρ x) (ρ y):=Eq.trans rfl rfl
theorem z67:zen P Γ own ρ ⟨d,.convert t t2 x,ty,pos,e,g⟩ S=bif ownD own d then zpf Γ S t t2 (ρ x) else zfm S (zoj Γ S t t2 (ρ x)):=Eq.trans rfl rfl
theorem z7c:zer P Γ ρ ⟨d,.convert t t2 x,ty,pos,e,g⟩ S=zoj Γ S t t2 (ρ x):=Eq.trans rfl rfl
theorem zav {n:Nat} {parts:Array (Nat×Operand)}:zen P Γ own ρ ⟨d,.buildSlice t n parts,ty,pos,e,g⟩ S=bif ownD own d then zb8 Γ S ρ t n parts.toList else zfm S (zan Γ ρ t n parts.toList):=Eq.trans rfl rfl
theorem zaw {n:Nat} {parts:Array (Nat×Operand)}:zer P Γ ρ ⟨d,.buildSlice t n parts,ty,pos,e,g⟩ S=zan Γ ρ t n parts.toList:=Eq.trans rfl rfl
theorem yd3:zer P Γ ρ ⟨d,.call ⟨.builtin .len,#[x],#[t]⟩,ty,pos,e,g⟩ S=tLen Γ S t (ρ x):=Eq.trans rfl rfl
theorem ydz:zen P Γ own ρ ⟨d,.call ⟨.builtin .len,#[x],#[t]⟩,ty,pos,e,g⟩ S=zfm S (tLen Γ S t (ρ x)):=Eq.trans rfl rfl
theorem zw5:zen P Γ own ρ ⟨d,.call ⟨.builtin .append,#[x,y],#[t,t2]⟩,ty,pos,e,g⟩ S=bif srcT Γ t2 then zns Γ S t (ρ y) (ρ x) else none:=Eq.trans rfl rfl
theorem z66:zen P Γ own ρ ⟨d,.call ⟨.builtin .copy,#[x,y],#[t,t2]⟩,ty,pos,e,g⟩ S=z6k Γ S t (ρ y) (ρ x):=Eq.trans rfl rfl
noncomputable def minT (a b:T):Option T:=match a,b with|.int k a,.int _ b=>some (.int k (min a b))|_,_=>none
noncomputable def maxT (a b:T):Option T:=match a,b with|.int k a,.int _ b=>some (.int k (max a b))|_,_=>none
theorem z24 {k k':IntKind} {a b:Int}:minT (.int k a) (.int k' b)=some (.int k (min a b)):=Eq.trans rfl rfl
theorem z25 {k k':IntKind} {a b:Int}:maxT (.int k a) (.int k' b)=some (.int k (max a b)):=Eq.trans rfl rfl
theorem z69 {tys:Array TypeId}:zer P Γ ρ ⟨d,.call ⟨.builtin .min,#[x,y],tys⟩,ty,pos,e,g⟩ S=minT (ρ x) (ρ y):=by
  show (match ρ x,ρ y with|.int k a,.int _ b=>some (T.int k (min a b))|_,_=>none)=_;cases ρ x<;>cases ρ y<;>rfl
theorem ydx {tys:Array TypeId}:zen P Γ own ρ ⟨d,.call ⟨.builtin .min,#[x,y],tys⟩,ty,pos,e,g⟩ S=zfm S (minT (ρ x) (ρ y)):=by
  show zfm S (zer P Γ ρ ⟨d,.call ⟨.builtin .min,#[x,y],tys⟩,ty,pos,e,g⟩ S)=_;rw [z69]
theorem z7a {tys:Array TypeId}:zer P Γ ρ ⟨d,.call ⟨.builtin .max,#[x,y],tys⟩,ty,pos,e,g⟩ S=maxT (ρ x) (ρ y):=by
  show (match ρ x,ρ y with|.int k a,.int _ b=>some (T.int k (max a b))|_,_=>none)=_;cases ρ x<;>cases ρ y<;>rfl
theorem ydy {tys:Array TypeId}:zen P Γ own ρ ⟨d,.call ⟨.builtin .max,#[x,y],tys⟩,ty,pos,e,g⟩ S=zfm S (maxT (ρ x) (ρ y)):=by
  show zfm S (zer P Γ ρ ⟨d,.call ⟨.builtin .max,#[x,y],tys⟩,ty,pos,e,g⟩ S)=_;rw [z7a]
theorem yds {b:BinOp} {k k':IntKind} {m n:Int}:tBin P Γ S t b x y (.int k m) (.int k' n)=zbn b k k' m n:=Eq.trans rfl rfl
theorem ydr {b:BinOp} {m n:ByteArray}:tBin P Γ S t b x y (.str m) (.str n)=zsw b m n:=Eq.trans rfl rfl
theorem ydv {m n:ByteArray}:zsw .eql m n=some (.bool (decide (m=n))):=Eq.trans rfl rfl
theorem ydu {m n:ByteArray}:zsw .neq m n=some (.bool (!decide (m=n))):=Eq.trans rfl rfl
theorem ydp {b:Bool}:tUn .not (.bool b)=some (.bool (!b)):=Eq.trans rfl rfl
theorem ydq {k:IntKind} {n:Int}:tUn .neg (.int k n)=some (.int k (k.wrap (0 - n))):=Eq.trans rfl rfl
end
section
variable {k:IntKind} {a b:Int}
theorem ye2:zbn .add k k a b=some (.int k (k.wrap (a+b))):=by simp [zbn]
theorem yeu:zbn .sub k k a b=some (.int k (k.wrap (a - b))):=by simp [zbn]
theorem yew:zbn .mul k k a b=some (.int k (k.wrap (a*b))):=by simp [zbn]
theorem ye1:zbn .eql k k a b=some (.bool (decide (a=b))):=by simp [zbn]
theorem yev:zbn .neq k k a b=some (.bool (decide (a≠b))):=by simp [zbn]
theorem yex:zbn .lss k k a b=some (.bool (decide (a<b))):=by simp [zbn]
theorem yey:zbn .leq k k a b=some (.bool (decide (a≤b))):=by simp [zbn]
theorem yez:zbn .gtr k k a b=some (.bool (decide (b<a))):=by simp [zbn]
theorem ye0:zbn .geq k k a b=some (.bool (decide (b≤a))):=by simp [zbn]
theorem zhz (ha:0≤a) (hb:0<b):zbn .quo k k a b=some (.int k (k.wrap (a / b))):=by
  simp only [zbn,Nat.beq_refl,cond_true];rw [if_neg (by omega),Int.tdiv_eq_ediv_of_nonneg ha]
theorem zhy (ha:0≤a) (hb:0<b):zbn .rem k k a b=some (.int k (a % b)):=by
  simp only [zbn,Nat.beq_refl,cond_true];rw [if_neg (by omega),Int.tmod_eq_emod_of_nonneg ha]
theorem yjv:zbn .and k k a b=some (.int k (k.wrap (BitVec.ofInt k.bits a &&& BitVec.ofInt k.bits b).toNat)):=by simp [zbn]
theorem ib_or:zbn .or k k a b=some (.int k (k.wrap (BitVec.ofInt k.bits a ||| BitVec.ofInt k.bits b).toNat)):=by simp [zbn]
theorem yjs:zbn .xor k k a b=some (.int k (k.wrap (BitVec.ofInt k.bits a ^^^ BitVec.ofInt k.bits b).toNat)):=by simp [zbn]
theorem yju {k':IntKind} (hb:0≤b):zbn .shl k k' a b=some (.int k (k.wrap (a*2 ^ (min b.toNat k.bits)))):=by simp [zbn,hb]
theorem yjt {k':IntKind} (hb:0≤b):zbn .shr k k' a b=some (.int k (a.fdiv (2 ^ (min b.toNat k.bits)))):=by simp [zbn,hb]
theorem wr64 {n:Int} (h:-9223372036854775808≤n∧n≤9223372036854775807):IntKind.i64.wrap n=n:=yhn h
theorem z8f {n:Int} (h:0≤n):natT (.int k n)=some n.toNat:=by
  obtain ⟨m,rfl⟩:=Int.eq_ofNat_of_zero_le h;rfl
theorem z8g {n:Int} (h:0≤n):zf9 (.int k n)=some n.toNat:=by
  obtain ⟨m,rfl⟩:=Int.eq_ofNat_of_zero_le h;rfl
theorem zte {n:Int}:zd6 (.int k n)=.int k n:=Eq.trans rfl rfl
theorem zvv {α:Type} [Inhabited α] {L:List α} {n:Nat} (h:n<L.length):L[n]?=some (L.getD n default):=by
  rw [List.getD_eq_getElem?_getD,List.getElem?_eq_getElem h];rfl
def stL (l:List Box):TS:=⟨l.length,fun i=>l.getD i .gone⟩
theorem z1l:ts0=stL []:=rfl
theorem st_n (l:List Box):(stL l).n=l.length:=rfl
theorem ydt (l:List Box) (i:Nat):(stL l).box i=l.getD i .gone:=rfl
theorem z1q (l:List Box) (x:Box):(stL l).add x=stL (l++[x]):=by
  unfold stL TS.add;simp only [List.length_append,List.length_cons,List.length_nil];congr 1;funext i;by_cases hi:i<l.length
  · rw [if_neg (by omega),List.getD_eq_getElem?_getD,List.getD_eq_getElem?_getD,List.getElem?_append_left hi]
  · by_cases he:i=l.length
    · subst he;rw [if_pos rfl];simp
    · rw [if_neg he,List.getD_eq_getElem?_getD,List.getD_eq_getElem?_getD,List.getElem?_eq_none (by omega),List.getElem?_eq_none (by simp;omega)]
theorem zeb (l:List Box) (b:Nat) (x:Box) (h:b<l.length):(stL l).set b x=stL (l.set b x):=by
  unfold stL TS.set;simp only [List.length_set];congr 1;funext i;rw [List.getD_eq_getElem?_getD,List.getD_eq_getElem?_getD,List.getElem?_set];by_cases hi:i=b
  · subst hi;rw [if_pos rfl,if_pos rfl,if_pos h];rfl
  · rw [if_neg hi,if_neg (fun hh=>hi hh.symm)]
theorem zyk {α:Type} (x d:α) (l:List α):(x :: l).getD 0 d=x:=rfl
theorem zyl {α:Type} (x d:α) (l:List α) (n:Nat):(x :: l).getD (n+1) d=l.getD n d:=rfl
end
end
section
open Go Go.RowKit
def zvq (l:List Nat) (h:Nat→T):Nat→T:=fun t=>if t∈l then h t else .junk
def zhu:List Nat→Nat→(Nat→T)→Prop
  |[],_,_=>True
  |t :: l,n,h=>(h t).ids n=true∧zhu l n h
theorem zmc {n:Nat} {h:Nat→T}:∀ {l:List Nat},zhu l n h→∀ t,t∈l→(h t).ids n=true
  |[],_,t,ht=>by simp at ht
  |x :: l,k,t,ht=>by
    rcases List.mem_cons.1 ht with rfl|ht
    · exact k.1
    · exact zmc k.2 t ht
def ze0 (n:Nat):List Box→Bool
  |[]=>true
  |b :: l=>zgt n b && ze0 n l
theorem ygz {l:List T} {i:Nat} {x:T} (h:i<l.length):spl l i [x]=l.set i x:=by
  unfold spl;rw [List.set_eq_take_append_cons_drop,if_pos h];simp
theorem yg3 {α:Type} {L:List α} {f:α→T} {i:Nat} {v:α}:(L.map f).set i (f v)=(L.set i v).map f:=(List.map_set).symm
theorem yg2 {l:List T}:spl l 0 []=l:=by simp [spl]
theorem yir {a:T} {l xs:List T} {n:Nat}:spl (a :: l) (n+1) xs=a :: spl l n xs:=by
  unfold spl;rw [show n+1+xs.length=(n+xs.length)+1 by omega];simp
theorem yis {a x:T} {l xs:List T}:spl (a :: l) 0 (x :: xs)=x :: spl l 0 xs:=by simp [spl]
theorem yg1 {α:Type} {L:List α} {f:α→T} {i:Nat} {v:α} (h:i<L.length):spl (L.map f) i [f v]=(L.set i v).map f:=by
  rw [ygz (by rw [List.length_map];exact h),yg3]
theorem z7m (n:Nat) (k:IntKind) (z:Int):rep n [.int k z]=(List.replicate n z).map (T.int k):=by
  unfold rep
  induction n with
  |zero=>rfl
  |succ n ih=>rw [List.replicate_succ,List.flatten_cons,ih,List.replicate_succ];rfl
theorem z2d (n:Nat) (z:Bool):rep n [.bool z]=(List.replicate n z).map T.bool:=by
  unfold rep
  induction n with
  |zero=>rfl
  |succ n ih=>rw [List.replicate_succ,List.flatten_cons,ih,List.replicate_succ];rfl
theorem zbv {α:Type} {L:List α} {f:α→T} (h:∀ x,(f x).cells=[f x]):(L.map f).flatMap T.cells=L.map f:=by
  induction L with
  |nil=>rfl
  |cons x l ih=>rw [List.map_cons,List.flatMap_cons,h,ih];rfl
section
variable {GL:List (Nat×List Value)} {A A' A2:Nat→Prop} {β β' β2:Bx} {S S' S2:TS} {s s' s2:CS} {P:Program} {Γ:Env} {N:Nat} {h h' h2:Nat→T} {Q R:Exit→(Nat→T)→TS→Prop}
theorem zlj {l:List Nat} {t:Nat} (ht:t∈l):zvq l h t=h t:=if_pos ht
theorem zk9 {n:Nat} {l:List Box}:∀ {i:Nat},ze0 n l=true→zgt n (l.getD i .gone)=true:=by
  induction l with
  |nil=>intro i _;rfl
  |cons b l ih =>
    intro i h;simp only [ze0,Bool.and_eq_true] at h
    cases i with
    |zero=>exact h.1
    |succ i=>exact ih h.2
theorem Left.trim {fr fr':Fr} {keep:List Nat} {bs bs2 extra:List Box} (hT:TRel GL A β (stL bs) s) (k:Left GL A β s N fr' s' h' (stL (bs2++extra))) (hl:bs2.length=bs.length) (hb:ze0 bs.length bs2=true) (hk:zhu keep bs.length h'):Left GL A β s N fr' s' (zvq keep h') (stL bs2):=by
  obtain ⟨A',β',k1,k2,k3⟩:=k;have hat:∀ b,b<bs.length→bcut β' bs.length b=β' b:=fun b hb=>if_pos hb
  have hsub:∀ b l,bcut β' bs.length b=some l→β' b=some l:=fun b l h=>by
    unfold bcut at h;split at h
    · exact h
    · simp at h
  have hkp:zsk (stL (bs2++extra)) (stL bs2):=by
    refine ⟨by simp [stL],fun b=>?_⟩;by_cases hbl:b<bs2.length
    · refine .inr ⟨hbl,?_,?_⟩
      · show bs2.getD b .gone=(bs2++extra).getD b .gone;rw [List.getD_eq_getElem?_getD,List.getD_eq_getElem?_getD,List.getElem?_append_left hbl]
      · show zgt bs2.length ((bs2++extra).getD b .gone)=true;rw [List.getD_eq_getElem?_getD,List.getElem?_append_left hbl,← List.getD_eq_getElem?_getD,hl];exact zk9 hb
    · left;show bs2.getD b .gone=.gone;rw [List.getD_eq_getElem?_getD,List.getElem?_eq_none (by omega)];rfl
  have hcut:=k2.cut hkp;have hn:(stL bs2).n=bs.length:=hl;rw [hn] at hcut;refine ⟨A',bcut β' bs.length,⟨k1.nt,k1.le,fun t=>?_⟩,hcut,k3.can,k3.sub,k3.new,fun f hf=>?_,k3.keep,fun b l hb'=>?_,k3.rd,k3.wr⟩
  · by_cases ht:t∈keep
    · rw [zlj ht];exact (k1.slot t).ids hat (zmc hk t ht)
    · rw [show zvq keep h' t=.junk from if_neg ht];exact .junk _
  · obtain ⟨b,hb'⟩:=hf;exact k3.own f ⟨b,hb'.imp (fun ⟨u,N,h⟩=>⟨u,N,hsub _ _ h⟩) fun h=>hsub _ _ h⟩
  · obtain ⟨l',c1,c2⟩:=k3.bx b l hb'
    have:b<bs.length:=by
      by_cases hh:b<bs.length
      · exact hh
      · rw [hT.next b (by show bs.length≤b;omega)] at hb';simp at hb'
    exact ⟨l',by rw [hat b this];exact c1,c2⟩
def ykm (keep:List Nat) (n:Nat) (I:Nat→(Nat→T)→List Box→Prop) (m0:Nat) (h':Nat→T) (S':TS):Prop :=
  ∃ m,m<m0∧∃ bs',S'=stL bs'∧n≤bs'.length∧ze0 n (bs'.take n)=true∧zhu keep n h'∧I m (zvq keep h') (bs'.take n)
theorem TW.loopT {b:Code} (keep:List Nat) (I:Nat→(Nat→T)→List Box→Prop) (hb:∀ m h bs,I m h bs→TW P Γ GL N b h (stL bs) (onT (fun h' S'=>ykm keep bs.length I m h' S') Q)):∀ m h bs,I m h bs→TW P Γ GL N (.loop b) h (stL bs) Q:=by
  intro m
  induction m using Nat.strongRecOn with
  |_ m ih =>
    intro h bs hI A β fr s hF hT;obtain ⟨e,fr1,s1,h1,h',S',hleft,hq⟩:=hb m h bs hI A β fr s hF hT
    cases e with
    |normal =>
      obtain ⟨m2,hm,bs',rfl,hl,hbi,hki,hI'⟩:=hq;have hl2:=Left.trim (fr:=fr) (keep:=keep) (bs2:=bs'.take bs.length) (extra:=bs'.drop bs.length) hT (by rw [List.take_append_drop];exact hleft) (by rw [List.length_take];omega) hbi hki;obtain ⟨A',β',k1,k2,k3⟩:=hl2;obtain ⟨e2,fr2,s2,h3,h2,S2,l2,q2⟩:=ih m2 hm _ _ hI' A' β' fr1 s1 k1 k2;exact ⟨e2,fr2,s2,Ev.again h1 h3,h2,S2,Left.trans (h':=h) (fr':=fr) hT.le k3 l2,q2⟩
    |_=>exact ⟨_,_,_,Ev.last h1 (by simp),h',S',hleft,hq⟩
def Ends (keep:List Nat) (n:Nat) (R:(Nat→T)→List Box→Prop) (h':Nat→T) (S':TS):Prop :=
  ∃ bs',S'=stL bs'∧n≤bs'.length∧ze0 n (bs'.take n)=true∧zhu keep n h'∧R (zvq keep h') (bs'.take n)
theorem TRel.freezeP (hT:TRel GL A β S s) {b M:Nat} {z:Bool} {l:List T} (hS:S.box b=.cells z M l) :
    ∃ A' β',TRel GL A' β' (S.set b .gone) s∧Stp A β s A' β' s∧∀ {v:Value},VT A β (zaa s.obj) (.ptr b 0 M) v→VT A' β' (zaa s.obj) (.cp l) v:=by
  obtain ⟨hlN,hc⟩:=hT.cells b z M l hS;rcases hc with ⟨hb,hN,_⟩|⟨f,u,cs,rest,hb,hz,hat,hvl,hone⟩
  · obtain ⟨k1,k2⟩:=hT.dead hb A (fun _ h=>h) (fun _ h=>.inl h);refine ⟨_,_,k1,k2,fun {v} hv=>?_⟩;obtain ⟨f,u,rfl,hb'⟩:=zii hT hS hv;rw [hb] at hb';simp at hb'
  · obtain ⟨k1,k2⟩:=hT.dead hb (fun k=>A k∨k=f) (fun _ h=>.inl h) (fun k hk=>hk.imp id fun q=>by rw [q];rfl);refine ⟨_,_,k1,k2,fun {v} hv=>?_⟩;obtain ⟨f',u',rfl,hb'⟩:=zii hT hS hv;rw [hb] at hb';cases hb'
    have hrow:zbx (zaa s.obj f).rows u=some cs:=by
      rw [hat];show zbx ((u,cs) :: rest) u=some cs;unfold zbx;rw [Nat.beq_refl];rfl
    exact .cp (.inr rfl) hrow (hvl.mono (fun _ h=>.inl h) (fun _ _=>rfl) k2.bx) (by rw [List.drop_zero,List.take_length])
theorem TW.freezeP {c:Code} (t:Nat) {b M:Nat} {z:Bool} {l:List T} (ht:h t=.ptr b 0 M) (hS:S.box b=.cells z M l) (k:TW P Γ GL N c (tupd h t (.cp l)) (S.set b .gone) Q):TW P Γ GL N c h S Q:=by
  intro A β fr s hF hT;obtain ⟨A',β',k1,k2,k3⟩:=hT.freezeP hS;have hv:=hF.slot t;rw [ht] at hv
  have hF':FrOk A' β' (zaa s.obj) N (tupd h t (.cp l)) fr:=⟨hF.nt,hF.le,fun u=>by
    by_cases hu:u=t
    · subst hu;rw [zic];exact k3 hv
    · rw [zl6 _ _ _ _ hu];exact k2.vt hT (hF.slot u)⟩
  refine (k A' β' fr s hF' k1).mono ?_;rintro e2 fr2 s2 ⟨h2,S2,l2,q2⟩;exact ⟨h2,S2,Left.trans (h':=h) (fr':=fr) hT.le k2 l2,q2⟩
theorem TW.cut {a:Code} {k:(Nat→T)→TS→Prop} (keep:List Nat) {bs:List Box} (R:(Nat→T)→List Box→Prop) (hR:TW P Γ GL N a h (stL bs) fun e h' S'=>e=.normal∧Ends keep bs.length R h' S') (hk:∀ h bs2,R h bs2→k h (stL bs2)):TW P Γ GL N a h (stL bs) (onT k Q):=by
  intro A β fr s hF hT;obtain ⟨e,fr1,s1,h1,h',S',hleft,rfl,bs',rfl,hl,hbi,hki,hq⟩:=hR A β fr s hF hT;exact ⟨_,fr1,s1,h1,_,_,Left.trim (fr:=fr) (keep:=keep) (bs2:=bs'.take bs.length) (extra:=bs'.drop bs.length) hT (by rw [List.take_append_drop];exact hleft) (by rw [List.length_take];omega) hbi hki,hk _ _ hq⟩
end
end
section
open Go Go.RowKit
theorem z2v {k:IntKind} {n:Int}:T.one (T.int k n)=true:=Eq.trans rfl rfl
theorem z4c {k:IntKind} {n:Int}:T.cells (T.int k n)=[(T.int k n)]:=Eq.trans rfl rfl
theorem zxs {b:Bool}:T.one (T.bool b)=true:=Eq.trans rfl rfl
theorem zza {b:Bool}:T.cells (T.bool b)=[(T.bool b)]:=Eq.trans rfl rfl
theorem z2s {b:ByteArray}:T.one (T.str b)=true:=Eq.trans rfl rfl
theorem z39 {b:ByteArray}:T.cells (T.str b)=[(T.str b)]:=Eq.trans rfl rfl
theorem z2u {e:Nat} {l:List T}:T.one (T.lst e l)=true:=Eq.trans rfl rfl
theorem z4b {e:Nat} {l:List T}:T.cells (T.lst e l)=[(T.lst e l)]:=Eq.trans rfl rfl
theorem zxn  : T.one (T.nils)=true:=Eq.trans rfl rfl
theorem zy5  : T.cells (T.nils)=[(T.nils)]:=Eq.trans rfl rfl
theorem zxo  : T.one (T.nilp)=true:=Eq.trans rfl rfl
theorem zy6  : T.cells (T.nilp)=[(T.nilp)]:=Eq.trans rfl rfl
theorem zxp  : T.one (T.nilm)=true:=Eq.trans rfl rfl
theorem zy7  : T.cells (T.nilm)=[(T.nilm)]:=Eq.trans rfl rfl
theorem zxq  : T.one (T.nilf)=true:=Eq.trans rfl rfl
theorem zy8  : T.cells (T.nilf)=[(T.nilf)]:=Eq.trans rfl rfl
theorem z2t {b o n:Nat}:T.one (T.ptr b o n)=true:=Eq.trans rfl rfl
theorem z4a {b o n:Nat}:T.cells (T.ptr b o n)=[(T.ptr b o n)]:=Eq.trans rfl rfl
theorem z77 {l:List T}:T.one (T.cp l)=true:=Eq.trans rfl rfl
theorem yar {l:List T}:T.cells (T.cp l)=[(T.cp l)]:=Eq.trans rfl rfl
theorem z2x {b e o l c n:Nat}:T.one (T.arr b e o l c n)=true:=Eq.trans rfl rfl
theorem z4e {b e o l c n:Nat}:T.cells (T.arr b e o l c n)=[(T.arr b e o l c n)]:=Eq.trans rfl rfl
theorem z75 {b:Nat}:T.one (T.mp b)=true:=Eq.trans rfl rfl
theorem yap {b:Nat}:T.cells (T.mp b)=[(T.mp b)]:=Eq.trans rfl rfl
theorem z76 {f:Nat} {a c:List T}:T.one (T.fn f a c)=true:=Eq.trans rfl rfl
theorem yaq {f:Nat} {a c:List T}:T.cells (T.fn f a c)=[(T.fn f a c)]:=Eq.trans rfl rfl
theorem z2w {e:Nat}:T.one (T.emp e)=true:=Eq.trans rfl rfl
theorem z4d {e:Nat}:T.cells (T.emp e)=[(T.emp e)]:=Eq.trans rfl rfl
theorem ygg {k:IntKind}:aggT (.int k)=false:=Eq.trans rfl rfl
theorem ygh  : aggT .bool=false:=Eq.trans rfl rfl
theorem ygc  : aggT .string=false:=Eq.trans rfl rfl
theorem ygf {k:TypeId}:aggT (.slice k)=false:=Eq.trans rfl rfl
theorem ygd {k:TypeId}:aggT (.pointer k)=false:=Eq.trans rfl rfl
theorem yge {k k2:TypeId}:aggT (.map k k2)=false:=Eq.trans rfl rfl
theorem b0:type_of% (And.intro (And.intro (And.intro (And.intro (And.intro (@z7d) (@z7e)) (And.intro (@zw9) (@zqp))) (And.intro (And.intro (@zqo) (@z15)) (And.intro (@z8b) (@yei)))) (And.intro (And.intro (And.intro (@z78) (@z4j)) (And.intro (@z7f) (@z7g))) (And.intro (And.intro (@zxa) (@zqr)) (And.intro (@zqq) (@z17))))) (And.intro (And.intro (And.intro (And.intro (@z23) (@z79)) (And.intro (@z2y) (@zzd))) (And.intro (And.intro (@z57) (@z58)) (And.intro (@z6a) (@z6b)))) (And.intro (And.intro (And.intro (@z59) (@zsz)) (And.intro (@zs0) (@z9k))) (And.intro (And.intro (@z3r) (@zwq)) (And.intro (@zsr) (@zx7)))))):=And.intro (And.intro (And.intro (And.intro (And.intro (@z7d) (@z7e)) (And.intro (@zw9) (@zqp))) (And.intro (And.intro (@zqo) (@z15)) (And.intro (@z8b) (@yei)))) (And.intro (And.intro (And.intro (@z78) (@z4j)) (And.intro (@z7f) (@z7g))) (And.intro (And.intro (@zxa) (@zqr)) (And.intro (@zqq) (@z17))))) (And.intro (And.intro (And.intro (And.intro (@z23) (@z79)) (And.intro (@z2y) (@zzd))) (And.intro (And.intro (@z57) (@z58)) (And.intro (@z6a) (@z6b)))) (And.intro (And.intro (And.intro (@z59) (@zsz)) (And.intro (@zs0) (@z9k))) (And.intro (And.intro (@z3r) (@zwq)) (And.intro (@zsr) (@zx7)))))
theorem b1:type_of% (And.intro (And.intro (And.intro (And.intro (And.intro (@ztq) (@z4f)) (And.intro (@z4h) (@z7z))) (And.intro (And.intro (@z70) (@zuc)) (And.intro (@zlp) (@z91)))) (And.intro (And.intro (And.intro (@zyu) (@yem)) (And.intro (@zn5) (@yel))) (And.intro (And.intro (@z8p) (@z8q)) (And.intro (@z8r) (@z8s))))) (And.intro (And.intro (And.intro (And.intro (@zsn) (@zso)) (And.intro (@z9a) (@zyi))) (And.intro (And.intro (@z89) (@z3n)) (And.intro (@yer) (@z3m)))) (And.intro (And.intro (And.intro (@zm9) (@z9b)) (And.intro (@z3i) (@zrm))) (And.intro (And.intro (@yes) (@yjr)) (And.intro (@z9c) (@yeq)))))):=And.intro (And.intro (And.intro (And.intro (And.intro (@ztq) (@z4f)) (And.intro (@z4h) (@z7z))) (And.intro (And.intro (@z70) (@zuc)) (And.intro (@zlp) (@z91)))) (And.intro (And.intro (And.intro (@zyu) (@yem)) (And.intro (@zn5) (@yel))) (And.intro (And.intro (@z8p) (@z8q)) (And.intro (@z8r) (@z8s))))) (And.intro (And.intro (And.intro (And.intro (@zsn) (@zso)) (And.intro (@z9a) (@zyi))) (And.intro (And.intro (@z89) (@z3n)) (And.intro (@yer) (@z3m)))) (And.intro (And.intro (And.intro (@zm9) (@z9b)) (And.intro (@z3i) (@zrm))) (And.intro (And.intro (@yes) (@yjr)) (And.intro (@z9c) (@yeq)))))
theorem b2:type_of% (And.intro (And.intro (And.intro (And.intro (And.intro (@zrn) (@zov)) (And.intro (@z3j) (@zox))) (And.intro (And.intro (@z3l) (@zow)) (And.intro (@z3k) (@zt4)))) (And.intro (And.intro (And.intro (@zt5) (@z64)) (And.intro (@z68) (@zw4))) (And.intro (And.intro (@zw6) (@z65)) (And.intro (@z7b) (@zqj))))) (And.intro (And.intro (And.intro (And.intro (@zql) (@ydw)) (And.intro (@yd2) (@zoo))) (And.intro (And.intro (@zoq) (@z1y)) (And.intro (@z13) (@zon)))) (And.intro (And.intro (And.intro (@zop) (@z1x)) (And.intro (@z12) (@zs5))) (And.intro (And.intro (@zs6) (@yix)) (And.intro (@yiy) (@yd1)))))):=And.intro (And.intro (And.intro (And.intro (And.intro (@zrn) (@zov)) (And.intro (@z3j) (@zox))) (And.intro (And.intro (@z3l) (@zow)) (And.intro (@z3k) (@zt4)))) (And.intro (And.intro (And.intro (@zt5) (@z64)) (And.intro (@z68) (@zw4))) (And.intro (And.intro (@zw6) (@z65)) (And.intro (@z7b) (@zqj))))) (And.intro (And.intro (And.intro (And.intro (@zql) (@ydw)) (And.intro (@yd2) (@zoo))) (And.intro (And.intro (@zoq) (@z1y)) (And.intro (@z13) (@zon)))) (And.intro (And.intro (And.intro (@zop) (@z1x)) (And.intro (@z12) (@zs5))) (And.intro (And.intro (@zs6) (@yix)) (And.intro (@yiy) (@yd1)))))
theorem b3:type_of% (And.intro (And.intro (And.intro (And.intro (And.intro (@yd4) (@z1z)) (And.intro (@z14) (@z1w))) (And.intro (And.intro (@z11) (@zqk)) (And.intro (@zqm) (@z63)))) (And.intro (And.intro (And.intro (@zz1) (@z67)) (And.intro (@z7c) (@zav))) (And.intro (And.intro (@zaw) (@ydz)) (And.intro (@yd3) (@ydx))))) (And.intro (And.intro (And.intro (And.intro (@z69) (@ydy)) (And.intro (@z7a) (@z10))) (And.intro (And.intro (@yd0) (@z1v)) (And.intro (@zom) (@zw5)))) (And.intro (And.intro (And.intro (@z66) (@z7x)) (And.intro (@z7y) (@z24))) (And.intro (And.intro (@z25) (@yds)) (And.intro (@ydr) (@ydv)))))):=And.intro (And.intro (And.intro (And.intro (And.intro (@yd4) (@z1z)) (And.intro (@z14) (@z1w))) (And.intro (And.intro (@z11) (@zqk)) (And.intro (@zqm) (@z63)))) (And.intro (And.intro (And.intro (@zz1) (@z67)) (And.intro (@z7c) (@zav))) (And.intro (And.intro (@zaw) (@ydz)) (And.intro (@yd3) (@ydx))))) (And.intro (And.intro (And.intro (And.intro (@z69) (@ydy)) (And.intro (@z7a) (@z10))) (And.intro (And.intro (@yd0) (@z1v)) (And.intro (@zom) (@zw5)))) (And.intro (And.intro (And.intro (@z66) (@z7x)) (And.intro (@z7y) (@z24))) (And.intro (And.intro (@z25) (@yds)) (And.intro (@ydr) (@ydv)))))
theorem b4:type_of% (And.intro (And.intro (And.intro (And.intro (And.intro (@ydu) (@ydp)) (And.intro (@ydq) (@zca))) (And.intro (And.intro (@zte) (@z8f)) (And.intro (@z8g) (@z7m)))) (And.intro (And.intro (And.intro (@z2d) (@yg2)) (And.intro (@yir) (@yis))) (And.intro (And.intro (@ye2) (@yeu)) (And.intro (@yew) (@ye1))))) (And.intro (And.intro (And.intro (And.intro (@yev) (@yex)) (And.intro (@yey) (@yez))) (And.intro (And.intro (@ye0) (@zhz)) (And.intro (@zhy) (@z1l)))) (And.intro (And.intro (And.intro (@st_n) (@ydt)) (And.intro (@z1q) (@zeb))) (And.intro (And.intro (@zyk) (@zyl)) (And.intro (@cond_true.{1}) (@cond_false.{1})))))):=And.intro (And.intro (And.intro (And.intro (And.intro (@ydu) (@ydp)) (And.intro (@ydq) (@zca))) (And.intro (And.intro (@zte) (@z8f)) (And.intro (@z8g) (@z7m)))) (And.intro (And.intro (And.intro (@z2d) (@yg2)) (And.intro (@yir) (@yis))) (And.intro (And.intro (@ye2) (@yeu)) (And.intro (@yew) (@ye1))))) (And.intro (And.intro (And.intro (And.intro (@yev) (@yex)) (And.intro (@yey) (@yez))) (And.intro (And.intro (@ye0) (@zhz)) (And.intro (@zhy) (@z1l)))) (And.intro (And.intro (And.intro (@st_n) (@ydt)) (And.intro (@z1q) (@zeb))) (And.intro (And.intro (@zyk) (@zyl)) (And.intro (@cond_true.{1}) (@cond_false.{1})))))
theorem b5:type_of% (And.intro (And.intro (And.intro (And.intro (And.intro (@List.toList_toArray.{0}) (@List.map_cons.{0,0})) (And.intro (@List.map_nil.{0,0}) (@List.length_cons.{0}))) (And.intro (And.intro (@List.length_nil.{0}) (@List.length_map.{0,0})) (And.intro (@List.getElem?_cons_zero.{0}) (@List.getElem?_cons_succ.{0})))) (And.intro (And.intro (And.intro (@List.getElem?_map.{0,0}) (@Option.map_some.{0,0})) (And.intro (@Option.map_none.{0,0}) (@List.nil_append.{0}))) (And.intro (And.intro (@List.cons_append.{0}) (@List.append_nil.{0})) (And.intro (@List.all_cons.{0}) (@List.all_nil.{0}))))) (And.intro (And.intro (And.intro (And.intro (@List.drop_zero.{0}) (@List.drop_succ_cons.{0})) (And.intro (@List.take_succ_cons.{0}) (@List.take_zero.{0}))) (And.intro (And.intro (@List.set_cons_zero.{0}) (@List.set_cons_succ.{0})) (And.intro (@Bool.and_true) (@Bool.true_and)))) (And.intro (And.intro (And.intro (@Bool.and_self) (@Bool.not_true)) (And.intro (@Bool.not_false) (@Bool.false_and))) (And.intro (And.intro (@Bool.and_false) (@zhq)) (And.intro (@z4n) (@ziw)))))):=And.intro (And.intro (And.intro (And.intro (And.intro (@List.toList_toArray.{0}) (@List.map_cons.{0,0})) (And.intro (@List.map_nil.{0,0}) (@List.length_cons.{0}))) (And.intro (And.intro (@List.length_nil.{0}) (@List.length_map.{0,0})) (And.intro (@List.getElem?_cons_zero.{0}) (@List.getElem?_cons_succ.{0})))) (And.intro (And.intro (And.intro (@List.getElem?_map.{0,0}) (@Option.map_some.{0,0})) (And.intro (@Option.map_none.{0,0}) (@List.nil_append.{0}))) (And.intro (And.intro (@List.cons_append.{0}) (@List.append_nil.{0})) (And.intro (@List.all_cons.{0}) (@List.all_nil.{0}))))) (And.intro (And.intro (And.intro (And.intro (@List.drop_zero.{0}) (@List.drop_succ_cons.{0})) (And.intro (@List.take_succ_cons.{0}) (@List.take_zero.{0}))) (And.intro (And.intro (@List.set_cons_zero.{0}) (@List.set_cons_succ.{0})) (And.intro (@Bool.and_true) (@Bool.true_and)))) (And.intro (And.intro (And.intro (@Bool.and_self) (@Bool.not_true)) (And.intro (@Bool.not_false) (@Bool.false_and))) (And.intro (And.intro (@Bool.and_false) (@zhq)) (And.intro (@z4n) (@ziw)))))
theorem b6:type_of% (And.intro (And.intro (And.intro (And.intro (And.intro (@Nat.beq_refl) (@Int.toNat_natCast)) (And.intro (@Nat.zero_add) (@Nat.add_zero))) (And.intro (And.intro (@Nat.mul_one) (@List.length_replicate.{0})) (And.intro (@ownD.eq_1) (@ownD.eq_2)))) (And.intro (And.intro (And.intro (@has.eq_1) (@has.eq_2)) (And.intro (@tLen.eq_1) (@zp9.eq_1))) (And.intro (And.intro (@zp9.eq_2) (@zsu.eq_1)) (And.intro (@zxl.eq_1) (@tBox.eq_1))))) (And.intro (And.intro (And.intro (And.intro (@zsv.eq_1) (@zfl.eq_1)) (And.intro (@zfl.eq_2) (@zjh.eq_1))) (And.intro (And.intro (@zjh.eq_2) (@zjh.eq_3)) (And.intro (@zjh.eq_4) (@zjh.eq_5)))) (And.intro (And.intro (And.intro (@zjh.eq_6) (@zjh.eq_7)) (And.intro (@zgy.eq_1) (@zqa.eq_1))) (And.intro (And.intro (@zjj.eq_1) (@ze1.eq_1)) (And.intro (@ze1.eq_2) (@ze1.eq_3)))))):=And.intro (And.intro (And.intro (And.intro (And.intro (@Nat.beq_refl) (@Int.toNat_natCast)) (And.intro (@Nat.zero_add) (@Nat.add_zero))) (And.intro (And.intro (@Nat.mul_one) (@List.length_replicate.{0})) (And.intro (@ownD.eq_1) (@ownD.eq_2)))) (And.intro (And.intro (And.intro (@has.eq_1) (@has.eq_2)) (And.intro (@tLen.eq_1) (@zp9.eq_1))) (And.intro (And.intro (@zp9.eq_2) (@zsu.eq_1)) (And.intro (@zxl.eq_1) (@tBox.eq_1))))) (And.intro (And.intro (And.intro (And.intro (@zsv.eq_1) (@zfl.eq_1)) (And.intro (@zfl.eq_2) (@zjh.eq_1))) (And.intro (And.intro (@zjh.eq_2) (@zjh.eq_3)) (And.intro (@zjh.eq_4) (@zjh.eq_5)))) (And.intro (And.intro (And.intro (@zjh.eq_6) (@zjh.eq_7)) (And.intro (@zgy.eq_1) (@zqa.eq_1))) (And.intro (And.intro (@zjj.eq_1) (@ze1.eq_1)) (And.intro (@ze1.eq_2) (@ze1.eq_3)))))
theorem b7:type_of% (And.intro (And.intro (And.intro (And.intro (And.intro (@zp8.eq_1) (@zoj.eq_1)) (And.intro (@TS.has.eq_1) (@zh6.eq_1))) (And.intro (And.intro (@aggT.eq_1) (@aggT.eq_2)) (And.intro (@ygg) (@ygh)))) (And.intro (And.intro (And.intro (@ygc) (@ygf)) (And.intro (@ygd) (@yge))) (And.intro (And.intro (@T.cells.eq_1) (@T.one.eq_1)) (And.intro (@T.one.eq_2) (@T.one.eq_3))))) (And.intro (And.intro (And.intro (And.intro (@z2v) (@z4c)) (And.intro (@zxs) (@zza))) (And.intro (And.intro (@z2s) (@z39)) (And.intro (@z2u) (@z4b)))) (And.intro (And.intro (And.intro (@zxn) (@zy5)) (And.intro (@zxo) (@zy6))) (And.intro (And.intro (@zxp) (@zy7)) (And.intro (@zxq) (@zy8)))))):=And.intro (And.intro (And.intro (And.intro (And.intro (@zp8.eq_1) (@zoj.eq_1)) (And.intro (@TS.has.eq_1) (@zh6.eq_1))) (And.intro (And.intro (@aggT.eq_1) (@aggT.eq_2)) (And.intro (@ygg) (@ygh)))) (And.intro (And.intro (And.intro (@ygc) (@ygf)) (And.intro (@ygd) (@yge))) (And.intro (And.intro (@T.cells.eq_1) (@T.one.eq_1)) (And.intro (@T.one.eq_2) (@T.one.eq_3))))) (And.intro (And.intro (And.intro (And.intro (@z2v) (@z4c)) (And.intro (@zxs) (@zza))) (And.intro (And.intro (@z2s) (@z39)) (And.intro (@z2u) (@z4b)))) (And.intro (And.intro (And.intro (@zxn) (@zy5)) (And.intro (@zxo) (@zy6))) (And.intro (And.intro (@zxp) (@zy7)) (And.intro (@zxq) (@zy8)))))
theorem b8:type_of% (And.intro (And.intro (And.intro (@z2t) (And.intro (@z4a) (@z77))) (And.intro (@yar) (And.intro (@z2x) (@z4e)))) (And.intro (And.intro (@z75) (And.intro (@yap) (@z76))) (And.intro (@yaq) (And.intro (@z2w) (@z4d))))):=And.intro (And.intro (And.intro (@z2t) (And.intro (@z4a) (@z77))) (And.intro (@yar) (And.intro (@z2x) (@z4e)))) (And.intro (And.intro (@z75) (And.intro (@yap) (@z76))) (And.intro (@yaq) (And.intro (@z2w) (@z4d))))
theorem apA:type_of% (And.intro (And.intro (And.intro (@zns.eq_1) (@zzh)) (And.intro (@zka) (And.intro (@zr6) (@Bool.or_false)))) (And.intro (And.intro (@Bool.or_self) (@List.flatMap_cons.{0,0})) (And.intro (@List.flatMap_nil.{0,0}) (And.intro (@Nat.add_mul) (@Nat.one_mul))))):=And.intro (And.intro (And.intro (@zns.eq_1) (@zzh)) (And.intro (@zka) (And.intro (@zr6) (@Bool.or_false)))) (And.intro (And.intro (@Bool.or_self) (@List.flatMap_cons.{0,0})) (And.intro (@List.flatMap_nil.{0,0}) (And.intro (@Nat.add_mul) (@Nat.one_mul))))
theorem apB:type_of% (And.intro (And.intro (@zee.eq_1) (@zee.eq_2)) (And.intro (@zan.eq_1) (And.intro (@zav) (@zaw)))):=And.intro (And.intro (@zee.eq_1) (@zee.eq_2)) (And.intro (@zan.eq_1) (And.intro (@zav) (@zaw)))
theorem lzA:type_of% (And.intro (@List.length_cons.{0}) (And.intro (@List.length_nil.{0}) (@Nat.zero_add))):=And.intro (@List.length_cons.{0}) (And.intro (@List.length_nil.{0}) (@Nat.zero_add))
end
section
open Go Go.RowKit
mutual
def T.ren (ρ:Nat→Nat):T→T
  |.agg l=>.agg (T.renL ρ l)
  |.tup l=>.tup (T.renL ρ l)
  |.lst e l=>.lst e (T.renL ρ l)
  |.cp l=>.cp (T.renL ρ l)
  |.ptr b o N=>.ptr (ρ b) o N
  |.arr b e o l c N=>.arr (ρ b) e o l c N
  |.mp b=>.mp (ρ b)
  |.fn f a c=>.fn f (T.renL ρ a) (T.renL ρ c)
  |.int k n=>.int k n
  |.bool b=>.bool b
  |.str b=>.str b
  |.nils=>.nils
  |.nilp=>.nilp
  |.nilm=>.nilm
  |.nilf=>.nilf
  |.junk=>.junk
  |.emp e=>.emp e
def T.renL (ρ:Nat→Nat):List T→List T
  |[]=>[]
  |t :: l=>t.ren ρ :: T.renL ρ l
end
def zed (ρ:Nat→Nat):Box→Box
  |.gone=>.gone
  |.cells z N l=>.cells z N (T.renL ρ l)
  |.map l=>.map (l.map fun p=>(p.1.ren ρ,p.2.ren ρ))
section
variable {GL:List (Nat×List Value)} {A A' A1:Nat→Prop} {β β' β0 β1:Bx} {S S' S0 S1:TS} {s s' s1:CS} {P:Program} {Γ:Env} {g g':Nat→Fam} {ρ:Nat→Nat} {n:Nat}
theorem zjr:∀ (l:List T),T.renL ρ l=l.map (T.ren ρ)
  |[]=>rfl
  |t :: l=>by rw [T.renL,List.map_cons,zjr l]
theorem ziq (l:List T):(T.renL ρ l).length=l.length:=by rw [zjr,List.length_map]
theorem zz6 (l m:List T):T.renL ρ (l++m)=T.renL ρ l++T.renL ρ m:=by simp only [zjr,List.map_append]
theorem zqt (t:T):(t.ren ρ).cells=T.renL ρ t.cells:=by
  cases t<;>simp only [T.ren,T.cells,T.renL]
theorem zva:∀ (l:List T),(T.renL ρ l).flatMap T.cells=T.renL ρ (l.flatMap T.cells)
  |[]=>rfl
  |t :: l=>by rw [T.renL,List.flatMap_cons,List.flatMap_cons,zqt,zva l,zz6]
theorem z88:∀ {l:List T},T.idsL n l=true→∀ t,t∈l→t.ids n=true
  |[],_,t,h=>by simp at h
  |x :: l,h,t,ht=>by
    simp only [T.idsL,Bool.and_eq_true] at h;rcases List.mem_cons.1 ht with rfl|ht
    · exact h.1
    · exact z88 h.2 t ht
mutual
theorem VT.up (hβ:∀ b,b<n→β' (ρ b)=β b):∀ {t:T} {v:Value},t.ids n=true→VT A β g t v→VT A β' g (t.ren ρ) v
  |_,_,_,.int k n=>.int k n
  |_,_,_,.bool b=>.bool b
  |_,_,_,.str b=>.str b
  |_,_,hi,.agg h=>.agg (VL.up hβ hi h)
  |_,_,hi,.tup h=>.tup (VL.up hβ hi h)
  |_,_,_,.lnil=>.lnil
  |.lst e l,_,hi,.lst h1 h2 h3 h4 h5 h6 h7 h8=>by
    have q:=VL.up hβ (zlm hi) h3;rw [← zva] at q;have:=VT.lst (l:=T.renL ρ l) h1 h2 q (fun t ht=>by rw [zjr] at ht;obtain ⟨x,hx,rfl⟩:=List.mem_map.1 ht;rw [zqt,ziq];exact h4 x hx) h5 h6 h7 (by rw [ziq];exact h8);rw [ziq] at this;exact this
  |_,_,_,.nils=>.nils
  |_,_,_,.nilp=>.nilp
  |_,_,_,.nilm=>.nilm
  |_,_,_,.nilf=>.nilf
  |_,_,hi,.ptr h=>.ptr (by rw [hβ _ (zac.1 hi)];exact h)
  |_,_,hi,.ptrOld h h0 h1 h2=>.ptrOld (by rw [hβ _ (zac.1 hi)];exact h) h0 h1 h2
  |_,_,hi,.cp h1 h2 h3 h4=>.cp h1 h2 (VL.up hβ hi h3) h4
  |_,_,hi,.arr h ht=>.arr (by rw [hβ _ (zac.1 hi)];exact h) ht
  |_,_,hi,.arrNil h=>.arrNil (by rw [hβ _ (zac.1 hi)];exact h)
  |_,_,hi,.arrOld h h0 h1 h2=>.arrOld (by rw [hβ _ (zac.1 hi)];exact h) h0 h1 h2
  |_,_,hi,.mp h=>.mp (by rw [hβ _ (zac.1 hi)];exact h)
  |_,_,hi,.mpOld h h2=>.mpOld (by rw [hβ _ (zac.1 hi)];exact h) h2
  |_,_,hi,.fn h1 h2=>by
    simp only [T.ids,Bool.and_eq_true] at hi;exact .fn (VL.up hβ hi.1 h1) (VL.up hβ hi.2 h2)
  |_,_,_,.junk v=>.junk v
  |_,_,_,.emp h1 h2 h3 h4=>.emp h1 h2 h3 h4
theorem VL.up (hβ:∀ b,b<n→β' (ρ b)=β b):∀ {l:List T} {vs:List Value},T.idsL n l=true→VL A β g l vs→VL A β' g (T.renL ρ l) vs
  |_,_,_,.nil=>.nil
  |_,_,hi,.cons h k=>by
    simp only [T.idsL,Bool.and_eq_true] at hi;exact .cons (VT.up hβ hi.1 h) (VL.up hβ hi.2 k)
end
mutual
theorem VT.down (hβ:∀ b,b<n→β' b=β (ρ b)):∀ {t':T} {v:Value},VT A β g t' v→∀ {t:T},t.ren ρ=t'→t.ids n=true→VT A β' g t v
  |_,_,.int k m,t,e,hi=>by
    cases t<;>simp [T.ren] at e;obtain ⟨rfl,rfl⟩:=e;exact .int _ _
  |_,_,.bool b,t,e,hi=>by
    cases t<;>simp [T.ren] at e;subst e;exact .bool _
  |_,_,.str b,t,e,hi=>by
    cases t<;>simp [T.ren] at e;subst e;exact .str _
  |_,_,.agg h,t,e,hi=>by
    cases t<;>simp [T.ren] at e;exact .agg (VL.down hβ h e hi)
  |_,_,.tup h,t,e,hi=>by
    cases t<;>simp [T.ren] at e;exact .tup (VL.down hβ h e hi)
  |_,_,.lnil,t,e,hi=>by
    cases t<;>simp [T.ren] at e;rename_i e' l;obtain ⟨rfl,e⟩:=e
    cases l with
    |nil=>exact .lnil
    |cons x l=>simp [T.renL] at e
  |_,_,.lst (l:=l') h1 h2 h3 h4 h5 h6 h7 h8,t,e,hi=>by
    cases t<;>simp [T.ren] at e;rename_i e' l;have q:=VL.down hβ h3 (l:=l.flatMap T.cells) (by rw [← e.2];exact (zva l).symm) (zlm hi);obtain ⟨rfl,rfl⟩:=e;have:=VT.lst (l:=l) h1 h2 q (fun t ht=>by have:=h4 (t.ren ρ) (by rw [zjr];exact List.mem_map_of_mem ht);rw [zqt,ziq] at this;exact this) h5 h6 h7 (by rw [ziq] at h8;exact h8);rw [ziq];exact this
  |_,_,.nils,t,e,hi=>by cases t<;>simp [T.ren] at e;exact .nils
  |_,_,.nilp,t,e,hi=>by cases t<;>simp [T.ren] at e;exact .nilp
  |_,_,.nilm,t,e,hi=>by cases t<;>simp [T.ren] at e;exact .nilm
  |_,_,.nilf,t,e,hi=>by cases t<;>simp [T.ren] at e;exact .nilf
  |_,_,.ptr h,t,e,hi=>by
    cases t<;>simp [T.ren] at e;obtain ⟨rfl,rfl,rfl⟩:=e;exact .ptr (by rw [hβ _ (zac.1 hi)];exact h)
  |_,_,.ptrOld h h0 h1 h2,t,e,hi=>by
    cases t<;>simp [T.ren] at e;obtain ⟨rfl,rfl,rfl⟩:=e;exact .ptrOld (by rw [hβ _ (zac.1 hi)];exact h) h0 h1 h2
  |_,_,.cp h1 h2 h3 h4,t,e,hi=>by
    cases t<;>simp [T.ren] at e;exact .cp h1 h2 (VL.down hβ h3 e hi) h4
  |_,_,.arr h ht,t,e,hi=>by
    cases t<;>simp [T.ren] at e;obtain ⟨rfl,rfl,rfl,rfl,rfl,rfl⟩:=e;exact .arr (by rw [hβ _ (zac.1 hi)];exact h) ht
  |_,_,.arrNil h,t,e,hi=>by
    cases t<;>simp [T.ren] at e;obtain ⟨rfl,rfl,rfl,rfl,rfl,rfl⟩:=e;exact .arrNil (by rw [hβ _ (zac.1 hi)];exact h)
  |_,_,.arrOld h h0 h1 h2,t,e,hi=>by
    cases t<;>simp [T.ren] at e;obtain ⟨rfl,rfl,rfl,rfl,rfl,rfl⟩:=e;exact .arrOld (by rw [hβ _ (zac.1 hi)];exact h) h0 h1 h2
  |_,_,.mp h,t,e,hi=>by
    cases t<;>simp [T.ren] at e;subst e;exact .mp (by rw [hβ _ (zac.1 hi)];exact h)
  |_,_,.mpOld h h2,t,e,hi=>by
    cases t<;>simp [T.ren] at e;subst e;exact .mpOld (by rw [hβ _ (zac.1 hi)];exact h) h2
  |_,_,.fn h1 h2,t,e,hi=>by
    cases t<;>simp [T.ren] at e;obtain ⟨rfl,e1,e2⟩:=e;simp only [T.ids,Bool.and_eq_true] at hi;exact .fn (VL.down hβ h1 e1 hi.1) (VL.down hβ h2 e2 hi.2)
  |_,_,.junk v,t,e,hi=>by cases t<;>simp [T.ren] at e;exact .junk _
  |_,_,.emp h1 h2 h3 h4,t,e,hi=>by
    cases t<;>simp [T.ren] at e;subst e;exact .emp h1 h2 h3 h4
theorem VL.down (hβ:∀ b,b<n→β' b=β (ρ b)):∀ {l':List T} {vs:List Value},VL A β g l' vs→∀ {l:List T},T.renL ρ l=l'→T.idsL n l=true→VL A β' g l vs
  |_,_,.nil,l,e,hi=>by
    cases l with
    |nil=>exact .nil
    |cons x l=>simp [T.renL] at e
  |_,_,.cons h k,l,e,hi=>by
    cases l with
    |nil=>simp [T.renL] at e
    |cons x l =>
      simp only [T.renL,List.cons.injEq] at e;simp only [T.idsL,Bool.and_eq_true] at hi;exact .cons (VT.down hβ h e.1 hi.1) (VL.down hβ k e.2 hi.2)
end
structure Fits (ρ:Nat→Nat) (S0 S1 S S':TS):Prop where
  le:S0.n≤S1.n
  out:∀ b,S0.n≤b→S0.box b=.gone
  old:∀ i,i<S0.n→ρ i<S.n
  new:∀ i,S0.n≤i→i<S1.n→S.n≤ρ i
  top:∀ i,i<S1.n→ρ i<S'.n
  grow:S.n≤S'.n
  inj:∀ i j,i<S1.n→j<S1.n→ρ i=ρ j→i=j
  pre:∀ i,i<S0.n→S.box (ρ i)=zed ρ (S0.box i)∧zgt S0.n (S0.box i)=true
  post:∀ i,i<S1.n→S'.box (ρ i)=zed ρ (S1.box i)∧zgt S1.n (S1.box i)=true
  rest:∀ b,(∀ i,i<S1.n→ρ i≠b)→S'.box b=S.box b
open Classical in
noncomputable def bmix (ρ:Nat→Nat) (m:Nat) (β1 β:Bx):Bx:=fun b=>if h:∃ i,i<m∧ρ i=b then β1 (Classical.choose h) else β b
theorem yh7 {m i:Nat} (hinj:∀ i j,i<m→j<m→ρ i=ρ j→i=j) (hi:i<m):bmix ρ m β1 β (ρ i)=β1 i:=by
  unfold bmix;have h:∃ j,j<m∧ρ j=ρ i:=⟨i,hi,rfl⟩;rw [dif_pos h];have:=Classical.choose_spec h;rw [hinj _ _ this.1 hi this.2]
theorem zh5 {m b:Nat} (h:∀ i,i<m→ρ i≠b):bmix ρ m β1 β b=β b:=by
  unfold bmix;rw [dif_neg (fun ⟨i,h1,h2⟩=>h i h1 h2)]
theorem z2b (l:List (T×T)):(l.map fun p=>(p.1.ren ρ,p.2.ren ρ)).map (·.1)=T.renL ρ (l.map (·.1)):=by
  rw [zjr,List.map_map,List.map_map];rfl
theorem z2a (l:List (T×T)):(l.map fun p=>(p.1.ren ρ,p.2.ren ρ)).map (·.2)=T.renL ρ (l.map (·.2)):=by
  rw [zjr,List.map_map,List.map_map];rfl
theorem Call.frame {f:FuncId} {args:List T} {v:T} (k:Call P Γ GL f args S0 v S1) (ha:T.idsL S0.n args=true) (hv:v.ids S1.n=true) (F:Fits ρ S0 S1 S S'):Call P Γ GL f (T.renL ρ args) S (v.ren ρ) S':=by
  intro A β s vargs hT hva;have hb0:∀ b,b<S0.n→bcut (fun i=>β (ρ i)) S0.n b=β (ρ b):=fun b hb=>if_pos hb
  have hb1:∀ b l,bcut (fun i=>β (ρ i)) S0.n b=some l→b<S0.n∧β (ρ b)=some l:=fun b l h=>by
    unfold bcut at h;split at h
    · rename_i hb;exact ⟨hb,h⟩
    · simp at h
  have hown:∀ f,Own (bcut (fun i=>β (ρ i)) S0.n) f→∃ i,i<S0.n∧((∃ u N,β (ρ i)=some (.live f u N))∨β (ρ i)=some (.map f)):=fun f ⟨b,hb⟩=>by
    rcases hb with ⟨u,N,hb⟩|hb
    · exact ⟨b,(hb1 _ _ hb).1,.inl ⟨u,N,(hb1 _ _ hb).2⟩⟩
    · exact ⟨b,(hb1 _ _ hb).1,.inr (hb1 _ _ hb).2⟩
  have hown2:∀ f,Own (bcut (fun i=>β (ρ i)) S0.n) f→Own β f:=fun f hf=>by
    obtain ⟨i,_,h⟩:=hown f hf;exact ⟨ρ i,h⟩
  have hT0:TRel GL A (bcut (fun i=>β (ρ i)) S0.n) S0 s:=by
    refine ⟨hT.inr,hT.inv,hT.alt,fun f hf=>hT.dis f (hown2 f hf),fun b b' l l' f h1 h2 h3 h4=>?_,fun b hb=>if_neg (by omega),fun b z N l hb=>?_,fun b l hb=>?_,hT.glob⟩
    · obtain ⟨q1,q2⟩:=hb1 _ _ h1;obtain ⟨q3,q4⟩:=hb1 _ _ h2;exact F.inj b b' (by have:=F.le;omega) (by have:=F.le;omega) (hT.inj _ _ _ _ f q2 q4 h3 h4)
    · have hlt:b<S0.n:=by
        by_cases h:b<S0.n
        · exact h
        · rw [F.out b (by omega)] at hb;simp at hb
      obtain ⟨p1,p2⟩:=F.pre b hlt;rw [hb] at p1 p2;obtain ⟨c1,c2⟩:=hT.cells _ _ _ _ p1;refine ⟨by rw [ziq] at c1;exact c1,?_⟩;rcases c2 with ⟨d1,d2,d3⟩|⟨f,u,cs,rest,d1,d2,d3,d4,d5⟩
      · exact .inl ⟨by rw [hb0 b hlt];exact d1,d2,d3⟩
      · exact .inr ⟨f,u,cs,rest,by rw [hb0 b hlt];exact d1,d2,d3,VL.down hb0 d4 rfl p2,d5⟩
    · have hlt:b<S0.n:=by
        by_cases h:b<S0.n
        · exact h
        · rw [F.out b (by omega)] at hb;simp at hb
      obtain ⟨p1,p2⟩:=F.pre b hlt;rw [hb] at p1 p2;obtain ⟨r,es,c1,c2,c3,c4⟩:=hT.maps _ _ p1;simp only [zgt,Bool.and_eq_true] at p2;rw [z2b] at c3;rw [z2a] at c4;exact ⟨r,es,by rw [hb0 b hlt];exact c1,c2,VL.down hb0 c3 rfl p2.1,VL.down hb0 c4 rfl p2.2⟩
  obtain ⟨w,s1,A1,β1,e1,e2,e3,e4⟩:=k A _ s vargs hT0 (VL.down hb0 hva rfl ha);have hin:∀ i,i<S1.n→bmix ρ S1.n β1 β (ρ i)=β1 i:=fun i hi=>yh7 F.inj hi
  have hcase:∀ b,(∃ i,i<S1.n∧ρ i=b)∨(∀ i,i<S1.n→ρ i≠b):=fun b=>by
    by_cases h:∃ i,i<S1.n∧ρ i=b
    · exact .inl h
    · exact .inr fun i hi hh=>h ⟨i,hi,hh⟩
  have hone:∀ i l,β1 i=some l→i<S1.n:=fun i l h=>by
    by_cases hh:i<S1.n
    · exact hh
    · rw [e2.next i (by omega)] at h;simp at h
  have apart:∀ b f,(∀ i,i<S1.n→ρ i≠b)→((∃ u N,β b=some (.live f u N))∨β b=some (.map f))→¬ Own (bcut (fun i=>β (ρ i)) S0.n) f:=fun b f hb hf ho=>by
    obtain ⟨j,hj,h⟩:=hown f ho
    have:ρ j=b:=by
      rcases h with ⟨u,N,h⟩|h<;>rcases hf with ⟨u',N',hf⟩|hf<;>exact hT.inj _ _ _ _ f h hf rfl rfl
    exact hb j (by have:=F.le;omega) this
  have hfamO:∀ b l f,β b=some l→l.fam=some f→((∃ u N,β b=some (.live f u N))∨β b=some (.map f)):=fun b l f h hl=>by
    cases l with
    |live f' u N=>simp [Loc.fam] at hl;subst hl;exact .inl ⟨u,N,h⟩
    |map r=>simp [Loc.fam] at hl;subst hl;exact .inr h
    |nil=>simp [Loc.fam] at hl
    |dead=>simp [Loc.fam] at hl
  have hfam1:∀ i l f,β1 i=some l→l.fam=some f→Own β1 f:=fun i l f h hl=>by
    cases l with
    |live f' u N=>simp [Loc.fam] at hl;subst hl;exact zch h
    |map r=>simp [Loc.fam] at hl;subst hl;exact zfx h
    |nil=>simp [Loc.fam] at hl
    |dead=>simp [Loc.fam] at hl
  have hle:Bx.le β (bmix ρ S1.n β1 β):=fun b l hb=>by
    rcases hcase b with ⟨i,hi,rfl⟩|h
    · rw [hin i hi];by_cases hip:i<S0.n
      · exact e4.bx i l (by rw [hb0 i hip];exact hb)
      · rw [hT.next _ (F.new i (by omega) hi)] at hb;simp at hb
    · exact ⟨l,by rw [zh5 h];exact hb,Loc.le_refl l⟩
  have hkeep:∀ f,A f→zaa s1.obj f=zaa s.obj f:=fun f hf=>e4.keep f (hT.alt f hf) fun ho=>(hT.dis f (hown2 f ho)).2 hf
  have hmix:∀ f,Own (bmix ρ S1.n β1 β) f→Own β1 f∨∃ b,(∀ i,i<S1.n→ρ i≠b)∧((∃ u N,β b=some (.live f u N))∨β b=some (.map f)):=fun f ⟨b,hb⟩=>by
    rcases hcase b with ⟨i,hi,rfl⟩|h
    · rw [hin i hi] at hb;exact .inl ⟨i,hb⟩
    · rw [zh5 h] at hb;exact .inr ⟨b,h,hb⟩
  refine ⟨w,s1,A1,bmix ρ S1.n β1 β,e1,⟨e2.inr,e2.inv,e2.alt,fun f hf=>?_,fun b b' l l' f h1 h2 h3 h4=>?_,fun b hb=>?_,fun b z N l hb=>?_,fun b l hb=>?_,e2.glob⟩,VT.up hin hv e3,⟨e4.can,e4.sub,fun f hf=>(e4.new f hf).imp id (Or.imp id (hown2 f)),fun f hf=>?_,fun f hf ho=>e4.keep f hf fun h=>ho (hown2 f h),hle,fun x hx=>(e4.rd x hx).imp id (fun ⟨a,b⟩=>⟨a,b.imp id (hown2 x)⟩),fun x hx=>(e4.wr x hx).imp id (fun ⟨a,b⟩=>⟨a,hown2 x b⟩)⟩⟩
  · rcases hmix f hf with h|⟨b,hb,h⟩
    · exact e2.dis f h
    · have hd:=hT.dis f ⟨b,h⟩;refine ⟨Nat.lt_of_lt_of_le hd.1 e4.can.n,fun hA=>?_⟩;rcases e4.new f hA with q|q|q
      · exact hd.2 q
      · have:=hd.1;omega
      · exact apart b f hb h q
  · have z0e:∀ i b l l',i<S1.n→(∀ i,i<S1.n→ρ i≠b)→β1 i=some l→β b=some l'→l.fam=some f→l'.fam=some f→False:=fun i b l l' hi hb q1 q2 q3 q4=>by
      have ho:=hfamO b l' f q2 q4;rcases e4.own f (hfam1 i l f q1 q3) with q|q
      · exact apart b f hb ho q
      · have:=(hT.dis f ⟨b,ho⟩).1;omega
    rcases hcase b with ⟨i,hi,rfl⟩|hb<;>rcases hcase b' with ⟨j,hj,rfl⟩|hb'
    · rw [hin i hi] at h1;rw [hin j hj] at h2;rw [e2.inj i j l l' f h1 h2 h3 h4]
    · rw [hin i hi] at h1;rw [zh5 hb'] at h2;exact (z0e i b' l l' hi hb' h1 h2 h3 h4).elim
    · rw [zh5 hb] at h1;rw [hin j hj] at h2;exact (z0e j b l' l hj hb h2 h1 h4 h3).elim
    · rw [zh5 hb] at h1;rw [zh5 hb'] at h2;exact hT.inj b b' l l' f h1 h2 h3 h4
  · rw [zh5 (fun i hi hh=>by have:=F.top i hi;omega)];exact hT.next b (by have:=F.grow;omega)
  · rcases hcase b with ⟨i,hi,rfl⟩|hbo
    · obtain ⟨p1,p2⟩:=F.post i hi;rw [hb] at p1
      cases hq:S1.box i with
      |gone=>rw [hq] at p1;simp [zed] at p1
      |map m=>rw [hq] at p1;simp [zed] at p1
      |cells z' N' l' =>
        rw [hq] at p1 p2;simp only [zed,Box.cells.injEq] at p1;obtain ⟨rfl,rfl,rfl⟩:=p1;obtain ⟨c1,c2⟩:=e2.cells _ _ _ _ hq;refine ⟨by rw [ziq];exact c1,?_⟩;rcases c2 with ⟨d1,d2,d3⟩|⟨f,u,cs,rest,d1,d2,d3,d4,d5⟩
        · exact .inl ⟨by rw [hin i hi];exact d1,d2,d3⟩
        · exact .inr ⟨f,u,cs,rest,by rw [hin i hi];exact d1,d2,d3,VL.up hin p2 d4,d5⟩
    · rw [F.rest b hbo] at hb;refine (hT.cells b z N l hb).mono e4.sub hkeep hle (zh5 hbo) fun f u N' hl=>?_;exact e4.keep f (hT.dis f (zch hl)).1 (apart b f hbo (.inl ⟨u,N',hl⟩))
  · rcases hcase b with ⟨i,hi,rfl⟩|hbo
    · obtain ⟨p1,p2⟩:=F.post i hi;rw [hb] at p1
      cases hq:S1.box i with
      |gone=>rw [hq] at p1;simp [zed] at p1
      |cells z N m=>rw [hq] at p1;simp [zed] at p1
      |map m =>
        rw [hq] at p1 p2;simp only [zed,Box.map.injEq] at p1;subst p1;obtain ⟨r,es,c1,c2,c3,c4⟩:=e2.maps _ _ hq;simp only [zgt,Bool.and_eq_true] at p2;exact ⟨r,es,by rw [hin i hi];exact c1,c2,by rw [z2b];exact VL.up hin p2.1 c3,by rw [z2a];exact VL.up hin p2.2 c4⟩
    · rw [F.rest b hbo] at hb;refine (hT.maps b l hb).mono e4.sub hkeep hle (zh5 hbo) fun r hl=>?_;exact e4.keep r (hT.dis r (zfx hl)).1 (apart b r hbo (.inr hl))
  · rcases hmix f hf with h|⟨b,hb,h⟩
    · exact (e4.own f h).imp (hown2 f) id
    · exact .inl ⟨b,h⟩
end
end
end Go.Proofs.YtjgbkegkcbcjaaaGreat
