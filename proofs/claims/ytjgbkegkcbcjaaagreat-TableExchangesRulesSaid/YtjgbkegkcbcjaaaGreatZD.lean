/- Part 4 of the proof of TableExchangesRules (several texts in one; no further condition). -/
import Derived.Test.YtjgbkegkcbcjaaaGreatZC
set_option linter.unusedSimpArgs false
set_option linter.unusedVariables false
set_option linter.unusedSectionVars false
namespace Go.Proofs.YtjgbkegkcbcjaaaGreat
section
open Go Go.RowKit
section
variable {GL:List (Nat×List Value)} {A A' A2:Nat→Prop} {β β' β2:Bx} {S S':TS} {s s' s2:CS} {P:Program} {Γ:Env}
noncomputable def zbl (op:BinOp) (k k':IntKind) (a b:Int):Option T :=
  match op with
  |.shl=>if 0≤b then some (.int k (k.wrap (a*2 ^ (min b.toNat k.bits)))) else none
  |.shr=>if 0≤b then some (.int k (a.fdiv (2 ^ (min b.toNat k.bits)))) else none
  |op=>bif Nat.beq (ikN k) (ikN k') then (match op with
    |.add=>some (.int k (k.wrap (a+b)))
    |.sub=>some (.int k (k.wrap (a - b)))
    |.mul=>some (.int k (k.wrap (a*b)))
    |.quo=>if b=0 then none else some (.int k (k.wrap (a.tdiv b)))
    |.rem=>if b=0 then none else some (.int k (a.tmod b))
    |.and=>some (.int k (k.wrap (BitVec.ofInt k.bits a &&& BitVec.ofInt k.bits b).toNat))
    |.or=>some (.int k (k.wrap (BitVec.ofInt k.bits a ||| BitVec.ofInt k.bits b).toNat))
    |.xor=>some (.int k (k.wrap (BitVec.ofInt k.bits a ^^^ BitVec.ofInt k.bits b).toNat))
    |.andNot=>some (.int k (k.wrap (BitVec.ofInt k.bits a &&& ~~~ BitVec.ofInt k.bits b).toNat))
    |.eql=>some (.bool (decide (a=b)))
    |.neq=>some (.bool (decide (a≠b)))
    |.lss=>some (.bool (decide (a<b)))
    |.leq=>some (.bool (decide (a≤b)))
    |.gtr=>some (.bool (decide (b<a)))
    |.geq=>some (.bool (decide (b≤a)))
    |_=>none) else none
theorem z9p {op:BinOp} {k k':IntKind} {a b:Int} {r:T} (h:zbl op k k' a b=some r):∃ v,VT A β (zaa s.obj) r v∧∀ {ρ:Operand→Value} {o:Oper} {t t2:TypeId} {x y:Operand} {s:CS},o.op=.binOp op t x y t2→ρ x=.int k a→ρ y=.int k' b→zi6 P Γ ρ o s t op (.int k a) (.int k' b)=some (v,s):=by
  unfold zbl at h;split at h
  · split at h
    · rename_i h0;cases h;exact ⟨_,.int _ _,fun ho hx hy=>zbj ho hx hy default (by simp only [binOp,Op.shift];rw [if_neg (by omega)]) rfl⟩
    · simp at h
  · split at h
    · rename_i h0;cases h;exact ⟨_,.int _ _,fun ho hx hy=>zbj ho hx hy default (by simp only [binOp,Op.shift];rw [if_neg (by omega)]) rfl⟩
    · simp at h
  · cases hq:Nat.beq (ikN k) (ikN k') with
    |false=>rw [hq] at h;simp at h
    |true =>
      rw [hq,cond_true] at h;have:=z1c hq;subst this;split at h
      · cases h;exact ⟨_,.int _ _,fun ho hx hy=>zbj ho hx hy default (by simp only [binOp,Op.intArith,ne_eq,not_true,if_false]) rfl⟩
      · cases h;exact ⟨_,.int _ _,fun ho hx hy=>zbj ho hx hy default (by simp only [binOp,Op.intArith,ne_eq,not_true,if_false]) rfl⟩
      · cases h;exact ⟨_,.int _ _,fun ho hx hy=>zbj ho hx hy default (by simp only [binOp,Op.intArith,ne_eq,not_true,if_false]) rfl⟩
      · split at h
        · simp at h
        · rename_i hb;cases h;exact ⟨_,.int _ _,fun ho hx hy=>zbj ho hx hy default (by simp only [binOp,Op.intDiv,ne_eq,not_true,if_false];rw [if_neg hb]) rfl⟩
      · split at h
        · simp at h
        · rename_i hb;cases h;exact ⟨_,.int _ _,fun ho hx hy=>zbj ho hx hy default (by simp only [binOp,Op.intDiv,ne_eq,not_true,if_false];rw [if_neg hb]) rfl⟩
      · cases h;exact ⟨_,.int _ _,fun ho hx hy=>zbj ho hx hy default (by simp only [binOp,Op.intBits,ne_eq,not_true,if_false]) rfl⟩
      · cases h;exact ⟨_,.int _ _,fun ho hx hy=>zbj ho hx hy default (by simp only [binOp,Op.intBits,ne_eq,not_true,if_false]) rfl⟩
      · cases h;exact ⟨_,.int _ _,fun ho hx hy=>zbj ho hx hy default (by simp only [binOp,Op.intBits,ne_eq,not_true,if_false]) rfl⟩
      · cases h;exact ⟨_,.int _ _,fun ho hx hy=>zbj ho hx hy default (by simp only [binOp,Op.intBits,ne_eq,not_true,if_false]) rfl⟩
      · cases h;exact ⟨_,.bool _,fun ho hx hy=>zbj ho hx hy default (by simp [binOp,Op.intCmp];rfl) rfl⟩
      · cases h;exact ⟨_,.bool _,fun ho hx hy=>zbj ho hx hy default (by simp [binOp,Op.intCmp]<;>rfl) rfl⟩
      · cases h;exact ⟨_,.bool _,fun ho hx hy=>zbj ho hx hy default (by simp [binOp,Op.intCmp]) rfl⟩
      · cases h;exact ⟨_,.bool _,fun ho hx hy=>zbj ho hx hy default (by simp [binOp,Op.intCmp]) rfl⟩
      · cases h;exact ⟨_,.bool _,fun ho hx hy=>zbj ho hx hy default (by simp [binOp,Op.intCmp]) rfl⟩
      · cases h;exact ⟨_,.bool _,fun ho hx hy=>zbj ho hx hy default (by simp [binOp,Op.intCmp]) rfl⟩
      · simp at h
noncomputable def zs7 (op:BinOp) (a b:ByteArray):Option T:=match op with
  |.eql=>some (.bool (decide (a=b)))
  |.neq=>some (.bool (!decide (a=b)))
  |.add=>if a.size+b.size≤9223372036854775807 then some (.str (a++b)) else none
  |_=>none
theorem z7b {op:BinOp} {a b:ByteArray} {r:T} (h:zs7 op a b=some r):∃ v,VT A β (zaa s.obj) r v∧∀ {ρ:Operand→Value} {o:Oper} {t t2:TypeId} {x y:Operand} {s:CS},o.op=.binOp op t x y t2→ρ x=.string a→ρ y=.string b→zi6 P Γ ρ o s t op (.string a) (.string b)=some (v,s):=by
  unfold zs7 at h;split at h
  · cases h;exact ⟨_,.bool _,fun ho hx hy=>zkl ho hx hy rfl (fun d=>zwd d a) rfl rfl (by unfold eqGuard;simp) (by show some _=_;rw [z7a]) rfl⟩
  · cases h;exact ⟨_,.bool _,fun ho hx hy=>zkl ho hx hy rfl (fun d=>zwd d a) rfl rfl (by unfold eqGuard;simp) (by show some _=_;rw [z7a]) rfl⟩
  · split at h
    · rename_i hs;cases h
      exact ⟨_,.str _,fun ho hx hy=>zkl ho hx hy rfl (fun d=>zwd d a) rfl rfl (by unfold eqGuard;simp) (by
        show zb9 P (Op.stringOp .add a b)=_;unfold Op.stringOp;simp only
        rw [if_neg (by have : IntKind.i64.max = 9223372036854775807 := by decide
                       omega)]
        rfl) rfl⟩
    · simp at h
  · simp at h
theorem zai {α γ:Type} {f:α→Sem γ}:∀ {m:Sem α},zb9 P (m >>= f)=(zb9 P m).bind fun v=>zb9 P (f v):=by
  intro m
  induction m with
  |pure a=>rfl
  |program k ih=>exact ih P
  |_=>rfl
theorem z5t {ρ:Operand→Value} {t t2:TypeId} {x y:Operand} {op:BinOp} {v w r:Value} {o:Oper} (ho:o.op=.binOp op t x y t2) (hx:ρ x=v) (hy:ρ y=w) (hc:binC op v w=none) (hn:∀ d,nilT d v=none) (hpv:zao 3 v=true) (hpw:zao 3 w=true)
    (hr:zb9 P (do eqGuard op t x y v w;binOp op t v w)=some r) (hp:zao 3 r=true):zi6 P Γ ρ o s t op v w=some (r,s):=by
  unfold zi6;rw [hc];simp only;rw [z4c hn];simp only [ze6];unfold zkh
  have hops:(o.op.operands.toList.all fun z=>zao 3 (ρ z))=true:=by
    rw [ho];simp [Op.operands,hx,hy,hpv,hpw]
  rw [hops]
  have he:execOp ρ o=((do eqGuard op t x y v w;binOp op t v w) >>= fun z=>pure (Next.value z)):=by
    unfold execOp;rw [ho];simp only [hx,hy]
  rw [he]
  have hv:zb9 P ((do eqGuard op t x y v w;binOp op t v w) >>= fun z=>pure (Next.value z))=some (.value r):=by
    rw [zai,hr];rfl
  simp only [cond_true];rw [hv];show retC s (bif zao 3 r then some r else none)=some (r,s);rw [hp];rfl
def yb0:T→Option Value
  |.int k n=>some (.int k n)
  |.bool b=>some (.bool b)
  |.str b=>some (.string b)
  |_=>none
def zfs:List T→Option (List Value)
  |[]=>some []
  |t :: l=>match yb0 t,zfs l with|some v,some r=>some (v :: r)|_,_=>none
theorem ybz {g:Nat→Fam} {t:T} {v w:Value} (h:yb0 t=some w) (hv:VT A β g t v):v=w∧∀ n,zao n v=true:=by
  unfold yb0 at h;split at h
  · cases h;cases hv;exact ⟨rfl,fun n=>by cases n<;>rfl⟩
  · cases h;cases hv;exact ⟨rfl,fun n=>by cases n<;>rfl⟩
  · cases h;cases hv;exact ⟨rfl,fun n=>by cases n<;>rfl⟩
  · simp at h
theorem zqj {g:Nat→Fam}:∀ {l:List T} {vs ws:List Value},zfs l=some ws→VL A β g l vs→vs=ws∧vs.all (zao 2)=true
  |[],_,ws,h,.nil=>by simp only [zfs,Option.some.injEq] at h;subst h;exact ⟨rfl,rfl⟩
  |t :: l,_,ws,h,.cons h1 h2=>by
    unfold zfs at h;split at h
    · rename_i v r e1 e2;cases h;obtain ⟨a,b⟩:=ybz e1 h1;obtain ⟨c,d⟩:=zqj e2 h2;rw [a,c] at *;exact ⟨rfl,by rw [List.all_cons,b 2,d];rfl⟩
    · simp at h
noncomputable def zu5 (P:Program) (t:TypeId) (op:BinOp) (x y:Operand) (a b:List T):Option T:=match zfs a,zfs b with
  |some va,some vb=>(match zb9 P (do eqGuard op t x y (.agg ⟨va⟩) (.agg ⟨vb⟩);binOp op t (.agg ⟨va⟩) (.agg ⟨vb⟩)) with
    |some (.bool r)=>some (.bool r)
    |_=>none)
  |_,_=>none
theorem z80 (d:TypeDesc) (a:Array Value):nilT d (.agg a)=none:=by cases d<;>rfl
noncomputable def tNil (S:TS):TypeDesc→T→Option Bool
  |.pointer _,.nilp=>some true
  |.pointer _,.ptr b _ N=>bif S.has b N then some false else none
  |.pointer _,.cp _=>some false
  |.slice _,.nils=>some true
  |.slice _,.arr b _ _ _ _ N=>bif S.has b N && Nat.blt 0 N then some false else none
  |.slice _,.lst _ (_ :: _)=>some false
  |.slice _,.emp _=>some false
  |.map _ _,.nilm=>some true
  |.func _ _ _,.nilf=>some true
  |.func _ _ _,.fn _ _ _=>some false
  |_,_=>none
theorem z64 (h:TRel GL A β S s) {d:TypeDesc} {t:T} {v:Value} {b:Bool} (hv:VT A β (zaa s.obj) t v) (ht:tNil S d t=some b):nilT d v=some b:=by
  unfold tNil at ht;split at ht
  · cases ht;cases hv;rfl
  · rename_i b' _ N
    cases hs:S.has b' N with
    |false=>rw [hs] at ht;simp at ht
    |true =>
      rw [hs] at ht;cases ht;obtain ⟨z,l,hS⟩:=TS.has_ok hs;obtain ⟨f,u,rfl,hb⟩:=zhu h hS hv;rfl
  · cases ht;cases hv;rfl
  · cases ht;cases hv;rfl
  · rename_i b' _ _ _ _ N
    cases hs:(S.has b' N && Nat.blt 0 N) with
    |false=>rw [hs] at ht;simp at ht
    |true =>
      rw [hs] at ht;cases ht;simp only [Bool.and_eq_true] at hs;obtain ⟨z,l,hS⟩:=TS.has_ok hs.1;have:=zab.1 hs.2;rcases zfa h hS hv with ⟨f,u,rfl,hb,htag⟩|⟨rfl,hb,rfl,rfl,rfl,rfl⟩
      · rfl
      · omega
  · cases ht;cases hv;rfl
  · cases ht;cases hv;rfl
  · cases ht;cases hv;rfl
  · cases ht;cases hv;rfl
  · cases ht;cases hv;rfl
  · simp at ht
noncomputable def tBin (P:Program) (Γ:Env) (S:TS) (t:TypeId) (op:BinOp) (x y:Operand) (a b:T):Option T:=match a,b with
  |.int k m,.int k' n=>zbl op k k' m n
  |.str m,.str n=>zs7 op m n
  |.bool m,.bool n=>(match Γ.ti.at t with
    |some i=>(match i.desc,op with|.bool,.eql=>some (.bool (m == n))|.bool,.neq=>some (.bool (!(m == n)))|_,_=>none)
    |none=>none)
  |.agg m,.agg n=>zu5 P t op x y m n
  |a,b=>(match Γ.ti.at t with
    |some i=>(match tNil S i.desc a,tNil S i.desc b with
      |some p,some q=>bif p || q then (match op with|.eql=>some (.bool (p && q))|.neq=>some (.bool (!(p && q)))|_=>none) else none
      |_,_=>none)
    |none=>none)
theorem z45 {op:BinOp} {v w:Value} {d:TypeDesc} {p:Bool} (h:nilT d v=some p):binC op v w=none:=by
  unfold nilT at h;split at h<;>first | (simp at h;done)|rfl
theorem yg8 (hE:zcl P Γ) (h:TRel GL A β S s) {t t2:TypeId} {op:BinOp} {x y:Operand} {o:Oper} {a b r:T} {ρ:Operand→Value} (ho:o.op=.binOp op t x y t2) (hx:VT A β (zaa s.obj) a (ρ x)) (hy:VT A β (zaa s.obj) b (ρ y)) (ht:tBin P Γ S t op x y a b=some r):Ok0 GL A β S s (zi6 P Γ ρ o s t op (ρ x) (ρ y)) r:=by
  unfold tBin at ht;split at ht
  · rename_i k m k' n;obtain ⟨v,h1,h2⟩:=z9p (A:=A) (β:=β) (s:=s) (P:=P) (Γ:=Γ) ht;generalize e1:ρ x=vx at hx;generalize e2:ρ y=vy at hy;cases hx;cases hy;rw [h2 ho e1 e2];exact Ok0.same h h1
  · rename_i m n;obtain ⟨v,h1,h2⟩:=z7b (A:=A) (β:=β) (s:=s) (P:=P) (Γ:=Γ) ht;generalize e1:ρ x=vx at hx;generalize e2:ρ y=vy at hy;cases hx;cases hy;rw [h2 ho e1 e2];exact Ok0.same h h1
  · rename_i m n;generalize e1:ρ x=vx at hx;generalize e2:ρ y=vy at hy;cases hx;cases hy;split at ht
    · rename_i i hi;have hd:=(hE.ti _ _ hi).und;split at ht
      · rename_i hdb;cases ht;rw [hdb] at hd
        rw [zkl ho e1 e2 rfl (fun d=>zyc d m) rfl rfl (by unfold eqGuard;simp) (r:=.bool (m == n)) (by
          show zb9 P (do pure (Value.bool (← Op.equal t (.bool m) (.bool n))):Sem Value)=_
          rw [zft (zj3 hd)];rfl) rfl]
        exact Ok0.same h (.bool _)
      · rename_i hdb;cases ht;rw [hdb] at hd
        rw [zkl ho e1 e2 rfl (fun d=>zyc d m) rfl rfl (by unfold eqGuard;simp) (r:=.bool (!(m == n))) (by
          show zb9 P (do pure (Value.bool (!(← Op.equal t (.bool m) (.bool n)))):Sem Value)=_
          rw [zft (zj3 hd)];rfl) rfl]
        exact Ok0.same h (.bool _)
      · simp at ht
    · simp at ht
  · rename_i m n;generalize e1:ρ x=vx at hx;generalize e2:ρ y=vy at hy;cases hx;cases hy;rename_i va ha vb hb;unfold zu5 at ht;split at ht
    · rename_i wa wb h1 h2;obtain ⟨rfl,k1⟩:=zqj h1 ‹VL A β (zaa s.obj) m _›;obtain ⟨rfl,k2⟩:=zqj h2 ‹VL A β (zaa s.obj) n _›;split at ht
      · rename_i r' hr;cases ht;rw [z5t ho e1 e2 rfl (fun d=>z80 d _) k1 k2 hr rfl];exact Ok0.same h (.bool _)
      · simp at ht
    · simp at ht
  · split at ht
    · rename_i i hi;split at ht
      · rename_i p q h1 h2
        cases hpq:(p || q) with
        |false=>rw [hpq] at ht;simp at ht
        |true =>
          rw [hpq] at ht;simp only [cond_true] at ht;have n1:=z64 h hx h1;have n2:=z64 h hy h2;split at ht
          · cases ht
            have:zi6 P Γ ρ o s t .eql (ρ x) (ρ y)=some (.bool (p && q),s):=by
              unfold zi6;rw [z45 n1];simp only;unfold eqC;simp only [hi,n1,n2];unfold nilC;simp only [hpq,cond_true];simp [ze6]
            rw [this];exact Ok0.same h (.bool _)
          · cases ht
            have:zi6 P Γ ρ o s t .neq (ρ x) (ρ y)=some (.bool (!(p && q)),s):=by
              unfold zi6;rw [z45 n1];simp only;unfold eqC;simp only [hi,n1,n2];unfold nilC;simp only [hpq,cond_true];simp [ze6]
            rw [this];exact Ok0.same h (.bool _)
          · simp at ht
      · simp at ht
    · simp at ht
noncomputable def tUn (op:UnOp):T→Option T
  |.bool b=>(match op with|.not=>some (.bool (!b))|_=>none)
  |.int k a=>(match op with
    |.neg=>some (.int k (k.wrap (0 - a)))
    |.xor=>some (.int k (k.wrap (BitVec.ofInt k.bits (if k.signed then -1 else k.max) ^^^ BitVec.ofInt k.bits a).toNat))
    |_=>none)
  |_=>none
theorem yi4 (h:TRel GL A β S s) {t:TypeId} {op:UnOp} {x:Operand} {o:Oper} {a r:T} {ρ:Operand→Value} (ho:o.op=.unOp op t x) (hx:VT A β (zaa s.obj) a (ρ x)) (ht:tUn op a=some r):Ok0 GL A β S s (ze6 P ρ o s (unC op (ρ x))) r:=by
  obtain ⟨d,opx,ty,pos,e,g⟩:=o;simp only at ho;subst ho;unfold tUn at ht;split at ht
  · rename_i b;generalize e1:ρ x=vx at hx;cases hx;split at ht
    · cases ht;exact Ok0.same h (.bool _)
    · simp at ht
  · rename_i k m;generalize e1:ρ x=vx at hx;cases hx;split at ht
    · cases ht;rw [yjj e1];exact Ok0.same h (.int _ _)
    · cases ht;rw [yji e1];exact Ok0.same h (.int _ _)
    · simp at ht
  · simp at ht
def zsc:List T→Option (List UInt8)
  |[]=>some []
  |.int .u8 k :: l=>(match zsc l with|some r=>some (UInt8.ofNat k.toNat :: r)|none=>none)
  |_ :: _=>none
theorem zz8 {g:Nat→Fam}:∀ {l:List T} {vs:List Value} {r:List UInt8},VL A β g l vs→zsc l=some r→zw7 vs=some r
  |[],_,r,.nil,h=>by simp only [zsc,Option.some.injEq] at h;subst h;rfl
  |t :: l,_,r,.cons h1 h2,h=>by
    unfold zsc at h;split at h
    · simp_all
    · rename_i k l' hh;cases hh;split at h
      · rename_i r' hr;cases h;cases h1;unfold zw7;rw [zz8 h2 hr]
      · simp at h
    · simp at h
noncomputable def tStr (Γ:Env) (S:TS) (d1 d2:TypeDesc) (x:T):Option T:=match d1,d2 with
  |.slice e,.string=>bif isU8 Γ e then (match tSrc S 1 x with
    |some (_,xs)=>(match zsc xs with|some r=>some (.str ⟨r.toArray⟩)|none=>none)
    |none=>none) else none
  |_,_=>none
theorem z0g (h:TRel GL A β S s) {src dst:TypeId} {x:Operand} {o:Oper} {a r:T} {ρ:Operand→Value} {i j:TI} (hi:Γ.ti.at src=some i) (hj:Γ.ti.at dst=some j) (hx:VT A β (zaa s.obj) a (ρ x)) (ht:tStr Γ S i.desc j.desc a=some r) (hsl:∀ n xs,tSrc S 1 a=some (n,xs)→∃ aa c m,ρ x=.slice aa m c):Ok0 GL A β S s (zc8 P Γ ρ o s src dst (ρ x)) r:=by
  unfold tStr at ht;split at ht
  · rename_i e hd1 hd2
    cases hq:isU8 Γ e with
    |false=>rw [hq] at ht;simp at ht
    |true =>
      rw [hq] at ht;simp only [cond_true] at ht;split at ht
      · rename_i n xs hsrc;obtain ⟨e1,e2,e3⟩:=zvh h (show 0<1 by omega) hx hsrc;obtain ⟨ys,s1,f1,f2,f3⟩:=e3 n (Nat.le_refl _);rw [List.take_of_length_le (by omega)] at f2;split at ht
        · rename_i r' hr';cases ht;obtain ⟨aa,c,m,hsl⟩:=hsl n xs hsrc;rw [hsl] at e1 f1 ⊢;simp only [lenC,Option.some.injEq] at e1;subst e1
          have:zc8 P Γ ρ o s src dst (.slice aa m c)=some (.string ⟨r'.toArray⟩,s1):=by
            unfold zc8;simp only [hi,hj,hd1,hd2,hq,cond_true];rw [f1];unfold strC;simp only [zz8 f2 hr']
          rw [this];exact Ok0.rd h (f3.rel0 h) (.str _)
        · simp at ht
      · simp at ht
  · simp at ht
noncomputable def zoh (Γ:Env) (S:TS) (src dst:TypeId) (x:T):Option T:=match Γ.ti.at src,Γ.ti.at dst with
  |some i,some j=>(match x with
    |.int _ n=>(match j.desc with|.int k=>some (.int k (k.wrap n))|_=>none)
    |.str b=>(match i.desc,j.desc with
      |.string,.slice e=>bif isU8 Γ e && Nat.ble b.size 1000000000 then some (.lst 1 (zf7 b)) else none
      |.string,.string=>some (.str b)
      |_,_=>none)
    |.lst e' l=>tStr Γ S i.desc j.desc (.lst e' l)
    |.arr b e' off len cap N=>tStr Γ S i.desc j.desc (.arr b e' off len cap N)
    |.nils=>tStr Γ S i.desc j.desc .nils
    |_=>none)
  |_,_=>none
theorem z4l {ρ:Operand→Value} {o:Oper} {src dst e:TypeId} {i j:TI} {b:ByteArray} (hi:Γ.ti.at src=some i) (hj:Γ.ti.at dst=some j) (hd1:i.desc=.string) (hd2:j.desc=.slice e) (hq:(isU8 Γ e && Nat.ble b.size 1000000000)=true):zc8 P Γ ρ o s src dst (.string b)=zgc b.size b.size (s.newRow 2 (zg8 b)):=by
  unfold zc8;simp only [hi,hj,hd1,hd2,hq,cond_true]
theorem zxh (hE:zcl P Γ) (h:TRel GL A β S s) {src dst:TypeId} {x:Operand} {o:Oper} {a r:T} {ρ:Operand→Value} (ho:o.op=.convert src dst x) (hx:VT A β (zaa s.obj) a (ρ x)) (ht:zoh Γ S src dst a=some r):Ok0 GL A β S s (zc8 P Γ ρ o s src dst (ρ x)) r:=by
  unfold zoh at ht;split at ht
  · rename_i i j hi hj;split at ht
    · rename_i k n;generalize e1:ρ x=vx at hx;cases hx;split at ht
      · rename_i k' hd;cases ht;obtain ⟨d,opx,ty,pos,e,g⟩:=o;simp only at ho;subst ho;have hs:=(hE.ti _ _ hi).und;have hdd:=(hE.ti _ _ hj).und;rw [hd] at hdd;unfold zc8;simp only [hi,hj,hd];rw [yjo ⟨k,e1⟩ (by rw [hs];rfl) hdd];exact Ok0.same h (.int _ _)
      · simp at ht
    · rename_i b;generalize e1:ρ x=vx at hx;cases hx;split at ht
      · rename_i e hd1 hd2
        cases hq:(isU8 Γ e && Nat.ble b.size 1000000000) with
        |false=>rw [hq] at ht;simp at ht
        |true =>
          rw [hq] at ht;cases ht;have hv:VL A β (zaa s.obj) (zf7 b) (zg8 b):=zp3 _;obtain ⟨s',A',k1,k2,k3,k4,k5⟩:=h.newFrozen 2 (by omega) hv;rw [z4l hi hj hd1 hd2 hq,k1];refine ⟨_,s',A',rfl,k4,?_,k5⟩
          have hfm:(zf7 b).flatMap T.cells=zf7 b:=by
            unfold zf7 ydm;rw [List.flatMap_map]
            have:∀ l:List UInt8,List.flatMap (fun (a:UInt8)=>(T.int IntKind.u8 (a.toNat:Int)).cells) l=l.map fun a=>.int .u8 (a.toNat:Int):=by
              intro l
              induction l with
              |nil=>rfl
              |cons c l ih=>rw [List.flatMap_cons,ih];rfl
            exact this _
          have hln:(zf7 b).length=b.size:=by simp [zf7]
          have:=VT.lst (A:=A') (β:=β) (g:=zaa s'.obj) (e:=1) (off:=0) (cap:=b.size) (l:=zf7 b) k2 k3 (by rw [hfm];exact k5.stp.vl h hv) (fun t ht=>by
            obtain ⟨c,_,rfl⟩:=List.mem_map.1 ht
            rfl) (by omega) (by rw [List.drop_zero,List.take_length]) (.inr (by omega)) (by omega)
          rw [hln] at this;exact this
      · rename_i hd1 hd2;cases ht
        have:zc8 P Γ ρ o s src dst (.string b)=some (.string b,s):=by
          unfold zc8;simp only [hi,hj,hd1,hd2]
        rw [this];exact Ok0.same h (.str _)
      · simp at ht
    · refine z0g h hi hj hx ht fun n xs hs=>?_;generalize ρ x=vx at hx
      cases hx with
      |lnil=>exact ⟨_,_,_,rfl⟩
      |lst=>exact ⟨_,_,_,rfl⟩
    · rename_i b e' off len cap N;refine z0g h hi hj hx ht fun n xs hs=>?_;unfold tSrc at hs;simp only at hs;split at hs
      · rename_i z N' l hS
        cases hq:(Nat.beq N N' && (Nat.beq e' 1 && Nat.ble (off+len*1) N)) with
        |false=>rw [hq] at hs;simp at hs
        |true =>
          simp only [Bool.and_eq_true] at hq;have:=Nat.eq_of_beq_eq_true hq.1;subst this;rcases zfa h hS hx with ⟨f,u,h1,hb,_⟩|⟨h1,_⟩
          · exact ⟨_,_,_,h1⟩
          · exact ⟨_,_,_,h1⟩
      · simp at hs
    · refine z0g h hi hj hx ht fun n xs hs=>?_;generalize ρ x=vx at hx;cases hx;exact ⟨_,_,_,rfl⟩
    · simp at ht
  · simp at ht
noncomputable def zph (Γ:Env) (S:TS) (src dst:TypeId) (x:T):Option (T×TS):=match Γ.ti.at src,Γ.ti.at dst,x with
  |some i,some j,.str b=>(match i.desc,j.desc with
    |.string,.slice e=>bif isU8 Γ e && Nat.ble b.size 1000000000 then some (.arr S.n 1 0 b.size b.size (zf7 b).length,S.add (.cells false (zf7 b).length (zf7 b))) else none
    |_,_=>none)
  |_,_,_=>none
theorem z0j (h:TRel GL A β S s) {src dst:TypeId} {x:Operand} {o:Oper} {a r:T} {ρ:Operand→Value} (hx:VT A β (zaa s.obj) a (ρ x)) (ht:zph Γ S src dst a=some (r,S')):Ok GL A β s (zc8 P Γ ρ o s src dst (ρ x)) r S':=by
  unfold zph at ht;split at ht
  · rename_i i j b hi hj;generalize e1:ρ x=vx at hx;cases hx;split at ht
    · rename_i e hd1 hd2
      cases hq:(isU8 Γ e && Nat.ble b.size 1000000000) with
      |false=>rw [hq] at ht;simp at ht
      |true =>
        rw [hq] at ht;cases ht;have hv:VL A β (zaa s.obj) (zf7 b) (zg8 b):=zp3 _
        have hone:(zf7 b).all T.one=true:=by
          unfold zf7 ydm;rw [List.all_eq_true];intro t ht;obtain ⟨c,_,rfl⟩:=List.mem_map.1 ht;rfl
        obtain ⟨s',β',k1,k2,k3,k4⟩:=h.newBox 2 (by omega) hv (hv.one hone);rw [z4l hi hj hd1 hd2 hq,k1];exact ⟨_,s',A,β',rfl,k3,.arr k2 (.inr (by omega)),k4⟩
    · simp at ht
  · simp at ht
end
end
section
open Go Go.RowKit
noncomputable def zi8 (Γ:Env) (t:TypeId) (k:T):Bool:=match Γ.ti.at t with
  |some i=>(match i.desc,k with|.int a,.int b _=>Nat.beq (ikN a) (ikN b)|.string,.str _=>true|.bool,.bool _=>true|_,_=>false)
  |none=>false
noncomputable def zog:T→T→Option Bool
  |.int k a,.int k' b=>bif Nat.beq (ikN k) (ikN k') then some (a == b) else none
  |.str a,.str b=>some (a.data.toList == b.data.toList)
  |.bool a,.bool b=>some (a == b)
  |_,_=>none
noncomputable def tGet (k:T):List (T×T)→Option (Option T)
  |[]=>some none
  |(k',v) :: l=>match zog k k' with
    |some true=>some (some v)
    |some false=>tGet k l
    |none=>none
noncomputable def tSet (k v:T):List (T×T)→Option (List (T×T))
  |[]=>some [(k,v)]
  |(k',v') :: l=>match zog k k' with
    |some true=>some ((k,v) :: l)
    |some false=>(match tSet k v l with|some l=>some ((k',v') :: l)|none=>none)
    |none=>none
noncomputable def zgr (i:TI):Option T:=bif aggT i.desc then (match zfb i.zero with|some l=>some (.agg l)|none=>none) else match i.zero with | [z]=>zje z|_=>none
def zy8 (ok:Bool) (z:T):Option T→T
  |some v=>bif ok then .tup [v,.bool true] else v
  |none=>bif ok then .tup [z,.bool false] else z
noncomputable def zdr (Γ:Env) (S:TS) (t:TypeId) (x k:T) (ok:Bool):Option T:=match Γ.ti.at t with
  |some i=>(match i.desc with
    |.map kt e=>bif zi8 Γ kt k then (match Γ.ti.at e with
      |some j=>(match zgr j with
        |some z=>(match x with
          |.nilm=>some (zy8 ok z none)
          |.mp b=>(match S.box b with|.map l=>(match tGet k l with|some r=>some (zy8 ok z r)|none=>none)|_=>none)
          |_=>none)
        |none=>none)
      |none=>none) else none
    |_=>none)
  |none=>none
noncomputable def za0 (Γ:Env) (S:TS) (t:TypeId) (k v m:T):Option TS:=match m,Γ.ti.at t with
  |.mp b,some i=>(match i.desc with
    |.map kt _=>bif zi8 Γ kt k then (match S.box b with|.map l=>(match tSet k v l with|some l'=>some (S.set b (.map l'))|none=>none)|_=>none) else none
    |_=>none)
  |_,_=>none
def zct (S:TS):Option (T×TS):=some (.mp S.n,S.add (.map []))
section
variable {GL:List (Nat×List Value)} {A A':Nat→Prop} {β β':Bx} {S S':TS} {s s':CS} {P:Program} {Γ:Env} {g g':Nat→Fam}
theorem z1a {t:TypeId} {k:T} {v:Value} (h:VT A β g k v) (hk:zi8 Γ t k=true):keyV Γ t v=true:=by
  unfold zi8 at hk;unfold keyV;split at hk
  · rename_i i hi;rw [hi];simp only;split at hk
    · rename_i hd;cases h;rw [hd];exact hk
    · rename_i hd;cases h;rw [hd]
    · rename_i hd;cases h;rw [hd]
    · simp at hk
  · simp at hk
theorem zpq {k k':T} {v v':Value} {r:Bool} (h:VT A β g k v) (h':VT A β g k' v') (hq:zog k k'=some r):z1b v v'=some r:=by
  unfold zog at hq;split at hq
  · cases h;cases h';rename_i k a k' b;show sel (Nat.beq (ikN k) (ikN k')) (some (a == b)) none=some r
    cases hb:Nat.beq (ikN k) (ikN k') with
    |true=>rw [hb,cond_true] at hq;rw [za2];exact hq
    |false=>rw [hb] at hq;simp at hq
  · cases h;cases h';exact hq
  · cases h;cases h';exact hq
  · simp at hq
def VO2 (A:Nat→Prop) (β:Bx) (g:Nat→Fam):Option T→Option Value→Prop
  |none,none=>True
  |some t,some v=>VT A β g t v
  |_,_=>False
theorem VM.cons_inv {k x:T} {l:List (T×T)} {es:List (Value×Value)} (h:VM A β g ((k,x) :: l) es):∃ v w es',es=(v,w) :: es'∧VT A β g k v∧VT A β g x w∧VM A β g l es':=by
  obtain ⟨h1,h2⟩:=h
  cases es with
  |nil=>cases h1
  |cons e es =>
    obtain ⟨v,w⟩:=e;simp only [List.map_cons] at h1 h2
    cases h1 with
    |cons a b =>
      cases h2 with
      |cons c d=>exact ⟨v,w,es,rfl,a,c,b,d⟩
theorem VM.nil_inv {es:List (Value×Value)} (h:VM A β g [] es):es=[]:=by
  obtain ⟨h1,_⟩:=h
  cases es with
  |nil=>rfl
  |cons e es=>cases h1
theorem VM.mk {k x:T} {v w:Value} {l:List (T×T)} {es:List (Value×Value)} (a:VT A β g k v) (c:VT A β g x w) (h:VM A β g l es):VM A β g ((k,x) :: l) ((v,w) :: es):=⟨.cons a h.1,.cons c h.2⟩
theorem zym {k:T} {v:Value} (hk:VT A β g k v):∀ {l:List (T×T)} {es:List (Value×Value)} {r:Option T},VM A β g l es→tGet k l=some r→∃ r',zln v es=some r'∧VO2 A β g r r'
  |[],es,r,h,hr=>by
    rw [VM.nil_inv h];simp only [tGet,Option.some.injEq] at hr;subst hr;exact ⟨none,rfl,trivial⟩
  |(k',x) :: l,es,r,h,hr=>by
    obtain ⟨v',w,es',rfl,h1,h2,h3⟩:=VM.cons_inv h;simp only [tGet] at hr;split at hr
    · rename_i hq;cases hr;refine ⟨some w,?_,h2⟩;simp only [zln,zpq hk h1 hq]
    · rename_i hq;obtain ⟨r',q1,q2⟩:=zym hk h3 hr;exact ⟨r',by simp only [zln,zpq hk h1 hq,q1],q2⟩
    · simp at hr
theorem zyl {k x:T} {v w:Value} (hk:VT A β g k v) (hx:VT A β g x w):∀ {l l':List (T×T)} {es:List (Value×Value)},VM A β g l es→tSet k x l=some l'→∃ es',zj2 v w es=some es'∧VM A β g l' es'
  |[],l',es,h,hr=>by
    rw [VM.nil_inv h];simp only [tSet,Option.some.injEq] at hr;subst hr;exact ⟨_,rfl,VM.mk hk hx ⟨.nil,.nil⟩⟩
  |(k',x') :: l,l',es,h,hr=>by
    obtain ⟨v',w',es',rfl,h1,h2,h3⟩:=VM.cons_inv h;simp only [tSet] at hr;split at hr
    · rename_i hq;cases hr;exact ⟨_,by simp only [zj2,zpq hk h1 hq],VM.mk hk hx h3⟩
    · rename_i hq;split at hr
      · rename_i l2 hs;cases hr;obtain ⟨es2,q1,q2⟩:=zyl hk hx h3 hs;exact ⟨_,by simp only [zj2,zpq hk h1 hq,q1],VM.mk h1 h2 q2⟩
      · simp at hr
    · simp at hr
theorem z6m {i:TI} {z:T} (h:zgr i=some z):∃ v,z0c i=some v∧VT A β g z v:=by
  unfold zgr at h;unfold z0c
  cases ha:aggT i.desc with
  |true =>
    rw [ha,cond_true] at h;split at h
    · rename_i l hl;cases h;exact ⟨_,rfl,.agg (by simpa using (zhn (A:=A) (β:=β) (g:=g) hl).1)⟩
    · simp at h
  |false =>
    rw [ha,cond_false] at h;split at h
    · rename_i z' hz;rw [hz];exact ⟨z',rfl,(zu9 h).1⟩
    · simp at h
theorem zy7 {ok:Bool} {z:T} {zv:Value} {r:Option T} {r':Option Value} (hz:VT A β g z zv) (h:VO2 A β g r r'):VT A β g (zy8 ok z r) (z37 ok zv r'):=by
  cases r<;>cases r'<;>simp only [VO2] at h
  · cases ok with
    |true=>exact .tup (.cons hz (.cons (.bool _) .nil))
    |false=>exact hz
  · cases ok with
    |true=>exact .tup (.cons h (.cons (.bool _) .nil))
    |false=>exact h
theorem yjq (hT:TRel GL A β S s) {b:Nat} {l:List (T×T)} {v:Value} (hb:S.box b=.map l) (h:VT A β (zaa s.obj) (.mp b) v):∃ r es,v=.map (some r)∧β b=some (.map r)∧zaa s.obj r=⟨false,[],some es⟩∧VM A β (zaa s.obj) l es:=by
  obtain ⟨r,es,q1,q2,q3⟩:=hT.maps b l hb
  cases h with
  |mp h=>rw [q1] at h;cases h;exact ⟨_,es,rfl,q1,q2,q3⟩
  |mpOld h _=>rw [q1] at h;simp at h
theorem z5b (hT:TRel GL A β S s) {t:TypeId} {x k r:T} {vx vk:Value} {ok:Bool} (hx:VT A β (zaa s.obj) x vx) (hk:VT A β (zaa s.obj) k vk) (ht:zdr Γ S t x k ok=some r):Ok0 GL A β S s (zhb Γ s t vx vk ok) r:=by
  unfold zdr at ht;split at ht
  · rename_i i hi;split at ht
    · rename_i kt e hd
      cases hkv:zi8 Γ kt k with
      |false=>rw [hkv] at ht;simp at ht
      |true =>
        rw [hkv,cond_true] at ht;split at ht
        · rename_i j hj;split at ht
          · rename_i z hz;obtain ⟨zv,z1,z2⟩:=z6m (A:=A) (β:=β) (g:=zaa s.obj) hz;split at ht
            · cases ht;cases hx
              have:zhb Γ s t (.map none) vk ok=some (z37 ok zv none,s):=by
                simp only [zhb,hi,hd,z1a hk hkv,za2,hj,z06,z1,zln]
              rw [this];exact Ok0.same hT (zy7 z2 trivial)
            · rename_i b;split at ht
              · rename_i l hb;split at ht
                · rename_i r0 hg;cases ht;obtain ⟨rr,es,rfl,q1,q2,q3⟩:=yjq hT hb hx;obtain ⟨r',g1,g2⟩:=zym hk q3 hg
                  have:zhb Γ s t (.map (some rr)) vk ok=some (z37 ok zv r',{ s with rd:=ins s.lim s.rd rr }):=by
                    simp only [zhb,hi,hd,z1a hk hkv,za2,hj,CS.readMap,q2,z06,z1,g1]
                  rw [this];exact Ok0.read hT (.inr (zfn q1)) (zy7 z2 g2)
                · simp at ht
              · simp at ht
            · simp at ht
          · simp at ht
        · simp at ht
    · simp at ht
  · simp at ht
theorem zme (hT:TRel GL A β S s) {t:TypeId} {k x m:T} {vk vx vm:Value} (hk:VT A β (zaa s.obj) k vk) (hx:VT A β (zaa s.obj) x vx) (hm:VT A β (zaa s.obj) m vm) (ht:za0 Γ S t k x m=some S'):Ok GL A β s (zd4 Γ s t vk vx vm) .junk S':=by
  unfold za0 at ht;split at ht
  · rename_i b i hi;split at ht
    · rename_i kt e hd
      cases hkv:zi8 Γ kt k with
      |false=>rw [hkv] at ht;simp at ht
      |true =>
        rw [hkv,cond_true] at ht;split at ht
        · rename_i l hb;split at ht
          · rename_i l' hs;cases ht;obtain ⟨r,es,rfl,q1,q2,q3⟩:=yjq hT hb hm;obtain ⟨es',g1,g2⟩:=zyl hk hx q3 hs;obtain ⟨gg,hin⟩:=hT.inr;have hobj:∀ f,zaa s.obj f=gg f:=fun f=>by rw [hin];rfl
            have hdis:=hT.dis r (zfn q1)
            have hw:zd4 Γ s t vk vx (.map (some r))=some (undef,{ s with obj:=.inr (fupd gg r ⟨false,[],some es'⟩),rd:=ins s.lim s.rd r,wr:=ins s.lim s.wr r }):=by
              have e1:zau s.obj r ⟨false,[],some es'⟩=.inr (fupd gg r ⟨false,[],some es'⟩):=by rw [hin,ze1]
              simp only [zd4,hi,hd,z1a hk hkv,za2,CS.setMap,CS.readMap,q2,zxp,g1,e1,zrz]
            have hcan:=zrb hT.inv hw;have hold:∀ f,f≠r→fupd gg r ⟨false,[],some es'⟩ f=zaa s.obj f:=fun f hf=>by rw [hobj];exact zg4 _ _ _ _ hf
            have hA:∀ f,A f→fupd gg r ⟨false,[],some es'⟩ f=zaa s.obj f:=fun f hf=>hold f fun h=>hdis.2 (h ▸ hf)
            have hoth:∀ {b':Nat} {l:Loc} {f:Nat},β b'=some l→l.fam=some f→b'≠b→fupd gg r ⟨false,[],some es'⟩ f=zaa s.obj f:=by
              intro b' l f hb2 hf hne;refine hold f fun hh=>hne ?_;subst hh;exact hT.inj b' b l _ f hb2 q1 hf rfl
            rw [hw];refine ⟨_,_,A,β,rfl,⟨⟨_,rfl⟩,hT.inv.next hcan,fun f hf=>hT.alt f hf,fun f hf=>hT.dis f hf,hT.inj,hT.next,fun b' z N l2 hb2=>?_,fun b' l2 hb2=>?_,fun y hy=>?_⟩,.junk _,hcan,fun _ h=>h,fun _ h=>.inl h,fun _ h=>.inl h,fun f hf hno=>?_,Bx.le_refl _,fun y hy=>?_,fun y hy=>?_⟩
            · by_cases hbb:b'=b
              · subst hbb;rw [TS.set_same] at hb2;cases hb2
              · rw [TS.set_ne _ _ hbb] at hb2;exact (hT.cells b' z N l2 hb2).mono (fun _ h=>h) hA (Bx.le_refl _) rfl fun f u N2 hl=>hoth hl rfl hbb
            · by_cases hbb:b'=b
              · subst hbb;rw [TS.set_same] at hb2;cases hb2;exact ⟨r,es',q1,zes _ _ _,g2.1.mono (fun _ h=>h) hA (Bx.le_refl _),g2.2.mono (fun _ h=>h) hA (Bx.le_refl _)⟩
              · rw [TS.set_ne _ _ hbb] at hb2;exact (hT.maps b' l2 hb2).mono (fun _ h=>h) hA (Bx.le_refl _) rfl fun r' hl=>hoth hl rfl hbb
            · have:=hT.glob y hy;refine ⟨this.1,?_⟩;show zbf (fupd gg r _ y.1).rows _=_;rw [hA _ this.1];exact this.2
            · show fupd gg r _ f=_;exact hold f fun hh=>hno (hh ▸ zfn q1)
            · rcases zjq hy with q|⟨rfl,q⟩
              · exact .inl q
              · exact .inr ⟨q,.inr (zfn q1)⟩
            · rcases zjq hy with q|⟨rfl,q⟩
              · exact .inl q
              · exact .inr ⟨q,zfn q1⟩
          · simp at ht
        · simp at ht
    · simp at ht
  · simp at ht
theorem z0h (h:TRel GL A β S s) {r:T} (ht:zct S=some (r,S')):Ok GL A β s (mapC s) r S':=by
  simp only [zct,Option.some.injEq,Prod.mk.injEq] at ht;obtain ⟨rfl,rfl⟩:=ht;obtain ⟨q1,q2,q3,q4⟩:=h.fresh ⟨false,[],some []⟩ rfl (fun p hp=>by simp at hp);have hb0:β S.n=none:=h.next _ (Nat.le_refl _)
  have hle:Bx.le β (bnew β S.n (.map s.n)):=zr8 hb0;have hat:∀ b,b≠S.n→bnew β S.n (.map s.n) b=β b:=fun b hb=>if_neg hb;have hat2:bnew β S.n (.map s.n) S.n=some (.map s.n):=if_pos rfl;have hold:∀ f,f<s.n→zaa (zau s.obj s.n ⟨false,[],some []⟩) f=zaa s.obj f:=fun f hf=>q3 f (by omega)
  have hkey:∀ b x,β b=some x→x.fam=some s.n→False:=fun b x hb hx=>by
    have:Own β s.n:=by
      cases x with
      |live f u N=>simp [Loc.fam] at hx;subst hx;exact zbw hb
      |map r=>simp [Loc.fam] at hx;subst hx;exact zfn hb
      |nil=>simp [Loc.fam] at hx
      |dead=>simp [Loc.fam] at hx
    have:=(h.dis _ this).1;omega
  have hm:mapC s=some (.map (some s.n),{ s with n:=s.n+1,obj:=zau s.obj s.n ⟨false,[],some []⟩ }):=by
    unfold mapC;have:zht s.obj s.n=true:=by obtain ⟨g,hg⟩:=h.inr;rw [hg];rfl
    rw [this,za2]
  rw [hm];refine ⟨_,_,A,bnew β S.n (.map s.n),rfl,⟨q1.inr,q1.inv,q1.alt,fun f hf=>?_,fun b b' x x' f hb hb' hx hx'=>?_,fun b hb=>?_,fun b z N x hb=>?_,fun b x hb=>?_,q1.glob⟩,.mp hat2,q2,fun _ h=>h,fun _ h=>.inl h,fun f hf=>?_,fun f hf _=>q3 f (by omega),hle,fun _ h=>.inl h,fun _ h=>.inl h⟩
  · obtain ⟨b,hb⟩:=hf;by_cases hbn:b=S.n
    · subst hbn;rw [hat2] at hb;rcases hb with ⟨u,N,hb⟩|hb
      · simp at hb
      · cases hb;exact ⟨by show s.n<s.n+1;omega,fun hA=>by have:=h.alt _ hA;omega⟩
    · rw [hat b hbn] at hb;exact q1.dis f ⟨b,hb⟩
  · by_cases e1:b=S.n<;>by_cases e2:b'=S.n
    · rw [e1,e2]
    · subst e1;rw [hat2] at hb;rw [hat b' e2] at hb';cases hb;simp [Loc.fam] at hx;subst hx;exact (hkey b' x' hb' hx').elim
    · subst e2;rw [hat2] at hb';rw [hat b e1] at hb;cases hb';simp [Loc.fam] at hx';subst hx';exact (hkey b x hb hx).elim
    · rw [hat b e1] at hb;rw [hat b' e2] at hb';exact h.inj b b' x x' f hb hb' hx hx'
  · have:S.n+1≤b:=hb;rw [hat b (by omega)];exact h.next b (by omega)
  · by_cases hbn:b=S.n
    · subst hbn;rw [TS.add_same] at hb;cases hb
    · rw [TS.add_ne _ _ hbn] at hb;exact (h.cells b z N x hb).mono (fun _ h=>h) (fun f hf=>hold f (h.alt f hf)) hle (hat b hbn) fun f u N hl=>hold f (h.dis f (zbw hl)).1
  · by_cases hbn:b=S.n
    · subst hbn;rw [TS.add_same] at hb;cases hb;exact ⟨s.n,[],hat2,q4,.nil,.nil⟩
    · rw [TS.add_ne _ _ hbn] at hb;exact (h.maps b x hb).mono (fun _ h=>h) (fun f hf=>hold f (h.alt f hf)) hle (hat b hbn) fun r hl=>hold r (h.dis r (zfn hl)).1
  · obtain ⟨b,hb⟩:=hf;by_cases hbn:b=S.n
    · subst hbn;rw [hat2] at hb;rcases hb with ⟨u,N,hb⟩|hb
      · simp at hb
      · cases hb;exact .inr (Nat.le_refl _)
    · rw [hat b hbn] at hb;exact .inl ⟨b,hb⟩
end
end
section
open Go Go.RowKit
noncomputable def zkv (v:Value):T:=match zje v with
  |some t=>t
  |none=>match v with
    |.agg cs=>(match zfb cs.toList with|some l=>.agg l|none=>.junk)
    |_=>.junk
noncomputable def z95:List (Nat×List Value)→Nat→T
  |[],_=>.junk
  |x :: l,k=>bif Nat.beq x.1 k then (match zfb x.2 with|some c=>.cp c|none=>.junk) else z95 l k
noncomputable def zcx (GL:List (Nat×List Value)) (h:Nat→T):Operand→T
  |.tmp t=>h t
  |.const v=>zkv v
  |.global k=>z95 GL k
  |.func f=>.fn f [] []
def tupd (h:Nat→T) (t:Nat) (v:T):Nat→T:=fun u=>if u=t then v else h u
theorem zgs (h:Nat→T) (t:Nat) (v:T):tupd h t v t=v:=if_pos rfl
theorem zj8 (h:Nat→T) (t u:Nat) (v:T) (hn:u≠t):tupd h t v u=h u:=if_neg hn
def putT (h:Nat→T):Option Tmp→T→Nat→T
  |some d,v=>tupd h d v
  |none,_=>h
noncomputable def zfc (S:TS):Option T→Option (T×TS)
  |some t=>some (t,S)
  |none=>none
noncomputable def zvd:Option TS→Option (T×TS)
  |some S=>some (.junk,S)
  |none=>none
noncomputable def ownD (own:List Nat) (d:Option Tmp):Bool:=match d with|some d=>has own d|none=>false
noncomputable def zj9 (Γ:Env) (S:TS) (ρ:Operand→T) (b:Builtin) (args:List Operand) (ts:List TypeId):Option T:=match b with
  |.len=>(match args,ts with | [x],[t]=>tLen Γ S t (ρ x)|_,_=>none)
  |.min=>(match args with | [x,y]=>(match ρ x,ρ y with|.int k a,.int _ b=>some (.int k (min a b))|_,_=>none)|_=>none)
  |.max=>(match args with | [x,y]=>(match ρ x,ρ y with|.int k a,.int _ b=>some (.int k (max a b))|_,_=>none)|_=>none)
  |_=>none
noncomputable def zec (P:Program) (Γ:Env) (ρ:Operand→T) (o:Oper) (S:TS):Option T :=
  match o.op with
  |.move x=>some (ρ x)
  |.assign x=>some (ρ x)
  |.pick c a b=>(match ρ c with|.bool t=>some (bif t then ρ a else ρ b)|_=>none)
  |.build t parts=>zis Γ ρ t parts.toList
  |.buildSlice t n parts=>zah Γ ρ t n parts.toList
  |.load t x=>zqa Γ S t (ρ x)
  |.nilCheck x=>zel S (ρ x)
  |.sliceToArrayPointer t x=>tS2A Γ S t (ρ x)
  |.makeFunc fn first captured=>(match fn with|.func f=>some (.fn f (first.toList.map ρ) (captured.toList.map ρ))|_=>none)
  |.slice t x lo hi mx=>zp9 Γ S t (ρ x) (lo.map ρ) (hi.map ρ) (mx.map ρ)
  |.fieldAddr t x k=>zad Γ S t k (ρ x)
  |.field t x k=>zxg Γ t k (ρ x)
  |.indexAddr t x ix=>zgg Γ S t (ρ x) (ρ ix)
  |.index t x ix=>zqb Γ t (ρ x) (ρ ix)
  |.extract x k=>zjg k (ρ x)
  |.unOp op _ x=>tUn op (ρ x)
  |.convert src dst x=>zoh Γ S src dst (ρ x)
  |.binOp op t x y _=>tBin P Γ S t op x y (ρ x) (ρ y)
  |.lookup t x k ok=>zdr Γ S t (ρ x) (ρ k) ok
  |.call c=>(match c.callee with
    |.builtin b=>zj9 Γ S ρ b c.args.toList c.argTypes.toList
    |_=>none)
  |_=>none
noncomputable def zd6 (P:Program) (Γ:Env) (own:List Nat) (ρ:Operand→T) (o:Oper) (S:TS):Option (T×TS) :=
  match o.op with
  |.alloc e=>zs6 Γ S e
  |.box _ x=>tBox S (ρ x)
  |.buildSlice t n parts=>bif ownD own o.dst then zas Γ S ρ t n parts.toList else zfc S (zah Γ ρ t n parts.toList)
  |.store t x v=>zvd (zs5 Γ S t (ρ v) (ρ x))
  |.makeSlice t l c=>zhg Γ S t (ρ l) (ρ c)
  |.convert src dst x=>bif ownD own o.dst then zph Γ S src dst (ρ x) else zfc S (zoh Γ S src dst (ρ x))
  |.makeMap _ none=>zct S
  |.mapUpdate t m k v=>zvd (za0 Γ S t (ρ k) (ρ v) (ρ m))
  |.insert t m k v=>zvd (za0 Γ S t (ρ k) (ρ v) (ρ m))
  |.call c=>(match c.callee with
    |.builtin .append=>(match c.args.toList,c.argTypes.toList with | [x,y],[t,tx]=>bif srcT Γ tx then znq Γ S t (ρ y) (ρ x) else none|_,_=>none)
    |.builtin .copy=>(match c.args.toList,c.argTypes.toList with | [x,y],[t,_]=>ybw Γ S t (ρ y) (ρ x)|_,_=>none)
    |.builtin b=>zfc S (zj9 Γ S ρ b c.args.toList c.argTypes.toList)
    |_=>none)
  |_=>zfc S (zec P Γ ρ o S)
section
variable {GL:List (Nat×List Value)} {A A' A2:Nat→Prop} {β β' β2:Bx} {S S':TS} {s s' s2:CS} {P:Program} {Γ:Env}
theorem VT.undf {g:Nat→Fam}:VT A β g (.tup []) undef:=VT.tup (vs:=[]) .nil
theorem yay {g:Nat→Fam} (v:Value):VT A β g (zkv v) v:=by
  unfold zkv;split
  · rename_i t ht;exact (zu9 ht).1
  · split
    · rename_i cs;split
      · rename_i l hl;obtain ⟨cs⟩:=cs;exact .agg (zhn hl).1
      · exact .junk _
    · exact .junk _
theorem z33 {g:Nat→Fam}:∀ (L:List (Nat×List Value)) (k:Nat),(∀ x,x∈L→A x.1∧zbf (g x.1).rows (x.1*1024)=some x.2)→VT A β g (z95 L k) (.pointer (some (mkA k (k*1024) 0)))
  |[],k,_=>.junk _
  |x :: l,k,h=>by
    unfold z95
    cases hb:Nat.beq x.1 k with
    |false=>exact z33 l k fun y hy=>h y (by simp [hy])
    |true =>
      have:=Nat.eq_of_beq_eq_true hb;subst this;simp only [cond_true];split
      · rename_i c hc;obtain ⟨h1,h2⟩:=h x (by simp);exact .cp h1 h2 (zhn hc).1 (by rw [List.drop_zero,List.take_length])
      · exact .junk _
structure FrOk (A:Nat→Prop) (β:Bx) (g:Nat→Fam) (N:Nat) (h:Nat→T) (fr:Fr):Prop where
  nt:fr.nt=N
  le:N≤512
  slot:∀ t,VT A β g (h t) (fr.get t)
theorem FrOk.mono {N:Nat} {h:Nat→T} {fr:Fr} {g g':Nat→Fam} (k:FrOk A β g N h fr) (hA:∀ f,A f→A' f) (hg:∀ f,A f→g' f=g f) (hβ:Bx.le β β'):FrOk A' β' g' N h fr:=⟨k.nt,k.le,fun t=>(k.slot t).mono hA hg hβ⟩
theorem FrOk.eval (hT:TRel GL A β S s) {N:Nat} {h:Nat→T} {fr:Fr} (k:FrOk A β (zaa s.obj) N h fr) (x:Operand):VT A β (zaa s.obj) (zcx GL h x) (ze4 fr x):=by
  cases x with
  |tmp t=>exact k.slot t
  |const v=>exact yay v
  |global g=>exact z33 GL g hT.glob
  |func f=>exact .fn .nil .nil
def ze8 (N:Nat) (ops:List Oper):Bool:=ops.all fun o=>match o.dst with|some d=>Nat.blt d N|none=>true
theorem FrOk.put {N:Nat} {h:Nat→T} {fr:Fr} {g:Nat→Fam} (k:FrOk A β g N h fr) {d:Option Tmp} (hd:∀ t,d=some t→t<N) {t:T} {v:Value} (hv:VT A β g t v):FrOk A β g N (putT h d t) (putC fr d v):=by
  cases d with
  |none=>exact k
  |some d =>
    have hdN:=hd d rfl;refine ⟨?_,k.le,fun u=>?_⟩
    · show (fr.put d v).nt=N;unfold Fr.put;rw [zbp];split<;>exact k.nt
    · show VT A β g (tupd h d t u) ((fr.put d v).get u);by_cases hu:u=d
      · subst hu;rw [zgs,Fr.get_put_same v (by rw [k.nt];exact hdN) (by rw [k.nt];exact k.le)];exact hv
      · rw [zj8 _ _ _ _ hu,Fr.get_put_other v (by rw [k.nt];exact k.le) (fun hh=>hu hh.symm)];exact k.slot u
theorem zsd {g:Nat→Fam} {ρT:Operand→T} {ρ:Operand→Value} (hρ:∀ x,VT A β g (ρT x) (ρ x)):∀ (l:List Operand),VL A β g (l.map ρT) (l.map ρ)
  |[]=>.nil
  |x :: l=>.cons (hρ x) (zsd hρ l)
theorem ybh {g:Nat→Fam} {ρT:Operand→T} {ρ:Operand→Value} (hρ:∀ x,VT A β g (ρT x) (ρ x)):∀ (l:Option Operand),VO A β g (l.map ρT) (l.map ρ)
  |none=>.none
  |some x=>.some (hρ x)
theorem zpf {r:Option T} {t:T} {S1 S2:TS} (h:zfc S1 r=some (t,S2)):r=some t∧S2=S1:=by
  unfold zfc at h;split at h
  · cases h;exact ⟨rfl,rfl⟩
  · simp at h
theorem zvc {r:Option TS} {t:T} {S2:TS} (h:zvd r=some (t,S2)):r=some S2∧t=.junk:=by
  unfold zvd at h;split at h
  · cases h;exact ⟨rfl,rfl⟩
  · simp at h
theorem zoi (hT:TRel GL A β S s) {ρT:Operand→T} {ρ:Operand→Value} (hρ:∀ x,VT A β (zaa s.obj) (ρT x) (ρ x)) {o:Oper} {b:Builtin} {args:Array Operand} {ts:Array TypeId} {r:T} (ho:o.op=.call ⟨.builtin b,args,ts⟩) (ht:zj9 Γ S ρT b args.toList ts.toList=some r):Ok0 GL A β S s (zer P Γ ρ o s b args.toList ts.toList) r:=by
  unfold zj9 at ht;split at ht
  · split at ht
    · rename_i x t e1 e2;rw [e1,e2];exact yg6 hT (hρ x) ht
    · simp at ht
  · split at ht
    · rename_i x y e1;split at ht
      · rename_i k a k' b' e2 e3;cases ht;obtain ⟨args⟩:=args;simp only at e1;subst e1;obtain ⟨d,opx,ty,pos,e,g⟩:=o;simp only at ho;subst ho;have h1:=hρ x;have h2:=hρ y;rw [e2] at h1;rw [e3] at h2;generalize f1:ρ x=vx at h1;generalize f2:ρ y=vy at h2;cases h1;cases h2;show Ok0 GL A β S s (zer P Γ ρ _ s .min [x,y] ts.toList) _;rw [o_min f1 f2];exact Ok0.same hT (.int _ _)
      · simp at ht
    · simp at ht
  · split at ht
    · rename_i x y e1;split at ht
      · rename_i k a k' b' e2 e3;cases ht;obtain ⟨args⟩:=args;simp only at e1;subst e1;obtain ⟨d,opx,ty,pos,e,g⟩:=o;simp only at ho;subst ho;have h1:=hρ x;have h2:=hρ y;rw [e2] at h1;rw [e3] at h2;generalize f1:ρ x=vx at h1;generalize f2:ρ y=vy at h2;cases h1;cases h2;show Ok0 GL A β S s (zer P Γ ρ _ s .max [x,y] ts.toList) _;rw [o_max f1 f2];exact Ok0.same hT (.int _ _)
      · simp at ht
    · simp at ht
  · simp at ht
theorem z16 (hE:zcl P Γ) (hT:TRel GL A β S s) {ρT:Operand→T} {ρ:Operand→Value} (hρ:∀ x,VT A β (zaa s.obj) (ρT x) (ρ x)) {call:zc0} {o:Oper} {r:T} (ht:zec P Γ ρT o S=some r):Ok0 GL A β S s (cop P Γ call ρ o s) r:=by
  unfold zec at ht;split at ht
  · rename_i x ho;cases ht;unfold cop;simp only [ho];exact Ok0.same hT (hρ x)
  · rename_i x ho;cases ht;unfold cop;simp only [ho];exact Ok0.same hT (hρ x)
  · rename_i c a b ho;split at ht
    · rename_i t hc;cases ht;unfold cop;simp only [ho];have h1:=hρ c;rw [hc] at h1;generalize f1:ρ c=vc at h1;cases h1;rw [yhj]
      cases t with
      |true=>exact Ok0.same hT (hρ a)
      |false=>exact Ok0.same hT (hρ b)
    · simp at ht
  · rename_i t parts ho;unfold cop;simp only [ho];exact z67 hT hρ ht
  · rename_i t n parts ho;unfold cop;simp only [ho];exact zka hT hρ ht
  · rename_i t x ho;unfold cop;simp only [ho];exact ybu hT (hρ x) ht
  · rename_i x ho;unfold cop;simp only [ho];exact zxf hT (hρ x) ht
  · rename_i t x ho;unfold cop;simp only [ho];exact yg5 hT (hρ x) ht
  · rename_i fn first captured ho
    split at ht
    · rename_i f;cases ht;unfold cop;simp only [ho];have e1:first.map ρ=⟨first.toList.map ρ⟩:=by rw [← Array.toList_map]
      have e2:captured.map ρ=⟨captured.toList.map ρ⟩:=by rw [← Array.toList_map]
      rw [e1,e2];exact Ok0.same hT (.fn (zsd hρ _) (zsd hρ _))
    · simp at ht
  · rename_i t x lo hi mx ho;unfold cop;simp only [ho];exact z63 hT (hρ x) (ybh hρ _) (ybh hρ _) (ybh hρ _) ht
  · rename_i t x k ho;unfold cop;simp only [ho];exact zvk hT (hρ x) ht
  · rename_i t x k ho;unfold cop;simp only [ho];exact z66 hT (hρ x) ht
  · rename_i t x ix ho;unfold cop;simp only [ho];exact zvj hT (hρ x) (hρ ix) ht
  · rename_i t x ix ho;unfold cop;simp only [ho];exact z65 hT (hρ x) (hρ ix) ht
  · rename_i x k ho;unfold cop;simp only [ho];exact z0i hT (hρ x) ht
  · rename_i op t x ho;unfold cop;simp only [ho];exact yi4 hT ho (hρ x) ht
  · rename_i src dst x ho;unfold cop;simp only [ho];exact zxh hE hT ho (hρ x) ht
  · rename_i op t x y t2 ho;unfold cop;simp only [ho];exact yg8 hE hT ho (hρ x) (hρ y) ht
  · rename_i t x k ok ho;unfold cop;simp only [ho];exact z5b hT (hρ x) (hρ k) ht
  · rename_i c ho;split at ht
    · rename_i b hc;obtain ⟨cal,args,tys⟩:=c;simp only at hc ht;subst hc;unfold cop;simp only [ho];exact zoi hT hρ ho ht
    · simp at ht
  · simp at ht
theorem zvl (hE:zcl P Γ) (hT:TRel GL A β S s) {own:List Nat} {ρT:Operand→T} {ρ:Operand→Value} (hρ:∀ x,VT A β (zaa s.obj) (ρT x) (ρ x)) {call:zc0} {o:Oper} {r:T} (ht:zd6 P Γ own ρT o S=some (r,S')):Ok GL A β s (cop P Γ call ρ o s) r S':=by
  unfold zd6 at ht;split at ht
  · rename_i e ho;unfold cop;simp only [ho];exact z69 hT ht
  · rename_i e x ho;unfold cop;simp only [ho];exact yg7 hT (hρ x) ht
  · rename_i t n parts ho;unfold cop;simp only [ho]
    cases hw:ownD own o.dst with
    |true=>rw [hw] at ht;exact zxi hT hρ ht
    |false =>
      rw [hw] at ht;obtain ⟨h1,rfl⟩:=zpf ht;exact (zka hT hρ h1).ok
  · rename_i t x v ho;obtain ⟨h1,rfl⟩:=zvc ht;unfold cop;simp only [ho];exact z62 hT (hρ x) (hρ v) h1
  · rename_i t l c ho;unfold cop;simp only [ho];exact zvi hT (hρ l) (hρ c) ht
  · rename_i src dst x ho;unfold cop;simp only [ho]
    cases hw:ownD own o.dst with
    |true=>rw [hw] at ht;exact z0j hT (hρ x) ht
    |false =>
      rw [hw] at ht;obtain ⟨h1,rfl⟩:=zpf ht;exact (zxh hE hT ho (hρ x) h1).ok
  · rename_i ho;unfold cop;simp only [ho];exact z0h hT ht
  · rename_i t m k v ho;obtain ⟨h1,rfl⟩:=zvc ht;unfold cop;simp only [ho];exact zme hT (hρ k) (hρ v) (hρ m) h1
  · rename_i t m k v ho;obtain ⟨h1,rfl⟩:=zvc ht;unfold cop;simp only [ho];exact zme hT (hρ k) (hρ v) (hρ m) h1
  · rename_i c ho;obtain ⟨cal,args,tys⟩:=c;simp only at ht;split at ht
    · split at ht
      · rename_i x y t tx e1 e2;unfold cop;simp only [ho];rw [e1,e2]
        cases hq:srcT Γ tx with
        |false=>rw [hq] at ht;simp at ht
        |true =>
          rw [hq,cond_true] at ht;rw [z8u hq];exact z5c hT (hρ x) (hρ y) ht
      · simp at ht
    · split at ht
      · rename_i x y t tx e1 e2;unfold cop;simp only [ho];rw [e1,e2];exact ybv hT (hρ x) (hρ y) ht
      · simp at ht
    · obtain ⟨h1,rfl⟩:=zpf ht;unfold cop;simp only [ho];exact (zoi hT hρ ho h1).ok
    · simp at ht
  · obtain ⟨h1,rfl⟩:=zpf ht;exact (z16 hE hT hρ h1).ok
end
def Call (P:Program) (Γ:Env) (GL:List (Nat×List Value)) (f:FuncId) (args:List T) (S:TS) (v:T) (S':TS):Prop :=
  ∀ A β s vargs,TRel GL A β S s→VL A β (zaa s.obj) args vargs→Ok GL A β s (zdk P Γ f vargs s) v S'
noncomputable def zgz (ops:List Oper) (h:Nat→T):Option (Nat×Bool)→Option Bool
  |none=>some true
  |some (j,want)=>match zl3 ops j with
    |some d=>(match h d with|.bool b=>some (b == want)|.tup _=>some false|_=>none)
    |none=>none
noncomputable def zw3 (P:Program) (Γ:Env) (GL:List (Nat×List Value)) (S:TS) (args:List T) (f:T) (r:T×TS):Option Prop:=match f with
  |.fn k first cap=>some (Call P Γ GL k (first++args++cap) S r.1 r.2)
  |_=>none
noncomputable def andT (p:Prop):Option (Prop×(Nat→T)×TS)→Option (Prop×(Nat→T)×TS)
  |some (q,h,S)=>some (p∧q,h,S)
  |none=>none
noncomputable def runT (P:Program) (Γ:Env) (GL:List (Nat×List Value)) (own:List Nat) (ops:List Oper):List Oper→(Nat→T)→TS→List (T×TS)→Option (Prop×(Nat→T)×TS)
  |[],h,S,_=>some (True,h,S)
  |o :: l,h,S,outs=>match zgz ops h o.guard with
    |none=>none
    |some false=>runT P Γ GL own ops l (putT h o.dst (.tup [])) S outs
    |some true=>match o.op with
      |.call ⟨.value f,args,tys⟩=>(match outs with
        |r :: outs=>(match zw3 P Γ GL S (args.toList.map (zcx GL h)) (zcx GL h f) r with
          |some p=>andT p (runT P Γ GL own ops l (putT h o.dst r.1) r.2 outs)
          |none=>none)
        |[]=>none)
      |_=>(match zd6 P Γ own (zcx GL h) o S with
        |some (t,S1)=>runT P Γ GL own ops l (putT h o.dst t) S1 outs
        |none=>none)
section
variable {GL:List (Nat×List Value)} {A A' A2:Nat→Prop} {β β' β2:Bx} {S S':TS} {s s' s2:CS} {P:Program} {Γ:Env}
theorem zgy {g:Nat→Fam} {ops:List Oper} {h:Nat→T} {N:Nat} {fr:Fr} {o:Oper} {b:Bool} (k:FrOk A β g N h fr) (hg:zgz ops h o.guard=some b):zcm ops fr o=b:=by
  unfold zgz at hg;unfold zcm;split at hg
  · rename_i hh;cases hg;rw [hh]
  · rename_i j want hh;rw [hh];split at hg
    · rename_i d hd;simp only [hd];split at hg
      · rename_i b' hb;have:=k.slot d;rw [hb] at this;generalize fr.get d=v at this;cases this;simp only [Option.some.injEq] at hg;exact hg
      · rename_i l hb;have:=k.slot d;rw [hb] at this;generalize fr.get d=v at this;cases this;simp only [Option.some.injEq] at hg;exact hg
      · simp at hg
    · simp at hg
def Left (GL:List (Nat×List Value)) (A:Nat→Prop) (β:Bx) (s:CS) (N:Nat) (fr':Fr) (s':CS) (h':Nat→T) (S':TS):Prop :=
  ∃ A' β',FrOk A' β' (zaa s'.obj) N h' fr'∧TRel GL A' β' S' s'∧Stp A β s A' β' s'
theorem Left.trans {N:Nat} {fr' fr2:Fr} {h' h2:Nat→T} {S2:TS} (hl:s.lim≤s.n) (hS:Stp A β s A' β' s') (k:Left GL A' β' s' N fr2 s2 h2 S2):Left GL A β s N fr2 s2 h2 S2:=by
  obtain ⟨A2,β2,k1,k2,k3⟩:=k;exact ⟨A2,β2,k1,k2,hS.trans hl k3⟩
theorem z0t (hE:zcl P Γ) {own:List Nat} {ops:List Oper} {N:Nat}:∀ {l:List Oper} {h h':Nat→T} {S S':TS} {outs:List (T×TS)} {ob:Prop} {A:Nat→Prop} {β:Bx} {fr:Fr} {s:CS},ze8 N l=true→FrOk A β (zaa s.obj) N h fr→TRel GL A β S s→runT P Γ GL own ops l h S outs=some (ob,h',S')→ob →
    ∃ fr' s',runC P Γ (zdk P Γ) ops l fr s=some (fr',s')∧Left GL A β s N fr' s' h' S'
  |[],h,h',S,S',outs,ob,A,β,fr,s,hd,hF,hT,hr,hob=>by
    simp only [runT,Option.some.injEq,Prod.mk.injEq] at hr;obtain ⟨rfl,rfl,rfl⟩:=hr;exact ⟨fr,s,rfl,A,β,hF,hT,Stp.refl⟩
  |o :: l,h,h',S,S',outs,ob,A,β,fr,s,hd,hF,hT,hr,hob=>by
    have hd':ze8 N l=true∧∀ t,o.dst=some t→t<N:=by
      unfold ze8 at hd ⊢;rw [List.all_cons,Bool.and_eq_true] at hd;refine ⟨hd.2,fun t ht=>?_⟩;have:=hd.1;rw [ht] at this;exact zab.1 this
    -- one step that is done
    have go:∀ {t:T} {S1:TS} {r:Option (Value×CS)} {l':List (T×TS)} {ob':Prop},Ok GL A β s r t S1→(cop P Γ (zdk P Γ) (ze4 fr) o s=r)→zcm ops fr o=true→runT P Γ GL own ops l (putT h o.dst t) S1 l'=some (ob',h',S')→ob'→∃ fr' s',runC P Γ (zdk P Γ) ops (o :: l) fr s=some (fr',s')∧Left GL A β s N fr' s' h' S':=by
      rintro t S1 r l' ob' ⟨v,s1,A1,β1,rfl,k1,k2,k3⟩ hc hw hrun hob';have hF1:FrOk A1 β1 (zaa s1.obj) N h fr:=hF.mono k3.sub (k3.old hT) k3.bx;obtain ⟨fr',s',e1,e2⟩:=z0t hE hd'.1 (hF1.put hd'.2 k2) k1 hrun hob';refine ⟨fr',s',?_,Left.trans (h':=h) (fr':=fr) hT.le k3 e2⟩;rw [runC]
      have:zb4 P Γ (zdk P Γ) ops o fr s=some (putC fr o.dst v,s1):=by
        unfold zb4;rw [hw,cond_true,hc]
      rw [this];exact e1
    unfold runT at hr;split at hr
    · simp at hr
    · rename_i hg;have hw:=zgy hF hg;obtain ⟨fr',s',e1,e2⟩:=z0t hE hd'.1 (hF.put hd'.2 VT.undf) hT hr hob;refine ⟨fr',s',?_,e2⟩;rw [runC]
      have:zb4 P Γ (zdk P Γ) ops o fr s=some (putC fr o.dst undef,s):=by
        unfold zb4;rw [hw,cond_false]
      rw [this];exact e1
    · rename_i hg;have hw:=zgy hF hg;split at hr
      · rename_i f args tys ho;split at hr
        · rename_i r outs';split at hr
          · rename_i p hp;unfold zw3 at hp;split at hp
            · rename_i k first cap hf
              simp only [Option.some.injEq] at hp;subst hp
              cases hrun:runT P Γ GL own ops l (putT h o.dst r.1) r.2 outs' with
              |none=>rw [hrun] at hr;simp [andT] at hr
              |some q =>
                obtain ⟨q1,q2,q3⟩:=q;rw [hrun] at hr;simp only [andT,Option.some.injEq,Prod.mk.injEq] at hr;obtain ⟨rfl,rfl,rfl⟩:=hr;have hfv:=hF.eval hT f;rw [hf] at hfv;generalize e1:ze4 fr f=vf at hfv
                cases hfv with
                |fn h1 h2 =>
                  rename_i va vc;have hargs:=zsd (hF.eval hT) args.toList;have hcall:=hob.1 A β s _ hT ((h1.append hargs).append h2);refine go hcall ?_ hw hrun hob.2;unfold cop;simp only [ho,e1];unfold zj1;rfl
            · simp at hp
          · simp at hr
        · simp at hr
      · split at hr
        · rename_i t S1 hst;exact go (zvl hE hT (hF.eval hT) hst) rfl hw hr hob
        · simp at hr
end
end
section
open Go Go.RowKit
section
variable {GL:List (Nat×List Value)} {A A' A2:Nat→Prop} {β β' β2:Bx} {S S' S2:TS} {s s' s2:CS} {P:Program} {Γ:Env} {N:Nat} {h h' h2:Nat→T} {Q R:Exit→(Nat→T)→TS→Prop}
def TW (P:Program) (Γ:Env) (GL:List (Nat×List Value)) (N:Nat) (c:Code) (h:Nat→T) (S:TS) (Q:Exit→(Nat→T)→TS→Prop):Prop :=
  ∀ A β fr s,FrOk A β (zaa s.obj) N h fr→TRel GL A β S s→W P Γ c fr s fun e fr' s'=>∃ h' S',Left GL A β s N fr' s' h' S'∧Q e h' S'
def onT (k:(Nat→T)→TS→Prop) (Q:Exit→(Nat→T)→TS→Prop) (e:Exit) (h:Nat→T) (S:TS):Prop:=match e with
  |.normal=>k h S
  |e=>Q e h S
def onTB (id:Nat) (Q:Exit→(Nat→T)→TS→Prop) (e:Exit) (h:Nat→T) (S:TS):Prop:=match e with
  |.exit i=>bif Nat.beq i id then Q .normal h S else Q (.exit i) h S
  |e=>Q e h S
theorem Left.refl {fr:Fr} (hF:FrOk A β (zaa s.obj) N h fr) (hT:TRel GL A β S s):Left GL A β s N fr s h S:=⟨A,β,hF,hT,Stp.refl⟩
theorem TW.mono {c:Code} (k:TW P Γ GL N c h S Q) (hq:∀ e h S,Q e h S→R e h S):TW P Γ GL N c h S R:=fun A β fr s hF hT =>
  (k A β fr s hF hT).mono fun e fr' s' ⟨h',S',h1,h2⟩=>⟨h',S',h1,hq _ _ _ h2⟩
theorem TW.skip (k:Q .normal h S):TW P Γ GL N .skip h S Q:=fun A β fr s hF hT=>W.skip ⟨h,S,Left.refl hF hT,k⟩
theorem TW.ret (k:Q .ret h S):TW P Γ GL N .ret h S Q:=fun A β fr s hF hT=>W.ret ⟨h,S,Left.refl hF hT,k⟩
theorem TW.exit {id:Nat} (k:Q (.exit id) h S):TW P Γ GL N (.exit id) h S Q:=fun A β fr s hF hT=>W.exit ⟨h,S,Left.refl hF hT,k⟩
theorem TW.label {l:Nat} (k:Q .normal h S):TW P Γ GL N (.label l) h S Q:=fun A β fr s hF hT=>W.label ⟨h,S,Left.refl hF hT,k⟩
theorem TW.seq {a b:Code} (k:TW P Γ GL N a h S (onT (fun h S=>TW P Γ GL N b h S Q) Q)):TW P Γ GL N (.seq a b) h S Q:=fun A β fr s hF hT=>by
  refine W.seq ((k A β fr s hF hT).mono ?_);rintro e fr' s' ⟨h',S',⟨A',β',k1,k2,k3⟩,hq⟩
  cases e with
  |normal =>
    refine (hq A' β' fr' s' k1 k2).mono ?_;rintro e2 fr2 s2 ⟨h2,S2,l2,q2⟩;exact ⟨h2,S2,Left.trans (h':=h) (fr':=fr) hT.le k3 l2,q2⟩
  |_=>exact ⟨h',S',⟨A',β',k1,k2,k3⟩,hq⟩
theorem TW.cond {c:Operand} {t f:Code} {b:Bool} (hb:zcx GL h c=.bool b) (k:TW P Γ GL N (bif b then t else f) h S Q):TW P Γ GL N (.cond c t f) h S Q:=fun A β fr s hF hT=>by
  have:=hF.eval hT c;rw [hb] at this;refine W.cond (b:=b) ?_ (k A β fr s hF hT);generalize ze4 fr c=v at this;cases this;rfl
theorem TW.block {id:Nat} {b:Code} (k:TW P Γ GL N b h S (onTB id Q)):TW P Γ GL N (.block id b) h S Q:=fun A β fr s hF hT=>by
  refine W.block ((k A β fr s hF hT).mono ?_);rintro e fr' s' ⟨h',S',l,hq⟩
  cases e with
  |exit i =>
    simp only [onB];simp only [onTB] at hq
    cases hb:Nat.beq i id with
    |true=>rw [hb] at hq;exact ⟨h',S',l,hq⟩
    |false=>rw [hb] at hq;exact ⟨h',S',l,hq⟩
  |_=>exact ⟨h',S',l,hq⟩
theorem TW.scope {b:Code} (k:TW P Γ GL N b h S Q):TW P Γ GL N (.scope b) h S Q:=fun A β fr s hF hT=>W.scope (k A β fr s hF hT)
theorem TW.loop {b:Code} (I:Nat→(Nat→T)→TS→Prop) (hb:∀ n h S,I n h S→TW P Γ GL N b h S (onT (fun h S=>∃ m,m<n∧I m h S) Q)):∀ n h S,I n h S→TW P Γ GL N (.loop b) h S Q:=by
  intro n
  induction n using Nat.strongRecOn with
  |_ n ih =>
    intro h S hI A β fr s hF hT;obtain ⟨e,fr1,s1,h1,h',S',⟨A',β',k1,k2,k3⟩,hq⟩:=hb n h S hI A β fr s hF hT
    cases e with
    |normal =>
      obtain ⟨m,hm,hI'⟩:=hq;obtain ⟨e2,fr2,s2,h3,h2,S2,l2,q2⟩:=ih m hm h' S' hI' A' β' fr1 s1 k1 k2;exact ⟨e2,fr2,s2,Ev.again h1 h3,h2,S2,Left.trans (h':=h) (fr':=fr) hT.le k3 l2,q2⟩
    |_=>exact ⟨_,_,_,Ev.last h1 (by simp),h',S',⟨A',β',k1,k2,k3⟩,hq⟩
theorem TW.region (hE:zcl P Γ) {id:Nat} {ops:Array Oper} (own:List Nat) (outs:List (T×TS)) {ob:Prop} (hd:ze8 N ops.toList=true) (hr:runT P Γ GL own ops.toList ops.toList h S outs=some (ob,h',S')) (hob:ob) (hq:Q .normal h' S'):TW P Γ GL N (.region id ops false) h S Q:=fun A β fr s hF hT=>by
  obtain ⟨fr',s',e1,e2⟩:=z0t hE hd hF hT hr hob;exact W.region e1 ⟨h',S',e2,hq⟩
noncomputable def resT (Γ:Env) (S:TS) (h:Nat→T):List ResultVar→Option (List T)
  |[]=>some []
  |.tmp t :: l=>(match resT Γ S h l with|some vs=>some (h t :: vs)|none=>none)
  |.cell a ty :: l=>(match zqa Γ S ty (h a),resT Γ S h l with|some v,some vs=>some (v :: vs)|_,_=>none)
def tupT:List T→T
  |[v]=>v
  |vs=>.tup vs
theorem zvz:∀ {l:List ResultVar} {vs:List T} {fr:Fr} {s:CS},FrOk A β (zaa s.obj) N h fr→TRel GL A β S s→resT Γ S h l=some vs→∃ ws s',resC Γ fr s l=some (ws,s')∧VL A β (zaa s.obj) vs ws∧TRel GL A β S s'∧Stp A β s A β s'∧s'.obj=s.obj
  |[],vs,fr,s,hF,hT,hr=>by
    simp only [resT,Option.some.injEq] at hr;subst hr;exact ⟨[],s,rfl,.nil,hT,Stp.refl,rfl⟩
  |.tmp t :: l,vs,fr,s,hF,hT,hr=>by
    simp only [resT] at hr;split at hr
    · rename_i vs' hv;cases hr;obtain ⟨ws,s',k1,k2,k3,k4,k5⟩:=zvz hF hT hv;exact ⟨_,s',by simp only [resC,k1],.cons (hF.slot t) k2,k3,k4,k5⟩
    · simp at hr
  |.cell a ty :: l,vs,fr,s,hF,hT,hr=>by
    simp only [resT] at hr;split at hr
    · rename_i v vs' hv hvs;cases hr;obtain ⟨ad,i,w,f,q1,q2,q3,q4,q5⟩:=z14 hT (hF.slot a) hv;obtain ⟨ws,s',k1,k2,k3,k4,k5⟩:=zvz (s:={ s with rd:=ins s.lim s.rd f }) hF (hT.read f) hvs;refine ⟨w :: ws,s',?_,.cons q5 k2,k3,(Stp.read q3).trans hT.le k4,k5⟩;simp only [resC,q1,q2,q4,k1]
    · simp at hr
def argT:List T→Nat→(Nat→T)→(Nat→T)
  |[],_,h=>h
  |v :: l,i,h=>argT l (i+1) (tupd h i v)
theorem zky (v:T) (l:List T) (i:Nat) (h:Nat→T):argT (v :: l) i h=argT l (i+1) (tupd h i v):=rfl
theorem znl (i:Nat) (h:Nat→T):argT [] i h=h:=rfl
theorem z1w {g:Nat→Fam}:∀ {args:List T} {vargs:List Value} {i:Nat} {h:Nat→T} {fr:Fr},VL A β g args vargs→FrOk A β g N h fr→i+args.length≤N→FrOk A β g N (argT args i h) (Fr.ofArgs vargs i fr)
  |_,_,i,h,fr,.nil,hF,_=>hF
  |_,_,i,h,fr,.cons h1 h2,hF,hl=>by
    rw [List.length_cons] at hl;show FrOk A β g N (argT _ (i+1) _) (Fr.ofArgs _ (i+1) (fr.put i _));have hi:i<N:=by omega
    exact z1w (i:=i+1) h2 (hF.put (d:=some i) (fun t ht=>by cases ht;exact hi) h1) (by rw [Nat.add_right_comm];exact hl)
theorem FrOk.start {g:Nat→Fam} (hN:N≤512):FrOk A β g N (fun _=>.junk) ⟨N,Tr.all undef 9⟩:=⟨rfl,hN,fun t=>.junk _⟩
def zsp (GL:List (Nat×List Value)) (v:T) (S:TS) (v':T) (S':TS):Prop :=
  ∀ A β s w,TRel GL A β S s→VT A β (zaa s.obj) v w→∃ A' β',TRel GL A' β' S' s∧VT A' β' (zaa s.obj) v' w∧Stp A β s A' β' s
theorem zsp.refl (v:T) (S:TS):zsp GL v S v S:=fun A β s w hT hv=>⟨A,β,hT,hv,Stp.refl⟩
theorem yd5 {g:Nat→Fam} {vs:List T} {ws:List Value} (h:VL A β g vs ws):VT A β g (tupT vs) (tupC ws):=by
  cases h with
  |nil=>exact .tup .nil
  |cons h1 h2 =>
    cases h2 with
    |nil=>exact h1
    |cons h3 h4=>exact .tup (.cons h1 (.cons h3 h4))
theorem Call.go {f:FuncId} {fn:Func} {body:Code} {args:List T} {v:T} {Sf:TS} (N:Nat) (hax:Γ.ax f=none) (hf:Γ.fn.at f=some fn) (hb:fn.body=some body) (hn:fn.ntmps=N) (hN:N≤512) (hl:args.length≤N)
    (k:TW P Γ GL N body (argT args 0 fun _=>.junk) S fun e h' S'=>(e=.normal∨e=.ret)∧∃ vs,resT Γ S' h' fn.results.toList=some vs∧zsp GL (tupT vs) S' v Sf):Call P Γ GL f args S v Sf:=by
  intro A β s vargs hT hargs;obtain ⟨e,fr',s1,h1,h',S',⟨A',β',k1,k2,k3⟩,he,vs,hr,hsh⟩:=k A β _ s (z1w hargs (FrOk.start hN) (by omega)) hT;obtain ⟨ws,s2,r1,r2,r3,r4,r5⟩:=zvz k1 k2 hr;rw [← r5] at r2;obtain ⟨A2,β2,q1,q2,q3⟩:=hsh A' β' s2 _ r3 (yd5 r2);refine ⟨tupC ws,s2,A2,β2,?_,q1,q2,(k3.trans hT.le (r4.trans k2.le q3))⟩;have hlen:=hargs.len;exact zn7 hax hf hb (by omega) ⟨e,fr',s1,by rw [hn];exact h1,he,ws,r1,rfl⟩
end
end
section
open Go Go.RowKit
mutual
def T.ids (n:Nat):T→Bool
  |.agg l=>T.idsL n l
  |.tup l=>T.idsL n l
  |.lst _ l=>T.idsL n l
  |.cp l=>T.idsL n l
  |.ptr b _ _=>Nat.blt b n
  |.arr b _ _ _ _ _=>Nat.blt b n
  |.mp b=>Nat.blt b n
  |.fn _ a c=>T.idsL n a && T.idsL n c
  |_=>true
def T.idsL (n:Nat):List T→Bool
  |[]=>true
  |t :: l=>T.ids n t && T.idsL n l
end
mutual
def T.flat:T→Bool
  |.agg l=>T.flatL l
  |.tup l=>T.flatL l
  |.int _ _=>true
  |.bool _=>true
  |.str _=>true
  |.nils=>true
  |.nilp=>true
  |.nilm=>true
  |.nilf=>true
  |.junk=>true
  |_=>false
def T.flatL:List T→Bool
  |[]=>true
  |t :: l=>T.flat t && T.flatL l
end
section
variable {GL:List (Nat×List Value)} {A A' A2:Nat→Prop} {β β' β2:Bx} {S S' S2:TS} {s s' s2:CS} {P:Program} {Γ:Env} {N:Nat} {h h' h2:Nat→T} {Q R:Exit→(Nat→T)→TS→Prop} {g g':Nat→Fam}
theorem zak {n:Nat}:∀ {l l2:List T},T.idsL n (l++l2)=(T.idsL n l && T.idsL n l2)
  |[],l2=>by simp [T.idsL]
  |t :: l,l2=>by simp only [List.cons_append,T.idsL,zak,Bool.and_assoc]
theorem z9t {n:Nat} {t:T} (h:t.ids n=true):T.idsL n t.cells=true:=by
  cases t<;>first|exact h | (simp only [T.cells,T.idsL,h,Bool.and_self])
theorem zi9 {n:Nat}:∀ {l:List T},T.idsL n l=true→T.idsL n (l.flatMap T.cells)=true
  |[],_=>rfl
  |t :: l,h=>by
    simp only [T.idsL,Bool.and_eq_true] at h;rw [List.flatMap_cons,zak,z9t h.1,zi9 h.2];rfl
theorem z3u {n:Nat}:∀ {l:List T},(∀ t,t∈l→t.ids n=true)→T.idsL n l=true
  |[],_=>rfl
  |t :: l,h=>by
    simp only [T.idsL,Bool.and_eq_true];exact ⟨h t (by simp),z3u fun t ht=>h t (by simp [ht])⟩
mutual
theorem VT.ids {n:Nat} (hβ:∀ b,b<n→β' b=β b):∀ {t:T} {v:Value},t.ids n=true→VT A β g t v→VT A β' g t v
  |_,_,_,.int k n=>.int k n
  |_,_,_,.bool b=>.bool b
  |_,_,_,.str b=>.str b
  |_,_,hi,.agg h=>.agg (VL.ids hβ hi h)
  |_,_,hi,.tup h=>.tup (VL.ids hβ hi h)
  |_,_,_,.lnil=>.lnil
  |_,_,hi,.lst h1 h2 h3 h4 h5 h6 h7 h8=>.lst h1 h2 (VL.ids hβ (zi9 hi) h3) h4 h5 h6 h7 h8
  |_,_,_,.nils=>.nils
  |_,_,_,.nilp=>.nilp
  |_,_,_,.nilm=>.nilm
  |_,_,_,.nilf=>.nilf
  |_,_,hi,.ptr h=>.ptr (by rw [hβ _ (zab.1 hi)];exact h)
  |_,_,hi,.ptrOld h h0 h1 h2=>.ptrOld (by rw [hβ _ (zab.1 hi)];exact h) h0 h1 h2
  |_,_,hi,.cp h1 h2 h3 h4=>.cp h1 h2 (VL.ids hβ hi h3) h4
  |_,_,hi,.arr h ht=>.arr (by rw [hβ _ (zab.1 hi)];exact h) ht
  |_,_,hi,.arrNil h=>.arrNil (by rw [hβ _ (zab.1 hi)];exact h)
  |_,_,hi,.arrOld h h0 h1 h2=>.arrOld (by rw [hβ _ (zab.1 hi)];exact h) h0 h1 h2
  |_,_,hi,.mp h=>.mp (by rw [hβ _ (zab.1 hi)];exact h)
  |_,_,hi,.mpOld h h2=>.mpOld (by rw [hβ _ (zab.1 hi)];exact h) h2
  |_,_,hi,.fn h1 h2=>by
    simp only [T.ids,Bool.and_eq_true] at hi;exact .fn (VL.ids hβ hi.1 h1) (VL.ids hβ hi.2 h2)
  |_,_,_,.junk v=>.junk v
  |_,_,_,.emp h1 h2 h3 h4=>.emp h1 h2 h3 h4
theorem VL.ids {n:Nat} (hβ:∀ b,b<n→β' b=β b):∀ {l:List T} {vs:List Value},T.idsL n l=true→VL A β g l vs→VL A β' g l vs
  |_,_,_,.nil=>.nil
  |_,_,hi,.cons h k=>by
    simp only [T.idsL,Bool.and_eq_true] at hi;exact .cons (VT.ids hβ hi.1 h) (VL.ids hβ hi.2 k)
end
mutual
theorem VT.flat:∀ {t:T} {v:Value},t.flat=true→VT A β g t v→VT A' β' g' t v
  |_,_,_,.int k n=>.int k n
  |_,_,_,.bool b=>.bool b
  |_,_,_,.str b=>.str b
  |_,_,hi,.agg h=>.agg (VL.flat hi h)
  |_,_,hi,.tup h=>.tup (VL.flat hi h)
  |_,_,_,.nils=>.nils
  |_,_,_,.nilp=>.nilp
  |_,_,_,.nilm=>.nilm
  |_,_,_,.nilf=>.nilf
  |_,_,_,.junk v=>.junk v
  |_,_,hi,.lnil=>by simp [T.flat] at hi
  |_,_,hi,.lst _ _ _ _ _ _ _ _=>by simp [T.flat] at hi
  |_,_,hi,.ptr _=>by simp [T.flat] at hi
  |_,_,hi,.ptrOld _ _ _ _=>by simp [T.flat] at hi
  |_,_,hi,.cp _ _ _ _=>by simp [T.flat] at hi
  |_,_,hi,.arr _ _=>by simp [T.flat] at hi
  |_,_,hi,.arrNil _=>by simp [T.flat] at hi
  |_,_,hi,.arrOld _ _ _ _=>by simp [T.flat] at hi
  |_,_,hi,.mp _=>by simp [T.flat] at hi
  |_,_,hi,.mpOld _ _=>by simp [T.flat] at hi
  |_,_,hi,.fn _ _=>by simp [T.flat] at hi
  |_,_,hi,.emp _ _ _ _=>by simp [T.flat] at hi
theorem VL.flat:∀ {l:List T} {vs:List Value},T.flatL l=true→VL A β g l vs→VL A' β' g' l vs
  |_,_,_,.nil=>.nil
  |_,_,hi,.cons h k=>by
    simp only [T.flatL,Bool.and_eq_true] at hi;exact .cons (VT.flat hi.1 h) (VL.flat hi.2 k)
end
def bx0:Bx:=fun _=>none
theorem zhw {f:Nat}:¬ Own bx0 f:=fun ⟨b,h⟩=>by rcases h with ⟨u,N,h⟩|h<;>simp [bx0] at h
theorem TRel.bare (hT:TRel GL A β S s) (A1:Nat→Prop) (h1:∀ f,A f→A1 f) (h2:∀ f,A1 f→f<s.n):TRel GL A1 bx0 ts0 s :=
  ⟨hT.inr,hT.inv,h2,fun f hf=>absurd hf zhw,fun b b' l l' f hb=>by simp [bx0] at hb,fun b _=>rfl,fun b z N l hb=>by simp [ts0] at hb,fun b l hb=>by simp [ts0] at hb,fun x hx=>⟨h1 _ (hT.glob x hx).1,(hT.glob x hx).2⟩⟩
def Pure (P:Program) (Γ:Env) (GL:List (Nat×List Value)) (f:FuncId) (args:List T) (v:T):Prop:=T.idsL 0 args=true∧v.ids 0=true∧Call P Γ GL f args ts0 v ts0
def za4 (P:Program) (Γ:Env) (GL:List (Nat×List Value)) (f:FuncId) (args:List T) (S:TS) (v:T):Prop :=
  ∀ A β s vargs,TRel GL A β S s→VL A β (zaa s.obj) args vargs→Ok0 GL A β S s (zdk P Γ f vargs s) v
theorem za4.call {f:FuncId} {args:List T} {v:T} (k:za4 P Γ GL f args S v):Call P Γ GL f args S v S:=fun A β s vargs hT hv=>(k A β s vargs hT hv).ok
theorem Pure.call {f:FuncId} {args:List T} {v:T} (k:Pure P Γ GL f args v) (S:TS):za4 P Γ GL f args S v:=by
  intro A β s vargs hT hv;obtain ⟨k1,k2,k3⟩:=k;have hT0:=hT.bare A (fun _ h=>h) hT.alt;obtain ⟨w,s',A',β',e1,e2,e3,e4⟩:=k3 A bx0 s vargs hT0 (VL.ids (n:=0) (fun b hb=>absurd hb (by omega)) k1 hv)
  have hc:zh3 A β s A' s':=by
    refine ⟨e4.can,e4.sub,fun f hf=>?_,fun f hf=>e4.keep f hf zhw,fun x hx=>?_,fun x hx=>?_⟩
    · rcases e4.new f hf with q|q|q
      · exact .inl q
      · exact .inr q
      · exact absurd q zhw
    · rcases e4.rd x hx with q|⟨q,q2⟩
      · exact .inl q
      · exact .inr ⟨q,.inl (q2.resolve_right zhw)⟩
    · rcases e4.wr x hx with q|⟨_,q⟩
      · exact q
      · exact absurd q zhw
  exact ⟨w,s',A',e1,hc.rel hT e2.inr e2.inv e2.alt,VT.ids (n:=0) (fun b hb=>absurd hb (by omega)) k2 e3,hc⟩
def ydv (S:TS) (t t':T):Prop:=t=t'∨∃ b e off len cap N z l L,t=.arr b e off len cap N∧t'=.lst e L∧S.box b=.cells z N l∧0<e∧off+len*e≤N∧(l.drop off).take (len*e)=L.flatMap T.cells∧(∀ t,t∈L→t.cells.length=e)∧L.length=len∧len≤cap
def Lend (S:TS):List T→List T→Prop
  |[],[]=>True
  |t :: l,t' :: l'=>ydv S t t'∧Lend S l l'
  |_,_=>False
theorem yct (hT:TRel GL A β S s) {t t':T} {v:Value} (hi:t'.ids 0=true) (hl:ydv S t t') (hv:VT A β (zaa s.obj) t v):VT (fun f=>A f∨Own β f) bx0 (zaa s.obj) t' v:=by
  rcases hl with rfl|⟨b,e,off,len,cap,N,z,l,L,rfl,rfl,hS,he,hN,hL,hs,hlen,hcap⟩
  · exact (VT.ids (n:=0) (β':=bx0) (fun b hb=>absurd hb (by omega)) hi hv).mono (fun _ h=>.inl h) (fun _ _=>rfl) (Bx.le_refl _)
  · rcases zfa hT hS hv with ⟨f,u,rfl,hb,htag⟩|⟨rfl,hb,rfl,rfl,rfl,rfl⟩
    · obtain ⟨hlN,hc⟩:=hT.cells b z N l hS;rcases hc with ⟨hb2,_,_⟩|⟨f',u',cs,rest,hb2,hz,hat,hvl,hone⟩
      · rw [hb] at hb2;simp at hb2
      rw [hb] at hb2;cases hb2;have hcl:=hvl.len
      have hrow:zbf (zaa s.obj f).rows u=some cs:=by
        rw [hat];show zbf ((u,cs) :: rest) u=some cs;unfold zbf;rw [Nat.beq_refl];rfl
      have h1:VL A β (zaa s.obj) (L.flatMap T.cells) ((cs.drop off).take (len*e)):=by rw [← hL];exact (hvl.drop off).take _
      have h2:VL (fun f=>A f∨Own β f) bx0 (zaa s.obj) (L.flatMap T.cells) ((cs.drop off).take (len*e)) :=
        (VL.ids (n:=0) (β':=bx0) (fun b hb=>absurd hb (by omega)) (zi9 hi) h1).mono (fun _ h=>.inl h) (fun _ _=>rfl) (Bx.le_refl _)
      have h3:((cs.drop off).take (len*e)).length=len*e:=by rw [List.length_take,List.length_drop];omega
      have:=VT.lst (A:=fun f=>A f∨Own β f) (β:=bx0) (g:=zaa s.obj) (off:=off) (cap:=cap) (.inr (zbw hb)) hrow h2 hs he (by rw [h3]) htag (by omega);rw [hlen] at this;exact this
    · have:L=[]:=List.eq_nil_of_length_eq_zero hlen;subst this;exact .lnil
theorem z9e (hT:TRel GL A β S s):∀ {l l':List T} {vs:List Value},T.idsL 0 l'=true→Lend S l l'→VL A β (zaa s.obj) l vs→VL (fun f=>A f∨Own β f) bx0 (zaa s.obj) l' vs
  |[],[],_,_,_,.nil=>.nil
  |t :: l,t' :: l',_,hi,hl,.cons h1 h2=>by
    simp only [T.idsL,Bool.and_eq_true] at hi;exact .cons (yct hT hi.1 hl.1 h1) (z9e hT hi.2 hl.2 h2)
  |[],_ :: _,_,_,hl,_=>hl.elim
  |_ :: _,[],_,_,hl,_=>hl.elim
theorem Pure.lend {f:FuncId} {args args':List T} {v:T} (k:Pure P Γ GL f args' v) (hl:Lend S args args') (hv:v.flat=true):za4 P Γ GL f args S v:=by
  intro A β s vargs hT hva;obtain ⟨k1,k2,k3⟩:=k;have hA1:∀ f,(A f∨Own β f)→f<s.n:=fun f hf=>hf.elim (hT.alt f) fun h=>(hT.dis f h).1;have hT0:=hT.bare (fun f=>A f∨Own β f) (fun _ h=>.inl h) hA1;obtain ⟨w,s',A',β',e1,e2,e3,e4⟩:=k3 _ bx0 s vargs hT0 (z9e hT k1 hl hva)
  have hc:zh3 A β s A s':=by
    refine ⟨e4.can,fun _ h=>h,fun f hf=>.inl hf,fun f hf=>e4.keep f hf zhw,fun x hx=>?_,fun x hx=>?_⟩
    · rcases e4.rd x hx with q|⟨q,q2⟩
      · exact .inl q
      · exact .inr ⟨q,q2.resolve_right zhw⟩
    · rcases e4.wr x hx with q|⟨_,q⟩
      · exact q
      · exact absurd q zhw
  exact ⟨w,s',A,e1,hc.rel hT e2.inr e2.inv (fun f hf=>Nat.lt_of_lt_of_le (hT.alt f hf) e4.can.n),e3.flat hv,hc⟩
def bcut (β:Bx) (n:Nat):Bx:=fun b=>if b<n then β b else none
def zf8 (n:Nat):Box→Bool
  |.gone=>true
  |.cells _ _ l=>T.idsL n l
  |.map l=>T.idsL n (l.map (·.1)) && T.idsL n (l.map (·.2))
def zoc (S1 Sf:TS):Prop:=Sf.n≤S1.n∧∀ b,Sf.box b=.gone∨(b<Sf.n∧Sf.box b=S1.box b∧zf8 Sf.n (S1.box b)=true)
theorem TRel.cut (hT:TRel GL A β S s) (hk:zoc S S2):TRel GL A (bcut β S2.n) S2 s:=by
  have hat:∀ b,b<S2.n→bcut β S2.n b=β b:=fun b hb=>if_pos hb
  have hsub:∀ b l,bcut β S2.n b=some l→β b=some l:=fun b l h=>by
    unfold bcut at h;split at h
    · exact h
    · simp at h
  have hown:∀ f,Own (bcut β S2.n) f→Own β f:=fun f ⟨b,hb⟩=>⟨b,hb.imp (fun ⟨u,N,h⟩=>⟨u,N,hsub _ _ h⟩) fun h=>hsub _ _ h⟩;refine ⟨hT.inr,hT.inv,hT.alt,fun f hf=>hT.dis f (hown f hf),fun b b' l l' f hb hb'=>hT.inj b b' l l' f (hsub _ _ hb) (hsub _ _ hb'),fun b hb=>if_neg (by omega),fun b z N l hb=>?_,fun b l hb=>?_,hT.glob⟩
  · rcases hk.2 b with q|⟨q1,q2,q3⟩
    · rw [q] at hb;simp at hb
    · rw [q2] at hb;obtain ⟨c1,c2⟩:=hT.cells b z N l hb;rw [hb] at q3;refine ⟨c1,?_⟩;rcases c2 with ⟨d1,d2,d3⟩|⟨f,u,cs,rest,d1,d2,d3,d4,d5⟩
      · exact .inl ⟨by rw [hat b q1];exact d1,d2,d3⟩
      · exact .inr ⟨f,u,cs,rest,by rw [hat b q1];exact d1,d2,d3,VL.ids hat q3 d4,d5⟩
  · rcases hk.2 b with q|⟨q1,q2,q3⟩
    · rw [q] at hb;simp at hb
    · rw [q2] at hb;obtain ⟨r,es,c1,c2,c3,c4⟩:=hT.maps b l hb;rw [hb] at q3;simp only [zf8,Bool.and_eq_true] at q3;exact ⟨r,es,by rw [hat b q1];exact c1,c2,VL.ids hat q3.1 c3,VL.ids hat q3.2 c4⟩
theorem Call.enter {f:FuncId} {fn:Func} {body:Code} {args:List T} {v:T} {Sf:TS} (N:Nat) (hax:Γ.ax f=none) (hf:Γ.fn.at f=some fn) (hb:fn.body=some body) (hn:fn.ntmps=N) (hN:N≤512) (hl:args.length≤N) (hSf:S.n≤Sf.n) (hv:v.ids Sf.n=true)
    (k:TW P Γ GL N body (argT args 0 fun _=>.junk) S fun e h' S'=>(e=.normal∨e=.ret)∧∃ vs,resT Γ S' h' fn.results.toList=some vs∧∃ S1,zsp GL (tupT vs) S' v S1∧zoc S1 Sf):Call P Γ GL f args S v Sf:=by
  intro A β s vargs hT hargs;obtain ⟨e,fr',s1,h1,h',S',⟨A',β',k1,k2,k3⟩,he,vs,hr,S1,hsh,hkp⟩:=k A β _ s (z1w hargs (FrOk.start hN) (by omega)) hT;obtain ⟨ws,s2,r1,r2,r3,r4,r5⟩:=zvz k1 k2 hr;rw [← r5] at r2;obtain ⟨A2,β2,q1,q2,q3⟩:=hsh A' β' s2 _ r3 (yd5 r2);have hall:Stp A β s A2 β2 s2:=k3.trans hT.le (r4.trans k2.le q3);have hat:∀ b,b<Sf.n→bcut β2 Sf.n b=β2 b:=fun b hb=>if_pos hb
  have hsub:∀ b l,bcut β2 Sf.n b=some l→β2 b=some l:=fun b l h=>by
    unfold bcut at h;split at h
    · exact h
    · simp at h
  refine ⟨tupC ws,s2,A2,bcut β2 Sf.n,?_,q1.cut hkp,q2.ids hat hv,hall.can,hall.sub,hall.new,fun f hf=>?_,hall.keep,fun b l hb=>?_,hall.rd,hall.wr⟩
  · have hlen:=hargs.len;exact zn7 hax hf hb (by omega) ⟨e,fr',s1,by rw [hn];exact h1,he,ws,r1,rfl⟩
  · obtain ⟨b,hb⟩:=hf;exact hall.own f ⟨b,hb.imp (fun ⟨u,N,h⟩=>⟨u,N,hsub _ _ h⟩) fun h=>hsub _ _ h⟩
  · obtain ⟨l',c1,c2⟩:=hall.bx b l hb
    have:b<S.n:=by
      by_cases hh:b<S.n
      · exact hh
      · rw [hT.next b (by omega)] at hb;simp at hb
    exact ⟨l',by rw [hat b (by omega)];exact c1,c2⟩
theorem zoc.none (S:TS):zoc S ts0:=⟨Nat.zero_le _,fun b=>.inl rfl⟩
theorem Pure.enter {f:FuncId} {fn:Func} {body:Code} {args:List T} {v:T} (N:Nat) (hax:Γ.ax f=none) (hf:Γ.fn.at f=some fn) (hb:fn.body=some body) (hn:fn.ntmps=N) (hN:N≤512) (hl:args.length≤N) (ha:T.idsL 0 args=true) (hv:v.ids 0=true)
    (k:TW P Γ GL N body (argT args 0 fun _=>.junk) ts0 fun e h' S'=>(e=.normal∨e=.ret)∧resT Γ S' h' fn.results.toList=some [v]):Pure P Γ GL f args v :=
  ⟨ha,hv,Call.enter N hax hf hb hn hN hl (Nat.le_refl _) hv (k.mono fun e h' S' ⟨h1,h2⟩=>⟨h1,[v],h2,S',zsp.refl _ _,zoc.none S'⟩)⟩
theorem Pure.enterN {f:FuncId} {fn:Func} {body:Code} {args:List T} {vs:List T} (N:Nat) (hax:Γ.ax f=none) (hf:Γ.fn.at f=some fn) (hb:fn.body=some body) (hn:fn.ntmps=N) (hN:N≤512) (hl:args.length≤N) (ha:T.idsL 0 args=true) (hv:(tupT vs).ids 0=true)
    (k:TW P Γ GL N body (argT args 0 fun _=>.junk) ts0 fun e h' S'=>(e=.normal∨e=.ret)∧resT Γ S' h' fn.results.toList=some vs):Pure P Γ GL f args (tupT vs) :=
  ⟨ha,hv,Call.enter N hax hf hb hn hN hl (Nat.le_refl _) hv (k.mono fun e h' S' ⟨h1,h2⟩=>⟨h1,vs,h2,S',zsp.refl _ _,zoc.none S'⟩)⟩
theorem TRel.dead (hT:TRel GL A β S s) {b:Nat} {l0:Loc} (hb:β b=some l0) (A':Nat→Prop) (hA:∀ f,A f→A' f) (hA2:∀ f,A' f→A f∨l0.fam=some f) :
    TRel GL A' (bnew β b .dead) (S.set b .gone) s∧Stp A β s A' (bnew β b .dead) s:=by
  have hse:bnew β b .dead b=some .dead:=if_pos rfl;have hne:∀ b',b'≠b→bnew β b .dead b'=β b':=fun b' hb'=>if_neg hb'
  have hle:Bx.le β (bnew β b .dead):=fun i x hx=>by
    by_cases hi:i=b
    · subst hi;exact ⟨.dead,hse,by cases x<;>simp [Loc.le]⟩
    · exact ⟨x,by rw [hne i hi];exact hx,Loc.le_refl x⟩
  have hfam:∀ f,l0.fam=some f→Own β f:=fun f hf=>by
    cases l0 with
    |live f' u N=>simp [Loc.fam] at hf;subst hf;exact zbw hb
    |map r=>simp [Loc.fam] at hf;subst hf;exact zfn hb
    |nil=>simp [Loc.fam] at hf
    |dead=>simp [Loc.fam] at hf
  have hown:∀ f,Own (bnew β b .dead) f→Own β f∧l0.fam≠some f:=fun f ⟨b',hb'⟩=>by
    by_cases hi:b'=b
    · subst hi;rw [hse] at hb';rcases hb' with ⟨u,N,hb'⟩|hb'<;>simp at hb'
    · rw [hne b' hi] at hb';refine ⟨⟨b',hb'⟩,fun hh=>hi ?_⟩;rcases hb' with ⟨u,N,hb'⟩|hb'
      · exact hT.inj b' b _ l0 f hb' hb rfl hh
      · exact hT.inj b' b _ l0 f hb' hb rfl hh
  have hblt:b<S.n:=by
    by_cases hh:b<S.n
    · exact hh
    · rw [hT.next b (by omega)] at hb;simp at hb
  refine ⟨⟨hT.inr,hT.inv,fun f hf=>?_,fun f hf=>?_,fun b1 b2 l1 l2 f h1 h2 h3 h4=>?_,fun b' hb'=>?_,fun b' z N l hb'=>?_,fun b' l hb'=>?_,fun x hx=>⟨hA _ (hT.glob x hx).1,(hT.glob x hx).2⟩⟩,
    Can.refl _,hA,fun f hf=>(hA2 f hf).imp id fun q=>.inr (hfam f q),fun f hf=>.inl (hown f hf).1,fun _ _ _=>rfl,hle,fun _ h=>.inl h,fun _ h=>.inl h⟩
  · rcases hA2 f hf with q|q
    · exact hT.alt f q
    · exact (hT.dis f (hfam f q)).1
  · obtain ⟨q1,q2⟩:=hown f hf;refine ⟨(hT.dis f q1).1,fun hh=>?_⟩;rcases hA2 f hh with q|q
    · exact (hT.dis f q1).2 q
    · exact q2 q
  · by_cases e1:b1=b
    · subst e1;rw [hse] at h1;cases h1;simp [Loc.fam] at h3
    · by_cases e2:b2=b
      · subst e2;rw [hse] at h2;cases h2;simp [Loc.fam] at h4
      · rw [hne b1 e1] at h1;rw [hne b2 e2] at h2;exact hT.inj b1 b2 l1 l2 f h1 h2 h3 h4
  · have:S.n≤b':=hb';rw [hne b' (by omega)];exact hT.next b' this
  · by_cases hi:b'=b
    · subst hi;rw [TS.set_same] at hb';simp at hb'
    · rw [TS.set_ne _ _ hi] at hb';exact (hT.cells b' z N l hb').mono hA (fun _ _=>rfl) hle (hne b' hi) fun _ _ _ _=>rfl
  · by_cases hi:b'=b
    · subst hi;rw [TS.set_same] at hb';simp at hb'
    · rw [TS.set_ne _ _ hi] at hb';exact (hT.maps b' l hb').mono hA (fun _ _=>rfl) hle (hne b' hi) fun _ _=>rfl
theorem TRel.freeze (hT:TRel GL A β S s) {b N:Nat} {z:Bool} {l:List T} (hS:S.box b=.cells z N l) :
    ∃ A' β',TRel GL A' β' (S.set b .gone) s∧Stp A β s A' β' s∧∀ {e off len cap:Nat} {v:Value} {L:List T},VT A β (zaa s.obj) (.arr b e off len cap N) v→0<e→off+len*e≤N→(l.drop off).take (len*e)=L.flatMap T.cells→(∀ t,t∈L→t.cells.length=e)→L.length=len→len≤cap→VT A' β' (zaa s.obj) (.lst e L) v:=by
  obtain ⟨hlN,hc⟩:=hT.cells b z N l hS;rcases hc with ⟨hb,hN,_⟩|⟨f,u,cs,rest,hb,hz,hat,hvl,hone⟩
  · obtain ⟨k1,k2⟩:=hT.dead hb A (fun _ h=>h) (fun _ h=>.inl h);refine ⟨_,_,k1,k2,fun {e off len cap v L} hv he hoff hL hs hlen hcap=>?_⟩;rcases zfa hT hS hv with ⟨f,u,rfl,hb',_⟩|⟨rfl,_,rfl,rfl,rfl,_⟩
    · rw [hb] at hb';simp at hb'
    · have:L=[]:=List.eq_nil_of_length_eq_zero hlen;subst this;exact .lnil
  · obtain ⟨k1,k2⟩:=hT.dead hb (fun k=>A k∨k=f) (fun _ h=>.inl h) (fun k hk=>hk.imp id fun q=>by rw [q];rfl);refine ⟨_,_,k1,k2,fun {e off len cap v L} hv he hoff hL hs hlen hcap=>?_⟩;rcases zfa hT hS hv with ⟨f',u',rfl,hb',htag⟩|⟨rfl,hb',_⟩
    · rw [hb] at hb';cases hb';have hcl:=hvl.len
      have hrow:zbf (zaa s.obj f).rows u=some cs:=by
        rw [hat];show zbf ((u,cs) :: rest) u=some cs;unfold zbf;rw [Nat.beq_refl];rfl
      have h1:VL A β (zaa s.obj) (L.flatMap T.cells) ((cs.drop off).take (len*e)):=by rw [← hL];exact (hvl.drop off).take _
      have h3:((cs.drop off).take (len*e)).length=len*e:=by rw [List.length_take,List.length_drop];omega
      have:=VT.lst (A:=fun k=>A k∨k=f) (β:=bnew β b .dead) (g:=zaa s.obj) (off:=off) (cap:=cap) (.inr rfl) hrow (h1.mono (fun _ h=>.inl h) (fun _ _=>rfl) k2.bx) hs he (by rw [h3]) htag (by omega);rw [hlen] at this;exact this
    · rw [hb] at hb';simp at hb'
theorem TW.freeze {c:Code} (t:Nat) {b e off len cap M:Nat} {z:Bool} {l:List T} (L:List T) (ht:h t=.arr b e off len cap M) (hS:S.box b=.cells z M l) (he:0<e) (hoff:off+len*e≤M) (hL:(l.drop off).take (len*e)=L.flatMap T.cells) (hs:∀ t,t∈L→t.cells.length=e) (hlen:L.length=len) (hcap:len≤cap)
    (k:TW P Γ GL N c (tupd h t (.lst e L)) (S.set b .gone) Q):TW P Γ GL N c h S Q:=by
  intro A β fr s hF hT;obtain ⟨A',β',k1,k2,k3⟩:=hT.freeze hS;have hv:=hF.slot t;rw [ht] at hv
  have hF':FrOk A' β' (zaa s.obj) N (tupd h t (.lst e L)) fr:=⟨hF.nt,hF.le,fun u=>by
    by_cases hu:u=t
    · subst hu;rw [zgs];exact k3 hv he hoff hL hs hlen hcap
    · rw [zj8 _ _ _ _ hu];exact k2.vt hT (hF.slot u)⟩
  refine (k A' β' fr s hF' k1).mono ?_;rintro e2 fr2 s2 ⟨h2,S2,l2,q2⟩;exact ⟨h2,S2,Left.trans (h':=h) (fr':=fr) hT.le k2 l2,q2⟩
theorem TW.vec {c:Code} (t e:Nat) (ht:h t=.nils) (k:TW P Γ GL N c (tupd h t (.arr S.n e 0 0 0 0)) (S.add (.cells false 0 [])) Q):TW P Γ GL N c h S Q:=by
  intro A β fr s hF hT;have hv:=hF.slot t;rw [ht] at hv;have hb0:β S.n=none:=hT.next _ (Nat.le_refl _)
  have hle:Bx.le β (bnew β S.n .nil):=zr8 hb0;have hse:bnew β S.n .nil S.n=some .nil:=if_pos rfl;have hne:∀ b',b'≠S.n→bnew β S.n .nil b'=β b':=fun b' hb'=>if_neg hb'
  have hown:∀ f,Own (bnew β S.n .nil) f→Own β f:=fun f ⟨b',hb'⟩=>by
    by_cases hi:b'=S.n
    · subst hi;rw [hse] at hb';rcases hb' with ⟨u,N,hb'⟩|hb'<;>simp at hb'
    · rw [hne b' hi] at hb';exact ⟨b',hb'⟩
  have hst:Stp A β s A (bnew β S.n .nil) s:=⟨Can.refl _,fun _ h=>h,fun _ h=>.inl h,fun f hf=>.inl (hown f hf),fun _ _ _=>rfl,hle,fun _ h=>.inl h,fun _ h=>.inl h⟩
  have hT':TRel GL A (bnew β S.n .nil) (S.add (.cells false 0 [])) s:=by
    refine ⟨hT.inr,hT.inv,hT.alt,fun f hf=>hT.dis f (hown f hf),fun b1 b2 l1 l2 f h1 h2 h3 h4=>?_,fun b' hb'=>?_,fun b' z N l hb'=>?_,fun b' l hb'=>?_,hT.glob⟩
    · by_cases e1:b1=S.n
      · subst e1;rw [hse] at h1;cases h1;simp [Loc.fam] at h3
      · by_cases e2:b2=S.n
        · subst e2;rw [hse] at h2;cases h2;simp [Loc.fam] at h4
        · rw [hne b1 e1] at h1;rw [hne b2 e2] at h2;exact hT.inj b1 b2 l1 l2 f h1 h2 h3 h4
    · have:S.n+1≤b':=hb';rw [hne b' (by omega)];exact hT.next b' (by omega)
    · by_cases hi:b'=S.n
      · subst hi;rw [TS.add_same] at hb';cases hb';exact ⟨rfl,.inl ⟨hse,rfl,rfl⟩⟩
      · rw [TS.add_ne _ _ hi] at hb';exact (hT.cells b' z N l hb').mono (fun _ h=>h) (fun _ _=>rfl) hle (hne b' hi) fun _ _ _ _=>rfl
    · by_cases hi:b'=S.n
      · subst hi;rw [TS.add_same] at hb';cases hb'
      · rw [TS.add_ne _ _ hi] at hb';exact (hT.maps b' l hb').mono (fun _ h=>h) (fun _ _=>rfl) hle (hne b' hi) fun _ _=>rfl
  have hF':FrOk A (bnew β S.n .nil) (zaa s.obj) N (tupd h t (.arr S.n e 0 0 0 0)) fr:=⟨hF.nt,hF.le,fun u=>by
    by_cases hu:u=t
    · subst hu;rw [zgs];generalize fr.get u=w at hv;cases hv;exact .arrNil hse
    · rw [zj8 _ _ _ _ hu];exact hst.vt hT (hF.slot u)⟩
  refine (k A _ fr s hF' hT').mono ?_;rintro e2 fr2 s2 ⟨h2,S2,l2,q2⟩;exact ⟨h2,S2,Left.trans (h':=h) (fr':=fr) hT.le hst l2,q2⟩
end
end
section
open Go Go.RowKit
def zg2:Op→Bool
  |.move _=>true
  |.assign _=>true
  |.pick _ _ _=>true
  |.build _ _=>true
  |.nilCheck _=>true
  |.sliceToArrayPointer _ _=>true
  |.makeFunc _ _ _=>true
  |.slice _ _ _ _ _=>true
  |.fieldAddr _ _ _=>true
  |.field _ _ _=>true
  |.indexAddr _ _ _=>true
  |.index _ _ _=>true
  |.extract _ _=>true
  |.unOp _ _ _=>true
  |.binOp _ _ _ _ _=>true
  |_=>false
def zha:Op→Bool
  |.alloc _=>true
  |.box _ _=>true
  |.buildSlice _ _ _=>true
  |.makeSlice _ _ _=>true
  |o=>zg2 o
section
variable {GL:List (Nat×List Value)} {A A' A0:Nat→Prop} {β β':Bx} {S S':TS} {s s' s2:CS} {P:Program} {Γ:Env} {N:Nat} {h h':Nat→T} {call:zc0} {ρ:Operand→Value} {o:Oper} {v:Value}
theorem zi4 {r:Option Value} (hc:retC s r=some (v,s')):s'=s:=by
  unfold retC at hc;split at hc<;>first | (cases hc;rfl) | (simp at hc)
theorem zq2 {r:Option Value} (hc:ze6 P ρ o s r=some (v,s')):s'=s:=by
  unfold ze6 at hc;split at hc
  · cases hc;rfl
  · exact zi4 hc
theorem zz9 {r:Option (List Value)} (hc:aggC s r=some (v,s')):s'=s:=by
  unfold aggC at hc;split at hc<;>first | (cases hc;rfl) | (simp at hc)
theorem zzn {size:Nat} {ex:Bool} {a:Addr} {b:Option (Nat×Nat×Nat)} (hc:cutC s size ex a b=some (v,s')):s'=s:=by
  unfold cutC at hc;split at hc
  · rename_i l hh m
    cases hq:(Nat.beq (Addr.ver a % 1024) 0 || (!ex && Nat.beq (Addr.ver a % 1024) (size+1))) with
    |false=>rw [hq] at hc;simp at hc
    |true=>rw [hq] at hc;cases hc;rfl
  · simp at hc
theorem zr1 {d:TypeDesc} {a:Addr} {lo hi mx:Option Value} (hc:zlp Γ s d a lo hi mx=some (v,s')):s'=s:=by
  unfold zlp at hc;split at hc
  · split at hc
    · rw [zbp] at hc;split at hc
      · exact zzn hc
      · simp at hc
    · simp at hc
  · simp at hc
theorem zx6 {t:TypeId} {x:Value} {lo hi mx:Option Value} (hc:zcn Γ s t x lo hi mx=some (v,s')):s'=s:=by
  unfold zcn at hc;split at hc
  · split at hc
    · rename_i b;split at hc
      · cases hq:mx.isNone with
        |false=>rw [hq] at hc;simp at hc
        |true =>
          rw [hq,cond_true] at hc;unfold z4i at hc;split at hc<;>first | (cases hc;rfl) | (simp at hc)
      · simp at hc
    · split at hc
      · split at hc
        · split at hc
          · split at hc<;>first | (cases hc;rfl) | (simp at hc)
          · simp at hc
        · split at hc
          · exact zzn hc
          · simp at hc
      · simp at hc
    · split at hc
      · split at hc
        · exact zr1 hc
        · simp at hc
      · exact zr1 hc
    · simp at hc
  · simp at hc
theorem zs8 {size k n:Nat} {a:Addr} (hc:zo8 s size k n a=some (v,s')):s'=s:=by
  unfold zo8 at hc
  cases hq:Nat.blt k n with
  |false=>rw [hq] at hc;simp at hc
  |true=>rw [hq] at hc;cases hc;rfl
theorem zt2 (hm:zg2 o.op=true) (hc:cop P Γ call ρ o s=some (v,s')):s'=s:=by
  obtain ⟨d,op,ty,pos,e,g⟩:=o;unfold cop at hc;simp only at hm hc
  cases op with
  |move x=>cases hc;rfl
  |assign x=>cases hc;rfl
  |pick c a b =>
    simp only at hc;unfold zot at hc
    split at hc<;>first | (cases hc;rfl) | (simp at hc)
  |build t parts =>
    simp only at hc;unfold zg1 at hc;split at hc
    · split at hc
      · rename_i fs _;rw [zbp] at hc;split at hc
        · exact zz9 hc
        · simp at hc
      · split at hc
        · exact zz9 hc
        · simp at hc
      · simp at hc
    · simp at hc
  |nilCheck x =>
    simp only at hc;unfold zhk at hc
    split at hc<;>first | (cases hc;rfl) | (simp at hc)
  |sliceToArrayPointer t x =>
    simp only at hc;unfold zsl at hc;split at hc
    · split at hc
      · split at hc
        · rw [Bool.cond_eq_ite] at hc;split at hc
          · cases hc;rfl
          · simp at hc
        · simp at hc
      · simp at hc
    · simp at hc
  |makeFunc fn a b=>cases hc;rfl
  |slice t x lo hi mx=>exact zx6 hc
  |fieldAddr t x k =>
    simp only at hc;unfold zdd at hc;split at hc
    · split at hc
      · split at hc
        · split at hc
          · rename_i off size _
            cases hq:Nat.beq size 0 with
            |true=>rw [hq] at hc;simp at hc
            |false=>rw [hq] at hc;cases hc;rfl
          · simp at hc
        · simp at hc
      · simp at hc
    · simp at hc
  |field t x k =>
    simp only at hc;unfold zkk at hc;split at hc
    · split at hc
      · split at hc
        · split at hc
          · split at hc
            · exact zi4 hc
            · simp at hc
          · simp at hc
        · simp at hc
      · simp at hc
    · simp at hc
  |indexAddr t x k =>
    simp only at hc;unfold za7 at hc;split at hc
    · split at hc
      · split at hc
        · split at hc
          · exact zs8 hc
          · simp at hc
        · simp at hc
      · split at hc
        · split at hc
          · exact zs8 hc
          · simp at hc
        · simp at hc
      · simp at hc
    · simp at hc
  |index t x k =>
    simp only at hc;unfold zik at hc;split at hc
    · split at hc
      · split at hc
        · split at hc
          · rw [Bool.cond_eq_ite] at hc;split at hc
            · exact zi4 hc
            · simp at hc
          · simp at hc
        · simp at hc
      · split at hc
        · split at hc<;>first | (cases hc;rfl) | (simp at hc)
        · simp at hc
      · simp at hc
    · simp at hc
  |extract x k =>
    simp only at hc;unfold zff at hc;split at hc
    · exact zi4 hc
    · simp at hc
  |unOp op t x=>exact zq2 hc
  |binOp op t x y t2 =>
    simp only at hc;unfold zi6 at hc;split at hc
    · cases hc;rfl
    · exact zq2 hc
  |_=>simp [zg2] at hm
theorem zk8 {tag:Nat} {cs:List Value} {a:Addr} (hc:s.newRow tag cs=some (a,s')):s'.rd=s.rd∧s'.wr=s.wr:=by
  unfold CS.newRow at hc;rw [zbp] at hc;split at hc
  · cases hc;exact ⟨rfl,rfl⟩
  · simp at hc
theorem z2y {r:Option (Addr×CS)} (hr:∀ a t,r=some (a,t)→t.rd=s.rd∧t.wr=s.wr) (hc:ptrC r=some (v,s')):s'.rd=s.rd∧s'.wr=s.wr:=by
  unfold ptrC at hc;split at hc
  · cases hc;exact hr _ _ rfl
  · simp at hc
theorem ztc {l c:Nat} {r:Option (Addr×CS)} (hr:∀ a t,r=some (a,t)→t.rd=s.rd∧t.wr=s.wr) (hc:zgc l c r=some (v,s')):s'.rd=s.rd∧s'.wr=s.wr:=by
  unfold zgc at hc;split at hc
  · cases hc;exact hr _ _ rfl
  · simp at hc
theorem z0y (hm:zha o.op=true) (hc:cop P Γ call ρ o s=some (v,s')):s'.rd=s.rd∧s'.wr=s.wr:=by
  by_cases hq:zg2 o.op=true
  · rw [zt2 hq hc];exact ⟨rfl,rfl⟩
  obtain ⟨d,op,ty,pos,e,g⟩:=o;unfold cop at hc;simp only at hm hc hq
  cases op with
  |alloc e =>
    simp only at hc;unfold zil at hc;split at hc
    · exact z2y (fun a t h=>zk8 h) hc
    · simp at hc
  |box e x=>exact z2y (fun a t h=>zk8 h) hc
  |buildSlice t n parts =>
    simp only at hc;unfold zbu at hc;split at hc
    · rename_i j _
      cases hb:(Nat.ble (n*j.size) 16777216 && Nat.blt 0 j.size) with
      |false=>rw [hb] at hc;simp at hc
      |true =>
        rw [hb,cond_true] at hc;split at hc
        · exact ztc (fun a t h=>zk8 h) hc
        · simp at hc
    · simp at hc
  |makeSlice t l c =>
    simp only at hc;unfold zd5 at hc;split at hc
    · rename_i j l' c' _ _ _
      cases hb:(Nat.ble l' c' && Nat.ble (c'*(j.bytes+1)) 1000000000 && Nat.blt 0 j.size) with
      |false=>rw [hb] at hc;simp at hc
      |true =>
        rw [hb,cond_true] at hc;exact ztc (fun a t h=>zk8 h) hc
    · simp at hc
  |_=>simp_all [zha,zg2]
def ykt (o:Oper) (x:Lg):Prop:=(zg2 o.op=true→x.rd=[]∧x.wr=[]∧x.lo=x.hi)∧(zha o.op=true→x.rd=[]∧x.wr=[])
theorem zp0 {ops:List Oper}:∀ {l:List Oper} {fr fr':Fr} {s s':CS} {L:List Lg},drawC P Γ call ops l fr s=some (L,fr',s')→L.length=l.length∧∀ (j:Nat) (o:Oper) (x:Lg),l[j]?=some o→L[j]?=some x→ykt o x
  |[],fr,fr',s,s',L,hc=>by
    simp only [drawC,Option.some.injEq,Prod.mk.injEq] at hc;obtain ⟨rfl,_,_⟩:=hc;exact ⟨rfl,fun j o x hj=>by simp at hj⟩
  |o :: l,fr,fr',s,s',L,hc=>by
    simp only [drawC] at hc;split at hc
    · rename_i fr1 t h1;split at hc
      · rename_i logs fr2 s2 h2;cases hc;obtain ⟨i1,i2⟩:=zp0 h2;refine ⟨by simp [i1],fun j o' x hj hx=>?_⟩
        cases j with
        |zero =>
          simp only [List.getElem?_cons_zero,Option.some.injEq] at hj hx;subst hj;subst hx;unfold zb4 at h1
          cases hw:zcm ops fr o with
          |false =>
            rw [hw] at h1;simp only [cond_false,Option.some.injEq,Prod.mk.injEq] at h1;rw [← h1.2];exact ⟨fun _=>⟨rfl,rfl,rfl⟩,fun _=>⟨rfl,rfl⟩⟩
          |true =>
            rw [hw,cond_true] at h1;split at h1
            · rename_i v s1 hcop;cases h1;refine ⟨fun hm=>?_,fun hm=>?_⟩
              · rw [zt2 hm hcop];exact ⟨rfl,rfl,rfl⟩
              · exact z0y hm hcop
            · simp at h1
        |succ j=>exact i2 j o' x (by simpa using hj) (by simpa using hx)
      · simp at hc
    · simp at hc
theorem zic {ops:List Oper}:∀ {l m:List Oper} {fr fr1 fr2:Fr} {s s1 s2:CS} {L M:List Lg},drawC P Γ call ops l fr s=some (L,fr1,s1)→drawC P Γ call ops m fr1 s1=some (M,fr2,s2)→drawC P Γ call ops (l++m) fr s=some (L++M,fr2,s2)
  |[],m,fr,fr1,fr2,s,s1,s2,L,M,h1,h2=>by
    simp only [drawC,Option.some.injEq,Prod.mk.injEq] at h1;obtain ⟨rfl,rfl,rfl⟩:=h1;exact h2
  |o :: l,m,fr,fr1,fr2,s,s1,s2,L,M,h1,h2=>by
    simp only [drawC] at h1;simp only [List.cons_append,drawC];split at h1
    · rename_i fra t ha;split at h1
      · rename_i logs frb sb hb;cases h1;rw [zic hb h2];rfl
      · simp at h1
    · simp at h1
theorem zu1 {m:Nat} {y:Lg}:∀ {done:List Lg} {i:Nat},(∀ j x,done[j]?=some x→Nat.testBit m (i+j)=true∨clash x y=false)→zgn clash m y done i=true
  |[],_,_=>rfl
  |x :: l,i,h=>by
    have h0:Nat.testBit m i=true∨clash x y=false:=h 0 x rfl
    have ih:zgn clash m y l (i+1)=true:=zu1 fun j z hz=>by
      have:=h (j+1) z (by simpa using hz);rw [show i+1+j=i+(j+1) by omega];exact this
    rcases h0 with h0|h0
    · rw [zr5 h0];exact ih
    · rw [zu0 h0];exact ih
theorem zlg {ms:List Nat}:∀ {l done:List Lg},(∀ i j x y,i<j→done.length≤j→(done++l)[i]?=some x→(done++l)[j]?=some y→Nat.testBit (nth 0 ms j) i=true∨clash x y=false)→ze9 clash done l ms=true
  |[],_,_=>rfl
  |y :: l,done,h=>by
    rw [zkw,Bool.and_eq_true];refine ⟨zu1 fun j x hx=>?_,zlg fun i j x z hij hd hx hz=>?_⟩
    · rw [Nat.zero_add];have hj:=(List.getElem?_eq_some_iff.1 hx).1;exact h j done.length x y hj (Nat.le_refl _) (by rw [List.getElem?_append_left hj];exact hx) (by simp)
    · rw [List.append_assoc] at hx hz;rw [List.length_append,List.length_singleton] at hd;exact h i j x z hij (by omega) hx hz
theorem zra {ρ1 ρ2:Operand→T} {l:List Operand} (hρ:∀ x,x∈l→ρ1 x=ρ2 x):l.map ρ1=l.map ρ2:=List.map_congr_left hρ
theorem znw {ρ1 ρ2:Operand→T} {l:Option Operand} (hρ:∀ x,l=some x→ρ1 x=ρ2 x):l.map ρ1=l.map ρ2:=by
  cases l with
  |none=>rfl
  |some x=>simp only [Option.map_some,hρ x rfl]
theorem zos {place:Nat→Option (Nat×Nat)} {ρ1 ρ2:Operand→T}:∀ {l:List (Nat×Operand)},(∀ p,p∈l→ρ1 p.2=ρ2 p.2)→zbk place ρ1 l=zbk place ρ2 l
  |[],_=>rfl
  |(k,x) :: l,hρ=>by
    unfold zbk;rw [zos fun p hp=>hρ p (by simp [hp]),hρ (k,x) (by simp)]
theorem zo2 {e:Nat} {ρ1 ρ2:Operand→T}:∀ {l:List (Nat×Operand)} {i:Nat},(∀ p,p∈l→ρ1 p.2=ρ2 p.2)→zdq e ρ1 i l=zdq e ρ2 i l
  |[],_,_=>rfl
  |(k,x) :: l,i,hρ=>by
    unfold zdq;rw [zo2 fun p hp=>hρ p (by simp [hp]),hρ (k,x) (by simp)]
theorem z0l {ρ1 ρ2:Operand→T} (hρ:∀ x,x∈o.op.operands.toList→ρ1 x=ρ2 x):zec P Γ ρ1 o S=zec P Γ ρ2 o S:=by
  obtain ⟨d,op,ty,pos,e,g⟩:=o;simp only at hρ;unfold zec
  cases op with
  |move x=>simp only [hρ x (by simp [Op.operands])]
  |assign x=>simp only [hρ x (by simp [Op.operands])]
  |pick c a b=>simp only [hρ c (by simp [Op.operands]),hρ a (by simp [Op.operands]),hρ b (by simp [Op.operands])]
  |build t parts =>
    have hp:∀ p,p∈parts.toList→ρ1 p.2=ρ2 p.2:=fun p hp=>hρ p.2 (by simp [Op.operands];exact ⟨p.1,by simpa using hp⟩)
    simp only [zis,zos hp]
  |buildSlice t n parts =>
    have hp:∀ p,p∈parts.toList→ρ1 p.2=ρ2 p.2:=fun p hp=>hρ p.2 (by simp [Op.operands];exact ⟨p.1,by simpa using hp⟩)
    simp only [zah,zo2 hp]
  |load t x=>simp only [hρ x (by simp [Op.operands])]
  |nilCheck x=>simp only [hρ x (by simp [Op.operands])]
  |sliceToArrayPointer t x=>simp only [hρ x (by simp [Op.operands])]
  |makeFunc fn first captured =>
    have h1:first.toList.map ρ1=first.toList.map ρ2:=zra fun x hx=>hρ x (by simp [Op.operands];left;simpa using hx)
    have h2:captured.toList.map ρ1=captured.toList.map ρ2:=zra fun x hx=>hρ x (by simp [Op.operands];right;simpa using hx)
    simp only [h1,h2]
  |slice t x lo hi mx =>
    have h1:lo.map ρ1=lo.map ρ2:=znw fun y hy=>hρ y (by simp [Op.operands,hy]);have h2:hi.map ρ1=hi.map ρ2:=znw fun y hy=>hρ y (by simp [Op.operands,hy]);have h3:mx.map ρ1=mx.map ρ2:=znw fun y hy=>hρ y (by simp [Op.operands,hy])
    simp only [hρ x (by simp [Op.operands]),h1,h2,h3]
  |fieldAddr t x k=>simp only [hρ x (by simp [Op.operands])]
  |field t x k=>simp only [hρ x (by simp [Op.operands])]
  |indexAddr t x ix=>simp only [hρ x (by simp [Op.operands]),hρ ix (by simp [Op.operands])]
  |index t x ix=>simp only [hρ x (by simp [Op.operands]),hρ ix (by simp [Op.operands])]
  |extract x k=>simp only [hρ x (by simp [Op.operands])]
  |unOp op t x=>simp only [hρ x (by simp [Op.operands])]
  |convert src dst x=>simp only [hρ x (by simp [Op.operands])]
  |binOp op t x y t2=>simp only [hρ x (by simp [Op.operands]),hρ y (by simp [Op.operands])]
  |lookup t x k ok=>simp only [hρ x (by simp [Op.operands]),hρ k (by simp [Op.operands])]
  |call c =>
    obtain ⟨cal,args,tys⟩:=c
    cases cal with
    |builtin b =>
      have ha:∀ x,x∈args.toList→ρ1 x=ρ2 x:=fun x hx=>hρ x (by simp [Op.operands,Call.operands];simpa using hx);simp only;unfold zj9
      cases b with
      |len =>
        simp only;split
        · rename_i x t e1 e2;rw [ha x (by rw [e1];simp)]
        · rfl
      |min =>
        simp only;split
        · rename_i x y e1;rw [ha x (by rw [e1];simp),ha y (by rw [e1];simp)]
        · rfl
      |max =>
        simp only;split
        · rename_i x y e1;rw [ha x (by rw [e1];simp),ha y (by rw [e1];simp)]
        · rfl
      |_=>rfl
    |_=>rfl
  |_=>rfl
end
end
section
open Go Go.RowKit
noncomputable def z1u (P:Program) (Γ:Env) (GL:List (Nat×List Value)) (S:TS) (args:List T) (f:T) (r:T):Option Prop:=match f with
  |.fn k first cap=>some (za4 P Γ GL k (first++args++cap) S r)
  |_=>none
noncomputable def andP (p:Prop):Option (Prop×(Nat→T))→Option (Prop×(Nat→T))
  |some (q,h)=>some (p∧q,h)
  |none=>none
noncomputable def runP (P:Program) (Γ:Env) (GL:List (Nat×List Value)) (ops:List Oper):List Oper→(Nat→T)→TS→List T→Option (Prop×(Nat→T))
  |[],h,_,_=>some (True,h)
  |o :: l,h,S,outs=>match zgz ops h o.guard with
    |none=>none
    |some false=>runP P Γ GL ops l (putT h o.dst (.tup [])) S outs
    |some true=>match o.op with
      |.call ⟨.value f,args,tys⟩=>(match outs with
        |r :: outs=>(match z1u P Γ GL S (args.toList.map (zcx GL h)) (zcx GL h f) r with
          |some p=>andP p (runP P Γ GL ops l (putT h o.dst r) S outs)
          |none=>none)
        |[]=>none)
      |_=>(match zec P Γ (zcx GL h) o S with
        |some t=>runP P Γ GL ops l (putT h o.dst t) S outs
        |none=>none)
noncomputable def ygd (ops:List Oper) (x y:Oper):Bool:=match x.dst with|some d=>has (zee ops y) d|none=>false
noncomputable def zs4:Nat→List Oper→List (Bool×Oper)
  |_,[]=>[]
  |0,o :: l=>(true,o) :: zs4 0 l
  |k+1,o :: l=>(false,o) :: zs4 k l
noncomputable def z9g (x y:Bool×Oper):Bool:=y.1 && !(zg2 x.2.op || zha y.2.op)
noncomputable def zpg (m:Nat):List Nat→Nat→Bool
  |[],_=>true
  |x :: l,i=>(!Nat.testBit m i || Nat.beq (Nat.land x m) x) && zpg m l (i+1)
noncomputable def zib (k:Nat) (ops:List Oper):Bool :=
  ze9 (ygd ops) [] ops (zcw ops []) && (ze9 z9g [] (zs4 k ops) (zcw ops []) && (zcw ops []).all fun m=>zpg m (zcw ops []) 0)
theorem zp8 {m:Nat}:∀ {l:List Nat} {i:Nat},zpg m l i=true→∀ j,j<l.length→Nat.testBit m (i+j)=true→∀ b,Nat.testBit (nth 0 l j) b=true→Nat.testBit m b=true
  |[],_,_,j,hj,_,_,_=>by simp at hj
  |x :: l,i,h,j,hj,ht,b,hb=>by
    simp only [zpg,Bool.and_eq_true] at h
    cases j with
    |zero =>
      have h1:=h.1;rw [show Nat.testBit m i=true from ht] at h1;simp only [Bool.not_true,Bool.false_or] at h1;have h2:x &&& m=x:=Nat.eq_of_beq_eq_true h1;have h3:Nat.testBit x b=true:=hb;rw [← h2,Nat.testBit_and,Bool.and_eq_true] at h3;exact h3.2
    |succ j=>exact zp8 h.2 j (by simpa using hj) (by rw [show i+1+j=i+(j+1) by omega];exact ht) b hb
theorem zyj:∀ (l:List Oper) (ms:List Nat),(zcw l ms).length=ms.length+l.length
  |[],ms=>by simp [zcw]
  |o :: l,ms=>by
    simp only [zcw];rw [zyj l];simp only [List.length_append,List.length_cons,List.length_nil];omega
theorem zk4:∀ {k:Nat} {ops:List Oper} {i:Nat} {o:Oper},ops[i]?=some o→(zs4 k ops)[i]?=some (decide (k≤i),o)
  |_,[],i,o,h=>by simp at h
  |0,x :: l,i,o,h=>by
    cases i with
    |zero=>simp only [List.getElem?_cons_zero,Option.some.injEq] at h;subst h;rfl
    |succ i =>
      have:=zk4 (k:=0) (ops:=l) (i:=i) (by simpa using h)
      simpa [zs4] using this
  |k+1,x :: l,i,o,h=>by
    cases i with
    |zero=>simp only [List.getElem?_cons_zero,Option.some.injEq] at h;subst h;rfl
    |succ i =>
      have:=zk4 (k:=k) (ops:=l) (i:=i) (by simpa using h);simpa [zs4] using this
section
variable {GL:List (Nat×List Value)} {A A' A0:Nat→Prop} {β β':Bx} {S S':TS} {s s0 s' s2:CS} {P:Program} {Γ:Env} {N:Nat} {h h':Nat→T}
theorem z59 {k:Nat} {ops:List Oper} (hd:zib k ops=true) {i j:Nat} {x y:Oper} (hij:i<j) (hx:ops[i]?=some x) (hy:ops[j]?=some y) {d:Nat} (hxd:x.dst=some d) (hdy:d∈zee ops y):Nat.testBit (nth 0 (zcw ops []) j) i=true:=by
  unfold zib at hd;simp only [Bool.and_eq_true] at hd;rcases zev hd.1 i j x y hij (Nat.zero_le _) (by simpa using hx) (by simpa using hy) with q|q
  · exact q
  · unfold ygd at q;rw [hxd] at q;simp only at q;rw [zq8 hdy] at q;simp at q
theorem z1j {k:Nat} {ops:List Oper} (hd:zib k ops=true) {i j:Nat} {x y:Oper} (hij:i<j) (hkj:k≤j) (hx:ops[i]?=some x) (hy:ops[j]?=some y):Nat.testBit (nth 0 (zcw ops []) j) i=true∨zg2 x.op=true∨zha y.op=true:=by
  unfold zib at hd;simp only [Bool.and_eq_true] at hd;rcases zev hd.2.1 i j _ _ hij (Nat.zero_le _) (by simpa using zk4 hx) (by simpa using zk4 hy) with q|q
  · exact .inl q
  · unfold z9g at q;rw [decide_eq_true hkj] at q;simp only [Bool.true_and,Bool.not_eq_false',Bool.or_eq_true] at q;exact .inr q
theorem zzi {k:Nat} {ops:List Oper} (hd:zib k ops=true) {j i b:Nat} (hj:j<ops.length) (hi:i<ops.length) (h1:Nat.testBit (nth 0 (zcw ops []) j) i=true) (h2:Nat.testBit (nth 0 (zcw ops []) i) b=true):Nat.testBit (nth 0 (zcw ops []) j) b=true:=by
  unfold zib at hd;simp only [Bool.and_eq_true] at hd;have hl:=zyj ops [];simp only [List.length_nil,Nat.zero_add] at hl
  have hm:nth 0 (zcw ops []) j∈zcw ops []:=by
    have key:∀ (l:List Nat) (j:Nat),j<l.length→nth 0 l j∈l:=by
      intro l
      induction l with
      |nil=>intro j hj;simp at hj
      |cons x l ih =>
        intro j hj
        cases j with
        |zero=>exact List.mem_cons_self
        |succ j=>exact List.mem_cons_of_mem _ (ih j (by simpa using hj))
    exact key _ j (by omega)
  have:=List.all_eq_true.1 hd.2.2 _ hm;exact zp8 this i (by omega) (by rw [Nat.zero_add];exact h1) b h2
def SupL (A0:Nat→Prop) (L:List Lg) (D:Nat) (f:Nat):Prop:=A0 f∨∃ (m:Nat) (x:Lg),Nat.testBit D m=true∧L[m]?=some x∧x.lo≤f∧f<x.hi
theorem SupL.more {L M:List Lg} {D E:Nat} (hD:∀ m,m<L.length→Nat.testBit D m=true→Nat.testBit E m=true) {f:Nat} (k:SupL A0 L D f):SupL A0 (L++M) E f:=by
  rcases k with k|⟨m,x,h1,h2,h3⟩
  · exact .inl k
  · have hm:=(List.getElem?_eq_some_iff.1 h2).1;exact .inr ⟨m,x,hD m hm h1,by rw [List.getElem?_append_left hm];exact h2,h3⟩
theorem SupL.sub {L:List Lg} {D E:Nat} (hD:∀ m,m<L.length→Nat.testBit D m=true→Nat.testBit E m=true) {f:Nat} (k:SupL A0 L D f):SupL A0 L E f:=by
  have:=SupL.more (M:=[]) hD k;simpa using this
structure znn (GL:List (Nat×List Value)) (ops:List Oper) (A0:Nat→Prop) (β:Bx) (S:TS) (s0:CS) (N:Nat) (L:List Lg) (h:Nat→T) (fr:Fr) (s:CS):Prop where
  nt:fr.nt=N
  le:N≤512
  rel:TRel GL A0 β S s
  slot:∀ t,∃ D,VT (SupL A0 L D) β (zaa s.obj) (h t) (fr.get t)∧∀ (j:Nat) (o:Oper),L.length≤j→ops[j]?=some o→t∈zee ops o→∀ m,m<L.length→Nat.testBit D m=true→Nat.testBit (nth 0 (zcw ops []) j) m=true
  log:∀ (k:Nat) (x:Lg),L[k]?=some x→s0.n≤x.lo∧x.lo≤x.hi∧x.hi≤s.n∧x.wr=[]∧∀ f,f∈x.rd→f<x.lo∧(SupL A0 L (nth 0 (zcw ops []) k) f∨Own β f)
  apart:∀ (k m:Nat) (x y:Lg),k<m→L[k]?=some x→L[m]?=some y→x.hi≤y.lo
  own:∀ f,Own β f→f<s0.n
  base:∀ f,A0 f→f<s0.n
  calm:zh3 A0 β s0 A0 s
  lim:s0.lim≤s0.n
theorem TRel.more (hT:TRel GL A β S s) (A1:Nat→Prop) (h1:∀ f,A f→A1 f) (h2:∀ f,A1 f→f<s.n) (h3:∀ f,A1 f→¬ Own β f):TRel GL A1 β S s :=
  ⟨hT.inr,hT.inv,h2,fun f hf=>⟨(hT.dis f hf).1,fun hh=>h3 f hh hf⟩,hT.inj,hT.next,fun b z N l hb=>(hT.cells b z N l hb).mono h1 (fun _ _=>rfl) (Bx.le_refl _) rfl fun _ _ _ _=>rfl,
    fun b l hb=>(hT.maps b l hb).mono h1 (fun _ _=>rfl) (Bx.le_refl _) rfl fun _ _=>rfl,fun x hx=>⟨h1 _ (hT.glob x hx).1,(hT.glob x hx).2⟩⟩
theorem TRel.inner (hT:TRel GL A β S s):TRel GL A β S s.inner:=⟨hT.inr,⟨hT.inv.none,hT.inv.vers,Nat.le_refl _⟩,hT.alt,hT.dis,hT.inj,hT.next,hT.cells,hT.maps,hT.glob⟩
theorem TRel.outer (hT:TRel GL A β S s') (hl:s.lim≤s'.n):TRel GL A β S (s.outer s'):=⟨hT.inr,⟨hT.inv.none,hT.inv.vers,hl⟩,hT.alt,hT.dis,hT.inj,hT.next,hT.cells,hT.maps,hT.glob⟩
theorem zh3.trans (hl:s.lim≤s.n) (k1:zh3 A β s A s') (k2:zh3 A β s' A s2):zh3 A β s A s2:=by
  refine ⟨k1.can.trans k2.can,fun _ h=>h,fun _ h=>.inl h,fun f hf=>?_,fun x hx=>?_,fun x hx=>k1.wr x (k2.wr x hx)⟩
  · rw [k2.keep f (Nat.lt_of_lt_of_le hf k1.can.n)];exact k1.keep f hf
  · rcases k2.rd x hx with q|⟨q,q2⟩
    · exact k1.rd x q
    · rw [k1.can.lim] at q;exact .inr ⟨q,q2⟩
theorem znn.next {k0:Nat} {ops:List Oper} (hd:zib k0 ops=true) {L:List Lg} {fr:Fr} {o:Oper} (I:znn GL ops A0 β S s0 N L h fr s) (ho:ops[L.length]?=some o) (hdst:∀ t,o.dst=some t→t<N) {t:T} {v:Value} {s1:CS}
    (k1:TRel GL A' β S s1) (k2:VT A' β (zaa s1.obj) t v) (k3:zh3 (SupL A0 L (nth 0 (zcw ops []) L.length)) β s.inner A' s1) :
    znn GL ops A0 β S s0 N (L++[⟨s1.rd,s1.wr,s.n,s1.n⟩]) (putT h o.dst t) (putC fr o.dst v) (s.outer s1):=by
  have hsn:s.n≤s1.n:=k3.can.n;have hln:L.length<ops.length:=(List.getElem?_eq_some_iff.1 ho).1;have h0n:s0.n≤s.n:=I.calm.can.n
  have hsup:∀ f D,SupL A0 L D f→f<s.n:=fun f D hf=>by
    rcases hf with q|⟨m,x,_,q2,_,q4⟩
    · have:=I.base f q;omega
    · have:=(I.log m x q2).2.2.1;omega
  have hA':∀ f,A' f→SupL A0 (L++[⟨s1.rd,s1.wr,s.n,s1.n⟩]) (nth 0 (zcw ops []) L.length ||| 2 ^ L.length) f:=fun f hf=>by
    rcases k3.new f hf with q|q
    · refine SupL.more (fun m hm hb=>?_) q;rw [Nat.testBit_or,hb];rfl
    · refine .inr ⟨L.length,⟨s1.rd,s1.wr,s.n,s1.n⟩,?_,by simp,q,k1.alt f hf⟩;rw [Nat.testBit_or,Nat.testBit_two_pow_self];simp
  have hobj:∀ f,f<s.n→zaa s1.obj f=zaa s.obj f:=fun f hf=>k3.keep f hf
  have hwr:s1.wr=[]:=by
    rw [List.eq_nil_iff_forall_not_mem];intro x hx;have:=k3.wr x hx;simp [CS.inner] at this
  have hcal:zh3 A0 β s A0 (s.outer s1):=by
    refine ⟨zki I.rel.inv k3.can,fun _ h=>h,fun _ h=>.inl h,hobj,fun x hx=>?_,fun x hx=>?_⟩
    · rcases zlb (l:=s1.rd) rfl x hx with q|⟨q,q2⟩
      · exact .inl q
      · refine .inr ⟨q2,?_⟩;have hxn:x<s0.n:=by have h1:=I.calm.can.lim;have h2:=I.lim;rw [h1] at q2;omega
        rcases k3.rd x q with q3|⟨_,q3⟩
        · simp [CS.inner] at q3
        · rcases q3 with (q3|⟨m,y,_,q5,q6,_⟩)|q3
          · exact .inl q3
          · have:=(I.log m y q5).1;omega
          · exact .inr q3
    · rcases zlb (l:=s1.wr) rfl x hx with q|⟨q,_⟩
      · exact q
      · rw [hwr] at q;simp at q
  have hrel:TRel GL A0 β S (s.outer s1):=hcal.rel I.rel k1.inr ⟨k1.inv.none,k1.inv.vers,by have:=I.rel.inv.lim;show s.lim≤s1.n;omega⟩ fun f hf=>by have:=I.rel.alt f hf;show f<s1.n;omega
  refine ⟨?_,I.le,hrel,fun t'=>?_,fun k x hx=>?_,fun k m x y hkm hx hy=>?_,I.own,I.base,?_,I.lim⟩
  · cases hd2:o.dst with
    |none=>exact I.nt
    |some d =>
      show (fr.put d v).nt=N;unfold Fr.put;rw [zbp];split<;>exact I.nt
  · by_cases ht':o.dst=some t'
    · rw [ht'];refine ⟨nth 0 (zcw ops []) L.length ||| 2 ^ L.length,?_,fun j o' hj ho' hn m hm hb=>?_⟩
      · show VT _ _ _ (tupd h t' t t') ((fr.put t' v).get t');rw [zgs,Fr.get_put_same v (by rw [I.nt];exact hdst _ ht') (by rw [I.nt];exact I.le)];exact k2.mono hA' (fun _ _=>rfl) (Bx.le_refl _)
      · rw [List.length_append,List.length_singleton] at hj hm;have hdep:=z59 hd (show L.length<j by omega) ho ho' ht' hn;rw [Nat.testBit_or,Bool.or_eq_true] at hb;rcases hb with hb|hb
        · exact zzi hd (List.getElem?_eq_some_iff.1 ho').1 hln hdep hb
        · rw [Nat.testBit_two_pow] at hb;have:L.length=m:=by simpa using hb
          rw [← this];exact hdep
    · obtain ⟨D,d1,d2⟩:=I.slot t';refine ⟨D &&& (2 ^ L.length - 1),?_,fun j o' hj ho' hn m hm hb=>?_⟩
      · have e1:putT h o.dst t t'=h t':=by
          cases hd2:o.dst with
          |none=>rfl
          |some d=>exact zj8 _ _ _ _ fun hh=>ht' (by rw [hd2,hh])
        have e2:(putC fr o.dst v).get t'=fr.get t':=by
          cases hd2:o.dst with
          |none=>rfl
          |some d=>exact Fr.get_put_other v (by rw [I.nt];exact I.le) fun hh=>ht' (by rw [hd2,hh])
        rw [e1,e2];refine d1.mono (fun f hf=>SupL.more (fun m hm hb=>?_) hf) (fun f hf=>hobj f (hsup f D hf)) (Bx.le_refl _);rw [Nat.testBit_and,hb,Nat.testBit_two_pow_sub_one];simp [hm]
      · rw [List.length_append,List.length_singleton] at hj;rw [Nat.testBit_and,Bool.and_eq_true,Nat.testBit_two_pow_sub_one] at hb;exact d2 j o' (by omega) ho' hn m (of_decide_eq_true hb.2) hb.1
  · by_cases hk:k<L.length
    · rw [List.getElem?_append_left hk] at hx;obtain ⟨l1,l2,l3,l4,l5⟩:=I.log k x hx;exact ⟨l1,l2,by show x.hi≤s1.n;omega,l4,fun f hf=>⟨(l5 f hf).1,(l5 f hf).2.imp (fun q=>SupL.more (fun _ _ hb=>hb) q) id⟩⟩
    · have hk2:k=L.length:=by
        have:=(List.getElem?_eq_some_iff.1 hx).1;rw [List.length_append,List.length_singleton] at this;omega
      subst hk2;simp only [List.getElem?_append_right (Nat.le_refl _),Nat.sub_self,List.getElem?_cons_zero,Option.some.injEq] at hx;subst hx;refine ⟨h0n,hsn,Nat.le_refl _,hwr,fun f hf=>?_⟩;rcases k3.rd f hf with q|⟨q,q2⟩
      · simp [CS.inner] at q
      · exact ⟨q,q2.imp (fun q3=>SupL.more (fun _ _ hb=>hb) q3) id⟩
  · by_cases hm:m<L.length
    · rw [List.getElem?_append_left (by omega)] at hx;rw [List.getElem?_append_left hm] at hy;exact I.apart k m x y hkm hx hy
    · have hm2:m=L.length:=by
        have:=(List.getElem?_eq_some_iff.1 hy).1;rw [List.length_append,List.length_singleton] at this;omega
      subst hm2;rw [List.getElem?_append_left hkm] at hx;simp only [List.getElem?_append_right (Nat.le_refl _),Nat.sub_self,List.getElem?_cons_zero,Option.some.injEq] at hy;subst hy;exact (I.log k x hx).2.2.1
  · exact I.calm.trans I.lim hcal
theorem zwf {ops:List Oper} {o:Oper} {x:Nat} (hx:Operand.tmp x∈o.op.operands.toList):x∈zee ops o:=by
  unfold zee;refine List.mem_append.2 (.inl ?_);rw [List.mem_filterMap];exact ⟨.tmp x,hx,rfl⟩
theorem z02 {ops:List Oper} {o:Oper} {j d:Nat} {w:Bool} (hg:o.guard=some (j,w)) (hd:zl3 ops j=some d):d∈zee ops o:=by
  unfold zee;refine List.mem_append.2 (.inr ?_);rw [hg];simp only [hd];exact List.mem_singleton.2 rfl
theorem z20 (hE:zcl P Γ) {k0:Nat} {ops:List Oper} (hd:zib k0 ops=true):∀ {l:List Oper} {L:List Lg} {h h':Nat→T} {fr:Fr} {s:CS} {outs:List T} {ob:Prop},znn GL ops A0 β S s0 N L h fr s→(∀ (j:Nat) (o:Oper),l[j]?=some o→ops[L.length+j]?=some o)→ze8 N l=true→runP P Γ GL ops l h S outs=some (ob,h')→ob →
    ∃ M fr' s',drawC P Γ (zdk P Γ) ops l fr s=some (M,fr',s')∧znn GL ops A0 β S s0 N (L++M) h' fr' s'∧M.length=l.length
  |[],L,h,h',fr,s,outs,ob,I,hl,hdo,hr,hob=>by
    simp only [runP,Option.some.injEq,Prod.mk.injEq] at hr;obtain ⟨rfl,rfl⟩:=hr;exact ⟨[],fr,s,rfl,by rw [List.append_nil];exact I,rfl⟩
  |o :: l,L,h,h',fr,s,outs,ob,I,hl,hdo,hr,hob=>by
    have hd':ze8 N l=true∧∀ t,o.dst=some t→t<N:=by
      unfold ze8 at hdo ⊢;rw [List.all_cons,Bool.and_eq_true] at hdo;refine ⟨hdo.2,fun t ht=>?_⟩;have:=hdo.1;rw [ht] at this;exact zab.1 this
    have ho:ops[L.length]?=some o:=by have:=hl 0 o rfl;simpa using this
    -- what the operation may lean on
    have hrel:TRel GL (SupL A0 L (nth 0 (zcw ops []) L.length)) β S s.inner:=by
      refine TRel.inner (I.rel.more _ (fun f hf=>.inl hf) (fun f hf=>?_) (fun f hf ho=>?_))
      · rcases hf with q|⟨m,x,_,q2,_,q4⟩
        · exact I.rel.alt f q
        · have:=(I.log m x q2).2.2.1;omega
      · rcases hf with q|⟨m,x,_,q2,q3,q4⟩
        · exact (I.rel.dis f ho).2 q
        · have:=(I.log m x q2).1;have:=I.own f ho;omega
    -- the slots that it names
    let ho':Nat→T:=fun t=>if t∈zee ops o then h t else .junk
    have hin:∀ t,t∈zee ops o→ho' t=h t:=fun t ht=>if_pos ht
    have hF:FrOk (SupL A0 L (nth 0 (zcw ops []) L.length)) β (zaa s.inner.obj) N ho' fr:=⟨I.nt,I.le,fun t=>by
      by_cases ht:t∈zee ops o
      · rw [hin t ht];obtain ⟨D,d1,d2⟩:=I.slot t;exact d1.mono (fun f hf=>SupL.sub (fun m hm hb=>d2 L.length o (Nat.le_refl _) ho ht m hm hb) hf) (fun _ _=>rfl) (Bx.le_refl _)
      · rw [show ho' t=.junk from if_neg ht]
        exact .junk _⟩
    have hev:∀ x,x∈o.op.operands.toList→zcx GL ho' x=zcx GL h x:=fun x hx=>by
      cases x with
      |tmp t=>exact hin t (zwf hx)
      |_=>rfl
    have hgd:zgz ops ho' o.guard=zgz ops h o.guard:=by
      cases hg:o.guard with
      |none=>rfl
      |some p =>
        obtain ⟨j,w⟩:=p;unfold zgz;simp only
        cases hdd:zl3 ops j with
        |none=>rfl
        |some d=>simp only [hin d (z02 hg hdd)]
    -- the rest behind a step that is done
    have go:∀ {t:T} {v:Value} {s1:CS} {A':Nat→Prop} {outs':List T} {ob':Prop},TRel GL A' β S s1→VT A' β (zaa s1.obj) t v→zh3 (SupL A0 L (nth 0 (zcw ops []) L.length)) β s.inner A' s1→zb4 P Γ (zdk P Γ) ops o fr s.inner=some (putC fr o.dst v,s1)→runP P Γ GL ops l (putT h o.dst t) S outs'=some (ob',h')→ob'→∃ M fr' s',drawC P Γ (zdk P Γ) ops (o :: l) fr s=some (M,fr',s')∧znn GL ops A0 β S s0 N (L++M) h' fr' s'∧M.length=(o :: l).length:=by
      intro t v s1 A' outs' ob' k1 k2 k3 hst hrun hob';have I2:=I.next hd ho hd'.2 k1 k2 k3
      obtain ⟨M,fr',s',m1,m2,m3⟩:=z20 hE hd I2 (fun j o' hj=>by
        have:=hl (j+1) o' (by simpa using hj);rw [List.length_append,List.length_singleton];rw [show L.length+1+j=L.length+(j+1) by omega]
        exact this) hd'.1 hrun hob'
      refine ⟨⟨s1.rd,s1.wr,s.n,s1.n⟩ :: M,fr',s',?_,?_,by simp [m3]⟩
      · rw [drawC,hst];simp only;rw [m1]
      · rw [List.append_assoc] at m2;exact m2
    unfold runP at hr;split at hr
    · simp at hr
    · rename_i hg;rw [← hgd] at hg;have hw:=zgy hF hg;refine go hrel VT.undf ⟨Can.refl _,fun _ h=>h,fun _ h=>.inl h,fun _ _=>rfl,fun _ h=>.inl h,fun _ h=>h⟩ ?_ hr hob;unfold zb4;rw [hw,cond_false]
    · rename_i hg;rw [← hgd] at hg;have hw:=zgy hF hg;split at hr
      · rename_i f args tys hop;split at hr
        · rename_i r outs';split at hr
          · rename_i p hp;unfold z1u at hp;split at hp
            · rename_i k first cap hf
              simp only [Option.some.injEq] at hp;subst hp
              cases hrun:runP P Γ GL ops l (putT h o.dst r) S outs' with
              |none=>rw [hrun] at hr;simp [andP] at hr
              |some q =>
                obtain ⟨q1,q2⟩:=q;rw [hrun] at hr;simp only [andP,Option.some.injEq,Prod.mk.injEq] at hr;obtain ⟨rfl,rfl⟩:=hr;have hfv:=hF.eval hrel f;rw [hev f (by rw [hop];simp [Op.operands,Call.operands]),hf] at hfv;generalize e1:ze4 fr f=vf at hfv
                cases hfv with
                |fn h1 h2 =>
                  rename_i va vc;have hargs:=zsd (hF.eval hrel) args.toList;have hargs':args.toList.map (zcx GL ho')=args.toList.map (zcx GL h):=zra fun x hx=>hev x (by rw [hop];simp [Op.operands,Call.operands];right;simpa using hx);rw [hargs'] at hargs;obtain ⟨v,s1,A',c1,c2,c3,c4⟩:=hob.1 _ β s.inner _ hrel ((h1.append hargs).append h2);refine go c2 c3 c4 ?_ hrun hob.2;unfold zb4;rw [hw,cond_true]
                  have:cop P Γ (zdk P Γ) (ze4 fr) o s.inner=some (v,s1):=by
                    unfold cop;simp only [hop,e1];unfold zj1;exact c1
                  rw [this]
            · simp at hp
          · simp at hr
        · simp at hr
      · split at hr
        · rename_i t hst;have hst':zec P Γ (zcx GL ho') o S=some t:=by rw [z0l hev];exact hst
          obtain ⟨v,s1,A',c1,c2,c3,c4⟩:=z16 (call:=zdk P Γ) hE hrel (hF.eval hrel) hst';refine go c2 c3 c4 ?_ hr hob;unfold zb4;rw [hw,cond_true,c1]
        · simp at hr
theorem Stp.outer (hI:CInv s) (k:Stp A β s.inner A' β' s'):Stp A β s A' β' (s.outer s'):=by
  refine ⟨zki hI k.can,k.sub,k.new,k.own,k.keep,k.bx,fun x hx=>?_,fun x hx=>?_⟩
  · rcases zlb (l:=s'.rd) rfl x hx with q|⟨q,q2⟩
    · exact .inl q
    · rcases k.rd x q with q3|⟨_,q3⟩
      · simp [CS.inner] at q3
      · exact .inr ⟨q2,q3⟩
  · rcases zlb (l:=s'.wr) rfl x hx with q|⟨q,q2⟩
    · exact .inl q
    · rcases k.wr x q with q3|⟨_,q3⟩
      · simp [CS.inner] at q3
      · exact .inr ⟨q2,q3⟩
theorem zv6 (hE:zcl P Γ) {own:List Nat} {ops:List Oper} {N:Nat}:∀ {l:List Oper} {h h':Nat→T} {S S':TS} {outs:List (T×TS)} {ob:Prop} {A:Nat→Prop} {β:Bx} {fr:Fr} {s:CS},ze8 N l=true→FrOk A β (zaa s.obj) N h fr→TRel GL A β S s→runT P Γ GL own ops l h S outs=some (ob,h',S')→ob →
    ∃ M fr' s',drawC P Γ (zdk P Γ) ops l fr s=some (M,fr',s')∧Left GL A β s N fr' s' h' S'
  |[],h,h',S,S',outs,ob,A,β,fr,s,hd,hF,hT,hr,hob=>by
    simp only [runT,Option.some.injEq,Prod.mk.injEq] at hr;obtain ⟨rfl,rfl,rfl⟩:=hr;exact ⟨[],fr,s,rfl,A,β,hF,hT,Stp.refl⟩
  |o :: l,h,h',S,S',outs,ob,A,β,fr,s,hd,hF,hT,hr,hob=>by
    have hd':ze8 N l=true∧∀ t,o.dst=some t→t<N:=by
      unfold ze8 at hd ⊢;rw [List.all_cons,Bool.and_eq_true] at hd;refine ⟨hd.2,fun t ht=>?_⟩;have:=hd.1;rw [ht] at this;exact zab.1 this
    have hTi:=hT.inner
    have go:∀ {t:T} {S1:TS} {r:Option (Value×CS)} {l':List (T×TS)} {ob':Prop},Ok GL A β s.inner r t S1→(cop P Γ (zdk P Γ) (ze4 fr) o s.inner=r)→zcm ops fr o=true→runT P Γ GL own ops l (putT h o.dst t) S1 l'=some (ob',h',S')→ob'→∃ M fr' s',drawC P Γ (zdk P Γ) ops (o :: l) fr s=some (M,fr',s')∧Left GL A β s N fr' s' h' S':=by
      rintro t S1 r l' ob' ⟨v,s1,A1,β1,rfl,k1,k2,k3⟩ hc hw hrun hob';have hF1:FrOk A1 β1 (zaa s1.obj) N h fr:=hF.mono k3.sub (Stp.old (s:=s.inner) hTi k3) k3.bx;have hS:Stp A β s A1 β1 (s.outer s1):=k3.outer hT.inv;obtain ⟨M,fr',s',e1,e2⟩:=zv6 hE hd'.1 (s:=s.outer s1) (hF1.put hd'.2 k2) (k1.outer (Nat.le_trans hT.le k3.can.n)) hrun hob';refine ⟨⟨s1.rd,s1.wr,s.n,s1.n⟩ :: M,fr',s',?_,Left.trans (h':=h) (fr':=fr) hT.le hS e2⟩;rw [drawC]
      have:zb4 P Γ (zdk P Γ) ops o fr s.inner=some (putC fr o.dst v,s1):=by
        unfold zb4;rw [hw,cond_true,hc]
      rw [this];simp only;rw [e1]
    unfold runT at hr;split at hr
    · simp at hr
    · rename_i hg;have hw:=zgy hF hg;have hS:Stp A β s A β (s.outer s.inner):=Stp.outer hT.inv Stp.refl;obtain ⟨M,fr',s',e1,e2⟩:=zv6 hE hd'.1 (s:=s.outer s.inner) (hF.put hd'.2 VT.undf) (hTi.outer hT.le) hr hob;refine ⟨⟨[],[],s.n,s.n⟩ :: M,fr',s',?_,Left.trans (h':=h) (fr':=fr) hT.le hS e2⟩;rw [drawC]
      have:zb4 P Γ (zdk P Γ) ops o fr s.inner=some (putC fr o.dst undef,s.inner):=by
        unfold zb4;rw [hw,cond_false]
      rw [this];simp only;rw [e1];rfl
    · rename_i hg;have hw:=zgy hF hg;split at hr
      · rename_i f args tys ho;split at hr
        · rename_i r outs';split at hr
          · rename_i p hp;unfold zw3 at hp;split at hp
            · rename_i k first cap hf
              simp only [Option.some.injEq] at hp;subst hp
              cases hrun:runT P Γ GL own ops l (putT h o.dst r.1) r.2 outs' with
              |none=>rw [hrun] at hr;simp [andT] at hr
              |some q =>
                obtain ⟨q1,q2,q3⟩:=q;rw [hrun] at hr;simp only [andT,Option.some.injEq,Prod.mk.injEq] at hr;obtain ⟨rfl,rfl,rfl⟩:=hr;have hfv:=hF.eval hT f;rw [hf] at hfv;generalize e1:ze4 fr f=vf at hfv
                cases hfv with
                |fn h1 h2 =>
                  rename_i va vc;have hargs:=zsd (hF.eval hT) args.toList;have hcall:=hob.1 A β s.inner _ hTi ((h1.append hargs).append h2);refine go hcall ?_ hw hrun hob.2;unfold cop;simp only [ho,e1];unfold zj1;rfl
            · simp at hp
          · simp at hr
        · simp at hr
      · split at hr
        · rename_i t S1 hst;exact go (zvl hE hTi (hF.eval hT) hst) rfl hw hr hob
        · simp at hr
theorem zgm {x y:Lg} (h1:x.rd=[]) (h2:x.wr=[]) (h3:x.lo=x.hi):clash x y=false:=by
  obtain ⟨rx,wx,lo,hi⟩:=x;obtain ⟨ry,wy,lo',hi'⟩:=y;simp only at h1 h2 h3;subst h1;subst h2;subst h3;exact zfj (fun f hf=>by simp at hf) (fun f hf=>by simp at hf) (fun f _=>by omega) (fun f _=>by omega)
theorem zfp {x y:Lg} (h1:y.rd=[]) (h2:y.wr=[]):clash x y=false:=by
  obtain ⟨rx,wx,lo,hi⟩:=x;obtain ⟨ry,wy,lo',hi'⟩:=y;simp only at h1 h2;subst h1;subst h2;exact zfj (fun f _=>by simp) (fun f _=>by simp) (fun f hf=>by simp at hf) (fun f hf=>by simp at hf)
theorem TW.draw (hE:zcl P Γ) {id:Nat} {ops:Array Oper} {Q:Exit→(Nat→T)→TS→Prop} (k:Nat) (outsP:List T) (own:List Nat) (outs:List (T×TS)) {h1:Nat→T} {ob1 ob2:Prop} (hd:ze8 N ops.toList=true) (hok:zib k ops.toList=true)
    (hp:runP P Γ GL ops.toList (ops.toList.take k) h S outsP=some (ob1,h1)) (hob1:ob1) (hr:runT P Γ GL own ops.toList (ops.toList.drop k) h1 S outs=some (ob2,h',S')) (hob2:ob2) (hq:Q .normal h' S'):TW P Γ GL N (.region id ops true) h S Q:=fun A β fr s hF hT=>by
  have hsplit:ops.toList=ops.toList.take k++ops.toList.drop k:=(List.take_append_drop k _).symm
  have hdd:ze8 N (ops.toList.take k)=true∧ze8 N (ops.toList.drop k)=true:=by
    unfold ze8 at hd ⊢;rw [hsplit,List.all_append,Bool.and_eq_true] at hd;exact hd
  have I0:znn GL ops.toList A β S s N [] h fr s:=by
    refine ⟨hF.nt,hF.le,hT,fun t=>⟨0,(hF.slot t).mono (fun f hf=>.inl hf) (fun _ _=>rfl) (Bx.le_refl _),fun j o _ _ _ m hm=>by simp at hm⟩,fun k x hx=>by simp at hx,fun k m x y _ hx=>by simp at hx,fun f hf=>(hT.dis f hf).1,hT.alt,?_,hT.le⟩;exact ⟨Can.refl _,fun _ h=>h,fun _ h=>.inl h,fun _ _=>rfl,fun _ h=>.inl h,fun _ h=>h⟩
  obtain ⟨M1,fr1,s1,d1,I1,m1⟩:=z20 hE hok I0 (fun j o hj=>by
    rw [List.length_nil,Nat.zero_add];rw [List.getElem?_take] at hj;split at hj
    · exact hj
    · simp at hj) hdd.1 hp hob1
  rw [List.nil_append] at I1
  -- behind the first part all may lean on all
  let D:Nat:=2 ^ M1.length - 1
  have hDall:∀ m,m<M1.length→Nat.testBit D m=true:=fun m hm=>by
    show Nat.testBit (2 ^ M1.length - 1) m=true;rw [Nat.testBit_two_pow_sub_one];exact decide_eq_true hm
  have hT1:TRel GL (SupL A M1 D) β S s1:=by
    refine I1.rel.more _ (fun f hf=>.inl hf) (fun f hf=>?_) (fun f hf ho=>?_)
    · rcases hf with q|⟨m,x,_,q2,_,q4⟩
      · exact I1.rel.alt f q
      · have:=(I1.log m x q2).2.2.1;omega
    · rcases hf with q|⟨m,x,_,q2,q3,q4⟩
      · exact (I1.rel.dis f ho).2 q
      · have:=(I1.log m x q2).1;have:=I1.own f ho;omega
  have hF1:FrOk (SupL A M1 D) β (zaa s1.obj) N h1 fr1:=⟨I1.nt,I1.le,fun t=>by
    obtain ⟨E,e1,_⟩:=I1.slot t
    exact e1.mono (fun f hf=>SupL.sub (fun m hm _=>hDall m hm) hf) (fun _ _=>rfl) (Bx.le_refl _)⟩
  have hS1:Stp A β s (SupL A M1 D) β s1:=by
    refine ⟨I1.calm.can,fun f hf=>.inl hf,fun f hf=>?_,fun f hf=>.inl hf,fun f hf _=>I1.calm.keep f hf,Bx.le_refl _,I1.calm.rd,fun x hx=>.inl (I1.calm.wr x hx)⟩;rcases hf with q|⟨m,x,_,q2,q3,_⟩
    · exact .inl q
    · have:=(I1.log m x q2).1;exact .inr (.inl (by omega))
  obtain ⟨M2,fr2,s2,d2,L2⟩:=zv6 hE hdd.2 hF1 hT1 hr hob2;have hdraw:=zic d1 d2;rw [← hsplit] at hdraw;obtain ⟨f1,f2⟩:=zp0 hdraw;refine W.draw hdraw ?_ ⟨h',S',Left.trans (h':=h) (fr':=fr) hT.le hS1 L2,hq⟩;refine zw1 rfl (zlg fun i j x y hij _ hx hy=>?_);simp only [List.nil_append] at hx hy;have hjl:j<ops.toList.length:=by rw [← f1];exact (List.getElem?_eq_some_iff.1 hy).1
  have ho1:ops.toList[i]?=some (ops.toList[i]'(by omega)):=List.getElem?_eq_getElem _;have ho2:ops.toList[j]?=some (ops.toList[j]'hjl):=List.getElem?_eq_getElem _;by_cases hkj:k≤j
  · rcases z1j hok hij hkj ho1 ho2 with q|q|q
    · exact .inl q
    · obtain ⟨a,b,c⟩:=(f2 i _ x ho1 hx).1 q;exact .inr (zgm a b c)
    · obtain ⟨a,b⟩:=(f2 j _ y ho2 hy).2 q;exact .inr (zfp a b)
  · have hjM:j<M1.length:=by rw [m1,List.length_take];omega
    rw [List.getElem?_append_left (by omega)] at hx;rw [List.getElem?_append_left hjM] at hy;by_cases hbit:Nat.testBit (nth 0 (zcw ops.toList []) j) i=true
    · exact .inl hbit
    · right;obtain ⟨x1,x2,x3,x4,x5⟩:=I1.log i x hx;obtain ⟨y1,y2,y3,y4,y5⟩:=I1.log j y hy;obtain ⟨rx,wx,lo,hi⟩:=x;obtain ⟨ry,wy,lo',hi'⟩:=y;simp only at x1 x2 x3 x4 x5 y1 y2 y3 y4 y5;subst x4;subst y4;refine zfj (fun f hf=>by simp at hf) (fun f _=>by simp) (fun f hf=>?_) (fun f hf=>by simp at hf);obtain ⟨g1,g2⟩:=y5 f hf;rcases g2 with (g2|⟨m,z,g3,g4,g5,g6⟩)|g2
      · have:=I1.base f g2;omega
      · by_cases hmi:m=i
        · subst hmi;exact absurd g3 hbit
        · by_cases hlt:m<i
          · have:=I1.apart m i z _ hlt g4 hx;simp only at this;omega
          · have:=I1.apart i m _ z (by omega) hx g4;simp only at this;omega
      · have:=I1.own f g2;omega
end
end
section
open Go Go.RowKit
section
variable {GL:List (Nat×List Value)} {P:Program} {Γ:Env} {own:List Nat} {ops l:List Oper} {h:Nat→T} {S:TS} {outs:List (T×TS)} {outsP:List T} {d:Option Tmp} {ty:TypeId} {pos:String} {e:Array Edge} {g:Option (Nat×Bool)}
noncomputable def ybr {α:Type} (r:Option (T×TS)) (k:T→TS→Option α):Option α:=match r with
  |some (t,S)=>k t S
  |none=>none
noncomputable def zlk {α:Type} (b:Option Bool) (off on:Unit→Option α):Option α:=match b with
  |some true=>on ()
  |some false=>off ()
  |none=>none
theorem zxc {α:Type} (t:T) (S:TS) (k:T→TS→Option α):ybr (some (t,S)) k=k t S:=Eq.trans rfl rfl
theorem z97 {α:Type} (a b:Unit→Option α):zlk (some true) a b=b ():=Eq.trans rfl rfl
theorem z35 {α:Type} (a b:Unit→Option α):zlk (some false) a b=a ():=Eq.trans rfl rfl
noncomputable def zmm (ops:List Oper) (h:Nat→T) (j:Nat):T:=match zl3 ops j with|some t=>h t|none=>.junk
noncomputable def zmb (t:T) (w:Bool):Option Bool:=match t with|.bool b=>some (b == w)|.tup _=>some false|_=>none
theorem z6t {l:List T} {w:Bool}:zmb (.tup l) w=some false:=Eq.trans rfl rfl
theorem zhm {j:Nat} {w:Bool}:zgz ops h (some (j,w))=zmb (zmm ops h j) w:=by
  unfold zgz zmm;simp only
  cases zl3 ops j with
  |none=>rfl
  |some t=>simp only;cases h t<;>rfl
theorem z6r:zmb (.bool true) true=some true:=Eq.trans rfl rfl
theorem z6s:zmb (.bool true) false=some false:=Eq.trans rfl rfl
theorem z6u:zmb (.bool false) true=some false:=Eq.trans rfl rfl
theorem z6v:zmb (.bool false) false=some true:=Eq.trans rfl rfl
theorem zta {t:Tmp} {op:Op}:zmm (⟨some t,op,ty,pos,e,g⟩ :: l) h 0=h t:=Eq.trans rfl rfl
theorem ztb {o:Oper} {n:Nat}:zmm (o :: l) h (n+1)=zmm l h n:=by
  unfold zmm zl3;rw [List.getElem?_cons_succ]
theorem z2m:runT P Γ GL own ops [] h S outs=some (True,h,S):=Eq.trans rfl rfl
theorem z2o:runP P Γ GL ops [] h S outsP=some (True,h):=Eq.trans rfl rfl
def zb0:Op→Bool
  |.call ⟨.value _,_,_⟩=>true
  |_=>false
noncomputable def ycf (P:Program) (Γ:Env) (GL:List (Nat×List Value)) (own:List Nat) (ops l:List Oper) (outs:List (T×TS)) (h:Nat→T) (d:Option Tmp) (t:T) (S:TS):Option (Prop×(Nat→T)×TS):=runT P Γ GL own ops l (putT h d t) S outs
theorem z81 {t:T}:ycf P Γ GL own ops l outs h d t S=runT P Γ GL own ops l (putT h d t) S outs:=Eq.trans rfl rfl
noncomputable def offT (P:Program) (Γ:Env) (GL:List (Nat×List Value)) (own:List Nat) (ops l:List Oper) (outs:List (T×TS)) (h:Nat→T) (d:Option Tmp) (S:TS) (_:Unit):Option (Prop×(Nat→T)×TS):=runT P Γ GL own ops l (putT h d (.tup [])) S outs
theorem yey {u:Unit}:offT P Γ GL own ops l outs h d S u=runT P Γ GL own ops l (putT h d (.tup [])) S outs:=Eq.trans rfl rfl
noncomputable def ycc (P:Program) (Γ:Env) (GL:List (Nat×List Value)) (own:List Nat) (ops l:List Oper) (outs:List (T×TS)) (h:Nat→T) (S:TS) (o:Oper) (_:Unit):Option (Prop×(Nat→T)×TS):=ybr (zd6 P Γ own (zcx GL h) o S) (ycf P Γ GL own ops l outs h o.dst)
theorem z8y {u:Unit} {op:Op}:ycc P Γ GL own ops l outs h S ⟨d,op,ty,pos,e,g⟩ u=ybr (zd6 P Γ own (zcx GL h) ⟨d,op,ty,pos,e,g⟩ S) (ycf P Γ GL own ops l outs h d):=Eq.trans rfl rfl
theorem z2n {op:Op} (hc:zb0 op=false):runT P Γ GL own ops (⟨d,op,ty,pos,e,g⟩ :: l) h S outs=zlk (zgz ops h g) (offT P Γ GL own ops l outs h d S) (ycc P Γ GL own ops l outs h S ⟨d,op,ty,pos,e,g⟩):=by
  rw [runT];simp only
  cases hg:zgz ops h g with
  |none=>rfl
  |some b =>
    cases b with
    |false=>rfl
    |true =>
      simp only [zlk,ycc]
      cases hs:zd6 P Γ own (zcx GL h) ⟨d,op,ty,pos,e,g⟩ S with
      |none =>
        cases op with
        |call c =>
          obtain ⟨cal,args,tys⟩:=c
          cases cal with
          |value f=>simp [zb0] at hc
          |_=>rfl
        |_=>rfl
      |some r =>
        cases op with
        |call c =>
          obtain ⟨cal,args,tys⟩:=c
          cases cal with
          |value f=>simp [zb0] at hc
          |_=>rfl
        |_=>rfl
theorem z73 {op:Op} (hc:zb0 op=false):runT P Γ GL own ops (⟨d,op,ty,pos,e,none⟩ :: l) h S outs=ybr (zd6 P Γ own (zcx GL h) ⟨d,op,ty,pos,e,none⟩ S) (ycf P Γ GL own ops l outs h d):=by
  rw [z2n hc];rfl
theorem z74 {op:Op} {j:Nat} {w:Bool} (hc:zb0 op=false):runT P Γ GL own ops (⟨d,op,ty,pos,e,some (j,w)⟩ :: l) h S outs=zlk (zmb (zmm ops h j) w) (offT P Γ GL own ops l outs h d S) (ycc P Γ GL own ops l outs h S ⟨d,op,ty,pos,e,some (j,w)⟩):=by
  rw [z2n hc,zhm]
noncomputable def ycv (p:Option Prop) (k:Option (Prop×(Nat→T)×TS)):Option (Prop×(Nat→T)×TS):=match p,k with
  |some p,some (q,h,S)=>some (p∧q,h,S)
  |_,_=>none
theorem zyu {p q:Prop}:ycv (some p) (some (q,h,S))=some (p∧q,h,S):=Eq.trans rfl rfl
noncomputable def ydl (P:Program) (Γ:Env) (GL:List (Nat×List Value)) (own:List Nat) (ops l:List Oper) (outs:List (T×TS)) (h:Nat→T) (S:TS) (d:Option Tmp) (f:Operand) (args:List Operand) (r:T×TS) (_:Unit):Option (Prop×(Nat→T)×TS):=ycv (zw3 P Γ GL S (args.map (zcx GL h)) (zcx GL h f) r) (runT P Γ GL own ops l (putT h d r.1) r.2 outs)
theorem z4w {u:Unit} {f:Operand} {args:List Operand} {r:T×TS}:ydl P Γ GL own ops l outs h S d f args r u=ycv (zw3 P Γ GL S (args.map (zcx GL h)) (zcx GL h f) r) (runT P Γ GL own ops l (putT h d r.1) r.2 outs):=Eq.trans rfl rfl
theorem ztl {f:Operand} {args:Array Operand} {tys:Array TypeId} {r:T×TS}:runT P Γ GL own ops (⟨d,.call ⟨.value f,args,tys⟩,ty,pos,e,g⟩ :: l) h S (r :: outs)=zlk (zgz ops h g) (offT P Γ GL own ops l (r :: outs) h d S) (ydl P Γ GL own ops l outs h S d f args.toList r):=by
  rw [runT];simp only
  cases hg:zgz ops h g with
  |none=>rfl
  |some b =>
    cases b with
    |false=>rfl
    |true =>
      simp only [zlk,ydl]
      cases zw3 P Γ GL S (args.toList.map (zcx GL h)) (zcx GL h f) r with
      |none=>rfl
      |some p=>cases runT P Γ GL own ops l (putT h d r.1) r.2 outs<;>rfl
theorem zxw {f:Operand} {args:Array Operand} {tys:Array TypeId} {r:T×TS}:runT P Γ GL own ops (⟨d,.call ⟨.value f,args,tys⟩,ty,pos,e,none⟩ :: l) h S (r :: outs)=ycv (zw3 P Γ GL S (args.toList.map (zcx GL h)) (zcx GL h f) r) (runT P Γ GL own ops l (putT h d r.1) r.2 outs):=by
  rw [ztl];rfl
theorem zqr {f:Operand} {args:Array Operand} {tys:Array TypeId} {r:T×TS} {j:Nat} {w:Bool}:runT P Γ GL own ops (⟨d,.call ⟨.value f,args,tys⟩,ty,pos,e,some (j,w)⟩ :: l) h S (r :: outs)=zlk (zmb (zmm ops h j) w) (offT P Γ GL own ops l (r :: outs) h d S) (ydl P Γ GL own ops l outs h S d f args.toList r):=by
  rw [ztl,zhm]
theorem zqq {f:Operand} {args:Array Operand} {tys:Array TypeId} {j:Nat} {w:Bool}:runT P Γ GL own ops (⟨d,.call ⟨.value f,args,tys⟩,ty,pos,e,some (j,w)⟩ :: l) h S []=zlk (zmb (zmm ops h j) w) (offT P Γ GL own ops l [] h d S) (fun _=>none):=by
  rw [runT];simp only [zhm]
  cases zmb (zmm ops h j) w with
  |none=>rfl
  |some b=>cases b<;>rfl
theorem z4s {k:Nat} {first cap args:List T} {r:T×TS}:zw3 P Γ GL S args (.fn k first cap) r=some (Call P Γ GL k (first++args++cap) S r.1 r.2):=Eq.trans rfl rfl
noncomputable def ybs {α:Type} (r:Option T) (k:T→Option α):Option α:=match r with
  |some t=>k t
  |none=>none
theorem zs1 {α:Type} (t:T) (k:T→Option α):ybs (some t) k=k t:=Eq.trans rfl rfl
noncomputable def ycg (P:Program) (Γ:Env) (GL:List (Nat×List Value)) (ops l:List Oper) (outs:List T) (h:Nat→T) (d:Option Tmp) (S:TS) (t:T):Option (Prop×(Nat→T)):=runP P Γ GL ops l (putT h d t) S outs
theorem z3d {t:T}:ycg P Γ GL ops l outsP h d S t=runP P Γ GL ops l (putT h d t) S outsP:=Eq.trans rfl rfl
noncomputable def offP (P:Program) (Γ:Env) (GL:List (Nat×List Value)) (ops l:List Oper) (outs:List T) (h:Nat→T) (d:Option Tmp) (S:TS) (_:Unit):Option (Prop×(Nat→T)):=runP P Γ GL ops l (putT h d (.tup [])) S outs
theorem z8z {u:Unit}:offP P Γ GL ops l outsP h d S u=runP P Γ GL ops l (putT h d (.tup [])) S outsP:=Eq.trans rfl rfl
noncomputable def ycd (P:Program) (Γ:Env) (GL:List (Nat×List Value)) (ops l:List Oper) (outs:List T) (h:Nat→T) (S:TS) (o:Oper) (_:Unit):Option (Prop×(Nat→T)):=ybs (zec P Γ (zcx GL h) o S) (ycg P Γ GL ops l outs h o.dst S)
theorem z29 {u:Unit} {op:Op}:ycd P Γ GL ops l outsP h S ⟨d,op,ty,pos,e,g⟩ u=ybs (zec P Γ (zcx GL h) ⟨d,op,ty,pos,e,g⟩ S) (ycg P Γ GL ops l outsP h d S):=Eq.trans rfl rfl
theorem z2p {op:Op} (hc:zb0 op=false):runP P Γ GL ops (⟨d,op,ty,pos,e,g⟩ :: l) h S outsP=zlk (zgz ops h g) (offP P Γ GL ops l outsP h d S) (ycd P Γ GL ops l outsP h S ⟨d,op,ty,pos,e,g⟩):=by
  rw [runP];simp only
  cases hg:zgz ops h g with
  |none=>rfl
  |some b =>
    cases b with
    |false=>rfl
    |true =>
      simp only [zlk,ycd]
      cases hs:zec P Γ (zcx GL h) ⟨d,op,ty,pos,e,g⟩ S with
      |none =>
        cases op with
        |call c =>
          obtain ⟨cal,args,tys⟩:=c
          cases cal with
          |value f=>simp [zb0] at hc
          |_=>rfl
        |_=>rfl
      |some r =>
        cases op with
        |call c =>
          obtain ⟨cal,args,tys⟩:=c
          cases cal with
          |value f=>simp [zb0] at hc
          |_=>rfl
        |_=>rfl
theorem z75 {op:Op} (hc:zb0 op=false):runP P Γ GL ops (⟨d,op,ty,pos,e,none⟩ :: l) h S outsP=ybs (zec P Γ (zcx GL h) ⟨d,op,ty,pos,e,none⟩ S) (ycg P Γ GL ops l outsP h d S):=by
  rw [z2p hc];rfl
theorem z76 {op:Op} {j:Nat} {w:Bool} (hc:zb0 op=false):runP P Γ GL ops (⟨d,op,ty,pos,e,some (j,w)⟩ :: l) h S outsP=zlk (zmb (zmm ops h j) w) (offP P Γ GL ops l outsP h d S) (ycd P Γ GL ops l outsP h S ⟨d,op,ty,pos,e,some (j,w)⟩):=by
  rw [z2p hc,zhm]
noncomputable def ycw (p:Option Prop) (k:Option (Prop×(Nat→T))):Option (Prop×(Nat→T)):=match p,k with
  |some p,some (q,h)=>some (p∧q,h)
  |_,_=>none
theorem zt6 {p q:Prop}:ycw (some p) (some (q,h))=some (p∧q,h):=Eq.trans rfl rfl
noncomputable def z4v (P:Program) (Γ:Env) (GL:List (Nat×List Value)) (ops l:List Oper) (outs:List T) (h:Nat→T) (S:TS) (d:Option Tmp) (f:Operand) (args:List Operand) (r:T) (_:Unit):Option (Prop×(Nat→T)):=ycw (z1u P Γ GL S (args.map (zcx GL h)) (zcx GL h f) r) (runP P Γ GL ops l (putT h d r) S outs)
theorem zzx {u:Unit} {f:Operand} {args:List Operand} {r:T}:z4v P Γ GL ops l outsP h S d f args r u=ycw (z1u P Γ GL S (args.map (zcx GL h)) (zcx GL h f) r) (runP P Γ GL ops l (putT h d r) S outsP):=Eq.trans rfl rfl
theorem ztm {f:Operand} {args:Array Operand} {tys:Array TypeId} {r:T}:runP P Γ GL ops (⟨d,.call ⟨.value f,args,tys⟩,ty,pos,e,g⟩ :: l) h S (r :: outsP)=zlk (zgz ops h g) (offP P Γ GL ops l (r :: outsP) h d S) (z4v P Γ GL ops l outsP h S d f args.toList r):=by
  rw [runP];simp only
  cases hg:zgz ops h g with
  |none=>rfl
  |some b =>
    cases b with
    |false=>rfl
    |true =>
      simp only [zlk,z4v]
      cases z1u P Γ GL S (args.toList.map (zcx GL h)) (zcx GL h f) r with
      |none=>rfl
      |some p=>cases runP P Γ GL ops l (putT h d r) S outsP<;>rfl
theorem zxx {f:Operand} {args:Array Operand} {tys:Array TypeId} {r:T}:runP P Γ GL ops (⟨d,.call ⟨.value f,args,tys⟩,ty,pos,e,none⟩ :: l) h S (r :: outsP)=ycw (z1u P Γ GL S (args.toList.map (zcx GL h)) (zcx GL h f) r) (runP P Γ GL ops l (putT h d r) S outsP):=by
  rw [ztm];rfl
theorem zqt {f:Operand} {args:Array Operand} {tys:Array TypeId} {r:T} {j:Nat} {w:Bool}:runP P Γ GL ops (⟨d,.call ⟨.value f,args,tys⟩,ty,pos,e,some (j,w)⟩ :: l) h S (r :: outsP)=zlk (zmb (zmm ops h j) w) (offP P Γ GL ops l (r :: outsP) h d S) (z4v P Γ GL ops l outsP h S d f args.toList r):=by
  rw [ztm,zhm]
theorem zqs {f:Operand} {args:Array Operand} {tys:Array TypeId} {j:Nat} {w:Bool}:runP P Γ GL ops (⟨d,.call ⟨.value f,args,tys⟩,ty,pos,e,some (j,w)⟩ :: l) h S []=zlk (zmb (zmm ops h j) w) (offP P Γ GL ops l [] h d S) (fun _=>none):=by
  rw [runP];simp only [zhm]
  cases zmb (zmm ops h j) w with
  |none=>rfl
  |some b=>cases b<;>rfl
theorem z4u {k:Nat} {first cap args:List T} {r:T}:z1u P Γ GL S args (.fn k first cap) r=some (za4 P Γ GL k (first++args++cap) S r):=Eq.trans rfl rfl
theorem zbo {t u:Nat} {v:T}:tupd h t v u=if u=t then v else h u:=Eq.trans rfl rfl
theorem z8o {t:Tmp} {v:T}:putT h (some t) v=tupd h t v:=Eq.trans rfl rfl
theorem z8p {v:T}:putT h none v=h:=Eq.trans rfl rfl
theorem zna {t:Tmp}:zcx GL h (.tmp t)=h t:=Eq.trans rfl rfl
theorem zhe {v:Value}:zcx GL h (.const v)=zkv v:=Eq.trans rfl rfl
theorem yam {f:Nat}:zcx GL h (.func f)=.fn f [] []:=Eq.trans rfl rfl
theorem zzf {f:Nat}:zcx GL h (.global f)=z95 GL f:=Eq.trans rfl rfl
theorem ye1 {k:IntKind} {n:Int}:zkv (.int k n)=.int k n:=Eq.trans rfl rfl
theorem zjr {b:Bool}:zkv (.bool b)=.bool b:=Eq.trans rfl rfl
theorem ye0 {b:ByteArray}:zkv (.string b)=.str b:=Eq.trans rfl rfl
theorem z9h:zkv (.slice none 0 0)=.nils:=Eq.trans rfl rfl
theorem z9i:zkv (.pointer none)=.nilp:=Eq.trans rfl rfl
theorem z9j:zkv (.map none)=.nilm:=Eq.trans rfl rfl
theorem z9k:zkv .nilFunc=.nilf:=Eq.trans rfl rfl
theorem zsv {t:T}:zfc S (some t)=some (t,S):=Eq.trans rfl rfl
theorem zsw:zvd (some S)=some (.junk,S):=Eq.trans rfl rfl
-- which operations are calls
theorem z9z {x}:zb0 (.move x)=false:=Eq.trans rfl rfl
theorem zy3 {x}:zb0 (.assign x)=false:=Eq.trans rfl rfl
theorem z9y {a b c}:zb0 (.pick a b c)=false:=Eq.trans rfl rfl
theorem z30 {x}:zb0 (.alloc x)=false:=Eq.trans rfl rfl
theorem ye6 {x y}:zb0 (.box x y)=false:=Eq.trans rfl rfl
theorem z3z {x y}:zb0 (.build x y)=false:=Eq.trans rfl rfl
theorem zbq {x y z}:zb0 (.buildSlice x y z)=false:=Eq.trans rfl rfl
theorem z90 {x y}:zb0 (.load x y)=false:=Eq.trans rfl rfl
theorem z3v {x y z}:zb0 (.store x y z)=false:=Eq.trans rfl rfl
theorem zrn {x}:zb0 (.nilCheck x)=false:=Eq.trans rfl rfl
theorem ye7 {x y z w v}:zb0 (.binOp x y z w v)=false:=Eq.trans rfl rfl
theorem yjy {x y z}:zb0 (.unOp x y z)=false:=Eq.trans rfl rfl
theorem z91 {x y z}:zb0 (.convert x y z)=false:=Eq.trans rfl rfl
theorem ye5 {x y}:zb0 (.sliceToArrayPointer x y)=false:=Eq.trans rfl rfl
theorem zro {x y z}:zb0 (.makeFunc x y z)=false:=Eq.trans rfl rfl
theorem zc9 {x y z w}:zb0 (.lookup x y z w)=false:=Eq.trans rfl rfl
theorem zcc {x y}:zb0 (.makeMap x y)=false:=Eq.trans rfl rfl
theorem zbc {x y z w}:zb0 (.mapUpdate x y z w)=false:=Eq.trans rfl rfl
theorem zda {x y z w}:zb0 (.insert x y z w)=false:=Eq.trans rfl rfl
theorem zox {x y z}:zb0 (.makeSlice x y z)=false:=Eq.trans rfl rfl
theorem z3w {x y z w v}:zb0 (.slice x y z w v)=false:=Eq.trans rfl rfl
theorem zoz {x y z}:zb0 (.fieldAddr x y z)=false:=Eq.trans rfl rfl
theorem z3y {x y z}:zb0 (.field x y z)=false:=Eq.trans rfl rfl
theorem zoy {x y z}:zb0 (.indexAddr x y z)=false:=Eq.trans rfl rfl
theorem z3x {x y z}:zb0 (.index x y z)=false:=Eq.trans rfl rfl
theorem zuj {x y}:zb0 (.extract x y)=false:=Eq.trans rfl rfl
theorem zuk {b x y}:zb0 (.call ⟨.builtin b,x,y⟩)=false:=Eq.trans rfl rfl
variable {ρ:Operand→T} {t t2:TypeId} {x y z:Operand}
theorem z7u  : zd6 P Γ own ρ ⟨d,.move x,ty,pos,e,g⟩ S=zfc S (some (ρ x)):=Eq.trans rfl rfl
theorem z7y  : zec P Γ ρ ⟨d,.move x,ty,pos,e,g⟩ S=some (ρ x):=Eq.trans rfl rfl
theorem zxr  : zd6 P Γ own ρ ⟨d,.assign x,ty,pos,e,g⟩ S=zfc S (some (ρ x)):=Eq.trans rfl rfl
theorem zxt  : zec P Γ ρ ⟨d,.assign x,ty,pos,e,g⟩ S=some (ρ x):=Eq.trans rfl rfl
theorem z7v  : zd6 P Γ own ρ ⟨d,.load t x,ty,pos,e,g⟩ S=zfc S (zqa Γ S t (ρ x)):=Eq.trans rfl rfl
theorem z71  : zec P Γ ρ ⟨d,.load t x,ty,pos,e,g⟩ S=zqa Γ S t (ρ x):=Eq.trans rfl rfl
theorem zql  : zd6 P Γ own ρ ⟨d,.nilCheck x,ty,pos,e,g⟩ S=zfc S (zel S (ρ x)):=Eq.trans rfl rfl
theorem zqn  : zec P Γ ρ ⟨d,.nilCheck x,ty,pos,e,g⟩ S=zel S (ρ x):=Eq.trans rfl rfl
theorem yee  : zd6 P Γ own ρ ⟨d,.sliceToArrayPointer t x,ty,pos,e,g⟩ S=zfc S (tS2A Γ S t (ρ x)):=Eq.trans rfl rfl
theorem yek  : zec P Γ ρ ⟨d,.sliceToArrayPointer t x,ty,pos,e,g⟩ S=tS2A Γ S t (ρ x):=Eq.trans rfl rfl
theorem zoo {k:Nat}:zd6 P Γ own ρ ⟨d,.fieldAddr t x k,ty,pos,e,g⟩ S=zfc S (zad Γ S t k (ρ x)):=Eq.trans rfl rfl
theorem zoq {k:Nat}:zec P Γ ρ ⟨d,.fieldAddr t x k,ty,pos,e,g⟩ S=zad Γ S t k (ρ x):=Eq.trans rfl rfl
theorem z2f {k:Nat}:zd6 P Γ own ρ ⟨d,.field t x k,ty,pos,e,g⟩ S=zfc S (zxg Γ t k (ρ x)):=Eq.trans rfl rfl
theorem z2k {k:Nat}:zec P Γ ρ ⟨d,.field t x k,ty,pos,e,g⟩ S=zxg Γ t k (ρ x):=Eq.trans rfl rfl
theorem zon  : zd6 P Γ own ρ ⟨d,.indexAddr t x y,ty,pos,e,g⟩ S=zfc S (zgg Γ S t (ρ x) (ρ y)):=Eq.trans rfl rfl
theorem zop  : zec P Γ ρ ⟨d,.indexAddr t x y,ty,pos,e,g⟩ S=zgg Γ S t (ρ x) (ρ y):=Eq.trans rfl rfl
theorem z2e  : zd6 P Γ own ρ ⟨d,.index t x y,ty,pos,e,g⟩ S=zfc S (zqb Γ t (ρ x) (ρ y)):=Eq.trans rfl rfl
theorem z2j  : zec P Γ ρ ⟨d,.index t x y,ty,pos,e,g⟩ S=zqb Γ t (ρ x) (ρ y):=Eq.trans rfl rfl
theorem zth {k:Nat}:zd6 P Γ own ρ ⟨d,.extract x k,ty,pos,e,g⟩ S=zfc S (zjg k (ρ x)):=Eq.trans rfl rfl
theorem zti {k:Nat}:zec P Γ ρ ⟨d,.extract x k,ty,pos,e,g⟩ S=zjg k (ρ x):=Eq.trans rfl rfl
theorem yjd {u:UnOp}:zd6 P Γ own ρ ⟨d,.unOp u t x,ty,pos,e,g⟩ S=zfc S (tUn u (ρ x)):=Eq.trans rfl rfl
theorem yje {u:UnOp}:zec P Γ ρ ⟨d,.unOp u t x,ty,pos,e,g⟩ S=tUn u (ρ x):=Eq.trans rfl rfl
theorem yej {b:BinOp}:zd6 P Γ own ρ ⟨d,.binOp b t x y t2,ty,pos,e,g⟩ S=zfc S (tBin P Γ S t b x y (ρ x) (ρ y)):=Eq.trans rfl rfl
theorem yem {b:BinOp}:zec P Γ ρ ⟨d,.binOp b t x y t2,ty,pos,e,g⟩ S=tBin P Γ S t b x y (ρ x) (ρ y):=Eq.trans rfl rfl
theorem z2g {parts:Array (Nat×Operand)}:zd6 P Γ own ρ ⟨d,.build t parts,ty,pos,e,g⟩ S=zfc S (zis Γ ρ t parts.toList):=Eq.trans rfl rfl
theorem z2l {parts:Array (Nat×Operand)}:zec P Γ ρ ⟨d,.build t parts,ty,pos,e,g⟩ S=zis Γ ρ t parts.toList:=Eq.trans rfl rfl
theorem z2d {lo hi mx:Option Operand}:zd6 P Γ own ρ ⟨d,.slice t x lo hi mx,ty,pos,e,g⟩ S=zfc S (zp9 Γ S t (ρ x) (lo.map ρ) (hi.map ρ) (mx.map ρ)):=Eq.trans rfl rfl
theorem z2i {lo hi mx:Option Operand}:zec P Γ ρ ⟨d,.slice t x lo hi mx,ty,pos,e,g⟩ S=zp9 Γ S t (ρ x) (lo.map ρ) (hi.map ρ) (mx.map ρ):=Eq.trans rfl rfl
theorem zqm {f:Nat} {a c:Array Operand}:zd6 P Γ own ρ ⟨d,.makeFunc (.func f) a c,ty,pos,e,g⟩ S=zfc S (some (.fn f (a.toList.map ρ) (c.toList.map ρ))):=Eq.trans rfl rfl
theorem zqo {f:Nat} {a c:Array Operand}:zec P Γ ρ ⟨d,.makeFunc (.func f) a c,ty,pos,e,g⟩ S=some (.fn f (a.toList.map ρ) (c.toList.map ρ)):=Eq.trans rfl rfl
noncomputable def yb9 (c a b:T):Option T:=match c with|.bool t=>some (bif t then a else b)|_=>none
theorem z8m {a b:T}:yb9 (.bool true) a b=some a:=Eq.trans rfl rfl
theorem z8n {a b:T}:yb9 (.bool false) a b=some b:=Eq.trans rfl rfl
theorem z0r:zec P Γ ρ ⟨d,.pick z x y,ty,pos,e,g⟩ S=yb9 (ρ z) (ρ x) (ρ y):=by
  show (match ρ z with|.bool t=>some (bif t then ρ x else ρ y)|_=>none)=_;cases ρ z<;>rfl
theorem z7t:zd6 P Γ own ρ ⟨d,.pick z x y,ty,pos,e,g⟩ S=zfc S (yb9 (ρ z) (ρ x) (ρ y)):=by
  show zfc S (zec P Γ ρ ⟨d,.pick z x y,ty,pos,e,g⟩ S)=_;rw [z0r]
theorem z2h:zd6 P Γ own ρ ⟨d,.alloc t,ty,pos,e,g⟩ S=zs6 Γ S t:=Eq.trans rfl rfl
theorem yei:zd6 P Γ own ρ ⟨d,.box t x,ty,pos,e,g⟩ S=tBox S (ρ x):=Eq.trans rfl rfl
theorem z2c:zd6 P Γ own ρ ⟨d,.store t x y,ty,pos,e,g⟩ S=zvd (zs5 Γ S t (ρ y) (ρ x)):=Eq.trans rfl rfl
theorem zc5 {k:Operand} {ok:Bool}:zd6 P Γ own ρ ⟨d,.lookup t x k ok,ty,pos,e,g⟩ S=zfc S (zdr Γ S t (ρ x) (ρ k) ok):=Eq.trans rfl rfl
theorem zc7 {k:Operand} {ok:Bool}:zec P Γ ρ ⟨d,.lookup t x k ok,ty,pos,e,g⟩ S=zdr Γ S t (ρ x) (ρ k) ok:=Eq.trans rfl rfl
theorem zca:zd6 P Γ own ρ ⟨d,.makeMap t none,ty,pos,e,g⟩ S=zct S:=Eq.trans rfl rfl
theorem zbb {k v:Operand}:zd6 P Γ own ρ ⟨d,.mapUpdate t x k v,ty,pos,e,g⟩ S=zvd (za0 Γ S t (ρ k) (ρ v) (ρ x)):=Eq.trans rfl rfl
theorem zc6 {k v:Operand}:zd6 P Γ own ρ ⟨d,.insert t x k v,ty,pos,e,g⟩ S=zvd (za0 Γ S t (ρ k) (ρ v) (ρ x)):=Eq.trans rfl rfl
theorem zom:zd6 P Γ own ρ ⟨d,.makeSlice t x y,ty,pos,e,g⟩ S=zhg Γ S t (ρ x) (ρ y):=Eq.trans rfl rfl
theorem z7x:zd6 P Γ own ρ ⟨d,.convert t t2 x,ty,pos,e,g⟩ S=bif ownD own d then zph Γ S t t2 (ρ x) else zfc S (zoh Γ S t t2 (ρ x)):=Eq.trans rfl rfl
theorem z72:zec P Γ ρ ⟨d,.convert t t2 x,ty,pos,e,g⟩ S=zoh Γ S t t2 (ρ x):=Eq.trans rfl rfl
theorem zae {n:Nat} {parts:Array (Nat×Operand)}:zd6 P Γ own ρ ⟨d,.buildSlice t n parts,ty,pos,e,g⟩ S=bif ownD own d then zas Γ S ρ t n parts.toList else zfc S (zah Γ ρ t n parts.toList):=Eq.trans rfl rfl
theorem zal {n:Nat} {parts:Array (Nat×Operand)}:zec P Γ ρ ⟨d,.buildSlice t n parts,ty,pos,e,g⟩ S=zah Γ ρ t n parts.toList:=Eq.trans rfl rfl
theorem yel:zec P Γ ρ ⟨d,.call ⟨.builtin .len,#[x],#[t]⟩,ty,pos,e,g⟩ S=tLen Γ S t (ρ x):=Eq.trans rfl rfl
theorem yeh:zd6 P Γ own ρ ⟨d,.call ⟨.builtin .len,#[x],#[t]⟩,ty,pos,e,g⟩ S=zfc S (tLen Γ S t (ρ x)):=Eq.trans rfl rfl
theorem zxs:zd6 P Γ own ρ ⟨d,.call ⟨.builtin .append,#[x,y],#[t,t2]⟩,ty,pos,e,g⟩ S=bif srcT Γ t2 then znq Γ S t (ρ y) (ρ x) else none:=Eq.trans rfl rfl
theorem z7w:zd6 P Γ own ρ ⟨d,.call ⟨.builtin .copy,#[x,y],#[t,t2]⟩,ty,pos,e,g⟩ S=ybw Γ S t (ρ y) (ρ x):=Eq.trans rfl rfl
noncomputable def minT (a b:T):Option T:=match a,b with|.int k a,.int _ b=>some (.int k (min a b))|_,_=>none
noncomputable def maxT (a b:T):Option T:=match a,b with|.int k a,.int _ b=>some (.int k (max a b))|_,_=>none
theorem z3e {k k':IntKind} {a b:Int}:minT (.int k a) (.int k' b)=some (.int k (min a b)):=Eq.trans rfl rfl
theorem z3f {k k':IntKind} {a b:Int}:maxT (.int k a) (.int k' b)=some (.int k (max a b)):=Eq.trans rfl rfl
theorem z7z {tys:Array TypeId}:zec P Γ ρ ⟨d,.call ⟨.builtin .min,#[x,y],tys⟩,ty,pos,e,g⟩ S=minT (ρ x) (ρ y):=by
  show (match ρ x,ρ y with|.int k a,.int _ b=>some (T.int k (min a b))|_,_=>none)=_;cases ρ x<;>cases ρ y<;>rfl
theorem yef {tys:Array TypeId}:zd6 P Γ own ρ ⟨d,.call ⟨.builtin .min,#[x,y],tys⟩,ty,pos,e,g⟩ S=zfc S (minT (ρ x) (ρ y)):=by
  show zfc S (zec P Γ ρ ⟨d,.call ⟨.builtin .min,#[x,y],tys⟩,ty,pos,e,g⟩ S)=_;rw [z7z]
theorem z70 {tys:Array TypeId}:zec P Γ ρ ⟨d,.call ⟨.builtin .max,#[x,y],tys⟩,ty,pos,e,g⟩ S=maxT (ρ x) (ρ y):=by
  show (match ρ x,ρ y with|.int k a,.int _ b=>some (T.int k (max a b))|_,_=>none)=_;cases ρ x<;>cases ρ y<;>rfl
theorem yeg {tys:Array TypeId}:zd6 P Γ own ρ ⟨d,.call ⟨.builtin .max,#[x,y],tys⟩,ty,pos,e,g⟩ S=zfc S (maxT (ρ x) (ρ y)):=by
  show zfc S (zec P Γ ρ ⟨d,.call ⟨.builtin .max,#[x,y],tys⟩,ty,pos,e,g⟩ S)=_;rw [z70]
theorem yd9 {b:BinOp} {k k':IntKind} {m n:Int}:tBin P Γ S t b x y (.int k m) (.int k' n)=zbl b k k' m n:=Eq.trans rfl rfl
theorem yd8 {b:BinOp} {m n:ByteArray}:tBin P Γ S t b x y (.str m) (.str n)=zs7 b m n:=Eq.trans rfl rfl
theorem yed {m n:ByteArray}:zs7 .eql m n=some (.bool (decide (m=n))):=Eq.trans rfl rfl
theorem yec {m n:ByteArray}:zs7 .neq m n=some (.bool (!decide (m=n))):=Eq.trans rfl rfl
theorem yd6 {b:Bool}:tUn .not (.bool b)=some (.bool (!b)):=Eq.trans rfl rfl
theorem yd7 {k:IntKind} {n:Int}:tUn .neg (.int k n)=some (.int k (k.wrap (0 - n))):=Eq.trans rfl rfl
end
section
variable {k:IntKind} {a b:Int}
theorem yfg:zbl .add k k a b=some (.int k (k.wrap (a+b))):=by simp [zbl]
theorem ye8:zbl .sub k k a b=some (.int k (k.wrap (a - b))):=by simp [zbl]
theorem yfa:zbl .mul k k a b=some (.int k (k.wrap (a*b))):=by simp [zbl]
theorem yff:zbl .eql k k a b=some (.bool (decide (a=b))):=by simp [zbl]
theorem ye9:zbl .neq k k a b=some (.bool (decide (a≠b))):=by simp [zbl]
theorem yfb:zbl .lss k k a b=some (.bool (decide (a<b))):=by simp [zbl]
theorem yfc:zbl .leq k k a b=some (.bool (decide (a≤b))):=by simp [zbl]
theorem yfd:zbl .gtr k k a b=some (.bool (decide (b<a))):=by simp [zbl]
theorem yfe:zbl .geq k k a b=some (.bool (decide (b≤a))):=by simp [zbl]
theorem zg7 (ha:0≤a) (hb:0<b):zbl .quo k k a b=some (.int k (k.wrap (a / b))):=by
  simp only [zbl,Nat.beq_refl,cond_true];rw [if_neg (by omega),Int.tdiv_eq_ediv_of_nonneg ha]
theorem zg6 (ha:0≤a) (hb:0<b):zbl .rem k k a b=some (.int k (a % b)):=by
  simp only [zbl,Nat.beq_refl,cond_true];rw [if_neg (by omega),Int.tmod_eq_emod_of_nonneg ha]
theorem yj1:zbl .and k k a b=some (.int k (k.wrap (BitVec.ofInt k.bits a &&& BitVec.ofInt k.bits b).toNat)):=by simp [zbl]
theorem ib_or:zbl .or k k a b=some (.int k (k.wrap (BitVec.ofInt k.bits a ||| BitVec.ofInt k.bits b).toNat)):=by simp [zbl]
theorem yjz:zbl .xor k k a b=some (.int k (k.wrap (BitVec.ofInt k.bits a ^^^ BitVec.ofInt k.bits b).toNat)):=by simp [zbl]
theorem yj0 {k':IntKind} (hb:0≤b):zbl .shl k k' a b=some (.int k (k.wrap (a*2 ^ (min b.toNat k.bits)))):=by simp [zbl,hb]
theorem wr64 {n:Int} (h:-9223372036854775808≤n∧n≤9223372036854775807):IntKind.i64.wrap n=n:=yhv h
theorem z85 {n:Int} (h:0≤n):natT (.int k n)=some n.toNat:=by
  obtain ⟨m,rfl⟩:=Int.eq_ofNat_of_zero_le h;rfl
theorem z87 {n:Int} (h:0≤n):zf2 (.int k n)=some n.toNat:=by
  obtain ⟨m,rfl⟩:=Int.eq_ofNat_of_zero_le h;rfl
theorem ztt {n:Int}:zdh (.int k n)=.int k n:=Eq.trans rfl rfl
theorem yc0 {α:Type} [Inhabited α] {L:List α} {n:Nat} (h:n<L.length):L[n]?=some (L.getD n default):=by
  rw [List.getD_eq_getElem?_getD,List.getElem?_eq_getElem h];rfl
def stL (l:List Box):TS:=⟨l.length,fun i=>l.getD i .gone⟩
theorem zp7:ts0=stL []:=rfl
theorem st_n (l:List Box):(stL l).n=l.length:=rfl
theorem yea (l:List Box) (i:Nat):(stL l).box i=l.getD i .gone:=rfl
theorem z18 (l:List Box) (x:Box):(stL l).add x=stL (l++[x]):=by
  unfold stL TS.add;simp only [List.length_append,List.length_cons,List.length_nil];congr 1;funext i;by_cases hi:i<l.length
  · rw [if_neg (by omega),List.getD_eq_getElem?_getD,List.getD_eq_getElem?_getD,List.getElem?_append_left hi]
  · by_cases he:i=l.length
    · subst he;rw [if_pos rfl];simp
    · rw [if_neg he,List.getD_eq_getElem?_getD,List.getD_eq_getElem?_getD,List.getElem?_eq_none (by omega),List.getElem?_eq_none (by simp;omega)]
theorem ziu (l:List Box) (b:Nat) (x:Box) (h:b<l.length):(stL l).set b x=stL (l.set b x):=by
  unfold stL TS.set;simp only [List.length_set];congr 1;funext i;rw [List.getD_eq_getElem?_getD,List.getD_eq_getElem?_getD,List.getElem?_set];by_cases hi:i=b
  · subst hi;rw [if_pos rfl,if_pos rfl,if_pos h];rfl
  · rw [if_neg hi,if_neg (fun hh=>hi hh.symm)]
theorem zy5 {α:Type} (x d:α) (l:List α):(x :: l).getD 0 d=x:=rfl
theorem zy6 {α:Type} (x d:α) (l:List α) (n:Nat):(x :: l).getD (n+1) d=l.getD n d:=rfl
end
end
section
open Go Go.RowKit
def zwk (l:List Nat) (h:Nat→T):Nat→T:=fun t=>if t∈l then h t else .junk
def zg3:List Nat→Nat→(Nat→T)→Prop
  |[],_,_=>True
  |t :: l,n,h=>(h t).ids n=true∧zg3 l n h
theorem zl0 {n:Nat} {h:Nat→T}:∀ {l:List Nat},zg3 l n h→∀ t,t∈l→(h t).ids n=true
  |[],_,t,ht=>by simp at ht
  |x :: l,k,t,ht=>by
    rcases List.mem_cons.1 ht with rfl|ht
    · exact k.1
    · exact zl0 k.2 t ht
def zek (n:Nat):List Box→Bool
  |[]=>true
  |b :: l=>zf8 n b && zek n l
theorem z7i {l:List T} {i:Nat} {x:T} (h:i<l.length):spl l i [x]=l.set i x:=by
  unfold spl;rw [List.set_eq_take_append_cons_drop,if_pos h];simp
theorem yhd {α:Type} {L:List α} {f:α→T} {i:Nat} {v:α}:(L.map f).set i (f v)=(L.set i v).map f:=(List.map_set).symm
theorem yhc {l:List T}:spl l 0 []=l:=by simp [spl]
theorem yi7 {a:T} {l xs:List T} {n:Nat}:spl (a :: l) (n+1) xs=a :: spl l n xs:=by
  unfold spl;rw [show n+1+xs.length=(n+xs.length)+1 by omega];simp
theorem yi9 {a x:T} {l xs:List T}:spl (a :: l) 0 (x :: xs)=x :: spl l 0 xs:=by simp [spl]
theorem yhb {α:Type} {L:List α} {f:α→T} {i:Nat} {v:α} (h:i<L.length):spl (L.map f) i [f v]=(L.set i v).map f:=by
  rw [z7i (by rw [List.length_map];exact h),yhd]
theorem z8c (n:Nat) (k:IntKind) (z:Int):rep n [.int k z]=(List.replicate n z).map (T.int k):=by
  unfold rep
  induction n with
  |zero=>rfl
  |succ n ih=>rw [List.replicate_succ,List.flatten_cons,ih,List.replicate_succ];rfl
theorem z2v (n:Nat) (z:Bool):rep n [.bool z]=(List.replicate n z).map T.bool:=by
  unfold rep
  induction n with
  |zero=>rfl
  |succ n ih=>rw [List.replicate_succ,List.flatten_cons,ih,List.replicate_succ];rfl
theorem zjb {α:Type} {L:List α} {f:α→T} (h:∀ x,(f x).cells=[f x]):(L.map f).flatMap T.cells=L.map f:=by
  induction L with
  |nil=>rfl
  |cons x l ih=>rw [List.map_cons,List.flatMap_cons,h,ih];rfl
theorem z3g {α:Type} {S:TS} {b N:Nat} {z:Bool} {L:List α} {f:α→T} (h1:∀ x,(f x).cells=[f x]) (hS:S.box b=.cells z N (L.map f)) (hl:L.length=N):ydv S (.arr b 1 0 N N N) (.lst 1 (L.map f)) :=
  .inr ⟨b,1,0,N,N,N,z,L.map f,L.map f,rfl,rfl,hS,by omega,by omega,by rw [List.drop_zero,Nat.mul_one,List.take_of_length_le (by rw [List.length_map];omega),zjb h1],fun t ht=>by obtain ⟨x,_,rfl⟩:=List.mem_map.1 ht;rw [h1];rfl,by rw [List.length_map];exact hl,Nat.le_refl _⟩
section
variable {GL:List (Nat×List Value)} {A A' A2:Nat→Prop} {β β' β2:Bx} {S S' S2:TS} {s s' s2:CS} {P:Program} {Γ:Env} {N:Nat} {h h' h2:Nat→T} {Q R:Exit→(Nat→T)→TS→Prop}
theorem zk9 {l:List Nat} {t:Nat} (ht:t∈l):zwk l h t=h t:=if_pos ht
theorem zkx {n:Nat} {l:List Box}:∀ {i:Nat},zek n l=true→zf8 n (l.getD i .gone)=true:=by
  induction l with
  |nil=>intro i _;rfl
  |cons b l ih =>
    intro i h;simp only [zek,Bool.and_eq_true] at h
    cases i with
    |zero=>exact h.1
    |succ i=>exact ih h.2
theorem Left.trim {fr fr':Fr} {keep:List Nat} {bs bs2 extra:List Box} (hT:TRel GL A β (stL bs) s) (k:Left GL A β s N fr' s' h' (stL (bs2++extra))) (hl:bs2.length=bs.length) (hb:zek bs.length bs2=true) (hk:zg3 keep bs.length h'):Left GL A β s N fr' s' (zwk keep h') (stL bs2):=by
  obtain ⟨A',β',k1,k2,k3⟩:=k;have hat:∀ b,b<bs.length→bcut β' bs.length b=β' b:=fun b hb=>if_pos hb
  have hsub:∀ b l,bcut β' bs.length b=some l→β' b=some l:=fun b l h=>by
    unfold bcut at h;split at h
    · exact h
    · simp at h
  have hkp:zoc (stL (bs2++extra)) (stL bs2):=by
    refine ⟨by simp [stL],fun b=>?_⟩;by_cases hbl:b<bs2.length
    · refine .inr ⟨hbl,?_,?_⟩
      · show bs2.getD b .gone=(bs2++extra).getD b .gone;rw [List.getD_eq_getElem?_getD,List.getD_eq_getElem?_getD,List.getElem?_append_left hbl]
      · show zf8 bs2.length ((bs2++extra).getD b .gone)=true;rw [List.getD_eq_getElem?_getD,List.getElem?_append_left hbl,← List.getD_eq_getElem?_getD,hl];exact zkx hb
    · left;show bs2.getD b .gone=.gone;rw [List.getD_eq_getElem?_getD,List.getElem?_eq_none (by omega)];rfl
  have hcut:=k2.cut hkp;have hn:(stL bs2).n=bs.length:=hl;rw [hn] at hcut;refine ⟨A',bcut β' bs.length,⟨k1.nt,k1.le,fun t=>?_⟩,hcut,k3.can,k3.sub,k3.new,fun f hf=>?_,k3.keep,fun b l hb'=>?_,k3.rd,k3.wr⟩
  · by_cases ht:t∈keep
    · rw [zk9 ht];exact (k1.slot t).ids hat (zl0 hk t ht)
    · rw [show zwk keep h' t=.junk from if_neg ht];exact .junk _
  · obtain ⟨b,hb'⟩:=hf;exact k3.own f ⟨b,hb'.imp (fun ⟨u,N,h⟩=>⟨u,N,hsub _ _ h⟩) fun h=>hsub _ _ h⟩
  · obtain ⟨l',c1,c2⟩:=k3.bx b l hb'
    have:b<bs.length:=by
      by_cases hh:b<bs.length
      · exact hh
      · rw [hT.next b (by show bs.length≤b;omega)] at hb';simp at hb'
    exact ⟨l',by rw [hat b this];exact c1,c2⟩
def ykr (keep:List Nat) (n:Nat) (I:Nat→(Nat→T)→List Box→Prop) (m0:Nat) (h':Nat→T) (S':TS):Prop :=
  ∃ m,m<m0∧∃ bs',S'=stL bs'∧n≤bs'.length∧zek n (bs'.take n)=true∧zg3 keep n h'∧I m (zwk keep h') (bs'.take n)
theorem TW.loopT {b:Code} (keep:List Nat) (I:Nat→(Nat→T)→List Box→Prop) (hb:∀ m h bs,I m h bs→TW P Γ GL N b h (stL bs) (onT (fun h' S'=>ykr keep bs.length I m h' S') Q)):∀ m h bs,I m h bs→TW P Γ GL N (.loop b) h (stL bs) Q:=by
  intro m
  induction m using Nat.strongRecOn with
  |_ m ih =>
    intro h bs hI A β fr s hF hT;obtain ⟨e,fr1,s1,h1,h',S',hleft,hq⟩:=hb m h bs hI A β fr s hF hT
    cases e with
    |normal =>
      obtain ⟨m2,hm,bs',rfl,hl,hbi,hki,hI'⟩:=hq;have hl2:=Left.trim (fr:=fr) (keep:=keep) (bs2:=bs'.take bs.length) (extra:=bs'.drop bs.length) hT (by rw [List.take_append_drop];exact hleft) (by rw [List.length_take];omega) hbi hki;obtain ⟨A',β',k1,k2,k3⟩:=hl2;obtain ⟨e2,fr2,s2,h3,h2,S2,l2,q2⟩:=ih m2 hm _ _ hI' A' β' fr1 s1 k1 k2;exact ⟨e2,fr2,s2,Ev.again h1 h3,h2,S2,Left.trans (h':=h) (fr':=fr) hT.le k3 l2,q2⟩
    |_=>exact ⟨_,_,_,Ev.last h1 (by simp),h',S',hleft,hq⟩
def Ends (keep:List Nat) (n:Nat) (R:(Nat→T)→List Box→Prop) (h':Nat→T) (S':TS):Prop :=
  ∃ bs',S'=stL bs'∧n≤bs'.length∧zek n (bs'.take n)=true∧zg3 keep n h'∧R (zwk keep h') (bs'.take n)
theorem TRel.freezeP (hT:TRel GL A β S s) {b M:Nat} {z:Bool} {l:List T} (hS:S.box b=.cells z M l) :
    ∃ A' β',TRel GL A' β' (S.set b .gone) s∧Stp A β s A' β' s∧∀ {v:Value},VT A β (zaa s.obj) (.ptr b 0 M) v→VT A' β' (zaa s.obj) (.cp l) v:=by
  obtain ⟨hlN,hc⟩:=hT.cells b z M l hS;rcases hc with ⟨hb,hN,_⟩|⟨f,u,cs,rest,hb,hz,hat,hvl,hone⟩
  · obtain ⟨k1,k2⟩:=hT.dead hb A (fun _ h=>h) (fun _ h=>.inl h);refine ⟨_,_,k1,k2,fun {v} hv=>?_⟩;obtain ⟨f,u,rfl,hb'⟩:=zhu hT hS hv;rw [hb] at hb';simp at hb'
  · obtain ⟨k1,k2⟩:=hT.dead hb (fun k=>A k∨k=f) (fun _ h=>.inl h) (fun k hk=>hk.imp id fun q=>by rw [q];rfl);refine ⟨_,_,k1,k2,fun {v} hv=>?_⟩;obtain ⟨f',u',rfl,hb'⟩:=zhu hT hS hv;rw [hb] at hb';cases hb'
    have hrow:zbf (zaa s.obj f).rows u=some cs:=by
      rw [hat];show zbf ((u,cs) :: rest) u=some cs;unfold zbf;rw [Nat.beq_refl];rfl
    exact .cp (.inr rfl) hrow (hvl.mono (fun _ h=>.inl h) (fun _ _=>rfl) k2.bx) (by rw [List.drop_zero,List.take_length])
theorem TW.freezeP {c:Code} (t:Nat) {b M:Nat} {z:Bool} {l:List T} (ht:h t=.ptr b 0 M) (hS:S.box b=.cells z M l) (k:TW P Γ GL N c (tupd h t (.cp l)) (S.set b .gone) Q):TW P Γ GL N c h S Q:=by
  intro A β fr s hF hT;obtain ⟨A',β',k1,k2,k3⟩:=hT.freezeP hS;have hv:=hF.slot t;rw [ht] at hv
  have hF':FrOk A' β' (zaa s.obj) N (tupd h t (.cp l)) fr:=⟨hF.nt,hF.le,fun u=>by
    by_cases hu:u=t
    · subst hu;rw [zgs];exact k3 hv
    · rw [zj8 _ _ _ _ hu];exact k2.vt hT (hF.slot u)⟩
  refine (k A' β' fr s hF' k1).mono ?_;rintro e2 fr2 s2 ⟨h2,S2,l2,q2⟩;exact ⟨h2,S2,Left.trans (h':=h) (fr':=fr) hT.le k2 l2,q2⟩
theorem TW.cut {a:Code} {k:(Nat→T)→TS→Prop} (keep:List Nat) {bs:List Box} (R:(Nat→T)→List Box→Prop) (hR:TW P Γ GL N a h (stL bs) fun e h' S'=>e=.normal∧Ends keep bs.length R h' S') (hk:∀ h bs2,R h bs2→k h (stL bs2)):TW P Γ GL N a h (stL bs) (onT k Q):=by
  intro A β fr s hF hT;obtain ⟨e,fr1,s1,h1,h',S',hleft,rfl,bs',rfl,hl,hbi,hki,hq⟩:=hR A β fr s hF hT;exact ⟨_,fr1,s1,h1,_,_,Left.trim (fr:=fr) (keep:=keep) (bs2:=bs'.take bs.length) (extra:=bs'.drop bs.length) hT (by rw [List.take_append_drop];exact hleft) (by rw [List.length_take];omega) hbi hki,hk _ _ hq⟩
end
end
section
open Go Go.RowKit
theorem zpo {k:IntKind} {n:Int}:T.one (T.int k n)=true:=Eq.trans rfl rfl
theorem z4p {k:IntKind} {n:Int}:T.cells (T.int k n)=[(T.int k n)]:=Eq.trans rfl rfl
theorem zmv {b:Bool}:T.one (T.bool b)=true:=Eq.trans rfl rfl
theorem zzv {b:Bool}:T.cells (T.bool b)=[(T.bool b)]:=Eq.trans rfl rfl
theorem zpm {b:ByteArray}:T.one (T.str b)=true:=Eq.trans rfl rfl
theorem z4m {b:ByteArray}:T.cells (T.str b)=[(T.str b)]:=Eq.trans rfl rfl
theorem zpn {e:Nat} {l:List T}:T.one (T.lst e l)=true:=Eq.trans rfl rfl
theorem z4o {e:Nat} {l:List T}:T.cells (T.lst e l)=[(T.lst e l)]:=Eq.trans rfl rfl
theorem zx7  : T.one (T.nils)=true:=Eq.trans rfl rfl
theorem zzq  : T.cells (T.nils)=[(T.nils)]:=Eq.trans rfl rfl
theorem zx8  : T.one (T.nilp)=true:=Eq.trans rfl rfl
theorem zzr  : T.cells (T.nilp)=[(T.nilp)]:=Eq.trans rfl rfl
theorem zx9  : T.one (T.nilm)=true:=Eq.trans rfl rfl
theorem zzs  : T.cells (T.nilm)=[(T.nilm)]:=Eq.trans rfl rfl
theorem zya  : T.one (T.nilf)=true:=Eq.trans rfl rfl
theorem zzt  : T.cells (T.nilf)=[(T.nilf)]:=Eq.trans rfl rfl
theorem z26 {b o n:Nat}:T.one (T.ptr b o n)=true:=Eq.trans rfl rfl
theorem z4n {b o n:Nat}:T.cells (T.ptr b o n)=[(T.ptr b o n)]:=Eq.trans rfl rfl
theorem z8x {l:List T}:T.one (T.cp l)=true:=Eq.trans rfl rfl
theorem ya3 {l:List T}:T.cells (T.cp l)=[(T.cp l)]:=Eq.trans rfl rfl
theorem z28 {b e o l c n:Nat}:T.one (T.arr b e o l c n)=true:=Eq.trans rfl rfl
theorem z4r {b e o l c n:Nat}:T.cells (T.arr b e o l c n)=[(T.arr b e o l c n)]:=Eq.trans rfl rfl
theorem z8v {b:Nat}:T.one (T.mp b)=true:=Eq.trans rfl rfl
theorem ya1 {b:Nat}:T.cells (T.mp b)=[(T.mp b)]:=Eq.trans rfl rfl
theorem z8w {f:Nat} {a c:List T}:T.one (T.fn f a c)=true:=Eq.trans rfl rfl
theorem ya2 {f:Nat} {a c:List T}:T.cells (T.fn f a c)=[(T.fn f a c)]:=Eq.trans rfl rfl
theorem z27 {e:Nat}:T.one (T.emp e)=true:=Eq.trans rfl rfl
theorem z4q {e:Nat}:T.cells (T.emp e)=[(T.emp e)]:=Eq.trans rfl rfl
theorem ygt {k:IntKind}:aggT (.int k)=false:=Eq.trans rfl rfl
theorem ygu  : aggT .bool=false:=Eq.trans rfl rfl
theorem ygp  : aggT .string=false:=Eq.trans rfl rfl
theorem ygs {k:TypeId}:aggT (.slice k)=false:=Eq.trans rfl rfl
theorem ygq {k:TypeId}:aggT (.pointer k)=false:=Eq.trans rfl rfl
theorem ygr {k k2:TypeId}:aggT (.map k k2)=false:=Eq.trans rfl rfl
theorem b0:type_of% (And.intro (And.intro (And.intro (And.intro (And.intro (@z73) (@z74)) (And.intro (@zxw) (@zqr))) (And.intro (And.intro (@zqq) (@z2m)) (And.intro (@z81) (@yey)))) (And.intro (And.intro (And.intro (@z8y) (@z4w)) (And.intro (@z75) (@z76))) (And.intro (And.intro (@zxx) (@zqt)) (And.intro (@zqs) (@z2o))))) (And.intro (And.intro (And.intro (And.intro (@z3d) (@z8z)) (And.intro (@z29) (@zzx))) (And.intro (And.intro (@z6r) (@z6s)) (And.intro (@z6u) (@z6v)))) (And.intro (And.intro (And.intro (@z6t) (@zta)) (And.intro (@ztb) (@z97))) (And.intro (And.intro (@z35) (@zxc)) (And.intro (@zs1) (@zyu)))))):=And.intro (And.intro (And.intro (And.intro (And.intro (@z73) (@z74)) (And.intro (@zxw) (@zqr))) (And.intro (And.intro (@zqq) (@z2m)) (And.intro (@z81) (@yey)))) (And.intro (And.intro (And.intro (@z8y) (@z4w)) (And.intro (@z75) (@z76))) (And.intro (And.intro (@zxx) (@zqt)) (And.intro (@zqs) (@z2o))))) (And.intro (And.intro (And.intro (And.intro (@z3d) (@z8z)) (And.intro (@z29) (@zzx))) (And.intro (And.intro (@z6r) (@z6s)) (And.intro (@z6u) (@z6v)))) (And.intro (And.intro (And.intro (@z6t) (@zta)) (And.intro (@ztb) (@z97))) (And.intro (And.intro (@z35) (@zxc)) (And.intro (@zs1) (@zyu)))))
theorem b1:type_of% (And.intro (And.intro (And.intro (And.intro (And.intro (@zt6) (@z4s)) (And.intro (@z4u) (@z8o))) (And.intro (And.intro (@z8p) (@zna)) (And.intro (@zhe) (@yam)))) (And.intro (And.intro (And.intro (@zzf) (@ye1)) (And.intro (@zjr) (@ye0))) (And.intro (And.intro (@z9h) (@z9i)) (And.intro (@z9j) (@z9k))))) (And.intro (And.intro (And.intro (And.intro (@zsv) (@zsw)) (And.intro (@z9z) (@zy3))) (And.intro (And.intro (@z9y) (@z30)) (And.intro (@ye6) (@z3z)))) (And.intro (And.intro (And.intro (@zbq) (@z90)) (And.intro (@z3v) (@zrn))) (And.intro (And.intro (@ye7) (@yjy)) (And.intro (@z91) (@ye5)))))):=And.intro (And.intro (And.intro (And.intro (And.intro (@zt6) (@z4s)) (And.intro (@z4u) (@z8o))) (And.intro (And.intro (@z8p) (@zna)) (And.intro (@zhe) (@yam)))) (And.intro (And.intro (And.intro (@zzf) (@ye1)) (And.intro (@zjr) (@ye0))) (And.intro (And.intro (@z9h) (@z9i)) (And.intro (@z9j) (@z9k))))) (And.intro (And.intro (And.intro (And.intro (@zsv) (@zsw)) (And.intro (@z9z) (@zy3))) (And.intro (And.intro (@z9y) (@z30)) (And.intro (@ye6) (@z3z)))) (And.intro (And.intro (And.intro (@zbq) (@z90)) (And.intro (@z3v) (@zrn))) (And.intro (And.intro (@ye7) (@yjy)) (And.intro (@z91) (@ye5)))))
theorem b2:type_of% (And.intro (And.intro (And.intro (And.intro (And.intro (@zro) (@zox)) (And.intro (@z3w) (@zoz))) (And.intro (And.intro (@z3y) (@zoy)) (And.intro (@z3x) (@zuj)))) (And.intro (And.intro (And.intro (@zuk) (@z7u)) (And.intro (@z7y) (@zxr))) (And.intro (And.intro (@zxt) (@z7v)) (And.intro (@z71) (@zql))))) (And.intro (And.intro (And.intro (And.intro (@zqn) (@yee)) (And.intro (@yek) (@zoo))) (And.intro (And.intro (@zoq) (@z2f)) (And.intro (@z2k) (@zon)))) (And.intro (And.intro (And.intro (@zop) (@z2e)) (And.intro (@z2j) (@zth))) (And.intro (And.intro (@zti) (@yjd)) (And.intro (@yje) (@yej)))))):=And.intro (And.intro (And.intro (And.intro (And.intro (@zro) (@zox)) (And.intro (@z3w) (@zoz))) (And.intro (And.intro (@z3y) (@zoy)) (And.intro (@z3x) (@zuj)))) (And.intro (And.intro (And.intro (@zuk) (@z7u)) (And.intro (@z7y) (@zxr))) (And.intro (And.intro (@zxt) (@z7v)) (And.intro (@z71) (@zql))))) (And.intro (And.intro (And.intro (And.intro (@zqn) (@yee)) (And.intro (@yek) (@zoo))) (And.intro (And.intro (@zoq) (@z2f)) (And.intro (@z2k) (@zon)))) (And.intro (And.intro (And.intro (@zop) (@z2e)) (And.intro (@z2j) (@zth))) (And.intro (And.intro (@zti) (@yjd)) (And.intro (@yje) (@yej)))))
theorem b3:type_of% (And.intro (And.intro (And.intro (And.intro (And.intro (@yem) (@z2g)) (And.intro (@z2l) (@z2d))) (And.intro (And.intro (@z2i) (@zqm)) (And.intro (@zqo) (@z7t)))) (And.intro (And.intro (And.intro (@z0r) (@z7x)) (And.intro (@z72) (@zae))) (And.intro (And.intro (@zal) (@yeh)) (And.intro (@yel) (@yef))))) (And.intro (And.intro (And.intro (And.intro (@z7z) (@yeg)) (And.intro (@z70) (@z2h))) (And.intro (And.intro (@yei) (@z2c)) (And.intro (@zom) (@zxs)))) (And.intro (And.intro (And.intro (@z7w) (@z8m)) (And.intro (@z8n) (@z3e))) (And.intro (And.intro (@z3f) (@yd9)) (And.intro (@yd8) (@yed)))))):=And.intro (And.intro (And.intro (And.intro (And.intro (@yem) (@z2g)) (And.intro (@z2l) (@z2d))) (And.intro (And.intro (@z2i) (@zqm)) (And.intro (@zqo) (@z7t)))) (And.intro (And.intro (And.intro (@z0r) (@z7x)) (And.intro (@z72) (@zae))) (And.intro (And.intro (@zal) (@yeh)) (And.intro (@yel) (@yef))))) (And.intro (And.intro (And.intro (And.intro (@z7z) (@yeg)) (And.intro (@z70) (@z2h))) (And.intro (And.intro (@yei) (@z2c)) (And.intro (@zom) (@zxs)))) (And.intro (And.intro (And.intro (@z7w) (@z8m)) (And.intro (@z8n) (@z3e))) (And.intro (And.intro (@z3f) (@yd9)) (And.intro (@yd8) (@yed)))))
theorem b4:type_of% (And.intro (And.intro (And.intro (And.intro (And.intro (@yec) (@yd6)) (And.intro (@yd7) (@zbo))) (And.intro (And.intro (@ztt) (@z85)) (And.intro (@z87) (@z8c)))) (And.intro (And.intro (And.intro (@z2v) (@yhc)) (And.intro (@yi7) (@yi9))) (And.intro (And.intro (@yfg) (@ye8)) (And.intro (@yfa) (@yff))))) (And.intro (And.intro (And.intro (And.intro (@ye9) (@yfb)) (And.intro (@yfc) (@yfd))) (And.intro (And.intro (@yfe) (@zg7)) (And.intro (@zg6) (@zp7)))) (And.intro (And.intro (And.intro (@st_n) (@yea)) (And.intro (@z18) (@ziu))) (And.intro (And.intro (@zy5) (@zy6)) (And.intro (@cond_true.{1}) (@cond_false.{1})))))):=And.intro (And.intro (And.intro (And.intro (And.intro (@yec) (@yd6)) (And.intro (@yd7) (@zbo))) (And.intro (And.intro (@ztt) (@z85)) (And.intro (@z87) (@z8c)))) (And.intro (And.intro (And.intro (@z2v) (@yhc)) (And.intro (@yi7) (@yi9))) (And.intro (And.intro (@yfg) (@ye8)) (And.intro (@yfa) (@yff))))) (And.intro (And.intro (And.intro (And.intro (@ye9) (@yfb)) (And.intro (@yfc) (@yfd))) (And.intro (And.intro (@yfe) (@zg7)) (And.intro (@zg6) (@zp7)))) (And.intro (And.intro (And.intro (@st_n) (@yea)) (And.intro (@z18) (@ziu))) (And.intro (And.intro (@zy5) (@zy6)) (And.intro (@cond_true.{1}) (@cond_false.{1})))))
theorem b5:type_of% (And.intro (And.intro (And.intro (And.intro (And.intro (@List.toList_toArray.{0}) (@List.map_cons.{0,0})) (And.intro (@List.map_nil.{0,0}) (@List.length_cons.{0}))) (And.intro (And.intro (@List.length_nil.{0}) (@List.length_map.{0,0})) (And.intro (@List.getElem?_cons_zero.{0}) (@List.getElem?_cons_succ.{0})))) (And.intro (And.intro (And.intro (@List.getElem?_map.{0,0}) (@Option.map_some.{0,0})) (And.intro (@Option.map_none.{0,0}) (@List.nil_append.{0}))) (And.intro (And.intro (@List.cons_append.{0}) (@List.append_nil.{0})) (And.intro (@List.all_cons.{0}) (@List.all_nil.{0}))))) (And.intro (And.intro (And.intro (And.intro (@List.drop_zero.{0}) (@List.drop_succ_cons.{0})) (And.intro (@List.take_succ_cons.{0}) (@List.take_zero.{0}))) (And.intro (And.intro (@List.set_cons_zero.{0}) (@List.set_cons_succ.{0})) (And.intro (@Bool.and_true) (@Bool.true_and)))) (And.intro (And.intro (And.intro (@Bool.and_self) (@Bool.not_true)) (And.intro (@Bool.not_false) (@Bool.false_and))) (And.intro (And.intro (@Bool.and_false) (@zid)) (And.intro (@z40) (@zg9)))))):=And.intro (And.intro (And.intro (And.intro (And.intro (@List.toList_toArray.{0}) (@List.map_cons.{0,0})) (And.intro (@List.map_nil.{0,0}) (@List.length_cons.{0}))) (And.intro (And.intro (@List.length_nil.{0}) (@List.length_map.{0,0})) (And.intro (@List.getElem?_cons_zero.{0}) (@List.getElem?_cons_succ.{0})))) (And.intro (And.intro (And.intro (@List.getElem?_map.{0,0}) (@Option.map_some.{0,0})) (And.intro (@Option.map_none.{0,0}) (@List.nil_append.{0}))) (And.intro (And.intro (@List.cons_append.{0}) (@List.append_nil.{0})) (And.intro (@List.all_cons.{0}) (@List.all_nil.{0}))))) (And.intro (And.intro (And.intro (And.intro (@List.drop_zero.{0}) (@List.drop_succ_cons.{0})) (And.intro (@List.take_succ_cons.{0}) (@List.take_zero.{0}))) (And.intro (And.intro (@List.set_cons_zero.{0}) (@List.set_cons_succ.{0})) (And.intro (@Bool.and_true) (@Bool.true_and)))) (And.intro (And.intro (And.intro (@Bool.and_self) (@Bool.not_true)) (And.intro (@Bool.not_false) (@Bool.false_and))) (And.intro (And.intro (@Bool.and_false) (@zid)) (And.intro (@z40) (@zg9)))))
theorem b6:type_of% (And.intro (And.intro (And.intro (And.intro (And.intro (@Nat.beq_refl) (@Int.toNat_natCast)) (And.intro (@Nat.zero_add) (@Nat.add_zero))) (And.intro (And.intro (@Nat.mul_one) (@List.length_replicate.{0})) (And.intro (@ownD.eq_1) (@ownD.eq_2)))) (And.intro (And.intro (And.intro (@has.eq_1) (@has.eq_2)) (And.intro (@tLen.eq_1) (@zqa.eq_1))) (And.intro (And.intro (@zqa.eq_2) (@zs5.eq_1)) (And.intro (@zx5.eq_1) (@tBox.eq_1))))) (And.intro (And.intro (And.intro (And.intro (@zs6.eq_1) (@zfb.eq_1)) (And.intro (@zfb.eq_2) (@zje.eq_1))) (And.intro (And.intro (@zje.eq_2) (@zje.eq_3)) (And.intro (@zje.eq_4) (@zje.eq_5)))) (And.intro (And.intro (And.intro (@zje.eq_6) (@zje.eq_7)) (And.intro (@zgg.eq_1) (@zqb.eq_1))) (And.intro (And.intro (@zjg.eq_1) (@zel.eq_1)) (And.intro (@zel.eq_2) (@zel.eq_3)))))):=And.intro (And.intro (And.intro (And.intro (And.intro (@Nat.beq_refl) (@Int.toNat_natCast)) (And.intro (@Nat.zero_add) (@Nat.add_zero))) (And.intro (And.intro (@Nat.mul_one) (@List.length_replicate.{0})) (And.intro (@ownD.eq_1) (@ownD.eq_2)))) (And.intro (And.intro (And.intro (@has.eq_1) (@has.eq_2)) (And.intro (@tLen.eq_1) (@zqa.eq_1))) (And.intro (And.intro (@zqa.eq_2) (@zs5.eq_1)) (And.intro (@zx5.eq_1) (@tBox.eq_1))))) (And.intro (And.intro (And.intro (And.intro (@zs6.eq_1) (@zfb.eq_1)) (And.intro (@zfb.eq_2) (@zje.eq_1))) (And.intro (And.intro (@zje.eq_2) (@zje.eq_3)) (And.intro (@zje.eq_4) (@zje.eq_5)))) (And.intro (And.intro (And.intro (@zje.eq_6) (@zje.eq_7)) (And.intro (@zgg.eq_1) (@zqb.eq_1))) (And.intro (And.intro (@zjg.eq_1) (@zel.eq_1)) (And.intro (@zel.eq_2) (@zel.eq_3)))))
theorem b7:type_of% (And.intro (And.intro (And.intro (And.intro (And.intro (@zp9.eq_1) (@zoh.eq_1)) (And.intro (@TS.has.eq_1) (@zhg.eq_1))) (And.intro (And.intro (@aggT.eq_1) (@aggT.eq_2)) (And.intro (@ygt) (@ygu)))) (And.intro (And.intro (And.intro (@ygp) (@ygs)) (And.intro (@ygq) (@ygr))) (And.intro (And.intro (@T.cells.eq_1) (@T.one.eq_1)) (And.intro (@T.one.eq_2) (@T.one.eq_3))))) (And.intro (And.intro (And.intro (And.intro (@zpo) (@z4p)) (And.intro (@zmv) (@zzv))) (And.intro (And.intro (@zpm) (@z4m)) (And.intro (@zpn) (@z4o)))) (And.intro (And.intro (And.intro (@zx7) (@zzq)) (And.intro (@zx8) (@zzr))) (And.intro (And.intro (@zx9) (@zzs)) (And.intro (@zya) (@zzt)))))):=And.intro (And.intro (And.intro (And.intro (And.intro (@zp9.eq_1) (@zoh.eq_1)) (And.intro (@TS.has.eq_1) (@zhg.eq_1))) (And.intro (And.intro (@aggT.eq_1) (@aggT.eq_2)) (And.intro (@ygt) (@ygu)))) (And.intro (And.intro (And.intro (@ygp) (@ygs)) (And.intro (@ygq) (@ygr))) (And.intro (And.intro (@T.cells.eq_1) (@T.one.eq_1)) (And.intro (@T.one.eq_2) (@T.one.eq_3))))) (And.intro (And.intro (And.intro (And.intro (@zpo) (@z4p)) (And.intro (@zmv) (@zzv))) (And.intro (And.intro (@zpm) (@z4m)) (And.intro (@zpn) (@z4o)))) (And.intro (And.intro (And.intro (@zx7) (@zzq)) (And.intro (@zx8) (@zzr))) (And.intro (And.intro (@zx9) (@zzs)) (And.intro (@zya) (@zzt)))))
theorem b8:type_of% (And.intro (And.intro (And.intro (@z26) (And.intro (@z4n) (@z8x))) (And.intro (@ya3) (And.intro (@z28) (@z4r)))) (And.intro (And.intro (@z8v) (And.intro (@ya1) (@z8w))) (And.intro (@ya2) (And.intro (@z27) (@z4q))))):=And.intro (And.intro (And.intro (@z26) (And.intro (@z4n) (@z8x))) (And.intro (@ya3) (And.intro (@z28) (@z4r)))) (And.intro (And.intro (@z8v) (And.intro (@ya1) (@z8w))) (And.intro (@ya2) (And.intro (@z27) (@z4q))))
theorem apA:type_of% (And.intro (And.intro (And.intro (@znq.eq_1) (@zz2)) (And.intro (@zjd) (And.intro (@zr9) (@Bool.or_false)))) (And.intro (And.intro (@Bool.or_self) (@List.flatMap_cons.{0,0})) (And.intro (@List.flatMap_nil.{0,0}) (And.intro (@Nat.add_mul) (@Nat.one_mul))))):=And.intro (And.intro (And.intro (@znq.eq_1) (@zz2)) (And.intro (@zjd) (And.intro (@zr9) (@Bool.or_false)))) (And.intro (And.intro (@Bool.or_self) (@List.flatMap_cons.{0,0})) (And.intro (@List.flatMap_nil.{0,0}) (And.intro (@Nat.add_mul) (@Nat.one_mul))))
theorem apB:type_of% (And.intro (And.intro (@zdq.eq_1) (@zdq.eq_2)) (And.intro (@zah.eq_1) (And.intro (@zae) (@zal)))):=And.intro (And.intro (@zdq.eq_1) (@zdq.eq_2)) (And.intro (@zah.eq_1) (And.intro (@zae) (@zal)))
theorem lzA:type_of% (And.intro (@List.length_cons.{0}) (And.intro (@List.length_nil.{0}) (@Nat.zero_add))):=And.intro (@List.length_cons.{0}) (And.intro (@List.length_nil.{0}) (@Nat.zero_add))
end
section
open Go Go.RowKit
mutual
def T.ren (ρ:Nat→Nat):T→T
  |.agg l=>.agg (T.renL ρ l)
  |.tup l=>.tup (T.renL ρ l)
  |.lst e l=>.lst e (T.renL ρ l)
  |.cp l=>.cp (T.renL ρ l)
  |.ptr b o N=>.ptr (ρ b) o N
  |.arr b e o l c N=>.arr (ρ b) e o l c N
  |.mp b=>.mp (ρ b)
  |.fn f a c=>.fn f (T.renL ρ a) (T.renL ρ c)
  |.int k n=>.int k n
  |.bool b=>.bool b
  |.str b=>.str b
  |.nils=>.nils
  |.nilp=>.nilp
  |.nilm=>.nilm
  |.nilf=>.nilf
  |.junk=>.junk
  |.emp e=>.emp e
def T.renL (ρ:Nat→Nat):List T→List T
  |[]=>[]
  |t :: l=>t.ren ρ :: T.renL ρ l
end
def zdp (ρ:Nat→Nat):Box→Box
  |.gone=>.gone
  |.cells z N l=>.cells z N (T.renL ρ l)
  |.map l=>.map (l.map fun p=>(p.1.ren ρ,p.2.ren ρ))
section
variable {GL:List (Nat×List Value)} {A A' A1:Nat→Prop} {β β' β0 β1:Bx} {S S' S0 S1:TS} {s s' s1:CS} {P:Program} {Γ:Env} {g g':Nat→Fam} {ρ:Nat→Nat} {n:Nat}
theorem zjn:∀ (l:List T),T.renL ρ l=l.map (T.ren ρ)
  |[]=>rfl
  |t :: l=>by rw [T.renL,List.map_cons,zjn l]
theorem zh6 (l:List T):(T.renL ρ l).length=l.length:=by rw [zjn,List.length_map]
theorem z0w (l m:List T):T.renL ρ (l++m)=T.renL ρ l++T.renL ρ m:=by simp only [zjn,List.map_append]
theorem zqw (t:T):(t.ren ρ).cells=T.renL ρ t.cells:=by
  cases t<;>simp only [T.ren,T.cells,T.renL]
theorem zv0:∀ (l:List T),(T.renL ρ l).flatMap T.cells=T.renL ρ (l.flatMap T.cells)
  |[]=>rfl
  |t :: l=>by rw [T.renL,List.flatMap_cons,List.flatMap_cons,zqw,zv0 l,z0w]
theorem z9x:∀ {l:List T},T.idsL n l=true→∀ t,t∈l→t.ids n=true
  |[],_,t,h=>by simp at h
  |x :: l,h,t,ht=>by
    simp only [T.idsL,Bool.and_eq_true] at h;rcases List.mem_cons.1 ht with rfl|ht
    · exact h.1
    · exact z9x h.2 t ht
mutual
theorem VT.up (hβ:∀ b,b<n→β' (ρ b)=β b):∀ {t:T} {v:Value},t.ids n=true→VT A β g t v→VT A β' g (t.ren ρ) v
  |_,_,_,.int k n=>.int k n
  |_,_,_,.bool b=>.bool b
  |_,_,_,.str b=>.str b
  |_,_,hi,.agg h=>.agg (VL.up hβ hi h)
  |_,_,hi,.tup h=>.tup (VL.up hβ hi h)
  |_,_,_,.lnil=>.lnil
  |.lst e l,_,hi,.lst h1 h2 h3 h4 h5 h6 h7 h8=>by
    have q:=VL.up hβ (zi9 hi) h3;rw [← zv0] at q;have:=VT.lst (l:=T.renL ρ l) h1 h2 q (fun t ht=>by rw [zjn] at ht;obtain ⟨x,hx,rfl⟩:=List.mem_map.1 ht;rw [zqw,zh6];exact h4 x hx) h5 h6 h7 (by rw [zh6];exact h8);rw [zh6] at this;exact this
  |_,_,_,.nils=>.nils
  |_,_,_,.nilp=>.nilp
  |_,_,_,.nilm=>.nilm
  |_,_,_,.nilf=>.nilf
  |_,_,hi,.ptr h=>.ptr (by rw [hβ _ (zab.1 hi)];exact h)
  |_,_,hi,.ptrOld h h0 h1 h2=>.ptrOld (by rw [hβ _ (zab.1 hi)];exact h) h0 h1 h2
  |_,_,hi,.cp h1 h2 h3 h4=>.cp h1 h2 (VL.up hβ hi h3) h4
  |_,_,hi,.arr h ht=>.arr (by rw [hβ _ (zab.1 hi)];exact h) ht
  |_,_,hi,.arrNil h=>.arrNil (by rw [hβ _ (zab.1 hi)];exact h)
  |_,_,hi,.arrOld h h0 h1 h2=>.arrOld (by rw [hβ _ (zab.1 hi)];exact h) h0 h1 h2
  |_,_,hi,.mp h=>.mp (by rw [hβ _ (zab.1 hi)];exact h)
  |_,_,hi,.mpOld h h2=>.mpOld (by rw [hβ _ (zab.1 hi)];exact h) h2
  |_,_,hi,.fn h1 h2=>by
    simp only [T.ids,Bool.and_eq_true] at hi;exact .fn (VL.up hβ hi.1 h1) (VL.up hβ hi.2 h2)
  |_,_,_,.junk v=>.junk v
  |_,_,_,.emp h1 h2 h3 h4=>.emp h1 h2 h3 h4
theorem VL.up (hβ:∀ b,b<n→β' (ρ b)=β b):∀ {l:List T} {vs:List Value},T.idsL n l=true→VL A β g l vs→VL A β' g (T.renL ρ l) vs
  |_,_,_,.nil=>.nil
  |_,_,hi,.cons h k=>by
    simp only [T.idsL,Bool.and_eq_true] at hi;exact .cons (VT.up hβ hi.1 h) (VL.up hβ hi.2 k)
end
mutual
theorem VT.down (hβ:∀ b,b<n→β' b=β (ρ b)):∀ {t':T} {v:Value},VT A β g t' v→∀ {t:T},t.ren ρ=t'→t.ids n=true→VT A β' g t v
  |_,_,.int k m,t,e,hi=>by
    cases t<;>simp [T.ren] at e;obtain ⟨rfl,rfl⟩:=e;exact .int _ _
  |_,_,.bool b,t,e,hi=>by
    cases t<;>simp [T.ren] at e;subst e;exact .bool _
  |_,_,.str b,t,e,hi=>by
    cases t<;>simp [T.ren] at e;subst e;exact .str _
  |_,_,.agg h,t,e,hi=>by
    cases t<;>simp [T.ren] at e;exact .agg (VL.down hβ h e hi)
  |_,_,.tup h,t,e,hi=>by
    cases t<;>simp [T.ren] at e;exact .tup (VL.down hβ h e hi)
  |_,_,.lnil,t,e,hi=>by
    cases t<;>simp [T.ren] at e;rename_i e' l;obtain ⟨rfl,e⟩:=e
    cases l with
    |nil=>exact .lnil
    |cons x l=>simp [T.renL] at e
  |_,_,.lst (l:=l') h1 h2 h3 h4 h5 h6 h7 h8,t,e,hi=>by
    cases t<;>simp [T.ren] at e;rename_i e' l;have q:=VL.down hβ h3 (l:=l.flatMap T.cells) (by rw [← e.2];exact (zv0 l).symm) (zi9 hi);obtain ⟨rfl,rfl⟩:=e;have:=VT.lst (l:=l) h1 h2 q (fun t ht=>by have:=h4 (t.ren ρ) (by rw [zjn];exact List.mem_map_of_mem ht);rw [zqw,zh6] at this;exact this) h5 h6 h7 (by rw [zh6] at h8;exact h8);rw [zh6];exact this
  |_,_,.nils,t,e,hi=>by cases t<;>simp [T.ren] at e;exact .nils
  |_,_,.nilp,t,e,hi=>by cases t<;>simp [T.ren] at e;exact .nilp
  |_,_,.nilm,t,e,hi=>by cases t<;>simp [T.ren] at e;exact .nilm
  |_,_,.nilf,t,e,hi=>by cases t<;>simp [T.ren] at e;exact .nilf
  |_,_,.ptr h,t,e,hi=>by
    cases t<;>simp [T.ren] at e;obtain ⟨rfl,rfl,rfl⟩:=e;exact .ptr (by rw [hβ _ (zab.1 hi)];exact h)
  |_,_,.ptrOld h h0 h1 h2,t,e,hi=>by
    cases t<;>simp [T.ren] at e;obtain ⟨rfl,rfl,rfl⟩:=e;exact .ptrOld (by rw [hβ _ (zab.1 hi)];exact h) h0 h1 h2
  |_,_,.cp h1 h2 h3 h4,t,e,hi=>by
    cases t<;>simp [T.ren] at e;exact .cp h1 h2 (VL.down hβ h3 e hi) h4
  |_,_,.arr h ht,t,e,hi=>by
    cases t<;>simp [T.ren] at e;obtain ⟨rfl,rfl,rfl,rfl,rfl,rfl⟩:=e;exact .arr (by rw [hβ _ (zab.1 hi)];exact h) ht
  |_,_,.arrNil h,t,e,hi=>by
    cases t<;>simp [T.ren] at e;obtain ⟨rfl,rfl,rfl,rfl,rfl,rfl⟩:=e;exact .arrNil (by rw [hβ _ (zab.1 hi)];exact h)
  |_,_,.arrOld h h0 h1 h2,t,e,hi=>by
    cases t<;>simp [T.ren] at e;obtain ⟨rfl,rfl,rfl,rfl,rfl,rfl⟩:=e;exact .arrOld (by rw [hβ _ (zab.1 hi)];exact h) h0 h1 h2
  |_,_,.mp h,t,e,hi=>by
    cases t<;>simp [T.ren] at e;subst e;exact .mp (by rw [hβ _ (zab.1 hi)];exact h)
  |_,_,.mpOld h h2,t,e,hi=>by
    cases t<;>simp [T.ren] at e;subst e;exact .mpOld (by rw [hβ _ (zab.1 hi)];exact h) h2
  |_,_,.fn h1 h2,t,e,hi=>by
    cases t<;>simp [T.ren] at e;obtain ⟨rfl,e1,e2⟩:=e;simp only [T.ids,Bool.and_eq_true] at hi;exact .fn (VL.down hβ h1 e1 hi.1) (VL.down hβ h2 e2 hi.2)
  |_,_,.junk v,t,e,hi=>by cases t<;>simp [T.ren] at e;exact .junk _
  |_,_,.emp h1 h2 h3 h4,t,e,hi=>by
    cases t<;>simp [T.ren] at e;subst e;exact .emp h1 h2 h3 h4
theorem VL.down (hβ:∀ b,b<n→β' b=β (ρ b)):∀ {l':List T} {vs:List Value},VL A β g l' vs→∀ {l:List T},T.renL ρ l=l'→T.idsL n l=true→VL A β' g l vs
  |_,_,.nil,l,e,hi=>by
    cases l with
    |nil=>exact .nil
    |cons x l=>simp [T.renL] at e
  |_,_,.cons h k,l,e,hi=>by
    cases l with
    |nil=>simp [T.renL] at e
    |cons x l =>
      simp only [T.renL,List.cons.injEq] at e;simp only [T.idsL,Bool.and_eq_true] at hi;exact .cons (VT.down hβ h e.1 hi.1) (VL.down hβ k e.2 hi.2)
end
structure Fits (ρ:Nat→Nat) (S0 S1 S S':TS):Prop where
  le:S0.n≤S1.n
  out:∀ b,S0.n≤b→S0.box b=.gone
  old:∀ i,i<S0.n→ρ i<S.n
  new:∀ i,S0.n≤i→i<S1.n→S.n≤ρ i
  top:∀ i,i<S1.n→ρ i<S'.n
  grow:S.n≤S'.n
  inj:∀ i j,i<S1.n→j<S1.n→ρ i=ρ j→i=j
  pre:∀ i,i<S0.n→S.box (ρ i)=zdp ρ (S0.box i)∧zf8 S0.n (S0.box i)=true
  post:∀ i,i<S1.n→S'.box (ρ i)=zdp ρ (S1.box i)∧zf8 S1.n (S1.box i)=true
  rest:∀ b,(∀ i,i<S1.n→ρ i≠b)→S'.box b=S.box b
open Classical in
noncomputable def bmix (ρ:Nat→Nat) (m:Nat) (β1 β:Bx):Bx:=fun b=>if h:∃ i,i<m∧ρ i=b then β1 (Classical.choose h) else β b
theorem yik {m i:Nat} (hinj:∀ i j,i<m→j<m→ρ i=ρ j→i=j) (hi:i<m):bmix ρ m β1 β (ρ i)=β1 i:=by
  unfold bmix;have h:∃ j,j<m∧ρ j=ρ i:=⟨i,hi,rfl⟩;rw [dif_pos h];have:=Classical.choose_spec h;rw [hinj _ _ this.1 hi this.2]
theorem zhf {m b:Nat} (h:∀ i,i<m→ρ i≠b):bmix ρ m β1 β b=β b:=by
  unfold bmix;rw [dif_neg (fun ⟨i,h1,h2⟩=>h i h1 h2)]
theorem z2s (l:List (T×T)):(l.map fun p=>(p.1.ren ρ,p.2.ren ρ)).map (·.1)=T.renL ρ (l.map (·.1)):=by
  rw [zjn,List.map_map,List.map_map];rfl
theorem z2r (l:List (T×T)):(l.map fun p=>(p.1.ren ρ,p.2.ren ρ)).map (·.2)=T.renL ρ (l.map (·.2)):=by
  rw [zjn,List.map_map,List.map_map];rfl
theorem Call.frame {f:FuncId} {args:List T} {v:T} (k:Call P Γ GL f args S0 v S1) (ha:T.idsL S0.n args=true) (hv:v.ids S1.n=true) (F:Fits ρ S0 S1 S S'):Call P Γ GL f (T.renL ρ args) S (v.ren ρ) S':=by
  intro A β s vargs hT hva;have hb0:∀ b,b<S0.n→bcut (fun i=>β (ρ i)) S0.n b=β (ρ b):=fun b hb=>if_pos hb
  have hb1:∀ b l,bcut (fun i=>β (ρ i)) S0.n b=some l→b<S0.n∧β (ρ b)=some l:=fun b l h=>by
    unfold bcut at h;split at h
    · rename_i hb;exact ⟨hb,h⟩
    · simp at h
  have hown:∀ f,Own (bcut (fun i=>β (ρ i)) S0.n) f→∃ i,i<S0.n∧((∃ u N,β (ρ i)=some (.live f u N))∨β (ρ i)=some (.map f)):=fun f ⟨b,hb⟩=>by
    rcases hb with ⟨u,N,hb⟩|hb
    · exact ⟨b,(hb1 _ _ hb).1,.inl ⟨u,N,(hb1 _ _ hb).2⟩⟩
    · exact ⟨b,(hb1 _ _ hb).1,.inr (hb1 _ _ hb).2⟩
  have hown2:∀ f,Own (bcut (fun i=>β (ρ i)) S0.n) f→Own β f:=fun f hf=>by
    obtain ⟨i,_,h⟩:=hown f hf;exact ⟨ρ i,h⟩
  have hT0:TRel GL A (bcut (fun i=>β (ρ i)) S0.n) S0 s:=by
    refine ⟨hT.inr,hT.inv,hT.alt,fun f hf=>hT.dis f (hown2 f hf),fun b b' l l' f h1 h2 h3 h4=>?_,fun b hb=>if_neg (by omega),fun b z N l hb=>?_,fun b l hb=>?_,hT.glob⟩
    · obtain ⟨q1,q2⟩:=hb1 _ _ h1;obtain ⟨q3,q4⟩:=hb1 _ _ h2;exact F.inj b b' (by have:=F.le;omega) (by have:=F.le;omega) (hT.inj _ _ _ _ f q2 q4 h3 h4)
    · have hlt:b<S0.n:=by
        by_cases h:b<S0.n
        · exact h
        · rw [F.out b (by omega)] at hb;simp at hb
      obtain ⟨p1,p2⟩:=F.pre b hlt;rw [hb] at p1 p2;obtain ⟨c1,c2⟩:=hT.cells _ _ _ _ p1;refine ⟨by rw [zh6] at c1;exact c1,?_⟩;rcases c2 with ⟨d1,d2,d3⟩|⟨f,u,cs,rest,d1,d2,d3,d4,d5⟩
      · exact .inl ⟨by rw [hb0 b hlt];exact d1,d2,d3⟩
      · exact .inr ⟨f,u,cs,rest,by rw [hb0 b hlt];exact d1,d2,d3,VL.down hb0 d4 rfl p2,d5⟩
    · have hlt:b<S0.n:=by
        by_cases h:b<S0.n
        · exact h
        · rw [F.out b (by omega)] at hb;simp at hb
      obtain ⟨p1,p2⟩:=F.pre b hlt;rw [hb] at p1 p2;obtain ⟨r,es,c1,c2,c3,c4⟩:=hT.maps _ _ p1;simp only [zf8,Bool.and_eq_true] at p2;rw [z2s] at c3;rw [z2r] at c4;exact ⟨r,es,by rw [hb0 b hlt];exact c1,c2,VL.down hb0 c3 rfl p2.1,VL.down hb0 c4 rfl p2.2⟩
  obtain ⟨w,s1,A1,β1,e1,e2,e3,e4⟩:=k A _ s vargs hT0 (VL.down hb0 hva rfl ha);have hin:∀ i,i<S1.n→bmix ρ S1.n β1 β (ρ i)=β1 i:=fun i hi=>yik F.inj hi
  have hcase:∀ b,(∃ i,i<S1.n∧ρ i=b)∨(∀ i,i<S1.n→ρ i≠b):=fun b=>by
    by_cases h:∃ i,i<S1.n∧ρ i=b
    · exact .inl h
    · exact .inr fun i hi hh=>h ⟨i,hi,hh⟩
  have hone:∀ i l,β1 i=some l→i<S1.n:=fun i l h=>by
    by_cases hh:i<S1.n
    · exact hh
    · rw [e2.next i (by omega)] at h;simp at h
  have apart:∀ b f,(∀ i,i<S1.n→ρ i≠b)→((∃ u N,β b=some (.live f u N))∨β b=some (.map f))→¬ Own (bcut (fun i=>β (ρ i)) S0.n) f:=fun b f hb hf ho=>by
    obtain ⟨j,hj,h⟩:=hown f ho
    have:ρ j=b:=by
      rcases h with ⟨u,N,h⟩|h<;>rcases hf with ⟨u',N',hf⟩|hf<;>exact hT.inj _ _ _ _ f h hf rfl rfl
    exact hb j (by have:=F.le;omega) this
  have hfamO:∀ b l f,β b=some l→l.fam=some f→((∃ u N,β b=some (.live f u N))∨β b=some (.map f)):=fun b l f h hl=>by
    cases l with
    |live f' u N=>simp [Loc.fam] at hl;subst hl;exact .inl ⟨u,N,h⟩
    |map r=>simp [Loc.fam] at hl;subst hl;exact .inr h
    |nil=>simp [Loc.fam] at hl
    |dead=>simp [Loc.fam] at hl
  have hfam1:∀ i l f,β1 i=some l→l.fam=some f→Own β1 f:=fun i l f h hl=>by
    cases l with
    |live f' u N=>simp [Loc.fam] at hl;subst hl;exact zbw h
    |map r=>simp [Loc.fam] at hl;subst hl;exact zfn h
    |nil=>simp [Loc.fam] at hl
    |dead=>simp [Loc.fam] at hl
  have hle:Bx.le β (bmix ρ S1.n β1 β):=fun b l hb=>by
    rcases hcase b with ⟨i,hi,rfl⟩|h
    · rw [hin i hi];by_cases hip:i<S0.n
      · exact e4.bx i l (by rw [hb0 i hip];exact hb)
      · rw [hT.next _ (F.new i (by omega) hi)] at hb;simp at hb
    · exact ⟨l,by rw [zhf h];exact hb,Loc.le_refl l⟩
  have hkeep:∀ f,A f→zaa s1.obj f=zaa s.obj f:=fun f hf=>e4.keep f (hT.alt f hf) fun ho=>(hT.dis f (hown2 f ho)).2 hf
  have hmix:∀ f,Own (bmix ρ S1.n β1 β) f→Own β1 f∨∃ b,(∀ i,i<S1.n→ρ i≠b)∧((∃ u N,β b=some (.live f u N))∨β b=some (.map f)):=fun f ⟨b,hb⟩=>by
    rcases hcase b with ⟨i,hi,rfl⟩|h
    · rw [hin i hi] at hb;exact .inl ⟨i,hb⟩
    · rw [zhf h] at hb;exact .inr ⟨b,h,hb⟩
  refine ⟨w,s1,A1,bmix ρ S1.n β1 β,e1,⟨e2.inr,e2.inv,e2.alt,fun f hf=>?_,fun b b' l l' f h1 h2 h3 h4=>?_,fun b hb=>?_,fun b z N l hb=>?_,fun b l hb=>?_,e2.glob⟩,VT.up hin hv e3,⟨e4.can,e4.sub,fun f hf=>(e4.new f hf).imp id (Or.imp id (hown2 f)),fun f hf=>?_,fun f hf ho=>e4.keep f hf fun h=>ho (hown2 f h),hle,fun x hx=>(e4.rd x hx).imp id (fun ⟨a,b⟩=>⟨a,b.imp id (hown2 x)⟩),fun x hx=>(e4.wr x hx).imp id (fun ⟨a,b⟩=>⟨a,hown2 x b⟩)⟩⟩
  · rcases hmix f hf with h|⟨b,hb,h⟩
    · exact e2.dis f h
    · have hd:=hT.dis f ⟨b,h⟩;refine ⟨Nat.lt_of_lt_of_le hd.1 e4.can.n,fun hA=>?_⟩;rcases e4.new f hA with q|q|q
      · exact hd.2 q
      · have:=hd.1;omega
      · exact apart b f hb h q
  · have z03:∀ i b l l',i<S1.n→(∀ i,i<S1.n→ρ i≠b)→β1 i=some l→β b=some l'→l.fam=some f→l'.fam=some f→False:=fun i b l l' hi hb q1 q2 q3 q4=>by
      have ho:=hfamO b l' f q2 q4;rcases e4.own f (hfam1 i l f q1 q3) with q|q
      · exact apart b f hb ho q
      · have:=(hT.dis f ⟨b,ho⟩).1;omega
    rcases hcase b with ⟨i,hi,rfl⟩|hb<;>rcases hcase b' with ⟨j,hj,rfl⟩|hb'
    · rw [hin i hi] at h1;rw [hin j hj] at h2;rw [e2.inj i j l l' f h1 h2 h3 h4]
    · rw [hin i hi] at h1;rw [zhf hb'] at h2;exact (z03 i b' l l' hi hb' h1 h2 h3 h4).elim
    · rw [zhf hb] at h1;rw [hin j hj] at h2;exact (z03 j b l' l hj hb h2 h1 h4 h3).elim
    · rw [zhf hb] at h1;rw [zhf hb'] at h2;exact hT.inj b b' l l' f h1 h2 h3 h4
  · rw [zhf (fun i hi hh=>by have:=F.top i hi;omega)];exact hT.next b (by have:=F.grow;omega)
  · rcases hcase b with ⟨i,hi,rfl⟩|hbo
    · obtain ⟨p1,p2⟩:=F.post i hi;rw [hb] at p1
      cases hq:S1.box i with
      |gone=>rw [hq] at p1;simp [zdp] at p1
      |map m=>rw [hq] at p1;simp [zdp] at p1
      |cells z' N' l' =>
        rw [hq] at p1 p2;simp only [zdp,Box.cells.injEq] at p1;obtain ⟨rfl,rfl,rfl⟩:=p1;obtain ⟨c1,c2⟩:=e2.cells _ _ _ _ hq;refine ⟨by rw [zh6];exact c1,?_⟩;rcases c2 with ⟨d1,d2,d3⟩|⟨f,u,cs,rest,d1,d2,d3,d4,d5⟩
        · exact .inl ⟨by rw [hin i hi];exact d1,d2,d3⟩
        · exact .inr ⟨f,u,cs,rest,by rw [hin i hi];exact d1,d2,d3,VL.up hin p2 d4,d5⟩
    · rw [F.rest b hbo] at hb;refine (hT.cells b z N l hb).mono e4.sub hkeep hle (zhf hbo) fun f u N' hl=>?_;exact e4.keep f (hT.dis f (zbw hl)).1 (apart b f hbo (.inl ⟨u,N',hl⟩))
  · rcases hcase b with ⟨i,hi,rfl⟩|hbo
    · obtain ⟨p1,p2⟩:=F.post i hi;rw [hb] at p1
      cases hq:S1.box i with
      |gone=>rw [hq] at p1;simp [zdp] at p1
      |cells z N m=>rw [hq] at p1;simp [zdp] at p1
      |map m =>
        rw [hq] at p1 p2;simp only [zdp,Box.map.injEq] at p1;subst p1;obtain ⟨r,es,c1,c2,c3,c4⟩:=e2.maps _ _ hq;simp only [zf8,Bool.and_eq_true] at p2;exact ⟨r,es,by rw [hin i hi];exact c1,c2,by rw [z2s];exact VL.up hin p2.1 c3,by rw [z2r];exact VL.up hin p2.2 c4⟩
    · rw [F.rest b hbo] at hb;refine (hT.maps b l hb).mono e4.sub hkeep hle (zhf hbo) fun r hl=>?_;exact e4.keep r (hT.dis r (zfn hl)).1 (apart b r hbo (.inr hl))
  · rcases hmix f hf with h|⟨b,hb,h⟩
    · exact (e4.own f h).imp (hown2 f) id
    · exact .inl ⟨b,h⟩
end
end
end Go.Proofs.YtjgbkegkcbcjaaaGreat
