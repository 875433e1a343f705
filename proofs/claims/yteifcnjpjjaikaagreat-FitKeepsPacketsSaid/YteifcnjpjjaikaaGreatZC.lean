/- Part 3 of the proof of FitKeepsPackets (several texts in one; no further condition). -/
import Derived.Test.YteifcnjpjjaikaaGreatZB
import Derived.Laws.Strings
set_option linter.unusedSimpArgs false
set_option linter.unusedVariables false
set_option linter.unusedSectionVars false
namespace Go.Proofs.YteifcnjpjjaikaaGreat
noncomputable section
open _root_.BitVec renaming ofInt->gv
open _root_.Bool renaming and_eq_true->d8,and_true->lc,not_eq_false'->oy,or_eq_false_iff->lk
open Go.Proofs.YteifcnjpjjaikaaGreat.CS renaming append->lz,firstCells->jd,newRow->qp,readRow->qt
open _root_.Eq renaming trans->ej
open Go renaming FuncId->jx,IntKind->gl,Operand->ep,Program->fe,TypeDesc->la,TypeId->fc,eqGuard->kj,execOp->ls
open _root_.List renaming all_append->lf,all_cons->ig,all_eq_true->fd,any_eq_false->pc,drop_append->mh,drop_drop->ks,drop_succ_cons->jp,drop_zero->fl,eq_nil_of_length_eq_zero->jk,flatMap_cons->iv,flatten_cons->gh,getElem?_eq_getElem->ef,getElem?_eq_some_iff->et,length_append->eu,length_cons->ez,length_drop->ir,length_take->gi,mem_cons->ic,mem_cons_of_mem->ml,mem_of_getElem?->ij,mem_of_mem_drop->lm,mem_of_mem_take->pq,nil_append->fb,replicate->ew,replicate_succ->jg,take_append->oc,take_of_length_le->gc,take_succ_cons->me,take_take->pe
open _root_.Nat renaming add_mul->jc,add_zero->ii,beq->er,beq_refl->jh,ble->gj,blt->fw,eq_of_beq_eq_true->eg,le_max_left->nq,le_max_right->nc,le_refl->ei,lt_of_lt_of_le->fh,min_eq_left->pu,mul_le_mul_right->kp,testBit->gr,zero_add->f6
open Go.Op renaming equal->qf,intArith->o7,intBits->ox,intCmp->m7,operands->fj
open _root_.Option.some renaming injEq->dy
open _root_.Prod.mk renaming injEq->ec
open Go Go.RowKit
section
variable {P:fe} {Γ:Env}
open Classical in
def ze1 (P:fe) (Γ:Env):zc8:=fun f args s=>if h:∃ r:Value×CS,∃ n,zeo P Γ n f args s=some r then some h.choose else none
theorem zlz {f:jx} {args:List Value} {s:CS} {r:Value×CS} (h:ze1 P Γ f args s=some r):∃ n,zeo P Γ n f args s=some r:=by
  unfold ze1 at h;split at h
  . rename_i hx;obtain ⟨n,hn⟩:=hx.choose_spec;simp only [dy] at h;exact ⟨n,by rw [<- h];exact hn⟩
  . simp at h
theorem yb1 {f:jx} {args:List Value} {s:CS} {r:Value×CS} {n:Nat} (h:zeo P Γ n f args s=some r):ze1 P Γ f args s=some r:=by
  unfold ze1;have hx:∃ r:Value×CS,∃ n,zeo P Γ n f args s=some r:=⟨r,n,h⟩;rw [dif_pos hx];obtain ⟨m,hm⟩:=hx.choose_spec;have h1:=zhq (P:=P) (Γ:=Γ) (nq n m) f args s _ h;have h2:=zhq (P:=P) (Γ:=Γ) (nc n m) f args s _ hm;rw [h1] at h2;exact h2.symm
theorem cop_R {ρ:ep->Value} {o:Oper} {s:CS} {r:Value×CS} (hc:cop P Γ (ze1 P Γ) ρ o s=some r):∃ n,cop P Γ (zeo P Γ n) ρ o s=some r:=by
  obtain ⟨dst,op,type,pos,after,guard⟩:=o;unfold cop at hc ⊢
  cases op with
  |call c =>
    simp only at hc ⊢;split at hc
    . rename_i f hf;unfold zmz at hc ⊢;split at hc
      . exact zlz hc
      . obtain ⟨hb,hc⟩:=zbo hc;obtain ⟨n,hn⟩:=zlz hc;exact ⟨n,by rw [hb,zbn];exact hn⟩
      . simp at hc
    . exact ⟨0,hc⟩
    . simp at hc
  |makeMap t r=>cases r<;>exact ⟨0,hc⟩
  |makeFunc fn xs ys=>cases fn<;>exact ⟨0,hc⟩
  |_=>exact ⟨0,hc⟩
theorem yez {ops:List Oper} {o:Oper} {fr:Fr} {s:CS} {r:Fr×CS} (hc:zcw P Γ (ze1 P Γ) ops o fr s=some r):∃ n,zcw P Γ (zeo P Γ n) ops o fr s=some r:=by
  unfold zcw at hc ⊢
  cases hw:zde ops fr o with
  |false=>rw [hw] at hc;exact ⟨0,hc⟩
  |true =>
    rw [hw] at hc;simp only [cond_true] at hc ⊢;split at hc
    . rename_i h1;obtain ⟨n,hn⟩:=cop_R h1;exact ⟨n,by rw [hn];exact hc⟩
    . simp at hc
theorem ym9 {ops:List Oper}:∀ {l:List Oper} {fr:Fr} {s:CS} {r:Fr×CS},runC P Γ (ze1 P Γ) ops l fr s=some r->∃ n,runC P Γ (zeo P Γ n) ops l fr s=some r
  |[],_,_,_,hc=>⟨0,hc⟩
  |o :: l,fr,s,r,hc=>by
    simp only [runC] at hc ⊢;split at hc
    . rename_i h1;obtain ⟨n,hn⟩:=yez h1;obtain ⟨m,hm⟩:=ym9 hc;refine ⟨max n m,?_⟩;rw [zty (zhq (nq n m)) hn];exact z1p (zhq (nc n m)) hm
    . simp at hc
theorem yi8 {ops:List Oper}:∀ {l:List Oper} {fr:Fr} {s:CS} {r:List Lg×Fr×CS},drawC P Γ (ze1 P Γ) ops l fr s=some r->∃ n,drawC P Γ (zeo P Γ n) ops l fr s=some r
  |[],_,_,_,hc=>⟨0,hc⟩
  |o :: l,fr,s,r,hc=>by
    simp only [drawC] at hc ⊢;split at hc
    . rename_i h1;obtain ⟨n,hn⟩:=yez h1;split at hc
      . rename_i h2;obtain ⟨m,hm⟩:=yi8 h2;refine ⟨max n m,?_⟩;rw [zty (zhq (nq n m)) hn];simp only;rw [z2i (zhq (nc n m)) hm];exact hc
      . simp at hc
    . simp at hc
def W (P:fe) (Γ:Env) (c:Code) (fr:Fr) (s:CS) (Q:Exit->Fr->CS->Prop):Prop:=∃ e fr' s',Ev P Γ c fr s e fr' s'/\Q e fr' s'
def onN (k:Fr->CS->Prop) (Q:Exit->Fr->CS->Prop) (e:Exit) (fr:Fr) (s:CS):Prop:=match e with
  |.normal=>k fr s
  |e=>Q e fr s
def onB (id:Nat) (Q:Exit->Fr->CS->Prop) (e:Exit) (fr:Fr) (s:CS):Prop:=match e with
  |.exit i=>bif er i id then Q .normal fr s else Q (.exit i) fr s
  |e=>Q e fr s
theorem W.mono {c:Code} {fr:Fr} {s:CS} {Q R:Exit->Fr->CS->Prop} (h:W P Γ c fr s Q) (k:∀ e fr s,Q e fr s->R e fr s):W P Γ c fr s R:=by
  obtain ⟨e,fr',s',h1,h2⟩:=h;exact ⟨e,fr',s',h1,k _ _ _ h2⟩
theorem W.skip {fr:Fr} {s:CS} {Q:Exit->Fr->CS->Prop} (h:Q .normal fr s):W P Γ .skip fr s Q:=⟨_,_,_,Ev.skip fr s,h⟩
theorem W.ret {fr:Fr} {s:CS} {Q:Exit->Fr->CS->Prop} (h:Q .ret fr s):W P Γ .ret fr s Q:=⟨_,_,_,Ev.ret fr s,h⟩
theorem W.exit {id:Nat} {fr:Fr} {s:CS} {Q:Exit->Fr->CS->Prop} (h:Q (.exit id) fr s):W P Γ (.exit id) fr s Q:=⟨_,_,_,Ev.exit id fr s,h⟩
theorem W.label {l:Nat} {fr:Fr} {s:CS} {Q:Exit->Fr->CS->Prop} (h:Q .normal fr s):W P Γ (.label l) fr s Q:=⟨_,_,_,⟨1,rfl⟩,h⟩
theorem W.seq {a b:Code} {fr:Fr} {s:CS} {Q:Exit->Fr->CS->Prop} (h:W P Γ a fr s (onN (fun fr s=>W P Γ b fr s Q) Q)):W P Γ (.seq a b) fr s Q:=by
  obtain ⟨e,fr1,s1,h1,h2⟩:=h
  cases e with
  |normal =>
    obtain ⟨e2,fr2,s2,h3,h4⟩:=h2;exact ⟨_,_,_,Ev.seq h1 h3,h4⟩
  |_=>exact ⟨_,_,_,Ev.seqOut h1 (by simp),h2⟩
theorem W.cond {c:ep} {t f:Code} {fr:Fr} {s:CS} {Q:Exit->Fr->CS->Prop} {b:Bool} (hb:zgp fr c=.bool b) (h:W P Γ (bif b then t else f) fr s Q):W P Γ (.cond c t f) fr s Q:=by
  obtain ⟨e,fr1,s1,h1,h2⟩:=h;exact ⟨_,_,_,Ev.cond hb h1,h2⟩
theorem W.block {id:Nat} {b:Code} {fr:Fr} {s:CS} {Q:Exit->Fr->CS->Prop} (h:W P Γ b fr s (onB id Q)):W P Γ (.block id b) fr s Q:=by
  obtain ⟨e,fr1,s1,h1,h2⟩:=h;refine ⟨_,_,_,Ev.block h1,?_⟩
  cases e with
  |exit i =>
    simp only [onB] at h2;show Q (bif er i id then .normal else .exit i) fr1 s1
    cases hq:er i id with
    |true=>rw [hq] at h2;exact h2
    |false=>rw [hq] at h2;exact h2
  |_=>exact h2
theorem W.scope {b:Code} {fr:Fr} {s:CS} {Q:Exit->Fr->CS->Prop} (h:W P Γ b fr s Q):W P Γ (.scope b) fr s Q:=by
  obtain ⟨e,fr1,s1,h1,h2⟩:=h;exact ⟨_,_,_,Ev.scope h1,h2⟩
theorem W.loop {b:Code} {Q:Exit->Fr->CS->Prop} (I:Nat->Fr->CS->Prop) (hb:∀ n fr s,I n fr s->W P Γ b fr s (onN (fun fr s=>∃ m,m<n/\I m fr s) Q)):∀ n fr s,I n fr s->W P Γ (.loop b) fr s Q:=by
  intro n
  induction n using Nat.strongRecOn with
  |_ n ih =>
    intro fr s hI;obtain ⟨e,fr1,s1,h1,h2⟩:=hb n fr s hI
    cases e with
    |normal =>
      obtain ⟨m,hm,hI'⟩:=h2;obtain ⟨e2,fr2,s2,h3,h4⟩:=ih m hm fr1 s1 hI';exact ⟨_,_,_,Ev.again h1 h3,h4⟩
    |_=>exact ⟨_,_,_,Ev.last h1 (by simp),h2⟩
theorem W.region {id:Nat} {ops:Array Oper} {fr fr':Fr} {s s':CS} {Q:Exit->Fr->CS->Prop} (h:runC P Γ (ze1 P Γ) ops.toList ops.toList fr s=some (fr',s')) (hq:Q .normal fr' s'):W P Γ (.region id ops false) fr s Q:=by
  obtain ⟨n,hn⟩:=ym9 h;refine ⟨_,_,_,⟨n+1,?_⟩,hq⟩
  show (match runC P Γ (zeo P Γ n) ops.toList ops.toList fr s with
            |some (fr,s)=>some (Exit.normal,fr,s)
            |none=>none)=_
  rw [hn]
theorem W.draw {id:Nat} {ops:Array Oper} {fr fr':Fr} {s s':CS} {logs:List Lg} {Q:Exit->Fr->CS->Prop} (h:drawC P Γ (ze1 P Γ) ops.toList ops.toList fr s=some (logs,fr',s')) (hc:calm s.n ops.toList logs=true) (hq:Q .normal fr' s'):W P Γ (.region id ops true) fr s Q:=by
  obtain ⟨n,hn⟩:=yi8 h;refine ⟨_,_,_,⟨n+1,?_⟩,hq⟩
  show (match drawC P Γ (zeo P Γ n) ops.toList ops.toList fr s with
        |some (logs,fr,t)=>bif calm s.n ops.toList logs then some (Exit.normal,fr,t) else none
        |none=>none)=_
  rw [hn];simp only [hc,cond_true]
theorem zsr {f:jx} {fn:Func} {body:Code} {args:List Value} {s s2:CS} {v:Value} (hax:Γ.ax f=none) (hf:Γ.fn.at f=some fn) (hb:fn.body=some body) (hl:args.length<=fn.ntmps)
    (h:W P Γ body (Fr.ofArgs args 0 ⟨fn.ntmps,Tr.all undef 9⟩) s fun e fr' s1=>(e=.normal\/e=.ret)/\∃ vs,resC Γ fr' s1 fn.results.toList=some (vs,s2)/\v=tupC vs):ze1 P Γ f args s=some (v,s2):=by
  obtain ⟨e,fr1,s1,h1,he,vs,hr,rfl⟩:=h;obtain ⟨n,hn⟩:=Runs.of hax hf hb hl he h1 hr;exact yb1 hn
end
section
variable {P:fe} {Γ:Env} {ρ:ep->Value} {s:CS} {d:Option Tmp} {ty:fc} {pos:String} {t t2:fc} {x y:ep}
theorem ykz (d:la) (k:gl) (n:Int):nilT d (.int k n)=none:=by cases d<;>rfl
theorem yqp (op:BinOp) (k:gl) (n:Int) (v:Value):eqC Γ t op (.int k n) v=none:=by
  unfold eqC
  cases Γ.ti.at t with
  |none=>rfl
  |some i=>cases op<;>first|rfl | (simp only [ykz];rfl)
theorem z8i (op:BinOp) (k k':gl) (m n:Int):kj op t x y (.int k m) (.int k' n)=pure ():=by
  unfold kj;cases op<;>simp
theorem zcf {op:BinOp} {k k':gl} {a b:Int} {r:Value} {o:Oper} (ho:o.op=.binOp op t x y t2) (hx:ρ x=.int k a) (hy:ρ y=.int k' b) (w:World)
    (hr:binOp op t (.int k a) (.int k' b)=pure r) (hp:za6 3 r=true):zls P Γ ρ o s t op (.int k a) (.int k' b)=some (r,s):=by
  unfold zls
  cases hc:binC op (.int k a) (.int k' b) with
  |some v =>
    have h1:=(yb9 (σ:=fun _ _=>none) (P:=P) (t:=t) (x:=x) (y:=y) (w:=w) hc (VR.ofInt _ _) (VR.ofInt _ _)).2.1;rw [hr] at h1;simp at h1
    simp only [h1]
  |none =>
    rw [yqp];simp only [zh2];unfold zq0
    have hops:(o.op.operands.toList.all fun z=>za6 3 (ρ z))=true:=by
      rw [ho];simp [fj,hx,hy,za6]
    rw [hops]
    have he:ls ρ o=pure (.value r):=by
      unfold ls;rw [ho];simp only [hx,hy,z8i,hr];simp
    rw [he];simp only [cond_true];show retC s (bif za6 3 r then some r else none)=some (r,s);rw [hp];rfl
variable {e:Array Edge} {g:Option (Nat×Bool)} {k k':gl} {a b:Int}
def inK (k:gl) (n:Int):Prop:=k.wrap n=n
theorem yqi {n:Int} (h:-9223372036854775808<=n/\n<=9223372036854775807):inK .i64 n:=by unfold inK;simp [IntKind.wrap,IntKind.bits,IntKind.signed];omega
theorem zt1 {o:Oper} {r:Value} (hops:(o.op.operands.toList.all fun z=>za6 3 (ρ z))=true) (he:ls ρ o=pure (.value r)) (hp:za6 3 r=true):zq0 P ρ o=some r:=by
  unfold zq0;rw [hops,he];simp only [cond_true];show (bif za6 3 r then some r else none)=some r;rw [hp];rfl
theorem ysf (hx:ρ x=.int k a):zh2 P ρ ⟨d,.unOp .neg t x,ty,pos,e,g⟩ s (unC .neg (.int k a))=some (.int k (k.wrap (0 - a)),s):=by
  show retC s (zq0 P ρ _)=_;rw [zt1 (r:=.int k (k.wrap (0 - a)))]
  . rfl
  . simp [fj,hx,za6]
  . simp [ls,hx,Op.unary,o7]
  . rfl
theorem yse (hx:ρ x=.int k a):zh2 P ρ ⟨d,.unOp .xor t x,ty,pos,e,g⟩ s (unC .xor (.int k a))=some (.int k (k.wrap (gv k.bits (if k.signed then -1 else k.max) ^^^ gv k.bits a).toNat),s):=by
  show retC s (zq0 P ρ _)=_;rw [zt1 (r:=.int k (k.wrap (gv k.bits (if k.signed then -1 else k.max) ^^^ gv k.bits a).toNat))]
  . rfl
  . simp [fj,hx,za6]
  . simp [ls,hx,Op.unary,ox]
  . rfl
theorem zly {α β:Type} {f:α->Sem β}:∀ {m:Sem α} {v:α},zbl P m=some v->zbl P (m >>= f)=zbl P (f v):=by
  intro m
  induction m with
  |pure a=>intro v h;simp only [zbl,dy] at h;subst h;rfl
  |program k ih=>intro v h;exact ih P h
  |_=>intro v h;simp [zbl] at h
theorem zd7 {dt:la} (h:P.underlying t=some dt):zbl P (underlying t)=some dt:=by
  unfold underlying;show zbl P ((program:Sem fe) >>= _)=_;rw [zly (v:=P) rfl];rw [h];rfl
end
section
variable {P:fe} {Γ:Env} {call:zc8} {ops l:List Oper} {o:Oper} {fr:Fr} {s:CS}
variable {ρ:ep->Value} {d:Option Tmp} {ty:fc} {pos:String} {e:Array Edge} {g:Option (Nat×Bool)}
theorem yly {x:ep}:cop P Γ call ρ ⟨d,.move x,ty,pos,e,g⟩ s=some (ρ x,s):=ej rfl rfl
theorem ydm {x:ep}:cop P Γ call ρ ⟨d,.assign x,ty,pos,e,g⟩ s=some (ρ x,s):=ej rfl rfl
theorem yqw {op:BinOp} {t t2:fc} {x y:ep}:cop P Γ call ρ ⟨d,.binOp op t x y t2,ty,pos,e,g⟩ s=zls P Γ ρ ⟨d,.binOp op t x y t2,ty,pos,e,g⟩ s t op (ρ x) (ρ y):=ej rfl rfl
theorem ys5 {op:UnOp} {t:fc} {x:ep}:cop P Γ call ρ ⟨d,.unOp op t x,ty,pos,e,g⟩ s=zh2 P ρ ⟨d,.unOp op t x,ty,pos,e,g⟩ s (unC op (ρ x)):=ej rfl rfl
theorem yl0 {f:jx} {args:Array ep} {tys:Array fc}:cop P Γ call (zgp fr) ⟨d,.call ⟨.value (.func f),args,tys⟩,ty,pos,e,g⟩ s=call f (args.toList.map (zgp fr)) s:=by
  show zmz call s (args.toList.map (zgp fr)) (.func (.func f) #[] #[])=_;simp [zmz]
theorem ylx {c a b:ep}:cop P Γ call ρ ⟨d,.pick c a b,ty,pos,e,g⟩ s=zs9 s (ρ a) (ρ b) (ρ c):=ej rfl rfl
theorem z2l {t:fc} {x ix:ep}:cop P Γ call ρ ⟨d,.indexAddr t x ix,ty,pos,e,g⟩ s=zb5 Γ s t (ρ x) (zgv (ρ ix)):=ej rfl rfl
theorem ylz {t:fc} {x:ep}:cop P Γ call ρ ⟨d,.load t x,ty,pos,e,g⟩ s=zpj Γ s t (ρ x):=ej rfl rfl
theorem yjb {t:fc} {x v:ep}:cop P Γ call ρ ⟨d,.store t x v,ty,pos,e,g⟩ s=zk4 Γ s t (ρ v).cells.toList (ρ x):=ej rfl rfl
theorem yjd {t:fc}:cop P Γ call ρ ⟨d,.alloc t,ty,pos,e,g⟩ s=zk6 Γ s t:=ej rfl rfl
theorem yqv {t:fc} {x:ep}:cop P Γ call ρ ⟨d,.box t x,ty,pos,e,g⟩ s=ptrC (s.newRow 0 (ρ x).cells.toList):=ej rfl rfl
theorem yjc {t:fc} {parts:Array (Nat×ep)}:cop P Γ call ρ ⟨d,.build t parts,ty,pos,e,g⟩ s=zi2 Γ s ρ t parts.toList:=ej rfl rfl
theorem z2m {t:fc} {x:ep} {k:Nat}:cop P Γ call ρ ⟨d,.fieldAddr t x k,ty,pos,e,g⟩ s=zdg Γ s t k (ρ x):=ej rfl rfl
theorem z8n {x:ep} {k:Nat}:cop P Γ call ρ ⟨d,.extract x k,ty,pos,e,g⟩ s=zgu s k (ρ x):=ej rfl rfl
end
def Fr.of (n:Nat) (f:Nat->Value):Fr:=⟨n,Tr.of f 9 0 1⟩
theorem get_of (n:Nat) (f:Nat->Value) (t:Nat) (h:t<512):(Fr.of n f).get t=f t:=by
  unfold Fr.get Fr.of;rw [zaf.2 h,zbn,Tr.get_of f 9 0 1 t (by simpa using h)];simp
theorem ytk (n:Nat):(⟨n,Tr.all undef 9⟩:Fr)=Fr.of n fun _=>undef:=by
  unfold Fr.of;refine congrArg (Fr.mk n) ?_
  have:∀ d k w,Tr.all undef d=Tr.of (fun _=>undef) d k w:=by
    intro d
    induction d with
    |zero=>intro k w;rfl
    |succ d ih =>
      intro k w;exact congr (congrArg Prod.mk (ih k (2*w))) (ih (k+w) (2*w))
  exact this 9 0 1
section
variable {P:fe} {Γ:Env}
theorem yl7 {f:jx} {fn:Func} {body:Code} {args:List Value} {s:CS} {r:Value×CS} (n:Nat) (hax:Γ.ax f=none) (hf:Γ.fn.at f=some fn) (hb:fn.body=some body) (hn:fn.ntmps=n) (hl:args.length<=n)
    (h:W P Γ body (Fr.ofArgs args 0 (Fr.of n fun _=>undef)) s fun e fr' s1=>(e=.normal\/e=.ret)/\∃ vs,resC Γ fr' s1 fn.results.toList=some (vs,r.2)/\r.1=tupC vs):ze1 P Γ f args s=some r:=by
  subst hn;refine zsr (v:=r.1) (s2:=r.2) hax hf hb hl ?_;rw [ytk];exact h
end
def vb (x:UInt8):Value:=.int .u8 (x.toNat:Int)
section
variable {P:fe} {Γ:Env} {ρ:ep->Value} {s:CS} {d:Option Tmp} {ty:fc} {pos:String} {t t2:fc} {x y:ep} {e:Array Edge} {g:Option (Nat×Bool)}
end
section
variable {P:fe} {Γ:Env} {call:zc8} {ops l:List Oper} {o:Oper} {fr:Fr} {s:CS}
def yru {α:Type} (n0:Nat) (s:CS) (r:Option (Fr×CS)) (k:Fr->CS->Option α):Option α:=match r with
  |some (fr,t)=>bif t.wr.isEmpty && t.rd.all fun f=>fw f n0 then k fr (s.outer t) else none
  |none=>none
def z38 (P:fe) (Γ:Env) (call:zc8) (ops:List Oper) (n0:Nat):List Oper->Fr->CS->Option (Fr×CS)
  |[],fr,s=>some (fr,s)
  |o :: l,fr,s=>yru n0 s (zcw P Γ call ops o fr s.inner) (z38 P Γ call ops n0 l)
theorem z0f {n0:Nat}:∀ {l:List Oper} {fr fr':Fr} {s s':CS},z38 P Γ call ops n0 l fr s=some (fr',s')->∃ logs,drawC P Γ call ops l fr s=some (logs,fr',s')/\logs.all (fun x=>x.wr.isEmpty && x.rd.all fun f=>fw f n0)=true
  |[],fr,fr',s,s',h=>by
    simp only [z38,dy,ec] at h;obtain ⟨rfl,rfl⟩:=h;exact ⟨[],rfl,rfl⟩
  |o :: l,fr,fr',s,s',h=>by
    simp only [z38,yru] at h;split at h
    . rename_i fr1 t h1
      cases hq:t.wr.isEmpty && t.rd.all fun f=>fw f n0 with
      |false=>rw [hq] at h;simp at h
      |true =>
        rw [hq] at h;simp only [cond_true] at h;obtain ⟨logs,h2,h3⟩:=z0f h;refine ⟨⟨t.rd,t.wr,s.n,t.n⟩ :: logs,?_,?_⟩
        . simp only [drawC,h1,h2]
        . rw [ig,h3,lc];exact hq
    . simp at h
theorem W.quiet {id:Nat} {ops:Array Oper} {fr fr':Fr} {s s':CS} {Q:Exit->Fr->CS->Prop} (h:z38 P Γ (ze1 P Γ) ops.toList s.n ops.toList fr s=some (fr',s')) (hq:Q .normal fr' s'):W P Γ (.region id ops true) fr s Q:=by
  obtain ⟨logs,h1,h2⟩:=z0f h;refine W.draw h1 ?_ hq;unfold calm;rw [h2];rfl
end
def fupd (g:Nat->Fam) (i:Nat) (x:Fam):Nat->Fam:=fun j=>if j=i then x else g j
theorem zf9 (g:Nat->Fam) (i:Nat) (x:Fam):fupd g i x i=x:=zAc rfl
theorem zi5 (g:Nat->Fam) (i j:Nat) (x:Fam) (h:j≠i):fupd g i x j=g j:=zAd h
abbrev St (n:Nat) (g:Nat->Fam) (lim:Nat) (rd wr:List Nat):CS:=⟨n,.inr g,lim,rd,wr⟩
theorem zq6 (g:Nat->Fam) (i:Nat):zaa (.inr g) i=g i:=ej rfl rfl
theorem zgh (g:Nat->Fam) (i:Nat) (x:Fam):zaw (.inr g) i x=.inr (fupd g i x):=by
  show Sum.inr _=Sum.inr _;congr 1;funext j;rw [zcr];unfold fupd;by_cases h:j=i
  . rw [zAc h,zAc (by subst h;exact jh j)]
  . rw [zAd h,zAd (fun k=>h (eg k))]
section
variable {n lim n':Nat} {g g':Nat->Fam} {rd wr:List Nat}
theorem ynj {m f:Nat} (l:List Nat) (h:m<=f):ins m l f=l:=by
  unfold ins
  cases hb:fw f m with
  |false=>rfl
  |true=>exact absurd (zaf.1 hb) (by omega)
theorem z4k {tag:Nat} {cs:List Value}:qp (St n g lim rd wr) tag cs=some (mkA n (n*1024+tag) 0,St (n+1) (fupd g n ⟨false,[(n*1024+tag,cs)],none,none⟩) lim rd wr):=by
  unfold qp;show sel true _ _=_;rw [zbn,zgh]
theorem ycv {a : Addr} : qt (St n g lim rd wr) a = match zcb (g a.block).rows (Addr.ver a) with
    |some cs=>some (cs,St n g lim (ins lim rd a.block) wr)
    |none=>none:=rfl
theorem z3w {u:Nat} {cs:List Value}:zcb [(u,cs)] u=some cs:=by
  unfold zcb;rw [jh];rfl
theorem zmu {f u off:Nat}:(mkA f u off).block=f:=ej rfl rfl
theorem zta {f u off:Nat}:(mkA f u off).off=off:=ej rfl rfl
theorem zjy {f u off:Nat}:Addr.ver (mkA f u off)=u:=ej rfl rfl
theorem zj6 {f u off k:Nat}:Addr.plus (mkA f u off) k=mkA f u (off+k):=ej rfl rfl
end
section
def famK:List (Nat×List Value)->Nat->Fam
  |[],_=>zd4
  |(g,cs) :: l,f=>if f=g then ⟨true,[(g*1024,cs)],none,none⟩ else famK l f
def yri (w:World) (K:List (Nat×List Value)):Prop :=
  ∀ p,p∈K->p.1<w.heap.size/\∀ (j:Nat) (u:Value),p.2[j]?=some u->w.cell? ⟨p.1,j,none⟩=some u/\za6 3 u=true
open Classical in
theorem zw0:∀ {K:List (Nat×List Value)} {f:Nat} {p:Nat×List Value},p∈(famK K f).rows->p.1=f*1024/\(f,p.2)∈K/\(famK K f).rows=[p]
  |[],f,p,h=>by simp [famK,zd4] at h
  |(g,cs) :: l,f,p,h=>by
    simp only [famK] at h ⊢;split at h
    . rename_i hf;subst hf;simp only [List.mem_singleton] at h;subst h;simp
    . rename_i hf;obtain ⟨h1,h2,h3⟩:=zw0 h;rw [zAd hf];exact ⟨h1,ml _ h2,h3⟩
section
variable {P:fe}
end
end
structure AxOk (P:fe) (G:List Nat) (f:Nat) (h:List Value->CS->Option (Value×CS)):Prop where
  can:∀ args s v s',h args s=some (v,s')->CInv s->Can s s'
  ok:∀ (args:List Value) (args':Array Value) s v s' w σ V,h args s=some (v,s')->RL (VR σ) args args'.toList->Rel σ V s w->zci V s'->zeq σ s.n s'.n->CInv s->zi0 G σ ->
    (callFunc f args').run P w=.ok (.enter f args') w/\Calls P f args' w fun e w'=>∃ σ' v',e=.returned v'/\VR σ' v v'/\Rel σ' V s' w'/\Ext σ V s w σ' s' w'
structure zmx (P:fe) (G L:List Nat) (ax:Axs):Prop where
  fns:∀ f h,ax f=some h->AxOk P G f h
  its:z6r P L
section
variable {P:fe} {G L:List Nat} {ax:Axs}
theorem ycc {f:Nat} {args:List Value} {s:CS} {r:Value×CS} (h:axC (zeh P L ax) f args s=some r):(match ax f with|some k=>k args s|none=>none)=some r:=by
  unfold axC at h;rw [z2f] at h
  cases hb:fw f 1099511627776 with
  |false=>rw [hb] at h;exact absurd h (by simp [sel])
  |true=>rw [hb,zbn] at h;exact h
theorem zmx.can (h:zmx P G L ax):zfq (axC (zeh P L ax)):=by
  intro f args s v s' hc hI;have hc:=ycc hc
  cases hq:ax f with
  |none=>rw [hq] at hc;simp at hc
  |some k=>rw [hq] at hc;exact (h.fns f k hq).can args s v s' hc hI
theorem zmx.call (h:zmx P G L ax):FnOk P G (axC (zeh P L ax)):=by
  intro f args args' s v s' w σ V hc hl hr hV hF hI hG;have hc:=ycc hc
  cases hq:ax f with
  |none=>rw [hq] at hc;simp at hc
  |some k=>rw [hq] at hc;exact ⟨f,(h.fns f k hq).ok args args' s v s' w σ V hc hl hr hV hF hI hG⟩
theorem zmx.none (hIt:z6r P L):zmx P G L fun _=>none:=⟨fun f h hq=>by simp at hq,hIt⟩
def z8x (f:Nat) (h:List Value->CS->Option (Value×CS)) (ax:Axs):Axs:=fun k=>if k=f then some h else ax k
theorem ydp (f:Nat) (h:List Value->CS->Option (Value×CS)) (ax:Axs):z8x f h ax f=some h:=zAc rfl
theorem yme {f k:Nat} (h:List Value->CS->Option (Value×CS)) (ax:Axs) (hk:k≠f):z8x f h ax k=ax k:=zAd hk
theorem zmx.add {f:Nat} {h:List Value->CS->Option (Value×CS)} (h1:zmx P G L ax) (h2:AxOk P G f h):zmx P G L (z8x f h ax):=by
  refine ⟨fun k u hu=>?_,h1.its⟩;unfold z8x at hu;split at hu
  . rename_i hk;subst hk;simp only [dy] at hu;subst hu;exact h2
  . exact h1.fns k u hu
theorem Rel.below {σ:Sg} {V:Nat->Prop} {s:CS} {w w':World} (h:Rel σ V s w) (b:Below w.heap.size w w'):Rel σ V s w' :=
  ⟨h.inj,fun f u b' o z k=>fh (h.lt f u b' o z k) b.size,fun f hf=>(h.fam f hf).move (fun _ _ _ k=>k) (fun _ _=>rfl) fun u b' o z k=>b.block b' (h.lt f u b' o z k),h.none,h.vers⟩
theorem Ext.below (σ:Sg) (V:Nat->Prop) (s:CS) {w w':World} (b:Below w.heap.size w w'):Ext σ V s w σ s w' :=
  ⟨fun _ _ _ h=>h,fun _ _ h k=>absurd h k,fun _ _ _ _ _ h k=>by rw [h] at k;simp at k,b.size,fun k hk _=>b.block k hk,b.os,b.tape,b.output⟩
theorem zuf (hL:zj8 P G L=true) {f:Nat} {fn:Func} {body:Code} (hfn:(zeh P L ax).fn.at f=some fn) (hb:fn.body=some body) (args':Array Value) (w:World):(callFunc f args').run P w=.ok (.enter f args') w:=by
  obtain ⟨hok,hfun⟩:=yia hL hfn;unfold ya3 at hok;simp only [d8] at hok;have hne : ¬ fn.name = "runtime.NumGoroutine" := by simpa using hok.1.2
  simp [callFunc,hfun,hne,hb]
def z6m (v:Value):List Value->CS->Option (Value×CS):=fun args s=>match args with
  |[]=>some (v,s)
  |_ :: _=>none
theorem ytf (hL:zj8 P G L=true) {f:Nat} {fn:Func} {body:Code} (hfn:(zeh P L ax).fn.at f=some fn) (hb:fn.body=some body) {v:Value} (hv:za6 3 v=true) (hc:∀ w,Calls P f #[] w fun e w'=>e=.returned v/\Below w.heap.size w w'):AxOk P G f (z6m v):=by
  refine ⟨?_,?_⟩
  . intro args s v' s' h _
    cases args with
    |nil=>simp only [z6m,dy,ec] at h;rw [<- h.2];exact Can.refl _
    |cons a l=>simp [z6m] at h
  . intro args args' s v' s' w σ V h hl hr hV hF hI hG
    cases args with
    |cons a l=>simp [z6m] at h
    |nil =>
      simp only [z6m,dy,ec] at h;obtain ⟨rfl,rfl⟩:=h;obtain ⟨args'⟩:=args'
      cases args' with
      |cons a l=>exact hl.elim
      |nil =>
        refine ⟨zuf hL hfn hb _ _,(hc w).mono ?_⟩;rintro e w' ⟨rfl,b⟩;exact ⟨σ,_,rfl,zig 3 hv,hr.below b,Ext.below σ V s b⟩
def CS.fn (s:CS):CS:=⟨s.n,.inr (zaa s.obj),s.lim,s.rd,s.wr⟩
theorem CInv.fn {s:CS} (h:CInv s):CInv s.fn:=⟨fun f hf=>h.none f hf,fun f p hp=>h.vers f p hp,h.lim⟩
theorem Rel.fn {σ:Sg} {V:Nat->Prop} {s:CS} {w:World} (h:Rel σ V s w):Rel σ V s.fn w:=⟨h.inj,h.lt,fun f hf=>h.fam f hf,fun f hf=>h.none f hf,fun f p hp=>h.vers f p hp⟩
structure Con (P:fe) (Γ:Env) (f:Nat) (args:List Value) (s:CS) (v:Value) (s':CS):Prop where
  plain:za6 3 v=true
  obj:s'.obj=s.obj
  lim:s'.lim=s.lim
  wr:s'.wr=s.wr
  rd:∀ x,x∈s.rd->x∈s'.rd
  n:s.n<=s'.n
  run:∃ s1,ze1 P Γ f args s.fn=some (v,s1)/\s1.n<=s'.n/\(∀ x,x∈s1.rd->x∈s'.rd)/\(∀ x,x∈s1.wr->x∈s.wr)/\∀ f,f<s.n->zaa s1.obj f=zaa s.obj f
theorem ax_of (hm:P.follows .mixedOrders=true) (hL:zj8 P G L=true) (hx:zmx P G L ax) {f:Nat} {fn:Func} {body:Code} (hax:ax f=none) (hfn:(zeh P L ax).fn.at f=some fn) (hb:fn.body=some body) {h:List Value->CS->Option (Value×CS)}
    (hc:∀ args s v s',h args s=some (v,s')->CInv s->Con P (zeh P L ax) f args s v s'):AxOk P G f h:=by
  have hA:zfq (axC (zeh P L ax)):=hx.can;have hB:FnOk P G (axC (zeh P L ax)):=hx.call;refine ⟨?_,?_⟩
  . intro args s v s' hh hI;have c:=hc args s v s' hh hI;refine ⟨c.n,c.lim,c.rd,fun f hf=>by rw [c.wr];exact hf,fun f _ _ _=>by rw [c.obj],fun f _=>by rw [c.obj],fun hn f hf=>?_,fun hv f p hp=>?_,fun hw f hf=>?_⟩
    . rw [c.obj];exact hn f (Nat.le_trans c.n hf)
    . rw [c.obj] at hp;exact fh (hv f p hp) c.n
    . rw [c.wr] at hf;rw [c.lim];exact hw f hf
  . intro args args' s v s' w σ V hh hl hr hV hF hI hG;have c:=hc args s v s' hh hI;obtain ⟨s1,r1,r2,r3,r4,r5⟩:=c.run;obtain ⟨n,hn⟩:=zlz r1;have hcan:=(zrv (P:=P) hA hx.its.can n).2 f args s.fn v s1 hn hI.fn
    have hV1:zci V s1:=by
      intro x hx;rcases hx with hx|hx|hx
      . exact hV x (.inl (r3 x hx))
      . exact hV x (.inr (.inl (by rw [c.wr];exact r4 x hx)))
      . exact hV x (.inr (.inr (by rw [c.lim];rw [hcan.lim] at hx;exact hx)))
    obtain ⟨x,h1,h2⟩:=(z2t hA hx.its hB hL (z8p hm hA hx.its hB hL n).1).fn f args args' s.fn v s1 w σ V hn hl hr.fn hV1 (hF.mono (ei _) r2) hI.fn hG;have he:=zuf (ax:=ax) hL hfn hb args' w;rw [he] at h1;have hx:x=f:=by simp_all
    subst hx;refine ⟨he,h2.mono ?_⟩;rintro e w' ⟨σ',v',rfl,k1,k2,k3⟩;refine ⟨σ',v',rfl,k1,⟨k2.inj,k2.lt,fun g hg=>?_,fun g hg=>?_,fun g p hp=>?_⟩,⟨k3.le,fun g u a b=>?_,k3.old,k3.size,k3.frame,k3.st⟩⟩
    . rw [c.obj];by_cases hlt:g<s.n
      . rw [<- r5 g hlt];exact k2.fam g hg
      . rw [hI.none g (by omega)];exact zh8.ofNone
    . rw [c.obj];exact hI.none g (Nat.le_trans c.n hg)
    . rw [c.obj] at hp;exact fh (hI.vers g p hp) c.n
    . have q:=k3.new g u a b;exact ⟨q.1,by omega,by omega,q.2.2.2⟩
theorem yl5 (hm:P.follows .mixedOrders=true) (hL:zj8 P G L=true) (hx:zmx P G L ax) {f:Nat} {fn:Func} {body:Code} (hfn:(zeh P L ax).fn.at f=some fn) (hb:fn.body=some body) {args:List Value} {args':Array Value} {s s':CS} {v:Value} {w:World} {σ:Sg}
    (h:ze1 P (zeh P L ax) f args s=some (v,s')) (hl:RL (VR σ) args args'.toList) (hr:Rel σ (fun _=>True) s w) (hF:∀ f u p,σ f u=some p->f<s.n/\u / 1024<s.n/\(zaa s.obj f).ro=true) (hI:CInv s) (hG:zi0 G σ) :
    Calls P f args' w fun e w'=>∃ σ' v',e=.returned v'/\VR σ' v v'/\Below w.heap.size w w':=by
  have hA:zfq (axC (zeh P L ax)):=hx.can;have hB:FnOk P G (axC (zeh P L ax)):=hx.call;obtain ⟨n,hn⟩:=zlz h
  have hFr:zeq σ s.n s'.n:=by
    intro g u hgu
    cases hq:σ g u with
    |none=>rfl
    |some p=>have:=hF g u p hq;omega
  obtain ⟨x,h1,h2⟩:=(z2t hA hx.its hB hL (z8p hm hA hx.its hB hL n).1).fn f args args' s v s' w σ _ hn hl hr (fun _ _=>trivial) hFr hI hG;have he:=zuf (ax:=ax) hL hfn hb args' w;rw [he] at h1;have hx:x=f:=by simp_all
  subst hx;refine h2.mono ?_;rintro e w' ⟨σ',v',rfl,k1,k2,k3⟩;exact ⟨σ',v',rfl,k1,k3.st.1,k3.st.2.1,k3.st.2.2,k3.size,fun k hk=>k3.frame k hk fun g u o z hs=>.inr (hF g u _ hs).2.2⟩
end
theorem zkv {m n:Nat} (h:m<=n):gj m n=true:=zbk.2 h
theorem zxh {m n:Nat} (h:n<m):gj m n=false:=by
  cases hb:gj m n with
  |false=>rfl
  |true=>exact absurd (zbk.1 hb) (by omega)
theorem yb8 {m n:Nat} (h:m<n):fw m n=true:=zaf.2 h
theorem z6j {m n:Nat} (h:n<=m):fw m n=false:=by
  cases hb:fw m n with
  |false=>rfl
  |true=>exact absurd (zaf.1 hb) (by omega)
theorem zkw {m n:Nat} (h:m=n):er m n=true:=by subst h;exact jh m
theorem zps {m n:Nat} (h:m≠n):er m n=false:=by
  cases hb:er m n with
  |false=>rfl
  |true=>exact absurd (eg hb) h
theorem ydo {len cap:Nat} (h2:len<=cap):zd5 len cap none none none=some (0,len,cap):=by
  simp [zd5,zkv (Nat.zero_le len),zkv h2,zkv (ei cap)]
section
variable {P:fe} {Γ:Env} {ρ:ep->Value} {o:Oper} {s:CS} {n lim:Nat} {g:Nat->Fam} {rd wr:List Nat}
theorem ys4 {l:List Value} {off k:Nat} (h:off+k<=l.length):cut l off k=some ((l.drop off).take k):=by
  unfold cut;have:((l.drop off).take k).length=k:=by simp;omega
  simp only [this,jh,cond_true]
theorem zrl {f u off len cap e k:Nat} {cs:List Value} (hr:zcb (g f).rows u=some cs) (hk:off+k*e<=cs.length) (hl:lim<=f) :
    jd (St n g lim rd wr) e k (.slice (some (mkA f u off)) len cap)=some ((cs.drop off).take (k*e),St n g lim rd wr):=by
  unfold jd;simp only
  cases hz:er (k*e) 0 with
  |true=>simp [eg hz]
  |false =>
    simp only [cond_false,ycv,zjy,zmu,hr,zta,ys4 hk,ynj rd hl]
theorem ydj {x:Option Addr} {len cap e k:Nat} (h0:k*e=0):jd s e k (.slice x len cap)=some ([],s):=by
  unfold jd;simp only [zkw h0,cond_true]
theorem yih {b:ByteArray} {k:Nat} (h:k<=b.size):jd s 1 k (.string b)=some (zpr (b.extract 0 k),s):=by
  unfold jd;simp [zkv h]
def OwnR (m:Nat) (g:Nat->Fam) (n e:Nat) (ao:Option Addr) (len:Nat) (cells:List Value):Prop :=
  cells.length=len*e/\((ao=none/\len=0)\/∃ f u rest,ao=some (mkA f u 0)/\g f=⟨false,(u,cells) :: rest,none,none⟩/\m<=f/\f<n/\u / 1024<n/\u % 1024=e+1)
theorem OwnR.nil (m:Nat) (g:Nat->Fam) (n e:Nat):OwnR m g n e none 0 []:=⟨by simp,.inl ⟨rfl,rfl⟩⟩
theorem OwnR.keep {m n' e len:Nat} {g':Nat->Fam} {ao:Option Addr} {cells:List Value} (h:OwnR m g n e ao len cells) (hg:∀ i,m<=i->i<n->g' i=g i) (hn:n<=n'):OwnR m g' n' e ao len cells:=by
  obtain ⟨h1,h⟩:=h;refine ⟨h1,h.imp id ?_⟩;rintro ⟨f,u,rest,k1,k2,k3,k4,k5,k6⟩;exact ⟨f,u,rest,k1,by rw [hg f k3 k4];exact k2,k3,by omega,by omega,k6⟩
structure Made (n:Nat) (g:Nat->Fam) (e:Nat) (ao:Option Addr) (len:Nat) (cells:List Value) (n':Nat) (g':Nat->Fam):Prop where
  own:OwnR n g' n' e ao len cells
  le:n<=n'
  old:∀ i,i<n->g' i=g i
theorem OwnR.first {m e len k:Nat} {ao:Option Addr} {cells:List Value} (h:OwnR m g n e ao len cells) (hl:lim<=m) (hk:k<=len):jd (St n g lim rd wr) e k (.slice ao len len)=some (cells.take (k*e),St n g lim rd wr):=by
  obtain ⟨h1,h⟩:=h;rcases h with ⟨rfl,rfl⟩|⟨f,u,rest,rfl,k2,k3,k4,k5,k6⟩
  . have:k=0:=by omega
    subst this;rw [ydj (by simp)];simp
  . have hkl:k*e<=len*e:=kp e hk;rw [zrl (cs:=cells) (by rw [k2];simp [zcb,jh]) (by omega) (by omega)];simp
theorem OwnR.append {m e len k bytes:Nat} {ao:Option Addr} {cells xs:List Value} {y:Value} {rd':List Nat} (h:OwnR m g n e ao len cells) (hm:m<=n) (hl:lim<=m) (hlen:lenC y=some k) (hy:jd (St n g lim rd wr) e k y=some (xs,St n g lim rd' wr)) (hx:xs.length=k*e) (ho:xs.all oneC=true) (he:0<e/\e<1000)
    (hb:(len+k)*(bytes+1)<=1000000000) :
    ∃ ao' n' g',lz (St n g lim rd wr) e bytes ao len len y=some (.slice ao' (len+k) (len+k),St n' g' lim rd' wr)/\OwnR m g' n' e ao' (len+k) (cells++xs)/\n<=n'/\n'<=n+1/\∀ i,i<m->g' i=g i:=by
  have c1:(fw 1000000000 ((len+k)*(bytes+1)) || er e 0 || gj 1000 e || not (xs.all oneC))=false:=by
    rw [z6j hb,zps (by omega),zxh (by omega),ho];rfl
  obtain ⟨h1,h⟩:=h;rcases h with ⟨rfl,rfl⟩|⟨f,u,rest,rfl,k2,k3,k4,k5,k6⟩
  . have hc:cells=[]:=by simpa using h1
    subst hc
    cases hk:er k 0 with
    |true =>
      have:=eg hk;subst this;have hx0:xs=[]:=by simpa using hx
      subst hx0;refine ⟨none,n,g,?_,OwnR.nil _ _ _ _,ei _,by omega,fun _ _=>rfl⟩;unfold lz;rw [hlen];simp only [hy,c1,cond_false,hk,cond_true]
    |false =>
      refine ⟨some (mkA n (n*1024+(e+1)) 0),n+1,fupd g n ⟨false,[(n*1024+(e+1),xs)],none,none⟩,?_,⟨by simpa using hx,.inr ⟨n,_,[],rfl,?_,hm,by omega,by omega,by omega⟩⟩,by omega,by omega,fun i hi=>zi5 _ _ _ _ (by omega)⟩
      . unfold lz;rw [hlen];simp only [hy,c1,cond_false,hk,z4k,zja]
      . rw [zf9];simp
  . cases hk:er k 0 with
    |true =>
      have:=eg hk;subst this;have hx0:xs=[]:=by simpa using hx
      subst hx0;refine ⟨_,n,g,?_,⟨by simpa using h1,.inr ⟨f,u,rest,rfl,by simpa using k2,k3,k4,k5,k6⟩⟩,ei _,by omega,fun _ _=>rfl⟩;unfold lz;rw [hlen];simp only [hy,c1,cond_false];rw [zkv (by omega)];simp only [cond_true,hk];rfl
    |false =>
      have hk0:k≠0:=fun h=>by rw [h] at hk;simp at hk
      have hfl:lim<=f:=by omega
      have hold:(bif er len 0 then some ([],St n g lim rd' wr) else jd (St n g lim rd' wr) e len (.slice (some (mkA f u 0)) len len))=some (cells,St n g lim rd' wr):=by
        cases hz:er len 0 with
        |true =>
          have:=eg hz;subst this;have:cells=[]:=by simpa using h1
          rw [this];rfl
        |false =>
          rw [cond_false,zrl (cs:=cells) (by rw [k2];simp [zcb,jh]) (by omega) hfl];rw [fl,gc (by omega)]
      refine ⟨some (mkA f (n*1024+(e+1)) 0),n+1,fupd g f ⟨false,(n*1024+(e+1),cells++xs) :: (u,cells) :: rest,none,none⟩,?_,⟨by rw [eu,h1,hx,jc],.inr ⟨f,_,(u,cells) :: rest,rfl,?_,k3,by omega,by omega,by omega⟩⟩,by omega,by omega,fun i hi=>zi5 _ _ _ _ (by omega)⟩
      . unfold lz;rw [hlen];simp only [hy,c1,cond_false];rw [zxh (by omega)];simp only [cond_false,hold,zjy];rw [zps (by omega),zkw k6];simp only [cond_false,cond_true];unfold CS.grow;show (match (g f).ro,zcb (g f).rows u with|false,some cs=>_|_,_=>none)=_;rw [k2];simp only;have hrow:zcb ((u,cells) :: rest) u=some cells:=by simp [zcb,jh]
        rw [hrow];simp only;rw [zkw (show (mkA f u 0).off+len*e=cells.length by rw [zta];omega),zbn,zmu,zgh]
        have hd:zgw (zaa (.inr g) f).rows u=(u,cells) :: rest:=by
          rw [zq6,k2];simp [zgw,jh]
        rw [zjy,hd,ynj wr hfl]
      . rw [zf9]
theorem ygp {x y:ep} {t tx:fc} (hs:srcT Γ tx=true):zf6 P Γ ρ o s .append [x,y] [t,tx]=zdd Γ s t (ρ y) (ρ x):=by
  show sel (srcT Γ tx) _ none=_;rw [hs];rfl
end
section
variable {P:fe} {Γ:Env} {ρ:ep->Value} {s:CS} {d:Option Tmp} {ty:fc} {pos:String} {t t2:fc} {x y:ep} {e:Array Edge} {g:Option (Nat×Bool)}
theorem z10 (d:la) (a:ByteArray):nilT d (.string a)=none:=by cases d<;>rfl
theorem z4i (d:la) (a:Bool):nilT d (.bool a)=none:=by cases d<;>rfl
theorem ybg {op:BinOp} {v w:Value} (h:∀ d,nilT d v=none):eqC Γ t op v w=none:=by
  unfold eqC
  cases Γ.ti.at t with
  |none=>rfl
  |some i=>cases op<;>first|rfl | (simp only [h];rfl)
theorem znq {op:BinOp} {v w r:Value} {o:Oper} (ho:o.op=.binOp op t x y t2) (hx:ρ x=v) (hy:ρ y=w) (hc:binC op v w=none) (hn:∀ d,nilT d v=none) (hpv:za6 3 v=true) (hpw:za6 3 w=true) (hg:kj op t x y v w=pure ())
    (hr:zbl P (binOp op t v w)=some r) (hp:za6 3 r=true):zls P Γ ρ o s t op v w=some (r,s):=by
  unfold zls;rw [hc];simp only;rw [ybg hn];simp only [zh2];unfold zq0
  have hops:(o.op.operands.toList.all fun z=>za6 3 (ρ z))=true:=by
    rw [ho];simp [fj,hx,hy,hpv,hpw]
  rw [hops]
  have he:ls ρ o=(do pure (.value (<- binOp op t v w))):=by
    unfold ls;rw [ho];simp only [hx,hy,hg];simp
  rw [he]
  have hv:zbl P (do pure (Next.value (<- binOp op t v w)))=some (.value r):=by
    rw [zly hr];rfl
  simp only [cond_true];rw [hv];show retC s (bif za6 3 r then some r else none)=some (r,s);rw [hp];rfl
theorem yev (a b:ByteArray):(a.toList == b.toList)=decide (a=b):=by
  rw [ByteArray.toList_eq,ByteArray.toList_eq];by_cases h:a=b
  . subst h;simp
  . rw [zAb h,beq_eq_false_iff_ne];intro k;apply h;apply ByteArray.ext;exact Array.toList_inj.1 k
theorem zm1 {a b:Bool} (hd:P.underlying t=some .bool):zbl P (qf t (.bool a) (.bool b))=some (a == b):=by
  unfold qf;show zbl P (Op.equalIn (_+1) t (.bool a) (.bool b))=_;unfold Op.equalIn;rw [zly (zd7 hd)];rfl
theorem yp4 {v w:Value} {b:Bool}:zs9 s v w (.bool b)=some (bif b then v else w,s):=ej rfl rfl
variable {k k':gl} {a b:Int} {tys:Array fc}
theorem o_max (hx:ρ x=.int k a) (hy:ρ y=.int k' b):zf6 P Γ ρ ⟨d,.call ⟨.builtin .max,#[x,y],tys⟩,ty,pos,e,g⟩ s .max [x,y] tys.toList=some (.int k (max a b),s):=by
  show retC s (zq0 P ρ _)=_;have hm:max a b=if b > a then b else a:=by rw [Int.max_def];split<;>split<;>omega
  rw [hm,zt1 (r:=.int k (if b > a then b else a))]
  . rfl
  . show (za6 3 (ρ x) && (za6 3 (ρ y) && true))=true;rw [hx,hy];rfl
  . simp [ls,hx,hy,resolve,invoke,builtin,Builtin.max_,Builtin.max2]
  . rfl
theorem o_min (hx:ρ x=.int k a) (hy:ρ y=.int k' b):zf6 P Γ ρ ⟨d,.call ⟨.builtin .min,#[x,y],tys⟩,ty,pos,e,g⟩ s .min [x,y] tys.toList=some (.int k (min a b),s):=by
  show retC s (zq0 P ρ _)=_;have hm:min a b=if b<a then b else a:=by rw [Int.min_def];split<;>split<;>omega
  rw [hm,zt1 (r:=.int k (if b<a then b else a))]
  . rfl
  . show (za6 3 (ρ x) && (za6 3 (ρ y) && true))=true;rw [hx,hy];rfl
  . simp [ls,hx,hy,resolve,invoke,builtin,Builtin.min_,Builtin.min2]
  . rfl
end
section
variable {P:fe} {Γ:Env} {call:zc8} {ops l:List Oper} {fr:Fr} {s:CS} {d:Option Tmp} {op:Op} {ty:fc} {pos:String} {e:Array Edge} {g:Option (Nat×Bool)}
theorem yl8 {f:jx} {args:List Value} {k:List Value->CS->Option (Value×CS)} {r:Value×CS} (h:Γ.ax f=some k) (hk:k args s=some r):ze1 P Γ f args s=some r:=by
  refine yb1 (n:=0) ?_;unfold zeo zpc;rw [h];exact hk
end
section
variable {P:fe} {Γ:Env} {call:zc8} {ops l:List Oper} {o:Oper} {fr fr':Fr} {s t:CS}
def yo0 (lg:Lg) (r:Option (List Lg×Fr×CS)):Option (List Lg×Fr×CS):=match r with
  |some (logs,fr,s)=>some (lg :: logs,fr,s)
  |none=>none
def yrv (s:CS) (r:Option (Fr×CS)) (k:Fr->CS->Option (List Lg×Fr×CS)):Option (List Lg×Fr×CS):=match r with
  |some (fr,t)=>yo0 ⟨t.rd,t.wr,s.n,t.n⟩ (k fr (s.outer t))
  |none=>none
theorem z0g:drawC P Γ call ops (o :: l) fr s=yrv s (zcw P Γ call ops o fr s.inner) (drawC P Γ call ops l):=by
  rw [drawC]
  cases zcw P Γ call ops o fr s.inner with
  |none=>rfl
  |some r =>
    show (match drawC P Γ call ops l r.1 (s.outer r.2) with|some (logs,fr,s')=>_|none=>none)=yo0 _ (drawC P Γ call ops l r.1 (s.outer r.2))
    cases drawC P Γ call ops l r.1 (s.outer r.2) with
    |none=>rfl
    |some x=>rfl
variable {n lim n':Nat} {g g':Nat->Fam} {rd wr rd' wr':List Nat} {ob ob':Sto}
theorem z2s {n0:Nat} {logs:List Lg} {ms:List Nat} (hm:zd1 ops []=ms) (h:zgq clash [] logs ms=true):calm n0 ops logs=true:=by
  unfold calm;rw [hm,h];cases logs.all _<;>rfl
theorem z8t {ms:List Nat} {done:List Lg}:zgq clash done [] ms=true:=ej rfl rfl
theorem zn9 {ms:List Nat} {done logs:List Lg} {y:Lg}:zgq clash done (y :: logs) ms=(zii clash (nth 0 ms done.length) y done 0 && zgq clash (done++[y]) logs ms):=ej rfl rfl
theorem zxc {m i:Nat} {x y:Lg} {done:List Lg} (h:gr m i=true):zii clash m y (x :: done) i=zii clash m y done (i+1):=by
  show ((gr m i || _) && _)=_;rw [h];rfl
theorem z0m {m i:Nat} {x y:Lg} {done:List Lg} (h:clash x y=false):zii clash m y (x :: done) i=zii clash m y done (i+1):=by
  show ((gr m i || !clash x y) && _)=_;rw [h];simp
theorem zgz {rx wx ry wy:List Nat} {lo hi lo' hi':Nat} (h1:∀ f,f∈wx->f ∉ ry/\f ∉ wy) (h2:∀ f,f∈rx->f ∉ wy) (hr:∀ f,f∈ry->f<lo\/hi<=f) (hw:∀ f,f∈wy->f<lo\/hi<=f):clash ⟨rx,wx,lo,hi⟩ ⟨ry,wy,lo',hi'⟩=false:=by
  have hq:∀ l:List Nat,(∀ f,f∈l->f<lo\/hi<=f)->zyd lo hi l=false:=by
    intro l hl;unfold zyd;rw [pc];intro f hf;rcases hl f hf with h|h
    . simp [zxh h]
    . simp [z6j h]
  have hm:∀ a b:List Nat,(∀ f,f∈a->f ∉ b)->meet a b=false:=by
    intro a b hab;unfold meet;rw [pc];intro f hf hc;exact hab f hf (z19 hc)
  unfold clash;simp [hq ry hr,hq wy hw,hm wx ry fun f hf=>(h1 f hf).1,hm wx wy fun f hf=>(h1 f hf).2,hm rx wy h2]
theorem W.draw_ex {id:Nat} {ops:Array Oper} {Q:Exit->Fr->CS->Prop} {logs:List Lg} {ms:List Nat} (hm:zd1 ops.toList []=ms) (h:drawC P Γ (ze1 P Γ) ops.toList ops.toList fr s=some (logs,fr',t)) (hc:zgq clash [] logs ms=true) (hq:Q .normal fr' t):W P Γ (.region id ops true) fr s Q :=
  W.draw h (z2s hm hc) hq
variable {ρ:ep->Value}
section
variable {ty t2 src dst:fc} {d:Option Tmp} {pos:String} {e:Array Edge} {q:Option (Nat×Bool)} {x y:ep} {tt:fc} {k:gl} {z b z2 b2:Nat} {zs zs2:List Value}
end
structure BSl (g:Nat->Fam) (n f u off len cap:Nat) (bs:List UInt8):Prop where
  lt:f<n
  tag:u % 1024=0\/u % 1024=2
  fits:len<=cap
  size:bs.length=len
  row:∃ cs,zcb (g f).rows u=some cs/\∀ i,i<len->cs[off+i]?=some (vb (bs.getD i 0))
end
section
variable {P:fe} {Γ:Env} {call:zc8} {ops l:List Oper} {o o':Oper} {fr fr':Fr} {s t:CS}
def ypo (n0:Nat) (s:CS) (r:Option (Fr×CS)) (k:Fr->CS->Option (Fr×CS)):Option (Fr×CS):=match r with
  |some (fr,t)=>bif (t.wr.isEmpty && t.rd.all fun f=>fw f n0) && gj n0 s.n then k fr (s.outer t) else none
  |none=>none
def yqf (s:CS) (r:Option (Fr×CS)):Option (Fr×CS):=match r with
  |some (fr,t)=>some (fr,s.outer t)
  |none=>none
def zvo (P:fe) (Γ:Env) (call:zc8) (ops:List Oper) (n0:Nat):List Oper->Fr->CS->Option (Fr×CS)
  |[],_,_=>none
  |[o],fr,s=>yqf s (zcw P Γ call ops o fr s.inner)
  |o :: o' :: l,fr,s=>ypo n0 s (zcw P Γ call ops o fr s.inner) (zvo P Γ call ops n0 (o' :: l))
theorem yc1 {n0:Nat}:zvo P Γ call ops n0 [o] fr s=yqf s (zcw P Γ call ops o fr s.inner):=ej rfl rfl
theorem z7l {n0:Nat}:zvo P Γ call ops n0 (o :: o' :: l) fr s=ypo n0 s (zcw P Γ call ops o fr s.inner) (zvo P Γ call ops n0 (o' :: l)):=ej rfl rfl
def QLog (n0:Nat) (x:Lg):Prop:=x.wr=[]/\(∀ f,f∈x.rd->f<n0)/\n0<=x.lo
theorem z5t {n0:Nat}:∀ {l:List Oper} {fr fr':Fr} {s s':CS},zvo P Γ call ops n0 l fr s=some (fr',s')->∃ logs y,drawC P Γ call ops l fr s=some (logs++[y],fr',s')/\logs.length+1=l.length/\∀ x,x∈logs->QLog n0 x
  |[],fr,fr',s,s',h=>by simp [zvo] at h
  |[o],fr,fr',s,s',h=>by
    rw [yc1] at h;unfold yqf at h;split at h
    . rename_i fr1 t h1;simp only [dy,ec] at h;obtain ⟨rfl,rfl⟩:=h;refine ⟨[],⟨t.rd,t.wr,s.n,t.n⟩,?_,rfl,fun x hx=>by simp at hx⟩;rw [z0g,h1];rfl
    . simp at h
  |o :: o' :: l,fr,fr',s,s',h=>by
    rw [z7l] at h;unfold ypo at h;split at h
    . rename_i fr1 t h1
      cases hq:(t.wr.isEmpty && t.rd.all fun f=>fw f n0) && gj n0 s.n with
      |false=>rw [hq] at h;simp at h
      |true =>
        rw [hq] at h;simp only [cond_true] at h;obtain ⟨logs,y,h2,h3,h4⟩:=z5t h;refine ⟨⟨t.rd,t.wr,s.n,t.n⟩ :: logs,y,?_,?_,?_⟩
        . rw [z0g,h1];unfold yrv;simp only;rw [h2];rfl
        . simp only [ez] at h3 ⊢;omega
        . intro x hx;rcases ic.1 hx with rfl|hx
          . simp only [d8,List.isEmpty_iff,fd] at hq;exact ⟨hq.1.1,fun f hf=>zaf.1 (hq.1.2 f hf),zbk.1 hq.2⟩
          . exact h4 x hx
    . simp at h
theorem z8q {n0:Nat} {x y:Lg} (hx:QLog n0 x) (hy:QLog n0 y):clash x y=false:=by
  obtain ⟨rx,wx,lx,hx'⟩:=x;obtain ⟨ry,wy,ly,hy'⟩:=y;obtain ⟨rfl,x2,x3⟩:=hx;obtain ⟨rfl,y2,y3⟩:=hy;refine zgz (fun f hf=>by simp at hf) (fun f _=>by simp) (fun f hf=>.inl ?_) (fun f hf=>by simp at hf);have:=y2 f hf;exact fh this x3
theorem zrw {n0 m:Nat} {y:Lg} (hy:QLog n0 y):∀ {done:List Lg} {i:Nat},(∀ x,x∈done->QLog n0 x)->zii clash m y done i=true
  |[],_,_=>rfl
  |x :: l,i,h=>by
    rw [z0m (z8q (h x (by simp)) hy)];exact zrw hy fun z hz=>h z (by simp [hz])
theorem ztr {k:Nat} {y:Lg}:∀ {done:List Lg} {i:Nat},done.length+i<=k->zii clash (2 ^ k - 1) y done i=true
  |[],_,_=>rfl
  |x :: l,i,h=>by
    rw [ez] at h;rw [zxc (by rw [Nat.testBit_two_pow_sub_one];exact zAa (by omega))];exact ztr (by omega)
theorem zts {n0:Nat} {y:Lg} {ms:List Nat}:∀ {logs done:List Lg},(∀ x,x∈done->QLog n0 x)->(∀ x,x∈logs->QLog n0 x)->nth 0 ms (done.length+logs.length)=2 ^ (done.length+logs.length) - 1->zgq clash done (logs++[y]) ms=true
  |[],done,hd,_,hm=>by
    rw [fb,zn9];simp only [List.length_nil,ii] at hm;rw [hm,ztr (by omega),z8t];rfl
  |x :: l,done,hd,hl,hm=>by
    rw [List.cons_append,zn9,zrw (hl x (by simp)) hd];simp only [Bool.true_and];refine zts (n0:=n0) ?_ (fun z hz=>hl z (by simp [hz])) ?_
    . intro z hz;rcases List.mem_append.1 hz with hz|hz
      . exact hd z hz
      . simp at hz;subst hz;exact hl _ (by simp)
    . rw [eu,List.length_singleton];rw [ez] at hm;rw [show done.length+1+l.length=done.length+(l.length+1) by omega];exact hm
def ylm (ops:List Oper):Bool:=er (nth 0 (zd1 ops []) (ops.length - 1)) (2 ^ (ops.length - 1) - 1)
theorem W.last {id:Nat} {ops:Array Oper} {Q:Exit->Fr->CS->Prop} (hf:ylm ops.toList=true) (h:zvo P Γ (ze1 P Γ) ops.toList s.n ops.toList fr s=some (fr',t)) (hq:Q .normal fr' t):W P Γ (.region id ops true) fr s Q:=by
  obtain ⟨logs,y,h1,h2,h3⟩:=z5t h;refine W.draw_ex rfl h1 (zts (n0:=s.n) (fun x hx=>by simp at hx) h3 ?_) hq;have hk:ops.toList.length - 1=logs.length:=by omega
  have:=eg hf;rw [hk] at this;simpa using this
variable {n lim n' f:Nat} {rd wr rd' wr':List Nat} {ob ob':Sto} {k:Fr->CS->Option (Fr×CS)}
variable {g:Nat->Fam}
end
section
variable {P:fe} {G L:List Nat} {ax:Axs}
open Classical in
structure Seg where
  b:Nat
  o:Nat
  cs:List Value
def zk1 (N:Nat) (f:Nat):Nat->List Seg->List (Nat×List Value)
  |_,[]=>[]
  |j,q :: l=>if q.b=f then ((N+j)*1024,q.cs) :: zk1 N f (j+1) l else zk1 N f (j+1) l
def famS (N:Nat) (K:List (Nat×List Value)) (A:List Seg) (f:Nat):Fam:=⟨true,(famK K f).rows++zk1 N f 0 A,none,none⟩
open Classical in
def sgS (N:Nat) (G:List Nat) (K:List (Nat×List Value)) (A:List Seg):Sg:=fun f u =>
  if has G f=true/\u=f*1024 then some (f,0,(famK K f).rows.head?.elim 0 fun p=>p.2.length)
  else if u % 1024=0/\N<=u / 1024 then (match A[u / 1024 - N]? with
    |some q=>if q.b=f then some (f,q.o,q.o+q.cs.length) else none
    |none=>none) else none
def yto (σ:Sg) (w:World) (q:Seg):Prop:=q.b<w.heap.size/\(∀ j,j<q.o+q.cs.length->(w.cell? ⟨q.b,j,none⟩).isSome=true)/\∀ (j:Nat) (u:Value),q.cs[j]?=some u->∃ u',w.cell? ⟨q.b,q.o+j,none⟩=some u'/\VR σ u u'
theorem zp0 {N f:Nat} {p:Nat×List Value}:∀ {A:List Seg} {j:Nat},p∈zk1 N f j A->∃ i q,A[i]?=some q/\q.b=f/\p=((N+(j+i))*1024,q.cs)
  |[],j,h=>by simp [zk1] at h
  |q :: l,j,h=>by
    unfold zk1 at h;split at h
    . rename_i hq;rcases ic.1 h with rfl|h
      . exact ⟨0,q,rfl,hq,by rw [ii]⟩
      . obtain ⟨i,q',h1,h2,h3⟩:=zp0 h;exact ⟨i+1,q',by simpa using h1,h2,by rw [h3];congr 2;omega⟩
    . obtain ⟨i,q',h1,h2,h3⟩:=zp0 h;exact ⟨i+1,q',by simpa using h1,h2,by rw [h3];congr 2;omega⟩
theorem ye0 {N:Nat} {K:List (Nat×List Value)} {A:List Seg} {w:World} (hN:N=w.heap.size) (hK:∀ p,p∈K->has G p.1=true) (hw:yri w K) (hwG:∀ g,has G g=true->g<w.heap.size) (hA:∀ q,q∈A->yto (sgS N G K A) w q) :
    Rel (sgS N G K A) (fun _=>True) (St (N+A.length) (famS N K A) 0 [] []) w/\CInv (St (N+A.length) (famS N K A) 0 [] [])/\zi0 G (sgS N G K A)/\(∀ f u p,sgS N G K A f u=some p->f<N+A.length/\u / 1024<N+A.length/\(zaa (St (N+A.length) (famS N K A) 0 [] []).obj f).ro=true):=by
  have hσ:∀ f u b o z,sgS N G K A f u=some (b,o,z)->b=f/\((has G f=true/\u=f*1024/\o=0/\z=(famK K f).rows.head?.elim 0 fun p=>p.2.length)\/(∃ i q,A[i]?=some q/\q.b=f/\u=(N+i)*1024/\o=q.o/\z=q.o+q.cs.length)):=by
    intro f u b o z h;unfold sgS at h;split at h
    . rename_i hc;simp only [dy,ec] at h;exact ⟨h.1.symm,.inl ⟨hc.1,hc.2,h.2.1.symm,h.2.2.symm⟩⟩
    . split at h
      . rename_i hc;split at h
        . rename_i q hq;split at h
          . rename_i hb;simp only [dy,ec] at h;refine ⟨h.1.symm,.inr ⟨_,q,hq,hb,by omega,h.2.1.symm,h.2.2.symm⟩⟩
          . simp at h
        . simp at h
      . simp at h
  have hlt:∀ f u b o z,sgS N G K A f u=some (b,o,z)->b<w.heap.size/\f<N+A.length/\u / 1024<N+A.length:=by
    intro f u b o z h;obtain ⟨rfl,⟨h1,h2,_⟩|⟨i,q,h1,h2,h3,_⟩⟩:=hσ _ _ _ _ _ h
    . have:=hwG _ h1;omega
    . have hm:=ij h1;have hi:i<A.length:=(et.1 h1).1;have:=(hA q hm).1;omega
  have hrows:∀ f p,p∈(famS N K A f).rows->((p.1=f*1024/\(f,p.2)∈K/\(famK K f).rows=[p])\/∃ i q,A[i]?=some q/\q.b=f/\p=((N+i)*1024,q.cs)):=by
    intro f p hp;rcases List.mem_append.1 hp with hp|hp
    . exact .inl (zw0 hp)
    . obtain ⟨i,q,h1,h2,h3⟩:=zp0 hp;exact .inr ⟨i,q,h1,h2,by rw [h3,f6]⟩
  have hnone:∀ f,N+A.length<=f->famS N K A f=zd4:=by
    intro f hf
    have:(famS N K A f).rows=[]:=by
      rw [List.eq_nil_iff_forall_not_mem];intro p hp;rcases hrows f p hp with ⟨_,h2,_⟩|⟨i,q,h1,h2,_⟩
      . have:=hwG _ (hK _ h2);simp only at this;omega
      . have:=(hA q (ij h1)).1;omega
    unfold famS at this ⊢;simp only at this;rw [this];rfl
  have hvers:∀ f p,p∈(famS N K A f).rows->p.1 / 1024<N+A.length:=by
    intro f p hp;rcases hrows f p hp with ⟨h1,h2,_⟩|⟨i,q,h1,h2,rfl⟩
    . have:=hwG _ (hK _ h2);simp only at this;omega
    . have hi:i<A.length:=(et.1 h1).1;simp only;omega
  refine ⟨⟨?_,fun f u b o z h=>(hlt f u b o z h).1,?_,fun f hf=>hnone f hf,fun f p hp=>hvers f p hp⟩,⟨fun f hf=>hnone f hf,fun f p hp=>hvers f p hp,Nat.zero_le _⟩,?_,fun f u p h=>⟨(hlt f u _ _ _ h).2.1,(hlt f u _ _ _ h).2.2,rfl⟩⟩
  . intro f u b o z f' u' o' z' h1 h2;have a1:=(hσ _ _ _ _ _ h1).1;have a2:=(hσ _ _ _ _ _ h2).1;omega
  . intro f _;refine ⟨fun p hp b o z h=>?_,fun hro=>by simp [zaa,famS] at hro,fun es he=>by simp [zaa,famS] at he,fun Lq hq=>by simp [zaa,famS] at hq⟩;obtain ⟨rfl,hs⟩:=hσ _ _ _ _ _ h;rcases hrows b p hp with ⟨h1,h2,h3⟩|⟨i,q,h1,h2,rfl⟩
    . rcases hs with ⟨g1,g2,rfl,rfl⟩|⟨i,q,g1,g2,g3,_⟩
      . rw [h3];simp only [List.head?_cons,Option.elim];refine ⟨by omega,fun j hj=>?_,fun hro=>by simp [zaa,famS] at hro,fun j u hu=>?_⟩
        . obtain ⟨k1,_⟩:=(hw _ h2).2 j _ (ef hj);rw [k1];rfl
        . obtain ⟨k1,k2⟩:=(hw _ h2).2 j u hu;rw [f6];exact ⟨u,k1,zig 3 k2⟩
      . have:=hwG _ (hK _ h2);simp only at this;omega
    . rcases hs with ⟨g1,g2,_,_⟩|⟨i',q',g1,g2,g3,rfl,rfl⟩
      . simp only at g2;have:=hwG _ g1;omega
      . simp only at g3;have:i'=i:=by omega
        subst this;rw [h1] at g1;cases g1;obtain ⟨a1,a2,a3⟩:=hA q (ij h1);subst h2;exact ⟨ei _,a2,fun hro=>by simp [zaa,famS] at hro,a3⟩
  . intro g hg;exact ⟨_,zAc ⟨hg,rfl⟩⟩
end
def Ret (P:fe) (Γ:Env) (f:jx) (args:List Value) (n:Nat) (g:Nat->Fam) (lim:Nat) (rd wr:List Nat) (R:Nat->Prop) (v:Value):Prop :=
  ∃ n' g' rd',ze1 P Γ f args (St n g lim rd wr)=some (v,St n' g' lim rd' wr)/\n<=n'/\(∀ i,i<n->g' i=g i)/\(∀ x,x∈rd'->x∈rd\/(R x/\x<lim))
section
variable {P:fe} {Γ:Env} {ρ:ep->Value} {s:CS} {fr:Fr} {n lim n' f n0:Nat} {g:Nat->Fam} {rd wr rd':List Nat} {ob ob':Sto}
theorem Ret.of {f:jx} {fn:Func} {body:Code} {args:List Value} {R:Nat->Prop} {v:Value} (k:Nat) (hax:Γ.ax f=none) (hf:Γ.fn.at f=some fn) (hb:fn.body=some body) (hn:fn.ntmps=k) (hl:args.length<=k)
    (h:W P Γ body (Fr.ofArgs args 0 (Fr.of k fun _=>undef)) (St n g lim rd wr) fun e fr' s1=>(e=.normal\/e=.ret)/\∃ n' g' rd',resC Γ fr' s1 fn.results.toList=some ([v],St n' g' lim rd' wr)/\n<=n'/\(∀ i,i<n->g' i=g i)/\(∀ x,x∈rd'->x∈rd\/(R x/\x<lim))):Ret P Γ f args n g lim rd wr R v:=by
  obtain ⟨e,fr',s1,h1,he,n',g',rd',hr,h2⟩:=h;exact ⟨n',g',rd',yl7 k hax hf hb hn hl ⟨e,fr',s1,h1,he,_,hr,rfl⟩,h2⟩
theorem zow {l:List Nat}:∀ {rd rd':List Nat},l=rd'->∀ x,x∈zwf lim rd l->x∈rd\/(x∈rd'/\x<lim):=by
  induction l with
  |nil=>rintro rd rd' rfl x hx;exact .inl hx
  |cons y l ih =>
    rintro rd rd' rfl x hx;rcases ih rfl x hx with h|h
    . rcases zmm h with h|h
      . exact .inl h
      . exact .inr ⟨by simp [h.1],h.2⟩
    . exact .inr ⟨by simp [h.1],h.2⟩
def OwnX (m:Nat) (g:Nat->Fam) (n e:Nat) (ao:Option Addr) (len:Nat) (cells:List Value):Prop :=
  OwnR m g n e ao len cells\/(cells.length=len*e/\∃ f u rest,ao=some (mkA f u 0)/\g f=⟨false,(u,cells) :: rest,none,none⟩/\m<=f/\f<n/\u / 1024<n/\u % 1024=0)
theorem OwnX.keep {m n' e len:Nat} {g':Nat->Fam} {ao:Option Addr} {cells:List Value} (h:OwnX m g n e ao len cells) (hg:∀ i,m<=i->i<n->g' i=g i) (hn:n<=n'):OwnX m g' n' e ao len cells:=by
  rcases h with h|⟨h1,f,u,rest,k1,k2,k3,k4,k5,k6⟩
  . exact .inl (h.keep hg hn)
  . exact .inr ⟨h1,f,u,rest,k1,by rw [hg f k3 k4];exact k2,k3,by omega,by omega,k6⟩
theorem OwnX.first {m e len k:Nat} {ao:Option Addr} {cells:List Value} (h:OwnX m g n e ao len cells) (hl:lim<=m) (hk:k<=len):jd (St n g lim rd wr) e k (.slice ao len len)=some (cells.take (k*e),St n g lim rd wr):=by
  rcases h with h|⟨h1,f,u,rest,rfl,k2,k3,k4,k5,k6⟩
  . exact h.first hl hk
  . have hkl:k*e<=len*e:=kp e hk;rw [zrl (cs:=cells) (by rw [k2];simp [zcb,jh]) (by omega) (by omega)];simp
theorem OwnX.append {m e len k bytes:Nat} {ao:Option Addr} {cells xs:List Value} {y:Value} {rd':List Nat} (h:OwnX m g n e ao len cells) (hm:m<=n) (hl:lim<=m) (hlen:lenC y=some k) (hy:jd (St n g lim rd wr) e k y=some (xs,St n g lim rd' wr)) (hx:xs.length=k*e) (ho:xs.all oneC=true) (he:0<e/\e<1000)
    (hb:(len+k)*(bytes+1)<=1000000000) :
    ∃ ao' n' g',lz (St n g lim rd wr) e bytes ao len len y=some (.slice ao' (len+k) (len+k),St n' g' lim rd' wr)/\OwnX m g' n' e ao' (len+k) (cells++xs)/\n<=n'/\n'<=n+1/\∀ i,i<m->g' i=g i:=by
  rcases h with h|⟨h1,f,u,rest,rfl,k2,k3,k4,k5,k6⟩
  . obtain ⟨ao',n',g',a1,a2,a3⟩:=h.append hm hl hlen hy hx ho he hb;exact ⟨ao',n',g',a1,.inl a2,a3⟩
  . have c1:(fw 1000000000 ((len+k)*(bytes+1)) || er e 0 || gj 1000 e || not (xs.all oneC))=false:=by
      rw [z6j hb,zps (by omega),zxh (by omega),ho];rfl
    cases hk:er k 0 with
    |true =>
      have:=eg hk;subst this;have hx0:xs=[]:=by simpa using hx
      subst hx0;refine ⟨_,n,g,?_,.inr ⟨by simpa using h1,f,u,rest,rfl,by simpa using k2,k3,k4,k5,k6⟩,ei _,by omega,fun _ _=>rfl⟩;unfold lz;rw [hlen];simp only [hy,c1,cond_false];rw [zkv (by omega)];simp only [cond_true,hk];rfl
    |false =>
      have hk0:k≠0:=fun h=>by rw [h] at hk;simp at hk
      have hfl:lim<=f:=by omega
      have hold:(bif er len 0 then some ([],St n g lim rd' wr) else jd (St n g lim rd' wr) e len (.slice (some (mkA f u 0)) len len))=some (cells,St n g lim rd' wr):=by
        cases hz:er len 0 with
        |true =>
          have:=eg hz;subst this;have:cells=[]:=by simpa using h1
          rw [this];rfl
        |false =>
          rw [cond_false,zrl (cs:=cells) (by rw [k2];simp [zcb,jh]) (by omega) hfl];rw [fl,gc (by omega)]
      refine ⟨some (mkA n (n*1024+(e+1)) 0),n+1,fupd g n ⟨false,[(n*1024+(e+1),cells++xs)],none,none⟩,?_,.inl ⟨by rw [eu,h1,hx,jc],.inr ⟨n,_,[],rfl,zf9 _ _ _,hm,by omega,by omega,by omega⟩⟩,by omega,by omega,fun i hi=>zi5 _ _ _ _ (by omega)⟩;unfold lz;rw [hlen];simp only [hy,c1,cond_false];rw [zxh (by omega)];simp only [cond_false,hold,zjy];rw [zkw k6];simp only [cond_true,z4k,zja]
theorem OwnX.push {m len bytes:Nat} {ao:Option Addr} {cells:List Value} {v:Value} (h:OwnX m g n 1 ao len cells) (hm:m<=n) (hl:lim<=m) (hv:oneC v=true) (hb:(len+1)*(bytes+1)<=1000000000) :
    ∃ ao' n' g',lz (St (n+1) (fupd g n ⟨false,[(n*1024+0,[v])],none,none⟩) lim rd wr) 1 bytes ao len len (.slice (some (mkA n (n*1024+0) 0)) 1 1)=some (.slice ao' (len+1) (len+1),St n' g' lim rd wr)/\OwnX m g' n' 1 ao' (len+1) (cells++[v])/\n+1<=n'/\n'<=n+2/\∀ i,i<m->g' i=g i:=by
  have h2:=h.keep (n':=n+1) (g':=fupd g n ⟨false,[(n*1024+0,[v])],none,none⟩) (fun i _ hi=>zi5 _ _ _ _ (by omega)) (by omega)
  obtain ⟨ao',n',g',a1,a2,a3,a4,a5⟩:=h2.append (bytes:=bytes) (rd:=rd) (wr:=wr) (rd':=rd) (xs:=[v]) (k:=1) (y:=.slice (some (mkA n (n*1024+0) 0)) 1 1) (by omega) hl rfl
    (by rw [zrl (cs:=[v]) (by rw [zf9];exact z3w) (by simp) (by omega)];rfl) rfl (by simp [hv]) (by omega) hb
  exact ⟨ao',n',g',a1,a2,a3,by omega,fun i hi=>by rw [a5 i hi,zi5 _ _ _ _ (by omega)]⟩
section
variable {call:zc8} {d:Option Tmp} {ty:fc} {pos:String} {e:Array Edge} {q:Option (Nat×Bool)}
end
theorem W.cut {a:Code} {Q:Exit->Fr->CS->Prop} {k:Fr->CS->Prop} (R:Fr->CS->Prop) (h:W P Γ a fr s fun e fr s=>e=.normal/\R fr s) (hk:∀ fr s,R fr s->k fr s):W P Γ a fr s (onN k Q):=by
  refine h.mono ?_;rintro e fr s ⟨rfl,hR⟩;exact hk _ _ hR
end
inductive T where
  |int (k:gl) (n:Int)
  |bool (b:Bool)
  |str (b:ByteArray)
  |agg (l:List T)
  |tup (l:List T)
  |lst (e:Nat) (l:List T)
  |nils
  |nilp
  |nilm
  |nilf
  |ptr (b off N:Nat)
  |cp (l:List T)
  |arr (b e off len cap N:Nat)
  |mp (b:Nat)
  |fn (f:Nat) (first cap:List T)
  |junk
  |emp (e:Nat)
def T.cells:T->List T
  |.agg l=>l
  |t=>[t]
inductive Loc where
  |live (f u N:Nat)
  |nil
  |map (r:Nat)
  |dead
def Loc.le:Loc->Loc->Prop
  |.live f u N,l=>match l with|.live f' u' N'=>(f=f'/\u=u'/\N=N')\/N<N' | .dead=>True|_=>False
  |.nil,l=>match l with|.nil=>True|.live _ _ N=>0<N|.dead=>True|_=>False
  |.map r,l=>match l with|.map r'=>r=r' | .dead=>True|_=>False
  |.dead,l=>match l with|.dead=>True|_=>False
theorem Loc.le_refl (l:Loc):Loc.le l l:=by cases l<;>simp [Loc.le]
theorem Loc.le_trans {a b c:Loc} (h:Loc.le a b) (k:Loc.le b c):Loc.le a c:=by
  cases a<;>cases b<;>cases c<;>simp_all [Loc.le]<;>omega
abbrev Bx:=Nat->Option Loc
def Bx.le (β β':Bx):Prop:=∀ b l,β b=some l->∃ l',β' b=some l'/\Loc.le l l'
theorem Bx.le_refl (β:Bx):Bx.le β β:=fun b l h=>⟨l,h,Loc.le_refl l⟩
theorem Bx.le_trans {a b c:Bx} (h:Bx.le a b) (k:Bx.le b c):Bx.le a c:=fun x l hx=>by
  obtain ⟨l',h1,h2⟩:=h x l hx;obtain ⟨l2,h3,h4⟩:=k x l' h1;exact ⟨l2,h3,Loc.le_trans h2 h4⟩
def ykj (u e:Nat):Prop:=u % 1024=0\/u % 1024=e+1
mutual
inductive VT (A:Nat->Prop) (β:Bx) (g:Nat->Fam):T->Value->Prop
  |int (k n):VT A β g (.int k n) (.int k n)
  |bool (b):VT A β g (.bool b) (.bool b)
  |str (b):VT A β g (.str b) (.string b)
  |agg {l cs}:VL A β g l cs->VT A β g (.agg l) (.agg ⟨cs⟩)
  |tup {l vs}:VL A β g l vs->VT A β g (.tup l) (.tuple ⟨vs⟩)
  |lnil {e}:VT A β g (.lst e []) (.slice none 0 0)
  |lst {e l f u off cap cs cs0}:A f->zcb (g f).rows u=some cs0->VL A β g (l.flatMap T.cells) cs->(∀ t,t∈l->t.cells.length=e)->0<e->(cs0.drop off).take cs.length=cs->ykj u e->l.length<=cap->VT A β g (.lst e l) (.slice (some (mkA f u off)) l.length cap)
  |nils:VT A β g .nils (.slice none 0 0)
  |nilp:VT A β g .nilp (.pointer none)
  |nilm:VT A β g .nilm (.map none)
  |nilf:VT A β g .nilf .nilFunc
  |ptr {b off f u N}:β b=some (.live f u N)->VT A β g (.ptr b off N) (.pointer (some (mkA f u off)))
  |ptrOld {b off N l v}:β b=some l->(∀ f u,l≠.live f u N)->Loc.le (.live 0 0 N) l->oneC v=true->VT A β g (.ptr b off N) v
  |cp {l f u off cs cs0}:A f->zcb (g f).rows u=some cs0->VL A β g l cs->(cs0.drop off).take cs.length=cs->VT A β g (.cp l) (.pointer (some (mkA f u off)))
  |arr {b e off len cap f u N}:β b=some (.live f u N)->ykj u e->VT A β g (.arr b e off len cap N) (.slice (some (mkA f u off)) len cap)
  |arrNil {b e}:β b=some .nil->VT A β g (.arr b e 0 0 0 0) (.slice none 0 0)
  |arrOld {b e off len cap N l v}:β b=some l->(∀ f u,l≠.live f u N)->Loc.le (.live 0 0 N) l->oneC v=true->VT A β g (.arr b e off len cap N) v
  |mp {b r}:β b=some (.map r)->VT A β g (.mp b) (.map (some r))
  |mpOld {b v}:β b=some .dead->oneC v=true->VT A β g (.mp b) v
  |fn {f a c va vc}:VL A β g a va->VL A β g c vc->VT A β g (.fn f a c) (.func (.func f) ⟨va⟩ ⟨vc⟩)
  |junk (v):VT A β g .junk v
  |emp {e f u off cap cs0}:A f->zcb (g f).rows u=some cs0->0<e->ykj u e->VT A β g (.emp e) (.slice (some (mkA f u off)) 0 cap)
inductive VL (A:Nat->Prop) (β:Bx) (g:Nat->Fam):List T->List Value->Prop
  |nil:VL A β g [] []
  |cons {t v l vs}:VT A β g t v->VL A β g l vs->VL A β g (t :: l) (v :: vs)
end
section
variable {A A':Nat->Prop} {β β':Bx} {g g':Nat->Fam}
theorem yg8 {f u N:Nat} {l:Loc} (h:Loc.le (.live f u N) l):l=.live f u N\/((∀ f u,l≠.live f u N)/\Loc.le (.live 0 0 N) l):=by
  cases l with
  |live f' u' N' =>
    simp only [Loc.le] at h;rcases h with ⟨rfl,rfl,rfl⟩|h
    . exact .inl rfl
    . refine .inr ⟨fun f u hh=>?_,.inr h⟩
      cases hh;omega
  |dead=>exact .inr ⟨fun _ _ hh=>by simp at hh,trivial⟩
  |nil=>simp [Loc.le] at h
  |map r=>simp [Loc.le] at h
theorem ynb {N:Nat} {l l':Loc} (h0:∀ f u,l≠.live f u N) (h:Loc.le (.live 0 0 N) l) (k:Loc.le l l'):(∀ f u,l'≠.live f u N)/\Loc.le (.live 0 0 N) l':=by
  cases l with
  |live f' u' N' =>
    simp only [Loc.le] at h
    have hN:N<N':=by
      rcases h with ⟨h1,h2,h3⟩|h
      . exact absurd rfl (h3 ▸ h0 f' u')
      . exact h
    cases l' with
    |live f2 u2 N2 =>
      simp only [Loc.le] at k;have:N<N2:=by rcases k with ⟨_,_,rfl⟩|k<;>omega
      exact ⟨fun f u hh=>by cases hh;omega,.inr this⟩
    |dead=>exact ⟨fun _ _ hh=>by simp at hh,trivial⟩
    |nil=>simp [Loc.le] at k
    |map r=>simp [Loc.le] at k
  |dead =>
    cases l' with
    |dead=>exact ⟨fun _ _ hh=>by simp at hh,trivial⟩
    |_=>simp [Loc.le] at k
  |nil=>simp [Loc.le] at h
  |map r=>simp [Loc.le] at h
mutual
theorem VT.mono (hA:∀ f,A f->A' f) (hg:∀ f,A f->g' f=g f) (hβ:Bx.le β β'):∀ {t:T} {v:Value},VT A β g t v->VT A' β' g' t v
  |_,_,.int k n=>.int k n
  |_,_,.bool b=>.bool b
  |_,_,.str b=>.str b
  |_,_,.agg h=>.agg (VL.mono hA hg hβ h)
  |_,_,.tup h=>.tup (VL.mono hA hg hβ h)
  |_,_,.lnil=>.lnil
  |_,_,.lst h1 h2 h3 h4 h5 h6 h7 h8=>.lst (hA _ h1) (by rw [hg _ h1];exact h2) (VL.mono hA hg hβ h3) h4 h5 h6 h7 h8
  |_,_,.nils=>.nils
  |_,_,.nilp=>.nilp
  |_,_,.nilm=>.nilm
  |_,_,.nilf=>.nilf
  |_,_,.ptr h=>by
    obtain ⟨l',h1,h2⟩:=hβ _ _ h;rcases yg8 h2 with rfl|⟨h3,h4⟩
    . exact .ptr h1
    . exact .ptrOld h1 h3 h4 rfl
  |_,_,.ptrOld h h0 h1 h2=>by
    obtain ⟨l',k1,k2⟩:=hβ _ _ h;obtain ⟨k3,k4⟩:=ynb h0 h1 k2;exact .ptrOld k1 k3 k4 h2
  |_,_,.cp h1 h2 h3 h4=>.cp (hA _ h1) (by rw [hg _ h1];exact h2) (VL.mono hA hg hβ h3) h4
  |_,_,.arr h ht=>by
    obtain ⟨l',h1,h2⟩:=hβ _ _ h;rcases yg8 h2 with rfl|⟨h3,h4⟩
    . exact .arr h1 ht
    . exact .arrOld h1 h3 h4 rfl
  |_,_,.arrNil h=>by
    obtain ⟨l',h1,h2⟩:=hβ _ _ h
    cases l' with
    |nil=>exact .arrNil h1
    |live f u N =>
      simp only [Loc.le] at h2;exact .arrOld h1 (fun f u hh=>by cases hh;omega) (.inr h2) rfl
    |dead=>exact .arrOld h1 (fun _ _ hh=>by simp at hh) trivial rfl
    |map r=>simp [Loc.le] at h2
  |_,_,.arrOld h h0 h1 h2=>by
    obtain ⟨l',k1,k2⟩:=hβ _ _ h;obtain ⟨k3,k4⟩:=ynb h0 h1 k2;exact .arrOld k1 k3 k4 h2
  |_,_,.mp h=>by
    obtain ⟨l',h1,h2⟩:=hβ _ _ h
    cases l' with
    |map r=>simp only [Loc.le] at h2;subst h2;exact .mp h1
    |dead=>exact .mpOld h1 rfl
    |_=>simp [Loc.le] at h2
  |_,_,.mpOld h h2=>by
    obtain ⟨l',k1,k2⟩:=hβ _ _ h
    cases l' with
    |dead=>exact .mpOld k1 h2
    |_=>simp [Loc.le] at k2
  |_,_,.fn h1 h2=>.fn (VL.mono hA hg hβ h1) (VL.mono hA hg hβ h2)
  |_,_,.junk v=>.junk v
  |_,_,.emp h1 h2 h3 h4=>.emp (hA _ h1) (by rw [hg _ h1];exact h2) h3 h4
theorem VL.mono (hA:∀ f,A f->A' f) (hg:∀ f,A f->g' f=g f) (hβ:Bx.le β β'):∀ {l:List T} {vs:List Value},VL A β g l vs->VL A' β' g' l vs
  |_,_,.nil=>.nil
  |_,_,.cons h k=>.cons (VT.mono hA hg hβ h) (VL.mono hA hg hβ k)
end
theorem VL.len:∀ {l:List T} {vs:List Value},VL A β g l vs->l.length=vs.length
  |_,_,.nil=>rfl
  |_,_,.cons _ k=>by rw [ez,ez,k.len]
theorem VL.get:∀ {l:List T} {vs:List Value} {i:Nat} {t:T},VL A β g l vs->l[i]?=some t->∃ v,vs[i]?=some v/\VT A β g t v
  |_,_,_,_,.nil,h=>by simp at h
  |_,_,0,_,.cons h k,hi=>by simp at hi;subst hi;exact ⟨_,rfl,h⟩
  |_,_,i+1,_,.cons h k,hi=>by
    obtain ⟨v,h1,h2⟩:=VL.get (i:=i) k (by simpa using hi);exact ⟨v,by simpa using h1,h2⟩
theorem VL.append:∀ {l l2:List T} {vs vs2:List Value},VL A β g l vs->VL A β g l2 vs2->VL A β g (l++l2) (vs++vs2)
  |_,_,_,_,.nil,k=>k
  |_,_,_,_,.cons h k,k2=>.cons h (k.append k2)
theorem VL.split:∀ {l l2:List T} {vs:List Value},VL A β g (l++l2) vs->∃ a b,vs=a++b/\VL A β g l a/\VL A β g l2 b
  |[],_,vs,h=>⟨[],vs,rfl,.nil,h⟩
  |t :: l,l2,_,.cons h k=>by
    obtain ⟨a,b,rfl,h1,h2⟩:=VL.split (l:=l) k;exact ⟨_ :: a,b,rfl,.cons h h1,h2⟩
theorem VL.take:∀ {l:List T} {vs:List Value} (n:Nat),VL A β g l vs->VL A β g (l.take n) (vs.take n)
  |_,_,0,_=>by simp only [List.take_zero];exact .nil
  |_,_,n+1,.nil=>by simp only [List.take_nil];exact .nil
  |_,_,n+1,.cons h k=>by simp only [me];exact .cons h (k.take n)
theorem VL.drop:∀ {l:List T} {vs:List Value} (n:Nat),VL A β g l vs->VL A β g (l.drop n) (vs.drop n)
  |_,_,0,h=>h
  |_,_,n+1,.nil=>by simp only [List.drop_nil];exact .nil
  |_,_,n+1,.cons h k=>by simp only [jp];exact k.drop n
theorem VL.splice {l xs:List T} {vs ys:List Value} (off:Nat) (h:VL A β g l vs) (k:VL A β g xs ys):VL A β g (l.take off++xs++l.drop (off+xs.length)) (splice vs off ys):=by
  unfold Go.Proofs.YteifcnjpjjaikaaGreat.splice;rw [k.len];exact ((h.take off).append k).append (h.drop _)
theorem VL.rep {t:T} {v:Value} (h:VT A β g t v):∀ n,VL A β g (ew n t) (ew n v)
  |0=>.nil
  |n+1=>.cons h (VL.rep h n)
def T.one:T->Bool
  |.agg _=>false
  |.tup _=>false
  |.junk=>false
  |_=>true
theorem VT.one {t:T} {v:Value} (h:VT A β g t v) (ht:t.one=true):oneC v=true:=by
  cases h<;>first|rfl|assumption | (simp [T.one] at ht)
theorem VL.one {l:List T} {vs:List Value} (h:VL A β g l vs) (hl:l.all T.one=true):vs.all oneC=true:=by
  induction l generalizing vs with
  |nil=>cases h;rfl
  |cons t l ih =>
    cases h with
    |cons h1 h2 =>
      simp only [ig,d8] at hl ⊢;exact ⟨h1.one hl.1,ih h2 hl.2⟩
theorem VT.cells {t:T} {v:Value} (h:VT A β g t v) (hj:t≠.junk):VL A β g t.cells v.cells.toList:=by
  have one:∀ v:Value,oneC v=true->v.cells.toList=[v]:=by intro v hv;cases v<;>first|rfl|simp [oneC] at hv
  cases h with
  |agg h=>exact h
  |junk=>exact absurd rfl hj
  |tup h=>exact .cons (.tup h) .nil
  |ptrOld h0 h1 h2 h3=>simp only [T.cells];rw [one _ h3];exact .cons (.ptrOld h0 h1 h2 h3) .nil
  |arrOld h0 h1 h2 h3=>simp only [T.cells];rw [one _ h3];exact .cons (.arrOld h0 h1 h2 h3) .nil
  |mpOld h0 h3=>simp only [T.cells];rw [one _ h3];exact .cons (.mpOld h0 h3) .nil
  |int k n=>exact .cons (.int k n) .nil
  |bool b=>exact .cons (.bool b) .nil
  |str b=>exact .cons (.str b) .nil
  |lnil=>exact .cons .lnil .nil
  |lst h1 h2 h3 h4 h5 h6 h7 h8=>exact .cons (.lst h1 h2 h3 h4 h5 h6 h7 h8) .nil
  |nils=>exact .cons .nils .nil
  |nilp=>exact .cons .nilp .nil
  |nilm=>exact .cons .nilm .nil
  |nilf=>exact .cons .nilf .nil
  |ptr h=>exact .cons (.ptr h) .nil
  |cp h1 h2 h3 h4=>exact .cons (.cp h1 h2 h3 h4) .nil
  |arr h ht=>exact .cons (.arr h ht) .nil
  |arrNil h=>exact .cons (.arrNil h) .nil
  |mp h=>exact .cons (.mp h) .nil
  |fn h1 h2=>exact .cons (.fn h1 h2) .nil
  |emp h1 h2 h3 h4=>exact .cons (.emp h1 h2 h3 h4) .nil
end
theorem VT.lst_emp {A:Nat->Prop} {β:Bx} {g:Nat->Fam} {e:Nat} {v:Value} (he:0<e) (h:VT A β g (.lst e []) v):VT A β g .nils v\/VT A β g (.emp e) v:=by
  cases h with
  |lnil=>exact .inl .nils
  |lst h1 h2 h3 h4 h5 h6 h7 h8=>exact .inr (.emp h1 h2 h5 h7)
inductive Box where
  |gone
  |cells (z:Bool) (N:Nat) (l:List T)
  |map (l:List (T×T))
structure TS where
  n:Nat
  box:Nat->Box
def ts0:TS:=⟨0,fun _=>.gone⟩
def TS.set (S:TS) (b:Nat) (x:Box):TS:=⟨S.n,fun i=>if i=b then x else S.box i⟩
def TS.add (S:TS) (x:Box):TS:=⟨S.n+1,fun i=>if i=S.n then x else S.box i⟩
theorem TS.set_same (S:TS) (b:Nat) (x:Box):(S.set b x).box b=x:=zAc rfl
theorem TS.set_ne (S:TS) {b c:Nat} (x:Box) (h:c≠b):(S.set b x).box c=S.box c:=zAd h
theorem TS.add_same (S:TS) (x:Box):(S.add x).box S.n=x:=zAc rfl
theorem TS.add_ne (S:TS) {c:Nat} (x:Box) (h:c≠S.n):(S.add x).box c=S.box c:=zAd h
def Own (β:Bx) (f:Nat):Prop:=∃ b,(∃ u N,β b=some (.live f u N))\/β b=some (.map f)
def Loc.fam:Loc->Option Nat
  |.live f _ _=>some f
  |.map r=>some r
  |_=>none
def zqe (A:Nat->Prop) (β:Bx) (g:Nat->Fam) (b:Nat) (z:Bool) (N:Nat) (l:List T):Prop :=
  l.length=N/\((β b=some .nil/\N=0/\z=false)\/∃ f u cs rest,β b=some (.live f u N)/\(z=true->u % 1024=0)/\g f=⟨false,(u,cs) :: rest,none,none⟩/\VL A β g l cs/\cs.all oneC=true)
def VM (A:Nat->Prop) (β:Bx) (g:Nat->Fam) (l:List (T×T)) (es:List (Value×Value)):Prop :=
  VL A β g (l.map (·.1)) (es.map (·.1))/\VL A β g (l.map (·.2)) (es.map (·.2))
def zuk (A:Nat->Prop) (β:Bx) (g:Nat->Fam) (b:Nat) (l:List (T×T)):Prop :=
  ∃ r es,β b=some (.map r)/\g r=⟨false,[],some es,none⟩/\VM A β g l es
structure TRel (GL:List (Nat×List Value)) (A:Nat->Prop) (β:Bx) (S:TS) (s:CS):Prop where
  inr:∃ g,s.obj=.inr g
  inv:CInv s
  alt:∀ f,A f->f<s.n
  dis:∀ f,Own β f->f<s.n/\¬ A f
  inj:∀ b b' l l' f,β b=some l->β b'=some l'->l.fam=some f->l'.fam=some f->b=b'
  next:∀ b,S.n<=b->β b=none
  cells:∀ b z N l,S.box b=.cells z N l->zqe A β (zaa s.obj) b z N l
  maps:∀ b l,S.box b=.map l->zuk A β (zaa s.obj) b l
  glob:∀ x,x∈GL->A x.1/\zcb (zaa s.obj x.1).rows (x.1*1024)=some x.2
structure Stp (A:Nat->Prop) (β:Bx) (s:CS) (A':Nat->Prop) (β':Bx) (s':CS):Prop where
  can:Can s s'
  sub:∀ f,A f->A' f
  new:∀ f,A' f->A f\/s.n<=f\/Own β f
  own:∀ f,Own β' f->Own β f\/s.n<=f
  keep:∀ f,f<s.n->¬ Own β f->zaa s'.obj f=zaa s.obj f
  bx:Bx.le β β'
  rd:∀ x,x∈s'.rd->x∈s.rd\/(x<s.lim/\(A x\/Own β x))
  wr:∀ x,x∈s'.wr->x∈s.wr\/(x<s.lim/\Own β x)
section
variable {GL:List (Nat×List Value)} {A A' A2:Nat->Prop} {β β' β2:Bx} {S S':TS} {s s' s2:CS}
theorem Stp.refl:Stp A β s A β s:=⟨Can.refl _,fun _ h=>h,fun _ h=>.inl h,fun _ h=>.inl h,fun _ _ _=>rfl,Bx.le_refl _,fun _ h=>.inl h,fun _ h=>.inl h⟩
theorem Stp.trans (hl:s.lim<=s.n) (h:Stp A β s A' β' s') (k:Stp A' β' s' A2 β2 s2):Stp A β s A2 β2 s2:=by
  have hn:=h.can.n;refine ⟨h.can.trans k.can,fun f hf=>k.sub f (h.sub f hf),fun f hf=>?_,fun f hf=>?_,fun f hf ho=>?_,Bx.le_trans h.bx k.bx,fun x hx=>?_,fun x hx=>?_⟩
  . rcases k.new f hf with q|q|q
    . exact h.new f q
    . exact .inr (.inl (by omega))
    . rcases h.own f q with q|q
      . exact .inr (.inr q)
      . exact .inr (.inl q)
  . rcases k.own f hf with q|q
    . exact h.own f q
    . exact .inr (by omega)
  . rw [k.keep f (by omega) (fun q=>by rcases h.own f q with q|q;exact ho q;omega)];exact h.keep f hf ho
  . rcases k.rd x hx with q|⟨q,q2⟩
    . exact h.rd x q
    . rw [h.can.lim] at q;refine .inr ⟨q,?_⟩;rcases q2 with q2|q2
      . rcases h.new x q2 with q3|q3|q3
        . exact .inl q3
        . omega
        . exact .inr q3
      . rcases h.own x q2 with q3|q3
        . exact .inr q3
        . omega
  . rcases k.wr x hx with q|⟨q,q2⟩
    . exact h.wr x q
    . rw [h.can.lim] at q;refine .inr ⟨q,?_⟩;rcases h.own x q2 with q3|q3
      . exact q3
      . omega
theorem Stp.old (h:TRel GL A β S s) (k:Stp A β s A' β' s'):∀ f,A f->zaa s'.obj f=zaa s.obj f:=fun f hf=>k.keep f (h.alt f hf) fun ho=>(h.dis f ho).2 hf
theorem Stp.vt (h:TRel GL A β S s) (k:Stp A β s A' β' s') {t:T} {v:Value} (hv:VT A β (zaa s.obj) t v):VT A' β' (zaa s'.obj) t v:=hv.mono k.sub (k.old h) k.bx
theorem Stp.vl (h:TRel GL A β S s) (k:Stp A β s A' β' s') {t:List T} {v:List Value} (hv:VL A β (zaa s.obj) t v):VL A' β' (zaa s'.obj) t v:=hv.mono k.sub (k.old h) k.bx
def Ok (GL:List (Nat×List Value)) (A:Nat->Prop) (β:Bx) (s:CS) (r:Option (Value×CS)) (t:T) (S':TS):Prop :=
  ∃ v s' A' β',r=some (v,s')/\TRel GL A' β' S' s'/\VT A' β' (zaa s'.obj) t v/\Stp A β s A' β' s'
theorem Ok.same (h:TRel GL A β S s) {t:T} {v:Value} (hv:VT A β (zaa s.obj) t v):Ok GL A β s (some (v,s)) t S:=⟨v,s,A,β,rfl,h,hv,Stp.refl⟩
theorem Can.read (s:CS) (f:Nat):Can s { s with rd:=ins s.lim s.rd f }:=by
  refine ⟨ei _,rfl,fun x hx=>?_,fun _ h=>h,fun _ _ _ _=>rfl,fun _ _=>rfl,fun h=>h,fun h=>h,fun h=>h⟩;show x∈ins s.lim s.rd f;unfold ins
  cases fw f s.lim with
  |false=>exact hx
  |true =>
    cases has s.rd f with
    |true=>exact hx
    |false=>exact ml _ hx
theorem TRel.read (h:TRel GL A β S s) (f:Nat):TRel GL A β S { s with rd:=ins s.lim s.rd f } :=
  ⟨h.inr,⟨h.inv.none,h.inv.vers,h.inv.lim⟩,h.alt,h.dis,h.inj,h.next,h.cells,h.maps,h.glob⟩
theorem Stp.read {f:Nat} (hf:A f\/Own β f):Stp A β s A β { s with rd:=ins s.lim s.rd f }:=by
  refine ⟨Can.read s f,fun _ h=>h,fun _ h=>.inl h,fun _ h=>.inl h,fun _ _ _=>rfl,Bx.le_refl _,fun x hx=>?_,fun _ h=>.inl h⟩;rcases zmm hx with q|⟨rfl,q⟩
  . exact .inl q
  . exact .inr ⟨q,hf⟩
theorem Ok.read (h:TRel GL A β S s) {f:Nat} (hf:A f\/Own β f) {t:T} {v:Value} (hv:VT A β (zaa s.obj) t v):Ok GL A β s (some (v,{ s with rd:=ins s.lim s.rd f })) t S :=
  ⟨v,_,A,β,rfl,h.read f,hv,Stp.read hf⟩
theorem zcv {b f u N:Nat} (h:β b=some (.live f u N)):Own β f:=⟨b,.inl ⟨u,N,h⟩⟩
theorem zf3 {b r:Nat} (h:β b=some (.map r)):Own β r:=⟨b,.inr h⟩
def bnew (β:Bx) (b:Nat) (l:Loc):Bx:=fun i=>if i=b then some l else β i
theorem zxg {b:Nat} {l:Loc} (h:β b=none):Bx.le β (bnew β b l):=fun i x hx=>by
  refine ⟨x,?_,Loc.le_refl x⟩;unfold bnew;rw [zAd (fun hh=>by subst hh;rw [h] at hx;simp at hx)];exact hx
theorem zqe.mono {g g':Nat->Fam} {b N:Nat} {z:Bool} {l:List T} (hA:∀ f,A f->A' f) (hg:∀ f,A f->g' f=g f) (hβ:Bx.le β β') (hb:β' b=β b) (ho:∀ f u N,β b=some (.live f u N)->g' f=g f) (h:zqe A β g b z N l):zqe A' β' g' b z N l:=by
  obtain ⟨h1,h2⟩:=h;refine ⟨h1,?_⟩;rcases h2 with ⟨k1,k2⟩|⟨f,u,cs,rest,k1,kz,k2,k3,k4⟩
  . exact .inl ⟨by rw [hb];exact k1,k2⟩
  . exact .inr ⟨f,u,cs,rest,by rw [hb];exact k1,kz,by rw [ho f u N k1];exact k2,k3.mono hA hg hβ,k4⟩
theorem zuk.mono {g g':Nat->Fam} {b:Nat} {l:List (T×T)} (hA:∀ f,A f->A' f) (hg:∀ f,A f->g' f=g f) (hβ:Bx.le β β') (hb:β' b=β b) (ho:∀ r,β b=some (.map r)->g' r=g r) (h:zuk A β g b l):zuk A' β' g' b l:=by
  obtain ⟨r,es,h1,h2,h3,h4⟩:=h;exact ⟨r,es,by rw [hb];exact h1,by rw [ho r h1];exact h2,h3.mono hA hg hβ,h4.mono hA hg hβ⟩
structure zl5 (A:Nat->Prop) (β:Bx) (s:CS) (A':Nat->Prop) (s':CS):Prop where
  can:Can s s'
  sub:∀ f,A f->A' f
  new:∀ f,A' f->A f\/s.n<=f
  keep:∀ f,f<s.n->zaa s'.obj f=zaa s.obj f
  rd:∀ x,x∈s'.rd->x∈s.rd\/(x<s.lim/\(A x\/Own β x))
  wr:∀ x,x∈s'.wr->x∈s.wr
theorem zl5.stp (k:zl5 A β s A' s'):Stp A β s A' β s':=⟨k.can,k.sub,fun f hf=>(k.new f hf).imp id .inl,fun f hf=>.inl hf,fun f hf _=>k.keep f hf,Bx.le_refl _,k.rd,fun x hx=>.inl (k.wr x hx)⟩
theorem zl5.rel (hT:TRel GL A β S s) (k:zl5 A β s A' s') (hin:∃ g,s'.obj=.inr g) (hI:CInv s') (ha:∀ f,A' f->f<s'.n):TRel GL A' β S s':=by
  refine ⟨hin,hI,ha,fun f hf=>?_,hT.inj,hT.next,fun b z N l hb=>?_,fun b l hb=>?_,fun x hx=>?_⟩
  . have:=hT.dis f hf;refine ⟨fh this.1 k.can.n,fun hA=>?_⟩;rcases k.new f hA with q|q
    . exact this.2 q
    . omega
  . exact (hT.cells b z N l hb).mono k.sub (fun f hf=>k.keep f (hT.alt f hf)) (Bx.le_refl _) rfl fun f u N hl=>k.keep f (hT.dis f (zcv hl)).1
  . exact (hT.maps b l hb).mono k.sub (fun f hf=>k.keep f (hT.alt f hf)) (Bx.le_refl _) rfl fun r hl=>k.keep r (hT.dis r (zf3 hl)).1
  . have:=hT.glob x hx;exact ⟨k.sub _ this.1,by rw [k.keep _ (hT.alt _ this.1)];exact this.2⟩
def Ok0 (GL:List (Nat×List Value)) (A:Nat->Prop) (β:Bx) (S:TS) (s:CS) (r:Option (Value×CS)) (t:T):Prop :=
  ∃ v s' A',r=some (v,s')/\TRel GL A' β S s'/\VT A' β (zaa s'.obj) t v/\zl5 A β s A' s'
theorem Ok0.ok {r:Option (Value×CS)} {t:T} (h:Ok0 GL A β S s r t):Ok GL A β s r t S:=by
  obtain ⟨v,s',A',h1,h2,h3,h4⟩:=h;exact ⟨v,s',A',β,h1,h2,h3,h4.stp⟩
theorem Ok0.same (h:TRel GL A β S s) {t:T} {v:Value} (hv:VT A β (zaa s.obj) t v):Ok0 GL A β S s (some (v,s)) t :=
  ⟨v,s,A,rfl,h,hv,Can.refl _,fun _ h=>h,fun _ h=>.inl h,fun _ _=>rfl,fun _ h=>.inl h,fun _ h=>h⟩
theorem zl5.read {f:Nat} (hf:A f\/Own β f):zl5 A β s A { s with rd:=ins s.lim s.rd f }:=by
  refine ⟨Can.read s f,fun _ h=>h,fun _ h=>.inl h,fun _ _=>rfl,fun x hx=>?_,fun _ h=>h⟩;rcases zmm hx with q|⟨rfl,q⟩
  . exact .inl q
  . exact .inr ⟨q,hf⟩
theorem Ok0.read (h:TRel GL A β S s) {f:Nat} (hf:A f\/Own β f) {t:T} {v:Value} (hv:VT A β (zaa s.obj) t v):Ok0 GL A β S s (some (v,{ s with rd:=ins s.lim s.rd f })) t :=
  ⟨v,_,A,rfl,h.read f,hv,zl5.read hf⟩
theorem TRel.fresh (h:TRel GL A β S s) (F:Fam) (hF:F.ro=false) (hv:∀ p,p∈F.rows->p.1 / 1024<s.n+1) :
    TRel GL A β S { s with n:=s.n+1,obj:=zaw s.obj s.n F }/\Can s { s with n:=s.n+1,obj:=zaw s.obj s.n F }/\(∀ f,f≠s.n->zaa (zaw s.obj s.n F) f=zaa s.obj f)/\zaa (zaw s.obj s.n F) s.n=F:=by
  obtain ⟨n,ob,lim,rd,wr⟩:=s;obtain ⟨g,hg⟩:=h.inr;simp only at hg;subst hg;simp only [zgh,zq6];have hne:∀ f,f≠n->fupd g n F f=g f:=fun f hf=>zi5 g n f F hf;have hold:∀ f,f<n->fupd g n F f=g f:=fun f hf=>hne f (by omega);have hlim:lim<=n:=h.inv.lim
  have hI:CInv (⟨n+1,.inr (fupd g n F),lim,rd,wr⟩:CS):=by
    refine ⟨fun f hf=>?_,fun f p hp=>?_,by show lim<=n+1;omega⟩
    . show fupd g n F f=zd4;rw [hne f (by have:n+1<=f:=hf;omega)];exact h.inv.none f (by have:n+1<=f:=hf;show n<=f;omega)
    . change p∈(fupd g n F f).rows at hp;show p.1 / 1024<n+1;by_cases hf:f=n
      . subst hf;rw [zf9] at hp;exact hv p hp
      . rw [hne f hf] at hp;have:p.1 / 1024<n:=h.inv.vers f p hp;omega
  refine ⟨⟨⟨_,rfl⟩,hI,fun f hf=>?_,fun f hf=>?_,h.inj,h.next,fun b z N l hb=>?_,fun b l hb=>?_,fun x hx=>?_⟩,?_,hne,zf9 g n F⟩
  . have:f<n:=h.alt f hf;show f<n+1;omega
  . have:f<n/\¬ A f:=h.dis f hf;exact ⟨by show f<n+1;omega,this.2⟩
  . exact (h.cells b z N l hb).mono (fun _ h=>h) (fun f hf=>hold f (h.alt f hf)) (Bx.le_refl _) rfl fun f u N hl=>hold f (h.dis f (zcv hl)).1
  . exact (h.maps b l hb).mono (fun _ h=>h) (fun f hf=>hold f (h.alt f hf)) (Bx.le_refl _) rfl fun r hl=>hold r (h.dis r (zf3 hl)).1
  . have:=h.glob x hx;refine ⟨this.1,?_⟩;show zcb (fupd g n F x.1).rows (x.1*1024)=_;rw [hold x.1 (h.alt _ this.1)];exact this.2
  . refine ⟨by show n<=n+1;omega,rfl,fun _ h=>h,fun _ h=>h,fun f hf _ _=>hold f hf,fun f hf=>?_,fun hd f hf=>hI.none f hf,fun hd f p hp=>hI.vers f p hp,fun h=>h⟩;show (fupd g n F f).ro=_;rw [hold f hf];rfl
theorem TRel.le (h:TRel GL A β S s):s.lim<=s.n:=h.inv.lim
def CS.rowed (s:CS) (tag:Nat) (cs:List Value):CS:={ s with n:=s.n+1,obj:=zaw s.obj s.n ⟨false,[(s.n*1024+tag,cs)],none,none⟩ }
theorem TRel.newBox (h:TRel GL A β S s) {l:List T} {cs:List Value} (tag:Nat) (ht:tag<1024) (hv:VL A β (zaa s.obj) l cs) (h1:cs.all oneC=true) :
    ∃ s' β',s.newRow tag cs=some (mkA s.n (s.n*1024+tag) 0,s')/\β' S.n=some (.live s.n (s.n*1024+tag) l.length)/\TRel GL A β' (S.add (.cells (er tag 0) l.length l)) s'/\Stp A β s A β' s':=by
  obtain ⟨q1,q2,q3,q4⟩:=h.fresh ⟨false,[(s.n*1024+tag,cs)],none,none⟩ rfl (fun p hp=>by simp at hp;subst hp;show (s.n*1024+tag) / 1024<s.n+1;omega);refine ⟨s.rowed tag cs,bnew β S.n (.live s.n (s.n*1024+tag) l.length),?_,zAc rfl,?_,?_⟩
  . unfold qp;have:zis s.obj s.n=true:=by obtain ⟨g,hg⟩:=h.inr;rw [hg];rfl
    rw [this,zbn];rfl
  . have hb0:β S.n=none:=h.next _ (ei _)
    have hle:Bx.le β (bnew β S.n (.live s.n (s.n*1024+tag) l.length)):=zxg hb0;have hat:∀ b,b≠S.n->bnew β S.n (.live s.n (s.n*1024+tag) l.length) b=β b:=fun b hb=>zAd hb;have hat2:bnew β S.n (.live s.n (s.n*1024+tag) l.length) S.n=some (.live s.n (s.n*1024+tag) l.length):=zAc rfl;have hold:∀ f,f<s.n->zaa (zaw s.obj s.n ⟨false,[(s.n*1024+tag,cs)],none,none⟩) f=zaa s.obj f:=fun f hf=>q3 f (by omega);refine ⟨q1.inr,q1.inv,q1.alt,fun f hf=>?_,fun b b' x x' f hb hb' hx hx'=>?_,fun b hb=>?_,fun b z N x hb=>?_,fun b x hb=>?_,q1.glob⟩
    . obtain ⟨b,hb⟩:=hf;by_cases hbn:b=S.n
      . subst hbn;rw [hat2] at hb;rcases hb with ⟨u,N,hb⟩|hb
        . cases hb;exact ⟨by show s.n<s.n+1;omega,fun hA=>by have:=h.alt _ hA;omega⟩
        . simp at hb
      . rw [hat b hbn] at hb;exact q1.dis f ⟨b,hb⟩
    . have key:∀ b x,β b=some x->x.fam=some s.n->False:=fun b x hb hx=>by
        have:Own β s.n:=by
          cases x with
          |live f u N=>simp [Loc.fam] at hx;subst hx;exact zcv hb
          |map r=>simp [Loc.fam] at hx;subst hx;exact zf3 hb
          |nil=>simp [Loc.fam] at hx
          |dead=>simp [Loc.fam] at hx
        have:=(h.dis _ this).1;omega
      by_cases e1:b=S.n<;>by_cases e2:b'=S.n
      . rw [e1,e2]
      . subst e1;rw [hat2] at hb;rw [hat b' e2] at hb';cases hb;simp [Loc.fam] at hx;subst hx;exact (key b' x' hb' hx').elim
      . subst e2;rw [hat2] at hb';rw [hat b e1] at hb;cases hb';simp [Loc.fam] at hx';subst hx';exact (key b x hb hx).elim
      . rw [hat b e1] at hb;rw [hat b' e2] at hb';exact h.inj b b' x x' f hb hb' hx hx'
    . have:S.n+1<=b:=hb;rw [hat b (by omega)];exact h.next b (by omega)
    . by_cases hbn:b=S.n
      . subst hbn;rw [TS.add_same] at hb;cases hb;refine ⟨rfl,.inr ⟨s.n,_,cs,[],hat2,fun hz=>by have:=eg hz;omega,q4,hv.mono (fun _ h=>h) (fun f hf=>hold f (h.alt f hf)) hle,h1⟩⟩
      . rw [TS.add_ne _ _ hbn] at hb;exact (h.cells b z N x hb).mono (fun _ h=>h) (fun f hf=>hold f (h.alt f hf)) hle (hat b hbn) fun f u N hl=>hold f (h.dis f (zcv hl)).1
    . by_cases hbn:b=S.n
      . subst hbn;rw [TS.add_same] at hb;cases hb
      . rw [TS.add_ne _ _ hbn] at hb;exact (h.maps b x hb).mono (fun _ h=>h) (fun f hf=>hold f (h.alt f hf)) hle (hat b hbn) fun r hl=>hold r (h.dis r (zf3 hl)).1
  . refine ⟨q2,fun _ h=>h,fun _ h=>.inl h,fun f hf=>?_,fun f hf _=>q3 f (by omega),zxg (h.next _ (ei _)),fun _ h=>.inl h,fun _ h=>.inl h⟩;obtain ⟨b,hb⟩:=hf;by_cases hbn:b=S.n
    . subst hbn;unfold bnew at hb;rw [zAc rfl] at hb;rcases hb with ⟨u,N,hb⟩|hb
      . cases hb;exact .inr (ei _)
      . simp at hb
    . unfold bnew at hb;rw [zAd hbn] at hb;exact .inl ⟨b,hb⟩
theorem TRel.newFrozen (h:TRel GL A β S s) {l:List T} {cs:List Value} (tag:Nat) (ht:tag<1024) (hv:VL A β (zaa s.obj) l cs) :
    ∃ s' A',s.newRow tag cs=some (mkA s.n (s.n*1024+tag) 0,s')/\A' s.n/\zcb (zaa s'.obj s.n).rows (s.n*1024+tag)=some cs/\TRel GL A' β S s'/\zl5 A β s A' s':=by
  obtain ⟨q1,q2,q3,q4⟩:=h.fresh ⟨false,[(s.n*1024+tag,cs)],none,none⟩ rfl (fun p hp=>by simp at hp;subst hp;show (s.n*1024+tag) / 1024<s.n+1;omega);have hold:∀ f,f<s.n->zaa (zaw s.obj s.n ⟨false,[(s.n*1024+tag,cs)],none,none⟩) f=zaa s.obj f:=fun f hf=>q3 f (by omega);refine ⟨s.rowed tag cs,fun f=>A f\/f=s.n,?_,.inr rfl,?_,?_,?_⟩
  . unfold qp;have:zis s.obj s.n=true:=by obtain ⟨g,hg⟩:=h.inr;rw [hg];rfl
    rw [this,zbn];rfl
  . show zcb (zaa (zaw s.obj s.n _) s.n).rows _=_;rw [q4];exact z3w
  . refine ⟨q1.inr,q1.inv,fun f hf=>?_,fun f hf=>?_,h.inj,h.next,fun b z N x hb=>?_,fun b x hb=>?_,fun x hx=>⟨.inl (q1.glob x hx).1,(q1.glob x hx).2⟩⟩
    . rcases hf with hf|rfl
      . exact q1.alt f hf
      . show s.n<s.n+1;omega
    . refine ⟨(q1.dis f hf).1,fun hh=>?_⟩;rcases hh with hh|rfl
      . exact (q1.dis f hf).2 hh
      . have:=(h.dis _ hf).1;omega
    . exact (q1.cells b z N x hb).mono (fun _ h=>.inl h) (fun _ _=>rfl) (Bx.le_refl _) rfl fun _ _ _ _=>rfl
    . exact (q1.maps b x hb).mono (fun _ h=>.inl h) (fun _ _=>rfl) (Bx.le_refl _) rfl fun _ _=>rfl
  . refine ⟨q2,fun _ h=>.inl h,fun f hf=>?_,hold,fun _ h=>.inl h,fun _ h=>h⟩;rcases hf with hf|rfl
    . exact .inl hf
    . exact .inr (ei _)
theorem Ok0.rd (h:TRel GL A β S s) {s1:CS} (hs:TRel GL A β S s1/\zl5 A β s A s1) {t:T} {v:Value} (hv:VT A β (zaa s1.obj) t v):Ok0 GL A β S s (some (v,s1)) t:=⟨v,s1,A,rfl,hs.1,hv,hs.2⟩
end
def spl (l:List T) (off:Nat) (xs:List T):List T:=l.take off++xs++l.drop (off+xs.length)
theorem ye5 {l xs:List T} {off:Nat} (h:off+xs.length<=l.length):(spl l off xs).length=l.length:=by
  unfold spl;rw [eu,eu,gi,ir];omega
section
variable {GL:List (Nat×List Value)} {A A' A2:Nat->Prop} {β β' β2:Bx} {S S':TS} {s s' s2:CS} {P:fe} {Γ:Env}
theorem yd4 {s:CS} {g:Nat->Fam} (hs:s.obj=.inr g) {f u off:Nat} {vs cs:List Value} {rest:List (Nat×List Value)} (hg:g f=⟨false,(u,cs) :: rest,none,none⟩) (hl:off+vs.length<=cs.length) (ho:vs.all oneC=true) :
    CS.write s (mkA f u off) vs=some { s with obj:=.inr (fupd g f ⟨false,[(u,splice cs off vs)],none,none⟩),wr:=ins s.lim s.wr f }:=by
  obtain ⟨n,ob,lim,rd,wr⟩:=s;simp only at hs;subst hs;unfold CS.write;show (match (g f).ro,zcb (g f).rows u with|false,some cs=>_|_,_=>none)=_;rw [hg];simp only;have:zcb ((u,cs) :: rest) u=some cs:=by unfold zcb;rw [jh];rfl
  rw [this];simp only;rw [zbk.2 (show (mkA f u off).off+vs.length<=cs.length from hl),ho,lc,zbn,zgh];rfl
theorem TRel.write (h:TRel GL A β S s) {b N f u off:Nat} {z:Bool} {l xs:List T} {ys:List Value} (hS:S.box b=.cells z N l) (hb:β b=some (.live f u N)) (hx:VL A β (zaa s.obj) xs ys) (ho:ys.all oneC=true) (hN:off+xs.length<=N) :
    ∃ s',s.write (mkA f u off) ys=some s'/\TRel GL A β (S.set b (.cells z N (spl l off xs))) s'/\Stp A β s A β s':=by
  obtain ⟨hlN,hc⟩:=h.cells b z N l hS;rcases hc with ⟨hc,_,_⟩|⟨f',u',cs,rest,hb',hz,hg,hv,h1⟩
  . rw [hb] at hc;simp at hc
  rw [hb] at hb';cases hb';have hlen:=hv.len;have hxl:=hx.len;obtain ⟨g,hin⟩:=h.inr;have hg':g f=⟨false,(u,cs) :: rest,none,none⟩:=by rw [hin] at hg;exact hg
  have hw:=yd4 hin (off:=off) (vs:=ys) hg' (by omega) ho;have hcan:=zr2 h.inv hw;have hd:=h.dis f (zcv hb);have hold:∀ k,k≠f->fupd g f ⟨false,[(u,splice cs off ys)],none,none⟩ k=g k:=fun k hk=>zi5 _ _ _ _ hk;have hobj:∀ k,zaa s.obj k=g k:=fun k=>by rw [hin];rfl
  have hA:∀ k,A k->fupd g f ⟨false,[(u,splice cs off ys)],none,none⟩ k=zaa s.obj k:=fun k hk=>by rw [hobj];exact hold k fun hh=>hd.2 (hh ▸ hk)
  have hoth:∀ {b':Nat} {l:Loc} {k:Nat},β b'=some l->l.fam=some k->b'≠b->fupd g f ⟨false,[(u,splice cs off ys)],none,none⟩ k=zaa s.obj k:=by
    intro b' l k hb2 hk hne;rw [hobj];refine hold k fun hh=>hne ?_;subst hh;exact h.inj b' b l _ k hb2 hb hk rfl
  refine ⟨_,hw,⟨⟨_,rfl⟩,h.inv.next hcan,fun k hk=>h.alt k hk,fun k hk=>h.dis k hk,h.inj,h.next,fun b' z' N' l' hb2=>?_,fun b' l' hb2=>?_,fun x hx2=>?_⟩,hcan,fun _ h=>h,fun _ h=>.inl h,fun _ h=>.inl h,fun k hk hno=>?_,Bx.le_refl _,fun _ h=>.inl h,fun x hx2=>?_⟩
  . by_cases hbb:b'=b
    . subst hbb;rw [TS.set_same] at hb2;cases hb2;refine ⟨by rw [ye5 (by omega)];exact hlN,.inr ⟨f,u,splice cs off ys,[],hb,hz,zf9 _ _ _,?_,?_⟩⟩
      . exact (hv.splice off hx).mono (fun _ h=>h) hA (Bx.le_refl _)
      . unfold Go.Proofs.YteifcnjpjjaikaaGreat.splice;rw [lf,lf,ho];simp only [lc,d8,fd] at h1 ⊢;exact ⟨fun x hx=>h1 x (pq hx),fun x hx=>h1 x (lm hx)⟩
    . rw [TS.set_ne _ _ hbb] at hb2;exact (h.cells b' z' N' l' hb2).mono (fun _ h=>h) hA (Bx.le_refl _) rfl fun f' u' N2 hl=>hoth hl rfl hbb
  . by_cases hbb:b'=b
    . subst hbb;rw [TS.set_same] at hb2;cases hb2
    . rw [TS.set_ne _ _ hbb] at hb2;exact (h.maps b' l' hb2).mono (fun _ h=>h) hA (Bx.le_refl _) rfl fun r hl=>hoth hl rfl hbb
  . have:=h.glob x hx2;refine ⟨this.1,?_⟩;show zcb (fupd g f _ x.1).rows _=_;rw [hA _ this.1];exact this.2
  . show fupd g f _ k=_;rw [hobj];exact hold k fun hh=>hno (hh ▸ zcv hb)
  . rcases zmm hx2 with q|⟨rfl,q⟩
    . exact .inl q
    . exact .inr ⟨q,zcv hb⟩
theorem TRel.look (h:TRel GL A β S s) {b N f u off:Nat} {z:Bool} {l:List T} (hS:S.box b=.cells z N l) (hb:β b=some (.live f u N)) :
    ∃ cs,s.readRow (mkA f u off)=some (cs,{ s with rd:=ins s.lim s.rd f })/\VL A β (zaa s.obj) l cs/\cs.all oneC=true:=by
  obtain ⟨hlN,hc⟩:=h.cells b z N l hS;rcases hc with ⟨hc,_,_⟩|⟨f',u',cs,rest,hb',hz,hg,hv,h1⟩
  . rw [hb] at hc;simp at hc
  rw [hb] at hb';cases hb';refine ⟨cs,?_,hv,h1⟩;unfold qt;rw [zmu,zjy,hg];have:zcb ((u,cs) :: rest) u=some cs:=by unfold zcb;rw [jh];rfl
  rw [show (⟨false,(u,cs) :: rest,none,none⟩:Fam).rows=(u,cs) :: rest from rfl,this]
def z7q (i:TI) (l:List T) (off:Nat):Option T:=bif aggT i.desc then (bif gj (off+i.size) l.length then some (.agg ((l.drop off).take i.size)) else none) else l[off]?
theorem ybo {l:List Value} {off k:Nat} (h:off+k<=l.length):cut l off k=some ((l.drop off).take k):=by
  unfold cut;have:((l.drop off).take k).length=k:=by rw [gi,ir];omega
  simp only [this,jh,cond_true]
theorem z1x {g:Nat->Fam} {i:TI} {l:List T} {cs:List Value} {off:Nat} {t:T} (hv:VL A β g l cs) (ht:z7q i l off=some t):∃ v,zvu i cs off=some v/\VT A β g t v:=by
  unfold z7q at ht;unfold zvu
  cases ha:aggT i.desc with
  |true =>
    rw [ha] at ht;simp only [cond_true] at ht ⊢
    cases hb:gj (off+i.size) l.length with
    |false=>rw [hb] at ht;simp at ht
    |true =>
      rw [hb] at ht;simp only [cond_true,dy] at ht;subst ht;rw [ybo (by rw [<- hv.len];exact zbk.1 hb)];exact ⟨_,rfl,.agg ((hv.drop off).take i.size)⟩
  |false =>
    rw [ha] at ht;simp only [cond_false] at ht ⊢;exact hv.get ht
def zuu (Γ:Env) (S:TS) (t:fc):T->Option T
  |.ptr b off N=>match Γ.ti.at t,S.box b with
    |some i,.cells z N' l=>bif er N N' then z7q i l off else none
    |_,_=>none
  |.cp l=>match Γ.ti.at t with|some i=>z7q i l 0|none=>none
  |_=>none
theorem ysn {b f u N M:Nat} (h:TRel GL A β S s) {z:Bool} {l:List T} (hS:S.box b=.cells z M l) {x:Loc} (hb:β b=some x) (hx:(∀ f u,x≠.live f u M)) (hn:Loc.le (.live 0 0 M) x):False:=by
  obtain ⟨hlN,hc⟩:=h.cells b z M l hS;rcases hc with ⟨hc,_,_⟩|⟨f',u',cs,rest,hb',hz,hg,hv,h1⟩
  . rw [hb] at hc;cases hc;simp [Loc.le] at hn
  . rw [hb] at hb';cases hb';exact hx _ _ rfl
theorem zk3 (h:TRel GL A β S s) {b off N:Nat} {z:Bool} {l:List T} {v:Value} (hS:S.box b=.cells z N l) (hv:VT A β (zaa s.obj) (.ptr b off N) v):∃ f u,v=.pointer (some (mkA f u off))/\β b=some (.live f u N):=by
  cases hv with
  |ptr hb=>exact ⟨_,_,rfl,hb⟩
  |ptrOld hb h1 h2 h3=>exact (ysn (f:=0) (u:=0) (N:=0) h hS hb h1 h2).elim
theorem zi8 (h:TRel GL A β S s) {b e off len cap N:Nat} {z:Bool} {l:List T} {v:Value} (hS:S.box b=.cells z N l) (hv:VT A β (zaa s.obj) (.arr b e off len cap N) v):(∃ f u,v=.slice (some (mkA f u off)) len cap/\β b=some (.live f u N)/\ykj u e)\/(v=.slice none 0 0/\β b=some .nil/\off=0/\len=0/\cap=0/\N=0):=by
  cases hv with
  |arr hb ht=>exact .inl ⟨_,_,rfl,hb,ht⟩
  |arrNil hb=>exact .inr ⟨rfl,hb,rfl,rfl,rfl,rfl⟩
  |arrOld hb h1 h2 h3=>exact (ysn (f:=0) (u:=0) (N:=0) h hS hb h1 h2).elim
theorem z88 (h:TRel GL A β S s) {t:fc} {x r:T} {v:Value} (hx:VT A β (zaa s.obj) x v) (ht:zuu Γ S t x=some r) :
    ∃ ad i w f,v=.pointer (some ad)/\Γ.ti.at t=some i/\(A f\/Own β f)/\s.loadVar i ad=some (w,{ s with rd:=ins s.lim s.rd f })/\VT A β (zaa s.obj) r w:=by
  unfold zuu at ht;split at ht
  . rename_i b off N;split at ht
    . rename_i i z N' l hi hS
      cases hq:er N N' with
      |false=>rw [hq] at ht;simp at ht
      |true =>
        rw [hq] at ht;have:=eg hq;subst this;obtain ⟨f,u,rfl,hb⟩:=zk3 h hS hx;obtain ⟨cs,h1,h2,h3⟩:=h.look (off:=off) hS hb;obtain ⟨w,h4,h5⟩:=z1x h2 ht;refine ⟨_,i,w,f,rfl,hi,.inr (zcv hb),?_,h5⟩;unfold CS.loadVar;simp only [h1,zta,h4]
    . simp at ht
  . rename_i l
    cases hx with
    |cp k1 k2 k3 k4 =>
      rename_i f u off cs cs0;split at ht
      . rename_i i hi
        have hpc:∀ w,zvu i cs 0=some w->zvu i cs0 off=some w:=by
          intro w hw;unfold zvu at hw ⊢
          cases ha:aggT i.desc with
          |true =>
            rw [ha] at hw;simp only [cond_true] at hw ⊢;unfold cut at hw ⊢
            cases hl:er ((cs.drop 0).take i.size).length i.size with
            |false=>simp only [hl,cond_false] at hw;simp at hw
            |true =>
              simp only [hl,cond_true] at hw;have hl':=eg hl;rw [fl,gi] at hl'
              have e1:(cs0.drop off).take i.size=(cs.drop 0).take i.size:=by
                rw [<- k4,fl,pe,pu (by omega)]
              rw [e1];simp only [hl,cond_true];exact hw
          |false =>
            rw [ha] at hw;simp only [cond_false] at hw ⊢;rw [<- k4] at hw;rw [List.getElem?_take] at hw;split at hw
            . rw [List.getElem?_drop] at hw;exact hw
            . simp at hw
        obtain ⟨w,h4,h5⟩:=z1x k3 ht;refine ⟨_,i,w,f,rfl,hi,.inl k1,?_,h5⟩;unfold CS.loadVar qt;simp only [zmu,zjy,k2,zta,hpc _ h4]
      . simp at ht
  . simp at ht
theorem ykl (h:TRel GL A β S s) {t:fc} {x r:T} {v:Value} (hx:VT A β (zaa s.obj) x v) (ht:zuu Γ S t x=some r):Ok0 GL A β S s (zpj Γ s t v) r:=by
  obtain ⟨ad,i,w,f,rfl,h1,h2,h3,h4⟩:=z88 h hx ht
  have:zpj Γ s t (.pointer (some ad))=some (w,{ s with rd:=ins s.lim s.rd f }):=by
    unfold zpj;simp only [h1,h3]
  rw [this];exact Ok0.read h h2 h4
def zym (Γ:Env) (S:TS) (t:fc) (v:T):T->Option TS
  |.ptr b off N=>match Γ.ti.at t,S.box b with
    |some i,.cells z N' l=>bif er N N' && (er v.cells.length i.size && (gj (off+v.cells.length) N && v.cells.all T.one)) then some (S.set b (.cells z N (spl l off v.cells))) else none
    |_,_=>none
  |_=>none
theorem zml {v:T} (h:v.cells.all T.one=true):v≠.junk:=by rintro rfl;simp [T.cells,T.one] at h
theorem yem (h:TRel GL A β S s) {t:fc} {x y:T} {v w:Value} (hx:VT A β (zaa s.obj) x v) (hy:VT A β (zaa s.obj) y w) (ht:zym Γ S t y x=some S'):Ok GL A β s (zk4 Γ s t w.cells.toList v) .junk S':=by
  unfold zym at ht;split at ht
  . rename_i b off N;split at ht
    . rename_i i z N' l hi hS
      cases hq:(er N N' && (er y.cells.length i.size && (gj (off+y.cells.length) N && y.cells.all T.one))) with
      |false=>rw [hq] at ht;simp at ht
      |true =>
        rw [hq] at ht;simp only [cond_true,dy] at ht;subst ht;simp only [d8] at hq;obtain ⟨q1,q2,q3,q4⟩:=hq;have:=eg q1;subst this;obtain ⟨f,u,rfl,hb⟩:=zk3 h hS hx;have hc:=hy.cells (zml q4);obtain ⟨s',h1,h2,h3⟩:=h.write (off:=off) hS hb hc (hc.one q4) (zbk.1 q3);refine ⟨undef,s',A,β,?_,h2,.junk _,h3⟩;unfold zk4;simp only [hi];rw [<- hc.len,q2,cond_true,h1];rfl
    . simp at ht
  . simp at ht
def zl6:Value->Option T
  |.int k n=>some (.int k n)
  |.bool b=>some (.bool b)
  |.string b=>some (.str b)
  |.pointer none=>some .nilp
  |.slice none 0 0=>some .nils
  |.map none=>some .nilm
  |.nilFunc=>some .nilf
  |_=>none
def zgr:List Value->Option (List T)
  |[]=>some []
  |v :: l=>match zl6 v,zgr l with|some t,some r=>some (t :: r)|_,_=>none
theorem z0r {g:Nat->Fam} {v:Value} {t:T} (h:zl6 v=some t):VT A β g t v/\t.one=true:=by
  unfold zl6 at h;split at h<;>first | (simp at h;done) | (cases h;exact ⟨by constructor,rfl⟩)
theorem zjw {g:Nat->Fam}:∀ {l:List Value} {r:List T},zgr l=some r->VL A β g r l/\r.all T.one=true
  |[],r,h=>by simp only [zgr,dy] at h;subst h;exact ⟨.nil,rfl⟩
  |v :: l,r,h=>by
    unfold zgr at h;split at h
    . rename_i t r' h1 h2;cases h;obtain ⟨a,b⟩:=z0r (A:=A) (β:=β) (g:=g) h1;obtain ⟨c,d⟩:=zjw h2;exact ⟨.cons a c,by rw [ig,b,d];rfl⟩
    . simp at h
def zyo (Γ:Env) (S:TS) (e:fc):Option (T×TS) :=
  match Γ.ti.at e with
  |some i=>(match zgr i.zero with|some l=>some (.ptr S.n 0 l.length,S.add (.cells true l.length l))|none=>none)
  |none=>none
theorem ync (h:TRel GL A β S s) {l:List T} {cs:List Value} (hv:VL A β (zaa s.obj) l cs) (h1:l.all T.one=true):Ok GL A β s (ptrC (s.newRow 0 cs)) (.ptr S.n 0 l.length) (S.add (.cells true l.length l)):=by
  obtain ⟨s',β',k1,k2,k3,k4⟩:=h.newBox 0 (by omega) hv (hv.one h1);exact ⟨_,s',A,β',by rw [k1];rfl,k3,.ptr k2,k4⟩
theorem yeu (h:TRel GL A β S s) {e:fc} {r:T} (ht:zyo Γ S e=some (r,S')):Ok GL A β s (zk6 Γ s e) r S':=by
  unfold zyo at ht;split at ht
  . rename_i i hi;split at ht
    . rename_i l hl;cases ht;obtain ⟨a,b⟩:=zjw hl;have:=ync h a b;unfold zk6;simp only [hi];exact this
    . simp at ht
  . simp at ht
def tBox (S:TS) (x:T):Option (T×TS):=bif x.cells.all T.one then some (.ptr S.n 0 x.cells.length,S.add (.cells true x.cells.length x.cells)) else none
theorem ypr (h:TRel GL A β S s) {x r:T} {v:Value} (hx:VT A β (zaa s.obj) x v) (ht:tBox S x=some (r,S')):Ok GL A β s (ptrC (s.newRow 0 v.cells.toList)) r S':=by
  unfold tBox at ht
  cases hq:x.cells.all T.one with
  |false=>rw [hq] at ht;simp at ht
  |true =>
    rw [hq] at ht;cases ht;exact ync h (hx.cells (zml hq)) hq
end
section
variable {GL:List (Nat×List Value)} {A A' A2:Nat->Prop} {β β' β2:Bx} {S S':TS} {s s' s2:CS} {P:fe} {Γ:Env}
def TS.has (S:TS) (b N:Nat):Bool:=match S.box b with|.cells _ N' _=>er N N' | _=>false
theorem TS.has_ok {b N:Nat} (h:S.has b N=true):∃ z l,S.box b=.cells z N l:=by
  unfold TS.has at h;split at h
  . rename_i z N' l hS;have:=eg h;subst this;exact ⟨z,l,hS⟩
  . simp at h
theorem yja {g:Nat->Fam} {l:List T} {f u off:Nat} {cs0 cs:List Value} (o:Nat) (k1:A f) (k2:zcb (g f).rows u=some cs0) (k3:VL A β g l cs) (k4:(cs0.drop off).take cs.length=cs):VT A β g (.cp (l.drop o)) (.pointer (some (mkA f u (off+o)))):=by
  refine .cp k1 k2 (k3.drop o) ?_;have:=congrArg (List.drop o) k4;rw [List.drop_take,ks] at this;rw [ir];exact this
theorem yqs {g:Nat->Fam} {l:List T} {f u off:Nat} {cs0 cs:List Value} (o:Nat) (k1:A f) (k2:zcb (g f).rows u=some cs0) (k3:VL A β g l cs) (k4:(cs0.drop off).take cs.length=cs):VT A β g (.cp (l.take o)) (.pointer (some (mkA f u off))):=by
  refine .cp k1 k2 (k3.take o) ?_;have:=congrArg (List.take o) k4;rw [pe] at this;rw [gi];exact this
def zac (Γ:Env) (S:TS) (t:fc) (k:Nat) (x:T):Option T:=match Γ.ti.at t with
  |some i=>(match i.desc with
    |.struct fs=>(match zex Γ fs k with
      |some (o,size)=>bif er size 0 then none else (match x with
        |.ptr b off N=>bif S.has b N then some (.ptr b (off+o) N) else none
        |.cp l=>some (.cp (l.drop o))
        |_=>none)
      |none=>none)
    |_=>none)
  |none=>none
theorem z04 (h:TRel GL A β S s) {t:fc} {k:Nat} {x r:T} {v:Value} (hx:VT A β (zaa s.obj) x v) (ht:zac Γ S t k x=some r):Ok0 GL A β S s (zdg Γ s t k v) r:=by
  unfold zac at ht;split at ht
  . rename_i i hi;split at ht
    . rename_i fs hd;split at ht
      . rename_i o size hp
        cases hz:er size 0 with
        |true=>rw [hz] at ht;simp at ht
        |false =>
          rw [hz,cond_false] at ht
          have key:∀ a,zdg Γ s t k (.pointer (some a))=some (.pointer (some (Addr.plus a o)),s):=fun a=>by
            unfold zdg;simp only [hi,hd,hp,hz,cond_false]
          split at ht
          . rename_i b off N
            cases hs:S.has b N with
            |false=>rw [hs] at ht;simp at ht
            |true =>
              rw [hs] at ht;cases ht;obtain ⟨z,l,hS⟩:=TS.has_ok hs;obtain ⟨f,u,rfl,hb⟩:=zk3 h hS hx;rw [key,zj6];exact Ok0.same h (.ptr hb)
          . rename_i l;cases ht
            cases hx with
            |cp k1 k2 k3 k4 =>
              rw [key,zj6];exact Ok0.same h (yja o k1 k2 k3 k4)
          . simp at ht
      . simp at ht
    . simp at ht
  . simp at ht
theorem zuc {e:Nat}:∀ {l:List T},(∀ t,t∈l->t.cells.length=e)->(l.flatMap T.cells).length=l.length*e
  |[],_=>by simp
  |t :: l,h=>by
    rw [iv,eu,h t (by simp),zuc fun t ht=>h t (by simp [ht]),ez,jc];omega
theorem zwx {e:Nat}:∀ {l:List T} (k:Nat),(∀ t,t∈l->t.cells.length=e)->(l.flatMap T.cells).drop (k*e)=(l.drop k).flatMap T.cells
  |_,0,_=>by simp
  |[],k+1,_=>by simp
  |t :: l,k+1,h=>by
    rw [iv,jp,<- zwx k fun t ht=>h t (by simp [ht])];have h1:=h t (by simp);rw [show (k+1)*e=t.cells.length+k*e by rw [h1,jc];omega,mh];simp
theorem z5f {e:Nat}:∀ {l:List T} (k:Nat),(∀ t,t∈l->t.cells.length=e)->(l.flatMap T.cells).take (k*e)=(l.take k).flatMap T.cells
  |_,0,_=>by simp
  |[],k+1,_=>by simp
  |t :: l,k+1,h=>by
    rw [iv,me,iv,<- z5f k fun t ht=>h t (by simp [ht])];have h1:=h t (by simp);rw [show (k+1)*e=t.cells.length+k*e by rw [h1,jc];omega,oc,gc (by omega)];simp
def natT:T->Option Nat
  |.int _ (.ofNat n)=>some n
  |_=>none
theorem yg1 {g:Nat->Fam} {t:T} {v:Value} {n:Nat} (h:VT A β g t v) (ht:natT t=some n):zgv v=some n:=by
  unfold natT at ht;split at ht
  . cases ht;cases h;rfl
  . simp at ht
def zic (Γ:Env) (S:TS) (t:fc) (x k:T):Option T:=match Γ.ti.at t,natT k with
  |some i,some k=>(match x with
    |.ptr b off N=>(match i.desc with|.array n e=>(match Γ.ti.at e with|some j=>bif S.has b N && fw k n then some (.ptr b (off+k*j.size) N) else none|none=>none)|_=>none)
    |.cp l=>(match i.desc with|.array n e=>(match Γ.ti.at e with|some j=>bif fw k n then some (.cp (l.drop (k*j.size))) else none|none=>none)|_=>none)
    |.arr b es off len cap N=>(match i.desc with|.slice e=>(match Γ.ti.at e with|some j=>bif S.has b N && (er es j.size && fw k len) then some (.ptr b (off+k*j.size) N) else none|none=>none)|_=>none)
    |.lst es l=>(match i.desc with|.slice e=>(match Γ.ti.at e with|some j=>bif er es j.size then (match l[k]? with|some r=>some (.cp r.cells)|none=>none) else none|none=>none)|_=>none)
    |_=>none)
  |_,_=>none
theorem z02 (h:TRel GL A β S s) {t:fc} {x k r:T} {v w:Value} (hx:VT A β (zaa s.obj) x v) (hk:VT A β (zaa s.obj) k w) (ht:zic Γ S t x k=some r):Ok0 GL A β S s (zb5 Γ s t v (zgv w)) r:=by
  unfold zic at ht;split at ht
  . rename_i i kk hi hkk;rw [yg1 hk hkk];split at ht
    . rename_i b off N;split at ht
      . rename_i n e hd;split at ht
        . rename_i j hj
          cases hq:(S.has b N && fw kk n) with
          |false=>rw [hq] at ht;simp at ht
          |true =>
            rw [hq] at ht;cases ht;simp only [d8] at hq;obtain ⟨z,l,hS⟩:=TS.has_ok hq.1;obtain ⟨f,u,rfl,hb⟩:=zk3 h hS hx
            have:zb5 Γ s t (.pointer (some (mkA f u off))) (some kk)=some (.pointer (some (mkA f u (off+kk*j.size))),s):=by
              unfold zb5 ztt;simp only [hi,hd,hj,hq.2,cond_true,zj6]
            rw [this];exact Ok0.same h (.ptr hb)
        . simp at ht
      . simp at ht
    . rename_i l;split at ht
      . rename_i n e hd;split at ht
        . rename_i j hj
          cases hq:fw kk n with
          |false=>rw [hq] at ht;simp at ht
          |true =>
            rw [hq] at ht;cases ht
            cases hx with
            |cp k1 k2 k3 k4 =>
              rename_i f u off cs cs0
              have:zb5 Γ s t (.pointer (some (mkA f u off))) (some kk)=some (.pointer (some (mkA f u (off+kk*j.size))),s):=by
                unfold zb5 ztt;simp only [hi,hd,hj,hq,cond_true,zj6]
              rw [this];exact Ok0.same h (yja _ k1 k2 k3 k4)
        . simp at ht
      . simp at ht
    . rename_i b es off len cap N;split at ht
      . rename_i e hd;split at ht
        . rename_i j hj
          cases hq:(S.has b N && (er es j.size && fw kk len)) with
          |false=>rw [hq] at ht;simp at ht
          |true =>
            rw [hq] at ht;cases ht;simp only [d8] at hq;obtain ⟨q1,q2,q3⟩:=hq;obtain ⟨z,l,hS⟩:=TS.has_ok q1;rcases zi8 h hS hx with ⟨f,u,rfl,hb,_⟩|⟨rfl,_,_,rfl,_,_⟩
            . have:zb5 Γ s t (.slice (some (mkA f u off)) len cap) (some kk)=some (.pointer (some (mkA f u (off+kk*j.size))),s):=by
                unfold zb5 ztt;simp only [hi,hd,hj,q3,cond_true,zj6]
              rw [this];exact Ok0.same h (.ptr hb)
            . have:=zaf.1 q3;omega
        . simp at ht
      . simp at ht
    . rename_i es l;split at ht
      . rename_i e hd;split at ht
        . rename_i j hj
          cases hq:er es j.size with
          |false=>rw [hq] at ht;simp at ht
          |true =>
            rw [hq] at ht;have hes:=eg hq;simp only [cond_true] at ht;split at ht
            . rename_i r' hl;cases ht
              have hlt:kk<l.length:=by
                by_cases hh:kk<l.length
                . exact hh
                . rw [List.getElem?_eq_none (by omega)] at hl;simp at hl
              cases hx with
              |lnil=>simp at hlt
              |lst k1 k2 k3 k4 k5 k6 k7 k8 =>
                rename_i f u off cap cs cs0
                have:zb5 Γ s t (.slice (some (mkA f u off)) l.length cap) (some kk)=some (.pointer (some (mkA f u (off+kk*es))),s):=by
                  unfold zb5 ztt;simp only [hi,hd,hj,zaf.2 hlt,cond_true,zj6,hes]
                rw [this];refine Ok0.same h ?_
                have k7':(cs0.drop (off+kk*es)).take (cs.drop (kk*es)).length=cs.drop (kk*es):=by
                  have:=congrArg (List.drop (kk*es)) k6;rw [List.drop_take,ks] at this;rw [ir];exact this
                have h1:=yqs es k1 k2 (k3.drop (kk*es)) (off:=off+kk*es) k7'
                have h2:((l.flatMap T.cells).drop (kk*es)).take es=r'.cells:=by
                  rw [zwx kk k4];rw [ef hlt,dy] at hl;have hc:=k4 r' (by rw [<- hl];exact List.getElem_mem hlt);rw [List.drop_eq_getElem_cons hlt,hl,iv,oc,gc (by omega),hc];simp
                rw [h2] at h1;exact h1
            . simp at ht
        . simp at ht
      . simp at ht
    . simp at ht
  . simp at ht
def zuv (Γ:Env) (t:fc) (x k:T):Option T:=match Γ.ti.at t,natT k with
  |some i,some k=>(match x with
    |.agg l=>(match i.desc with
      |.array n e=>(match Γ.ti.at e with|some j=>bif fw k n then z7q j l (k*j.size) else none|none=>none)
      |_=>none)
    |.str b=>(match i.desc with
      |.string=>(match b.data.toList[k]? with|some c=>some (.int .u8 c.toNat)|none=>none)
      |_=>none)
    |_=>none)
  |_,_=>none
theorem yeq (h:TRel GL A β S s) {t:fc} {x k r:T} {v w:Value} (hx:VT A β (zaa s.obj) x v) (hk:VT A β (zaa s.obj) k w) (ht:zuv Γ t x k=some r):Ok0 GL A β S s (zk5 Γ s t v (zgv w)) r:=by
  unfold zuv at ht;split at ht
  . rename_i i kk hi hkk;rw [yg1 hk hkk];split at ht
    . rename_i l
      cases hx with
      |agg hl =>
        rename_i cs;split at ht
        . rename_i n e hd;split at ht
          . rename_i j hj
            cases hq:fw kk n with
            |false=>rw [hq] at ht;simp at ht
            |true =>
              rw [hq,cond_true] at ht;obtain ⟨w,h1,h2⟩:=z1x hl ht
              have:zk5 Γ s t (.agg ⟨cs⟩) (some kk)=some (w,s):=by
                unfold zk5;simp only [hi,hd,hj,hq,cond_true,h1];rfl
              rw [this];exact Ok0.same h h2
          . simp at ht
        . simp at ht
    . rename_i b;cases hx;split at ht
      . rename_i hd;split at ht
        . rename_i c hc;cases ht
          have:zk5 Γ s t (.string b) (some kk)=some (.int .u8 c.toNat,s):=by
            unfold zk5;simp only [hi,hd,hc]
          rw [this];exact Ok0.same h (.int _ _)
        . simp at ht
      . simp at ht
    . simp at ht
  . simp at ht
def zma (k:Nat):T->Option T
  |.tup l=>l[k]?
  |_=>none
theorem z62 (h:TRel GL A β S s) {k:Nat} {x r:T} {v:Value} (hx:VT A β (zaa s.obj) x v) (ht:zma k x=some r):Ok0 GL A β S s (zgu s k v) r:=by
  unfold zma at ht;split at ht
  . cases hx with
    |tup hl =>
      obtain ⟨w,h1,h2⟩:=hl.get ht;rename_i vs
      have:zgu s k (.tuple ⟨vs⟩)=some (w,s):=by
        unfold zgu;simp only [h1];rfl
      rw [this];exact Ok0.same h h2
  . simp at ht
def zk8 (S:TS):T->Option T
  |.ptr b off N=>bif S.has b N then some (.ptr b off N) else none
  |.cp l=>some (.cp l)
  |.fn f a c=>some (.fn f a c)
  |_=>none
end
def yta (c:UInt8):T:=.int .u8 (c.toNat:Int)
def z6g (b:ByteArray):List T:=b.data.toList.map yta
section
variable {GL:List (Nat×List Value)} {A A' A2:Nat->Prop} {β β' β2:Bx} {S S':TS} {s s' s2:CS} {P:fe} {Γ:Env}
theorem ycf {g:Nat->Fam}:∀ (l:List UInt8),VL A β g (l.map yta) (l.map fun b=>.int .u8 b.toNat)
  |[]=>.nil
  |c :: l=>.cons (.int _ _) (ycf l)
def tSrc (S:TS) (e:Nat):T->Option (Nat×List T)
  |.lst es l=>bif er es e then some (l.length,l.flatMap T.cells) else none
  |.str b=>bif er e 1 then some (b.size,z6g b) else none
  |.nils=>some (0,[])
  |.arr b es off len cap N=>(match S.box b with
    |.cells _ N' l=>bif er N N' && (er es e && gj (off+len*e) N) then some (len,(l.drop off).take (len*e)) else none
    |_=>none)
  |.emp es=>bif er es e then some (0,[]) else none
  |_=>none
def Rd (A:Nat->Prop) (β:Bx) (s s':CS):Prop:=s'=s\/∃ f,(A f\/Own β f)/\s'={ s with rd:=ins s.lim s.rd f }
theorem Rd.rel (h:TRel GL A β S s) (k:Rd A β s s'):TRel GL A β S s'/\Stp A β s A β s'/\s'.obj=s.obj/\s'.n=s.n/\s'.lim=s.lim/\s'.wr=s.wr:=by
  rcases k with rfl|⟨f,hf,rfl⟩
  . exact ⟨h,Stp.refl,rfl,rfl,rfl,rfl⟩
  . exact ⟨h.read f,Stp.read hf,rfl,rfl,rfl,rfl⟩
theorem yen (h:TRel GL A β S s) {e n:Nat} {y:T} {xs:List T} {v:Value} (he:0<e) (hy:VT A β (zaa s.obj) y v) (ht:tSrc S e y=some (n,xs)) :
    lenC v=some n/\xs.length=n*e/\∀ k,k<=n->∃ ys s',s.firstCells e k v=some (ys,s')/\VL A β (zaa s.obj) (xs.take (k*e)) ys/\Rd A β s s':=by
  unfold tSrc at ht;split at ht
  . rename_i es l
    cases hq:er es e with
    |false=>rw [hq] at ht;simp at ht
    |true =>
      rw [hq] at ht;have:=eg hq;subst this;cases ht
      cases hy with
      |lnil =>
        refine ⟨rfl,by simp,fun k hk=>?_⟩;have:k=0:=by simpa using hk
        subst this;refine ⟨[],s,?_,by simpa using VL.nil,.inl rfl⟩;unfold jd
        simp
      |lst k1 k2 k3 k4 k5 k6 k7 k8 =>
        rename_i f u off cap cs cs0;refine ⟨rfl,zuc k4,fun k hk=>?_⟩;have hcl:cs.length=l.length*es:=by rw [<- k3.len,zuc k4]
        have hkl:k*es<=l.length*es:=kp es hk
        have hcs0:off+cs.length<=cs0.length\/cs.length=0:=by
          have:=congrArg List.length k6;rw [gi,ir] at this;omega
        cases hz:er (k*es) 0 with
        |true =>
          have hz':=eg hz;refine ⟨[],s,?_,by rw [hz'];simpa using VL.nil,.inl rfl⟩;unfold jd
          simp only [hz,cond_true]
        |false =>
          have hnz:k*es≠0:=fun hh=>by rw [hh] at hz;simp at hz
          refine ⟨cs.take (k*es),{ s with rd:=ins s.lim s.rd f },?_,k3.take _,.inr ⟨f,.inl k1,rfl⟩⟩;unfold jd qt;simp only [hz,cond_false,zjy,zmu,k2,zta];rw [ybo (by omega)]
          have:(cs0.drop off).take (k*es)=cs.take (k*es):=by
            rw [<- k6,pe,pu (by omega)]
          rw [this]
  . rename_i b
    cases hq:er e 1 with
    |false=>rw [hq] at ht;simp at ht
    |true =>
      rw [hq] at ht;have:=eg hq;subst this;cases ht;cases hy;refine ⟨rfl,by simp [z6g],fun k hk=>⟨_,s,yih hk,?_,.inl rfl⟩⟩
      have:zpr (b.extract 0 k)=(b.data.toList.take k).map fun b=>.int .u8 b.toNat:=by
        unfold zpr;simp [ByteArray.data_extract]
      rw [this,Nat.mul_one,z6g,<- List.map_take];exact ycf _
  . cases ht;cases hy;refine ⟨rfl,by simp,fun k hk=>?_⟩;have:k=0:=by omega
    subst this;refine ⟨[],s,?_,by simpa using VL.nil,.inl rfl⟩;unfold jd;simp
  . rename_i b es off len cap N;split at ht
    . rename_i z N' l hS
      cases hq:(er N N' && (er es e && gj (off+len*e) N)) with
      |false=>rw [hq] at ht;simp at ht
      |true =>
        rw [hq] at ht;simp only [d8] at hq;obtain ⟨q1,q2,q3⟩:=hq;have:=eg q1;subst this;have:=eg q2;subst this;have q3:=zbk.1 q3;simp only [cond_true,dy,ec] at ht;obtain ⟨rfl,rfl⟩:=ht;have hlN:=(h.cells b z N l hS).1;have hxl:((l.drop off).take (len*es)).length=len*es:=by rw [gi,ir];omega
        rcases zi8 h hS hy with ⟨f,u,rfl,hb,_⟩|⟨rfl,hb,rfl,rfl,rfl,rfl⟩
        . refine ⟨rfl,hxl,fun k hk=>?_⟩;have hkl:k*es<=len*es:=kp es hk;obtain ⟨cs,h1,h2,h3⟩:=h.look (off:=off) hS hb;have hcl:=h2.len
          cases hz:er (k*es) 0 with
          |true =>
            have hz':=eg hz;refine ⟨[],s,?_,by rw [hz'];simpa using VL.nil,.inl rfl⟩;unfold jd
            simp only [hz,cond_true]
          |false =>
            refine ⟨(cs.drop off).take (k*es),{ s with rd:=ins s.lim s.rd f },?_,?_,.inr ⟨f,.inr (zcv hb),rfl⟩⟩
            . unfold jd;simp only [hz,cond_false,h1,zta];rw [ybo (by omega)]
            . rw [pe,pu (by omega)];exact (h2.drop off).take _
        . refine ⟨rfl,by simp,fun k hk=>?_⟩;have:k=0:=by omega
          subst this;refine ⟨[],s,?_,by simpa using VL.nil,.inl rfl⟩;unfold jd;simp
    . simp at ht
  . rename_i es
    cases hq:er es e with
    |false=>rw [hq] at ht;simp at ht
    |true =>
      rw [hq] at ht;cases ht;cases hy;refine ⟨rfl,by simp,fun k hk=>?_⟩;have:k=0:=by omega
      subst this;refine ⟨[],s,?_,by simpa using VL.nil,.inl rfl⟩;unfold jd;simp
  . simp at ht
def tLen (Γ:Env) (S:TS) (t:fc) (x:T):Option T:=match Γ.ti.at t with
  |some i=>(match i.desc,x with
    |.string,.str b=>some (.int .i64 b.size)
    |.array n _,_=>some (.int .i64 n)
    |.slice _,.lst _ l=>some (.int .i64 l.length)
    |.slice _,.nils=>some (.int .i64 0)
    |.slice _,.emp _=>some (.int .i64 0)
    |.slice _,.arr b _ _ len _ N=>bif S.has b N then some (.int .i64 len) else none
    |_,_=>none)
  |none=>none
theorem ypq (h:TRel GL A β S s) {t:fc} {x r:T} {v:Value} (hx:VT A β (zaa s.obj) x v) (ht:tLen Γ S t x=some r):Ok0 GL A β S s (zm4 Γ s t v) r:=by
  unfold tLen at ht;split at ht
  . rename_i i hi;split at ht
    . rename_i b hd;cases ht;cases hx;have:zm4 Γ s t (.string b)=some (.int .i64 b.size,s):=by unfold zm4;simp only [hi,hd]
      rw [this];exact Ok0.same h (.int _ _)
    . rename_i n e hd;cases ht;have:zm4 Γ s t v=some (.int .i64 n,s):=by unfold zm4;simp only [hi,hd]
      rw [this];exact Ok0.same h (.int _ _)
    . rename_i e es l hd;cases ht;have key:∀ a n c,zm4 Γ s t (.slice a n c)=some (.int .i64 n,s):=fun a n c=>by unfold zm4;simp only [hi,hd]
      cases hx with
      |lnil=>rw [key];exact Ok0.same h (.int _ _)
      |lst=>rw [key];exact Ok0.same h (.int _ _)
    . rename_i e hd;cases ht;have key:∀ a n c,zm4 Γ s t (.slice a n c)=some (.int .i64 n,s):=fun a n c=>by unfold zm4;simp only [hi,hd]
      cases hx;rw [key];exact Ok0.same h (.int _ _)
    . rename_i e es hd;cases ht;have key:∀ a n c,zm4 Γ s t (.slice a n c)=some (.int .i64 n,s):=fun a n c=>by unfold zm4;simp only [hi,hd]
      cases hx;rw [key];exact Ok0.same h (.int _ _)
    . rename_i e b es off len cap N hd;have key:∀ a n c,zm4 Γ s t (.slice a n c)=some (.int .i64 n,s):=fun a n c=>by unfold zm4;simp only [hi,hd]
      cases hs:S.has b N with
      |false=>rw [hs] at ht;simp at ht
      |true =>
        rw [hs] at ht;cases ht;obtain ⟨z,l,hS⟩:=TS.has_ok hs;rcases zi8 h hS hx with ⟨f,u,rfl,hb,_⟩|⟨rfl,hb,rfl,rfl,rfl,rfl⟩
        . rw [key];exact Ok0.same h (.int _ _)
        . rw [key];exact Ok0.same h (.int _ _)
    . simp at ht
  . simp at ht
def zey:T->Value
  |.int k n=>.int k n
  |_=>undef
theorem zv1 {g:Nat->Fam} {t:T} {v:Value} {n:Nat} (h:VT A β g t v) (hn:zgv (zey t)=some n):zgv v=some n:=by
  unfold zey at hn;split at hn
  . cases h;exact hn
  . simp [zgv,undef] at hn
inductive VO (A:Nat->Prop) (β:Bx) (g:Nat->Fam):Option T->Option Value->Prop
  |none:VO A β g none none
  |some {t v}:VT A β g t v->VO A β g (some t) (some v)
def natO (d:Nat):Option Value->Option Nat
  |some v=>zgv v
  |none=>some d
theorem zss (len cap : Nat) (lo hi mx : Option Value) : zd5 len cap lo hi mx = match natO cap mx, natO len hi, natO 0 lo with
    |some m,some h,some l=>bif gj l h && gj h m && gj m cap && (mx.isNone || hi.isSome) then some (l,h,m) else none
    |_,_,_=>none:=by
  unfold zd5;cases lo<;>cases hi<;>cases mx<;>rfl
theorem zl4 {g:Nat->Fam} {len cap:Nat} {lo hi mx:Option T} {lov hiv mxv:Option Value} {r:Nat×Nat×Nat} (h1:VO A β g lo lov) (h2:VO A β g hi hiv) (h3:VO A β g mx mxv) (hb:zd5 len cap (lo.map zey) (hi.map zey) (mx.map zey)=some r):zd5 len cap lov hiv mxv=some r:=by
  have key:∀ {o:Option T} {o':Option Value} {d k:Nat},VO A β g o o'->natO d (o.map zey)=some k->natO d o'=some k:=by
    intro o o' d k ho hk
    cases ho with
    |none=>exact hk
    |some hv=>exact zv1 hv hk
  rw [zss] at hb ⊢;split at hb
  . rename_i m hh l e1 e2 e3;rw [key h3 e1,key h2 e2,key h1 e3];have n1:mxv.isNone=(mx.map zey).isNone:=by cases h3<;>rfl
    have n2:hiv.isSome=(hi.map zey).isSome:=by cases h2<;>rfl
    simp only [n1,n2];exact hb
  . simp at hb
def zut (Γ:Env) (S:TS) (t:fc) (x:T) (lo hi mx:Option T):Option T:=match Γ.ti.at t with
  |some i=>(match x with
    |.str b=>(match i.desc,mx with
      |.string,none=>(match zd5 b.size b.size (lo.map zey) (hi.map zey) none with|some (l,h,_)=>some (.str (b.extract l h))|none=>none)
      |_,_=>none)
    |.nils=>(match i.desc with
      |.slice e=>(match Γ.ti.at e with|some _=>(match zd5 0 0 (lo.map zey) (hi.map zey) (mx.map zey) with|some (0,0,0)=>some .nils|_=>none)|none=>none)
      |_=>none)
    |.arr b es off len cap N=>(match i.desc with
      |.slice e=>(match Γ.ti.at e with
        |some j=>bif S.has b N && er es j.size then (match zd5 len cap (lo.map zey) (hi.map zey) (mx.map zey) with|some (l,h,m)=>some (.arr b es (off+l*es) (h - l) (m - l) N)|none=>none) else none
        |none=>none)
      |_=>none)
    |.lst es l=>(match i.desc,mx with
      |.slice e,none=>(match Γ.ti.at e with
        |some j=>bif er es j.size then (match zd5 l.length l.length (lo.map zey) (hi.map zey) none with|some (a,h,_)=>some (.lst es ((l.drop a).take (h - a)))|none=>none) else none
        |none=>none)
      |_,_=>none)
    |.ptr b off N=>(match S.box b,i.desc with
      |.cells true N' _,.array n e=>(match Γ.ti.at e with
        |some j=>bif er N N' && gj n 1000000000 then (match zd5 n n (lo.map zey) (hi.map zey) (mx.map zey) with|some (l,h,m)=>some (.arr b j.size (off+l*j.size) (h - l) (m - l) N)|none=>none) else none
        |none=>none)
      |.cells true N' _,.pointer arr=>(match Γ.ti.at arr with
        |some ia=>(match ia.desc with
          |.array n e=>(match Γ.ti.at e with
            |some j=>bif er N N' && gj n 1000000000 then (match zd5 n n (lo.map zey) (hi.map zey) (mx.map zey) with|some (l,h,m)=>some (.arr b j.size (off+l*j.size) (h - l) (m - l) N)|none=>none) else none
            |none=>none)
          |_=>none)
        |none=>none)
      |_,_=>none)
    |_=>none)
  |none=>none
theorem z0p {len cap:Nat} {lo hi:Option Value} {a h m:Nat} (hc:len<=cap) (hb:zd5 len len lo hi none=some (a,h,m)):zd5 len cap lo hi none=some (a,h,cap)/\a<=h/\h<=len:=by
  rw [zss] at hb ⊢;split at hb
  . rename_i m' h' l' e1 e2 e3;have e1':len=m':=by simpa [natO] using e1
    subst e1';rw [e2,e3,show natO cap none=some cap from rfl];simp only
    cases hq:(gj l' h' && gj h' len && gj len len && ((none:Option Value).isNone || hi.isSome)) with
    |false=>rw [hq] at hb;simp at hb
    |true =>
      rw [hq] at hb;simp only [cond_true,dy,ec] at hb;obtain ⟨rfl,rfl,rfl⟩:=hb;simp only [d8] at hq;obtain ⟨⟨⟨q1,q2⟩,q3⟩,q4⟩:=hq;have q2':=zbk.1 q2;refine ⟨?_,zbk.1 q1,q2'⟩;rw [q1,zkv (show h'<=cap by omega),zkv (ei cap)];rfl
  . simp at hb
theorem z6h {len cap:Nat} {lo hi mx:Option Value} {a h m:Nat} (hb:zd5 len cap lo hi mx=some (a,h,m)):a<=h/\h<=m/\m<=cap:=by
  rw [zss] at hb;split at hb
  . rename_i m' h' l' e1 e2 e3
    cases hq:(gj l' h' && gj h' m' && gj m' cap && (mx.isNone || hi.isSome)) with
    |false=>rw [hq] at hb;simp at hb
    |true =>
      rw [hq] at hb;simp only [cond_true,dy,ec] at hb;obtain ⟨rfl,rfl,rfl⟩:=hb;simp only [d8] at hq;exact ⟨zbk.1 hq.1.1.1,zbk.1 hq.1.1.2,zbk.1 hq.1.2⟩
  . simp at hb
theorem yeo (h:TRel GL A β S s) {t:fc} {x r:T} {v:Value} {lo hi mx:Option T} {lov hiv mxv:Option Value} (hx:VT A β (zaa s.obj) x v) (h1:VO A β (zaa s.obj) lo lov) (h2:VO A β (zaa s.obj) hi hiv) (h3:VO A β (zaa s.obj) mx mxv) (ht:zut Γ S t x lo hi mx=some r):Ok0 GL A β S s (zdy Γ s t v lov hiv mxv) r:=by
  unfold zut at ht;split at ht
  . rename_i i hi';split at ht
    . rename_i b;cases hx;split at ht
      . rename_i hd;split at ht
        . rename_i l hh m hb;cases ht;cases h3
          have:zdy Γ s t (.string b) lov hiv none=some (.string (b.extract l hh),s):=by
            unfold zdy;simp only [hi',hd,Option.isNone_none,cond_true];rw [zl4 h1 h2 .none hb];rfl
          rw [this];exact Ok0.same h (.str _)
        . simp at ht
      . simp at ht
    . cases hx;split at ht
      . rename_i e hd;split at ht
        . rename_i j hj;split at ht
          . rename_i hb;cases ht
            have:zdy Γ s t (.slice none 0 0) lov hiv mxv=some (.slice none 0 0,s):=by
              unfold zdy;simp only [hi',hd,hj];rw [zl4 h1 h2 h3 hb];rfl
            rw [this];exact Ok0.same h .nils
          . simp at ht
        . simp at ht
      . simp at ht
    . rename_i b es off len cap N;split at ht
      . rename_i e hd;split at ht
        . rename_i j hj
          cases hq:(S.has b N && er es j.size) with
          |false=>rw [hq] at ht;simp at ht
          |true =>
            rw [hq] at ht;simp only [d8] at hq;have hes:=eg hq.2;obtain ⟨z,l0,hS⟩:=TS.has_ok hq.1;simp only [cond_true] at ht;split at ht
            . rename_i l hh m hb;cases ht;have hb':=zl4 h1 h2 h3 hb;have hbl:=z6h hb;rcases zi8 h hS hx with ⟨f,u,rfl,hbb,htag⟩|⟨rfl,hbb,rfl,rfl,rfl,rfl⟩
              . have:zdy Γ s t (.slice (some (mkA f u off)) len cap) lov hiv mxv=some (.slice (some (mkA f u (off+l*es))) (hh - l) (m - l),s):=by
                  unfold zdy;simp only [hi',hd,hj,hb'];unfold cutC;simp only [zjy,zj6];rw [hes] at htag ⊢;rcases htag with hu|hu
                  . rw [zkw hu];rfl
                  . rw [zkw hu];simp
                rw [this];exact Ok0.same h (.arr hbb htag)
              . obtain ⟨b1,b2,b3⟩:=hbl;have e1:m=0:=by omega
                have e2:hh=0:=by omega
                have e3:l=0:=by omega
                subst e1;subst e2;subst e3
                have:zdy Γ s t (.slice none 0 0) lov hiv mxv=some (.slice none 0 0,s):=by
                  unfold zdy;simp only [hi',hd,hj,hb']
                rw [this];simp only [Nat.zero_mul,ii,Nat.sub_zero];exact Ok0.same h (.arrNil hbb)
            . simp at ht
        . simp at ht
      . simp at ht
    . rename_i es l;split at ht
      . rename_i e hd;cases h3;split at ht
        . rename_i j hj
          cases hq:er es j.size with
          |false=>rw [hq] at ht;simp at ht
          |true =>
            rw [hq] at ht;have hes:=eg hq;simp only [cond_true] at ht;split at ht
            . rename_i a hh m hb;cases ht;have hb':=zl4 h1 h2 .none hb;obtain ⟨_,ha,hhl⟩:=z0p (ei _) hb'
              cases hx with
              |lnil =>
                have e2:hh=0:=by simpa using hhl
                have e3:a=0:=by omega
                subst e2;subst e3;have hm:m=0:=by have:=z6h hb';simpa using this.2.2
                subst hm
                have:zdy Γ s t (.slice none 0 0) lov hiv none=some (.slice none 0 0,s):=by
                  unfold zdy;simp only [hi',hd,hj];simp only [List.length_nil] at hb';rw [hb'];rfl
                rw [this];exact Ok0.same h .lnil
              |lst k1 k2 k3 k4 k5 k6 k7 k8 =>
                rename_i f u off cap cs cs0;obtain ⟨hb2,_,_⟩:=z0p k8 hb'
                have:zdy Γ s t (.slice (some (mkA f u off)) l.length cap) lov hiv none=some (.slice (some (mkA f u (off+a*es))) (hh - a) (cap - a),s):=by
                  unfold zdy;simp only [hi',hd,hj,hb2];unfold cutC;simp only [zjy,zj6];rw [hes] at k7 ⊢;rcases k7 with hu|hu
                  . rw [zkw hu];rfl
                  . rw [zkw hu];simp
                rw [this];have hlen:((l.drop a).take (hh - a)).length=hh - a:=by rw [gi,ir];omega
                refine Ok0.same h ?_
                have hcs:VL A β (zaa s.obj) (((l.drop a).take (hh - a)).flatMap T.cells) ((cs.drop (a*es)).take ((hh - a)*es)):=by
                  rw [<- z5f (e:=es) _ (fun t ht=>k4 t (lm ht)),<- zwx (e:=es) _ k4];exact (k3.drop _).take _
                have hcl:cs.length=l.length*es:=by rw [<- k3.len,zuc k4]
                have hal:hh*es<=l.length*es:=kp es hhl;have hsub:(hh - a)*es=hh*es - a*es:=Nat.sub_mul hh a es;have hae:a*es<=hh*es:=kp es ha
                have:=VT.lst (A:=A) (β:=β) (g:=zaa s.obj) (off:=off+a*es) (cap:=cap - a) k1 k2 hcs (fun t ht=>k4 t (lm (pq ht))) k5 (by
                  have e1:((cs.drop (a*es)).take ((hh - a)*es)).length=(hh - a)*es:=by rw [gi,ir];omega
                  rw [e1];have:=congrArg (List.drop (a*es)) k6;rw [List.drop_take,ks] at this
                  rw [<- this,pe,pu (by omega)]) k7 (by rw [hlen];omega)
                rw [hlen] at this;exact this
            . simp at ht
        . simp at ht
      . simp at ht
    . rename_i b off N;split at ht
      . rename_i N' l0 n e hS hd;split at ht
        . rename_i j hj
          cases hq:(er N N' && gj n 1000000000) with
          |false=>rw [hq] at ht;simp at ht
          |true =>
            rw [hq] at ht;simp only [d8] at hq;have:=eg hq.1;subst this;simp only [cond_true] at ht;split at ht
            . rename_i l hh m hb;cases ht;have hb':=zl4 h1 h2 h3 hb;obtain ⟨f,u,rfl,hbb⟩:=zk3 h hS hx
              have hu:u % 1024=0:=by
                obtain ⟨_,hc⟩:=h.cells b true N l0 hS;rcases hc with ⟨_,_,hc⟩|⟨f',u',cs,rest,hb2,hz,_⟩
                . simp at hc
                . rw [hbb] at hb2;cases hb2;exact hz rfl
              have:zdy Γ s t (.pointer (some (mkA f u off))) lov hiv mxv=some (.slice (some (mkA f u (off+l*j.size))) (hh - l) (m - l),s):=by
                unfold zdy;simp only [hi',hd];unfold zpq;simp only [hj,hq.2,zbn,hb'];unfold cutC;simp only [zjy,zj6];rw [zkw hu];rfl
              rw [this];exact Ok0.same h (.arr hbb (.inl hu))
            . simp at ht
        . simp at ht
      . rename_i N' l0 arr hS hd;split at ht
        . rename_i ia hia;split at ht
          . rename_i n e hda;split at ht
            . rename_i j hj
              cases hq:(er N N' && gj n 1000000000) with
              |false=>rw [hq] at ht;simp at ht
              |true =>
                rw [hq] at ht;simp only [d8] at hq;have:=eg hq.1;subst this;simp only [cond_true] at ht;split at ht
                . rename_i l hh m hb;cases ht;have hb':=zl4 h1 h2 h3 hb;obtain ⟨f,u,rfl,hbb⟩:=zk3 h hS hx
                  have hu:u % 1024=0:=by
                    obtain ⟨_,hc⟩:=h.cells b true N l0 hS;rcases hc with ⟨_,_,hc⟩|⟨f',u',cs,rest,hb2,hz,_⟩
                    . simp at hc
                    . rw [hbb] at hb2;cases hb2;exact hz rfl
                  have:zdy Γ s t (.pointer (some (mkA f u off))) lov hiv mxv=some (.slice (some (mkA f u (off+l*j.size))) (hh - l) (m - l),s):=by
                    unfold zdy;simp only [hi',hd,hia,hda];unfold zpq;simp only [hj,hq.2,zbn,hb'];unfold cutC;simp only [zjy,zj6];rw [zkw hu];rfl
                  rw [this];exact Ok0.same h (.arr hbb (.inl hu))
                . simp at ht
            . simp at ht
          . simp at ht
        . simp at ht
      . simp at ht
    . simp at ht
  . simp at ht
end
section
variable {GL:List (Nat×List Value)} {A A' A2:Nat->Prop} {β β' β2:Bx} {S S':TS} {s s' s2:CS} {P:fe} {Γ:Env}
theorem TRel.moved (h:TRel GL A β S s) {b f2 u2 N2:Nat} {z:Bool} {l0:Loc} {g':Nat->Fam} {xs:List T} {cs2:List Value} {rest:List (Nat×List Value)} (hb:β b=some l0) (hle:Loc.le l0 (.live f2 u2 N2)) (hf2:f2=s.n\/l0.fam=some f2)
    (hin:s'.obj=.inr g') (hI:CInv s') (hn:s.n<=s'.n) (hlt:f2<s'.n) (hoth:∀ k,k≠f2->g' k=zaa s.obj k) (hat:g' f2=⟨false,(u2,cs2) :: rest,none,none⟩) (hv:VL A β (zaa s.obj) xs cs2) (h1:cs2.all oneC=true) (hN:xs.length=N2) (hz:z=true->u2 % 1024=0) :
    TRel GL A (bnew β b (.live f2 u2 N2)) (S.set b (.cells z N2 xs)) s'/\Bx.le β (bnew β b (.live f2 u2 N2))/\(∀ f,Own (bnew β b (.live f2 u2 N2)) f->Own β f\/s.n<=f):=by
  have hobj:∀ k,zaa s'.obj k=g' k:=fun k=>by rw [hin];rfl
  have hne:∀ b',b'≠b->bnew β b (.live f2 u2 N2) b'=β b':=fun b' hb'=>zAd hb';have hse:bnew β b (.live f2 u2 N2) b=some (.live f2 u2 N2):=zAc rfl
  have hblt:b<S.n:=by
    by_cases hh:b<S.n
    . exact hh
    . rw [h.next b (by omega)] at hb;simp at hb
  have hbx:Bx.le β (bnew β b (.live f2 u2 N2)):=fun i x hx=>by
    by_cases hi:i=b
    . subst hi;rw [hb] at hx;cases hx;exact ⟨_,hse,hle⟩
    . exact ⟨x,by rw [hne i hi];exact hx,Loc.le_refl x⟩
  have hnotA:¬ A f2:=fun hA=>by
    rcases hf2 with rfl|hf2
    . have:=h.alt _ hA;omega
    . cases l0 with
      |live f u N=>simp [Loc.fam] at hf2;subst hf2;exact (h.dis _ (zcv hb)).2 hA
      |map r=>simp [Loc.le] at hle
      |nil=>simp [Loc.fam] at hf2
      |dead=>simp [Loc.fam] at hf2
  have hA:∀ k,A k->g' k=zaa s.obj k:=fun k hk=>hoth k fun hh=>hnotA (hh ▸ hk)
  have hother:∀ {b':Nat} {l:Loc} {k:Nat},β b'=some l->l.fam=some k->b'≠b->k≠f2:=by
    intro b' l k hb' hk hnb hh;subst hh;rcases hf2 with hf2|hf2
    . have hO:Own β k:=by
        cases l with
        |live f u N=>simp [Loc.fam] at hk;subst hk;exact zcv hb'
        |map r=>simp [Loc.fam] at hk;subst hk;exact zf3 hb'
        |nil=>simp [Loc.fam] at hk
        |dead=>simp [Loc.fam] at hk
      have:=(h.dis _ hO).1;omega
    . exact hnb (h.inj b' b l l0 k hb' hb hk hf2)
  have hown:∀ f,Own (bnew β b (.live f2 u2 N2)) f->Own β f\/(s.n<=f/\f=f2):=fun f hf=>by
    obtain ⟨b',hb'⟩:=hf;by_cases hbb:b'=b
    . subst hbb;rw [hse] at hb';rcases hb' with ⟨u,N,hb'⟩|hb'
      . cases hb';rcases hf2 with rfl|hf2
        . exact .inr ⟨ei _,rfl⟩
        . refine .inl ?_
          cases l0 with
          |live f u N=>simp [Loc.fam] at hf2;subst hf2;exact zcv hb
          |map r=>simp [Loc.le] at hle
          |nil=>simp [Loc.fam] at hf2
          |dead=>simp [Loc.fam] at hf2
      . simp at hb'
    . rw [hne b' hbb] at hb';exact .inl ⟨b',hb'⟩
  refine ⟨⟨⟨g',hin⟩,hI,fun f hf=>by have:=h.alt f hf;omega,fun f hf=>?_,fun b1 b2 l1 l2 f hb1 hb2 hf1 hf2'=>?_,fun b' hb'=>?_,fun b' z' N' l' hb'=>?_,fun b' l' hb'=>?_,fun x hx=>?_⟩,hbx,fun f hf=>(hown f hf).imp id (·.1)⟩
  . rcases hown f hf with q|⟨q,rfl⟩
    . have:=h.dis f q;exact ⟨by omega,this.2⟩
    . exact ⟨hlt,hnotA⟩
  . by_cases e1:b1=b<;>by_cases e2:b2=b
    . rw [e1,e2]
    . subst e1;rw [hse] at hb1;cases hb1;rw [hne b2 e2] at hb2;simp [Loc.fam] at hf1;subst hf1;exact absurd rfl (hother hb2 hf2' e2)
    . subst e2;rw [hse] at hb2;cases hb2;rw [hne b1 e1] at hb1;simp [Loc.fam] at hf2';subst hf2';exact absurd rfl (hother hb1 hf1 e1)
    . rw [hne b1 e1] at hb1;rw [hne b2 e2] at hb2;exact h.inj b1 b2 l1 l2 f hb1 hb2 hf1 hf2'
  . have:S.n<=b':=hb';rw [hne b' (by omega)];exact h.next b' this
  . by_cases hbb:b'=b
    . subst hbb;rw [TS.set_same] at hb';cases hb';refine ⟨hN,.inr ⟨f2,u2,cs2,rest,hse,hz,by rw [hobj];exact hat,?_,h1⟩⟩;exact hv.mono (fun _ h=>h) (fun f hf=>by rw [hobj];exact hA f hf) hbx
    . rw [TS.set_ne _ _ hbb] at hb';exact (h.cells b' z' N' l' hb').mono (fun _ h=>h) (fun f hf=>by rw [hobj];exact hA f hf) hbx (hne b' hbb) fun f u N hl=>by rw [hobj];exact hoth f (hother hl rfl hbb)
  . by_cases hbb:b'=b
    . subst hbb;rw [TS.set_same] at hb';cases hb'
    . rw [TS.set_ne _ _ hbb] at hb';exact (h.maps b' l' hb').mono (fun _ h=>h) (fun f hf=>by rw [hobj];exact hA f hf) hbx (hne b' hbb) fun r hl=>by rw [hobj];exact hoth r (hother hl rfl hbb)
  . have:=h.glob x hx;exact ⟨this.1,by rw [hobj,hA _ this.1];exact this.2⟩
def zr6 (Γ:Env) (S:TS) (t:fc) (y x:T):Option (T×TS):=match zen Γ t with
  |some j=>(match tSrc S j.size y with
    |some (n,xs)=>(match x with
      | .nils => bif fw 1000000000 (n * (j.bytes + 1)) || er j.size 0 || gj 1000 j.size || not (xs.all T.one) then none else
          bif er n 0 then some (.nils,S) else some (.arr S.n j.size 0 n n xs.length,S.add (.cells false xs.length xs))
      |.arr b es off len cap N=>(match S.box b with
        | .cells z N' l => bif fw 1000000000 ((len + n) * (j.bytes + 1)) || er j.size 0 || gj 1000 j.size || not (xs.all T.one) || not (er N N') || not (er es j.size) then none else
            bif gj (len+n) cap then
              (bif er n 0 then some (.arr b es off (len+n) cap N,S) else
               bif gj (off+(len+n)*es) N then some (.arr b es off (len+n) cap N,S.set b (.cells z N (spl l (off+len*es) xs))) else none)
            else bif er off 0 && er (len*es) N && fw 0 n then some (.arr b es 0 (len+n) (len+n) (N+xs.length),S.set b (.cells false (N+xs.length) (l++xs))) else none
        |_=>none)
      |_=>none)
    |none=>none)
  |none=>none
theorem Stp.newObj {f2:Nat} {F:Fam} {n':Nat} {wr:List Nat} (hcan:Can s { s with n:=n',obj:=zaw s.obj f2 F,wr:=wr }) (hin:∃ g,s.obj=.inr g) (hf2:f2=s.n\/Own β f2) (hbx:Bx.le β β') (hown:∀ f,Own β' f->Own β f\/s.n<=f) (hwr:∀ x,x∈wr->x∈s.wr\/(x<s.lim/\Own β x)):Stp A β s A β' { s with n:=n',obj:=zaw s.obj f2 F,wr:=wr }:=by
  refine ⟨hcan,fun _ h=>h,fun _ h=>.inl h,hown,fun f hf hno=>?_,hbx,fun _ h=>.inl h,hwr⟩;obtain ⟨g,hg⟩:=hin;show zaa (zaw s.obj f2 F) f=_;rw [hg,zgh,zq6,zq6];refine zi5 _ _ _ _ fun hh=>?_;subst hh;rcases hf2 with rfl|hf2
  . omega
  . exact hno hf2
theorem ycm (h:TRel GL A β S s) {t:fc} {x y r:T} {v w:Value} (hx:VT A β (zaa s.obj) x v) (hy:VT A β (zaa s.obj) y w) (ht:zr6 Γ S t y x=some (r,S')):Ok GL A β s (zdd Γ s t w v) r S':=by
  unfold zr6 at ht;split at ht
  . rename_i j hj;split at ht
    . rename_i n xs hsrc;split at ht
      . -- nil
        cases hx
        cases hq:(fw 1000000000 (n*(j.bytes+1)) || er j.size 0 || gj 1000 j.size || not (xs.all T.one)) with
        |true=>rw [hq] at ht;simp at ht
        |false =>
          rw [hq,cond_false] at ht;simp only [lk,oy] at hq;obtain ⟨⟨⟨q1,q2⟩,q3⟩,q4⟩:=hq
          have hj0:0<j.size:=by
            by_cases hh:j.size=0
            . rw [hh] at q2;simp at q2
            . omega
          have hj1:j.size<1000:=by
            by_cases hh:1000<=j.size
            . rw [zkv hh] at q3;simp at q3
            . omega
          obtain ⟨e1,e2,e3⟩:=yen h hj0 hy hsrc;obtain ⟨ys,s1,f1,f2,f3⟩:=e3 n (ei _);rw [gc (by omega)] at f2;obtain ⟨r1,r2,r3,r4,r5,r6⟩:=f3.rel h
          have c1:(fw 1000000000 ((0+n)*(j.bytes+1)) || er j.size 0 || gj 1000 j.size || not (ys.all oneC))=false:=by
            rw [f6,q1,q2,q3,f2.one q4];rfl
          cases hn:er n 0 with
          |true =>
            rw [hn] at ht;cases ht
            have:zdd Γ s t w (.slice none 0 0)=some (.slice none 0 0,s1):=by
              unfold zdd lz;simp only [hj,e1,f1,c1,cond_false,hn,cond_true]
            rw [this];exact ⟨_,s1,A,β,rfl,r1,.nils,r2⟩
          |false =>
            rw [hn] at ht;cases ht;rw [<- r3] at f2;obtain ⟨s2,β2,k1,k2,k3,k4⟩:=r1.newBox (j.size+1) (by omega) f2 (f2.one q4);have hb0:er (j.size+1) 0=false:=rfl;rw [hb0] at k3
            have:zdd Γ s t w (.slice none 0 0)=some (.slice (some (mkA s1.n (s1.n*1024+(j.size+1)) 0)) (0+n) (0+n),s2):=by
              unfold zdd lz;simp only [hj,e1,f1,c1,cond_false,hn,k1,zja]
            rw [this,f6];exact ⟨_,s2,A,β2,rfl,k3,.arr k2 (.inr (by omega)),r2.trans h.le k4⟩
      . rename_i b es off len cap N;split at ht
        . rename_i z N' l hS
          cases hq:(fw 1000000000 ((len+n)*(j.bytes+1)) || er j.size 0 || gj 1000 j.size || not (xs.all T.one) || not (er N N') || not (er es j.size)) with
          |true=>rw [hq] at ht;simp at ht
          |false =>
            rw [hq,cond_false] at ht;simp only [lk,oy] at hq;obtain ⟨⟨⟨⟨⟨q1,q2⟩,q3⟩,q4⟩,q5⟩,q6⟩:=hq;have:=eg q5;subst this;have:=eg q6;subst this
            have hj0:0<j.size:=by
              by_cases hh:j.size=0
              . rw [hh] at q2;simp at q2
              . omega
            have hj1:j.size<1000:=by
              by_cases hh:1000<=j.size
              . rw [zkv hh] at q3;simp at q3
              . omega
            obtain ⟨e1,e2,e3⟩:=yen h hj0 hy hsrc;obtain ⟨ys,s1,f1,f2,f3⟩:=e3 n (ei _);rw [gc (by omega)] at f2;obtain ⟨r1,r2,r3,r4,r5,r6⟩:=f3.rel h;have f2':=f2;rw [<- r3] at f2';have q4':=f2.one q4
            have c1:(fw 1000000000 ((len+n)*(j.bytes+1)) || er j.size 0 || gj 1000 j.size || not (ys.all oneC))=false:=by
              rw [q1,q2,q3,q4'];rfl
            have hlN:=(h.cells b z N l hS).1;have hx':=hx;rw [<- r3] at hx'
            cases hc:gj (len+n) cap with
            |true =>
              rw [hc,cond_true] at ht
              cases hn:er n 0 with
              |true =>
                rw [hn] at ht;cases ht;have hn0:=eg hn;subst hn0;rcases zi8 h hS hx with ⟨f,u,rfl,hb,htag⟩|⟨rfl,hb,rfl,rfl,rfl,rfl⟩
                . have:zdd Γ s t w (.slice (some (mkA f u off)) len cap)=some (.slice (some (mkA f u off)) (len+0) cap,s1):=by
                    unfold zdd lz;simp only [hj,e1,f1,c1,cond_false,hc,cond_true];rfl
                  rw [this];exact ⟨_,s1,A,β,rfl,r1,.arr hb htag,r2⟩
                . have:zdd Γ s t w (.slice none 0 0)=some (.slice none 0 0,s1):=by
                    unfold zdd lz;simp only [hj,e1,f1,c1,cond_false];rfl
                  rw [this];exact ⟨_,s1,A,β,rfl,r1,.arrNil hb,r2⟩
              |false =>
                rw [hn,cond_false] at ht;have hn0:n≠0:=fun hh=>by rw [hh] at hn;simp at hn
                cases hfit:gj (off+(len+n)*j.size) N with
                |false=>rw [hfit] at ht;simp at ht
                |true =>
                  rw [hfit] at ht;cases ht;have hfit':=zbk.1 hfit;rcases zi8 h hS hx with ⟨f,u,rfl,hb,htag⟩|⟨rfl,hb,rfl,rfl,rfl,rfl⟩
                  . obtain ⟨s2,k1,k2,k3⟩:=r1.write (off:=off+len*j.size) hS hb f2' q4' (by rw [e2];rw [jc] at hfit';omega)
                    have:zdd Γ s t w (.slice (some (mkA f u off)) len cap)=some (.slice (some (mkA f u off)) (len+n) cap,s2):=by
                      unfold zdd lz;simp only [hj,e1,f1,c1,cond_false,hc,cond_true,hn,zj6,k1]
                    rw [this];exact ⟨_,s2,A,β,rfl,k2,.arr hb htag,r2.trans h.le k3⟩
                  . have:=zbk.1 hc;omega
            |false =>
              rw [hc,cond_false] at ht
              cases hw:(er off 0 && er (len*j.size) N && fw 0 n) with
              |false=>rw [hw] at ht;simp at ht
              |true =>
                rw [hw] at ht;cases ht;simp only [d8] at hw;obtain ⟨⟨w1,w2⟩,w3⟩:=hw;have w1':=eg w1;subst w1';have w2':=eg w2
                have hcap:cap<len+n:=by
                  by_cases hh:len+n<=cap
                  . rw [zkv hh] at hc;simp at hc
                  . omega
                rcases zi8 h hS hx with ⟨f,u,rfl,hb,htag⟩|⟨rfl,hb,-,rfl,rfl,rfl⟩
                . -- a row that is too small
                  obtain ⟨_,hcell⟩:=r1.cells b z N l hS;rcases hcell with ⟨hb2,_,_⟩|⟨f',u',cs,rest,hb2,hz,hat,hv,hone⟩
                  . rw [hb] at hb2;simp at hb2
                  rw [hb] at hb2;cases hb2;have hcl:=hv.len;have hn0:0<n:=zaf.1 w3;obtain ⟨g,hin⟩:=r1.inr;have hg:g f=⟨false,(u,cs) :: rest,none,none⟩:=by rw [hin] at hat;exact hat
                  have hrow:zcb ((u,cs) :: rest) u=some cs:=by unfold zcb;rw [jh];rfl
                  have hvl:VL A β (zaa s1.obj) (l++xs) (cs++ys):=hv.append f2';have hall:(cs++ys).all oneC=true:=by rw [lf,hone,q4'];rfl
                  -- the old cells
                  have hold:∃ s2,(bif er len 0 then some ([],s1) else s1.firstCells j.size len (.slice (some (mkA f u 0)) len cap))=some (cs,s2)/\Rd A β s1 s2:=by
                    cases hz0:er len 0 with
                    |true =>
                      have:=eg hz0;subst this
                      have:cs=[]:=by
                        apply jk;rw [<- hcl,hlN,<- w2'];simp
                      rw [this];exact ⟨s1,rfl,.inl rfl⟩
                    |false =>
                      have hne:len≠0:=fun hh=>by rw [hh] at hz0;simp at hz0
                      have hlm:0<len*j.size:=Nat.mul_pos (by omega) hj0;refine ⟨{ s1 with rd:=ins s1.lim s1.rd f },?_,.inr ⟨f,.inr (zcv hb),rfl⟩⟩;rw [cond_false];unfold jd qt;simp only [zps (show len*j.size≠0 by omega),cond_false,zjy,zmu,hat,hrow,zta];rw [ybo (by omega),fl,gc (by omega)]
                  obtain ⟨s2,o1,o2⟩:=hold;obtain ⟨t1,t2,t3,t4,t5,t6⟩:=o2.rel r1;have hlen2:(l++xs).length=N+xs.length:=by rw [eu,hlN]
                  have hxpos:0<xs.length:=by rw [e2];exact Nat.mul_pos hn0 hj0
                  have hvl2:VL A β (zaa s2.obj) (l++xs) (cs++ys):=by rw [t3];exact hvl
                  have hat2:zaa s2.obj f=⟨false,(u,cs) :: rest,none,none⟩:=by rw [t3];exact hat
                  have hin2:s2.obj=.inr g:=by rw [t3];exact hin
                  have base:∀ (res:Option (Value×CS)),(bif er (u % 1024) 0 then zja (len+n) (len+n) (s2.newRow (j.size+1) (cs++ys)) else bif er (u % 1024) (j.size+1) then s2.grow (mkA f u 0) (j.size+1) (0+len*j.size) (len+n) (cs++ys) else none)=res->zdd Γ s t w (.slice (some (mkA f u 0)) len cap)=res:=by
                    intro res hres;unfold zdd lz;simp only [hj,e1,f1,c1,cond_false,hc,o1,zjy,zta];exact hres
                  cases hu0:er (u % 1024) 0 with
                  |true =>
                    have hnr:s2.newRow (j.size+1) (cs++ys)=some (mkA s2.n (s2.n*1024+(j.size+1)) 0,s2.rowed (j.size+1) (cs++ys)):=by
                      unfold qp;have:zis s2.obj s2.n=true:=by rw [hin2];rfl
                      rw [this,zbn];rfl
                    obtain ⟨p1,p2,p3,p4⟩:=t1.fresh ⟨false,[(s2.n*1024+(j.size+1),cs++ys)],none,none⟩ rfl (fun p hp=>by simp at hp;subst hp;show (s2.n*1024+(j.size+1)) / 1024<s2.n+1;omega)
                    obtain ⟨m1,m2,m3⟩:=t1.moved (s':=s2.rowed (j.size+1) (cs++ys)) (b:=b) (f2:=s2.n) (u2:=s2.n*1024+(j.size+1)) (N2:=N+xs.length) (z:=false) (g':=fupd g s2.n ⟨false,[(s2.n*1024+(j.size+1),cs++ys)],none,none⟩) (rest:=[]) hb (.inr (by omega)) (.inl rfl)
                      (by show zaw s2.obj s2.n _=_;rw [hin2,zgh]) p1.inv (by show s2.n<=s2.n+1;omega) (by show s2.n<s2.n+1;omega) (fun k hk=>by rw [zi5 _ _ _ _ hk,hin2];rfl) (zf9 _ _ _) hvl2 hall hlen2 (by simp)
                    rw [base (some (.slice (some (mkA s2.n (s2.n*1024+(j.size+1)) 0)) (len+n) (len+n),s2.rowed (j.size+1) (cs++ys))) (by rw [hu0,cond_true,hnr];rfl)];refine ⟨_,_,A,_,rfl,m1,.arr (zAc rfl) (.inr (by omega)),r2.trans h.le (t2.trans r1.le ?_)⟩;exact Stp.newObj p2 t1.inr (.inl rfl) m2 m3 (fun x hx=>.inl hx)
                  |false =>
                    have hu1:u % 1024=j.size+1:=by
                      rcases htag with hh|hh
                      . rw [hh] at hu0;simp at hu0
                      . exact hh
                    have hgr:s2.grow (mkA f u 0) (j.size+1) (0+len*j.size) (len+n) (cs++ys)=some (.slice (some (mkA f (s2.n*1024+(j.size+1)) 0)) (len+n) (len+n),{ s2 with n:=s2.n+1,obj:=zaw s2.obj f ⟨false,(s2.n*1024+(j.size+1),cs++ys) :: zgw ((u,cs) :: rest) u,none,none⟩,wr:=ins s2.lim s2.wr f }):=by
                      unfold CS.grow;simp only [zmu,zjy,hat2,hrow];rw [zkw (show 0+len*j.size=cs.length by omega),zbn]
                    have hcan:=z5a t1.inv (show j.size+1<1024 by omega) hgr
                    obtain ⟨m1,m2,m3⟩:=t1.moved (s':={ s2 with n:=s2.n+1,obj:=zaw s2.obj f ⟨false,(s2.n*1024+(j.size+1),cs++ys) :: zgw ((u,cs) :: rest) u,none,none⟩,wr:=ins s2.lim s2.wr f }) (b:=b) (f2:=f) (u2:=s2.n*1024+(j.size+1)) (N2:=N+xs.length) (z:=false) (g':=fupd g f ⟨false,(s2.n*1024+(j.size+1),cs++ys) :: zgw ((u,cs) :: rest) u,none,none⟩) hb (.inr (by omega)) (.inr rfl)
                      (by show zaw s2.obj f _=_;rw [hin2,zgh]) (t1.inv.next hcan) (by show s2.n<=s2.n+1;omega) (by have:=(t1.dis f (zcv hb)).1;show f<s2.n+1;omega) (fun k hk=>by rw [zi5 _ _ _ _ hk,hin2];rfl) (zf9 _ _ _) hvl2 hall hlen2 (by simp)
                    rw [base _ (by rw [hu0,cond_false,zkw hu1,cond_true,hgr])];refine ⟨_,_,A,_,rfl,m1,.arr (zAc rfl) (.inr (by omega)),r2.trans h.le (t2.trans r1.le ?_)⟩;refine Stp.newObj hcan t1.inr (.inr (zcv hb)) m2 m3 (fun x hx=>?_);rcases zmm hx with q|⟨rfl,q⟩
                    . exact .inl q
                    . exact .inr ⟨q,zcv hb⟩
                . -- nothing yet
                  have hn0:0<n:=zaf.1 w3;have hl0:l=[]:=jk hlN;subst hl0;have hxpos:0<xs.length:=by rw [e2];exact Nat.mul_pos hn0 hj0
                  obtain ⟨g,hin⟩:=r1.inr
                  have hnr:s1.newRow (j.size+1) ys=some (mkA s1.n (s1.n*1024+(j.size+1)) 0,s1.rowed (j.size+1) ys):=by
                    unfold qp;have:zis s1.obj s1.n=true:=by rw [hin];rfl
                    rw [this,zbn];rfl
                  obtain ⟨p1,p2,p3,p4⟩:=r1.fresh ⟨false,[(s1.n*1024+(j.size+1),ys)],none,none⟩ rfl (fun p hp=>by simp at hp;subst hp;show (s1.n*1024+(j.size+1)) / 1024<s1.n+1;omega)
                  obtain ⟨m1,m2,m3⟩:=r1.moved (s':=s1.rowed (j.size+1) ys) (b:=b) (f2:=s1.n) (u2:=s1.n*1024+(j.size+1)) (N2:=0+xs.length) (z:=false) (g':=fupd g s1.n ⟨false,[(s1.n*1024+(j.size+1),ys)],none,none⟩) (rest:=[]) (xs:=[]++xs) hb (by show 0<0+xs.length;omega) (.inl rfl)
                    (by show zaw s1.obj s1.n _=_;rw [hin,zgh]) p1.inv (by show s1.n<=s1.n+1;omega) (by show s1.n<s1.n+1;omega) (fun k hk=>by rw [zi5 _ _ _ _ hk,hin];rfl) (zf9 _ _ _) f2' q4' (by simp) (by simp)
                  have:zdd Γ s t w (.slice none 0 0)=some (.slice (some (mkA s1.n (s1.n*1024+(j.size+1)) 0)) (0+n) (0+n),s1.rowed (j.size+1) ys):=by
                    unfold zdd lz;simp only [hj,e1,f1,c1,cond_false,zps (show n≠0 by omega),hnr,zja]
                  rw [this];refine ⟨_,_,A,_,rfl,m1,.arr (zAc rfl) (.inr (by omega)),r2.trans h.le ?_⟩;exact Stp.newObj p2 r1.inr (.inl rfl) m2 m3 (fun x hx=>.inl hx)
        . simp at ht
      . simp at ht
    . simp at ht
  . simp at ht
end
section
variable {GL:List (Nat×List Value)} {A A' A2:Nat->Prop} {β β' β2:Bx} {S S':TS} {s s' s2:CS} {P:fe} {Γ:Env}
def rep (n:Nat) (l:List T):List T:=(ew n l).flatten
theorem ypf {g:Nat->Fam} {l:List T} {cs:List Value} (h:VL A β g l cs):∀ n,VL A β g (rep n l) (ew n cs).flatten
  |0=>.nil
  |n+1=>by
    unfold rep;rw [jg,jg,gh,gh];exact h.append (ypf h n)
theorem yft {l:List T} (h:l.all T.one=true):∀ n,(rep n l).all T.one=true
  |0=>rfl
  |n+1=>by
    unfold rep;rw [jg,gh,lf,h];exact yft h n
def zjm (Γ:Env) (S:TS) (t:fc) (l c:T):Option (T×TS):=match zen Γ t,zgv (zey l),zgv (zey c) with
  | some j, some l, some c => bif gj l c && (gj (c * (j.bytes + 1)) 1000000000 && fw 0 j.size) then
      (match zgr j.zero with
      |some zs=>some (.arr S.n j.size 0 l c (rep c zs).length,S.add (.cells true (rep c zs).length (rep c zs)))
      |none=>none) else none
  |_,_,_=>none
theorem z01 (h:TRel GL A β S s) {t:fc} {l c r:T} {lv cv:Value} (hl:VT A β (zaa s.obj) l lv) (hc:VT A β (zaa s.obj) c cv) (ht:zjm Γ S t l c=some (r,S')):Ok GL A β s (zfm Γ s t (zgv lv) (zgv cv)) r S':=by
  unfold zjm at ht;split at ht
  . rename_i j ll cc hj h1 h2;rw [zv1 hl h1,zv1 hc h2]
    cases hq:(gj ll cc && (gj (cc*(j.bytes+1)) 1000000000 && fw 0 j.size)) with
    |false=>rw [hq] at ht;simp at ht
    |true =>
      rw [hq] at ht;simp only [cond_true] at ht;split at ht
      . rename_i zs hz;cases ht;obtain ⟨a,b⟩:=zjw (A:=A) (β:=β) (g:=zaa s.obj) hz;have hv:=ypf a cc;obtain ⟨s',β',k1,k2,k3,k4⟩:=h.newBox 0 (by omega) hv (hv.one (yft b cc))
        have:zfm Γ s t (some ll) (some cc)=some (.slice (some (mkA s.n (s.n*1024+0) 0)) ll cc,s'):=by
          unfold zfm;simp only [hj];rw [<- Bool.and_assoc] at hq;simp only [hq,cond_true,k1];rfl
        rw [this];exact ⟨_,s',A,β',rfl,k3,.arr k2 (.inl (by omega)),k4⟩
      . simp at ht
  . simp at ht
def zc9 (cells:List T):List (Nat×List T)->Option (List T)
  |[]=>some cells
  |(off,vs) :: r=>bif gj (off+vs.length) cells.length then zc9 (spl cells off vs) r else none
def za1 (place:Nat->Option (Nat×Nat)) (ρ:ep->T):List (Nat×ep)->Option (List (Nat×List T))
  |[]=>some []
  |(k,x) :: r=>match place k,za1 place ρ r with
    |some (off,size),some l=>bif er (ρ x).cells.length size && (ρ x).cells.all T.one then some ((off,(ρ x).cells) :: l) else none
    |_,_=>none
inductive PL (A:Nat->Prop) (β:Bx) (g:Nat->Fam):List (Nat×List T)->List (Nat×List Value)->Prop
  |nil:PL A β g [] []
  |cons {k l cs r r'}:VL A β g l cs->l.all T.one=true->PL A β g r r'->PL A β g ((k,l) :: r) ((k,cs) :: r')
theorem z4b {g:Nat->Fam} {place:Nat->Option (Nat×Nat)} {ρT:ep->T} {ρ:ep->Value} (hρ:∀ x,VT A β g (ρT x) (ρ x)):∀ {l:List (Nat×ep)} {r:List (Nat×List T)},za1 place ρT l=some r->∃ r',zh1 place ρ l=some r'/\PL A β g r r'
  |[],r,h=>by simp only [za1,dy] at h;subst h;exact ⟨[],rfl,.nil⟩
  |(k,x) :: l,r,h=>by
    unfold za1 at h;split at h
    . rename_i off size l' h1 h2
      cases hq:(er (ρT x).cells.length size && (ρT x).cells.all T.one) with
      |false=>rw [hq] at h;simp at h
      |true =>
        rw [hq] at h;cases h;simp only [d8] at hq;obtain ⟨r',k1,k2⟩:=z4b hρ h2;have hc:=(hρ x).cells (zml hq.2);refine ⟨(off,(ρ x).cells.toList) :: r',?_,.cons hc hq.2 k2⟩;unfold zh1;simp only [h1,k1];rw [<- hc.len,hq.1];rfl
    . simp at h
theorem yba {g:Nat->Fam}:∀ {r:List (Nat×List T)} {r':List (Nat×List Value)} {l l':List T} {cs:List Value},PL A β g r r'->VL A β g l cs->zc9 l r=some l'->∃ cs',zsn cs r'=some cs'/\VL A β g l' cs'/\l'.length=l.length/\(l.all T.one=true->l'.all T.one=true)
  |[],_,l,l',cs,.nil,h,ht=>by
    simp only [zc9,dy] at ht;subst ht;exact ⟨cs,rfl,h,rfl,id⟩
  |(off,vs) :: r,_,l,l',cs,.cons k1 k3 k2,h,ht=>by
    rename_i cs2 r';unfold zc9 at ht
    cases hq:gj (off+vs.length) l.length with
    |false=>rw [hq] at ht;simp at ht
    |true =>
      rw [hq] at ht;simp only [cond_true] at ht;obtain ⟨cs',a1,a2,a3,a4⟩:=yba k2 (h.splice off k1) ht;refine ⟨cs',?_,a2,?_,?_⟩
      . unfold zsn;rw [<- k1.len,<- h.len,hq];exact a1
      . rw [a3];exact ye5 (zbk.1 hq)
      . intro hl;refine a4 ?_;rw [lf,lf,k3,lc,d8];rw [fd] at hl ⊢;exact ⟨fun x hx=>hl x (pq hx),by rw [fd];exact fun x hx=>hl x (lm hx)⟩
def zbb (zero:List Value) (parts:Option (List (Nat×List T))):Option (List T):=match zgr zero,parts with
  |some z,some l=>zc9 z l
  |_,_=>none
def zi9 (Γ:Env) (ρ:ep->T) (t:fc) (parts:List (Nat×ep)):Option T:=match Γ.ti.at t with
  |some i=>(match i.desc with
    |.struct fs=>bif (fs.toList.all fun f=>(Γ.ti.at f.type).isSome) then (match zbb i.zero (za1 (zex Γ fs) ρ parts) with|some l=>some (.agg l)|none=>none) else none
    |.array _ e=>(match Γ.ti.at e with|some j=>(match zbb i.zero (za1 (zbg j.size) ρ parts) with|some l=>some (.agg l)|none=>none)|none=>none)
    |_=>none)
  |none=>none
theorem zxf {g:Nat->Fam} {place:Nat->Option (Nat×Nat)} {ρT:ep->T} {ρ:ep->Value} {zero:List Value} {parts:List (Nat×ep)} {l:List T} (hρ:∀ x,VT A β g (ρT x) (ρ x)) (h:zbb zero (za1 place ρT parts)=some l):∃ cs,zrx zero (zh1 place ρ parts)=some cs/\VL A β g l cs/\l.all T.one=true:=by
  unfold zbb at h;split at h
  . rename_i z p hz hp;obtain ⟨a,b⟩:=zjw (A:=A) (β:=β) (g:=g) hz;obtain ⟨r',k1,k2⟩:=z4b hρ hp;obtain ⟨cs,c1,c2,c3,c4⟩:=yba k2 a h;exact ⟨cs,by unfold zrx;rw [k1];exact c1,c2,c4 b⟩
  . simp at h
theorem yer (h:TRel GL A β S s) {t:fc} {parts:List (Nat×ep)} {ρT:ep->T} {ρ:ep->Value} {r:T} (hρ:∀ x,VT A β (zaa s.obj) (ρT x) (ρ x)) (ht:zi9 Γ ρT t parts=some r):Ok0 GL A β S s (zi2 Γ s ρ t parts) r:=by
  unfold zi9 at ht;split at ht
  . rename_i i hi;split at ht
    . rename_i fs hd
      cases hq:(fs.toList.all fun f=>(Γ.ti.at f.type).isSome) with
      |false=>rw [hq] at ht;simp at ht
      |true =>
        rw [hq] at ht;simp only [cond_true] at ht;split at ht
        . rename_i l hl;cases ht;obtain ⟨cs,c1,c2,_⟩:=zxf hρ hl
          have:zi2 Γ s ρ t parts=some (.agg cs.toArray,s):=by
            unfold zi2;simp only [hi,hd,hq,zbn,c1];rfl
          rw [this];exact Ok0.same h (.agg c2)
        . simp at ht
    . rename_i n e hd;split at ht
      . rename_i j hj;split at ht
        . rename_i l hl;cases ht;obtain ⟨cs,c1,c2,_⟩:=zxf hρ hl
          have:zi2 Γ s ρ t parts=some (.agg cs.toArray,s):=by
            unfold zi2;simp only [hi,hd,hj,c1];rfl
          rw [this];exact Ok0.same h (.agg c2)
        . simp at ht
      . simp at ht
    . simp at ht
  . simp at ht
def zaj (Γ:Env) (S:TS) (ρ:ep->T) (t:fc) (n:Nat) (parts:List (Nat×ep)):Option (T×TS):=match zen Γ t with
  | some j => bif gj (n * j.size) 16777216 && fw 0 j.size then
      (match zbb (ew n j.zero).flatten (za1 (zbg j.size) ρ parts) with
      |some l=>some (.arr S.n j.size 0 n n l.length,S.add (.cells true l.length l))
      |none=>none) else none
  |none=>none
theorem z3d (h:TRel GL A β S s) {t:fc} {n:Nat} {parts:List (Nat×ep)} {ρT:ep->T} {ρ:ep->Value} {r:T} (hρ:∀ x,VT A β (zaa s.obj) (ρT x) (ρ x)) (ht:zaj Γ S ρT t n parts=some (r,S')):Ok GL A β s (zct Γ s ρ t n parts) r S':=by
  unfold zaj at ht;split at ht
  . rename_i j hj
    cases hq:(gj (n*j.size) 16777216 && fw 0 j.size) with
    |false=>rw [hq] at ht;simp at ht
    |true =>
      rw [hq] at ht;simp only [cond_true] at ht;split at ht
      . rename_i l hl;cases ht;obtain ⟨cs,c1,c2,c3⟩:=zxf hρ hl;obtain ⟨s',β',k1,k2,k3,k4⟩:=h.newBox 0 (by omega) c2 (c2.one c3)
        have:zct Γ s ρ t n parts=some (.slice (some (mkA s.n (s.n*1024+0) 0)) n n,s'):=by
          unfold zct;simp only [hj,hq,cond_true,c1,k1];rfl
        rw [this];exact ⟨_,s',A,β',rfl,k3,.arr k2 (.inl (by omega)),k4⟩
      . simp at ht
  . simp at ht
def zdu (e:Nat) (ρ:ep->T):Nat->List (Nat×ep)->Option (List T)
  |_,[]=>some []
  |i,(k,x) :: r=>bif er k i && (er (ρ x).cells.length e && (ρ x).cells.all T.one) then (match zdu e ρ (i+1) r with|some l=>some (ρ x :: l)|none=>none) else none
def zan (Γ:Env) (ρ:ep->T) (t:fc) (n:Nat) (parts:List (Nat×ep)):Option T:=match zen Γ t with
  | some j => bif gj (n * j.size) 16777216 && (fw 0 j.size && (er j.zero.length j.size && er parts.length n)) then
      (match zdu j.size ρ 0 parts with
      |some l=>some (.lst j.size l)
      |none=>none) else none
  |none=>none
theorem ybk {g:Nat->Fam} {e:Nat} {ρT:ep->T} {ρ:ep->Value} (hρ:∀ x,VT A β g (ρT x) (ρ x)):∀ {parts:List (Nat×ep)} {i:Nat} {l:List T} {done:List Value} {rest:List Value},zdu e ρT i parts=some l->done.length=i*e->rest.length=parts.length*e ->
    ∃ r cs,zh1 (zbg e) ρ parts=some r/\zsn (done++rest) r=some (done++cs)/\VL A β g (l.flatMap T.cells) cs/\(∀ t,t∈l->t.cells.length=e)/\l.length=parts.length
  |[],i,l,done,rest,h,hd,hr=>by
    simp only [zdu,dy] at h;subst h;have:rest=[]:=jk (by simpa using hr);subst this;exact ⟨[],[],rfl,rfl,.nil,by simp,rfl⟩
  |(k,x) :: parts,i,l,done,rest,h,hd,hr=>by
    unfold zdu at h
    cases hq:(er k i && (er (ρT x).cells.length e && (ρT x).cells.all T.one)) with
    |false=>rw [hq] at h;simp at h
    |true =>
      rw [hq] at h;simp only [cond_true] at h;simp only [d8] at hq;obtain ⟨q1,q2,q3⟩:=hq;have:=eg q1;subst this;have q2':=eg q2;split at h
      . rename_i l' hl;cases h;have hc:=(hρ x).cells (zml q3);have hcl:=hc.len;have hlen:rest.length=e+parts.length*e:=by rw [hr,ez,jc];omega
        obtain ⟨r,cs,a1,a2,a3,a4,a5⟩:=ybk hρ (done:=done++(ρ x).cells.toList) (rest:=rest.drop e) hl (by rw [eu,hd,<- hcl,q2',jc];omega) (by rw [ir];omega);refine ⟨(k*e,(ρ x).cells.toList) :: r,(ρ x).cells.toList++cs,?_,?_,?_,?_,by rw [ez,ez,a5]⟩
        . unfold zh1;simp only [zbg,a1];rw [<- hcl,q2];rfl
        . unfold zsn
          have hsp:splice (done++rest) (k*e) (ρ x).cells.toList=done++(ρ x).cells.toList++rest.drop e:=by
            unfold Go.Proofs.YteifcnjpjjaikaaGreat.splice;rw [<- hcl,q2',<- hd,oc,mh];simp
          rw [hsp,a2,zkv (show k*e+(ρ x).cells.toList.length<=(done++rest).length by rw [eu,<- hcl,q2',hd,hlen];omega),cond_true,List.append_assoc]
        . rw [iv];exact hc.append a3
        . intro t ht;rcases ic.1 ht with rfl|ht
          . exact q2'
          . exact a4 t ht
      . simp at h
theorem zna (h:TRel GL A β S s) {t:fc} {n:Nat} {parts:List (Nat×ep)} {ρT:ep->T} {ρ:ep->Value} {r:T} (hρ:∀ x,VT A β (zaa s.obj) (ρT x) (ρ x)) (ht:zan Γ ρT t n parts=some r):Ok0 GL A β S s (zct Γ s ρ t n parts) r:=by
  unfold zan at ht;split at ht
  . rename_i j hj
    cases hq:(gj (n*j.size) 16777216 && (fw 0 j.size && (er j.zero.length j.size && er parts.length n))) with
    |false=>rw [hq] at ht;simp at ht
    |true =>
      rw [hq] at ht;simp only [cond_true] at ht;simp only [d8] at hq;obtain ⟨q1,q2,q3,q4⟩:=hq;have q3':=eg q3;have q4':=eg q4;split at ht
      . rename_i l hl;cases ht
        obtain ⟨r,cs,a1,a2,a3,a4,a5⟩:=ybk hρ (done:=[]) (rest:=(ew n j.zero).flatten) hl (by simp) (by
          rw [List.length_flatten];simp [q3',q4'])
        obtain ⟨s',A',k1,k2,k3,k4,k5⟩:=h.newFrozen 0 (by omega) a3
        have hop:zct Γ s ρ t n parts=some (.slice (some (mkA s.n (s.n*1024+0) 0)) n n,s'):=by
          unfold zct;simp only [hj,q1,q2,Bool.and_self,cond_true,a1,zrx];rw [fb] at a2;rw [a2];simp only [fb,k1];rfl
        rw [hop];refine ⟨_,s',A',rfl,k4,?_,k5⟩;have:=VT.lst (A:=A') (β:=β) (g:=zaa s'.obj) (off:=0) (cap:=n) k2 k3 (k5.stp.vl h a3) a4 (zaf.1 q2) (by rw [fl,List.take_length]) (.inl (by omega)) (by omega);rw [a5,q4'] at this;exact this
      . simp at ht
  . simp at ht
end
section
variable {GL:List (Nat×List Value)} {A A' A2:Nat->Prop} {β β' β2:Bx} {S S':TS} {s s' s2:CS} {P:fe} {Γ:Env}
def zcz (op:BinOp) (k k':gl) (a b:Int):Option T :=
  match op with
  |.shl=>if 0<=b then some (.int k (k.wrap (a*2 ^ (min b.toNat k.bits)))) else none
  |.shr=>if 0<=b then some (.int k (a.fdiv (2 ^ (min b.toNat k.bits)))) else none
  |op=>bif er (ikN k) (ikN k') then (match op with
    |.add=>some (.int k (k.wrap (a+b)))
    |.sub=>some (.int k (k.wrap (a - b)))
    |.mul=>some (.int k (k.wrap (a*b)))
    |.quo=>if b=0 then none else some (.int k (k.wrap (a.tdiv b)))
    |.rem=>if b=0 then none else some (.int k (a.tmod b))
    |.and=>some (.int k (k.wrap (gv k.bits a &&& gv k.bits b).toNat))
    |.or=>some (.int k (k.wrap (gv k.bits a ||| gv k.bits b).toNat))
    |.xor=>some (.int k (k.wrap (gv k.bits a ^^^ gv k.bits b).toNat))
    |.andNot=>some (.int k (k.wrap (gv k.bits a &&& ~~~ gv k.bits b).toNat))
    |.eql=>some (.bool (decide (a=b)))
    |.neq=>some (.bool (decide (a≠b)))
    |.lss=>some (.bool (decide (a<b)))
    |.leq=>some (.bool (decide (a<=b)))
    |.gtr=>some (.bool (decide (b<a)))
    |.geq=>some (.bool (decide (b<=a)))
    |_=>none) else none
theorem yho {op:BinOp} {k k':gl} {a b:Int} {r:T} (h:zcz op k k' a b=some r):∃ v,VT A β (zaa s.obj) r v/\∀ {ρ:ep->Value} {o:Oper} {t t2:fc} {x y:ep} {s:CS},o.op=.binOp op t x y t2->ρ x=.int k a->ρ y=.int k' b->zls P Γ ρ o s t op (.int k a) (.int k' b)=some (v,s):=by
  unfold zcz at h;split at h
  . split at h
    . rename_i h0;cases h;exact ⟨_,.int _ _,fun ho hx hy=>zcf ho hx hy default (by simp only [binOp,Op.shift];rw [zAd (by omega)]) rfl⟩
    . simp at h
  . split at h
    . rename_i h0;cases h;exact ⟨_,.int _ _,fun ho hx hy=>zcf ho hx hy default (by simp only [binOp,Op.shift];rw [zAd (by omega)]) rfl⟩
    . simp at h
  . cases hq:er (ikN k) (ikN k') with
    |false=>rw [hq] at h;simp at h
    |true =>
      rw [hq,cond_true] at h;have:=z75 hq;subst this;split at h
      . cases h;exact ⟨_,.int _ _,fun ho hx hy=>zcf ho hx hy default (by simp only [binOp,o7,ne_eq,not_true,if_false]) rfl⟩
      . cases h;exact ⟨_,.int _ _,fun ho hx hy=>zcf ho hx hy default (by simp only [binOp,o7,ne_eq,not_true,if_false]) rfl⟩
      . cases h;exact ⟨_,.int _ _,fun ho hx hy=>zcf ho hx hy default (by simp only [binOp,o7,ne_eq,not_true,if_false]) rfl⟩
      . split at h
        . simp at h
        . rename_i hb;cases h;exact ⟨_,.int _ _,fun ho hx hy=>zcf ho hx hy default (by simp only [binOp,Op.intDiv,ne_eq,not_true,if_false];rw [zAd hb]) rfl⟩
      . split at h
        . simp at h
        . rename_i hb;cases h;exact ⟨_,.int _ _,fun ho hx hy=>zcf ho hx hy default (by simp only [binOp,Op.intDiv,ne_eq,not_true,if_false];rw [zAd hb]) rfl⟩
      . cases h;exact ⟨_,.int _ _,fun ho hx hy=>zcf ho hx hy default (by simp only [binOp,ox,ne_eq,not_true,if_false]) rfl⟩
      . cases h;exact ⟨_,.int _ _,fun ho hx hy=>zcf ho hx hy default (by simp only [binOp,ox,ne_eq,not_true,if_false]) rfl⟩
      . cases h;exact ⟨_,.int _ _,fun ho hx hy=>zcf ho hx hy default (by simp only [binOp,ox,ne_eq,not_true,if_false]) rfl⟩
      . cases h;exact ⟨_,.int _ _,fun ho hx hy=>zcf ho hx hy default (by simp only [binOp,ox,ne_eq,not_true,if_false]) rfl⟩
      . cases h;exact ⟨_,.bool _,fun ho hx hy=>zcf ho hx hy default (by simp [binOp,m7];rfl) rfl⟩
      . cases h;exact ⟨_,.bool _,fun ho hx hy=>zcf ho hx hy default (by simp [binOp,m7]<;>rfl) rfl⟩
      . cases h;exact ⟨_,.bool _,fun ho hx hy=>zcf ho hx hy default (by simp [binOp,m7]) rfl⟩
      . cases h;exact ⟨_,.bool _,fun ho hx hy=>zcf ho hx hy default (by simp [binOp,m7]) rfl⟩
      . cases h;exact ⟨_,.bool _,fun ho hx hy=>zcf ho hx hy default (by simp [binOp,m7]) rfl⟩
      . cases h;exact ⟨_,.bool _,fun ho hx hy=>zcf ho hx hy default (by simp [binOp,m7]) rfl⟩
      . simp at h
def zyp (op:BinOp) (a b:ByteArray):Option T:=match op with
  |.eql=>some (.bool (decide (a=b)))
  |.neq=>some (.bool (!decide (a=b)))
  |.add=>if a.size+b.size<=9223372036854775807 then some (.str (a++b)) else none
  |_=>none
theorem yew {op:BinOp} {a b:ByteArray} {r:T} (h:zyp op a b=some r):∃ v,VT A β (zaa s.obj) r v/\∀ {ρ:ep->Value} {o:Oper} {t t2:fc} {x y:ep} {s:CS},o.op=.binOp op t x y t2->ρ x=.string a->ρ y=.string b->zls P Γ ρ o s t op (.string a) (.string b)=some (v,s):=by
  unfold zyp at h;split at h
  . cases h;exact ⟨_,.bool _,fun ho hx hy=>znq ho hx hy rfl (fun d=>z10 d a) rfl rfl (by unfold kj;simp) (by show some _=_;rw [yev]) rfl⟩
  . cases h;exact ⟨_,.bool _,fun ho hx hy=>znq ho hx hy rfl (fun d=>z10 d a) rfl rfl (by unfold kj;simp) (by show some _=_;rw [yev]) rfl⟩
  . split at h
    . rename_i hs;cases h
      exact ⟨_,.str _,fun ho hx hy=>znq ho hx hy rfl (fun d=>z10 d a) rfl rfl (by unfold kj;simp) (by
        show zbl P (Op.stringOp .add a b)=_;unfold Op.stringOp;simp only
        rw [zAd (by have : IntKind.i64.max = 9223372036854775807 := by decide
                    omega)]
        rfl) rfl⟩
    . simp at h
  . simp at h
theorem zai {α γ:Type} {f:α->Sem γ}:∀ {m:Sem α},zbl P (m >>= f)=(zbl P m).bind fun v=>zbl P (f v):=by
  intro m
  induction m with
  |pure a=>rfl
  |program k ih=>exact ih P
  |_=>rfl
theorem yc4 {ρ:ep->Value} {t t2:fc} {x y:ep} {op:BinOp} {v w r:Value} {o:Oper} (ho:o.op=.binOp op t x y t2) (hx:ρ x=v) (hy:ρ y=w) (hc:binC op v w=none) (hn:∀ d,nilT d v=none) (hpv:za6 3 v=true) (hpw:za6 3 w=true)
    (hr:zbl P (do kj op t x y v w;binOp op t v w)=some r) (hp:za6 3 r=true):zls P Γ ρ o s t op v w=some (r,s):=by
  unfold zls;rw [hc];simp only;rw [ybg hn];simp only [zh2];unfold zq0
  have hops:(o.op.operands.toList.all fun z=>za6 3 (ρ z))=true:=by
    rw [ho];simp [fj,hx,hy,hpv,hpw]
  rw [hops]
  have he:ls ρ o=((do kj op t x y v w;binOp op t v w) >>= fun z=>pure (Next.value z)):=by
    unfold ls;rw [ho];simp only [hx,hy]
  rw [he]
  have hv:zbl P ((do kj op t x y v w;binOp op t v w) >>= fun z=>pure (Next.value z))=some (.value r):=by
    rw [zai,hr];rfl
  simp only [cond_true];rw [hv];show retC s (bif za6 3 r then some r else none)=some (r,s);rw [hp];rfl
def yfg:T->Option Value
  |.int k n=>some (.int k n)
  |.bool b=>some (.bool b)
  |.str b=>some (.string b)
  |_=>none
def zgi:List T->Option (List Value)
  |[]=>some []
  |t :: l=>match yfg t,zgi l with|some v,some r=>some (v :: r)|_,_=>none
theorem z9h {g:Nat->Fam} {t:T} {v w:Value} (h:yfg t=some w) (hv:VT A β g t v):v=w/\∀ n,za6 n v=true:=by
  unfold yfg at h;split at h
  . cases h;cases hv;exact ⟨rfl,fun n=>by cases n<;>rfl⟩
  . cases h;cases hv;exact ⟨rfl,fun n=>by cases n<;>rfl⟩
  . cases h;cases hv;exact ⟨rfl,fun n=>by cases n<;>rfl⟩
  . simp at h
theorem zqv {g:Nat->Fam}:∀ {l:List T} {vs ws:List Value},zgi l=some ws->VL A β g l vs->vs=ws/\vs.all (za6 2)=true
  |[],_,ws,h,.nil=>by simp only [zgi,dy] at h;subst h;exact ⟨rfl,rfl⟩
  |t :: l,_,ws,h,.cons h1 h2=>by
    unfold zgi at h;split at h
    . rename_i v r e1 e2;cases h;obtain ⟨a,b⟩:=z9h e1 h1;obtain ⟨c,d⟩:=zqv e2 h2;rw [a,c] at *;exact ⟨rfl,by rw [ig,b 2,d];rfl⟩
    . simp at h
def zpt (P:fe) (t:fc) (op:BinOp) (x y:ep) (a b:List T):Option T:=match zgi a,zgi b with
  |some va,some vb=>(match zbl P (do kj op t x y (.agg ⟨va⟩) (.agg ⟨vb⟩);binOp op t (.agg ⟨va⟩) (.agg ⟨vb⟩)) with
    |some (.bool r)=>some (.bool r)
    |_=>none)
  |_,_=>none
theorem ygx (d:la) (a:Array Value):nilT d (.agg a)=none:=by cases d<;>rfl
def tNil (S:TS):la->T->Option Bool
  |.pointer _,.nilp=>some true
  |.pointer _,.ptr b _ N=>bif S.has b N then some false else none
  |.pointer _,.cp _=>some false
  |.slice _,.nils=>some true
  |.slice _,.arr b _ _ _ _ N=>bif S.has b N && fw 0 N then some false else none
  |.slice _,.lst _ (_ :: _)=>some false
  |.slice _,.emp _=>some false
  |.map _ _,.nilm=>some true
  |.func _ _ _,.nilf=>some true
  |.func _ _ _,.fn _ _ _=>some false
  |_,_=>none
theorem yep (h:TRel GL A β S s) {d:la} {t:T} {v:Value} {b:Bool} (hv:VT A β (zaa s.obj) t v) (ht:tNil S d t=some b):nilT d v=some b:=by
  unfold tNil at ht;split at ht
  . cases ht;cases hv;rfl
  . rename_i b' _ N
    cases hs:S.has b' N with
    |false=>rw [hs] at ht;simp at ht
    |true =>
      rw [hs] at ht;cases ht;obtain ⟨z,l,hS⟩:=TS.has_ok hs;obtain ⟨f,u,rfl,hb⟩:=zk3 h hS hv;rfl
  . cases ht;cases hv;rfl
  . cases ht;cases hv;rfl
  . rename_i b' _ _ _ _ N
    cases hs:(S.has b' N && fw 0 N) with
    |false=>rw [hs] at ht;simp at ht
    |true =>
      rw [hs] at ht;cases ht;simp only [d8] at hs;obtain ⟨z,l,hS⟩:=TS.has_ok hs.1;have:=zaf.1 hs.2;rcases zi8 h hS hv with ⟨f,u,rfl,hb,htag⟩|⟨rfl,hb,rfl,rfl,rfl,rfl⟩
      . rfl
      . omega
  . cases ht;cases hv;rfl
  . cases ht;cases hv;rfl
  . cases ht;cases hv;rfl
  . cases ht;cases hv;rfl
  . cases ht;cases hv;rfl
  . simp at ht
def tBin (P:fe) (Γ:Env) (S:TS) (t:fc) (op:BinOp) (x y:ep) (a b:T):Option T:=match a,b with
  |.int k m,.int k' n=>zcz op k k' m n
  |.str m,.str n=>zyp op m n
  |.bool m,.bool n=>(match Γ.ti.at t with
    |some i=>(match i.desc,op with|.bool,.eql=>some (.bool (m == n))|.bool,.neq=>some (.bool (!(m == n)))|_,_=>none)
    |none=>none)
  |.agg m,.agg n=>zpt P t op x y m n
  |a,b=>(match Γ.ti.at t with
    |some i=>(match tNil S i.desc a,tNil S i.desc b with
      |some p,some q=>bif p || q then (match op with|.eql=>some (.bool (p && q))|.neq=>some (.bool (!(p && q)))|_=>none) else none
      |_,_=>none)
    |none=>none)
theorem yca {op:BinOp} {v w:Value} {d:la} {p:Bool} (h:nilT d v=some p):binC op v w=none:=by
  unfold nilT at h;split at h<;>first | (simp at h;done)|rfl
theorem yps (hE:zei P Γ) (h:TRel GL A β S s) {t t2:fc} {op:BinOp} {x y:ep} {o:Oper} {a b r:T} {ρ:ep->Value} (ho:o.op=.binOp op t x y t2) (hx:VT A β (zaa s.obj) a (ρ x)) (hy:VT A β (zaa s.obj) b (ρ y)) (ht:tBin P Γ S t op x y a b=some r):Ok0 GL A β S s (zls P Γ ρ o s t op (ρ x) (ρ y)) r:=by
  unfold tBin at ht;split at ht
  . rename_i k m k' n;obtain ⟨v,h1,h2⟩:=yho (A:=A) (β:=β) (s:=s) (P:=P) (Γ:=Γ) ht;generalize e1:ρ x=vx at hx;generalize e2:ρ y=vy at hy;cases hx;cases hy;rw [h2 ho e1 e2];exact Ok0.same h h1
  . rename_i m n;obtain ⟨v,h1,h2⟩:=yew (A:=A) (β:=β) (s:=s) (P:=P) (Γ:=Γ) ht;generalize e1:ρ x=vx at hx;generalize e2:ρ y=vy at hy;cases hx;cases hy;rw [h2 ho e1 e2];exact Ok0.same h h1
  . rename_i m n;generalize e1:ρ x=vx at hx;generalize e2:ρ y=vy at hy;cases hx;cases hy;split at ht
    . rename_i i hi;have hd:=(hE.ti _ _ hi).und;split at ht
      . rename_i hdb;cases ht;rw [hdb] at hd
        rw [znq ho e1 e2 rfl (fun d=>z4i d m) rfl rfl (by unfold kj;simp) (r:=.bool (m == n)) (by
          show zbl P (do pure (Value.bool (<- qf t (.bool m) (.bool n))):Sem Value)=_
          rw [zly (zm1 hd)];rfl) rfl]
        exact Ok0.same h (.bool _)
      . rename_i hdb;cases ht;rw [hdb] at hd
        rw [znq ho e1 e2 rfl (fun d=>z4i d m) rfl rfl (by unfold kj;simp) (r:=.bool (!(m == n))) (by
          show zbl P (do pure (Value.bool (!(<- qf t (.bool m) (.bool n)))):Sem Value)=_
          rw [zly (zm1 hd)];rfl) rfl]
        exact Ok0.same h (.bool _)
      . simp at ht
    . simp at ht
  . rename_i m n;generalize e1:ρ x=vx at hx;generalize e2:ρ y=vy at hy;cases hx;cases hy;rename_i va ha vb hb;unfold zpt at ht;split at ht
    . rename_i wa wb h1 h2;obtain ⟨rfl,k1⟩:=zqv h1 ‹VL A β (zaa s.obj) m _›;obtain ⟨rfl,k2⟩:=zqv h2 ‹VL A β (zaa s.obj) n _›;split at ht
      . rename_i r' hr;cases ht;rw [yc4 ho e1 e2 rfl (fun d=>ygx d _) k1 k2 hr rfl];exact Ok0.same h (.bool _)
      . simp at ht
    . simp at ht
  . split at ht
    . rename_i i hi;split at ht
      . rename_i p q h1 h2
        cases hpq:(p || q) with
        |false=>rw [hpq] at ht;simp at ht
        |true =>
          rw [hpq] at ht;simp only [cond_true] at ht;have n1:=yep h hx h1;have n2:=yep h hy h2;split at ht
          . cases ht
            have:zls P Γ ρ o s t .eql (ρ x) (ρ y)=some (.bool (p && q),s):=by
              unfold zls;rw [yca n1];simp only;unfold eqC;simp only [hi,n1,n2];unfold nilC;simp only [hpq,cond_true];simp [zh2]
            rw [this];exact Ok0.same h (.bool _)
          . cases ht
            have:zls P Γ ρ o s t .neq (ρ x) (ρ y)=some (.bool (!(p && q)),s):=by
              unfold zls;rw [yca n1];simp only;unfold eqC;simp only [hi,n1,n2];unfold nilC;simp only [hpq,cond_true];simp [zh2]
            rw [this];exact Ok0.same h (.bool _)
          . simp at ht
      . simp at ht
    . simp at ht
def tUn (op:UnOp):T->Option T
  |.bool b=>(match op with|.not=>some (.bool (!b))|_=>none)
  |.int k a=>(match op with
    |.neg=>some (.int k (k.wrap (0 - a)))
    |.xor=>some (.int k (k.wrap (gv k.bits (if k.signed then -1 else k.max) ^^^ gv k.bits a).toNat))
    |_=>none)
  |_=>none
theorem yrx (h:TRel GL A β S s) {t:fc} {op:UnOp} {x:ep} {o:Oper} {a r:T} {ρ:ep->Value} (ho:o.op=.unOp op t x) (hx:VT A β (zaa s.obj) a (ρ x)) (ht:tUn op a=some r):Ok0 GL A β S s (zh2 P ρ o s (unC op (ρ x))) r:=by
  obtain ⟨d,opx,ty,pos,e,g⟩:=o;simp only at ho;subst ho;unfold tUn at ht;split at ht
  . rename_i b;generalize e1:ρ x=vx at hx;cases hx;split at ht
    . cases ht;exact Ok0.same h (.bool _)
    . simp at ht
  . rename_i k m;generalize e1:ρ x=vx at hx;cases hx;split at ht
    . cases ht;rw [ysf e1];exact Ok0.same h (.int _ _)
    . cases ht;rw [yse e1];exact Ok0.same h (.int _ _)
    . simp at ht
  . simp at ht
def yj1:List T->Option (List UInt8)
  |[]=>some []
  |.int .u8 k :: l=>(match yj1 l with|some r=>some (UInt8.ofNat k.toNat :: r)|none=>none)
  |_ :: _=>none
end
def ziv (Γ:Env) (t:fc) (k:T):Bool:=match Γ.ti.at t with
  |some i=>(match i.desc,k with|.int a,.int b _=>er (ikN a) (ikN b)|.string,.str _=>true|.bool,.bool _=>true|_,_=>false)
  |none=>false
def zsx:T->T->Option Bool
  |.int k a,.int k' b=>bif er (ikN k) (ikN k') then some (a == b) else none
  |.str a,.str b=>some (a.data.toList == b.data.toList)
  |.bool a,.bool b=>some (a == b)
  |_,_=>none
def tGet (k:T):List (T×T)->Option (Option T)
  |[]=>some none
  |(k',v) :: l=>match zsx k k' with
    |some true=>some (some v)
    |some false=>tGet k l
    |none=>none
def tSet (k v:T):List (T×T)->Option (List (T×T))
  |[]=>some [(k,v)]
  |(k',v') :: l=>match zsx k k' with
    |some true=>some ((k,v) :: l)
    |some false=>(match tSet k v l with|some l=>some ((k',v') :: l)|none=>none)
    |none=>none
def zer (i:TI):Option T:=bif aggT i.desc then (match zgr i.zero with|some l=>some (.agg l)|none=>none) else match i.zero with | [z]=>zl6 z|_=>none
def zti (ok:Bool) (z:T):Option T->T
  |some v=>bif ok then .tup [v,.bool true] else v
  |none=>bif ok then .tup [z,.bool false] else z
def zdl (Γ:Env) (S:TS) (t:fc) (x k:T) (ok:Bool):Option T:=match Γ.ti.at t with
  |some i=>(match i.desc with
    |.map kt e=>bif ziv Γ kt k then (match Γ.ti.at e with
      |some j=>(match zer j with
        |some z=>(match x with
          |.nilm=>some (zti ok z none)
          |.mp b=>(match S.box b with|.map l=>(match tGet k l with|some r=>some (zti ok z r)|none=>none)|_=>none)
          |_=>none)
        |none=>none)
      |none=>none) else none
    |_=>none)
  |none=>none
def zr5 (Γ:Env) (S:TS) (t:fc) (k v m:T):Option TS:=match m,Γ.ti.at t with
  |.mp b,some i=>(match i.desc with
    |.map kt _=>bif ziv Γ kt k then (match S.box b with|.map l=>(match tSet k v l with|some l'=>some (S.set b (.map l'))|none=>none)|_=>none) else none
    |_=>none)
  |_,_=>none
def zcj (S:TS):Option (T×TS):=some (.mp S.n,S.add (.map []))
section
variable {GL:List (Nat×List Value)} {A A':Nat->Prop} {β β':Bx} {S S':TS} {s s':CS} {P:fe} {Γ:Env} {g g':Nat->Fam}
theorem yhe {t:fc} {k:T} {v:Value} (h:VT A β g k v) (hk:ziv Γ t k=true):keyV Γ t v=true:=by
  unfold ziv at hk;unfold keyV;split at hk
  . rename_i i hi;rw [hi];simp only;split at hk
    . rename_i hd;cases h;rw [hd];exact hk
    . rename_i hd;cases h;rw [hd]
    . rename_i hd;cases h;rw [hd]
    . simp at hk
  . simp at hk
theorem yam {k k':T} {v v':Value} {r:Bool} (h:VT A β g k v) (h':VT A β g k' v') (hq:zsx k k'=some r):z14 v v'=some r:=by
  unfold zsx at hq;split at hq
  . cases h;cases h';rename_i k a k' b;show sel (er (ikN k) (ikN k')) (some (a == b)) none=some r
    cases hb:er (ikN k) (ikN k') with
    |true=>rw [hb,cond_true] at hq;rw [zbn];exact hq
    |false=>rw [hb] at hq;simp at hq
  . cases h;cases h';exact hq
  . cases h;cases h';exact hq
  . simp at hq
def VO2 (A:Nat->Prop) (β:Bx) (g:Nat->Fam):Option T->Option Value->Prop
  |none,none=>True
  |some t,some v=>VT A β g t v
  |_,_=>False
theorem VM.cons_inv {k x:T} {l:List (T×T)} {es:List (Value×Value)} (h:VM A β g ((k,x) :: l) es):∃ v w es',es=(v,w) :: es'/\VT A β g k v/\VT A β g x w/\VM A β g l es':=by
  obtain ⟨h1,h2⟩:=h
  cases es with
  |nil=>cases h1
  |cons e es =>
    obtain ⟨v,w⟩:=e;simp only [List.map_cons] at h1 h2
    cases h1 with
    |cons a b =>
      cases h2 with
      |cons c d=>exact ⟨v,w,es,rfl,a,c,b,d⟩
theorem VM.nil_inv {es:List (Value×Value)} (h:VM A β g [] es):es=[]:=by
  obtain ⟨h1,_⟩:=h
  cases es with
  |nil=>rfl
  |cons e es=>cases h1
theorem VM.mk {k x:T} {v w:Value} {l:List (T×T)} {es:List (Value×Value)} (a:VT A β g k v) (c:VT A β g x w) (h:VM A β g l es):VM A β g ((k,x) :: l) ((v,w) :: es):=⟨.cons a h.1,.cons c h.2⟩
theorem z4p {k:T} {v:Value} (hk:VT A β g k v):∀ {l:List (T×T)} {es:List (Value×Value)} {r:Option T},VM A β g l es->tGet k l=some r->∃ r',zpl v es=some r'/\VO2 A β g r r'
  |[],es,r,h,hr=>by
    rw [VM.nil_inv h];simp only [tGet,dy] at hr;subst hr;exact ⟨none,rfl,trivial⟩
  |(k',x) :: l,es,r,h,hr=>by
    obtain ⟨v',w,es',rfl,h1,h2,h3⟩:=VM.cons_inv h;simp only [tGet] at hr;split at hr
    . rename_i hq;cases hr;refine ⟨some w,?_,h2⟩;simp only [zpl,yam hk h1 hq]
    . rename_i hq;obtain ⟨r',q1,q2⟩:=z4p hk h3 hr;exact ⟨r',by simp only [zpl,yam hk h1 hq,q1],q2⟩
    . simp at hr
theorem zul {i:TI} {z:T} (h:zer i=some z):∃ v,zun i=some v/\VT A β g z v:=by
  unfold zer at h;unfold zun
  cases ha:aggT i.desc with
  |true =>
    rw [ha,cond_true] at h;split at h
    . rename_i l hl;cases h;exact ⟨_,rfl,.agg (by simpa using (zjw (A:=A) (β:=β) (g:=g) hl).1)⟩
    . simp at h
  |false =>
    rw [ha,cond_false] at h;split at h
    . rename_i z' hz;rw [hz];exact ⟨z',rfl,(z0r h).1⟩
    . simp at h
theorem zn0 {ok:Bool} {z:T} {zv:Value} {r:Option T} {r':Option Value} (hz:VT A β g z zv) (h:VO2 A β g r r'):VT A β g (zti ok z r) (zwv ok zv r'):=by
  cases r<;>cases r'<;>simp only [VO2] at h
  . cases ok with
    |true=>exact .tup (.cons hz (.cons (.bool _) .nil))
    |false=>exact hz
  . cases ok with
    |true=>exact .tup (.cons h (.cons (.bool _) .nil))
    |false=>exact h
theorem yk5 (hT:TRel GL A β S s) {b:Nat} {l:List (T×T)} {v:Value} (hb:S.box b=.map l) (h:VT A β (zaa s.obj) (.mp b) v):∃ r es,v=.map (some r)/\β b=some (.map r)/\zaa s.obj r=⟨false,[],some es,none⟩/\VM A β (zaa s.obj) l es:=by
  obtain ⟨r,es,q1,q2,q3⟩:=hT.maps b l hb
  cases h with
  |mp h=>rw [q1] at h;cases h;exact ⟨_,es,rfl,q1,q2,q3⟩
  |mpOld h _=>rw [q1] at h;simp at h
theorem ycl (hT:TRel GL A β S s) {t:fc} {x k r:T} {vx vk:Value} {ok:Bool} (hx:VT A β (zaa s.obj) x vx) (hk:VT A β (zaa s.obj) k vk) (ht:zdl Γ S t x k ok=some r):Ok0 GL A β S s (zg0 Γ s t vx vk ok) r:=by
  unfold zdl at ht;split at ht
  . rename_i i hi;split at ht
    . rename_i kt e hd
      cases hkv:ziv Γ kt k with
      |false=>rw [hkv] at ht;simp at ht
      |true =>
        rw [hkv,cond_true] at ht;split at ht
        . rename_i j hj;split at ht
          . rename_i z hz;obtain ⟨zv,z1,z2⟩:=zul (A:=A) (β:=β) (g:=zaa s.obj) hz;split at ht
            . cases ht;cases hx
              have:zg0 Γ s t (.map none) vk ok=some (zwv ok zv none,s):=by
                simp only [zg0,hi,hd,yhe hk hkv,zbn,hj,z71,z1,zpl]
              rw [this];exact Ok0.same hT (zn0 z2 trivial)
            . rename_i b;split at ht
              . rename_i l hb;split at ht
                . rename_i r0 hg;cases ht;obtain ⟨rr,es,rfl,q1,q2,q3⟩:=yk5 hT hb hx;obtain ⟨r',g1,g2⟩:=z4p hk q3 hg
                  have:zg0 Γ s t (.map (some rr)) vk ok=some (zwv ok zv r',{ s with rd:=ins s.lim s.rd rr }):=by
                    simp only [zg0,hi,hd,yhe hk hkv,zbn,hj,CS.readMap,q2,z71,z1,g1]
                  rw [this];exact Ok0.read hT (.inr (zf3 q1)) (zn0 z2 g2)
                . simp at ht
              . simp at ht
            . simp at ht
          . simp at ht
        . simp at ht
    . simp at ht
  . simp at ht
theorem z60 (h:TRel GL A β S s) {r:T} (ht:zcj S=some (r,S')):Ok GL A β s (mapC s) r S':=by
  simp only [zcj,dy,ec] at ht;obtain ⟨rfl,rfl⟩:=ht;obtain ⟨q1,q2,q3,q4⟩:=h.fresh ⟨false,[],some [],none⟩ rfl (fun p hp=>by simp at hp);have hb0:β S.n=none:=h.next _ (ei _)
  have hle:Bx.le β (bnew β S.n (.map s.n)):=zxg hb0;have hat:∀ b,b≠S.n->bnew β S.n (.map s.n) b=β b:=fun b hb=>zAd hb;have hat2:bnew β S.n (.map s.n) S.n=some (.map s.n):=zAc rfl;have hold:∀ f,f<s.n->zaa (zaw s.obj s.n ⟨false,[],some [],none⟩) f=zaa s.obj f:=fun f hf=>q3 f (by omega)
  have hkey:∀ b x,β b=some x->x.fam=some s.n->False:=fun b x hb hx=>by
    have:Own β s.n:=by
      cases x with
      |live f u N=>simp [Loc.fam] at hx;subst hx;exact zcv hb
      |map r=>simp [Loc.fam] at hx;subst hx;exact zf3 hb
      |nil=>simp [Loc.fam] at hx
      |dead=>simp [Loc.fam] at hx
    have:=(h.dis _ this).1;omega
  have hm:mapC s=some (.map (some s.n),{ s with n:=s.n+1,obj:=zaw s.obj s.n ⟨false,[],some [],none⟩ }):=by
    unfold mapC;have:zis s.obj s.n=true:=by obtain ⟨g,hg⟩:=h.inr;rw [hg];rfl
    rw [this,zbn]
  rw [hm];refine ⟨_,_,A,bnew β S.n (.map s.n),rfl,⟨q1.inr,q1.inv,q1.alt,fun f hf=>?_,fun b b' x x' f hb hb' hx hx'=>?_,fun b hb=>?_,fun b z N x hb=>?_,fun b x hb=>?_,q1.glob⟩,.mp hat2,q2,fun _ h=>h,fun _ h=>.inl h,fun f hf=>?_,fun f hf _=>q3 f (by omega),hle,fun _ h=>.inl h,fun _ h=>.inl h⟩
  . obtain ⟨b,hb⟩:=hf;by_cases hbn:b=S.n
    . subst hbn;rw [hat2] at hb;rcases hb with ⟨u,N,hb⟩|hb
      . simp at hb
      . cases hb;exact ⟨by show s.n<s.n+1;omega,fun hA=>by have:=h.alt _ hA;omega⟩
    . rw [hat b hbn] at hb;exact q1.dis f ⟨b,hb⟩
  . by_cases e1:b=S.n<;>by_cases e2:b'=S.n
    . rw [e1,e2]
    . subst e1;rw [hat2] at hb;rw [hat b' e2] at hb';cases hb;simp [Loc.fam] at hx;subst hx;exact (hkey b' x' hb' hx').elim
    . subst e2;rw [hat2] at hb';rw [hat b e1] at hb;cases hb';simp [Loc.fam] at hx';subst hx';exact (hkey b x hb hx).elim
    . rw [hat b e1] at hb;rw [hat b' e2] at hb';exact h.inj b b' x x' f hb hb' hx hx'
  . have:S.n+1<=b:=hb;rw [hat b (by omega)];exact h.next b (by omega)
  . by_cases hbn:b=S.n
    . subst hbn;rw [TS.add_same] at hb;cases hb
    . rw [TS.add_ne _ _ hbn] at hb;exact (h.cells b z N x hb).mono (fun _ h=>h) (fun f hf=>hold f (h.alt f hf)) hle (hat b hbn) fun f u N hl=>hold f (h.dis f (zcv hl)).1
  . by_cases hbn:b=S.n
    . subst hbn;rw [TS.add_same] at hb;cases hb;exact ⟨s.n,[],hat2,q4,.nil,.nil⟩
    . rw [TS.add_ne _ _ hbn] at hb;exact (h.maps b x hb).mono (fun _ h=>h) (fun f hf=>hold f (h.alt f hf)) hle (hat b hbn) fun r hl=>hold r (h.dis r (zf3 hl)).1
  . obtain ⟨b,hb⟩:=hf;by_cases hbn:b=S.n
    . subst hbn;rw [hat2] at hb;rcases hb with ⟨u,N,hb⟩|hb
      . simp at hb
      . cases hb;exact .inr (ei _)
    . rw [hat b hbn] at hb;exact .inl ⟨b,hb⟩
end
end
end Go.Proofs.YteifcnjpjjaikaaGreat
