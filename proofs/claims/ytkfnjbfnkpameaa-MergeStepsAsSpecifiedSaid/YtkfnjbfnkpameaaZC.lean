/- Part 3 of the proof of MergeStepsAsSpecified (several texts in one; no further condition). -/
import Derived.Test.YtkfnjbfnkpameaaZB
import Derived.Laws.Strings
set_option linter.unusedSimpArgs false
set_option linter.unusedVariables false
set_option linter.unusedSectionVars false
namespace Go.Proofs.Ytkfnjbfnkpameaa
noncomputable section
open _root_.BitVec renaming ofInt->i8
open _root_.Bool renaming and_eq_true->fj,and_true->n6,not_eq_false'->pn,or_eq_false_iff->mg
open Go.Proofs.Ytkfnjbfnkpameaa.CS renaming append->mv,firstCells->j0,newRow->qy,readRow->ol
open Go.Proofs.Ytkfnjbfnkpameaa.Can renaming refl->jp
open _root_.Eq renaming trans->f6
open Go.Exit renaming normal->mz
open Go.Proofs.Ytkfnjbfnkpameaa.Fr renaming ofArgs->o4
open Go renaming FuncId->mc,IntKind->iu,Operand->f7,Program->gn,TypeDesc->nf,TypeId->gm,execOp->mm
open _root_.List renaming all_append->ow,all_cons->jn,all_eq_true->ib,any_eq_false->pu,drop_append->mh,drop_drop->lp,drop_succ_cons->kv,drop_zero->gp,eq_nil_of_length_eq_zero->ji,flatMap_cons->jb,flatten_cons->ii,getElem?_eq_getElem->fk,getElem?_eq_some_iff->ge,length_append->fx,length_cons->gh,length_drop->jf,length_take->ik,mem_cons->kj,mem_cons_of_mem->np,mem_of_getElem?->jl,mem_of_mem_drop->m5,mem_of_mem_take->nv,nil_append->gg,replicate->gb,replicate_succ->jc,take_append->pc,take_of_length_le->ij,take_succ_cons->ng,take_take->pv
open _root_.Nat renaming add_mul->jm,add_zero->jq,beq->fy,beq_refl->ja,ble->h9,blt->ic,eq_of_beq_eq_true->fl,le_max_left->ky,le_max_right->li,le_refl->fp,lt_of_lt_of_le->gr,min_eq_left->ql,mul_le_mul_right->lr,testBit->i6,zero_add->i5
open Go.Op renaming operands->gw
open _root_.Option.some renaming injEq->fe
open _root_.Prod.mk renaming injEq->fm
open Go Go.RowKit
section
variable {P:gn} {Γ:Env}
def zyj (c c':zed):Prop:=∀ f args s r,c f args s=some r->c' f args s=some r
theorem ykg {call call':zed} (h:zyj call call') {ρ:f7->Value} {o:Oper} {s:CS} {r:Value×CS} (hc:cop P Γ call ρ o s=some r):cop P Γ call' ρ o s=some r:=by
  obtain ⟨dst,op,type,pos,after,guard⟩:=o;unfold cop at hc ⊢
  cases op with
  |call c =>
    simp only at hc ⊢;split at hc
    . rename_i f hf;unfold zoh at hc ⊢;split at hc
      . exact h _ _ _ _ hc
      . simp at hc
    . exact hc
    . simp at hc
  |makeMap t r=>cases r<;>exact hc
  |_=>exact hc
theorem zsf {call call':zed} (h:zyj call call') {ops:List Oper} {o:Oper} {fr:Fr} {s:CS} {r:Fr×CS} (hc:zcs P Γ call ops o fr s=some r):zcs P Γ call' ops o fr s=some r:=by
  unfold zcs at hc ⊢
  cases hw:zc8 ops fr o with
  |false=>rw [hw] at hc;exact hc
  |true =>
    rw [hw] at hc;simp only [cond_true] at hc ⊢;split at hc
    . rename_i h1;rw [ykg h h1];exact hc
    . simp at hc
theorem zy8 {call call':zed} (h:zyj call call') {ops:List Oper}:∀ {l:List Oper} {fr:Fr} {s:CS} {r:Fr×CS},runC P Γ call ops l fr s=some r->runC P Γ call' ops l fr s=some r
  |[],_,_,_,hc=>hc
  |o :: l,fr,s,r,hc=>by
    simp only [runC] at hc ⊢;split at hc
    . rename_i h1;rw [zsf h h1];exact zy8 h hc
    . simp at hc
theorem zz4 {call call':zed} (h:zyj call call') {ops:List Oper}:∀ {l:List Oper} {fr:Fr} {s:CS} {r:List Lg×Fr×CS},drawC P Γ call ops l fr s=some r->drawC P Γ call' ops l fr s=some r
  |[],_,_,_,hc=>hc
  |o :: l,fr,s,r,hc=>by
    simp only [drawC] at hc ⊢;split at hc
    . rename_i h1;rw [zsf h h1];simp only;split at hc
      . rename_i h2;rw [zz4 h h2];exact hc
      . simp at hc
    . simp at hc
theorem zpl {run run':Code->Fr->CS->Option (Exit×Fr×CS)} (hr:∀ c fr s r,run c fr s=some r->run' c fr s=some r) {key:CS->Option (List Nat×CS)} {k0:List Nat} {ps:List Tmp} {a b:Code} {fr:Fr}:∀ (xs:List (List Value)) (s:CS) (r:Exit×CS),zds run key k0 ps a b fr xs s=some r->zds run' key k0 ps a b fr xs s=some r
  |[],s,r,h=>h
  |x :: xs,s,r,h=>by
    rw [zds] at h ⊢;obtain ⟨hl,h⟩:=zee h;rw [hl,zbe];split at h
    . rename_i h1;rw [hr _ _ _ _ h1];simp only;split at h
      . rename_i h2;rw [hr _ _ _ _ h2];simp only;split at h
        . obtain ⟨hs,h⟩:=zee h;rw [hs,zbe];exact zpl hr xs _ _ h
        . simp at h
      . rename_i h2;rw [hr _ _ _ _ h2];exact h
      . rename_i h2;rw [hr _ _ _ _ h2];exact h
      . simp at h
    . simp at h
theorem z1w:∀ n,(∀ c fr s r,cm P Γ n c fr s=some r->cm P Γ (n+1) c fr s=some r)/\zyj (zfh P Γ n) (zfh P Γ (n+1)):=by
  intro n
  induction n with
  |zero =>
    refine ⟨fun c fr s r h=>by simp [cm] at h,?_⟩;intro f args s r h;unfold zfh at h ⊢;split at h
    . rename_i hx hax;exact h
    rename_i hax;split at h
    . split at h
      . simp only [cm,zcl] at h;split at h
        . rename_i hq;split at hq<;>simp at hq
        . rename_i hq;split at hq<;>simp at hq
        . simp at h
      . simp at h
    . simp at h
  |succ n ih =>
    obtain ⟨ih1,ih2⟩:=ih
    have hcode:∀ c fr s r,cm P Γ (n+1) c fr s=some r->cm P Γ (n+1+1) c fr s=some r:=by
      intro c fr s r h
      cases c with
      |region id ops draw =>
        have h' : (bif draw then match drawC P Γ (zfh P Γ n) ops.toList ops.toList fr s with
            |some (logs,fr,t)=>bif calm s.n ops.toList logs then some (mz,fr,t) else none
            |none=>none
          else match runC P Γ (zfh P Γ n) ops.toList ops.toList fr s with
            |some (fr,s)=>some (mz,fr,s)
            |none=>none)=some r:=h
        show (bif draw then match drawC P Γ (zfh P Γ (n + 1)) ops.toList ops.toList fr s with
            |some (logs,fr,t)=>bif calm s.n ops.toList logs then some (mz,fr,t) else none
            |none=>none
          else match runC P Γ (zfh P Γ (n+1)) ops.toList ops.toList fr s with
            |some (fr,s)=>some (mz,fr,s)
            |none=>none)=some r
        cases draw with
        |true =>
          simp only [cond_true] at h' ⊢;split at h'
          . rename_i h1;rw [zz4 ih2 h1];exact h'
          . simp at h'
        |false =>
          simp only [cond_false] at h' ⊢;split at h'
          . rename_i h1;rw [zy8 ih2 h1];exact h'
          . simp at h'
      |seq a b =>
        simp only [cm] at h;rw [cm];split at h
        . rename_i h1;rw [ih1 _ _ _ _ h1];exact ih1 _ _ _ _ h
        . rename_i hne;rw [ih1 _ _ _ _ h];split
          . rename_i h1;simp only [fe] at h1;subst h1;exact absurd h (hne _ _)
          . rfl
      |cond c t e =>
        simp only [cm] at h;rw [cm];split at h
        . exact ih1 _ _ _ _ h
        . simp at h
      |block id b =>
        simp only [cm] at h;rw [cm];split at h
        . rename_i h1;rw [ih1 _ _ _ _ h1];exact h
        . rename_i hne;rw [ih1 _ _ _ _ h];split
          . rename_i h1;simp only [fe] at h1;subst h1;exact absurd h (hne _ _ _)
          . rfl
      |loop b =>
        simp only [cm] at h;rw [cm];split at h
        . rename_i h1;rw [ih1 _ _ _ _ h1];exact ih1 _ _ _ _ h
        . rename_i hne;rw [ih1 _ _ _ _ h];split
          . rename_i h1;simp only [fe] at h1;subst h1;exact absurd h (hne _ _)
          . rfl
      |scope b=>simp only [cm] at h;rw [cm];exact ih1 _ _ _ _ h
      |skip=>exact h
      |label l=>exact h
      |exit id=>exact h
      |ret=>exact h
      |rangeFunc g ps a b =>
        rw [cm] at h ⊢;unfold zpo at h ⊢;split at h
        . split at h
          . rename_i i hit hf;split at h
            . rename_i k s1 hk;split at h
              . rename_i e1 s2 h2;have h3:=zpl ih1 _ _ _ h2;simp only [hit,hf,hk,h3];exact h
              . simp at h
            . simp at h
          . simp at h
        . simp at h
      |goto l=>simp [cm] at h
      |refuse w=>simp [cm] at h
    refine ⟨hcode,?_⟩;intro f args s r h;unfold zfh at h ⊢;split at h
    . exact h
    split at h
    . split at h
      . rename_i fn hfn _ body hb
        cases hle:h9 args.length fn.ntmps with
        |false=>rw [hle] at h;simp [sel] at h
        |true =>
          rw [hle,zbe] at h;rw [zbe];split at h
          . rename_i h1;rw [hcode _ _ _ _ h1];exact h
          . rename_i h1;rw [hcode _ _ _ _ h1];exact h
          . simp at h
      . simp at h
    . simp at h
theorem zht {n m:Nat} (h:n<=m) {c:Code} {fr:Fr} {s:CS} {r:Exit×Fr×CS} (hc:cm P Γ n c fr s=some r):cm P Γ m c fr s=some r:=by
  induction m with
  | zero => have : n = 0 := by omega
            subst this;exact hc
  |succ m ih =>
    by_cases hm:n=m+1
    . subst hm;exact hc
    . exact (z1w m).1 _ _ _ _ (ih (by omega))
theorem zhd {n m:Nat} (h:n<=m):zyj (zfh P Γ n) (zfh P Γ m):=by
  induction m with
  | zero => have : n = 0 := by omega
            subst this;exact fun _ _ _ _ k=>k
  |succ m ih =>
    by_cases hm:n=m+1
    . subst hm;exact fun _ _ _ _ k=>k
    . exact fun f args s r k=>(z1w m).2 _ _ _ _ (ih (by omega) f args s r k)
def Ev (P:gn) (Γ:Env) (c:Code) (fr:Fr) (s:CS) (e:Exit) (fr':Fr) (s':CS):Prop:=∃ n,cm P Γ n c fr s=some (e,fr',s')
def Runs (P:gn) (Γ:Env) (f:mc) (args:List Value) (s:CS) (v:Value) (s':CS):Prop:=∃ n,zfh P Γ n f args s=some (v,s')
def Ops (P:gn) (Γ:Env) (ops l:List Oper) (fr:Fr) (s:CS) (fr':Fr) (s':CS):Prop:=∃ n,runC P Γ (zfh P Γ n) ops l fr s=some (fr',s')
theorem Ev.skip (fr:Fr) (s:CS):Ev P Γ .skip fr s .normal fr s:=⟨1,rfl⟩
theorem Ev.ret (fr:Fr) (s:CS):Ev P Γ .ret fr s .ret fr s:=⟨1,rfl⟩
theorem Ev.exit (id:Nat) (fr:Fr) (s:CS):Ev P Γ (.exit id) fr s (.exit id) fr s:=⟨1,rfl⟩
theorem Ev.seq {a b:Code} {fr fr1 fr2:Fr} {s s1 s2:CS} {e:Exit} (h1:Ev P Γ a fr s .normal fr1 s1) (h2:Ev P Γ b fr1 s1 e fr2 s2):Ev P Γ (.seq a b) fr s e fr2 s2:=by
  obtain ⟨n,h1⟩:=h1;obtain ⟨m,h2⟩:=h2;refine ⟨max n m+1,?_⟩;rw [cm,zht (ky n m) h1];exact zht (li n m) h2
theorem Ev.seqOut {a b:Code} {fr fr1:Fr} {s s1:CS} {e:Exit} (h1:Ev P Γ a fr s e fr1 s1) (he:e≠.normal):Ev P Γ (.seq a b) fr s e fr1 s1:=by
  obtain ⟨n,h1⟩:=h1;refine ⟨n+1,?_⟩;rw [cm,h1];cases e<;>first|exact absurd rfl he|rfl
theorem Ev.cond {c:f7} {t f:Code} {fr fr':Fr} {s s':CS} {e:Exit} {b:Bool} (hb:zg6 fr c=.bool b) (h:Ev P Γ (bif b then t else f) fr s e fr' s'):Ev P Γ (.cond c t f) fr s e fr' s':=by
  obtain ⟨n,h⟩:=h;refine ⟨n+1,?_⟩;rw [cm,hb];exact h
theorem Ev.block {id:Nat} {b:Code} {fr fr':Fr} {s s':CS} {e:Exit} (h:Ev P Γ b fr s e fr' s'):Ev P Γ (.block id b) fr s (match e with|.exit i=>(bif fy i id then .normal else .exit i)|e=>e) fr' s':=by
  obtain ⟨n,h⟩:=h;refine ⟨n+1,?_⟩;rw [cm,h];cases e<;>rfl
theorem Ev.scope {b:Code} {fr fr':Fr} {s s':CS} {e:Exit} (h:Ev P Γ b fr s e fr' s'):Ev P Γ (.scope b) fr s e fr' s':=by
  obtain ⟨n,h⟩:=h;exact ⟨n+1,h⟩
theorem Ev.again {b:Code} {fr fr1 fr2:Fr} {s s1 s2:CS} {e:Exit} (h1:Ev P Γ b fr s .normal fr1 s1) (h2:Ev P Γ (.loop b) fr1 s1 e fr2 s2):Ev P Γ (.loop b) fr s e fr2 s2:=by
  obtain ⟨n,h1⟩:=h1;obtain ⟨m,h2⟩:=h2;refine ⟨max n m+1,?_⟩;rw [cm,zht (ky n m) h1];exact zht (li n m) h2
theorem Ev.last {b:Code} {fr fr1:Fr} {s s1:CS} {e:Exit} (h1:Ev P Γ b fr s e fr1 s1) (he:e≠.normal):Ev P Γ (.loop b) fr s e fr1 s1:=by
  obtain ⟨n,h1⟩:=h1;refine ⟨n+1,?_⟩;rw [cm,h1];cases e<;>first|exact absurd rfl he|rfl
theorem Ev.region {id:Nat} {ops:List Oper} {fr fr':Fr} {s s':CS} (h:Ops P Γ ops ops fr s fr' s'):Ev P Γ (.region id ops.toArray false) fr s .normal fr' s':=by
  obtain ⟨n,h⟩:=h;refine ⟨n+1,?_⟩
  show (match runC P Γ (zfh P Γ n) ops.toArray.toList ops.toArray.toList fr s with
            |some (fr,s)=>some (mz,fr,s)
            |none=>none)=_
  simp only [List.toList_toArray,h]
theorem Ops.nil {ops:List Oper} (fr:Fr) (s:CS):Ops P Γ ops [] fr s fr s:=⟨0,rfl⟩
theorem Ops.cons {ops:List Oper} {o:Oper} {l:List Oper} {fr fr2:Fr} {s s1 s2:CS} {v:Value} (hw:zc8 ops fr o=true) (h1:∃ n,cop P Γ (zfh P Γ n) (zg6 fr) o s=some (v,s1)) (h2:Ops P Γ ops l (putC fr o.dst v) s1 fr2 s2):Ops P Γ ops (o :: l) fr s fr2 s2:=by
  obtain ⟨n,h1⟩:=h1;obtain ⟨m,h2⟩:=h2;refine ⟨max n m,?_⟩;rw [runC,zcs,hw,cond_true,ykg (zhd (ky n m)) h1];exact zy8 (zhd (li n m)) h2
theorem Ops.skip {ops:List Oper} {o:Oper} {l:List Oper} {fr fr2:Fr} {s s2:CS} (hw:zc8 ops fr o=false) (h2:Ops P Γ ops l (putC fr o.dst undef) s fr2 s2):Ops P Γ ops (o :: l) fr s fr2 s2:=by
  obtain ⟨m,h2⟩:=h2;refine ⟨m,?_⟩;rw [runC,zcs,hw,cond_false];exact h2
theorem Runs.of {f:mc} {fn:Func} {body:Code} {args vs:List Value} {s s1 s2:CS} {fr':Fr} (hax:Γ.ax f=none) (hf:Γ.fn.at f=some fn) (hb:fn.body=some body) (hl:args.length<=fn.ntmps) {e:Exit} (he:e=.normal\/e=.ret)
    (h:Ev P Γ body (o4 args 0 ⟨fn.ntmps,Tr.all undef 9⟩) s e fr' s1) (hr:resC Γ fr' s1 fn.results.toList=some (vs,s2)):Runs P Γ f args s (tupC vs) s2:=by
  obtain ⟨n,h⟩:=h;refine ⟨n,?_⟩;unfold zfh;rw [hax,hf];simp only [hb];rw [zav.2 hl,zbe,h];rcases he with rfl|rfl<;>simp only [hr]
end
section
variable {P:gn} {Γ:Env}
open Classical in
def zej (P:gn) (Γ:Env):zed:=fun f args s=>if h:∃ r:Value×CS,∃ n,zfh P Γ n f args s=some r then some h.choose else none
theorem zyb {f:mc} {args:List Value} {s:CS} {r:Value×CS} (h:zej P Γ f args s=some r):∃ n,zfh P Γ n f args s=some r:=by
  unfold zej at h;split at h
  . rename_i hx;obtain ⟨n,hn⟩:=hx.choose_spec;simp only [fe] at h;exact ⟨n,by rw [<- h];exact hn⟩
  . simp at h
theorem z8q {f:mc} {args:List Value} {s:CS} {r:Value×CS} {n:Nat} (h:zfh P Γ n f args s=some r):zej P Γ f args s=some r:=by
  unfold zej;have hx:∃ r:Value×CS,∃ n,zfh P Γ n f args s=some r:=⟨r,n,h⟩;rw [dif_pos hx];obtain ⟨m,hm⟩:=hx.choose_spec;have h1:=zhd (P:=P) (Γ:=Γ) (ky n m) f args s _ h;have h2:=zhd (P:=P) (Γ:=Γ) (li n m) f args s _ hm;rw [h1] at h2;exact h2.symm
theorem cop_R {ρ:f7->Value} {o:Oper} {s:CS} {r:Value×CS} (hc:cop P Γ (zej P Γ) ρ o s=some r):∃ n,cop P Γ (zfh P Γ n) ρ o s=some r:=by
  obtain ⟨dst,op,type,pos,after,guard⟩:=o;unfold cop at hc ⊢
  cases op with
  |call c =>
    simp only at hc ⊢;split at hc
    . rename_i f hf;unfold zoh at hc ⊢;split at hc
      . exact zyb hc
      . simp at hc
    . exact ⟨0,hc⟩
    . simp at hc
  |makeMap t r=>cases r<;>exact ⟨0,hc⟩
  |_=>exact ⟨0,hc⟩
theorem yba {ops:List Oper} {o:Oper} {fr:Fr} {s:CS} {r:Fr×CS} (hc:zcs P Γ (zej P Γ) ops o fr s=some r):∃ n,zcs P Γ (zfh P Γ n) ops o fr s=some r:=by
  unfold zcs at hc ⊢
  cases hw:zc8 ops fr o with
  |false=>rw [hw] at hc;exact ⟨0,hc⟩
  |true =>
    rw [hw] at hc;simp only [cond_true] at hc ⊢;split at hc
    . rename_i h1;obtain ⟨n,hn⟩:=cop_R h1;exact ⟨n,by rw [hn];exact hc⟩
    . simp at hc
theorem yij {ops:List Oper}:∀ {l:List Oper} {fr:Fr} {s:CS} {r:Fr×CS},runC P Γ (zej P Γ) ops l fr s=some r->∃ n,runC P Γ (zfh P Γ n) ops l fr s=some r
  |[],_,_,_,hc=>⟨0,hc⟩
  |o :: l,fr,s,r,hc=>by
    simp only [runC] at hc ⊢;split at hc
    . rename_i h1;obtain ⟨n,hn⟩:=yba h1;obtain ⟨m,hm⟩:=yij hc;refine ⟨max n m,?_⟩;rw [zsf (zhd (ky n m)) hn];exact zy8 (zhd (li n m)) hm
    . simp at hc
theorem yel {ops:List Oper}:∀ {l:List Oper} {fr:Fr} {s:CS} {r:List Lg×Fr×CS},drawC P Γ (zej P Γ) ops l fr s=some r->∃ n,drawC P Γ (zfh P Γ n) ops l fr s=some r
  |[],_,_,_,hc=>⟨0,hc⟩
  |o :: l,fr,s,r,hc=>by
    simp only [drawC] at hc ⊢;split at hc
    . rename_i h1;obtain ⟨n,hn⟩:=yba h1;split at hc
      . rename_i h2;obtain ⟨m,hm⟩:=yel h2;refine ⟨max n m,?_⟩;rw [zsf (zhd (ky n m)) hn];simp only;rw [zz4 (zhd (li n m)) hm];exact hc
      . simp at hc
    . simp at hc
def W (P:gn) (Γ:Env) (c:Code) (fr:Fr) (s:CS) (Q:Exit->Fr->CS->Prop):Prop:=∃ e fr' s',Ev P Γ c fr s e fr' s'/\Q e fr' s'
def onN (k:Fr->CS->Prop) (Q:Exit->Fr->CS->Prop) (e:Exit) (fr:Fr) (s:CS):Prop:=match e with
  |.normal=>k fr s
  |e=>Q e fr s
def onB (id:Nat) (Q:Exit->Fr->CS->Prop) (e:Exit) (fr:Fr) (s:CS):Prop:=match e with
  |.exit i=>bif fy i id then Q .normal fr s else Q (.exit i) fr s
  |e=>Q e fr s
theorem W.mono {c:Code} {fr:Fr} {s:CS} {Q R:Exit->Fr->CS->Prop} (h:W P Γ c fr s Q) (k:∀ e fr s,Q e fr s->R e fr s):W P Γ c fr s R:=by
  obtain ⟨e,fr',s',h1,h2⟩:=h;exact ⟨e,fr',s',h1,k _ _ _ h2⟩
theorem W.skip {fr:Fr} {s:CS} {Q:Exit->Fr->CS->Prop} (h:Q .normal fr s):W P Γ .skip fr s Q:=⟨_,_,_,Ev.skip fr s,h⟩
theorem W.ret {fr:Fr} {s:CS} {Q:Exit->Fr->CS->Prop} (h:Q .ret fr s):W P Γ .ret fr s Q:=⟨_,_,_,Ev.ret fr s,h⟩
theorem W.exit {id:Nat} {fr:Fr} {s:CS} {Q:Exit->Fr->CS->Prop} (h:Q (.exit id) fr s):W P Γ (.exit id) fr s Q:=⟨_,_,_,Ev.exit id fr s,h⟩
theorem W.label {l:Nat} {fr:Fr} {s:CS} {Q:Exit->Fr->CS->Prop} (h:Q .normal fr s):W P Γ (.label l) fr s Q:=⟨_,_,_,⟨1,rfl⟩,h⟩
theorem W.seq {a b:Code} {fr:Fr} {s:CS} {Q:Exit->Fr->CS->Prop} (h:W P Γ a fr s (onN (fun fr s=>W P Γ b fr s Q) Q)):W P Γ (.seq a b) fr s Q:=by
  obtain ⟨e,fr1,s1,h1,h2⟩:=h
  cases e with
  |normal =>
    obtain ⟨e2,fr2,s2,h3,h4⟩:=h2;exact ⟨_,_,_,Ev.seq h1 h3,h4⟩
  |_=>exact ⟨_,_,_,Ev.seqOut h1 (by simp),h2⟩
theorem W.cond {c:f7} {t f:Code} {fr:Fr} {s:CS} {Q:Exit->Fr->CS->Prop} {b:Bool} (hb:zg6 fr c=.bool b) (h:W P Γ (bif b then t else f) fr s Q):W P Γ (.cond c t f) fr s Q:=by
  obtain ⟨e,fr1,s1,h1,h2⟩:=h;exact ⟨_,_,_,Ev.cond hb h1,h2⟩
theorem W.block {id:Nat} {b:Code} {fr:Fr} {s:CS} {Q:Exit->Fr->CS->Prop} (h:W P Γ b fr s (onB id Q)):W P Γ (.block id b) fr s Q:=by
  obtain ⟨e,fr1,s1,h1,h2⟩:=h;refine ⟨_,_,_,Ev.block h1,?_⟩
  cases e with
  |exit i =>
    simp only [onB] at h2;show Q (bif fy i id then .normal else .exit i) fr1 s1
    cases hq:fy i id with
    |true=>rw [hq] at h2;exact h2
    |false=>rw [hq] at h2;exact h2
  |_=>exact h2
theorem W.scope {b:Code} {fr:Fr} {s:CS} {Q:Exit->Fr->CS->Prop} (h:W P Γ b fr s Q):W P Γ (.scope b) fr s Q:=by
  obtain ⟨e,fr1,s1,h1,h2⟩:=h;exact ⟨_,_,_,Ev.scope h1,h2⟩
theorem W.loop {b:Code} {Q:Exit->Fr->CS->Prop} (I:Nat->Fr->CS->Prop) (hb:∀ n fr s,I n fr s->W P Γ b fr s (onN (fun fr s=>∃ m,m<n/\I m fr s) Q)):∀ n fr s,I n fr s->W P Γ (.loop b) fr s Q:=by
  intro n
  induction n using Nat.strongRecOn with
  |_ n ih =>
    intro fr s hI;obtain ⟨e,fr1,s1,h1,h2⟩:=hb n fr s hI
    cases e with
    |normal =>
      obtain ⟨m,hm,hI'⟩:=h2;obtain ⟨e2,fr2,s2,h3,h4⟩:=ih m hm fr1 s1 hI';exact ⟨_,_,_,Ev.again h1 h3,h4⟩
    |_=>exact ⟨_,_,_,Ev.last h1 (by simp),h2⟩
theorem W.region {id:Nat} {ops:Array Oper} {fr fr':Fr} {s s':CS} {Q:Exit->Fr->CS->Prop} (h:runC P Γ (zej P Γ) ops.toList ops.toList fr s=some (fr',s')) (hq:Q .normal fr' s'):W P Γ (.region id ops false) fr s Q:=by
  obtain ⟨n,hn⟩:=yij h;refine ⟨_,_,_,⟨n+1,?_⟩,hq⟩
  show (match runC P Γ (zfh P Γ n) ops.toList ops.toList fr s with
            |some (fr,s)=>some (mz,fr,s)
            |none=>none)=_
  rw [hn]
theorem W.draw {id:Nat} {ops:Array Oper} {fr fr':Fr} {s s':CS} {logs:List Lg} {Q:Exit->Fr->CS->Prop} (h:drawC P Γ (zej P Γ) ops.toList ops.toList fr s=some (logs,fr',s')) (hc:calm s.n ops.toList logs=true) (hq:Q .normal fr' s'):W P Γ (.region id ops true) fr s Q:=by
  obtain ⟨n,hn⟩:=yel h;refine ⟨_,_,_,⟨n+1,?_⟩,hq⟩
  show (match drawC P Γ (zfh P Γ n) ops.toList ops.toList fr s with
        |some (logs,fr,t)=>bif calm s.n ops.toList logs then some (mz,fr,t) else none
        |none=>none)=_
  rw [hn];simp only [hc,cond_true]
theorem zq9 {f:mc} {fn:Func} {body:Code} {args:List Value} {s s2:CS} {v:Value} (hax:Γ.ax f=none) (hf:Γ.fn.at f=some fn) (hb:fn.body=some body) (hl:args.length<=fn.ntmps)
    (h:W P Γ body (o4 args 0 ⟨fn.ntmps,Tr.all undef 9⟩) s fun e fr' s1=>(e=.normal\/e=.ret)/\∃ vs,resC Γ fr' s1 fn.results.toList=some (vs,s2)/\v=tupC vs):zej P Γ f args s=some (v,s2):=by
  obtain ⟨e,fr1,s1,h1,he,vs,hr,rfl⟩:=h;obtain ⟨n,hn⟩:=Runs.of hax hf hb hl he h1 hr;exact z8q hn
end
section
variable {P:gn} {Γ:Env} {ρ:f7->Value} {s:CS} {d:Option Tmp} {ty:gm} {pos:String} {t t2:gm} {x y:f7}
theorem ygf (d:nf) (k:iu) (n:Int):nilT d (.int k n)=none:=by cases d<;>rfl
theorem yl4 (op:BinOp) (k:iu) (n:Int) (v:Value):eqC Γ t op (.int k n) v=none:=by
  unfold eqC
  cases Γ.ti.at t with
  |none=>rfl
  |some i=>cases op<;>first|rfl | (simp only [ygf];rfl)
theorem z45 (op:BinOp) (k k':iu) (m n:Int):eqGuard op t x y (.int k m) (.int k' n)=pure ():=by
  unfold eqGuard;cases op<;>simp
theorem zb0 {op:BinOp} {k k':iu} {a b:Int} {r:Value} {o:Oper} (ho:o.op=.binOp op t x y t2) (hx:ρ x=.int k a) (hy:ρ y=.int k' b) (w:World)
    (hr:binOp op t (.int k a) (.int k' b)=pure r) (hp:za6 3 r=true):zmj P Γ ρ o s t op (.int k a) (.int k' b)=some (r,s):=by
  unfold zmj
  cases hc:binC op (.int k a) (.int k' b) with
  |some v =>
    have h1:=(z80 (σ:=fun _ _=>none) (P:=P) (t:=t) (x:=x) (y:=y) (w:=w) hc (VR.ofInt _ _) (VR.ofInt _ _)).2.1;rw [hr] at h1;simp at h1
    simp only [h1]
  |none =>
    rw [yl4];simp only [zhp];unfold zm0
    have hops:(o.op.operands.toList.all fun z=>za6 3 (ρ z))=true:=by
      rw [ho];simp [gw,hx,hy,za6]
    rw [hops]
    have he:mm ρ o=pure (.value r):=by
      unfold mm;rw [ho];simp only [hx,hy,z45,hr];simp
    rw [he];simp only [cond_true];show retC s (bif za6 3 r then some r else none)=some (r,s);rw [hp];rfl
variable {e:Array Edge} {g:Option (Nat×Bool)} {k k':iu} {a b:Int}
def inK (k:iu) (n:Int):Prop:=k.wrap n=n
theorem ylz {n:Int} (h:-9223372036854775808<=n/\n<=9223372036854775807):inK .i64 n:=by unfold inK;simp [IntKind.wrap,IntKind.bits,IntKind.signed];omega
theorem zsi {o:Oper} {r:Value} (hops:(o.op.operands.toList.all fun z=>za6 3 (ρ z))=true) (he:mm ρ o=pure (.value r)) (hp:za6 3 r=true):zm0 P ρ o=some r:=by
  unfold zm0;rw [hops,he];simp only [cond_true];show (bif za6 3 r then some r else none)=some r;rw [hp];rfl
theorem ynu (hx:ρ x=.int k a):zhp P ρ ⟨d,.unOp .neg t x,ty,pos,e,g⟩ s (unC .neg (.int k a))=some (.int k (k.wrap (0 - a)),s):=by
  show retC s (zm0 P ρ _)=_;rw [zsi (r:=.int k (k.wrap (0 - a)))]
  . rfl
  . simp [gw,hx,za6]
  . simp [mm,hx,Op.unary,Op.intArith]
  . rfl
theorem ynt (hx:ρ x=.int k a):zhp P ρ ⟨d,.unOp .xor t x,ty,pos,e,g⟩ s (unC .xor (.int k a))=some (.int k (k.wrap (i8 k.bits (if k.signed then -1 else k.max) ^^^ i8 k.bits a).toNat),s):=by
  show retC s (zm0 P ρ _)=_;rw [zsi (r:=.int k (k.wrap (i8 k.bits (if k.signed then -1 else k.max) ^^^ i8 k.bits a).toNat))]
  . rfl
  . simp [gw,hx,za6]
  . simp [mm,hx,Op.unary,Op.intBits]
  . rfl
theorem zhc {α β:Type} {f:α->Sem β}:∀ {m:Sem α} {v:α},za7 P m=some v->za7 P (m >>= f)=za7 P (f v):=by
  intro m
  induction m with
  |pure a=>intro v h;simp only [za7,fe] at h;subst h;rfl
  |program k ih=>intro v h;exact ih P h
  |_=>intro v h;simp [za7] at h
theorem zcg {dt:nf} (h:P.underlying t=some dt):za7 P (underlying t)=some dt:=by
  unfold underlying;show za7 P ((program:Sem gn) >>= _)=_;rw [zhc (v:=P) rfl];rw [h];rfl
theorem yny {src dst:gm} (hx:∃ k,ρ x=.int k a) (hs:(P.underlying src).isSome=true) (hd:P.underlying dst=some (.int k')):zhp P ρ ⟨d,.convert src dst x,ty,pos,e,g⟩ s (z95 k' a)=some (.int k' (k'.wrap a),s):=by
  obtain ⟨k,hx⟩:=hx;obtain ⟨sd,hs⟩:=Option.isSome_iff_exists.1 hs
  have h:za7 P (convert src dst (.int k a))=some (.int k' (k'.wrap a)):=by
    unfold convert;rw [zhc (zcg hs),zhc (zcg hd)];cases sd<;>rfl
  cases hc:z95 k' a with
  |some v =>
    unfold z95 at hc;split at hc
    . obtain ⟨h1,rfl⟩:=zei hc;have:=zif k' _ (zad.1 h1);simp only [zhp];rw [<- this];rfl
    . simp at hc
  |none =>
    show retC s (zm0 P ρ _)=_;unfold zm0;rw [show (((⟨d,.convert src dst x,ty,pos,e,g⟩:Oper).op.operands.toList.all fun z=>za6 3 (ρ z))=true) by simp [gw,hx,za6]]
    have he:za7 P (mm ρ ⟨d,.convert src dst x,ty,pos,e,g⟩)=some (.value (.int k' (k'.wrap a))):=by
      unfold mm;simp only [hx];rw [zhc h];rfl
    rw [he];rfl
end
section
variable {P:gn} {Γ:Env} {call:zed} {ops l:List Oper} {o:Oper} {fr:Fr} {s:CS}
variable {ρ:f7->Value} {d:Option Tmp} {ty:gm} {pos:String} {e:Array Edge} {g:Option (Nat×Bool)}
end
def Fr.of (n:Nat) (f:Nat->Value):Fr:=⟨n,Tr.of f 9 0 1⟩
theorem get_of (n:Nat) (f:Nat->Value) (t:Nat) (h:t<512):(Fr.of n f).get t=f t:=by
  unfold Fr.get Fr.of;rw [zad.2 h,zbe,Tr.get_of f 9 0 1 t (by simpa using h)];simp
theorem yor (n:Nat):(⟨n,Tr.all undef 9⟩:Fr)=Fr.of n fun _=>undef:=by
  unfold Fr.of;refine congrArg (Fr.mk n) ?_
  have:∀ d k w,Tr.all undef d=Tr.of (fun _=>undef) d k w:=by
    intro d
    induction d with
    |zero=>intro k w;rfl
    |succ d ih =>
      intro k w;exact congr (congrArg Prod.mk (ih k (2*w))) (ih (k+w) (2*w))
  exact this 9 0 1
section
variable {P:gn} {Γ:Env}
theorem yhe {f:mc} {fn:Func} {body:Code} {args:List Value} {s:CS} {r:Value×CS} (n:Nat) (hax:Γ.ax f=none) (hf:Γ.fn.at f=some fn) (hb:fn.body=some body) (hn:fn.ntmps=n) (hl:args.length<=n)
    (h:W P Γ body (o4 args 0 (Fr.of n fun _=>undef)) s fun e fr' s1=>(e=.normal\/e=.ret)/\∃ vs,resC Γ fr' s1 fn.results.toList=some (vs,r.2)/\r.1=tupC vs):zej P Γ f args s=some r:=by
  subst hn;refine zq9 (v:=r.1) (s2:=r.2) hax hf hb hl ?_;rw [yor];exact h
end
def vb (x:UInt8):Value:=.int .u8 (x.toNat:Int)
theorem wrap64 (n:Nat):IntKind.u64.wrap (n:Int)=((n % 18446744073709551616:Nat):Int):=by simp [IntKind.wrap,IntKind.bits,IntKind.signed]
section
variable {P:gn} {Γ:Env} {ρ:f7->Value} {s:CS} {d:Option Tmp} {ty:gm} {pos:String} {t t2:gm} {x y:f7} {e:Array Edge} {g:Option (Nat×Bool)}
end
section
variable {P:gn} {Γ:Env} {call:zed} {ops l:List Oper} {o:Oper} {fr:Fr} {s:CS}
def ym8 {α:Type} (n0:Nat) (s:CS) (r:Option (Fr×CS)) (k:Fr->CS->Option α):Option α:=match r with
  |some (fr,t)=>bif t.wr.isEmpty && t.rd.all fun f=>ic f n0 then k fr (s.outer t) else none
  |none=>none
def z1d (P:gn) (Γ:Env) (call:zed) (ops:List Oper) (n0:Nat):List Oper->Fr->CS->Option (Fr×CS)
  |[],fr,s=>some (fr,s)
  |o :: l,fr,s=>ym8 n0 s (zcs P Γ call ops o fr s.inner) (z1d P Γ call ops n0 l)
theorem zx4 {n0:Nat}:∀ {l:List Oper} {fr fr':Fr} {s s':CS},z1d P Γ call ops n0 l fr s=some (fr',s')->∃ logs,drawC P Γ call ops l fr s=some (logs,fr',s')/\logs.all (fun x=>x.wr.isEmpty && x.rd.all fun f=>ic f n0)=true
  |[],fr,fr',s,s',h=>by
    simp only [z1d,fe,fm] at h;obtain ⟨rfl,rfl⟩:=h;exact ⟨[],rfl,rfl⟩
  |o :: l,fr,fr',s,s',h=>by
    simp only [z1d,ym8] at h;split at h
    . rename_i fr1 t h1
      cases hq:t.wr.isEmpty && t.rd.all fun f=>ic f n0 with
      |false=>rw [hq] at h;simp at h
      |true =>
        rw [hq] at h;simp only [cond_true] at h;obtain ⟨logs,h2,h3⟩:=zx4 h;refine ⟨⟨t.rd,t.wr,s.n,t.n⟩ :: logs,?_,?_⟩
        . simp only [drawC,h1,h2]
        . rw [jn,h3,n6];exact hq
    . simp at h
theorem W.quiet {id:Nat} {ops:Array Oper} {fr fr':Fr} {s s':CS} {Q:Exit->Fr->CS->Prop} (h:z1d P Γ (zej P Γ) ops.toList s.n ops.toList fr s=some (fr',s')) (hq:Q .normal fr' s'):W P Γ (.region id ops true) fr s Q:=by
  obtain ⟨logs,h1,h2⟩:=zx4 h;refine W.draw h1 ?_ hq;unfold calm;rw [h2];rfl
end
def fupd (g:Nat->Fam) (i:Nat) (x:Fam):Nat->Fam:=fun j=>if j=i then x else g j
theorem zgv (g:Nat->Fam) (i:Nat) (x:Fam):fupd g i x i=x:=zAc rfl
theorem zjv (g:Nat->Fam) (i j:Nat) (x:Fam) (h:j≠i):fupd g i x j=g j:=zAd h
abbrev St (n:Nat) (g:Nat->Fam) (lim:Nat) (rd wr:List Nat):CS:=⟨n,.inr g,lim,rd,wr⟩
theorem zpu (g:Nat->Fam) (i:Nat):zaa (.inr g) i=g i:=f6 rfl rfl
theorem zhb (g:Nat->Fam) (i:Nat) (x:Fam):zbi (.inr g) i x=.inr (fupd g i x):=by
  show Sum.inr _=Sum.inr _;congr 1;funext j;rw [zcl];unfold fupd;by_cases h:j=i
  . rw [zAc h,zAc (by subst h;exact ja j)]
  . rw [zAd h,zAd (fun k=>h (fl k))]
section
variable {n lim n':Nat} {g g':Nat->Fam} {rd wr:List Nat}
theorem yi1 {m f:Nat} (l:List Nat) (h:m<=f):ins m l f=l:=by
  unfold ins
  cases hb:ic f m with
  |false=>rfl
  |true=>exact absurd (zad.1 hb) (by omega)
theorem z1s {tag:Nat} {cs:List Value}:qy (St n g lim rd wr) tag cs=some (mkA n (n*1024+tag) 0,St (n+1) (fupd g n ⟨false,[(n*1024+tag,cs)],none⟩) lim rd wr):=by
  unfold qy;show sel true _ _=_;rw [zbe,zhb]
theorem z9e {a : Addr} : ol (St n g lim rd wr) a = match zbp (g a.block).rows (Addr.ver a) with
    |some cs=>some (cs,St n g lim (ins lim rd a.block) wr)
    |none=>none:=rfl
theorem z05 {u:Nat} {cs:List Value}:zbp [(u,cs)] u=some cs:=by
  unfold zbp;rw [ja];rfl
theorem zl4 {f u off:Nat}:(mkA f u off).block=f:=f6 rfl rfl
theorem zrt {f u off:Nat}:(mkA f u off).off=off:=f6 rfl rfl
theorem zjm {f u off:Nat}:Addr.ver (mkA f u off)=u:=f6 rfl rfl
theorem zjt {f u off k:Nat}:Addr.plus (mkA f u off) k=mkA f u (off+k):=f6 rfl rfl
end
section
def famK:List (Nat×List Value)->Nat->Fam
  |[],_=>ze7
  |(g,cs) :: l,f=>if f=g then ⟨true,[(g*1024,cs)],none⟩ else famK l f
def ymx (w:World) (K:List (Nat×List Value)):Prop :=
  ∀ p,p∈K->p.1<w.heap.size/\∀ (j:Nat) (u:Value),p.2[j]?=some u->w.cell? ⟨p.1,j,none⟩=some u/\za6 3 u=true
open Classical in
theorem zuy:∀ {K:List (Nat×List Value)} {f:Nat} {p:Nat×List Value},p∈(famK K f).rows->p.1=f*1024/\(f,p.2)∈K/\(famK K f).rows=[p]
  |[],f,p,h=>by simp [famK,ze7] at h
  |(g,cs) :: l,f,p,h=>by
    simp only [famK] at h ⊢;split at h
    . rename_i hf;subst hf;simp only [List.mem_singleton] at h;subst h;simp
    . rename_i hf;obtain ⟨h1,h2,h3⟩:=zuy h;rw [zAd hf];exact ⟨h1,np _ h2,h3⟩
section
variable {P:gn}
end
end
structure AxOk (P:gn) (G:List Nat) (f:Nat) (h:List Value->CS->Option (Value×CS)):Prop where
  can:∀ args s v s',h args s=some (v,s')->CInv s->Can s s'
  ok:∀ (args:List Value) (args':Array Value) s v s' w σ V,h args s=some (v,s')->RL (VR σ) args args'.toList->Rel σ V s w->zcm V s'->ze8 σ s.n s'.n->CInv s->zj0 G σ ->
    (callFunc f args').run P w=.ok (.enter f args') w/\Calls P f args' w fun e w'=>∃ σ' v',e=.returned v'/\VR σ' v v'/\Rel σ' V s' w'/\Ext σ V s w σ' s' w'
structure zqp (P:gn) (G L:List Nat) (ax:Axs):Prop where
  fns:∀ f h,ax f=some h->AxOk P G f h
  its:z3o P L
section
variable {P:gn} {G L:List Nat} {ax:Axs}
theorem zqp.can (h:zqp P G L ax):zie (axC (zhs P L ax)):=by
  intro f args s v s' hc hI;unfold axC at hc;change (match ax f with|some k=>k args s|none=>none)=_ at hc
  cases hq:ax f with
  |none=>rw [hq] at hc;simp at hc
  |some k=>rw [hq] at hc;exact (h.fns f k hq).can args s v s' hc hI
theorem zqp.call (h:zqp P G L ax):zr5 P G (axC (zhs P L ax)):=by
  intro f args args' s v s' w σ V hc hl hr hV hF hI hG;unfold axC at hc;change (match ax f with|some k=>k args s|none=>none)=_ at hc
  cases hq:ax f with
  |none=>rw [hq] at hc;simp at hc
  |some k=>rw [hq] at hc;exact ⟨f,(h.fns f k hq).ok args args' s v s' w σ V hc hl hr hV hF hI hG⟩
theorem zqp.none (hIt:z3o P L):zqp P G L fun _=>none:=⟨fun f h hq=>by simp at hq,hIt⟩
def ye9 (f:Nat) (h:List Value->CS->Option (Value×CS)) (ax:Axs):Axs:=fun k=>if k=f then some h else ax k
theorem yab (f:Nat) (h:List Value->CS->Option (Value×CS)) (ax:Axs):ye9 f h ax f=some h:=zAc rfl
theorem yhl {f k:Nat} (h:List Value->CS->Option (Value×CS)) (ax:Axs) (hk:k≠f):ye9 f h ax k=ax k:=zAd hk
theorem zqp.add {f:Nat} {h:List Value->CS->Option (Value×CS)} (h1:zqp P G L ax) (h2:AxOk P G f h):zqp P G L (ye9 f h ax):=by
  refine ⟨fun k u hu=>?_,h1.its⟩;unfold ye9 at hu;split at hu
  . rename_i hk;subst hk;simp only [fe] at hu;subst hu;exact h2
  . exact h1.fns k u hu
theorem Rel.below {σ:Sg} {V:Nat->Prop} {s:CS} {w w':World} (h:Rel σ V s w) (b:Below w.heap.size w w'):Rel σ V s w' :=
  ⟨h.inj,fun f u b' o z k=>gr (h.lt f u b' o z k) b.size,fun f hf=>(h.fam f hf).move (fun _ _ _ k=>k) (fun _ _=>rfl) fun u b' o z k=>b.block b' (h.lt f u b' o z k),h.none,h.vers⟩
theorem Ext.below (σ:Sg) (V:Nat->Prop) (s:CS) {w w':World} (b:Below w.heap.size w w'):Ext σ V s w σ s w' :=
  ⟨fun _ _ _ h=>h,fun _ _ h k=>absurd h k,fun _ _ _ _ _ h k=>by rw [h] at k;simp at k,b.size,fun k hk _=>b.block k hk,b.os,b.tape,b.output⟩
theorem z74 (hL:zng P G L=true) {f:Nat} {fn:Func} {body:Code} (hfn:(zhs P L ax).fn.at f=some fn) (hb:fn.body=some body) (args':Array Value) (w:World):(callFunc f args').run P w=.ok (.enter f args') w:=by
  obtain ⟨hok,hfun⟩:=yec hL hfn;unfold z7u at hok;simp only [fj] at hok;have hne : ¬ fn.name = "runtime.NumGoroutine" := by simpa using hok.1.2
  simp [callFunc,hfun,hne,hb]
def z3i (v:Value):List Value->CS->Option (Value×CS):=fun args s=>match args with
  |[]=>some (v,s)
  |_ :: _=>none
theorem yon (hL:zng P G L=true) {f:Nat} {fn:Func} {body:Code} (hfn:(zhs P L ax).fn.at f=some fn) (hb:fn.body=some body) {v:Value} (hv:za6 3 v=true) (hc:∀ w,Calls P f #[] w fun e w'=>e=.returned v/\Below w.heap.size w w'):AxOk P G f (z3i v):=by
  refine ⟨?_,?_⟩
  . intro args s v' s' h _
    cases args with
    |nil=>simp only [z3i,fe,fm] at h;rw [<- h.2];exact jp _
    |cons a l=>simp [z3i] at h
  . intro args args' s v' s' w σ V h hl hr hV hF hI hG
    cases args with
    |cons a l=>simp [z3i] at h
    |nil =>
      simp only [z3i,fe,fm] at h;obtain ⟨rfl,rfl⟩:=h;obtain ⟨args'⟩:=args'
      cases args' with
      |cons a l=>exact hl.elim
      |nil =>
        refine ⟨z74 hL hfn hb _ _,(hc w).mono ?_⟩;rintro e w' ⟨rfl,b⟩;exact ⟨σ,_,rfl,zia 3 hv,hr.below b,Ext.below σ V s b⟩
def CS.fn (s:CS):CS:=⟨s.n,.inr (zaa s.obj),s.lim,s.rd,s.wr⟩
theorem CInv.fn {s:CS} (h:CInv s):CInv s.fn:=⟨fun f hf=>h.none f hf,fun f p hp=>h.vers f p hp,h.lim⟩
theorem Rel.fn {σ:Sg} {V:Nat->Prop} {s:CS} {w:World} (h:Rel σ V s w):Rel σ V s.fn w:=⟨h.inj,h.lt,fun f hf=>h.fam f hf,fun f hf=>h.none f hf,fun f p hp=>h.vers f p hp⟩
structure Con (P:gn) (Γ:Env) (f:Nat) (args:List Value) (s:CS) (v:Value) (s':CS):Prop where
  plain:za6 3 v=true
  obj:s'.obj=s.obj
  lim:s'.lim=s.lim
  wr:s'.wr=s.wr
  rd:∀ x,x∈s.rd->x∈s'.rd
  n:s.n<=s'.n
  run:∃ s1,zej P Γ f args s.fn=some (v,s1)/\s1.n<=s'.n/\(∀ x,x∈s1.rd->x∈s'.rd)/\(∀ x,x∈s1.wr->x∈s.wr)/\∀ f,f<s.n->zaa s1.obj f=zaa s.obj f
theorem yhc (hm:P.follows .mixedOrders=true) (hL:zng P G L=true) (hx:zqp P G L ax) {f:Nat} {fn:Func} {body:Code} (hfn:(zhs P L ax).fn.at f=some fn) (hb:fn.body=some body) {args:List Value} {args':Array Value} {s s':CS} {v:Value} {w:World} {σ:Sg}
    (h:zej P (zhs P L ax) f args s=some (v,s')) (hl:RL (VR σ) args args'.toList) (hr:Rel σ (fun _=>True) s w) (hF:∀ f u p,σ f u=some p->f<s.n/\u / 1024<s.n/\(zaa s.obj f).ro=true) (hI:CInv s) (hG:zj0 G σ) :
    Calls P f args' w fun e w'=>∃ σ' v',e=.returned v'/\VR σ' v v'/\Below w.heap.size w w':=by
  have hA:zie (axC (zhs P L ax)):=hx.can;have hB:zr5 P G (axC (zhs P L ax)):=hx.call;obtain ⟨n,hn⟩:=zyb h
  have hFr:ze8 σ s.n s'.n:=by
    intro g u hgu
    cases hq:σ g u with
    |none=>rfl
    |some p=>have:=hF g u p hq;omega
  obtain ⟨x,h1,h2⟩:=ye2 hA hx.its hB hL (ymc hm hA hx.its hB hL n).1 f args args' s v s' w σ _ hn hl hr (fun _ _=>trivial) hFr hI hG;have he:=z74 (ax:=ax) hL hfn hb args' w;rw [he] at h1;have hx:x=f:=by simp_all
  subst hx;refine h2.mono ?_;rintro e w' ⟨σ',v',rfl,k1,k2,k3⟩;exact ⟨σ',v',rfl,k1,k3.st.1,k3.st.2.1,k3.st.2.2,k3.size,fun k hk=>k3.frame k hk fun g u o z hs=>.inr (hF g u _ hs).2.2⟩
end
theorem zhe {m n:Nat} (h:m<=n):h9 m n=true:=zav.2 h
theorem zvb {m n:Nat} (h:n<m):h9 m n=false:=by
  cases hb:h9 m n with
  |false=>rfl
  |true=>exact absurd (zav.1 hb) (by omega)
theorem z8v {m n:Nat} (h:m<n):ic m n=true:=zad.2 h
theorem zye {m n:Nat} (h:n<=m):ic m n=false:=by
  cases hb:ic m n with
  |false=>rfl
  |true=>exact absurd (zad.1 hb) (by omega)
theorem zh3 {m n:Nat} (h:m=n):fy m n=true:=by subst h;exact ja m
theorem zi0 {m n:Nat} (h:m≠n):fy m n=false:=by
  cases hb:fy m n with
  |false=>rfl
  |true=>exact absurd (fl hb) h
theorem yhj {len cap l:Nat} {a:Value} (ha:zhq a=some l) (h1:l<=len) (h2:len<=cap):zb2 len cap (some a) none none=some (l,len,cap):=by
  simp [zb2,ha,zhe h1,zhe h2,zhe (fp cap)]
theorem z98 {len cap:Nat} (h2:len<=cap):zb2 len cap none none none=some (0,len,cap):=by
  simp [zb2,zhe (Nat.zero_le len),zhe h2,zhe (fp cap)]
section
variable {P:gn} {Γ:Env} {ρ:f7->Value} {o:Oper} {s:CS} {n lim:Nat} {g:Nat->Fam} {rd wr:List Nat}
theorem yof {l:List Value} {off k:Nat} (h:off+k<=l.length):cut l off k=some ((l.drop off).take k):=by
  unfold cut;have:((l.drop off).take k).length=k:=by simp;omega
  simp only [this,ja,cond_true]
theorem zp9 {f u off len cap e k:Nat} {cs:List Value} (hr:zbp (g f).rows u=some cs) (hk:off+k*e<=cs.length) (hl:lim<=f) :
    j0 (St n g lim rd wr) e k (.slice (some (mkA f u off)) len cap)=some ((cs.drop off).take (k*e),St n g lim rd wr):=by
  unfold j0;simp only
  cases hz:fy (k*e) 0 with
  |true=>simp [fl hz]
  |false =>
    simp only [cond_false,z9e,zjm,zl4,hr,zrt,yof hk,yi1 rd hl]
theorem z91 {x:Option Addr} {len cap e k:Nat} (h0:k*e=0):j0 s e k (.slice x len cap)=some ([],s):=by
  unfold j0;simp only [zh3 h0,cond_true]
theorem yee {b:ByteArray} {k:Nat} (h:k<=b.size):j0 s 1 k (.string b)=some (zi6 (b.extract 0 k),s):=by
  unfold j0;simp [zhe h]
def OwnR (m:Nat) (g:Nat->Fam) (n e:Nat) (ao:Option Addr) (len:Nat) (cells:List Value):Prop :=
  cells.length=len*e/\((ao=none/\len=0)\/∃ f u rest,ao=some (mkA f u 0)/\g f=⟨false,(u,cells) :: rest,none⟩/\m<=f/\f<n/\u / 1024<n/\u % 1024=e+1)
theorem OwnR.nil (m:Nat) (g:Nat->Fam) (n e:Nat):OwnR m g n e none 0 []:=⟨by simp,.inl ⟨rfl,rfl⟩⟩
theorem OwnR.keep {m n' e len:Nat} {g':Nat->Fam} {ao:Option Addr} {cells:List Value} (h:OwnR m g n e ao len cells) (hg:∀ i,m<=i->i<n->g' i=g i) (hn:n<=n'):OwnR m g' n' e ao len cells:=by
  obtain ⟨h1,h⟩:=h;refine ⟨h1,h.imp id ?_⟩;rintro ⟨f,u,rest,k1,k2,k3,k4,k5,k6⟩;exact ⟨f,u,rest,k1,by rw [hg f k3 k4];exact k2,k3,by omega,by omega,k6⟩
structure Made (n:Nat) (g:Nat->Fam) (e:Nat) (ao:Option Addr) (len:Nat) (cells:List Value) (n':Nat) (g':Nat->Fam):Prop where
  own:OwnR n g' n' e ao len cells
  le:n<=n'
  old:∀ i,i<n->g' i=g i
theorem OwnR.first {m e len k:Nat} {ao:Option Addr} {cells:List Value} (h:OwnR m g n e ao len cells) (hl:lim<=m) (hk:k<=len):j0 (St n g lim rd wr) e k (.slice ao len len)=some (cells.take (k*e),St n g lim rd wr):=by
  obtain ⟨h1,h⟩:=h;rcases h with ⟨rfl,rfl⟩|⟨f,u,rest,rfl,k2,k3,k4,k5,k6⟩
  . have:k=0:=by omega
    subst this;rw [z91 (by simp)];simp
  . have hkl:k*e<=len*e:=lr e hk;rw [zp9 (cs:=cells) (by rw [k2];simp [zbp,ja]) (by omega) (by omega)];simp
theorem OwnR.append {m e len k bytes:Nat} {ao:Option Addr} {cells xs:List Value} {y:Value} {rd':List Nat} (h:OwnR m g n e ao len cells) (hm:m<=n) (hl:lim<=m) (hlen:lenC y=some k) (hy:j0 (St n g lim rd wr) e k y=some (xs,St n g lim rd' wr)) (hx:xs.length=k*e) (ho:xs.all oneC=true) (he:0<e/\e<1000)
    (hb:(len+k)*(bytes+1)<=1000000000) :
    ∃ ao' n' g',mv (St n g lim rd wr) e bytes ao len len y=some (.slice ao' (len+k) (len+k),St n' g' lim rd' wr)/\OwnR m g' n' e ao' (len+k) (cells++xs)/\n<=n'/\n'<=n+1/\∀ i,i<m->g' i=g i:=by
  have c1:(ic 1000000000 ((len+k)*(bytes+1)) || fy e 0 || h9 1000 e || not (xs.all oneC))=false:=by
    rw [zye hb,zi0 (by omega),zvb (by omega),ho];rfl
  obtain ⟨h1,h⟩:=h;rcases h with ⟨rfl,rfl⟩|⟨f,u,rest,rfl,k2,k3,k4,k5,k6⟩
  . have hc:cells=[]:=by simpa using h1
    subst hc
    cases hk:fy k 0 with
    |true =>
      have:=fl hk;subst this;have hx0:xs=[]:=by simpa using hx
      subst hx0;refine ⟨none,n,g,?_,OwnR.nil _ _ _ _,fp _,by omega,fun _ _=>rfl⟩;unfold mv;rw [hlen];simp only [hy,c1,cond_false,hk,cond_true]
    |false =>
      refine ⟨some (mkA n (n*1024+(e+1)) 0),n+1,fupd g n ⟨false,[(n*1024+(e+1),xs)],none⟩,?_,⟨by simpa using hx,.inr ⟨n,_,[],rfl,?_,hm,by omega,by omega,by omega⟩⟩,by omega,by omega,fun i hi=>zjv _ _ _ _ (by omega)⟩
      . unfold mv;rw [hlen];simp only [hy,c1,cond_false,hk,z1s,zhz]
      . rw [zgv];simp
  . cases hk:fy k 0 with
    |true =>
      have:=fl hk;subst this;have hx0:xs=[]:=by simpa using hx
      subst hx0;refine ⟨_,n,g,?_,⟨by simpa using h1,.inr ⟨f,u,rest,rfl,by simpa using k2,k3,k4,k5,k6⟩⟩,fp _,by omega,fun _ _=>rfl⟩;unfold mv;rw [hlen];simp only [hy,c1,cond_false];rw [zhe (by omega)];simp only [cond_true,hk];rfl
    |false =>
      have hk0:k≠0:=fun h=>by rw [h] at hk;simp at hk
      have hfl:lim<=f:=by omega
      have hold:(bif fy len 0 then some ([],St n g lim rd' wr) else j0 (St n g lim rd' wr) e len (.slice (some (mkA f u 0)) len len))=some (cells,St n g lim rd' wr):=by
        cases hz:fy len 0 with
        |true =>
          have:=fl hz;subst this;have:cells=[]:=by simpa using h1
          rw [this];rfl
        |false =>
          rw [cond_false,zp9 (cs:=cells) (by rw [k2];simp [zbp,ja]) (by omega) hfl];rw [gp,ij (by omega)]
      refine ⟨some (mkA f (n*1024+(e+1)) 0),n+1,fupd g f ⟨false,(n*1024+(e+1),cells++xs) :: (u,cells) :: rest,none⟩,?_,⟨by rw [fx,h1,hx,jm],.inr ⟨f,_,(u,cells) :: rest,rfl,?_,k3,by omega,by omega,by omega⟩⟩,by omega,by omega,fun i hi=>zjv _ _ _ _ (by omega)⟩
      . unfold mv;rw [hlen];simp only [hy,c1,cond_false];rw [zvb (by omega)];simp only [cond_false,hold,zjm];rw [zi0 (by omega),zh3 k6];simp only [cond_false,cond_true];unfold CS.grow;show (match (g f).ro,zbp (g f).rows u with|false,some cs=>_|_,_=>none)=_;rw [k2];simp only;have hrow:zbp ((u,cells) :: rest) u=some cells:=by simp [zbp,ja]
        rw [hrow];simp only;rw [zh3 (show (mkA f u 0).off+len*e=cells.length by rw [zrt];omega),zbe,zl4,zhb]
        have hd:zgw (zaa (.inr g) f).rows u=(u,cells) :: rest:=by
          rw [zpu,k2];simp [zgw,ja]
        rw [zjm,hd,yi1 wr hfl]
      . rw [zgv]
theorem ycs {x y:f7} {t tx:gm} (hs:srcT Γ tx=true):zfy P Γ ρ o s .append [x,y] [t,tx]=zc2 Γ s t (ρ y) (ρ x):=by
  show sel (srcT Γ tx) _ none=_;rw [hs];rfl
end
section
variable {P:gn} {Γ:Env} {ρ:f7->Value} {s:CS} {d:Option Tmp} {ty:gm} {pos:String} {t t2:gm} {x y:f7} {e:Array Edge} {g:Option (Nat×Bool)}
theorem zzl (d:nf) (a:ByteArray):nilT d (.string a)=none:=by cases d<;>rfl
theorem z1q (d:nf) (a:Bool):nilT d (.bool a)=none:=by cases d<;>rfl
theorem z73 {op:BinOp} {v w:Value} (h:∀ d,nilT d v=none):eqC Γ t op v w=none:=by
  unfold eqC
  cases Γ.ti.at t with
  |none=>rfl
  |some i=>cases op<;>first|rfl | (simp only [h];rfl)
theorem zm5 {op:BinOp} {v w r:Value} {o:Oper} (ho:o.op=.binOp op t x y t2) (hx:ρ x=v) (hy:ρ y=w) (hc:binC op v w=none) (hn:∀ d,nilT d v=none) (hpv:za6 3 v=true) (hpw:za6 3 w=true) (hg:eqGuard op t x y v w=pure ())
    (hr:za7 P (binOp op t v w)=some r) (hp:za6 3 r=true):zmj P Γ ρ o s t op v w=some (r,s):=by
  unfold zmj;rw [hc];simp only;rw [z73 hn];simp only [zhp];unfold zm0
  have hops:(o.op.operands.toList.all fun z=>za6 3 (ρ z))=true:=by
    rw [ho];simp [gw,hx,hy,hpv,hpw]
  rw [hops]
  have he:mm ρ o=(do pure (.value (<- binOp op t v w))):=by
    unfold mm;rw [ho];simp only [hx,hy,hg];simp
  rw [he]
  have hv:za7 P (do pure (Next.value (<- binOp op t v w)))=some (.value r):=by
    rw [zhc hr];rfl
  simp only [cond_true];rw [hv];show retC s (bif za6 3 r then some r else none)=some (r,s);rw [hp];rfl
theorem ya5 (a b:ByteArray):(a.toList == b.toList)=decide (a=b):=by
  rw [ByteArray.toList_eq,ByteArray.toList_eq];by_cases h:a=b
  . subst h;simp
  . rw [zAb h,beq_eq_false_iff_ne];intro k;apply h;apply ByteArray.ext;exact Array.toList_inj.1 k
theorem zmd {a b:Bool} (hd:P.underlying t=some .bool):za7 P (Op.equal t (.bool a) (.bool b))=some (a == b):=by
  unfold Op.equal;show za7 P (Op.equalIn (_+1) t (.bool a) (.bool b))=_;unfold Op.equalIn;rw [zhc (zcg hd)];rfl
theorem yll {v w:Value} {b:Bool}:zw3 s v w (.bool b)=some (bif b then v else w,s):=f6 rfl rfl
variable {k k':iu} {a b:Int} {tys:Array gm}
theorem o_max (hx:ρ x=.int k a) (hy:ρ y=.int k' b):zfy P Γ ρ ⟨d,.call ⟨.builtin .max,#[x,y],tys⟩,ty,pos,e,g⟩ s .max [x,y] tys.toList=some (.int k (max a b),s):=by
  show retC s (zm0 P ρ _)=_;have hm:max a b=if b > a then b else a:=by rw [Int.max_def];split<;>split<;>omega
  rw [hm,zsi (r:=.int k (if b > a then b else a))]
  . rfl
  . show (za6 3 (ρ x) && (za6 3 (ρ y) && true))=true;rw [hx,hy];rfl
  . simp [mm,hx,hy,resolve,invoke,builtin,Builtin.max_,Builtin.max2]
  . rfl
theorem o_min (hx:ρ x=.int k a) (hy:ρ y=.int k' b):zfy P Γ ρ ⟨d,.call ⟨.builtin .min,#[x,y],tys⟩,ty,pos,e,g⟩ s .min [x,y] tys.toList=some (.int k (min a b),s):=by
  show retC s (zm0 P ρ _)=_;have hm:min a b=if b<a then b else a:=by rw [Int.min_def];split<;>split<;>omega
  rw [hm,zsi (r:=.int k (if b<a then b else a))]
  . rfl
  . show (za6 3 (ρ x) && (za6 3 (ρ y) && true))=true;rw [hx,hy];rfl
  . simp [mm,hx,hy,resolve,invoke,builtin,Builtin.min_,Builtin.min2]
  . rfl
end
section
variable {P:gn} {Γ:Env} {call:zed} {ops l:List Oper} {fr:Fr} {s:CS} {d:Option Tmp} {op:Op} {ty:gm} {pos:String} {e:Array Edge} {g:Option (Nat×Bool)}
theorem yhf {f:mc} {args:List Value} {k:List Value->CS->Option (Value×CS)} {r:Value×CS} (h:Γ.ax f=some k) (hk:k args s=some r):zej P Γ f args s=some r:=by
  refine z8q (n:=0) ?_;unfold zfh;rw [h];exact hk
end
section
variable {P:gn} {Γ:Env} {call:zed} {ops l:List Oper} {o:Oper} {fr fr':Fr} {s t:CS}
def ykh (lg:Lg) (r:Option (List Lg×Fr×CS)):Option (List Lg×Fr×CS):=match r with
  |some (logs,fr,s)=>some (lg :: logs,fr,s)
  |none=>none
def ym9 (s:CS) (r:Option (Fr×CS)) (k:Fr->CS->Option (List Lg×Fr×CS)):Option (List Lg×Fr×CS):=match r with
  |some (fr,t)=>ykh ⟨t.rd,t.wr,s.n,t.n⟩ (k fr (s.outer t))
  |none=>none
theorem zx5:drawC P Γ call ops (o :: l) fr s=ym9 s (zcs P Γ call ops o fr s.inner) (drawC P Γ call ops l):=by
  rw [drawC]
  cases zcs P Γ call ops o fr s.inner with
  |none=>rfl
  |some r =>
    show (match drawC P Γ call ops l r.1 (s.outer r.2) with|some (logs,fr,s')=>_|none=>none)=ykh _ (drawC P Γ call ops l r.1 (s.outer r.2))
    cases drawC P Γ call ops l r.1 (s.outer r.2) with
    |none=>rfl
    |some x=>rfl
variable {n lim n':Nat} {g g':Nat->Fam} {rd wr rd' wr':List Nat} {ob ob':Sto}
theorem zz9 {n0:Nat} {logs:List Lg} {ms:List Nat} (hm:zdn ops []=ms) (h:zgo clash [] logs ms=true):calm n0 ops logs=true:=by
  unfold calm;rw [hm,h];cases logs.all _<;>rfl
theorem z5f {ms:List Nat} {done:List Lg}:zgo clash done [] ms=true:=f6 rfl rfl
theorem znm {ms:List Nat} {done logs:List Lg} {y:Lg}:zgo clash done (y :: logs) ms=(zid clash (nth 0 ms done.length) y done 0 && zgo clash (done++[y]) logs ms):=f6 rfl rfl
theorem zu8 {m i:Nat} {x y:Lg} {done:List Lg} (h:i6 m i=true):zid clash m y (x :: done) i=zid clash m y done (i+1):=by
  show ((i6 m i || _) && _)=_;rw [h];rfl
theorem zx9 {m i:Nat} {x y:Lg} {done:List Lg} (h:clash x y=false):zid clash m y (x :: done) i=zid clash m y done (i+1):=by
  show ((i6 m i || !clash x y) && _)=_;rw [h];simp
theorem zgy {rx wx ry wy:List Nat} {lo hi lo' hi':Nat} (h1:∀ f,f∈wx->f ∉ ry/\f ∉ wy) (h2:∀ f,f∈rx->f ∉ wy) (hr:∀ f,f∈ry->f<lo\/hi<=f) (hw:∀ f,f∈wy->f<lo\/hi<=f):clash ⟨rx,wx,lo,hi⟩ ⟨ry,wy,lo',hi'⟩=false:=by
  have hq:∀ l:List Nat,(∀ f,f∈l->f<lo\/hi<=f)->zv6 lo hi l=false:=by
    intro l hl;unfold zv6;rw [pu];intro f hf;rcases hl f hf with h|h
    . simp [zvb h]
    . simp [zye h]
  have hm:∀ a b:List Nat,(∀ f,f∈a->f ∉ b)->meet a b=false:=by
    intro a b hab;unfold meet;rw [pu];intro f hf hc;exact hab f hf (zzv hc)
  unfold clash;simp [hq ry hr,hq wy hw,hm wx ry fun f hf=>(h1 f hf).1,hm wx wy fun f hf=>(h1 f hf).2,hm rx wy h2]
theorem W.draw_ex {id:Nat} {ops:Array Oper} {Q:Exit->Fr->CS->Prop} {logs:List Lg} {ms:List Nat} (hm:zdn ops.toList []=ms) (h:drawC P Γ (zej P Γ) ops.toList ops.toList fr s=some (logs,fr',t)) (hc:zgo clash [] logs ms=true) (hq:Q .normal fr' t):W P Γ (.region id ops true) fr s Q :=
  W.draw h (zz9 hm hc) hq
variable {ρ:f7->Value}
section
variable {ty t2 src dst:gm} {d:Option Tmp} {pos:String} {e:Array Edge} {q:Option (Nat×Bool)} {x y:f7} {tt:gm} {k:iu} {z b z2 b2:Nat} {zs zs2:List Value}
end
structure BSl (g:Nat->Fam) (n f u off len cap:Nat) (bs:List UInt8):Prop where
  lt:f<n
  tag:u % 1024=0\/u % 1024=2
  fits:len<=cap
  size:bs.length=len
  row:∃ cs,zbp (g f).rows u=some cs/\∀ i,i<len->cs[off+i]?=some (vb (bs.getD i 0))
end
section
variable {P:gn} {Γ:Env} {call:zed} {ops l:List Oper} {o o':Oper} {fr fr':Fr} {s t:CS}
def yk4 (n0:Nat) (s:CS) (r:Option (Fr×CS)) (k:Fr->CS->Option (Fr×CS)):Option (Fr×CS):=match r with
  |some (fr,t)=>bif (t.wr.isEmpty && t.rd.all fun f=>ic f n0) && h9 n0 s.n then k fr (s.outer t) else none
  |none=>none
def ylx (s:CS) (r:Option (Fr×CS)):Option (Fr×CS):=match r with
  |some (fr,t)=>some (fr,s.outer t)
  |none=>none
def ztw (P:gn) (Γ:Env) (call:zed) (ops:List Oper) (n0:Nat):List Oper->Fr->CS->Option (Fr×CS)
  |[],_,_=>none
  |[o],fr,s=>ylx s (zcs P Γ call ops o fr s.inner)
  |o :: o' :: l,fr,s=>yk4 n0 s (zcs P Γ call ops o fr s.inner) (ztw P Γ call ops n0 (o' :: l))
theorem z9i {n0:Nat}:ztw P Γ call ops n0 [o] fr s=ylx s (zcs P Γ call ops o fr s.inner):=f6 rfl rfl
theorem z4g {n0:Nat}:ztw P Γ call ops n0 (o :: o' :: l) fr s=yk4 n0 s (zcs P Γ call ops o fr s.inner) (ztw P Γ call ops n0 (o' :: l)):=f6 rfl rfl
def QLog (n0:Nat) (x:Lg):Prop:=x.wr=[]/\(∀ f,f∈x.rd->f<n0)/\n0<=x.lo
theorem z2v {n0:Nat}:∀ {l:List Oper} {fr fr':Fr} {s s':CS},ztw P Γ call ops n0 l fr s=some (fr',s')->∃ logs y,drawC P Γ call ops l fr s=some (logs++[y],fr',s')/\logs.length+1=l.length/\∀ x,x∈logs->QLog n0 x
  |[],fr,fr',s,s',h=>by simp [ztw] at h
  |[o],fr,fr',s,s',h=>by
    rw [z9i] at h;unfold ylx at h;split at h
    . rename_i fr1 t h1;simp only [fe,fm] at h;obtain ⟨rfl,rfl⟩:=h;refine ⟨[],⟨t.rd,t.wr,s.n,t.n⟩,?_,rfl,fun x hx=>by simp at hx⟩;rw [zx5,h1];rfl
    . simp at h
  |o :: o' :: l,fr,fr',s,s',h=>by
    rw [z4g] at h;unfold yk4 at h;split at h
    . rename_i fr1 t h1
      cases hq:(t.wr.isEmpty && t.rd.all fun f=>ic f n0) && h9 n0 s.n with
      |false=>rw [hq] at h;simp at h
      |true =>
        rw [hq] at h;simp only [cond_true] at h;obtain ⟨logs,y,h2,h3,h4⟩:=z2v h;refine ⟨⟨t.rd,t.wr,s.n,t.n⟩ :: logs,y,?_,?_,?_⟩
        . rw [zx5,h1];unfold ym9;simp only;rw [h2];rfl
        . simp only [gh] at h3 ⊢;omega
        . intro x hx;rcases kj.1 hx with rfl|hx
          . simp only [fj,List.isEmpty_iff,ib] at hq;exact ⟨hq.1.1,fun f hf=>zad.1 (hq.1.2 f hf),zav.1 hq.2⟩
          . exact h4 x hx
    . simp at h
theorem z5a {n0:Nat} {x y:Lg} (hx:QLog n0 x) (hy:QLog n0 y):clash x y=false:=by
  obtain ⟨rx,wx,lx,hx'⟩:=x;obtain ⟨ry,wy,ly,hy'⟩:=y;obtain ⟨rfl,x2,x3⟩:=hx;obtain ⟨rfl,y2,y3⟩:=hy;refine zgy (fun f hf=>by simp at hf) (fun f _=>by simp) (fun f hf=>.inl ?_) (fun f hf=>by simp at hf);have:=y2 f hf;exact gr this x3
theorem zqi {n0 m:Nat} {y:Lg} (hy:QLog n0 y):∀ {done:List Lg} {i:Nat},(∀ x,x∈done->QLog n0 x)->zid clash m y done i=true
  |[],_,_=>rfl
  |x :: l,i,h=>by
    rw [zx9 (z5a (h x (by simp)) hy)];exact zqi hy fun z hz=>h z (by simp [hz])
theorem zr2 {k:Nat} {y:Lg}:∀ {done:List Lg} {i:Nat},done.length+i<=k->zid clash (2 ^ k - 1) y done i=true
  |[],_,_=>rfl
  |x :: l,i,h=>by
    rw [gh] at h;rw [zu8 (by rw [Nat.testBit_two_pow_sub_one];exact zAa (by omega))];exact zr2 (by omega)
theorem zr3 {n0:Nat} {y:Lg} {ms:List Nat}:∀ {logs done:List Lg},(∀ x,x∈done->QLog n0 x)->(∀ x,x∈logs->QLog n0 x)->nth 0 ms (done.length+logs.length)=2 ^ (done.length+logs.length) - 1->zgo clash done (logs++[y]) ms=true
  |[],done,hd,_,hm=>by
    rw [gg,znm];simp only [List.length_nil,jq] at hm;rw [hm,zr2 (by omega),z5f];rfl
  |x :: l,done,hd,hl,hm=>by
    rw [List.cons_append,znm,zqi (hl x (by simp)) hd];simp only [Bool.true_and];refine zr3 (n0:=n0) ?_ (fun z hz=>hl z (by simp [hz])) ?_
    . intro z hz;rcases List.mem_append.1 hz with hz|hz
      . exact hd z hz
      . simp at hz;subst hz;exact hl _ (by simp)
    . rw [fx,List.length_singleton];rw [gh] at hm;rw [show done.length+1+l.length=done.length+(l.length+1) by omega];exact hm
def yg4 (ops:List Oper):Bool:=fy (nth 0 (zdn ops []) (ops.length - 1)) (2 ^ (ops.length - 1) - 1)
theorem W.last {id:Nat} {ops:Array Oper} {Q:Exit->Fr->CS->Prop} (hf:yg4 ops.toList=true) (h:ztw P Γ (zej P Γ) ops.toList s.n ops.toList fr s=some (fr',t)) (hq:Q .normal fr' t):W P Γ (.region id ops true) fr s Q:=by
  obtain ⟨logs,y,h1,h2,h3⟩:=z2v h;refine W.draw_ex rfl h1 (zr3 (n0:=s.n) (fun x hx=>by simp at hx) h3 ?_) hq;have hk:ops.toList.length - 1=logs.length:=by omega
  have:=fl hf;rw [hk] at this;simpa using this
variable {n lim n' f:Nat} {rd wr rd' wr':List Nat} {ob ob':Sto} {k:Fr->CS->Option (Fr×CS)}
variable {g:Nat->Fam}
end
section
variable {P:gn} {G L:List Nat} {ax:Axs}
open Classical in
structure Seg where
  b:Nat
  o:Nat
  cs:List Value
def zkj (N:Nat) (f:Nat):Nat->List Seg->List (Nat×List Value)
  |_,[]=>[]
  |j,q :: l=>if q.b=f then ((N+j)*1024,q.cs) :: zkj N f (j+1) l else zkj N f (j+1) l
def famS (N:Nat) (K:List (Nat×List Value)) (A:List Seg) (f:Nat):Fam:=⟨true,(famK K f).rows++zkj N f 0 A,none⟩
open Classical in
def sgS (N:Nat) (G:List Nat) (K:List (Nat×List Value)) (A:List Seg):Sg:=fun f u =>
  if has G f=true/\u=f*1024 then some (f,0,(famK K f).rows.head?.elim 0 fun p=>p.2.length)
  else if u % 1024=0/\N<=u / 1024 then (match A[u / 1024 - N]? with
    |some q=>if q.b=f then some (f,q.o,q.o+q.cs.length) else none
    |none=>none) else none
def yov (σ:Sg) (w:World) (q:Seg):Prop:=q.b<w.heap.size/\(∀ j,j<q.o+q.cs.length->(w.cell? ⟨q.b,j,none⟩).isSome=true)/\∀ (j:Nat) (u:Value),q.cs[j]?=some u->∃ u',w.cell? ⟨q.b,q.o+j,none⟩=some u'/\VR σ u u'
theorem zor {N f:Nat} {p:Nat×List Value}:∀ {A:List Seg} {j:Nat},p∈zkj N f j A->∃ i q,A[i]?=some q/\q.b=f/\p=((N+(j+i))*1024,q.cs)
  |[],j,h=>by simp [zkj] at h
  |q :: l,j,h=>by
    unfold zkj at h;split at h
    . rename_i hq;rcases kj.1 h with rfl|h
      . exact ⟨0,q,rfl,hq,by rw [jq]⟩
      . obtain ⟨i,q',h1,h2,h3⟩:=zor h;exact ⟨i+1,q',by simpa using h1,h2,by rw [h3];congr 2;omega⟩
    . obtain ⟨i,q',h1,h2,h3⟩:=zor h;exact ⟨i+1,q',by simpa using h1,h2,by rw [h3];congr 2;omega⟩
theorem ybb {N:Nat} {K:List (Nat×List Value)} {A:List Seg} {w:World} (hN:N=w.heap.size) (hK:∀ p,p∈K->has G p.1=true) (hw:ymx w K) (hwG:∀ g,has G g=true->g<w.heap.size) (hA:∀ q,q∈A->yov (sgS N G K A) w q) :
    Rel (sgS N G K A) (fun _=>True) (St (N+A.length) (famS N K A) 0 [] []) w/\CInv (St (N+A.length) (famS N K A) 0 [] [])/\zj0 G (sgS N G K A)/\(∀ f u p,sgS N G K A f u=some p->f<N+A.length/\u / 1024<N+A.length/\(zaa (St (N+A.length) (famS N K A) 0 [] []).obj f).ro=true):=by
  have hσ:∀ f u b o z,sgS N G K A f u=some (b,o,z)->b=f/\((has G f=true/\u=f*1024/\o=0/\z=(famK K f).rows.head?.elim 0 fun p=>p.2.length)\/(∃ i q,A[i]?=some q/\q.b=f/\u=(N+i)*1024/\o=q.o/\z=q.o+q.cs.length)):=by
    intro f u b o z h;unfold sgS at h;split at h
    . rename_i hc;simp only [fe,fm] at h;exact ⟨h.1.symm,.inl ⟨hc.1,hc.2,h.2.1.symm,h.2.2.symm⟩⟩
    . split at h
      . rename_i hc;split at h
        . rename_i q hq;split at h
          . rename_i hb;simp only [fe,fm] at h;refine ⟨h.1.symm,.inr ⟨_,q,hq,hb,by omega,h.2.1.symm,h.2.2.symm⟩⟩
          . simp at h
        . simp at h
      . simp at h
  have hlt:∀ f u b o z,sgS N G K A f u=some (b,o,z)->b<w.heap.size/\f<N+A.length/\u / 1024<N+A.length:=by
    intro f u b o z h;obtain ⟨rfl,⟨h1,h2,_⟩|⟨i,q,h1,h2,h3,_⟩⟩:=hσ _ _ _ _ _ h
    . have:=hwG _ h1;omega
    . have hm:=jl h1;have hi:i<A.length:=(ge.1 h1).1;have:=(hA q hm).1;omega
  have hrows:∀ f p,p∈(famS N K A f).rows->((p.1=f*1024/\(f,p.2)∈K/\(famK K f).rows=[p])\/∃ i q,A[i]?=some q/\q.b=f/\p=((N+i)*1024,q.cs)):=by
    intro f p hp;rcases List.mem_append.1 hp with hp|hp
    . exact .inl (zuy hp)
    . obtain ⟨i,q,h1,h2,h3⟩:=zor hp;exact .inr ⟨i,q,h1,h2,by rw [h3,i5]⟩
  have hnone:∀ f,N+A.length<=f->famS N K A f=ze7:=by
    intro f hf
    have:(famS N K A f).rows=[]:=by
      rw [List.eq_nil_iff_forall_not_mem];intro p hp;rcases hrows f p hp with ⟨_,h2,_⟩|⟨i,q,h1,h2,_⟩
      . have:=hwG _ (hK _ h2);simp only at this;omega
      . have:=(hA q (jl h1)).1;omega
    unfold famS at this ⊢;simp only at this;rw [this];rfl
  have hvers:∀ f p,p∈(famS N K A f).rows->p.1 / 1024<N+A.length:=by
    intro f p hp;rcases hrows f p hp with ⟨h1,h2,_⟩|⟨i,q,h1,h2,rfl⟩
    . have:=hwG _ (hK _ h2);simp only at this;omega
    . have hi:i<A.length:=(ge.1 h1).1;simp only;omega
  refine ⟨⟨?_,fun f u b o z h=>(hlt f u b o z h).1,?_,fun f hf=>hnone f hf,fun f p hp=>hvers f p hp⟩,⟨fun f hf=>hnone f hf,fun f p hp=>hvers f p hp,Nat.zero_le _⟩,?_,fun f u p h=>⟨(hlt f u _ _ _ h).2.1,(hlt f u _ _ _ h).2.2,rfl⟩⟩
  . intro f u b o z f' u' o' z' h1 h2;have a1:=(hσ _ _ _ _ _ h1).1;have a2:=(hσ _ _ _ _ _ h2).1;omega
  . intro f _;refine ⟨fun p hp b o z h=>?_,fun hro=>by simp [zaa,famS] at hro,fun es he=>by simp [zaa,famS] at he⟩;obtain ⟨rfl,hs⟩:=hσ _ _ _ _ _ h;rcases hrows b p hp with ⟨h1,h2,h3⟩|⟨i,q,h1,h2,rfl⟩
    . rcases hs with ⟨g1,g2,rfl,rfl⟩|⟨i,q,g1,g2,g3,_⟩
      . rw [h3];simp only [List.head?_cons,Option.elim];refine ⟨by omega,fun j hj=>?_,fun hro=>by simp [zaa,famS] at hro,fun j u hu=>?_⟩
        . obtain ⟨k1,_⟩:=(hw _ h2).2 j _ (fk hj);rw [k1];rfl
        . obtain ⟨k1,k2⟩:=(hw _ h2).2 j u hu;rw [i5];exact ⟨u,k1,zia 3 k2⟩
      . have:=hwG _ (hK _ h2);simp only at this;omega
    . rcases hs with ⟨g1,g2,_,_⟩|⟨i',q',g1,g2,g3,rfl,rfl⟩
      . simp only at g2;have:=hwG _ g1;omega
      . simp only at g3;have:i'=i:=by omega
        subst this;rw [h1] at g1;cases g1;obtain ⟨a1,a2,a3⟩:=hA q (jl h1);subst h2;exact ⟨fp _,a2,fun hro=>by simp [zaa,famS] at hro,a3⟩
  . intro g hg;exact ⟨_,zAc ⟨hg,rfl⟩⟩
end
def Ret (P:gn) (Γ:Env) (f:mc) (args:List Value) (n:Nat) (g:Nat->Fam) (lim:Nat) (rd wr:List Nat) (R:Nat->Prop) (v:Value):Prop :=
  ∃ n' g' rd',zej P Γ f args (St n g lim rd wr)=some (v,St n' g' lim rd' wr)/\n<=n'/\(∀ i,i<n->g' i=g i)/\(∀ x,x∈rd'->x∈rd\/(R x/\x<lim))
section
variable {P:gn} {Γ:Env} {ρ:f7->Value} {s:CS} {fr:Fr} {n lim n' f n0:Nat} {g:Nat->Fam} {rd wr rd':List Nat} {ob ob':Sto}
theorem Ret.of {f:mc} {fn:Func} {body:Code} {args:List Value} {R:Nat->Prop} {v:Value} (k:Nat) (hax:Γ.ax f=none) (hf:Γ.fn.at f=some fn) (hb:fn.body=some body) (hn:fn.ntmps=k) (hl:args.length<=k)
    (h:W P Γ body (o4 args 0 (Fr.of k fun _=>undef)) (St n g lim rd wr) fun e fr' s1=>(e=.normal\/e=.ret)/\∃ n' g' rd',resC Γ fr' s1 fn.results.toList=some ([v],St n' g' lim rd' wr)/\n<=n'/\(∀ i,i<n->g' i=g i)/\(∀ x,x∈rd'->x∈rd\/(R x/\x<lim))):Ret P Γ f args n g lim rd wr R v:=by
  obtain ⟨e,fr',s1,h1,he,n',g',rd',hr,h2⟩:=h;exact ⟨n',g',rd',yhe k hax hf hb hn hl ⟨e,fr',s1,h1,he,_,hr,rfl⟩,h2⟩
theorem zn5 {l:List Nat}:∀ {rd rd':List Nat},l=rd'->∀ x,x∈zui lim rd l->x∈rd\/(x∈rd'/\x<lim):=by
  induction l with
  |nil=>rintro rd rd' rfl x hx;exact .inl hx
  |cons y l ih =>
    rintro rd rd' rfl x hx;rcases ih rfl x hx with h|h
    . rcases zow h with h|h
      . exact .inl h
      . exact .inr ⟨by simp [h.1],h.2⟩
    . exact .inr ⟨by simp [h.1],h.2⟩
def OwnX (m:Nat) (g:Nat->Fam) (n e:Nat) (ao:Option Addr) (len:Nat) (cells:List Value):Prop :=
  OwnR m g n e ao len cells\/(cells.length=len*e/\∃ f u rest,ao=some (mkA f u 0)/\g f=⟨false,(u,cells) :: rest,none⟩/\m<=f/\f<n/\u / 1024<n/\u % 1024=0)
theorem OwnX.keep {m n' e len:Nat} {g':Nat->Fam} {ao:Option Addr} {cells:List Value} (h:OwnX m g n e ao len cells) (hg:∀ i,m<=i->i<n->g' i=g i) (hn:n<=n'):OwnX m g' n' e ao len cells:=by
  rcases h with h|⟨h1,f,u,rest,k1,k2,k3,k4,k5,k6⟩
  . exact .inl (h.keep hg hn)
  . exact .inr ⟨h1,f,u,rest,k1,by rw [hg f k3 k4];exact k2,k3,by omega,by omega,k6⟩
theorem OwnX.first {m e len k:Nat} {ao:Option Addr} {cells:List Value} (h:OwnX m g n e ao len cells) (hl:lim<=m) (hk:k<=len):j0 (St n g lim rd wr) e k (.slice ao len len)=some (cells.take (k*e),St n g lim rd wr):=by
  rcases h with h|⟨h1,f,u,rest,rfl,k2,k3,k4,k5,k6⟩
  . exact h.first hl hk
  . have hkl:k*e<=len*e:=lr e hk;rw [zp9 (cs:=cells) (by rw [k2];simp [zbp,ja]) (by omega) (by omega)];simp
theorem OwnX.append {m e len k bytes:Nat} {ao:Option Addr} {cells xs:List Value} {y:Value} {rd':List Nat} (h:OwnX m g n e ao len cells) (hm:m<=n) (hl:lim<=m) (hlen:lenC y=some k) (hy:j0 (St n g lim rd wr) e k y=some (xs,St n g lim rd' wr)) (hx:xs.length=k*e) (ho:xs.all oneC=true) (he:0<e/\e<1000)
    (hb:(len+k)*(bytes+1)<=1000000000) :
    ∃ ao' n' g',mv (St n g lim rd wr) e bytes ao len len y=some (.slice ao' (len+k) (len+k),St n' g' lim rd' wr)/\OwnX m g' n' e ao' (len+k) (cells++xs)/\n<=n'/\n'<=n+1/\∀ i,i<m->g' i=g i:=by
  rcases h with h|⟨h1,f,u,rest,rfl,k2,k3,k4,k5,k6⟩
  . obtain ⟨ao',n',g',a1,a2,a3⟩:=h.append hm hl hlen hy hx ho he hb;exact ⟨ao',n',g',a1,.inl a2,a3⟩
  . have c1:(ic 1000000000 ((len+k)*(bytes+1)) || fy e 0 || h9 1000 e || not (xs.all oneC))=false:=by
      rw [zye hb,zi0 (by omega),zvb (by omega),ho];rfl
    cases hk:fy k 0 with
    |true =>
      have:=fl hk;subst this;have hx0:xs=[]:=by simpa using hx
      subst hx0;refine ⟨_,n,g,?_,.inr ⟨by simpa using h1,f,u,rest,rfl,by simpa using k2,k3,k4,k5,k6⟩,fp _,by omega,fun _ _=>rfl⟩;unfold mv;rw [hlen];simp only [hy,c1,cond_false];rw [zhe (by omega)];simp only [cond_true,hk];rfl
    |false =>
      have hk0:k≠0:=fun h=>by rw [h] at hk;simp at hk
      have hfl:lim<=f:=by omega
      have hold:(bif fy len 0 then some ([],St n g lim rd' wr) else j0 (St n g lim rd' wr) e len (.slice (some (mkA f u 0)) len len))=some (cells,St n g lim rd' wr):=by
        cases hz:fy len 0 with
        |true =>
          have:=fl hz;subst this;have:cells=[]:=by simpa using h1
          rw [this];rfl
        |false =>
          rw [cond_false,zp9 (cs:=cells) (by rw [k2];simp [zbp,ja]) (by omega) hfl];rw [gp,ij (by omega)]
      refine ⟨some (mkA n (n*1024+(e+1)) 0),n+1,fupd g n ⟨false,[(n*1024+(e+1),cells++xs)],none⟩,?_,.inl ⟨by rw [fx,h1,hx,jm],.inr ⟨n,_,[],rfl,zgv _ _ _,hm,by omega,by omega,by omega⟩⟩,by omega,by omega,fun i hi=>zjv _ _ _ _ (by omega)⟩;unfold mv;rw [hlen];simp only [hy,c1,cond_false];rw [zvb (by omega)];simp only [cond_false,hold,zjm];rw [zh3 k6];simp only [cond_true,z1s,zhz]
theorem OwnX.push {m len bytes:Nat} {ao:Option Addr} {cells:List Value} {v:Value} (h:OwnX m g n 1 ao len cells) (hm:m<=n) (hl:lim<=m) (hv:oneC v=true) (hb:(len+1)*(bytes+1)<=1000000000) :
    ∃ ao' n' g',mv (St (n+1) (fupd g n ⟨false,[(n*1024+0,[v])],none⟩) lim rd wr) 1 bytes ao len len (.slice (some (mkA n (n*1024+0) 0)) 1 1)=some (.slice ao' (len+1) (len+1),St n' g' lim rd wr)/\OwnX m g' n' 1 ao' (len+1) (cells++[v])/\n+1<=n'/\n'<=n+2/\∀ i,i<m->g' i=g i:=by
  have h2:=h.keep (n':=n+1) (g':=fupd g n ⟨false,[(n*1024+0,[v])],none⟩) (fun i _ hi=>zjv _ _ _ _ (by omega)) (by omega)
  obtain ⟨ao',n',g',a1,a2,a3,a4,a5⟩:=h2.append (bytes:=bytes) (rd:=rd) (wr:=wr) (rd':=rd) (xs:=[v]) (k:=1) (y:=.slice (some (mkA n (n*1024+0) 0)) 1 1) (by omega) hl rfl
    (by rw [zp9 (cs:=[v]) (by rw [zgv];exact z05) (by simp) (by omega)];rfl) rfl (by simp [hv]) (by omega) hb
  exact ⟨ao',n',g',a1,a2,a3,by omega,fun i hi=>by rw [a5 i hi,zjv _ _ _ _ (by omega)]⟩
section
variable {call:zed} {d:Option Tmp} {ty:gm} {pos:String} {e:Array Edge} {q:Option (Nat×Bool)}
end
theorem W.cut {a:Code} {Q:Exit->Fr->CS->Prop} {k:Fr->CS->Prop} (R:Fr->CS->Prop) (h:W P Γ a fr s fun e fr s=>e=.normal/\R fr s) (hk:∀ fr s,R fr s->k fr s):W P Γ a fr s (onN k Q):=by
  refine h.mono ?_;rintro e fr s ⟨rfl,hR⟩;exact hk _ _ hR
end
inductive T where
  |int (k:iu) (n:Int)
  |bool (b:Bool)
  |str (b:ByteArray)
  |agg (l:List T)
  |tup (l:List T)
  |lst (e:Nat) (l:List T)
  |nils
  |nilp
  |nilm
  |nilf
  |ptr (b off N:Nat)
  |cp (l:List T)
  |arr (b e off len cap N:Nat)
  |mp (b:Nat)
  |fn (f:Nat) (first cap:List T)
  |junk
  |emp (e:Nat)
def T.cells:T->List T
  |.agg l=>l
  |t=>[t]
inductive Loc where
  |live (f u N:Nat)
  |nil
  |map (r:Nat)
  |dead
def Loc.le:Loc->Loc->Prop
  |.live f u N,l=>match l with|.live f' u' N'=>(f=f'/\u=u'/\N=N')\/N<N' | .dead=>True|_=>False
  |.nil,l=>match l with|.nil=>True|.live _ _ N=>0<N|.dead=>True|_=>False
  |.map r,l=>match l with|.map r'=>r=r' | .dead=>True|_=>False
  |.dead,l=>match l with|.dead=>True|_=>False
theorem Loc.le_refl (l:Loc):Loc.le l l:=by cases l<;>simp [Loc.le]
theorem Loc.le_trans {a b c:Loc} (h:Loc.le a b) (k:Loc.le b c):Loc.le a c:=by
  cases a<;>cases b<;>cases c<;>simp_all [Loc.le]<;>omega
abbrev Bx:=Nat->Option Loc
def Bx.le (β β':Bx):Prop:=∀ b l,β b=some l->∃ l',β' b=some l'/\Loc.le l l'
theorem Bx.le_refl (β:Bx):Bx.le β β:=fun b l h=>⟨l,h,Loc.le_refl l⟩
theorem Bx.le_trans {a b c:Bx} (h:Bx.le a b) (k:Bx.le b c):Bx.le a c:=fun x l hx=>by
  obtain ⟨l',h1,h2⟩:=h x l hx;obtain ⟨l2,h3,h4⟩:=k x l' h1;exact ⟨l2,h3,Loc.le_trans h2 h4⟩
def yft (u e:Nat):Prop:=u % 1024=0\/u % 1024=e+1
mutual
inductive VT (A:Nat->Prop) (β:Bx) (g:Nat->Fam):T->Value->Prop
  |int (k n):VT A β g (.int k n) (.int k n)
  |bool (b):VT A β g (.bool b) (.bool b)
  |str (b):VT A β g (.str b) (.string b)
  |agg {l cs}:VL A β g l cs->VT A β g (.agg l) (.agg ⟨cs⟩)
  |tup {l vs}:VL A β g l vs->VT A β g (.tup l) (.tuple ⟨vs⟩)
  |lnil {e}:VT A β g (.lst e []) (.slice none 0 0)
  |lst {e l f u off cap cs cs0}:A f->zbp (g f).rows u=some cs0->VL A β g (l.flatMap T.cells) cs->(∀ t,t∈l->t.cells.length=e)->0<e->(cs0.drop off).take cs.length=cs->yft u e->l.length<=cap->VT A β g (.lst e l) (.slice (some (mkA f u off)) l.length cap)
  |nils:VT A β g .nils (.slice none 0 0)
  |nilp:VT A β g .nilp (.pointer none)
  |nilm:VT A β g .nilm (.map none)
  |nilf:VT A β g .nilf .nilFunc
  |ptr {b off f u N}:β b=some (.live f u N)->VT A β g (.ptr b off N) (.pointer (some (mkA f u off)))
  |ptrOld {b off N l v}:β b=some l->(∀ f u,l≠.live f u N)->Loc.le (.live 0 0 N) l->oneC v=true->VT A β g (.ptr b off N) v
  |cp {l f u off cs cs0}:A f->zbp (g f).rows u=some cs0->VL A β g l cs->(cs0.drop off).take cs.length=cs->VT A β g (.cp l) (.pointer (some (mkA f u off)))
  |arr {b e off len cap f u N}:β b=some (.live f u N)->yft u e->VT A β g (.arr b e off len cap N) (.slice (some (mkA f u off)) len cap)
  |arrNil {b e}:β b=some .nil->VT A β g (.arr b e 0 0 0 0) (.slice none 0 0)
  |arrOld {b e off len cap N l v}:β b=some l->(∀ f u,l≠.live f u N)->Loc.le (.live 0 0 N) l->oneC v=true->VT A β g (.arr b e off len cap N) v
  |mp {b r}:β b=some (.map r)->VT A β g (.mp b) (.map (some r))
  |mpOld {b v}:β b=some .dead->oneC v=true->VT A β g (.mp b) v
  |fn {f a c va vc}:VL A β g a va->VL A β g c vc->VT A β g (.fn f a c) (.func (.func f) ⟨va⟩ ⟨vc⟩)
  |junk (v):VT A β g .junk v
  |emp {e f u off cap cs0}:A f->zbp (g f).rows u=some cs0->0<e->yft u e->VT A β g (.emp e) (.slice (some (mkA f u off)) 0 cap)
inductive VL (A:Nat->Prop) (β:Bx) (g:Nat->Fam):List T->List Value->Prop
  |nil:VL A β g [] []
  |cons {t v l vs}:VT A β g t v->VL A β g l vs->VL A β g (t :: l) (v :: vs)
end
section
variable {A A':Nat->Prop} {β β':Bx} {g g':Nat->Fam}
theorem ydd {f u N:Nat} {l:Loc} (h:Loc.le (.live f u N) l):l=.live f u N\/((∀ f u,l≠.live f u N)/\Loc.le (.live 0 0 N) l):=by
  cases l with
  |live f' u' N' =>
    simp only [Loc.le] at h;rcases h with ⟨rfl,rfl,rfl⟩|h
    . exact .inl rfl
    . refine .inr ⟨fun f u hh=>?_,.inr h⟩
      cases hh;omega
  |dead=>exact .inr ⟨fun _ _ hh=>by simp at hh,trivial⟩
  |nil=>simp [Loc.le] at h
  |map r=>simp [Loc.le] at h
theorem yis {N:Nat} {l l':Loc} (h0:∀ f u,l≠.live f u N) (h:Loc.le (.live 0 0 N) l) (k:Loc.le l l'):(∀ f u,l'≠.live f u N)/\Loc.le (.live 0 0 N) l':=by
  cases l with
  |live f' u' N' =>
    simp only [Loc.le] at h
    have hN:N<N':=by
      rcases h with ⟨h1,h2,h3⟩|h
      . exact absurd rfl (h3 ▸ h0 f' u')
      . exact h
    cases l' with
    |live f2 u2 N2 =>
      simp only [Loc.le] at k;have:N<N2:=by rcases k with ⟨_,_,rfl⟩|k<;>omega
      exact ⟨fun f u hh=>by cases hh;omega,.inr this⟩
    |dead=>exact ⟨fun _ _ hh=>by simp at hh,trivial⟩
    |nil=>simp [Loc.le] at k
    |map r=>simp [Loc.le] at k
  |dead =>
    cases l' with
    |dead=>exact ⟨fun _ _ hh=>by simp at hh,trivial⟩
    |_=>simp [Loc.le] at k
  |nil=>simp [Loc.le] at h
  |map r=>simp [Loc.le] at h
mutual
theorem VT.mono (hA:∀ f,A f->A' f) (hg:∀ f,A f->g' f=g f) (hβ:Bx.le β β'):∀ {t:T} {v:Value},VT A β g t v->VT A' β' g' t v
  |_,_,.int k n=>.int k n
  |_,_,.bool b=>.bool b
  |_,_,.str b=>.str b
  |_,_,.agg h=>.agg (VL.mono hA hg hβ h)
  |_,_,.tup h=>.tup (VL.mono hA hg hβ h)
  |_,_,.lnil=>.lnil
  |_,_,.lst h1 h2 h3 h4 h5 h6 h7 h8=>.lst (hA _ h1) (by rw [hg _ h1];exact h2) (VL.mono hA hg hβ h3) h4 h5 h6 h7 h8
  |_,_,.nils=>.nils
  |_,_,.nilp=>.nilp
  |_,_,.nilm=>.nilm
  |_,_,.nilf=>.nilf
  |_,_,.ptr h=>by
    obtain ⟨l',h1,h2⟩:=hβ _ _ h;rcases ydd h2 with rfl|⟨h3,h4⟩
    . exact .ptr h1
    . exact .ptrOld h1 h3 h4 rfl
  |_,_,.ptrOld h h0 h1 h2=>by
    obtain ⟨l',k1,k2⟩:=hβ _ _ h;obtain ⟨k3,k4⟩:=yis h0 h1 k2;exact .ptrOld k1 k3 k4 h2
  |_,_,.cp h1 h2 h3 h4=>.cp (hA _ h1) (by rw [hg _ h1];exact h2) (VL.mono hA hg hβ h3) h4
  |_,_,.arr h ht=>by
    obtain ⟨l',h1,h2⟩:=hβ _ _ h;rcases ydd h2 with rfl|⟨h3,h4⟩
    . exact .arr h1 ht
    . exact .arrOld h1 h3 h4 rfl
  |_,_,.arrNil h=>by
    obtain ⟨l',h1,h2⟩:=hβ _ _ h
    cases l' with
    |nil=>exact .arrNil h1
    |live f u N =>
      simp only [Loc.le] at h2;exact .arrOld h1 (fun f u hh=>by cases hh;omega) (.inr h2) rfl
    |dead=>exact .arrOld h1 (fun _ _ hh=>by simp at hh) trivial rfl
    |map r=>simp [Loc.le] at h2
  |_,_,.arrOld h h0 h1 h2=>by
    obtain ⟨l',k1,k2⟩:=hβ _ _ h;obtain ⟨k3,k4⟩:=yis h0 h1 k2;exact .arrOld k1 k3 k4 h2
  |_,_,.mp h=>by
    obtain ⟨l',h1,h2⟩:=hβ _ _ h
    cases l' with
    |map r=>simp only [Loc.le] at h2;subst h2;exact .mp h1
    |dead=>exact .mpOld h1 rfl
    |_=>simp [Loc.le] at h2
  |_,_,.mpOld h h2=>by
    obtain ⟨l',k1,k2⟩:=hβ _ _ h
    cases l' with
    |dead=>exact .mpOld k1 h2
    |_=>simp [Loc.le] at k2
  |_,_,.fn h1 h2=>.fn (VL.mono hA hg hβ h1) (VL.mono hA hg hβ h2)
  |_,_,.junk v=>.junk v
  |_,_,.emp h1 h2 h3 h4=>.emp (hA _ h1) (by rw [hg _ h1];exact h2) h3 h4
theorem VL.mono (hA:∀ f,A f->A' f) (hg:∀ f,A f->g' f=g f) (hβ:Bx.le β β'):∀ {l:List T} {vs:List Value},VL A β g l vs->VL A' β' g' l vs
  |_,_,.nil=>.nil
  |_,_,.cons h k=>.cons (VT.mono hA hg hβ h) (VL.mono hA hg hβ k)
end
theorem VL.len:∀ {l:List T} {vs:List Value},VL A β g l vs->l.length=vs.length
  |_,_,.nil=>rfl
  |_,_,.cons _ k=>by rw [gh,gh,k.len]
theorem VL.get:∀ {l:List T} {vs:List Value} {i:Nat} {t:T},VL A β g l vs->l[i]?=some t->∃ v,vs[i]?=some v/\VT A β g t v
  |_,_,_,_,.nil,h=>by simp at h
  |_,_,0,_,.cons h k,hi=>by simp at hi;subst hi;exact ⟨_,rfl,h⟩
  |_,_,i+1,_,.cons h k,hi=>by
    obtain ⟨v,h1,h2⟩:=VL.get (i:=i) k (by simpa using hi);exact ⟨v,by simpa using h1,h2⟩
theorem VL.append:∀ {l l2:List T} {vs vs2:List Value},VL A β g l vs->VL A β g l2 vs2->VL A β g (l++l2) (vs++vs2)
  |_,_,_,_,.nil,k=>k
  |_,_,_,_,.cons h k,k2=>.cons h (k.append k2)
theorem VL.split:∀ {l l2:List T} {vs:List Value},VL A β g (l++l2) vs->∃ a b,vs=a++b/\VL A β g l a/\VL A β g l2 b
  |[],_,vs,h=>⟨[],vs,rfl,.nil,h⟩
  |t :: l,l2,_,.cons h k=>by
    obtain ⟨a,b,rfl,h1,h2⟩:=VL.split (l:=l) k;exact ⟨_ :: a,b,rfl,.cons h h1,h2⟩
theorem VL.take:∀ {l:List T} {vs:List Value} (n:Nat),VL A β g l vs->VL A β g (l.take n) (vs.take n)
  |_,_,0,_=>by simp only [List.take_zero];exact .nil
  |_,_,n+1,.nil=>by simp only [List.take_nil];exact .nil
  |_,_,n+1,.cons h k=>by simp only [ng];exact .cons h (k.take n)
theorem VL.drop:∀ {l:List T} {vs:List Value} (n:Nat),VL A β g l vs->VL A β g (l.drop n) (vs.drop n)
  |_,_,0,h=>h
  |_,_,n+1,.nil=>by simp only [List.drop_nil];exact .nil
  |_,_,n+1,.cons h k=>by simp only [kv];exact k.drop n
theorem VL.splice {l xs:List T} {vs ys:List Value} (off:Nat) (h:VL A β g l vs) (k:VL A β g xs ys):VL A β g (l.take off++xs++l.drop (off+xs.length)) (splice vs off ys):=by
  unfold Go.Proofs.Ytkfnjbfnkpameaa.splice;rw [k.len];exact ((h.take off).append k).append (h.drop _)
theorem VL.rep {t:T} {v:Value} (h:VT A β g t v):∀ n,VL A β g (gb n t) (gb n v)
  |0=>.nil
  |n+1=>.cons h (VL.rep h n)
def T.one:T->Bool
  |.agg _=>false
  |.tup _=>false
  |.junk=>false
  |_=>true
theorem VT.one {t:T} {v:Value} (h:VT A β g t v) (ht:t.one=true):oneC v=true:=by
  cases h<;>first|rfl|assumption | (simp [T.one] at ht)
theorem VL.one {l:List T} {vs:List Value} (h:VL A β g l vs) (hl:l.all T.one=true):vs.all oneC=true:=by
  induction l generalizing vs with
  |nil=>cases h;rfl
  |cons t l ih =>
    cases h with
    |cons h1 h2 =>
      simp only [jn,fj] at hl ⊢;exact ⟨h1.one hl.1,ih h2 hl.2⟩
theorem VT.cells {t:T} {v:Value} (h:VT A β g t v) (hj:t≠.junk):VL A β g t.cells v.cells.toList:=by
  have one:∀ v:Value,oneC v=true->v.cells.toList=[v]:=by intro v hv;cases v<;>first|rfl|simp [oneC] at hv
  cases h with
  |agg h=>exact h
  |junk=>exact absurd rfl hj
  |tup h=>exact .cons (.tup h) .nil
  |ptrOld h0 h1 h2 h3=>simp only [T.cells];rw [one _ h3];exact .cons (.ptrOld h0 h1 h2 h3) .nil
  |arrOld h0 h1 h2 h3=>simp only [T.cells];rw [one _ h3];exact .cons (.arrOld h0 h1 h2 h3) .nil
  |mpOld h0 h3=>simp only [T.cells];rw [one _ h3];exact .cons (.mpOld h0 h3) .nil
  |int k n=>exact .cons (.int k n) .nil
  |bool b=>exact .cons (.bool b) .nil
  |str b=>exact .cons (.str b) .nil
  |lnil=>exact .cons .lnil .nil
  |lst h1 h2 h3 h4 h5 h6 h7 h8=>exact .cons (.lst h1 h2 h3 h4 h5 h6 h7 h8) .nil
  |nils=>exact .cons .nils .nil
  |nilp=>exact .cons .nilp .nil
  |nilm=>exact .cons .nilm .nil
  |nilf=>exact .cons .nilf .nil
  |ptr h=>exact .cons (.ptr h) .nil
  |cp h1 h2 h3 h4=>exact .cons (.cp h1 h2 h3 h4) .nil
  |arr h ht=>exact .cons (.arr h ht) .nil
  |arrNil h=>exact .cons (.arrNil h) .nil
  |mp h=>exact .cons (.mp h) .nil
  |fn h1 h2=>exact .cons (.fn h1 h2) .nil
  |emp h1 h2 h3 h4=>exact .cons (.emp h1 h2 h3 h4) .nil
end
theorem VT.lst_emp {A:Nat->Prop} {β:Bx} {g:Nat->Fam} {e:Nat} {v:Value} (he:0<e) (h:VT A β g (.lst e []) v):VT A β g .nils v\/VT A β g (.emp e) v:=by
  cases h with
  |lnil=>exact .inl .nils
  |lst h1 h2 h3 h4 h5 h6 h7 h8=>exact .inr (.emp h1 h2 h5 h7)
inductive Box where
  |gone
  |cells (z:Bool) (N:Nat) (l:List T)
  |map (l:List (T×T))
structure TS where
  n:Nat
  box:Nat->Box
def ts0:TS:=⟨0,fun _=>.gone⟩
def TS.set (S:TS) (b:Nat) (x:Box):TS:=⟨S.n,fun i=>if i=b then x else S.box i⟩
def TS.add (S:TS) (x:Box):TS:=⟨S.n+1,fun i=>if i=S.n then x else S.box i⟩
theorem TS.set_same (S:TS) (b:Nat) (x:Box):(S.set b x).box b=x:=zAc rfl
theorem TS.set_ne (S:TS) {b c:Nat} (x:Box) (h:c≠b):(S.set b x).box c=S.box c:=zAd h
theorem TS.add_same (S:TS) (x:Box):(S.add x).box S.n=x:=zAc rfl
theorem TS.add_ne (S:TS) {c:Nat} (x:Box) (h:c≠S.n):(S.add x).box c=S.box c:=zAd h
def Own (β:Bx) (f:Nat):Prop:=∃ b,(∃ u N,β b=some (.live f u N))\/β b=some (.map f)
def Loc.fam:Loc->Option Nat
  |.live f _ _=>some f
  |.map r=>some r
  |_=>none
def zo6 (A:Nat->Prop) (β:Bx) (g:Nat->Fam) (b:Nat) (z:Bool) (N:Nat) (l:List T):Prop :=
  l.length=N/\((β b=some .nil/\N=0/\z=false)\/∃ f u cs rest,β b=some (.live f u N)/\(z=true->u % 1024=0)/\g f=⟨false,(u,cs) :: rest,none⟩/\VL A β g l cs/\cs.all oneC=true)
def VM (A:Nat->Prop) (β:Bx) (g:Nat->Fam) (l:List (T×T)) (es:List (Value×Value)):Prop :=
  VL A β g (l.map (·.1)) (es.map (·.1))/\VL A β g (l.map (·.2)) (es.map (·.2))
def zsz (A:Nat->Prop) (β:Bx) (g:Nat->Fam) (b:Nat) (l:List (T×T)):Prop :=
  ∃ r es,β b=some (.map r)/\g r=⟨false,[],some es⟩/\VM A β g l es
structure TRel (GL:List (Nat×List Value)) (A:Nat->Prop) (β:Bx) (S:TS) (s:CS):Prop where
  inr:∃ g,s.obj=.inr g
  inv:CInv s
  alt:∀ f,A f->f<s.n
  dis:∀ f,Own β f->f<s.n/\¬ A f
  inj:∀ b b' l l' f,β b=some l->β b'=some l'->l.fam=some f->l'.fam=some f->b=b'
  next:∀ b,S.n<=b->β b=none
  cells:∀ b z N l,S.box b=.cells z N l->zo6 A β (zaa s.obj) b z N l
  maps:∀ b l,S.box b=.map l->zsz A β (zaa s.obj) b l
  glob:∀ x,x∈GL->A x.1/\zbp (zaa s.obj x.1).rows (x.1*1024)=some x.2
structure Stp (A:Nat->Prop) (β:Bx) (s:CS) (A':Nat->Prop) (β':Bx) (s':CS):Prop where
  can:Can s s'
  sub:∀ f,A f->A' f
  new:∀ f,A' f->A f\/s.n<=f\/Own β f
  own:∀ f,Own β' f->Own β f\/s.n<=f
  keep:∀ f,f<s.n->¬ Own β f->zaa s'.obj f=zaa s.obj f
  bx:Bx.le β β'
  rd:∀ x,x∈s'.rd->x∈s.rd\/(x<s.lim/\(A x\/Own β x))
  wr:∀ x,x∈s'.wr->x∈s.wr\/(x<s.lim/\Own β x)
section
variable {GL:List (Nat×List Value)} {A A' A2:Nat->Prop} {β β' β2:Bx} {S S':TS} {s s' s2:CS}
theorem Stp.refl:Stp A β s A β s:=⟨jp _,fun _ h=>h,fun _ h=>.inl h,fun _ h=>.inl h,fun _ _ _=>rfl,Bx.le_refl _,fun _ h=>.inl h,fun _ h=>.inl h⟩
theorem Stp.trans (hl:s.lim<=s.n) (h:Stp A β s A' β' s') (k:Stp A' β' s' A2 β2 s2):Stp A β s A2 β2 s2:=by
  have hn:=h.can.n;refine ⟨h.can.trans k.can,fun f hf=>k.sub f (h.sub f hf),fun f hf=>?_,fun f hf=>?_,fun f hf ho=>?_,Bx.le_trans h.bx k.bx,fun x hx=>?_,fun x hx=>?_⟩
  . rcases k.new f hf with q|q|q
    . exact h.new f q
    . exact .inr (.inl (by omega))
    . rcases h.own f q with q|q
      . exact .inr (.inr q)
      . exact .inr (.inl q)
  . rcases k.own f hf with q|q
    . exact h.own f q
    . exact .inr (by omega)
  . rw [k.keep f (by omega) (fun q=>by rcases h.own f q with q|q;exact ho q;omega)];exact h.keep f hf ho
  . rcases k.rd x hx with q|⟨q,q2⟩
    . exact h.rd x q
    . rw [h.can.lim] at q;refine .inr ⟨q,?_⟩;rcases q2 with q2|q2
      . rcases h.new x q2 with q3|q3|q3
        . exact .inl q3
        . omega
        . exact .inr q3
      . rcases h.own x q2 with q3|q3
        . exact .inr q3
        . omega
  . rcases k.wr x hx with q|⟨q,q2⟩
    . exact h.wr x q
    . rw [h.can.lim] at q;refine .inr ⟨q,?_⟩;rcases h.own x q2 with q3|q3
      . exact q3
      . omega
theorem Stp.old (h:TRel GL A β S s) (k:Stp A β s A' β' s'):∀ f,A f->zaa s'.obj f=zaa s.obj f:=fun f hf=>k.keep f (h.alt f hf) fun ho=>(h.dis f ho).2 hf
theorem Stp.vt (h:TRel GL A β S s) (k:Stp A β s A' β' s') {t:T} {v:Value} (hv:VT A β (zaa s.obj) t v):VT A' β' (zaa s'.obj) t v:=hv.mono k.sub (k.old h) k.bx
theorem Stp.vl (h:TRel GL A β S s) (k:Stp A β s A' β' s') {t:List T} {v:List Value} (hv:VL A β (zaa s.obj) t v):VL A' β' (zaa s'.obj) t v:=hv.mono k.sub (k.old h) k.bx
def Ok (GL:List (Nat×List Value)) (A:Nat->Prop) (β:Bx) (s:CS) (r:Option (Value×CS)) (t:T) (S':TS):Prop :=
  ∃ v s' A' β',r=some (v,s')/\TRel GL A' β' S' s'/\VT A' β' (zaa s'.obj) t v/\Stp A β s A' β' s'
theorem Ok.same (h:TRel GL A β S s) {t:T} {v:Value} (hv:VT A β (zaa s.obj) t v):Ok GL A β s (some (v,s)) t S:=⟨v,s,A,β,rfl,h,hv,Stp.refl⟩
theorem Can.read (s:CS) (f:Nat):Can s { s with rd:=ins s.lim s.rd f }:=by
  refine ⟨fp _,rfl,fun x hx=>?_,fun _ h=>h,fun _ _ _ _=>rfl,fun _ _=>rfl,fun h=>h,fun h=>h,fun h=>h⟩;show x∈ins s.lim s.rd f;unfold ins
  cases ic f s.lim with
  |false=>exact hx
  |true =>
    cases has s.rd f with
    |true=>exact hx
    |false=>exact np _ hx
theorem TRel.read (h:TRel GL A β S s) (f:Nat):TRel GL A β S { s with rd:=ins s.lim s.rd f } :=
  ⟨h.inr,⟨h.inv.none,h.inv.vers,h.inv.lim⟩,h.alt,h.dis,h.inj,h.next,h.cells,h.maps,h.glob⟩
theorem Stp.read {f:Nat} (hf:A f\/Own β f):Stp A β s A β { s with rd:=ins s.lim s.rd f }:=by
  refine ⟨Can.read s f,fun _ h=>h,fun _ h=>.inl h,fun _ h=>.inl h,fun _ _ _=>rfl,Bx.le_refl _,fun x hx=>?_,fun _ h=>.inl h⟩;rcases zow hx with q|⟨rfl,q⟩
  . exact .inl q
  . exact .inr ⟨q,hf⟩
theorem Ok.read (h:TRel GL A β S s) {f:Nat} (hf:A f\/Own β f) {t:T} {v:Value} (hv:VT A β (zaa s.obj) t v):Ok GL A β s (some (v,{ s with rd:=ins s.lim s.rd f })) t S :=
  ⟨v,_,A,β,rfl,h.read f,hv,Stp.read hf⟩
theorem zc1 {b f u N:Nat} (h:β b=some (.live f u N)):Own β f:=⟨b,.inl ⟨u,N,h⟩⟩
theorem zm1 {b r:Nat} (h:β b=some (.map r)):Own β r:=⟨b,.inr h⟩
def bnew (β:Bx) (b:Nat) (l:Loc):Bx:=fun i=>if i=b then some l else β i
theorem z0c {b:Nat} {l:Loc} (h:β b=none):Bx.le β (bnew β b l):=fun i x hx=>by
  refine ⟨x,?_,Loc.le_refl x⟩;unfold bnew;rw [zAd (fun hh=>by subst hh;rw [h] at hx;simp at hx)];exact hx
theorem zo6.mono {g g':Nat->Fam} {b N:Nat} {z:Bool} {l:List T} (hA:∀ f,A f->A' f) (hg:∀ f,A f->g' f=g f) (hβ:Bx.le β β') (hb:β' b=β b) (ho:∀ f u N,β b=some (.live f u N)->g' f=g f) (h:zo6 A β g b z N l):zo6 A' β' g' b z N l:=by
  obtain ⟨h1,h2⟩:=h;refine ⟨h1,?_⟩;rcases h2 with ⟨k1,k2⟩|⟨f,u,cs,rest,k1,kz,k2,k3,k4⟩
  . exact .inl ⟨by rw [hb];exact k1,k2⟩
  . exact .inr ⟨f,u,cs,rest,by rw [hb];exact k1,kz,by rw [ho f u N k1];exact k2,k3.mono hA hg hβ,k4⟩
theorem zsz.mono {g g':Nat->Fam} {b:Nat} {l:List (T×T)} (hA:∀ f,A f->A' f) (hg:∀ f,A f->g' f=g f) (hβ:Bx.le β β') (hb:β' b=β b) (ho:∀ r,β b=some (.map r)->g' r=g r) (h:zsz A β g b l):zsz A' β' g' b l:=by
  obtain ⟨r,es,h1,h2,h3,h4⟩:=h;exact ⟨r,es,by rw [hb];exact h1,by rw [ho r h1];exact h2,h3.mono hA hg hβ,h4.mono hA hg hβ⟩
structure zj1 (A:Nat->Prop) (β:Bx) (s:CS) (A':Nat->Prop) (s':CS):Prop where
  can:Can s s'
  sub:∀ f,A f->A' f
  new:∀ f,A' f->A f\/s.n<=f
  keep:∀ f,f<s.n->zaa s'.obj f=zaa s.obj f
  rd:∀ x,x∈s'.rd->x∈s.rd\/(x<s.lim/\(A x\/Own β x))
  wr:∀ x,x∈s'.wr->x∈s.wr
theorem zj1.stp (k:zj1 A β s A' s'):Stp A β s A' β s':=⟨k.can,k.sub,fun f hf=>(k.new f hf).imp id .inl,fun f hf=>.inl hf,fun f hf _=>k.keep f hf,Bx.le_refl _,k.rd,fun x hx=>.inl (k.wr x hx)⟩
theorem zj1.rel (hT:TRel GL A β S s) (k:zj1 A β s A' s') (hin:∃ g,s'.obj=.inr g) (hI:CInv s') (ha:∀ f,A' f->f<s'.n):TRel GL A' β S s':=by
  refine ⟨hin,hI,ha,fun f hf=>?_,hT.inj,hT.next,fun b z N l hb=>?_,fun b l hb=>?_,fun x hx=>?_⟩
  . have:=hT.dis f hf;refine ⟨gr this.1 k.can.n,fun hA=>?_⟩;rcases k.new f hA with q|q
    . exact this.2 q
    . omega
  . exact (hT.cells b z N l hb).mono k.sub (fun f hf=>k.keep f (hT.alt f hf)) (Bx.le_refl _) rfl fun f u N hl=>k.keep f (hT.dis f (zc1 hl)).1
  . exact (hT.maps b l hb).mono k.sub (fun f hf=>k.keep f (hT.alt f hf)) (Bx.le_refl _) rfl fun r hl=>k.keep r (hT.dis r (zm1 hl)).1
  . have:=hT.glob x hx;exact ⟨k.sub _ this.1,by rw [k.keep _ (hT.alt _ this.1)];exact this.2⟩
def Ok0 (GL:List (Nat×List Value)) (A:Nat->Prop) (β:Bx) (S:TS) (s:CS) (r:Option (Value×CS)) (t:T):Prop :=
  ∃ v s' A',r=some (v,s')/\TRel GL A' β S s'/\VT A' β (zaa s'.obj) t v/\zj1 A β s A' s'
theorem Ok0.ok {r:Option (Value×CS)} {t:T} (h:Ok0 GL A β S s r t):Ok GL A β s r t S:=by
  obtain ⟨v,s',A',h1,h2,h3,h4⟩:=h;exact ⟨v,s',A',β,h1,h2,h3,h4.stp⟩
theorem Ok0.same (h:TRel GL A β S s) {t:T} {v:Value} (hv:VT A β (zaa s.obj) t v):Ok0 GL A β S s (some (v,s)) t :=
  ⟨v,s,A,rfl,h,hv,jp _,fun _ h=>h,fun _ h=>.inl h,fun _ _=>rfl,fun _ h=>.inl h,fun _ h=>h⟩
theorem zj1.read {f:Nat} (hf:A f\/Own β f):zj1 A β s A { s with rd:=ins s.lim s.rd f }:=by
  refine ⟨Can.read s f,fun _ h=>h,fun _ h=>.inl h,fun _ _=>rfl,fun x hx=>?_,fun _ h=>h⟩;rcases zow hx with q|⟨rfl,q⟩
  . exact .inl q
  . exact .inr ⟨q,hf⟩
theorem Ok0.read (h:TRel GL A β S s) {f:Nat} (hf:A f\/Own β f) {t:T} {v:Value} (hv:VT A β (zaa s.obj) t v):Ok0 GL A β S s (some (v,{ s with rd:=ins s.lim s.rd f })) t :=
  ⟨v,_,A,rfl,h.read f,hv,zj1.read hf⟩
theorem TRel.fresh (h:TRel GL A β S s) (F:Fam) (hF:F.ro=false) (hv:∀ p,p∈F.rows->p.1 / 1024<s.n+1) :
    TRel GL A β S { s with n:=s.n+1,obj:=zbi s.obj s.n F }/\Can s { s with n:=s.n+1,obj:=zbi s.obj s.n F }/\(∀ f,f≠s.n->zaa (zbi s.obj s.n F) f=zaa s.obj f)/\zaa (zbi s.obj s.n F) s.n=F:=by
  obtain ⟨n,ob,lim,rd,wr⟩:=s;obtain ⟨g,hg⟩:=h.inr;simp only at hg;subst hg;simp only [zhb,zpu];have hne:∀ f,f≠n->fupd g n F f=g f:=fun f hf=>zjv g n f F hf;have hold:∀ f,f<n->fupd g n F f=g f:=fun f hf=>hne f (by omega);have hlim:lim<=n:=h.inv.lim
  have hI:CInv (⟨n+1,.inr (fupd g n F),lim,rd,wr⟩:CS):=by
    refine ⟨fun f hf=>?_,fun f p hp=>?_,by show lim<=n+1;omega⟩
    . show fupd g n F f=ze7;rw [hne f (by have:n+1<=f:=hf;omega)];exact h.inv.none f (by have:n+1<=f:=hf;show n<=f;omega)
    . change p∈(fupd g n F f).rows at hp;show p.1 / 1024<n+1;by_cases hf:f=n
      . subst hf;rw [zgv] at hp;exact hv p hp
      . rw [hne f hf] at hp;have:p.1 / 1024<n:=h.inv.vers f p hp;omega
  refine ⟨⟨⟨_,rfl⟩,hI,fun f hf=>?_,fun f hf=>?_,h.inj,h.next,fun b z N l hb=>?_,fun b l hb=>?_,fun x hx=>?_⟩,?_,hne,zgv g n F⟩
  . have:f<n:=h.alt f hf;show f<n+1;omega
  . have:f<n/\¬ A f:=h.dis f hf;exact ⟨by show f<n+1;omega,this.2⟩
  . exact (h.cells b z N l hb).mono (fun _ h=>h) (fun f hf=>hold f (h.alt f hf)) (Bx.le_refl _) rfl fun f u N hl=>hold f (h.dis f (zc1 hl)).1
  . exact (h.maps b l hb).mono (fun _ h=>h) (fun f hf=>hold f (h.alt f hf)) (Bx.le_refl _) rfl fun r hl=>hold r (h.dis r (zm1 hl)).1
  . have:=h.glob x hx;refine ⟨this.1,?_⟩;show zbp (fupd g n F x.1).rows (x.1*1024)=_;rw [hold x.1 (h.alt _ this.1)];exact this.2
  . refine ⟨by show n<=n+1;omega,rfl,fun _ h=>h,fun _ h=>h,fun f hf _ _=>hold f hf,fun f hf=>?_,fun hd f hf=>hI.none f hf,fun hd f p hp=>hI.vers f p hp,fun h=>h⟩;show (fupd g n F f).ro=_;rw [hold f hf];rfl
theorem TRel.le (h:TRel GL A β S s):s.lim<=s.n:=h.inv.lim
def CS.rowed (s:CS) (tag:Nat) (cs:List Value):CS:={ s with n:=s.n+1,obj:=zbi s.obj s.n ⟨false,[(s.n*1024+tag,cs)],none⟩ }
theorem TRel.newBox (h:TRel GL A β S s) {l:List T} {cs:List Value} (tag:Nat) (ht:tag<1024) (hv:VL A β (zaa s.obj) l cs) (h1:cs.all oneC=true) :
    ∃ s' β',s.newRow tag cs=some (mkA s.n (s.n*1024+tag) 0,s')/\β' S.n=some (.live s.n (s.n*1024+tag) l.length)/\TRel GL A β' (S.add (.cells (fy tag 0) l.length l)) s'/\Stp A β s A β' s':=by
  obtain ⟨q1,q2,q3,q4⟩:=h.fresh ⟨false,[(s.n*1024+tag,cs)],none⟩ rfl (fun p hp=>by simp at hp;subst hp;show (s.n*1024+tag) / 1024<s.n+1;omega);refine ⟨s.rowed tag cs,bnew β S.n (.live s.n (s.n*1024+tag) l.length),?_,zAc rfl,?_,?_⟩
  . unfold qy;have:zmb s.obj s.n=true:=by obtain ⟨g,hg⟩:=h.inr;rw [hg];rfl
    rw [this,zbe];rfl
  . have hb0:β S.n=none:=h.next _ (fp _)
    have hle:Bx.le β (bnew β S.n (.live s.n (s.n*1024+tag) l.length)):=z0c hb0;have hat:∀ b,b≠S.n->bnew β S.n (.live s.n (s.n*1024+tag) l.length) b=β b:=fun b hb=>zAd hb;have hat2:bnew β S.n (.live s.n (s.n*1024+tag) l.length) S.n=some (.live s.n (s.n*1024+tag) l.length):=zAc rfl;have hold:∀ f,f<s.n->zaa (zbi s.obj s.n ⟨false,[(s.n*1024+tag,cs)],none⟩) f=zaa s.obj f:=fun f hf=>q3 f (by omega);refine ⟨q1.inr,q1.inv,q1.alt,fun f hf=>?_,fun b b' x x' f hb hb' hx hx'=>?_,fun b hb=>?_,fun b z N x hb=>?_,fun b x hb=>?_,q1.glob⟩
    . obtain ⟨b,hb⟩:=hf;by_cases hbn:b=S.n
      . subst hbn;rw [hat2] at hb;rcases hb with ⟨u,N,hb⟩|hb
        . cases hb;exact ⟨by show s.n<s.n+1;omega,fun hA=>by have:=h.alt _ hA;omega⟩
        . simp at hb
      . rw [hat b hbn] at hb;exact q1.dis f ⟨b,hb⟩
    . have key:∀ b x,β b=some x->x.fam=some s.n->False:=fun b x hb hx=>by
        have:Own β s.n:=by
          cases x with
          |live f u N=>simp [Loc.fam] at hx;subst hx;exact zc1 hb
          |map r=>simp [Loc.fam] at hx;subst hx;exact zm1 hb
          |nil=>simp [Loc.fam] at hx
          |dead=>simp [Loc.fam] at hx
        have:=(h.dis _ this).1;omega
      by_cases e1:b=S.n<;>by_cases e2:b'=S.n
      . rw [e1,e2]
      . subst e1;rw [hat2] at hb;rw [hat b' e2] at hb';cases hb;simp [Loc.fam] at hx;subst hx;exact (key b' x' hb' hx').elim
      . subst e2;rw [hat2] at hb';rw [hat b e1] at hb;cases hb';simp [Loc.fam] at hx';subst hx';exact (key b x hb hx).elim
      . rw [hat b e1] at hb;rw [hat b' e2] at hb';exact h.inj b b' x x' f hb hb' hx hx'
    . have:S.n+1<=b:=hb;rw [hat b (by omega)];exact h.next b (by omega)
    . by_cases hbn:b=S.n
      . subst hbn;rw [TS.add_same] at hb;cases hb;refine ⟨rfl,.inr ⟨s.n,_,cs,[],hat2,fun hz=>by have:=fl hz;omega,q4,hv.mono (fun _ h=>h) (fun f hf=>hold f (h.alt f hf)) hle,h1⟩⟩
      . rw [TS.add_ne _ _ hbn] at hb;exact (h.cells b z N x hb).mono (fun _ h=>h) (fun f hf=>hold f (h.alt f hf)) hle (hat b hbn) fun f u N hl=>hold f (h.dis f (zc1 hl)).1
    . by_cases hbn:b=S.n
      . subst hbn;rw [TS.add_same] at hb;cases hb
      . rw [TS.add_ne _ _ hbn] at hb;exact (h.maps b x hb).mono (fun _ h=>h) (fun f hf=>hold f (h.alt f hf)) hle (hat b hbn) fun r hl=>hold r (h.dis r (zm1 hl)).1
  . refine ⟨q2,fun _ h=>h,fun _ h=>.inl h,fun f hf=>?_,fun f hf _=>q3 f (by omega),z0c (h.next _ (fp _)),fun _ h=>.inl h,fun _ h=>.inl h⟩;obtain ⟨b,hb⟩:=hf;by_cases hbn:b=S.n
    . subst hbn;unfold bnew at hb;rw [zAc rfl] at hb;rcases hb with ⟨u,N,hb⟩|hb
      . cases hb;exact .inr (fp _)
      . simp at hb
    . unfold bnew at hb;rw [zAd hbn] at hb;exact .inl ⟨b,hb⟩
theorem TRel.newFrozen (h:TRel GL A β S s) {l:List T} {cs:List Value} (tag:Nat) (ht:tag<1024) (hv:VL A β (zaa s.obj) l cs) :
    ∃ s' A',s.newRow tag cs=some (mkA s.n (s.n*1024+tag) 0,s')/\A' s.n/\zbp (zaa s'.obj s.n).rows (s.n*1024+tag)=some cs/\TRel GL A' β S s'/\zj1 A β s A' s':=by
  obtain ⟨q1,q2,q3,q4⟩:=h.fresh ⟨false,[(s.n*1024+tag,cs)],none⟩ rfl (fun p hp=>by simp at hp;subst hp;show (s.n*1024+tag) / 1024<s.n+1;omega);have hold:∀ f,f<s.n->zaa (zbi s.obj s.n ⟨false,[(s.n*1024+tag,cs)],none⟩) f=zaa s.obj f:=fun f hf=>q3 f (by omega);refine ⟨s.rowed tag cs,fun f=>A f\/f=s.n,?_,.inr rfl,?_,?_,?_⟩
  . unfold qy;have:zmb s.obj s.n=true:=by obtain ⟨g,hg⟩:=h.inr;rw [hg];rfl
    rw [this,zbe];rfl
  . show zbp (zaa (zbi s.obj s.n _) s.n).rows _=_;rw [q4];exact z05
  . refine ⟨q1.inr,q1.inv,fun f hf=>?_,fun f hf=>?_,h.inj,h.next,fun b z N x hb=>?_,fun b x hb=>?_,fun x hx=>⟨.inl (q1.glob x hx).1,(q1.glob x hx).2⟩⟩
    . rcases hf with hf|rfl
      . exact q1.alt f hf
      . show s.n<s.n+1;omega
    . refine ⟨(q1.dis f hf).1,fun hh=>?_⟩;rcases hh with hh|rfl
      . exact (q1.dis f hf).2 hh
      . have:=(h.dis _ hf).1;omega
    . exact (q1.cells b z N x hb).mono (fun _ h=>.inl h) (fun _ _=>rfl) (Bx.le_refl _) rfl fun _ _ _ _=>rfl
    . exact (q1.maps b x hb).mono (fun _ h=>.inl h) (fun _ _=>rfl) (Bx.le_refl _) rfl fun _ _=>rfl
  . refine ⟨q2,fun _ h=>.inl h,fun f hf=>?_,hold,fun _ h=>.inl h,fun _ h=>h⟩;rcases hf with hf|rfl
    . exact .inl hf
    . exact .inr (fp _)
theorem Ok0.rd (h:TRel GL A β S s) {s1:CS} (hs:TRel GL A β S s1/\zj1 A β s A s1) {t:T} {v:Value} (hv:VT A β (zaa s1.obj) t v):Ok0 GL A β S s (some (v,s1)) t:=⟨v,s1,A,rfl,hs.1,hv,hs.2⟩
end
def spl (l:List T) (off:Nat) (xs:List T):List T:=l.take off++xs++l.drop (off+xs.length)
theorem ybf {l xs:List T} {off:Nat} (h:off+xs.length<=l.length):(spl l off xs).length=l.length:=by
  unfold spl;rw [fx,fx,ik,jf];omega
section
variable {GL:List (Nat×List Value)} {A A' A2:Nat->Prop} {β β' β2:Bx} {S S':TS} {s s' s2:CS} {P:gn} {Γ:Env}
theorem yaj {s:CS} {g:Nat->Fam} (hs:s.obj=.inr g) {f u off:Nat} {vs cs:List Value} {rest:List (Nat×List Value)} (hg:g f=⟨false,(u,cs) :: rest,none⟩) (hl:off+vs.length<=cs.length) (ho:vs.all oneC=true) :
    CS.write s (mkA f u off) vs=some { s with obj:=.inr (fupd g f ⟨false,[(u,splice cs off vs)],none⟩),wr:=ins s.lim s.wr f }:=by
  obtain ⟨n,ob,lim,rd,wr⟩:=s;simp only at hs;subst hs;unfold CS.write;show (match (g f).ro,zbp (g f).rows u with|false,some cs=>_|_,_=>none)=_;rw [hg];simp only;have:zbp ((u,cs) :: rest) u=some cs:=by unfold zbp;rw [ja];rfl
  rw [this];simp only;rw [zav.2 (show (mkA f u off).off+vs.length<=cs.length from hl),ho,n6,zbe,zhb];rfl
theorem TRel.write (h:TRel GL A β S s) {b N f u off:Nat} {z:Bool} {l xs:List T} {ys:List Value} (hS:S.box b=.cells z N l) (hb:β b=some (.live f u N)) (hx:VL A β (zaa s.obj) xs ys) (ho:ys.all oneC=true) (hN:off+xs.length<=N) :
    ∃ s',s.write (mkA f u off) ys=some s'/\TRel GL A β (S.set b (.cells z N (spl l off xs))) s'/\Stp A β s A β s':=by
  obtain ⟨hlN,hc⟩:=h.cells b z N l hS;rcases hc with ⟨hc,_,_⟩|⟨f',u',cs,rest,hb',hz,hg,hv,h1⟩
  . rw [hb] at hc;simp at hc
  rw [hb] at hb';cases hb';have hlen:=hv.len;have hxl:=hx.len;obtain ⟨g,hin⟩:=h.inr;have hg':g f=⟨false,(u,cs) :: rest,none⟩:=by rw [hin] at hg;exact hg
  have hw:=yaj hin (off:=off) (vs:=ys) hg' (by omega) ho;have hcan:=zky h.inv hw;have hd:=h.dis f (zc1 hb);have hold:∀ k,k≠f->fupd g f ⟨false,[(u,splice cs off ys)],none⟩ k=g k:=fun k hk=>zjv _ _ _ _ hk;have hobj:∀ k,zaa s.obj k=g k:=fun k=>by rw [hin];rfl
  have hA:∀ k,A k->fupd g f ⟨false,[(u,splice cs off ys)],none⟩ k=zaa s.obj k:=fun k hk=>by rw [hobj];exact hold k fun hh=>hd.2 (hh ▸ hk)
  have hoth:∀ {b':Nat} {l:Loc} {k:Nat},β b'=some l->l.fam=some k->b'≠b->fupd g f ⟨false,[(u,splice cs off ys)],none⟩ k=zaa s.obj k:=by
    intro b' l k hb2 hk hne;rw [hobj];refine hold k fun hh=>hne ?_;subst hh;exact h.inj b' b l _ k hb2 hb hk rfl
  refine ⟨_,hw,⟨⟨_,rfl⟩,h.inv.next hcan,fun k hk=>h.alt k hk,fun k hk=>h.dis k hk,h.inj,h.next,fun b' z' N' l' hb2=>?_,fun b' l' hb2=>?_,fun x hx2=>?_⟩,hcan,fun _ h=>h,fun _ h=>.inl h,fun _ h=>.inl h,fun k hk hno=>?_,Bx.le_refl _,fun _ h=>.inl h,fun x hx2=>?_⟩
  . by_cases hbb:b'=b
    . subst hbb;rw [TS.set_same] at hb2;cases hb2;refine ⟨by rw [ybf (by omega)];exact hlN,.inr ⟨f,u,splice cs off ys,[],hb,hz,zgv _ _ _,?_,?_⟩⟩
      . exact (hv.splice off hx).mono (fun _ h=>h) hA (Bx.le_refl _)
      . unfold Go.Proofs.Ytkfnjbfnkpameaa.splice;rw [ow,ow,ho];simp only [n6,fj,ib] at h1 ⊢;exact ⟨fun x hx=>h1 x (nv hx),fun x hx=>h1 x (m5 hx)⟩
    . rw [TS.set_ne _ _ hbb] at hb2;exact (h.cells b' z' N' l' hb2).mono (fun _ h=>h) hA (Bx.le_refl _) rfl fun f' u' N2 hl=>hoth hl rfl hbb
  . by_cases hbb:b'=b
    . subst hbb;rw [TS.set_same] at hb2;cases hb2
    . rw [TS.set_ne _ _ hbb] at hb2;exact (h.maps b' l' hb2).mono (fun _ h=>h) hA (Bx.le_refl _) rfl fun r hl=>hoth hl rfl hbb
  . have:=h.glob x hx2;refine ⟨this.1,?_⟩;show zbp (fupd g f _ x.1).rows _=_;rw [hA _ this.1];exact this.2
  . show fupd g f _ k=_;rw [hobj];exact hold k fun hh=>hno (hh ▸ zc1 hb)
  . rcases zow hx2 with q|⟨rfl,q⟩
    . exact .inl q
    . exact .inr ⟨q,zc1 hb⟩
theorem TRel.look (h:TRel GL A β S s) {b N f u off:Nat} {z:Bool} {l:List T} (hS:S.box b=.cells z N l) (hb:β b=some (.live f u N)) :
    ∃ cs,s.readRow (mkA f u off)=some (cs,{ s with rd:=ins s.lim s.rd f })/\VL A β (zaa s.obj) l cs/\cs.all oneC=true:=by
  obtain ⟨hlN,hc⟩:=h.cells b z N l hS;rcases hc with ⟨hc,_,_⟩|⟨f',u',cs,rest,hb',hz,hg,hv,h1⟩
  . rw [hb] at hc;simp at hc
  rw [hb] at hb';cases hb';refine ⟨cs,?_,hv,h1⟩;unfold ol;rw [zl4,zjm,hg];have:zbp ((u,cs) :: rest) u=some cs:=by unfold zbp;rw [ja];rfl
  rw [show (⟨false,(u,cs) :: rest,none⟩:Fam).rows=(u,cs) :: rest from rfl,this]
def z4j (i:TI) (l:List T) (off:Nat):Option T:=bif aggT i.desc then (bif h9 (off+i.size) l.length then some (.agg ((l.drop off).take i.size)) else none) else l[off]?
theorem z8b {l:List Value} {off k:Nat} (h:off+k<=l.length):cut l off k=some ((l.drop off).take k):=by
  unfold cut;have:((l.drop off).take k).length=k:=by rw [ik,jf];omega
  simp only [this,ja,cond_true]
theorem zzi {g:Nat->Fam} {i:TI} {l:List T} {cs:List Value} {off:Nat} {t:T} (hv:VL A β g l cs) (ht:z4j i l off=some t):∃ v,ztz i cs off=some v/\VT A β g t v:=by
  unfold z4j at ht;unfold ztz
  cases ha:aggT i.desc with
  |true =>
    rw [ha] at ht;simp only [cond_true] at ht ⊢
    cases hb:h9 (off+i.size) l.length with
    |false=>rw [hb] at ht;simp at ht
    |true =>
      rw [hb] at ht;simp only [cond_true,fe] at ht;subst ht;rw [z8b (by rw [<- hv.len];exact zav.1 hb)];exact ⟨_,rfl,.agg ((hv.drop off).take i.size)⟩
  |false =>
    rw [ha] at ht;simp only [cond_false] at ht ⊢;exact hv.get ht
def zs8 (Γ:Env) (S:TS) (t:gm):T->Option T
  |.ptr b off N=>match Γ.ti.at t,S.box b with
    |some i,.cells z N' l=>bif fy N N' then z4j i l off else none
    |_,_=>none
  |.cp l=>match Γ.ti.at t with|some i=>z4j i l 0|none=>none
  |_=>none
theorem yn1 {b f u N M:Nat} (h:TRel GL A β S s) {z:Bool} {l:List T} (hS:S.box b=.cells z M l) {x:Loc} (hb:β b=some x) (hx:(∀ f u,x≠.live f u M)) (hn:Loc.le (.live 0 0 M) x):False:=by
  obtain ⟨hlN,hc⟩:=h.cells b z M l hS;rcases hc with ⟨hc,_,_⟩|⟨f',u',cs,rest,hb',hz,hg,hv,h1⟩
  . rw [hb] at hc;cases hc;simp [Loc.le] at hn
  . rw [hb] at hb';cases hb';exact hx _ _ rfl
theorem zkl (h:TRel GL A β S s) {b off N:Nat} {z:Bool} {l:List T} {v:Value} (hS:S.box b=.cells z N l) (hv:VT A β (zaa s.obj) (.ptr b off N) v):∃ f u,v=.pointer (some (mkA f u off))/\β b=some (.live f u N):=by
  cases hv with
  |ptr hb=>exact ⟨_,_,rfl,hb⟩
  |ptrOld hb h1 h2 h3=>exact (yn1 (f:=0) (u:=0) (N:=0) h hS hb h1 h2).elim
theorem zhw (h:TRel GL A β S s) {b e off len cap N:Nat} {z:Bool} {l:List T} {v:Value} (hS:S.box b=.cells z N l) (hv:VT A β (zaa s.obj) (.arr b e off len cap N) v):(∃ f u,v=.slice (some (mkA f u off)) len cap/\β b=some (.live f u N)/\yft u e)\/(v=.slice none 0 0/\β b=some .nil/\off=0/\len=0/\cap=0/\N=0):=by
  cases hv with
  |arr hb ht=>exact .inl ⟨_,_,rfl,hb,ht⟩
  |arrNil hb=>exact .inr ⟨rfl,hb,rfl,rfl,rfl,rfl⟩
  |arrOld hb h1 h2 h3=>exact (yn1 (f:=0) (u:=0) (N:=0) h hS hb h1 h2).elim
theorem z5u (h:TRel GL A β S s) {t:gm} {x r:T} {v:Value} (hx:VT A β (zaa s.obj) x v) (ht:zs8 Γ S t x=some r) :
    ∃ ad i w f,v=.pointer (some ad)/\Γ.ti.at t=some i/\(A f\/Own β f)/\s.loadVar i ad=some (w,{ s with rd:=ins s.lim s.rd f })/\VT A β (zaa s.obj) r w:=by
  unfold zs8 at ht;split at ht
  . rename_i b off N;split at ht
    . rename_i i z N' l hi hS
      cases hq:fy N N' with
      |false=>rw [hq] at ht;simp at ht
      |true =>
        rw [hq] at ht;have:=fl hq;subst this;obtain ⟨f,u,rfl,hb⟩:=zkl h hS hx;obtain ⟨cs,h1,h2,h3⟩:=h.look (off:=off) hS hb;obtain ⟨w,h4,h5⟩:=zzi h2 ht;refine ⟨_,i,w,f,rfl,hi,.inr (zc1 hb),?_,h5⟩;unfold CS.loadVar;simp only [h1,zrt,h4]
    . simp at ht
  . rename_i l
    cases hx with
    |cp k1 k2 k3 k4 =>
      rename_i f u off cs cs0;split at ht
      . rename_i i hi
        have hpc:∀ w,ztz i cs 0=some w->ztz i cs0 off=some w:=by
          intro w hw;unfold ztz at hw ⊢
          cases ha:aggT i.desc with
          |true =>
            rw [ha] at hw;simp only [cond_true] at hw ⊢;unfold cut at hw ⊢
            cases hl:fy ((cs.drop 0).take i.size).length i.size with
            |false=>simp only [hl,cond_false] at hw;simp at hw
            |true =>
              simp only [hl,cond_true] at hw;have hl':=fl hl;rw [gp,ik] at hl'
              have e1:(cs0.drop off).take i.size=(cs.drop 0).take i.size:=by
                rw [<- k4,gp,pv,ql (by omega)]
              rw [e1];simp only [hl,cond_true];exact hw
          |false =>
            rw [ha] at hw;simp only [cond_false] at hw ⊢;rw [<- k4] at hw;rw [List.getElem?_take] at hw;split at hw
            . rw [List.getElem?_drop] at hw;exact hw
            . simp at hw
        obtain ⟨w,h4,h5⟩:=zzi k3 ht;refine ⟨_,i,w,f,rfl,hi,.inl k1,?_,h5⟩;unfold CS.loadVar ol;simp only [zl4,zjm,k2,zrt,hpc _ h4]
      . simp at ht
  . simp at ht
theorem yfv (h:TRel GL A β S s) {t:gm} {x r:T} {v:Value} (hx:VT A β (zaa s.obj) x v) (ht:zs8 Γ S t x=some r):Ok0 GL A β S s (zrs Γ s t v) r:=by
  obtain ⟨ad,i,w,f,rfl,h1,h2,h3,h4⟩:=z5u h hx ht
  have:zrs Γ s t (.pointer (some ad))=some (w,{ s with rd:=ins s.lim s.rd f }):=by
    unfold zrs;simp only [h1,h3]
  rw [this];exact Ok0.read h h2 h4
def zwg (Γ:Env) (S:TS) (t:gm) (v:T):T->Option TS
  |.ptr b off N=>match Γ.ti.at t,S.box b with
    |some i,.cells z N' l=>bif fy N N' && (fy v.cells.length i.size && (h9 (off+v.cells.length) N && v.cells.all T.one)) then some (S.set b (.cells z N (spl l off v.cells))) else none
    |_,_=>none
  |_=>none
theorem zlx {v:T} (h:v.cells.all T.one=true):v≠.junk:=by rintro rfl;simp [T.cells,T.one] at h
theorem yax (h:TRel GL A β S s) {t:gm} {x y:T} {v w:Value} (hx:VT A β (zaa s.obj) x v) (hy:VT A β (zaa s.obj) y w) (ht:zwg Γ S t y x=some S'):Ok GL A β s (zm4 Γ s t w.cells.toList v) .junk S':=by
  unfold zwg at ht;split at ht
  . rename_i b off N;split at ht
    . rename_i i z N' l hi hS
      cases hq:(fy N N' && (fy y.cells.length i.size && (h9 (off+y.cells.length) N && y.cells.all T.one))) with
      |false=>rw [hq] at ht;simp at ht
      |true =>
        rw [hq] at ht;simp only [cond_true,fe] at ht;subst ht;simp only [fj] at hq;obtain ⟨q1,q2,q3,q4⟩:=hq;have:=fl q1;subst this;obtain ⟨f,u,rfl,hb⟩:=zkl h hS hx;have hc:=hy.cells (zlx q4);obtain ⟨s',h1,h2,h3⟩:=h.write (off:=off) hS hb hc (hc.one q4) (zav.1 q3);refine ⟨undef,s',A,β,?_,h2,.junk _,h3⟩;unfold zm4;simp only [hi];rw [<- hc.len,q2,cond_true,h1];rfl
    . simp at ht
  . simp at ht
def zll:Value->Option T
  |.int k n=>some (.int k n)
  |.bool b=>some (.bool b)
  |.string b=>some (.str b)
  |.pointer none=>some .nilp
  |.slice none 0 0=>some .nils
  |.map none=>some .nilm
  |.nilFunc=>some .nilf
  |_=>none
def zgi:List Value->Option (List T)
  |[]=>some []
  |v :: l=>match zll v,zgi l with|some t,some r=>some (t :: r)|_,_=>none
theorem z5k {g:Nat->Fam} {v:Value} {t:T} (h:zll v=some t):VT A β g t v/\t.one=true:=by
  unfold zll at h;split at h<;>first | (simp at h;done) | (cases h;exact ⟨by constructor,rfl⟩)
theorem zjl {g:Nat->Fam}:∀ {l:List Value} {r:List T},zgi l=some r->VL A β g r l/\r.all T.one=true
  |[],r,h=>by simp only [zgi,fe] at h;subst h;exact ⟨.nil,rfl⟩
  |v :: l,r,h=>by
    unfold zgi at h;split at h
    . rename_i t r' h1 h2;cases h;obtain ⟨a,b⟩:=z5k (A:=A) (β:=β) (g:=g) h1;obtain ⟨c,d⟩:=zjl h2;exact ⟨.cons a c,by rw [jn,b,d];rfl⟩
    . simp at h
def zwi (Γ:Env) (S:TS) (e:gm):Option (T×TS) :=
  match Γ.ti.at e with
  |some i=>(match zgi i.zero with|some l=>some (.ptr S.n 0 l.length,S.add (.cells true l.length l))|none=>none)
  |none=>none
theorem yiu (h:TRel GL A β S s) {l:List T} {cs:List Value} (hv:VL A β (zaa s.obj) l cs) (h1:l.all T.one=true):Ok GL A β s (ptrC (s.newRow 0 cs)) (.ptr S.n 0 l.length) (S.add (.cells true l.length l)):=by
  obtain ⟨s',β',k1,k2,k3,k4⟩:=h.newBox 0 (by omega) hv (hv.one h1);exact ⟨_,s',A,β',by rw [k1];rfl,k3,.ptr k2,k4⟩
theorem ya4 (h:TRel GL A β S s) {e:gm} {r:T} (ht:zwi Γ S e=some (r,S')):Ok GL A β s (zm6 Γ s e) r S':=by
  unfold zwi at ht;split at ht
  . rename_i i hi;split at ht
    . rename_i l hl;cases ht;obtain ⟨a,b⟩:=zjl hl;have:=yiu h a b;unfold zm6;simp only [hi];exact this
    . simp at ht
  . simp at ht
def tBox (S:TS) (x:T):Option (T×TS):=bif x.cells.all T.one then some (.ptr S.n 0 x.cells.length,S.add (.cells true x.cells.length x.cells)) else none
theorem yk7 (h:TRel GL A β S s) {x r:T} {v:Value} (hx:VT A β (zaa s.obj) x v) (ht:tBox S x=some (r,S')):Ok GL A β s (ptrC (s.newRow 0 v.cells.toList)) r S':=by
  unfold tBox at ht
  cases hq:x.cells.all T.one with
  |false=>rw [hq] at ht;simp at ht
  |true =>
    rw [hq] at ht;cases ht;exact yiu h (hx.cells (zlx hq)) hq
end
section
variable {GL:List (Nat×List Value)} {A A' A2:Nat->Prop} {β β' β2:Bx} {S S':TS} {s s' s2:CS} {P:gn} {Γ:Env}
def TS.has (S:TS) (b N:Nat):Bool:=match S.box b with|.cells _ N' _=>fy N N' | _=>false
theorem TS.has_ok {b N:Nat} (h:S.has b N=true):∃ z l,S.box b=.cells z N l:=by
  unfold TS.has at h;split at h
  . rename_i z N' l hS;have:=fl h;subst this;exact ⟨z,l,hS⟩
  . simp at h
theorem yeq {g:Nat->Fam} {l:List T} {f u off:Nat} {cs0 cs:List Value} (o:Nat) (k1:A f) (k2:zbp (g f).rows u=some cs0) (k3:VL A β g l cs) (k4:(cs0.drop off).take cs.length=cs):VT A β g (.cp (l.drop o)) (.pointer (some (mkA f u (off+o)))):=by
  refine .cp k1 k2 (k3.drop o) ?_;have:=congrArg (List.drop o) k4;rw [List.drop_take,lp] at this;rw [jf];exact this
theorem yl8 {g:Nat->Fam} {l:List T} {f u off:Nat} {cs0 cs:List Value} (o:Nat) (k1:A f) (k2:zbp (g f).rows u=some cs0) (k3:VL A β g l cs) (k4:(cs0.drop off).take cs.length=cs):VT A β g (.cp (l.take o)) (.pointer (some (mkA f u off))):=by
  refine .cp k1 k2 (k3.take o) ?_;have:=congrArg (List.take o) k4;rw [pv] at this;rw [ik];exact this
def zan (Γ:Env) (S:TS) (t:gm) (k:Nat) (x:T):Option T:=match Γ.ti.at t with
  |some i=>(match i.desc with
    |.struct fs=>(match zfk Γ fs k with
      |some (o,size)=>bif fy size 0 then none else (match x with
        |.ptr b off N=>bif S.has b N then some (.ptr b (off+o) N) else none
        |.cp l=>some (.cp (l.drop o))
        |_=>none)
      |none=>none)
    |_=>none)
  |none=>none
theorem zyv (h:TRel GL A β S s) {t:gm} {k:Nat} {x r:T} {v:Value} (hx:VT A β (zaa s.obj) x v) (ht:zan Γ S t k x=some r):Ok0 GL A β S s (zd6 Γ s t k v) r:=by
  unfold zan at ht;split at ht
  . rename_i i hi;split at ht
    . rename_i fs hd;split at ht
      . rename_i o size hp
        cases hz:fy size 0 with
        |true=>rw [hz] at ht;simp at ht
        |false =>
          rw [hz,cond_false] at ht
          have key:∀ a,zd6 Γ s t k (.pointer (some a))=some (.pointer (some (Addr.plus a o)),s):=fun a=>by
            unfold zd6;simp only [hi,hd,hp,hz,cond_false]
          split at ht
          . rename_i b off N
            cases hs:S.has b N with
            |false=>rw [hs] at ht;simp at ht
            |true =>
              rw [hs] at ht;cases ht;obtain ⟨z,l,hS⟩:=TS.has_ok hs;obtain ⟨f,u,rfl,hb⟩:=zkl h hS hx;rw [key,zjt];exact Ok0.same h (.ptr hb)
          . rename_i l;cases ht
            cases hx with
            |cp k1 k2 k3 k4 =>
              rw [key,zjt];exact Ok0.same h (yeq o k1 k2 k3 k4)
          . simp at ht
      . simp at ht
    . simp at ht
  . simp at ht
theorem zss {e:Nat}:∀ {l:List T},(∀ t,t∈l->t.cells.length=e)->(l.flatMap T.cells).length=l.length*e
  |[],_=>by simp
  |t :: l,h=>by
    rw [jb,fx,h t (by simp),zss fun t ht=>h t (by simp [ht]),gh,jm];omega
theorem zuw {e:Nat}:∀ {l:List T} (k:Nat),(∀ t,t∈l->t.cells.length=e)->(l.flatMap T.cells).drop (k*e)=(l.drop k).flatMap T.cells
  |_,0,_=>by simp
  |[],k+1,_=>by simp
  |t :: l,k+1,h=>by
    rw [jb,kv,<- zuw k fun t ht=>h t (by simp [ht])];have h1:=h t (by simp);rw [show (k+1)*e=t.cells.length+k*e by rw [h1,jm];omega,mh];simp
theorem z2k {e:Nat}:∀ {l:List T} (k:Nat),(∀ t,t∈l->t.cells.length=e)->(l.flatMap T.cells).take (k*e)=(l.take k).flatMap T.cells
  |_,0,_=>by simp
  |[],k+1,_=>by simp
  |t :: l,k+1,h=>by
    rw [jb,ng,jb,<- z2k k fun t ht=>h t (by simp [ht])];have h1:=h t (by simp);rw [show (k+1)*e=t.cells.length+k*e by rw [h1,jm];omega,pc,ij (by omega)];simp
def natT:T->Option Nat
  |.int _ (.ofNat n)=>some n
  |_=>none
theorem yc3 {g:Nat->Fam} {t:T} {v:Value} {n:Nat} (h:VT A β g t v) (ht:natT t=some n):zhq v=some n:=by
  unfold natT at ht;split at ht
  . cases ht;cases h;rfl
  . simp at ht
def zh4 (Γ:Env) (S:TS) (t:gm) (x k:T):Option T:=match Γ.ti.at t,natT k with
  |some i,some k=>(match x with
    |.ptr b off N=>(match i.desc with|.array n e=>(match Γ.ti.at e with|some j=>bif S.has b N && ic k n then some (.ptr b (off+k*j.size) N) else none|none=>none)|_=>none)
    |.cp l=>(match i.desc with|.array n e=>(match Γ.ti.at e with|some j=>bif ic k n then some (.cp (l.drop (k*j.size))) else none|none=>none)|_=>none)
    |.arr b es off len cap N=>(match i.desc with|.slice e=>(match Γ.ti.at e with|some j=>bif S.has b N && (fy es j.size && ic k len) then some (.ptr b (off+k*j.size) N) else none|none=>none)|_=>none)
    |.lst es l=>(match i.desc with|.slice e=>(match Γ.ti.at e with|some j=>bif fy es j.size then (match l[k]? with|some r=>some (.cp r.cells)|none=>none) else none|none=>none)|_=>none)
    |_=>none)
  |_,_=>none
theorem zyu (h:TRel GL A β S s) {t:gm} {x k r:T} {v w:Value} (hx:VT A β (zaa s.obj) x v) (hk:VT A β (zaa s.obj) k w) (ht:zh4 Γ S t x k=some r):Ok0 GL A β S s (zb8 Γ s t v (zhq w)) r:=by
  unfold zh4 at ht;split at ht
  . rename_i i kk hi hkk;rw [yc3 hk hkk];split at ht
    . rename_i b off N;split at ht
      . rename_i n e hd;split at ht
        . rename_i j hj
          cases hq:(S.has b N && ic kk n) with
          |false=>rw [hq] at ht;simp at ht
          |true =>
            rw [hq] at ht;cases ht;simp only [fj] at hq;obtain ⟨z,l,hS⟩:=TS.has_ok hq.1;obtain ⟨f,u,rfl,hb⟩:=zkl h hS hx
            have:zb8 Γ s t (.pointer (some (mkA f u off))) (some kk)=some (.pointer (some (mkA f u (off+kk*j.size))),s):=by
              unfold zb8 zvn;simp only [hi,hd,hj,hq.2,cond_true,zjt]
            rw [this];exact Ok0.same h (.ptr hb)
        . simp at ht
      . simp at ht
    . rename_i l;split at ht
      . rename_i n e hd;split at ht
        . rename_i j hj
          cases hq:ic kk n with
          |false=>rw [hq] at ht;simp at ht
          |true =>
            rw [hq] at ht;cases ht
            cases hx with
            |cp k1 k2 k3 k4 =>
              rename_i f u off cs cs0
              have:zb8 Γ s t (.pointer (some (mkA f u off))) (some kk)=some (.pointer (some (mkA f u (off+kk*j.size))),s):=by
                unfold zb8 zvn;simp only [hi,hd,hj,hq,cond_true,zjt]
              rw [this];exact Ok0.same h (yeq _ k1 k2 k3 k4)
        . simp at ht
      . simp at ht
    . rename_i b es off len cap N;split at ht
      . rename_i e hd;split at ht
        . rename_i j hj
          cases hq:(S.has b N && (fy es j.size && ic kk len)) with
          |false=>rw [hq] at ht;simp at ht
          |true =>
            rw [hq] at ht;cases ht;simp only [fj] at hq;obtain ⟨q1,q2,q3⟩:=hq;obtain ⟨z,l,hS⟩:=TS.has_ok q1;rcases zhw h hS hx with ⟨f,u,rfl,hb,_⟩|⟨rfl,_,_,rfl,_,_⟩
            . have:zb8 Γ s t (.slice (some (mkA f u off)) len cap) (some kk)=some (.pointer (some (mkA f u (off+kk*j.size))),s):=by
                unfold zb8 zvn;simp only [hi,hd,hj,q3,cond_true,zjt]
              rw [this];exact Ok0.same h (.ptr hb)
            . have:=zad.1 q3;omega
        . simp at ht
      . simp at ht
    . rename_i es l;split at ht
      . rename_i e hd;split at ht
        . rename_i j hj
          cases hq:fy es j.size with
          |false=>rw [hq] at ht;simp at ht
          |true =>
            rw [hq] at ht;have hes:=fl hq;simp only [cond_true] at ht;split at ht
            . rename_i r' hl;cases ht
              have hlt:kk<l.length:=by
                by_cases hh:kk<l.length
                . exact hh
                . rw [List.getElem?_eq_none (by omega)] at hl;simp at hl
              cases hx with
              |lnil=>simp at hlt
              |lst k1 k2 k3 k4 k5 k6 k7 k8 =>
                rename_i f u off cap cs cs0
                have:zb8 Γ s t (.slice (some (mkA f u off)) l.length cap) (some kk)=some (.pointer (some (mkA f u (off+kk*es))),s):=by
                  unfold zb8 zvn;simp only [hi,hd,hj,zad.2 hlt,cond_true,zjt,hes]
                rw [this];refine Ok0.same h ?_
                have k7':(cs0.drop (off+kk*es)).take (cs.drop (kk*es)).length=cs.drop (kk*es):=by
                  have:=congrArg (List.drop (kk*es)) k6;rw [List.drop_take,lp] at this;rw [jf];exact this
                have h1:=yl8 es k1 k2 (k3.drop (kk*es)) (off:=off+kk*es) k7'
                have h2:((l.flatMap T.cells).drop (kk*es)).take es=r'.cells:=by
                  rw [zuw kk k4];rw [fk hlt,fe] at hl;have hc:=k4 r' (by rw [<- hl];exact List.getElem_mem hlt);rw [List.drop_eq_getElem_cons hlt,hl,jb,pc,ij (by omega),hc];simp
                rw [h2] at h1;exact h1
            . simp at ht
        . simp at ht
      . simp at ht
    . simp at ht
  . simp at ht
def zs9 (Γ:Env) (t:gm) (x k:T):Option T:=match Γ.ti.at t,natT k with
  |some i,some k=>(match x with
    |.agg l=>(match i.desc with
      |.array n e=>(match Γ.ti.at e with|some j=>bif ic k n then z4j j l (k*j.size) else none|none=>none)
      |_=>none)
    |.str b=>(match i.desc with
      |.string=>(match b.data.toList[k]? with|some c=>some (.int .u8 c.toNat)|none=>none)
      |_=>none)
    |_=>none)
  |_,_=>none
theorem ya0 (h:TRel GL A β S s) {t:gm} {x k r:T} {v w:Value} (hx:VT A β (zaa s.obj) x v) (hk:VT A β (zaa s.obj) k w) (ht:zs9 Γ t x k=some r):Ok0 GL A β S s (zkm Γ s t v (zhq w)) r:=by
  unfold zs9 at ht;split at ht
  . rename_i i kk hi hkk;rw [yc3 hk hkk];split at ht
    . rename_i l
      cases hx with
      |agg hl =>
        rename_i cs;split at ht
        . rename_i n e hd;split at ht
          . rename_i j hj
            cases hq:ic kk n with
            |false=>rw [hq] at ht;simp at ht
            |true =>
              rw [hq,cond_true] at ht;obtain ⟨w,h1,h2⟩:=zzi hl ht
              have:zkm Γ s t (.agg ⟨cs⟩) (some kk)=some (w,s):=by
                unfold zkm;simp only [hi,hd,hj,hq,cond_true,h1];rfl
              rw [this];exact Ok0.same h h2
          . simp at ht
        . simp at ht
    . rename_i b;cases hx;split at ht
      . rename_i hd;split at ht
        . rename_i c hc;cases ht
          have:zkm Γ s t (.string b) (some kk)=some (.int .u8 c.toNat,s):=by
            unfold zkm;simp only [hi,hd,hc]
          rw [this];exact Ok0.same h (.int _ _)
        . simp at ht
      . simp at ht
    . simp at ht
  . simp at ht
def zlo (k:Nat):T->Option T
  |.tup l=>l[k]?
  |_=>none
theorem z3t (h:TRel GL A β S s) {k:Nat} {x r:T} {v:Value} (hx:VT A β (zaa s.obj) x v) (ht:zlo k x=some r):Ok0 GL A β S s (zin s k v) r:=by
  unfold zlo at ht;split at ht
  . cases hx with
    |tup hl =>
      obtain ⟨w,h1,h2⟩:=hl.get ht;rename_i vs
      have:zin s k (.tuple ⟨vs⟩)=some (w,s):=by
        unfold zin;simp only [h1];rfl
      rw [this];exact Ok0.same h h2
  . simp at ht
def zkz (S:TS):T->Option T
  |.ptr b off N=>bif S.has b N then some (.ptr b off N) else none
  |.cp l=>some (.cp l)
  |.fn f a c=>some (.fn f a c)
  |_=>none
end
def yhh (c:UInt8):T:=.int .u8 (c.toNat:Int)
def zhu (b:ByteArray):List T:=b.data.toList.map yhh
section
variable {GL:List (Nat×List Value)} {A A' A2:Nat->Prop} {β β' β2:Bx} {S S':TS} {s s' s2:CS} {P:gn} {Γ:Env}
theorem zsy {g:Nat->Fam}:∀ (l:List UInt8),VL A β g (l.map yhh) (l.map fun b=>.int .u8 b.toNat)
  |[]=>.nil
  |c :: l=>.cons (.int _ _) (zsy l)
def tSrc (S:TS) (e:Nat):T->Option (Nat×List T)
  |.lst es l=>bif fy es e then some (l.length,l.flatMap T.cells) else none
  |.str b=>bif fy e 1 then some (b.size,zhu b) else none
  |.nils=>some (0,[])
  |.arr b es off len cap N=>(match S.box b with
    |.cells _ N' l=>bif fy N N' && (fy es e && h9 (off+len*e) N) then some (len,(l.drop off).take (len*e)) else none
    |_=>none)
  |.emp es=>bif fy es e then some (0,[]) else none
  |_=>none
def Rd (A:Nat->Prop) (β:Bx) (s s':CS):Prop:=s'=s\/∃ f,(A f\/Own β f)/\s'={ s with rd:=ins s.lim s.rd f }
theorem Rd.rel (h:TRel GL A β S s) (k:Rd A β s s'):TRel GL A β S s'/\Stp A β s A β s'/\s'.obj=s.obj/\s'.n=s.n/\s'.lim=s.lim/\s'.wr=s.wr:=by
  rcases k with rfl|⟨f,hf,rfl⟩
  . exact ⟨h,Stp.refl,rfl,rfl,rfl,rfl⟩
  . exact ⟨h.read f,Stp.read hf,rfl,rfl,rfl,rfl⟩
theorem Rd.rel0 (h:TRel GL A β S s) (k:Rd A β s s'):TRel GL A β S s'/\zj1 A β s A s':=by
  rcases k with rfl|⟨f,hf,rfl⟩
  . exact ⟨h,jp _,fun _ h=>h,fun _ h=>.inl h,fun _ _=>rfl,fun _ h=>.inl h,fun _ h=>h⟩
  . exact ⟨h.read f,zj1.read hf⟩
theorem z3s (h:TRel GL A β S s) {e n:Nat} {y:T} {xs:List T} {v:Value} (he:0<e) (hy:VT A β (zaa s.obj) y v) (ht:tSrc S e y=some (n,xs)) :
    lenC v=some n/\xs.length=n*e/\∀ k,k<=n->∃ ys s',s.firstCells e k v=some (ys,s')/\VL A β (zaa s.obj) (xs.take (k*e)) ys/\Rd A β s s':=by
  unfold tSrc at ht;split at ht
  . rename_i es l
    cases hq:fy es e with
    |false=>rw [hq] at ht;simp at ht
    |true =>
      rw [hq] at ht;have:=fl hq;subst this;cases ht
      cases hy with
      |lnil =>
        refine ⟨rfl,by simp,fun k hk=>?_⟩;have:k=0:=by simpa using hk
        subst this;refine ⟨[],s,?_,by simpa using VL.nil,.inl rfl⟩;unfold j0
        simp
      |lst k1 k2 k3 k4 k5 k6 k7 k8 =>
        rename_i f u off cap cs cs0;refine ⟨rfl,zss k4,fun k hk=>?_⟩;have hcl:cs.length=l.length*es:=by rw [<- k3.len,zss k4]
        have hkl:k*es<=l.length*es:=lr es hk
        have hcs0:off+cs.length<=cs0.length\/cs.length=0:=by
          have:=congrArg List.length k6;rw [ik,jf] at this;omega
        cases hz:fy (k*es) 0 with
        |true =>
          have hz':=fl hz;refine ⟨[],s,?_,by rw [hz'];simpa using VL.nil,.inl rfl⟩;unfold j0
          simp only [hz,cond_true]
        |false =>
          have hnz:k*es≠0:=fun hh=>by rw [hh] at hz;simp at hz
          refine ⟨cs.take (k*es),{ s with rd:=ins s.lim s.rd f },?_,k3.take _,.inr ⟨f,.inl k1,rfl⟩⟩;unfold j0 ol;simp only [hz,cond_false,zjm,zl4,k2,zrt];rw [z8b (by omega)]
          have:(cs0.drop off).take (k*es)=cs.take (k*es):=by
            rw [<- k6,pv,ql (by omega)]
          rw [this]
  . rename_i b
    cases hq:fy e 1 with
    |false=>rw [hq] at ht;simp at ht
    |true =>
      rw [hq] at ht;have:=fl hq;subst this;cases ht;cases hy;refine ⟨rfl,by simp [zhu],fun k hk=>⟨_,s,yee hk,?_,.inl rfl⟩⟩
      have:zi6 (b.extract 0 k)=(b.data.toList.take k).map fun b=>.int .u8 b.toNat:=by
        unfold zi6;simp [ByteArray.data_extract]
      rw [this,Nat.mul_one,zhu,<- List.map_take];exact zsy _
  . cases ht;cases hy;refine ⟨rfl,by simp,fun k hk=>?_⟩;have:k=0:=by omega
    subst this;refine ⟨[],s,?_,by simpa using VL.nil,.inl rfl⟩;unfold j0;simp
  . rename_i b es off len cap N;split at ht
    . rename_i z N' l hS
      cases hq:(fy N N' && (fy es e && h9 (off+len*e) N)) with
      |false=>rw [hq] at ht;simp at ht
      |true =>
        rw [hq] at ht;simp only [fj] at hq;obtain ⟨q1,q2,q3⟩:=hq;have:=fl q1;subst this;have:=fl q2;subst this;have q3:=zav.1 q3;simp only [cond_true,fe,fm] at ht;obtain ⟨rfl,rfl⟩:=ht;have hlN:=(h.cells b z N l hS).1;have hxl:((l.drop off).take (len*es)).length=len*es:=by rw [ik,jf];omega
        rcases zhw h hS hy with ⟨f,u,rfl,hb,_⟩|⟨rfl,hb,rfl,rfl,rfl,rfl⟩
        . refine ⟨rfl,hxl,fun k hk=>?_⟩;have hkl:k*es<=len*es:=lr es hk;obtain ⟨cs,h1,h2,h3⟩:=h.look (off:=off) hS hb;have hcl:=h2.len
          cases hz:fy (k*es) 0 with
          |true =>
            have hz':=fl hz;refine ⟨[],s,?_,by rw [hz'];simpa using VL.nil,.inl rfl⟩;unfold j0
            simp only [hz,cond_true]
          |false =>
            refine ⟨(cs.drop off).take (k*es),{ s with rd:=ins s.lim s.rd f },?_,?_,.inr ⟨f,.inr (zc1 hb),rfl⟩⟩
            . unfold j0;simp only [hz,cond_false,h1,zrt];rw [z8b (by omega)]
            . rw [pv,ql (by omega)];exact (h2.drop off).take _
        . refine ⟨rfl,by simp,fun k hk=>?_⟩;have:k=0:=by omega
          subst this;refine ⟨[],s,?_,by simpa using VL.nil,.inl rfl⟩;unfold j0;simp
    . simp at ht
  . rename_i es
    cases hq:fy es e with
    |false=>rw [hq] at ht;simp at ht
    |true =>
      rw [hq] at ht;cases ht;cases hy;refine ⟨rfl,by simp,fun k hk=>?_⟩;have:k=0:=by omega
      subst this;refine ⟨[],s,?_,by simpa using VL.nil,.inl rfl⟩;unfold j0;simp
  . simp at ht
def tLen (Γ:Env) (S:TS) (t:gm) (x:T):Option T:=match Γ.ti.at t with
  |some i=>(match i.desc,x with
    |.string,.str b=>some (.int .i64 b.size)
    |.array n _,_=>some (.int .i64 n)
    |.slice _,.lst _ l=>some (.int .i64 l.length)
    |.slice _,.nils=>some (.int .i64 0)
    |.slice _,.emp _=>some (.int .i64 0)
    |.slice _,.arr b _ _ len _ N=>bif S.has b N then some (.int .i64 len) else none
    |_,_=>none)
  |none=>none
theorem yk6 (h:TRel GL A β S s) {t:gm} {x r:T} {v:Value} (hx:VT A β (zaa s.obj) x v) (ht:tLen Γ S t x=some r):Ok0 GL A β S s (zmi Γ s t v) r:=by
  unfold tLen at ht;split at ht
  . rename_i i hi;split at ht
    . rename_i b hd;cases ht;cases hx;have:zmi Γ s t (.string b)=some (.int .i64 b.size,s):=by unfold zmi;simp only [hi,hd]
      rw [this];exact Ok0.same h (.int _ _)
    . rename_i n e hd;cases ht;have:zmi Γ s t v=some (.int .i64 n,s):=by unfold zmi;simp only [hi,hd]
      rw [this];exact Ok0.same h (.int _ _)
    . rename_i e es l hd;cases ht;have key:∀ a n c,zmi Γ s t (.slice a n c)=some (.int .i64 n,s):=fun a n c=>by unfold zmi;simp only [hi,hd]
      cases hx with
      |lnil=>rw [key];exact Ok0.same h (.int _ _)
      |lst=>rw [key];exact Ok0.same h (.int _ _)
    . rename_i e hd;cases ht;have key:∀ a n c,zmi Γ s t (.slice a n c)=some (.int .i64 n,s):=fun a n c=>by unfold zmi;simp only [hi,hd]
      cases hx;rw [key];exact Ok0.same h (.int _ _)
    . rename_i e es hd;cases ht;have key:∀ a n c,zmi Γ s t (.slice a n c)=some (.int .i64 n,s):=fun a n c=>by unfold zmi;simp only [hi,hd]
      cases hx;rw [key];exact Ok0.same h (.int _ _)
    . rename_i e b es off len cap N hd;have key:∀ a n c,zmi Γ s t (.slice a n c)=some (.int .i64 n,s):=fun a n c=>by unfold zmi;simp only [hi,hd]
      cases hs:S.has b N with
      |false=>rw [hs] at ht;simp at ht
      |true =>
        rw [hs] at ht;cases ht;obtain ⟨z,l,hS⟩:=TS.has_ok hs;rcases zhw h hS hx with ⟨f,u,rfl,hb,_⟩|⟨rfl,hb,rfl,rfl,rfl,rfl⟩
        . rw [key];exact Ok0.same h (.int _ _)
        . rw [key];exact Ok0.same h (.int _ _)
    . simp at ht
  . simp at ht
def zeh:T->Value
  |.int k n=>.int k n
  |_=>undef
theorem zt5 {g:Nat->Fam} {t:T} {v:Value} {n:Nat} (h:VT A β g t v) (hn:zhq (zeh t)=some n):zhq v=some n:=by
  unfold zeh at hn;split at hn
  . cases h;exact hn
  . simp [zhq,undef] at hn
inductive VO (A:Nat->Prop) (β:Bx) (g:Nat->Fam):Option T->Option Value->Prop
  |none:VO A β g none none
  |some {t v}:VT A β g t v->VO A β g (some t) (some v)
def natO (d:Nat):Option Value->Option Nat
  |some v=>zhq v
  |none=>some d
theorem zoc (len cap : Nat) (lo hi mx : Option Value) : zb2 len cap lo hi mx = match natO cap mx, natO len hi, natO 0 lo with
    |some m,some h,some l=>bif h9 l h && h9 h m && h9 m cap && (mx.isNone || hi.isSome) then some (l,h,m) else none
    |_,_,_=>none:=by
  unfold zb2;cases lo<;>cases hi<;>cases mx<;>rfl
theorem zlk {g:Nat->Fam} {len cap:Nat} {lo hi mx:Option T} {lov hiv mxv:Option Value} {r:Nat×Nat×Nat} (h1:VO A β g lo lov) (h2:VO A β g hi hiv) (h3:VO A β g mx mxv) (hb:zb2 len cap (lo.map zeh) (hi.map zeh) (mx.map zeh)=some r):zb2 len cap lov hiv mxv=some r:=by
  have key:∀ {o:Option T} {o':Option Value} {d k:Nat},VO A β g o o'->natO d (o.map zeh)=some k->natO d o'=some k:=by
    intro o o' d k ho hk
    cases ho with
    |none=>exact hk
    |some hv=>exact zt5 hv hk
  rw [zoc] at hb ⊢;split at hb
  . rename_i m hh l e1 e2 e3;rw [key h3 e1,key h2 e2,key h1 e3];have n1:mxv.isNone=(mx.map zeh).isNone:=by cases h3<;>rfl
    have n2:hiv.isSome=(hi.map zeh).isSome:=by cases h2<;>rfl
    simp only [n1,n2];exact hb
  . simp at hb
def zs7 (Γ:Env) (S:TS) (t:gm) (x:T) (lo hi mx:Option T):Option T:=match Γ.ti.at t with
  |some i=>(match x with
    |.str b=>(match i.desc,mx with
      |.string,none=>(match zb2 b.size b.size (lo.map zeh) (hi.map zeh) none with|some (l,h,_)=>some (.str (b.extract l h))|none=>none)
      |_,_=>none)
    |.nils=>(match i.desc with
      |.slice e=>(match Γ.ti.at e with|some _=>(match zb2 0 0 (lo.map zeh) (hi.map zeh) (mx.map zeh) with|some (0,0,0)=>some .nils|_=>none)|none=>none)
      |_=>none)
    |.arr b es off len cap N=>(match i.desc with
      |.slice e=>(match Γ.ti.at e with
        |some j=>bif S.has b N && fy es j.size then (match zb2 len cap (lo.map zeh) (hi.map zeh) (mx.map zeh) with|some (l,h,m)=>some (.arr b es (off+l*es) (h - l) (m - l) N)|none=>none) else none
        |none=>none)
      |_=>none)
    |.lst es l=>(match i.desc,mx with
      |.slice e,none=>(match Γ.ti.at e with
        |some j=>bif fy es j.size then (match zb2 l.length l.length (lo.map zeh) (hi.map zeh) none with|some (a,h,_)=>some (.lst es ((l.drop a).take (h - a)))|none=>none) else none
        |none=>none)
      |_,_=>none)
    |.ptr b off N=>(match S.box b,i.desc with
      |.cells true N' _,.array n e=>(match Γ.ti.at e with
        |some j=>bif fy N N' && h9 n 1000000000 then (match zb2 n n (lo.map zeh) (hi.map zeh) (mx.map zeh) with|some (l,h,m)=>some (.arr b j.size (off+l*j.size) (h - l) (m - l) N)|none=>none) else none
        |none=>none)
      |.cells true N' _,.pointer arr=>(match Γ.ti.at arr with
        |some ia=>(match ia.desc with
          |.array n e=>(match Γ.ti.at e with
            |some j=>bif fy N N' && h9 n 1000000000 then (match zb2 n n (lo.map zeh) (hi.map zeh) (mx.map zeh) with|some (l,h,m)=>some (.arr b j.size (off+l*j.size) (h - l) (m - l) N)|none=>none) else none
            |none=>none)
          |_=>none)
        |none=>none)
      |_,_=>none)
    |_=>none)
  |none=>none
theorem zyd {len cap:Nat} {lo hi:Option Value} {a h m:Nat} (hc:len<=cap) (hb:zb2 len len lo hi none=some (a,h,m)):zb2 len cap lo hi none=some (a,h,cap)/\a<=h/\h<=len:=by
  rw [zoc] at hb ⊢;split at hb
  . rename_i m' h' l' e1 e2 e3;have e1':len=m':=by simpa [natO] using e1
    subst e1';rw [e2,e3,show natO cap none=some cap from rfl];simp only
    cases hq:(h9 l' h' && h9 h' len && h9 len len && ((none:Option Value).isNone || hi.isSome)) with
    |false=>rw [hq] at hb;simp at hb
    |true =>
      rw [hq] at hb;simp only [cond_true,fe,fm] at hb;obtain ⟨rfl,rfl,rfl⟩:=hb;simp only [fj] at hq;obtain ⟨⟨⟨q1,q2⟩,q3⟩,q4⟩:=hq;have q2':=zav.1 q2;refine ⟨?_,zav.1 q1,q2'⟩;rw [q1,zhe (show h'<=cap by omega),zhe (fp cap)];rfl
  . simp at hb
theorem z3e {len cap:Nat} {lo hi mx:Option Value} {a h m:Nat} (hb:zb2 len cap lo hi mx=some (a,h,m)):a<=h/\h<=m/\m<=cap:=by
  rw [zoc] at hb;split at hb
  . rename_i m' h' l' e1 e2 e3
    cases hq:(h9 l' h' && h9 h' m' && h9 m' cap && (mx.isNone || hi.isSome)) with
    |false=>rw [hq] at hb;simp at hb
    |true =>
      rw [hq] at hb;simp only [cond_true,fe,fm] at hb;obtain ⟨rfl,rfl,rfl⟩:=hb;simp only [fj] at hq;exact ⟨zav.1 hq.1.1.1,zav.1 hq.1.1.2,zav.1 hq.1.2⟩
  . simp at hb
theorem yay (h:TRel GL A β S s) {t:gm} {x r:T} {v:Value} {lo hi mx:Option T} {lov hiv mxv:Option Value} (hx:VT A β (zaa s.obj) x v) (h1:VO A β (zaa s.obj) lo lov) (h2:VO A β (zaa s.obj) hi hiv) (h3:VO A β (zaa s.obj) mx mxv) (ht:zs7 Γ S t x lo hi mx=some r):Ok0 GL A β S s (zdj Γ s t v lov hiv mxv) r:=by
  unfold zs7 at ht;split at ht
  . rename_i i hi';split at ht
    . rename_i b;cases hx;split at ht
      . rename_i hd;split at ht
        . rename_i l hh m hb;cases ht;cases h3
          have:zdj Γ s t (.string b) lov hiv none=some (.string (b.extract l hh),s):=by
            unfold zdj;simp only [hi',hd,Option.isNone_none,cond_true];rw [zlk h1 h2 .none hb];rfl
          rw [this];exact Ok0.same h (.str _)
        . simp at ht
      . simp at ht
    . cases hx;split at ht
      . rename_i e hd;split at ht
        . rename_i j hj;split at ht
          . rename_i hb;cases ht
            have:zdj Γ s t (.slice none 0 0) lov hiv mxv=some (.slice none 0 0,s):=by
              unfold zdj;simp only [hi',hd,hj];rw [zlk h1 h2 h3 hb];rfl
            rw [this];exact Ok0.same h .nils
          . simp at ht
        . simp at ht
      . simp at ht
    . rename_i b es off len cap N;split at ht
      . rename_i e hd;split at ht
        . rename_i j hj
          cases hq:(S.has b N && fy es j.size) with
          |false=>rw [hq] at ht;simp at ht
          |true =>
            rw [hq] at ht;simp only [fj] at hq;have hes:=fl hq.2;obtain ⟨z,l0,hS⟩:=TS.has_ok hq.1;simp only [cond_true] at ht;split at ht
            . rename_i l hh m hb;cases ht;have hb':=zlk h1 h2 h3 hb;have hbl:=z3e hb;rcases zhw h hS hx with ⟨f,u,rfl,hbb,htag⟩|⟨rfl,hbb,rfl,rfl,rfl,rfl⟩
              . have:zdj Γ s t (.slice (some (mkA f u off)) len cap) lov hiv mxv=some (.slice (some (mkA f u (off+l*es))) (hh - l) (m - l),s):=by
                  unfold zdj;simp only [hi',hd,hj,hb'];unfold cutC;simp only [zjm,zjt];rw [hes] at htag ⊢;rcases htag with hu|hu
                  . rw [zh3 hu];rfl
                  . rw [zh3 hu];simp
                rw [this];exact Ok0.same h (.arr hbb htag)
              . obtain ⟨b1,b2,b3⟩:=hbl;have e1:m=0:=by omega
                have e2:hh=0:=by omega
                have e3:l=0:=by omega
                subst e1;subst e2;subst e3
                have:zdj Γ s t (.slice none 0 0) lov hiv mxv=some (.slice none 0 0,s):=by
                  unfold zdj;simp only [hi',hd,hj,hb']
                rw [this];simp only [Nat.zero_mul,jq,Nat.sub_zero];exact Ok0.same h (.arrNil hbb)
            . simp at ht
        . simp at ht
      . simp at ht
    . rename_i es l;split at ht
      . rename_i e hd;cases h3;split at ht
        . rename_i j hj
          cases hq:fy es j.size with
          |false=>rw [hq] at ht;simp at ht
          |true =>
            rw [hq] at ht;have hes:=fl hq;simp only [cond_true] at ht;split at ht
            . rename_i a hh m hb;cases ht;have hb':=zlk h1 h2 .none hb;obtain ⟨_,ha,hhl⟩:=zyd (fp _) hb'
              cases hx with
              |lnil =>
                have e2:hh=0:=by simpa using hhl
                have e3:a=0:=by omega
                subst e2;subst e3;have hm:m=0:=by have:=z3e hb';simpa using this.2.2
                subst hm
                have:zdj Γ s t (.slice none 0 0) lov hiv none=some (.slice none 0 0,s):=by
                  unfold zdj;simp only [hi',hd,hj];simp only [List.length_nil] at hb';rw [hb'];rfl
                rw [this];exact Ok0.same h .lnil
              |lst k1 k2 k3 k4 k5 k6 k7 k8 =>
                rename_i f u off cap cs cs0;obtain ⟨hb2,_,_⟩:=zyd k8 hb'
                have:zdj Γ s t (.slice (some (mkA f u off)) l.length cap) lov hiv none=some (.slice (some (mkA f u (off+a*es))) (hh - a) (cap - a),s):=by
                  unfold zdj;simp only [hi',hd,hj,hb2];unfold cutC;simp only [zjm,zjt];rw [hes] at k7 ⊢;rcases k7 with hu|hu
                  . rw [zh3 hu];rfl
                  . rw [zh3 hu];simp
                rw [this];have hlen:((l.drop a).take (hh - a)).length=hh - a:=by rw [ik,jf];omega
                refine Ok0.same h ?_
                have hcs:VL A β (zaa s.obj) (((l.drop a).take (hh - a)).flatMap T.cells) ((cs.drop (a*es)).take ((hh - a)*es)):=by
                  rw [<- z2k (e:=es) _ (fun t ht=>k4 t (m5 ht)),<- zuw (e:=es) _ k4];exact (k3.drop _).take _
                have hcl:cs.length=l.length*es:=by rw [<- k3.len,zss k4]
                have hal:hh*es<=l.length*es:=lr es hhl;have hsub:(hh - a)*es=hh*es - a*es:=Nat.sub_mul hh a es;have hae:a*es<=hh*es:=lr es ha
                have:=VT.lst (A:=A) (β:=β) (g:=zaa s.obj) (off:=off+a*es) (cap:=cap - a) k1 k2 hcs (fun t ht=>k4 t (m5 (nv ht))) k5 (by
                  have e1:((cs.drop (a*es)).take ((hh - a)*es)).length=(hh - a)*es:=by rw [ik,jf];omega
                  rw [e1];have:=congrArg (List.drop (a*es)) k6;rw [List.drop_take,lp] at this
                  rw [<- this,pv,ql (by omega)]) k7 (by rw [hlen];omega)
                rw [hlen] at this;exact this
            . simp at ht
        . simp at ht
      . simp at ht
    . rename_i b off N;split at ht
      . rename_i N' l0 n e hS hd;split at ht
        . rename_i j hj
          cases hq:(fy N N' && h9 n 1000000000) with
          |false=>rw [hq] at ht;simp at ht
          |true =>
            rw [hq] at ht;simp only [fj] at hq;have:=fl hq.1;subst this;simp only [cond_true] at ht;split at ht
            . rename_i l hh m hb;cases ht;have hb':=zlk h1 h2 h3 hb;obtain ⟨f,u,rfl,hbb⟩:=zkl h hS hx
              have hu:u % 1024=0:=by
                obtain ⟨_,hc⟩:=h.cells b true N l0 hS;rcases hc with ⟨_,_,hc⟩|⟨f',u',cs,rest,hb2,hz,_⟩
                . simp at hc
                . rw [hbb] at hb2;cases hb2;exact hz rfl
              have:zdj Γ s t (.pointer (some (mkA f u off))) lov hiv mxv=some (.slice (some (mkA f u (off+l*j.size))) (hh - l) (m - l),s):=by
                unfold zdj;simp only [hi',hd];unfold zoj;simp only [hj,hq.2,zbe,hb'];unfold cutC;simp only [zjm,zjt];rw [zh3 hu];rfl
              rw [this];exact Ok0.same h (.arr hbb (.inl hu))
            . simp at ht
        . simp at ht
      . rename_i N' l0 arr hS hd;split at ht
        . rename_i ia hia;split at ht
          . rename_i n e hda;split at ht
            . rename_i j hj
              cases hq:(fy N N' && h9 n 1000000000) with
              |false=>rw [hq] at ht;simp at ht
              |true =>
                rw [hq] at ht;simp only [fj] at hq;have:=fl hq.1;subst this;simp only [cond_true] at ht;split at ht
                . rename_i l hh m hb;cases ht;have hb':=zlk h1 h2 h3 hb;obtain ⟨f,u,rfl,hbb⟩:=zkl h hS hx
                  have hu:u % 1024=0:=by
                    obtain ⟨_,hc⟩:=h.cells b true N l0 hS;rcases hc with ⟨_,_,hc⟩|⟨f',u',cs,rest,hb2,hz,_⟩
                    . simp at hc
                    . rw [hbb] at hb2;cases hb2;exact hz rfl
                  have:zdj Γ s t (.pointer (some (mkA f u off))) lov hiv mxv=some (.slice (some (mkA f u (off+l*j.size))) (hh - l) (m - l),s):=by
                    unfold zdj;simp only [hi',hd,hia,hda];unfold zoj;simp only [hj,hq.2,zbe,hb'];unfold cutC;simp only [zjm,zjt];rw [zh3 hu];rfl
                  rw [this];exact Ok0.same h (.arr hbb (.inl hu))
                . simp at ht
            . simp at ht
          . simp at ht
        . simp at ht
      . simp at ht
    . simp at ht
  . simp at ht
end
section
variable {GL:List (Nat×List Value)} {A A' A2:Nat->Prop} {β β' β2:Bx} {S S':TS} {s s' s2:CS} {P:gn} {Γ:Env}
theorem TRel.moved (h:TRel GL A β S s) {b f2 u2 N2:Nat} {z:Bool} {l0:Loc} {g':Nat->Fam} {xs:List T} {cs2:List Value} {rest:List (Nat×List Value)} (hb:β b=some l0) (hle:Loc.le l0 (.live f2 u2 N2)) (hf2:f2=s.n\/l0.fam=some f2)
    (hin:s'.obj=.inr g') (hI:CInv s') (hn:s.n<=s'.n) (hlt:f2<s'.n) (hoth:∀ k,k≠f2->g' k=zaa s.obj k) (hat:g' f2=⟨false,(u2,cs2) :: rest,none⟩) (hv:VL A β (zaa s.obj) xs cs2) (h1:cs2.all oneC=true) (hN:xs.length=N2) (hz:z=true->u2 % 1024=0) :
    TRel GL A (bnew β b (.live f2 u2 N2)) (S.set b (.cells z N2 xs)) s'/\Bx.le β (bnew β b (.live f2 u2 N2))/\(∀ f,Own (bnew β b (.live f2 u2 N2)) f->Own β f\/s.n<=f):=by
  have hobj:∀ k,zaa s'.obj k=g' k:=fun k=>by rw [hin];rfl
  have hne:∀ b',b'≠b->bnew β b (.live f2 u2 N2) b'=β b':=fun b' hb'=>zAd hb';have hse:bnew β b (.live f2 u2 N2) b=some (.live f2 u2 N2):=zAc rfl
  have hblt:b<S.n:=by
    by_cases hh:b<S.n
    . exact hh
    . rw [h.next b (by omega)] at hb;simp at hb
  have hbx:Bx.le β (bnew β b (.live f2 u2 N2)):=fun i x hx=>by
    by_cases hi:i=b
    . subst hi;rw [hb] at hx;cases hx;exact ⟨_,hse,hle⟩
    . exact ⟨x,by rw [hne i hi];exact hx,Loc.le_refl x⟩
  have hnotA:¬ A f2:=fun hA=>by
    rcases hf2 with rfl|hf2
    . have:=h.alt _ hA;omega
    . cases l0 with
      |live f u N=>simp [Loc.fam] at hf2;subst hf2;exact (h.dis _ (zc1 hb)).2 hA
      |map r=>simp [Loc.le] at hle
      |nil=>simp [Loc.fam] at hf2
      |dead=>simp [Loc.fam] at hf2
  have hA:∀ k,A k->g' k=zaa s.obj k:=fun k hk=>hoth k fun hh=>hnotA (hh ▸ hk)
  have hother:∀ {b':Nat} {l:Loc} {k:Nat},β b'=some l->l.fam=some k->b'≠b->k≠f2:=by
    intro b' l k hb' hk hnb hh;subst hh;rcases hf2 with hf2|hf2
    . have hO:Own β k:=by
        cases l with
        |live f u N=>simp [Loc.fam] at hk;subst hk;exact zc1 hb'
        |map r=>simp [Loc.fam] at hk;subst hk;exact zm1 hb'
        |nil=>simp [Loc.fam] at hk
        |dead=>simp [Loc.fam] at hk
      have:=(h.dis _ hO).1;omega
    . exact hnb (h.inj b' b l l0 k hb' hb hk hf2)
  have hown:∀ f,Own (bnew β b (.live f2 u2 N2)) f->Own β f\/(s.n<=f/\f=f2):=fun f hf=>by
    obtain ⟨b',hb'⟩:=hf;by_cases hbb:b'=b
    . subst hbb;rw [hse] at hb';rcases hb' with ⟨u,N,hb'⟩|hb'
      . cases hb';rcases hf2 with rfl|hf2
        . exact .inr ⟨fp _,rfl⟩
        . refine .inl ?_
          cases l0 with
          |live f u N=>simp [Loc.fam] at hf2;subst hf2;exact zc1 hb
          |map r=>simp [Loc.le] at hle
          |nil=>simp [Loc.fam] at hf2
          |dead=>simp [Loc.fam] at hf2
      . simp at hb'
    . rw [hne b' hbb] at hb';exact .inl ⟨b',hb'⟩
  refine ⟨⟨⟨g',hin⟩,hI,fun f hf=>by have:=h.alt f hf;omega,fun f hf=>?_,fun b1 b2 l1 l2 f hb1 hb2 hf1 hf2'=>?_,fun b' hb'=>?_,fun b' z' N' l' hb'=>?_,fun b' l' hb'=>?_,fun x hx=>?_⟩,hbx,fun f hf=>(hown f hf).imp id (·.1)⟩
  . rcases hown f hf with q|⟨q,rfl⟩
    . have:=h.dis f q;exact ⟨by omega,this.2⟩
    . exact ⟨hlt,hnotA⟩
  . by_cases e1:b1=b<;>by_cases e2:b2=b
    . rw [e1,e2]
    . subst e1;rw [hse] at hb1;cases hb1;rw [hne b2 e2] at hb2;simp [Loc.fam] at hf1;subst hf1;exact absurd rfl (hother hb2 hf2' e2)
    . subst e2;rw [hse] at hb2;cases hb2;rw [hne b1 e1] at hb1;simp [Loc.fam] at hf2';subst hf2';exact absurd rfl (hother hb1 hf1 e1)
    . rw [hne b1 e1] at hb1;rw [hne b2 e2] at hb2;exact h.inj b1 b2 l1 l2 f hb1 hb2 hf1 hf2'
  . have:S.n<=b':=hb';rw [hne b' (by omega)];exact h.next b' this
  . by_cases hbb:b'=b
    . subst hbb;rw [TS.set_same] at hb';cases hb';refine ⟨hN,.inr ⟨f2,u2,cs2,rest,hse,hz,by rw [hobj];exact hat,?_,h1⟩⟩;exact hv.mono (fun _ h=>h) (fun f hf=>by rw [hobj];exact hA f hf) hbx
    . rw [TS.set_ne _ _ hbb] at hb';exact (h.cells b' z' N' l' hb').mono (fun _ h=>h) (fun f hf=>by rw [hobj];exact hA f hf) hbx (hne b' hbb) fun f u N hl=>by rw [hobj];exact hoth f (hother hl rfl hbb)
  . by_cases hbb:b'=b
    . subst hbb;rw [TS.set_same] at hb';cases hb'
    . rw [TS.set_ne _ _ hbb] at hb';exact (h.maps b' l' hb').mono (fun _ h=>h) (fun f hf=>by rw [hobj];exact hA f hf) hbx (hne b' hbb) fun r hl=>by rw [hobj];exact hoth r (hother hl rfl hbb)
  . have:=h.glob x hx;exact ⟨this.1,by rw [hobj,hA _ this.1];exact this.2⟩
def zmn (Γ:Env) (S:TS) (t:gm) (y x:T):Option (T×TS):=match zdt Γ t with
  |some j=>(match tSrc S j.size y with
    |some (n,xs)=>(match x with
      | .nils => bif ic 1000000000 (n * (j.bytes + 1)) || fy j.size 0 || h9 1000 j.size || not (xs.all T.one) then none else
          bif fy n 0 then some (.nils,S) else some (.arr S.n j.size 0 n n xs.length,S.add (.cells false xs.length xs))
      |.arr b es off len cap N=>(match S.box b with
        | .cells z N' l => bif ic 1000000000 ((len + n) * (j.bytes + 1)) || fy j.size 0 || h9 1000 j.size || not (xs.all T.one) || not (fy N N') || not (fy es j.size) then none else
            bif h9 (len+n) cap then
              (bif fy n 0 then some (.arr b es off (len+n) cap N,S) else
               bif h9 (off+(len+n)*es) N then some (.arr b es off (len+n) cap N,S.set b (.cells z N (spl l (off+len*es) xs))) else none)
            else bif fy off 0 && fy (len*es) N && ic 0 n then some (.arr b es 0 (len+n) (len+n) (N+xs.length),S.set b (.cells false (N+xs.length) (l++xs))) else none
        |_=>none)
      |_=>none)
    |none=>none)
  |none=>none
theorem Stp.newObj {f2:Nat} {F:Fam} {n':Nat} {wr:List Nat} (hcan:Can s { s with n:=n',obj:=zbi s.obj f2 F,wr:=wr }) (hin:∃ g,s.obj=.inr g) (hf2:f2=s.n\/Own β f2) (hbx:Bx.le β β') (hown:∀ f,Own β' f->Own β f\/s.n<=f) (hwr:∀ x,x∈wr->x∈s.wr\/(x<s.lim/\Own β x)):Stp A β s A β' { s with n:=n',obj:=zbi s.obj f2 F,wr:=wr }:=by
  refine ⟨hcan,fun _ h=>h,fun _ h=>.inl h,hown,fun f hf hno=>?_,hbx,fun _ h=>.inl h,hwr⟩;obtain ⟨g,hg⟩:=hin;show zaa (zbi s.obj f2 F) f=_;rw [hg,zhb,zpu,zpu];refine zjv _ _ _ _ fun hh=>?_;subst hh;rcases hf2 with rfl|hf2
  . omega
  . exact hno hf2
theorem z86 (h:TRel GL A β S s) {t:gm} {x y r:T} {v w:Value} (hx:VT A β (zaa s.obj) x v) (hy:VT A β (zaa s.obj) y w) (ht:zmn Γ S t y x=some (r,S')):Ok GL A β s (zc2 Γ s t w v) r S':=by
  unfold zmn at ht;split at ht
  . rename_i j hj;split at ht
    . rename_i n xs hsrc;split at ht
      . -- nil
        cases hx
        cases hq:(ic 1000000000 (n*(j.bytes+1)) || fy j.size 0 || h9 1000 j.size || not (xs.all T.one)) with
        |true=>rw [hq] at ht;simp at ht
        |false =>
          rw [hq,cond_false] at ht;simp only [mg,pn] at hq;obtain ⟨⟨⟨q1,q2⟩,q3⟩,q4⟩:=hq
          have hj0:0<j.size:=by
            by_cases hh:j.size=0
            . rw [hh] at q2;simp at q2
            . omega
          have hj1:j.size<1000:=by
            by_cases hh:1000<=j.size
            . rw [zhe hh] at q3;simp at q3
            . omega
          obtain ⟨e1,e2,e3⟩:=z3s h hj0 hy hsrc;obtain ⟨ys,s1,f1,f2,f3⟩:=e3 n (fp _);rw [ij (by omega)] at f2;obtain ⟨r1,r2,r3,r4,r5,r6⟩:=f3.rel h
          have c1:(ic 1000000000 ((0+n)*(j.bytes+1)) || fy j.size 0 || h9 1000 j.size || not (ys.all oneC))=false:=by
            rw [i5,q1,q2,q3,f2.one q4];rfl
          cases hn:fy n 0 with
          |true =>
            rw [hn] at ht;cases ht
            have:zc2 Γ s t w (.slice none 0 0)=some (.slice none 0 0,s1):=by
              unfold zc2 mv;simp only [hj,e1,f1,c1,cond_false,hn,cond_true]
            rw [this];exact ⟨_,s1,A,β,rfl,r1,.nils,r2⟩
          |false =>
            rw [hn] at ht;cases ht;rw [<- r3] at f2;obtain ⟨s2,β2,k1,k2,k3,k4⟩:=r1.newBox (j.size+1) (by omega) f2 (f2.one q4);have hb0:fy (j.size+1) 0=false:=rfl;rw [hb0] at k3
            have:zc2 Γ s t w (.slice none 0 0)=some (.slice (some (mkA s1.n (s1.n*1024+(j.size+1)) 0)) (0+n) (0+n),s2):=by
              unfold zc2 mv;simp only [hj,e1,f1,c1,cond_false,hn,k1,zhz]
            rw [this,i5];exact ⟨_,s2,A,β2,rfl,k3,.arr k2 (.inr (by omega)),r2.trans h.le k4⟩
      . rename_i b es off len cap N;split at ht
        . rename_i z N' l hS
          cases hq:(ic 1000000000 ((len+n)*(j.bytes+1)) || fy j.size 0 || h9 1000 j.size || not (xs.all T.one) || not (fy N N') || not (fy es j.size)) with
          |true=>rw [hq] at ht;simp at ht
          |false =>
            rw [hq,cond_false] at ht;simp only [mg,pn] at hq;obtain ⟨⟨⟨⟨⟨q1,q2⟩,q3⟩,q4⟩,q5⟩,q6⟩:=hq;have:=fl q5;subst this;have:=fl q6;subst this
            have hj0:0<j.size:=by
              by_cases hh:j.size=0
              . rw [hh] at q2;simp at q2
              . omega
            have hj1:j.size<1000:=by
              by_cases hh:1000<=j.size
              . rw [zhe hh] at q3;simp at q3
              . omega
            obtain ⟨e1,e2,e3⟩:=z3s h hj0 hy hsrc;obtain ⟨ys,s1,f1,f2,f3⟩:=e3 n (fp _);rw [ij (by omega)] at f2;obtain ⟨r1,r2,r3,r4,r5,r6⟩:=f3.rel h;have f2':=f2;rw [<- r3] at f2';have q4':=f2.one q4
            have c1:(ic 1000000000 ((len+n)*(j.bytes+1)) || fy j.size 0 || h9 1000 j.size || not (ys.all oneC))=false:=by
              rw [q1,q2,q3,q4'];rfl
            have hlN:=(h.cells b z N l hS).1;have hx':=hx;rw [<- r3] at hx'
            cases hc:h9 (len+n) cap with
            |true =>
              rw [hc,cond_true] at ht
              cases hn:fy n 0 with
              |true =>
                rw [hn] at ht;cases ht;have hn0:=fl hn;subst hn0;rcases zhw h hS hx with ⟨f,u,rfl,hb,htag⟩|⟨rfl,hb,rfl,rfl,rfl,rfl⟩
                . have:zc2 Γ s t w (.slice (some (mkA f u off)) len cap)=some (.slice (some (mkA f u off)) (len+0) cap,s1):=by
                    unfold zc2 mv;simp only [hj,e1,f1,c1,cond_false,hc,cond_true];rfl
                  rw [this];exact ⟨_,s1,A,β,rfl,r1,.arr hb htag,r2⟩
                . have:zc2 Γ s t w (.slice none 0 0)=some (.slice none 0 0,s1):=by
                    unfold zc2 mv;simp only [hj,e1,f1,c1,cond_false];rfl
                  rw [this];exact ⟨_,s1,A,β,rfl,r1,.arrNil hb,r2⟩
              |false =>
                rw [hn,cond_false] at ht;have hn0:n≠0:=fun hh=>by rw [hh] at hn;simp at hn
                cases hfit:h9 (off+(len+n)*j.size) N with
                |false=>rw [hfit] at ht;simp at ht
                |true =>
                  rw [hfit] at ht;cases ht;have hfit':=zav.1 hfit;rcases zhw h hS hx with ⟨f,u,rfl,hb,htag⟩|⟨rfl,hb,rfl,rfl,rfl,rfl⟩
                  . obtain ⟨s2,k1,k2,k3⟩:=r1.write (off:=off+len*j.size) hS hb f2' q4' (by rw [e2];rw [jm] at hfit';omega)
                    have:zc2 Γ s t w (.slice (some (mkA f u off)) len cap)=some (.slice (some (mkA f u off)) (len+n) cap,s2):=by
                      unfold zc2 mv;simp only [hj,e1,f1,c1,cond_false,hc,cond_true,hn,zjt,k1]
                    rw [this];exact ⟨_,s2,A,β,rfl,k2,.arr hb htag,r2.trans h.le k3⟩
                  . have:=zav.1 hc;omega
            |false =>
              rw [hc,cond_false] at ht
              cases hw:(fy off 0 && fy (len*j.size) N && ic 0 n) with
              |false=>rw [hw] at ht;simp at ht
              |true =>
                rw [hw] at ht;cases ht;simp only [fj] at hw;obtain ⟨⟨w1,w2⟩,w3⟩:=hw;have w1':=fl w1;subst w1';have w2':=fl w2
                have hcap:cap<len+n:=by
                  by_cases hh:len+n<=cap
                  . rw [zhe hh] at hc;simp at hc
                  . omega
                rcases zhw h hS hx with ⟨f,u,rfl,hb,htag⟩|⟨rfl,hb,-,rfl,rfl,rfl⟩
                . -- a row that is too small
                  obtain ⟨_,hcell⟩:=r1.cells b z N l hS;rcases hcell with ⟨hb2,_,_⟩|⟨f',u',cs,rest,hb2,hz,hat,hv,hone⟩
                  . rw [hb] at hb2;simp at hb2
                  rw [hb] at hb2;cases hb2;have hcl:=hv.len;have hn0:0<n:=zad.1 w3;obtain ⟨g,hin⟩:=r1.inr;have hg:g f=⟨false,(u,cs) :: rest,none⟩:=by rw [hin] at hat;exact hat
                  have hrow:zbp ((u,cs) :: rest) u=some cs:=by unfold zbp;rw [ja];rfl
                  have hvl:VL A β (zaa s1.obj) (l++xs) (cs++ys):=hv.append f2';have hall:(cs++ys).all oneC=true:=by rw [ow,hone,q4'];rfl
                  -- the old cells
                  have hold:∃ s2,(bif fy len 0 then some ([],s1) else s1.firstCells j.size len (.slice (some (mkA f u 0)) len cap))=some (cs,s2)/\Rd A β s1 s2:=by
                    cases hz0:fy len 0 with
                    |true =>
                      have:=fl hz0;subst this
                      have:cs=[]:=by
                        apply ji;rw [<- hcl,hlN,<- w2'];simp
                      rw [this];exact ⟨s1,rfl,.inl rfl⟩
                    |false =>
                      have hne:len≠0:=fun hh=>by rw [hh] at hz0;simp at hz0
                      have hlm:0<len*j.size:=Nat.mul_pos (by omega) hj0;refine ⟨{ s1 with rd:=ins s1.lim s1.rd f },?_,.inr ⟨f,.inr (zc1 hb),rfl⟩⟩;rw [cond_false];unfold j0 ol;simp only [zi0 (show len*j.size≠0 by omega),cond_false,zjm,zl4,hat,hrow,zrt];rw [z8b (by omega),gp,ij (by omega)]
                  obtain ⟨s2,o1,o2⟩:=hold;obtain ⟨t1,t2,t3,t4,t5,t6⟩:=o2.rel r1;have hlen2:(l++xs).length=N+xs.length:=by rw [fx,hlN]
                  have hxpos:0<xs.length:=by rw [e2];exact Nat.mul_pos hn0 hj0
                  have hvl2:VL A β (zaa s2.obj) (l++xs) (cs++ys):=by rw [t3];exact hvl
                  have hat2:zaa s2.obj f=⟨false,(u,cs) :: rest,none⟩:=by rw [t3];exact hat
                  have hin2:s2.obj=.inr g:=by rw [t3];exact hin
                  have base:∀ (res:Option (Value×CS)),(bif fy (u % 1024) 0 then zhz (len+n) (len+n) (s2.newRow (j.size+1) (cs++ys)) else bif fy (u % 1024) (j.size+1) then s2.grow (mkA f u 0) (j.size+1) (0+len*j.size) (len+n) (cs++ys) else none)=res->zc2 Γ s t w (.slice (some (mkA f u 0)) len cap)=res:=by
                    intro res hres;unfold zc2 mv;simp only [hj,e1,f1,c1,cond_false,hc,o1,zjm,zrt];exact hres
                  cases hu0:fy (u % 1024) 0 with
                  |true =>
                    have hnr:s2.newRow (j.size+1) (cs++ys)=some (mkA s2.n (s2.n*1024+(j.size+1)) 0,s2.rowed (j.size+1) (cs++ys)):=by
                      unfold qy;have:zmb s2.obj s2.n=true:=by rw [hin2];rfl
                      rw [this,zbe];rfl
                    obtain ⟨p1,p2,p3,p4⟩:=t1.fresh ⟨false,[(s2.n*1024+(j.size+1),cs++ys)],none⟩ rfl (fun p hp=>by simp at hp;subst hp;show (s2.n*1024+(j.size+1)) / 1024<s2.n+1;omega)
                    obtain ⟨m1,m2,m3⟩:=t1.moved (s':=s2.rowed (j.size+1) (cs++ys)) (b:=b) (f2:=s2.n) (u2:=s2.n*1024+(j.size+1)) (N2:=N+xs.length) (z:=false) (g':=fupd g s2.n ⟨false,[(s2.n*1024+(j.size+1),cs++ys)],none⟩) (rest:=[]) hb (.inr (by omega)) (.inl rfl)
                      (by show zbi s2.obj s2.n _=_;rw [hin2,zhb]) p1.inv (by show s2.n<=s2.n+1;omega) (by show s2.n<s2.n+1;omega) (fun k hk=>by rw [zjv _ _ _ _ hk,hin2];rfl) (zgv _ _ _) hvl2 hall hlen2 (by simp)
                    rw [base (some (.slice (some (mkA s2.n (s2.n*1024+(j.size+1)) 0)) (len+n) (len+n),s2.rowed (j.size+1) (cs++ys))) (by rw [hu0,cond_true,hnr];rfl)];refine ⟨_,_,A,_,rfl,m1,.arr (zAc rfl) (.inr (by omega)),r2.trans h.le (t2.trans r1.le ?_)⟩;exact Stp.newObj p2 t1.inr (.inl rfl) m2 m3 (fun x hx=>.inl hx)
                  |false =>
                    have hu1:u % 1024=j.size+1:=by
                      rcases htag with hh|hh
                      . rw [hh] at hu0;simp at hu0
                      . exact hh
                    have hgr:s2.grow (mkA f u 0) (j.size+1) (0+len*j.size) (len+n) (cs++ys)=some (.slice (some (mkA f (s2.n*1024+(j.size+1)) 0)) (len+n) (len+n),{ s2 with n:=s2.n+1,obj:=zbi s2.obj f ⟨false,(s2.n*1024+(j.size+1),cs++ys) :: zgw ((u,cs) :: rest) u,none⟩,wr:=ins s2.lim s2.wr f }):=by
                      unfold CS.grow;simp only [zl4,zjm,hat2,hrow];rw [zh3 (show 0+len*j.size=cs.length by omega),zbe]
                    have hcan:=z2f t1.inv (show j.size+1<1024 by omega) hgr
                    obtain ⟨m1,m2,m3⟩:=t1.moved (s':={ s2 with n:=s2.n+1,obj:=zbi s2.obj f ⟨false,(s2.n*1024+(j.size+1),cs++ys) :: zgw ((u,cs) :: rest) u,none⟩,wr:=ins s2.lim s2.wr f }) (b:=b) (f2:=f) (u2:=s2.n*1024+(j.size+1)) (N2:=N+xs.length) (z:=false) (g':=fupd g f ⟨false,(s2.n*1024+(j.size+1),cs++ys) :: zgw ((u,cs) :: rest) u,none⟩) hb (.inr (by omega)) (.inr rfl)
                      (by show zbi s2.obj f _=_;rw [hin2,zhb]) (t1.inv.next hcan) (by show s2.n<=s2.n+1;omega) (by have:=(t1.dis f (zc1 hb)).1;show f<s2.n+1;omega) (fun k hk=>by rw [zjv _ _ _ _ hk,hin2];rfl) (zgv _ _ _) hvl2 hall hlen2 (by simp)
                    rw [base _ (by rw [hu0,cond_false,zh3 hu1,cond_true,hgr])];refine ⟨_,_,A,_,rfl,m1,.arr (zAc rfl) (.inr (by omega)),r2.trans h.le (t2.trans r1.le ?_)⟩;refine Stp.newObj hcan t1.inr (.inr (zc1 hb)) m2 m3 (fun x hx=>?_);rcases zow hx with q|⟨rfl,q⟩
                    . exact .inl q
                    . exact .inr ⟨q,zc1 hb⟩
                . -- nothing yet
                  have hn0:0<n:=zad.1 w3;have hl0:l=[]:=ji hlN;subst hl0;have hxpos:0<xs.length:=by rw [e2];exact Nat.mul_pos hn0 hj0
                  obtain ⟨g,hin⟩:=r1.inr
                  have hnr:s1.newRow (j.size+1) ys=some (mkA s1.n (s1.n*1024+(j.size+1)) 0,s1.rowed (j.size+1) ys):=by
                    unfold qy;have:zmb s1.obj s1.n=true:=by rw [hin];rfl
                    rw [this,zbe];rfl
                  obtain ⟨p1,p2,p3,p4⟩:=r1.fresh ⟨false,[(s1.n*1024+(j.size+1),ys)],none⟩ rfl (fun p hp=>by simp at hp;subst hp;show (s1.n*1024+(j.size+1)) / 1024<s1.n+1;omega)
                  obtain ⟨m1,m2,m3⟩:=r1.moved (s':=s1.rowed (j.size+1) ys) (b:=b) (f2:=s1.n) (u2:=s1.n*1024+(j.size+1)) (N2:=0+xs.length) (z:=false) (g':=fupd g s1.n ⟨false,[(s1.n*1024+(j.size+1),ys)],none⟩) (rest:=[]) (xs:=[]++xs) hb (by show 0<0+xs.length;omega) (.inl rfl)
                    (by show zbi s1.obj s1.n _=_;rw [hin,zhb]) p1.inv (by show s1.n<=s1.n+1;omega) (by show s1.n<s1.n+1;omega) (fun k hk=>by rw [zjv _ _ _ _ hk,hin];rfl) (zgv _ _ _) f2' q4' (by simp) (by simp)
                  have:zc2 Γ s t w (.slice none 0 0)=some (.slice (some (mkA s1.n (s1.n*1024+(j.size+1)) 0)) (0+n) (0+n),s1.rowed (j.size+1) ys):=by
                    unfold zc2 mv;simp only [hj,e1,f1,c1,cond_false,zi0 (show n≠0 by omega),hnr,zhz]
                  rw [this];refine ⟨_,_,A,_,rfl,m1,.arr (zAc rfl) (.inr (by omega)),r2.trans h.le ?_⟩;exact Stp.newObj p2 r1.inr (.inl rfl) m2 m3 (fun x hx=>.inl hx)
        . simp at ht
      . simp at ht
    . simp at ht
  . simp at ht
end
section
variable {GL:List (Nat×List Value)} {A A' A2:Nat->Prop} {β β' β2:Bx} {S S':TS} {s s' s2:CS} {P:gn} {Γ:Env}
def rep (n:Nat) (l:List T):List T:=(gb n l).flatten
theorem yfi {g:Nat->Fam} {l:List T} {cs:List Value} (h:VL A β g l cs):∀ n,VL A β g (rep n l) (gb n cs).flatten
  |0=>.nil
  |n+1=>by
    unfold rep;rw [jc,jc,ii,ii];exact h.append (yfi h n)
theorem z38 {l:List T} (h:l.all T.one=true):∀ n,(rep n l).all T.one=true
  |0=>rfl
  |n+1=>by
    unfold rep;rw [jc,ii,ow,h];exact z38 h n
theorem z39 (l:List T):∀ n,(rep n l).length=n*l.length
  |0=>by simp [rep]
  |n+1=>by
    have:=z39 l n;unfold rep at this ⊢;rw [jc,ii,fx,this,jm];omega
def zta (Γ:Env) (S:TS) (t:gm) (x:T):Option (T×TS):=match zdt Γ t with
  |some j=>(match zgi j.zero with
    |some zs=>(match x with
      |.arr b es off len cap N=>(match S.box b with
        | .cells z N' l => bif fy N N' && (fy es j.zero.length && (ic 0 (len * es) && h9 (off + len * es) N)) then
            some (.tup [],S.set b (.cells z N (spl l off (rep len zs)))) else none
        |_=>none)
      |_=>none)
    |none=>none)
  |none=>none
theorem ya1 (h:TRel GL A β S s) {t:gm} {x r:T} {v:Value} (hx:VT A β (zaa s.obj) x v) (ht:zta Γ S t x=some (r,S')):Ok GL A β s (zov Γ s t v) r S':=by
  unfold zta at ht;split at ht
  . rename_i j hj;split at ht
    . rename_i zs hzs;obtain ⟨z1,z2⟩:=zjl (A:=A) (β:=β) (g:=zaa s.obj) hzs;split at ht
      . rename_i b es off len cap N;split at ht
        . rename_i z N' l hS
          cases hq:(fy N N' && (fy es j.zero.length && (ic 0 (len*es) && h9 (off+len*es) N))) with
          |false=>rw [hq] at ht;simp at ht
          |true =>
            rw [hq] at ht;simp only [cond_true,fe,fm] at ht;obtain ⟨rfl,rfl⟩:=ht;simp only [fj] at hq;obtain ⟨q1,q2,q3,q4⟩:=hq;have q1:=fl q1;subst q1;have q2:=fl q2;have q3:=zad.1 q3;have q4:=zav.1 q4;have hzl:zs.length=es:=by rw [z1.len,q2]
            rcases zhw h hS hx with ⟨f,u,rfl,hb,htag⟩|⟨rfl,hb,rfl,rfl,rfl,rfl⟩
            . have hvl:=yfi z1 len;obtain ⟨s2,k1,k2,k3⟩:=h.write (off:=off) hS hb hvl (hvl.one (z38 z2 len)) (by rw [z39,hzl];exact q4)
              have:zov Γ s t (.slice (some (mkA f u off)) len cap)=some (undef,s2):=by
                unfold zov;simp only [hj];unfold z8h;rw [show ic 0 (len*j.zero.length)=true from zad.2 (by rw [<- q2];exact q3)];simp only [cond_true,k1]
              rw [this];exact ⟨_,s2,A,β,rfl,k2,VT.tup (vs:=[]) .nil,k3⟩
            . simp at q3
        . simp at ht
      . simp at ht
    . simp at ht
  . simp at ht
def zjd (Γ:Env) (S:TS) (t:gm) (l c:T):Option (T×TS):=match zdt Γ t,zhq (zeh l),zhq (zeh c) with
  | some j, some l, some c => bif h9 l c && (h9 (c * (j.bytes + 1)) 1000000000 && ic 0 j.size) then
      (match zgi j.zero with
      |some zs=>some (.arr S.n j.size 0 l c (rep c zs).length,S.add (.cells true (rep c zs).length (rep c zs)))
      |none=>none) else none
  |_,_,_=>none
theorem zyt (h:TRel GL A β S s) {t:gm} {l c r:T} {lv cv:Value} (hl:VT A β (zaa s.obj) l lv) (hc:VT A β (zaa s.obj) c cv) (ht:zjd Γ S t l c=some (r,S')):Ok GL A β s (ze6 Γ s t (zhq lv) (zhq cv)) r S':=by
  unfold zjd at ht;split at ht
  . rename_i j ll cc hj h1 h2;rw [zt5 hl h1,zt5 hc h2]
    cases hq:(h9 ll cc && (h9 (cc*(j.bytes+1)) 1000000000 && ic 0 j.size)) with
    |false=>rw [hq] at ht;simp at ht
    |true =>
      rw [hq] at ht;simp only [cond_true] at ht;split at ht
      . rename_i zs hz;cases ht;obtain ⟨a,b⟩:=zjl (A:=A) (β:=β) (g:=zaa s.obj) hz;have hv:=yfi a cc;obtain ⟨s',β',k1,k2,k3,k4⟩:=h.newBox 0 (by omega) hv (hv.one (z38 b cc))
        have:ze6 Γ s t (some ll) (some cc)=some (.slice (some (mkA s.n (s.n*1024+0) 0)) ll cc,s'):=by
          unfold ze6;simp only [hj];rw [<- Bool.and_assoc] at hq;simp only [hq,cond_true,k1];rfl
        rw [this];exact ⟨_,s',A,β',rfl,k3,.arr k2 (.inl (by omega)),k4⟩
      . simp at ht
  . simp at ht
def zf5 (cells:List T):List (Nat×List T)->Option (List T)
  |[]=>some cells
  |(off,vs) :: r=>bif h9 (off+vs.length) cells.length then zf5 (spl cells off vs) r else none
def zbh (place:Nat->Option (Nat×Nat)) (ρ:f7->T):List (Nat×f7)->Option (List (Nat×List T))
  |[]=>some []
  |(k,x) :: r=>match place k,zbh place ρ r with
    |some (off,size),some l=>bif fy (ρ x).cells.length size && (ρ x).cells.all T.one then some ((off,(ρ x).cells) :: l) else none
    |_,_=>none
inductive PL (A:Nat->Prop) (β:Bx) (g:Nat->Fam):List (Nat×List T)->List (Nat×List Value)->Prop
  |nil:PL A β g [] []
  |cons {k l cs r r'}:VL A β g l cs->l.all T.one=true->PL A β g r r'->PL A β g ((k,l) :: r) ((k,cs) :: r')
theorem z1h {g:Nat->Fam} {place:Nat->Option (Nat×Nat)} {ρT:f7->T} {ρ:f7->Value} (hρ:∀ x,VT A β g (ρT x) (ρ x)):∀ {l:List (Nat×f7)} {r:List (Nat×List T)},zbh place ρT l=some r->∃ r',zho place ρ l=some r'/\PL A β g r r'
  |[],r,h=>by simp only [zbh,fe] at h;subst h;exact ⟨[],rfl,.nil⟩
  |(k,x) :: l,r,h=>by
    unfold zbh at h;split at h
    . rename_i off size l' h1 h2
      cases hq:(fy (ρT x).cells.length size && (ρT x).cells.all T.one) with
      |false=>rw [hq] at h;simp at h
      |true =>
        rw [hq] at h;cases h;simp only [fj] at hq;obtain ⟨r',k1,k2⟩:=z1h hρ h2;have hc:=(hρ x).cells (zlx hq.2);refine ⟨(off,(ρ x).cells.toList) :: r',?_,.cons hc hq.2 k2⟩;unfold zho;simp only [h1,k1];rw [<- hc.len,hq.1];rfl
    . simp at h
theorem z71 {g:Nat->Fam}:∀ {r:List (Nat×List T)} {r':List (Nat×List Value)} {l l':List T} {cs:List Value},PL A β g r r'->VL A β g l cs->zf5 l r=some l'->∃ cs',zq5 cs r'=some cs'/\VL A β g l' cs'/\l'.length=l.length/\(l.all T.one=true->l'.all T.one=true)
  |[],_,l,l',cs,.nil,h,ht=>by
    simp only [zf5,fe] at ht;subst ht;exact ⟨cs,rfl,h,rfl,id⟩
  |(off,vs) :: r,_,l,l',cs,.cons k1 k3 k2,h,ht=>by
    rename_i cs2 r';unfold zf5 at ht
    cases hq:h9 (off+vs.length) l.length with
    |false=>rw [hq] at ht;simp at ht
    |true =>
      rw [hq] at ht;simp only [cond_true] at ht;obtain ⟨cs',a1,a2,a3,a4⟩:=z71 k2 (h.splice off k1) ht;refine ⟨cs',?_,a2,?_,?_⟩
      . unfold zq5;rw [<- k1.len,<- h.len,hq];exact a1
      . rw [a3];exact ybf (zav.1 hq)
      . intro hl;refine a4 ?_;rw [ow,ow,k3,n6,fj];rw [ib] at hl ⊢;exact ⟨fun x hx=>hl x (nv hx),by rw [ib];exact fun x hx=>hl x (m5 hx)⟩
def zb4 (zero:List Value) (parts:Option (List (Nat×List T))):Option (List T):=match zgi zero,parts with
  |some z,some l=>zf5 z l
  |_,_=>none
def zj2 (Γ:Env) (ρ:f7->T) (t:gm) (parts:List (Nat×f7)):Option T:=match Γ.ti.at t with
  |some i=>(match i.desc with
    |.struct fs=>bif (fs.toList.all fun f=>(Γ.ti.at f.type).isSome) then (match zb4 i.zero (zbh (zfk Γ fs) ρ parts) with|some l=>some (.agg l)|none=>none) else none
    |.array _ e=>(match Γ.ti.at e with|some j=>(match zb4 i.zero (zbh (zb7 j.size) ρ parts) with|some l=>some (.agg l)|none=>none)|none=>none)
    |_=>none)
  |none=>none
theorem zva {g:Nat->Fam} {place:Nat->Option (Nat×Nat)} {ρT:f7->T} {ρ:f7->Value} {zero:List Value} {parts:List (Nat×f7)} {l:List T} (hρ:∀ x,VT A β g (ρT x) (ρ x)) (h:zb4 zero (zbh place ρT parts)=some l):∃ cs,zqj zero (zho place ρ parts)=some cs/\VL A β g l cs/\l.all T.one=true:=by
  unfold zb4 at h;split at h
  . rename_i z p hz hp;obtain ⟨a,b⟩:=zjl (A:=A) (β:=β) (g:=g) hz;obtain ⟨r',k1,k2⟩:=z1h hρ hp;obtain ⟨cs,c1,c2,c3,c4⟩:=z71 k2 a h;exact ⟨cs,by unfold zqj;rw [k1];exact c1,c2,c4 b⟩
  . simp at h
theorem ya2 (h:TRel GL A β S s) {t:gm} {parts:List (Nat×f7)} {ρT:f7->T} {ρ:f7->Value} {r:T} (hρ:∀ x,VT A β (zaa s.obj) (ρT x) (ρ x)) (ht:zj2 Γ ρT t parts=some r):Ok0 GL A β S s (zkn Γ s ρ t parts) r:=by
  unfold zj2 at ht;split at ht
  . rename_i i hi;split at ht
    . rename_i fs hd
      cases hq:(fs.toList.all fun f=>(Γ.ti.at f.type).isSome) with
      |false=>rw [hq] at ht;simp at ht
      |true =>
        rw [hq] at ht;simp only [cond_true] at ht;split at ht
        . rename_i l hl;cases ht;obtain ⟨cs,c1,c2,_⟩:=zva hρ hl
          have:zkn Γ s ρ t parts=some (.agg cs.toArray,s):=by
            unfold zkn;simp only [hi,hd,hq,zbe,c1];rfl
          rw [this];exact Ok0.same h (.agg c2)
        . simp at ht
    . rename_i n e hd;split at ht
      . rename_i j hj;split at ht
        . rename_i l hl;cases ht;obtain ⟨cs,c1,c2,_⟩:=zva hρ hl
          have:zkn Γ s ρ t parts=some (.agg cs.toArray,s):=by
            unfold zkn;simp only [hi,hd,hj,c1];rfl
          rw [this];exact Ok0.same h (.agg c2)
        . simp at ht
      . simp at ht
    . simp at ht
  . simp at ht
def zar (Γ:Env) (S:TS) (ρ:f7->T) (t:gm) (n:Nat) (parts:List (Nat×f7)):Option (T×TS):=match zdt Γ t with
  | some j => bif h9 (n * j.size) 16777216 && ic 0 j.size then
      (match zb4 (gb n j.zero).flatten (zbh (zb7 j.size) ρ parts) with
      |some l=>some (.arr S.n j.size 0 n n l.length,S.add (.cells true l.length l))
      |none=>none) else none
  |none=>none
theorem z0p (h:TRel GL A β S s) {t:gm} {n:Nat} {parts:List (Nat×f7)} {ρT:f7->T} {ρ:f7->Value} {r:T} (hρ:∀ x,VT A β (zaa s.obj) (ρT x) (ρ x)) (ht:zar Γ S ρT t n parts=some (r,S')):Ok GL A β s (zcf Γ s ρ t n parts) r S':=by
  unfold zar at ht;split at ht
  . rename_i j hj
    cases hq:(h9 (n*j.size) 16777216 && ic 0 j.size) with
    |false=>rw [hq] at ht;simp at ht
    |true =>
      rw [hq] at ht;simp only [cond_true] at ht;split at ht
      . rename_i l hl;cases ht;obtain ⟨cs,c1,c2,c3⟩:=zva hρ hl;obtain ⟨s',β',k1,k2,k3,k4⟩:=h.newBox 0 (by omega) c2 (c2.one c3)
        have:zcf Γ s ρ t n parts=some (.slice (some (mkA s.n (s.n*1024+0) 0)) n n,s'):=by
          unfold zcf;simp only [hj,hq,cond_true,c1,k1];rfl
        rw [this];exact ⟨_,s',A,β',rfl,k3,.arr k2 (.inl (by omega)),k4⟩
      . simp at ht
  . simp at ht
def zc7 (e:Nat) (ρ:f7->T):Nat->List (Nat×f7)->Option (List T)
  |_,[]=>some []
  |i,(k,x) :: r=>bif fy k i && (fy (ρ x).cells.length e && (ρ x).cells.all T.one) then (match zc7 e ρ (i+1) r with|some l=>some (ρ x :: l)|none=>none) else none
def zam (Γ:Env) (ρ:f7->T) (t:gm) (n:Nat) (parts:List (Nat×f7)):Option T:=match zdt Γ t with
  | some j => bif h9 (n * j.size) 16777216 && (ic 0 j.size && (fy j.zero.length j.size && fy parts.length n)) then
      (match zc7 j.size ρ 0 parts with
      |some l=>some (.lst j.size l)
      |none=>none) else none
  |none=>none
theorem z75 {g:Nat->Fam} {e:Nat} {ρT:f7->T} {ρ:f7->Value} (hρ:∀ x,VT A β g (ρT x) (ρ x)):∀ {parts:List (Nat×f7)} {i:Nat} {l:List T} {done:List Value} {rest:List Value},zc7 e ρT i parts=some l->done.length=i*e->rest.length=parts.length*e ->
    ∃ r cs,zho (zb7 e) ρ parts=some r/\zq5 (done++rest) r=some (done++cs)/\VL A β g (l.flatMap T.cells) cs/\(∀ t,t∈l->t.cells.length=e)/\l.length=parts.length
  |[],i,l,done,rest,h,hd,hr=>by
    simp only [zc7,fe] at h;subst h;have:rest=[]:=ji (by simpa using hr);subst this;exact ⟨[],[],rfl,rfl,.nil,by simp,rfl⟩
  |(k,x) :: parts,i,l,done,rest,h,hd,hr=>by
    unfold zc7 at h
    cases hq:(fy k i && (fy (ρT x).cells.length e && (ρT x).cells.all T.one)) with
    |false=>rw [hq] at h;simp at h
    |true =>
      rw [hq] at h;simp only [cond_true] at h;simp only [fj] at hq;obtain ⟨q1,q2,q3⟩:=hq;have:=fl q1;subst this;have q2':=fl q2;split at h
      . rename_i l' hl;cases h;have hc:=(hρ x).cells (zlx q3);have hcl:=hc.len;have hlen:rest.length=e+parts.length*e:=by rw [hr,gh,jm];omega
        obtain ⟨r,cs,a1,a2,a3,a4,a5⟩:=z75 hρ (done:=done++(ρ x).cells.toList) (rest:=rest.drop e) hl (by rw [fx,hd,<- hcl,q2',jm];omega) (by rw [jf];omega);refine ⟨(k*e,(ρ x).cells.toList) :: r,(ρ x).cells.toList++cs,?_,?_,?_,?_,by rw [gh,gh,a5]⟩
        . unfold zho;simp only [zb7,a1];rw [<- hcl,q2];rfl
        . unfold zq5
          have hsp:splice (done++rest) (k*e) (ρ x).cells.toList=done++(ρ x).cells.toList++rest.drop e:=by
            unfold Go.Proofs.Ytkfnjbfnkpameaa.splice;rw [<- hcl,q2',<- hd,pc,mh];simp
          rw [hsp,a2,zhe (show k*e+(ρ x).cells.toList.length<=(done++rest).length by rw [fx,<- hcl,q2',hd,hlen];omega),cond_true,List.append_assoc]
        . rw [jb];exact hc.append a3
        . intro t ht;rcases kj.1 ht with rfl|ht
          . exact q2'
          . exact a4 t ht
      . simp at h
theorem zmm (h:TRel GL A β S s) {t:gm} {n:Nat} {parts:List (Nat×f7)} {ρT:f7->T} {ρ:f7->Value} {r:T} (hρ:∀ x,VT A β (zaa s.obj) (ρT x) (ρ x)) (ht:zam Γ ρT t n parts=some r):Ok0 GL A β S s (zcf Γ s ρ t n parts) r:=by
  unfold zam at ht;split at ht
  . rename_i j hj
    cases hq:(h9 (n*j.size) 16777216 && (ic 0 j.size && (fy j.zero.length j.size && fy parts.length n))) with
    |false=>rw [hq] at ht;simp at ht
    |true =>
      rw [hq] at ht;simp only [cond_true] at ht;simp only [fj] at hq;obtain ⟨q1,q2,q3,q4⟩:=hq;have q3':=fl q3;have q4':=fl q4;split at ht
      . rename_i l hl;cases ht
        obtain ⟨r,cs,a1,a2,a3,a4,a5⟩:=z75 hρ (done:=[]) (rest:=(gb n j.zero).flatten) hl (by simp) (by
          rw [List.length_flatten];simp [q3',q4'])
        obtain ⟨s',A',k1,k2,k3,k4,k5⟩:=h.newFrozen 0 (by omega) a3
        have hop:zcf Γ s ρ t n parts=some (.slice (some (mkA s.n (s.n*1024+0) 0)) n n,s'):=by
          unfold zcf;simp only [hj,q1,q2,Bool.and_self,cond_true,a1,zqj];rw [gg] at a2;rw [a2];simp only [gg,k1];rfl
        rw [hop];refine ⟨_,s',A',rfl,k4,?_,k5⟩;have:=VT.lst (A:=A') (β:=β) (g:=zaa s'.obj) (off:=0) (cap:=n) k2 k3 (k5.stp.vl h a3) a4 (zad.1 q2) (by rw [gp,List.take_length]) (.inl (by omega)) (by omega);rw [a5,q4'] at this;exact this
      . simp at ht
  . simp at ht
end
end
end Go.Proofs.Ytkfnjbfnkpameaa
