/- Part 3 of the proof of SignChecksEverything (several texts in one; no further condition). -/
import Derived.Test.YtcgdomhednbdpaaDoorZB
import Derived.Laws.Strings
import Derived.Test.YtcgdomhednbdpaaDoorProg
import Derived.KernelRfl
set_option linter.unusedSimpArgs false
set_option linter.unusedVariables false
set_option linter.unusedSectionVars false
namespace Go.Proofs.YtcgdomhednbdpaaDoor
section
open Go Go.RowKit
section
variable {P:Program} {Γ:Env}
def zvk (c c':zdg):Prop:=∀ f args s r,c f args s=some r→c' f args s=some r
theorem ygm {call call':zdg} (h:zvk call call') {ρ:Operand→Value} {o:Oper} {s:CS} {r:Value×CS} (hc:cop P Γ call ρ o s=some r):cop P Γ call' ρ o s=some r:=by
 obtain ⟨dst,op,type,pos,after,guard⟩:=o;unfold cop at hc ⊢
 cases op with
 |call c =>
  simp only at hc ⊢;split at hc
  ·rename_i f hf;unfold zjd at hc ⊢;split at hc
   ·exact h _ _ _ _ hc
   ·simp at hc
  ·exact hc
  ·simp at hc
 |makeMap t r=>cases r<;>exact hc
 |_=>exact hc
theorem zqk {call call':zdg} (h:zvk call call') {ops:List Oper} {o:Oper} {fr:Fr} {s:CS} {r:Fr×CS} (hc:zbj P Γ call ops o fr s=some r):zbj P Γ call' ops o fr s=some r:=by
 unfold zbj at hc ⊢
 cases hw:zb9 ops fr o with
 |false=>rw [hw] at hc;exact hc
 |true =>
  rw [hw] at hc;simp only [cond_true] at hc ⊢;split at hc
  ·rename_i h1;rw [ygm h h1];exact hc
  ·simp at hc
theorem zv2 {call call':zdg} (h:zvk call call') {ops:List Oper}:∀ {l:List Oper} {fr:Fr} {s:CS} {r:Fr×CS},runC P Γ call ops l fr s=some r→runC P Γ call' ops l fr s=some r
 |[],_,_,_,hc=>hc
 |o :: l,fr,s,r,hc=>by
  simp only [runC] at hc ⊢;split at hc
  ·rename_i h1;rw [zqk h h1];exact zv2 h hc
  ·simp at hc
theorem zw7 {call call':zdg} (h:zvk call call') {ops:List Oper}:∀ {l:List Oper} {fr:Fr} {s:CS} {r:List Lg×Fr×CS},drawC P Γ call ops l fr s=some r→drawC P Γ call' ops l fr s=some r
 |[],_,_,_,hc=>hc
 |o :: l,fr,s,r,hc=>by
  simp only [drawC] at hc ⊢;split at hc
  ·rename_i h1;rw [zqk h h1];simp only;split at hc
   ·rename_i h2;rw [zw7 h h2];exact hc
   ·simp at hc
  ·simp at hc
theorem zyx:∀ n,(∀ c fr s r,cm P Γ n c fr s=some r→cm P Γ (n+1) c fr s=some r)∧zvk (ze9 P Γ n) (ze9 P Γ (n+1)):=by
  intro n
  induction n with
  |zero =>
    refine ⟨fun c fr s r h=>by simp [cm] at h,?_⟩;intro f args s r h;unfold ze9 at h ⊢;split at h
    · rename_i hx hax;exact h
    rename_i hax;split at h
    · split at h
      · simp only [cm,zbw] at h;split at h
        · rename_i hq;split at hq<;>simp at hq
        · rename_i hq;split at hq<;>simp at hq
        · simp at h
      · simp at h
    · simp at h
  |succ n ih =>
    obtain ⟨ih1,ih2⟩:=ih
    have hcode:∀ c fr s r,cm P Γ (n+1) c fr s=some r→cm P Γ (n+1+1) c fr s=some r:=by
      intro c fr s r h
      cases c with
      |region id ops draw =>
        have h' : (bif draw then match drawC P Γ (ze9 P Γ n) ops.toList ops.toList fr s with
            |some (logs,fr,t)=>bif calm s.n ops.toList logs then some (Exit.normal,fr,t) else none
            |none=>none
          else match runC P Γ (ze9 P Γ n) ops.toList ops.toList fr s with
            |some (fr,s)=>some (Exit.normal,fr,s)
            |none=>none)=some r:=h
        show (bif draw then match drawC P Γ (ze9 P Γ (n + 1)) ops.toList ops.toList fr s with
            |some (logs,fr,t)=>bif calm s.n ops.toList logs then some (Exit.normal,fr,t) else none
            |none=>none
          else match runC P Γ (ze9 P Γ (n+1)) ops.toList ops.toList fr s with
            |some (fr,s)=>some (Exit.normal,fr,s)
            |none=>none)=some r
        cases draw with
        |true =>
          simp only [cond_true] at h' ⊢;split at h'
          · rename_i h1;rw [zw7 ih2 h1];exact h'
          · simp at h'
        |false =>
          simp only [cond_false] at h' ⊢;split at h'
          · rename_i h1;rw [zv2 ih2 h1];exact h'
          · simp at h'
      |seq a b =>
        simp only [cm] at h;rw [cm];split at h
        · rename_i h1;rw [ih1 _ _ _ _ h1];exact ih1 _ _ _ _ h
        · rename_i hne;rw [ih1 _ _ _ _ h];split
          · rename_i h1;simp only [Option.some.injEq] at h1;subst h1;exact absurd h (hne _ _)
          · rfl
      |cond c t e =>
        simp only [cm] at h;rw [cm];split at h
        · exact ih1 _ _ _ _ h
        · simp at h
      |block id b =>
        simp only [cm] at h;rw [cm];split at h
        · rename_i h1;rw [ih1 _ _ _ _ h1];exact h
        · rename_i hne;rw [ih1 _ _ _ _ h];split
          · rename_i h1;simp only [Option.some.injEq] at h1;subst h1;exact absurd h (hne _ _ _)
          · rfl
      |loop b =>
        simp only [cm] at h;rw [cm];split at h
        · rename_i h1;rw [ih1 _ _ _ _ h1];exact ih1 _ _ _ _ h
        · rename_i hne;rw [ih1 _ _ _ _ h];split
          · rename_i h1;simp only [Option.some.injEq] at h1;subst h1;exact absurd h (hne _ _)
          · rfl
      |scope b=>simp only [cm] at h;rw [cm];exact ih1 _ _ _ _ h
      |skip=>exact h
      |label l=>exact h
      |exit id=>exact h
      |ret=>exact h
      |rangeFunc f ps a b=>simp [cm] at h
      |goto l=>simp [cm] at h
      |refuse w=>simp [cm] at h
    refine ⟨hcode,?_⟩;intro f args s r h;unfold ze9 at h ⊢;split at h
    · exact h
    split at h
    · split at h
      · rename_i fn hfn _ body hb
        cases hle:Nat.ble args.length fn.ntmps with
        |false=>rw [hle] at h;simp [sel] at h
        |true =>
          rw [hle,zbe] at h;rw [zbe];split at h
          · rename_i h1;rw [hcode _ _ _ _ h1];exact h
          · rename_i h1;rw [hcode _ _ _ _ h1];exact h
          · simp at h
      · simp at h
    · simp at h
theorem zw9 {n m:Nat} (h:n≤m) {c:Code} {fr:Fr} {s:CS} {r:Exit×Fr×CS} (hc:cm P Γ n c fr s=some r):cm P Γ m c fr s=some r:=by
  induction m with
  | zero => have : n = 0 := by omega
            subst this;exact hc
  |succ m ih =>
    by_cases hm:n=m+1
    · subst hm;exact hc
    · exact (zyx m).1 _ _ _ _ (ih (by omega))
theorem zgi {n m:Nat} (h:n≤m):zvk (ze9 P Γ n) (ze9 P Γ m):=by
  induction m with
  | zero => have : n = 0 := by omega
            subst this;exact fun _ _ _ _ k=>k
  |succ m ih =>
    by_cases hm:n=m+1
    · subst hm;exact fun _ _ _ _ k=>k
    · exact fun f args s r k=>(zyx m).2 _ _ _ _ (ih (by omega) f args s r k)
def Ev (P:Program) (Γ:Env) (c:Code) (fr:Fr) (s:CS) (e:Exit) (fr':Fr) (s':CS):Prop:=∃ n,cm P Γ n c fr s=some (e,fr',s')
def Runs (P:Program) (Γ:Env) (f:FuncId) (args:List Value) (s:CS) (v:Value) (s':CS):Prop:=∃ n,ze9 P Γ n f args s=some (v,s')
def Ops (P:Program) (Γ:Env) (ops l:List Oper) (fr:Fr) (s:CS) (fr':Fr) (s':CS):Prop:=∃ n,runC P Γ (ze9 P Γ n) ops l fr s=some (fr',s')
theorem Ev.skip (fr:Fr) (s:CS):Ev P Γ .skip fr s .normal fr s:=⟨1,rfl⟩
theorem Ev.ret (fr:Fr) (s:CS):Ev P Γ .ret fr s .ret fr s:=⟨1,rfl⟩
theorem Ev.exit (id:Nat) (fr:Fr) (s:CS):Ev P Γ (.exit id) fr s (.exit id) fr s:=⟨1,rfl⟩
theorem Ev.seq {a b:Code} {fr fr1 fr2:Fr} {s s1 s2:CS} {e:Exit} (h1:Ev P Γ a fr s .normal fr1 s1) (h2:Ev P Γ b fr1 s1 e fr2 s2):Ev P Γ (.seq a b) fr s e fr2 s2:=by
 obtain ⟨n,h1⟩:=h1;obtain ⟨m,h2⟩:=h2;refine ⟨max n m+1,?_⟩;rw [cm,zw9 (Nat.le_max_left n m) h1];exact zw9 (Nat.le_max_right n m) h2
theorem Ev.seqOut {a b:Code} {fr fr1:Fr} {s s1:CS} {e:Exit} (h1:Ev P Γ a fr s e fr1 s1) (he:e≠.normal):Ev P Γ (.seq a b) fr s e fr1 s1:=by
 obtain ⟨n,h1⟩:=h1;refine ⟨n+1,?_⟩;rw [cm,h1];cases e<;>first|exact absurd rfl he|rfl
theorem Ev.cond {c:Operand} {t f:Code} {fr fr':Fr} {s s':CS} {e:Exit} {b:Bool} (hb:zeu fr c=.bool b) (h:Ev P Γ (bif b then t else f) fr s e fr' s'):Ev P Γ (.cond c t f) fr s e fr' s':=by
 obtain ⟨n,h⟩:=h;refine ⟨n+1,?_⟩;rw [cm,hb];exact h
theorem Ev.block {id:Nat} {b:Code} {fr fr':Fr} {s s':CS} {e:Exit} (h:Ev P Γ b fr s e fr' s'):Ev P Γ (.block id b) fr s (match e with|.exit i=>(bif Nat.beq i id then .normal else .exit i)|e=>e) fr' s':=by
 obtain ⟨n,h⟩:=h;refine ⟨n+1,?_⟩;rw [cm,h];cases e<;>rfl
theorem Ev.scope {b:Code} {fr fr':Fr} {s s':CS} {e:Exit} (h:Ev P Γ b fr s e fr' s'):Ev P Γ (.scope b) fr s e fr' s':=by
 obtain ⟨n,h⟩:=h;exact ⟨n+1,h⟩
theorem Ev.again {b:Code} {fr fr1 fr2:Fr} {s s1 s2:CS} {e:Exit} (h1:Ev P Γ b fr s .normal fr1 s1) (h2:Ev P Γ (.loop b) fr1 s1 e fr2 s2):Ev P Γ (.loop b) fr s e fr2 s2:=by
 obtain ⟨n,h1⟩:=h1;obtain ⟨m,h2⟩:=h2;refine ⟨max n m+1,?_⟩;rw [cm,zw9 (Nat.le_max_left n m) h1];exact zw9 (Nat.le_max_right n m) h2
theorem Ev.last {b:Code} {fr fr1:Fr} {s s1:CS} {e:Exit} (h1:Ev P Γ b fr s e fr1 s1) (he:e≠.normal):Ev P Γ (.loop b) fr s e fr1 s1:=by
 obtain ⟨n,h1⟩:=h1;refine ⟨n+1,?_⟩;rw [cm,h1];cases e<;>first|exact absurd rfl he|rfl
theorem Ev.region {id:Nat} {ops:List Oper} {fr fr':Fr} {s s':CS} (h:Ops P Γ ops ops fr s fr' s'):Ev P Γ (.region id ops.toArray false) fr s .normal fr' s':=by
  obtain ⟨n,h⟩:=h;refine ⟨n+1,?_⟩
  show (match runC P Γ (ze9 P Γ n) ops.toArray.toList ops.toArray.toList fr s with
            |some (fr,s)=>some (Exit.normal,fr,s)
            |none=>none)=_
  simp only [List.toList_toArray,h]
theorem Ops.nil {ops:List Oper} (fr:Fr) (s:CS):Ops P Γ ops [] fr s fr s:=⟨0,rfl⟩
theorem Ops.cons {ops:List Oper} {o:Oper} {l:List Oper} {fr fr2:Fr} {s s1 s2:CS} {v:Value} (hw:zb9 ops fr o=true) (h1:∃ n,cop P Γ (ze9 P Γ n) (zeu fr) o s=some (v,s1)) (h2:Ops P Γ ops l (putC fr o.dst v) s1 fr2 s2):Ops P Γ ops (o :: l) fr s fr2 s2:=by
 obtain ⟨n,h1⟩:=h1;obtain ⟨m,h2⟩:=h2;refine ⟨max n m,?_⟩;rw [runC,zbj,hw,cond_true,ygm (zgi (Nat.le_max_left n m)) h1];exact zv2 (zgi (Nat.le_max_right n m)) h2
theorem Ops.skip {ops:List Oper} {o:Oper} {l:List Oper} {fr fr2:Fr} {s s2:CS} (hw:zb9 ops fr o=false) (h2:Ops P Γ ops l (putC fr o.dst undef) s fr2 s2):Ops P Γ ops (o :: l) fr s fr2 s2:=by
 obtain ⟨m,h2⟩:=h2;refine ⟨m,?_⟩;rw [runC,zbj,hw,cond_false];exact h2
theorem Runs.of {f:FuncId} {fn:Func} {body:Code} {args vs:List Value} {s s1 s2:CS} {fr':Fr} (hax:Γ.ax f=none) (hf:Γ.fn.at f=some fn) (hb:fn.body=some body) (hl:args.length≤fn.ntmps) {e:Exit} (he:e=.normal∨e=.ret)
    (h:Ev P Γ body (Fr.ofArgs args 0 ⟨fn.ntmps,Tr.all undef 9⟩) s e fr' s1) (hr:resC Γ fr' s1 fn.results.toList=some (vs,s2)):Runs P Γ f args s (tupC vs) s2:=by
  obtain ⟨n,h⟩:=h;refine ⟨n,?_⟩;unfold ze9;rw [hax,hf];simp only [hb];rw [zax.2 hl,zbe,h];rcases he with rfl|rfl<;>simp only [hr]
end
end
section
open Go Go.RowKit
section
variable {P:Program} {Γ:Env}
open Classical in
noncomputable def za0 (P:Program) (Γ:Env):zdg:=fun f args s=>if h:∃ r:Value×CS,∃ n,ze9 P Γ n f args s=some r then some h.choose else none
theorem zj7 {f:FuncId} {args:List Value} {s:CS} {r:Value×CS} (h:za0 P Γ f args s=some r):∃ n,ze9 P Γ n f args s=some r:=by
 unfold za0 at h;split at h
 ·rename_i hx;obtain ⟨n,hn⟩:=hx.choose_spec;simp only [Option.some.injEq] at h;exact ⟨n,by rw [← h];exact hn⟩
 ·simp at h
theorem z5r {f:FuncId} {args:List Value} {s:CS} {r:Value×CS} {n:Nat} (h:ze9 P Γ n f args s=some r):za0 P Γ f args s=some r:=by
 unfold za0;have hx:∃ r:Value×CS,∃ n,ze9 P Γ n f args s=some r:=⟨r,n,h⟩;rw [dif_pos hx];obtain ⟨m,hm⟩:=hx.choose_spec;have h1:=zgi (P:=P) (Γ:=Γ) (Nat.le_max_left n m) f args s _ h;have h2:=zgi (P:=P) (Γ:=Γ) (Nat.le_max_right n m) f args s _ hm;rw [h1] at h2;exact h2.symm
theorem cop_R {ρ:Operand→Value} {o:Oper} {s:CS} {r:Value×CS} (hc:cop P Γ (za0 P Γ) ρ o s=some r):∃ n,cop P Γ (ze9 P Γ n) ρ o s=some r:=by
 obtain ⟨dst,op,type,pos,after,guard⟩:=o;unfold cop at hc ⊢
 cases op with
 |call c =>
  simp only at hc ⊢;split at hc
  ·rename_i f hf;unfold zjd at hc ⊢;split at hc
   ·exact zj7 hc
   ·simp at hc
  ·exact ⟨0,hc⟩
  ·simp at hc
 |makeMap t r=>cases r<;>exact ⟨0,hc⟩
 |_=>exact ⟨0,hc⟩
theorem z73 {ops:List Oper} {o:Oper} {fr:Fr} {s:CS} {r:Fr×CS} (hc:zbj P Γ (za0 P Γ) ops o fr s=some r):∃ n,zbj P Γ (ze9 P Γ n) ops o fr s=some r:=by
 unfold zbj at hc ⊢
 cases hw:zb9 ops fr o with
 |false=>rw [hw] at hc;exact ⟨0,hc⟩
 |true =>
  rw [hw] at hc;simp only [cond_true] at hc ⊢;split at hc
  ·rename_i h1;obtain ⟨n,hn⟩:=cop_R h1;exact ⟨n,by rw [hn];exact hc⟩
  ·simp at hc
theorem yfj {ops:List Oper}:∀ {l:List Oper} {fr:Fr} {s:CS} {r:Fr×CS},runC P Γ (za0 P Γ) ops l fr s=some r→∃ n,runC P Γ (ze9 P Γ n) ops l fr s=some r
 |[],_,_,_,hc=>⟨0,hc⟩
 |o :: l,fr,s,r,hc=>by
  simp only [runC] at hc ⊢;split at hc
  ·rename_i h1;obtain ⟨n,hn⟩:=z73 h1;obtain ⟨m,hm⟩:=yfj hc;refine ⟨max n m,?_⟩;rw [zqk (zgi (Nat.le_max_left n m)) hn];exact zv2 (zgi (Nat.le_max_right n m)) hm
  ·simp at hc
theorem ybq {ops:List Oper}:∀ {l:List Oper} {fr:Fr} {s:CS} {r:List Lg×Fr×CS},drawC P Γ (za0 P Γ) ops l fr s=some r→∃ n,drawC P Γ (ze9 P Γ n) ops l fr s=some r
 |[],_,_,_,hc=>⟨0,hc⟩
 |o :: l,fr,s,r,hc=>by
  simp only [drawC] at hc ⊢;split at hc
  ·rename_i h1;obtain ⟨n,hn⟩:=z73 h1;split at hc
   ·rename_i h2;obtain ⟨m,hm⟩:=ybq h2;refine ⟨max n m,?_⟩;rw [zqk (zgi (Nat.le_max_left n m)) hn];simp only;rw [zw7 (zgi (Nat.le_max_right n m)) hm];exact hc
   ·simp at hc
  ·simp at hc
def W (P:Program) (Γ:Env) (c:Code) (fr:Fr) (s:CS) (Q:Exit→Fr→CS→Prop):Prop:=∃ e fr' s',Ev P Γ c fr s e fr' s'∧Q e fr' s'
def onN (k:Fr→CS→Prop) (Q:Exit→Fr→CS→Prop) (e:Exit) (fr:Fr) (s:CS):Prop:=match e with
 |.normal=>k fr s
 |e=>Q e fr s
def onB (id:Nat) (Q:Exit→Fr→CS→Prop) (e:Exit) (fr:Fr) (s:CS):Prop:=match e with
 |.exit i=>bif Nat.beq i id then Q .normal fr s else Q (.exit i) fr s
 |e=>Q e fr s
theorem W.mono {c:Code} {fr:Fr} {s:CS} {Q R:Exit→Fr→CS→Prop} (h:W P Γ c fr s Q) (k:∀ e fr s,Q e fr s→R e fr s):W P Γ c fr s R:=by
 obtain ⟨e,fr',s',h1,h2⟩:=h;exact ⟨e,fr',s',h1,k _ _ _ h2⟩
theorem W.skip {fr:Fr} {s:CS} {Q:Exit→Fr→CS→Prop} (h:Q .normal fr s):W P Γ .skip fr s Q:=⟨_,_,_,Ev.skip fr s,h⟩
theorem W.ret {fr:Fr} {s:CS} {Q:Exit→Fr→CS→Prop} (h:Q .ret fr s):W P Γ .ret fr s Q:=⟨_,_,_,Ev.ret fr s,h⟩
theorem W.exit {id:Nat} {fr:Fr} {s:CS} {Q:Exit→Fr→CS→Prop} (h:Q (.exit id) fr s):W P Γ (.exit id) fr s Q:=⟨_,_,_,Ev.exit id fr s,h⟩
theorem W.label {l:Nat} {fr:Fr} {s:CS} {Q:Exit→Fr→CS→Prop} (h:Q .normal fr s):W P Γ (.label l) fr s Q:=⟨_,_,_,⟨1,rfl⟩,h⟩
theorem W.seq {a b:Code} {fr:Fr} {s:CS} {Q:Exit→Fr→CS→Prop} (h:W P Γ a fr s (onN (fun fr s=>W P Γ b fr s Q) Q)):W P Γ (.seq a b) fr s Q:=by
 obtain ⟨e,fr1,s1,h1,h2⟩:=h
 cases e with
 |normal =>
  obtain ⟨e2,fr2,s2,h3,h4⟩:=h2;exact ⟨_,_,_,Ev.seq h1 h3,h4⟩
 |_=>exact ⟨_,_,_,Ev.seqOut h1 (by simp),h2⟩
theorem W.cond {c:Operand} {t f:Code} {fr:Fr} {s:CS} {Q:Exit→Fr→CS→Prop} {b:Bool} (hb:zeu fr c=.bool b) (h:W P Γ (bif b then t else f) fr s Q):W P Γ (.cond c t f) fr s Q:=by
 obtain ⟨e,fr1,s1,h1,h2⟩:=h;exact ⟨_,_,_,Ev.cond hb h1,h2⟩
theorem W.block {id:Nat} {b:Code} {fr:Fr} {s:CS} {Q:Exit→Fr→CS→Prop} (h:W P Γ b fr s (onB id Q)):W P Γ (.block id b) fr s Q:=by
 obtain ⟨e,fr1,s1,h1,h2⟩:=h;refine ⟨_,_,_,Ev.block h1,?_⟩
 cases e with
 |exit i =>
  simp only [onB] at h2;show Q (bif Nat.beq i id then .normal else .exit i) fr1 s1
  cases hq:Nat.beq i id with
  |true=>rw [hq] at h2;exact h2
  |false=>rw [hq] at h2;exact h2
 |_=>exact h2
theorem W.scope {b:Code} {fr:Fr} {s:CS} {Q:Exit→Fr→CS→Prop} (h:W P Γ b fr s Q):W P Γ (.scope b) fr s Q:=by
 obtain ⟨e,fr1,s1,h1,h2⟩:=h;exact ⟨_,_,_,Ev.scope h1,h2⟩
theorem W.loop {b:Code} {Q:Exit→Fr→CS→Prop} (I:Nat→Fr→CS→Prop) (hb:∀ n fr s,I n fr s→W P Γ b fr s (onN (fun fr s=>∃ m,m<n∧I m fr s) Q)):∀ n fr s,I n fr s→W P Γ (.loop b) fr s Q:=by
 intro n
 induction n using Nat.strongRecOn with
 |_ n ih =>
  intro fr s hI;obtain ⟨e,fr1,s1,h1,h2⟩:=hb n fr s hI
  cases e with
  |normal =>
   obtain ⟨m,hm,hI'⟩:=h2;obtain ⟨e2,fr2,s2,h3,h4⟩:=ih m hm fr1 s1 hI';exact ⟨_,_,_,Ev.again h1 h3,h4⟩
  |_=>exact ⟨_,_,_,Ev.last h1 (by simp),h2⟩
theorem W.region {id:Nat} {ops:Array Oper} {fr fr':Fr} {s s':CS} {Q:Exit→Fr→CS→Prop} (h:runC P Γ (za0 P Γ) ops.toList ops.toList fr s=some (fr',s')) (hq:Q .normal fr' s'):W P Γ (.region id ops false) fr s Q:=by
  obtain ⟨n,hn⟩:=yfj h;refine ⟨_,_,_,⟨n+1,?_⟩,hq⟩
  show (match runC P Γ (ze9 P Γ n) ops.toList ops.toList fr s with
            |some (fr,s)=>some (Exit.normal,fr,s)
            |none=>none)=_
  rw [hn]
theorem W.draw {id:Nat} {ops:Array Oper} {fr fr':Fr} {s s':CS} {logs:List Lg} {Q:Exit→Fr→CS→Prop} (h:drawC P Γ (za0 P Γ) ops.toList ops.toList fr s=some (logs,fr',s')) (hc:calm s.n ops.toList logs=true) (hq:Q .normal fr' s'):W P Γ (.region id ops true) fr s Q:=by
  obtain ⟨n,hn⟩:=ybq h;refine ⟨_,_,_,⟨n+1,?_⟩,hq⟩
  show (match drawC P Γ (ze9 P Γ n) ops.toList ops.toList fr s with
        |some (logs,fr,t)=>bif calm s.n ops.toList logs then some (Exit.normal,fr,t) else none
        |none=>none)=_
  rw [hn];simp only [hc,cond_true]
theorem zpb {f:FuncId} {fn:Func} {body:Code} {args:List Value} {s s2:CS} {v:Value} (hax:Γ.ax f=none) (hf:Γ.fn.at f=some fn) (hb:fn.body=some body) (hl:args.length≤fn.ntmps)
    (h:W P Γ body (Fr.ofArgs args 0 ⟨fn.ntmps,Tr.all undef 9⟩) s fun e fr' s1=>(e=.normal∨e=.ret)∧∃ vs,resC Γ fr' s1 fn.results.toList=some (vs,s2)∧v=tupC vs):za0 P Γ f args s=some (v,s2):=by
  obtain ⟨e,fr1,s1,h1,he,vs,hr,rfl⟩:=h;obtain ⟨n,hn⟩:=Runs.of hax hf hb hl he h1 hr;exact z5r hn
end
end
section
open Go Go.RowKit
section
variable {P:Program} {Γ:Env} {ρ:Operand→Value} {s:CS} {d:Option Tmp} {ty:TypeId} {pos:String} {t t2:TypeId} {x y:Operand}
theorem ydr (d:TypeDesc) (k:IntKind) (n:Int):nilT d (.int k n)=none:=by cases d<;>rfl
theorem yif (op:BinOp) (k:IntKind) (n:Int) (v:Value):eqC Γ t op (.int k n) v=none:=by
 unfold eqC
 cases Γ.ti.at t with
 |none=>rfl
 |some i=>cases op<;>first|rfl | (simp only [ydr];rfl)
theorem z12 (op:BinOp) (k k':IntKind) (m n:Int):eqGuard op t x y (.int k m) (.int k' n)=pure ():=by
 unfold eqGuard;cases op<;>simp
theorem zan {op:BinOp} {k k':IntKind} {a b:Int} {r:Value} {o:Oper} (ho:o.op=.binOp op t x y t2) (hx:ρ x=.int k a) (hy:ρ y=.int k' b) (w:World)
    (hr:binOp op t (.int k a) (.int k' b)=pure r) (hp:za3 3 r=true):zcq P Γ ρ o s t op (.int k a) (.int k' b)=some (r,s):=by
  unfold zcq
  cases hc:binC op (.int k a) (.int k' b) with
  |some v =>
    have h1:=(z52 (σ:=fun _ _=>none) (P:=P) (t:=t) (x:=x) (y:=y) (w:=w) hc (VR.ofInt _ _) (VR.ofInt _ _)).2.1;rw [hr] at h1;simp at h1
    simp only [h1]
  |none =>
    rw [yif];simp only [zea];unfold zll
    have hops:(o.op.operands.toList.all fun z=>za3 3 (ρ z))=true:=by
      rw [ho];simp [Op.operands,hx,hy,za3]
    rw [hops]
    have he:execOp ρ o=pure (.value r):=by
      unfold execOp;rw [ho];simp only [hx,hy,z12,hr];simp
    rw [he];simp only [cond_true];show retC s (bif za3 3 r then some r else none)=some (r,s);rw [hp];rfl
variable {e:Array Edge} {g:Option (Nat×Bool)} {k k':IntKind} {a b:Int}
def inK (k:IntKind) (n:Int):Prop:=k.wrap n=n
theorem zac {n:Int} (h:-9223372036854775808≤n∧n≤9223372036854775807):inK .i64 n:=by unfold inK;simp [IntKind.wrap,IntKind.bits,IntKind.signed];omega
theorem zad {n:Int} (h:0≤n∧n≤18446744073709551615):inK .u64 n:=by unfold inK;simp [IntKind.wrap,IntKind.bits,IntKind.signed];omega
theorem z4d {n:Int} (h:0≤n∧n≤255):inK .u8 n:=by unfold inK;simp [IntKind.wrap,IntKind.bits,IntKind.signed];omega
theorem zd0 (hx:ρ x=.int k a) (hy:ρ y=.int k b) (h:inK k (a+b)):zcq P Γ ρ ⟨d,.binOp .add t x y t2,ty,pos,e,g⟩ s t .add (.int k a) (.int k b)=some (.int k (a+b),s) :=
 zan rfl hx hy default (by simp only [binOp,Op.intArith,ne_eq,not_true,if_false];rw [h]) rfl
theorem yj6 (hx:ρ x=.int k a) (hy:ρ y=.int k b):zcq P Γ ρ ⟨d,.binOp .add t x y t2,ty,pos,e,g⟩ s t .add (.int k a) (.int k b)=some (.int k (k.wrap (a+b)),s) :=
 zan rfl hx hy default (by simp only [binOp,Op.intArith,ne_eq,not_true,if_false]) rfl
theorem zlo (hx:ρ x=.int k a) (hy:ρ y=.int k b) (h:inK k (a - b)):zcq P Γ ρ ⟨d,.binOp .sub t x y t2,ty,pos,e,g⟩ s t .sub (.int k a) (.int k b)=some (.int k (a - b),s) :=
 zan rfl hx hy default (by simp only [binOp,Op.intArith,ne_eq,not_true,if_false];rw [h]) rfl
theorem znv (hx:ρ x=.int k a) (hy:ρ y=.int k b) (h:inK k (a*b)):zcq P Γ ρ ⟨d,.binOp .mul t x y t2,ty,pos,e,g⟩ s t .mul (.int k a) (.int k b)=some (.int k (a*b),s) :=
 zan rfl hx hy default (by simp only [binOp,Op.intArith,ne_eq,not_true,if_false];rw [h]) rfl
theorem yj9 (hx:ρ x=.int k a) (hy:ρ y=.int k b):zcq P Γ ρ ⟨d,.binOp .eql t x y t2,ty,pos,e,g⟩ s t .eql (.int k a) (.int k b)=some (.bool (decide (a=b)),s) :=
 zan rfl hx hy default (by simp [binOp,Op.intCmp];rfl) rfl
theorem yfu (hx:ρ x=.int k a) (hy:ρ y=.int k b):zcq P Γ ρ ⟨d,.binOp .neq t x y t2,ty,pos,e,g⟩ s t .neq (.int k a) (.int k b)=some (.bool (decide (a≠b)),s) :=
 zan rfl hx hy default (by simp [binOp,Op.intCmp]<;>rfl) rfl
theorem zgt (hx:ρ x=.int k a) (hy:ρ y=.int k b):zcq P Γ ρ ⟨d,.binOp .lss t x y t2,ty,pos,e,g⟩ s t .lss (.int k a) (.int k b)=some (.bool (decide (a<b)),s) :=
 zan rfl hx hy default (by simp [binOp,Op.intCmp]) rfl
theorem yfv (hx:ρ x=.int k a) (hy:ρ y=.int k b):zcq P Γ ρ ⟨d,.binOp .gtr t x y t2,ty,pos,e,g⟩ s t .gtr (.int k a) (.int k b)=some (.bool (decide (b<a)),s) :=
 zan rfl hx hy default (by simp [binOp,Op.intCmp]) rfl
theorem yj8 (hx:ρ x=.int k a) (hy:ρ y=.int k b):zcq P Γ ρ ⟨d,.binOp .geq t x y t2,ty,pos,e,g⟩ s t .geq (.int k a) (.int k b)=some (.bool (decide (b≤a)),s) :=
 zan rfl hx hy default (by simp [binOp,Op.intCmp]) rfl
theorem z9x (hx:ρ x=.int k a) (hy:ρ y=.int k b) (h0:0≤a) (h1:0<b) (h:inK k (a / b)):zcq P Γ ρ ⟨d,.binOp .quo t x y t2,ty,pos,e,g⟩ s t .quo (.int k a) (.int k b)=some (.int k (a / b),s) :=
 zan rfl hx hy default (by simp only [binOp,Op.intDiv,ne_eq,not_true,if_false];rw [if_neg (by omega)];rw [Int.tdiv_eq_ediv_of_nonneg h0,h]) rfl
theorem zui (hx:ρ x=.int k a) (hy:ρ y=.int k b) (h0:0≤a) (h1:0<b):zcq P Γ ρ ⟨d,.binOp .rem t x y t2,ty,pos,e,g⟩ s t .rem (.int k a) (.int k b)=some (.int k (a % b),s) :=
 zan rfl hx hy default (by simp only [binOp,Op.intDiv,ne_eq,not_true,if_false];rw [if_neg (by omega)];rw [Int.tmod_eq_emod_of_nonneg h0]) rfl
theorem yfn (hx:ρ x=.int k a) (hy:ρ y=.int k b):zcq P Γ ρ ⟨d,.binOp .and t x y t2,ty,pos,e,g⟩ s t .and (.int k a) (.int k b)=some (.int k (k.wrap (BitVec.ofInt k.bits a &&& BitVec.ofInt k.bits b).toNat),s) :=
 zan rfl hx hy default (by simp only [binOp,Op.intBits,ne_eq,not_true,if_false]) rfl
theorem yj5 (hx:ρ x=.int k a) (hy:ρ y=.int k b):zcq P Γ ρ ⟨d,.binOp .or t x y t2,ty,pos,e,g⟩ s t .or (.int k a) (.int k b)=some (.int k (k.wrap (BitVec.ofInt k.bits a ||| BitVec.ofInt k.bits b).toNat),s) :=
 zan rfl hx hy default (by simp only [binOp,Op.intBits,ne_eq,not_true,if_false]) rfl
theorem z9q (hx:ρ x=.int k a) (hy:ρ y=.int k b):zcq P Γ ρ ⟨d,.binOp .xor t x y t2,ty,pos,e,g⟩ s t .xor (.int k a) (.int k b)=some (.int k (k.wrap (BitVec.ofInt k.bits a ^^^ BitVec.ofInt k.bits b).toNat),s) :=
 zan rfl hx hy default (by simp only [binOp,Op.intBits,ne_eq,not_true,if_false]) rfl
theorem yfm (hx:ρ x=.int k a) (hy:ρ y=.int k' b) (h0:0≤b):zcq P Γ ρ ⟨d,.binOp .shl t x y t2,ty,pos,e,g⟩ s t .shl (.int k a) (.int k' b)=some (.int k (k.wrap (a*2 ^ (min b.toNat k.bits))),s) :=
 zan rfl hx hy default (by simp only [binOp,Op.shift];rw [if_neg (by omega)]) rfl
theorem z3q (hx:ρ x=.int k a) (hy:ρ y=.int k' b) (h0:0≤b):zcq P Γ ρ ⟨d,.binOp .shr t x y t2,ty,pos,e,g⟩ s t .shr (.int k a) (.int k' b)=some (.int k (a.fdiv (2 ^ (min b.toNat k.bits))),s) :=
 zan rfl hx hy default (by simp only [binOp,Op.shift];rw [if_neg (by omega)]) rfl
theorem zqn {o:Oper} {r:Value} (hops:(o.op.operands.toList.all fun z=>za3 3 (ρ z))=true) (he:execOp ρ o=pure (.value r)) (hp:za3 3 r=true):zll P ρ o=some r:=by
 unfold zll;rw [hops,he];simp only [cond_true];show (bif za3 3 r then some r else none)=some r;rw [hp];rfl
theorem yfp (hx:ρ x=.int k a):zea P ρ ⟨d,.unOp .neg t x,ty,pos,e,g⟩ s (unC .neg (.int k a))=some (.int k (k.wrap (0 - a)),s):=by
 show retC s (zll P ρ _)=_;rw [zqn (r:=.int k (k.wrap (0 - a)))]
 ·rfl
 ·simp [Op.operands,hx,za3]
 ·simp [execOp,hx,Op.unary,Op.intArith]
 ·rfl
theorem yfo (hx:ρ x=.int k a):zea P ρ ⟨d,.unOp .xor t x,ty,pos,e,g⟩ s (unC .xor (.int k a))=some (.int k (k.wrap (BitVec.ofInt k.bits (if k.signed then -1 else k.max) ^^^ BitVec.ofInt k.bits a).toNat),s):=by
 show retC s (zll P ρ _)=_;rw [zqn (r:=.int k (k.wrap (BitVec.ofInt k.bits (if k.signed then -1 else k.max) ^^^ BitVec.ofInt k.bits a).toNat))]
 ·rfl
 ·simp [Op.operands,hx,za3]
 ·simp [execOp,hx,Op.unary,Op.intBits]
 ·rfl
theorem zgg {α β:Type} {f:α→Sem β}:∀ {m:Sem α} {v:α},zb6 P m=some v→zb6 P (m >>= f)=zb6 P (f v):=by
 intro m
 induction m with
 |pure a=>intro v h;simp only [zb6,Option.some.injEq] at h;subst h;rfl
 |program k ih=>intro v h;exact ih P h
 |_=>intro v h;simp [zb6] at h
theorem zct {dt:TypeDesc} (h:P.underlying t=some dt):zb6 P (underlying t)=some dt:=by
 unfold underlying;show zb6 P ((program:Sem Program) >>= _)=_;rw [zgg (v:=P) rfl];rw [h];rfl
theorem zho {src dst:TypeId} (hx:∃ k,ρ x=.int k a) (hs:(P.underlying src).isSome=true) (hd:P.underlying dst=some (.int k')):zea P ρ ⟨d,.convert src dst x,ty,pos,e,g⟩ s (zto k' a)=some (.int k' (k'.wrap a),s):=by
 obtain ⟨k,hx⟩:=hx;obtain ⟨sd,hs⟩:=Option.isSome_iff_exists.1 hs
 have h:zb6 P (convert src dst (.int k a))=some (.int k' (k'.wrap a)):=by
  unfold convert;rw [zgg (zct hs),zgg (zct hd)];cases sd<;>rfl
 cases hc:zto k' a with
 |some v =>
  unfold zto at hc;split at hc
  ·obtain ⟨h1,rfl⟩:=zdp hc;have:=zhb k' _ (zai.1 h1);simp only [zea];rw [← this];rfl
  ·simp at hc
 |none =>
  show retC s (zll P ρ _)=_;unfold zll;rw [show (((⟨d,.convert src dst x,ty,pos,e,g⟩:Oper).op.operands.toList.all fun z=>za3 3 (ρ z))=true) by simp [Op.operands,hx,za3]]
  have he:zb6 P (execOp ρ ⟨d,.convert src dst x,ty,pos,e,g⟩)=some (.value (.int k' (k'.wrap a))):=by
   unfold execOp;simp only [hx];rw [zgg h];rfl
  rw [he];rfl
end
end
section
open Go Go.RowKit
section
variable {P:Program} {Γ:Env} {call:zdg} {ops l:List Oper} {o:Oper} {fr:Fr} {s:CS}
noncomputable def yjb {α:Type} (r:Option (Fr×CS)) (k:Fr→CS→Option α):Option α:=match r with
 |some (fr,s)=>k fr s
 |none=>none
noncomputable def dstC (fr:Fr) (d:Option Tmp) (r:Option (Value×CS)):Option (Fr×CS):=match r with
 |some (v,s)=>some (putC fr d v,s)
 |none=>none
theorem zfb {α:Type} (k:Fr→CS→Option α):yjb (some (fr,s)) k=k fr s:=Eq.trans rfl rfl
theorem zh7 (t:Tmp) (v:Value):dstC fr (some t) (some (v,s))=some (fr.put t v,s):=Eq.trans rfl rfl
theorem zgw (v:Value):dstC fr none (some (v,s))=some (fr,s):=Eq.trans rfl rfl
theorem zja:runC P Γ call ops [] fr s=some (fr,s):=Eq.trans rfl rfl
theorem zhl:runC P Γ call ops (o :: l) fr s=yjb (zbj P Γ call ops o fr s) (runC P Γ call ops l):=by
 rw [runC]
 cases zbj P Γ call ops o fr s with
 |none=>rfl
 |some r=>rfl
theorem zfd {d:Option Tmp} {op:Op} {ty:TypeId} {pos:String} {e:Array Edge}:zbj P Γ call ops ⟨d,op,ty,pos,e,none⟩ fr s=dstC fr d (cop P Γ call (zeu fr) ⟨d,op,ty,pos,e,none⟩ s):=by
 rw [zbj,zb9,cond_true]
 cases cop P Γ call (zeu fr) ⟨d,op,ty,pos,e,none⟩ s with
 |none=>rfl
 |some r=>rfl
theorem zgv (fr:Fr) (v:Value):zeu fr (.const v)=v:=by cases v<;>rfl
theorem zaw (fr:Fr) (t:Nat):zeu fr (.tmp t)=fr.get t:=by cases t<;>rfl
theorem ybk (fr:Fr) (f:Nat):zeu fr (.func f)=.func (.func f) #[] #[]:=by cases f<;>rfl
theorem zzo (fr:Fr) (g:Nat):zeu fr (.global g)=.pointer (some (mkA g (g*1024) 0)):=by cases g<;>rfl
variable {ρ:Operand→Value} {d:Option Tmp} {ty:TypeId} {pos:String} {e:Array Edge} {g:Option (Nat×Bool)}
theorem zh9 {x:Operand}:cop P Γ call ρ ⟨d,.move x,ty,pos,e,g⟩ s=some (ρ x,s):=Eq.trans rfl rfl
theorem zfk {x:Operand}:cop P Γ call ρ ⟨d,.assign x,ty,pos,e,g⟩ s=some (ρ x,s):=Eq.trans rfl rfl
theorem zkw {op:BinOp} {t t2:TypeId} {x y:Operand}:cop P Γ call ρ ⟨d,.binOp op t x y t2,ty,pos,e,g⟩ s=zcq P Γ ρ ⟨d,.binOp op t x y t2,ty,pos,e,g⟩ s t op (ρ x) (ρ y):=Eq.trans rfl rfl
theorem zn8 {op:UnOp} {t:TypeId} {x:Operand}:cop P Γ call ρ ⟨d,.unOp op t x,ty,pos,e,g⟩ s=zea P ρ ⟨d,.unOp op t x,ty,pos,e,g⟩ s (unC op (ρ x)):=Eq.trans rfl rfl
theorem zia {a b:TypeId} {x:Operand}:cop P Γ call ρ ⟨d,.convert a b x,ty,pos,e,g⟩ s=zak P Γ ρ ⟨d,.convert a b x,ty,pos,e,g⟩ s a b (ρ x):=Eq.trans rfl rfl
theorem zw8 {f:FuncId} {args:Array Operand} {tys:Array TypeId}:cop P Γ call (zeu fr) ⟨d,.call ⟨.value (.func f),args,tys⟩,ty,pos,e,g⟩ s=call f (args.toList.map (zeu fr)) s:=by
 show zjd call s (args.toList.map (zeu fr)) (.func (.func f) #[] #[])=_;simp [zjd]
theorem zs6 {b:Builtin} {args:Array Operand} {tys:Array TypeId}:cop P Γ call ρ ⟨d,.call ⟨.builtin b,args,tys⟩,ty,pos,e,g⟩ s=zc9 P Γ ρ ⟨d,.call ⟨.builtin b,args,tys⟩,ty,pos,e,g⟩ s b args.toList tys.toList:=Eq.trans rfl rfl
theorem z5c {c a b:Operand}:cop P Γ call ρ ⟨d,.pick c a b,ty,pos,e,g⟩ s=zr7 s (ρ a) (ρ b) (ρ c):=Eq.trans rfl rfl
theorem zz3 {t:TypeId} {x ix:Operand}:cop P Γ call ρ ⟨d,.index t x ix,ty,pos,e,g⟩ s=zg7 Γ s t (ρ x) (zet (ρ ix)):=Eq.trans rfl rfl
theorem zn9 {t:TypeId} {x ix:Operand}:cop P Γ call ρ ⟨d,.indexAddr t x ix,ty,pos,e,g⟩ s=za2 Γ s t (ρ x) (zet (ρ ix)):=Eq.trans rfl rfl
theorem z5d {t:TypeId} {x:Operand}:cop P Γ call ρ ⟨d,.load t x,ty,pos,e,g⟩ s=zfp Γ s t (ρ x):=Eq.trans rfl rfl
theorem zz0 {t:TypeId} {x v:Operand}:cop P Γ call ρ ⟨d,.store t x v,ty,pos,e,g⟩ s=ze4 Γ s t (ρ v).cells.toList (ρ x):=Eq.trans rfl rfl
theorem zz7 {t:TypeId}:cop P Γ call ρ ⟨d,.alloc t,ty,pos,e,g⟩ s=ziw Γ s t:=Eq.trans rfl rfl
theorem yb0 {t:TypeId} {x:Operand}:cop P Γ call ρ ⟨d,.box t x,ty,pos,e,g⟩ s=ptrC (s.newRow 0 (ρ x).cells.toList):=Eq.trans rfl rfl
theorem zz6 {t:TypeId} {parts:Array (Nat×Operand)}:cop P Γ call ρ ⟨d,.build t parts,ty,pos,e,g⟩ s=zdn Γ s ρ t parts.toList:=Eq.trans rfl rfl
theorem zz1 {t:TypeId} {x:Operand} {lo hi mx:Option Operand}:cop P Γ call ρ ⟨d,.slice t x lo hi mx,ty,pos,e,g⟩ s=zbh Γ s t (ρ x) (lo.map ρ) (hi.map ρ) (mx.map ρ):=Eq.trans rfl rfl
theorem ybz {t:TypeId} {x:Operand}:cop P Γ call ρ ⟨d,.sliceToArrayPointer t x,ty,pos,e,g⟩ s=zoz Γ s t (ρ x):=Eq.trans rfl rfl
theorem zz4 {t:TypeId} {x:Operand} {k:Nat}:cop P Γ call ρ ⟨d,.field t x k,ty,pos,e,g⟩ s=zkr Γ s t k (ρ x):=Eq.trans rfl rfl
theorem zoa {t:TypeId} {x:Operand} {k:Nat}:cop P Γ call ρ ⟨d,.fieldAddr t x k,ty,pos,e,g⟩ s=zce Γ s t k (ρ x):=Eq.trans rfl rfl
theorem zs5 {x:Operand} {k:Nat}:cop P Γ call ρ ⟨d,.extract x k,ty,pos,e,g⟩ s=zgs s k (ρ x):=Eq.trans rfl rfl
theorem zp6 {x:Operand}:cop P Γ call ρ ⟨d,.nilCheck x,ty,pos,e,g⟩ s=zg6 s (ρ x):=Eq.trans rfl rfl
end
noncomputable def Fr.of (n:Nat) (f:Nat→Value):Fr:=⟨n,Tr.of f 9 0 1⟩
def upd (f:Nat→Value) (t:Nat) (v:Value):Nat→Value:=fun u=>if u=t then v else f u
theorem zaa (f:Nat→Value) (t:Nat) (v:Value):upd f t v t=v:=if_pos rfl
theorem zab (f:Nat→Value) (t u:Nat) (v:Value) (h:u≠t):upd f t v u=f u:=if_neg h
theorem Tr.of_set {α:Type} (f:Nat→α) (v:α):∀ (d k w t:Nat),0<w→t<2 ^ d→Tr.set v d (Tr.of f d k w) t=Tr.of (fun u=>if u=k+t*w then v else f u) d k w:=by
 intro d
 induction d generalizing f with
 |zero =>
  intro k w t hw ht;have:t=0:=by simpa using ht
  subst this;show v=if k=k+0*w then v else f k;rw [if_pos (by simp)]
 |succ d ih =>
  intro k w t hw ht
  have ext:∀ (d k w:Nat) (f g:Nat→α),(∀ i,i<2 ^ d→f (k+i*w)=g (k+i*w))→Tr.of f d k w=Tr.of g d k w:=by
   intro d
   induction d with
   |zero=>intro k w f g h;show f k=g k;simpa using h 0 (by simp)
   |succ d ih =>
    intro k w f g h;show Prod.mk _ _=Prod.mk _ _;congr 1
    ·refine ih k (2*w) f g fun i hi=>?_;have:=h (2*i) (by rw [Nat.pow_succ];omega);rw [show k+i*(2*w)=k+2*i*w by rw [Nat.mul_comm 2 i,Nat.mul_assoc]];exact this
    ·refine ih (k+w) (2*w) f g fun i hi=>?_;have:=h (2*i+1) (by rw [Nat.pow_succ];omega);rw [show k+w+i*(2*w)=k+(2*i+1)*w by rw [Nat.add_mul,Nat.mul_comm 2 i,Nat.mul_assoc];omega];exact this
  have hd:t / 2<2 ^ d:=by rw [Nat.pow_succ] at ht;omega
  show Bool.rec (Prod.mk (Tr.of f d k (2*w)) (Tr.set v d (Tr.of f d (k+w) (2*w)) (t / 2))) (Prod.mk (Tr.set v d (Tr.of f d k (2*w)) (t / 2)) (Tr.of f d (k+w) (2*w))) (Nat.beq (t % 2) 0)=Prod.mk _ _;have hm:t=2*(t / 2)+t % 2:=by omega
  cases hb:Nat.beq (t % 2) 0 with
  |true =>
   have h0:t % 2=0:=Nat.eq_of_beq_eq_true hb;show Prod.mk _ _=Prod.mk _ _;rw [ih f k (2*w) (t / 2) (by omega) hd];congr 1
   ·refine ext _ _ _ _ _ fun i hi=>?_
    have:k+t / 2*(2*w)=k+t*w:=by
     have:t / 2*(2*w)=t*w:=by rw [← Nat.mul_assoc];congr 1;omega
     omega
    rw [this]
   ·refine ext _ _ _ _ _ fun i hi=>?_;rw [if_neg];intro hq;have:w+i*(2*w)=t*w:=by omega
    have h2:(2*i+1)*w=t*w:=by rw [Nat.add_mul,Nat.mul_comm 2 i,Nat.mul_assoc];omega
    have:=Nat.eq_of_mul_eq_mul_right hw h2;omega
  |false =>
   have h1:t % 2=1:=by
    have:t % 2≠0:=fun h=>by rw [h] at hb;simp at hb
    omega
   show Prod.mk _ _=Prod.mk _ _;rw [ih f (k+w) (2*w) (t / 2) (by omega) hd];congr 1
   ·refine ext _ _ _ _ _ fun i hi=>?_;rw [if_neg];intro hq;have h2:(2*i)*w=t*w:=by rw [Nat.mul_comm 2 i,Nat.mul_assoc];omega
    have:=Nat.eq_of_mul_eq_mul_right hw h2;omega
   ·refine ext _ _ _ _ _ fun i hi=>?_
    have:k+w+t / 2*(2*w)=k+t*w:=by
     have:w+t / 2*(2*w)=(2*(t / 2)+1)*w:=by rw [Nat.add_mul,Nat.mul_comm 2 (t / 2),Nat.mul_assoc];omega
     have h3:2*(t / 2)+1=t:=by omega
     rw [h3] at this;omega
    rw [this]
theorem get_of (n:Nat) (f:Nat→Value) (t:Nat) (h:t<512):(Fr.of n f).get t=f t:=by
 unfold Fr.get Fr.of;rw [zai.2 h,zbe,Tr.get_of f 9 0 1 t (by simpa using h)];simp
theorem zmx (n:Nat) (f:Nat→Value) (t:Nat) (v:Value) (h:t<n) (h5:n≤512):(Fr.of n f).put t v=Fr.of n (upd f t v):=by
 unfold Fr.put;rw [show (Fr.of n f).nt=n from rfl,zai.2 h,zbe];unfold Fr.of;refine congrArg (Fr.mk n) ?_;rw [Tr.of_set f v 9 0 1 t (by omega) (by show t<512;omega)]
 have:(fun u=>if u=0+t*1 then v else f u)=upd f t v:=by
  funext u;unfold upd;rw [show 0+t*1=t by omega]
 rw [this]
theorem yk0 (n:Nat):(⟨n,Tr.all undef 9⟩:Fr)=Fr.of n fun _=>undef:=by
 unfold Fr.of;refine congrArg (Fr.mk n) ?_
 have:∀ d k w,Tr.all undef d=Tr.of (fun _=>undef) d k w:=by
  intro d
  induction d with
  |zero=>intro k w;rfl
  |succ d ih =>
   intro k w;exact congr (congrArg Prod.mk (ih k (2*w))) (ih (k+w) (2*w))
 exact this 9 0 1
section
variable {P:Program} {Γ:Env}
theorem zod {f:FuncId} {fn:Func} {body:Code} {args:List Value} {s:CS} {r:Value×CS} (n:Nat) (hax:Γ.ax f=none) (hf:Γ.fn.at f=some fn) (hb:fn.body=some body) (hn:fn.ntmps=n) (hl:args.length≤n)
    (h:W P Γ body (Fr.ofArgs args 0 (Fr.of n fun _=>undef)) s fun e fr' s1=>(e=.normal∨e=.ret)∧∃ vs,resC Γ fr' s1 fn.results.toList=some (vs,r.2)∧r.1=tupC vs):za0 P Γ f args s=some r:=by
  subst hn;refine zpb (v:=r.1) (s2:=r.2) hax hf hb hl ?_;rw [yk0];exact h
theorem zaz (v:Value) (l:List Value) (i n:Nat) (f:Nat→Value) (h:i<n) (h5:n≤512):Fr.ofArgs (v :: l) i (Fr.of n f)=Fr.ofArgs l (i+1) (Fr.of n (upd f i v)):=by
 simp only [Fr.ofArgs,zmx n f i v h h5]
theorem za6 (i:Nat) (fr:Fr):Fr.ofArgs [] i fr=fr:=Eq.trans rfl rfl
end
end
section
open Go Go.RowKit
def vw (x:UInt32):Value:=.int .u32 (x.toNat:Int)
def vb (x:UInt8):Value:=.int .u8 (x.toNat:Int)
def vq (x:UInt64):Value:=.int .u64 (x.toNat:Int)
def zkk (x:UInt32) (n:Nat):UInt32:=UInt32.ofBitVec (x.toBitVec <<< n)
def zx1 (x:UInt32) (n:Nat):UInt32:=UInt32.ofBitVec (x.toBitVec >>> n)
def yjs (x:UInt64) (n:Nat):UInt64:=UInt64.ofBitVec (x.toBitVec >>> n)
theorem z2j (n:Nat):IntKind.u32.wrap (n:Int)=((n % 4294967296:Nat):Int):=by simp [IntKind.wrap,IntKind.bits,IntKind.signed]
theorem ycx (n:Nat):IntKind.u8.wrap (n:Int)=((n % 256:Nat):Int):=by simp [IntKind.wrap,IntKind.bits,IntKind.signed]
theorem bv32 (x:UInt32):BitVec.ofInt IntKind.u32.bits (x.toNat:Int)=x.toBitVec:=by
 show BitVec.ofInt 32 _=_;rw [BitVec.ofInt_natCast];exact BitVec.ofNat_toNat _ _ ▸ by simp [← UInt32.toNat_toBitVec]
theorem bv8 (x:UInt8):BitVec.ofInt IntKind.u8.bits (x.toNat:Int)=x.toBitVec:=by
 show BitVec.ofInt 8 _=_;rw [BitVec.ofInt_natCast];simp [← UInt8.toNat_toBitVec]
theorem zvn (r:BitVec 32):IntKind.u32.wrap (r.toNat:Int)=(r.toNat:Int):=by rw [z2j,Nat.mod_eq_of_lt r.isLt]
theorem yi9 (r:BitVec 8):IntKind.u8.wrap (r.toNat:Int)=(r.toNat:Int):=by rw [ycx,Nat.mod_eq_of_lt r.isLt]
section
variable {P:Program} {Γ:Env} {ρ:Operand→Value} {s:CS} {d:Option Tmp} {ty:TypeId} {pos:String} {t t2:TypeId} {x y:Operand} {e:Array Edge} {g:Option (Nat×Bool)}
theorem z5y {a b:UInt32} (hx:ρ x=vw a) (hy:ρ y=vw b):zcq P Γ ρ ⟨d,.binOp .and t x y t2,ty,pos,e,g⟩ s t .and (vw a) (vw b)=some (vw (a &&& b),s):=by
 unfold vw at hx hy ⊢;rw [yfn hx hy];rw [bv32,bv32];exact congrArg (fun n=>some (Value.int .u32 n,s)) (zvn _)
theorem yew {a b:UInt32} (hx:ρ x=vw a) (hy:ρ y=vw b):zcq P Γ ρ ⟨d,.binOp .or t x y t2,ty,pos,e,g⟩ s t .or (vw a) (vw b)=some (vw (a ||| b),s):=by
 unfold vw at hx hy ⊢;rw [yj5 hx hy];rw [bv32,bv32];exact congrArg (fun n=>some (Value.int .u32 n,s)) (zvn _)
theorem zof {a b:UInt32} (hx:ρ x=vw a) (hy:ρ y=vw b):zcq P Γ ρ ⟨d,.binOp .xor t x y t2,ty,pos,e,g⟩ s t .xor (vw a) (vw b)=some (vw (a ^^^ b),s):=by
 unfold vw at hx hy ⊢;rw [z9q hx hy];rw [bv32,bv32];exact congrArg (fun n=>some (Value.int .u32 n,s)) (zvn _)
theorem zk4 {a b:UInt32} (hx:ρ x=vw a) (hy:ρ y=vw b):zcq P Γ ρ ⟨d,.binOp .add t x y t2,ty,pos,e,g⟩ s t .add (vw a) (vw b)=some (vw (a+b),s):=by
 unfold vw at hx hy ⊢;rw [yj6 hx hy];rw [← Int.natCast_add,z2j,UInt32.toNat_add]
theorem ycg {a:UInt32} {k:IntKind} {n:Nat} (hx:ρ x=vw a) (hy:ρ y=.int k (n:Int)):zcq P Γ ρ ⟨d,.binOp .shl t x y t2,ty,pos,e,g⟩ s t .shl (vw a) (.int k (n:Int))=some (vw (zkk a n),s):=by
 unfold vw at hx ⊢;rw [yfm hx hy (by omega)];refine congrArg (fun n=>some (Value.int .u32 n,s)) ?_;show IntKind.u32.wrap ((a.toNat:Int)*2 ^ (min n 32))=((a.toBitVec <<< n).toNat:Int);rw [show ((a.toNat:Int)*2 ^ (min n 32))=((a.toNat*2 ^ (min n 32):Nat):Int) by simp,z2j,BitVec.toNat_shiftLeft,Nat.shiftLeft_eq];congr 1;by_cases h:n≤32
 ·rw [Nat.min_eq_left h];rfl
 ·rw [Nat.min_eq_right (by omega)];have h1:2 ^ n=2 ^ 32*2 ^ (n - 32):=by rw [← Nat.pow_add];congr 1;omega
  rw [h1,← Nat.mul_assoc,Nat.mul_right_comm];show a.toNat*2 ^ 32 % 2 ^ 32=_*2 ^ 32 % 2 ^ 32;rw [Nat.mul_mod_left,Nat.mul_mod_left]
theorem z0l {a:UInt32} {k:IntKind} {n:Nat} (hx:ρ x=vw a) (hy:ρ y=.int k (n:Int)):zcq P Γ ρ ⟨d,.binOp .shr t x y t2,ty,pos,e,g⟩ s t .shr (vw a) (.int k (n:Int))=some (vw (zx1 a n),s):=by
 unfold vw at hx ⊢;rw [z3q hx hy (by omega)];refine congrArg (fun n=>some (Value.int .u32 n,s)) ?_;show (a.toNat:Int).fdiv (2 ^ (min n 32))=((a.toBitVec >>> n).toNat:Int);rw [Int.fdiv_eq_ediv_of_nonneg _ (Int.pow_nonneg (by omega)),BitVec.toNat_ushiftRight,Nat.shiftRight_eq_div_pow];rw [show ((2:Int) ^ (min n 32))=((2 ^ (min n 32):Nat):Int) by simp,← Int.natCast_ediv];congr 1;by_cases h:n≤32
 ·rw [Nat.min_eq_left h];rfl
 ·rw [Nat.min_eq_right (by omega)];have h2:a.toNat<2 ^ 32:=a.toBitVec.isLt;have h3:2 ^ 32≤2 ^ n:=Nat.pow_le_pow_right (by omega) (by omega);rw [Nat.div_eq_of_lt h2];exact (Nat.div_eq_of_lt (Nat.lt_of_lt_of_le h2 h3)).symm
theorem ykx {a b:UInt8} (hx:ρ x=vb a) (hy:ρ y=vb b):zcq P Γ ρ ⟨d,.binOp .xor t x y t2,ty,pos,e,g⟩ s t .xor (vb a) (vb b)=some (vb (a ^^^ b),s):=by
 unfold vb at hx hy ⊢;rw [z9q hx hy];rw [bv8,bv8];exact congrArg (fun n=>some (Value.int .u8 n,s)) (yi9 _)
theorem ygp {a:UInt64} {k:IntKind} {n:Nat} (hx:ρ x=vq a) (hy:ρ y=.int k (n:Int)):zcq P Γ ρ ⟨d,.binOp .shr t x y t2,ty,pos,e,g⟩ s t .shr (vq a) (.int k (n:Int))=some (vq (yjs a n),s):=by
 unfold vq at hx ⊢;rw [z3q hx hy (by omega)];refine congrArg (fun n=>some (Value.int .u64 n,s)) ?_;show (a.toNat:Int).fdiv (2 ^ (min n 64))=((a.toBitVec >>> n).toNat:Int);rw [Int.fdiv_eq_ediv_of_nonneg _ (Int.pow_nonneg (by omega)),BitVec.toNat_ushiftRight,Nat.shiftRight_eq_div_pow];rw [show ((2:Int) ^ (min n 64))=((2 ^ (min n 64):Nat):Int) by simp,← Int.natCast_ediv];congr 1;by_cases h:n≤64
 ·rw [Nat.min_eq_left h];rfl
 ·rw [Nat.min_eq_right (by omega)];have h2:a.toNat<2 ^ 64:=a.toBitVec.isLt;have h3:2 ^ 64≤2 ^ n:=Nat.pow_le_pow_right (by omega) (by omega);rw [Nat.div_eq_of_lt h2];exact (Nat.div_eq_of_lt (Nat.lt_of_lt_of_le h2 h3)).symm
theorem yks {a:UInt32} (hx:ρ x=vw a):zea P ρ ⟨d,.unOp .xor t x,ty,pos,e,g⟩ s (unC .xor (vw a))=some (vw (~~~a),s):=by
 unfold vw at hx ⊢;rw [yfo hx,bv32];refine congrArg (fun n=>some (Value.int .u32 n,s)) ?_
 have:BitVec.ofInt 32 (if IntKind.u32.signed then -1 else IntKind.u32.max) ^^^ a.toBitVec = ~~~a.toBitVec:=by
  rw [show (BitVec.ofInt 32 (if IntKind.u32.signed then -1 else IntKind.u32.max))=BitVec.allOnes 32 by decide,BitVec.allOnes_xor]
 show IntKind.u32.wrap ((BitVec.ofInt 32 (if IntKind.u32.signed then -1 else IntKind.u32.max) ^^^ a.toBitVec).toNat:Int)=_;rw [this];exact zvn _
theorem cw_b (x:UInt8):Value.int .u32 (IntKind.u32.wrap (x.toNat:Int))=vw x.toUInt32:=by
 unfold vw;rw [z2j,UInt8.toNat_toUInt32,Nat.mod_eq_of_lt (by have:=x.toNat_lt;omega)]
theorem cb_w (x:UInt32):Value.int .u8 (IntKind.u8.wrap (x.toNat:Int))=vb x.toUInt8:=by
 unfold vb;rw [ycx,UInt32.toNat_toUInt8]
theorem cb_q (x:UInt64):Value.int .u8 (IntKind.u8.wrap (x.toNat:Int))=vb x.toUInt8:=by
 unfold vb;rw [ycx,UInt64.toNat_toUInt8]
end
end
section
open Go Go.RowKit
section
variable {P:Program} {Γ:Env} {call:zdg} {ops l:List Oper} {o:Oper} {fr:Fr} {s:CS}
noncomputable def z7l {α:Type} (n0:Nat) (s:CS) (r:Option (Fr×CS)) (k:Fr→CS→Option α):Option α:=match r with
 |some (fr,t)=>bif t.wr.isEmpty && t.rd.all fun f=>Nat.blt f n0 then k fr (s.outer t) else none
 |none=>none
noncomputable def zpx (P:Program) (Γ:Env) (call:zdg) (ops:List Oper) (n0:Nat):List Oper→Fr→CS→Option (Fr×CS)
 |[],fr,s=>some (fr,s)
 |o :: l,fr,s=>z7l n0 s (zbj P Γ call ops o fr s.inner) (zpx P Γ call ops n0 l)
theorem zgf {n0:Nat}:zpx P Γ call ops n0 [] fr s=some (fr,s):=Eq.trans rfl rfl
theorem ze2 {n0:Nat}:zpx P Γ call ops n0 (o :: l) fr s=z7l n0 s (zbj P Γ call ops o fr s.inner) (zpx P Γ call ops n0 l):=Eq.trans rfl rfl
theorem zu6 {n0:Nat}:∀ {l:List Oper} {fr fr':Fr} {s s':CS},zpx P Γ call ops n0 l fr s=some (fr',s')→∃ logs,drawC P Γ call ops l fr s=some (logs,fr',s')∧logs.all (fun x=>x.wr.isEmpty && x.rd.all fun f=>Nat.blt f n0)=true
 |[],fr,fr',s,s',h=>by
  simp only [zpx,Option.some.injEq,Prod.mk.injEq] at h;obtain ⟨rfl,rfl⟩:=h;exact ⟨[],rfl,rfl⟩
 |o :: l,fr,fr',s,s',h=>by
  simp only [zpx,z7l] at h;split at h
  ·rename_i fr1 t h1
   cases hq:t.wr.isEmpty && t.rd.all fun f=>Nat.blt f n0 with
   |false=>rw [hq] at h;simp at h
   |true =>
    rw [hq] at h;simp only [cond_true] at h;obtain ⟨logs,h2,h3⟩:=zu6 h;refine ⟨⟨t.rd,t.wr,s.n,t.n⟩ :: logs,?_,?_⟩
    ·simp only [drawC,h1,h2]
    ·rw [List.all_cons,h3,Bool.and_true];exact hq
  ·simp at h
theorem W.quiet {id:Nat} {ops:Array Oper} {fr fr':Fr} {s s':CS} {Q:Exit→Fr→CS→Prop} (h:zpx P Γ (za0 P Γ) ops.toList s.n ops.toList fr s=some (fr',s')) (hq:Q .normal fr' s'):W P Γ (.region id ops true) fr s Q:=by
 obtain ⟨logs,h1,h2⟩:=zu6 h;refine W.draw h1 ?_ hq;unfold calm;rw [h2];rfl
end
def fupd (g:Nat→Fam) (i:Nat) (x:Fam):Nat→Fam:=fun j=>if j=i then x else g j
theorem zaf (g:Nat→Fam) (i:Nat) (x:Fam):fupd g i x i=x:=if_pos rfl
theorem zae (g:Nat→Fam) (i j:Nat) (x:Fam) (h:j≠i):fupd g i x j=g j:=if_neg h
theorem zcp (g:Nat→Fam) (i:Nat) (x y:Fam):fupd (fupd g i x) i y=fupd g i y:=by
 funext j;unfold fupd;split<;>rfl
theorem ya9 (g:Nat→Fam) (i j:Nat) (x y:Fam) (h:i≠j):fupd (fupd g i x) j y=fupd (fupd g j y) i x:=by
 funext k;unfold fupd;by_cases h1:k=i
 ·subst h1;rw [if_neg h,if_pos rfl,if_pos rfl]
 ·rw [if_neg h1,if_neg h1]
abbrev St (n:Nat) (g:Nat→Fam) (lim:Nat) (rd wr:List Nat):CS:=⟨n,.inr g,lim,rd,wr⟩
theorem znx (g:Nat→Fam) (i:Nat):zag (.inr g) i=g i:=Eq.trans rfl rfl
theorem zei (g:Nat→Fam) (i:Nat) (x:Fam):zay (.inr g) i x=.inr (fupd g i x):=by
 show Sum.inr _=Sum.inr _;congr 1;funext j;rw [zbw];unfold fupd;by_cases h:j=i
 ·rw [if_pos h,if_pos (by subst h;exact Nat.beq_refl j)]
 ·rw [if_neg h,if_neg (fun k=>h (Nat.eq_of_beq_eq_true k))]
section
variable {n lim n':Nat} {g g':Nat→Fam} {rd wr:List Nat}
theorem zbq {ob:Sto}:CS.inner ⟨n,ob,lim,rd,wr⟩=⟨n,ob,n,[],[]⟩:=Eq.trans rfl rfl
theorem znz {m f:Nat} (h:f<m):ins m [] f=[f]:=by unfold ins;rw [zai.2 h];rfl
theorem zau {m f:Nat} (l:List Nat) (h:m≤f):ins m l f=l:=by
 unfold ins
 cases hb:Nat.blt f m with
 |false=>rfl
 |true=>exact absurd (zai.1 hb) (by omega)
theorem zgc {α:Type} {n0:Nat} {fr:Fr} {k:Fr→CS→Option α} {ob ob':Sto}:z7l n0 ⟨n,ob,lim,rd,wr⟩ (some (fr,⟨n',ob',n,[],[]⟩)) k=k fr ⟨n',ob',lim,rd,wr⟩:=Eq.trans rfl rfl
theorem zkd {α:Type} {n0 f:Nat} {fr:Fr} {k:Fr→CS→Option α} {ob ob':Sto} (h:f<n0):z7l n0 ⟨n,ob,lim,rd,wr⟩ (some (fr,⟨n',ob',n,[f],[]⟩)) k=k fr ⟨n',ob',lim,ins lim rd f,wr⟩:=by
 show (bif true && ([f].all fun f=>Nat.blt f n0) then _ else _)=_;rw [List.all_cons,zai.2 h];rfl
theorem zhp {tag:Nat} {cs:List Value}:CS.newRow (St n g lim rd wr) tag cs=some (mkA n (n*1024+tag) 0,St (n+1) (fupd g n ⟨false,[(n*1024+tag,cs)],none⟩) lim rd wr):=by
 unfold CS.newRow;show sel true _ _=_;rw [zbe,zei]
theorem zj1 {a : Addr} : CS.readRow (St n g lim rd wr) a = match zat (g a.block).rows (Addr.ver a) with
    |some cs=>some (cs,St n g lim (ins lim rd a.block) wr)
    |none=>none:=rfl
theorem zah {u:Nat} {cs:List Value}:zat [(u,cs)] u=some cs:=by
 unfold zat;rw [Nat.beq_refl];rfl
theorem zqg {f u off:Nat} {vs cs:List Value} {es:Option (List (Value×Value))} (hg:g f=⟨false,[(u,cs)],es⟩) (hl:off+vs.length≤cs.length) (ho:vs.all oneC=true) :
    CS.write (St n g lim rd wr) (mkA f u off) vs=some (St n (fupd g f ⟨false,[(u,splice cs off vs)],none⟩) lim rd (ins lim wr f)):=by
  unfold CS.write;show (match (g f).ro,zat (g f).rows u with|false,some cs=>_|_,_=>none)=_;rw [hg];simp only;rw [zah];simp only;rw [zax.2 (show (mkA f u off).off+vs.length≤cs.length from hl),ho,Bool.and_true,zbe,zei];rfl
theorem zdc {f u off:Nat}:(mkA f u off).block=f:=Eq.trans rfl rfl
theorem zk0 {f u off:Nat}:(mkA f u off).off=off:=Eq.trans rfl rfl
theorem zfn {f u off:Nat}:Addr.ver (mkA f u off)=u:=Eq.trans rfl rfl
theorem zf6 {f u off k:Nat}:Addr.plus (mkA f u off) k=mkA f u (off+k):=Eq.trans rfl rfl
theorem z6a {cs:List Value} {off:Nat} {v:Value} (h:off<cs.length):splice cs off [v]=cs.set off v:=by
 unfold splice;rw [List.set_eq_take_append_cons_drop,if_pos h];simp
theorem z6b {cs vs:List Value} (h:vs.length=cs.length):splice cs 0 vs=vs:=by
 unfold splice;simp [h]
end
end
section
open Go Go.RowKit
def famK:List (Nat×List Value)→Nat→Fam
 |[],_=>zds
 |(g,cs) :: l,f=>if f=g then ⟨true,[(g*1024,cs)],none⟩ else famK l f
def zxl (w:World) (K:List (Nat×List Value)):Prop :=
 ∀ p,p∈K→p.1<w.heap.size∧∀ (j:Nat) (u:Value),p.2[j]?=some u→w.cell? ⟨p.1,j,none⟩=some u∧za3 3 u=true
open Classical in
theorem zsx:∀ {K:List (Nat×List Value)} {f:Nat} {p:Nat×List Value},p∈(famK K f).rows→p.1=f*1024∧(f,p.2)∈K∧(famK K f).rows=[p]
 |[],f,p,h=>by simp [famK,zds] at h
 |(g,cs) :: l,f,p,h=>by
  simp only [famK] at h ⊢;split at h
  ·rename_i hf;subst hf;simp only [List.mem_singleton] at h;subst h;simp
  ·rename_i hf;obtain ⟨h1,h2,h3⟩:=zsx h;rw [if_neg hf];exact ⟨h1,List.mem_cons_of_mem _ h2,h3⟩
section
variable {P:Program}
end
end
section
open Go Go.RowKit
structure AxOk (P:Program) (G:List Nat) (f:Nat) (h:List Value→CS→Option (Value×CS)):Prop where
 can:∀ args s v s',h args s=some (v,s')→CInv s→Can s s'
 ok:∀ (args:List Value) (args':Array Value) s v s' w σ V,h args s=some (v,s')→RL (VR σ) args args'.toList→Rel σ V s w→zby V s'→zee σ s.n s'.n→CInv s→zjk G σ →
  (callFunc f args').run P w=.ok (.enter f args') w∧Calls P f args' w fun e w'=>∃ σ' v',e=.returned v'∧VR σ' v v'∧Rel σ' V s' w'∧Ext σ V s w σ' s' w'
def zne (P:Program) (G:List Nat) (ax:Axs):Prop:=∀ f h,ax f=some h→AxOk P G f h
section
variable {P:Program} {G L:List Nat} {ax:Axs}
theorem zne.can (h:zne P G ax):zga (axC (zfs P L ax)):=by
 intro f args s v s' hc hI;unfold axC at hc;change (match ax f with|some k=>k args s|none=>none)=_ at hc
 cases hq:ax f with
 |none=>rw [hq] at hc;simp at hc
 |some k=>rw [hq] at hc;exact (h f k hq).can args s v s' hc hI
theorem zne.call (h:zne P G ax):zol P G (axC (zfs P L ax)):=by
 intro f args args' s v s' w σ V hc hl hr hV hF hI hG;unfold axC at hc;change (match ax f with|some k=>k args s|none=>none)=_ at hc
 cases hq:ax f with
 |none=>rw [hq] at hc;simp at hc
 |some k=>rw [hq] at hc;exact ⟨f,(h f k hq).ok args args' s v s' w σ V hc hl hr hV hF hI hG⟩
theorem zne.none:zne P G fun _=>none:=fun f h hq=>by simp at hq
def z61 (f:Nat) (h:List Value→CS→Option (Value×CS)) (ax:Axs):Axs:=fun k=>if k=f then some h else ax k
theorem zvi (f:Nat) (h:List Value→CS→Option (Value×CS)) (ax:Axs):z61 f h ax f=some h:=if_pos rfl
theorem zxh {f k:Nat} (h:List Value→CS→Option (Value×CS)) (ax:Axs) (hk:k≠f):z61 f h ax k=ax k:=if_neg hk
theorem zne.add {f:Nat} {h:List Value→CS→Option (Value×CS)} (h1:zne P G ax) (h2:AxOk P G f h):zne P G (z61 f h ax):=by
 intro k u hu;unfold z61 at hu;split at hu
 ·rename_i hk;subst hk;simp only [Option.some.injEq] at hu;subst hu;exact h2
 ·exact h1 k u hu
theorem Rel.below {σ:Sg} {V:Nat→Prop} {s:CS} {w w':World} (h:Rel σ V s w) (b:Below w.heap.size w w'):Rel σ V s w' :=
 ⟨h.inj,fun f u b' o z k=>Nat.lt_of_lt_of_le (h.lt f u b' o z k) b.size,fun f hf=>(h.fam f hf).move (fun _ _ _ k=>k) (fun _ _=>rfl) fun u b' o z k=>b.block b' (h.lt f u b' o z k),h.none,h.vers⟩
theorem Ext.below (σ:Sg) (V:Nat→Prop) (s:CS) {w w':World} (b:Below w.heap.size w w'):Ext σ V s w σ s w' :=
 ⟨fun _ _ _ h=>h,fun _ _ h k=>absurd h k,fun _ _ _ _ _ h k=>by rw [h] at k;simp at k,b.size,fun k hk _=>b.block k hk,b.os,b.tape,b.output⟩
theorem zwz (hL:zls P G L=true) {f:Nat} {fn:Func} {body:Code} (hfn:(zfs P L ax).fn.at f=some fn) (hb:fn.body=some body) (args':Array Value) (w:World):(callFunc f args').run P w=.ok (.enter f args') w:=by
 obtain ⟨hok,hfun⟩:=yba hL hfn;unfold z4x at hok;simp only [Bool.and_eq_true] at hok;have hne : ¬ fn.name = "runtime.NumGoroutine" := by simpa using hok.1.2
 simp [callFunc,hfun,hne,hb]
noncomputable def CS.fn (s:CS):CS:=⟨s.n,.inr (zag s.obj),s.lim,s.rd,s.wr⟩
theorem CInv.fn {s:CS} (h:CInv s):CInv s.fn:=⟨fun f hf=>h.none f hf,fun f p hp=>h.vers f p hp,h.lim⟩
theorem Rel.fn {σ:Sg} {V:Nat→Prop} {s:CS} {w:World} (h:Rel σ V s w):Rel σ V s.fn w:=⟨h.inj,h.lt,fun f hf=>h.fam f hf,fun f hf=>h.none f hf,fun f p hp=>h.vers f p hp⟩
structure Con (P:Program) (Γ:Env) (f:Nat) (args:List Value) (s:CS) (v:Value) (s':CS):Prop where
 plain:za3 3 v=true
 obj:s'.obj=s.obj
 lim:s'.lim=s.lim
 wr:s'.wr=s.wr
 rd:∀ x,x∈s.rd→x∈s'.rd
 n:s.n≤s'.n
 run:∃ s1,za0 P Γ f args s.fn=some (v,s1)∧s1.n≤s'.n∧(∀ x,x∈s1.rd→x∈s'.rd)∧(∀ x,x∈s1.wr→x∈s.wr)∧∀ f,f<s.n→zag s1.obj f=zag s.obj f
theorem ax_of (hm:P.follows .mixedOrders=true) (hL:zls P G L=true) (hx:zne P G ax) {f:Nat} {fn:Func} {body:Code} (hax:ax f=none) (hfn:(zfs P L ax).fn.at f=some fn) (hb:fn.body=some body) {h:List Value→CS→Option (Value×CS)}
    (hc:∀ args s v s',h args s=some (v,s')→CInv s→Con P (zfs P L ax) f args s v s'):AxOk P G f h:=by
  have hA:zga (axC (zfs P L ax)):=hx.can;have hB:zol P G (axC (zfs P L ax)):=hx.call;refine ⟨?_,?_⟩
  · intro args s v s' hh hI;have c:=hc args s v s' hh hI;refine ⟨c.n,c.lim,c.rd,fun f hf=>by rw [c.wr];exact hf,fun f _ _ _=>by rw [c.obj],fun f _=>by rw [c.obj],fun hn f hf=>?_,fun hv f p hp=>?_,fun hw f hf=>?_⟩
    · rw [c.obj];exact hn f (Nat.le_trans c.n hf)
    · rw [c.obj] at hp;exact Nat.lt_of_lt_of_le (hv f p hp) c.n
    · rw [c.wr] at hf;rw [c.lim];exact hw f hf
  · intro args args' s v s' w σ V hh hl hr hV hF hI hG;have c:=hc args s v s' hh hI;obtain ⟨s1,r1,r2,r3,r4,r5⟩:=c.run;obtain ⟨n,hn⟩:=zj7 r1;have hcan:=(zob (P:=P) hA n).2 f args s.fn v s1 hn hI.fn
    have hV1:zby V s1:=by
      intro x hx;rcases hx with hx|hx|hx
      · exact hV x (.inl (r3 x hx))
      · exact hV x (.inr (.inl (by rw [c.wr];exact r4 x hx)))
      · exact hV x (.inr (.inr (by rw [c.lim];rw [hcan.lim] at hx;exact hx)))
    obtain ⟨x,h1,h2⟩:=z2b hA hB hL (yb7 hm hA hB hL n).1 f args args' s.fn v s1 w σ V hn hl hr.fn hV1 (hF.mono (Nat.le_refl _) r2) hI.fn hG;have he:=zwz (ax:=ax) hL hfn hb args' w;rw [he] at h1;have hx:x=f:=by simp_all
    subst hx;refine ⟨he,h2.mono ?_⟩;rintro e w' ⟨σ',v',rfl,k1,k2,k3⟩;refine ⟨σ',v',rfl,k1,⟨k2.inj,k2.lt,fun g hg=>?_,fun g hg=>?_,fun g p hp=>?_⟩,⟨k3.le,fun g u a b=>?_,k3.old,k3.size,k3.frame,k3.st⟩⟩
    · rw [c.obj];by_cases hlt:g<s.n
      · rw [← r5 g hlt];exact k2.fam g hg
      · rw [hI.none g (by omega)];exact zgk.ofNone
    · rw [c.obj];exact hI.none g (Nat.le_trans c.n hg)
    · rw [c.obj] at hp;exact Nat.lt_of_lt_of_le (hI.vers g p hp) c.n
    · have q:=k3.new g u a b;exact ⟨q.1,by omega,by omega,q.2.2.2⟩
theorem yeq (hm:P.follows .mixedOrders=true) (hL:zls P G L=true) (hx:zne P G ax) {f:Nat} {fn:Func} {body:Code} (hfn:(zfs P L ax).fn.at f=some fn) (hb:fn.body=some body) {args:List Value} {args':Array Value} {s s':CS} {v:Value} {w:World} {σ:Sg}
    (h:za0 P (zfs P L ax) f args s=some (v,s')) (hl:RL (VR σ) args args'.toList) (hr:Rel σ (fun _=>True) s w) (hF:∀ f u p,σ f u=some p→f<s.n∧u / 1024<s.n∧(zag s.obj f).ro=true) (hI:CInv s) (hG:zjk G σ) :
    Calls P f args' w fun e w'=>∃ σ' v',e=.returned v'∧VR σ' v v'∧Below w.heap.size w w':=by
  have hA:zga (axC (zfs P L ax)):=hx.can;have hB:zol P G (axC (zfs P L ax)):=hx.call;obtain ⟨n,hn⟩:=zj7 h
  have hFr:zee σ s.n s'.n:=by
    intro g u hgu
    cases hq:σ g u with
    |none=>rfl
    |some p=>have:=hF g u p hq;omega
  obtain ⟨x,h1,h2⟩:=z2b hA hB hL (yb7 hm hA hB hL n).1 f args args' s v s' w σ _ hn hl hr (fun _ _=>trivial) hFr hI hG;have he:=zwz (ax:=ax) hL hfn hb args' w;rw [he] at h1;have hx:x=f:=by simp_all
  subst hx;refine h2.mono ?_;rintro e w' ⟨σ',v',rfl,k1,k2,k3⟩;exact ⟨σ',v',rfl,k1,k3.st.1,k3.st.2.1,k3.st.2.2,k3.size,fun k hk=>k3.frame k hk fun g u o z hs=>.inr (hF g u _ hs).2.2⟩
end
end
section
open Go Go.RowKit
theorem zcl {m n:Nat} (h:m≤n):Nat.ble m n=true:=zax.2 h
theorem zte {m n:Nat} (h:n<m):Nat.ble m n=false:=by
 cases hb:Nat.ble m n with
 |false=>rfl
 |true=>exact absurd (zax.1 hb) (by omega)
theorem zgz {m n:Nat} (h:m<n):Nat.blt m n=true:=zai.2 h
theorem z0o {m n:Nat} (h:n≤m):Nat.blt m n=false:=by
 cases hb:Nat.blt m n with
 |false=>rfl
 |true=>exact absurd (zai.1 hb) (by omega)
theorem zd1 {m n:Nat} (h:m=n):Nat.beq m n=true:=by subst h;exact Nat.beq_refl m
theorem zjj {m n:Nat} (h:m≠n):Nat.beq m n=false:=by
 cases hb:Nat.beq m n with
 |false=>rfl
 |true=>exact absurd (Nat.eq_of_beq_eq_true hb) h
theorem za5 (k:IntKind) (n:Nat):zet (.int k (n:Int))=some n:=Eq.trans rfl rfl
theorem zfq (k:IntKind) (n:Nat):zet (.int k (no_index (OfNat.ofNat n)))=some n:=Eq.trans rfl rfl
theorem z2t {α β:Type} (f:α→β) (a:α):Option.map f (some a)=some (f a):=Eq.trans rfl rfl
theorem z31 {α β:Type} (f:α→β):Option.map f (none:Option α)=none:=Eq.trans rfl rfl
theorem z0m {len cap l h:Nat} {a b:Value} (ha:zet a=some l) (hb:zet b=some h) (h1:l≤h) (h2:h≤cap):zbc len cap (some a) (some b) none=some (l,h,cap):=by
 simp [zbc,ha,hb,zcl h1,zcl h2,zcl (Nat.le_refl cap)]
theorem z51 {len cap h:Nat} {b:Value} (hb:zet b=some h) (h2:h≤cap):zbc len cap none (some b) none=some (0,h,cap):=by
 simp [zbc,hb,zcl (Nat.zero_le h),zcl h2,zcl (Nat.le_refl cap)]
theorem zq4 {len cap l:Nat} {a:Value} (ha:zet a=some l) (h1:l≤len) (h2:len≤cap):zbc len cap (some a) none none=some (l,len,cap):=by
 simp [zbc,ha,zcl h1,zcl h2,zcl (Nat.le_refl cap)]
theorem zmo {len cap:Nat} (h2:len≤cap):zbc len cap none none none=some (0,len,cap):=by
 simp [zbc,zcl (Nat.zero_le len),zcl h2,zcl (Nat.le_refl cap)]
section
variable {P:Program} {Γ:Env} {ρ:Operand→Value} {o:Oper} {s:CS} {n lim:Nat} {g:Nat→Fam} {rd wr:List Nat}
theorem z2u {t e:TypeId} {z b:Nat} {zs:List Value} {j:TI} {f u off len cap l h m:Nat} {lo hi:Option Value} (ht:Γ.ti.at t=some ⟨.slice e,z,b,zs⟩) (he:Γ.ti.at e=some j) (hb:zbc len cap lo hi none=some (l,h,m)) (hu:u % 1024=0∨u % 1024=j.size+1) :
    zbh Γ s t (.slice (some (mkA f u off)) len cap) lo hi none=some (.slice (some (mkA f u (off+l*j.size))) (h - l) (m - l),s):=by
  unfold zbh;rw [ht];simp only [he,hb];unfold cutC;simp only [zfn,zf6];rcases hu with hu|hu
  · rw [zd1 hu];rfl
  · rw [zd1 hu];simp
theorem z8f {t:TypeId} {z b:Nat} {zs:List Value} {x:ByteArray} {l h m:Nat} {lo hi:Option Value} (ht:Γ.ti.at t=some ⟨.string,z,b,zs⟩) (hb:zbc x.size x.size lo hi none=some (l,h,m)):zbh Γ s t (.string x) lo hi none=some (.string (x.extract l h),s):=by
 unfold zbh;rw [ht];simp only [hb,zzv,Option.isNone_none,cond_true]
theorem z48 {l:List Value} {off k:Nat} (h:off+k≤l.length):cut l off k=some ((l.drop off).take k):=by
 unfold cut;have:((l.drop off).take k).length=k:=by simp;omega
 simp only [this,Nat.beq_refl,cond_true]
theorem zhe {f u off len cap e k:Nat} {cs:List Value} (hr:zat (g f).rows u=some cs) (hk:off+k*e≤cs.length) (hl:lim≤f) :
    CS.firstCells (St n g lim rd wr) e k (.slice (some (mkA f u off)) len cap)=some ((cs.drop off).take (k*e),St n g lim rd wr):=by
  unfold CS.firstCells;simp only
  cases hz:Nat.beq (k*e) 0 with
  |true=>simp [Nat.eq_of_beq_eq_true hz]
  |false =>
    simp only [cond_false,zj1,zfn,zdc,hr,zk0,z48 hk,zau rd hl]
theorem zn4 {f u off len cap e k:Nat} {cs:List Value} (hr:zat (g f).rows u=some cs) (hk:off+k*e≤cs.length) (h0:k*e≠0) :
    CS.firstCells (St n g lim rd wr) e k (.slice (some (mkA f u off)) len cap)=some ((cs.drop off).take (k*e),St n g lim (ins lim rd f) wr):=by
  unfold CS.firstCells;simp only [zjj h0,cond_false,zj1,zfn,zdc,hr,zk0,z48 hk]
theorem zo6 {x:Option Addr} {len cap e k:Nat} (h0:k*e=0):CS.firstCells s e k (.slice x len cap)=some ([],s):=by
 unfold CS.firstCells;simp only [zd1 h0,cond_true]
theorem zlt {b:ByteArray} {k:Nat} (h:k≤b.size):CS.firstCells s 1 k (.string b)=some (zfv (b.extract 0 k),s):=by
 unfold CS.firstCells;simp [zcl h]
theorem ybi (b:ByteArray):b.extract 0 b.size=b:=by
 apply ByteArray.ext;simp
def bvs (l:List UInt8):List Value:=l.map vb
theorem zs7 (b:ByteArray):zfv b=bvs b.data.toList:=Eq.trans rfl rfl
theorem zam (l:List UInt8):(bvs l).length=l.length:=by simp [bvs]
theorem zd7 (l m:List UInt8):bvs (l++m)=bvs l++bvs m:=by simp [bvs]
theorem zxf (l:List UInt8) (k:Nat):(bvs l).take k=bvs (l.take k):=by simp [bvs,List.map_take]
theorem z5z (l:List UInt8) (k:Nat):(bvs l).drop k=bvs (l.drop k):=by simp [bvs,List.map_drop]
theorem zxg {l:List UInt8} {k:Nat} (h:k<l.length):(bvs l)[k]?=some (vb (l.getD k 0)):=by
 unfold bvs;rw [List.getElem?_map,List.getD_eq_getElem?_getD,List.getElem?_eq_getElem h];rfl
theorem zfa (l:List UInt8):(bvs l).all oneC=true:=by
 rw [List.all_eq_true];intro x hx;obtain ⟨c,_,rfl⟩:=List.mem_map.1 hx;rfl
theorem z0s:∀ (l:List UInt8),ztg (bvs l)=some l
 |[]=>rfl
 |c :: l=>by
  show (match ztg (bvs l) with|some r=>some (UInt8.ofNat (c.toNat:Int).toNat :: r)|none=>none)=_;rw [z0s l];simp
theorem yam {e:TypeId} {z b:Nat} {zs:List Value} (h:Γ.ti.at e=some ⟨.int .u8,z,b,zs⟩):isU8 Γ e=true:=by unfold isU8;rw [h]
theorem zjh {src dst e:TypeId} {z b z2 b2 z3 b3:Nat} {zs zs2 zs3:List Value} {s':CS} {x:Option Addr} {len cap:Nat} {l:List UInt8} (ht:Γ.ti.at src=some ⟨.slice e,z,b,zs⟩) (hd:Γ.ti.at dst=some ⟨.string,z2,b2,zs2⟩) (he:Γ.ti.at e=some ⟨.int .u8,z3,b3,zs3⟩)
    (hf:CS.firstCells s 1 len (.slice x len cap)=some (bvs l,s')):zak P Γ ρ o s src dst (.slice x len cap)=some (.string ⟨l.toArray⟩,s'):=by
  unfold zak;rw [ht,hd];simp only [yam he,cond_true,hf,strC,z0s]
theorem z6v {src dst e:TypeId} {z b z2 b2 z3 b3:Nat} {zs zs2 zs3:List Value} {x:ByteArray} (ht:Γ.ti.at src=some ⟨.string,z,b,zs⟩) (hd:Γ.ti.at dst=some ⟨.slice e,z2,b2,zs2⟩) (he:Γ.ti.at e=some ⟨.int .u8,z3,b3,zs3⟩) (hs:x.size≤1000000000) :
    zak P Γ ρ o (St n g lim rd wr) src dst (.string x)=some (.slice (some (mkA n (n*1024+2) 0)) x.size x.size,St (n+1) (fupd g n ⟨false,[(n*1024+2,zfv x)],none⟩) lim rd wr):=by
  unfold zak;rw [ht,hd];simp only [yam he,zcl hs,Bool.and_true,cond_true,zhp,zdy]
def OwnR (m:Nat) (g:Nat→Fam) (n e:Nat) (ao:Option Addr) (len:Nat) (cells:List Value):Prop :=
 cells.length=len*e∧((ao=none∧len=0)∨∃ f u rest,ao=some (mkA f u 0)∧g f=⟨false,(u,cells) :: rest,none⟩∧m≤f∧f<n∧u / 1024<n∧u % 1024=e+1)
theorem OwnR.nil (m:Nat) (g:Nat→Fam) (n e:Nat):OwnR m g n e none 0 []:=⟨by simp,.inl ⟨rfl,rfl⟩⟩
theorem OwnR.keep {m n' e len:Nat} {g':Nat→Fam} {ao:Option Addr} {cells:List Value} (h:OwnR m g n e ao len cells) (hg:∀ i,m≤i→i<n→g' i=g i) (hn:n≤n'):OwnR m g' n' e ao len cells:=by
 obtain ⟨h1,h⟩:=h;refine ⟨h1,h.imp id ?_⟩;rintro ⟨f,u,rest,k1,k2,k3,k4,k5,k6⟩;exact ⟨f,u,rest,k1,by rw [hg f k3 k4];exact k2,k3,by omega,by omega,k6⟩
structure Made (n:Nat) (g:Nat→Fam) (e:Nat) (ao:Option Addr) (len:Nat) (cells:List Value) (n':Nat) (g':Nat→Fam):Prop where
 own:OwnR n g' n' e ao len cells
 le:n≤n'
 old:∀ i,i<n→g' i=g i
theorem OwnR.first {m e len k:Nat} {ao:Option Addr} {cells:List Value} (h:OwnR m g n e ao len cells) (hl:lim≤m) (hk:k≤len):CS.firstCells (St n g lim rd wr) e k (.slice ao len len)=some (cells.take (k*e),St n g lim rd wr):=by
 obtain ⟨h1,h⟩:=h;rcases h with ⟨rfl,rfl⟩|⟨f,u,rest,rfl,k2,k3,k4,k5,k6⟩
 ·have:k=0:=by omega
  subst this;rw [zo6 (by simp)];simp
 ·have hkl:k*e≤len*e:=Nat.mul_le_mul_right e hk;rw [zhe (cs:=cells) (by rw [k2];simp [zat,Nat.beq_refl]) (by omega) (by omega)];simp
theorem OwnR.append {m e len k bytes:Nat} {ao:Option Addr} {cells xs:List Value} {y:Value} {rd':List Nat} (h:OwnR m g n e ao len cells) (hm:m≤n) (hl:lim≤m) (hlen:lenC y=some k) (hy:CS.firstCells (St n g lim rd wr) e k y=some (xs,St n g lim rd' wr)) (hx:xs.length=k*e) (ho:xs.all oneC=true) (he:0<e∧e<1000)
    (hb:(len+k)*(bytes+1)≤1000000000) :
    ∃ ao' n' g',CS.append (St n g lim rd wr) e bytes ao len len y=some (.slice ao' (len+k) (len+k),St n' g' lim rd' wr)∧OwnR m g' n' e ao' (len+k) (cells++xs)∧n≤n'∧n'≤n+1∧∀ i,i<m→g' i=g i:=by
  have c1:(Nat.blt 1000000000 ((len+k)*(bytes+1)) || Nat.beq e 0 || Nat.ble 1000 e || not (xs.all oneC))=false:=by
    rw [z0o hb,zjj (by omega),zte (by omega),ho];rfl
  obtain ⟨h1,h⟩:=h;rcases h with ⟨rfl,rfl⟩|⟨f,u,rest,rfl,k2,k3,k4,k5,k6⟩
  · have hc:cells=[]:=by simpa using h1
    subst hc
    cases hk:Nat.beq k 0 with
    |true =>
      have:=Nat.eq_of_beq_eq_true hk;subst this;have hx0:xs=[]:=by simpa using hx
      subst hx0;refine ⟨none,n,g,?_,OwnR.nil _ _ _ _,Nat.le_refl _,by omega,fun _ _=>rfl⟩;unfold CS.append;rw [hlen];simp only [hy,c1,cond_false,hk,cond_true]
    |false =>
      refine ⟨some (mkA n (n*1024+(e+1)) 0),n+1,fupd g n ⟨false,[(n*1024+(e+1),xs)],none⟩,?_,⟨by simpa using hx,.inr ⟨n,_,[],rfl,?_,hm,by omega,by omega,by omega⟩⟩,by omega,by omega,fun i hi=>zae _ _ _ _ (by omega)⟩
      · unfold CS.append;rw [hlen];simp only [hy,c1,cond_false,hk,zhp,zdy]
      · rw [zaf];simp
  · cases hk:Nat.beq k 0 with
    |true =>
      have:=Nat.eq_of_beq_eq_true hk;subst this;have hx0:xs=[]:=by simpa using hx
      subst hx0;refine ⟨_,n,g,?_,⟨by simpa using h1,.inr ⟨f,u,rest,rfl,by simpa using k2,k3,k4,k5,k6⟩⟩,Nat.le_refl _,by omega,fun _ _=>rfl⟩;unfold CS.append;rw [hlen];simp only [hy,c1,cond_false];rw [zcl (by omega)];simp only [cond_true,hk];rfl
    |false =>
      have hk0:k≠0:=fun h=>by rw [h] at hk;simp at hk
      have hfl:lim≤f:=by omega
      have hold:(bif Nat.beq len 0 then some ([],St n g lim rd' wr) else CS.firstCells (St n g lim rd' wr) e len (.slice (some (mkA f u 0)) len len))=some (cells,St n g lim rd' wr):=by
        cases hz:Nat.beq len 0 with
        |true =>
          have:=Nat.eq_of_beq_eq_true hz;subst this;have:cells=[]:=by simpa using h1
          rw [this];rfl
        |false =>
          rw [cond_false,zhe (cs:=cells) (by rw [k2];simp [zat,Nat.beq_refl]) (by omega) hfl];rw [List.drop_zero,List.take_of_length_le (by omega)]
      refine ⟨some (mkA f (n*1024+(e+1)) 0),n+1,fupd g f ⟨false,(n*1024+(e+1),cells++xs) :: (u,cells) :: rest,none⟩,?_,⟨by rw [List.length_append,h1,hx,Nat.add_mul],.inr ⟨f,_,(u,cells) :: rest,rfl,?_,k3,by omega,by omega,by omega⟩⟩,by omega,by omega,fun i hi=>zae _ _ _ _ (by omega)⟩
      · unfold CS.append;rw [hlen];simp only [hy,c1,cond_false];rw [zte (by omega)];simp only [cond_false,hold,zfn];rw [zjj (by omega),zd1 k6];simp only [cond_false,cond_true];unfold CS.grow;show (match (g f).ro,zat (g f).rows u with|false,some cs=>_|_,_=>none)=_;rw [k2];simp only;have hrow:zat ((u,cells) :: rest) u=some cells:=by simp [zat,Nat.beq_refl]
        rw [hrow];simp only;rw [zd1 (show (mkA f u 0).off+len*e=cells.length by rw [zk0];omega),zbe,zdc,zei]
        have hd:zft (zag (.inr g) f).rows u=(u,cells) :: rest:=by
          rw [znx,k2];simp [zft,Nat.beq_refl]
        rw [zfn,hd,zau wr hfl]
      · rw [zaf]
theorem zed {t e:TypeId} {z b:Nat} {zs:List Value} {j:TI} {x:Operand} {v0:Value} (ht:Γ.ti.at t=some ⟨.slice e,z,b,zs⟩) (he:Γ.ti.at e=some j) (hj:j.size=1) (hz:j.zero=[v0]) (hv:(ρ x).cells=#[ρ x]) :
    za4 Γ (St n g lim rd wr) ρ t 1 [(0,x)]=some (.slice (some (mkA n (n*1024+0) 0)) 1 1,St (n+1) (fupd g n ⟨false,[(n*1024+0,[ρ x])],none⟩) lim rd wr):=by
  unfold za4 zb7;rw [ht];simp only [he,hj,hz,zd4,zeo,hv,Nat.zero_mul];simp [zl0,zm9,splice,zhp,zdy,zcl,zgz]
theorem zm1 {call:zdg} {d:Option Tmp} {ty t:TypeId} {k:Nat} {pos:String} {e:Array Edge} {q:Option (Nat×Bool)} {parts:Array (Nat×Operand)}:cop P Γ call ρ ⟨d,.buildSlice t k parts,ty,pos,e,q⟩ s=za4 Γ s ρ t k parts.toList:=Eq.trans rfl rfl
theorem zf1 {f:FuncId} {fn:Func} {body:Code} {args:List Value} {R:Value→CS→Prop} (n:Nat) (hax:Γ.ax f=none) (hf:Γ.fn.at f=some fn) (hb:fn.body=some body) (hn:fn.ntmps=n) (hl:args.length≤n)
    (h:W P Γ body (Fr.ofArgs args 0 (Fr.of n fun _=>undef)) s fun e fr' s1=>(e=.normal∨e=.ret)∧∃ vs s2,resC Γ fr' s1 fn.results.toList=some (vs,s2)∧R (tupC vs) s2):∃ v s2,za0 P Γ f args s=some (v,s2)∧R v s2:=by
  obtain ⟨e,fr',s1,h1,he,vs,s2,hr,hR⟩:=h;exact ⟨_,s2,zod n hax hf hb hn hl ⟨e,fr',s1,h1,he,vs,hr,rfl⟩,hR⟩
theorem zc8 {x y:Operand} {t tx:TypeId} (hs:srcT Γ tx=true):zc9 P Γ ρ o s .append [x,y] [t,tx]=zbp Γ s t (ρ y) (ρ x):=by
 show sel (srcT Γ tx) _ none=_;rw [hs];rfl
theorem zj9 {t:TypeId} {y:Value} {base:Option Addr} {len cap:Nat} {j:TI} (he:zb7 Γ t=some j):zbp Γ s t y (.slice base len cap)=s.append j.size j.bytes base len cap y:=by
 unfold zbp;simp only [he]
end
end
section
open Go Go.RowKit
section
variable {P:Program} {Γ:Env} {ρ:Operand→Value} {s:CS} {d:Option Tmp} {ty:TypeId} {pos:String} {t t2:TypeId} {x y:Operand} {e:Array Edge} {g:Option (Nat×Bool)}
theorem zqq (d:TypeDesc) (a:ByteArray):nilT d (.string a)=none:=by cases d<;>rfl
theorem zyu (d:TypeDesc) (a:Bool):nilT d (.bool a)=none:=by cases d<;>rfl
theorem z42 {op:BinOp} {v w:Value} (h:∀ d,nilT d v=none):eqC Γ t op v w=none:=by
 unfold eqC
 cases Γ.ti.at t with
 |none=>rfl
 |some i=>cases op<;>first|rfl | (simp only [h];rfl)
theorem zj2 {op:BinOp} {v w r:Value} {o:Oper} (ho:o.op=.binOp op t x y t2) (hx:ρ x=v) (hy:ρ y=w) (hc:binC op v w=none) (hn:∀ d,nilT d v=none) (hpv:za3 3 v=true) (hpw:za3 3 w=true) (hg:eqGuard op t x y v w=pure ())
    (hr:zb6 P (binOp op t v w)=some r) (hp:za3 3 r=true):zcq P Γ ρ o s t op v w=some (r,s):=by
  unfold zcq;rw [hc];simp only;rw [z42 hn];simp only [zea];unfold zll
  have hops:(o.op.operands.toList.all fun z=>za3 3 (ρ z))=true:=by
    rw [ho];simp [Op.operands,hx,hy,hpv,hpw]
  rw [hops]
  have he:execOp ρ o=(do pure (.value (← binOp op t v w))):=by
    unfold execOp;rw [ho];simp only [hx,hy,hg];simp
  rw [he]
  have hv:zb6 P (do pure (Next.value (← binOp op t v w)))=some (.value r):=by
    rw [zgg hr];rfl
  simp only [cond_true];rw [hv];show retC s (bif za3 3 r then some r else none)=some (r,s);rw [hp];rfl
theorem z07 (a b:ByteArray):(a.toList == b.toList)=decide (a=b):=by
 rw [ByteArray.toList_eq,ByteArray.toList_eq];by_cases h:a=b
 ·subst h;simp
 ·rw [decide_eq_false h,beq_eq_false_iff_ne];intro k;apply h;apply ByteArray.ext;exact Array.toList_inj.1 k
theorem yfq {a b:ByteArray} (hx:ρ x=.string a) (hy:ρ y=.string b):zcq P Γ ρ ⟨d,.binOp .neq t x y t2,ty,pos,e,g⟩ s t .neq (.string a) (.string b)=some (.bool (!decide (a=b)),s) :=
 zj2 rfl hx hy rfl (fun d=>zqq d a) rfl rfl (by unfold eqGuard;simp) (by show some _=_;rw [z07]) rfl
theorem zk3 {a b:Bool} (hd:P.underlying t=some .bool):zb6 P (Op.equal t (.bool a) (.bool b))=some (a == b):=by
 unfold Op.equal;show zb6 P (Op.equalIn (_+1) t (.bool a) (.bool b))=_;unfold Op.equalIn;rw [zgg (zct hd)];rfl
theorem z1m {v w:Value} {b:Bool}:zr7 s v w (.bool b)=some (bif b then v else w,s):=Eq.trans rfl rfl
variable {k k':IntKind} {a b:Int} {tys:Array TypeId}
theorem o_max (hx:ρ x=.int k a) (hy:ρ y=.int k' b):zc9 P Γ ρ ⟨d,.call ⟨.builtin .max,#[x,y],tys⟩,ty,pos,e,g⟩ s .max [x,y] tys.toList=some (.int k (max a b),s):=by
 show retC s (zll P ρ _)=_;have hm:max a b=if b > a then b else a:=by rw [Int.max_def];split<;>split<;>omega
 rw [hm,zqn (r:=.int k (if b > a then b else a))]
 ·rfl
 ·show (za3 3 (ρ x) && (za3 3 (ρ y) && true))=true;rw [hx,hy];rfl
 ·simp [execOp,hx,hy,resolve,invoke,builtin,Builtin.max_,Builtin.max2]
 ·rfl
theorem o_min (hx:ρ x=.int k a) (hy:ρ y=.int k' b):zc9 P Γ ρ ⟨d,.call ⟨.builtin .min,#[x,y],tys⟩,ty,pos,e,g⟩ s .min [x,y] tys.toList=some (.int k (min a b),s):=by
 show retC s (zll P ρ _)=_;have hm:min a b=if b<a then b else a:=by rw [Int.min_def];split<;>split<;>omega
 rw [hm,zqn (r:=.int k (if b<a then b else a))]
 ·rfl
 ·show (za3 3 (ρ x) && (za3 3 (ρ y) && true))=true;rw [hx,hy];rfl
 ·simp [execOp,hx,hy,resolve,invoke,builtin,Builtin.min_,Builtin.min2]
 ·rfl
end
section
variable {P:Program} {Γ:Env} {call:zdg} {ops l:List Oper} {fr:Fr} {s:CS} {d:Option Tmp} {op:Op} {ty:TypeId} {pos:String} {e:Array Edge} {g:Option (Nat×Bool)}
noncomputable def zpo (ops:List Oper) (fr:Fr) (j:Nat):Value:=match zk7 ops j with|some t=>fr.get t|none=>undef
noncomputable def zsq (v:Value) (want:Bool):Bool:=match v with|.bool b=>b == want|_=>false
noncomputable def goC {α:Type} (c:Bool) (x y:α):α:=bif c then x else y
theorem zwv {α:Type} (x y:α):goC true x y=x:=Eq.trans rfl rfl
theorem zsr {α:Type} (x y:α):goC false x y=y:=Eq.trans rfl rfl
theorem z4q:zsq (.bool true) true=true:=Eq.trans rfl rfl
theorem z4r:zsq (.bool true) false=false:=Eq.trans rfl rfl
theorem z4s:zsq (.bool false) true=false:=Eq.trans rfl rfl
theorem z4t:zsq (.bool false) false=true:=Eq.trans rfl rfl
theorem zxw {t:Tmp}:zpo (⟨some t,op,ty,pos,e,g⟩ :: l) fr 0=fr.get t:=Eq.trans rfl rfl
theorem zxx {o:Oper} {n:Nat}:zpo (o :: l) fr (n+1)=zpo l fr n:=by
 unfold zpo zk7;rw [List.getElem?_cons_succ]
theorem z2r {j:Nat} {want:Bool}:zbj P Γ call ops ⟨d,op,ty,pos,e,some (j,want)⟩ fr s=goC (zsq (zpo ops fr j) want) (dstC fr d (cop P Γ call (zeu fr) ⟨d,op,ty,pos,e,some (j,want)⟩ s)) (some (putC fr d undef,s)):=by
 have hw:zb9 ops fr ⟨d,op,ty,pos,e,some (j,want)⟩=zsq (zpo ops fr j) want:=by
  unfold zb9 zpo;simp only
  cases zk7 ops j with
  |none=>rfl
  |some t=>simp only;cases fr.get t<;>rfl
 unfold zbj;rw [hw]
 cases zsq (zpo ops fr j) want with
 |true =>
  rw [zwv,cond_true]
  cases cop P Γ call (zeu fr) ⟨d,op,ty,pos,e,some (j,want)⟩ s with
  |none=>rfl
  |some r=>rfl
 |false=>rw [zsr,cond_false]
theorem z3k {t:Tmp} {v:Value}:putC fr (some t) v=fr.put t v:=Eq.trans rfl rfl
theorem yfr {ρ:Operand→Value} {o:Oper} {x:Operand} {t:TypeId}:zc9 P Γ ρ o s .len [x] [t]=ziv Γ s t (ρ x):=Eq.trans rfl rfl
theorem zsg {t el:TypeId} {z b n c:Nat} {zs:List Value} {x:Option Addr} (h:Γ.ti.at t=some ⟨.slice el,z,b,zs⟩):ziv Γ s t (.slice x n c)=some (.int .i64 (n:Int),s):=by unfold ziv;rw [h]
theorem z1s {t:TypeId} {z b:Nat} {zs:List Value} {x:ByteArray} (h:Γ.ti.at t=some ⟨.string,z,b,zs⟩):ziv Γ s t (.string x)=some (.int .i64 (x.size:Int),s):=by unfold ziv;rw [h]
theorem z5s {f:FuncId} {args:List Value} {k:List Value→CS→Option (Value×CS)} {r:Value×CS} (h:Γ.ax f=some k) (hk:k args s=some r):za0 P Γ f args s=some r:=by
 refine z5r (n:=0) ?_;unfold ze9;rw [h];exact hk
end
end
section
open Go Go.RowKit
section
variable {P:Program} {Γ:Env} {call:zdg} {ops l:List Oper} {o:Oper} {fr fr':Fr} {s t:CS}
noncomputable def z5f (lg:Lg) (r:Option (List Lg×Fr×CS)):Option (List Lg×Fr×CS):=match r with
 |some (logs,fr,s)=>some (lg :: logs,fr,s)
 |none=>none
noncomputable def yhc (s:CS) (r:Option (Fr×CS)) (k:Fr→CS→Option (List Lg×Fr×CS)):Option (List Lg×Fr×CS):=match r with
 |some (fr,t)=>z5f ⟨t.rd,t.wr,s.n,t.n⟩ (k fr (s.outer t))
 |none=>none
theorem zsz:drawC P Γ call ops [] fr s=some ([],fr,s):=Eq.trans rfl rfl
theorem zj4:drawC P Γ call ops (o :: l) fr s=yhc s (zbj P Γ call ops o fr s.inner) (drawC P Γ call ops l):=by
 rw [drawC]
 cases zbj P Γ call ops o fr s.inner with
 |none=>rfl
 |some r =>
  show (match drawC P Γ call ops l r.1 (s.outer r.2) with|some (logs,fr,s')=>_|none=>none)=z5f _ (drawC P Γ call ops l r.1 (s.outer r.2))
  cases drawC P Γ call ops l r.1 (s.outer r.2) with
  |none=>rfl
  |some x=>rfl
theorem zna (lg:Lg) (logs:List Lg):z5f lg (some (logs,fr,s))=some (lg :: logs,fr,s):=Eq.trans rfl rfl
variable {n lim n':Nat} {g g':Nat→Fam} {rd wr rd' wr':List Nat} {ob ob':Sto}
theorem zop {k:Fr→CS→Option (List Lg×Fr×CS)}:yhc ⟨n,ob,lim,rd,wr⟩ (some (fr,⟨n',ob',n,rd',wr'⟩)) k=z5f ⟨rd',wr',n,n'⟩ (k fr ⟨n',ob',lim,zeb lim rd rd',zeb lim wr wr'⟩):=Eq.trans rfl rfl
theorem zb8:zeb lim rd []=rd:=Eq.trans rfl rfl
theorem zbn {f:Nat}:zeb lim rd (f :: rd')=zeb lim (ins lim rd f) rd':=Eq.trans rfl rfl
theorem zxd {n0:Nat} {logs:List Lg} {ms:List Nat} (hm:zcr ops []=ms) (h:zem clash [] logs ms=true):calm n0 ops logs=true:=by
 unfold calm;rw [hm,h];cases logs.all _<;>rfl
theorem zkx {ms:List Nat} {done:List Lg}:zem clash done [] ms=true:=Eq.trans rfl rfl
theorem ydx (a:List Nat):meet a []=false:=by
 unfold meet
 induction a with
 |nil=>rfl
 |cons x a ih=>rw [List.any_cons,ih];rfl
theorem yeo {x:Lg} {lo hi:Nat}:clash x ⟨[],[],lo,hi⟩=false:=by
 unfold clash zrb;simp [ydx]
theorem zvc {m lo hi:Nat}:∀ {done:List Lg} {i:Nat},ze7 clash m ⟨[],[],lo,hi⟩ done i=true
 |[],_=>rfl
 |x :: l,i=>by
  show ((Nat.testBit m i || !clash x _) && ze7 clash m _ l (i+1))=true;rw [yeo,zvc];simp
theorem zpa {ms:List Nat} {done logs:List Lg} {lo hi:Nat}:zem clash done (⟨[],[],lo,hi⟩ :: logs) ms=zem clash (done++[⟨[],[],lo,hi⟩]) logs ms:=by
 show (ze7 _ _ _ _ _ && _)=_;rw [zvc];rfl
theorem zgh {ms:List Nat} {done logs:List Lg} {y:Lg}:zem clash done (y :: logs) ms=(ze7 clash (nth 0 ms done.length) y done 0 && zem clash (done++[y]) logs ms):=Eq.trans rfl rfl
theorem znb {m i:Nat} {y:Lg}:ze7 clash m y [] i=true:=Eq.trans rfl rfl
theorem zi2 {m i:Nat} {x y:Lg} {done:List Lg} (h:Nat.testBit m i=true):ze7 clash m y (x :: done) i=ze7 clash m y done (i+1):=by
 show ((Nat.testBit m i || _) && _)=_;rw [h];rfl
theorem zj6 {m i:Nat} {x y:Lg} {done:List Lg} (h:clash x y=false):ze7 clash m y (x :: done) i=ze7 clash m y done (i+1):=by
 show ((Nat.testBit m i || !clash x y) && _)=_;rw [h];simp
theorem zwg {α:Type} {d x:α} {l:List α}:nth d (x :: l) 0=x:=Eq.trans rfl rfl
theorem zwh {α:Type} {d x:α} {l:List α} {i:Nat}:nth d (x :: l) (i+1)=nth d l i:=Eq.trans rfl rfl
theorem zec {rx wx ry wy:List Nat} {lo hi lo' hi':Nat} (h1:∀ f,f∈wx→f ∉ ry∧f ∉ wy) (h2:∀ f,f∈rx→f ∉ wy) (hr:∀ f,f∈ry→f<lo∨hi≤f) (hw:∀ f,f∈wy→f<lo∨hi≤f):clash ⟨rx,wx,lo,hi⟩ ⟨ry,wy,lo',hi'⟩=false:=by
 have hq:∀ l:List Nat,(∀ f,f∈l→f<lo∨hi≤f)→zrb lo hi l=false:=by
  intro l hl;unfold zrb;rw [List.any_eq_false];intro f hf;rcases hl f hf with h|h
  ·simp [zte h]
  ·simp [z0o h]
 have hm:∀ a b:List Nat,(∀ f,f∈a→f ∉ b)→meet a b=false:=by
  intro a b hab;unfold meet;rw [List.any_eq_false];intro f hf hc;exact hab f hf (zso hc)
 unfold clash;simp [hq ry hr,hq wy hw,hm wx ry fun f hf=>(h1 f hf).1,hm wx wy fun f hf=>(h1 f hf).2,hm rx wy h2]
theorem W.draw_ex {id:Nat} {ops:Array Oper} {Q:Exit→Fr→CS→Prop} {logs:List Lg} {ms:List Nat} (hm:zcr ops.toList []=ms) (h:drawC P Γ (za0 P Γ) ops.toList ops.toList fr s=some (logs,fr',t)) (hc:zem clash [] logs ms=true) (hq:Q .normal fr' t):W P Γ (.region id ops true) fr s Q :=
 W.draw h (zxd hm hc) hq
variable {ρ:Operand→Value}
theorem za9 {e:TypeId} {d:TypeDesc} {z b:Nat} {zs:List Value} (h:Γ.ti.at e=some ⟨d,z,b,zs⟩):ziw Γ (St n g lim rd wr) e=some (.pointer (some (mkA n (n*1024+0) 0)),St (n+1) (fupd g n ⟨false,[(n*1024+0,zs)],none⟩) lim rd wr):=by
 unfold ziw;rw [h];simp only [zhp,ptrC]
theorem z50 {cs:List Value}:ptrC (CS.newRow (St n g lim rd wr) 0 cs)=some (.pointer (some (mkA n (n*1024+0) 0)),St (n+1) (fupd g n ⟨false,[(n*1024+0,cs)],none⟩) lim rd wr):=by
 rw [zhp];rfl
theorem zao {ty e:TypeId} {z b N b2:Nat} {zs z2:List Value} {d:TypeDesc} {f u off k:Nat} (h:Γ.ti.at ty=some ⟨.array N e,z,b,zs⟩) (he:Γ.ti.at e=some ⟨d,1,b2,z2⟩) (hk:k<N):za2 Γ s ty (.pointer (some (mkA f u off))) (some k)=some (.pointer (some (mkA f u (off+k))),s):=by
 unfold za2;rw [h];simp only [he,zqc,zgz hk,cond_true,zf6,Nat.mul_one]
theorem zuv {ty e:TypeId} {z b b2 len cap:Nat} {zs z2:List Value} {d:TypeDesc} {f u off k:Nat} (h:Γ.ti.at ty=some ⟨.slice e,z,b,zs⟩) (he:Γ.ti.at e=some ⟨d,1,b2,z2⟩) (hk:k<len):za2 Γ s ty (.slice (some (mkA f u off)) len cap) (some k)=some (.pointer (some (mkA f u (off+k))),s):=by
 unfold za2;rw [h];simp only [he,zqc,zgz hk,cond_true,zf6,Nat.mul_one]
theorem yh8 {ty e:TypeId} {z b N b2:Nat} {zs z2:List Value} {d:TypeDesc} {k:Nat} {cs:Array Value} {v:Value} (h:Γ.ti.at ty=some ⟨.array N e,z,b,zs⟩) (he:Γ.ti.at e=some ⟨d,1,b2,z2⟩) (hd:aggT d=false) (hk:k<N) (hv:cs.toList[k]?=some v):zg7 Γ s ty (.agg cs) (some k)=some (v,s):=by
 unfold zg7;rw [h];simp only [he,zgz hk,cond_true,zmq,hd,cond_false,Nat.mul_one,hv,retC]
theorem zhq {ty:TypeId} {d:TypeDesc} {z b f u off:Nat} {zs cs:List Value} {v:Value} (h:Γ.ti.at ty=some ⟨d,z,b,zs⟩) (hd:aggT d=false) (hr:zat (g f).rows u=some cs) (hv:cs[off]?=some v):zfp Γ (St n g lim rd wr) ty (.pointer (some (mkA f u off)))=some (v,St n g lim (ins lim rd f) wr):=by
 unfold zfp CS.loadVar;rw [h];simp only [zj1,zfn,zdc,hr,zmq,hd,cond_false,zk0,hv]
theorem ze5 {ty:TypeId} {d:TypeDesc} {z b f u:Nat} {zs cs:List Value} (h:Γ.ti.at ty=some ⟨d,z,b,zs⟩) (hd:aggT d=true) (hr:zat (g f).rows u=some cs) (hv:cs.length=z):zfp Γ (St n g lim rd wr) ty (.pointer (some (mkA f u 0)))=some (.agg cs.toArray,St n g lim (ins lim rd f) wr):=by
 unfold zfp CS.loadVar;rw [h];simp only [zj1,zfn,zdc,hr,zmq,hd,cond_true,zk0];rw [z48 (by omega),List.drop_zero,List.take_of_length_le (by omega)]
theorem yaf {ty:TypeId} {d:TypeDesc} {z b f u off:Nat} {zs cs:List Value} (h:Γ.ti.at ty=some ⟨d,z,b,zs⟩) (hd:aggT d=true) (hr:zat (g f).rows u=some cs) (hv:off+z≤cs.length):zfp Γ (St n g lim rd wr) ty (.pointer (some (mkA f u off)))=some (.agg ((cs.drop off).take z).toArray,St n g lim (ins lim rd f) wr):=by
 unfold zfp CS.loadVar;rw [h];simp only [zj1,zfn,zdc,hr,zmq,hd,cond_true,zk0];rw [z48 (by omega)]
theorem zpl {ty:TypeId} {d:TypeDesc} {b f u off:Nat} {zs cs:List Value} {v:Value} {es:Option (List (Value×Value))} (h:Γ.ti.at ty=some ⟨d,1,b,zs⟩) (hg:g f=⟨false,[(u,cs)],es⟩) (ho:off<cs.length) (hv:oneC v=true):ze4 Γ (St n g lim rd wr) ty [v] (.pointer (some (mkA f u off)))=some (undef,St n (fupd g f ⟨false,[(u,cs.set off v)],none⟩) lim rd (ins lim wr f)):=by
 unfold ze4;rw [h];simp only;rw [zd1 (by rfl),cond_true,zqg hg (by show off+1≤cs.length;omega) (by simp [hv]),z6a ho];rfl
theorem zen {ty:TypeId} {d:TypeDesc} {z b f u:Nat} {zs cs vs:List Value} {es:Option (List (Value×Value))} (h:Γ.ti.at ty=some ⟨d,z,b,zs⟩) (hg:g f=⟨false,[(u,cs)],es⟩) (hz:vs.length=z) (ho:cs.length=z) (hv:vs.all oneC=true):ze4 Γ (St n g lim rd wr) ty vs (.pointer (some (mkA f u 0)))=some (undef,St n (fupd g f ⟨false,[(u,vs)],none⟩) lim rd (ins lim wr f)):=by
 unfold ze4;rw [h];simp only;rw [zd1 hz,cond_true,zqg hg (by omega) hv,z6b (by omega)];rfl
theorem zlz (k:IntKind) (m:Int):(Value.int k m).cells=#[.int k m]:=Eq.trans rfl rfl
theorem zhf (x:UInt32):(vw x).cells=#[vw x]:=Eq.trans rfl rfl
theorem zqz (x:UInt8):(vb x).cells=#[vb x]:=Eq.trans rfl rfl
theorem zas (cs:Array Value):(Value.agg cs).cells=cs:=Eq.trans rfl rfl
theorem z0a (b:ByteArray):(Value.string b).cells=#[.string b]:=Eq.trans rfl rfl
def wvs (l:List UInt32):List Value:=l.map vw
theorem zav (l:List UInt32):(wvs l).length=l.length:=by simp [wvs]
theorem zdi {l:List UInt32} {k:Nat} (h:k<l.length):(wvs l)[k]?=some (vw (l.getD k 0)):=by
 unfold wvs;rw [List.getElem?_map,List.getD_eq_getElem?_getD,List.getElem?_eq_getElem h];rfl
theorem zm3 (l:List UInt32) (k:Nat) (x:UInt32):(wvs l).set k (vw x)=wvs (l.set k x):=by
 unfold wvs;rw [List.map_set]
theorem zin (l:List UInt32):(wvs l).all oneC=true:=by
 rw [List.all_eq_true];intro x hx;obtain ⟨c,_,rfl⟩:=List.mem_map.1 hx;rfl
theorem z67 (l:List UInt32):(wvs l).all (za3 2)=true:=by
 rw [List.all_eq_true];intro x hx;obtain ⟨c,_,rfl⟩:=List.mem_map.1 hx;rfl
theorem zrc (x:UInt32):oneC (vw x)=true:=Eq.trans rfl rfl
section
variable {ty t2 src dst:TypeId} {d:Option Tmp} {pos:String} {e:Array Edge} {q:Option (Nat×Bool)} {x y:Operand} {tt:TypeId} {k:IntKind} {z b z2 b2:Nat} {zs zs2:List Value}
theorem z5x {a:UInt32} (n:Nat) (hx:ρ x=vw a) (hy:ρ y=.int k (OfNat.ofNat n)):zcq P Γ ρ ⟨d,.binOp .shl tt x y t2,ty,pos,e,q⟩ s tt .shl (vw a) (.int k (no_index (OfNat.ofNat n)))=some (vw (zkk a n),s):=ycg (n:=n) hx hy
theorem zq3 {a:UInt32} (n:Nat) (hx:ρ x=vw a) (hy:ρ y=.int k (OfNat.ofNat n)):zcq P Γ ρ ⟨d,.binOp .shr tt x y t2,ty,pos,e,q⟩ s tt .shr (vw a) (.int k (no_index (OfNat.ofNat n)))=some (vw (zx1 a n),s):=z0l (n:=n) hx hy
theorem yb3 {c:UInt8} (hs:Γ.ti.at src=some ⟨.int .u8,z,b,zs⟩) (hd:Γ.ti.at dst=some ⟨.int .u32,z2,b2,zs2⟩) (ps:(P.underlying src).isSome=true) (pd:P.underlying dst=some (.int .u32)) (hx:ρ x=vb c):zak P Γ ρ ⟨d,.convert src dst x,ty,pos,e,q⟩ s src dst (vb c)=some (vw c.toUInt32,s):=by
 unfold zak;rw [hs,hd];show zea P ρ _ s (zto .u32 (c.toNat:Int))=_;rw [zho ⟨_,hx⟩ ps pd,cw_b]
theorem yb1 {c:UInt32} (hs:Γ.ti.at src=some ⟨.int .u32,z,b,zs⟩) (hd:Γ.ti.at dst=some ⟨.int .u8,z2,b2,zs2⟩) (ps:(P.underlying src).isSome=true) (pd:P.underlying dst=some (.int .u8)) (hx:ρ x=vw c):zak P Γ ρ ⟨d,.convert src dst x,ty,pos,e,q⟩ s src dst (vw c)=some (vb c.toUInt8,s):=by
 unfold zak;rw [hs,hd];show zea P ρ _ s (zto .u8 (c.toNat:Int))=_;rw [zho ⟨_,hx⟩ ps pd,cb_w]
theorem yb2 {c:UInt64} (hs:Γ.ti.at src=some ⟨.int .u64,z,b,zs⟩) (hd:Γ.ti.at dst=some ⟨.int .u8,z2,b2,zs2⟩) (ps:(P.underlying src).isSome=true) (pd:P.underlying dst=some (.int .u8)) (hx:ρ x=vq c):zak P Γ ρ ⟨d,.convert src dst x,ty,pos,e,q⟩ s src dst (vq c)=some (vb c.toUInt8,s):=by
 unfold zak;rw [hs,hd];show zea P ρ _ s (zto .u8 (c.toNat:Int))=_;rw [zho ⟨_,hx⟩ ps pd,cb_q]
end
theorem zgr {fr:Fr} {s:CS}:resC Γ fr s []=some ([],s):=Eq.trans rfl rfl
noncomputable def z9a (v:Value):Option (List Value×CS)→Option (List Value×CS)
 |some (vs,s)=>some (v :: vs,s)
 |none=>none
noncomputable def z89 (Γ:Env) (fr:Fr) (l:List ResultVar):Option (Value×CS)→Option (List Value×CS)
 |some (v,s)=>z9a v (resC Γ fr s l)
 |none=>none
theorem zcn {v:Value} {vs:List Value} {s:CS}:z9a v (some (vs,s))=some (v :: vs,s):=Eq.trans rfl rfl
theorem zb5 {fr:Fr} {l:List ResultVar} {v:Value} {s:CS}:z89 Γ fr l (some (v,s))=z9a v (resC Γ fr s l):=Eq.trans rfl rfl
theorem ze0 {fr:Fr} {s:CS} {a:Tmp} {t:TypeId} {l:List ResultVar} {ad:Addr} (h:fr.get a=.pointer (some ad)):resC Γ fr s (.cell a t :: l)=z89 Γ fr l (zfp Γ s t (.pointer (some ad))):=by
 rw [resC,h];unfold zfp
 cases Γ.ti.at t with
 |none=>rfl
 |some i =>
  simp only
  cases s.loadVar i ad with
  |none=>rfl
  |some r=>rfl
theorem yd3 (n:Nat):((no_index (OfNat.ofNat n):Nat):Int)=OfNat.ofNat n:=Eq.trans rfl rfl
theorem zmt {i j:Nat} (h:i≠j):Nat.beq i j=false:=zjj h
structure BSl (g:Nat→Fam) (n f u off len cap:Nat) (bs:List UInt8):Prop where
 lt:f<n
 tag:u % 1024=0∨u % 1024=2
 fits:len≤cap
 size:bs.length=len
 row:∃ cs,zat (g f).rows u=some cs∧∀ i,i<len→cs[off+i]?=some (vb (bs.getD i 0))
end
end
section
open Go Go.RowKit
section
variable {P:Program} {Γ:Env} {call:zdg} {ops l:List Oper} {o o':Oper} {fr fr':Fr} {s t:CS}
noncomputable def z57 (n0:Nat) (s:CS) (r:Option (Fr×CS)) (k:Fr→CS→Option (Fr×CS)):Option (Fr×CS):=match r with
 |some (fr,t)=>bif (t.wr.isEmpty && t.rd.all fun f=>Nat.blt f n0) && Nat.ble n0 s.n then k fr (s.outer t) else none
 |none=>none
noncomputable def yd5 (s:CS) (r:Option (Fr×CS)):Option (Fr×CS):=match r with
 |some (fr,t)=>some (fr,s.outer t)
 |none=>none
noncomputable def zpw (P:Program) (Γ:Env) (call:zdg) (ops:List Oper) (n0:Nat):List Oper→Fr→CS→Option (Fr×CS)
 |[],_,_=>none
 |[o],fr,s=>yd5 s (zbj P Γ call ops o fr s.inner)
 |o :: o' :: l,fr,s=>z57 n0 s (zbj P Γ call ops o fr s.inner) (zpw P Γ call ops n0 (o' :: l))
theorem zcs {n0:Nat}:zpw P Γ call ops n0 [o] fr s=yd5 s (zbj P Γ call ops o fr s.inner):=Eq.trans rfl rfl
theorem zcd {n0:Nat}:zpw P Γ call ops n0 (o :: o' :: l) fr s=z57 n0 s (zbj P Γ call ops o fr s.inner) (zpw P Γ call ops n0 (o' :: l)):=Eq.trans rfl rfl
def QLog (n0:Nat) (x:Lg):Prop:=x.wr=[]∧(∀ f,f∈x.rd→f<n0)∧n0≤x.lo
theorem zzq {n0:Nat}:∀ {l:List Oper} {fr fr':Fr} {s s':CS},zpw P Γ call ops n0 l fr s=some (fr',s')→∃ logs y,drawC P Γ call ops l fr s=some (logs++[y],fr',s')∧logs.length+1=l.length∧∀ x,x∈logs→QLog n0 x
 |[],fr,fr',s,s',h=>by simp [zpw] at h
 |[o],fr,fr',s,s',h=>by
  rw [zcs] at h;unfold yd5 at h;split at h
  ·rename_i fr1 t h1;simp only [Option.some.injEq,Prod.mk.injEq] at h;obtain ⟨rfl,rfl⟩:=h;refine ⟨[],⟨t.rd,t.wr,s.n,t.n⟩,?_,rfl,fun x hx=>by simp at hx⟩;rw [zj4,h1];rfl
  ·simp at h
 |o :: o' :: l,fr,fr',s,s',h=>by
  rw [zcd] at h;unfold z57 at h;split at h
  ·rename_i fr1 t h1
   cases hq:(t.wr.isEmpty && t.rd.all fun f=>Nat.blt f n0) && Nat.ble n0 s.n with
   |false=>rw [hq] at h;simp at h
   |true =>
    rw [hq] at h;simp only [cond_true] at h;obtain ⟨logs,y,h2,h3,h4⟩:=zzq h;refine ⟨⟨t.rd,t.wr,s.n,t.n⟩ :: logs,y,?_,?_,?_⟩
    ·rw [zj4,h1];unfold yhc;simp only;rw [h2];rfl
    ·simp only [List.length_cons] at h3 ⊢;omega
    ·intro x hx;rcases List.mem_cons.1 hx with rfl|hx
     ·simp only [Bool.and_eq_true,List.isEmpty_iff,List.all_eq_true] at hq;exact ⟨hq.1.1,fun f hf=>zai.1 (hq.1.2 f hf),zax.1 hq.2⟩
     ·exact h4 x hx
  ·simp at h
theorem z16 {n0:Nat} {x y:Lg} (hx:QLog n0 x) (hy:QLog n0 y):clash x y=false:=by
 obtain ⟨rx,wx,lx,hx'⟩:=x;obtain ⟨ry,wy,ly,hy'⟩:=y;obtain ⟨rfl,x2,x3⟩:=hx;obtain ⟨rfl,y2,y3⟩:=hy;refine zec (fun f hf=>by simp at hf) (fun f _=>by simp) (fun f hf=>.inl ?_) (fun f hf=>by simp at hf);have:=y2 f hf;exact Nat.lt_of_lt_of_le this x3
theorem zoc {n0 m:Nat} {y:Lg} (hy:QLog n0 y):∀ {done:List Lg} {i:Nat},(∀ x,x∈done→QLog n0 x)→ze7 clash m y done i=true
 |[],_,_=>rfl
 |x :: l,i,h=>by
  rw [zj6 (z16 (h x (by simp)) hy)];exact zoc hy fun z hz=>h z (by simp [hz])
theorem zp9 {k:Nat} {y:Lg}:∀ {done:List Lg} {i:Nat},done.length+i≤k→ze7 clash (2 ^ k - 1) y done i=true
 |[],_,_=>rfl
 |x :: l,i,h=>by
  rw [List.length_cons] at h;rw [zi2 (by rw [Nat.testBit_two_pow_sub_one];exact decide_eq_true (by omega))];exact zp9 (by omega)
theorem zqa {n0:Nat} {y:Lg} {ms:List Nat}:∀ {logs done:List Lg},(∀ x,x∈done→QLog n0 x)→(∀ x,x∈logs→QLog n0 x)→nth 0 ms (done.length+logs.length)=2 ^ (done.length+logs.length) - 1→zem clash done (logs++[y]) ms=true
 |[],done,hd,_,hm=>by
  rw [List.nil_append,zgh];simp only [List.length_nil,Nat.add_zero] at hm;rw [hm,zp9 (by omega),zkx];rfl
 |x :: l,done,hd,hl,hm=>by
  rw [List.cons_append,zgh,zoc (hl x (by simp)) hd];simp only [Bool.true_and];refine zqa (n0:=n0) ?_ (fun z hz=>hl z (by simp [hz])) ?_
  ·intro z hz;rcases List.mem_append.1 hz with hz|hz
   ·exact hd z hz
   ·simp at hz;subst hz;exact hl _ (by simp)
  ·rw [List.length_append,List.length_singleton];rw [List.length_cons] at hm;rw [show done.length+1+l.length=done.length+(l.length+1) by omega];exact hm
noncomputable def z4y (ops:List Oper):Bool:=Nat.beq (nth 0 (zcr ops []) (ops.length - 1)) (2 ^ (ops.length - 1) - 1)
theorem W.last {id:Nat} {ops:Array Oper} {Q:Exit→Fr→CS→Prop} (hf:z4y ops.toList=true) (h:zpw P Γ (za0 P Γ) ops.toList s.n ops.toList fr s=some (fr',t)) (hq:Q .normal fr' t):W P Γ (.region id ops true) fr s Q:=by
 obtain ⟨logs,y,h1,h2,h3⟩:=zzq h;refine W.draw_ex rfl h1 (zqa (n0:=s.n) (fun x hx=>by simp at hx) h3 ?_) hq;have hk:ops.toList.length - 1=logs.length:=by omega
 have:=Nat.eq_of_beq_eq_true hf;rw [hk] at this;simpa using this
variable {n lim n' f:Nat} {rd wr rd' wr':List Nat} {ob ob':Sto} {k:Fr→CS→Option (Fr×CS)}
theorem zdj {n0:Nat} (h:n0≤n):z57 n0 ⟨n,ob,lim,rd,wr⟩ (some (fr,⟨n',ob',n,[],[]⟩)) k=k fr ⟨n',ob',lim,rd,wr⟩:=by
 show (bif true && Nat.ble n0 n then _ else _)=_;rw [zcl h];rfl
theorem zgl {n0:Nat} (hf:f<n0) (h:n0≤n):z57 n0 ⟨n,ob,lim,rd,wr⟩ (some (fr,⟨n',ob',n,[f],[]⟩)) k=k fr ⟨n',ob',lim,ins lim rd f,wr⟩:=by
 show (bif (true && [f].all fun f=>Nat.blt f n0) && Nat.ble n0 n then _ else _)=_;rw [zcl h,List.all_cons,zgz hf];rfl
theorem zdq:yd5 ⟨n,ob,lim,rd,wr⟩ (some (fr,⟨n',ob',n,rd',wr'⟩))=some (fr,⟨n',ob',lim,zeb lim rd rd',zeb lim wr wr'⟩):=Eq.trans rfl rfl
variable {g:Nat→Fam}
theorem ld_q {ty:TypeId} {d:TypeDesc} {z b f u off:Nat} {zs cs:List Value} {v:Value} (h:Γ.ti.at ty=some ⟨d,z,b,zs⟩) (hd:aggT d=false) (hr:zat (g f).rows u=some cs) (hv:cs[off]?=some v) (hf:f<n):zfp Γ (St n g n [] []) ty (.pointer (some (mkA f u off)))=some (v,St n g n [f] []):=by
 rw [zhq h hd hr hv,znz hf]
theorem st_q {ty:TypeId} {d:TypeDesc} {b f u off:Nat} {zs cs:List Value} {v:Value} {es:Option (List (Value×Value))} (h:Γ.ti.at ty=some ⟨d,1,b,zs⟩) (hg:g f=⟨false,[(u,cs)],es⟩) (ho:off<cs.length) (hv:oneC v=true) (hf:f<n):ze4 Γ (St n g n [] []) ty [v] (.pointer (some (mkA f u off)))=some (undef,St n (fupd g f ⟨false,[(u,cs.set off v)],none⟩) n [] [f]):=by
 rw [zpl h hg ho hv,znz hf]
theorem zdm {ty e:TypeId} {z2 b2 N:Nat} {zs2:List Value} {j:TI} {f u off l h m:Nat} {lo hi:Option Value} (ha:Γ.ti.at ty=some ⟨.array N e,z2,b2,zs2⟩) (he:Γ.ti.at e=some j) (hN:N≤1000000000) (hb:zbc N N lo hi none=some (l,h,m)) (hu:u % 1024=0) :
    zbh Γ s ty (.pointer (some (mkA f u off))) lo hi none=some (.slice (some (mkA f u (off+l*j.size))) (h - l) (m - l),s):=by
  unfold zbh;rw [ha];simp only [zlx,he,zcl hN,zbe,hb,cutC,zfn,zf6,zd1 hu,Bool.true_or,cond_true]
theorem z8z {ty e:TypeId} {z2 b2 N len cap:Nat} {zs2:List Value} {a:Option Addr} (ha:Γ.ti.at ty=some ⟨.array N e,z2,b2,zs2⟩) (h0:0<N) (hN:N≤len):zoz Γ s ty (.slice a len cap)=some (.pointer a,s):=by
 unfold zoz;rw [ha];simp only [zcl hN,zgz h0,Bool.and_true,cond_true]
theorem zvg {ρ:Operand→Value} {ty e:TypeId} {b2 b3:Nat} {z0 z1 z2 z3:Value} {z4:List Value} {d:TypeDesc} {x0 x1 x2 x3:Operand} (ha:Γ.ti.at ty=some ⟨.array 4 e,4,b2,[z0,z1,z2,z3]⟩) (he:Γ.ti.at e=some ⟨d,1,b3,z4⟩) (h0:(ρ x0).cells=#[ρ x0]) (h1:(ρ x1).cells=#[ρ x1]) (h2:(ρ x2).cells=#[ρ x2]) (h3:(ρ x3).cells=#[ρ x3]) :
    zdn Γ s ρ ty [(0,x0),(1,x1),(2,x2),(3,x3)]=some (.agg #[ρ x0,ρ x1,ρ x2,ρ x3],s):=by
  unfold zdn;rw [ha];simp only [he,zd4,zeo,h0,h1,h2,h3];rfl
theorem zwo {ty:TypeId} {d:TypeDesc} {z b f u off:Nat} {zs cs:List Value} (h:Γ.ti.at ty=some ⟨d,z,b,zs⟩) (hd:aggT d=true) (hr:zat (g f).rows u=some cs) (hv:off+z≤cs.length) (hf:f<n):zfp Γ (St n g n [] []) ty (.pointer (some (mkA f u off)))=some (.agg ((cs.drop off).take z).toArray,St n g n [f] []):=by
 rw [yaf h hd hr hv,znz hf]
theorem zor {ty:TypeId} {d:TypeDesc} {z b f u:Nat} {zs cs vs:List Value} {es:Option (List (Value×Value))} (h:Γ.ti.at ty=some ⟨d,z,b,zs⟩) (hg:g f=⟨false,[(u,cs)],es⟩) (hz:vs.length=z) (ho:cs.length=z) (hv:vs.all oneC=true) (hf:f<n):ze4 Γ (St n g n [] []) ty vs (.pointer (some (mkA f u 0)))=some (undef,St n (fupd g f ⟨false,[(u,vs)],none⟩) n [] [f]):=by
 rw [zen h hg hz ho hv,znz hf]
theorem z2i (l:List UInt32) (k:Nat):(wvs l).drop k=wvs (l.drop k):=by simp [wvs,List.map_drop]
theorem z2h (l:List UInt32) (k:Nat):(wvs l).take k=wvs (l.take k):=by simp [wvs,List.map_take]
end
end
section
open Go Go.RowKit
section
variable {P:Program} {G L:List Nat} {ax:Axs}
open Classical in
structure Seg where
 b:Nat
 o:Nat
 cs:List Value
def zjn (N:Nat) (f:Nat):Nat→List Seg→List (Nat×List Value)
 |_,[]=>[]
 |j,q :: l=>if q.b=f then ((N+j)*1024,q.cs) :: zjn N f (j+1) l else zjn N f (j+1) l
def famS (N:Nat) (K:List (Nat×List Value)) (A:List Seg) (f:Nat):Fam:=⟨true,(famK K f).rows++zjn N f 0 A,none⟩
open Classical in
noncomputable def sgS (N:Nat) (G:List Nat) (K:List (Nat×List Value)) (A:List Seg):Sg:=fun f u =>
 if has G f=true∧u=f*1024 then some (f,0,(famK K f).rows.head?.elim 0 fun p=>p.2.length)
 else if u % 1024=0∧N≤u / 1024 then (match A[u / 1024 - N]? with
  |some q=>if q.b=f then some (f,q.o,q.o+q.cs.length) else none
  |none=>none) else none
def yk3 (σ:Sg) (w:World) (q:Seg):Prop:=q.b<w.heap.size∧(∀ j,j<q.o+q.cs.length→(w.cell? ⟨q.b,j,none⟩).isSome=true)∧∀ (j:Nat) (u:Value),q.cs[j]?=some u→∃ u',w.cell? ⟨q.b,q.o+j,none⟩=some u'∧VR σ u u'
theorem zm5 {N f:Nat} {p:Nat×List Value}:∀ {A:List Seg} {j:Nat},p∈zjn N f j A→∃ i q,A[i]?=some q∧q.b=f∧p=((N+(j+i))*1024,q.cs)
 |[],j,h=>by simp [zjn] at h
 |q :: l,j,h=>by
  unfold zjn at h;split at h
  ·rename_i hq;rcases List.mem_cons.1 h with rfl|h
   ·exact ⟨0,q,rfl,hq,by rw [Nat.add_zero]⟩
   ·obtain ⟨i,q',h1,h2,h3⟩:=zm5 h;exact ⟨i+1,q',by simpa using h1,h2,by rw [h3];congr 2;omega⟩
  ·obtain ⟨i,q',h1,h2,h3⟩:=zm5 h;exact ⟨i+1,q',by simpa using h1,h2,by rw [h3];congr 2;omega⟩
theorem z74 {N:Nat} {K:List (Nat×List Value)} {A:List Seg} {w:World} (hN:N=w.heap.size) (hK:∀ p,p∈K→has G p.1=true) (hw:zxl w K) (hwG:∀ g,has G g=true→g<w.heap.size) (hA:∀ q,q∈A→yk3 (sgS N G K A) w q) :
    Rel (sgS N G K A) (fun _=>True) (St (N+A.length) (famS N K A) 0 [] []) w∧CInv (St (N+A.length) (famS N K A) 0 [] [])∧zjk G (sgS N G K A)∧(∀ f u p,sgS N G K A f u=some p→f<N+A.length∧u / 1024<N+A.length∧(zag (St (N+A.length) (famS N K A) 0 [] []).obj f).ro=true):=by
  have hσ:∀ f u b o z,sgS N G K A f u=some (b,o,z)→b=f∧((has G f=true∧u=f*1024∧o=0∧z=(famK K f).rows.head?.elim 0 fun p=>p.2.length)∨(∃ i q,A[i]?=some q∧q.b=f∧u=(N+i)*1024∧o=q.o∧z=q.o+q.cs.length)):=by
    intro f u b o z h;unfold sgS at h;split at h
    · rename_i hc;simp only [Option.some.injEq,Prod.mk.injEq] at h;exact ⟨h.1.symm,.inl ⟨hc.1,hc.2,h.2.1.symm,h.2.2.symm⟩⟩
    · split at h
      · rename_i hc;split at h
        · rename_i q hq;split at h
          · rename_i hb;simp only [Option.some.injEq,Prod.mk.injEq] at h;refine ⟨h.1.symm,.inr ⟨_,q,hq,hb,by omega,h.2.1.symm,h.2.2.symm⟩⟩
          · simp at h
        · simp at h
      · simp at h
  have hlt:∀ f u b o z,sgS N G K A f u=some (b,o,z)→b<w.heap.size∧f<N+A.length∧u / 1024<N+A.length:=by
    intro f u b o z h;obtain ⟨rfl,⟨h1,h2,_⟩|⟨i,q,h1,h2,h3,_⟩⟩:=hσ _ _ _ _ _ h
    · have:=hwG _ h1;omega
    · have hm:=List.mem_of_getElem? h1;have hi:i<A.length:=(List.getElem?_eq_some_iff.1 h1).1;have:=(hA q hm).1;omega
  have hrows:∀ f p,p∈(famS N K A f).rows→((p.1=f*1024∧(f,p.2)∈K∧(famK K f).rows=[p])∨∃ i q,A[i]?=some q∧q.b=f∧p=((N+i)*1024,q.cs)):=by
    intro f p hp;rcases List.mem_append.1 hp with hp|hp
    · exact .inl (zsx hp)
    · obtain ⟨i,q,h1,h2,h3⟩:=zm5 hp;exact .inr ⟨i,q,h1,h2,by rw [h3,Nat.zero_add]⟩
  have hnone:∀ f,N+A.length≤f→famS N K A f=zds:=by
    intro f hf
    have:(famS N K A f).rows=[]:=by
      rw [List.eq_nil_iff_forall_not_mem];intro p hp;rcases hrows f p hp with ⟨_,h2,_⟩|⟨i,q,h1,h2,_⟩
      · have:=hwG _ (hK _ h2);simp only at this;omega
      · have:=(hA q (List.mem_of_getElem? h1)).1;omega
    unfold famS at this ⊢;simp only at this;rw [this];rfl
  have hvers:∀ f p,p∈(famS N K A f).rows→p.1 / 1024<N+A.length:=by
    intro f p hp;rcases hrows f p hp with ⟨h1,h2,_⟩|⟨i,q,h1,h2,rfl⟩
    · have:=hwG _ (hK _ h2);simp only at this;omega
    · have hi:i<A.length:=(List.getElem?_eq_some_iff.1 h1).1;simp only;omega
  refine ⟨⟨?_,fun f u b o z h=>(hlt f u b o z h).1,?_,fun f hf=>hnone f hf,fun f p hp=>hvers f p hp⟩,⟨fun f hf=>hnone f hf,fun f p hp=>hvers f p hp,Nat.zero_le _⟩,?_,fun f u p h=>⟨(hlt f u _ _ _ h).2.1,(hlt f u _ _ _ h).2.2,rfl⟩⟩
  · intro f u b o z f' u' o' z' h1 h2;have a1:=(hσ _ _ _ _ _ h1).1;have a2:=(hσ _ _ _ _ _ h2).1;omega
  · intro f _;refine ⟨fun p hp b o z h=>?_,fun hro=>by simp [zag,famS] at hro,fun es he=>by simp [zag,famS] at he⟩;obtain ⟨rfl,hs⟩:=hσ _ _ _ _ _ h;rcases hrows b p hp with ⟨h1,h2,h3⟩|⟨i,q,h1,h2,rfl⟩
    · rcases hs with ⟨g1,g2,rfl,rfl⟩|⟨i,q,g1,g2,g3,_⟩
      · rw [h3];simp only [List.head?_cons,Option.elim];refine ⟨by omega,fun j hj=>?_,fun hro=>by simp [zag,famS] at hro,fun j u hu=>?_⟩
        · obtain ⟨k1,_⟩:=(hw _ h2).2 j _ (List.getElem?_eq_getElem hj);rw [k1];rfl
        · obtain ⟨k1,k2⟩:=(hw _ h2).2 j u hu;rw [Nat.zero_add];exact ⟨u,k1,zii 3 k2⟩
      · have:=hwG _ (hK _ h2);simp only at this;omega
    · rcases hs with ⟨g1,g2,_,_⟩|⟨i',q',g1,g2,g3,rfl,rfl⟩
      · simp only at g2;have:=hwG _ g1;omega
      · simp only at g3;have:i'=i:=by omega
        subst this;rw [h1] at g1;cases g1;obtain ⟨a1,a2,a3⟩:=hA q (List.mem_of_getElem? h1);subst h2;exact ⟨Nat.le_refl _,a2,fun hro=>by simp [zag,famS] at hro,a3⟩
  · intro g hg;exact ⟨_,if_pos ⟨hg,rfl⟩⟩
end
end
section
open Go Go.RowKit
def Ret (P:Program) (Γ:Env) (f:FuncId) (args:List Value) (n:Nat) (g:Nat→Fam) (lim:Nat) (rd wr:List Nat) (R:Nat→Prop) (v:Value):Prop :=
 ∃ n' g' rd',za0 P Γ f args (St n g lim rd wr)=some (v,St n' g' lim rd' wr)∧n≤n'∧(∀ i,i<n→g' i=g i)∧(∀ x,x∈rd'→x∈rd∨(R x∧x<lim))
section
variable {P:Program} {Γ:Env} {ρ:Operand→Value} {s:CS} {fr:Fr} {n lim n' f n0:Nat} {g:Nat→Fam} {rd wr rd':List Nat} {ob ob':Sto}
theorem Ret.of {f:FuncId} {fn:Func} {body:Code} {args:List Value} {R:Nat→Prop} {v:Value} (k:Nat) (hax:Γ.ax f=none) (hf:Γ.fn.at f=some fn) (hb:fn.body=some body) (hn:fn.ntmps=k) (hl:args.length≤k)
    (h:W P Γ body (Fr.ofArgs args 0 (Fr.of k fun _=>undef)) (St n g lim rd wr) fun e fr' s1=>(e=.normal∨e=.ret)∧∃ n' g' rd',resC Γ fr' s1 fn.results.toList=some ([v],St n' g' lim rd' wr)∧n≤n'∧(∀ i,i<n→g' i=g i)∧(∀ x,x∈rd'→x∈rd∨(R x∧x<lim))):Ret P Γ f args n g lim rd wr R v:=by
  obtain ⟨e,fr',s1,h1,he,n',g',rd',hr,h2⟩:=h;exact ⟨n',g',rd',zod k hax hf hb hn hl ⟨e,fr',s1,h1,he,_,hr,rfl⟩,h2⟩
theorem zfo {k:Fr→CS→Option (Fr×CS)} (h:∀ x,x∈rd'→x<n0) (hn:n0≤n):z57 n0 ⟨n,ob,lim,rd,wr⟩ (some (fr,⟨n',ob',n,rd',[]⟩)) k=k fr ⟨n',ob',lim,zeb lim rd rd',wr⟩:=by
 show (bif (true && rd'.all fun f=>Nat.blt f n0) && Nat.ble n0 n then _ else _)=_;rw [List.all_eq_true.2 fun x hx=>zgz (h x hx),zcl hn];rfl
theorem zbv {l:List Nat}:∀ {rd rd':List Nat},l=rd'→∀ x,x∈zeb lim rd l→x∈rd∨(x∈rd'∧x<lim):=by
 induction l with
 |nil=>rintro rd rd' rfl x hx;exact .inl hx
 |cons y l ih =>
  rintro rd rd' rfl x hx;rcases ih rfl x hx with h|h
  ·rcases zcf h with h|h
   ·exact .inl h
   ·exact .inr ⟨by simp [h.1],h.2⟩
  ·exact .inr ⟨by simp [h.1],h.2⟩
theorem yhj {ty:TypeId} {d:TypeDesc} {z b f u off:Nat} {zs cs vs:List Value} {es:Option (List (Value×Value))} (h:Γ.ti.at ty=some ⟨d,z,b,zs⟩) (hg:g f=⟨false,[(u,cs)],es⟩) (hz:vs.length=z) (ho:off+z≤cs.length) (hv:vs.all oneC=true):ze4 Γ (St n g lim rd wr) ty vs (.pointer (some (mkA f u off)))=some (undef,St n (fupd g f ⟨false,[(u,splice cs off vs)],none⟩) lim rd (ins lim wr f)):=by
 unfold ze4;rw [h];simp only;rw [zd1 hz,cond_true,zqg hg (by omega) hv];rfl
theorem z1n {o:Oper} {x y:Operand} {t tx:TypeId}:zc9 P Γ ρ o s .copy [x,y] [t,tx]=zjc Γ s t (ρ y) (ρ x):=Eq.trans rfl rfl
theorem z5b {t:TypeId} {j:TI} {f u off len cap:Nat} {cs:List Value} {es:Option (List (Value×Value))} {b:ByteArray} (he:zb7 Γ t=some j) (hj:j.size=1) (hg:g f=⟨false,[(u,cs)],es⟩) (h0:min b.size len≠0) (ho:off+min b.size len≤cs.length) :
    zjc Γ (St n g lim rd wr) t (.string b) (.slice (some (mkA f u off)) len cap)=some (.int .i64 ((min b.size len:Nat):Int),St n (fupd g f ⟨false,[(u,splice cs off (bvs (b.data.toList.take (min b.size len))))],none⟩) lim rd (ins lim wr f)):=by
  unfold zjc;simp only [he,lenC,hj];rw [zlt (Nat.min_le_left _ _)]
  have hb:zfv (b.extract 0 (min b.size len))=bvs (b.data.toList.take (min b.size len)):=by
    rw [zs7];simp [ByteArray.data_extract]
  rw [hb];unfold zzz
  have hl:(b.data.toList.take (min b.size len)).length=min b.size len:=by
    rw [List.length_take];have:b.data.toList.length=b.size:=by simp
    omega
  simp only [Nat.mul_one,zjj h0,cond_false];rw [zqg hg (by rw [zam,hl];exact ho) (zfa _)]
def OwnX (m:Nat) (g:Nat→Fam) (n e:Nat) (ao:Option Addr) (len:Nat) (cells:List Value):Prop :=
 OwnR m g n e ao len cells∨(cells.length=len*e∧∃ f u rest,ao=some (mkA f u 0)∧g f=⟨false,(u,cells) :: rest,none⟩∧m≤f∧f<n∧u / 1024<n∧u % 1024=0)
theorem OwnX.keep {m n' e len:Nat} {g':Nat→Fam} {ao:Option Addr} {cells:List Value} (h:OwnX m g n e ao len cells) (hg:∀ i,m≤i→i<n→g' i=g i) (hn:n≤n'):OwnX m g' n' e ao len cells:=by
 rcases h with h|⟨h1,f,u,rest,k1,k2,k3,k4,k5,k6⟩
 ·exact .inl (h.keep hg hn)
 ·exact .inr ⟨h1,f,u,rest,k1,by rw [hg f k3 k4];exact k2,k3,by omega,by omega,k6⟩
theorem OwnX.first {m e len k:Nat} {ao:Option Addr} {cells:List Value} (h:OwnX m g n e ao len cells) (hl:lim≤m) (hk:k≤len):CS.firstCells (St n g lim rd wr) e k (.slice ao len len)=some (cells.take (k*e),St n g lim rd wr):=by
 rcases h with h|⟨h1,f,u,rest,rfl,k2,k3,k4,k5,k6⟩
 ·exact h.first hl hk
 ·have hkl:k*e≤len*e:=Nat.mul_le_mul_right e hk;rw [zhe (cs:=cells) (by rw [k2];simp [zat,Nat.beq_refl]) (by omega) (by omega)];simp
theorem OwnX.append {m e len k bytes:Nat} {ao:Option Addr} {cells xs:List Value} {y:Value} {rd':List Nat} (h:OwnX m g n e ao len cells) (hm:m≤n) (hl:lim≤m) (hlen:lenC y=some k) (hy:CS.firstCells (St n g lim rd wr) e k y=some (xs,St n g lim rd' wr)) (hx:xs.length=k*e) (ho:xs.all oneC=true) (he:0<e∧e<1000)
    (hb:(len+k)*(bytes+1)≤1000000000) :
    ∃ ao' n' g',CS.append (St n g lim rd wr) e bytes ao len len y=some (.slice ao' (len+k) (len+k),St n' g' lim rd' wr)∧OwnX m g' n' e ao' (len+k) (cells++xs)∧n≤n'∧n'≤n+1∧∀ i,i<m→g' i=g i:=by
  rcases h with h|⟨h1,f,u,rest,rfl,k2,k3,k4,k5,k6⟩
  · obtain ⟨ao',n',g',a1,a2,a3⟩:=h.append hm hl hlen hy hx ho he hb;exact ⟨ao',n',g',a1,.inl a2,a3⟩
  · have c1:(Nat.blt 1000000000 ((len+k)*(bytes+1)) || Nat.beq e 0 || Nat.ble 1000 e || not (xs.all oneC))=false:=by
      rw [z0o hb,zjj (by omega),zte (by omega),ho];rfl
    cases hk:Nat.beq k 0 with
    |true =>
      have:=Nat.eq_of_beq_eq_true hk;subst this;have hx0:xs=[]:=by simpa using hx
      subst hx0;refine ⟨_,n,g,?_,.inr ⟨by simpa using h1,f,u,rest,rfl,by simpa using k2,k3,k4,k5,k6⟩,Nat.le_refl _,by omega,fun _ _=>rfl⟩;unfold CS.append;rw [hlen];simp only [hy,c1,cond_false];rw [zcl (by omega)];simp only [cond_true,hk];rfl
    |false =>
      have hk0:k≠0:=fun h=>by rw [h] at hk;simp at hk
      have hfl:lim≤f:=by omega
      have hold:(bif Nat.beq len 0 then some ([],St n g lim rd' wr) else CS.firstCells (St n g lim rd' wr) e len (.slice (some (mkA f u 0)) len len))=some (cells,St n g lim rd' wr):=by
        cases hz:Nat.beq len 0 with
        |true =>
          have:=Nat.eq_of_beq_eq_true hz;subst this;have:cells=[]:=by simpa using h1
          rw [this];rfl
        |false =>
          rw [cond_false,zhe (cs:=cells) (by rw [k2];simp [zat,Nat.beq_refl]) (by omega) hfl];rw [List.drop_zero,List.take_of_length_le (by omega)]
      refine ⟨some (mkA n (n*1024+(e+1)) 0),n+1,fupd g n ⟨false,[(n*1024+(e+1),cells++xs)],none⟩,?_,.inl ⟨by rw [List.length_append,h1,hx,Nat.add_mul],.inr ⟨n,_,[],rfl,zaf _ _ _,hm,by omega,by omega,by omega⟩⟩,by omega,by omega,fun i hi=>zae _ _ _ _ (by omega)⟩;unfold CS.append;rw [hlen];simp only [hy,c1,cond_false];rw [zte (by omega)];simp only [cond_false,hold,zfn];rw [zd1 k6];simp only [cond_true,zhp,zdy]
theorem OwnX.push {m len bytes:Nat} {ao:Option Addr} {cells:List Value} {v:Value} (h:OwnX m g n 1 ao len cells) (hm:m≤n) (hl:lim≤m) (hv:oneC v=true) (hb:(len+1)*(bytes+1)≤1000000000) :
    ∃ ao' n' g',CS.append (St (n+1) (fupd g n ⟨false,[(n*1024+0,[v])],none⟩) lim rd wr) 1 bytes ao len len (.slice (some (mkA n (n*1024+0) 0)) 1 1)=some (.slice ao' (len+1) (len+1),St n' g' lim rd wr)∧OwnX m g' n' 1 ao' (len+1) (cells++[v])∧n+1≤n'∧n'≤n+2∧∀ i,i<m→g' i=g i:=by
  have h2:=h.keep (n':=n+1) (g':=fupd g n ⟨false,[(n*1024+0,[v])],none⟩) (fun i _ hi=>zae _ _ _ _ (by omega)) (by omega)
  obtain ⟨ao',n',g',a1,a2,a3,a4,a5⟩:=h2.append (bytes:=bytes) (rd:=rd) (wr:=wr) (rd':=rd) (xs:=[v]) (k:=1) (y:=.slice (some (mkA n (n*1024+0) 0)) 1 1) (by omega) hl rfl
    (by rw [zhe (cs:=[v]) (by rw [zaf];exact zah) (by simp) (by omega)];rfl) rfl (by simp [hv]) (by omega) hb
  exact ⟨ao',n',g',a1,a2,a3,by omega,fun i hi=>by rw [a5 i hi,zae _ _ _ _ (by omega)]⟩
section
variable {call:zdg} {d:Option Tmp} {ty:TypeId} {pos:String} {e:Array Edge} {q:Option (Nat×Bool)}
theorem zz5 {t:Nat} {args:Array Operand} {tys:Array TypeId}:cop P Γ call ρ ⟨d,.call ⟨.value (.tmp t),args,tys⟩,ty,pos,e,q⟩ s=zjd call s (args.toList.map ρ) (ρ (.tmp t)):=Eq.trans rfl rfl
theorem zr8 {f:FuncId} {first captured:Array Value} {args:List Value}:zjd call s args (.func (.func f) first captured)=call f (first.toList++args++captured.toList) s:=Eq.trans rfl rfl
theorem zz2 {fn:Fn} {first captured:Array Operand}:cop P Γ call ρ ⟨d,.makeFunc fn first captured,ty,pos,e,q⟩ s=some (.func fn (first.map ρ) (captured.map ρ),s):=Eq.trans rfl rfl
end
theorem ybx {t:TypeId} {j:TI} {a:Option Addr} {len cap:Nat} {b:ByteArray} (he:zb7 Γ t=some j) (hj:j.size=1) (h0:min b.size len=0):zjc Γ s t (.string b) (.slice a len cap)=some (.int .i64 0,s):=by
 unfold zjc;simp only [he,lenC,hj];rw [zlt (Nat.min_le_left _ _)];unfold zzz;simp only [h0];rfl
theorem W.last_ex {id:Nat} {ops:Array Oper} {Q:Exit→Fr→CS→Prop} (R:Fr→CS→Prop) (hf:z4y ops.toList=true) (h:∃ r:Fr×CS,zpw P Γ (za0 P Γ) ops.toList s.n ops.toList fr s=some r∧R r.1 r.2) (hq:∀ fr' s',R fr' s'→Q .normal fr' s'):W P Γ (.region id ops true) fr s Q:=by
 obtain ⟨⟨fr',s'⟩,h1,h2⟩:=h;exact W.last hf h1 (hq _ _ h2)
theorem W.cut {a:Code} {Q:Exit→Fr→CS→Prop} {k:Fr→CS→Prop} (R:Fr→CS→Prop) (h:W P Γ a fr s fun e fr s=>e=.normal∧R fr s) (hk:∀ fr s,R fr s→k fr s):W P Γ a fr s (onN k Q):=by
 refine h.mono ?_;rintro e fr s ⟨rfl,hR⟩;exact hk _ _ hR
end
end
section
open Go Go.RowKit
noncomputable def LL:List Nat:=[3,4,5,6,7,8,9,10,11,12,13,14,15,16,17,18,19,20,21,22,23,24,25,26,27,28,29,30,31,32,33,34,35,36,37,38,39,40,41,42,43,44,45,46,47,48,49,50,51,52,53,54,55,56,57,58,59,60,61,62,63,64,65,66,67,68,69,70,71,72,73,74,75,76]
def GG:List Nat:=[0,1]
noncomputable def EE (ax:Axs):Env:=zfs Tryd.prog LL ax
theorem zo7 (ax:Axs):zcm Tryd.prog (EE ax):=ybl _ _ _
theorem zww:zls Tryd.prog GG LL=true:=by kernel_rfl
theorem z97:Tryd.prog.follows .mixedOrders=true:=by kernel_rfl
theorem fn61 (ax:Axs):(EE ax).fn.at 61=some Tryd.f61:=by kernel_rfl
theorem fn65 (ax:Axs):(EE ax).fn.at 65=some Tryd.f65:=by kernel_rfl
theorem fn52 (ax:Axs):(EE ax).fn.at 52=some Tryd.f52:=by kernel_rfl
theorem fn53 (ax:Axs):(EE ax).fn.at 53=some Tryd.f53:=by kernel_rfl
theorem fn55 (ax:Axs):(EE ax).fn.at 55=some Tryd.f55:=by kernel_rfl
theorem fn49 (ax:Axs):(EE ax).fn.at 49=some Tryd.f49:=by kernel_rfl
theorem fn34 (ax:Axs):(EE ax).fn.at 34=some Tryd.f34:=by kernel_rfl
theorem fn36 (ax:Axs):(EE ax).fn.at 36=some Tryd.f36:=by kernel_rfl
theorem fn57 (ax:Axs):(EE ax).fn.at 57=some Tryd.f57:=by kernel_rfl
theorem fn33 (ax:Axs):(EE ax).fn.at 33=some Tryd.f33:=by kernel_rfl
theorem fn70 (ax:Axs):(EE ax).fn.at 70=some Tryd.f70:=by kernel_rfl
theorem fn71 (ax:Axs):(EE ax).fn.at 71=some Tryd.f71:=by kernel_rfl
theorem fn72 (ax:Axs):(EE ax).fn.at 72=some Tryd.f72:=by kernel_rfl
theorem fn66 (ax:Axs):(EE ax).fn.at 66=some Tryd.f66:=by kernel_rfl
theorem fn62 (ax:Axs):(EE ax).fn.at 62=some Tryd.f62:=by kernel_rfl
theorem fn54 (ax:Axs):(EE ax).fn.at 54=some Tryd.f54:=by kernel_rfl
theorem fn56 (ax:Axs):(EE ax).fn.at 56=some Tryd.f56:=by kernel_rfl
theorem fn67 (ax:Axs):(EE ax).fn.at 67=some Tryd.f67:=by kernel_rfl
theorem fn24 (ax:Axs):(EE ax).fn.at 24=some Tryd.f24:=by kernel_rfl
theorem fn26 (ax:Axs):(EE ax).fn.at 26=some Tryd.f26:=by kernel_rfl
theorem fn73 (ax:Axs):(EE ax).fn.at 73=some Tryd.f73:=by kernel_rfl
theorem fn74 (ax:Axs):(EE ax).fn.at 74=some Tryd.f74:=by kernel_rfl
theorem fn76 (ax:Axs):(EE ax).fn.at 76=some Tryd.f76:=by kernel_rfl
theorem ti4 (ax:Axs):(EE ax).ti.at 4=some ⟨.bool,1,1,[.bool false]⟩:=by kernel_rfl
theorem ti3 (ax:Axs):(EE ax).ti.at 3=some ⟨.int .i64,1,8,[.int .i64 0]⟩:=by kernel_rfl
theorem ti5 (ax:Axs):(EE ax).ti.at 5=some ⟨.int .u8,1,1,[.int .u8 0]⟩:=by kernel_rfl
theorem ti68 (ax:Axs):(EE ax).ti.at 68=some ⟨.int .u32,1,4,[.int .u32 0]⟩:=by kernel_rfl
theorem ti63 (ax:Axs):(EE ax).ti.at 63=some ⟨.int .u64,1,8,[.int .u64 0]⟩:=by kernel_rfl
theorem ti47 (ax:Axs):(EE ax).ti.at 47=some ⟨.int .u64,1,8,[.int .u64 0]⟩:=by kernel_rfl
theorem ti9 (ax:Axs):(EE ax).ti.at 9=some ⟨.string,1,16,[.string ⟨#[]⟩]⟩:=by kernel_rfl
theorem ti43 (ax:Axs):(EE ax).ti.at 43=some ⟨.slice 5,1,24,[.slice none 0 0]⟩:=by kernel_rfl
theorem ti56 (ax:Axs):(EE ax).ti.at 56=some ⟨.slice 9,1,24,[.slice none 0 0]⟩:=by kernel_rfl
theorem ti90 (ax:Axs):(EE ax).ti.at 90=some ⟨.array 64 68,64,256,List.replicate 64 (.int .u32 0)⟩:=by kernel_rfl
theorem ti69 (ax:Axs):(EE ax).ti.at 69=some ⟨.array 8 68,8,32,List.replicate 8 (.int .u32 0)⟩:=by kernel_rfl
theorem ti93 (ax:Axs):(EE ax).ti.at 93=some ⟨.array 4 68,4,16,List.replicate 4 (.int .u32 0)⟩:=by kernel_rfl
theorem ti70 (ax:Axs):(EE ax).ti.at 70=some ⟨.array 64 5,64,64,List.replicate 64 (.int .u8 0)⟩:=by kernel_rfl
theorem ti76 (ax:Axs):(EE ax).ti.at 76=some ⟨.array 32 5,32,32,List.replicate 32 (.int .u8 0)⟩:=by kernel_rfl
theorem zms (ax:Axs):zb7 (EE ax) 43=some ⟨.int .u8,1,1,[.int .u8 0]⟩:=by unfold zb7;rw [ti43];simp only [ti5]
theorem zlf (ax:Axs):srcT (EE ax) 43=true:=by unfold srcT;rw [ti43]
theorem z78 (ax:Axs):srcT (EE ax) 9=true:=by unfold srcT;rw [ti9]
theorem zfw (x:UInt8):(vb x).cells=#[vb x]:=Eq.trans rfl rfl
theorem wE:type_of% (And.intro (And.intro (And.intro (@zaw) (And.intro (@zgv) (@get_of))) (And.intro (@zaa) (And.intro (@zab) (@Tryd.underlying3)))) (And.intro (And.intro (@Tryd.underlying43) (And.intro (@Tryd.underlying47) (@Tryd.underlying5))) (And.intro (@Tryd.underlying63) (And.intro (@Tryd.underlying68) (@Tryd.underlying9))))):=And.intro (And.intro (And.intro (@zaw) (And.intro (@zgv) (@get_of))) (And.intro (@zaa) (And.intro (@zab) (@Tryd.underlying3)))) (And.intro (And.intro (@Tryd.underlying43) (And.intro (@Tryd.underlying47) (@Tryd.underlying5))) (And.intro (@Tryd.underlying63) (And.intro (@Tryd.underlying68) (@Tryd.underlying9))))
theorem wC:type_of% (And.intro (And.intro (And.intro (@yfr) (@cond_true.{1})) (And.intro (@cond_false.{1}) (@List.toList_toArray.{0}))) (And.intro (And.intro (@List.map_cons.{0,0}) (@List.map_nil.{0,0})) (And.intro (@z2t) (@z31)))):=And.intro (And.intro (And.intro (@yfr) (@cond_true.{1})) (And.intro (@cond_false.{1}) (@List.toList_toArray.{0}))) (And.intro (And.intro (@List.map_cons.{0,0}) (@List.map_nil.{0,0})) (And.intro (@z2t) (@z31)))
theorem wB0:type_of% (And.intro (And.intro (And.intro (And.intro (@zz7) (And.intro (@zfk) (@zkw))) (And.intro (@yb0) (And.intro (@zz6) (@zm1)))) (And.intro (And.intro (@zs6) (And.intro (@zw8) (@zia))) (And.intro (@zs5) (And.intro (@zz4) (@zoa))))) (And.intro (And.intro (And.intro (@zz3) (And.intro (@zn9) (@z5d))) (And.intro (@zh9) (And.intro (@zp6) (@z5c)))) (And.intro (And.intro (@ybz) (And.intro (@zz1) (@zz0))) (And.intro (@zn8) (And.intro (@zh7) (@zgw)))))):=And.intro (And.intro (And.intro (And.intro (@zz7) (And.intro (@zfk) (@zkw))) (And.intro (@yb0) (And.intro (@zz6) (@zm1)))) (And.intro (And.intro (@zs6) (And.intro (@zw8) (@zia))) (And.intro (@zs5) (And.intro (@zz4) (@zoa))))) (And.intro (And.intro (And.intro (@zz3) (And.intro (@zn9) (@z5d))) (And.intro (@zh9) (And.intro (@zp6) (@z5c)))) (And.intro (And.intro (@ybz) (And.intro (@zz1) (@zz0))) (And.intro (@zn8) (And.intro (@zh7) (@zgw)))))
theorem wB1:type_of% (And.intro (And.intro (And.intro (And.intro (@zgv) (@ybk)) (And.intro (@zzo) (And.intro (@zaw) (@get_of)))) (And.intro (And.intro (@zsr) (And.intro (@zwv) (@z4t))) (And.intro (@z4s) (And.intro (@z4r) (@z4q))))) (And.intro (And.intro (And.intro (@z1m) (And.intro (@zmx) (@z3k))) (And.intro (@zhl) (And.intro (@zja) (@zxx)))) (And.intro (And.intro (@zxw) (And.intro (@zfd) (@z2r))) (And.intro (@zfb) (And.intro (@zab) (@zaa)))))):=And.intro (And.intro (And.intro (And.intro (@zgv) (@ybk)) (And.intro (@zzo) (And.intro (@zaw) (@get_of)))) (And.intro (And.intro (@zsr) (And.intro (@zwv) (@z4t))) (And.intro (@z4s) (And.intro (@z4r) (@z4q))))) (And.intro (And.intro (And.intro (@z1m) (And.intro (@zmx) (@z3k))) (And.intro (@zhl) (And.intro (@zja) (@zxx)))) (And.intro (And.intro (@zxw) (And.intro (@zfd) (@z2r))) (And.intro (@zfb) (And.intro (@zab) (@zaa)))))
end
section
open Go Go.RowKit
inductive T where
 |int (k:IntKind) (n:Int)
 |bool (b:Bool)
 |str (b:ByteArray)
 |agg (l:List T)
 |tup (l:List T)
 |lst (e:Nat) (l:List T)
 |nils
 |nilp
 |nilm
 |nilf
 |ptr (b off N:Nat)
 |cp (l:List T)
 |arr (b e off len cap N:Nat)
 |mp (b:Nat)
 |fn (f:Nat) (first cap:List T)
 |junk
 |emp (e:Nat)
def T.cells:T→List T
 |.agg l=>l
 |t=>[t]
inductive Loc where
 |live (f u N:Nat)
 |nil
 |map (r:Nat)
 |dead
def Loc.le:Loc→Loc→Prop
 |.live f u N,l=>match l with|.live f' u' N'=>(f=f'∧u=u'∧N=N')∨N<N' | .dead=>True|_=>False
 |.nil,l=>match l with|.nil=>True|.live _ _ N=>0<N|.dead=>True|_=>False
 |.map r,l=>match l with|.map r'=>r=r' | .dead=>True|_=>False
 |.dead,l=>match l with|.dead=>True|_=>False
theorem Loc.le_refl (l:Loc):Loc.le l l:=by cases l<;>simp [Loc.le]
theorem Loc.le_trans {a b c:Loc} (h:Loc.le a b) (k:Loc.le b c):Loc.le a c:=by
 cases a<;>cases b<;>cases c<;>simp_all [Loc.le]<;>omega
abbrev Bx:=Nat→Option Loc
def Bx.le (β β':Bx):Prop:=∀ b l,β b=some l→∃ l',β' b=some l'∧Loc.le l l'
theorem Bx.le_refl (β:Bx):Bx.le β β:=fun b l h=>⟨l,h,Loc.le_refl l⟩
theorem Bx.le_trans {a b c:Bx} (h:Bx.le a b) (k:Bx.le b c):Bx.le a c:=fun x l hx=>by
 obtain ⟨l',h1,h2⟩:=h x l hx;obtain ⟨l2,h3,h4⟩:=k x l' h1;exact ⟨l2,h3,Loc.le_trans h2 h4⟩
def yc7 (u e:Nat):Prop:=u % 1024=0∨u % 1024=e+1
mutual
inductive VT (A:Nat→Prop) (β:Bx) (g:Nat→Fam):T→Value→Prop
 |int (k n):VT A β g (.int k n) (.int k n)
 |bool (b):VT A β g (.bool b) (.bool b)
 |str (b):VT A β g (.str b) (.string b)
 |agg {l cs}:VL A β g l cs→VT A β g (.agg l) (.agg ⟨cs⟩)
 |tup {l vs}:VL A β g l vs→VT A β g (.tup l) (.tuple ⟨vs⟩)
 |lnil {e}:VT A β g (.lst e []) (.slice none 0 0)
 |lst {e l f u off cap cs cs0}:A f→zat (g f).rows u=some cs0→VL A β g (l.flatMap T.cells) cs→(∀ t,t∈l→t.cells.length=e)→0<e→(cs0.drop off).take cs.length=cs→yc7 u e→l.length≤cap→VT A β g (.lst e l) (.slice (some (mkA f u off)) l.length cap)
 |nils:VT A β g .nils (.slice none 0 0)
 |nilp:VT A β g .nilp (.pointer none)
 |nilm:VT A β g .nilm (.map none)
 |nilf:VT A β g .nilf .nilFunc
 |ptr {b off f u N}:β b=some (.live f u N)→VT A β g (.ptr b off N) (.pointer (some (mkA f u off)))
 |ptrOld {b off N l v}:β b=some l→(∀ f u,l≠.live f u N)→Loc.le (.live 0 0 N) l→oneC v=true→VT A β g (.ptr b off N) v
 |cp {l f u off cs cs0}:A f→zat (g f).rows u=some cs0→VL A β g l cs→(cs0.drop off).take cs.length=cs→VT A β g (.cp l) (.pointer (some (mkA f u off)))
 |arr {b e off len cap f u N}:β b=some (.live f u N)→yc7 u e→VT A β g (.arr b e off len cap N) (.slice (some (mkA f u off)) len cap)
 |arrNil {b e}:β b=some .nil→VT A β g (.arr b e 0 0 0 0) (.slice none 0 0)
 |arrOld {b e off len cap N l v}:β b=some l→(∀ f u,l≠.live f u N)→Loc.le (.live 0 0 N) l→oneC v=true→VT A β g (.arr b e off len cap N) v
 |mp {b r}:β b=some (.map r)→VT A β g (.mp b) (.map (some r))
 |mpOld {b v}:β b=some .dead→oneC v=true→VT A β g (.mp b) v
 |fn {f a c va vc}:VL A β g a va→VL A β g c vc→VT A β g (.fn f a c) (.func (.func f) ⟨va⟩ ⟨vc⟩)
 |junk (v):VT A β g .junk v
 |emp {e f u off cap cs0}:A f→zat (g f).rows u=some cs0→0<e→yc7 u e→VT A β g (.emp e) (.slice (some (mkA f u off)) 0 cap)
inductive VL (A:Nat→Prop) (β:Bx) (g:Nat→Fam):List T→List Value→Prop
 |nil:VL A β g [] []
 |cons {t v l vs}:VT A β g t v→VL A β g l vs→VL A β g (t :: l) (v :: vs)
end
section
variable {A A':Nat→Prop} {β β':Bx} {g g':Nat→Fam}
theorem yab {f u N:Nat} {l:Loc} (h:Loc.le (.live f u N) l):l=.live f u N∨((∀ f u,l≠.live f u N)∧Loc.le (.live 0 0 N) l):=by
 cases l with
 |live f' u' N' =>
  simp only [Loc.le] at h;rcases h with ⟨rfl,rfl,rfl⟩|h
  ·exact .inl rfl
  ·refine .inr ⟨fun f u hh=>?_,.inr h⟩
   cases hh;omega
 |dead=>exact .inr ⟨fun _ _ hh=>by simp at hh,trivial⟩
 |nil=>simp [Loc.le] at h
 |map r=>simp [Loc.le] at h
theorem yfs {N:Nat} {l l':Loc} (h0:∀ f u,l≠.live f u N) (h:Loc.le (.live 0 0 N) l) (k:Loc.le l l'):(∀ f u,l'≠.live f u N)∧Loc.le (.live 0 0 N) l':=by
 cases l with
 |live f' u' N' =>
  simp only [Loc.le] at h
  have hN:N<N':=by
   rcases h with ⟨h1,h2,h3⟩|h
   ·exact absurd rfl (h3 ▸ h0 f' u')
   ·exact h
  cases l' with
  |live f2 u2 N2 =>
   simp only [Loc.le] at k;have:N<N2:=by rcases k with ⟨_,_,rfl⟩|k<;>omega
   exact ⟨fun f u hh=>by cases hh;omega,.inr this⟩
  |dead=>exact ⟨fun _ _ hh=>by simp at hh,trivial⟩
  |nil=>simp [Loc.le] at k
  |map r=>simp [Loc.le] at k
 |dead =>
  cases l' with
  |dead=>exact ⟨fun _ _ hh=>by simp at hh,trivial⟩
  |_=>simp [Loc.le] at k
 |nil=>simp [Loc.le] at h
 |map r=>simp [Loc.le] at h
mutual
theorem VT.mono (hA:∀ f,A f→A' f) (hg:∀ f,A f→g' f=g f) (hβ:Bx.le β β'):∀ {t:T} {v:Value},VT A β g t v→VT A' β' g' t v
 |_,_,.int k n=>.int k n
 |_,_,.bool b=>.bool b
 |_,_,.str b=>.str b
 |_,_,.agg h=>.agg (VL.mono hA hg hβ h)
 |_,_,.tup h=>.tup (VL.mono hA hg hβ h)
 |_,_,.lnil=>.lnil
 |_,_,.lst h1 h2 h3 h4 h5 h6 h7 h8=>.lst (hA _ h1) (by rw [hg _ h1];exact h2) (VL.mono hA hg hβ h3) h4 h5 h6 h7 h8
 |_,_,.nils=>.nils
 |_,_,.nilp=>.nilp
 |_,_,.nilm=>.nilm
 |_,_,.nilf=>.nilf
 |_,_,.ptr h=>by
  obtain ⟨l',h1,h2⟩:=hβ _ _ h;rcases yab h2 with rfl|⟨h3,h4⟩
  ·exact .ptr h1
  ·exact .ptrOld h1 h3 h4 rfl
 |_,_,.ptrOld h h0 h1 h2=>by
  obtain ⟨l',k1,k2⟩:=hβ _ _ h;obtain ⟨k3,k4⟩:=yfs h0 h1 k2;exact .ptrOld k1 k3 k4 h2
 |_,_,.cp h1 h2 h3 h4=>.cp (hA _ h1) (by rw [hg _ h1];exact h2) (VL.mono hA hg hβ h3) h4
 |_,_,.arr h ht=>by
  obtain ⟨l',h1,h2⟩:=hβ _ _ h;rcases yab h2 with rfl|⟨h3,h4⟩
  ·exact .arr h1 ht
  ·exact .arrOld h1 h3 h4 rfl
 |_,_,.arrNil h=>by
  obtain ⟨l',h1,h2⟩:=hβ _ _ h
  cases l' with
  |nil=>exact .arrNil h1
  |live f u N =>
   simp only [Loc.le] at h2;exact .arrOld h1 (fun f u hh=>by cases hh;omega) (.inr h2) rfl
  |dead=>exact .arrOld h1 (fun _ _ hh=>by simp at hh) trivial rfl
  |map r=>simp [Loc.le] at h2
 |_,_,.arrOld h h0 h1 h2=>by
  obtain ⟨l',k1,k2⟩:=hβ _ _ h;obtain ⟨k3,k4⟩:=yfs h0 h1 k2;exact .arrOld k1 k3 k4 h2
 |_,_,.mp h=>by
  obtain ⟨l',h1,h2⟩:=hβ _ _ h
  cases l' with
  |map r=>simp only [Loc.le] at h2;subst h2;exact .mp h1
  |dead=>exact .mpOld h1 rfl
  |_=>simp [Loc.le] at h2
 |_,_,.mpOld h h2=>by
  obtain ⟨l',k1,k2⟩:=hβ _ _ h
  cases l' with
  |dead=>exact .mpOld k1 h2
  |_=>simp [Loc.le] at k2
 |_,_,.fn h1 h2=>.fn (VL.mono hA hg hβ h1) (VL.mono hA hg hβ h2)
 |_,_,.junk v=>.junk v
 |_,_,.emp h1 h2 h3 h4=>.emp (hA _ h1) (by rw [hg _ h1];exact h2) h3 h4
theorem VL.mono (hA:∀ f,A f→A' f) (hg:∀ f,A f→g' f=g f) (hβ:Bx.le β β'):∀ {l:List T} {vs:List Value},VL A β g l vs→VL A' β' g' l vs
 |_,_,.nil=>.nil
 |_,_,.cons h k=>.cons (VT.mono hA hg hβ h) (VL.mono hA hg hβ k)
end
theorem VL.len:∀ {l:List T} {vs:List Value},VL A β g l vs→l.length=vs.length
 |_,_,.nil=>rfl
 |_,_,.cons _ k=>by rw [List.length_cons,List.length_cons,k.len]
theorem VL.get:∀ {l:List T} {vs:List Value} {i:Nat} {t:T},VL A β g l vs→l[i]?=some t→∃ v,vs[i]?=some v∧VT A β g t v
 |_,_,_,_,.nil,h=>by simp at h
 |_,_,0,_,.cons h k,hi=>by simp at hi;subst hi;exact ⟨_,rfl,h⟩
 |_,_,i+1,_,.cons h k,hi=>by
  obtain ⟨v,h1,h2⟩:=VL.get (i:=i) k (by simpa using hi);exact ⟨v,by simpa using h1,h2⟩
theorem VL.append:∀ {l l2:List T} {vs vs2:List Value},VL A β g l vs→VL A β g l2 vs2→VL A β g (l++l2) (vs++vs2)
 |_,_,_,_,.nil,k=>k
 |_,_,_,_,.cons h k,k2=>.cons h (k.append k2)
theorem VL.split:∀ {l l2:List T} {vs:List Value},VL A β g (l++l2) vs→∃ a b,vs=a++b∧VL A β g l a∧VL A β g l2 b
 |[],_,vs,h=>⟨[],vs,rfl,.nil,h⟩
 |t :: l,l2,_,.cons h k=>by
  obtain ⟨a,b,rfl,h1,h2⟩:=VL.split (l:=l) k;exact ⟨_ :: a,b,rfl,.cons h h1,h2⟩
theorem VL.take:∀ {l:List T} {vs:List Value} (n:Nat),VL A β g l vs→VL A β g (l.take n) (vs.take n)
 |_,_,0,_=>by simp only [List.take_zero];exact .nil
 |_,_,n+1,.nil=>by simp only [List.take_nil];exact .nil
 |_,_,n+1,.cons h k=>by simp only [List.take_succ_cons];exact .cons h (k.take n)
theorem VL.drop:∀ {l:List T} {vs:List Value} (n:Nat),VL A β g l vs→VL A β g (l.drop n) (vs.drop n)
 |_,_,0,h=>h
 |_,_,n+1,.nil=>by simp only [List.drop_nil];exact .nil
 |_,_,n+1,.cons h k=>by simp only [List.drop_succ_cons];exact k.drop n
theorem VL.splice {l xs:List T} {vs ys:List Value} (off:Nat) (h:VL A β g l vs) (k:VL A β g xs ys):VL A β g (l.take off++xs++l.drop (off+xs.length)) (splice vs off ys):=by
 unfold Go.Proofs.YtcgdomhednbdpaaDoor.splice;rw [k.len];exact ((h.take off).append k).append (h.drop _)
theorem VL.rep {t:T} {v:Value} (h:VT A β g t v):∀ n,VL A β g (List.replicate n t) (List.replicate n v)
 |0=>.nil
 |n+1=>.cons h (VL.rep h n)
def T.one:T→Bool
 |.agg _=>false
 |.tup _=>false
 |.junk=>false
 |_=>true
theorem VT.one {t:T} {v:Value} (h:VT A β g t v) (ht:t.one=true):oneC v=true:=by
 cases h<;>first|rfl|assumption | (simp [T.one] at ht)
theorem VL.one {l:List T} {vs:List Value} (h:VL A β g l vs) (hl:l.all T.one=true):vs.all oneC=true:=by
 induction l generalizing vs with
 |nil=>cases h;rfl
 |cons t l ih =>
  cases h with
  |cons h1 h2 =>
   simp only [List.all_cons,Bool.and_eq_true] at hl ⊢;exact ⟨h1.one hl.1,ih h2 hl.2⟩
theorem VT.cells {t:T} {v:Value} (h:VT A β g t v) (hj:t≠.junk):VL A β g t.cells v.cells.toList:=by
 have one:∀ v:Value,oneC v=true→v.cells.toList=[v]:=by intro v hv;cases v<;>first|rfl|simp [oneC] at hv
 cases h with
 |agg h=>exact h
 |junk=>exact absurd rfl hj
 |tup h=>exact .cons (.tup h) .nil
 |ptrOld h0 h1 h2 h3=>simp only [T.cells];rw [one _ h3];exact .cons (.ptrOld h0 h1 h2 h3) .nil
 |arrOld h0 h1 h2 h3=>simp only [T.cells];rw [one _ h3];exact .cons (.arrOld h0 h1 h2 h3) .nil
 |mpOld h0 h3=>simp only [T.cells];rw [one _ h3];exact .cons (.mpOld h0 h3) .nil
 |int k n=>exact .cons (.int k n) .nil
 |bool b=>exact .cons (.bool b) .nil
 |str b=>exact .cons (.str b) .nil
 |lnil=>exact .cons .lnil .nil
 |lst h1 h2 h3 h4 h5 h6 h7 h8=>exact .cons (.lst h1 h2 h3 h4 h5 h6 h7 h8) .nil
 |nils=>exact .cons .nils .nil
 |nilp=>exact .cons .nilp .nil
 |nilm=>exact .cons .nilm .nil
 |nilf=>exact .cons .nilf .nil
 |ptr h=>exact .cons (.ptr h) .nil
 |cp h1 h2 h3 h4=>exact .cons (.cp h1 h2 h3 h4) .nil
 |arr h ht=>exact .cons (.arr h ht) .nil
 |arrNil h=>exact .cons (.arrNil h) .nil
 |mp h=>exact .cons (.mp h) .nil
 |fn h1 h2=>exact .cons (.fn h1 h2) .nil
 |emp h1 h2 h3 h4=>exact .cons (.emp h1 h2 h3 h4) .nil
end
end
section
open Go Go.RowKit
inductive Box where
 |gone
 |cells (z:Bool) (N:Nat) (l:List T)
 |map (l:List (T×T))
structure TS where
 n:Nat
 box:Nat→Box
def ts0:TS:=⟨0,fun _=>.gone⟩
def TS.set (S:TS) (b:Nat) (x:Box):TS:=⟨S.n,fun i=>if i=b then x else S.box i⟩
def TS.add (S:TS) (x:Box):TS:=⟨S.n+1,fun i=>if i=S.n then x else S.box i⟩
theorem TS.set_same (S:TS) (b:Nat) (x:Box):(S.set b x).box b=x:=if_pos rfl
theorem TS.set_ne (S:TS) {b c:Nat} (x:Box) (h:c≠b):(S.set b x).box c=S.box c:=if_neg h
theorem TS.add_same (S:TS) (x:Box):(S.add x).box S.n=x:=if_pos rfl
theorem TS.add_ne (S:TS) {c:Nat} (x:Box) (h:c≠S.n):(S.add x).box c=S.box c:=if_neg h
def Own (β:Bx) (f:Nat):Prop:=∃ b,(∃ u N,β b=some (.live f u N))∨β b=some (.map f)
def Loc.fam:Loc→Option Nat
 |.live f _ _=>some f
 |.map r=>some r
 |_=>none
def zha (A:Nat→Prop) (β:Bx) (g:Nat→Fam) (b:Nat) (z:Bool) (N:Nat) (l:List T):Prop :=
 l.length=N∧((β b=some .nil∧N=0∧z=false)∨∃ f u cs rest,β b=some (.live f u N)∧(z=true→u % 1024=0)∧g f=⟨false,(u,cs) :: rest,none⟩∧VL A β g l cs∧cs.all oneC=true)
def VM (A:Nat→Prop) (β:Bx) (g:Nat→Fam) (l:List (T×T)) (es:List (Value×Value)):Prop :=
 VL A β g (l.map (·.1)) (es.map (·.1))∧VL A β g (l.map (·.2)) (es.map (·.2))
def zq8 (A:Nat→Prop) (β:Bx) (g:Nat→Fam) (b:Nat) (l:List (T×T)):Prop :=
 ∃ r es,β b=some (.map r)∧g r=⟨false,[],some es⟩∧VM A β g l es
structure TRel (GL:List (Nat×List Value)) (A:Nat→Prop) (β:Bx) (S:TS) (s:CS):Prop where
 inr:∃ g,s.obj=.inr g
 inv:CInv s
 alt:∀ f,A f→f<s.n
 dis:∀ f,Own β f→f<s.n∧¬ A f
 inj:∀ b b' l l' f,β b=some l→β b'=some l'→l.fam=some f→l'.fam=some f→b=b'
 next:∀ b,S.n≤b→β b=none
 cells:∀ b z N l,S.box b=.cells z N l→zha A β (zag s.obj) b z N l
 maps:∀ b l,S.box b=.map l→zq8 A β (zag s.obj) b l
 glob:∀ x,x∈GL→A x.1∧zat (zag s.obj x.1).rows (x.1*1024)=some x.2
structure Stp (A:Nat→Prop) (β:Bx) (s:CS) (A':Nat→Prop) (β':Bx) (s':CS):Prop where
 can:Can s s'
 sub:∀ f,A f→A' f
 new:∀ f,A' f→A f∨s.n≤f∨Own β f
 own:∀ f,Own β' f→Own β f∨s.n≤f
 keep:∀ f,f<s.n→¬ Own β f→zag s'.obj f=zag s.obj f
 bx:Bx.le β β'
 rd:∀ x,x∈s'.rd→x∈s.rd∨(x<s.lim∧(A x∨Own β x))
 wr:∀ x,x∈s'.wr→x∈s.wr∨(x<s.lim∧Own β x)
section
variable {GL:List (Nat×List Value)} {A A' A2:Nat→Prop} {β β' β2:Bx} {S S':TS} {s s' s2:CS}
theorem Stp.refl:Stp A β s A β s:=⟨Can.refl _,fun _ h=>h,fun _ h=>.inl h,fun _ h=>.inl h,fun _ _ _=>rfl,Bx.le_refl _,fun _ h=>.inl h,fun _ h=>.inl h⟩
theorem Stp.trans (hl:s.lim≤s.n) (h:Stp A β s A' β' s') (k:Stp A' β' s' A2 β2 s2):Stp A β s A2 β2 s2:=by
 have hn:=h.can.n;refine ⟨h.can.trans k.can,fun f hf=>k.sub f (h.sub f hf),fun f hf=>?_,fun f hf=>?_,fun f hf ho=>?_,Bx.le_trans h.bx k.bx,fun x hx=>?_,fun x hx=>?_⟩
 ·rcases k.new f hf with q|q|q
  ·exact h.new f q
  ·exact .inr (.inl (by omega))
  ·rcases h.own f q with q|q
   ·exact .inr (.inr q)
   ·exact .inr (.inl q)
 ·rcases k.own f hf with q|q
  ·exact h.own f q
  ·exact .inr (by omega)
 ·rw [k.keep f (by omega) (fun q=>by rcases h.own f q with q|q;exact ho q;omega)];exact h.keep f hf ho
 ·rcases k.rd x hx with q|⟨q,q2⟩
  ·exact h.rd x q
  ·rw [h.can.lim] at q;refine .inr ⟨q,?_⟩;rcases q2 with q2|q2
   ·rcases h.new x q2 with q3|q3|q3
    ·exact .inl q3
    ·omega
    ·exact .inr q3
   ·rcases h.own x q2 with q3|q3
    ·exact .inr q3
    ·omega
 ·rcases k.wr x hx with q|⟨q,q2⟩
  ·exact h.wr x q
  ·rw [h.can.lim] at q;refine .inr ⟨q,?_⟩;rcases h.own x q2 with q3|q3
   ·exact q3
   ·omega
theorem Stp.old (h:TRel GL A β S s) (k:Stp A β s A' β' s'):∀ f,A f→zag s'.obj f=zag s.obj f:=fun f hf=>k.keep f (h.alt f hf) fun ho=>(h.dis f ho).2 hf
theorem Stp.vt (h:TRel GL A β S s) (k:Stp A β s A' β' s') {t:T} {v:Value} (hv:VT A β (zag s.obj) t v):VT A' β' (zag s'.obj) t v:=hv.mono k.sub (k.old h) k.bx
theorem Stp.vl (h:TRel GL A β S s) (k:Stp A β s A' β' s') {t:List T} {v:List Value} (hv:VL A β (zag s.obj) t v):VL A' β' (zag s'.obj) t v:=hv.mono k.sub (k.old h) k.bx
def Ok (GL:List (Nat×List Value)) (A:Nat→Prop) (β:Bx) (s:CS) (r:Option (Value×CS)) (t:T) (S':TS):Prop :=
 ∃ v s' A' β',r=some (v,s')∧TRel GL A' β' S' s'∧VT A' β' (zag s'.obj) t v∧Stp A β s A' β' s'
theorem Ok.same (h:TRel GL A β S s) {t:T} {v:Value} (hv:VT A β (zag s.obj) t v):Ok GL A β s (some (v,s)) t S:=⟨v,s,A,β,rfl,h,hv,Stp.refl⟩
theorem Can.read (s:CS) (f:Nat):Can s { s with rd:=ins s.lim s.rd f }:=by
 refine ⟨Nat.le_refl _,rfl,fun x hx=>?_,fun _ h=>h,fun _ _ _ _=>rfl,fun _ _=>rfl,fun h=>h,fun h=>h,fun h=>h⟩;show x∈ins s.lim s.rd f;unfold ins
 cases Nat.blt f s.lim with
 |false=>exact hx
 |true =>
  cases has s.rd f with
  |true=>exact hx
  |false=>exact List.mem_cons_of_mem _ hx
theorem TRel.read (h:TRel GL A β S s) (f:Nat):TRel GL A β S { s with rd:=ins s.lim s.rd f } :=
 ⟨h.inr,⟨h.inv.none,h.inv.vers,h.inv.lim⟩,h.alt,h.dis,h.inj,h.next,h.cells,h.maps,h.glob⟩
theorem Stp.read {f:Nat} (hf:A f∨Own β f):Stp A β s A β { s with rd:=ins s.lim s.rd f }:=by
 refine ⟨Can.read s f,fun _ h=>h,fun _ h=>.inl h,fun _ h=>.inl h,fun _ _ _=>rfl,Bx.le_refl _,fun x hx=>?_,fun _ h=>.inl h⟩;rcases zcf hx with q|⟨rfl,q⟩
 ·exact .inl q
 ·exact .inr ⟨q,hf⟩
theorem Ok.read (h:TRel GL A β S s) {f:Nat} (hf:A f∨Own β f) {t:T} {v:Value} (hv:VT A β (zag s.obj) t v):Ok GL A β s (some (v,{ s with rd:=ins s.lim s.rd f })) t S :=
 ⟨v,_,A,β,rfl,h.read f,hv,Stp.read hf⟩
theorem zb2 {b f u N:Nat} (h:β b=some (.live f u N)):Own β f:=⟨b,.inl ⟨u,N,h⟩⟩
theorem zf7 {b r:Nat} (h:β b=some (.map r)):Own β r:=⟨b,.inr h⟩
def bnew (β:Bx) (b:Nat) (l:Loc):Bx:=fun i=>if i=b then some l else β i
theorem ztb {b:Nat} {l:Loc} (h:β b=none):Bx.le β (bnew β b l):=fun i x hx=>by
 refine ⟨x,?_,Loc.le_refl x⟩;unfold bnew;rw [if_neg (fun hh=>by subst hh;rw [h] at hx;simp at hx)];exact hx
theorem zha.mono {g g':Nat→Fam} {b N:Nat} {z:Bool} {l:List T} (hA:∀ f,A f→A' f) (hg:∀ f,A f→g' f=g f) (hβ:Bx.le β β') (hb:β' b=β b) (ho:∀ f u N,β b=some (.live f u N)→g' f=g f) (h:zha A β g b z N l):zha A' β' g' b z N l:=by
 obtain ⟨h1,h2⟩:=h;refine ⟨h1,?_⟩;rcases h2 with ⟨k1,k2⟩|⟨f,u,cs,rest,k1,kz,k2,k3,k4⟩
 ·exact .inl ⟨by rw [hb];exact k1,k2⟩
 ·exact .inr ⟨f,u,cs,rest,by rw [hb];exact k1,kz,by rw [ho f u N k1];exact k2,k3.mono hA hg hβ,k4⟩
theorem zq8.mono {g g':Nat→Fam} {b:Nat} {l:List (T×T)} (hA:∀ f,A f→A' f) (hg:∀ f,A f→g' f=g f) (hβ:Bx.le β β') (hb:β' b=β b) (ho:∀ r,β b=some (.map r)→g' r=g r) (h:zq8 A β g b l):zq8 A' β' g' b l:=by
 obtain ⟨r,es,h1,h2,h3,h4⟩:=h;exact ⟨r,es,by rw [hb];exact h1,by rw [ho r h1];exact h2,h3.mono hA hg hβ,h4.mono hA hg hβ⟩
structure zi3 (A:Nat→Prop) (β:Bx) (s:CS) (A':Nat→Prop) (s':CS):Prop where
 can:Can s s'
 sub:∀ f,A f→A' f
 new:∀ f,A' f→A f∨s.n≤f
 keep:∀ f,f<s.n→zag s'.obj f=zag s.obj f
 rd:∀ x,x∈s'.rd→x∈s.rd∨(x<s.lim∧(A x∨Own β x))
 wr:∀ x,x∈s'.wr→x∈s.wr
theorem zi3.stp (k:zi3 A β s A' s'):Stp A β s A' β s':=⟨k.can,k.sub,fun f hf=>(k.new f hf).imp id .inl,fun f hf=>.inl hf,fun f hf _=>k.keep f hf,Bx.le_refl _,k.rd,fun x hx=>.inl (k.wr x hx)⟩
theorem zi3.rel (hT:TRel GL A β S s) (k:zi3 A β s A' s') (hin:∃ g,s'.obj=.inr g) (hI:CInv s') (ha:∀ f,A' f→f<s'.n):TRel GL A' β S s':=by
 refine ⟨hin,hI,ha,fun f hf=>?_,hT.inj,hT.next,fun b z N l hb=>?_,fun b l hb=>?_,fun x hx=>?_⟩
 ·have:=hT.dis f hf;refine ⟨Nat.lt_of_lt_of_le this.1 k.can.n,fun hA=>?_⟩;rcases k.new f hA with q|q
  ·exact this.2 q
  ·omega
 ·exact (hT.cells b z N l hb).mono k.sub (fun f hf=>k.keep f (hT.alt f hf)) (Bx.le_refl _) rfl fun f u N hl=>k.keep f (hT.dis f (zb2 hl)).1
 ·exact (hT.maps b l hb).mono k.sub (fun f hf=>k.keep f (hT.alt f hf)) (Bx.le_refl _) rfl fun r hl=>k.keep r (hT.dis r (zf7 hl)).1
 ·have:=hT.glob x hx;exact ⟨k.sub _ this.1,by rw [k.keep _ (hT.alt _ this.1)];exact this.2⟩
def Ok0 (GL:List (Nat×List Value)) (A:Nat→Prop) (β:Bx) (S:TS) (s:CS) (r:Option (Value×CS)) (t:T):Prop :=
 ∃ v s' A',r=some (v,s')∧TRel GL A' β S s'∧VT A' β (zag s'.obj) t v∧zi3 A β s A' s'
theorem Ok0.ok {r:Option (Value×CS)} {t:T} (h:Ok0 GL A β S s r t):Ok GL A β s r t S:=by
 obtain ⟨v,s',A',h1,h2,h3,h4⟩:=h;exact ⟨v,s',A',β,h1,h2,h3,h4.stp⟩
theorem Ok0.same (h:TRel GL A β S s) {t:T} {v:Value} (hv:VT A β (zag s.obj) t v):Ok0 GL A β S s (some (v,s)) t :=
 ⟨v,s,A,rfl,h,hv,Can.refl _,fun _ h=>h,fun _ h=>.inl h,fun _ _=>rfl,fun _ h=>.inl h,fun _ h=>h⟩
theorem zi3.read {f:Nat} (hf:A f∨Own β f):zi3 A β s A { s with rd:=ins s.lim s.rd f }:=by
 refine ⟨Can.read s f,fun _ h=>h,fun _ h=>.inl h,fun _ _=>rfl,fun x hx=>?_,fun _ h=>h⟩;rcases zcf hx with q|⟨rfl,q⟩
 ·exact .inl q
 ·exact .inr ⟨q,hf⟩
theorem Ok0.read (h:TRel GL A β S s) {f:Nat} (hf:A f∨Own β f) {t:T} {v:Value} (hv:VT A β (zag s.obj) t v):Ok0 GL A β S s (some (v,{ s with rd:=ins s.lim s.rd f })) t :=
 ⟨v,_,A,rfl,h.read f,hv,zi3.read hf⟩
theorem TRel.fresh (h:TRel GL A β S s) (F:Fam) (hF:F.ro=false) (hv:∀ p,p∈F.rows→p.1 / 1024<s.n+1) :
    TRel GL A β S { s with n:=s.n+1,obj:=zay s.obj s.n F }∧Can s { s with n:=s.n+1,obj:=zay s.obj s.n F }∧(∀ f,f≠s.n→zag (zay s.obj s.n F) f=zag s.obj f)∧zag (zay s.obj s.n F) s.n=F:=by
  obtain ⟨n,ob,lim,rd,wr⟩:=s;obtain ⟨g,hg⟩:=h.inr;simp only at hg;subst hg;simp only [zei,znx];have hne:∀ f,f≠n→fupd g n F f=g f:=fun f hf=>zae g n f F hf;have hold:∀ f,f<n→fupd g n F f=g f:=fun f hf=>hne f (by omega);have hlim:lim≤n:=h.inv.lim
  have hI:CInv (⟨n+1,.inr (fupd g n F),lim,rd,wr⟩:CS):=by
    refine ⟨fun f hf=>?_,fun f p hp=>?_,by show lim≤n+1;omega⟩
    · show fupd g n F f=zds;rw [hne f (by have:n+1≤f:=hf;omega)];exact h.inv.none f (by have:n+1≤f:=hf;show n≤f;omega)
    · change p∈(fupd g n F f).rows at hp;show p.1 / 1024<n+1;by_cases hf:f=n
      · subst hf;rw [zaf] at hp;exact hv p hp
      · rw [hne f hf] at hp;have:p.1 / 1024<n:=h.inv.vers f p hp;omega
  refine ⟨⟨⟨_,rfl⟩,hI,fun f hf=>?_,fun f hf=>?_,h.inj,h.next,fun b z N l hb=>?_,fun b l hb=>?_,fun x hx=>?_⟩,?_,hne,zaf g n F⟩
  · have:f<n:=h.alt f hf;show f<n+1;omega
  · have:f<n∧¬ A f:=h.dis f hf;exact ⟨by show f<n+1;omega,this.2⟩
  · exact (h.cells b z N l hb).mono (fun _ h=>h) (fun f hf=>hold f (h.alt f hf)) (Bx.le_refl _) rfl fun f u N hl=>hold f (h.dis f (zb2 hl)).1
  · exact (h.maps b l hb).mono (fun _ h=>h) (fun f hf=>hold f (h.alt f hf)) (Bx.le_refl _) rfl fun r hl=>hold r (h.dis r (zf7 hl)).1
  · have:=h.glob x hx;refine ⟨this.1,?_⟩;show zat (fupd g n F x.1).rows (x.1*1024)=_;rw [hold x.1 (h.alt _ this.1)];exact this.2
  · refine ⟨by show n≤n+1;omega,rfl,fun _ h=>h,fun _ h=>h,fun f hf _ _=>hold f hf,fun f hf=>?_,fun hd f hf=>hI.none f hf,fun hd f p hp=>hI.vers f p hp,fun h=>h⟩;show (fupd g n F f).ro=_;rw [hold f hf];rfl
theorem TRel.le (h:TRel GL A β S s):s.lim≤s.n:=h.inv.lim
noncomputable def CS.rowed (s:CS) (tag:Nat) (cs:List Value):CS:={ s with n:=s.n+1,obj:=zay s.obj s.n ⟨false,[(s.n*1024+tag,cs)],none⟩ }
theorem TRel.newBox (h:TRel GL A β S s) {l:List T} {cs:List Value} (tag:Nat) (ht:tag<1024) (hv:VL A β (zag s.obj) l cs) (h1:cs.all oneC=true) :
    ∃ s' β',s.newRow tag cs=some (mkA s.n (s.n*1024+tag) 0,s')∧β' S.n=some (.live s.n (s.n*1024+tag) l.length)∧TRel GL A β' (S.add (.cells (Nat.beq tag 0) l.length l)) s'∧Stp A β s A β' s':=by
  obtain ⟨q1,q2,q3,q4⟩:=h.fresh ⟨false,[(s.n*1024+tag,cs)],none⟩ rfl (fun p hp=>by simp at hp;subst hp;show (s.n*1024+tag) / 1024<s.n+1;omega);refine ⟨s.rowed tag cs,bnew β S.n (.live s.n (s.n*1024+tag) l.length),?_,if_pos rfl,?_,?_⟩
  · unfold CS.newRow;have:zh0 s.obj s.n=true:=by obtain ⟨g,hg⟩:=h.inr;rw [hg];rfl
    rw [this,zbe];rfl
  · have hb0:β S.n=none:=h.next _ (Nat.le_refl _)
    have hle:Bx.le β (bnew β S.n (.live s.n (s.n*1024+tag) l.length)):=ztb hb0;have hat:∀ b,b≠S.n→bnew β S.n (.live s.n (s.n*1024+tag) l.length) b=β b:=fun b hb=>if_neg hb;have hat2:bnew β S.n (.live s.n (s.n*1024+tag) l.length) S.n=some (.live s.n (s.n*1024+tag) l.length):=if_pos rfl;have hold:∀ f,f<s.n→zag (zay s.obj s.n ⟨false,[(s.n*1024+tag,cs)],none⟩) f=zag s.obj f:=fun f hf=>q3 f (by omega);refine ⟨q1.inr,q1.inv,q1.alt,fun f hf=>?_,fun b b' x x' f hb hb' hx hx'=>?_,fun b hb=>?_,fun b z N x hb=>?_,fun b x hb=>?_,q1.glob⟩
    · obtain ⟨b,hb⟩:=hf;by_cases hbn:b=S.n
      · subst hbn;rw [hat2] at hb;rcases hb with ⟨u,N,hb⟩|hb
        · cases hb;exact ⟨by show s.n<s.n+1;omega,fun hA=>by have:=h.alt _ hA;omega⟩
        · simp at hb
      · rw [hat b hbn] at hb;exact q1.dis f ⟨b,hb⟩
    · have key:∀ b x,β b=some x→x.fam=some s.n→False:=fun b x hb hx=>by
        have:Own β s.n:=by
          cases x with
          |live f u N=>simp [Loc.fam] at hx;subst hx;exact zb2 hb
          |map r=>simp [Loc.fam] at hx;subst hx;exact zf7 hb
          |nil=>simp [Loc.fam] at hx
          |dead=>simp [Loc.fam] at hx
        have:=(h.dis _ this).1;omega
      by_cases e1:b=S.n<;>by_cases e2:b'=S.n
      · rw [e1,e2]
      · subst e1;rw [hat2] at hb;rw [hat b' e2] at hb';cases hb;simp [Loc.fam] at hx;subst hx;exact (key b' x' hb' hx').elim
      · subst e2;rw [hat2] at hb';rw [hat b e1] at hb;cases hb';simp [Loc.fam] at hx';subst hx';exact (key b x hb hx).elim
      · rw [hat b e1] at hb;rw [hat b' e2] at hb';exact h.inj b b' x x' f hb hb' hx hx'
    · have:S.n+1≤b:=hb;rw [hat b (by omega)];exact h.next b (by omega)
    · by_cases hbn:b=S.n
      · subst hbn;rw [TS.add_same] at hb;cases hb;refine ⟨rfl,.inr ⟨s.n,_,cs,[],hat2,fun hz=>by have:=Nat.eq_of_beq_eq_true hz;omega,q4,hv.mono (fun _ h=>h) (fun f hf=>hold f (h.alt f hf)) hle,h1⟩⟩
      · rw [TS.add_ne _ _ hbn] at hb;exact (h.cells b z N x hb).mono (fun _ h=>h) (fun f hf=>hold f (h.alt f hf)) hle (hat b hbn) fun f u N hl=>hold f (h.dis f (zb2 hl)).1
    · by_cases hbn:b=S.n
      · subst hbn;rw [TS.add_same] at hb;cases hb
      · rw [TS.add_ne _ _ hbn] at hb;exact (h.maps b x hb).mono (fun _ h=>h) (fun f hf=>hold f (h.alt f hf)) hle (hat b hbn) fun r hl=>hold r (h.dis r (zf7 hl)).1
  · refine ⟨q2,fun _ h=>h,fun _ h=>.inl h,fun f hf=>?_,fun f hf _=>q3 f (by omega),ztb (h.next _ (Nat.le_refl _)),fun _ h=>.inl h,fun _ h=>.inl h⟩;obtain ⟨b,hb⟩:=hf;by_cases hbn:b=S.n
    · subst hbn;unfold bnew at hb;rw [if_pos rfl] at hb;rcases hb with ⟨u,N,hb⟩|hb
      · cases hb;exact .inr (Nat.le_refl _)
      · simp at hb
    · unfold bnew at hb;rw [if_neg hbn] at hb;exact .inl ⟨b,hb⟩
theorem TRel.newFrozen (h:TRel GL A β S s) {l:List T} {cs:List Value} (tag:Nat) (ht:tag<1024) (hv:VL A β (zag s.obj) l cs) :
    ∃ s' A',s.newRow tag cs=some (mkA s.n (s.n*1024+tag) 0,s')∧A' s.n∧zat (zag s'.obj s.n).rows (s.n*1024+tag)=some cs∧TRel GL A' β S s'∧zi3 A β s A' s':=by
  obtain ⟨q1,q2,q3,q4⟩:=h.fresh ⟨false,[(s.n*1024+tag,cs)],none⟩ rfl (fun p hp=>by simp at hp;subst hp;show (s.n*1024+tag) / 1024<s.n+1;omega);have hold:∀ f,f<s.n→zag (zay s.obj s.n ⟨false,[(s.n*1024+tag,cs)],none⟩) f=zag s.obj f:=fun f hf=>q3 f (by omega);refine ⟨s.rowed tag cs,fun f=>A f∨f=s.n,?_,.inr rfl,?_,?_,?_⟩
  · unfold CS.newRow;have:zh0 s.obj s.n=true:=by obtain ⟨g,hg⟩:=h.inr;rw [hg];rfl
    rw [this,zbe];rfl
  · show zat (zag (zay s.obj s.n _) s.n).rows _=_;rw [q4];exact zah
  · refine ⟨q1.inr,q1.inv,fun f hf=>?_,fun f hf=>?_,h.inj,h.next,fun b z N x hb=>?_,fun b x hb=>?_,fun x hx=>⟨.inl (q1.glob x hx).1,(q1.glob x hx).2⟩⟩
    · rcases hf with hf|rfl
      · exact q1.alt f hf
      · show s.n<s.n+1;omega
    · refine ⟨(q1.dis f hf).1,fun hh=>?_⟩;rcases hh with hh|rfl
      · exact (q1.dis f hf).2 hh
      · have:=(h.dis _ hf).1;omega
    · exact (q1.cells b z N x hb).mono (fun _ h=>.inl h) (fun _ _=>rfl) (Bx.le_refl _) rfl fun _ _ _ _=>rfl
    · exact (q1.maps b x hb).mono (fun _ h=>.inl h) (fun _ _=>rfl) (Bx.le_refl _) rfl fun _ _=>rfl
  · refine ⟨q2,fun _ h=>.inl h,fun f hf=>?_,hold,fun _ h=>.inl h,fun _ h=>h⟩;rcases hf with hf|rfl
    · exact .inl hf
    · exact .inr (Nat.le_refl _)
theorem Ok0.rd (h:TRel GL A β S s) {s1:CS} (hs:TRel GL A β S s1∧zi3 A β s A s1) {t:T} {v:Value} (hv:VT A β (zag s1.obj) t v):Ok0 GL A β S s (some (v,s1)) t:=⟨v,s1,A,rfl,hs.1,hv,hs.2⟩
end
end
section
open Go Go.RowKit
def spl (l:List T) (off:Nat) (xs:List T):List T:=l.take off++xs++l.drop (off+xs.length)
theorem z8b {l xs:List T} {off:Nat} (h:off+xs.length≤l.length):(spl l off xs).length=l.length:=by
 unfold spl;rw [List.length_append,List.length_append,List.length_take,List.length_drop];omega
section
variable {GL:List (Nat×List Value)} {A A' A2:Nat→Prop} {β β' β2:Bx} {S S':TS} {s s' s2:CS} {P:Program} {Γ:Env}
theorem z68 {s:CS} {g:Nat→Fam} (hs:s.obj=.inr g) {f u off:Nat} {vs cs:List Value} {rest:List (Nat×List Value)} (hg:g f=⟨false,(u,cs) :: rest,none⟩) (hl:off+vs.length≤cs.length) (ho:vs.all oneC=true) :
    CS.write s (mkA f u off) vs=some { s with obj:=.inr (fupd g f ⟨false,[(u,splice cs off vs)],none⟩),wr:=ins s.lim s.wr f }:=by
  obtain ⟨n,ob,lim,rd,wr⟩:=s;simp only at hs;subst hs;unfold CS.write;show (match (g f).ro,zat (g f).rows u with|false,some cs=>_|_,_=>none)=_;rw [hg];simp only;have:zat ((u,cs) :: rest) u=some cs:=by unfold zat;rw [Nat.beq_refl];rfl
  rw [this];simp only;rw [zax.2 (show (mkA f u off).off+vs.length≤cs.length from hl),ho,Bool.and_true,zbe,zei];rfl
theorem TRel.write (h:TRel GL A β S s) {b N f u off:Nat} {z:Bool} {l xs:List T} {ys:List Value} (hS:S.box b=.cells z N l) (hb:β b=some (.live f u N)) (hx:VL A β (zag s.obj) xs ys) (ho:ys.all oneC=true) (hN:off+xs.length≤N) :
    ∃ s',s.write (mkA f u off) ys=some s'∧TRel GL A β (S.set b (.cells z N (spl l off xs))) s'∧Stp A β s A β s':=by
  obtain ⟨hlN,hc⟩:=h.cells b z N l hS;rcases hc with ⟨hc,_,_⟩|⟨f',u',cs,rest,hb',hz,hg,hv,h1⟩
  · rw [hb] at hc;simp at hc
  rw [hb] at hb';cases hb';have hlen:=hv.len;have hxl:=hx.len;obtain ⟨g,hin⟩:=h.inr;have hg':g f=⟨false,(u,cs) :: rest,none⟩:=by rw [hin] at hg;exact hg
  have hw:=z68 hin (off:=off) (vs:=ys) hg' (by omega) ho;have hcan:=zjr h.inv hw;have hd:=h.dis f (zb2 hb);have hold:∀ k,k≠f→fupd g f ⟨false,[(u,splice cs off ys)],none⟩ k=g k:=fun k hk=>zae _ _ _ _ hk;have hobj:∀ k,zag s.obj k=g k:=fun k=>by rw [hin];rfl
  have hA:∀ k,A k→fupd g f ⟨false,[(u,splice cs off ys)],none⟩ k=zag s.obj k:=fun k hk=>by rw [hobj];exact hold k fun hh=>hd.2 (hh ▸ hk)
  have hoth:∀ {b':Nat} {l:Loc} {k:Nat},β b'=some l→l.fam=some k→b'≠b→fupd g f ⟨false,[(u,splice cs off ys)],none⟩ k=zag s.obj k:=by
    intro b' l k hb2 hk hne;rw [hobj];refine hold k fun hh=>hne ?_;subst hh;exact h.inj b' b l _ k hb2 hb hk rfl
  refine ⟨_,hw,⟨⟨_,rfl⟩,h.inv.next hcan,fun k hk=>h.alt k hk,fun k hk=>h.dis k hk,h.inj,h.next,fun b' z' N' l' hb2=>?_,fun b' l' hb2=>?_,fun x hx2=>?_⟩,hcan,fun _ h=>h,fun _ h=>.inl h,fun _ h=>.inl h,fun k hk hno=>?_,Bx.le_refl _,fun _ h=>.inl h,fun x hx2=>?_⟩
  · by_cases hbb:b'=b
    · subst hbb;rw [TS.set_same] at hb2;cases hb2;refine ⟨by rw [z8b (by omega)];exact hlN,.inr ⟨f,u,splice cs off ys,[],hb,hz,zaf _ _ _,?_,?_⟩⟩
      · exact (hv.splice off hx).mono (fun _ h=>h) hA (Bx.le_refl _)
      · unfold Go.Proofs.YtcgdomhednbdpaaDoor.splice;rw [List.all_append,List.all_append,ho];simp only [Bool.and_true,Bool.and_eq_true,List.all_eq_true] at h1 ⊢;exact ⟨fun x hx=>h1 x (List.mem_of_mem_take hx),fun x hx=>h1 x (List.mem_of_mem_drop hx)⟩
    · rw [TS.set_ne _ _ hbb] at hb2;exact (h.cells b' z' N' l' hb2).mono (fun _ h=>h) hA (Bx.le_refl _) rfl fun f' u' N2 hl=>hoth hl rfl hbb
  · by_cases hbb:b'=b
    · subst hbb;rw [TS.set_same] at hb2;cases hb2
    · rw [TS.set_ne _ _ hbb] at hb2;exact (h.maps b' l' hb2).mono (fun _ h=>h) hA (Bx.le_refl _) rfl fun r hl=>hoth hl rfl hbb
  · have:=h.glob x hx2;refine ⟨this.1,?_⟩;show zat (fupd g f _ x.1).rows _=_;rw [hA _ this.1];exact this.2
  · show fupd g f _ k=_;rw [hobj];exact hold k fun hh=>hno (hh ▸ zb2 hb)
  · rcases zcf hx2 with q|⟨rfl,q⟩
    · exact .inl q
    · exact .inr ⟨q,zb2 hb⟩
theorem TRel.look (h:TRel GL A β S s) {b N f u off:Nat} {z:Bool} {l:List T} (hS:S.box b=.cells z N l) (hb:β b=some (.live f u N)) :
    ∃ cs,s.readRow (mkA f u off)=some (cs,{ s with rd:=ins s.lim s.rd f })∧VL A β (zag s.obj) l cs∧cs.all oneC=true:=by
  obtain ⟨hlN,hc⟩:=h.cells b z N l hS;rcases hc with ⟨hc,_,_⟩|⟨f',u',cs,rest,hb',hz,hg,hv,h1⟩
  · rw [hb] at hc;simp at hc
  rw [hb] at hb';cases hb';refine ⟨cs,?_,hv,h1⟩;unfold CS.readRow;rw [zdc,zfn,hg];have:zat ((u,cs) :: rest) u=some cs:=by unfold zat;rw [Nat.beq_refl];rfl
  rw [show (⟨false,(u,cs) :: rest,none⟩:Fam).rows=(u,cs) :: rest from rfl,this]
noncomputable def zym (i:TI) (l:List T) (off:Nat):Option T:=bif aggT i.desc then (bif Nat.ble (off+i.size) l.length then some (.agg ((l.drop off).take i.size)) else none) else l[off]?
theorem z47 {l:List Value} {off k:Nat} (h:off+k≤l.length):cut l off k=some ((l.drop off).take k):=by
 unfold cut;have:((l.drop off).take k).length=k:=by rw [List.length_take,List.length_drop];omega
 simp only [this,Nat.beq_refl,cond_true]
theorem zqo {g:Nat→Fam} {i:TI} {l:List T} {cs:List Value} {off:Nat} {t:T} (hv:VL A β g l cs) (ht:zym i l off=some t):∃ v,zmq i cs off=some v∧VT A β g t v:=by
 unfold zym at ht;unfold zmq
 cases ha:aggT i.desc with
 |true =>
  rw [ha] at ht;simp only [cond_true] at ht ⊢
  cases hb:Nat.ble (off+i.size) l.length with
  |false=>rw [hb] at ht;simp at ht
  |true =>
   rw [hb] at ht;simp only [cond_true,Option.some.injEq] at ht;subst ht;rw [z47 (by rw [← hv.len];exact zax.1 hb)];exact ⟨_,rfl,.agg ((hv.drop off).take i.size)⟩
 |false =>
  rw [ha] at ht;simp only [cond_false] at ht ⊢;exact hv.get ht
noncomputable def zrg (Γ:Env) (S:TS) (t:TypeId):T→Option T
 |.ptr b off N=>match Γ.ti.at t,S.box b with
  |some i,.cells z N' l=>bif Nat.beq N N' then zym i l off else none
  |_,_=>none
 |.cp l=>match Γ.ti.at t with|some i=>zym i l 0|none=>none
 |_=>none
theorem ykd {b f u N M:Nat} (h:TRel GL A β S s) {z:Bool} {l:List T} (hS:S.box b=.cells z M l) {x:Loc} (hb:β b=some x) (hx:(∀ f u,x≠.live f u M)) (hn:Loc.le (.live 0 0 M) x):False:=by
 obtain ⟨hlN,hc⟩:=h.cells b z M l hS;rcases hc with ⟨hc,_,_⟩|⟨f',u',cs,rest,hb',hz,hg,hv,h1⟩
 ·rw [hb] at hc;cases hc;simp [Loc.le] at hn
 ·rw [hb] at hb';cases hb';exact hx _ _ rfl
theorem ziu (h:TRel GL A β S s) {b off N:Nat} {z:Bool} {l:List T} {v:Value} (hS:S.box b=.cells z N l) (hv:VT A β (zag s.obj) (.ptr b off N) v):∃ f u,v=.pointer (some (mkA f u off))∧β b=some (.live f u N):=by
 cases hv with
 |ptr hb=>exact ⟨_,_,rfl,hb⟩
 |ptrOld hb h1 h2 h3=>exact (ykd (f:=0) (u:=0) (N:=0) h hS hb h1 h2).elim
theorem zf8 (h:TRel GL A β S s) {b e off len cap N:Nat} {z:Bool} {l:List T} {v:Value} (hS:S.box b=.cells z N l) (hv:VT A β (zag s.obj) (.arr b e off len cap N) v):(∃ f u,v=.slice (some (mkA f u off)) len cap∧β b=some (.live f u N)∧yc7 u e)∨(v=.slice none 0 0∧β b=some .nil∧off=0∧len=0∧cap=0∧N=0):=by
 cases hv with
 |arr hb ht=>exact .inl ⟨_,_,rfl,hb,ht⟩
 |arrNil hb=>exact .inr ⟨rfl,hb,rfl,rfl,rfl,rfl⟩
 |arrOld hb h1 h2 h3=>exact (ykd (f:=0) (u:=0) (N:=0) h hS hb h1 h2).elim
theorem z2m (h:TRel GL A β S s) {t:TypeId} {x r:T} {v:Value} (hx:VT A β (zag s.obj) x v) (ht:zrg Γ S t x=some r) :
    ∃ ad i w f,v=.pointer (some ad)∧Γ.ti.at t=some i∧(A f∨Own β f)∧s.loadVar i ad=some (w,{ s with rd:=ins s.lim s.rd f })∧VT A β (zag s.obj) r w:=by
  unfold zrg at ht;split at ht
  · rename_i b off N;split at ht
    · rename_i i z N' l hi hS
      cases hq:Nat.beq N N' with
      |false=>rw [hq] at ht;simp at ht
      |true =>
        rw [hq] at ht;have:=Nat.eq_of_beq_eq_true hq;subst this;obtain ⟨f,u,rfl,hb⟩:=ziu h hS hx;obtain ⟨cs,h1,h2,h3⟩:=h.look (off:=off) hS hb;obtain ⟨w,h4,h5⟩:=zqo h2 ht;refine ⟨_,i,w,f,rfl,hi,.inr (zb2 hb),?_,h5⟩;unfold CS.loadVar;simp only [h1,zk0,h4]
    · simp at ht
  · rename_i l
    cases hx with
    |cp k1 k2 k3 k4 =>
      rename_i f u off cs cs0;split at ht
      · rename_i i hi
        have hpc:∀ w,zmq i cs 0=some w→zmq i cs0 off=some w:=by
          intro w hw;unfold zmq at hw ⊢
          cases ha:aggT i.desc with
          |true =>
            rw [ha] at hw;simp only [cond_true] at hw ⊢;unfold cut at hw ⊢
            cases hl:Nat.beq ((cs.drop 0).take i.size).length i.size with
            |false=>simp only [hl,cond_false] at hw;simp at hw
            |true =>
              simp only [hl,cond_true] at hw;have hl':=Nat.eq_of_beq_eq_true hl;rw [List.drop_zero,List.length_take] at hl'
              have e1:(cs0.drop off).take i.size=(cs.drop 0).take i.size:=by
                rw [← k4,List.drop_zero,List.take_take,Nat.min_eq_left (by omega)]
              rw [e1];simp only [hl,cond_true];exact hw
          |false =>
            rw [ha] at hw;simp only [cond_false] at hw ⊢;rw [← k4] at hw;rw [List.getElem?_take] at hw;split at hw
            · rw [List.getElem?_drop] at hw;exact hw
            · simp at hw
        obtain ⟨w,h4,h5⟩:=zqo k3 ht;refine ⟨_,i,w,f,rfl,hi,.inl k1,?_,h5⟩;unfold CS.loadVar CS.readRow;simp only [zdc,zfn,k2,zk0,hpc _ h4]
      · simp at ht
  · simp at ht
theorem yc9 (h:TRel GL A β S s) {t:TypeId} {x r:T} {v:Value} (hx:VT A β (zag s.obj) x v) (ht:zrg Γ S t x=some r):Ok0 GL A β S s (zfp Γ s t v) r:=by
 obtain ⟨ad,i,w,f,rfl,h1,h2,h3,h4⟩:=z2m h hx ht
 have:zfp Γ s t (.pointer (some ad))=some (w,{ s with rd:=ins s.lim s.rd f }):=by
  unfold zfp;simp only [h1,h3]
 rw [this];exact Ok0.read h h2 h4
noncomputable def zt1 (Γ:Env) (S:TS) (t:TypeId) (v:T):T→Option TS
 |.ptr b off N=>match Γ.ti.at t,S.box b with
  |some i,.cells z N' l=>bif Nat.beq N N' && (Nat.beq v.cells.length i.size && (Nat.ble (off+v.cells.length) N && v.cells.all T.one)) then some (S.set b (.cells z N (spl l off v.cells))) else none
  |_,_=>none
 |_=>none
theorem zks {v:T} (h:v.cells.all T.one=true):v≠.junk:=by rintro rfl;simp [T.cells,T.one] at h
theorem z7p (h:TRel GL A β S s) {t:TypeId} {x y:T} {v w:Value} (hx:VT A β (zag s.obj) x v) (hy:VT A β (zag s.obj) y w) (ht:zt1 Γ S t y x=some S'):Ok GL A β s (ze4 Γ s t w.cells.toList v) .junk S':=by
 unfold zt1 at ht;split at ht
 ·rename_i b off N;split at ht
  ·rename_i i z N' l hi hS
   cases hq:(Nat.beq N N' && (Nat.beq y.cells.length i.size && (Nat.ble (off+y.cells.length) N && y.cells.all T.one))) with
   |false=>rw [hq] at ht;simp at ht
   |true =>
    rw [hq] at ht;simp only [cond_true,Option.some.injEq] at ht;subst ht;simp only [Bool.and_eq_true] at hq;obtain ⟨q1,q2,q3,q4⟩:=hq;have:=Nat.eq_of_beq_eq_true q1;subst this;obtain ⟨f,u,rfl,hb⟩:=ziu h hS hx;have hc:=hy.cells (zks q4);obtain ⟨s',h1,h2,h3⟩:=h.write (off:=off) hS hb hc (hc.one q4) (zax.1 q3);refine ⟨undef,s',A,β,?_,h2,.junk _,h3⟩;unfold ze4;simp only [hi];rw [← hc.len,q2,cond_true,h1];rfl
  ·simp at ht
 ·simp at ht
noncomputable def zka:Value→Option T
 |.int k n=>some (.int k n)
 |.bool b=>some (.bool b)
 |.string b=>some (.str b)
 |.pointer none=>some .nilp
 |.slice none 0 0=>some .nils
 |.map none=>some .nilm
 |.nilFunc=>some .nilf
 |_=>none
noncomputable def zhh:List Value→Option (List T)
 |[]=>some []
 |v :: l=>match zka v,zhh l with|some t,some r=>some (t :: r)|_,_=>none
theorem zvm {g:Nat→Fam} {v:Value} {t:T} (h:zka v=some t):VT A β g t v∧t.one=true:=by
 unfold zka at h;split at h<;>first | (simp at h;done) | (cases h;exact ⟨by constructor,rfl⟩)
theorem zil {g:Nat→Fam}:∀ {l:List Value} {r:List T},zhh l=some r→VL A β g r l∧r.all T.one=true
 |[],r,h=>by simp only [zhh,Option.some.injEq] at h;subst h;exact ⟨.nil,rfl⟩
 |v :: l,r,h=>by
  unfold zhh at h;split at h
  ·rename_i t r' h1 h2;cases h;obtain ⟨a,b⟩:=zvm (A:=A) (β:=β) (g:=g) h1;obtain ⟨c,d⟩:=zil h2;exact ⟨.cons a c,by rw [List.all_cons,b,d];rfl⟩
  ·simp at h
noncomputable def zt2 (Γ:Env) (S:TS) (e:TypeId):Option (T×TS) :=
 match Γ.ti.at e with
 |some i=>(match zhh i.zero with|some l=>some (.ptr S.n 0 l.length,S.add (.cells true l.length l))|none=>none)
 |none=>none
theorem yft (h:TRel GL A β S s) {l:List T} {cs:List Value} (hv:VL A β (zag s.obj) l cs) (h1:l.all T.one=true):Ok GL A β s (ptrC (s.newRow 0 cs)) (.ptr S.n 0 l.length) (S.add (.cells true l.length l)):=by
 obtain ⟨s',β',k1,k2,k3,k4⟩:=h.newBox 0 (by omega) hv (hv.one h1);exact ⟨_,s',A,β',by rw [k1];rfl,k3,.ptr k2,k4⟩
theorem z7y (h:TRel GL A β S s) {e:TypeId} {r:T} (ht:zt2 Γ S e=some (r,S')):Ok GL A β s (ziw Γ s e) r S':=by
 unfold zt2 at ht;split at ht
 ·rename_i i hi;split at ht
  ·rename_i l hl;cases ht;obtain ⟨a,b⟩:=zil hl;have:=yft h a b;unfold ziw;simp only [hi];exact this
  ·simp at ht
 ·simp at ht
noncomputable def tBox (S:TS) (x:T):Option (T×TS):=bif x.cells.all T.one then some (.ptr S.n 0 x.cells.length,S.add (.cells true x.cells.length x.cells)) else none
theorem yhg (h:TRel GL A β S s) {x r:T} {v:Value} (hx:VT A β (zag s.obj) x v) (ht:tBox S x=some (r,S')):Ok GL A β s (ptrC (s.newRow 0 v.cells.toList)) r S':=by
 unfold tBox at ht
 cases hq:x.cells.all T.one with
 |false=>rw [hq] at ht;simp at ht
 |true =>
  rw [hq] at ht;cases ht;exact yft h (hx.cells (zks hq)) hq
end
end
section
open Go Go.RowKit
section
variable {GL:List (Nat×List Value)} {A A' A2:Nat→Prop} {β β' β2:Bx} {S S':TS} {s s' s2:CS} {P:Program} {Γ:Env}
def TS.has (S:TS) (b N:Nat):Bool:=match S.box b with|.cells _ N' _=>Nat.beq N N' | _=>false
theorem TS.has_ok {b N:Nat} (h:S.has b N=true):∃ z l,S.box b=.cells z N l:=by
 unfold TS.has at h;split at h
 ·rename_i z N' l hS;have:=Nat.eq_of_beq_eq_true h;subst this;exact ⟨z,l,hS⟩
 ·simp at h
theorem ybu {g:Nat→Fam} {l:List T} {f u off:Nat} {cs0 cs:List Value} (o:Nat) (k1:A f) (k2:zat (g f).rows u=some cs0) (k3:VL A β g l cs) (k4:(cs0.drop off).take cs.length=cs):VT A β g (.cp (l.drop o)) (.pointer (some (mkA f u (off+o)))):=by
 refine .cp k1 k2 (k3.drop o) ?_;have:=congrArg (List.drop o) k4;rw [List.drop_take,List.drop_drop] at this;rw [List.length_drop];exact this
theorem yim {g:Nat→Fam} {l:List T} {f u off:Nat} {cs0 cs:List Value} (o:Nat) (k1:A f) (k2:zat (g f).rows u=some cs0) (k3:VL A β g l cs) (k4:(cs0.drop off).take cs.length=cs):VT A β g (.cp (l.take o)) (.pointer (some (mkA f u off))):=by
 refine .cp k1 k2 (k3.take o) ?_;have:=congrArg (List.take o) k4;rw [List.take_take] at this;rw [List.length_take];exact this
noncomputable def zju (Γ:Env) (S:TS) (t:TypeId) (k:Nat) (x:T):Option T:=match Γ.ti.at t with
 |some i=>(match i.desc with
  |.struct fs=>(match zr5 Γ fs k with
   |some (o,size)=>bif Nat.beq size 0 then none else (match x with
    |.ptr b off N=>bif S.has b N then some (.ptr b (off+o) N) else none
    |.cp l=>some (.cp (l.drop o))
    |_=>none)
   |none=>none)
  |_=>none)
 |none=>none
theorem zvv (h:TRel GL A β S s) {t:TypeId} {k:Nat} {x r:T} {v:Value} (hx:VT A β (zag s.obj) x v) (ht:zju Γ S t k x=some r):Ok0 GL A β S s (zce Γ s t k v) r:=by
 unfold zju at ht;split at ht
 ·rename_i i hi;split at ht
  ·rename_i fs hd;split at ht
   ·rename_i o size hp
    cases hz:Nat.beq size 0 with
    |true=>rw [hz] at ht;simp at ht
    |false =>
     rw [hz,cond_false] at ht
     have key:∀ a,zce Γ s t k (.pointer (some a))=some (.pointer (some (Addr.plus a o)),s):=fun a=>by
      unfold zce;simp only [hi,hd,hp,hz,cond_false]
     split at ht
     ·rename_i b off N
      cases hs:S.has b N with
      |false=>rw [hs] at ht;simp at ht
      |true =>
       rw [hs] at ht;cases ht;obtain ⟨z,l,hS⟩:=TS.has_ok hs;obtain ⟨f,u,rfl,hb⟩:=ziu h hS hx;rw [key,zf6];exact Ok0.same h (.ptr hb)
     ·rename_i l;cases ht
      cases hx with
      |cp k1 k2 k3 k4 =>
       rw [key,zf6];exact Ok0.same h (ybu o k1 k2 k3 k4)
     ·simp at ht
   ·simp at ht
  ·simp at ht
 ·simp at ht
theorem zqw {e:Nat}:∀ {l:List T},(∀ t,t∈l→t.cells.length=e)→(l.flatMap T.cells).length=l.length*e
 |[],_=>by simp
 |t :: l,h=>by
  rw [List.flatMap_cons,List.length_append,h t (by simp),zqw fun t ht=>h t (by simp [ht]),List.length_cons,Nat.add_mul];omega
theorem zsw {e:Nat}:∀ {l:List T} (k:Nat),(∀ t,t∈l→t.cells.length=e)→(l.flatMap T.cells).drop (k*e)=(l.drop k).flatMap T.cells
 |_,0,_=>by simp
 |[],k+1,_=>by simp
 |t :: l,k+1,h=>by
  rw [List.flatMap_cons,List.drop_succ_cons,← zsw k fun t ht=>h t (by simp [ht])];have h1:=h t (by simp);rw [show (k+1)*e=t.cells.length+k*e by rw [h1,Nat.add_mul];omega,List.drop_append];simp
theorem zzk {e:Nat}:∀ {l:List T} (k:Nat),(∀ t,t∈l→t.cells.length=e)→(l.flatMap T.cells).take (k*e)=(l.take k).flatMap T.cells
 |_,0,_=>by simp
 |[],k+1,_=>by simp
 |t :: l,k+1,h=>by
  rw [List.flatMap_cons,List.take_succ_cons,List.flatMap_cons,← zzk k fun t ht=>h t (by simp [ht])];have h1:=h t (by simp);rw [show (k+1)*e=t.cells.length+k*e by rw [h1,Nat.add_mul];omega,List.take_append,List.take_of_length_le (by omega)];simp
noncomputable def natT:T→Option Nat
 |.int _ (.ofNat n)=>some n
 |_=>none
theorem z94 {g:Nat→Fam} {t:T} {v:Value} {n:Nat} (h:VT A β g t v) (ht:natT t=some n):zet v=some n:=by
 unfold natT at ht;split at ht
 ·cases ht;cases h;rfl
 ·simp at ht
noncomputable def zg0 (Γ:Env) (S:TS) (t:TypeId) (x k:T):Option T:=match Γ.ti.at t,natT k with
 |some i,some k=>(match x with
  |.ptr b off N=>(match i.desc with|.array n e=>(match Γ.ti.at e with|some j=>bif S.has b N && Nat.blt k n then some (.ptr b (off+k*j.size) N) else none|none=>none)|_=>none)
  |.cp l=>(match i.desc with|.array n e=>(match Γ.ti.at e with|some j=>bif Nat.blt k n then some (.cp (l.drop (k*j.size))) else none|none=>none)|_=>none)
  |.arr b es off len cap N=>(match i.desc with|.slice e=>(match Γ.ti.at e with|some j=>bif S.has b N && (Nat.beq es j.size && Nat.blt k len) then some (.ptr b (off+k*j.size) N) else none|none=>none)|_=>none)
  |.lst es l=>(match i.desc with|.slice e=>(match Γ.ti.at e with|some j=>bif Nat.beq es j.size then (match l[k]? with|some r=>some (.cp r.cells)|none=>none) else none|none=>none)|_=>none)
  |_=>none)
 |_,_=>none
theorem zvu (h:TRel GL A β S s) {t:TypeId} {x k r:T} {v w:Value} (hx:VT A β (zag s.obj) x v) (hk:VT A β (zag s.obj) k w) (ht:zg0 Γ S t x k=some r):Ok0 GL A β S s (za2 Γ s t v (zet w)) r:=by
 unfold zg0 at ht;split at ht
 ·rename_i i kk hi hkk;rw [z94 hk hkk];split at ht
  ·rename_i b off N;split at ht
   ·rename_i n e hd;split at ht
    ·rename_i j hj
     cases hq:(S.has b N && Nat.blt kk n) with
     |false=>rw [hq] at ht;simp at ht
     |true =>
      rw [hq] at ht;cases ht;simp only [Bool.and_eq_true] at hq;obtain ⟨z,l,hS⟩:=TS.has_ok hq.1;obtain ⟨f,u,rfl,hb⟩:=ziu h hS hx
      have:za2 Γ s t (.pointer (some (mkA f u off))) (some kk)=some (.pointer (some (mkA f u (off+kk*j.size))),s):=by
       unfold za2 zqc;simp only [hi,hd,hj,hq.2,cond_true,zf6]
      rw [this];exact Ok0.same h (.ptr hb)
    ·simp at ht
   ·simp at ht
  ·rename_i l;split at ht
   ·rename_i n e hd;split at ht
    ·rename_i j hj
     cases hq:Nat.blt kk n with
     |false=>rw [hq] at ht;simp at ht
     |true =>
      rw [hq] at ht;cases ht
      cases hx with
      |cp k1 k2 k3 k4 =>
       rename_i f u off cs cs0
       have:za2 Γ s t (.pointer (some (mkA f u off))) (some kk)=some (.pointer (some (mkA f u (off+kk*j.size))),s):=by
        unfold za2 zqc;simp only [hi,hd,hj,hq,cond_true,zf6]
       rw [this];exact Ok0.same h (ybu _ k1 k2 k3 k4)
    ·simp at ht
   ·simp at ht
  ·rename_i b es off len cap N;split at ht
   ·rename_i e hd;split at ht
    ·rename_i j hj
     cases hq:(S.has b N && (Nat.beq es j.size && Nat.blt kk len)) with
     |false=>rw [hq] at ht;simp at ht
     |true =>
      rw [hq] at ht;cases ht;simp only [Bool.and_eq_true] at hq;obtain ⟨q1,q2,q3⟩:=hq;obtain ⟨z,l,hS⟩:=TS.has_ok q1;rcases zf8 h hS hx with ⟨f,u,rfl,hb,_⟩|⟨rfl,_,_,rfl,_,_⟩
      ·have:za2 Γ s t (.slice (some (mkA f u off)) len cap) (some kk)=some (.pointer (some (mkA f u (off+kk*j.size))),s):=by
        unfold za2 zqc;simp only [hi,hd,hj,q3,cond_true,zf6]
       rw [this];exact Ok0.same h (.ptr hb)
      ·have:=zai.1 q3;omega
    ·simp at ht
   ·simp at ht
  ·rename_i es l;split at ht
   ·rename_i e hd;split at ht
    ·rename_i j hj
     cases hq:Nat.beq es j.size with
     |false=>rw [hq] at ht;simp at ht
     |true =>
      rw [hq] at ht;have hes:=Nat.eq_of_beq_eq_true hq;simp only [cond_true] at ht;split at ht
      ·rename_i r' hl;cases ht
       have hlt:kk<l.length:=by
        by_cases hh:kk<l.length
        ·exact hh
        ·rw [List.getElem?_eq_none (by omega)] at hl;simp at hl
       cases hx with
       |lnil=>simp at hlt
       |lst k1 k2 k3 k4 k5 k6 k7 k8 =>
        rename_i f u off cap cs cs0
        have:za2 Γ s t (.slice (some (mkA f u off)) l.length cap) (some kk)=some (.pointer (some (mkA f u (off+kk*es))),s):=by
         unfold za2 zqc;simp only [hi,hd,hj,zai.2 hlt,cond_true,zf6,hes]
        rw [this];refine Ok0.same h ?_
        have k7':(cs0.drop (off+kk*es)).take (cs.drop (kk*es)).length=cs.drop (kk*es):=by
         have:=congrArg (List.drop (kk*es)) k6;rw [List.drop_take,List.drop_drop] at this;rw [List.length_drop];exact this
        have h1:=yim es k1 k2 (k3.drop (kk*es)) (off:=off+kk*es) k7'
        have h2:((l.flatMap T.cells).drop (kk*es)).take es=r'.cells:=by
         rw [zsw kk k4];rw [List.getElem?_eq_getElem hlt,Option.some.injEq] at hl;have hc:=k4 r' (by rw [← hl];exact List.getElem_mem hlt);rw [List.drop_eq_getElem_cons hlt,hl,List.flatMap_cons,List.take_append,List.take_of_length_le (by omega),hc];simp
        rw [h2] at h1;exact h1
      ·simp at ht
    ·simp at ht
   ·simp at ht
  ·simp at ht
 ·simp at ht
noncomputable def zxr (Γ:Env) (t:TypeId) (k:Nat):T→Option T
 |.agg l=>(match Γ.ti.at t with
  |some i=>(match i.desc with
   |.struct fs=>(match fs[k]? with|some f=>(match Γ.ti.at f.type with|some j=>zym j l f.offset|none=>none)|none=>none)
   |_=>none)
  |none=>none)
 |_=>none
theorem z7t (h:TRel GL A β S s) {t:TypeId} {k:Nat} {x r:T} {v:Value} (hx:VT A β (zag s.obj) x v) (ht:zxr Γ t k x=some r):Ok0 GL A β S s (zkr Γ s t k v) r:=by
 unfold zxr at ht;split at ht
 ·rename_i l
  cases hx with
  |agg hl =>
   rename_i cs;split at ht
   ·rename_i i hi;split at ht
    ·rename_i fs hd;split at ht
     ·rename_i f hf;split at ht
      ·rename_i j hj;obtain ⟨w,h1,h2⟩:=zqo hl ht
       have:zkr Γ s t k (.agg ⟨cs⟩)=some (w,s):=by
        unfold zkr;simp only [hi,hd,hf,hj,h1];rfl
       rw [this];exact Ok0.same h h2
      ·simp at ht
     ·simp at ht
    ·simp at ht
   ·simp at ht
 ·simp at ht
noncomputable def zrh (Γ:Env) (t:TypeId) (x k:T):Option T:=match Γ.ti.at t,natT k with
 |some i,some k=>(match x with
  |.agg l=>(match i.desc with
   |.array n e=>(match Γ.ti.at e with|some j=>bif Nat.blt k n then zym j l (k*j.size) else none|none=>none)
   |_=>none)
  |.str b=>(match i.desc with
   |.string=>(match b.data.toList[k]? with|some c=>some (.int .u8 c.toNat)|none=>none)
   |_=>none)
  |_=>none)
 |_,_=>none
theorem z7s (h:TRel GL A β S s) {t:TypeId} {x k r:T} {v w:Value} (hx:VT A β (zag s.obj) x v) (hk:VT A β (zag s.obj) k w) (ht:zrh Γ t x k=some r):Ok0 GL A β S s (zg7 Γ s t v (zet w)) r:=by
 unfold zrh at ht;split at ht
 ·rename_i i kk hi hkk;rw [z94 hk hkk];split at ht
  ·rename_i l
   cases hx with
   |agg hl =>
    rename_i cs;split at ht
    ·rename_i n e hd;split at ht
     ·rename_i j hj
      cases hq:Nat.blt kk n with
      |false=>rw [hq] at ht;simp at ht
      |true =>
       rw [hq,cond_true] at ht;obtain ⟨w,h1,h2⟩:=zqo hl ht
       have:zg7 Γ s t (.agg ⟨cs⟩) (some kk)=some (w,s):=by
        unfold zg7;simp only [hi,hd,hj,hq,cond_true,h1];rfl
       rw [this];exact Ok0.same h h2
     ·simp at ht
    ·simp at ht
  ·rename_i b;cases hx;split at ht
   ·rename_i hd;split at ht
    ·rename_i c hc;cases ht
     have:zg7 Γ s t (.string b) (some kk)=some (.int .u8 c.toNat,s):=by
      unfold zg7;simp only [hi,hd,hc]
     rw [this];exact Ok0.same h (.int _ _)
    ·simp at ht
   ·simp at ht
  ·simp at ht
 ·simp at ht
noncomputable def zke (k:Nat):T→Option T
 |.tup l=>l[k]?
 |_=>none
theorem z05 (h:TRel GL A β S s) {k:Nat} {x r:T} {v:Value} (hx:VT A β (zag s.obj) x v) (ht:zke k x=some r):Ok0 GL A β S s (zgs s k v) r:=by
 unfold zke at ht;split at ht
 ·cases hx with
  |tup hl =>
   obtain ⟨w,h1,h2⟩:=hl.get ht;rename_i vs
   have:zgs s k (.tuple ⟨vs⟩)=some (w,s):=by
    unfold zgs;simp only [h1];rfl
   rw [this];exact Ok0.same h h2
 ·simp at ht
noncomputable def zev (S:TS):T→Option T
 |.ptr b off N=>bif S.has b N then some (.ptr b off N) else none
 |.cp l=>some (.cp l)
 |.fn f a c=>some (.fn f a c)
 |_=>none
theorem zxq (h:TRel GL A β S s) {x r:T} {v:Value} (hx:VT A β (zag s.obj) x v) (ht:zev S x=some r):Ok0 GL A β S s (zg6 s v) r:=by
 unfold zev at ht;split at ht
 ·rename_i b off N
  cases hs:S.has b N with
  |false=>rw [hs] at ht;simp at ht
  |true =>
   rw [hs] at ht;cases ht;obtain ⟨z,l,hS⟩:=TS.has_ok hs;obtain ⟨f,u,rfl,hb⟩:=ziu h hS hx;exact Ok0.same h (.ptr hb)
 ·cases ht
  cases hx with
  |cp k1 k2 k3 k4=>exact Ok0.same h (.cp k1 k2 k3 k4)
 ·cases ht
  cases hx with
  |fn k1 k2=>exact Ok0.same h (.fn k1 k2)
 ·simp at ht
noncomputable def tS2A (Γ:Env) (S:TS) (t:TypeId) (x:T):Option T:=match Γ.ti.at t with
 |some i=>(match i.desc with
  |.array n _=>(match x with
   |.arr b e off len cap N=>bif S.has b N && (Nat.ble n len && Nat.blt 0 n) then some (.ptr b off N) else none
   |.lst e l=>bif Nat.ble n l.length && Nat.blt 0 n then some (.cp (l.flatMap T.cells)) else none
   |_=>none)
  |_=>none)
 |none=>none
theorem yhe (h:TRel GL A β S s) {t:TypeId} {x r:T} {v:Value} (hx:VT A β (zag s.obj) x v) (ht:tS2A Γ S t x=some r):Ok0 GL A β S s (zoz Γ s t v) r:=by
 unfold tS2A at ht;split at ht
 ·rename_i i hi;split at ht
  ·rename_i n e0 hd;split at ht
   ·rename_i b e off len cap N
    cases hq:(S.has b N && (Nat.ble n len && Nat.blt 0 n)) with
    |false=>rw [hq] at ht;simp at ht
    |true =>
     rw [hq] at ht;cases ht;simp only [Bool.and_eq_true] at hq;obtain ⟨q1,q2,q3⟩:=hq;obtain ⟨z,l,hS⟩:=TS.has_ok q1;rcases zf8 h hS hx with ⟨f,u,rfl,hb,_⟩|⟨rfl,_,_,rfl,_,_⟩
     ·have:zoz Γ s t (.slice (some (mkA f u off)) len cap)=some (.pointer (some (mkA f u off)),s):=by
       unfold zoz;simp only [hi,hd,q2,q3,Bool.and_self,cond_true]
      rw [this];exact Ok0.same h (.ptr hb)
     ·have:=zai.1 q3;have:=zax.1 q2;omega
   ·rename_i e l
    cases hq:(Nat.ble n l.length && Nat.blt 0 n) with
    |false=>rw [hq] at ht;simp at ht
    |true =>
     rw [hq] at ht;cases ht
     cases hx with
     |lnil=>simp only [Bool.and_eq_true] at hq;have:=zai.1 hq.2;have:=zax.1 hq.1;simp at this;omega
     |lst k1 k2 k3 k4 k5 k6 k7 k8 =>
      rename_i f u off cap cs cs0
      have:zoz Γ s t (.slice (some (mkA f u off)) l.length cap)=some (.pointer (some (mkA f u off)),s):=by
       unfold zoz;simp only [hi,hd,hq,cond_true]
      rw [this];exact Ok0.same h (.cp k1 k2 k3 k6)
   ·simp at ht
  ·simp at ht
 ·simp at ht
end
end
end Go.Proofs.YtcgdomhednbdpaaDoor
