/- Part 6 of the proof of FitKeepsPackets (several texts in one; no further condition). -/
import Derived.Test.YteifcnjpjjaikaaGreatZE
import Derived.Test.YteifcnjpjjaikaaGreatZD
import Derived.KernelRfl
set_option linter.unusedSimpArgs false
set_option linter.unusedVariables false
set_option linter.unusedSectionVars false
namespace Go.Proofs.YteifcnjpjjaikaaGreat
set_option maxHeartbeats 8000000
open _root_.And renaming intro->dx
open _root_.Bool renaming and_self->el,not_false->gn,not_true->gp
open Go renaming FuncId->jx,ResultVar->qa
open Go.IntKind renaming i64->d9
open _root_.List renaming all_eq_true->fd,append_assoc->ey,append_nil->fp,cons_append->fq,drop_succ_cons->jp,drop_zero->fl,flatten_cons->gh,flatten_nil->fg,getD_eq_getElem?_getD->eh,getElem?_cons_succ->jo,getElem?_cons_zero->fx,length_append->eu,length_cons->ez,length_map->ek,length_nil->gd,nil_append->fb,replicate->ew,set_cons_succ->kb,set_cons_zero->ku
open _root_.Nat renaming le_of_eq->jm,reduceAdd->ed,reduceEqDiff->ee,reduceLT->fm,reduceLeDiff->jr,reduceMul->fy,reduceSub->gw,zero_add->f6
open _root_.Option renaming bind_some->dz
open _root_.Option.some renaming injEq->dy
open _root_.Prod.mk renaming injEq->ec
open _root_.Sum renaming elim->i9
open Go.Proofs.YteifcnjpjjaikaaGreat.T renaming int->d7,ren->py,renL->nu
open Go.Proofs.YteifcnjpjjaikaaGreat.TW renaming block->fo,region->ji,seq->d6
set_option maxRecDepth 100000
open Go Go.RowKit
theorem tB0 (ax:Axs):type_of% (dx (dx (dx (dx (ytd ax) (dx (ytc ax) (ytb ax))) (dx (dx (bt78 ax) (ys3 ax)) (dx (zw5 ax) (el37 ax)))) (dx (dx (el40 ax) (dx (el41 ax) (el45 ax))) (dx (dx (el66 ax) (el79 ax)) (dx (yi2 ax) (yi1 ax))))) (dx (dx (dx (yi0 ax) (dx (yiz ax) (yiy ax))) (dx (dx (yix ax) (yiw ax)) (dx (yiv ax) (yiu ax)))) (dx (dx (yit ax) (dx (yis ax) (yir ax))) (dx (dx (yiq ax) (yip ax)) (dx (yot ax) (yos ax)))))):=dx (dx (dx (dx (ytd ax) (dx (ytc ax) (ytb ax))) (dx (dx (bt78 ax) (ys3 ax)) (dx (zw5 ax) (el37 ax)))) (dx (dx (el40 ax) (dx (el41 ax) (el45 ax))) (dx (dx (el66 ax) (el79 ax)) (dx (yi2 ax) (yi1 ax))))) (dx (dx (dx (yi0 ax) (dx (yiz ax) (yiy ax))) (dx (dx (yix ax) (yiw ax)) (dx (yiv ax) (yiu ax)))) (dx (dx (yit ax) (dx (yis ax) (yir ax))) (dx (dx (yiq ax) (yip ax)) (dx (yot ax) (yos ax)))))
theorem tB1 (ax:Axs):type_of% (dx (dx (dx (dx (yor ax) (dx (yoq ax) (yop ax))) (dx (dx (yoo ax) (yon ax)) (dx (yom ax) (yol ax)))) (dx (dx (yok ax) (dx (yoj ax) (yoi ax))) (dx (dx (yoh ax) (yog ax)) (dx (yof ax) (yoe ax))))) (dx (dx (dx (yod ax) (dx (yoc ax) (yob ax))) (dx (dx (yoa ax) (yin ax)) (dx (yim ax) (yil ax)))) (dx (dx (yik ax) (dx (yn9 ax) (yn8 ax))) (dx (dx (yn7 ax) (yn6 ax)) (dx (yn5 ax) (yn4 ax)))))):=dx (dx (dx (dx (yor ax) (dx (yoq ax) (yop ax))) (dx (dx (yoo ax) (yon ax)) (dx (yom ax) (yol ax)))) (dx (dx (yok ax) (dx (yoj ax) (yoi ax))) (dx (dx (yoh ax) (yog ax)) (dx (yof ax) (yoe ax))))) (dx (dx (dx (yod ax) (dx (yoc ax) (yob ax))) (dx (dx (yoa ax) (yin ax)) (dx (yim ax) (yil ax)))) (dx (dx (yik ax) (dx (yn9 ax) (yn8 ax))) (dx (dx (yn7 ax) (yn6 ax)) (dx (yn5 ax) (yn4 ax)))))
theorem tB2 (ax:Axs):type_of% (dx (dx (dx (dx (yn2 ax) (dx (yn1 ax) (yn0 ax))) (dx (dx (ynz ax) (yny ax)) (dx (ynx ax) (ynw ax)))) (dx (dx (ygg ax) (dx (ygf ax) (ygd ax))) (dx (dx (ygc ax) (ygb ax)) (dx (yga ax) (yf9 ax))))) (dx (dx (dx (yf8 ax) (dx (sr37 ax) (sr40 ax))) (dx (dx (sr41 ax) (sr45 ax)) (dx (sr66 ax) (sr79 ax)))) (dx (dx (yrt ax) (dx (yrs ax) (yrr ax))) (dx (dx (z6x ax) (yrq ax)) (dx (zus ax) (yrp ax)))))):=dx (dx (dx (dx (yn2 ax) (dx (yn1 ax) (yn0 ax))) (dx (dx (ynz ax) (yny ax)) (dx (ynx ax) (ynw ax)))) (dx (dx (ygg ax) (dx (ygf ax) (ygd ax))) (dx (dx (ygc ax) (ygb ax)) (dx (yga ax) (yf9 ax))))) (dx (dx (dx (yf8 ax) (dx (sr37 ax) (sr40 ax))) (dx (dx (sr41 ax) (sr45 ax)) (dx (sr66 ax) (sr79 ax)))) (dx (dx (yrt ax) (dx (yrs ax) (yrr ax))) (dx (dx (z6x ax) (yrq ax)) (dx (zus ax) (yrp ax)))))
theorem tB3 (ax:Axs):type_of% (dx (dx (dx (dx (yro ax) (yrn ax)) (dx (ti22 ax) (dx (ti23 ax) (ti24 ax)))) (dx (dx (ti26 ax) (dx (ti27 ax) (ti28 ax))) (dx (ti3 ax) (dx (ti30 ax) (ti37 ax))))) (dx (dx (dx (ti4 ax) (dx (ti40 ax) (ti41 ax))) (dx (ti43 ax) (dx (ti45 ax) (ti65 ax)))) (dx (dx (ti78 ax) (dx (ti79 ax) (ti85 ax))) (dx (ti9 ax) (dx (ti91 ax) (tz60 ax)))))):=dx (dx (dx (dx (yro ax) (yrn ax)) (dx (ti22 ax) (dx (ti23 ax) (ti24 ax)))) (dx (dx (ti26 ax) (dx (ti27 ax) (ti28 ax))) (dx (ti3 ax) (dx (ti30 ax) (ti37 ax))))) (dx (dx (dx (ti4 ax) (dx (ti40 ax) (ti41 ax))) (dx (ti43 ax) (dx (ti45 ax) (ti65 ax)))) (dx (dx (ti78 ax) (dx (ti79 ax) (ti85 ax))) (dx (ti9 ax) (dx (ti91 ax) (tz60 ax)))))
def KP (h h2:Nat->T):List Nat->Prop
  |[]=>True
  |[k]=>h2 k=h k
  |k :: j :: l=>h2 k=h k/\KP h h2 (j :: l)
theorem KP.refl (h:Nat->T):∀ K,KP h h K
  |[]=>trivial
  |[_]=>rfl
  |_ :: j :: l=>⟨rfl,KP.refl h (j :: l)⟩
theorem f2 {A B:Prop} (a:A) (b:B):A/\B:=⟨a,b⟩
theorem f3 {A B C:Prop} (a:A) (b:B) (c:C):A/\B/\C:=⟨a,b,c⟩
theorem isp {α:Type} {p:Prop} [Decidable p] {a b:Option α} {v:α} (h:(if p then a else b)=some v):(p/\a=some v)\/(¬ p/\b=some v):=by
  by_cases c:p
  . rw [zAc c] at h;exact .inl ⟨c,h⟩
  . rw [zAd c] at h;exact .inr ⟨c,h⟩
theorem isb {α:Type} {t:Bool} {a b:Option α} {v:α} (h:(if t=true then a else b)=some v):(t=true/\a=some v)\/(t=false/\b=some v):=by
  cases t with
  |true=>exact .inl ⟨rfl,h⟩
  |false=>exact .inr ⟨rfl,h⟩
theorem isg {α:Type} {p:Prop} [Decidable p] {a:Option α} {v:α} (h:(if p then a else none)=some v):p/\a=some v:=by
  by_cases c:p
  . rw [zAc c] at h;exact ⟨c,h⟩
  . rw [zAd c] at h;cases h
theorem sinl {α β:Type} {r:α} {v:α} {g:β->Option α} (h:i9 (fun r=>some r) g (.inl r)=some v):r=v:=Option.some.inj h
theorem sinm {α β δ:Type} {r:α} {v:α ⊕ δ} {g:β->Option (α ⊕ δ)} (h:i9 (fun r=>some (.inl r)) g (.inl r)=some v):.inl r=v:=Option.some.inj h
theorem sinr {α β γ:Type} {s:β} {f:α->γ} {g:β->γ} {v:γ} (h:i9 f g (.inr s)=v):g s=v:=h
def pS (S:TS):List T->List (T×TS)
  |[]=>[]
  |v :: l=>(v,S) :: pS S l
theorem ysd {S:TS}:pS S []=[]:=Eq.trans rfl rfl
theorem yp5 {S:TS} {v:T} {l:List T}:pS S (v :: l)=(v,S) :: pS S l:=Eq.trans rfl rfl
theorem eax {ax:Axs} {f:jx} (h:ax f=none):(EE ax).ax f=none:=by
  show sel (Nat.blt f 1099511627776) (ax f) none=none;rw [h];cases Nat.blt f 1099511627776<;>rfl
section
variable {ax:Axs} {N:Nat} {h h':Nat->T} {S S':TS} {Q:Exit->(Nat->T)->TS->Prop} {F:Prop} {C:(Nat->T)->Prop} {R:(Nat->T)->Prop} {bs bs2:List Box}
def Fin (ax:Axs) (l:List qa) (vs:List T):Exit->(Nat->T)->TS->Prop:=fun e h S=>(e=.normal\/e=.ret)/\resT (EE ax) S h l=some vs
theorem rk {id:Nat} {ops:Array Oper} (K own:List Nat) (f:F) (hq:∀ h2,C h2->R h2) (hd:ze3 N ops.toList=true:=by kernel_rfl) (hr:F->runT Tryz.prog (EE ax) [] own ops.toList ops.toList h S []=some (True,h',stL bs):=by intro q;simp (maxSteps:=900000) (disch:=first|omega|decide | (simp only [lzA,ed,fm];done)|fail) only [b0,b1,b2,b3,b4,b5,b6,b7,b8,ed,gw,ee,fy,reduceIte,reduceCtorEq,tB0,tB1,tB2,tB3,zgk,zgj,zes,zl0,zl1,zl2,zl3,dz,aggO,zbb,za1,zc9,zan,zdu,zaq,zab,zaj,zbg,ew,gh,fg,zbw,zbv,zcj,ziv,zcg,zcd,zce,zdl,zer,zdb,zda,ze0,zez,zby,za3,zbx,zb1,za4,zb0,q,eqA,eqB,eqsA,eqsB];with_reducible rfl) (hC:F->∀ h2,KP h' h2 K->C h2:=by intro q h2 k;simp only [KP,za8,ee,reduceIte,gp,gn,q] at k;first|exact k|exact trivial) (hR:∀ h2,R h2->Q .normal h2 (stL bs):=by intro h2 k;first | (simp only [onT,onTB];exact k)|exact k):TW Tryz.prog (EE ax) [] N (.region id ops false) h S Q :=
  ji (zbq ax) own [] hd (hr f) trivial (hR _ (hq _ (hC f _ (KP.refl _ K))))
theorem rkc {id:Nat} {ops:Array Oper} {ob:Prop} (K own:List Nat) (outs:List (T×TS)) (f:F) (ho:ob) (hq:∀ h2,C h2->R h2) (hd:ze3 N ops.toList=true:=by kernel_rfl) (hr:F->runT Tryz.prog (EE ax) [] own ops.toList ops.toList h S outs=some (ob,h',stL bs):=by intro q;simp (maxSteps:=900000) (disch:=first|omega|decide | (simp only [lzA,ed,fm];done)|fail) only [b0,b1,b2,b3,b4,b5,b6,b7,b8,ed,gw,ee,fy,reduceIte,reduceCtorEq,tB0,tB1,tB2,tB3,zgk,zgj,zes,zl0,zl1,zl2,zl3,dz,aggO,zbb,za1,zc9,zan,zdu,zaq,zab,zaj,zbg,ew,gh,fg,zbw,zbv,zcj,ziv,zcg,zcd,zce,zdl,zer,zdb,zda,ze0,zez,zby,za3,zbx,zb1,za4,zb0,q,eqA,eqB,eqsA,eqsB];with_reducible rfl) (hC:F->∀ h2,KP h' h2 K->C h2:=by intro q h2 k;simp only [KP,za8,ee,reduceIte,gp,gn,q] at k;first|exact k|exact trivial) (hR:∀ h2,R h2->Q .normal h2 (stL bs):=by intro h2 k;first | (simp only [onT,onTB];exact k)|exact k):TW Tryz.prog (EE ax) [] N (.region id ops false) h S Q :=
  ji (zbq ax) own outs hd (hr f) ho (hR _ (hq _ (hC f _ (KP.refl _ K))))
theorem rkp {id:Nat} {ops:Array Oper} {ob:Prop} (K own:List Nat) (vs:List T) (f:F) (ho:ob) (hq:∀ h2,C h2->R h2) (hd:ze3 N ops.toList=true:=by kernel_rfl) (hr:F->runT Tryz.prog (EE ax) [] own ops.toList ops.toList h S (pS S vs)=some (ob,h',stL bs):=by intro q;simp (maxSteps:=900000) (disch:=first|omega|decide | (simp only [lzA,ed,fm];done)|fail) only [ysd,yp5,b0,b1,b2,b3,b4,b5,b6,b7,b8,ed,gw,ee,fy,reduceIte,reduceCtorEq,tB0,tB1,tB2,tB3,zgk,zgj,zes,zl0,zl1,zl2,zl3,dz,aggO,zbb,za1,zc9,zan,zdu,zaq,zab,zaj,zbg,ew,gh,fg,zbw,zbv,zcj,ziv,zcg,zcd,zce,zdl,zer,zdb,zda,ze0,zez,zby,za3,zbx,zb1,za4,zb0,q,eqA,eqB,eqsA,eqsB];with_reducible rfl) (hC:F->∀ h2,KP h' h2 K->C h2:=by intro q h2 k;simp only [KP,za8,ee,reduceIte,gp,gn,q] at k;first|exact k|exact trivial) (hR:∀ h2,R h2->Q .normal h2 (stL bs):=by intro h2 k;first | (simp only [onT,onTB];exact k)|exact k):TW Tryz.prog (EE ax) [] N (.region id ops false) h S Q :=
  ji (zbq ax) own (pS S vs) hd (hr f) ho (hR _ (hq _ (hC f _ (KP.refl _ K))))
theorem rg {id:Nat} {ops:Array Oper} {ob:Prop} (own:List Nat) (outs:List (T×TS)) (bs:List Box) (C:(Nat->T)->Prop) (f:F) (ho:ob) (hq:∀ h2,C h2->R h2) (hd:ze3 N ops.toList=true:=by kernel_rfl) (hr:F->runT Tryz.prog (EE ax) [] own ops.toList ops.toList h S outs=some (ob,h',S'):=by intro q;simp (maxSteps:=900000) (disch:=first|omega|decide | (simp only [lzA,ed,fm];done)|fail) only [b0,b1,b2,b3,b4,b5,b6,b7,b8,ed,gw,ee,fy,reduceIte,reduceCtorEq,tB0,tB1,tB2,tB3,zgk,zgj,zes,zl0,zl1,zl2,zl3,dz,aggO,zbb,za1,zc9,zan,zdu,zaq,zab,zaj,zbg,ew,gh,fg,zbw,zbv,zcj,ziv,zcg,zcd,zce,zdl,zer,zdb,zda,ze0,zez,zby,za3,zbx,zb1,za4,zb0,q,eqA,eqB,eqsA,eqsB,apA,apB,tSrc];with_reducible rfl) (hS:F->S'=stL bs:=by intro q;first|rfl | (simp only [gsA,zb3,ee,reduceIte,and_self,and_true,true_and,gp,gn,q];done) | (simp only [gsA,zb3,ee,reduceIte,and_self,and_true,true_and,gp,gn,q];rfl)) (hC:F->C h':=by intro q;first|exact q | (simp only [za8,ee,reduceIte,and_self,and_true,true_and,gp,gn,q];done) | (simp only [gsA,zb3,ee,reduceIte,and_self,and_true,true_and,gp,gn,q];done) | (simp only [za8,ee,reduceIte,and_self,and_true,true_and,gp,gn,q];and_intros<;>rfl) | (simp only [gsA,zb3,ee,reduceIte,and_self,and_true,true_and,gp,gn,q];and_intros<;>rfl) | (and_intros<;>rfl)) (hR:∀ h2,R h2->Q .normal h2 (stL bs):=by intro h2 k;first | (simp only [onT,onTB];exact k)|exact k):TW Tryz.prog (EE ax) [] N (.region id ops false) h S Q :=
  ji (zbq ax) own outs hd (hr f) ho (by rw [hS f];exact hR _ (hq _ (hC f)))
theorem dk {id:Nat} {ops:Array Oper} {ob1 ob2:Prop} {h1:Nat->T} (n:Nat) (K:List Nat) (outsP:List T) (own:List Nat) (outs:List (T×TS)) (f:F) (ho1:ob1) (ho2:ob2) (hq:∀ h2,C h2->R h2) (hd:ze3 N ops.toList=true:=by kernel_rfl) (hok:zjc n ops.toList=true:=by kernel_rfl) (hp:F->runP Tryz.prog (EE ax) [] ops.toList (ops.toList.take n) h S outsP=some (ob1,h1):=by intro q;simp (maxSteps:=900000) (disch:=first|omega|decide | (simp only [lzA,ed,fm];done)|fail) only [b0,b1,b2,b3,b4,b5,b6,b7,b8,ed,gw,ee,fy,reduceIte,reduceCtorEq,tB0,tB1,tB2,tB3,zgk,zgj,zes,zl0,zl1,zl2,zl3,dz,aggO,zbb,za1,zc9,zan,zdu,zaq,zab,zaj,zbg,ew,gh,fg,zbw,zbv,zcj,ziv,zcg,zcd,zce,zdl,zer,zdb,zda,ze0,zez,zby,za3,zbx,zb1,za4,zb0,q,eqA,eqB,eqsA,eqsB];with_reducible rfl) (hr:F->runT Tryz.prog (EE ax) [] own ops.toList (ops.toList.drop n) h1 S outs=some (ob2,h',stL bs):=by intro q;simp (maxSteps:=900000) (disch:=first|omega|decide | (simp only [lzA,ed,fm];done)|fail) only [b0,b1,b2,b3,b4,b5,b6,b7,b8,ed,gw,ee,fy,reduceIte,reduceCtorEq,tB0,tB1,tB2,tB3,zgk,zgj,zes,zl0,zl1,zl2,zl3,dz,aggO,zbb,za1,zc9,zan,zdu,zaq,zab,zaj,zbg,ew,gh,fg,zbw,zbv,zcj,ziv,zcg,zcd,zce,zdl,zer,zdb,zda,ze0,zez,zby,za3,zbx,zb1,za4,zb0,q,eqA,eqB,eqsA,eqsB];with_reducible rfl) (hC:F->∀ h2,KP h' h2 K->C h2:=by intro q h2 k;simp only [KP,za8,ee,reduceIte,gp,gn,q] at k;first|exact k|exact trivial) (hR:∀ h2,R h2->Q .normal h2 (stL bs):=by intro h2 k;first | (simp only [onT,onTB];exact k)|exact k):TW Tryz.prog (EE ax) [] N (.region id ops true) h S Q :=
  TW.draw (zbq ax) n outsP own outs hd hok (hp f) ho1 (hr f) ho2 (hR _ (hq _ (hC f _ (KP.refl _ K))))
theorem ds {id:Nat} {ops:Array Oper} {ob1 ob2:Prop} {h1:Nat->T} (n:Nat) (bx:List (Nat×Option Nat)) (K:List Nat) (outsP:List T) (own:List Nat) (outs:List (T×TS)) (f:F) (ho1:ob1) (ho2:ob2) (hq:∀ h2,C h2->R h2) (hd:ze3 N ops.toList=true:=by kernel_rfl) (hok:zw7 (EE ax) n bx ops.toList=true:=by kernel_rfl) (hp:F->runP Tryz.prog (EE ax) [] ops.toList (ops.toList.take n) h S outsP=some (ob1,h1):=by intro q;simp (maxSteps:=900000) (disch:=first|omega|decide | (simp only [lzA,ed,fm];done)|fail) only [b0,b1,b2,b3,b4,b5,b6,b7,b8,ed,gw,ee,fy,reduceIte,reduceCtorEq,tB0,tB1,tB2,tB3,zgk,zgj,zes,zl0,zl1,zl2,zl3,dz,aggO,zbb,za1,zc9,zan,zdu,zaq,zab,zaj,zbg,ew,gh,fg,zbw,zbv,zcj,ziv,zcg,zcd,zce,zdl,zer,zdb,zda,ze0,zez,zby,za3,zbx,zb1,za4,zb0,q,eqA,eqB,eqsA,eqsB];with_reducible rfl) (hr:F->runT Tryz.prog (EE ax) [] own ops.toList (ops.toList.drop n) h1 S outs=some (ob2,h',stL bs):=by intro q;simp (maxSteps:=900000) (disch:=first|omega|decide | (simp only [lzA,ed,fm];done)|fail) only [b0,b1,b2,b3,b4,b5,b6,b7,b8,ed,gw,ee,fy,reduceIte,reduceCtorEq,tB0,tB1,tB2,tB3,zgk,zgj,zes,zl0,zl1,zl2,zl3,dz,aggO,zbb,za1,zc9,zan,zdu,zaq,zab,zaj,zbg,ew,gh,fg,zbw,zbv,zcj,ziv,zcg,zcd,zce,zdl,zer,zdb,zda,ze0,zez,zby,za3,zbx,zb1,za4,zb0,q,eqA,eqB,eqsA,eqsB];with_reducible rfl) (hbx:F->z0q bx h' (stL bs):=by intro q;simp (maxSteps:=900000) (disch:=first|omega|decide | (simp only [z0q,adr1,and_self,and_true,true_and,lzA,ed,fm];done)|fail) only [z0q,adr1,and_self,and_true,true_and,b0,b1,b2,b3,b4,b5,b6,b7,b8,ed,gw,ee,fy,reduceIte,reduceCtorEq,tB0,tB1,tB2,tB3,zgk,zgj,zes,zl0,zl1,zl2,zl3,dz,aggO,zbb,za1,zc9,zan,zdu,zaq,zab,zaj,zbg,ew,gh,fg,zbw,zbv,zcj,ziv,zcg,zcd,zce,zdl,zer,zdb,zda,ze0,zez,zby,za3,zbx,zb1,za4,zb0,q,eqA,eqB,eqsA,eqsB]) (hC:F->∀ h2,KP h' h2 K->C h2:=by intro q h2 k;simp only [KP,za8,ee,reduceIte,gp,gn,q] at k;first|exact k|exact trivial) (hR:∀ h2,R h2->Q .normal h2 (stL bs):=by intro h2 k;first | (simp only [onT,onTB];exact k)|exact k):TW Tryz.prog (EE ax) [] N (.region id ops true) h S Q :=
  TW.drawS (zbq ax) n bx outsP own outs hd hok (hp f) ho1 (hr f) ho2 (hbx f) (hR _ (hq _ (hC f _ (KP.refl _ K))))
theorem dg {id:Nat} {ops:Array Oper} {ob1 ob2:Prop} {h1:Nat->T} (n:Nat) (outsP:List T) (own:List Nat) (outs:List (T×TS)) (bs:List Box) (C:(Nat->T)->Prop) (f:F) (ho1:ob1) (ho2:ob2) (hq:∀ h2,C h2->R h2) (hd:ze3 N ops.toList=true:=by kernel_rfl) (hok:zjc n ops.toList=true:=by kernel_rfl) (hp:F->runP Tryz.prog (EE ax) [] ops.toList (ops.toList.take n) h S outsP=some (ob1,h1):=by intro q;simp (maxSteps:=900000) (disch:=first|omega|decide | (simp only [lzA,ed,fm];done)|fail) only [b0,b1,b2,b3,b4,b5,b6,b7,b8,ed,gw,ee,fy,reduceIte,reduceCtorEq,tB0,tB1,tB2,tB3,zgk,zgj,zes,zl0,zl1,zl2,zl3,dz,aggO,zbb,za1,zc9,zan,zdu,zaq,zab,zaj,zbg,ew,gh,fg,zbw,zbv,zcj,ziv,zcg,zcd,zce,zdl,zer,zdb,zda,ze0,zez,zby,za3,zbx,zb1,za4,zb0,q,eqA,eqB,eqsA,eqsB,apA,apB,tSrc];with_reducible rfl) (hr:F->runT Tryz.prog (EE ax) [] own ops.toList (ops.toList.drop n) h1 S outs=some (ob2,h',S'):=by intro q;simp (maxSteps:=900000) (disch:=first|omega|decide | (simp only [lzA,ed,fm];done)|fail) only [b0,b1,b2,b3,b4,b5,b6,b7,b8,ed,gw,ee,fy,reduceIte,reduceCtorEq,tB0,tB1,tB2,tB3,zgk,zgj,zes,zl0,zl1,zl2,zl3,dz,aggO,zbb,za1,zc9,zan,zdu,zaq,zab,zaj,zbg,ew,gh,fg,zbw,zbv,zcj,ziv,zcg,zcd,zce,zdl,zer,zdb,zda,ze0,zez,zby,za3,zbx,zb1,za4,zb0,q,eqA,eqB,eqsA,eqsB,apA,apB,tSrc];with_reducible rfl) (hS:F->S'=stL bs:=by intro q;first|rfl | (simp only [gsA,zb3,ee,reduceIte,and_self,and_true,true_and,gp,gn,q];done) | (simp only [gsA,zb3,ee,reduceIte,and_self,and_true,true_and,gp,gn,q];rfl)) (hC:F->C h':=by intro q;first|exact q | (simp only [za8,ee,reduceIte,and_self,and_true,true_and,gp,gn,q];done) | (simp only [gsA,zb3,ee,reduceIte,and_self,and_true,true_and,gp,gn,q];done) | (simp only [za8,ee,reduceIte,and_self,and_true,true_and,gp,gn,q];and_intros<;>rfl) | (simp only [gsA,zb3,ee,reduceIte,and_self,and_true,true_and,gp,gn,q];and_intros<;>rfl) | (and_intros<;>rfl)) (hR:∀ h2,R h2->Q .normal h2 (stL bs):=by intro h2 k;first | (simp only [onT,onTB];exact k)|exact k):TW Tryz.prog (EE ax) [] N (.region id ops true) h S Q :=
  TW.draw (zbq ax) n outsP own outs hd hok (hp f) ho1 (hr f) ho2 (by rw [hS f];exact hR _ (hq _ (hC f)))
theorem kq {C:Prop} (f:F) (hc:F->C:=by intro q;first|exact q | (simp (disch:=decide) only [zov,za8,ee,reduceIte,and_self,and_true,true_and,gp,gn,q];done) | (simp (disch:=decide) only [zov,gsA,zb3,ee,reduceIte,and_self,and_true,true_and,gp,gn,q];done) | (simp (disch:=decide) only [zov,za8,ee,reduceIte,and_self,and_true,true_and,gp,gn,q];and_intros<;>rfl) | (simp (disch:=decide) only [zov,gsA,zb3,ee,reduceIte,and_self,and_true,true_and,gp,gn,q];and_intros<;>rfl) | (and_intros<;>rfl)):C:=hc f
theorem ct {c:Operand} {t e:Code} (f:F) (k:TW Tryz.prog (EE ax) [] N t h S Q) (hb:F->zem [] h c=.bool true:=by intro q;first | (simp only [zj9,zfo,zg7,q,gp,gn];done) | (simp only [zj9,zfo,zg7,q,gp,gn];exact congrArg T.bool (zAa (by omega)))):TW Tryz.prog (EE ax) [] N (.cond c t e) h S Q:=TW.cond (hb f) k
theorem cf {c:Operand} {t e:Code} (f:F) (k:TW Tryz.prog (EE ax) [] N e h S Q) (hb:F->zem [] h c=.bool false:=by intro q;first | (simp only [zj9,zfo,zg7,q,gp,gn];done) | (simp only [zj9,zfo,zg7,q,gp,gn];exact congrArg T.bool (zAb (by omega)))):TW Tryz.prog (EE ax) [] N (.cond c t e) h S Q:=TW.cond (hb f) k
theorem sk {R:Prop} (k:R) (hR:R->Q .normal h S:=by intro k;first | (simp (disch:=decide) only [onT,onTB,Nat.beq_refl,zps,cond_true,cond_false];exact k)|exact k):TW Tryz.prog (EE ax) [] N .skip h S Q:=TW.skip (hR k)
theorem xk {i:Nat} {R:Prop} (k:R) (hR:R->Q (.exit i) h S:=by intro k;first | (simp (disch:=decide) only [onT,onTB,Nat.beq_refl,zps,cond_true,cond_false];exact k)|exact k):TW Tryz.prog (EE ax) [] N (.exit i) h S Q:=TW.exit (hR k)
theorem gk {c:Code} (K:List Nat) (f:F) (hq:∀ h2,C h2->TW Tryz.prog (EE ax) [] N c h2 S Q) (hC:F->∀ h2,KP h' h2 K->C h2:=by intro q h2 k;simp only [KP,za8,ee,reduceIte,gp,gn,q] at k;first|exact k|exact trivial):TW Tryz.prog (EE ax) [] N c h' S Q:=hq _ (hC f _ (KP.refl _ K))
theorem rd {keep:List Nat} {n m0:Nat} {I:Nat->(Nat->T)->List Box->Prop} (m:Nat) (f:F) (hI:I m (z15 keep h) (bs.take n)) (hm:m<m0:=by omega) (hn:n<=bs.length:=by simp only [lzA]<;>omega) (hb:F->zfw n (bs.take n)=true:=by intro q;simp only [zsl,zb2,zc5,reduceIte,ee,ed,fm,jr,idsA,idsB,idsC,za7,q]) (hk:F->zi4 keep n h:=by intro q;simp only [zsl,zb2,zc5,reduceIte,ee,ed,fm,jr,idsA,idsB,idsC,za7,q]):ytp keep n I m0 h (stL bs):=⟨m,hm,bs,rfl,hn,hb f,hk f,hI⟩
theorem ce {keep:List Nat} {n:Nat} {I:(Nat->T)->List Box->Prop} (f:F) (hI:I (z15 keep h) (bs.take n)) (hn:n<=bs.length:=by simp only [lzA]<;>omega) (hb:F->zfw n (bs.take n)=true:=by intro q;simp only [zsl,zb2,zc5,reduceIte,ee,ed,fm,jr,idsA,idsB,idsC,za7,q]) (hk:F->zi4 keep n h:=by intro q;simp only [zsl,zb2,zc5,reduceIte,ee,ed,fm,jr,idsA,idsB,idsC,za7,q]):Ends keep n I h (stL bs):=⟨bs,rfl,hn,hb f,hk f,hI⟩
theorem cu {a:Code} (keep:List Nat) (n:Nat) (I:(Nat->T)->List Box->Prop) (hI:TW Tryz.prog (EE ax) [] N a h (stL bs) (onT (fun h' S'=>Ends keep n I h' S') Q)) {R:(Nat->T)->List Box->Prop} (hk:∀ h bs2,I h bs2->R h bs2) (hn:bs.length<=n:=by simp only [lzA]<;>omega) (hR:∀ h bs2,R h bs2->Q .normal h (stL bs2):=by intro h bs2 k;first | (simp only [onT,onTB];exact k)|exact k):TW Tryz.prog (EE ax) [] N a h (stL bs) Q:=TW.cutN keep n hn I hI fun h bs2 k=>hR _ _ (hk _ _ k)
theorem rtc (f:F) (hQ:F->Q .ret h S:=by intro q;refine ⟨.inr rfl,by first | (simp (maxSteps:=900000) (disch:=first|omega|decide | (simp only [resT,lzA,ed,fm];done)|fail) only [resT,b0,b1,b2,b3,b4,b5,b6,b7,b8,ed,gw,ee,fy,reduceIte,reduceCtorEq,tB0,tB1,tB2,tB3,zgk,zgj,zes,zl0,zl1,zl2,zl3,dz,aggO,zbb,za1,zc9,zan,zdu,zaq,zab,zaj,zbg,ew,gh,fg,zbw,zbv,zcj,ziv,zcg,zcd,zce,zdl,zer,zdb,zda,ze0,zez,zby,za3,zbx,zb1,za4,zb0,q,eqA,eqB,eqsA,eqsB];done) | (simp (maxSteps:=900000) (disch:=first|omega|decide | (simp only [resT,lzA,ed,fm];done)|fail) only [resT,b0,b1,b2,b3,b4,b5,b6,b7,b8,ed,gw,ee,fy,reduceIte,reduceCtorEq,tB0,tB1,tB2,tB3,zgk,zgj,zes,zl0,zl1,zl2,zl3,dz,aggO,zbb,za1,zc9,zan,zdu,zaq,zab,zaj,zbg,ew,gh,fg,zbw,zbv,zcj,ziv,zcg,zcd,zce,zdl,zer,zdb,zda,ze0,zez,zby,za3,zbx,zb1,za4,zb0,q,eqA,eqB,eqsA,eqsB];with_reducible rfl)⟩):TW Tryz.prog (EE ax) [] N .ret h S Q:=TW.ret (hQ f)
theorem rt (f:F) (hQ:F->Q .ret h S:=by intro q;refine ⟨.inr rfl,?_⟩;first | (simp only [resT,q];done) | (simp only [resT,q];rfl)):TW Tryz.prog (EE ax) [] N .ret h S Q:=TW.ret (hQ f)
theorem vk {c:Code} (t e:Nat) (K:List Nat) (f:F) (hq:∀ h2,C h2->TW Tryz.prog (EE ax) [] N c h2 (stL bs2) Q) (ht:F->h t=.nils:=by intro q;first|rfl | (simp only [za8,ee,reduceIte,q];done)) (hS:bs++[.cells false 0 []]=bs2:=by simp only [fq,fb];try rfl) (he:tupd h t (.arr (stL bs).n e 0 0 0 0)=h':=by simp only [scB,ed];try rfl) (hC:F->∀ h2,KP h' h2 K->C h2:=by intro q h2 k;simp only [KP,za8,ee,reduceIte,gp,gn,q] at k;first|exact k|exact trivial):TW Tryz.prog (EE ax) [] N c h (stL bs) Q:=TW.vec t e (ht f) (by rw [zyr,hS,he];exact hq _ (hC f _ (KP.refl _ K)))
theorem nk {c:Code} (t e:Nat) (K:List Nat) (f:F) (hq:∀ h2,C h2->TW Tryz.prog (EE ax) [] N c h2 S Q) (ht:F->h t=.nils:=by intro q;first|rfl | (simp only [za8,ee,reduceIte,q];done)) (he:tupd h t (.lst e [])=h':=by rfl) (hC:F->∀ h2,KP h' h2 K->C h2:=by intro q h2 k;simp only [KP,za8,ee,reduceIte,gp,gn,q] at k;first|exact k|exact trivial):TW Tryz.prog (EE ax) [] N c h S Q:=TW.nilL t e (ht f) (by rw [he];exact hq _ (hC f _ (KP.refl _ K)))
theorem zk {c:Code} (t b M:Nat) (z:Bool) (l:List T) (K:List Nat) (f:F) (hq:∀ h2,C h2->TW Tryz.prog (EE ax) [] N c h2 (stL bs2) Q) (ht:F->h t=.ptr b 0 M:=by intro q;first|rfl | (simp only [za8,ee,reduceIte,q];done)) (hS:(stL bs).box b=.cells z M l:=by rfl) (hn:b<bs.length:=by simp only [lzA]<;>omega) (hb:bs.set b .gone=bs2:=by simp (disch:=decide) only [scA,yfb,ku,kb,gw];try rfl) (he:tupd h t (.cp l)=h':=by rfl) (hC:F->∀ h2,KP h' h2 K->C h2:=by intro q h2 k;simp only [KP,za8,ee,reduceIte,gp,gn,q] at k;first|exact k|exact trivial):TW Tryz.prog (EE ax) [] N c h (stL bs) Q:=TW.freezeP t (ht f) hS (by rw [zhs _ _ _ hn,hb,he];exact hq _ (hC f _ (KP.refl _ K)))
theorem en {fid:jx} {fn:Func} {body:Code} {args:List T} {v:T} (l:List qa) (N:Nat) (K:List Nat) (hax:ax fid=none) (hf:(EE ax).fn.at fid=some fn) (k:∀ h2,C h2->TW Tryz.prog (EE ax) [] N body h2 (stL []) (Fin ax l [v])) (hb:fn.body=some body:=by rfl) (hl:fn.results.toList=l:=by rfl) (hn:fn.ntmps=N:=by rfl) (hN:N<=512:=by decide) (hlen:args.length<=N:=by simp) (ha:T.idsL 0 args=true:=by simp only [zb2,zc5,idsA,idsB,idsC,za7,el]) (hv:(v).ids 0=true:=by first|rfl|simp only [zb2,zc5,idsA,idsB,idsC,za7,el]|simp only [tupT,zb2,zc5,idsA,idsB,idsC,za7,el]) (he:argT args 0 (fun _=>.junk)=h':=by simp only [zkb,zmv,ed];try rfl) (hC:∀ h2,KP h' h2 K->C h2:=by intro h2 k;simp only [KP,za8,ee,reduceIte] at k;first|exact k|exact trivial):Pure Tryz.prog (EE ax) [] fid args v :=
  Pure.enter N (eax hax) hf hb hn hN hlen ha hv (by rw [hl,he,zk7];exact k _ (hC _ (KP.refl _ K)))
theorem enN {fid:jx} {fn:Func} {body:Code} {args:List T} {vs:List T} (l:List qa) (N:Nat) (K:List Nat) (hax:ax fid=none) (hf:(EE ax).fn.at fid=some fn) (k:∀ h2,C h2->TW Tryz.prog (EE ax) [] N body h2 (stL []) (Fin ax l vs)) (hb:fn.body=some body:=by rfl) (hl:fn.results.toList=l:=by rfl) (hn:fn.ntmps=N:=by rfl) (hN:N<=512:=by decide) (hlen:args.length<=N:=by simp) (ha:T.idsL 0 args=true:=by simp only [zb2,zc5,idsA,idsB,idsC,za7,el]) (hv:((tupT vs)).ids 0=true:=by first|rfl|simp only [zb2,zc5,idsA,idsB,idsC,za7,el]|simp only [tupT,zb2,zc5,idsA,idsB,idsC,za7,el]) (he:argT args 0 (fun _=>.junk)=h':=by simp only [zkb,zmv,ed];try rfl) (hC:∀ h2,KP h' h2 K->C h2:=by intro h2 k;simp only [KP,za8,ee,reduceIte] at k;first|exact k|exact trivial):Pure Tryz.prog (EE ax) [] fid args (tupT vs) :=
  Pure.enterN N (eax hax) hf hb hn hN hlen ha hv (by rw [hl,he,zk7];exact k _ (hC _ (KP.refl _ K)))
def FinB (ax:Axs) (l:List qa) (vs:List T) (bs1:List Box):Exit->(Nat->T)->TS->Prop:=fun e h S=>(e=.normal\/e=.ret)/\resT (EE ax) S h l=some vs/\∃ bs',S=stL bs'/\bs1.length<=bs'.length/\bs'.take bs1.length=bs1/\zfw bs1.length bs1=true
theorem enB {fid:jx} {fn:Func} {body:Code} {args:List T} {vs:List T} {bs0 bs1:List Box} (l:List qa) (N:Nat) (K:List Nat) (hax:ax fid=none) (hf:(EE ax).fn.at fid=some fn) (k:∀ h2,C h2->TW Tryz.prog (EE ax) [] N body h2 (stL bs0) (FinB ax l vs bs1)) (hb:fn.body=some body:=by rfl) (hl:fn.results.toList=l:=by rfl) (hn:fn.ntmps=N:=by rfl) (hN:N<=512:=by decide) (hlen:args.length<=N:=by simp) (h01:bs0.length<=bs1.length:=by simp only [lzA]<;>omega) (hv:(tupT vs).ids bs1.length=true:=by first|rfl|simp only [zb2,zc5,idsA,idsB,idsC,za7,el]|simp only [tupT,zb2,zc5,idsA,idsB,idsC,za7,el]) (he:argT args 0 (fun _=>.junk)=h':=by simp only [zkb,zmv,ed];try rfl) (hC:∀ h2,KP h' h2 K->C h2:=by intro h2 k;simp only [KP,za8,ee,reduceIte] at k;first|exact k|exact trivial):Call Tryz.prog (EE ax) [] fid args (stL bs0) (tupT vs) (stL bs1):=by
  refine Call.enter N (eax hax) hf hb hn hN hlen h01 hv ((k _ (hC _ (KP.refl _ K))) |> fun k=>?_);rw [he];refine k.mono ?_;rintro e h2 S2 ⟨h1,h3,bs',rfl,h4,h5,h6⟩;refine ⟨h1,vs,by rw [hl];exact h3,_,zpd.refl _ _,h4,fun b=>?_⟩;by_cases hb:b<bs1.length
  . have e1:(bs'.take bs1.length).getD b .gone=bs'.getD b .gone:=by
      rw [eh,List.getElem?_take,zAc hb,<- eh]
    rw [h5] at e1;refine .inr ⟨hb,e1,?_⟩;show zh6 bs1.length (bs'.getD b .gone)=true;rw [<- e1];exact zoa (i:=b) h6
  . exact .inl (ye1 (by omega))
theorem rtB (f:F) (hQ:F->Q .ret h (stL bs):=by intro q;refine ⟨.inr rfl,by first | (simp only [resT,q];done) | (simp only [resT,q];rfl),_,rfl,by simp only [lzA]<;>omega,by rfl,by simp only [zsl,zb2,zc5,reduceIte,ee,ed,fm,jr,idsA,idsB,idsC,za7]⟩):TW Tryz.prog (EE ax) [] N .ret h (stL bs) Q:=TW.ret (hQ f)
theorem ca {fid:jx} {args args':List T} {v v':T} {bs0 bs1 bs bs':List Box} (rl:List Nat) (k:Call Tryz.prog (EE ax) [] fid args (stL bs0) v (stL bs1)) (h1:rlOk bs0.length bs1.length bs.length bs'.length rl=true:=by rfl) (h2:T.idsL bs0.length args=true:=by simp only [zsl,zb2,zc5,reduceIte,ee,ed,fm,jr,idsA,idsB,idsC,za7]) (h3:v.ids bs1.length=true:=by first | (simp only [zsl,zb2,zc5,reduceIte,ee,ed,fm,jr,idsA,idsB,idsC,za7];done)|rfl|simp only [zb2,zc5,idsA,idsB,idsC,za7,el]|simp only [tupT,zb2,zc5,idsA,idsB,idsC,za7,el]) (h4:PreL (atR rl) bs0.length bs rl bs0:=by (repeat' (first|exact trivial|apply dx))<;>first|rfl | (simp only [zsl,zb2,zc5,reduceIte,ee,ed,fm,jr,idsA,idsB,idsC,za7];done) | (simp (disch:=(simp only [zb2,zc5,idsA,idsB,idsC,za7,el];done)) only [zfa,nu,py,tupT,zdf,zh9];done) | (simp (disch:=(simp only [zb2,zc5,idsA,idsB,idsC,za7,el];done)) only [zfa,nu,py,tupT,zdf,zh9];rfl)) (h5:PreL (atR rl) bs1.length bs' rl bs1:=by (repeat' (first|exact trivial|apply dx))<;>first|rfl | (simp only [zsl,zb2,zc5,reduceIte,ee,ed,fm,jr,idsA,idsB,idsC,za7];done) | (simp (disch:=(simp only [zb2,zc5,idsA,idsB,idsC,za7,el];done)) only [zfa,nu,py,tupT,zdf,zh9];done) | (simp (disch:=(simp only [zb2,zc5,idsA,idsB,idsC,za7,el];done)) only [zfa,nu,py,tupT,zdf,zh9];rfl)) (h6:zx5 rl 0 bs bs':=by (repeat' (first|exact trivial|apply dx))<;>first|rfl|exact .inl rfl|exact .inr rfl) (ea:nu (atR rl) args=args':=by first|rfl | (simp (disch:=(simp only [zb2,zc5,idsA,idsB,idsC,za7,el];done)) only [zfa,nu,py,tupT,zdf,zh9];done) | (simp (disch:=(simp only [zb2,zc5,idsA,idsB,idsC,za7,el];done)) only [zfa,nu,py,tupT,zdf,zh9];rfl)) (ev:v.ren (atR rl)=v':=by first|rfl | (simp (disch:=(simp only [zb2,zc5,idsA,idsB,idsC,za7,el];done)) only [zfa,nu,py,tupT,zdf,zh9];done) | (simp (disch:=(simp only [zb2,zc5,idsA,idsB,idsC,za7,el];done)) only [zfa,nu,py,tupT,zdf,zh9];rfl)):Call Tryz.prog (EE ax) [] fid args' (stL bs) v' (stL bs'):=Call.at rl k h1 h2 h3 h4 h5 h6 ea ev
end
section
variable {ax:Axs} {N:Nat} {h h':Nat->T} {S S':TS} {Q:Exit->(Nat->T)->TS->Prop} {F:Prop} {C:(Nat->T)->Prop} {R:(Nat->T)->Prop} {bs bs2:List Box}
theorem fz {c:Code} (c0 b i:Nat) {e len M N0:Nat} {z z0:Bool} {l l0:List T} (L:List T) (hL:(l.drop 0).take (len*e)=L.flatMap T.cells) (hs:∀ t,t∈L->t.cells.length=e) (hlen:L.length=len) (k:TW Tryz.prog (EE ax) [] N c h (stL bs2) Q) (hS0:(stL bs).box c0=.cells z0 N0 l0:=by rfl) (hi:l0[i]?=some (.arr b e 0 len len M):=by first|rfl | (simp (disch:=decide) only [fx,jo,sgG,gw,ed];done)) (hS:(stL bs).box b=.cells z M l:=by rfl) (hne:c0≠b:=by decide) (he:0<e:=by decide) (hoff:0+len*e<=M:=by omega) (h1:c0<bs.length:=by simp only [lzA]<;>omega) (h2:b<bs.length:=by simp only [lzA]<;>omega) (hb:(bs.set c0 (.cells z0 N0 (l0.set i (.lst e L)))).set b .gone=bs2:=by simp (disch:=decide) only [scA,yfb,ku,kb,gw];try rfl):TW Tryz.prog (EE ax) [] N c h (stL bs) Q:=TW.freezeC c0 i L hS0 hi hne hS he hoff hL hs hlen (by rw [zhs _ _ _ h1,zhs _ _ _ (by rw [List.length_set];exact h2),hb];exact k)
theorem na {f:jx} {args args':List T} {S:TS} {v:T} (k:zap Tryz.prog (EE ax) [] f args' S v) (h:Le2 args args':=by (repeat' (first|exact trivial|apply dx))<;>first|exact .inl rfl|exact .inr (.inl ⟨rfl,_,rfl⟩)|exact .inr ⟨rfl,_,rfl⟩ | (refine .inr (.inr ⟨_,_,rfl,rfl,?_⟩);(repeat' (first|exact trivial|apply dx))<;>first|exact .inl rfl|exact .inr ⟨rfl,_,rfl⟩)):zap Tryz.prog (EE ax) [] f args S v:=zap.nilA k h
theorem nz {c:Code} (c0 i e:Nat) {N0:Nat} {z0:Bool} {l0:List T} (k:TW Tryz.prog (EE ax) [] N c h (stL bs2) Q) (hS0:(stL bs).box c0=.cells z0 N0 l0:=by rfl) (hi:l0[i]?=some .nils:=by first|rfl | (simp (disch:=decide) only [fx,jo,sgG,gw,ed];done)) (h1:c0<bs.length:=by simp only [lzA]<;>omega) (hb:bs.set c0 (.cells z0 N0 (l0.set i (.lst e [])))=bs2:=by simp (disch:=decide) only [scA,yfb,ku,kb,gw];try rfl):TW Tryz.prog (EE ax) [] N c h (stL bs) Q:=TW.nilC c0 i e hS0 hi (by rw [zhs _ _ _ h1,hb];exact k)
theorem enBr {fid:jx} {fn:Func} {body:Code} {args:List T} {vs:List T} {bs0 bs1:List Box} (l:List qa) (N:Nat) (K:List Nat) (hax:ax fid=none) (hf:(EE ax).fn.at fid=some fn) (k:∀ h2,C h2->TW Tryz.prog (EE ax) [] N body h2 (stL bs0) (FinB ax l vs bs1)) (hb:fn.body=some body:=by rfl) (hl:fn.results.toList=l:=by rfl) (hn:fn.ntmps=N:=by rfl) (hN:N<=512:=by decide) (hlen:args.length<=N:=by simp) (h01:bs0.length<=bs1.length:=by simp only [lzA]<;>omega) (hv:(tupT vs).ids bs1.length=true:=by first|rfl | (simp only [zb2,zc5,idsA,idsB,idsC,za7,el];done) | (simp only [tupT,zb2,zc5,idsA,idsB,idsC,za7,el];done) | (simp only [tupT,zb2,zc5,idsA,idsB,idsC,za7,el];rfl)) (he:argT args 0 (fun _=>.junk)=h':=by simp only [zkb,zmv,ed];try rfl) (hC:∀ h2,KP h' h2 K->C h2:=by intro h2 k;simp only [KP,za8,ee,reduceIte] at k;first|exact k|exact trivial):Call Tryz.prog (EE ax) [] fid args (stL bs0) (tupT vs) (stL bs1):=enB l N K hax hf k hb hl hn hN hlen h01 hv he hC
theorem car {fid:jx} {args args':List T} {v v':T} {bs0 bs1 bs bs':List Box} (rl:List Nat) (k:Call Tryz.prog (EE ax) [] fid args (stL bs0) v (stL bs1)) (h1:rlOk bs0.length bs1.length bs.length bs'.length rl=true:=by rfl) (h2:T.idsL bs0.length args=true:=by simp only [zsl,zb2,zc5,reduceIte,ee,ed,fm,jr,idsA,idsB,idsC,za7]) (h3:v.ids bs1.length=true:=by first | (simp only [zsl,zb2,zc5,reduceIte,ee,ed,fm,jr,idsA,idsB,idsC,za7];done)|rfl | (simp only [zb2,zc5,idsA,idsB,idsC,za7,el];done) | (simp only [tupT,zb2,zc5,idsA,idsB,idsC,za7,el];done) | (simp only [tupT,zb2,zc5,idsA,idsB,idsC,za7,el];rfl)) (h4:PreL (atR rl) bs0.length bs rl bs0:=by (repeat' (first|exact trivial|apply dx))<;>first|rfl | (simp only [zsl,zb2,zc5,reduceIte,ee,ed,fm,jr,idsA,idsB,idsC,za7];done) | (simp (disch:=(simp only [zb2,zc5,idsA,idsB,idsC,za7,el];done)) only [zfa,nu,py,tupT,zdf,zh9];done) | (simp (disch:=(simp only [zb2,zc5,idsA,idsB,idsC,za7,el];done)) only [zfa,nu,py,tupT,zdf,zh9];rfl)) (h5:PreL (atR rl) bs1.length bs' rl bs1:=by (repeat' (first|exact trivial|apply dx))<;>first|rfl | (simp only [zsl,zb2,zc5,reduceIte,ee,ed,fm,jr,idsA,idsB,idsC,za7];done) | (simp (disch:=(simp only [zb2,zc5,idsA,idsB,idsC,za7,el];done)) only [zfa,nu,py,tupT,zdf,zh9];done) | (simp (disch:=(simp only [zb2,zc5,idsA,idsB,idsC,za7,el];done)) only [zfa,nu,py,tupT,zdf,zh9];rfl)) (h6:zx5 rl 0 bs bs':=by (repeat' (first|exact trivial|apply dx))<;>first|rfl|exact .inl rfl|exact .inr rfl) (ea:nu (atR rl) args=args':=by first|rfl | (simp (disch:=(simp only [zb2,zc5,idsA,idsB,idsC,za7,el];done)) only [zfa,nu,py,tupT,zdf,zh9];done) | (simp (disch:=(simp only [zb2,zc5,idsA,idsB,idsC,za7,el];done)) only [zfa,nu,py,tupT,zdf,zh9];rfl)) (ev:v.ren (atR rl)=v':=by first|rfl | (simp only [tupT,py,nu];rw [zh9]<;>first|rfl | (simp only [zb2,zc5,idsA,idsB,idsC,za7,el];done)) | (simp (disch:=(simp only [zb2,zc5,idsA,idsB,idsC,za7,el];done)) only [zfa,nu,py,tupT,zdf,zh9];done) | (simp (disch:=(simp only [zb2,zc5,idsA,idsB,idsC,za7,el];done)) only [zfa,nu,py,tupT,zdf,zh9];rfl)):Call Tryz.prog (EE ax) [] fid args' (stL bs) v' (stL bs'):=Call.at rl k h1 h2 h3 h4 h5 h6 ea ev
theorem dc {id:Nat} {ops:Array Oper} {ob1 ob2:Prop} {h1:Nat->T} (n:Nat) (cs:List Nat) (K:List Nat) (outsP:List T) (own:List Nat) (outs:List (T×TS)) (f:F) (ho1:ob1) (ho2:ob2) (hq:∀ h2,C h2->R h2) (hd:ze3 N ops.toList=true:=by kernel_rfl) (hok:zsp (EE ax) n cs ops.toList=true:=by kernel_rfl) (hcs:F->z82 h cs:=by intro q;simp only [z82,isCp,and_self,q]) (hp:F->runP Tryz.prog (EE ax) [] ops.toList (ops.toList.take n) h S outsP=some (ob1,h1):=by intro q;simp (maxSteps:=900000) (disch:=first|omega|decide | (simp only [lzA,ed,fm];done)|fail) only [b0,b1,b2,b3,b4,b5,b6,b7,b8,ed,gw,ee,fy,reduceIte,reduceCtorEq,tB0,tB1,tB2,tB3,zgk,zgj,zes,zl0,zl1,zl2,zl3,dz,aggO,zbb,za1,zc9,zan,zdu,zaq,zab,zaj,zbg,ew,gh,fg,zbw,zbv,zcj,ziv,zcg,zcd,zce,zdl,zer,zdb,zda,ze0,zez,zby,za3,zbx,zb1,za4,zb0,q,eqA,eqB,eqsA,eqsB];with_reducible rfl) (hr:F->runT Tryz.prog (EE ax) [] own ops.toList (ops.toList.drop n) h1 S outs=some (ob2,h',stL bs):=by intro q;simp (maxSteps:=900000) (disch:=first|omega|decide | (simp only [lzA,ed,fm];done)|fail) only [b0,b1,b2,b3,b4,b5,b6,b7,b8,ed,gw,ee,fy,reduceIte,reduceCtorEq,tB0,tB1,tB2,tB3,zgk,zgj,zes,zl0,zl1,zl2,zl3,dz,aggO,zbb,za1,zc9,zan,zdu,zaq,zab,zaj,zbg,ew,gh,fg,zbw,zbv,zcj,ziv,zcg,zcd,zce,zdl,zer,zdb,zda,ze0,zez,zby,za3,zbx,zb1,za4,zb0,q,eqA,eqB,eqsA,eqsB];with_reducible rfl) (hC:F->∀ h2,KP h' h2 K->C h2:=by intro q h2 k;simp only [KP,za8,ee,reduceIte,gp,gn,q] at k;first|exact k|exact trivial) (hR:∀ h2,R h2->Q .normal h2 (stL bs):=by intro h2 k;first | (simp only [onT,onTB];exact k)|exact k):TW Tryz.prog (EE ax) [] N (.region id ops true) h S Q :=
  TW.drawC (zbq ax) n cs outsP own outs hd hok (hp f) ho1 (hr f) ho2 (hcs f) (hR _ (hq _ (hC f _ (KP.refl _ K))))
theorem dcg {id:Nat} {ops:Array Oper} {ob1 ob2:Prop} {h1:Nat->T} (n:Nat) (cs:List Nat) (outsP:List T) (own:List Nat) (outs:List (T×TS)) (bs:List Box) (C:(Nat->T)->Prop) (f:F) (ho1:ob1) (ho2:ob2) (hq:∀ h2,C h2->R h2) (hd:ze3 N ops.toList=true:=by kernel_rfl) (hok:zsp (EE ax) n cs ops.toList=true:=by kernel_rfl) (hcs:F->z82 h cs:=by intro q;simp only [z82,isCp,and_self,q]) (hp:F->runP Tryz.prog (EE ax) [] ops.toList (ops.toList.take n) h S outsP=some (ob1,h1):=by intro q;simp (maxSteps:=900000) (disch:=first|omega|decide | (simp only [lzA,ed,fm];done)|fail) only [b0,b1,b2,b3,b4,b5,b6,b7,b8,ed,gw,ee,fy,reduceIte,reduceCtorEq,tB0,tB1,tB2,tB3,zgk,zgj,zes,zl0,zl1,zl2,zl3,dz,aggO,zbb,za1,zc9,zan,zdu,zaq,zab,zaj,zbg,ew,gh,fg,zbw,zbv,zcj,ziv,zcg,zcd,zce,zdl,zer,zdb,zda,ze0,zez,zby,za3,zbx,zb1,za4,zb0,q,eqA,eqB,eqsA,eqsB,apA,apB,tSrc];with_reducible rfl) (hr:F->runT Tryz.prog (EE ax) [] own ops.toList (ops.toList.drop n) h1 S outs=some (ob2,h',S'):=by intro q;simp (maxSteps:=900000) (disch:=first|omega|decide | (simp only [lzA,ed,fm];done)|fail) only [b0,b1,b2,b3,b4,b5,b6,b7,b8,ed,gw,ee,fy,reduceIte,reduceCtorEq,tB0,tB1,tB2,tB3,zgk,zgj,zes,zl0,zl1,zl2,zl3,dz,aggO,zbb,za1,zc9,zan,zdu,zaq,zab,zaj,zbg,ew,gh,fg,zbw,zbv,zcj,ziv,zcg,zcd,zce,zdl,zer,zdb,zda,ze0,zez,zby,za3,zbx,zb1,za4,zb0,q,eqA,eqB,eqsA,eqsB,apA,apB,tSrc];with_reducible rfl) (hS:F->S'=stL bs:=by intro q;first|rfl | (simp only [gsA,zb3,ee,reduceIte,and_self,and_true,true_and,gp,gn,q];done) | (simp only [gsA,zb3,ee,reduceIte,and_self,and_true,true_and,gp,gn,q];rfl)) (hC:F->C h':=by intro q;first|exact q | (simp only [za8,ee,reduceIte,and_self,and_true,true_and,gp,gn,q];done) | (simp only [gsA,zb3,ee,reduceIte,and_self,and_true,true_and,gp,gn,q];done) | (simp only [za8,ee,reduceIte,and_self,and_true,true_and,gp,gn,q];and_intros<;>rfl) | (simp only [gsA,zb3,ee,reduceIte,and_self,and_true,true_and,gp,gn,q];and_intros<;>rfl) | (and_intros<;>rfl)) (hR:∀ h2,R h2->Q .normal h2 (stL bs):=by intro h2 k;first | (simp only [onT,onTB];exact k)|exact k):TW Tryz.prog (EE ax) [] N (.region id ops true) h S Q :=
  TW.drawC (zbq ax) n cs outsP own outs hd hok (hp f) ho1 (hr f) ho2 (hcs f) (by rw [hS f];exact hR _ (hq _ (hC f)))
end
def alcO (cf:Nat->Option Nat) (o:Oper):Option Nat:=match o.op with
  |.move _=>some 0
  |.assign _=>some 0
  |.pick _ _ _=>some 0
  |.alloc _=>some 1
  |.box _ _=>some 1
  |.load _ _=>some 0
  |.store _ _ _=>some 0
  |.fieldAddr _ _ _=>some 0
  |.indexAddr _ _ _=>some 0
  |.binOp _ _ _ _ _=>some 0
  |.unOp _ _ _=>some 0
  |.extract _ _=>some 0
  |.build _ _=>some 0
  |.call c=>(match c.callee with|.value (.func f)=>cf f|_=>none)
  |_=>none
def addO:Option Nat->Option Nat->Option Nat
  |some a,some b=>some (a+b)
  |_,_=>none
theorem zry {x y:Option Nat} {k:Nat} (h:addO x y=some k):∃ a b,x=some a/\y=some b/\k=a+b:=by
  cases x<;>cases y<;>simp [addO] at h;exact ⟨_,_,rfl,rfl,h.symm⟩
def alcL (cf:Nat->Option Nat):List Oper->Option Nat
  |[]=>some 0
  |o :: l=>addO (alcO cf o) (alcL cf l)
def alcC (cf:Nat->Option Nat):Code->Option Nat
  |.region _ ops _=>alcL cf ops.toList
  |.seq a b=>addO (alcC cf a) (alcC cf b)
  |.cond _ a b=>addO (alcC cf a) (alcC cf b)
  |.block _ b=>alcC cf b
  |.loop b=>(match alcC cf b with|some 0=>some 0|_=>none)
  |.scope b=>alcC cf b
  |.skip=>some 0
  |.label _=>some 0
  |.exit _=>some 0
  |.ret=>some 0
  |_=>none
section
variable {P:Program} {Γ:Env} {s s':CS} {v:Value}
theorem yna {x:Option Value} (h:retC s x=some (v,s')):s'.n=s.n:=by rw [(zj5 h).2]
theorem z97 {ρ:Operand->Value} {o:Oper} {x:Option Value} (h:zh2 P ρ o s x=some (v,s')):s'.n=s.n:=by
  unfold zh2 at h
  cases x with
  |some y=>simp only [dy,ec] at h;rw [<- h.2]
  |none=>exact yna h
theorem yk2 {a:Addr} {tag:Nat} {cs:List Value} (h:s.newRow tag cs=some (a,s')):s'.n=s.n+1:=by
  unfold CS.newRow at h;obtain ⟨_,h⟩:=zbo h;simp only [dy,ec] at h;rw [<- h.2]
theorem ysb {tag:Nat} {cs:List Value} (h:ptrC (s.newRow tag cs)=some (v,s')):s'.n=s.n+1:=by
  obtain ⟨a,h1,_⟩:=zvt h;exact yk2 h1
theorem yfv {a:Addr} {cs:List Value} (h:s.readRow a=some (cs,s')):s'.n=s.n:=by
  unfold CS.readRow at h;split at h
  . simp only [dy,ec] at h;rw [<- h.2]
  . simp at h
theorem z4v {i:TI} {a:Addr} (h:s.loadVar i a=some (v,s')):s'.n=s.n:=by
  unfold CS.loadVar at h
  cases hq:s.readRow a with
  |none=>rw [hq] at h;simp at h
  |some p =>
    obtain ⟨cs,s1⟩:=p;rw [hq] at h;simp only at h;split at h
    . simp only [dy,ec] at h;rw [<- h.2];exact yfv hq
    . simp at h
theorem ypj {a:Addr} {vs:List Value} (h:s.write a vs=some s'):s'.n=s.n:=by
  unfold CS.write at h;split at h
  . obtain ⟨_,h⟩:=zbo h;simp only [dy] at h;rw [<- h]
  . simp at h
theorem zys {x:Value} {t:CS} (h:some (x,t)=some (v,s')) (ht:t.n=s.n):s'.n=s.n:=by
  simp only [dy,ec] at h;rw [<- h.2];exact ht
theorem yqx {cf:Nat->Option Nat} {call:zc8} (hcall:∀ f k args s v s',cf f=some k->call f args s=some (v,s')->s'.n<=s.n+k) {fr:Fr} {o:Oper} {k:Nat} (ho:alcO cf o=some k) (h:cop P Γ call (zgp fr) o s=some (v,s')):s'.n<=s.n+k:=by
  obtain ⟨d,op,ty,pos,e,g⟩:=o;unfold alcO at ho;simp only at ho;split at ho
  case h_1=>cases ho;rw [yly] at h;exact jm (zys h rfl)
  case h_2=>cases ho;rw [ydm] at h;exact jm (zys h rfl)
  case h_3 =>
    cases ho;rw [ylx] at h;unfold zs9 at h;split at h
    . exact jm (zys h rfl)
    . simp at h
  case h_4 =>
    cases ho;rw [yjd] at h;unfold zk6 at h;split at h
    . exact jm (ysb h)
    . simp at h
  case h_5=>cases ho;rw [yqv] at h;exact jm (ysb h)
  case h_6 =>
    cases ho;rw [ylz] at h;unfold zpj at h;split at h
    . split at h
      . exact jm (z4v h)
      . simp at h
    . simp at h
  case h_7 =>
    cases ho;rw [yjb] at h;unfold zk4 at h;split at h
    . split at h
      . obtain ⟨_,h⟩:=zgx h;unfold zw8 at h;split at h
        . rename_i hw;simp only [dy,ec] at h;rw [<- h.2];exact jm (ypj hw)
        . simp at h
      . simp at h
    . simp at h
  case h_8 =>
    cases ho;rw [z2m] at h;unfold zdg at h;split at h
    . split at h
      . split at h
        . split at h
          . cases hb:Nat.beq _ 0<;>rw [hb] at h<;>simp only [cond_true,cond_false] at h
            . exact jm (zys h rfl)
            . simp at h
          . simp at h
        . simp at h
      . simp at h
    . simp at h
  case h_9 =>
    cases ho;rw [z2l] at h;unfold zb5 at h;split at h
    . have hA:∀ (z k n:Nat) (a:Addr),ztt s z k n a=some (v,s')->s'.n=s.n:=by
        intro z k n a h;unfold ztt at h;obtain ⟨_,h⟩:=zgx h;exact zys h rfl
      split at h
      . split at h
        . split at h
          . exact jm (hA _ _ _ _ h)
          . simp at h
        . simp at h
      . split at h
        . split at h
          . exact jm (hA _ _ _ _ h)
          . simp at h
        . simp at h
      . simp at h
    . simp at h
  case h_10 =>
    cases ho;rw [yqw] at h;unfold zls at h;split at h
    . exact jm (zys h rfl)
    . exact jm (z97 h)
  case h_11=>cases ho;rw [ys5] at h;exact jm (z97 h)
  case h_12 =>
    cases ho;rw [z8n] at h;unfold zgu at h;split at h
    . exact jm (yna h)
    . simp at h
  case h_13 =>
    cases ho;rw [yjc] at h;unfold zi2 at h
    have hA:∀ (c:Option (List Value)),aggC s c=some (v,s')->s'.n=s.n:=by
      intro c h;obtain ⟨_,_,_,rfl⟩:=zoc h;rfl
    split at h
    . split at h
      . obtain ⟨_,h⟩:=zbo h;exact jm (hA _ h)
      . split at h
        . exact jm (hA _ h)
        . simp at h
      . simp at h
    . simp at h
  case h_14 =>
    rename_i c;obtain ⟨ce,args,tys⟩:=c
    cases ce with
    |value x =>
      cases x with
      |func f =>
        simp only at ho;rw [yl0] at h;exact hcall _ _ _ _ _ _ ho h
      |_=>simp at ho
    |_=>simp at ho
  case h_15=>simp at ho
theorem z3e {cf:Nat->Option Nat} {call:zc8} (hcall:∀ f k args s v s',cf f=some k->call f args s=some (v,s')->s'.n<=s.n+k) {ops:List Oper} {fr fr':Fr} {o:Oper} {k:Nat} (ho:alcO cf o=some k) (h:zcw P Γ call ops o fr s=some (fr',s')):s'.n<=s.n+k:=by
  unfold zcw at h
  cases hw:zde ops fr o with
  |true =>
    rw [hw] at h;simp only [cond_true] at h;split at h
    . rename_i hq;simp only [dy,ec] at h;rw [<- h.2];exact yqx hcall ho hq
    . simp at h
  |false =>
    rw [hw] at h;simp only [cond_false,dy,ec] at h;rw [<- h.2];omega
theorem z9w {cf:Nat->Option Nat} {call:zc8} (hcall:∀ f k args s v s',cf f=some k->call f args s=some (v,s')->s'.n<=s.n+k) {ops:List Oper}:∀ (l:List Oper) (fr fr':Fr) (s s':CS) (k:Nat),alcL cf l=some k->runC P Γ call ops l fr s=some (fr',s')->s'.n<=s.n+k
  |[],fr,fr',s,s',k,hk,h=>by
    simp only [runC,dy,ec] at h;rw [<- h.2];omega
  |o :: l,fr,fr',s,s',k,hk,h=>by
    obtain ⟨a,b,h1,h2,rfl⟩:=zry hk;simp only [runC] at h;split at h
    . rename_i hq;have q1:=z3e hcall h1 hq;have q2:=z9w hcall l _ _ _ _ b h2 h;omega
    . simp at h
theorem z5x {cf:Nat->Option Nat} {call:zc8} (hcall:∀ f k args s v s',cf f=some k->call f args s=some (v,s')->s'.n<=s.n+k) {ops:List Oper}:∀ (l:List Oper) (fr fr':Fr) (s s':CS) (k:Nat) (lg:List Lg),alcL cf l=some k->drawC P Γ call ops l fr s=some (lg,fr',s')->s'.n<=s.n+k
  |[],fr,fr',s,s',k,lg,hk,h=>by
    simp only [drawC,dy,ec] at h;rw [<- h.2.2];omega
  |o :: l,fr,fr',s,s',k,lg,hk,h=>by
    obtain ⟨a,b,h1,h2,rfl⟩:=zry hk;simp only [drawC] at h;split at h
    . rename_i fr1 t hq;split at h
      . rename_i hq2;simp only [dy,ec] at h;obtain ⟨_,_,rfl⟩:=h;have q1:=z3e hcall h1 hq;have q2:=z5x hcall l _ _ _ _ b _ h2 hq2;have e1:(CS.inner s).n=s.n:=rfl;have e2:(CS.outer s t).n=t.n:=rfl;omega
      . simp at h
    . simp at h
theorem yo1 {cf:Nat->Option Nat} (hcall:∀ n f k args s v s',cf f=some k->zeo P Γ n f args s=some (v,s')->s'.n<=s.n+k):∀ (n:Nat) (c:Code) (fr fr':Fr) (s s':CS) (e:Exit) (k:Nat),alcC cf c=some k->cm P Γ n c fr s=some (e,fr',s')->s'.n<=s.n+k:=by
  intro n
  induction n with
  |zero=>intro c fr fr' s s' e k hk h;simp [cm] at h
  |succ n ih =>
    intro c fr fr' s s' e k hk h
    cases c with
    |skip=>simp only [cm,dy,ec] at h;rw [<- h.2.2];omega
    |label lb=>simp only [cm,dy,ec] at h;rw [<- h.2.2];omega
    |exit id=>simp only [cm,dy,ec] at h;rw [<- h.2.2];omega
    |ret=>simp only [cm,dy,ec] at h;rw [<- h.2.2];omega
    |region id ops draw =>
      have h' : (bif draw then match drawC P Γ (zeo P Γ n) ops.toList ops.toList fr s with
          |some (logs,fr,t)=>bif calm s.n ops.toList logs then some (Exit.normal,fr,t) else none
          |none=>none
        else match runC P Γ (zeo P Γ n) ops.toList ops.toList fr s with
          |some (fr,s)=>some (Exit.normal,fr,s)
          |none=>none)=some (e,fr',s'):=h
      cases draw with
      |true =>
        simp only [cond_true] at h';split at h'
        . rename_i hd;obtain ⟨_,h'⟩:=zgx h';simp only [dy,ec] at h';obtain ⟨rfl,rfl,rfl⟩:=h';exact z5x (hcall n) _ _ _ _ _ _ _ hk hd
        . simp at h'
      |false =>
        simp only [cond_false] at h';split at h'
        . rename_i hd;simp only [dy,ec] at h';obtain ⟨rfl,rfl,rfl⟩:=h';exact z9w (hcall n) _ _ _ _ _ _ hk hd
        . simp at h'
    |seq a b =>
      obtain ⟨x,y,h1,h2,rfl⟩:=zry hk;simp only [cm] at h;split at h
      . rename_i hq;have q1:=ih _ _ _ _ _ _ _ h1 hq;have q2:=ih _ _ _ _ _ _ _ h2 h;omega
      . have q1:=ih _ _ _ _ _ _ _ h1 h;omega
    |cond c t e' =>
      obtain ⟨x,y,h1,h2,rfl⟩:=zry hk;simp only [cm] at h;split at h
      . rename_i b _
        cases b with
        |true=>have q1:=ih _ _ _ _ _ _ _ h1 h;omega
        |false=>have q1:=ih _ _ _ _ _ _ _ h2 h;omega
      . simp at h
    |block id b =>
      simp only [cm] at h;split at h
      . rename_i hq;simp only [dy,ec] at h;obtain ⟨_,_,rfl⟩:=h;exact ih b _ _ _ _ _ _ hk hq
      . exact ih b _ _ _ _ _ _ hk h
    |loop b =>
      have hk2:=hk;simp only [alcC] at hk;split at hk
      . rename_i hb;cases hk;simp only [cm] at h;split at h
        . rename_i hq;have q1:=ih _ _ _ _ _ _ _ hb hq;have q2:=ih _ _ _ _ _ _ _ hk2 h;omega
        . exact ih _ _ _ _ _ _ _ hb h
      . simp at hk
    |scope b =>
      simp only [cm] at h;exact ih b _ _ _ _ _ _ hk h
    |_=>simp [alcC] at hk
theorem z9z {fr:Fr}:∀ (l:List qa) (s s':CS) (vs:List Value),resC Γ fr s l=some (vs,s')->s'.n=s.n
  |[],s,s',vs,h=>by simp only [resC,dy,ec] at h;rw [<- h.2]
  |.tmp t :: l,s,s',vs,h=>by
    simp only [resC] at h;split at h
    . rename_i hq;simp only [dy,ec] at h;rw [<- h.2];exact z9z l _ _ _ hq
    . simp at h
  |.cell a t :: l,s,s',vs,h=>by
    simp only [resC] at h;split at h
    . split at h
      . rename_i hq;split at h
        . rename_i hq2;simp only [dy,ec] at h;rw [<- h.2,z9z l _ _ _ hq2,z4v hq]
        . simp at h
      . simp at h
    . simp at h
theorem z6e {cf:Nat->Option Nat} (hcall:∀ n f k args s v s',cf f=some k->zeo P Γ n f args s=some (v,s')->s'.n<=s.n+k) {f:Nat} {fn:Func} {body:Code} (hax:Γ.ax f=none) (hfn:Γ.fn.at f=some fn) (hb:fn.body=some body) {k:Nat} (hk:alcC cf body=some k) {n:Nat} {args:List Value} (h:zeo P Γ n f args s=some (v,s')):s'.n<=s.n+k:=by
  unfold zeo zpc at h;simp only [hax,hfn,hb] at h;split at h
  . rename_i hq;obtain ⟨_,hq⟩:=zbo hq;split at h
    . rename_i hr;simp only [dy,ec] at h;have q1:=yo1 hcall _ _ _ _ _ _ _ _ hk hq;have q2:=z9z _ _ _ _ hr;rw [<- h.2,q2];exact q1
    . simp at h
  . rename_i hq;obtain ⟨_,hq⟩:=zbo hq;split at h
    . rename_i hr;simp only [dy,ec] at h;have q1:=yo1 hcall _ _ _ _ _ _ _ _ hk hq;have q2:=z9z _ _ _ _ hr;rw [<- h.2,q2];exact q1
    . simp at h
  . simp at h
theorem yjt {G L:List Nat} {ax:Axs} (hm:P.follows .mixedOrders=true) (hL:zj8 P G L=true) (hx:zmx P G L ax) {f:Nat} {fn:Func} {body:Code} (hax:ax f=none) (hfn:(zeh P L ax).fn.at f=some fn) (hb:fn.body=some body)
    {cf:Nat->Option Nat} (hcall:∀ n f k args s v s',cf f=some k->zeo P (zeh P L ax) n f args s=some (v,s')->s'.n<=s.n+k) {K:Nat} (hk:alcC cf body=some K) {dec:List Value->Option Value}
    (hd:∀ args v,dec args=some v->∃ ts t,Pure P (zeh P L ax) [] f ts t/\(∀ A β g,VL A β g ts args)/\(∀ A β g v',VT A β g t v'->v'=v)/\za6 3 v=true) :
    AxOk P G f (fun args s=>match dec args with|some v=>some (v,{ s with n:=s.n+K })|none=>none):=by
  refine ax_of hm hL hx hax hfn hb fun args s v s' hh hI=>?_
  cases hq:dec args with
  |none=>simp only [hq] at hh;cases hh
  |some v1 =>
    simp only [hq] at hh;simp only [dy,ec] at hh;obtain ⟨rfl,rfl⟩:=hh;obtain ⟨ts,t,k1,k2,k3,k4⟩:=hd args v1 hq
    have hT:TRel [] (fun _=>False) bx0 ts0 s.fn :=
      ⟨⟨_,rfl⟩,hI.fn,fun f hf=>hf.elim,fun f hf=>absurd hf zj7,fun b b' l l' f hb=>by simp [bx0] at hb,fun b _=>rfl,fun b z N l hb=>by simp [ts0] at hb,fun b l hb=>by simp [ts0] at hb,fun x hx=>by simp at hx⟩
    obtain ⟨v2,s1,A',e1,e2,e3,e4⟩:=k1.call ts0 _ _ _ args hT (k2 _ _ _);have ev:=k3 _ _ _ _ e3;subst ev;refine ⟨k4,rfl,rfl,rfl,fun x h=>h,Nat.le_add_right _ _,s1,e1,?_,fun x h=>?_,fun x h=>e4.wr x h,fun f hf=>e4.keep f hf⟩
    . obtain ⟨n,hn⟩:=zlz e1;exact z6e (s:=s.fn) hcall (ax_no hax) hfn hb hk hn
    . rcases e4.rd x h with q|⟨_,q|q⟩
      . exact q
      . exact q.elim
      . exact absurd q zj7
noncomputable def ycb (K:Nat) (dec:List Value->Option Value):List Value->CS->Option (Value×CS):=fun args s=>match dec args with|some v=>some (v,{ s with n:=s.n+K })|none=>none
theorem z8u {L:List Nat} {ax:Axs} (hm:P.follows .mixedOrders=true) (hL:zj8 P [] L=true) (hx:zmx P [] L ax) {f fuel:Nat} {fn:Func} {body:Code} (hfn:(zeh P L ax).fn.at f=some fn) (hb:fn.body=some body) (h:z6b P (zeh P L ax) f fuel=true) (w:World) :
    Calls P f #[] w fun e w'=>e=.returned (.bool true)/\Below w.heap.size w w':=by
  unfold z6b at h;split at h
  . rename_i s' hq;have hI:CInv cs0:=⟨fun f _=>z8m f,fun f p hp=>by rw [z8m] at hp;simp [zd4] at hp,Nat.le_refl _⟩;have hr:Rel (fun _ _=>none) (fun _=>True) cs0 w:=⟨fun _ _ _ _ _ _ _ _ _ h=>by simp at h,fun _ _ _ _ _ h=>by simp at h,fun f _=>by rw [z8m];exact zh8.ofNone,hI.none,hI.vers⟩;have hcall:=(z2t hx.can hx.its hx.call hL (z8p hm hx.can hx.its hx.call hL fuel).1).fn f [] #[] cs0 _ s' w (fun _ _=>none) (fun _=>True) hq trivial hr (fun _ _=>trivial) (fun _ _ _=>rfl) hI (fun g hg=>by simp [has] at hg);obtain ⟨x,h1,h2⟩:=hcall;have he:=zuf (ax:=ax) hL hfn hb #[] w;rw [he] at h1;have hx:x=f:=by simp_all
    subst hx;refine h2.mono ?_;rintro e w' ⟨σ',v',rfl,k1,k2,k3⟩;exact ⟨by rw [zq1 3 rfl k1],k3.st.1,k3.st.2.1,k3.st.2.2,k3.size,fun k hk=>k3.frame k hk fun g u o z hs=>by simp at hs⟩
  . simp at h
end
structure NoAx (ax:Axs):Prop where
  no:∀ f,Nat.beq f 8=false->ax f=none
instance {ax:Axs}:Coe (ydt ax) (NoAx ax):=⟨fun h=>⟨h.no⟩⟩
def zcs (k:Nat) (p:Pat) (q:Pat):Nat->Int->Option (Bool ⊕ Unit)
 |0,_=>none
 |m+1,i=>(if i<10 then (if 0<=i/\i<(10:Int) then (if (iAnd .i64 (iAnd .i64 (iXor .i64 (gx p.bits.l i) (gx q.bits.l i)) (gx p.mask.l i)) (gx q.mask.l i))≠0 then some (.inl false) else zcs k p q m (d9.wrap (i+1))) else none) else some (.inr ()))
def zfk (k:Nat) (p:Pat) (q:Pat):Option Bool:=((zcs k p q k 0:Option (Bool ⊕ Unit)).bind fun o=>i9 (fun r=>some r) (fun s_=>some true) o)
theorem zmy (ax:Axs) (hx:NoAx ax) (k:Nat) (p:Pat) (q:Pat) (v:Bool) (H:zfk k p q=some v):Pure Tryz.prog (EE ax) [] 90 [ePat p,ePat q] (.bool v):=by
 rw [zfk] at H;refine en [.tmp 4] 30 [0,1] (hx.no _ (by decide)) (fn90 ax) ?_;intro h hh;apply d6;refine rk [2,3] [] hh fun h hh=>?_;repeat apply d6
 refine rk [2,3,6] [] hh fun h hh=>?_;obtain ⟨o,H1,H⟩:=zad H;refine cu [] 2 (fun h bs=>∃ s_:Unit,o=.inr s_/\(True)/\bs=[.cells true 20 (p.mask.l.map (d7 .i64)++(p.bits.l.map (d7 .i64))),.cells true 20 (q.mask.l.map (d7 .i64)++(q.bits.l.map (d7 .i64)))]) ?_ ?_
 .skip;apply fo;refine TW.loopT [2,3,6] (fun m h bs=>∃ (i:Int),zcs k p q m i=some o/\(h 2=.ptr 0 0 20/\h 3=.ptr 1 0 20/\h 6=.int .i64 i)/\bs=[.cells true 20 (p.mask.l.map (d7 .i64)++(p.bits.l.map (d7 .i64))),.cells true 20 (q.mask.l.map (d7 .i64)++(q.bits.l.map (d7 .i64)))]) ?_ k _ _ ?_;rotate_left
  .exact ⟨0,H1,kq hh,rfl⟩
  clear hh h H1;rintro m h bs ⟨i,H1,hh,rfl⟩;rcases m with _|m
  .rw [zcs] at H1;cases H1
  rw [zcs] at H1;apply d6;refine rk [2,3,6,7] [] hh fun h hh=>?_;rcases isp H1 with ⟨c1,H1⟩|⟨c1,H1⟩;rotate_left
  .skip;apply d6;refine cf (f2 hh (zAb c1)) ?_;refine xk ?_;cases H1;exact ce hh ⟨_,rfl,kq hh,rfl⟩
  apply d6;refine ct (f2 hh (zAa c1)) ?_;refine sk ?_;apply d6;apply fo;apply d6;refine rk [2,3,5,6] [] hh fun h hh=>?_;obtain ⟨g2,H1⟩:=isg H1;apply d6;refine dk 18 [2,3,6,28] [] [] [] (f3 hh (zn8 (k:=.i64) (off:=10) (L:=(p.mask.l.map (d7 .i64)++(p.bits.l.map (d7 .i64)))) (r:=[]) p.bits g2) (f3 (zn8 (k:=.i64) (off:=10) (L:=(q.mask.l.map (d7 .i64)++(q.bits.l.map (d7 .i64)))) (r:=[]) q.bits g2) (zn7 (k:=.i64) (L:=(p.mask.l.map (d7 .i64)++(p.bits.l.map (d7 .i64)))) (r:=(p.bits.l.map (d7 .i64))) p.mask g2) (zn7 (k:=.i64) (L:=(q.mask.l.map (d7 .i64)++(q.bits.l.map (d7 .i64)))) (r:=(q.bits.l.map (d7 .i64))) q.mask g2))) trivial trivial fun h hh=>?_;rcases isp H1 with ⟨c3,H1⟩|⟨c3,H1⟩;rotate_left
  .skip;refine cf (f2 hh (zAb c3)) ?_;refine sk ?_;refine rk [2,3,6] [] hh fun h hh=>?_;exact rd m hh ⟨(d9.wrap (i+1)),H1,kq hh,rfl⟩
  refine ct (f2 hh (zAa c3)) ?_;apply d6;refine rk [4] [] hh fun h hh=>?_;cases H1;obtain rfl:=sinl H;exact rt hh
 clear hh h;rintro h bs ⟨s_,rfl,hh,rfl⟩;replace H:=sinr H;apply d6;refine rk [4] [] hh fun h hh=>?_;cases H;exact rt hh
def zdt (k:Nat) (m_:Pat):Nat->Int->(Ar 10)->Option (Ar 10)
 |0,_,_=>none
 |m+1,i,x=>(if i<10 then (if 0<=i/\i<(10:Int) then zdt k m_ m (d9.wrap (i+1)) (x.set i (iOr .i64 (z79 .i64 (gx x.l i) (gx m_.mask.l i)) (gx m_.bits.l i))) else none) else some x)
def zif (k:Nat) (m_:Pat) (h_:Ar 10):Option (Ar 10):=((zdt k m_ k 0 h_:Option (Ar 10)).bind fun s_=>some s_)
theorem zxv (ax:Axs) (hx:NoAx ax) (k:Nat) (m_:Pat) (h_:Ar 10) (v:Ar 10) (H:zif k m_ h_=some v):Pure Tryz.prog (EE ax) [] 97 [ePat m_,.agg (h_.l.map (d7 .i64))] (.agg (v.l.map (d7 .i64))):=by
 rw [zif] at H;refine en [.cell 4 60] 26 [0,1] (hx.no _ (by decide)) (fn97 ax) ?_;intro h hh;apply d6;refine rk [2,3,4] [] hh fun h hh=>?_;repeat apply d6
 refine rk [2,3,4,6] [] hh fun h hh=>?_;obtain ⟨s_,H1,H⟩:=zad H;refine cu [3,4] 3 (fun h bs=>(h 3=.ptr 1 0 10/\h 4=.ptr 2 0 10)/\bs=[.cells true 20 (m_.mask.l.map (d7 .i64)++(m_.bits.l.map (d7 .i64))),.cells true 10 (s_.l.map (d7 .i64)),.cells true 10 ((zA 10).l.map (d7 .i64))]) ?_ ?_
 .skip;apply fo;refine TW.loopT [2,3,4,6] (fun m h bs=>∃ (i:Int) (x:Ar 10),zdt k m_ m i x=some s_/\(h 2=.ptr 0 0 20/\h 3=.ptr 1 0 10/\h 4=.ptr 2 0 10/\h 6=.int .i64 i)/\bs=[.cells true 20 (m_.mask.l.map (d7 .i64)++(m_.bits.l.map (d7 .i64))),.cells true 10 (x.l.map (d7 .i64)),.cells true 10 ((zA 10).l.map (d7 .i64))]) ?_ k _ _ ?_;rotate_left
  .exact ⟨0,h_,H1,kq hh,rfl⟩
  clear hh h H1;rintro m h bs ⟨i,x,H1,hh,rfl⟩;rcases m with _|m
  .rw [zdt] at H1;cases H1
  rw [zdt] at H1;apply d6;refine rk [2,3,4,6,7] [] hh fun h hh=>?_;rcases isp H1 with ⟨c1,H1⟩|⟨c1,H1⟩;rotate_left
  .skip;apply d6;refine cf (f2 hh (zAb c1)) ?_;refine xk ?_;cases H1;exact ce hh ⟨kq hh,rfl⟩
  apply d6;refine ct (f2 hh (zAa c1)) ?_;refine sk ?_;apply d6;apply fo;apply d6;refine rk [2,3,4,5,6] [] hh fun h hh=>?_;obtain ⟨g2,H1⟩:=isg H1;refine dk 13 [2,3,4,6] [] [] [] (f3 hh (arIx x g2) (f3 (zn7 (k:=.i64) (L:=(m_.mask.l.map (d7 .i64)++(m_.bits.l.map (d7 .i64)))) (r:=(m_.bits.l.map (d7 .i64))) m_.mask g2) (zn8 (k:=.i64) (off:=10) (L:=(m_.mask.l.map (d7 .i64)++(m_.bits.l.map (d7 .i64)))) (r:=[]) m_.bits g2) (yjx (k:=.i64) x (iOr .i64 (z79 .i64 (gx x.l i) (gx m_.mask.l i)) (gx m_.bits.l i)) g2))) trivial trivial fun h hh=>?_;refine rk [2,3,4,6] [] hh fun h hh=>?_;exact rd m hh ⟨(d9.wrap (i+1)),(x.set i (iOr .i64 (z79 .i64 (gx x.l i) (gx m_.mask.l i)) (gx m_.bits.l i))),H1,kq hh,rfl⟩
 clear hh h;rintro h bs ⟨hh,rfl⟩;apply d6;refine rk [4] [] hh fun h hh=>?_;cases H;exact rtc hh
def zdo (k:Nat) (n:Pat):Nat->Int->(Ar 10)->Option (Ar 10)
 |0,_,_=>none
 |m+1,i,x=>(if i<10 then (if 0<=i/\i<(10:Int) then zdo k n m (d9.wrap (i+1)) (x.set i (iOr .i64 (gx x.l i) (gx n.mask.l i))) else none) else some x)
def zgf (k:Nat) (m_:Pat) (n:Pat):Option Pat:=((zif k n m_.bits).bind fun ak=>((zdo k n k 0 m_.mask:Option (Ar 10)).bind fun s_=>some (⟨s_,ak⟩:Pat)))
theorem zqw (ax:Axs) (hx:NoAx ax) (k:Nat) (m_:Pat) (n:Pat) (v:Pat) (H:zgf k m_ n=some v):Pure Tryz.prog (EE ax) [] 64 [ePat m_,ePat n] (ePat v):=by
 rw [zgf] at H;refine en [.cell 4 119] 27 [0,1] (hx.no _ (by decide)) (fn64 ax) ?_;intro h hh;apply d6;refine rk [2,3,4] [] hh fun h hh=>?_;obtain ⟨ak,e1,H⟩:=zad H;apply d6;refine rkc [2,3,4] [] [(.agg (ak.l.map (d7 .i64)),stL [.cells true 20 (m_.mask.l.map (d7 .i64)++(m_.bits.l.map (d7 .i64))),.cells true 20 (n.mask.l.map (d7 .i64)++(n.bits.l.map (d7 .i64))),.cells true 20 ((zA 10).l.map (d7 .i64)++((zA 10).l.map (d7 .i64)))])] hh ?_ ?_
 .exact ⟨zap.call ((zxv ax hx k n m_.bits ak e1 ).call _),trivial⟩
 clear hh h;intro h hh;repeat apply d6
 refine rk [2,3,4,11] [] hh fun h hh=>?_;obtain ⟨s_,H1,H⟩:=zad H;refine cu [2,4] 3 (fun h bs=>(h 2=.ptr 0 0 20/\h 4=.ptr 2 0 20)/\bs=[.cells true 20 (s_.l.map (d7 .i64)++(ak.l.map (d7 .i64))),.cells true 20 (n.mask.l.map (d7 .i64)++(n.bits.l.map (d7 .i64))),.cells true 20 ((zA 10).l.map (d7 .i64)++((zA 10).l.map (d7 .i64)))]) ?_ ?_
 .skip;apply fo;refine TW.loopT [2,3,4,11] (fun m h bs=>∃ (i:Int) (x:Ar 10),zdo k n m i x=some s_/\(h 2=.ptr 0 0 20/\h 3=.ptr 1 0 20/\h 4=.ptr 2 0 20/\h 11=.int .i64 i)/\bs=[.cells true 20 (x.l.map (d7 .i64)++(ak.l.map (d7 .i64))),.cells true 20 (n.mask.l.map (d7 .i64)++(n.bits.l.map (d7 .i64))),.cells true 20 ((zA 10).l.map (d7 .i64)++((zA 10).l.map (d7 .i64)))]) ?_ k _ _ ?_;rotate_left
  .exact ⟨0,m_.mask,H1,kq hh,rfl⟩
  clear hh h H1;rintro m h bs ⟨i,x,H1,hh,rfl⟩;rcases m with _|m
  .rw [zdo] at H1;cases H1
  rw [zdo] at H1;apply d6;refine rk [2,3,4,11,12] [] hh fun h hh=>?_;rcases isp H1 with ⟨c2,H1⟩|⟨c2,H1⟩;rotate_left
  .skip;apply d6;refine cf (f2 hh (zAb c2)) ?_;refine xk ?_;cases H1;exact ce hh ⟨kq hh,rfl⟩
  apply d6;refine ct (f2 hh (zAa c2)) ?_;refine sk ?_;apply d6;apply fo;apply d6;refine rk [2,3,4,5,11] [] hh fun h hh=>?_;obtain ⟨g3,H1⟩:=isg H1;refine dk 8 [2,3,4,11] [] [] [] (f3 hh (zn7 (k:=.i64) (L:=(x.l.map (d7 .i64)++(ak.l.map (d7 .i64)))) (r:=(ak.l.map (d7 .i64))) x g3) (f2 (zn7 (k:=.i64) (L:=(n.mask.l.map (d7 .i64)++(n.bits.l.map (d7 .i64)))) (r:=(n.bits.l.map (d7 .i64))) n.mask g3) (yfd (k:=.i64) (L:=(x.l.map (d7 .i64)++(ak.l.map (d7 .i64)))) (r:=(ak.l.map (d7 .i64))) (L2:=((x.set i (iOr .i64 (gx x.l i) (gx n.mask.l i))).l.map (d7 .i64)++(ak.l.map (d7 .i64)))) x (iOr .i64 (gx x.l i) (gx n.mask.l i)) g3))) trivial trivial fun h hh=>?_;refine rk [2,3,4,11] [] hh fun h hh=>?_;exact rd m hh ⟨(d9.wrap (i+1)),(x.set i (iOr .i64 (gx x.l i) (gx n.mask.l i))),H1,kq hh,rfl⟩
 clear hh h;rintro h bs ⟨hh,rfl⟩;apply d6;refine rk [4] [] hh fun h hh=>?_;cases H;exact rtc hh
def yhn:List Value->Option (List Int)
  |[]=>some []
  |.int .i64 i :: l=>(match yhn l with|some r=>some (i :: r)|none=>none)
  |_=>none
def patV:Value->Option Pat
  |.agg cs=>(match yhn cs.toList with
    |some l=>if h:l.length=20 then some ⟨⟨l.take 10,by rw [List.length_take,h];rfl⟩,⟨l.drop 10,by rw [List.length_drop,h]⟩⟩ else none
    |none=>none)
  |_=>none
def vPat (p:Pat):Value:=.agg ⟨(p.mask.l++p.bits.l).map (Value.int .i64)⟩
theorem yao {A:Nat->Prop} {β:Bx} {g:Nat->Fam}:∀ {cs:List Value} {l:List Int},yhn cs=some l->VL A β g (l.map (d7 .i64)) cs
  |[],l,h=>by simp only [yhn,dy] at h;subst h;exact .nil
  |c :: cs,l,h=>by
    unfold yhn at h;split at h
    . rename_i heq;simp at heq
    . rename_i i l2 heq;simp only [List.cons.injEq] at heq;obtain ⟨rfl,rfl⟩:=heq;split at h
      . rename_i r hr;simp only [dy] at h;subst h;exact .cons (.int _ _) (yao hr)
      . simp at h
    . simp at h
theorem z1w {A:Nat->Prop} {β:Bx} {g:Nat->Fam} {v:Value} {p:Pat} (h:patV v=some p):VT A β g (ePat p) v:=by
  unfold patV at h;split at h
  . rename_i cs;split at h
    . rename_i l hl;split at h
      . rename_i h20;simp only [dy] at h;subst h;obtain ⟨cs⟩:=cs;show VT A β g (.agg ((l.take 10).map (d7 .i64)++(l.drop 10).map (d7 .i64))) _;rw [<- List.map_append,List.take_append_drop];exact .agg (yao hl)
      . simp at h
    . simp at h
  . simp at h
theorem yef {A:Nat->Prop} {β:Bx} {g:Nat->Fam}:∀ {l:List Int} {vs:List Value},VL A β g (l.map (d7 .i64)) vs->vs=l.map (Value.int .i64)
  |[],_,.nil=>rfl
  |i :: l,_,.cons h k=>by
    cases h;rw [List.map_cons,yef k]
theorem yrm {A:Nat->Prop} {β:Bx} {g:Nat->Fam} {p:Pat} {v:Value} (h:VT A β g (ePat p) v):v=vPat p:=by
  unfold ePat at h;rw [<- List.map_append] at h
  cases h with
  |agg k=>rw [yef k];rfl
theorem yf7 (p:Pat):za6 2 (vPat p)=true:=by
  unfold vPat za6;rw [fd];intro x hx;simp only [List.mem_map] at hx;obtain ⟨i,_,rfl⟩:=hx;rfl
def ylw:List Value->Option Value
  |[x,y]=>(match patV x,patV y with
    |some p,some q=>(match zfk 12 p q with|some b=>some (.bool b)|none=>none)
    |_,_=>none)
  |_=>none
def z2j:List Value->Option Value
  |[x,y]=>(match patV x,patV y with
    |some p,some q=>(match zgf 12 p q with|some r=>some (vPat r)|none=>none)
    |_,_=>none)
  |_=>none
theorem yne:NoAx fun _=>none:=⟨fun _ _=>rfl⟩
theorem ylv (args:List Value) (v:Value) (h:ylw args=some v):∃ ts t,Pure Tryz.prog (EE fun _=>none) [] 90 ts t/\(∀ A β g,VL A β g ts args)/\(∀ A β g v',VT A β g t v'->v'=v)/\za6 3 v=true:=by
  unfold ylw at h;split at h
  . rename_i x y;split at h
    . rename_i p q hp hq;split at h
      . rename_i b hb;simp only [dy] at h;subst h;exact ⟨_,_,zmy _ yne 12 p q b hb,fun A β g=>.cons (z1w hp) (.cons (z1w hq) .nil),fun A β g v' k=>by cases k;rfl,rfl⟩
      . simp at h
    . simp at h
  . simp at h
theorem ydl (args:List Value) (v:Value) (h:z2j args=some v):∃ ts t,Pure Tryz.prog (EE fun _=>none) [] 64 ts t/\(∀ A β g,VL A β g ts args)/\(∀ A β g v',VT A β g t v'->v'=v)/\za6 3 v=true:=by
  unfold z2j at h;split at h
  . rename_i x y;split at h
    . rename_i p q hp hq;split at h
      . rename_i r hr;simp only [dy] at h;subst h;refine ⟨_,_,zqw _ yne 12 p q r hr,fun A β g=>.cons (z1w hp) (.cons (z1w hq) .nil),fun A β g v' k=>yrm k,?_⟩;have:=yf7 r;unfold vPat za6 at this ⊢;rw [fd] at this ⊢;intro z hz;simp only [List.mem_map] at hz;obtain ⟨i,_,rfl⟩:=hz;rfl
      . simp at h
    . simp at h
  . simp at h
end Go.Proofs.YteifcnjpjjaikaaGreat
