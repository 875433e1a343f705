/- Part 6 of the proof of TableEncodes (several texts in one; no further condition). -/
import Derived.Test.YtjgbkegkcbcjaaaGreatZE
import Derived.Test.YtjgbkegkcbcjaaaGreatZD
import Derived.KernelRfl
set_option linter.unusedSimpArgs false
set_option linter.unusedVariables false
set_option linter.unusedSectionVars false
namespace Go.Proofs.YtjgbkegkcbcjaaaGreat
section
open Go Go.RowKit
set_option maxRecDepth 100000
theorem tB0 (ax:Axs):type_of% (And.intro (And.intro (And.intro (And.intro (ykd ax) (And.intro (ykc ax) (bt41 ax))) (And.intro (And.intro (bt44 ax) (bt94 ax)) (And.intro (el47 ax) (el52 ax)))) (And.intro (And.intro (el68 ax) (And.intro (el73 ax) (el75 ax))) (And.intro (And.intro (z9v ax) (z9u ax)) (And.intro (z9t ax) (z9s ax))))) (And.intro (And.intro (And.intro (yfw ax) (And.intro (yfv ax) (yfu ax))) (And.intro (And.intro (yft ax) (yfs ax)) (And.intro (yfr ax) (yfq ax)))) (And.intro (And.intro (yfp ax) (And.intro (yfo ax) (yfn ax))) (And.intro (And.intro (yfm ax) (yfl ax)) (And.intro (yfk ax) (yfj ax)))))):=And.intro (And.intro (And.intro (And.intro (ykd ax) (And.intro (ykc ax) (bt41 ax))) (And.intro (And.intro (bt44 ax) (bt94 ax)) (And.intro (el47 ax) (el52 ax)))) (And.intro (And.intro (el68 ax) (And.intro (el73 ax) (el75 ax))) (And.intro (And.intro (z9v ax) (z9u ax)) (And.intro (z9t ax) (z9s ax))))) (And.intro (And.intro (And.intro (yfw ax) (And.intro (yfv ax) (yfu ax))) (And.intro (And.intro (yft ax) (yfs ax)) (And.intro (yfr ax) (yfq ax)))) (And.intro (And.intro (yfp ax) (And.intro (yfo ax) (yfn ax))) (And.intro (And.intro (yfm ax) (yfl ax)) (And.intro (yfk ax) (yfj ax)))))
theorem tB1 (ax:Axs):type_of% (And.intro (And.intro (And.intro (And.intro (yfi ax) (And.intro (yfh ax) (yfg ax))) (And.intro (And.intro (yff ax) (yfe ax)) (And.intro (yfd ax) (yfc ax)))) (And.intro (And.intro (yfb ax) (And.intro (yfa ax) (ye9 ax))) (And.intro (And.intro (ye8 ax) (ye7 ax)) (And.intro (ye6 ax) (ye5 ax))))) (And.intro (And.intro (And.intro (ye4 ax) (And.intro (ye3 ax) (z7w ax))) (And.intro (And.intro (z7v ax) (yed ax)) (And.intro (yec ax) (yeb ax)))) (And.intro (And.intro (yea ax) (And.intro (yd9 ax) (sr47 ax))) (And.intro (And.intro (sr52 ax) (sr68 ax)) (And.intro (sr73 ax) (sr75 ax)))))):=And.intro (And.intro (And.intro (And.intro (yfi ax) (And.intro (yfh ax) (yfg ax))) (And.intro (And.intro (yff ax) (yfe ax)) (And.intro (yfd ax) (yfc ax)))) (And.intro (And.intro (yfb ax) (And.intro (yfa ax) (ye9 ax))) (And.intro (And.intro (ye8 ax) (ye7 ax)) (And.intro (ye6 ax) (ye5 ax))))) (And.intro (And.intro (And.intro (ye4 ax) (And.intro (ye3 ax) (z7w ax))) (And.intro (And.intro (z7v ax) (yed ax)) (And.intro (yec ax) (yeb ax)))) (And.intro (And.intro (yea ax) (And.intro (yd9 ax) (sr47 ax))) (And.intro (And.intro (sr52 ax) (sr68 ax)) (And.intro (sr73 ax) (sr75 ax)))))
theorem tB2 (ax:Axs):type_of% (And.intro (And.intro (And.intro (And.intro (yin ax) (And.intro (yim ax) (yil ax))) (And.intro (And.intro (ti22 ax) (ti23 ax)) (And.intro (ti24 ax) (ti26 ax)))) (And.intro (And.intro (ti28 ax) (And.intro (ti3 ax) (ti30 ax))) (And.intro (And.intro (ti4 ax) (ti41 ax)) (And.intro (ti42 ax) (ti44 ax))))) (And.intro (And.intro (And.intro (ti47 ax) (And.intro (ti49 ax) (ti5 ax))) (And.intro (And.intro (ti52 ax) (ti68 ax)) (And.intro (ti73 ax) (ti75 ax)))) (And.intro (And.intro (ti80 ax) (And.intro (ti82 ax) (ti85 ax))) (And.intro (And.intro (ti9 ax) (ti92 ax)) (And.intro (ti94 ax) (ti96 ax)))))):=And.intro (And.intro (And.intro (And.intro (yin ax) (And.intro (yim ax) (yil ax))) (And.intro (And.intro (ti22 ax) (ti23 ax)) (And.intro (ti24 ax) (ti26 ax)))) (And.intro (And.intro (ti28 ax) (And.intro (ti3 ax) (ti30 ax))) (And.intro (And.intro (ti4 ax) (ti41 ax)) (And.intro (ti42 ax) (ti44 ax))))) (And.intro (And.intro (And.intro (ti47 ax) (And.intro (ti49 ax) (ti5 ax))) (And.intro (And.intro (ti52 ax) (ti68 ax)) (And.intro (ti73 ax) (ti75 ax)))) (And.intro (And.intro (ti80 ax) (And.intro (ti82 ax) (ti85 ax))) (And.intro (And.intro (ti9 ax) (ti92 ax)) (And.intro (ti94 ax) (ti96 ax)))))
theorem tB3 (ax:Axs):type_of% ((tz39 ax)):=(tz39 ax)
def KP (h h2:Nat→T):List Nat→Prop
  |[]=>True
  |[k]=>h2 k=h k
  |k :: j :: l=>h2 k=h k∧KP h h2 (j :: l)
theorem KP.refl (h:Nat→T):∀ K,KP h h K
  |[]=>trivial
  |[_]=>rfl
  |_ :: j :: l=>⟨rfl,KP.refl h (j :: l)⟩
theorem f2 {A B:Prop} (a:A) (b:B):A∧B:=⟨a,b⟩
theorem f3 {A B C:Prop} (a:A) (b:B) (c:C):A∧B∧C:=⟨a,b,c⟩
theorem isp {α:Type} {p:Prop} [Decidable p] {a b:Option α} {v:α} (h:(if p then a else b)=some v):(p∧a=some v)∨(¬ p∧b=some v):=by
  by_cases c:p
  · rw [if_pos c] at h;exact .inl ⟨c,h⟩
  · rw [if_neg c] at h;exact .inr ⟨c,h⟩
theorem isb {α:Type} {t:Bool} {a b:Option α} {v:α} (h:(if t=true then a else b)=some v):(t=true∧a=some v)∨(t=false∧b=some v):=by
  cases t with
  |true=>exact .inl ⟨rfl,h⟩
  |false=>exact .inr ⟨rfl,h⟩
theorem isg {α:Type} {p:Prop} [Decidable p] {a:Option α} {v:α} (h:(if p then a else none)=some v):p∧a=some v:=by
  by_cases c:p
  · rw [if_pos c] at h;exact ⟨c,h⟩
  · rw [if_neg c] at h;cases h
theorem sinl {α β:Type} {r:α} {v:α} {g:β→Option α} (h:Sum.elim (fun r=>some r) g (.inl r)=some v):r=v:=Option.some.inj h
theorem sinm {α β δ:Type} {r:α} {v:α ⊕ δ} {g:β→Option (α ⊕ δ)} (h:Sum.elim (fun r=>some (.inl r)) g (.inl r)=some v):.inl r=v:=Option.some.inj h
theorem sinr {α β γ:Type} {s:β} {f:α→γ} {g:β→γ} {v:γ} (h:Sum.elim f g (.inr s)=v):g s=v:=h
section
variable {ax:Axs} {N:Nat} {h h':Nat→T} {S S':TS} {Q:Exit→(Nat→T)→TS→Prop} {F:Prop} {C:(Nat→T)→Prop} {R:(Nat→T)→Prop} {bs bs2:List Box}
def Fin (ax:Axs) (l:List ResultVar) (vs:List T):Exit→(Nat→T)→TS→Prop:=fun e h S=>(e=.normal∨e=.ret)∧resT (EE ax) S h l=some vs
theorem rk {id:Nat} {ops:Array Oper} (K own:List Nat) (f:F) (hq:∀ h2,C h2→R h2) (hd:zfj N ops.toList=true:=by kernel_rfl) (hr:F→runT Tryz.prog (EE ax) [] own ops.toList ops.toList h S []=some (True,h',stL bs):=by intro q;simp (maxSteps:=900000) (disch:=first|omega|decide | (simp only [lzA,Nat.reduceAdd,Nat.reduceLT];done)|fail) only [b0,b1,b2,b3,b4,b5,b6,b7,b8,Nat.reduceAdd,Nat.reduceSub,Nat.reduceEqDiff,Nat.reduceMul,reduceIte,reduceCtorEq,tB0,tB1,tB2,tB3,zhz,zhy,zga,zni,znj,znk,znl,Option.bind_some,aggO,zez,zda,zjx,zan,zee,zaw,zav,zb8,ze7,List.replicate,List.flatten_cons,List.flatten_nil,zcs,zcq,zc8,zbk,zbj,zdr,zdn,zbd,zjf,zev,zeu,zdq,zdm,zdo,zef,zhh,zex,zew,zgp,zgo,ziv,zgr,ziu,ziy,zgu,zix,q,eqA,eqB,eqsA,eqsB];with_reducible rfl) (hC:F→∀ h2,KP h' h2 K→C h2:=by intro q h2 k;simp only [KP,zca,Nat.reduceEqDiff,reduceIte,Bool.not_true,Bool.not_false,q] at k;first|exact k|exact trivial) (hR:∀ h2,R h2→Q .normal h2 (stL bs):=by intro h2 k;first | (simp only [onT,onTB];exact k)|exact k):TW Tryz.prog (EE ax) [] N (.region id ops false) h S Q :=
  TW.region (zn9 ax) own [] hd (hr f) trivial (hR _ (hq _ (hC f _ (KP.refl _ K))))
theorem rkc {id:Nat} {ops:Array Oper} {ob:Prop} (K own:List Nat) (outs:List (T×TS)) (f:F) (ho:ob) (hq:∀ h2,C h2→R h2) (hd:zfj N ops.toList=true:=by kernel_rfl) (hr:F→runT Tryz.prog (EE ax) [] own ops.toList ops.toList h S outs=some (ob,h',stL bs):=by intro q;simp (maxSteps:=900000) (disch:=first|omega|decide | (simp only [lzA,Nat.reduceAdd,Nat.reduceLT];done)|fail) only [b0,b1,b2,b3,b4,b5,b6,b7,b8,Nat.reduceAdd,Nat.reduceSub,Nat.reduceEqDiff,Nat.reduceMul,reduceIte,reduceCtorEq,tB0,tB1,tB2,tB3,zhz,zhy,zga,zni,znj,znk,znl,Option.bind_some,aggO,zez,zda,zjx,zan,zee,zaw,zav,zb8,ze7,List.replicate,List.flatten_cons,List.flatten_nil,zcs,zcq,zc8,zbk,zbj,zdr,zdn,zbd,zjf,zev,zeu,zdq,zdm,zdo,zef,zhh,zex,zew,zgp,zgo,ziv,zgr,ziu,ziy,zgu,zix,q,eqA,eqB,eqsA,eqsB];with_reducible rfl) (hC:F→∀ h2,KP h' h2 K→C h2:=by intro q h2 k;simp only [KP,zca,Nat.reduceEqDiff,reduceIte,Bool.not_true,Bool.not_false,q] at k;first|exact k|exact trivial) (hR:∀ h2,R h2→Q .normal h2 (stL bs):=by intro h2 k;first | (simp only [onT,onTB];exact k)|exact k):TW Tryz.prog (EE ax) [] N (.region id ops false) h S Q :=
  TW.region (zn9 ax) own outs hd (hr f) ho (hR _ (hq _ (hC f _ (KP.refl _ K))))
theorem rg {id:Nat} {ops:Array Oper} {ob:Prop} (own:List Nat) (outs:List (T×TS)) (bs:List Box) (C:(Nat→T)→Prop) (f:F) (ho:ob) (hq:∀ h2,C h2→R h2) (hd:zfj N ops.toList=true:=by kernel_rfl) (hr:F→runT Tryz.prog (EE ax) [] own ops.toList ops.toList h S outs=some (ob,h',S'):=by intro q;simp (maxSteps:=900000) (disch:=first|omega|decide | (simp only [lzA,Nat.reduceAdd,Nat.reduceLT];done)|fail) only [b0,b1,b2,b3,b4,b5,b6,b7,b8,Nat.reduceAdd,Nat.reduceSub,Nat.reduceEqDiff,Nat.reduceMul,reduceIte,reduceCtorEq,tB0,tB1,tB2,tB3,zhz,zhy,zga,zni,znj,znk,znl,Option.bind_some,aggO,zez,zda,zjx,zan,zee,zaw,zav,zb8,ze7,List.replicate,List.flatten_cons,List.flatten_nil,zcs,zcq,zc8,zbk,zbj,zdr,zdn,zbd,zjf,zev,zeu,zdq,zdm,zdo,zef,zhh,zex,zew,zgp,zgo,ziv,zgr,ziu,ziy,zgu,zix,q,eqA,eqB,eqsA,eqsB,apA,apB,tSrc];with_reducible rfl) (hS:F→S'=stL bs:=by intro q;first|rfl | (simp only [gsA,zdt,Nat.reduceEqDiff,reduceIte,and_self,and_true,true_and,Bool.not_true,Bool.not_false,q];done) | (simp only [gsA,zdt,Nat.reduceEqDiff,reduceIte,and_self,and_true,true_and,Bool.not_true,Bool.not_false,q];rfl)) (hC:F→C h':=by intro q;first|exact q | (simp only [zca,Nat.reduceEqDiff,reduceIte,and_self,and_true,true_and,Bool.not_true,Bool.not_false,q];done) | (simp only [gsA,zdt,Nat.reduceEqDiff,reduceIte,and_self,and_true,true_and,Bool.not_true,Bool.not_false,q];done) | (simp only [zca,Nat.reduceEqDiff,reduceIte,and_self,and_true,true_and,Bool.not_true,Bool.not_false,q];and_intros<;>rfl) | (simp only [gsA,zdt,Nat.reduceEqDiff,reduceIte,and_self,and_true,true_and,Bool.not_true,Bool.not_false,q];and_intros<;>rfl) | (and_intros<;>rfl)) (hR:∀ h2,R h2→Q .normal h2 (stL bs):=by intro h2 k;first | (simp only [onT,onTB];exact k)|exact k):TW Tryz.prog (EE ax) [] N (.region id ops false) h S Q :=
  TW.region (zn9 ax) own outs hd (hr f) ho (by rw [hS f];exact hR _ (hq _ (hC f)))
theorem dk {id:Nat} {ops:Array Oper} {ob1 ob2:Prop} {h1:Nat→T} (n:Nat) (K:List Nat) (outsP:List T) (own:List Nat) (outs:List (T×TS)) (f:F) (ho1:ob1) (ho2:ob2) (hq:∀ h2,C h2→R h2) (hd:zfj N ops.toList=true:=by kernel_rfl) (hok:zim n ops.toList=true:=by kernel_rfl) (hp:F→runP Tryz.prog (EE ax) [] ops.toList (ops.toList.take n) h S outsP=some (ob1,h1):=by intro q;simp (maxSteps:=900000) (disch:=first|omega|decide | (simp only [lzA,Nat.reduceAdd,Nat.reduceLT];done)|fail) only [b0,b1,b2,b3,b4,b5,b6,b7,b8,Nat.reduceAdd,Nat.reduceSub,Nat.reduceEqDiff,Nat.reduceMul,reduceIte,reduceCtorEq,tB0,tB1,tB2,tB3,zhz,zhy,zga,zni,znj,znk,znl,Option.bind_some,aggO,zez,zda,zjx,zan,zee,zaw,zav,zb8,ze7,List.replicate,List.flatten_cons,List.flatten_nil,zcs,zcq,zc8,zbk,zbj,zdr,zdn,zbd,zjf,zev,zeu,zdq,zdm,zdo,zef,zhh,zex,zew,zgp,zgo,ziv,zgr,ziu,ziy,zgu,zix,q,eqA,eqB,eqsA,eqsB];with_reducible rfl) (hr:F→runT Tryz.prog (EE ax) [] own ops.toList (ops.toList.drop n) h1 S outs=some (ob2,h',stL bs):=by intro q;simp (maxSteps:=900000) (disch:=first|omega|decide | (simp only [lzA,Nat.reduceAdd,Nat.reduceLT];done)|fail) only [b0,b1,b2,b3,b4,b5,b6,b7,b8,Nat.reduceAdd,Nat.reduceSub,Nat.reduceEqDiff,Nat.reduceMul,reduceIte,reduceCtorEq,tB0,tB1,tB2,tB3,zhz,zhy,zga,zni,znj,znk,znl,Option.bind_some,aggO,zez,zda,zjx,zan,zee,zaw,zav,zb8,ze7,List.replicate,List.flatten_cons,List.flatten_nil,zcs,zcq,zc8,zbk,zbj,zdr,zdn,zbd,zjf,zev,zeu,zdq,zdm,zdo,zef,zhh,zex,zew,zgp,zgo,ziv,zgr,ziu,ziy,zgu,zix,q,eqA,eqB,eqsA,eqsB];with_reducible rfl) (hC:F→∀ h2,KP h' h2 K→C h2:=by intro q h2 k;simp only [KP,zca,Nat.reduceEqDiff,reduceIte,Bool.not_true,Bool.not_false,q] at k;first|exact k|exact trivial) (hR:∀ h2,R h2→Q .normal h2 (stL bs):=by intro h2 k;first | (simp only [onT,onTB];exact k)|exact k):TW Tryz.prog (EE ax) [] N (.region id ops true) h S Q :=
  TW.draw (zn9 ax) n outsP own outs hd hok (hp f) ho1 (hr f) ho2 (hR _ (hq _ (hC f _ (KP.refl _ K))))
theorem ds {id:Nat} {ops:Array Oper} {ob1 ob2:Prop} {h1:Nat→T} (n:Nat) (bx:List (Nat×Option Nat)) (K:List Nat) (outsP:List T) (own:List Nat) (outs:List (T×TS)) (f:F) (ho1:ob1) (ho2:ob2) (hq:∀ h2,C h2→R h2) (hd:zfj N ops.toList=true:=by kernel_rfl) (hok:zry (EE ax) n bx ops.toList=true:=by kernel_rfl) (hp:F→runP Tryz.prog (EE ax) [] ops.toList (ops.toList.take n) h S outsP=some (ob1,h1):=by intro q;simp (maxSteps:=900000) (disch:=first|omega|decide | (simp only [lzA,Nat.reduceAdd,Nat.reduceLT];done)|fail) only [b0,b1,b2,b3,b4,b5,b6,b7,b8,Nat.reduceAdd,Nat.reduceSub,Nat.reduceEqDiff,Nat.reduceMul,reduceIte,reduceCtorEq,tB0,tB1,tB2,tB3,zhz,zhy,zga,zni,znj,znk,znl,Option.bind_some,aggO,zez,zda,zjx,zan,zee,zaw,zav,zb8,ze7,List.replicate,List.flatten_cons,List.flatten_nil,zcs,zcq,zc8,zbk,zbj,zdr,zdn,zbd,zjf,zev,zeu,zdq,zdm,zdo,zef,zhh,zex,zew,zgp,zgo,ziv,zgr,ziu,ziy,zgu,zix,q,eqA,eqB,eqsA,eqsB];with_reducible rfl) (hr:F→runT Tryz.prog (EE ax) [] own ops.toList (ops.toList.drop n) h1 S outs=some (ob2,h',stL bs):=by intro q;simp (maxSteps:=900000) (disch:=first|omega|decide | (simp only [lzA,Nat.reduceAdd,Nat.reduceLT];done)|fail) only [b0,b1,b2,b3,b4,b5,b6,b7,b8,Nat.reduceAdd,Nat.reduceSub,Nat.reduceEqDiff,Nat.reduceMul,reduceIte,reduceCtorEq,tB0,tB1,tB2,tB3,zhz,zhy,zga,zni,znj,znk,znl,Option.bind_some,aggO,zez,zda,zjx,zan,zee,zaw,zav,zb8,ze7,List.replicate,List.flatten_cons,List.flatten_nil,zcs,zcq,zc8,zbk,zbj,zdr,zdn,zbd,zjf,zev,zeu,zdq,zdm,zdo,zef,zhh,zex,zew,zgp,zgo,ziv,zgr,ziu,ziy,zgu,zix,q,eqA,eqB,eqsA,eqsB];with_reducible rfl) (hbx:F→zuq bx h' (stL bs):=by intro q;simp (maxSteps:=900000) (disch:=first|omega|decide | (simp only [zuq,adr1,and_self,and_true,true_and,lzA,Nat.reduceAdd,Nat.reduceLT];done)|fail) only [zuq,adr1,and_self,and_true,true_and,b0,b1,b2,b3,b4,b5,b6,b7,b8,Nat.reduceAdd,Nat.reduceSub,Nat.reduceEqDiff,Nat.reduceMul,reduceIte,reduceCtorEq,tB0,tB1,tB2,tB3,zhz,zhy,zga,zni,znj,znk,znl,Option.bind_some,aggO,zez,zda,zjx,zan,zee,zaw,zav,zb8,ze7,List.replicate,List.flatten_cons,List.flatten_nil,zcs,zcq,zc8,zbk,zbj,zdr,zdn,zbd,zjf,zev,zeu,zdq,zdm,zdo,zef,zhh,zex,zew,zgp,zgo,ziv,zgr,ziu,ziy,zgu,zix,q,eqA,eqB,eqsA,eqsB]) (hC:F→∀ h2,KP h' h2 K→C h2:=by intro q h2 k;simp only [KP,zca,Nat.reduceEqDiff,reduceIte,Bool.not_true,Bool.not_false,q] at k;first|exact k|exact trivial) (hR:∀ h2,R h2→Q .normal h2 (stL bs):=by intro h2 k;first | (simp only [onT,onTB];exact k)|exact k):TW Tryz.prog (EE ax) [] N (.region id ops true) h S Q :=
  TW.drawS (zn9 ax) n bx outsP own outs hd hok (hp f) ho1 (hr f) ho2 (hbx f) (hR _ (hq _ (hC f _ (KP.refl _ K))))
theorem dg {id:Nat} {ops:Array Oper} {ob1 ob2:Prop} {h1:Nat→T} (n:Nat) (outsP:List T) (own:List Nat) (outs:List (T×TS)) (bs:List Box) (C:(Nat→T)→Prop) (f:F) (ho1:ob1) (ho2:ob2) (hq:∀ h2,C h2→R h2) (hd:zfj N ops.toList=true:=by kernel_rfl) (hok:zim n ops.toList=true:=by kernel_rfl) (hp:F→runP Tryz.prog (EE ax) [] ops.toList (ops.toList.take n) h S outsP=some (ob1,h1):=by intro q;simp (maxSteps:=900000) (disch:=first|omega|decide | (simp only [lzA,Nat.reduceAdd,Nat.reduceLT];done)|fail) only [b0,b1,b2,b3,b4,b5,b6,b7,b8,Nat.reduceAdd,Nat.reduceSub,Nat.reduceEqDiff,Nat.reduceMul,reduceIte,reduceCtorEq,tB0,tB1,tB2,tB3,zhz,zhy,zga,zni,znj,znk,znl,Option.bind_some,aggO,zez,zda,zjx,zan,zee,zaw,zav,zb8,ze7,List.replicate,List.flatten_cons,List.flatten_nil,zcs,zcq,zc8,zbk,zbj,zdr,zdn,zbd,zjf,zev,zeu,zdq,zdm,zdo,zef,zhh,zex,zew,zgp,zgo,ziv,zgr,ziu,ziy,zgu,zix,q,eqA,eqB,eqsA,eqsB,apA,apB,tSrc];with_reducible rfl) (hr:F→runT Tryz.prog (EE ax) [] own ops.toList (ops.toList.drop n) h1 S outs=some (ob2,h',S'):=by intro q;simp (maxSteps:=900000) (disch:=first|omega|decide | (simp only [lzA,Nat.reduceAdd,Nat.reduceLT];done)|fail) only [b0,b1,b2,b3,b4,b5,b6,b7,b8,Nat.reduceAdd,Nat.reduceSub,Nat.reduceEqDiff,Nat.reduceMul,reduceIte,reduceCtorEq,tB0,tB1,tB2,tB3,zhz,zhy,zga,zni,znj,znk,znl,Option.bind_some,aggO,zez,zda,zjx,zan,zee,zaw,zav,zb8,ze7,List.replicate,List.flatten_cons,List.flatten_nil,zcs,zcq,zc8,zbk,zbj,zdr,zdn,zbd,zjf,zev,zeu,zdq,zdm,zdo,zef,zhh,zex,zew,zgp,zgo,ziv,zgr,ziu,ziy,zgu,zix,q,eqA,eqB,eqsA,eqsB,apA,apB,tSrc];with_reducible rfl) (hS:F→S'=stL bs:=by intro q;first|rfl | (simp only [gsA,zdt,Nat.reduceEqDiff,reduceIte,and_self,and_true,true_and,Bool.not_true,Bool.not_false,q];done) | (simp only [gsA,zdt,Nat.reduceEqDiff,reduceIte,and_self,and_true,true_and,Bool.not_true,Bool.not_false,q];rfl)) (hC:F→C h':=by intro q;first|exact q | (simp only [zca,Nat.reduceEqDiff,reduceIte,and_self,and_true,true_and,Bool.not_true,Bool.not_false,q];done) | (simp only [gsA,zdt,Nat.reduceEqDiff,reduceIte,and_self,and_true,true_and,Bool.not_true,Bool.not_false,q];done) | (simp only [zca,Nat.reduceEqDiff,reduceIte,and_self,and_true,true_and,Bool.not_true,Bool.not_false,q];and_intros<;>rfl) | (simp only [gsA,zdt,Nat.reduceEqDiff,reduceIte,and_self,and_true,true_and,Bool.not_true,Bool.not_false,q];and_intros<;>rfl) | (and_intros<;>rfl)) (hR:∀ h2,R h2→Q .normal h2 (stL bs):=by intro h2 k;first | (simp only [onT,onTB];exact k)|exact k):TW Tryz.prog (EE ax) [] N (.region id ops true) h S Q :=
  TW.draw (zn9 ax) n outsP own outs hd hok (hp f) ho1 (hr f) ho2 (by rw [hS f];exact hR _ (hq _ (hC f)))
theorem kq {C:Prop} (f:F) (hc:F→C:=by intro q;first|exact q | (simp (disch:=decide) only [zlj,zca,Nat.reduceEqDiff,reduceIte,and_self,and_true,true_and,Bool.not_true,Bool.not_false,q];done) | (simp (disch:=decide) only [zlj,gsA,zdt,Nat.reduceEqDiff,reduceIte,and_self,and_true,true_and,Bool.not_true,Bool.not_false,q];done) | (simp (disch:=decide) only [zlj,zca,Nat.reduceEqDiff,reduceIte,and_self,and_true,true_and,Bool.not_true,Bool.not_false,q];and_intros<;>rfl) | (simp (disch:=decide) only [zlj,gsA,zdt,Nat.reduceEqDiff,reduceIte,and_self,and_true,true_and,Bool.not_true,Bool.not_false,q];and_intros<;>rfl) | (and_intros<;>rfl)):C:=hc f
theorem ct {c:Operand} {t e:Code} (f:F) (k:TW Tryz.prog (EE ax) [] N t h S Q) (hb:F→zd1 [] h c=.bool true:=by intro q;first | (simp only [zuc,zlp,zn5,q,Bool.not_true,Bool.not_false];done) | (simp only [zuc,zlp,zn5,q,Bool.not_true,Bool.not_false];exact congrArg T.bool (decide_eq_true (by omega)))):TW Tryz.prog (EE ax) [] N (.cond c t e) h S Q:=TW.cond (hb f) k
theorem cf {c:Operand} {t e:Code} (f:F) (k:TW Tryz.prog (EE ax) [] N e h S Q) (hb:F→zd1 [] h c=.bool false:=by intro q;first | (simp only [zuc,zlp,zn5,q,Bool.not_true,Bool.not_false];done) | (simp only [zuc,zlp,zn5,q,Bool.not_true,Bool.not_false];exact congrArg T.bool (decide_eq_false (by omega)))):TW Tryz.prog (EE ax) [] N (.cond c t e) h S Q:=TW.cond (hb f) k
theorem sk {R:Prop} (k:R) (hR:R→Q .normal h S:=by intro k;first | (simp (disch:=decide) only [onT,onTB,Nat.beq_refl,zka,cond_true,cond_false];exact k)|exact k):TW Tryz.prog (EE ax) [] N .skip h S Q:=TW.skip (hR k)
theorem lk {i:Nat} {R:Prop} (k:R) (hR:R→Q .normal h S:=by intro k;first | (simp (disch:=decide) only [onT,onTB,Nat.beq_refl,zka,cond_true,cond_false];exact k)|exact k):TW Tryz.prog (EE ax) [] N (.label i) h S Q:=TW.label (hR k)
theorem xk {i:Nat} {R:Prop} (k:R) (hR:R→Q (.exit i) h S:=by intro k;first | (simp (disch:=decide) only [onT,onTB,Nat.beq_refl,zka,cond_true,cond_false];exact k)|exact k):TW Tryz.prog (EE ax) [] N (.exit i) h S Q:=TW.exit (hR k)
theorem gk {c:Code} (K:List Nat) (f:F) (hq:∀ h2,C h2→TW Tryz.prog (EE ax) [] N c h2 S Q) (hC:F→∀ h2,KP h' h2 K→C h2:=by intro q h2 k;simp only [KP,zca,Nat.reduceEqDiff,reduceIte,Bool.not_true,Bool.not_false,q] at k;first|exact k|exact trivial):TW Tryz.prog (EE ax) [] N c h' S Q:=hq _ (hC f _ (KP.refl _ K))
theorem rd {keep:List Nat} {n m0:Nat} {I:Nat→(Nat→T)→List Box→Prop} (m:Nat) (f:F) (hI:I m (zvq keep h) (bs.take n)) (hm:m<m0:=by omega) (hn:n≤bs.length:=by simp only [lzA]<;>omega) (hb:F→ze0 n (bs.take n)=true:=by intro q;simp only [zmd,zcx,zcw,reduceIte,Nat.reduceEqDiff,Nat.reduceAdd,Nat.reduceLT,Nat.reduceLeDiff,idsA,idsB,zas,q]) (hk:F→zhu keep n h:=by intro q;simp only [zmd,zcx,zcw,reduceIte,Nat.reduceEqDiff,Nat.reduceAdd,Nat.reduceLT,Nat.reduceLeDiff,idsA,idsB,zas,q]):ykm keep n I m0 h (stL bs):=⟨m,hm,bs,rfl,hn,hb f,hk f,hI⟩
theorem ce {keep:List Nat} {n:Nat} {I:(Nat→T)→List Box→Prop} (f:F) (hI:I (zvq keep h) (bs.take n)) (hn:n≤bs.length:=by simp only [lzA]<;>omega) (hb:F→ze0 n (bs.take n)=true:=by intro q;simp only [zmd,zcx,zcw,reduceIte,Nat.reduceEqDiff,Nat.reduceAdd,Nat.reduceLT,Nat.reduceLeDiff,idsA,idsB,zas,q]) (hk:F→zhu keep n h:=by intro q;simp only [zmd,zcx,zcw,reduceIte,Nat.reduceEqDiff,Nat.reduceAdd,Nat.reduceLT,Nat.reduceLeDiff,idsA,idsB,zas,q]):Ends keep n I h (stL bs):=⟨bs,rfl,hn,hb f,hk f,hI⟩
theorem cu {a:Code} (keep:List Nat) (n:Nat) (I:(Nat→T)→List Box→Prop) (hI:TW Tryz.prog (EE ax) [] N a h (stL bs) (onT (fun h' S'=>Ends keep n I h' S') Q)) {R:(Nat→T)→List Box→Prop} (hk:∀ h bs2,I h bs2→R h bs2) (hn:bs.length≤n:=by simp only [lzA]<;>omega) (hR:∀ h bs2,R h bs2→Q .normal h (stL bs2):=by intro h bs2 k;first | (simp only [onT,onTB];exact k)|exact k):TW Tryz.prog (EE ax) [] N a h (stL bs) Q:=TW.cutN keep n hn I hI fun h bs2 k=>hR _ _ (hk _ _ k)
theorem rtc (f:F) (hQ:F→Q .ret h S:=by intro q;refine ⟨.inr rfl,by first | (simp (maxSteps:=900000) (disch:=first|omega|decide | (simp only [resT,lzA,Nat.reduceAdd,Nat.reduceLT];done)|fail) only [resT,b0,b1,b2,b3,b4,b5,b6,b7,b8,Nat.reduceAdd,Nat.reduceSub,Nat.reduceEqDiff,Nat.reduceMul,reduceIte,reduceCtorEq,tB0,tB1,tB2,tB3,zhz,zhy,zga,zni,znj,znk,znl,Option.bind_some,aggO,zez,zda,zjx,zan,zee,zaw,zav,zb8,ze7,List.replicate,List.flatten_cons,List.flatten_nil,zcs,zcq,zc8,zbk,zbj,zdr,zdn,zbd,zjf,zev,zeu,zdq,zdm,zdo,zef,zhh,zex,zew,zgp,zgo,ziv,zgr,ziu,ziy,zgu,zix,q,eqA,eqB,eqsA,eqsB];done) | (simp (maxSteps:=900000) (disch:=first|omega|decide | (simp only [resT,lzA,Nat.reduceAdd,Nat.reduceLT];done)|fail) only [resT,b0,b1,b2,b3,b4,b5,b6,b7,b8,Nat.reduceAdd,Nat.reduceSub,Nat.reduceEqDiff,Nat.reduceMul,reduceIte,reduceCtorEq,tB0,tB1,tB2,tB3,zhz,zhy,zga,zni,znj,znk,znl,Option.bind_some,aggO,zez,zda,zjx,zan,zee,zaw,zav,zb8,ze7,List.replicate,List.flatten_cons,List.flatten_nil,zcs,zcq,zc8,zbk,zbj,zdr,zdn,zbd,zjf,zev,zeu,zdq,zdm,zdo,zef,zhh,zex,zew,zgp,zgo,ziv,zgr,ziu,ziy,zgu,zix,q,eqA,eqB,eqsA,eqsB];with_reducible rfl)⟩):TW Tryz.prog (EE ax) [] N .ret h S Q:=TW.ret (hQ f)
theorem rt (f:F) (hQ:F→Q .ret h S:=by intro q;refine ⟨.inr rfl,?_⟩;first | (simp only [resT,q];done) | (simp only [resT,q];rfl)):TW Tryz.prog (EE ax) [] N .ret h S Q:=TW.ret (hQ f)
theorem vk {c:Code} (t e:Nat) (K:List Nat) (f:F) (hq:∀ h2,C h2→TW Tryz.prog (EE ax) [] N c h2 (stL bs2) Q) (ht:F→h t=.nils:=by intro q;first|rfl | (simp only [zca,Nat.reduceEqDiff,reduceIte,q];done)) (hS:bs++[.cells false 0 []]=bs2:=by simp only [List.cons_append,List.nil_append];try rfl) (he:tupd h t (.arr (stL bs).n e 0 0 0 0)=h':=by simp only [scB,Nat.reduceAdd];try rfl) (hC:F→∀ h2,KP h' h2 K→C h2:=by intro q h2 k;simp only [KP,zca,Nat.reduceEqDiff,reduceIte,Bool.not_true,Bool.not_false,q] at k;first|exact k|exact trivial):TW Tryz.prog (EE ax) [] N c h (stL bs) Q:=TW.vec t e (ht f) (by rw [z1q,hS,he];exact hq _ (hC f _ (KP.refl _ K)))
theorem nk {c:Code} (t e:Nat) (K:List Nat) (f:F) (hq:∀ h2,C h2→TW Tryz.prog (EE ax) [] N c h2 S Q) (ht:F→h t=.nils:=by intro q;first|rfl | (simp only [zca,Nat.reduceEqDiff,reduceIte,q];done)) (he:tupd h t (.lst e [])=h':=by rfl) (hC:F→∀ h2,KP h' h2 K→C h2:=by intro q h2 k;simp only [KP,zca,Nat.reduceEqDiff,reduceIte,Bool.not_true,Bool.not_false,q] at k;first|exact k|exact trivial):TW Tryz.prog (EE ax) [] N c h S Q:=TW.nilL t e (ht f) (by rw [he];exact hq _ (hC f _ (KP.refl _ K)))
theorem zk {c:Code} (t b M:Nat) (z:Bool) (l:List T) (K:List Nat) (f:F) (hq:∀ h2,C h2→TW Tryz.prog (EE ax) [] N c h2 (stL bs2) Q) (ht:F→h t=.ptr b 0 M:=by intro q;first|rfl | (simp only [zca,Nat.reduceEqDiff,reduceIte,q];done)) (hS:(stL bs).box b=.cells z M l:=by rfl) (hn:b<bs.length:=by simp only [lzA]<;>omega) (hb:bs.set b .gone=bs2:=by simp (disch:=decide) only [scA,z60,List.set_cons_zero,List.set_cons_succ,Nat.reduceSub];try rfl) (he:tupd h t (.cp l)=h':=by rfl) (hC:F→∀ h2,KP h' h2 K→C h2:=by intro q h2 k;simp only [KP,zca,Nat.reduceEqDiff,reduceIte,Bool.not_true,Bool.not_false,q] at k;first|exact k|exact trivial):TW Tryz.prog (EE ax) [] N c h (stL bs) Q:=TW.freezeP t (ht f) hS (by rw [zeb _ _ _ hn,hb,he];exact hq _ (hC f _ (KP.refl _ K)))
theorem en {fid:FuncId} {fn:Func} {body:Code} {args:List T} {v:T} (l:List ResultVar) (N:Nat) (K:List Nat) (hax:ax fid=none) (hf:(EE ax).fn.at fid=some fn) (k:∀ h2,C h2→TW Tryz.prog (EE ax) [] N body h2 (stL []) (Fin ax l [v])) (hb:fn.body=some body:=by rfl) (hl:fn.results.toList=l:=by rfl) (hn:fn.ntmps=N:=by rfl) (hN:N≤512:=by decide) (hlen:args.length≤N:=by simp) (ha:T.idsL 0 args=true:=by simp only [zcx,zcw,idsA,idsB,zas,Bool.and_self]) (hv:(v).ids 0=true:=by first|rfl|simp only [zcx,zcw,idsA,idsB,zas,Bool.and_self]|simp only [tupT,zcx,zcw,idsA,idsB,zas,Bool.and_self]) (he:argT args 0 (fun _=>.junk)=h':=by simp only [znn,zpz,Nat.reduceAdd];try rfl) (hC:∀ h2,KP h' h2 K→C h2:=by intro h2 k;simp only [KP,zca,Nat.reduceEqDiff,reduceIte] at k;first|exact k|exact trivial):Pure Tryz.prog (EE ax) [] fid args v :=
  Pure.enter N hax hf hb hn hN hlen ha hv (by rw [hl,he,z1l];exact k _ (hC _ (KP.refl _ K)))
theorem enN {fid:FuncId} {fn:Func} {body:Code} {args:List T} {vs:List T} (l:List ResultVar) (N:Nat) (K:List Nat) (hax:ax fid=none) (hf:(EE ax).fn.at fid=some fn) (k:∀ h2,C h2→TW Tryz.prog (EE ax) [] N body h2 (stL []) (Fin ax l vs)) (hb:fn.body=some body:=by rfl) (hl:fn.results.toList=l:=by rfl) (hn:fn.ntmps=N:=by rfl) (hN:N≤512:=by decide) (hlen:args.length≤N:=by simp) (ha:T.idsL 0 args=true:=by simp only [zcx,zcw,idsA,idsB,zas,Bool.and_self]) (hv:((tupT vs)).ids 0=true:=by first|rfl|simp only [zcx,zcw,idsA,idsB,zas,Bool.and_self]|simp only [tupT,zcx,zcw,idsA,idsB,zas,Bool.and_self]) (he:argT args 0 (fun _=>.junk)=h':=by simp only [znn,zpz,Nat.reduceAdd];try rfl) (hC:∀ h2,KP h' h2 K→C h2:=by intro h2 k;simp only [KP,zca,Nat.reduceEqDiff,reduceIte] at k;first|exact k|exact trivial):Pure Tryz.prog (EE ax) [] fid args (tupT vs) :=
  Pure.enterN N hax hf hb hn hN hlen ha hv (by rw [hl,he,z1l];exact k _ (hC _ (KP.refl _ K)))
def FinB (ax:Axs) (l:List ResultVar) (vs:List T) (bs1:List Box):Exit→(Nat→T)→TS→Prop:=fun e h S=>(e=.normal∨e=.ret)∧resT (EE ax) S h l=some vs∧∃ bs',S=stL bs'∧bs1.length≤bs'.length∧bs'.take bs1.length=bs1∧ze0 bs1.length bs1=true
theorem enB {fid:FuncId} {fn:Func} {body:Code} {args:List T} {vs:List T} {bs0 bs1:List Box} (l:List ResultVar) (N:Nat) (K:List Nat) (hax:ax fid=none) (hf:(EE ax).fn.at fid=some fn) (k:∀ h2,C h2→TW Tryz.prog (EE ax) [] N body h2 (stL bs0) (FinB ax l vs bs1)) (hb:fn.body=some body:=by rfl) (hl:fn.results.toList=l:=by rfl) (hn:fn.ntmps=N:=by rfl) (hN:N≤512:=by decide) (hlen:args.length≤N:=by simp) (h01:bs0.length≤bs1.length:=by simp only [lzA]<;>omega) (hv:(tupT vs).ids bs1.length=true:=by first|rfl|simp only [zcx,zcw,idsA,idsB,zas,Bool.and_self]|simp only [tupT,zcx,zcw,idsA,idsB,zas,Bool.and_self]) (he:argT args 0 (fun _=>.junk)=h':=by simp only [znn,zpz,Nat.reduceAdd];try rfl) (hC:∀ h2,KP h' h2 K→C h2:=by intro h2 k;simp only [KP,zca,Nat.reduceEqDiff,reduceIte] at k;first|exact k|exact trivial):Call Tryz.prog (EE ax) [] fid args (stL bs0) (tupT vs) (stL bs1):=by
  refine Call.enter N hax hf hb hn hN hlen h01 hv ((k _ (hC _ (KP.refl _ K))) |> fun k=>?_);rw [he];refine k.mono ?_;rintro e h2 S2 ⟨h1,h3,bs',rfl,h4,h5,h6⟩;refine ⟨h1,vs,by rw [hl];exact h3,_,z1d.refl _ _,h4,fun b=>?_⟩;by_cases hb:b<bs1.length
  · have e1:(bs'.take bs1.length).getD b .gone=bs'.getD b .gone:=by
      rw [List.getD_eq_getElem?_getD,List.getElem?_take,if_pos hb,← List.getD_eq_getElem?_getD]
    rw [h5] at e1;refine .inr ⟨hb,e1,?_⟩;show zgt bs1.length (bs'.getD b .gone)=true;rw [← e1];exact zk9 (i:=b) h6
  · exact .inl (z6t (by omega))
theorem rtB (f:F) (hQ:F→Q .ret h (stL bs):=by intro q;refine ⟨.inr rfl,by first | (simp only [resT,q];done) | (simp only [resT,q];rfl),_,rfl,by simp only [lzA]<;>omega,by rfl,by simp only [zmd,zcx,zcw,reduceIte,Nat.reduceEqDiff,Nat.reduceAdd,Nat.reduceLT,Nat.reduceLeDiff,idsA,idsB,zas]⟩):TW Tryz.prog (EE ax) [] N .ret h (stL bs) Q:=TW.ret (hQ f)
theorem rnB (f:F) (hQ:F→Q .normal h (stL bs):=by intro q;refine ⟨.inl rfl,by first | (simp only [resT,q];done) | (simp only [resT,q];rfl),_,rfl,by simp only [lzA]<;>omega,by rfl,by simp only [zmd,zcx,zcw,reduceIte,Nat.reduceEqDiff,Nat.reduceAdd,Nat.reduceLT,Nat.reduceLeDiff,idsA,idsB,zas]⟩):Q .normal h (stL bs):=hQ f
theorem rtBc (f:F) (hQ:F→Q .ret h (stL bs):=by intro q;refine ⟨.inr rfl,by first | (simp (maxSteps:=900000) (disch:=first|omega|decide | (simp only [resT,lzA,Nat.reduceAdd,Nat.reduceLT];done)|fail) only [resT,b0,b1,b2,b3,b4,b5,b6,b7,b8,Nat.reduceAdd,Nat.reduceSub,Nat.reduceEqDiff,Nat.reduceMul,reduceIte,reduceCtorEq,tB0,tB1,tB2,tB3,zhz,zhy,zga,zni,znj,znk,znl,Option.bind_some,aggO,zez,zda,zjx,zan,zee,zaw,zav,zb8,ze7,List.replicate,List.flatten_cons,List.flatten_nil,zcs,zcq,zc8,zbk,zbj,zdr,zdn,zbd,zjf,zev,zeu,zdq,zdm,zdo,zef,zhh,zex,zew,zgp,zgo,ziv,zgr,ziu,ziy,zgu,zix,q,eqA,eqB,eqsA,eqsB];done) | (simp (maxSteps:=900000) (disch:=first|omega|decide | (simp only [resT,lzA,Nat.reduceAdd,Nat.reduceLT];done)|fail) only [resT,b0,b1,b2,b3,b4,b5,b6,b7,b8,Nat.reduceAdd,Nat.reduceSub,Nat.reduceEqDiff,Nat.reduceMul,reduceIte,reduceCtorEq,tB0,tB1,tB2,tB3,zhz,zhy,zga,zni,znj,znk,znl,Option.bind_some,aggO,zez,zda,zjx,zan,zee,zaw,zav,zb8,ze7,List.replicate,List.flatten_cons,List.flatten_nil,zcs,zcq,zc8,zbk,zbj,zdr,zdn,zbd,zjf,zev,zeu,zdq,zdm,zdo,zef,zhh,zex,zew,zgp,zgo,ziv,zgr,ziu,ziy,zgu,zix,q,eqA,eqB,eqsA,eqsB];with_reducible rfl),_,rfl,by simp only [lzA]<;>omega,by rfl,by simp only [zmd,zcx,zcw,reduceIte,Nat.reduceEqDiff,Nat.reduceAdd,Nat.reduceLT,Nat.reduceLeDiff,idsA,idsB,zas]⟩):TW Tryz.prog (EE ax) [] N .ret h (stL bs) Q:=TW.ret (hQ f)
theorem ca {fid:FuncId} {args args':List T} {v v':T} {bs0 bs1 bs bs':List Box} (rl:List Nat) (k:Call Tryz.prog (EE ax) [] fid args (stL bs0) v (stL bs1)) (h1:rlOk bs0.length bs1.length bs.length bs'.length rl=true:=by rfl) (h2:T.idsL bs0.length args=true:=by simp only [zmd,zcx,zcw,reduceIte,Nat.reduceEqDiff,Nat.reduceAdd,Nat.reduceLT,Nat.reduceLeDiff,idsA,idsB,zas]) (h3:v.ids bs1.length=true:=by first | (simp only [zmd,zcx,zcw,reduceIte,Nat.reduceEqDiff,Nat.reduceAdd,Nat.reduceLT,Nat.reduceLeDiff,idsA,idsB,zas];done)|rfl|simp only [zcx,zcw,idsA,idsB,zas,Bool.and_self]|simp only [tupT,zcx,zcw,idsA,idsB,zas,Bool.and_self]) (h4:PreL (atR rl) bs0.length bs rl bs0:=by (repeat' (first|exact trivial|apply And.intro))<;>first|rfl | (simp only [zmd,zcx,zcw,reduceIte,Nat.reduceEqDiff,Nat.reduceAdd,Nat.reduceLT,Nat.reduceLeDiff,idsA,idsB,zas];done) | (simp (disch:=(simp only [zcx,zcw,idsA,idsB,zas,Bool.and_self];done)) only [zed,T.renL,T.ren,tupT,zct,zgx];done) | (simp (disch:=(simp only [zcx,zcw,idsA,idsB,zas,Bool.and_self];done)) only [zed,T.renL,T.ren,tupT,zct,zgx];rfl)) (h5:PreL (atR rl) bs1.length bs' rl bs1:=by (repeat' (first|exact trivial|apply And.intro))<;>first|rfl | (simp only [zmd,zcx,zcw,reduceIte,Nat.reduceEqDiff,Nat.reduceAdd,Nat.reduceLT,Nat.reduceLeDiff,idsA,idsB,zas];done) | (simp (disch:=(simp only [zcx,zcw,idsA,idsB,zas,Bool.and_self];done)) only [zed,T.renL,T.ren,tupT,zct,zgx];done) | (simp (disch:=(simp only [zcx,zcw,idsA,idsB,zas,Bool.and_self];done)) only [zed,T.renL,T.ren,tupT,zct,zgx];rfl)) (h6:zsj rl 0 bs bs':=by (repeat' (first|exact trivial|apply And.intro))<;>first|rfl|exact .inl rfl|exact .inr rfl) (ea:T.renL (atR rl) args=args':=by first|rfl | (simp (disch:=(simp only [zcx,zcw,idsA,idsB,zas,Bool.and_self];done)) only [zed,T.renL,T.ren,tupT,zct,zgx];done) | (simp (disch:=(simp only [zcx,zcw,idsA,idsB,zas,Bool.and_self];done)) only [zed,T.renL,T.ren,tupT,zct,zgx];rfl)) (ev:v.ren (atR rl)=v':=by first|rfl | (simp (disch:=(simp only [zcx,zcw,idsA,idsB,zas,Bool.and_self];done)) only [zed,T.renL,T.ren,tupT,zct,zgx];done) | (simp (disch:=(simp only [zcx,zcw,idsA,idsB,zas,Bool.and_self];done)) only [zed,T.renL,T.ren,tupT,zct,zgx];rfl)):Call Tryz.prog (EE ax) [] fid args' (stL bs) v' (stL bs'):=Call.at rl k h1 h2 h3 h4 h5 h6 ea ev
end
section
variable {ax:Axs} {N:Nat} {h h':Nat→T} {S S':TS} {Q:Exit→(Nat→T)→TS→Prop} {F:Prop} {C:(Nat→T)→Prop} {R:(Nat→T)→Prop} {bs bs2:List Box}
theorem fz {c:Code} (c0 b i:Nat) {e len M N0:Nat} {z z0:Bool} {l l0:List T} (L:List T) (hL:(l.drop 0).take (len*e)=L.flatMap T.cells) (hs:∀ t,t∈L→t.cells.length=e) (hlen:L.length=len) (k:TW Tryz.prog (EE ax) [] N c h (stL bs2) Q) (hS0:(stL bs).box c0=.cells z0 N0 l0:=by rfl) (hi:l0[i]?=some (.arr b e 0 len len M):=by first|rfl | (simp (disch:=decide) only [List.getElem?_cons_zero,List.getElem?_cons_succ,sgG,Nat.reduceSub,Nat.reduceAdd];done)) (hS:(stL bs).box b=.cells z M l:=by rfl) (hne:c0≠b:=by decide) (he:0<e:=by decide) (hoff:0+len*e≤M:=by omega) (h1:c0<bs.length:=by simp only [lzA]<;>omega) (h2:b<bs.length:=by simp only [lzA]<;>omega) (hb:(bs.set c0 (.cells z0 N0 (l0.set i (.lst e L)))).set b .gone=bs2:=by simp (disch:=decide) only [scA,z60,List.set_cons_zero,List.set_cons_succ,Nat.reduceSub];try rfl):TW Tryz.prog (EE ax) [] N c h (stL bs) Q:=TW.freezeC c0 i L hS0 hi hne hS he hoff hL hs hlen (by rw [zeb _ _ _ h1,zeb _ _ _ (by rw [List.length_set];exact h2),hb];exact k)
theorem vz {c:Code} (c0 i e:Nat) {N0:Nat} {z0:Bool} {l0:List T} (k:TW Tryz.prog (EE ax) [] N c h (stL bs2) Q) (hS0:(stL bs).box c0=.cells z0 N0 l0:=by rfl) (hi:l0[i]?=some .nils:=by first|rfl | (simp (disch:=decide) only [List.getElem?_cons_zero,List.getElem?_cons_succ,sgG,Nat.reduceSub,Nat.reduceAdd];done)) (h1:c0<bs.length:=by simp only [lzA]<;>omega) (hb:(bs.set c0 (.cells z0 N0 (l0.set i (.arr (stL bs).n e 0 0 0 0))))++[.cells false 0 []]=bs2:=by simp (disch:=decide) only [scA,scB,z60,List.set_cons_zero,List.set_cons_succ,Nat.reduceSub,List.cons_append,List.nil_append,Nat.reduceAdd];try rfl):TW Tryz.prog (EE ax) [] N c h (stL bs) Q:=TW.vecC c0 i e hS0 hi h1 (by rw [zeb _ _ _ h1,z1q,hb];exact k)
theorem enBr {fid:FuncId} {fn:Func} {body:Code} {args:List T} {vs:List T} {bs0 bs1:List Box} (l:List ResultVar) (N:Nat) (K:List Nat) (hax:ax fid=none) (hf:(EE ax).fn.at fid=some fn) (k:∀ h2,C h2→TW Tryz.prog (EE ax) [] N body h2 (stL bs0) (FinB ax l vs bs1)) (hb:fn.body=some body:=by rfl) (hl:fn.results.toList=l:=by rfl) (hn:fn.ntmps=N:=by rfl) (hN:N≤512:=by decide) (hlen:args.length≤N:=by simp) (h01:bs0.length≤bs1.length:=by simp only [lzA]<;>omega) (hv:(tupT vs).ids bs1.length=true:=by first|rfl | (simp only [zcx,zcw,idsA,idsB,zas,Bool.and_self];done) | (simp only [tupT,zcx,zcw,idsA,idsB,zas,Bool.and_self];done) | (simp only [tupT,zcx,zcw,idsA,idsB,zas,Bool.and_self];rfl)) (he:argT args 0 (fun _=>.junk)=h':=by simp only [znn,zpz,Nat.reduceAdd];try rfl) (hC:∀ h2,KP h' h2 K→C h2:=by intro h2 k;simp only [KP,zca,Nat.reduceEqDiff,reduceIte] at k;first|exact k|exact trivial):Call Tryz.prog (EE ax) [] fid args (stL bs0) (tupT vs) (stL bs1):=enB l N K hax hf k hb hl hn hN hlen h01 hv he hC
theorem car {fid:FuncId} {args args':List T} {v v':T} {bs0 bs1 bs bs':List Box} (rl:List Nat) (k:Call Tryz.prog (EE ax) [] fid args (stL bs0) v (stL bs1)) (h1:rlOk bs0.length bs1.length bs.length bs'.length rl=true:=by rfl) (h2:T.idsL bs0.length args=true:=by simp only [zmd,zcx,zcw,reduceIte,Nat.reduceEqDiff,Nat.reduceAdd,Nat.reduceLT,Nat.reduceLeDiff,idsA,idsB,zas]) (h3:v.ids bs1.length=true:=by first | (simp only [zmd,zcx,zcw,reduceIte,Nat.reduceEqDiff,Nat.reduceAdd,Nat.reduceLT,Nat.reduceLeDiff,idsA,idsB,zas];done)|rfl | (simp only [zcx,zcw,idsA,idsB,zas,Bool.and_self];done) | (simp only [tupT,zcx,zcw,idsA,idsB,zas,Bool.and_self];done) | (simp only [tupT,zcx,zcw,idsA,idsB,zas,Bool.and_self];rfl)) (h4:PreL (atR rl) bs0.length bs rl bs0:=by (repeat' (first|exact trivial|apply And.intro))<;>first|rfl | (simp only [zmd,zcx,zcw,reduceIte,Nat.reduceEqDiff,Nat.reduceAdd,Nat.reduceLT,Nat.reduceLeDiff,idsA,idsB,zas];done) | (simp (disch:=(simp only [zcx,zcw,idsA,idsB,zas,Bool.and_self];done)) only [zed,T.renL,T.ren,tupT,zct,zgx];done) | (simp (disch:=(simp only [zcx,zcw,idsA,idsB,zas,Bool.and_self];done)) only [zed,T.renL,T.ren,tupT,zct,zgx];rfl)) (h5:PreL (atR rl) bs1.length bs' rl bs1:=by (repeat' (first|exact trivial|apply And.intro))<;>first|rfl | (simp only [zmd,zcx,zcw,reduceIte,Nat.reduceEqDiff,Nat.reduceAdd,Nat.reduceLT,Nat.reduceLeDiff,idsA,idsB,zas];done) | (simp (disch:=(simp only [zcx,zcw,idsA,idsB,zas,Bool.and_self];done)) only [zed,T.renL,T.ren,tupT,zct,zgx];done) | (simp (disch:=(simp only [zcx,zcw,idsA,idsB,zas,Bool.and_self];done)) only [zed,T.renL,T.ren,tupT,zct,zgx];rfl)) (h6:zsj rl 0 bs bs':=by (repeat' (first|exact trivial|apply And.intro))<;>first|rfl|exact .inl rfl|exact .inr rfl) (ea:T.renL (atR rl) args=args':=by first|rfl | (simp (disch:=(simp only [zcx,zcw,idsA,idsB,zas,Bool.and_self];done)) only [zed,T.renL,T.ren,tupT,zct,zgx];done) | (simp (disch:=(simp only [zcx,zcw,idsA,idsB,zas,Bool.and_self];done)) only [zed,T.renL,T.ren,tupT,zct,zgx];rfl)) (ev:v.ren (atR rl)=v':=by first|rfl | (simp only [tupT,T.ren,T.renL];rw [zgx]<;>first|rfl | (simp only [zcx,zcw,idsA,idsB,zas,Bool.and_self];done)) | (simp (disch:=(simp only [zcx,zcw,idsA,idsB,zas,Bool.and_self];done)) only [zed,T.renL,T.ren,tupT,zct,zgx];done) | (simp (disch:=(simp only [zcx,zcw,idsA,idsB,zas,Bool.and_self];done)) only [zed,T.renL,T.ren,tupT,zct,zgx];rfl)):Call Tryz.prog (EE ax) [] fid args' (stL bs) v' (stL bs'):=Call.at rl k h1 h2 h3 h4 h5 h6 ea ev
end
end
section
open Go Go.RowKit
def alcO (cf:Nat→Option Nat) (o:Oper):Option Nat:=match o.op with
  |.move _=>some 0
  |.assign _=>some 0
  |.pick _ _ _=>some 0
  |.alloc _=>some 1
  |.box _ _=>some 1
  |.load _ _=>some 0
  |.store _ _ _=>some 0
  |.fieldAddr _ _ _=>some 0
  |.indexAddr _ _ _=>some 0
  |.binOp _ _ _ _ _=>some 0
  |.unOp _ _ _=>some 0
  |.extract _ _=>some 0
  |.build _ _=>some 0
  |.call c=>(match c.callee with|.value (.func f)=>cf f|_=>none)
  |_=>none
def addO:Option Nat→Option Nat→Option Nat
  |some a,some b=>some (a+b)
  |_,_=>none
theorem zno {x y:Option Nat} {k:Nat} (h:addO x y=some k):∃ a b,x=some a∧y=some b∧k=a+b:=by
  cases x<;>cases y<;>simp [addO] at h;exact ⟨_,_,rfl,rfl,h.symm⟩
def alcL (cf:Nat→Option Nat):List Oper→Option Nat
  |[]=>some 0
  |o :: l=>addO (alcO cf o) (alcL cf l)
def alcC (cf:Nat→Option Nat):Code→Option Nat
  |.region _ ops _=>alcL cf ops.toList
  |.seq a b=>addO (alcC cf a) (alcC cf b)
  |.cond _ a b=>addO (alcC cf a) (alcC cf b)
  |.block _ b=>alcC cf b
  |.loop b=>(match alcC cf b with|some 0=>some 0|_=>none)
  |.scope b=>alcC cf b
  |.skip=>some 0
  |.label _=>some 0
  |.exit _=>some 0
  |.ret=>some 0
  |_=>none
section
variable {P:Program} {Γ:Env} {s s':CS} {v:Value}
theorem yd7 {x:Option Value} (h:retC s x=some (v,s')):s'.n=s.n:=by rw [(zgl h).2]
theorem z2o {ρ:Operand→Value} {o:Oper} {x:Option Value} (h:zfh P ρ o s x=some (v,s')):s'.n=s.n:=by
  unfold zfh at h
  cases x with
  |some y=>simp only [Option.some.injEq,Prod.mk.injEq] at h;rw [← h.2]
  |none=>exact yd7 h
theorem ybz {a:Addr} {tag:Nat} {cs:List Value} (h:s.newRow tag cs=some (a,s')):s'.n=s.n+1:=by
  unfold CS.newRow at h;obtain ⟨_,h⟩:=zcg h;simp only [Option.some.injEq,Prod.mk.injEq] at h;rw [← h.2]
theorem yi6 {tag:Nat} {cs:List Value} (h:ptrC (s.newRow tag cs)=some (v,s')):s'.n=s.n+1:=by
  obtain ⟨a,h1,_⟩:=zqy h;exact ybz h1
theorem z7n {a:Addr} {cs:List Value} (h:s.readRow a=some (cs,s')):s'.n=s.n:=by
  unfold CS.readRow at h;split at h
  · simp only [Option.some.injEq,Prod.mk.injEq] at h;rw [← h.2]
  · simp at h
theorem zx5 {i:TI} {a:Addr} (h:s.loadVar i a=some (v,s')):s'.n=s.n:=by
  unfold CS.loadVar at h
  cases hq:s.readRow a with
  |none=>rw [hq] at h;simp at h
  |some p =>
    obtain ⟨cs,s1⟩:=p;rw [hq] at h;simp only at h;split at h
    · simp only [Option.some.injEq,Prod.mk.injEq] at h;rw [← h.2];exact z7n hq
    · simp at h
theorem ygm {a:Addr} {vs:List Value} (h:s.write a vs=some s'):s'.n=s.n:=by
  unfold CS.write at h;split at h
  · obtain ⟨_,h⟩:=zcg h;simp only [Option.some.injEq] at h;rw [← h]
  · simp at h
theorem zsy {x:Value} {t:CS} (h:some (x,t)=some (v,s')) (ht:t.n=s.n):s'.n=s.n:=by
  simp only [Option.some.injEq,Prod.mk.injEq] at h;rw [← h.2];exact ht
theorem yh0 {cf:Nat→Option Nat} {call:zdd} (hcall:∀ f k args s v s',cf f=some k→call f args s=some (v,s')→s'.n≤s.n+k) {fr:Fr} {o:Oper} {k:Nat} (ho:alcO cf o=some k) (h:cop P Γ call (zfy fr) o s=some (v,s')):s'.n≤s.n+k:=by
  obtain ⟨d,op,ty,pos,e,g⟩:=o;unfold alcO at ho;simp only at ho;split at ho
  case h_1=>cases ho;rw [ycz] at h;exact Nat.le_of_eq (zsy h rfl)
  case h_2=>cases ho;rw [z5n] at h;exact Nat.le_of_eq (zsy h rfl)
  case h_3 =>
    cases ho;rw [ycy] at h;unfold zos at h;split at h
    · exact Nat.le_of_eq (zsy h rfl)
    · simp at h
  case h_4 =>
    cases ho;rw [yag] at h;unfold zi3 at h;split at h
    · exact Nat.le_of_eq (yi6 h)
    · simp at h
  case h_5=>cases ho;rw [yhy] at h;exact Nat.le_of_eq (yi6 h)
  case h_6 =>
    cases ho;rw [yc0] at h;unfold zl0 at h;split at h
    · split at h
      · exact Nat.le_of_eq (zx5 h)
      · simp at h
    · simp at h
  case h_7 =>
    cases ho;rw [yae] at h;unfold zi1 at h;split at h
    · split at h
      · obtain ⟨_,h⟩:=zds h;unfold zrz at h;split at h
        · rename_i hw;simp only [Option.some.injEq,Prod.mk.injEq] at h;rw [← h.2];exact Nat.le_of_eq (ygm hw)
        · simp at h
      · simp at h
    · simp at h
  case h_8 =>
    cases ho;rw [zwa] at h;unfold zdy at h;split at h
    · split at h
      · split at h
        · split at h
          · cases hb:Nat.beq _ 0<;>rw [hb] at h<;>simp only [cond_true,cond_false] at h
            · exact Nat.le_of_eq (zsy h rfl)
            · simp at h
          · simp at h
        · simp at h
      · simp at h
    · simp at h
  case h_9 =>
    cases ho;rw [zv9] at h;unfold zbf at h;split at h
    · have hA:∀ (z k n:Nat) (a:Addr),zo5 s z k n a=some (v,s')→s'.n=s.n:=by
        intro z k n a h;unfold zo5 at h;obtain ⟨_,h⟩:=zds h;exact zsy h rfl
      split at h
      · split at h
        · split at h
          · exact Nat.le_of_eq (hA _ _ _ _ h)
          · simp at h
        · simp at h
      · split at h
        · split at h
          · exact Nat.le_of_eq (hA _ _ _ _ h)
          · simp at h
        · simp at h
      · simp at h
    · simp at h
  case h_10 =>
    cases ho;rw [yhz] at h;unfold zjd at h;split at h
    · exact Nat.le_of_eq (zsy h rfl)
    · exact Nat.le_of_eq (z2o h)
  case h_11=>cases ho;rw [yj3] at h;exact Nat.le_of_eq (z2o h)
  case h_12 =>
    cases ho;rw [z01] at h;unfold zfp at h;split at h
    · exact Nat.le_of_eq (yd7 h)
    · simp at h
  case h_13 =>
    cases ho;rw [yaf] at h;unfold zhs at h
    have hA:∀ (c:Option (List Value)),aggC s c=some (v,s')→s'.n=s.n:=by
      intro c h;obtain ⟨_,_,_,rfl⟩:=zla h;rfl
    split at h
    · split at h
      · obtain ⟨_,h⟩:=zcg h;exact Nat.le_of_eq (hA _ h)
      · split at h
        · exact Nat.le_of_eq (hA _ h)
        · simp at h
      · simp at h
    · simp at h
  case h_14 =>
    rename_i c;obtain ⟨ce,args,tys⟩:=c
    cases ce with
    |value x =>
      cases x with
      |func f =>
        simp only at ho;rw [yc1] at h;exact hcall _ _ _ _ _ _ ho h
      |_=>simp at ho
    |_=>simp at ho
  case h_15=>simp at ho
theorem zww {cf:Nat→Option Nat} {call:zdd} (hcall:∀ f k args s v s',cf f=some k→call f args s=some (v,s')→s'.n≤s.n+k) {ops:List Oper} {fr fr':Fr} {o:Oper} {k:Nat} (ho:alcO cf o=some k) (h:zcc P Γ call ops o fr s=some (fr',s')):s'.n≤s.n+k:=by
  unfold zcc at h
  cases hw:zc4 ops fr o with
  |true =>
    rw [hw] at h;simp only [cond_true] at h;split at h
    · rename_i hq;simp only [Option.some.injEq,Prod.mk.injEq] at h;rw [← h.2];exact yh0 hcall ho hq
    · simp at h
  |false =>
    rw [hw] at h;simp only [cond_false,Option.some.injEq,Prod.mk.injEq] at h;rw [← h.2];omega
theorem z19 {cf:Nat→Option Nat} {call:zdd} (hcall:∀ f k args s v s',cf f=some k→call f args s=some (v,s')→s'.n≤s.n+k) {ops:List Oper}:∀ (l:List Oper) (fr fr':Fr) (s s':CS) (k:Nat),alcL cf l=some k→runC P Γ call ops l fr s=some (fr',s')→s'.n≤s.n+k
  |[],fr,fr',s,s',k,hk,h=>by
    simp only [runC,Option.some.injEq,Prod.mk.injEq] at h;rw [← h.2];omega
  |o :: l,fr,fr',s,s',k,hk,h=>by
    obtain ⟨a,b,h1,h2,rfl⟩:=zno hk;simp only [runC] at h;split at h
    · rename_i hq;have q1:=zww hcall h1 hq;have q2:=z19 hcall l _ _ _ _ b h2 h;omega
    · simp at h
theorem zy0 {cf:Nat→Option Nat} {call:zdd} (hcall:∀ f k args s v s',cf f=some k→call f args s=some (v,s')→s'.n≤s.n+k) {ops:List Oper}:∀ (l:List Oper) (fr fr':Fr) (s s':CS) (k:Nat) (lg:List Lg),alcL cf l=some k→drawC P Γ call ops l fr s=some (lg,fr',s')→s'.n≤s.n+k
  |[],fr,fr',s,s',k,lg,hk,h=>by
    simp only [drawC,Option.some.injEq,Prod.mk.injEq] at h;rw [← h.2.2];omega
  |o :: l,fr,fr',s,s',k,lg,hk,h=>by
    obtain ⟨a,b,h1,h2,rfl⟩:=zno hk;simp only [drawC] at h;split at h
    · rename_i fr1 t hq;split at h
      · rename_i hq2;simp only [Option.some.injEq,Prod.mk.injEq] at h;obtain ⟨_,_,rfl⟩:=h;have q1:=zww hcall h1 hq;have q2:=zy0 hcall l _ _ _ _ b _ h2 hq2;have e1:(CS.inner s).n=s.n:=rfl;have e2:(CS.outer s t).n=t.n:=rfl;omega
      · simp at h
    · simp at h
theorem yf4 {cf:Nat→Option Nat} (hcall:∀ n f k args s v s',cf f=some k→zdc P Γ n f args s=some (v,s')→s'.n≤s.n+k):∀ (n:Nat) (c:Code) (fr fr':Fr) (s s':CS) (e:Exit) (k:Nat),alcC cf c=some k→cm P Γ n c fr s=some (e,fr',s')→s'.n≤s.n+k:=by
  intro n
  induction n with
  |zero=>intro c fr fr' s s' e k hk h;simp [cm] at h
  |succ n ih =>
    intro c fr fr' s s' e k hk h
    cases c with
    |skip=>simp only [cm,Option.some.injEq,Prod.mk.injEq] at h;rw [← h.2.2];omega
    |label lb=>simp only [cm,Option.some.injEq,Prod.mk.injEq] at h;rw [← h.2.2];omega
    |exit id=>simp only [cm,Option.some.injEq,Prod.mk.injEq] at h;rw [← h.2.2];omega
    |ret=>simp only [cm,Option.some.injEq,Prod.mk.injEq] at h;rw [← h.2.2];omega
    |region id ops draw =>
      have h' : (bif draw then match drawC P Γ (zdc P Γ n) ops.toList ops.toList fr s with
          |some (logs,fr,t)=>bif calm s.n ops.toList logs then some (Exit.normal,fr,t) else none
          |none=>none
        else match runC P Γ (zdc P Γ n) ops.toList ops.toList fr s with
          |some (fr,s)=>some (Exit.normal,fr,s)
          |none=>none)=some (e,fr',s'):=h
      cases draw with
      |true =>
        simp only [cond_true] at h';split at h'
        · rename_i hd;obtain ⟨_,h'⟩:=zds h';simp only [Option.some.injEq,Prod.mk.injEq] at h';obtain ⟨rfl,rfl,rfl⟩:=h';exact zy0 (hcall n) _ _ _ _ _ _ _ hk hd
        · simp at h'
      |false =>
        simp only [cond_false] at h';split at h'
        · rename_i hd;simp only [Option.some.injEq,Prod.mk.injEq] at h';obtain ⟨rfl,rfl,rfl⟩:=h';exact z19 (hcall n) _ _ _ _ _ _ hk hd
        · simp at h'
    |seq a b =>
      obtain ⟨x,y,h1,h2,rfl⟩:=zno hk;simp only [cm] at h;split at h
      · rename_i hq;have q1:=ih _ _ _ _ _ _ _ h1 hq;have q2:=ih _ _ _ _ _ _ _ h2 h;omega
      · have q1:=ih _ _ _ _ _ _ _ h1 h;omega
    |cond c t e' =>
      obtain ⟨x,y,h1,h2,rfl⟩:=zno hk;simp only [cm] at h;split at h
      · rename_i b _
        cases b with
        |true=>have q1:=ih _ _ _ _ _ _ _ h1 h;omega
        |false=>have q1:=ih _ _ _ _ _ _ _ h2 h;omega
      · simp at h
    |block id b =>
      simp only [cm] at h;split at h
      · rename_i hq;simp only [Option.some.injEq,Prod.mk.injEq] at h;obtain ⟨_,_,rfl⟩:=h;exact ih b _ _ _ _ _ _ hk hq
      · exact ih b _ _ _ _ _ _ hk h
    |loop b =>
      have hk2:=hk;simp only [alcC] at hk;split at hk
      · rename_i hb;cases hk;simp only [cm] at h;split at h
        · rename_i hq;have q1:=ih _ _ _ _ _ _ _ hb hq;have q2:=ih _ _ _ _ _ _ _ hk2 h;omega
        · exact ih _ _ _ _ _ _ _ hb h
      · simp at hk
    |scope b =>
      simp only [cm] at h;exact ih b _ _ _ _ _ _ hk h
    |_=>simp [alcC] at hk
theorem z2c {fr:Fr}:∀ (l:List ResultVar) (s s':CS) (vs:List Value),resC Γ fr s l=some (vs,s')→s'.n=s.n
  |[],s,s',vs,h=>by simp only [resC,Option.some.injEq,Prod.mk.injEq] at h;rw [← h.2]
  |.tmp t :: l,s,s',vs,h=>by
    simp only [resC] at h;split at h
    · rename_i hq;simp only [Option.some.injEq,Prod.mk.injEq] at h;rw [← h.2];exact z2c l _ _ _ hq
    · simp at h
  |.cell a t :: l,s,s',vs,h=>by
    simp only [resC] at h;split at h
    · split at h
      · rename_i hq;split at h
        · rename_i hq2;simp only [Option.some.injEq,Prod.mk.injEq] at h;rw [← h.2,z2c l _ _ _ hq2,zx5 hq]
        · simp at h
      · simp at h
    · simp at h
theorem zze {cf:Nat→Option Nat} (hcall:∀ n f k args s v s',cf f=some k→zdc P Γ n f args s=some (v,s')→s'.n≤s.n+k) {f:Nat} {fn:Func} {body:Code} (hax:Γ.ax f=none) (hfn:Γ.fn.at f=some fn) (hb:fn.body=some body) {k:Nat} (hk:alcC cf body=some k) {n:Nat} {args:List Value} (h:zdc P Γ n f args s=some (v,s')):s'.n≤s.n+k:=by
  unfold zdc at h;simp only [hax,hfn,hb] at h;split at h
  · rename_i hq;obtain ⟨_,hq⟩:=zcg hq;split at h
    · rename_i hr;simp only [Option.some.injEq,Prod.mk.injEq] at h;have q1:=yf4 hcall _ _ _ _ _ _ _ _ hk hq;have q2:=z2c _ _ _ _ hr;rw [← h.2,q2];exact q1
    · simp at h
  · rename_i hq;obtain ⟨_,hq⟩:=zcg hq;split at h
    · rename_i hr;simp only [Option.some.injEq,Prod.mk.injEq] at h;have q1:=yf4 hcall _ _ _ _ _ _ _ _ hk hq;have q2:=z2c _ _ _ _ hr;rw [← h.2,q2];exact q1
    · simp at h
  · simp at h
theorem yaz {G L:List Nat} {ax:Axs} (hm:P.follows .mixedOrders=true) (hL:zik P G L=true) (hx:zj2 P G L ax) {f:Nat} {fn:Func} {body:Code} (hax:ax f=none) (hfn:(zeq P L ax).fn.at f=some fn) (hb:fn.body=some body)
    {cf:Nat→Option Nat} (hcall:∀ n f k args s v s',cf f=some k→zdc P (zeq P L ax) n f args s=some (v,s')→s'.n≤s.n+k) {K:Nat} (hk:alcC cf body=some K) {dec:List Value→Option Value}
    (hd:∀ args v,dec args=some v→∃ ts t,Pure P (zeq P L ax) [] f ts t∧(∀ A β g,VL A β g ts args)∧(∀ A β g v',VT A β g t v'→v'=v)∧zax 3 v=true) :
    AxOk P G f (fun args s=>match dec args with|some v=>some (v,{ s with n:=s.n+K })|none=>none):=by
  refine ax_of hm hL hx hax hfn hb fun args s v s' hh hI=>?_
  cases hq:dec args with
  |none=>simp only [hq] at hh;cases hh
  |some v1 =>
    simp only [hq] at hh;simp only [Option.some.injEq,Prod.mk.injEq] at hh;obtain ⟨rfl,rfl⟩:=hh;obtain ⟨ts,t,k1,k2,k3,k4⟩:=hd args v1 hq
    have hT:TRel [] (fun _=>False) bx0 ts0 s.fn :=
      ⟨⟨_,rfl⟩,hI.fn,fun f hf=>hf.elim,fun f hf=>absurd hf zkx,fun b b' l l' f hb=>by simp [bx0] at hb,fun b _=>rfl,fun b z N l hb=>by simp [ts0] at hb,fun b l hb=>by simp [ts0] at hb,fun x hx=>by simp at hx⟩
    obtain ⟨v2,s1,A',e1,e2,e3,e4⟩:=k1.call ts0 _ _ _ args hT (k2 _ _ _);have ev:=k3 _ _ _ _ e3;subst ev;refine ⟨k4,rfl,rfl,rfl,fun x h=>h,Nat.le_add_right _ _,s1,e1,?_,fun x h=>?_,fun x h=>e4.wr x h,fun f hf=>e4.keep f hf⟩
    · obtain ⟨n,hn⟩:=zls e1;exact zze (s:=s.fn) hcall hax hfn hb hk hn
    · rcases e4.rd x h with q|⟨_,q|q⟩
      · exact q
      · exact q.elim
      · exact absurd q zkx
noncomputable def z4q (K:Nat) (dec:List Value→Option Value):List Value→CS→Option (Value×CS):=fun args s=>match dec args with|some v=>some (v,{ s with n:=s.n+K })|none=>none
theorem z09 {L:List Nat} {ax:Axs} (hm:P.follows .mixedOrders=true) (hL:zik P [] L=true) (hx:zj2 P [] L ax) {f fuel:Nat} {fn:Func} {body:Code} (hfn:(zeq P L ax).fn.at f=some fn) (hb:fn.body=some body) (h:zzc P (zeq P L ax) f fuel=true) (w:World) :
    Calls P f #[] w fun e w'=>e=.returned (.bool true)∧Below w.heap.size w w':=by
  unfold zzc at h;split at h
  · rename_i s' hq;have hI:CInv cs0:=⟨fun f _=>z00 f,fun f p hp=>by rw [z00] at hp;simp [zd0] at hp,Nat.le_refl _⟩;have hr:Rel (fun _ _=>none) (fun _=>True) cs0 w:=⟨fun _ _ _ _ _ _ _ _ _ h=>by simp at h,fun _ _ _ _ _ h=>by simp at h,fun f _=>by rw [z00];exact zg8.ofNone,hI.none,hI.vers⟩;have hcall:=zwg hx.can hx.its hx.call hL (z03 hm hx.can hx.its hx.call hL fuel).1 f [] #[] cs0 _ s' w (fun _ _=>none) (fun _=>True) hq trivial hr (fun _ _=>trivial) (fun _ _ _=>rfl) hI (fun g hg=>by simp [has] at hg);obtain ⟨x,h1,h2⟩:=hcall;have he:=zpt (ax:=ax) hL hfn hb #[] w;rw [he] at h1;have hx:x=f:=by simp_all
    subst hx;refine h2.mono ?_;rintro e w' ⟨σ',v',rfl,k1,k2,k3⟩;exact ⟨by rw [zvg 3 rfl k1],k3.st.1,k3.st.2.1,k3.st.2.2,k3.size,fun k hk=>k3.frame k hk fun g u o z hs=>by simp at hs⟩
  · simp at h
end
end
section
open Go Go.RowKit
structure NoAx (ax:Axs):Prop where
  no:∀ f,Nat.beq f 12=false→ax f=none
instance {ax:Axs}:Coe (zb7 ax) (NoAx ax):=⟨fun h=>⟨h.no⟩⟩
end
section
open Go Go.RowKit
set_option maxRecDepth 100000
def zeo (k:Nat) (p:Pat) (q:Pat):Nat→Int→Option (Bool ⊕ Unit)
 |0,_=>none
 |m+1,i=>(if i<10 then (if (0:Int)≤i∧i<(10:Int) then (if (iAnd .i64 (iAnd .i64 (iXor .i64 (gx p.bits.l i) (gx q.bits.l i)) (gx p.mask.l i)) (gx q.mask.l i))≠0 then some (.inl false) else zeo k p q m (IntKind.i64.wrap (i+1))) else none) else some (.inr ()))
def zh1 (k:Nat) (p:Pat) (q:Pat):Option Bool:=((zeo k p q k 0:Option (Bool ⊕ Unit)).bind fun o=>Sum.elim (fun r=>some r) (fun s_=>some true) o)
set_option maxHeartbeats 8000000 in
theorem zj6 (ax:Axs) (hx:NoAx ax) (k:Nat) (p:Pat) (q:Pat) (v:Bool) (H:zh1 k p q=some v):Pure Tryz.prog (EE ax) [] 118 [ePat p,ePat q] (.bool v):=by
 rw [zh1] at H;refine en [.tmp 4] 30 [0,1] (hx.no _ (by decide)) (yhr ax) ?_;intro h hh;repeat apply TW.seq
 refine rk [2,3] [] hh ?_;clear hh h;intro h hh;repeat apply TW.seq
 refine rk [2,3,6] [] hh ?_;clear hh h;intro h hh;obtain ⟨o,H1,H⟩:=zad H;repeat apply TW.seq
 refine cu [] 2 (fun h bs=>∃ s_:Unit,o=.inr s_∧(True)∧bs=[.cells true 20 (p.mask.l.map (T.int .i64)++(p.bits.l.map (T.int .i64))),.cells true 20 (q.mask.l.map (T.int .i64)++(q.bits.l.map (T.int .i64)))]) ?_ ?_
 ·skip;repeat apply TW.seq
  apply TW.block;repeat apply TW.seq
  refine TW.loopT [2,3,6] (fun m h bs=>∃ (i:Int),zeo k p q m i=some o∧(h 2=.ptr 0 0 20∧h 3=.ptr 1 0 20∧h 6=.int .i64 i)∧bs=[.cells true 20 (p.mask.l.map (T.int .i64)++(p.bits.l.map (T.int .i64))),.cells true 20 (q.mask.l.map (T.int .i64)++(q.bits.l.map (T.int .i64)))]) ?_ k _ _ ?_;rotate_left
  ·exact ⟨0,H1,kq hh,rfl⟩
  clear hh h H1;rintro m h bs ⟨i,H1,hh,rfl⟩;rcases m with _|m
  ·rw [zeo] at H1;cases H1
  rw [zeo] at H1;repeat apply TW.seq
  refine rk [2,3,6,7] [] hh ?_;clear hh h;intro h hh;rcases isp H1 with ⟨c1,H1⟩|⟨c1,H1⟩;rotate_left
  ·skip;repeat apply TW.seq
   refine cf (f2 hh (decide_eq_false c1)) ?_;refine xk ?_;cases H1;exact ce hh ⟨_,rfl,kq hh,rfl⟩
  repeat apply TW.seq
  refine ct (f2 hh (decide_eq_true c1)) ?_;repeat apply TW.seq
  refine sk ?_;repeat apply TW.seq
  apply TW.block;repeat apply TW.seq
  refine rk [2,3,5,6] [] hh ?_;clear hh h;intro h hh;obtain ⟨g2,H1⟩:=isg H1;repeat apply TW.seq
  refine dk 18 [2,3,6,28] [] [] [] (f3 hh (zy4 (k:=.i64) (off:=10) (L:=(p.mask.l.map (T.int .i64)++(p.bits.l.map (T.int .i64)))) (r:=[]) p.bits g2) (f3 (zy4 (k:=.i64) (off:=10) (L:=(q.mask.l.map (T.int .i64)++(q.bits.l.map (T.int .i64)))) (r:=[]) q.bits g2) (zwe (k:=.i64) (L:=(p.mask.l.map (T.int .i64)++(p.bits.l.map (T.int .i64)))) (r:=(p.bits.l.map (T.int .i64))) p.mask g2) (zwe (k:=.i64) (L:=(q.mask.l.map (T.int .i64)++(q.bits.l.map (T.int .i64)))) (r:=(q.bits.l.map (T.int .i64))) q.mask g2))) trivial trivial ?_;clear hh h;intro h hh;rcases isp H1 with ⟨c3,H1⟩|⟨c3,H1⟩;rotate_left
  ·skip;repeat apply TW.seq
   refine cf (f2 hh (decide_eq_false c3)) ?_;repeat apply TW.seq
   refine sk ?_;repeat apply TW.seq
   refine rk [2,3,6] [] hh ?_;clear hh h;intro h hh;exact rd m hh ⟨(IntKind.i64.wrap (i+1)),H1,kq hh,rfl⟩
  repeat apply TW.seq
  refine ct (f2 hh (decide_eq_true c3)) ?_;repeat apply TW.seq
  refine rk [4] [] hh ?_;clear hh h;intro h hh;cases H1;obtain rfl:=sinl H;exact rt hh
 clear hh h;rintro h bs ⟨s_,rfl,hh,rfl⟩;replace H:=sinr H;repeat apply TW.seq
 refine rk [4] [] hh ?_;clear hh h;intro h hh;cases H;exact rt hh
def zhm (k:Nat) (q:Pat):Nat→Int→(Ar 10)→(Ar 10)→Option (Ar 10×Ar 10)
 |0,_,_,_=>none
 |m+1,i,x,x2=>(if i<10 then (if (0:Int)≤i∧i<(10:Int) then zhm k q m (IntKind.i64.wrap (i+1)) (x.set i (iOr .i64 (gx x.l i) (gx q.mask.l i))) (x2.set i (iOr .i64 (gx x2.l i) (gx q.bits.l i))) else none) else some (x,x2))
def zqi (k:Nat) (p:Pat) (q:Pat):Option (Pat×Bool):=((zh1 k p q).bind fun rOverlap=>(if rOverlap=true then ((zhm k q k 0 p.mask p.bits:Option (Ar 10×Ar 10)).bind fun s_=>some ((⟨s_.1,s_.2⟩:Pat),true)) else some ((⟨(zA 10),(zA 10)⟩:Pat),false)))
set_option maxHeartbeats 8000000 in
theorem zw1 (ax:Axs) (hx:NoAx ax) (k:Nat) (p:Pat) (q:Pat) (v:Pat×Bool) (H:zqi k p q=some v):Pure Tryz.prog (EE ax) [] 75 [ePat p,ePat q] (tupT [ePat v.1,.bool v.2]):=by
 rw [zqi] at H;refine enN [.cell 4 41,.tmp 5] 39 [0,1] (hx.no _ (by decide)) (fn75 ax) ?_;intro h hh;repeat apply TW.seq
 refine rk [2,3,4] [] hh ?_;clear hh h;intro h hh;obtain ⟨rOverlap,e1,H⟩:=zad H;repeat apply TW.seq
 refine rkc [2,3,4,10] [] [(.bool rOverlap,stL [.cells true 20 (p.mask.l.map (T.int .i64)++(p.bits.l.map (T.int .i64))),.cells true 20 (q.mask.l.map (T.int .i64)++(q.bits.l.map (T.int .i64))),.cells true 20 ((zA 10).l.map (T.int .i64)++((zA 10).l.map (T.int .i64)))])] hh ?_ ?_
 ·exact ⟨zau.call ((zj6 ax hx k p q rOverlap e1 ).call _),trivial⟩
 clear hh h;intro h hh;rcases isb H with ⟨c2,H⟩|⟨c2,H⟩;rotate_left
 ·skip;repeat apply TW.seq
  refine ct (f2 hh c2) ?_;repeat apply TW.seq
  refine rk [4,5] [] (f2 hh c2) ?_;clear hh h;intro h hh;cases H;exact rtc hh
 repeat apply TW.seq
 refine cf (f2 hh c2) ?_;repeat apply TW.seq
 refine sk ?_;repeat apply TW.seq
 refine rk [2,3,4,12] [] (f2 hh c2) ?_;clear hh h;intro h hh;obtain ⟨s_,H1,H⟩:=zad H;repeat apply TW.seq
 refine cu [2,4] 3 (fun h bs=>(h 2=.ptr 0 0 20∧h 4=.ptr 2 0 20)∧bs=[.cells true 20 (s_.1.l.map (T.int .i64)++(s_.2.l.map (T.int .i64))),.cells true 20 (q.mask.l.map (T.int .i64)++(q.bits.l.map (T.int .i64))),.cells true 20 ((zA 10).l.map (T.int .i64)++((zA 10).l.map (T.int .i64)))]) ?_ ?_
 ·skip;repeat apply TW.seq
  apply TW.block;repeat apply TW.seq
  refine TW.loopT [2,3,4,12] (fun m h bs=>∃ (i:Int) (x:Ar 10) (x2:Ar 10),zhm k q m i x x2=some s_∧(h 2=.ptr 0 0 20∧h 3=.ptr 1 0 20∧h 4=.ptr 2 0 20∧h 12=.int .i64 i)∧bs=[.cells true 20 (x.l.map (T.int .i64)++(x2.l.map (T.int .i64))),.cells true 20 (q.mask.l.map (T.int .i64)++(q.bits.l.map (T.int .i64))),.cells true 20 ((zA 10).l.map (T.int .i64)++((zA 10).l.map (T.int .i64)))]) ?_ k _ _ ?_;rotate_left
  ·exact ⟨0,p.mask,p.bits,H1,kq hh,rfl⟩
  clear hh h H1;rintro m h bs ⟨i,x,x2,H1,hh,rfl⟩;rcases m with _|m
  ·rw [zhm] at H1;cases H1
  rw [zhm] at H1;repeat apply TW.seq
  refine rk [2,3,4,12,13] [] (f2 hh c2) ?_;clear hh h;intro h hh;rcases isp H1 with ⟨c3,H1⟩|⟨c3,H1⟩;rotate_left
  ·skip;repeat apply TW.seq
   refine cf (f2 hh (decide_eq_false c3)) ?_;refine xk ?_;cases H1;exact ce hh ⟨kq hh,rfl⟩
  repeat apply TW.seq
  refine ct (f2 hh (decide_eq_true c3)) ?_;repeat apply TW.seq
  refine sk ?_;repeat apply TW.seq
  apply TW.block;repeat apply TW.seq
  refine rk [2,3,4,6,12] [] (f2 hh c2) ?_;clear hh h;intro h hh;obtain ⟨g4,H1⟩:=isg H1;repeat apply TW.seq
  refine dk 8 [2,3,4,6,12] [] [] [] (f3 hh c2 (f3 (zwe (k:=.i64) (L:=(x.l.map (T.int .i64)++(x2.l.map (T.int .i64)))) (r:=(x2.l.map (T.int .i64))) x g4) (zwe (k:=.i64) (L:=(q.mask.l.map (T.int .i64)++(q.bits.l.map (T.int .i64)))) (r:=(q.bits.l.map (T.int .i64))) q.mask g4) (yiw (k:=.i64) (L:=(x.l.map (T.int .i64)++(x2.l.map (T.int .i64)))) (r:=(x2.l.map (T.int .i64))) (L2:=((x.set i (iOr .i64 (gx x.l i) (gx q.mask.l i))).l.map (T.int .i64)++(x2.l.map (T.int .i64)))) x (iOr .i64 (gx x.l i) (gx q.mask.l i)) g4))) trivial trivial ?_;clear hh h;intro h hh;repeat apply TW.seq
  refine dk 8 [2,3,4,12] [] [] [] (f3 hh c2 (f3 (zy4 (k:=.i64) (off:=10) (L:=((x.set i (iOr .i64 (gx x.l i) (gx q.mask.l i))).l.map (T.int .i64)++(x2.l.map (T.int .i64)))) (r:=[]) x2 g4) (zy4 (k:=.i64) (off:=10) (L:=(q.mask.l.map (T.int .i64)++(q.bits.l.map (T.int .i64)))) (r:=[]) q.bits g4) (setAt (k:=.i64) (off:=10) (L:=((x.set i (iOr .i64 (gx x.l i) (gx q.mask.l i))).l.map (T.int .i64)++(x2.l.map (T.int .i64)))) (r:=[]) (L2:=((x.set i (iOr .i64 (gx x.l i) (gx q.mask.l i))).l.map (T.int .i64)++((x2.set i (iOr .i64 (gx x2.l i) (gx q.bits.l i))).l.map (T.int .i64)))) (p:=((x.set i (iOr .i64 (gx x.l i) (gx q.mask.l i))).l.map (T.int .i64))) x2 (iOr .i64 (gx x2.l i) (gx q.bits.l i)) g4))) trivial trivial ?_;clear hh h;intro h hh;repeat apply TW.seq
  refine rk [2,3,4,12] [] (f2 hh c2) ?_;clear hh h;intro h hh;exact rd m hh ⟨(IntKind.i64.wrap (i+1)),(x.set i (iOr .i64 (gx x.l i) (gx q.mask.l i))),(x2.set i (iOr .i64 (gx x2.l i) (gx q.bits.l i))),H1,kq hh,rfl⟩
 clear hh h;rintro h bs ⟨hh,rfl⟩;repeat apply TW.seq
 refine rk [4,5] [] (f2 hh c2) ?_;clear hh h;intro h hh;cases H;exact rtc hh
end
section
open Go Go.RowKit
def z8y:List Value→Option (List Int)
  |[]=>some []
  |.int .i64 i :: l=>(match z8y l with|some r=>some (i :: r)|none=>none)
  |_=>none
def patV:Value→Option Pat
  |.agg cs=>(match z8y cs.toList with
    |some l=>if h:l.length=20 then some ⟨⟨l.take 10,by rw [List.length_take,h];rfl⟩,⟨l.drop 10,by rw [List.length_drop,h]⟩⟩ else none
    |none=>none)
  |_=>none
def vPat (p:Pat):Value:=.agg ⟨(p.mask.l++p.bits.l).map (Value.int .i64)⟩
theorem z3a {A:Nat→Prop} {β:Bx} {g:Nat→Fam}:∀ {cs:List Value} {l:List Int},z8y cs=some l→VL A β g (l.map (T.int .i64)) cs
  |[],l,h=>by simp only [z8y,Option.some.injEq] at h;subst h;exact .nil
  |c :: cs,l,h=>by
    unfold z8y at h;split at h
    · rename_i heq;simp at heq
    · rename_i i l2 heq;simp only [List.cons.injEq] at heq;obtain ⟨rfl,rfl⟩:=heq;split at h
      · rename_i r hr;simp only [Option.some.injEq] at h;subst h;exact .cons (.int _ _) (z3a hr)
      · simp at h
    · simp at h
theorem zvh {A:Nat→Prop} {β:Bx} {g:Nat→Fam} {v:Value} {p:Pat} (h:patV v=some p):VT A β g (ePat p) v:=by
  unfold patV at h;split at h
  · rename_i cs;split at h
    · rename_i l hl;split at h
      · rename_i h20;simp only [Option.some.injEq] at h;subst h;obtain ⟨cs⟩:=cs;show VT A β g (.agg ((l.take 10).map (T.int .i64)++(l.drop 10).map (T.int .i64))) _;rw [← List.map_append,List.take_append_drop];exact .agg (z3a hl)
      · simp at h
    · simp at h
  · simp at h
theorem z6c {A:Nat→Prop} {β:Bx} {g:Nat→Fam}:∀ {l:List Int} {vs:List Value},VL A β g (l.map (T.int .i64)) vs→vs=l.map (Value.int .i64)
  |[],_,.nil=>rfl
  |i :: l,_,.cons h k=>by
    cases h;rw [List.map_cons,z6c k]
theorem yik {A:Nat→Prop} {β:Bx} {g:Nat→Fam} {p:Pat} {v:Value} (h:VT A β g (ePat p) v):v=vPat p:=by
  unfold ePat at h;rw [← List.map_append] at h
  cases h with
  |agg k=>rw [z6c k];rfl
theorem z7u (p:Pat):zax 2 (vPat p)=true:=by
  unfold vPat zax;rw [List.all_eq_true];intro x hx;simp only [List.mem_map] at hx;obtain ⟨i,_,rfl⟩:=hx;rfl
def ycq:List Value→Option Value
  |[x,y]=>(match patV x,patV y with
    |some p,some q=>(match zh1 12 p q with|some b=>some (.bool b)|none=>none)
    |_,_=>none)
  |_=>none
def z33:List Value→Option Value
  |[x,y]=>(match patV x,patV y with
    |some p,some q=>(match zqi 12 p q with|some r=>some (.tuple #[vPat r.1,.bool r.2])|none=>none)
    |_,_=>none)
  |_=>none
theorem yej:NoAx fun _=>none:=⟨fun _ _=>rfl⟩
theorem ycp (args:List Value) (v:Value) (h:ycq args=some v):∃ ts t,Pure Tryz.prog (EE fun _=>none) [] 118 ts t∧(∀ A β g,VL A β g ts args)∧(∀ A β g v',VT A β g t v'→v'=v)∧zax 3 v=true:=by
  unfold ycq at h;split at h
  · rename_i x y;split at h
    · rename_i p q hp hq;split at h
      · rename_i b hb;simp only [Option.some.injEq] at h;subst h;exact ⟨_,_,zj6 _ yej 12 p q b hb,fun A β g=>.cons (zvh hp) (.cons (zvh hq) .nil),fun A β g v' k=>by cases k;rfl,rfl⟩
      · simp at h
    · simp at h
  · simp at h
theorem z97 (args:List Value) (v:Value) (h:z33 args=some v):∃ ts t,Pure Tryz.prog (EE fun _=>none) [] 75 ts t∧(∀ A β g,VL A β g ts args)∧(∀ A β g v',VT A β g t v'→v'=v)∧zax 3 v=true:=by
  unfold z33 at h;split at h
  · rename_i x y;split at h
    · rename_i p q hp hq;split at h
      · rename_i r hr;simp only [Option.some.injEq] at h;subst h;refine ⟨_,_,zw1 _ yej 12 p q r hr,fun A β g=>.cons (zvh hp) (.cons (zvh hq) .nil),fun A β g v' k=>?_,?_⟩
        · cases k with
          |tup k =>
            cases k with
            |cons k1 k2 =>
              cases k2 with
              |cons k3 k4 =>
                cases k4;cases k3;rw [yik k1]
        · show zax 3 (.tuple #[vPat r.1,.bool r.2])=true;unfold zax;show (zax 2 (vPat r.1) && (zax 2 (.bool r.2) && true))=true;rw [z7u];rfl
      · simp at h
    · simp at h
  · simp at h
end
end Go.Proofs.YtjgbkegkcbcjaaaGreat
