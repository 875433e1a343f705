/- The statement's examples by the kernel; from a law's contract on trees to the model. -/
import Derived.Test.YtfalnphlgfoflaaFd
import Derived.Test.YtfalnphlgfoflaaOp
import Derived.Test.YtfalnphlgfoflaaSan0
namespace Go.Proofs.Ytfalnphlgfoflaa
open Go Go.RowKit
set_option linter.unusedVariables false
noncomputable def axS : Axs := axAdd 10 (axVal (.bool true)) fun _ => none
theorem axS_ok : AxsOk Try.prog GG axS := AxsOk.none.add (ax_val (L := LL) (ax := fun _ => none) funcs_ok (fn10 fun _ => none) rfl rfl sane_calls)
theorem axS_san : axS 10 = some (axVal (.bool true)) := axAdd_same _ _ _
theorem axS_plain : Plain axS := by
  refine ⟨fun f hf => axAdd_ne _ _ fun h => ?_, rfl, rfl, fun A β s vargs hT hv => ?_⟩
  · subst h; rw [Nat.beq_refl] at hf; cases hf
  · cases hv
    exact ⟨.bool true, s, A, β, callR_ax (k := axVal (.bool true)) axS_san rfl, hT, .bool true, Stp.refl⟩
theorem law_calls {f : FuncId} {fn : Func} {body : Code} (hfn : (EE axS).fn.at f = some fn) (hb : fn.body = some body) {args : List T} {vs : Array Value} {W : World} (h : RtL W args vs.toList) (hp : Pure Try.prog (EE axS) [] f args (.bool true)) :
    Calls Try.prog f vs W fun e W' => e = .returned (.bool true) ∧ Below W.heap.size W W' := by
  obtain ⟨A, xs, k⟩ := entL (N := W.heap.size) (G := GG) (K := []) rfl (fun p hp => by simp at hp) (fun g hg => by simp [has, GG] at hg) h []
  have e : ([] : List Seg) ++ A ++ [] = A := by simp
  have kr := k.vr []
  have kl := k.vl []
  have ka := k.at_ []
  rw [e] at kr kl ka
  obtain ⟨r1, r2, r3, r4⟩ := start_rel (G := GG) (N := W.heap.size) (K := []) (A := A) rfl (fun p hp => by simp at hp) (fun p hp => by simp at hp) (fun g hg => by simp [has, GG] at hg) ka
  have hT : TRel [] (Low W.heap.size) bx0 ts0 (St (W.heap.size + A.length) (famS W.heap.size [] A) 0 [] []) :=
    ⟨⟨_, rfl⟩, r2, fun f hf => by have : f < W.heap.size := hf; show f < W.heap.size + A.length; omega, fun f hf => absurd hf own_bx0, fun b b' l l' f hb => by simp [bx0] at hb, fun b _ => rfl, fun b z N l hb => by simp [ts0] at hb, fun b l hb => by simp [ts0] at hb, fun x hx => by simp at hx⟩
  obtain ⟨v, s2, A', β', e1, e2, e3, e4⟩ := hp.2.2 _ _ _ xs hT kl
  cases e3
  refine (calls_of mixed funcs_ok axS_ok hfn hb (args' := vs) e1 kr r1 r4 r2 r3).mono ?_
  rintro e w' ⟨σ', v', rfl, k1, k2⟩
  exact ⟨by rw [plain_eq 3 rfl k1], k2⟩
end Go.Proofs.Ytfalnphlgfoflaa
