/-
  MergeIsStuck: proved for every input; no further condition.
-/
import Derived.Test.YtkfnjbfnkpameaaZI
import Derived.Test.YtkfnjbfnkpameaaZJ
namespace Go.Proofs.Ytkfnjbfnkpameaa
open _root_.And renaming intro->fh
open _root_.Bool renaming and_self->gj,not_false->iv,not_true->i5
open _root_.List renaming append_assoc->gr,append_nil->ic,cons_append->gz,drop_succ_cons->lc,drop_zero->gt,flatten_cons->ir,flatten_nil->i8,getElem?_cons_succ->lp,getElem?_cons_zero->ij,length_append->f7,length_cons->gp,length_map->fw,length_nil->jk,nil_append->gm,replicate->gh,set_cons_succ->mc,set_cons_zero->lm
open _root_.Nat renaming beq_refl->jf,reduceAdd->gb,reduceEqDiff->f6,reduceLT->iz,reduceLeDiff->ki,reduceMul->jm,reduceSub->i9,zero_add->jb
open _root_.Option renaming bind_some->fj
open Go.Proofs.Ytkfnjbfnkpameaa.T renaming ren->qt,renL->oy
namespace frMergeIsStuck
open Go.ChangeShapes Go.WideShapes Go.ChangeAt Go.RowKit
set_option linter.unusedVariables false
set_option maxRecDepth 100000 in
theorem yh5 (H : Type) (enc : TypeId × Value -> H) (W : World) (base : Nat) (args : Array Value) (ds gs : List (DataW H)) (before : List MemPlace)
    (hval : ∀ (j : Nat) t v, Try.f5.params[j]? = some t -> args[j]? = some v -> Value.okWide Try.prog W .any base t v)
    (hW : DataW.Whole enc Try.prog Try.f5.params.toList Rows.mergeIsStuckSpec.vars false W args.toList ds gs before) :
    Calls Try.prog 5 args W fun e W' => ∃ v, e = .returned v /\ Rows.mergeIsStuckSpec.post enc Try.prog Try.f5 false true false false W args v W' := by
  have hW' := hW;obtain ⟨p, q, hA0, hV, rfl, hfz, hnd⟩ := hW;have hA : DataW.TrodAll enc Try.prog W 0 (fun _ => true) true Try.f5.params.toList args.toList ds p := hA0;rw [Try.params5] at hA hval;obtain ⟨v0, vs0, d0, ds0, p0, q0, hargs, rfl, rfl, h0, r0⟩ := trodAll_cons hA;obtain ⟨v1, vs1, d1, ds1, p1, q1, rfl, rfl, rfl, h1, r1⟩ := trodAll_cons r0;obtain ⟨rfl, rfl, rfl⟩ := trodAll_nil r1;obtain rfl : args = #[v0, v1] := by cases args; simp_all
  obtain ⟨rfl, rfl⟩ := trodVars_none hV;have k0 := h0;have lt0 : ∀ x ∈ p0, x.block < W.heap.size := by obtain ⟨m, hm⟩ := k0; exact DataW.trod_lt m _ _ _ hm
  have k1 := h1;have lt1 : ∀ x ∈ p1, x.block < W.heap.size := by obtain ⟨m, hm⟩ := k1; exact DataW.trod_lt m _ _ _ hm
  obtain ⟨t0, c0, rt0⟩ := z7c (s := ygo) (by kernel_rfl) (hval 0 26 v0 rfl rfl) h0;obtain ⟨x0, rfl, w0⟩ := ypf c0;obtain ⟨t1, c1, rt1⟩ := z7c (s := (.slice z6h)) (by kernel_rfl) (hval 1 28 v1 rfl rfl) h1;obtain ⟨x1, rfl, w1⟩ := zoh (fun _ hh => ynd hh) c1;clear hA0
  refine (yd4 (fn5 axS) rfl (vs := #[v0, v1]) (.cons rt0 (.cons rt1 .nil)) (by
    obtain ⟨k, hk⟩ := law3w x0 x1 w0 w1
    exact zpt axS yfz k x0 x1 true hk)).mono fun e W' ⟨he, bel⟩ => ?_
  subst he;exact ⟨_, rfl, _, _, _, [], _, [], hW', trodAll_mk1 (shut_bool Try.underlying4 _), (trodAll_cons_mk (Below.trod yd6 (by kernel_rfl) (of_decide_eq_true (by kernel_rfl)) k0 bel lt0) (trodAll_cons_mk (Below.trod yd6 (by kernel_rfl) (of_decide_eq_true (by kernel_rfl)) k1 bel lt1) trodAll_mk0)), rfl, bel.frame _, fun h => by cases h⟩
set_option maxRecDepth 100000 in
theorem yoy (os : Os) (started : os.Started) (H : Type) (enc : TypeId × Value -> H) :
    ReturnsInHanded {} Try.checked os 5 .any (Rows.mergeIsStuckSpec.pre6 enc Try.prog Try.f5 Rows.mergeIsStuckRow.domain false) (Rows.mergeIsStuckSpec.post enc Try.prog Try.f5 false true false false) := by
  refine returnsInHanded_of_change (C := Try.checked) own started (by kernel_rfl) Try.func5
    (ChangeSpec.witness6 (enc := enc) (C := Try.checked) false ⟨#[], #[.agg #[.slice none 0 0, .slice none 0 0, .slice none 0 0], .slice none 0 0], []⟩ 8 (by kernel_rfl) (by kernel_rfl) (by kernel_rfl) (by kernel_rfl)) ?_
  intro W base args ds gs before hval hW hcnd _;exact yh5 H enc W base args ds gs before hval hW
theorem over : Rows.mergeIsStuckRow.holds Try.pinned (OpenSpec.ofChange Rows.mergeIsStuckSpec) :=
  OpenClaim.holds_of_wide 5 Try.f5 rfl rfl rfl rfl rfl rfl rfl ⟨rfl, rfl, rfl, rfl, rfl⟩ rfl rfl rfl rfl rfl (by kernel_rfl) Try.func5 (by kernel_rfl)
    (of_decide_eq_true (by kernel_rfl)) (by unfold Func.isWrapper; first | (rw [zAc (by decide +kernel)]; kernel_rfl) | (rw [zAd (by decide +kernel)]; exact ⟨rfl, rfl⟩))
    (fun os started H enc _ => yoy os started H enc)
theorem proved : Rows.MergeIsStuckSaid := over
end frMergeIsStuck
theorem mergeIsStuck_holds : Rows.MergeIsStuckSaid := frMergeIsStuck.proved
#print axioms mergeIsStuck_holds
end Go.Proofs.Ytkfnjbfnkpameaa
