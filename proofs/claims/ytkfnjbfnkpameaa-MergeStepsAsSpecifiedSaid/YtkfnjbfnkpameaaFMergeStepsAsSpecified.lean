/-
  MergeStepsAsSpecified: proved for every input; no further condition.
-/
import Derived.Test.YtkfnjbfnkpameaaZI
import Derived.Test.YtkfnjbfnkpameaaZJ
namespace Go.Proofs.Ytkfnjbfnkpameaa
open _root_.And renaming intro->fd
open _root_.Bool renaming and_self->gc,not_false->il,not_true->iv
open _root_.List renaming append_assoc->gj,append_nil->gt,cons_append->gq,drop_succ_cons->kv,drop_zero->gp,flatten_cons->ii,flatten_nil->iy,getElem?_cons_succ->lh,getElem?_cons_zero->gz,length_append->fx,length_cons->gh,length_map->fq,length_nil->je,nil_append->gg,replicate->gb,set_cons_succ->lw,set_cons_zero->ld
open _root_.Nat renaming beq_refl->ja,reduceAdd->fw,reduceEqDiff->ft,reduceLT->iq,reduceLeDiff->jz,reduceMul->jg,reduceSub->iz,zero_add->i5
open _root_.Option renaming bind_some->ff
open Go.Proofs.Ytkfnjbfnkpameaa.T renaming ren->qo,renL->oq
namespace frMergeStepsAsSpecified
open Go.ChangeShapes Go.WideShapes Go.ChangeAt Go.RowKit
set_option linter.unusedVariables false
set_option maxRecDepth 100000 in
theorem yha (H : Type) (enc : TypeId × Value -> H) (W : World) (base : Nat) (args : Array Value) (ds gs : List (DataW H)) (before : List MemPlace)
    (hval : ∀ (j : Nat) t v, Try.f3.params[j]? = some t -> args[j]? = some v -> Value.okWide Try.prog W .any base t v)
    (hW : DataW.Whole enc Try.prog Try.f3.params.toList Rows.mergeStepsAsSpecifiedSpec.vars false W args.toList ds gs before) :
    Calls Try.prog 3 args W fun e W' => ∃ v, e = .returned v /\ Rows.mergeStepsAsSpecifiedSpec.post enc Try.prog Try.f3 false true false false W args v W' := by
  have hW' := hW;obtain ⟨p, q, hA0, hV, rfl, hfz, hnd⟩ := hW;have hA : DataW.TrodAll enc Try.prog W 0 (fun _ => true) true Try.f3.params.toList args.toList ds p := hA0;rw [Try.params3] at hA hval;obtain ⟨v0, vs0, d0, ds0, p0, q0, hargs, rfl, rfl, h0, r0⟩ := trodAll_cons hA;obtain ⟨v1, vs1, d1, ds1, p1, q1, rfl, rfl, rfl, h1, r1⟩ := trodAll_cons r0;obtain ⟨v2, vs2, d2, ds2, p2, q2, rfl, rfl, rfl, h2, r2⟩ := trodAll_cons r1;obtain ⟨rfl, rfl, rfl⟩ := trodAll_nil r2;obtain rfl : args = #[v0, v1, v2] := by cases args; simp_all
  obtain ⟨rfl, rfl⟩ := trodVars_none hV;have k0 := h0;have lt0 : ∀ x ∈ p0, x.block < W.heap.size := by obtain ⟨m, hm⟩ := k0; exact DataW.trod_lt m _ _ _ hm
  have k1 := h1;have lt1 : ∀ x ∈ p1, x.block < W.heap.size := by obtain ⟨m, hm⟩ := k1; exact DataW.trod_lt m _ _ _ hm
  have k2 := h2;have lt2 : ∀ x ∈ p2, x.block < W.heap.size := by obtain ⟨m, hm⟩ := k2; exact DataW.trod_lt m _ _ _ hm
  obtain ⟨t0, c0, rt0⟩ := zzk (s := yfw) (by kernel_rfl) (hval 0 26 v0 rfl rfl) h0;obtain ⟨x0, rfl, w0⟩ := yoi c0;obtain ⟨t1, c1, rt1⟩ := zzk (s := (.slice z5z)) (by kernel_rfl) (hval 1 28 v1 rfl rfl) h1;obtain ⟨x1, rfl, w1⟩ := zn9 (fun _ hh => ymg hh) c1;obtain ⟨t2, c2, rt2⟩ := zzk (s := z50) (by kernel_rfl) (hval 2 30 v2 rfl rfl) h2;obtain ⟨x2, rfl, w2⟩ := ymi c2;clear hA0
  refine (ydf (fn3 axS) rfl (vs := #[v0, v1, v2]) (.cons rt0 (.cons rt1 (.cons rt2 .nil))) (by
    obtain ⟨k, hk⟩ := law1w x0 x1 x2 w0 w1 w2
    exact zjq axS ye8 k x0 x1 x2 true hk)).mono fun e W' ⟨he, bel⟩ => ?_
  subst he;exact ⟨_, rfl, _, _, _, [], _, [], hW', trodAll_mk1 (shut_bool Try.underlying4 _), (trodAll_cons_mk (Below.trod z4t (by kernel_rfl) (zAe (by kernel_rfl)) k0 bel lt0) (trodAll_cons_mk (Below.trod z4t (by kernel_rfl) (zAe (by kernel_rfl)) k1 bel lt1) (trodAll_cons_mk (Below.trod z4t (by kernel_rfl) (zAe (by kernel_rfl)) k2 bel lt2) trodAll_mk0))), rfl, bel.frame _, fun h => by cases h⟩
set_option maxRecDepth 100000 in
theorem yn3 (os : Os) (started : os.Started) (H : Type) (enc : TypeId × Value -> H) :
    ReturnsInHanded {} Try.checked os 3 .any (Rows.mergeStepsAsSpecifiedSpec.pre6 enc Try.prog Try.f3 Rows.mergeStepsAsSpecifiedRow.domain false) (Rows.mergeStepsAsSpecifiedSpec.post enc Try.prog Try.f3 false true false false) := by
  refine returnsInHanded_of_change (C := Try.checked) own started (by kernel_rfl) Try.func3
    (ChangeSpec.witness6 (enc := enc) (C := Try.checked) false ⟨#[], #[.agg #[.slice none 0 0, .slice none 0 0, .slice none 0 0], .slice none 0 0, .agg #[.int .i64 0, .int .i64 0, .int .i64 0]], []⟩ 8 (by kernel_rfl) (by kernel_rfl) (by kernel_rfl) (by kernel_rfl)) ?_
  intro W base args ds gs before hval hW hcnd _;exact yha H enc W base args ds gs before hval hW
theorem over : Rows.mergeStepsAsSpecifiedRow.holds Try.pinned (OpenSpec.ofChange Rows.mergeStepsAsSpecifiedSpec) :=
  OpenClaim.holds_of_wide 3 Try.f3 rfl rfl rfl rfl rfl rfl rfl ⟨rfl, rfl, rfl, rfl, rfl⟩ rfl rfl rfl rfl rfl (by kernel_rfl) Try.func3 (by kernel_rfl)
    (zAe (by kernel_rfl)) (by unfold Func.isWrapper; first | (rw [zAc (by decide +kernel)]; kernel_rfl) | (rw [zAd (by decide +kernel)]; exact ⟨rfl, rfl⟩))
    (fun os started H enc _ => yn3 os started H enc)
theorem proved : Rows.MergeStepsAsSpecifiedSaid := over
end frMergeStepsAsSpecified
theorem mergeStepsAsSpecified_holds : Rows.MergeStepsAsSpecifiedSaid := frMergeStepsAsSpecified.proved
#print axioms mergeStepsAsSpecified_holds
end Go.Proofs.Ytkfnjbfnkpameaa
