/-
  MergeChecksAsSpecified: proved for every input; no further condition.
-/
import Derived.Test.YtkfnjbfnkpameaaZI
import Derived.Test.YtkfnjbfnkpameaaZJ
namespace Go.Proofs.Ytkfnjbfnkpameaa
open _root_.And renaming intro->fc
open _root_.Bool renaming and_self->gb,not_false->ik,not_true->iu
open _root_.List renaming append_assoc->gi,append_nil->gr,cons_append->gp,drop_succ_cons->ku,drop_zero->gl,flatten_cons->ig,flatten_nil->iw,getElem?_cons_succ->lf,getElem?_cons_zero->gw,length_append->fw,length_cons->gg,length_map->fq,length_nil->jd,nil_append->ge,replicate->f7,set_cons_succ->ls,set_cons_zero->lc
open _root_.Nat renaming beq_refl->i8,reduceAdd->ft,reduceEqDiff->fp,reduceLT->iq,reduceLeDiff->jy,reduceMul->jf,reduceSub->iy,zero_add->i4
open _root_.Option renaming bind_some->fe
open Go.Proofs.Ytkfnjbfnkpameaa.T renaming ren->ql,renL->om
namespace frMergeChecksAsSpecified
open Go.ChangeShapes Go.WideShapes Go.ChangeAt Go.RowKit
set_option linter.unusedVariables false
set_option maxRecDepth 100000 in
theorem yhg (H : Type) (enc : TypeId × Value -> H) (W : World) (base : Nat) (args : Array Value) (ds gs : List (DataW H)) (before : List MemPlace)
    (hval : ∀ (j : Nat) t v, Try.f4.params[j]? = some t -> args[j]? = some v -> Value.okWide Try.prog W .any base t v)
    (hW : DataW.Whole enc Try.prog Try.f4.params.toList Rows.mergeChecksAsSpecifiedSpec.vars false W args.toList ds gs before) :
    Calls Try.prog 4 args W fun e W' => ∃ v, e = .returned v /\ Rows.mergeChecksAsSpecifiedSpec.post enc Try.prog Try.f4 false true false false W args v W' := by
  have hW' := hW;obtain ⟨p, q, hA0, hV, rfl, hfz, hnd⟩ := hW;have hA : DataW.TrodAll enc Try.prog W 0 (fun _ => true) true Try.f4.params.toList args.toList ds p := hA0;rw [Try.params4] at hA hval;obtain ⟨v0, vs0, d0, ds0, p0, q0, hargs, rfl, rfl, h0, r0⟩ := trodAll_cons hA;obtain ⟨v1, vs1, d1, ds1, p1, q1, rfl, rfl, rfl, h1, r1⟩ := trodAll_cons r0;obtain ⟨v2, vs2, d2, ds2, p2, q2, rfl, rfl, rfl, h2, r2⟩ := trodAll_cons r1;obtain ⟨v3, vs3, d3, ds3, p3, q3, rfl, rfl, rfl, h3, r3⟩ := trodAll_cons r2;obtain ⟨rfl, rfl, rfl⟩ := trodAll_nil r3;obtain rfl : args = #[v0, v1, v2, v3] := by cases args; simp_all
  obtain ⟨rfl, rfl⟩ := trodVars_none hV;have k0 := h0;have lt0 : ∀ x ∈ p0, x.block < W.heap.size := by obtain ⟨m, hm⟩ := k0; exact DataW.trod_lt m _ _ _ hm
  have k1 := h1;have lt1 : ∀ x ∈ p1, x.block < W.heap.size := by obtain ⟨m, hm⟩ := k1; exact DataW.trod_lt m _ _ _ hm
  have k2 := h2;have lt2 : ∀ x ∈ p2, x.block < W.heap.size := by obtain ⟨m, hm⟩ := k2; exact DataW.trod_lt m _ _ _ hm
  have k3 := h3;have lt3 : ∀ x ∈ p3, x.block < W.heap.size := by obtain ⟨m, hm⟩ := k3; exact DataW.trod_lt m _ _ _ hm
  obtain ⟨t0, c0, rt0⟩ := zsl (s := yfz) (by kernel_rfl) (hval 0 26 v0 rfl rfl) h0;obtain ⟨x0, rfl, w0⟩ := yom c0;obtain ⟨t1, c1, rt1⟩ := zsl (s := (.slice z04)) (by kernel_rfl) (hval 1 28 v1 rfl rfl) h1;obtain ⟨x1, rfl, w1⟩ := zkf (fun _ hh => ye0 hh) c1;obtain ⟨t2, c2, rt2⟩ := zsl (s := (.slice z04)) (by kernel_rfl) (hval 2 28 v2 rfl rfl) h2;obtain ⟨x2, rfl, w2⟩ := zkf (fun _ hh => ye0 hh) c2;obtain ⟨t3, c3, rt3⟩ := zsl (s := (.slice z51)) (by kernel_rfl) (hval 3 40 v3 rfl rfl) h3;obtain ⟨x3, rfl, w3⟩ := zkf (fun _ hh => ymo hh) c3;clear hA0
  refine (ydj (fn4 axS) rfl (vs := #[v0, v1, v2, v3]) (.cons rt0 (.cons rt1 (.cons rt2 (.cons rt3 .nil)))) (by
    obtain ⟨k, hk⟩ := law2w x0 x1 x2 x3 w0 w1 w2 w3
    exact zja axS yfb k x0 x1 x2 x3 true hk)).mono fun e W' ⟨he, bel⟩ => ?_
  subst he;exact ⟨_, rfl, _, _, _, [], _, [], hW', trodAll_mk1 (shut_bool Try.underlying4 _), (trodAll_cons_mk (Below.trod zzv (by kernel_rfl) (zAe (by kernel_rfl)) k0 bel lt0) (trodAll_cons_mk (Below.trod zzv (by kernel_rfl) (zAe (by kernel_rfl)) k1 bel lt1) (trodAll_cons_mk (Below.trod zzv (by kernel_rfl) (zAe (by kernel_rfl)) k2 bel lt2) (trodAll_cons_mk (Below.trod zzv (by kernel_rfl) (zAe (by kernel_rfl)) k3 bel lt3) trodAll_mk0)))), rfl, bel.frame _, fun h => by cases h⟩
set_option maxRecDepth 100000 in
theorem yn7 (os : Os) (started : os.Started) (H : Type) (enc : TypeId × Value -> H) :
    ReturnsInHanded {} Try.checked os 4 .any (Rows.mergeChecksAsSpecifiedSpec.pre6 enc Try.prog Try.f4 Rows.mergeChecksAsSpecifiedRow.domain false) (Rows.mergeChecksAsSpecifiedSpec.post enc Try.prog Try.f4 false true false false) := by
  refine returnsInHanded_of_change (C := Try.checked) own started (by kernel_rfl) Try.func4
    (ChangeSpec.witness6 (enc := enc) (C := Try.checked) false ⟨#[], #[.agg #[.slice none 0 0, .slice none 0 0, .slice none 0 0], .slice none 0 0, .slice none 0 0, .slice none 0 0], []⟩ 8 (by kernel_rfl) (by kernel_rfl) (by kernel_rfl) (by kernel_rfl)) ?_
  intro W base args ds gs before hval hW hcnd _;exact yhg H enc W base args ds gs before hval hW
theorem over : Rows.mergeChecksAsSpecifiedRow.holds Try.pinned (OpenSpec.ofChange Rows.mergeChecksAsSpecifiedSpec) :=
  OpenClaim.holds_of_wide 4 Try.f4 rfl rfl rfl rfl rfl rfl rfl ⟨rfl, rfl, rfl, rfl, rfl⟩ rfl rfl rfl rfl rfl (by kernel_rfl) Try.func4 (by kernel_rfl)
    (zAe (by kernel_rfl)) (by unfold Func.isWrapper; first | (rw [zAc (by decide +kernel)]; kernel_rfl) | (rw [zAd (by decide +kernel)]; exact ⟨rfl, rfl⟩))
    (fun os started H enc _ => yn7 os started H enc)
theorem proved : Rows.MergeChecksAsSpecifiedSaid := over
end frMergeChecksAsSpecified
theorem mergeChecksAsSpecified_holds : Rows.MergeChecksAsSpecifiedSaid := frMergeChecksAsSpecified.proved
#print axioms mergeChecksAsSpecified_holds
end Go.Proofs.Ytkfnjbfnkpameaa
