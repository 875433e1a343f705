/-
  FitCountsAsSpecified: proved for every input; no further condition.
-/
import Derived.Test.YteifcnjpjjaikaaGreatZH
import Derived.Test.YteifcnjpjjaikaaGreatZJ
namespace Go.Proofs.YteifcnjpjjaikaaGreat
open _root_.Bool renaming and_self->et,not_false->gc,not_true->f6
open _root_.List renaming append_assoc->fe,append_nil->fj,cons_append->fd,drop_succ_cons->ir,drop_zero->fp,flatten_cons->fm,flatten_nil->io,length_append->er,length_cons->eh,length_map->ec,length_nil->gh,nil_append->ff,replicate->ew
open _root_.Nat renaming beq_refl->gw,reduceAdd->ek,reduceEqDiff->ej,reduceLT->iv,reduceLeDiff->ny,reduceMul->i6,reduceSub->gt,zero_add->fz
open _root_.Option renaming bind_some->dq
open Go.Proofs.YteifcnjpjjaikaaGreat.TS renaming add_ne->ld,add_same->l8,set_ne->gl,set_same->g0
namespace frFitCountsAsSpecified
open Go.ChangeShapes Go.WideShapes Go.ChangeAt Go.RowKit
set_option linter.unusedVariables false
set_option maxRecDepth 100000 in
theorem yjl (H : Type) (enc : TypeId × Value -> H) (W : World) (base : Nat) (args : Array Value) (ds gs : List (DataW H)) (before : List MemPlace)
    (hval : ∀ (j : Nat) t v, Tryz.f3.params[j]? = some t -> args[j]? = some v -> Value.okWide Tryz.prog W .any base t v)
    (hW : DataW.Whole enc Tryz.prog Tryz.f3.params.toList Rows.fitCountsAsSpecifiedSpec.vars false W args.toList ds gs before) :
    Calls Tryz.prog 3 args W fun e W' => ∃ v, e = .returned v /\ Rows.fitCountsAsSpecifiedSpec.post enc Tryz.prog Tryz.f3 false true false false W args v W' := by
  have hW' := hW;obtain ⟨p, q, hA0, hV, rfl, hfz, hnd⟩ := hW;have hA : DataW.TrodAll enc Tryz.prog W 0 (fun _ => true) true Tryz.f3.params.toList args.toList ds p := hA0;rw [Tryz.params3] at hA hval;obtain ⟨v0, vs0, d0, ds0, p0, q0, hargs, rfl, rfl, h0, r0⟩ := trodAll_cons hA;obtain ⟨v1, vs1, d1, ds1, p1, q1, rfl, rfl, rfl, h1, r1⟩ := trodAll_cons r0;obtain ⟨v2, vs2, d2, ds2, p2, q2, rfl, rfl, rfl, h2, r2⟩ := trodAll_cons r1;obtain ⟨rfl, rfl, rfl⟩ := trodAll_nil r2;obtain rfl : args = #[v0, v1, v2] := by cases args; simp_all
  obtain ⟨rfl, rfl⟩ := trodVars_none hV;have k0 := h0;have lt0 : ∀ x ∈ p0, x.block < W.heap.size := by obtain ⟨m, hm⟩ := k0; exact DataW.trod_lt m _ _ _ hm
  have k1 := h1;have lt1 : ∀ x ∈ p1, x.block < W.heap.size := by obtain ⟨m, hm⟩ := k1; exact DataW.trod_lt m _ _ _ hm
  have k2 := h2;have lt2 : ∀ x ∈ p2, x.block < W.heap.size := by obtain ⟨m, hm⟩ := k2; exact DataW.trod_lt m _ _ _ hm
  obtain ⟨t0, c0, rt0⟩ := z0e (s := yh9) (by kernel_rfl) (hval 0 26 v0 rfl rfl) h0;obtain ⟨x0, rfl, w0⟩ := yqa c0;obtain ⟨t1, c1, rt1⟩ := z0e (s := zpy) (by kernel_rfl) (hval 1 30 v1 rfl rfl) h1;obtain ⟨x1, rfl, w1⟩ := z4e c1;obtain ⟨t2, c2, rt2⟩ := z0e (s := zpy) (by kernel_rfl) (hval 2 30 v2 rfl rfl) h2;obtain ⟨x2, rfl, w2⟩ := z4e c2;clear hA0
  refine (ye5 (fn3 axS) rfl (vs := #[v0, v1, v2]) (.cons rt0 (.cons rt1 (.cons rt2 .nil))) (by
    obtain ⟨k, hk⟩ := law1w x0 x1 x2 w0 w1 w2
    exact zj3 axS yhk k x0 x1 x2 true hk)).mono fun e W' ⟨he, bel⟩ => ?_
  subst he;exact ⟨_, rfl, _, _, _, [], _, [], hW', trodAll_mk1 (shut_bool Tryz.underlying4 _), (trodAll_cons_mk (Below.trod z57 (by kernel_rfl) (of_decide_eq_true (by kernel_rfl)) k0 bel lt0) (trodAll_cons_mk (Below.trod z57 (by kernel_rfl) (of_decide_eq_true (by kernel_rfl)) k1 bel lt1) (trodAll_cons_mk (Below.trod z57 (by kernel_rfl) (of_decide_eq_true (by kernel_rfl)) k2 bel lt2) trodAll_mk0))), rfl, bel.frame _, fun h => by cases h⟩
set_option maxRecDepth 100000 in
theorem ypy (os : Os) (started : os.Started) (H : Type) (enc : TypeId × Value -> H) :
    ReturnsInHanded {} Tryz.checked os 3 .any (Rows.fitCountsAsSpecifiedSpec.pre6 enc Tryz.prog Tryz.f3 Rows.fitCountsAsSpecifiedRow.domain false) (Rows.fitCountsAsSpecifiedSpec.post enc Tryz.prog Tryz.f3 false true false false) := by
  refine returnsInHanded_of_change (C := Tryz.checked) own started (by kernel_rfl) Tryz.func3
    (ChangeSpec.witness6 (enc := enc) (C := Tryz.checked) false ⟨#[], #[.agg #[.slice none 0 0, .slice none 0 0, .slice none 0 0], .agg #[.int .i64 0, .slice none 0 0, .slice none 0 0], .agg #[.int .i64 0, .slice none 0 0, .slice none 0 0]], []⟩ 8 (by kernel_rfl) (by kernel_rfl) (by kernel_rfl) (by kernel_rfl)) ?_
  intro W base args ds gs before hval hW hcnd _;exact yjl H enc W base args ds gs before hval hW
theorem over : Rows.fitCountsAsSpecifiedRow.holds Tryz.pinned (OpenSpec.ofChange Rows.fitCountsAsSpecifiedSpec) :=
  OpenClaim.holds_of_wide 3 Tryz.f3 rfl rfl rfl rfl rfl rfl rfl ⟨rfl, rfl, rfl, rfl, rfl⟩ rfl rfl rfl rfl rfl (by kernel_rfl) Tryz.func3 (by kernel_rfl)
    (of_decide_eq_true (by kernel_rfl)) (by unfold Func.isWrapper; first | (rw [zAc (by decide +kernel)]; kernel_rfl) | (rw [zAd (by decide +kernel)]; exact ⟨rfl, rfl⟩))
    (fun os started H enc _ => ypy os started H enc)
theorem proved : Rows.FitCountsAsSpecifiedSaid := over
end frFitCountsAsSpecified
theorem fitCountsAsSpecified_holds : Rows.FitCountsAsSpecifiedSaid := frFitCountsAsSpecified.proved
#print axioms fitCountsAsSpecified_holds
end Go.Proofs.YteifcnjpjjaikaaGreat
