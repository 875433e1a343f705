/-
  FitMovesAsSpecified: proved for every input; no further condition.
-/
import Derived.Test.YteifcnjpjjaikaaGreatZH
import Derived.Test.YteifcnjpjjaikaaGreatZK
namespace Go.Proofs.YteifcnjpjjaikaaGreat
open _root_.And renaming intro->dr
open _root_.Bool renaming and_self->ef,not_false->gd,not_true->ge
open _root_.List renaming append_assoc->ew,append_nil->fo,cons_append->fk,drop_succ_cons->jh,drop_zero->fl,flatten_cons->f5,flatten_nil->ff,getElem?_cons_succ->jb,getElem?_cons_zero->fp,length_append->ep,length_cons->et,length_map->ed,length_nil->gb,nil_append->eu,replicate->el,set_cons_succ->jo,set_cons_zero->ju
open _root_.Nat renaming reduceAdd->d8,reduceEqDiff->d9,reduceLT->fm,reduceLeDiff->jk,reduceMul->fw,reduceSub->gp,zero_add->fy
open _root_.Option renaming bind_some->dw
open Go.Proofs.YteifcnjpjjaikaaGreat.T renaming ren->pg,renL->ne
open Go.Proofs.YteifcnjpjjaikaaGreat.TS renaming add_ne->l7,add_same->m6,set_ne->gr,set_same->im
namespace frFitMovesAsSpecified
open Go.ChangeShapes Go.WideShapes Go.ChangeAt Go.RowKit
set_option linter.unusedVariables false
set_option maxRecDepth 100000 in
theorem ylf (H : Type) (enc : TypeId × Value -> H) (W : World) (base : Nat) (args : Array Value) (ds gs : List (DataW H)) (before : List MemPlace)
    (hval : ∀ (j : Nat) t v, Tryz.f4.params[j]? = some t -> args[j]? = some v -> Value.okWide Tryz.prog W .any base t v)
    (hW : DataW.Whole enc Tryz.prog Tryz.f4.params.toList Rows.fitMovesAsSpecifiedSpec.vars false W args.toList ds gs before) :
    Calls Tryz.prog 4 args W fun e W' => ∃ v, e = .returned v /\ Rows.fitMovesAsSpecifiedSpec.post enc Tryz.prog Tryz.f4 false true false false W args v W' := by
  have hW' := hW;obtain ⟨p, q, hA0, hV, rfl, hfz, hnd⟩ := hW;have hA : DataW.TrodAll enc Tryz.prog W 0 (fun _ => true) true Tryz.f4.params.toList args.toList ds p := hA0;rw [Tryz.params4] at hA hval;obtain ⟨v0, vs0, d0, ds0, p0, q0, hargs, rfl, rfl, h0, r0⟩ := trodAll_cons hA;obtain ⟨v1, vs1, d1, ds1, p1, q1, rfl, rfl, rfl, h1, r1⟩ := trodAll_cons r0;obtain ⟨v2, vs2, d2, ds2, p2, q2, rfl, rfl, rfl, h2, r2⟩ := trodAll_cons r1;obtain ⟨v3, vs3, d3, ds3, p3, q3, rfl, rfl, rfl, h3, r3⟩ := trodAll_cons r2;obtain ⟨rfl, rfl, rfl⟩ := trodAll_nil r3;obtain rfl : args = #[v0, v1, v2, v3] := by cases args; simp_all
  obtain ⟨rfl, rfl⟩ := trodVars_none hV;have k0 := h0;have lt0 : ∀ x ∈ p0, x.block < W.heap.size := by obtain ⟨m, hm⟩ := k0; exact DataW.trod_lt m _ _ _ hm
  have k1 := h1;have lt1 : ∀ x ∈ p1, x.block < W.heap.size := by obtain ⟨m, hm⟩ := k1; exact DataW.trod_lt m _ _ _ hm
  have k2 := h2;have lt2 : ∀ x ∈ p2, x.block < W.heap.size := by obtain ⟨m, hm⟩ := k2; exact DataW.trod_lt m _ _ _ hm
  have k3 := h3;have lt3 : ∀ x ∈ p3, x.block < W.heap.size := by obtain ⟨m, hm⟩ := k3; exact DataW.trod_lt m _ _ _ hm
  obtain ⟨t0, c0, rt0⟩ := zt5 (s := yj2) (by kernel_rfl) (hval 0 26 v0 rfl rfl) h0;obtain ⟨x0, rfl, w0⟩ := ysk c0;obtain ⟨t1, c1, rt1⟩ := zt5 (s := zqk) (by kernel_rfl) (hval 1 30 v1 rfl rfl) h1;obtain ⟨x1, rfl, w1⟩ := z50 c1;obtain ⟨t2, c2, rt2⟩ := zt5 (s := zqk) (by kernel_rfl) (hval 2 30 v2 rfl rfl) h2;obtain ⟨x2, rfl, w2⟩ := z50 c2;obtain ⟨t3, c3, rt3⟩ := zt5 (s := (.slice z85)) (by kernel_rfl) (hval 3 48 v3 rfl rfl) h3;obtain ⟨x3, rfl, w3⟩ := zim (fun _ hh => yqf hh) c3;clear hA0
  refine (ygt (fn4 axS) rfl (vs := #[v0, v1, v2, v3]) (.cons rt0 (.cons rt1 (.cons rt2 (.cons rt3 .nil)))) (by
    obtain ⟨k, hk⟩ := law2w x0 x1 x2 x3 w0 w1 w2 w3
    exact zk2 axS yjd k x0 x1 x2 x3 true hk)).mono fun e W' ⟨he, bel⟩ => ?_
  subst he;exact ⟨_, rfl, _, _, _, [], _, [], hW', trodAll_mk1 (shut_bool Tryz.underlying4 _), (trodAll_cons_mk (Below.trod z12 (by kernel_rfl) (zAe (by kernel_rfl)) k0 bel lt0) (trodAll_cons_mk (Below.trod z12 (by kernel_rfl) (zAe (by kernel_rfl)) k1 bel lt1) (trodAll_cons_mk (Below.trod z12 (by kernel_rfl) (zAe (by kernel_rfl)) k2 bel lt2) (trodAll_cons_mk (Below.trod z12 (by kernel_rfl) (zAe (by kernel_rfl)) k3 bel lt3) trodAll_mk0)))), rfl, bel.frame _, fun h => by cases h⟩
set_option maxRecDepth 100000 in
theorem yr5 (os : Os) (started : os.Started) (H : Type) (enc : TypeId × Value -> H) :
    ReturnsInHanded {} Tryz.checked os 4 .any (Rows.fitMovesAsSpecifiedSpec.pre6 enc Tryz.prog Tryz.f4 Rows.fitMovesAsSpecifiedRow.domain false) (Rows.fitMovesAsSpecifiedSpec.post enc Tryz.prog Tryz.f4 false true false false) := by
  refine returnsInHanded_of_change (C := Tryz.checked) own started (by kernel_rfl) Tryz.func4
    (ChangeSpec.witness6 (enc := enc) (C := Tryz.checked) false ⟨#[], #[.agg #[.slice none 0 0, .slice none 0 0, .slice none 0 0], .agg #[.int .i64 0, .slice none 0 0, .slice none 0 0], .agg #[.int .i64 0, .slice none 0 0, .slice none 0 0], .slice none 0 0], []⟩ 8 (by kernel_rfl) (by kernel_rfl) (by kernel_rfl) (by kernel_rfl)) ?_
  intro W base args ds gs before hval hW hcnd _;exact ylf H enc W base args ds gs before hval hW
theorem over : Rows.fitMovesAsSpecifiedRow.holds Tryz.pinned (OpenSpec.ofChange Rows.fitMovesAsSpecifiedSpec) :=
  OpenClaim.holds_of_wide 4 Tryz.f4 rfl rfl rfl rfl rfl rfl rfl ⟨rfl, rfl, rfl, rfl, rfl⟩ rfl rfl rfl rfl rfl (by kernel_rfl) Tryz.func4 (by kernel_rfl)
    (zAe (by kernel_rfl)) (by unfold Func.isWrapper; first | (rw [zAc (by decide +kernel)]; kernel_rfl) | (rw [zAd (by decide +kernel)]; exact ⟨rfl, rfl⟩))
    (fun os started H enc _ => yr5 os started H enc)
theorem proved : Rows.FitMovesAsSpecifiedSaid := over
end frFitMovesAsSpecified
theorem fitMovesAsSpecified_holds : Rows.FitMovesAsSpecifiedSaid := frFitMovesAsSpecified.proved
#print axioms fitMovesAsSpecified_holds
end Go.Proofs.YteifcnjpjjaikaaGreat
