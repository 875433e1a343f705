/-
  FitKeepsPackets: proved for every input; no further condition.
-/
import Derived.Test.YteifcnjpjjaikaaGreatZH
import Derived.Test.YteifcnjpjjaikaaGreatZK
namespace Go.Proofs.YteifcnjpjjaikaaGreat
open _root_.And renaming intro->dx
open _root_.Bool renaming and_self->el,not_false->gn,not_true->gp
open Go.DataW renaming trod_lt->pp
open _root_.List renaming append_assoc->ey,append_nil->fp,cons_append->fq,drop_succ_cons->jp,drop_zero->fl,flatten_cons->gh,flatten_nil->fg,getElem?_cons_succ->jo,getElem?_cons_zero->fx,length_append->eu,length_cons->ez,length_map->ek,length_nil->gd,nil_append->fb,replicate->ew,set_cons_succ->kb,set_cons_zero->ku
open _root_.Nat renaming reduceAdd->ed,reduceEqDiff->ee,reduceLT->fm,reduceLeDiff->jr,reduceMul->fy,reduceSub->gw,zero_add->f6
open _root_.Option renaming bind_some->dz
open Go.Proofs.YteifcnjpjjaikaaGreat.T renaming ren->py,renL->nu
open Go.Proofs.YteifcnjpjjaikaaGreat.TS renaming add_ne->o9,add_same->qj,set_ne->gy,set_same->iu
open Go renaming trodAll_cons_mk->ow
namespace frFitKeepsPackets
open Go.ChangeShapes Go.WideShapes Go.ChangeAt Go.RowKit
set_option linter.unusedVariables false
set_option maxRecDepth 100000 in
theorem yl1 (H : Type) (enc : TypeId × Value -> H) (W : World) (base : Nat) (args : Array Value) (ds gs : List (DataW H)) (before : List MemPlace)
    (hval : ∀ (j : Nat) t v, Tryz.f5.params[j]? = some t -> args[j]? = some v -> Value.okWide Tryz.prog W .any base t v)
    (hW : DataW.Whole enc Tryz.prog Tryz.f5.params.toList Rows.fitKeepsPacketsSpec.vars false W args.toList ds gs before) :
    Calls Tryz.prog 5 args W fun e W' => ∃ v, e = .returned v /\ Rows.fitKeepsPacketsSpec.post enc Tryz.prog Tryz.f5 false true false false W args v W' := by
  have hW' := hW;obtain ⟨p, q, hA0, hV, rfl, hfz, hnd⟩ := hW;have hA : DataW.TrodAll enc Tryz.prog W 0 (fun _ => true) true Tryz.f5.params.toList args.toList ds p := hA0;rw [Tryz.params5] at hA hval;obtain ⟨v0, vs0, d0, ds0, p0, q0, hargs, rfl, rfl, h0, r0⟩ := trodAll_cons hA;obtain ⟨v1, vs1, d1, ds1, p1, q1, rfl, rfl, rfl, h1, r1⟩ := trodAll_cons r0;obtain ⟨v2, vs2, d2, ds2, p2, q2, rfl, rfl, rfl, h2, r2⟩ := trodAll_cons r1;obtain ⟨v3, vs3, d3, ds3, p3, q3, rfl, rfl, rfl, h3, r3⟩ := trodAll_cons r2;obtain ⟨v4, vs4, d4, ds4, p4, q4, rfl, rfl, rfl, h4, r4⟩ := trodAll_cons r3;obtain ⟨rfl, rfl, rfl⟩ := trodAll_nil r4;obtain rfl : args = #[v0, v1, v2, v3, v4] := by cases args; simp_all
  obtain ⟨rfl, rfl⟩ := trodVars_none hV;have k0 := h0;have lt0 : ∀ x ∈ p0, x.block < W.heap.size := by obtain ⟨m, hm⟩ := k0; exact pp m _ _ _ hm
  have k1 := h1;have lt1 : ∀ x ∈ p1, x.block < W.heap.size := by obtain ⟨m, hm⟩ := k1; exact pp m _ _ _ hm
  have k2 := h2;have lt2 : ∀ x ∈ p2, x.block < W.heap.size := by obtain ⟨m, hm⟩ := k2; exact pp m _ _ _ hm
  have k3 := h3;have lt3 : ∀ x ∈ p3, x.block < W.heap.size := by obtain ⟨m, hm⟩ := k3; exact pp m _ _ _ hm
  have k4 := h4;have lt4 : ∀ x ∈ p4, x.block < W.heap.size := by obtain ⟨m, hm⟩ := k4; exact pp m _ _ _ hm
  obtain ⟨t0, c0, rt0⟩ := zq2 (s := ykn) (by kernel_rfl) (hval 0 26 v0 rfl rfl) h0;obtain ⟨x0, rfl, w0⟩ := ys7 c0;obtain ⟨t1, c1, rt1⟩ := zq2 (s := ztz) (by kernel_rfl) (hval 1 30 v1 rfl rfl) h1;obtain ⟨x1, rfl, w1⟩ := yjk c1;obtain ⟨t2, c2, rt2⟩ := zq2 (s := z9e) (by kernel_rfl) (hval 2 54 v2 rfl rfl) h2;obtain ⟨x2, rfl, w2⟩ := yq2 c2;obtain ⟨t3, c3, rt3⟩ := zq2 (s := (.arr .i64 10)) (by kernel_rfl) (hval 3 60 v3 rfl rfl) h3;obtain ⟨x3, rfl, w3⟩ := yjj c3;obtain ⟨t4, c4, rt4⟩ := zq2 (s := (.int .i64)) (by kernel_rfl) (hval 4 3 v4 rfl rfl) h4;obtain ⟨x4, rfl, w4⟩ := cf_i c4;clear hA0
  refine (yha (fn5 axS) rfl (vs := #[v0, v1, v2, v3, v4]) (.cons rt0 (.cons rt1 (.cons rt2 (.cons rt3 (.cons rt4 .nil))))) (by
    obtain ⟨k, hk⟩ := law3w x0 x1 x2 x3 x4 w0 w1 w2 w3 w4
    exact zne axS yjv k x0 x1 x2 x3 x4 true hk)).mono fun e W' ⟨he, bel⟩ => ?_
  subst he;exact ⟨_, rfl, _, _, _, [], _, [], hW', trodAll_mk1 (shut_bool Tryz.underlying4 _), (ow (Below.trod zwa (by kernel_rfl) (zAe (by kernel_rfl)) k0 bel lt0) (ow (Below.trod zwa (by kernel_rfl) (zAe (by kernel_rfl)) k1 bel lt1) (ow (Below.trod zwa (by kernel_rfl) (zAe (by kernel_rfl)) k2 bel lt2) (ow (Below.trod zwa (by kernel_rfl) (zAe (by kernel_rfl)) k3 bel lt3) (ow (Below.trod zwa (by kernel_rfl) (zAe (by kernel_rfl)) k4 bel lt4) trodAll_mk0))))), rfl, bel.frame _, fun h => by cases h⟩
set_option maxRecDepth 100000 in
theorem ysq (os : Os) (started : os.Started) (H : Type) (enc : TypeId × Value -> H) :
    ReturnsInHanded {} Tryz.checked os 5 .any (Rows.fitKeepsPacketsSpec.pre6 enc Tryz.prog Tryz.f5 Rows.fitKeepsPacketsRow.domain false) (Rows.fitKeepsPacketsSpec.post enc Tryz.prog Tryz.f5 false true false false) := by
  refine returnsInHanded_of_change (C := Tryz.checked) own started (by kernel_rfl) Tryz.func5
    (ChangeSpec.witness6 (enc := enc) (C := Tryz.checked) false ⟨#[], #[.agg #[.slice none 0 0, .slice none 0 0, .slice none 0 0], .agg #[.int .i64 0, .slice none 0 0, .slice none 0 0], .agg #[.int .i64 0, .int .i64 0, .int .i64 0, .int .i64 0, .int .i64 0, .int .i64 0], .agg #[.int .i64 0, .int .i64 0, .int .i64 0, .int .i64 0, .int .i64 0, .int .i64 0, .int .i64 0, .int .i64 0, .int .i64 0, .int .i64 0], .int .i64 0], []⟩ 8 (by kernel_rfl) (by kernel_rfl) (by kernel_rfl) (by kernel_rfl)) ?_
  intro W base args ds gs before hval hW hcnd _;exact yl1 H enc W base args ds gs before hval hW
theorem over : Rows.fitKeepsPacketsRow.holds Tryz.pinned (OpenSpec.ofChange Rows.fitKeepsPacketsSpec) :=
  OpenClaim.holds_of_wide 5 Tryz.f5 rfl rfl rfl rfl rfl rfl rfl ⟨rfl, rfl, rfl, rfl, rfl⟩ rfl rfl rfl rfl rfl (by kernel_rfl) Tryz.func5 (by kernel_rfl)
    (zAe (by kernel_rfl)) (by unfold Func.isWrapper; first | (rw [zAc (by decide +kernel)]; kernel_rfl) | (rw [zAd (by decide +kernel)]; exact ⟨rfl, rfl⟩))
    (fun os started H enc _ => ysq os started H enc)
theorem proved : Rows.FitKeepsPacketsSaid := over
end frFitKeepsPackets
theorem fitKeepsPackets_holds : Rows.FitKeepsPacketsSaid := frFitKeepsPackets.proved
#print axioms fitKeepsPackets_holds
end Go.Proofs.YteifcnjpjjaikaaGreat
