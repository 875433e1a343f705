/-
  TableEncodes: proved for every input; no further condition.
-/
import Derived.Test.YtjgbkegkcbcjaaaGreatZH
import Derived.Test.YtjgbkegkcbcjaaaGreatZJ
namespace Go.Proofs.YtjgbkegkcbcjaaaGreat
section
namespace frTableEncodes
open Go.ChangeShapes Go.WideShapes Go.ChangeAt Go.RowKit
set_option linter.unusedVariables false
set_option maxRecDepth 100000 in
theorem yc2 (H : Type) (enc : TypeId × Value → H) (W : World) (base : Nat) (args : Array Value) (ds gs : List (DataW H)) (before : List MemPlace)
    (hval : ∀ (j : Nat) t v, Tryz.f8.params[j]? = some t → args[j]? = some v → Value.okWide Tryz.prog W .any base t v)
    (hW : DataW.Whole enc Tryz.prog Tryz.f8.params.toList Rows.tableEncodesSpec.vars false W args.toList ds gs before) :
    Calls Tryz.prog 8 args W fun e W' => ∃ v, e = .returned v ∧ Rows.tableEncodesSpec.post enc Tryz.prog Tryz.f8 false true false false W args v W' := by
  have hW' := hW;obtain ⟨p, q, hA0, hV, rfl, hfz, hnd⟩ := hW;have hA : DataW.TrodAll enc Tryz.prog W 0 (fun _ => true) true Tryz.f8.params.toList args.toList ds p := hA0;rw [Tryz.params8] at hA hval;obtain ⟨v0, vs0, d0, ds0, p0, q0, hargs, rfl, rfl, h0, r0⟩ := trodAll_cons hA;obtain ⟨v1, vs1, d1, ds1, p1, q1, rfl, rfl, rfl, h1, r1⟩ := trodAll_cons r0;obtain ⟨rfl, rfl, rfl⟩ := trodAll_nil r1;obtain rfl : args = #[v0, v1] := by cases args; simp_all
  obtain ⟨rfl, rfl⟩ := trodVars_none hV;have k0 := h0;have lt0 : ∀ x ∈ p0, x.block < W.heap.size := by obtain ⟨m, hm⟩ := k0; exact DataW.trod_lt m _ _ _ hm
  have k1 := h1;have lt1 : ∀ x ∈ p1, x.block < W.heap.size := by obtain ⟨m, hm⟩ := k1; exact DataW.trod_lt m _ _ _ hm
  obtain ⟨t0, c0, rt0⟩ := z2r (s := (.slice z1s)) (by kernel_rfl) (hval 0 28 v0 rfl rfl) h0;obtain ⟨x0, rfl, w0⟩ := zpy (fun _ hh => yh4 hh) c0;obtain ⟨t1, c1, rt1⟩ := z2r (s := (.slice (.int .u8))) (by kernel_rfl) (hval 1 68 v1 rfl rfl) h1;obtain ⟨x1, rfl, w1⟩ := zpy (fun _ hh => cf_b hh) c1;clear hA0
  refine (z8l (fn8 axS) rfl (vs := #[v0, v1]) (.cons rt0 (.cons rt1 .nil)) (by
    obtain ⟨k, hk⟩ := law7w x0 x1 w0 w1
    exact zmu axS ya0 k x0 x1 true hk)).mono fun e W' ⟨he, bel⟩ => ?_
  subst he;exact ⟨_, rfl, _, _, _, [], _, [], hW', trodAll_mk1 (shut_bool Tryz.underlying4 _), (trodAll_cons_mk (Below.trod z8n (by kernel_rfl) (of_decide_eq_true (by kernel_rfl)) k0 bel lt0) (trodAll_cons_mk (Below.trod z8n (by kernel_rfl) (of_decide_eq_true (by kernel_rfl)) k1 bel lt1) trodAll_mk0)), rfl, bel.frame _, fun h => by cases h⟩
set_option maxRecDepth 100000 in
theorem yjo (os : Os) (started : os.Started) (H : Type) (enc : TypeId × Value → H) :
    ReturnsInHanded {} Tryz.checked os 8 .any (Rows.tableEncodesSpec.pre6 enc Tryz.prog Tryz.f8 Rows.tableEncodesRow.domain false) (Rows.tableEncodesSpec.post enc Tryz.prog Tryz.f8 false true false false) := by
  refine returnsInHanded_of_change (C := Tryz.checked) own started (by kernel_rfl) Tryz.func8
    (ChangeSpec.witness6 (enc := enc) (C := Tryz.checked) false ⟨#[], #[.slice none 0 0, .slice none 0 0], []⟩ 8 (by kernel_rfl) (by kernel_rfl) (by kernel_rfl) (by kernel_rfl)) ?_
  intro W base args ds gs before hval hW hcnd _;exact yc2 H enc W base args ds gs before hval hW
theorem over : Rows.tableEncodesRow.holds Tryz.pinned (OpenSpec.ofChange Rows.tableEncodesSpec) :=
  OpenClaim.holds_of_wide 8 Tryz.f8 rfl rfl rfl rfl rfl rfl rfl ⟨rfl, rfl, rfl, rfl, rfl⟩ rfl rfl rfl rfl rfl (by kernel_rfl) Tryz.func8 (by kernel_rfl)
    (of_decide_eq_true (by kernel_rfl)) (by unfold Func.isWrapper; first | (rw [if_pos (by decide +kernel)]; kernel_rfl) | (rw [if_neg (by decide +kernel)]; exact ⟨rfl, rfl⟩))
    (fun os started H enc _ => yjo os started H enc)
theorem proved : Rows.TableEncodesSaid := over
end frTableEncodes
end
section
theorem tableEncodes_holds : Rows.TableEncodesSaid := frTableEncodes.proved
#print axioms tableEncodes_holds
end
end Go.Proofs.YtjgbkegkcbcjaaaGreat
