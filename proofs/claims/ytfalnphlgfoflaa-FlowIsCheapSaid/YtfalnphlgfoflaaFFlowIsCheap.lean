/-
  FlowIsCheap: proved for every input; no further condition.
-/
import Derived.Test.YtfalnphlgfoflaaShp
import Derived.Test.YtfalnphlgfoflaaRy
namespace Go.Proofs.Ytfalnphlgfoflaa.frFlowIsCheap
open Go.ChangeShapes Go.WideShapes Go.ChangeAt Go.RowKit
set_option linter.unusedVariables false
set_option maxRecDepth 100000 in
theorem contract (H : Type) (enc : TypeId × Value → H) (W : World) (base : Nat) (args : Array Value) (ds gs : List (DataW H)) (before : List MemPlace)
    (hval : ∀ (j : Nat) t v, Try.f6.params[j]? = some t → args[j]? = some v → Value.okWide Try.prog W .any base t v)
    (hW : DataW.Whole enc Try.prog Try.f6.params.toList Rows.flowIsCheapSpec.vars false W args.toList ds gs before) :
    Calls Try.prog 6 args W fun e W' => ∃ v, e = .returned v ∧ Rows.flowIsCheapSpec.post enc Try.prog Try.f6 false true false false W args v W' := by
  have hW' := hW
  obtain ⟨p, q, hA0, hV, rfl, hfz, hnd⟩ := hW
  have hA : DataW.TrodAll enc Try.prog W 0 (fun _ => true) true Try.f6.params.toList args.toList ds p := hA0
  rw [Try.params6] at hA hval
  obtain ⟨v0, vs0, d0, ds0, p0, q0, hargs, rfl, rfl, h0, r0⟩ := trodAll_cons hA
  obtain ⟨v1, vs1, d1, ds1, p1, q1, rfl, rfl, rfl, h1, r1⟩ := trodAll_cons r0
  obtain ⟨v2, vs2, d2, ds2, p2, q2, rfl, rfl, rfl, h2, r2⟩ := trodAll_cons r1
  obtain ⟨v3, vs3, d3, ds3, p3, q3, rfl, rfl, rfl, h3, r3⟩ := trodAll_cons r2
  obtain ⟨v4, vs4, d4, ds4, p4, q4, rfl, rfl, rfl, h4, r4⟩ := trodAll_cons r3
  obtain ⟨v5, vs5, d5, ds5, p5, q5, rfl, rfl, rfl, h5, r5⟩ := trodAll_cons r4
  obtain ⟨v6, vs6, d6, ds6, p6, q6, rfl, rfl, rfl, h6, r6⟩ := trodAll_cons r5
  obtain ⟨rfl, rfl, rfl⟩ := trodAll_nil r6
  obtain rfl : args = #[v0, v1, v2, v3, v4, v5, v6] := by cases args; simp_all
  obtain ⟨rfl, rfl⟩ := trodVars_none hV
  have k0 := h0
  have lt0 : ∀ x ∈ p0, x.block < W.heap.size := by obtain ⟨m, hm⟩ := k0; exact DataW.trod_lt m _ _ _ hm
  have k1 := h1
  have lt1 : ∀ x ∈ p1, x.block < W.heap.size := by obtain ⟨m, hm⟩ := k1; exact DataW.trod_lt m _ _ _ hm
  have k2 := h2
  have lt2 : ∀ x ∈ p2, x.block < W.heap.size := by obtain ⟨m, hm⟩ := k2; exact DataW.trod_lt m _ _ _ hm
  have k3 := h3
  have lt3 : ∀ x ∈ p3, x.block < W.heap.size := by obtain ⟨m, hm⟩ := k3; exact DataW.trod_lt m _ _ _ hm
  have k4 := h4
  have lt4 : ∀ x ∈ p4, x.block < W.heap.size := by obtain ⟨m, hm⟩ := k4; exact DataW.trod_lt m _ _ _ hm
  have k5 := h5
  have lt5 : ∀ x ∈ p5, x.block < W.heap.size := by obtain ⟨m, hm⟩ := k5; exact DataW.trod_lt m _ _ _ hm
  have k6 := h6
  have lt6 : ∀ x ∈ p6, x.block < W.heap.size := by obtain ⟨m, hm⟩ := k6; exact DataW.trod_lt m _ _ _ hm
  obtain ⟨t0, c0, rt0⟩ := open_arg (s := shNet) (by kernel_rfl) (hval 0 26 v0 rfl rfl) h0
  obtain ⟨n, rfl, n1, n2, n3, n4, n5⟩ := cf_net c0
  obtain ⟨t1, c1, rt1⟩ := open_arg (s := shFail) (by kernel_rfl) (hval 1 29 v1 rfl rfl) h1
  obtain ⟨f, rfl, f1⟩ := cf_fail c1
  obtain ⟨t2, c2, rt2⟩ := open_arg (s := shInts) (by kernel_rfl) (hval 2 27 v2 rfl rfl) h2
  obtain ⟨pr, rfl, pr1⟩ := cf_ints c2
  obtain ⟨t3, c3, rt3⟩ := open_arg (s := .int .i64) (by kernel_rfl) (hval 3 3 v3 rfl rfl) h3
  obtain ⟨a, rfl⟩ := cf_int c3
  obtain ⟨t4, c4, rt4⟩ := open_arg (s := .int .i64) (by kernel_rfl) (hval 4 3 v4 rfl rfl) h4
  obtain ⟨b, rfl⟩ := cf_int c4
  obtain ⟨t5, c5, rt5⟩ := open_arg (s := .int .i64) (by kernel_rfl) (hval 5 3 v5 rfl rfl) h5
  obtain ⟨amount, rfl⟩ := cf_int c5
  obtain ⟨t6, c6, rt6⟩ := open_arg (s := shInts) (by kernel_rfl) (hval 6 27 v6 rfl rfl) h6
  obtain ⟨x, rfl, x1⟩ := cf_ints c6
  clear hA0
  refine (law_calls (fn6 axS) rfl (vs := #[v0, v1, v2, v3, v4, v5, v6]) (.cons rt0 (.cons rt1 (.cons rt2 (.cons rt3 (.cons rt4 (.cons rt5 (.cons rt6 .nil))))))) (by
    obtain ⟨k, hk⟩ := law_Cheap n f pr a b amount x f1 ⟨n4, n5⟩
    exact sl_FlowIsCheap_ok axS axS_plain k n f pr a b amount x true hk)).mono fun e W' ⟨he, bel⟩ => ?_
  subst he
  exact ⟨_, rfl, _, _, _, [], _, [], hW', trodAll_mk1 (shut_bool Try.underlying4 _), (trodAll_cons_mk (Below.trod laidOut (by kernel_rfl) (of_decide_eq_true (by kernel_rfl)) k0 bel lt0) (trodAll_cons_mk (Below.trod laidOut (by kernel_rfl) (of_decide_eq_true (by kernel_rfl)) k1 bel lt1) (trodAll_cons_mk (Below.trod laidOut (by kernel_rfl) (of_decide_eq_true (by kernel_rfl)) k2 bel lt2) (trodAll_cons_mk (Below.trod laidOut (by kernel_rfl) (of_decide_eq_true (by kernel_rfl)) k3 bel lt3) (trodAll_cons_mk (Below.trod laidOut (by kernel_rfl) (of_decide_eq_true (by kernel_rfl)) k4 bel lt4) (trodAll_cons_mk (Below.trod laidOut (by kernel_rfl) (of_decide_eq_true (by kernel_rfl)) k5 bel lt5) (trodAll_cons_mk (Below.trod laidOut (by kernel_rfl) (of_decide_eq_true (by kernel_rfl)) k6 bel lt6) trodAll_mk0))))))), rfl, bel.frame _, fun h => by cases h⟩
set_option maxRecDepth 100000 in
theorem lifted (os : Os) (started : os.Started) (H : Type) (enc : TypeId × Value → H) :
    ReturnsInHanded {} Try.checked os 6 .any (Rows.flowIsCheapSpec.pre6 enc Try.prog Try.f6 Rows.flowIsCheapRow.domain false) (Rows.flowIsCheapSpec.post enc Try.prog Try.f6 false true false false) := by
  refine returnsInHanded_of_change (C := Try.checked) own started (by kernel_rfl) Try.func6
    (ChangeSpec.witness6 (enc := enc) (C := Try.checked) false ⟨#[], #[.agg #[.slice none 0 0, .slice none 0 0, .slice none 0 0], .agg #[.slice none 0 0, .int .i64 0], .slice none 0 0, .int .i64 0, .int .i64 0, .int .i64 0, .slice none 0 0], []⟩ 8 (by kernel_rfl) (by kernel_rfl) (by kernel_rfl) (by kernel_rfl)) ?_
  intro W base args ds gs before hval hW hcnd _
  exact contract H enc W base args ds gs before hval hW
theorem over : Rows.flowIsCheapRow.holds Try.pinned (OpenSpec.ofChange Rows.flowIsCheapSpec) :=
  OpenClaim.holds_of_wide 6 Try.f6 rfl rfl rfl rfl rfl rfl rfl ⟨rfl, rfl, rfl, rfl, rfl⟩ rfl rfl rfl rfl rfl (by kernel_rfl) Try.func6 (by kernel_rfl)
    (of_decide_eq_true (by kernel_rfl)) (by unfold Func.isWrapper; first | (rw [if_pos (by decide +kernel)]; kernel_rfl) | (rw [if_neg (by decide +kernel)]; exact ⟨rfl, rfl⟩))
    (fun os started H enc _ => lifted os started H enc)
theorem proved : Rows.FlowIsCheapSaid := over
end Go.Proofs.Ytfalnphlgfoflaa.frFlowIsCheap
namespace Go.Proofs.Ytfalnphlgfoflaa
theorem flowIsCheap_holds : Rows.FlowIsCheapSaid := frFlowIsCheap.proved
#print axioms flowIsCheap_holds
end Go.Proofs.Ytfalnphlgfoflaa
