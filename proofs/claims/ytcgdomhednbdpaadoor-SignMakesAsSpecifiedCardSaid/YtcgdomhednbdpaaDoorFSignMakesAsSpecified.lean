/-
  SignMakesAsSpecified: for all inputs, the law returns true, where the package variables that its row lists read as the program's text lays them (the card ties that to the text).
-/
import Derived.Test.YtcgdomhednbdpaaDoorZH
import Derived.Test.YtcgdomhednbdpaaDoorZJ
import Derived.Test.YtcgdomhednbdpaaDoorTie
import Derived.Test.YtcgdomhednbdpaaDoorCards
import Derived.LaidMore
import Derived.Stop.Joined
import Derived.SevenTiedAt
namespace Go.Proofs.YtcgdomhednbdpaaDoor
open Go.ChangeShapes Go.WideShapes Go.ChangeAt Go.RowKit
set_option linter.unusedVariables false
set_option maxRecDepth 100000
theorem zju (os : Os) (args : Array Value) : laidMetH Tryd.prog [("interlace/interlaceref02.constants", Rows.laid_interlace_interlaceref02_constants), ("interlace/hash.constants", Rows.laid_interlace_hash_constants)] ((World.doorLaid Tryd.prog 19 os).forCall (fun _ _ => 0) ⟨#[], args, []⟩).memory :=
  laidMetH_of_parts3 (fuel := 8) (laidMet_of_run' 8 (by kernel_rfl) (by kernel_rfl)) (by kernel_rfl) (by kernel_rfl)
theorem zi5 (os : Os) (started : os.Started) (H : Type) (enc : TypeId × Value → H) :
    ReturnsInHanded {} Tryd.checked os 4 .any (fun w args => (Rows.signMakesAsSpecifiedSpec.pre enc Tryd.prog Tryd.f4 [] false w args ∧ laidMetH Tryd.prog [("interlace/interlaceref02.constants", Rows.laid_interlace_interlaceref02_constants), ("interlace/hash.constants", Rows.laid_interlace_hash_constants)] w) ∧ sizedMet enc Tryd.prog Tryd.f4 (OpenSpec.ofChange Rows.signMakesAsSpecifiedSpec) false w args)
      (Rows.signMakesAsSpecifiedSpec.post enc Tryd.prog Tryd.f4 false true false false) := by
  refine returnsInHanded_of_change_and (C := Tryd.checked) (X := fun w _ => laidMetH Tryd.prog [("interlace/interlaceref02.constants", Rows.laid_interlace_interlaceref02_constants), ("interlace/hash.constants", Rows.laid_interlace_hash_constants)] w) (fun _ _ _ hh h => h.of_heap hh) own started (by kernel_rfl) Tryd.func4
    (ChangeSpec.witness_shaped (enc := enc) (C := Tryd.checked) (os := os) (X := fun w _ => laidMetH Tryd.prog [("interlace/interlaceref02.constants", Rows.laid_interlace_interlaceref02_constants), ("interlace/hash.constants", Rows.laid_interlace_hash_constants)] w) false (World.doorLaid Tryd.prog 19 os) #[.string ⟨#[]⟩, .int .i64 0, .int .i64 0, .string ⟨#[]⟩, .agg (List.replicate 16 (.int .u8 0)).toArray] 8 rfl (World.shaped_of_RefB (by kernel_rfl) (by kernel_rfl)) (by kernel_rfl) (by kernel_rfl) (by kernel_rfl) (zju os _)) ?_
  intro W base args ds gs before hval0 hW _ _ hL _;have hval : ∀ (j : Nat) t v, Tryd.f4.params[j]? = some t → args[j]? = some v → Value.okWide Tryd.prog W .any base t v := hval0;have hW' := hW;obtain ⟨p, q, hA0, hV, rfl, hfz, hnd⟩ := hW;have hA : DataW.TrodAll enc Tryd.prog W 0 (fun _ => true) true Tryd.f4.params.toList args.toList ds p := hA0;rw [Tryd.params4] at hA hval;obtain ⟨v0, vs0, d0, ds0, p0, q0, hargs, rfl, rfl, h0, r0⟩ := trodAll_cons hA;obtain ⟨v1, vs1, d1, ds1, p1, q1, rfl, rfl, rfl, h1, r1⟩ := trodAll_cons r0;obtain ⟨v2, vs2, d2, ds2, p2, q2, rfl, rfl, rfl, h2, r2⟩ := trodAll_cons r1;obtain ⟨v3, vs3, d3, ds3, p3, q3, rfl, rfl, rfl, h3, r3⟩ := trodAll_cons r2;obtain ⟨v4, vs4, d4, ds4, p4, q4, rfl, rfl, rfl, h4, r4⟩ := trodAll_cons r3;obtain ⟨rfl, rfl, rfl⟩ := trodAll_nil r4;obtain rfl : args = #[v0, v1, v2, v3, v4] := by cases args; simp_all
  obtain ⟨rfl, rfl⟩ := trodVars_none hV;have k0 := h0;have lt0 : ∀ x ∈ p0, x.block < W.heap.size := by obtain ⟨m, hm⟩ := k0; exact DataW.trod_lt m _ _ _ hm
  have k1 := h1;have lt1 : ∀ x ∈ p1, x.block < W.heap.size := by obtain ⟨m, hm⟩ := k1; exact DataW.trod_lt m _ _ _ hm
  have k2 := h2;have lt2 : ∀ x ∈ p2, x.block < W.heap.size := by obtain ⟨m, hm⟩ := k2; exact DataW.trod_lt m _ _ _ hm
  have k3 := h3;have lt3 : ∀ x ∈ p3, x.block < W.heap.size := by obtain ⟨m, hm⟩ := k3; exact DataW.trod_lt m _ _ _ hm
  have k4 := h4;have lt4 : ∀ x ∈ p4, x.block < W.heap.size := by obtain ⟨m, hm⟩ := k4; exact DataW.trod_lt m _ _ _ hm
  obtain ⟨t0, c0, rt0⟩ := zq0 (s := .str) (by kernel_rfl) (hval 0 9 v0 rfl rfl) h0;obtain ⟨seed, rfl, seedw⟩ := c0;obtain ⟨t1, c1, rt1⟩ := zq0 (s := .int .i64) (by kernel_rfl) (hval 1 3 v1 rfl rfl) h1;obtain ⟨hh, rfl, hhw⟩ := c1;obtain ⟨t2, c2, rt2⟩ := zq0 (s := .int .i64) (by kernel_rfl) (hval 2 3 v2 rfl rfl) h2;obtain ⟨ii, rfl, iiw⟩ := c2;obtain ⟨t3, c3, rt3⟩ := zq0 (s := .str) (by kernel_rfl) (hval 3 9 v3 rfl rfl) h3;obtain ⟨m, rfl, mw⟩ := c3;obtain ⟨pub, pubw, rt4⟩ := yek Tryd.underlying23 Tryd.underlying5 (by kernel_rfl) (by kernel_rfl) (hval 4 23 v4 rfl rfl) h4;clear hA0;obtain ⟨gw, gG⟩ := yli hL;refine (ya4 (fn4 axB) rfl (vs := #[v0, v1, v2, v3, v4]) gw gG (.cons rt0 (.cons rt1 (.cons rt2 (.cons rt3 (.cons rt4 .nil))))) (zjd axB yk3 100 seed hh ii m pub true (ya5 0 seed hh ii m pub (yh6 iiw)))).mono fun e W' ⟨he, bel⟩ => ?_;subst he;exact ⟨_, rfl, _, _, _, [], _, [], hW', trodAll_mk1 (shut_bool Tryd.underlying4 _), (trodAll_cons_mk (Below.trod zsr (by kernel_rfl) (of_decide_eq_true (by kernel_rfl)) k0 bel lt0) (trodAll_cons_mk (Below.trod zsr (by kernel_rfl) (of_decide_eq_true (by kernel_rfl)) k1 bel lt1) (trodAll_cons_mk (Below.trod zsr (by kernel_rfl) (of_decide_eq_true (by kernel_rfl)) k2 bel lt2) (trodAll_cons_mk (Below.trod zsr (by kernel_rfl) (of_decide_eq_true (by kernel_rfl)) k3 bel lt3) (trodAll_cons_mk (Below.trod zsr (by kernel_rfl) (of_decide_eq_true (by kernel_rfl)) k4 bel lt4) trodAll_mk0))))), rfl, bel.frame _, fun h => by cases h⟩
theorem zj3 : Rows.SignMakesAsSpecifiedSaid :=
  OpenClaim.holds_of_wide 4 Tryd.f4 rfl rfl rfl rfl rfl rfl rfl ⟨rfl, rfl, rfl, rfl, rfl⟩ rfl rfl rfl rfl rfl (by kernel_rfl) Tryd.func4 (by kernel_rfl)
    (of_decide_eq_true (by kernel_rfl)) (by unfold Func.isWrapper; first | (rw [if_pos (by decide +kernel)]; kernel_rfl) | (rw [if_neg (by decide +kernel)]; exact ⟨rfl, rfl⟩))
    (fun os started H enc _ => zi5 os started H enc)
theorem signMakesAsSpecified_holds : Rows.SignMakesAsSpecifiedCardSaid :=
  Claim7.holds_tied_plain_at .later [] [.data, .data] true (true, "92a39adf2a6ed89e056713348d17300ed5ac815afdf13d66638ece1226420cb1") false
    zj3 (fun _ h => by cases h) (by kernel_rfl) (fun _ h => by cases h) signMakesAsSpecified_row_tie rfl ⟨rfl, rfl⟩ (by kernel_rfl) rfl
    (fun f fn hf hfn => by
      obtain rfl : f = 4 := Option.some.inj ((show Tryd.prog.funcNamed "interlace/interlacelaw03.SignMakesAsSpecified" = some 4 by kernel_rfl).symm.trans hf) |>.symm
      obtain rfl : fn = Tryd.f4 := (Option.some.inj (Tryd.func4.symm.trans hfn)).symm
      exact ⟨by kernel_rfl, fun j t ht => by
        rw [Tryd.params4] at ht;have hm : t ∈ [9, 3, 3, 9, 23] := by simpa using Array.mem_of_getElem? ht
        have hall : ([9, 3, 3, 9, 23].all fun u => !Tryd.prog.wantsStandIn u) = true := by kernel_rfl
        exact (show Tryd.prog.wantsStandIn t = false by simpa using List.all_eq_true.1 hall t hm)⟩)
    (by kernel_rfl)
#print axioms signMakesAsSpecified_holds
end Go.Proofs.YtcgdomhednbdpaaDoor
