/-
  SignVerifiesAsSpecified: for all inputs, the law returns true, where the package variables that its row lists read as the program's text lays them (the card ties that to the text).
-/
import Derived.Test.YtcgdomhednbdpaaDoorZH
import Derived.Test.YtcgdomhednbdpaaDoorZJ
import Derived.Test.YtcgdomhednbdpaaDoorTie
import Derived.Test.YtcgdomhednbdpaaDoorCards
import Derived.LaidMore
import Derived.Stop.Joined
import Derived.SevenTiedAt
namespace Go.Proofs.YtcgdomhednbdpaaDoor
open Go.ChangeShapes Go.WideShapes Go.ChangeAt Go.RowKit
set_option linter.unusedVariables false
set_option maxRecDepth 100000
theorem zih (os : Os) (args : Array Value) : laidMetH Tryd.prog [("interlace/interlaceref02.constants", Rows.laid_interlace_interlaceref02_constants), ("interlace/hash.constants", Rows.laid_interlace_hash_constants)] ((World.doorLaid Tryd.prog 19 os).forCall (fun _ _ => 0) ⟨#[], args, []⟩).memory :=
  laidMetH_of_parts3 (fuel := 8) (laidMet_of_run' 8 (by kernel_rfl) (by kernel_rfl)) (by kernel_rfl) (by kernel_rfl)
theorem zhv (os : Os) (started : os.Started) (H : Type) (enc : TypeId × Value → H) :
    ReturnsInHanded {} Tryd.checked os 5 .any (fun w args => (Rows.signVerifiesAsSpecifiedSpec.pre enc Tryd.prog Tryd.f5 [] false w args ∧ laidMetH Tryd.prog [("interlace/interlaceref02.constants", Rows.laid_interlace_interlaceref02_constants), ("interlace/hash.constants", Rows.laid_interlace_hash_constants)] w) ∧ sizedMet enc Tryd.prog Tryd.f5 (OpenSpec.ofChange Rows.signVerifiesAsSpecifiedSpec) false w args)
      (Rows.signVerifiesAsSpecifiedSpec.post enc Tryd.prog Tryd.f5 false true false false) := by
  refine returnsInHanded_of_change_and (C := Tryd.checked) (X := fun w _ => laidMetH Tryd.prog [("interlace/interlaceref02.constants", Rows.laid_interlace_interlaceref02_constants), ("interlace/hash.constants", Rows.laid_interlace_hash_constants)] w) (fun _ _ _ hh h => h.of_heap hh) own started (by kernel_rfl) Tryd.func5
    (ChangeSpec.witness_shaped (enc := enc) (C := Tryd.checked) (os := os) (X := fun w _ => laidMetH Tryd.prog [("interlace/interlaceref02.constants", Rows.laid_interlace_interlaceref02_constants), ("interlace/hash.constants", Rows.laid_interlace_hash_constants)] w) false (World.doorLaid Tryd.prog 19 os) #[.agg (List.replicate 16 (.int .u8 0)).toArray, .int .i64 0, .string ⟨#[]⟩, .string ⟨#[]⟩] 8 rfl (World.shaped_of_RefB (by kernel_rfl) (by kernel_rfl)) (by kernel_rfl) (by kernel_rfl) (by kernel_rfl) (zih os _)) ?_
  intro W base args ds gs before hval0 hW _ _ hL _;have hval : ∀ (j : Nat) t v, Tryd.f5.params[j]? = some t → args[j]? = some v → Value.okWide Tryd.prog W .any base t v := hval0;have hW' := hW;obtain ⟨p, q, hA0, hV, rfl, hfz, hnd⟩ := hW;have hA : DataW.TrodAll enc Tryd.prog W 0 (fun _ => true) true Tryd.f5.params.toList args.toList ds p := hA0;rw [Tryd.params5] at hA hval;obtain ⟨v0, vs0, d0, ds0, p0, q0, hargs, rfl, rfl, h0, r0⟩ := trodAll_cons hA;obtain ⟨v1, vs1, d1, ds1, p1, q1, rfl, rfl, rfl, h1, r1⟩ := trodAll_cons r0;obtain ⟨v2, vs2, d2, ds2, p2, q2, rfl, rfl, rfl, h2, r2⟩ := trodAll_cons r1;obtain ⟨v3, vs3, d3, ds3, p3, q3, rfl, rfl, rfl, h3, r3⟩ := trodAll_cons r2;obtain ⟨rfl, rfl, rfl⟩ := trodAll_nil r3;obtain rfl : args = #[v0, v1, v2, v3] := by cases args; simp_all
  obtain ⟨rfl, rfl⟩ := trodVars_none hV;have k0 := h0;have lt0 : ∀ x ∈ p0, x.block < W.heap.size := by obtain ⟨m, hm⟩ := k0; exact DataW.trod_lt m _ _ _ hm
  have k1 := h1;have lt1 : ∀ x ∈ p1, x.block < W.heap.size := by obtain ⟨m, hm⟩ := k1; exact DataW.trod_lt m _ _ _ hm
  have k2 := h2;have lt2 : ∀ x ∈ p2, x.block < W.heap.size := by obtain ⟨m, hm⟩ := k2; exact DataW.trod_lt m _ _ _ hm
  have k3 := h3;have lt3 : ∀ x ∈ p3, x.block < W.heap.size := by obtain ⟨m, hm⟩ := k3; exact DataW.trod_lt m _ _ _ hm
  obtain ⟨pub, pubw, rt0⟩ := yej Tryd.underlying23 Tryd.underlying5 (by kernel_rfl) (by kernel_rfl) (hval 0 23 v0 rfl rfl) h0;obtain ⟨t1, c1, rt1⟩ := zwg (s := .int .i64) (by kernel_rfl) (hval 1 3 v1 rfl rfl) h1;obtain ⟨hh, rfl, hhw⟩ := c1;obtain ⟨t2, c2, rt2⟩ := zwg (s := .str) (by kernel_rfl) (hval 2 9 v2 rfl rfl) h2;obtain ⟨m, rfl, mw⟩ := c2;obtain ⟨t3, c3, rt3⟩ := zwg (s := .str) (by kernel_rfl) (hval 3 9 v3 rfl rfl) h3;obtain ⟨sg, rfl, sgw⟩ := c3;clear hA0;obtain ⟨gw, gG⟩ := yln hL;refine (ya1 (fn5 axB) rfl (vs := #[v0, v1, v2, v3]) gw gG (.cons rt0 (.cons rt1 (.cons rt2 (.cons rt3 .nil)))) (zh1 axB yk8 100 pub hh m sg true (zzd 0 pub hh m sg))).mono fun e W' ⟨he, bel⟩ => ?_;subst he;exact ⟨_, rfl, _, _, _, [], _, [], hW', trodAll_mk1 (shut_bool Tryd.underlying4 _), (trodAll_cons_mk (Below.trod zws (by kernel_rfl) (of_decide_eq_true (by kernel_rfl)) k0 bel lt0) (trodAll_cons_mk (Below.trod zws (by kernel_rfl) (of_decide_eq_true (by kernel_rfl)) k1 bel lt1) (trodAll_cons_mk (Below.trod zws (by kernel_rfl) (of_decide_eq_true (by kernel_rfl)) k2 bel lt2) (trodAll_cons_mk (Below.trod zws (by kernel_rfl) (of_decide_eq_true (by kernel_rfl)) k3 bel lt3) trodAll_mk0)))), rfl, bel.frame _, fun h => by cases h⟩
theorem zi1 : Rows.SignVerifiesAsSpecifiedSaid :=
  OpenClaim.holds_of_wide 5 Tryd.f5 rfl rfl rfl rfl rfl rfl rfl ⟨rfl, rfl, rfl, rfl, rfl⟩ rfl rfl rfl rfl rfl (by kernel_rfl) Tryd.func5 (by kernel_rfl)
    (of_decide_eq_true (by kernel_rfl)) (by unfold Func.isWrapper; first | (rw [if_pos (by decide +kernel)]; kernel_rfl) | (rw [if_neg (by decide +kernel)]; exact ⟨rfl, rfl⟩))
    (fun os started H enc _ => zhv os started H enc)
theorem signVerifiesAsSpecified_holds : Rows.SignVerifiesAsSpecifiedCardSaid :=
  Claim7.holds_tied_plain_at .later [] [.data, .data] true (true, "92a39adf2a6ed89e056713348d17300ed5ac815afdf13d66638ece1226420cb1") false
    zi1 (fun _ h => by cases h) (by kernel_rfl) (fun _ h => by cases h) signVerifiesAsSpecified_row_tie rfl ⟨rfl, rfl⟩ (by kernel_rfl) rfl
    (fun f fn hf hfn => by
      obtain rfl : f = 5 := Option.some.inj ((show Tryd.prog.funcNamed "interlace/interlacelaw03.SignVerifiesAsSpecified" = some 5 by kernel_rfl).symm.trans hf) |>.symm
      obtain rfl : fn = Tryd.f5 := (Option.some.inj (Tryd.func5.symm.trans hfn)).symm
      exact ⟨by kernel_rfl, fun j t ht => by
        rw [Tryd.params5] at ht;have hm : t ∈ [23, 3, 9, 9] := by simpa using Array.mem_of_getElem? ht
        have hall : ([23, 3, 9, 9].all fun u => !Tryd.prog.wantsStandIn u) = true := by kernel_rfl
        exact (show Tryd.prog.wantsStandIn t = false by simpa using List.all_eq_true.1 hall t hm)⟩)
    (by kernel_rfl)
#print axioms signVerifiesAsSpecified_holds
end Go.Proofs.YtcgdomhednbdpaaDoor
