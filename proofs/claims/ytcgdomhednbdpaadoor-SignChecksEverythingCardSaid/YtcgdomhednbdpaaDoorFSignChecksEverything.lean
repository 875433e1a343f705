/-
  SignChecksEverything: for all inputs, the law returns true, where the package variables that its row lists read as the program's text lays them (the card ties that to the text).
-/
import Derived.Test.YtcgdomhednbdpaaDoorZH
import Derived.Test.YtcgdomhednbdpaaDoorZJ
import Derived.Test.YtcgdomhednbdpaaDoorTie
import Derived.Test.YtcgdomhednbdpaaDoorCards
import Derived.LaidMore
import Derived.Stop.Joined
import Derived.SevenTiedAt
namespace Go.Proofs.YtcgdomhednbdpaaDoor
open Go.ChangeShapes Go.WideShapes Go.ChangeAt Go.RowKit
set_option linter.unusedVariables false
set_option maxRecDepth 100000
theorem zjp (os : Os) (args : Array Value) : laidMetH Tryd.prog [("interlace/interlaceref02.constants", Rows.laid_interlace_interlaceref02_constants), ("interlace/hash.constants", Rows.laid_interlace_hash_constants)] ((World.doorLaid Tryd.prog 19 os).forCall (fun _ _ => 0) ⟨#[], args, []⟩).memory :=
  laidMetH_of_parts3 (fuel := 8) (laidMet_of_run' 8 (by kernel_rfl) (by kernel_rfl)) (by kernel_rfl) (by kernel_rfl)
theorem zix (os : Os) (started : os.Started) (H : Type) (enc : TypeId × Value → H) :
    ReturnsInHanded {} Tryd.checked os 8 .any (fun w args => (Rows.signChecksEverythingSpec.pre enc Tryd.prog Tryd.f8 [] false w args ∧ laidMetH Tryd.prog [("interlace/interlaceref02.constants", Rows.laid_interlace_interlaceref02_constants), ("interlace/hash.constants", Rows.laid_interlace_hash_constants)] w) ∧ sizedMet enc Tryd.prog Tryd.f8 (OpenSpec.ofChange Rows.signChecksEverythingSpec) false w args)
      (Rows.signChecksEverythingSpec.post enc Tryd.prog Tryd.f8 false true false false) := by
  refine returnsInHanded_of_change_and (C := Tryd.checked) (X := fun w _ => laidMetH Tryd.prog [("interlace/interlaceref02.constants", Rows.laid_interlace_interlaceref02_constants), ("interlace/hash.constants", Rows.laid_interlace_hash_constants)] w) (fun _ _ _ hh h => h.of_heap hh) own started (by kernel_rfl) Tryd.func8
    (ChangeSpec.witness_shaped (enc := enc) (C := Tryd.checked) (os := os) (X := fun w _ => laidMetH Tryd.prog [("interlace/interlaceref02.constants", Rows.laid_interlace_interlaceref02_constants), ("interlace/hash.constants", Rows.laid_interlace_hash_constants)] w) false (World.doorLaid Tryd.prog 19 os) #[.string ⟨#[]⟩, .int .u8 0, .int .u8 0, .string ⟨#[]⟩, .string ⟨#[]⟩, .int .u16 0, .int .u8 0] 8 rfl (World.shaped_of_RefB (by kernel_rfl) (by kernel_rfl)) (by kernel_rfl) (by kernel_rfl) (by kernel_rfl) (zjp os _)) ?_
  intro W base args ds gs before hval0 hW _ _ hL _;have hval : ∀ (j : Nat) t v, Tryd.f8.params[j]? = some t → args[j]? = some v → Value.okWide Tryd.prog W .any base t v := hval0;have hW' := hW;obtain ⟨p, q, hA0, hV, rfl, hfz, hnd⟩ := hW;have hA : DataW.TrodAll enc Tryd.prog W 0 (fun _ => true) true Tryd.f8.params.toList args.toList ds p := hA0;rw [Tryd.params8] at hA hval;obtain ⟨v0, vs0, d0, ds0, p0, q0, hargs, rfl, rfl, h0, r0⟩ := trodAll_cons hA;obtain ⟨v1, vs1, d1, ds1, p1, q1, rfl, rfl, rfl, h1, r1⟩ := trodAll_cons r0;obtain ⟨v2, vs2, d2, ds2, p2, q2, rfl, rfl, rfl, h2, r2⟩ := trodAll_cons r1;obtain ⟨v3, vs3, d3, ds3, p3, q3, rfl, rfl, rfl, h3, r3⟩ := trodAll_cons r2;obtain ⟨v4, vs4, d4, ds4, p4, q4, rfl, rfl, rfl, h4, r4⟩ := trodAll_cons r3;obtain ⟨v5, vs5, d5, ds5, p5, q5, rfl, rfl, rfl, h5, r5⟩ := trodAll_cons r4;obtain ⟨v6, vs6, d6, ds6, p6, q6, rfl, rfl, rfl, h6, r6⟩ := trodAll_cons r5;obtain ⟨rfl, rfl, rfl⟩ := trodAll_nil r6;obtain rfl : args = #[v0, v1, v2, v3, v4, v5, v6] := by cases args; simp_all
  obtain ⟨rfl, rfl⟩ := trodVars_none hV;have k0 := h0;have lt0 : ∀ x ∈ p0, x.block < W.heap.size := by obtain ⟨m, hm⟩ := k0; exact DataW.trod_lt m _ _ _ hm
  have k1 := h1;have lt1 : ∀ x ∈ p1, x.block < W.heap.size := by obtain ⟨m, hm⟩ := k1; exact DataW.trod_lt m _ _ _ hm
  have k2 := h2;have lt2 : ∀ x ∈ p2, x.block < W.heap.size := by obtain ⟨m, hm⟩ := k2; exact DataW.trod_lt m _ _ _ hm
  have k3 := h3;have lt3 : ∀ x ∈ p3, x.block < W.heap.size := by obtain ⟨m, hm⟩ := k3; exact DataW.trod_lt m _ _ _ hm
  have k4 := h4;have lt4 : ∀ x ∈ p4, x.block < W.heap.size := by obtain ⟨m, hm⟩ := k4; exact DataW.trod_lt m _ _ _ hm
  have k5 := h5;have lt5 : ∀ x ∈ p5, x.block < W.heap.size := by obtain ⟨m, hm⟩ := k5; exact DataW.trod_lt m _ _ _ hm
  have k6 := h6;have lt6 : ∀ x ∈ p6, x.block < W.heap.size := by obtain ⟨m, hm⟩ := k6; exact DataW.trod_lt m _ _ _ hm
  obtain ⟨t0, c0, rt0⟩ := zkq (s := .str) (by kernel_rfl) (hval 0 9 v0 rfl rfl) h0;obtain ⟨seed, rfl, seedw⟩ := c0;obtain ⟨t1, c1, rt1⟩ := zkq (s := .int .u8) (by kernel_rfl) (hval 1 5 v1 rfl rfl) h1;obtain ⟨hh, rfl, hhw⟩ := c1;obtain ⟨t2, c2, rt2⟩ := zkq (s := .int .u8) (by kernel_rfl) (hval 2 5 v2 rfl rfl) h2;obtain ⟨ii, rfl, iiw⟩ := c2;obtain ⟨t3, c3, rt3⟩ := zkq (s := .str) (by kernel_rfl) (hval 3 9 v3 rfl rfl) h3;obtain ⟨m, rfl, mw⟩ := c3;obtain ⟨t4, c4, rt4⟩ := zkq (s := .str) (by kernel_rfl) (hval 4 9 v4 rfl rfl) h4;obtain ⟨oth, rfl, othw⟩ := c4;obtain ⟨t5, c5, rt5⟩ := zkq (s := .int .u16) (by kernel_rfl) (hval 5 40 v5 rfl rfl) h5;obtain ⟨at_, rfl, at_w⟩ := c5;obtain ⟨t6, c6, rt6⟩ := zkq (s := .int .u8) (by kernel_rfl) (hval 6 5 v6 rfl rfl) h6;obtain ⟨by_, rfl, by_w⟩ := c6;clear hA0;obtain ⟨gw, gG⟩ := ykj hL
  refine (yag (fn8 axB) rfl (vs := #[v0, v1, v2, v3, v4, v5, v6]) gw gG (.cons rt0 (.cons rt1 (.cons rt2 (.cons rt3 (.cons rt4 (.cons rt5 (.cons rt6 .nil))))))) (by
    have w1 := z7a hhw;have w2 := z7a iiw;have w3 := yg8 at_w;have w4 := z7a by_w;obtain ⟨h, rfl⟩ : ∃ n : Nat, hh = (n : Int) := ⟨hh.toNat, by omega⟩;obtain ⟨i, rfl⟩ : ∃ n : Nat, ii = (n : Int) := ⟨ii.toNat, by omega⟩;obtain ⟨c, rfl⟩ : ∃ n : Nat, at_ = (n : Int) := ⟨at_.toNat, by omega⟩;obtain ⟨b, rfl⟩ : ∃ n : Nat, by_ = (n : Int) := ⟨by_.toNat, by omega⟩
    exact zi4 axB yj4 100 seed (h : Int) (i : Int) m oth (c : Int) (b : Int) true (yh6 0 seed h i m oth c b (by omega) (by omega) (by omega) (by omega)))).mono fun e W' ⟨he, bel⟩ => ?_
  subst he;exact ⟨_, rfl, _, _, _, [], _, [], hW', trodAll_mk1 (shut_bool Tryd.underlying4 _), (trodAll_cons_mk (Below.trod zm7 (by kernel_rfl) (of_decide_eq_true (by kernel_rfl)) k0 bel lt0) (trodAll_cons_mk (Below.trod zm7 (by kernel_rfl) (of_decide_eq_true (by kernel_rfl)) k1 bel lt1) (trodAll_cons_mk (Below.trod zm7 (by kernel_rfl) (of_decide_eq_true (by kernel_rfl)) k2 bel lt2) (trodAll_cons_mk (Below.trod zm7 (by kernel_rfl) (of_decide_eq_true (by kernel_rfl)) k3 bel lt3) (trodAll_cons_mk (Below.trod zm7 (by kernel_rfl) (of_decide_eq_true (by kernel_rfl)) k4 bel lt4) (trodAll_cons_mk (Below.trod zm7 (by kernel_rfl) (of_decide_eq_true (by kernel_rfl)) k5 bel lt5) (trodAll_cons_mk (Below.trod zm7 (by kernel_rfl) (of_decide_eq_true (by kernel_rfl)) k6 bel lt6) trodAll_mk0))))))), rfl, bel.frame _, fun h => by cases h⟩
theorem zjz : Rows.SignChecksEverythingSaid :=
  OpenClaim.holds_of_wide 8 Tryd.f8 rfl rfl rfl rfl rfl rfl rfl ⟨rfl, rfl, rfl, rfl, rfl⟩ rfl rfl rfl rfl rfl (by kernel_rfl) Tryd.func8 (by kernel_rfl)
    (of_decide_eq_true (by kernel_rfl)) (by unfold Func.isWrapper; first | (rw [if_pos (by decide +kernel)]; kernel_rfl) | (rw [if_neg (by decide +kernel)]; exact ⟨rfl, rfl⟩))
    (fun os started H enc _ => zix os started H enc)
theorem signChecksEverything_holds : Rows.SignChecksEverythingCardSaid :=
  Claim7.holds_tied_plain_at .later [] [.data, .data] true (true, "92a39adf2a6ed89e056713348d17300ed5ac815afdf13d66638ece1226420cb1") false
    zjz (fun _ h => by cases h) (by kernel_rfl) (fun _ h => by cases h) signChecksEverything_row_tie rfl ⟨rfl, rfl⟩ (by kernel_rfl) rfl
    (fun f fn hf hfn => by
      obtain rfl : f = 8 := Option.some.inj ((show Tryd.prog.funcNamed "interlace/interlacelaw03.SignChecksEverything" = some 8 by kernel_rfl).symm.trans hf) |>.symm
      obtain rfl : fn = Tryd.f8 := (Option.some.inj (Tryd.func8.symm.trans hfn)).symm
      exact ⟨by kernel_rfl, fun j t ht => by
        rw [Tryd.params8] at ht;have hm : t ∈ [9, 5, 5, 9, 9, 40, 5] := by simpa using Array.mem_of_getElem? ht
        have hall : ([9, 5, 5, 9, 9, 40, 5].all fun u => !Tryd.prog.wantsStandIn u) = true := by kernel_rfl
        exact (show Tryd.prog.wantsStandIn t = false by simpa using List.all_eq_true.1 hall t hm)⟩)
    (by kernel_rfl)
#print axioms signChecksEverything_holds
end Go.Proofs.YtcgdomhednbdpaaDoor
