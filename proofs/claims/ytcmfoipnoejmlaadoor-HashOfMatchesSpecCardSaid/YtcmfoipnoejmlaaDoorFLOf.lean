/-
  HashOfMatchesSpec: for all inputs, the law returns true, where the package variables that its row lists read as the program's text lays them (the card ties that to the text).
-/
import Derived.Test.YtcmfoipnoejmlaaDoorSegS
import Derived.Test.YtcmfoipnoejmlaaDoorLOf
import Derived.Test.YtcmfoipnoejmlaaDoorOpen
import Derived.Test.YtcmfoipnoejmlaaDoorTie
import Derived.Test.YtcmfoipnoejmlaaDoorCards
import Derived.LaidMore
import Derived.Stop.Joined
import Derived.SevenTiedAt
namespace Go.Proofs.YtcmfoipnoejmlaaDoor
open Go.ChangeShapes Go.WideShapes Go.ChangeAt Go.RowKit
open Go.ChangeMaps (open_string shut_string)
set_option linter.unusedVariables false
set_option maxRecDepth 100000
theorem law_HashOfMatchesSpec (ao : Option Addr) (n cap : Nat) (ss : List ByteArray) (a : Int) (W : World) (h : StrAt W ao n cap ss)
    (hw : GlobsAt W [(0, kcells), (1, kcells)]) (hG : ∀ g, has GG g = true → g < W.heap.size) :
    Calls Tryd.prog 7 #[.int .i64 a, .slice ao n cap] W fun e W' => e = .returned (.bool true) ∧ Below W.heap.size W W' := by
  have hK : ∀ p, p ∈ ([(0, kcells), (1, kcells)] : List (Nat × List Value)) → has GG p.1 = true := fun p hp => by simp only [List.mem_cons, List.not_mem_nil, or_false] at hp; rcases hp with rfl | rfl <;> rfl
  obtain ⟨A, x, hA1, hA, hv, hba⟩ := arg_strs (G := GG) (K := [(0, kcells), (1, kcells)]) (gk := 1) rfl hK hG h
  have l1 : 1 < W.heap.size := hG _ rfl
  have l0 : 0 < W.heap.size := hG _ rfl
  obtain ⟨v, s2, hc, rfl⟩ := of_law a x n cap ss (W.heap.size + A.length) (famS W.heap.size [(0, kcells), (1, kcells)] A) hba (by omega) (by omega) rfl rfl
  obtain ⟨r1, r2, r3, r4⟩ := start_rel (G := GG) (N := W.heap.size) (K := [(0, kcells), (1, kcells)]) (A := A) rfl hK hw hG hA
  refine (calls_of mixed funcs_ok axH_ok (fn7 axH) rfl (args' := #[.int .i64 a, .slice ao n cap]) hc ?_ r1 r4 r2 r3).mono ?_
  · exact ⟨plain_refl 3 rfl, hv, trivial⟩
  · rintro e w' ⟨σ', v', rfl, k1, k2⟩
    exact ⟨by rw [plain_eq 3 rfl k1], k2⟩
theorem door_HashOfMatchesSpec (os : Os) (args : Array Value) : laidMetH Tryd.prog [("interlace/interlaceref02.constants", Rows.laid_interlace_interlaceref02_constants), ("interlace/hash.constants", Rows.laid_interlace_hash_constants)] ((World.doorLaid Tryd.prog 19 os).forCall (fun _ _ => 0) ⟨#[], args, []⟩).memory :=
  laidMetH_of_parts3 (fuel := 8) (laidMet_of_run' 8 (by kernel_rfl) (by kernel_rfl)) (by kernel_rfl) (by kernel_rfl)
theorem own_HashOfMatchesSpec : ownKnob Tryd.prog.godebug = none := by kernel_rfl
theorem lifted_HashOfMatchesSpec (os : Os) (started : os.Started) (H : Type) (enc : TypeId × Value → H) :
    ReturnsInHanded {} Tryd.checked os 7 .any (fun w args => (Rows.hashOfMatchesSpecSpec.pre enc Tryd.prog Tryd.f7 [] false w args ∧ laidMetH Tryd.prog [("interlace/interlaceref02.constants", Rows.laid_interlace_interlaceref02_constants), ("interlace/hash.constants", Rows.laid_interlace_hash_constants)] w) ∧ sizedMet enc Tryd.prog Tryd.f7 (OpenSpec.ofChange Rows.hashOfMatchesSpecSpec) false w args)
      (Rows.hashOfMatchesSpecSpec.post enc Tryd.prog Tryd.f7 false true false false) := by
  refine returnsInHanded_of_change_and (C := Tryd.checked) (X := fun w _ => laidMetH Tryd.prog [("interlace/interlaceref02.constants", Rows.laid_interlace_interlaceref02_constants), ("interlace/hash.constants", Rows.laid_interlace_hash_constants)] w) (fun _ _ _ hh h => h.of_heap hh) own_HashOfMatchesSpec started (by kernel_rfl) Tryd.func7
    (ChangeSpec.witness_shaped (enc := enc) (C := Tryd.checked) (os := os) (X := fun w _ => laidMetH Tryd.prog [("interlace/interlaceref02.constants", Rows.laid_interlace_interlaceref02_constants), ("interlace/hash.constants", Rows.laid_interlace_hash_constants)] w) false (World.doorLaid Tryd.prog 19 os) #[.int .i64 0, .slice none 0 0] 8 rfl (World.shaped_of_RefB (by kernel_rfl) (by kernel_rfl)) (by kernel_rfl) (by kernel_rfl) (by kernel_rfl) (door_HashOfMatchesSpec os _)) ?_
  intro W base args ds gs before hval0 hW _ _ hL _
  have hval : ∀ (j : Nat) t v, Tryd.f7.params[j]? = some t → args[j]? = some v → Value.okWide Tryd.prog W .any base t v := hval0
  have hW' := hW
  obtain ⟨p, q, hA0, hV, rfl, hfz, hnd⟩ := hW
  have hA : DataW.TrodAll enc Tryd.prog W 0 (fun _ => true) true Tryd.f7.params.toList args.toList ds p := hA0
  rw [Tryd.params7] at hA hval
  obtain ⟨v0, vs0, d0, ds0, p0, q0, hargs, rfl, rfl, h0, r0⟩ := trodAll_cons hA
  obtain ⟨v1, vs1, d1, ds1, p1, q1, rfl, rfl, rfl, h1, r1⟩ := trodAll_cons r0
  obtain ⟨rfl, rfl, rfl⟩ := trodAll_nil r1
  obtain rfl : args = #[v0, v1] := by cases args; simp_all
  obtain ⟨rfl, rfl⟩ := trodVars_none hV
  have k0 := h0
  have lt0 : ∀ x ∈ p0, x.block < W.heap.size := by obtain ⟨m, hm⟩ := k0; exact DataW.trod_lt m _ _ _ hm
  have k1 := h1
  have lt1 : ∀ x ∈ p1, x.block < W.heap.size := by obtain ⟨m, hm⟩ := k1; exact DataW.trod_lt m _ _ _ hm
  obtain ⟨a, rfl, -, -, w0⟩ := open_int Tryd.underlying3 (hval 0 3 v0 rfl rfl) h0
  obtain ⟨ao, n, cap, ss, rfl, e1⟩ := opn_strsc Tryd.underlying27 Tryd.underlying9 (by kernel_rfl) (hval 1 27 v1 rfl rfl) h1
  clear hA0
  obtain ⟨gw, gG⟩ := globs_both hL
  refine (law_HashOfMatchesSpec ao n cap ss a W e1 gw gG).mono fun e W' ⟨he, bel⟩ => ?_
  subst he
  exact ⟨_, rfl, _, _, _, [], _, [], hW', trodAll_mk1 (shut_bool Tryd.underlying4 _), (trodAll_cons_mk (Below.trod laidOut (by kernel_rfl) (of_decide_eq_true (by kernel_rfl)) k0 bel lt0) (trodAll_cons_mk (Below.trod laidOut (by kernel_rfl) (of_decide_eq_true (by kernel_rfl)) k1 bel lt1) trodAll_mk0)), rfl, bel.frame _, fun h => by cases h⟩
theorem row_HashOfMatchesSpec : Rows.HashOfMatchesSpecSaid :=
  OpenClaim.holds_of_wide 7 Tryd.f7 rfl rfl rfl rfl rfl rfl rfl ⟨rfl, rfl, rfl, rfl, rfl⟩ rfl rfl rfl rfl rfl (by kernel_rfl) Tryd.func7 (by kernel_rfl)
    (of_decide_eq_true (by kernel_rfl)) (by unfold Func.isWrapper; first | (rw [if_pos (by decide +kernel)]; kernel_rfl) | (rw [if_neg (by decide +kernel)]; exact ⟨rfl, rfl⟩))
    (fun os started H enc _ => lifted_HashOfMatchesSpec os started H enc)
theorem hashOfMatchesSpec_holds : Rows.HashOfMatchesSpecCardSaid :=
  Claim7.holds_tied_plain_at .later [] [.data, .data] true (true, "b36abdd679d6a566766f3d355091612eecd3923b37c3c1363eea7324f64f6711") false
    row_HashOfMatchesSpec (fun _ h => by cases h) (by kernel_rfl) (fun _ h => by cases h) hashOfMatchesSpec_row_tie rfl ⟨rfl, rfl⟩ (by kernel_rfl) rfl
    (fun f fn hf hfn => by
      obtain rfl : f = 7 := Option.some.inj ((show Tryd.prog.funcNamed "interlace/interlacelaw02.HashOfMatchesSpec" = some 7 by kernel_rfl).symm.trans hf) |>.symm
      obtain rfl : fn = Tryd.f7 := (Option.some.inj (Tryd.func7.symm.trans hfn)).symm
      exact ⟨by kernel_rfl, fun j t ht => by
        rw [Tryd.params7] at ht
        have hm : t ∈ [3, 27] := by simpa using Array.mem_of_getElem? ht
        have hall : ([3, 27].all fun u => !Tryd.prog.wantsStandIn u) = true := by kernel_rfl
        exact (show Tryd.prog.wantsStandIn t = false by simpa using List.all_eq_true.1 hall t hm)⟩)
    (by kernel_rfl)
#print axioms hashOfMatchesSpec_holds
end Go.Proofs.YtcmfoipnoejmlaaDoor
