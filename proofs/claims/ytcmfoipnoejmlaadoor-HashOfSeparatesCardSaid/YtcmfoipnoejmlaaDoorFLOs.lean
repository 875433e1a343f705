/-
  HashOfSeparates: for all inputs, the law returns true, where the package variables that its row lists read as the program's text lays them (the card ties that to the text).
-/
import Derived.Test.YtcmfoipnoejmlaaDoorSegS2
import Derived.Test.YtcmfoipnoejmlaaDoorLOs
import Derived.Test.YtcmfoipnoejmlaaDoorOpen
import Derived.Test.YtcmfoipnoejmlaaDoorTie
import Derived.Test.YtcmfoipnoejmlaaDoorCards
import Derived.LaidMore
import Derived.Stop.Joined
import Derived.SevenTiedAt
namespace Go.Proofs.YtcmfoipnoejmlaaDoor
open Go.ChangeShapes Go.WideShapes Go.ChangeAt Go.RowKit
open Go.ChangeMaps (open_string shut_string)
set_option linter.unusedVariables false
set_option linter.unusedSectionVars false
set_option maxRecDepth 100000
theorem opn_arr2 {H : Type} {enc : TypeId × Value → H} {P : Program} {W : World} {base : Nat} {r : Reach} {t e : TypeId} {v : Value} {d : DataW H} {ps : List MemPlace} (ht : P.underlying t = some (.array 2 e)) (he : P.underlying e = some (.int .u8)) (hc : P.cellsOf e = 1) (hct : P.cellsOf t = 2) (hval : Value.okWide P W r base t v) (h : DataW.Trod enc P W 0 (fun _ => true) true t v d ps) : ∃ c1 c2 : UInt8, v = .agg (bvs [c1, c2]).toArray := by
  unfold Value.okWide at hval
  rw [ht] at hval
  obtain ⟨cs, rfl, hsz, _⟩ := hval
  obtain ⟨fuel, hf⟩ := h
  obtain ⟨xs, m, -, -, hl, hxl, hxa⟩ := DataW.trod_array ht hf
  obtain ⟨l⟩ := cs
  rw [hct] at hsz
  match l, hsz with
  | [a, b], _ =>
    have h0 := hxa 0 (by omega)
    have h1 := hxa 1 (by omega)
    rw [hc, List.getElem?_eq_getElem (by omega)] at h0 h1
    obtain ⟨n0, e0, -, w0⟩ := DataW.trod_int he h0
    obtain ⟨n1, e1, -, w1⟩ := DataW.trod_int he h1
    obtain ⟨c0, rfl⟩ := wf_u8 w0
    obtain ⟨c1, rfl⟩ := wf_u8 w1
    have q0 : a = .int .u8 ((c0.toNat : Nat) : Int) := by simpa [Value.cells] using e0
    have q1 : b = .int .u8 ((c1.toNat : Nat) : Int) := by simpa [Value.cells] using e1
    exact ⟨c0, c1, by rw [q0, q1]; rfl⟩
theorem law_HashOfSeparates (c1 c2 : UInt8) (a1 : Option Addr) (n1 k1 : Nat) (ss1 : List ByteArray) (a2 : Option Addr) (n2 k2 : Nat) (ss2 : List ByteArray) (W : World) (h1 : StrAt W a1 n1 k1 ss1) (h2 : StrAt W a2 n2 k2 ss2) (hw : GlobsAt W [(1, kcells)]) (hG : ∀ g, has GG g = true → g < W.heap.size) :
    Calls Tryd.prog 8 #[.agg (bvs [c1, c2]).toArray, .slice a1 n1 k1, .slice a2 n2 k2] W fun e W' => e = .returned (.bool true) ∧ Below W.heap.size W W' := by
  have hK : ∀ p, p ∈ ([(1, kcells)] : List (Nat × List Value)) → has GG p.1 = true := fun p hp => by simp only [List.mem_cons, List.not_mem_nil, or_false] at hp; subst hp; rfl
  obtain ⟨A1, x1, k1'⟩ := arg_strsP (G := GG) (K := [(1, kcells)]) (gk := 1) rfl hK hG h1 []
  obtain ⟨A2, x2, k2'⟩ := arg_strsP (G := GG) (K := [(1, kcells)]) (gk := 1) rfl hK hG h2 ([] ++ A1)
  have q1 := k1' (A2 ++ [])
  have q2 := k2' []
  have e : ([] : List Seg) ++ A1 ++ (A2 ++ []) = A1 ++ A2 := by simp
  have e2 : ([] : List Seg) ++ A1 ++ A2 ++ [] = A1 ++ A2 := by simp
  rw [e] at q1
  rw [e2] at q2
  have hA : ∀ q, q ∈ A1 ++ A2 → SegAt (sgS W.heap.size GG [(1, kcells)] (A1 ++ A2)) W q := fun q hq => (List.mem_append.1 hq).elim (q1.1 q) (q2.1 q)
  have l1 : 1 < W.heap.size := hG _ rfl
  obtain ⟨v, s2, hc, rfl⟩ := os_law c1 c2 x1 x2 n1 k1 n2 k2 ss1 ss2 (W.heap.size + (A1 ++ A2).length) (famS W.heap.size [(1, kcells)] (A1 ++ A2)) q1.2.2 q2.2.2 (by omega) rfl
  obtain ⟨r1, r2, r3, r4⟩ := start_rel (G := GG) (N := W.heap.size) (K := [(1, kcells)]) (A := A1 ++ A2) rfl hK hw hG hA
  refine (calls_of mixed funcs_ok axH_ok (fn8 axH) rfl (args' := #[.agg (bvs [c1, c2]).toArray, .slice a1 n1 k1, .slice a2 n2 k2]) hc ?_ r1 r4 r2 r3).mono ?_
  · exact ⟨plain_refl 3 rfl, q1.2.1, q2.2.1, trivial⟩
  · rintro e w' ⟨σ', v', rfl, k1, k2⟩
    exact ⟨by rw [plain_eq 3 rfl k1], k2⟩
theorem door_HashOfSeparates (os : Os) (args : Array Value) : laidMetH Tryd.prog [("interlace/hash.constants", Rows.laid_interlace_hash_constants)] ((World.doorLaid Tryd.prog 19 os).forCall (fun _ _ => 0) ⟨#[], args, []⟩).memory :=
  laidMetH_of_parts3 (fuel := 8) (laidMet_of_run' 8 (by kernel_rfl) (by kernel_rfl)) (by kernel_rfl) (by kernel_rfl)
theorem own_HashOfSeparates : ownKnob Tryd.prog.godebug = none := by kernel_rfl
theorem lifted_HashOfSeparates (os : Os) (started : os.Started) (H : Type) (enc : TypeId × Value → H) :
    ReturnsInHanded {} Tryd.checked os 8 .any (fun w args => (Rows.hashOfSeparatesSpec.pre enc Tryd.prog Tryd.f8 [] false w args ∧ laidMetH Tryd.prog [("interlace/hash.constants", Rows.laid_interlace_hash_constants)] w) ∧ sizedMet enc Tryd.prog Tryd.f8 (OpenSpec.ofChange Rows.hashOfSeparatesSpec) false w args)
      (Rows.hashOfSeparatesSpec.post enc Tryd.prog Tryd.f8 false true false false) := by
  refine returnsInHanded_of_change_and (C := Tryd.checked) (X := fun w _ => laidMetH Tryd.prog [("interlace/hash.constants", Rows.laid_interlace_hash_constants)] w) (fun _ _ _ hh h => h.of_heap hh) own_HashOfSeparates started (by kernel_rfl) Tryd.func8
    (ChangeSpec.witness_shaped (enc := enc) (C := Tryd.checked) (os := os) (X := fun w _ => laidMetH Tryd.prog [("interlace/hash.constants", Rows.laid_interlace_hash_constants)] w) false (World.doorLaid Tryd.prog 19 os) #[.agg #[.int .u8 0, .int .u8 0], .slice none 0 0, .slice none 0 0] 8 rfl (World.shaped_of_RefB (by kernel_rfl) (by kernel_rfl)) (by kernel_rfl) (by kernel_rfl) (by kernel_rfl) (door_HashOfSeparates os _)) ?_
  intro W base args ds gs before hval0 hW _ _ hL _
  have hval : ∀ (j : Nat) t v, Tryd.f8.params[j]? = some t → args[j]? = some v → Value.okWide Tryd.prog W .any base t v := hval0
  have hW' := hW
  obtain ⟨p, q, hA0, hV, rfl, hfz, hnd⟩ := hW
  have hA : DataW.TrodAll enc Tryd.prog W 0 (fun _ => true) true Tryd.f8.params.toList args.toList ds p := hA0
  rw [Tryd.params8] at hA hval
  obtain ⟨v0, vs0, d0, ds0, p0, q0, hargs, rfl, rfl, h0, r0⟩ := trodAll_cons hA
  obtain ⟨v1, vs1, d1, ds1, p1, q1, rfl, rfl, rfl, h1, r1⟩ := trodAll_cons r0
  obtain ⟨v2, vs2, d2, ds2, p2, q2, rfl, rfl, rfl, h2, r2⟩ := trodAll_cons r1
  obtain ⟨rfl, rfl, rfl⟩ := trodAll_nil r2
  obtain rfl : args = #[v0, v1, v2] := by cases args; simp_all
  obtain ⟨rfl, rfl⟩ := trodVars_none hV
  have k0 := h0
  have lt0 : ∀ x ∈ p0, x.block < W.heap.size := by obtain ⟨m, hm⟩ := k0; exact DataW.trod_lt m _ _ _ hm
  have k1 := h1
  have lt1 : ∀ x ∈ p1, x.block < W.heap.size := by obtain ⟨m, hm⟩ := k1; exact DataW.trod_lt m _ _ _ hm
  have k2 := h2
  have lt2 : ∀ x ∈ p2, x.block < W.heap.size := by obtain ⟨m, hm⟩ := k2; exact DataW.trod_lt m _ _ _ hm
  obtain ⟨c1, c2, rfl⟩ := opn_arr2 Tryd.underlying48 Tryd.underlying5 (by kernel_rfl) (by kernel_rfl) (hval 0 48 v0 rfl rfl) h0
  obtain ⟨ao1, n1, cap1, ss1, rfl, e1⟩ := opn_strsc Tryd.underlying27 Tryd.underlying9 (by kernel_rfl) (hval 1 27 v1 rfl rfl) h1
  obtain ⟨ao2, n2, cap2, ss2, rfl, e2⟩ := opn_strsc Tryd.underlying27 Tryd.underlying9 (by kernel_rfl) (hval 2 27 v2 rfl rfl) h2
  clear hA0
  obtain ⟨gw, gG⟩ := globs_hash hL
  refine (law_HashOfSeparates c1 c2 ao1 n1 cap1 ss1 ao2 n2 cap2 ss2 W e1 e2 gw gG).mono fun e W' ⟨he, bel⟩ => ?_
  subst he
  exact ⟨_, rfl, _, _, _, [], _, [], hW', trodAll_mk1 (shut_bool Tryd.underlying4 _), (trodAll_cons_mk (Below.trod laidOut (by kernel_rfl) (of_decide_eq_true (by kernel_rfl)) k0 bel lt0) (trodAll_cons_mk (Below.trod laidOut (by kernel_rfl) (of_decide_eq_true (by kernel_rfl)) k1 bel lt1) (trodAll_cons_mk (Below.trod laidOut (by kernel_rfl) (of_decide_eq_true (by kernel_rfl)) k2 bel lt2) trodAll_mk0))), rfl, bel.frame _, fun h => by cases h⟩
theorem row_HashOfSeparates : Rows.HashOfSeparatesSaid :=
  OpenClaim.holds_of_wide 8 Tryd.f8 rfl rfl rfl rfl rfl rfl rfl ⟨rfl, rfl, rfl, rfl, rfl⟩ rfl rfl rfl rfl rfl (by kernel_rfl) Tryd.func8 (by kernel_rfl)
    (of_decide_eq_true (by kernel_rfl)) (by unfold Func.isWrapper; first | (rw [if_pos (by decide +kernel)]; kernel_rfl) | (rw [if_neg (by decide +kernel)]; exact ⟨rfl, rfl⟩))
    (fun os started H enc _ => lifted_HashOfSeparates os started H enc)
theorem hashOfSeparates_holds : Rows.HashOfSeparatesCardSaid :=
  Claim7.holds_tied_plain_at .later [] [.data] true (true, "b36abdd679d6a566766f3d355091612eecd3923b37c3c1363eea7324f64f6711") false
    row_HashOfSeparates (fun _ h => by cases h) (by kernel_rfl) (fun _ h => by cases h) hashOfSeparates_row_tie rfl ⟨rfl, rfl⟩ (by kernel_rfl) rfl
    (fun f fn hf hfn => by
      obtain rfl : f = 8 := Option.some.inj ((show Tryd.prog.funcNamed "interlace/interlacelaw02.HashOfSeparates" = some 8 by kernel_rfl).symm.trans hf) |>.symm
      obtain rfl : fn = Tryd.f8 := (Option.some.inj (Tryd.func8.symm.trans hfn)).symm
      exact ⟨by kernel_rfl, fun j t ht => by
        rw [Tryd.params8] at ht
        have hm : t ∈ [48, 27, 27] := by simpa using Array.mem_of_getElem? ht
        have hall : ([48, 27, 27].all fun u => !Tryd.prog.wantsStandIn u) = true := by kernel_rfl
        exact (show Tryd.prog.wantsStandIn t = false by simpa using List.all_eq_true.1 hall t hm)⟩)
    (by kernel_rfl)
#print axioms hashOfSeparates_holds
end Go.Proofs.YtcmfoipnoejmlaaDoor
