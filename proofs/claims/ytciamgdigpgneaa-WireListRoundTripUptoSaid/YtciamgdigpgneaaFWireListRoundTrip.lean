/-
  WireListRoundTrip: proved for every input whose bulk is at most 1048576 (the second form); no further condition.
-/
import Derived.Test.YtciamgdigpgneaaOpen
import Derived.Test.YtciamgdigpgneaaWire21
namespace Go.Proofs.Ytciamgdigpgneaa.frWireListRoundTrip
open Go.ChangeShapes Go.WideShapes Go.ChangeAt Go.RowKit
open Go.ChangeMaps (open_string shut_string)
set_option linter.unusedVariables false
set_option maxRecDepth 100000 in
theorem contract (H : Type) (enc : TypeId × Value → H) (W : World) (base : Nat) (args : Array Value) (ds gs : List (DataW H)) (before : List MemPlace)
    (hval : ∀ (j : Nat) t v, Try.f8.params[j]? = some t → args[j]? = some v → Value.okWide Try.prog W .any base t v)
    (hW : DataW.Whole enc Try.prog Try.f8.params.toList Rows.wireListRoundTripSpec.vars false W args.toList ds gs before)
    (hk : Rows.uptoSmall H (ds ++ gs) = true) :
    Calls Try.prog 8 args W fun e W' => ∃ v, e = .returned v ∧ Rows.wireListRoundTripSpec.post enc Try.prog Try.f8 false true false false W args v W' := by
  have hW' := hW
  obtain ⟨p, q, hA0, hV, rfl, hfz, hnd⟩ := hW
  have hA : DataW.TrodAll enc Try.prog W 0 (fun _ => true) true Try.f8.params.toList args.toList ds p := hA0
  rw [Try.params8] at hA hval
  obtain ⟨v0, vs0, d0, ds0, p0, q0, hargs, rfl, rfl, h0, r0⟩ := trodAll_cons hA
  obtain ⟨v1, vs1, d1, ds1, p1, q1, rfl, rfl, rfl, h1, r1⟩ := trodAll_cons r0
  obtain ⟨v2, vs2, d2, ds2, p2, q2, rfl, rfl, rfl, h2, r2⟩ := trodAll_cons r1
  obtain ⟨v3, vs3, d3, ds3, p3, q3, rfl, rfl, rfl, h3, r3⟩ := trodAll_cons r2
  obtain ⟨v4, vs4, d4, ds4, p4, q4, rfl, rfl, rfl, h4, r4⟩ := trodAll_cons r3
  obtain ⟨rfl, rfl, rfl⟩ := trodAll_nil r4
  obtain rfl : args = #[v0, v1, v2, v3, v4] := by cases args; simp_all
  obtain ⟨rfl, rfl⟩ := trodVars_none hV
  have k0 := h0
  have lt0 : ∀ x ∈ p0, x.block < W.heap.size := by obtain ⟨m, hm⟩ := k0; exact DataW.trod_lt m _ _ _ hm
  have k1 := h1
  have lt1 : ∀ x ∈ p1, x.block < W.heap.size := by obtain ⟨m, hm⟩ := k1; exact DataW.trod_lt m _ _ _ hm
  have k2 := h2
  have lt2 : ∀ x ∈ p2, x.block < W.heap.size := by obtain ⟨m, hm⟩ := k2; exact DataW.trod_lt m _ _ _ hm
  have k3 := h3
  have lt3 : ∀ x ∈ p3, x.block < W.heap.size := by obtain ⟨m, hm⟩ := k3; exact DataW.trod_lt m _ _ _ hm
  have k4 := h4
  have lt4 : ∀ x ∈ p4, x.block < W.heap.size := by obtain ⟨m, hm⟩ := k4; exact DataW.trod_lt m _ _ _ hm
  obtain ⟨s0, rfl, hd0, -, hs0⟩ := open_string Try.underlying9 (hval 0 9 v0 rfl rfl) h0
  obtain ⟨ao1, n1, cap1, l1, rfl, hs1, hr1, hd1⟩ := opn_ints Try.underlying22 Try.underlying3 (by kernel_rfl) (hval 1 22 v1 rfl rfl) h1
  obtain ⟨ao2, n2, cap2, l2, rfl, hs2, hd2⟩ := opn_strs Try.underlying23 Try.underlying9 (by kernel_rfl) (hval 2 23 v2 rfl rfl) h2
  obtain ⟨ao3, n3, cap3, l3, rfl, hs3, h163, hn3, hd3⟩ := opn_arrs Try.underlying24 Try.underlying57 Try.underlying5 (by kernel_rfl) (by kernel_rfl) (hval 3 24 v3 rfl rfl) h3 (by decide)
  obtain ⟨ao4, n4, cap4, l4, rfl, hs4, hd4⟩ := opn_bs Try.underlying28 Try.underlying5 (by kernel_rfl) (hval 4 28 v4 rfl rfl) h4
  have hb0 : s0.data.toList.length ≤ 1048576 := by
    have : Rows.uptoBulk d0 ≤ 1048576 := by refine Nat.le_trans (bulk_mem ?_) (small_of hk); simp
    rw [hd0] at this
    simp only [Rows.uptoBulk] at this; omega
  have hb1 : n1 ≤ 1048576 := by
    have : Rows.uptoBulk d1 ≤ 1048576 := by refine Nat.le_trans (bulk_mem ?_) (small_of hk); simp
    rcases hd1 with ⟨_, h0⟩ | ⟨es, sp, h, hl, _⟩
    · omega
    · rw [h] at this
      have := bulk_slice es sp
      omega
  have hln2 : l2.length = n2 := by have := hs2.len; simpa using this
  have hb2 : l2.length + (l2.map List.length).sum ≤ 1048576 := by
    have : Rows.uptoBulk d2 ≤ 1048576 := by refine Nat.le_trans (bulk_mem ?_) (small_of hk); simp
    rcases hd2 with ⟨_, h0⟩ | ⟨sp, h⟩
    · have : l2 = [] := List.eq_nil_of_length_eq_zero (by omega)
      rw [this]; simp
    · rw [h] at this
      have h2 := bulk_strs (H := H) l2 sp
      rw [sum_succ] at h2
      omega
  have hb3 : n3 ≤ 1048576 := by
    have : Rows.uptoBulk d3 ≤ 1048576 := by refine Nat.le_trans (bulk_mem ?_) (small_of hk); simp
    rcases hd3 with ⟨_, h0⟩ | ⟨es, sp, h, hl, _⟩
    · omega
    · rw [h] at this
      have := bulk_slice es sp
      omega
  have hb4 : n4 ≤ 1048576 := by
    have : Rows.uptoBulk d4 ≤ 1048576 := by refine Nat.le_trans (bulk_mem ?_) (small_of hk); simp
    rcases hd4 with ⟨_, h0⟩ | ⟨es, sp, h, hl, _⟩
    · omega
    · rw [h] at this
      have := bulk_slice es sp
      omega
  clear hA0
  refine (law_ListRoundTrip s0.data.toList ao1 n1 cap1 l1 ao2 n2 cap2 l2 ao3 n3 cap3 l3 ao4 n4 cap4 l4 W (by rw [flatMap_cvI]; exact hs1) hr1 (by rw [flatMap_cvS]; exact hs2) hs3 h163 hs4 (by omega) (by have := hs1.len; simp at this; omega) (by omega) (by omega) (by have := hs4.length; omega)).mono fun e W' ⟨he, bel⟩ => ?_
  subst he
  exact ⟨_, rfl, _, _, _, [], _, [], hW', trodAll_mk1 (shut_bool Try.underlying4 _), (trodAll_cons_mk (Below.trod laidOut (by kernel_rfl) (of_decide_eq_true (by kernel_rfl)) k0 bel lt0) (trodAll_cons_mk (Below.trod laidOut (by kernel_rfl) (of_decide_eq_true (by kernel_rfl)) k1 bel lt1) (trodAll_cons_mk (Below.trod laidOut (by kernel_rfl) (of_decide_eq_true (by kernel_rfl)) k2 bel lt2) (trodAll_cons_mk (Below.trod laidOut (by kernel_rfl) (of_decide_eq_true (by kernel_rfl)) k3 bel lt3) (trodAll_cons_mk (Below.trod laidOut (by kernel_rfl) (of_decide_eq_true (by kernel_rfl)) k4 bel lt4) trodAll_mk0))))), rfl, bel.frame _, fun h => by cases h⟩

set_option maxRecDepth 100000 in
theorem lifted (os : Os) (started : os.Started) (H : Type) (enc : TypeId × Value → H) (F : Stop.Interp) :
    ReturnsInHanded {} Try.checked os 8 .any ((Rows.OpenSpec.upto Rows.wireListRoundTripSpec).pre6 enc Try.prog Try.f8 Rows.wireListRoundTripUptoRow.domain false) (((Rows.OpenSpec.upto Rows.wireListRoundTripSpec).at F).post enc Try.prog Try.f8 false true false false) := by
  refine returnsInHanded_of_cond (C := Try.checked) (s := Rows.OpenSpec.upto Rows.wireListRoundTripSpec) (k := Rows.uptoSmall) rfl own started (by kernel_rfl) Try.func8
    (OpenSpec.witness (enc := enc) (C := Try.checked) (s := Rows.OpenSpec.upto Rows.wireListRoundTripSpec) (k := Rows.uptoSmall) rfl false ⟨#[], #[.string ⟨#[]⟩, .slice none 0 0, .slice none 0 0, .slice none 0 0, .slice none 0 0], []⟩ 8 (by kernel_rfl) (by kernel_rfl) (by kernel_rfl)
      (x := ([.lit (.string []), .nil, .nil, .nil, .nil], [], [])) (by kernel_rfl) rfl (by kernel_rfl)) ?_
  intro W base args ds gs before hval hW _ hk _
  exact contract H enc W base args ds gs before hval hW hk
theorem over : Rows.wireListRoundTripUptoRow.holds Try.pinned (Rows.OpenSpec.upto Rows.wireListRoundTripSpec) :=
  OpenClaim.holds_of_cond 8 Try.f8 rfl rfl rfl rfl rfl rfl rfl ⟨rfl, rfl, rfl, rfl, rfl⟩ rfl rfl rfl rfl rfl (by kernel_rfl) Try.func8 (by kernel_rfl)
    (of_decide_eq_true (by kernel_rfl)) (by unfold Func.isWrapper; first | (rw [if_pos (by decide +kernel)]; kernel_rfl) | (rw [if_neg (by decide +kernel)]; exact ⟨rfl, rfl⟩))
    (fun os started H enc _ F => lifted os started H enc F)
theorem proved : Rows.WireListRoundTripUptoSaid := over

end Go.Proofs.Ytciamgdigpgneaa.frWireListRoundTrip
namespace Go.Proofs.Ytciamgdigpgneaa
theorem wireListRoundTrip_upto_holds : Rows.WireListRoundTripUptoSaid := frWireListRoundTrip.proved
#print axioms wireListRoundTrip_upto_holds
end Go.Proofs.Ytciamgdigpgneaa
