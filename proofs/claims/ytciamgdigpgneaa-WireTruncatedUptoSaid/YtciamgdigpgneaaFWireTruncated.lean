/-
  WireTruncated: proved for every input whose bulk is at most 1048576 (the second form); no further condition.
-/
import Derived.Test.YtciamgdigpgneaaOpen
import Derived.Test.YtciamgdigpgneaaWire26
namespace Go.Proofs.Ytciamgdigpgneaa.frWireTruncated
open Go.ChangeShapes Go.WideShapes Go.ChangeAt Go.RowKit
open Go.ChangeMaps (open_string shut_string)
set_option linter.unusedVariables false
set_option maxRecDepth 100000 in
theorem contract (H : Type) (enc : TypeId × Value → H) (W : World) (base : Nat) (args : Array Value) (ds gs : List (DataW H)) (before : List MemPlace)
    (hval : ∀ (j : Nat) t v, Try.f9.params[j]? = some t → args[j]? = some v → Value.okWide Try.prog W .any base t v)
    (hW : DataW.Whole enc Try.prog Try.f9.params.toList Rows.wireTruncatedSpec.vars false W args.toList ds gs before)
    (hk : Rows.uptoSmall H (ds ++ gs) = true) :
    Calls Try.prog 9 args W fun e W' => ∃ v, e = .returned v ∧ Rows.wireTruncatedSpec.post enc Try.prog Try.f9 false true false false W args v W' := by
  have hW' := hW
  obtain ⟨p, q, hA0, hV, rfl, hfz, hnd⟩ := hW
  have hA : DataW.TrodAll enc Try.prog W 0 (fun _ => true) true Try.f9.params.toList args.toList ds p := hA0
  rw [Try.params9] at hA hval
  obtain ⟨v0, vs0, d0, ds0, p0, q0, hargs, rfl, rfl, h0, r0⟩ := trodAll_cons hA
  obtain ⟨v1, vs1, d1, ds1, p1, q1, rfl, rfl, rfl, h1, r1⟩ := trodAll_cons r0
  obtain ⟨v2, vs2, d2, ds2, p2, q2, rfl, rfl, rfl, h2, r2⟩ := trodAll_cons r1
  obtain ⟨v3, vs3, d3, ds3, p3, q3, rfl, rfl, rfl, h3, r3⟩ := trodAll_cons r2
  obtain ⟨v4, vs4, d4, ds4, p4, q4, rfl, rfl, rfl, h4, r4⟩ := trodAll_cons r3
  obtain ⟨rfl, rfl, rfl⟩ := trodAll_nil r4
  obtain rfl : args = #[v0, v1, v2, v3, v4] := by cases args; simp_all
  obtain ⟨rfl, rfl⟩ := trodVars_none hV
  have k0 := h0
  have lt0 : ∀ x ∈ p0, x.block < W.heap.size := by obtain ⟨m, hm⟩ := k0; exact DataW.trod_lt m _ _ _ hm
  have k1 := h1
  have lt1 : ∀ x ∈ p1, x.block < W.heap.size := by obtain ⟨m, hm⟩ := k1; exact DataW.trod_lt m _ _ _ hm
  have k2 := h2
  have lt2 : ∀ x ∈ p2, x.block < W.heap.size := by obtain ⟨m, hm⟩ := k2; exact DataW.trod_lt m _ _ _ hm
  have k3 := h3
  have lt3 : ∀ x ∈ p3, x.block < W.heap.size := by obtain ⟨m, hm⟩ := k3; exact DataW.trod_lt m _ _ _ hm
  have k4 := h4
  have lt4 : ∀ x ∈ p4, x.block < W.heap.size := by obtain ⟨m, hm⟩ := k4; exact DataW.trod_lt m _ _ _ hm
  obtain ⟨a0, rfl, -, -, w0⟩ := open_int Try.underlying3 (hval 0 3 v0 rfl rfl) h0
  have bd0 := bounds_i64 w0
  obtain ⟨s1, rfl, hd1, -, hs1⟩ := open_string Try.underlying9 (hval 1 9 v1 rfl rfl) h1
  obtain ⟨ao2, n2, cap2, l2, rfl, hs2, hr2, hd2⟩ := opn_ints Try.underlying22 Try.underlying3 (by kernel_rfl) (hval 2 22 v2 rfl rfl) h2
  obtain ⟨ao3, n3, cap3, l3, rfl, hs3, hd3⟩ := opn_strs Try.underlying23 Try.underlying9 (by kernel_rfl) (hval 3 23 v3 rfl rfl) h3
  obtain ⟨ao4, n4, cap4, l4, rfl, hs4, h164, hn4, hd4⟩ := opn_arrs Try.underlying24 Try.underlying57 Try.underlying5 (by kernel_rfl) (by kernel_rfl) (hval 4 24 v4 rfl rfl) h4 (by decide)
  have hb1 : s1.data.toList.length ≤ 1048576 := by
    have : Rows.uptoBulk d1 ≤ 1048576 := by refine Nat.le_trans (bulk_mem ?_) (small_of hk); simp
    rw [hd1] at this
    simp only [Rows.uptoBulk] at this; omega
  have hb2 : n2 ≤ 1048576 := by
    have : Rows.uptoBulk d2 ≤ 1048576 := by refine Nat.le_trans (bulk_mem ?_) (small_of hk); simp
    rcases hd2 with ⟨_, h0⟩ | ⟨es, sp, h, hl, _⟩
    · omega
    · rw [h] at this
      have := bulk_slice es sp
      omega
  have hln3 : l3.length = n3 := by have := hs3.len; simpa using this
  have hb3 : l3.length + (l3.map List.length).sum ≤ 1048576 := by
    have : Rows.uptoBulk d3 ≤ 1048576 := by refine Nat.le_trans (bulk_mem ?_) (small_of hk); simp
    rcases hd3 with ⟨_, h0⟩ | ⟨sp, h⟩
    · have : l3 = [] := List.eq_nil_of_length_eq_zero (by omega)
      rw [this]; simp
    · rw [h] at this
      have h2 := bulk_strs (H := H) l3 sp
      rw [sum_succ] at h2
      omega
  have hb4 : n4 ≤ 1048576 := by
    have : Rows.uptoBulk d4 ≤ 1048576 := by refine Nat.le_trans (bulk_mem ?_) (small_of hk); simp
    rcases hd4 with ⟨_, h0⟩ | ⟨es, sp, h, hl, _⟩
    · omega
    · rw [h] at this
      have := bulk_slice es sp
      omega
  clear hA0
  refine (law_Truncated a0 bd0.1 bd0.2 s1.data.toList ao2 n2 cap2 l2 ao3 n3 cap3 l3 ao4 n4 cap4 l4 W (by rw [flatMap_cvI]; exact hs2) hr2 (by rw [flatMap_cvS]; exact hs3) hs4 h164 (by omega) (by have := hs2.len; simp at this; omega) (by omega) (by omega)).mono fun e W' ⟨he, bel⟩ => ?_
  subst he
  exact ⟨_, rfl, _, _, _, [], _, [], hW', trodAll_mk1 (shut_bool Try.underlying4 _), (trodAll_cons_mk (Below.trod laidOut (by kernel_rfl) (of_decide_eq_true (by kernel_rfl)) k0 bel lt0) (trodAll_cons_mk (Below.trod laidOut (by kernel_rfl) (of_decide_eq_true (by kernel_rfl)) k1 bel lt1) (trodAll_cons_mk (Below.trod laidOut (by kernel_rfl) (of_decide_eq_true (by kernel_rfl)) k2 bel lt2) (trodAll_cons_mk (Below.trod laidOut (by kernel_rfl) (of_decide_eq_true (by kernel_rfl)) k3 bel lt3) (trodAll_cons_mk (Below.trod laidOut (by kernel_rfl) (of_decide_eq_true (by kernel_rfl)) k4 bel lt4) trodAll_mk0))))), rfl, bel.frame _, fun h => by cases h⟩

set_option maxRecDepth 100000 in
theorem lifted (os : Os) (started : os.Started) (H : Type) (enc : TypeId × Value → H) (F : Stop.Interp) :
    ReturnsInHanded {} Try.checked os 9 .any ((Rows.OpenSpec.upto Rows.wireTruncatedSpec).pre6 enc Try.prog Try.f9 Rows.wireTruncatedUptoRow.domain false) (((Rows.OpenSpec.upto Rows.wireTruncatedSpec).at F).post enc Try.prog Try.f9 false true false false) := by
  refine returnsInHanded_of_cond (C := Try.checked) (s := Rows.OpenSpec.upto Rows.wireTruncatedSpec) (k := Rows.uptoSmall) rfl own started (by kernel_rfl) Try.func9
    (OpenSpec.witness (enc := enc) (C := Try.checked) (s := Rows.OpenSpec.upto Rows.wireTruncatedSpec) (k := Rows.uptoSmall) rfl false ⟨#[], #[.int .i64 0, .string ⟨#[]⟩, .slice none 0 0, .slice none 0 0, .slice none 0 0], []⟩ 8 (by kernel_rfl) (by kernel_rfl) (by kernel_rfl)
      (x := ([.lit (.int .i64 0), .lit (.string []), .nil, .nil, .nil], [], [])) (by kernel_rfl) rfl (by kernel_rfl)) ?_
  intro W base args ds gs before hval hW _ hk _
  exact contract H enc W base args ds gs before hval hW hk
theorem over : Rows.wireTruncatedUptoRow.holds Try.pinned (Rows.OpenSpec.upto Rows.wireTruncatedSpec) :=
  OpenClaim.holds_of_cond 9 Try.f9 rfl rfl rfl rfl rfl rfl rfl ⟨rfl, rfl, rfl, rfl, rfl⟩ rfl rfl rfl rfl rfl (by kernel_rfl) Try.func9 (by kernel_rfl)
    (of_decide_eq_true (by kernel_rfl)) (by unfold Func.isWrapper; first | (rw [if_pos (by decide +kernel)]; kernel_rfl) | (rw [if_neg (by decide +kernel)]; exact ⟨rfl, rfl⟩))
    (fun os started H enc _ F => lifted os started H enc F)
theorem proved : Rows.WireTruncatedUptoSaid := over

end Go.Proofs.Ytciamgdigpgneaa.frWireTruncated
namespace Go.Proofs.Ytciamgdigpgneaa
theorem wireTruncated_upto_holds : Rows.WireTruncatedUptoSaid := frWireTruncated.proved
#print axioms wireTruncated_upto_holds
end Go.Proofs.Ytciamgdigpgneaa
