/- A law's parameter []byte in the plain machine: the segment that stands for it. -/
import Derived.Test.YtcmfoipnoejmlaaDoorLSm
import Derived.Test.YtcmfoipnoejmlaaDoorOpen
namespace Go.Proofs.YtcmfoipnoejmlaaDoor
open Go.ChangeShapes Go.WideShapes Go.ChangeAt Go.RowKit
set_option linter.unusedVariables false
set_option linter.unusedSectionVars false
section
variable {P : Program} {W : World} {H : Type} {enc : TypeId × Value → H} {base : Nat}
theorem cell_below {b j k : Nat} (h : (W.cell? ⟨b, k, none⟩).isSome = true) (hj : j ≤ k) : (W.cell? ⟨b, j, none⟩).isSome = true := by
  unfold World.cell? at h ⊢
  simp only at h ⊢
  split at h
  · rename_i c _ _ hb
    simp only [Option.isSome_none, Bool.false_eq_true, if_false] at h ⊢
    have : k < c.size := by
      by_cases hk : k < c.size
      · exact hk
      · rw [Array.getElem?_eq_none (by omega)] at h; simp at h
    rw [Array.getElem?_eq_getElem (by omega)]; rfl
  · simp at h
theorem cell_lt {b k : Nat} (h : (W.cell? ⟨b, k, none⟩).isSome = true) : b < W.heap.size := by
  unfold World.cell? at h
  simp only at h
  by_cases hb : b < W.heap.size
  · exact hb
  · rw [Array.getElem?_eq_none (by omega)] at h; simp at h
theorem opn_bsc {r : Reach} {t e : TypeId} {v : Value} {d : DataW H} {ps : List MemPlace} (ht : P.underlying t = some (.slice e)) (he : P.underlying e = some (.int .u8)) (hc : P.cellsOf e = 1) (hval : Value.okWide P W r base t v) (h : DataW.Trod enc P W 0 (fun _ => true) true t v d ps) :
    ∃ ao n cap, ∃ l : List UInt8, v = .slice ao n cap ∧ l.length = n ∧ n ≤ cap ∧ cap ≤ maxLen ∧ ((ao = none ∧ cap = 0) ∨ (cap = 0 ∧ ∃ a, ao = some a) ∨ ∃ b off, ao = some ⟨b, off, none⟩ ∧ 0 < cap ∧ (∀ j, j < cap → (W.cell? ⟨b, off + j, none⟩).isSome = true) ∧ ∀ j, j < n → W.cell? ⟨b, off + j, none⟩ = some (vb (l.getD j 0))) := by
  obtain ⟨a0, len0, cap0, rfl⟩ := okWide_slice ht hval
  obtain ⟨fuel, hf⟩ := h
  rcases Go.Deep.open_slice1 ht hc hf with ⟨hcs, hx⟩ | ⟨a, len, cap, m, n, V, D, Pl, hcs, hb, hl, hm, hmm, hx, hall⟩
  · simp [Value.cells] at hcs
    obtain ⟨rfl, rfl, rfl⟩ := hcs
    exact ⟨none, 0, 0, [], rfl, rfl, Nat.le_refl _, by decide, .inl ⟨rfl, rfl⟩⟩
  · simp [Value.cells] at hcs
    obtain ⟨rfl, rfl, rfl⟩ := hcs
    simp only [if_true] at hmm
    subst hmm
    obtain ⟨l, hl2, hp⟩ := list_choose (p := fun i (c : UInt8) => V i = u8v c) len0 (fun i hi => by
      obtain ⟨m', h1, -, h3⟩ := DataW.trod_int he (hall i (by omega)).2
      obtain ⟨c, rfl⟩ := wf_u8 h3
      exact ⟨c, by simpa [u8v] using h1⟩)
    refine ⟨some a, len0, m, l, rfl, hl2, hl, hm, ?_⟩
    by_cases h0 : m = 0
    · exact .inr (.inl ⟨h0, a, rfl⟩)
    · have hc0 := (hall 0 (by omega)).1
      obtain ⟨b, off, spot⟩ := a
      have hspot : spot = none := by simpa [Addr.add] using World.cell?_spot hc0
      subst hspot
      refine .inr (.inr ⟨b, off, rfl, by omega, fun j hj => ?_, fun j hj => ?_⟩)
      · have := (hall j (by omega)).1
        rw [Addr.add_lit] at this
        rw [this]; rfl
      · have := (hall j (by omega)).1
        rw [Addr.add_lit] at this
        rw [this, hp j (by omega), List.getD_eq_getElem?_getD, List.getElem?_eq_getElem (by omega)]
        rfl
theorem rowOf_skip {u : Nat} {m : List (Nat × List Value)} : ∀ {l : List (Nat × List Value)}, (∀ p, p ∈ l → p.1 ≠ u) → rowOf (l ++ m) u = rowOf m u
  | [], _ => rfl
  | p :: l, h => by
    show (bif Nat.beq p.1 u then some p.2 else rowOf (l ++ m) u) = _
    rw [beq_no (h p (by simp)), cond_false]
    exact rowOf_skip fun q hq => h q (by simp [hq])
/-- the plain machine's slice of bytes that stands for a law's -/
theorem arg_bytes {G : List Nat} {K : List (Nat × List Value)} {gk : Nat} (hgk : has G gk = true) (hK : ∀ p, p ∈ K → has G p.1 = true) (hG : ∀ g, has G g = true → g < W.heap.size) {ao : Option Addr} {n cap : Nat} {l : List UInt8} (hl : l.length = n) (hn : n ≤ cap) (hm : cap ≤ maxLen)
    (h : (ao = none ∧ cap = 0) ∨ (cap = 0 ∧ ∃ a, ao = some a) ∨ ∃ b off, ao = some ⟨b, off, none⟩ ∧ 0 < cap ∧ (∀ j, j < cap → (W.cell? ⟨b, off + j, none⟩).isSome = true) ∧ ∀ j, j < n → W.cell? ⟨b, off + j, none⟩ = some (vb (l.getD j 0))) :
    ∃ (A : List Seg) (x : Option Addr), A.length ≤ 1 ∧ (∀ q, q ∈ A → SegAt (sgS W.heap.size G K A) W q) ∧ VR (sgS W.heap.size G K A) (.slice x n cap) (.slice ao n cap) ∧ ByteArg (famS W.heap.size K A) (W.heap.size + A.length) x n l := by
  rcases h with ⟨rfl, rfl⟩ | ⟨rfl, a, rfl⟩ | ⟨b, off, rfl, hc0, hex, hcell⟩
  · have : n = 0 := by omega
    subst this
    exact ⟨[], none, by simp, fun q hq => by simp at hq, VR.mk ⟨rfl, rfl, rfl⟩, hl, .inl rfl⟩
  · have : n = 0 := by omega
    subst this
    refine ⟨[], some (mkA gk (gk * 1024) 0), by simp, fun q hq => by simp at hq, VR.mk ?_, hl, .inl rfl⟩
    exact ⟨gk, 0, _, if_pos ⟨hgk, rfl⟩, a, 0, rfl, Nat.le_refl _, Nat.le_refl _, Nat.zero_le _, fun h => absurd rfl h, fun _ => rfl, fun _ h => absurd rfl h⟩
  · have hb : b < W.heap.size := cell_lt (hex 0 hc0)
    have hs : sgS W.heap.size G K [⟨b, off, bvs l⟩] b (W.heap.size * 1024) = some (b, off, off + n) := by
      unfold sgS
      rw [if_neg (by rintro ⟨_, h⟩; omega), if_pos (by omega)]
      have e : W.heap.size * 1024 / 1024 - W.heap.size = 0 := by omega
      rw [e]
      show (if b = b then some (b, off, off + (bvs l).length) else none) = _
      rw [if_pos rfl, bvs_len, hl]
    refine ⟨[⟨b, off, bvs l⟩], some (mkA b (W.heap.size * 1024) 0), by simp, ?_, VR.mk ?_, hl, ?_⟩
    · intro q hq
      simp only [List.mem_singleton] at hq
      subst hq
      refine ⟨hb, fun j hj => ?_, fun j u hu => ?_⟩
      · simp only [bvs_len, hl] at hj
        by_cases hn0 : n = 0
        · exact cell_below (hex 0 hc0) (by omega)
        · exact cell_below (hex (n - 1) (by omega)) (by omega)
      · have hj : j < n := by
          have := (List.getElem?_eq_some_iff.1 hu).1
          rw [bvs_len] at this; omega
        have e : (bvs l)[j]? = some (vb (l.getD j 0)) := bvs_get (by omega)
        rw [e] at hu
        simp only [Option.some.injEq] at hu
        subst hu
        exact ⟨_, hcell j hj, plain_refl 3 rfl⟩
    · refine ⟨b, off, off + n, hs, ⟨b, off, none⟩, cap, rfl, hn, Nat.le_refl _, hm, fun _ => rfl, fun _ => rfl, fun ht => ?_⟩
      rw [ver_mk] at ht
      omega
    · by_cases hn0 : n = 0
      · exact .inl hn0
      · refine .inr ⟨b, W.heap.size * 1024, 0, bvs l, rfl, by simp; omega, ?_, by rw [bvs_len]; omega, by rw [List.drop_zero, List.take_of_length_le (by rw [bvs_len]; omega)]⟩
        show rowOf ((famK K b).rows ++ segRows W.heap.size b 0 [⟨b, off, bvs l⟩]) (W.heap.size * 1024) = _
        rw [rowOf_skip fun p hp => ?_]
        · unfold segRows
          rw [if_pos rfl]
          show rowOf (((W.heap.size + 0) * 1024, bvs l) :: _) _ = _
          simp [rowOf, Nat.beq_refl]
        · obtain ⟨h1, h2, _⟩ := famK_rows hp
          have := hG _ (hK _ h2)
          rw [h1]; simp only at this; omega
end
end Go.Proofs.YtcmfoipnoejmlaaDoor
