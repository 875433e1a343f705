/- A law's parameter []string in the plain machine: the segment that stands for it. -/
import Derived.Test.YtcmfoipnoejmlaaDoorLSt
import Derived.Test.YtcmfoipnoejmlaaDoorSegB
namespace Go.Proofs.YtcmfoipnoejmlaaDoor
open Go.ChangeShapes Go.WideShapes Go.ChangeAt Go.RowKit
set_option linter.unusedVariables false
set_option linter.unusedSectionVars false
section
variable {P : Program} {W : World} {H : Type} {enc : TypeId × Value → H} {base : Nat}
/-- where a law's slice of strings lies -/
def StrAt (W : World) (ao : Option Addr) (n cap : Nat) (ss : List ByteArray) : Prop :=
  ss.length = n ∧ n ≤ cap ∧ cap ≤ maxLen ∧ ((ao = none ∧ cap = 0) ∨ (cap = 0 ∧ ∃ a, ao = some a) ∨ ∃ b off, ao = some ⟨b, off, none⟩ ∧ 0 < cap ∧ (∀ j, j < cap → (W.cell? ⟨b, off + j, none⟩).isSome = true) ∧ ∀ j, j < n → W.cell? ⟨b, off + j, none⟩ = some (.string (ss.getD j nilB)))
theorem opn_strsc {r : Reach} {t e : TypeId} {v : Value} {d : DataW H} {ps : List MemPlace} (ht : P.underlying t = some (.slice e)) (he : P.underlying e = some .string) (hc : P.cellsOf e = 1) (hval : Value.okWide P W r base t v) (h : DataW.Trod enc P W 0 (fun _ => true) true t v d ps) :
    ∃ ao n cap ss, v = .slice ao n cap ∧ StrAt W ao n cap ss := by
  obtain ⟨a0, len0, cap0, rfl⟩ := okWide_slice ht hval
  obtain ⟨fuel, hf⟩ := h
  rcases Go.Deep.open_slice1 ht hc hf with ⟨hcs, hx⟩ | ⟨a, len, cap, m, n, V, D, Pl, hcs, hb, hl, hm, hmm, hx, hall⟩
  · simp [Value.cells] at hcs
    obtain ⟨rfl, rfl, rfl⟩ := hcs
    exact ⟨none, 0, 0, [], rfl, rfl, Nat.le_refl _, by decide, .inl ⟨rfl, rfl⟩⟩
  · simp [Value.cells] at hcs
    obtain ⟨rfl, rfl, rfl⟩ := hcs
    simp only [if_true] at hmm
    subst hmm
    obtain ⟨l, hl2, hp⟩ := list_choose (p := fun i (c : ByteArray) => V i = .string c) len0 (fun i hi => by
      obtain ⟨s, h1, -, -⟩ := DataW.trod_string he (hall i (by omega)).2
      exact ⟨s, by simpa using h1⟩)
    refine ⟨some a, len0, m, l, rfl, hl2, hl, hm, ?_⟩
    by_cases h0 : m = 0
    · exact .inr (.inl ⟨h0, a, rfl⟩)
    · have hc0 := (hall 0 (by omega)).1
      obtain ⟨b, off, spot⟩ := a
      have hspot : spot = none := by simpa [Addr.add] using World.cell?_spot hc0
      subst hspot
      refine .inr (.inr ⟨b, off, rfl, by omega, fun j hj => ?_, fun j hj => ?_⟩)
      · have := (hall j (by omega)).1
        rw [Addr.add_lit] at this
        rw [this]; rfl
      · have := (hall j (by omega)).1
        rw [Addr.add_lit] at this
        rw [this, hp j (by omega), List.getD_eq_getElem?_getD, List.getElem?_eq_getElem (by omega)]
        rfl
def svs (ss : List ByteArray) : List Value := ss.map Value.string
theorem svs_get {ss : List ByteArray} {k : Nat} (h : k < ss.length) : (svs ss)[k]? = some (.string (ss.getD k nilB)) := by
  unfold svs
  rw [List.getElem?_map, List.getD_eq_getElem?_getD, List.getElem?_eq_getElem h]; rfl
/-- the plain machine's slice of strings that stands for a law's -/
theorem arg_strs {G : List Nat} {K : List (Nat × List Value)} {gk : Nat} (hgk : has G gk = true) (hK : ∀ p, p ∈ K → has G p.1 = true) (hG : ∀ g, has G g = true → g < W.heap.size) {ao : Option Addr} {n cap : Nat} {ss : List ByteArray} (h : StrAt W ao n cap ss) :
    ∃ (A : List Seg) (x : Option Addr), A.length ≤ 1 ∧ (∀ q, q ∈ A → SegAt (sgS W.heap.size G K A) W q) ∧ VR (sgS W.heap.size G K A) (.slice x n cap) (.slice ao n cap) ∧ StrArg (famS W.heap.size K A) (W.heap.size + A.length) x n cap ss := by
  obtain ⟨hl, hn, hm, h⟩ := h
  rcases h with ⟨rfl, rfl⟩ | ⟨rfl, a, rfl⟩ | ⟨b, off, rfl, hc0, hex, hcell⟩
  · have : n = 0 := by omega
    subst this
    exact ⟨[], none, by simp, fun q hq => by simp at hq, VR.mk ⟨rfl, rfl, rfl⟩, hl, hn, .inl ⟨rfl, rfl, rfl⟩⟩
  · have : n = 0 := by omega
    subst this
    refine ⟨[], some (mkA gk (gk * 1024) 0), by simp, fun q hq => by simp at hq, VR.mk ?_, hl, hn, .inr ⟨gk, gk * 1024, 0, rfl, by omega, .inl rfl⟩⟩
    exact ⟨gk, 0, _, if_pos ⟨hgk, rfl⟩, a, 0, rfl, Nat.le_refl _, Nat.le_refl _, Nat.zero_le _, fun h => absurd rfl h, fun _ => rfl, fun _ h => absurd rfl h⟩
  · have hb : b < W.heap.size := cell_lt (hex 0 hc0)
    have hlen : (svs ss).length = n := by unfold svs; rw [List.length_map]; exact hl
    have hs : sgS W.heap.size G K [⟨b, off, svs ss⟩] b (W.heap.size * 1024) = some (b, off, off + n) := by
      unfold sgS
      rw [if_neg (by rintro ⟨_, h⟩; omega), if_pos (by omega)]
      have e : W.heap.size * 1024 / 1024 - W.heap.size = 0 := by omega
      rw [e]
      show (if b = b then some (b, off, off + (svs ss).length) else none) = _
      rw [if_pos rfl, hlen]
    refine ⟨[⟨b, off, svs ss⟩], some (mkA b (W.heap.size * 1024) 0), by simp, ?_, VR.mk ?_, hl, hn, .inr ⟨b, W.heap.size * 1024, 0, rfl, by omega, ?_⟩⟩
    · intro q hq
      simp only [List.mem_singleton] at hq
      subst hq
      refine ⟨hb, fun j hj => ?_, fun j u hu => ?_⟩
      · have hj : j < off + (svs ss).length := hj
        rw [hlen] at hj
        by_cases hn0 : n = 0
        · exact cell_below (hex 0 hc0) (by omega)
        · exact cell_below (hex (n - 1) (by omega)) (by omega)
      · have hj : j < n := by
          have : j < (svs ss).length := (List.getElem?_eq_some_iff.1 hu).1
          omega
        have e : (svs ss)[j]? = some (.string (ss.getD j nilB)) := svs_get (by omega)
        have hu : (svs ss)[j]? = some u := hu
        rw [e] at hu
        simp only [Option.some.injEq] at hu
        subst hu
        exact ⟨_, hcell j hj, plain_refl 3 rfl⟩
    · refine ⟨b, off, off + n, hs, ⟨b, off, none⟩, cap, rfl, hn, Nat.le_refl _, hm, fun _ => rfl, fun _ => rfl, fun ht => ?_⟩
      rw [ver_mk] at ht
      omega
    · by_cases hn0 : n = 0
      · exact .inl hn0
      · refine .inr ⟨by simp; omega, svs ss, ?_, fun i hi => by rw [Nat.zero_add]; exact svs_get (by omega)⟩
        show rowOf ((famK K b).rows ++ segRows W.heap.size b 0 [⟨b, off, svs ss⟩]) (W.heap.size * 1024) = _
        rw [rowOf_skip fun p hp => ?_]
        · unfold segRows
          rw [if_pos rfl]
          show rowOf (((W.heap.size + 0) * 1024, svs ss) :: _) _ = _
          simp [rowOf, Nat.beq_refl]
        · obtain ⟨h1, h2, _⟩ := famK_rows hp
          have := hG _ (hK _ h2)
          rw [h1]; simp only at this; omega
end
end Go.Proofs.YtcmfoipnoejmlaaDoor
