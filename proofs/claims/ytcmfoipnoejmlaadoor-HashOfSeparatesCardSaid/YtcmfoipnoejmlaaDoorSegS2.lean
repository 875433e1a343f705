/- Two parameters []string of one law in the plain machine. -/
import Derived.Test.YtcmfoipnoejmlaaDoorSegS
namespace Go.Proofs.YtcmfoipnoejmlaaDoor
open Go.ChangeShapes Go.WideShapes Go.ChangeAt Go.RowKit
set_option linter.unusedVariables false
set_option linter.unusedSectionVars false
section
variable {W : World} {N : Nat} {G : List Nat} {K : List (Nat × List Value)}
theorem segRows_row {f : Nat} {q : Seg} : ∀ {F : List Seg} {i j : Nat}, F[i]? = some q → q.b = f → rowOf (segRows N f j F) ((N + (j + i)) * 1024) = some q.cs
  | [], i, j, h, _ => by simp at h
  | p :: F, 0, j, h, hb => by
    simp only [List.getElem?_cons_zero, Option.some.injEq] at h
    subst h
    unfold segRows
    rw [if_pos hb]
    simp [rowOf, Nat.beq_refl]
  | p :: F, i + 1, j, h, hb => by
    have ih := segRows_row (F := F) (i := i) (j := j + 1) (by simpa using h) hb
    rw [show j + 1 + i = j + (i + 1) by omega] at ih
    unfold segRows
    split
    · unfold rowOf
      have : Nat.beq ((N + j) * 1024) ((N + (j + (i + 1))) * 1024) = false := by
        cases hq : Nat.beq ((N + j) * 1024) ((N + (j + (i + 1))) * 1024) with
        | false => rfl
        | true => have := Nat.eq_of_beq_eq_true hq; omega
      rw [this]
      exact ih
    · exact ih
theorem sg_at (hK : ∀ p, p ∈ K → has G p.1 = true) (hG : ∀ g, has G g = true → g < N) {F : List Seg} {i : Nat} {q : Seg} (hq : F[i]? = some q) (hb : q.b < N) :
    sgS N G K F q.b ((N + i) * 1024) = some (q.b, q.o, q.o + q.cs.length) ∧ rowOf (famS N K F q.b).rows ((N + i) * 1024) = some q.cs := by
  constructor
  · unfold sgS
    rw [if_neg (by rintro ⟨_, h⟩; omega), if_pos (by omega)]
    have e : (N + i) * 1024 / 1024 - N = i := by omega
    rw [e, hq]
    show (if q.b = q.b then _ else _) = _
    rw [if_pos rfl]
  · show rowOf ((famK K q.b).rows ++ segRows N q.b 0 F) _ = _
    rw [rowOf_skip fun p hp => ?_]
    · have := segRows_row (N := N) (j := 0) hq rfl
      rwa [Nat.zero_add] at this
    · obtain ⟨h1, h2, _⟩ := famK_rows hp
      have := hG _ (hK _ h2)
      rw [h1]; simp only at this; omega
theorem arg_strsP {gk : Nat} (hgk : has G gk = true) (hK : ∀ p, p ∈ K → has G p.1 = true) (hG : ∀ g, has G g = true → g < W.heap.size) {ao : Option Addr} {n cap : Nat} {ss : List ByteArray} (h : StrAt W ao n cap ss) (pre : List Seg) :
    ∃ (A : List Seg) (x : Option Addr), ∀ post, (∀ q, q ∈ A → SegAt (sgS W.heap.size G K (pre ++ A ++ post)) W q) ∧ VR (sgS W.heap.size G K (pre ++ A ++ post)) (.slice x n cap) (.slice ao n cap) ∧ StrArg (famS W.heap.size K (pre ++ A ++ post)) (W.heap.size + (pre ++ A ++ post).length) x n cap ss := by
  obtain ⟨hl, hn, hm, h⟩ := h
  rcases h with ⟨rfl, rfl⟩ | ⟨rfl, a, rfl⟩ | ⟨b, off, rfl, hc0, hex, hcell⟩
  · have : n = 0 := by omega
    subst this
    exact ⟨[], none, fun post => ⟨fun q hq => by simp at hq, VR.mk ⟨rfl, rfl, rfl⟩, hl, hn, .inl ⟨rfl, rfl, rfl⟩⟩⟩
  · have : n = 0 := by omega
    subst this
    have hb := hG _ hgk
    refine ⟨[], some (mkA gk (gk * 1024) 0), fun post => ⟨fun q hq => by simp at hq, VR.mk ?_, hl, hn, .inr ⟨gk, gk * 1024, 0, rfl, by omega, .inl rfl⟩⟩⟩
    exact ⟨gk, 0, _, if_pos ⟨hgk, rfl⟩, a, 0, rfl, Nat.le_refl _, Nat.le_refl _, Nat.zero_le _, fun h => absurd rfl h, fun _ => rfl, fun _ h => absurd rfl h⟩
  · have hb : b < W.heap.size := cell_lt (hex 0 hc0)
    have hlen : (svs ss).length = n := by unfold svs; rw [List.length_map]; exact hl
    have hi : ∀ post, (pre ++ [(⟨b, off, svs ss⟩ : Seg)] ++ post)[pre.length]? = some ⟨b, off, svs ss⟩ := fun post => by
      rw [List.append_assoc, List.getElem?_append_right (Nat.le_refl _)]; simp
    have hs := fun post => sg_at (q := (⟨b, off, svs ss⟩ : Seg)) hK hG (hi post) hb
    refine ⟨[⟨b, off, svs ss⟩], some (mkA b ((W.heap.size + pre.length) * 1024) 0), fun post => ⟨?_, VR.mk ?_, hl, hn, .inr ⟨b, (W.heap.size + pre.length) * 1024, 0, rfl, by omega, ?_⟩⟩⟩
    · intro q hq
      simp only [List.mem_singleton] at hq
      subst hq
      refine ⟨hb, fun j hj => ?_, fun j u hu => ?_⟩
      · have hj : j < off + (svs ss).length := hj
        rw [hlen] at hj
        by_cases hn0 : n = 0
        · exact cell_below (hex 0 hc0) (by omega)
        · exact cell_below (hex (n - 1) (by omega)) (by omega)
      · have hj : j < n := by
          have : j < (svs ss).length := (List.getElem?_eq_some_iff.1 hu).1
          omega
        have e : (svs ss)[j]? = some (.string (ss.getD j nilB)) := svs_get (by omega)
        have hu : (svs ss)[j]? = some u := hu
        rw [e] at hu
        simp only [Option.some.injEq] at hu
        subst hu
        exact ⟨_, hcell j hj, plain_refl 3 rfl⟩
    · have h1 := (hs post).1
      simp only [hlen] at h1
      refine ⟨b, off, off + n, h1, ⟨b, off, none⟩, cap, rfl, hn, Nat.le_refl _, hm, fun _ => rfl, fun _ => rfl, fun ht => ?_⟩
      rw [ver_mk] at ht
      omega
    · by_cases hn0 : n = 0
      · exact .inl hn0
      · exact .inr ⟨by simp; omega, svs ss, (hs post).2, fun i hi => by rw [Nat.zero_add]; exact svs_get (by omega)⟩
end
end Go.Proofs.YtcmfoipnoejmlaaDoor
