/- Comparisons of lists. -/
import Derived.Test.YtciamgdigpgneaaWire14
namespace Go.Proofs.Ytciamgdigpgneaa
open Go.RowKit WM
theorem below_drewN' (w : World) (n : Nat) : Below w.heap.size w (w.drewN n) := ⟨rfl, rfl, rfl, Nat.le_refl _, fun _ _ => rfl⟩
theorem len_cvI {w : World} {ao n cap} {l : List Int} (h : Sl w ao n cap (l.flatMap cvI)) : l.length = n := by
  have := h.len; rwa [flatMap_len cvI 1 l (fun _ _ => rfl), Nat.mul_one] at this
theorem len_cvS {w : World} {ao n cap} {l : List (List UInt8)} (h : Sl w ao n cap (l.flatMap cvS)) : l.length = n := by
  have := h.len; rwa [flatMap_len cvS 1 l (fun _ _ => rfl), Nat.mul_one] at this
theorem len_cvD {w : World} {ao n cap} {l : List (List UInt8)} (h : SlN w ao n cap 16 (l.flatMap cvD)) (h16 : ∀ x ∈ l, x.length = 16) : l.length = n := by
  have := h.len; rw [flatMap_len cvD 16 l (cvD_len h16)] at this; omega
theorem cell_cv1 {α : Type} {f : α → List Value} (hf : ∀ x, (f x).length = 1) {w : World} {b off n : Nat} {l : List α} (hc : ∀ j, j < n → w.cell? ⟨b, off + j, none⟩ = some ((l.flatMap f).getD j undef)) {k : Nat} (hk : k < l.length) (hn : k < n) : w.cell? ⟨b, off + k, none⟩ = some ((f l[k]).getD 0 undef) := by
  rw [hc k hn]
  have := flatMap_part f 1 l k (fun x _ => hf x) hk 0 (by omega)
  rw [Nat.mul_one] at this
  simpa using this

set_option maxRecDepth 100000 in
set_option maxHeartbeats 2000000 in
theorem ref_SameInts (ao : Option Addr) (n cap : Nat) (l : List Int) (ao' : Option Addr) (n' cap' : Nat) (l' : List Int) (w : World) (hs : Sl w ao n cap (l.flatMap cvI)) (hs' : Sl w ao' n' cap' (l'.flatMap cvI)) :
    Calls Try.prog 30 #[.slice ao n cap, .slice ao' n' cap'] w fun e w' => e = .returned (.bool (l == l')) ∧ Below w.heap.size w w' := by
  have hln := len_cvI hs
  have hln' := len_cvI hs'
  subst hln hln'
  have hcap := hs.fits
  have hsm := hs.small
  have hcap' := hs'.fits
  have hsm' := hs'.small
  unfold maxLen at hsm hsm'
  by_cases hne : l.length = l'.length
  · have eN : ((l.length : Int) != (l'.length : Int)) = false := by simp [hne]
    have HN := Lib.hid hne
    clear hne
    go_enter Try.func30, Try.ntmps30
    go_wp2
    go_loopw [5] (fun i wr => ∃ (k q : Nat), i = .int .i64 k ∧ k ≤ l.length ∧ Hid (l.take k = l'.take k) ∧ wr = w.drewN q) (fun i _ => l.length - (intOf i).toNat)
    case atStart => exact ⟨0, 0, rfl, Nat.zero_le _, by simp [Hid], rfl⟩
    case round =>
      obtain ⟨k, q, rfl, hk, HT, rfl⟩ := hrel
      by_cases hlt : k < l.length
      · have hlt' : k < l'.length := by have := HN.out; omega
        obtain ⟨b, off, rfl, hc⟩ := hs.at hlt
        obtain ⟨b', off', rfl, hc'⟩ := hs'.at hlt'
        have ca : w.cell? ⟨b, off + k, none⟩ = some (.int .i64 l[k]) := cell_cv1 (f := cvI) (fun _ => rfl) hc hlt hlt
        have cb : w.cell? ⟨b', off' + k, none⟩ = some (.int .i64 l'[k]) := cell_cv1 (f := cvI) (fun _ => rfl) hc' hlt' hlt'
        clear hc hc'
        by_cases hxy : l[k] = l'[k]
        · have HT2 : Hid (l.take (k + 1) = l'.take (k + 1)) := by
            show _ = _
            rw [List.take_succ_eq_append_getElem hlt, List.take_succ_eq_append_getElem hlt', HT.out, hxy]
          have eX : (l[k] != l'[k]) = false := by simp [hxy]
          clear hxy
          generalize l[k] = x at *
          generalize l'[k] = y at *
          go_wp2
          go_quiet (fail)
          go_wp2
          go_roundw
          case rel => exact ⟨k + 1, _, by go_num, by omega, HT2, rfl⟩
          case measure => simp [intOf]; omega
        · have hf : (l == l') = false := by
            rw [beq_eq_false_iff_ne]
            rintro rfl
            exact hxy rfl
          have HF := Lib.hid hf
          clear hf
          have eX : (l[k] != l'[k]) = true := by rw [bne_iff_ne]; exact hxy
          have HX := Lib.hid hxy
          clear hxy
          generalize l[k] = x at *
          generalize l'[k] = y at *
          go_wp2
          go_quiet (fail)
          go_wp2
          go_ret
          exact ⟨by rw [HF.out]; rfl, (below_drewN' w q).trans ⟨rfl, rfl, rfl, Nat.le_refl _, fun _ _ => rfl⟩⟩
      · have hf : (l == l') = true := by
          have h1 : l.take k = l := List.take_of_length_le (by omega)
          have h2 : l'.take k = l' := List.take_of_length_le (by have := HN.out; omega)
          rw [beq_iff_eq, ← h1, ← h2]; exact HT.out
        have HF := Lib.hid hf
        clear hf
        go_wp2
        go_ret
        exact ⟨by rw [HF.out]; rfl, below_drewN' _ _⟩
  · have hf : (l == l') = false := by
      rw [beq_eq_false_iff_ne]
      rintro rfl
      exact hne rfl
    have eN : ((l.length : Int) != (l'.length : Int)) = true := by rw [bne_iff_ne]; omega
    have HF := Lib.hid hf
    clear hf hne
    go_enter Try.func30, Try.ntmps30
    go_wp2
    go_ret
    exact ⟨by rw [HF.out]; rfl, Below.refl _ _⟩
end Go.Proofs.Ytciamgdigpgneaa
