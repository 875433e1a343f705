/- Comparisons of lists of strings and of digests. -/
import Derived.Test.YtciamgdigpgneaaWire15
namespace Go.Proofs.Ytciamgdigpgneaa
open Go.RowKit WM

set_option maxRecDepth 100000 in
set_option maxHeartbeats 2000000 in
theorem ref_SameTexts (ao : Option Addr) (n cap : Nat) (l : List (List UInt8)) (ao' : Option Addr) (n' cap' : Nat) (l' : List (List UInt8)) (w : World) (hs : Sl w ao n cap (l.flatMap cvS)) (hs' : Sl w ao' n' cap' (l'.flatMap cvS)) :
    Calls Try.prog 33 #[.slice ao n cap, .slice ao' n' cap'] w fun e w' => e = .returned (.bool (l == l')) ∧ Below w.heap.size w w' := by
  have hln := len_cvS hs
  have hln' := len_cvS hs'
  subst hln hln'
  have hcap := hs.fits
  have hsm := hs.small
  have hcap' := hs'.fits
  have hsm' := hs'.small
  unfold maxLen at hsm hsm'
  by_cases hne : l.length = l'.length
  · have eN : ((l.length : Int) != (l'.length : Int)) = false := by simp [hne]
    have HN := Lib.hid hne
    clear hne
    go_enter Try.func33, Try.ntmps33
    go_wp2
    go_loopw [5] (fun i wr => ∃ (k q : Nat), i = .int .i64 k ∧ k ≤ l.length ∧ Hid (l.take k = l'.take k) ∧ wr = w.drewN q) (fun i _ => l.length - (intOf i).toNat)
    case atStart => exact ⟨0, 0, rfl, Nat.zero_le _, by simp [Hid], rfl⟩
    case round =>
      obtain ⟨k, q, rfl, hk, HT, rfl⟩ := hrel
      by_cases hlt : k < l.length
      · have hlt' : k < l'.length := by have := HN.out; omega
        obtain ⟨b, off, rfl, hc⟩ := hs.at hlt
        obtain ⟨b', off', rfl, hc'⟩ := hs'.at hlt'
        have ca : w.cell? ⟨b, off + k, none⟩ = some (.string ⟨l[k].toArray⟩) := cell_cv1 (f := cvS) (fun _ => rfl) hc hlt hlt
        have cb : w.cell? ⟨b', off' + k, none⟩ = some (.string ⟨l'[k].toArray⟩) := cell_cv1 (f := cvS) (fun _ => rfl) hc' hlt' hlt'
        clear hc hc'
        by_cases hxy : l[k] = l'[k]
        · have HT2 : Hid (l.take (k + 1) = l'.take (k + 1)) := by
            show _ = _
            rw [List.take_succ_eq_append_getElem hlt, List.take_succ_eq_append_getElem hlt', HT.out, hxy]
          have eX : (l[k] == l'[k]) = true := by simp [hxy]
          clear hxy
          generalize l[k] = x at *
          generalize l'[k] = y at *
          go_wp2
          go_quiet (fail)
          go_wp2
          go_roundw
          case rel => exact ⟨k + 1, _, by go_num, by omega, HT2, rfl⟩
          case measure => simp [intOf]; omega
        · have hf : (l == l') = false := by
            rw [beq_eq_false_iff_ne]
            rintro rfl
            exact hxy rfl
          have HF := Lib.hid hf
          clear hf
          have eX : (l[k] == l'[k]) = false := by rw [beq_eq_false_iff_ne]; exact hxy
          have HX := Lib.hid hxy
          clear hxy
          generalize l[k] = x at *
          generalize l'[k] = y at *
          go_wp2
          go_quiet (fail)
          go_wp2
          go_ret
          exact ⟨by rw [HF.out]; rfl, (below_drewN' w q).trans ⟨rfl, rfl, rfl, Nat.le_refl _, fun _ _ => rfl⟩⟩
      · have hf : (l == l') = true := by
          have h1 : l.take k = l := List.take_of_length_le (by omega)
          have h2 : l'.take k = l' := List.take_of_length_le (by have := HN.out; omega)
          rw [beq_iff_eq, ← h1, ← h2]; exact HT.out
        have HF := Lib.hid hf
        clear hf
        go_wp2
        go_ret
        exact ⟨by rw [HF.out]; rfl, below_drewN' _ _⟩
  · have hf : (l == l') = false := by
      rw [beq_eq_false_iff_ne]
      rintro rfl
      exact hne rfl
    have eN : ((l.length : Int) != (l'.length : Int)) = true := by rw [bne_iff_ne]; omega
    have HF := Lib.hid hf
    clear hf hne
    go_enter Try.func33, Try.ntmps33
    go_wp2
    go_ret
    exact ⟨by rw [HF.out]; rfl, Below.refl _ _⟩

set_option maxRecDepth 100000 in
set_option maxHeartbeats 2000000 in
theorem ref_SameDigests (ao : Option Addr) (n cap : Nat) (l : List (List UInt8)) (ao' : Option Addr) (n' cap' : Nat) (l' : List (List UInt8)) (w : World) (hs : SlN w ao n cap 16 (l.flatMap cvD)) (hs' : SlN w ao' n' cap' 16 (l'.flatMap cvD)) (h16 : ∀ x ∈ l, x.length = 16) (h16' : ∀ x ∈ l', x.length = 16) :
    Calls Try.prog 36 #[.slice ao n cap, .slice ao' n' cap'] w fun e w' => e = .returned (.bool (l == l')) ∧ Below w.heap.size w w' := by
  obtain ⟨i5, hi, hz, hs1, hby⟩ := inf_u8
  have hln := len_cvD hs h16
  have hln' := len_cvD hs' h16'
  subst hln hln'
  have hcap := hs.fits
  have hsm := hs.small
  have hcap' := hs'.fits
  have hsm' := hs'.small
  unfold maxLen at hsm hsm'
  by_cases hne : l.length = l'.length
  · have eN : ((l.length : Int) != (l'.length : Int)) = false := by simp [hne]
    have HN := Lib.hid hne
    clear hne
    go_enter Try.func36, Try.ntmps36
    go_wp2
    go_loopw [5] (fun i wr => ∃ (k q : Nat), i = .int .i64 k ∧ k ≤ l.length ∧ Hid (l.take k = l'.take k) ∧ wr = w.drewN q) (fun i _ => l.length - (intOf i).toNat)
    case atStart => exact ⟨0, 0, rfl, Nat.zero_le _, by simp [Hid], rfl⟩
    case round =>
      obtain ⟨k, q, rfl, hk, HT, rfl⟩ := hrel
      by_cases hlt : k < l.length
      · have hlt' : k < l'.length := by have := HN.out; omega
        obtain ⟨b, off, rfl, hc⟩ := hs.at hlt
        obtain ⟨b', off', rfl, hc'⟩ := hs'.at hlt'
        have ca : CellsAt w b (off + k * 16) (u8s l[k]) := SlN.part hc (cvD_len h16) hlt rfl hs
        have cb : CellsAt w b' (off' + k * 16) (u8s l'[k]) := SlN.part hc' (cvD_len h16') hlt' rfl hs'
        have hX16 := h16 l[k] (List.getElem_mem hlt)
        have hY16 := h16' l'[k] (List.getElem_mem hlt')
        have HXl : Hid ((Try.prog.info? 57).map (·.size) = some (u8s l[k]).length) := by show _ = _; rw [u8s_length, hX16]; kernel_rfl
        have HYl : Hid ((Try.prog.info? 57).map (·.size) = some (u8s l'[k]).length) := by show _ = _; rw [u8s_length, hY16]; kernel_rfl
        have hQ := fun (w : World) => run_equalIn_bytes (P := Try.prog) (w := w) 9998 Try.underlying57 Try.underlying5 hi hs1 l[k] l'[k] hX16 hY16
        clear hX16 hY16
        clear hc hc'
        by_cases hxy : l[k] = l'[k]
        · have HT2 : Hid (l.take (k + 1) = l'.take (k + 1)) := by
            show _ = _
            rw [List.take_succ_eq_append_getElem hlt, List.take_succ_eq_append_getElem hlt', HT.out, hxy]
          have eX : (l[k] == l'[k]) = true := by simp [hxy]
          clear hxy
          generalize l[k] = x at *
          generalize l'[k] = y at *
          go_wp2
          refine wp_region_quiet_lit (by kernel_rfl) (by kernel_rfl) ?_
          repeat (first | (refine wpQuiet_load_at (w := World.drewN w q) rfl 57 (.tmp 19) rfl b (off + k * 16) rfl _ _ (ca.drewN q) Try.underlying57 rfl HXl.out ?_) | (refine wpQuiet_load_at (w := World.drewN w q) rfl 57 (.tmp 23) rfl b' (off' + k * 16) rfl _ _ (cb.drewN q) Try.underlying57 rfl HYl.out ?_) | quiet_step (fail))
          refine wpQuiet_nil ?_
          intro _ hw'
          obtain ⟨nq, hw''⟩ := hw'
          subst hw''
          go_wp2
          go_roundw
          case rel => exact ⟨k + 1, _, by go_num, by omega, HT2, rfl⟩
          case measure => simp [intOf]; omega
        · have hf : (l == l') = false := by
            rw [beq_eq_false_iff_ne]
            rintro rfl
            exact hxy rfl
          have HF := Lib.hid hf
          clear hf
          have eX : (l[k] == l'[k]) = false := by rw [beq_eq_false_iff_ne]; exact hxy
          have HX := Lib.hid hxy
          clear hxy
          generalize l[k] = x at *
          generalize l'[k] = y at *
          go_wp2
          refine wp_region_quiet_lit (by kernel_rfl) (by kernel_rfl) ?_
          repeat (first | (refine wpQuiet_load_at (w := World.drewN w q) rfl 57 (.tmp 19) rfl b (off + k * 16) rfl _ _ (ca.drewN q) Try.underlying57 rfl HXl.out ?_) | (refine wpQuiet_load_at (w := World.drewN w q) rfl 57 (.tmp 23) rfl b' (off' + k * 16) rfl _ _ (cb.drewN q) Try.underlying57 rfl HYl.out ?_) | quiet_step (fail))
          refine wpQuiet_nil ?_
          intro _ hw'
          obtain ⟨nq, hw''⟩ := hw'
          subst hw''
          go_wp2
          go_ret
          exact ⟨by rw [HF.out]; rfl, (below_drewN' w q).trans ⟨rfl, rfl, rfl, Nat.le_refl _, fun _ _ => rfl⟩⟩
      · have hf : (l == l') = true := by
          have h1 : l.take k = l := List.take_of_length_le (by omega)
          have h2 : l'.take k = l' := List.take_of_length_le (by have := HN.out; omega)
          rw [beq_iff_eq, ← h1, ← h2]; exact HT.out
        have HF := Lib.hid hf
        clear hf
        go_wp2
        go_ret
        exact ⟨by rw [HF.out]; rfl, below_drewN' _ _⟩
  · have hf : (l == l') = false := by
      rw [beq_eq_false_iff_ne]
      rintro rfl
      exact hne rfl
    have eN : ((l.length : Int) != (l'.length : Int)) = true := by rw [bne_iff_ne]; omega
    have HF := Lib.hid hf
    clear hf hne
    go_enter Try.func36, Try.ntmps36
    go_wp2
    go_ret
    exact ⟨by rw [HF.out]; rfl, Below.refl _ _⟩
end Go.Proofs.Ytciamgdigpgneaa
