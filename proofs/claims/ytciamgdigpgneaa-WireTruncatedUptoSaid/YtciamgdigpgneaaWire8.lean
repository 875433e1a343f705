/- Encoding of lists: strings, and the reference's encoders. -/
import Derived.Test.YtciamgdigpgneaaWire7
namespace Go.Proofs.Ytciamgdigpgneaa
open Go.RowKit WM
set_option maxRecDepth 100000 in
set_option maxHeartbeats 2000000 in
theorem list_string (ao : Option Addr) (n cap : Nat) (l : List (List UInt8)) (w : World) (hs : Sl w ao n cap (l.flatMap cvS)) (hlen : l.length ≤ 100000) (hr : ∀ x ∈ l, x.length ≤ 1000000) (htot : (l.flatMap encB).length ≤ 1000000000) :
    Calls Try.prog 39 #[.slice ao n cap, .func (.func 16) #[] #[]] w (NewBs w (encL encB l)) := by
  have hln : (l.flatMap cvS).length = l.length := by rw [flatMap_len cvS 1 l (fun _ _ => rfl), Nat.mul_one]
  obtain rfl : l.length = n := by rw [← hln]; exact hs.len
  have C := wire_Int (l.length : Int) w (by omega) (by omega)
  obtain ⟨i5, hi, hz, hs1, hby⟩ := inf_u8
  have hel : (enc (l.length : Int)).length ≤ 10 := enc_len (by omega) (by omega)
  have Hf : Hid (encL encB l = enc (l.length : Int) ++ l.flatMap encB) := rfl
  generalize enc (l.length : Int) = E at *
  obtain ⟨B, hB⟩ : ∃ B, B = w.heap.size := ⟨_, rfl⟩
  have HB := Lib.hid hB
  clear hB
  have hcap := hs.fits
  have hsm := hs.small
  unfold maxLen at hsm
  go_enter Try.func39, Try.ntmps39
  go_wp2_with (go_at_call 14; refine C.mono ?_; rintro e w1 ⟨v, rfl, hown0, hbel0⟩)
  clear C
  rw [← HB.out] at hown0 hbel0
  go_loopw [5, 13] (fun o i wr => ∃ (k : Nat), i = .int .i64 k ∧ k ≤ l.length ∧ Own wr B 5 1 o (E ++ (l.take k).flatMap encB).length (u8s (E ++ (l.take k).flatMap encB)) ∧ Below B w wr) (fun _ i _ => l.length - (intOf i).toNat)
  case atStart => exact ⟨0, rfl, Nat.zero_le _, by simpa using hown0, hbel0⟩
  case round =>
    obtain ⟨k, rfl, hk, hown, hbel⟩ := hrel
    have hBw : B ≤ wr.heap.size := by have := hbel.size; rw [← HB.out] at this; exact this
    have hsr : Sl wr ao l.length cap _ := hs.below hbel (Nat.le_of_eq HB.out.symm)
    by_cases hlt : k < l.length
    · obtain ⟨b, off, rfl, hc⟩ := hsr.at hlt
      have hcj : wr.cell? ⟨b, off + k, none⟩ = some (.string ⟨l[k].toArray⟩) := by
        rw [hc k hlt]
        have : (l.flatMap cvS).getD (k * 1 + 0) undef = (cvS l[k]).getD 0 undef := flatMap_part cvS 1 l k (fun _ _ => rfl) hlt 0 (by omega)
        rw [Nat.mul_one] at this
        simpa [cvS] using this
      have Hn : Hid ((l.take (k + 1)).flatMap encB = (l.take k).flatMap encB ++ encB l[k]) := by
        show _ = _
        rw [List.take_succ_eq_append_getElem hlt, List.flatMap_append]; simp
      have hl2 : ((l.take k).flatMap encB).length + (encB l[k]).length ≤ 1000000000 := by
        rw [← List.length_append, ← Hn.out]
        refine Nat.le_trans ?_ htot
        conv => rhs; rw [← List.take_append_drop (k + 1) l, List.flatMap_append, List.length_append]
        omega
      have C1 := wire_Bytes l[k] wr (hr l[k] (List.getElem_mem hlt)) 
      clear hc hsr
      generalize hX : l[k] = X at *
      have HX := Lib.hid hX
      clear hX
      generalize hP : (l.take k).flatMap encB = pre at *
      have HP := Lib.hid hP
      clear hP
      rw [List.length_append] at hown
      generalize hY : encB X = Y at *
      clear hY
      go_wp2_with (first | (go_at_call 16; refine C1.mono ?_; rintro e w1 ⟨v1, rfl, ⟨ao1, cap1, rfl, hown1⟩, hbel1⟩; have hsl1 : Bs w1 ao1 Y.length cap1 Y := (Own.mk' hown1).sl'; have hownk := hown.below hbel1 (Nat.le_refl _); have hbel2 := hbel.trans (hbel1.mono hBw); have hbs2 : B ≤ w1.heap.size := Nat.le_trans hBw hbel1.size) | (refine wpList_append_s rfl (.tmp 17) (.tmp 20) 28 rfl 5 i5 _ 1 Try.underlying28 hi hz hs1 hby rfl B _ _ _ rfl hownk _ _ _ _ rfl hsl1 (u8s_oneCell _) (by omega) (by omega) hbs2 ?_; intro v' w' hown' hg'))
      go_roundw
      case rel => exact ⟨k + 1, by go_num, by omega, by rw [Hn.out, ← List.append_assoc, u8s_append, List.length_append, List.length_append]; exact hown', hownk.grew hg' hbel2 (Nat.le_refl _) hbs2⟩
      case measure => simp [intOf]; omega
    · have hkm : k = l.length := by omega
      have he : E ++ (l.take k).flatMap encB = encL encB l := by rw [Hf.out, hkm, List.take_length]
      rw [he] at hown
      have HK := Lib.hid hkm
      clear hkm he
      go_wp2
      go_ret
      exact ⟨_, rfl, HB.out ▸ hown, HB.out ▸ hbel⟩
set_option maxRecDepth 100000 in
set_option maxHeartbeats 2000000 in
theorem ref_Ints (ao : Option Addr) (n cap : Nat) (l : List Int) (w : World) (hs : Sl w ao n cap (l.flatMap cvI)) (hlen : l.length ≤ 100000) (hr : ∀ x ∈ l, -9223372036854775808 ≤ x ∧ x ≤ 9223372036854775807) (htot : (l.flatMap enc).length ≤ 1000000000) :
    Calls Try.prog 19 #[.slice ao n cap] w (NewBs w (encL enc l)) := by
  have hln : (l.flatMap cvI).length = l.length := by rw [flatMap_len cvI 1 l (fun _ _ => rfl), Nat.mul_one]
  obtain rfl : l.length = n := by rw [← hln]; exact hs.len
  have C := ref_Int (l.length : Int) w (by omega) (by omega)
  obtain ⟨i5, hi, hz, hs1, hby⟩ := inf_u8
  have hel : (enc (l.length : Int)).length ≤ 10 := enc_len (by omega) (by omega)
  have Hf : Hid (encL enc l = enc (l.length : Int) ++ l.flatMap enc) := rfl
  generalize enc (l.length : Int) = E at *
  obtain ⟨B, hB⟩ : ∃ B, B = w.heap.size := ⟨_, rfl⟩
  have HB := Lib.hid hB
  clear hB
  have hcap := hs.fits
  have hsm := hs.small
  unfold maxLen at hsm
  go_enter Try.func19, Try.ntmps19
  go_wp2_with (go_at_call 15; refine C.mono ?_; rintro e w1 ⟨v, rfl, hown0, hbel0⟩)
  clear C
  rw [← HB.out] at hown0 hbel0
  go_loopw [3, 4] (fun o i wr => ∃ (k : Nat), i = .int .i64 k ∧ k ≤ l.length ∧ Own wr B 5 1 o (E ++ (l.take k).flatMap enc).length (u8s (E ++ (l.take k).flatMap enc)) ∧ Below B w wr) (fun _ i _ => l.length - (intOf i).toNat)
  case atStart => exact ⟨0, rfl, Nat.zero_le _, by simpa using hown0, hbel0⟩
  case round =>
    obtain ⟨k, rfl, hk, hown, hbel⟩ := hrel
    have hBw : B ≤ wr.heap.size := by have := hbel.size; rw [← HB.out] at this; exact this
    have hsr : Sl wr ao l.length cap _ := hs.below hbel (Nat.le_of_eq HB.out.symm)
    by_cases hlt : k < l.length
    · obtain ⟨b, off, rfl, hc⟩ := hsr.at hlt
      have hcj : wr.cell? ⟨b, off + k, none⟩ = some (.int .i64 l[k]) := by
        rw [hc k hlt]
        have : (l.flatMap cvI).getD (k * 1 + 0) undef = (cvI l[k]).getD 0 undef := flatMap_part cvI 1 l k (fun _ _ => rfl) hlt 0 (by omega)
        rw [Nat.mul_one] at this
        simpa [cvI] using this
      have Hn : Hid ((l.take (k + 1)).flatMap enc = (l.take k).flatMap enc ++ enc l[k]) := by
        show _ = _
        rw [List.take_succ_eq_append_getElem hlt, List.flatMap_append]; simp
      have hl2 : ((l.take k).flatMap enc).length + (enc l[k]).length ≤ 1000000000 := by
        rw [← List.length_append, ← Hn.out]
        refine Nat.le_trans ?_ htot
        conv => rhs; rw [← List.take_append_drop (k + 1) l, List.flatMap_append, List.length_append]
        omega
      have C1 := ref_Int l[k] wr (hr l[k] (List.getElem_mem hlt)).1 (hr l[k] (List.getElem_mem hlt)).2 
      clear hc hsr
      generalize hX : l[k] = X at *
      have HX := Lib.hid hX
      clear hX
      generalize hP : (l.take k).flatMap enc = pre at *
      have HP := Lib.hid hP
      clear hP
      rw [List.length_append] at hown
      generalize hY : enc X = Y at *
      clear hY
      go_wp2_with (first | (go_at_call 15; refine C1.mono ?_; rintro e w1 ⟨v1, rfl, ⟨ao1, cap1, rfl, hown1⟩, hbel1⟩; have hsl1 : Bs w1 ao1 Y.length cap1 Y := (Own.mk' hown1).sl'; have hownk := hown.below hbel1 (Nat.le_refl _); have hbel2 := hbel.trans (hbel1.mono hBw); have hbs2 : B ≤ w1.heap.size := Nat.le_trans hBw hbel1.size) | (refine wpList_append_s rfl (.tmp 14) (.tmp 19) 28 rfl 5 i5 _ 1 Try.underlying28 hi hz hs1 hby rfl B _ _ _ rfl hownk _ _ _ _ rfl hsl1 (u8s_oneCell _) (by omega) (by omega) hbs2 ?_; intro v' w' hown' hg'))
      go_roundw
      case rel => exact ⟨k + 1, by go_num, by omega, by rw [Hn.out, ← List.append_assoc, u8s_append, List.length_append, List.length_append]; exact hown', hownk.grew hg' hbel2 (Nat.le_refl _) hbs2⟩
      case measure => simp [intOf]; omega
    · have hkm : k = l.length := by omega
      have he : E ++ (l.take k).flatMap enc = encL enc l := by rw [Hf.out, hkm, List.take_length]
      rw [he] at hown
      have HK := Lib.hid hkm
      clear hkm he
      go_wp2
      go_ret
      exact ⟨_, rfl, HB.out ▸ hown, HB.out ▸ hbel⟩
set_option maxRecDepth 100000 in
set_option maxHeartbeats 2000000 in
theorem ref_Strings (ao : Option Addr) (n cap : Nat) (l : List (List UInt8)) (w : World) (hs : Sl w ao n cap (l.flatMap cvS)) (hlen : l.length ≤ 100000) (hr : ∀ x ∈ l, x.length ≤ 1000000) (htot : (l.flatMap encB).length ≤ 1000000000) :
    Calls Try.prog 21 #[.slice ao n cap] w (NewBs w (encL encB l)) := by
  have hln : (l.flatMap cvS).length = l.length := by rw [flatMap_len cvS 1 l (fun _ _ => rfl), Nat.mul_one]
  obtain rfl : l.length = n := by rw [← hln]; exact hs.len
  have C := ref_Int (l.length : Int) w (by omega) (by omega)
  obtain ⟨i5, hi, hz, hs1, hby⟩ := inf_u8
  have hel : (enc (l.length : Int)).length ≤ 10 := enc_len (by omega) (by omega)
  have Hf : Hid (encL encB l = enc (l.length : Int) ++ l.flatMap encB) := rfl
  generalize enc (l.length : Int) = E at *
  obtain ⟨B, hB⟩ : ∃ B, B = w.heap.size := ⟨_, rfl⟩
  have HB := Lib.hid hB
  clear hB
  have hcap := hs.fits
  have hsm := hs.small
  unfold maxLen at hsm
  go_enter Try.func21, Try.ntmps21
  go_wp2_with (go_at_call 15; refine C.mono ?_; rintro e w1 ⟨v, rfl, hown0, hbel0⟩)
  clear C
  rw [← HB.out] at hown0 hbel0
  go_loopw [3, 4] (fun o i wr => ∃ (k : Nat), i = .int .i64 k ∧ k ≤ l.length ∧ Own wr B 5 1 o (E ++ (l.take k).flatMap encB).length (u8s (E ++ (l.take k).flatMap encB)) ∧ Below B w wr) (fun _ i _ => l.length - (intOf i).toNat)
  case atStart => exact ⟨0, rfl, Nat.zero_le _, by simpa using hown0, hbel0⟩
  case round =>
    obtain ⟨k, rfl, hk, hown, hbel⟩ := hrel
    have hBw : B ≤ wr.heap.size := by have := hbel.size; rw [← HB.out] at this; exact this
    have hsr : Sl wr ao l.length cap _ := hs.below hbel (Nat.le_of_eq HB.out.symm)
    by_cases hlt : k < l.length
    · obtain ⟨b, off, rfl, hc⟩ := hsr.at hlt
      have hcj : wr.cell? ⟨b, off + k, none⟩ = some (.string ⟨l[k].toArray⟩) := by
        rw [hc k hlt]
        have : (l.flatMap cvS).getD (k * 1 + 0) undef = (cvS l[k]).getD 0 undef := flatMap_part cvS 1 l k (fun _ _ => rfl) hlt 0 (by omega)
        rw [Nat.mul_one] at this
        simpa [cvS] using this
      have Hn : Hid ((l.take (k + 1)).flatMap encB = (l.take k).flatMap encB ++ encB l[k]) := by
        show _ = _
        rw [List.take_succ_eq_append_getElem hlt, List.flatMap_append]; simp
      have hl2 : ((l.take k).flatMap encB).length + (encB l[k]).length ≤ 1000000000 := by
        rw [← List.length_append, ← Hn.out]
        refine Nat.le_trans ?_ htot
        conv => rhs; rw [← List.take_append_drop (k + 1) l, List.flatMap_append, List.length_append]
        omega
      have C1 := ref_Bytes l[k] wr (hr l[k] (List.getElem_mem hlt)) 
      clear hc hsr
      generalize hX : l[k] = X at *
      have HX := Lib.hid hX
      clear hX
      generalize hP : (l.take k).flatMap encB = pre at *
      have HP := Lib.hid hP
      clear hP
      rw [List.length_append] at hown
      generalize hY : encB X = Y at *
      clear hY
      go_wp2_with (first | (go_at_call 17; refine C1.mono ?_; rintro e w1 ⟨v1, rfl, ⟨ao1, cap1, rfl, hown1⟩, hbel1⟩; have hsl1 : Bs w1 ao1 Y.length cap1 Y := (Own.mk' hown1).sl'; have hownk := hown.below hbel1 (Nat.le_refl _); have hbel2 := hbel.trans (hbel1.mono hBw); have hbs2 : B ≤ w1.heap.size := Nat.le_trans hBw hbel1.size) | (refine wpList_append_s rfl (.tmp 14) (.tmp 19) 28 rfl 5 i5 _ 1 Try.underlying28 hi hz hs1 hby rfl B _ _ _ rfl hownk _ _ _ _ rfl hsl1 (u8s_oneCell _) (by omega) (by omega) hbs2 ?_; intro v' w' hown' hg'))
      go_roundw
      case rel => exact ⟨k + 1, by go_num, by omega, by rw [Hn.out, ← List.append_assoc, u8s_append, List.length_append, List.length_append]; exact hown', hownk.grew hg' hbel2 (Nat.le_refl _) hbs2⟩
      case measure => simp [intOf]; omega
    · have hkm : k = l.length := by omega
      have he : E ++ (l.take k).flatMap encB = encL encB l := by rw [Hf.out, hkm, List.take_length]
      rw [he] at hown
      have HK := Lib.hid hkm
      clear hkm he
      go_wp2
      go_ret
      exact ⟨_, rfl, HB.out ▸ hown, HB.out ▸ hbel⟩
end Go.Proofs.Ytciamgdigpgneaa
