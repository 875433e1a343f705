/- Encoding of strings and lists. -/
import Derived.Test.YtciamgdigpgneaaWire5
import Derived.Test.YtciamgdigpgneaaLib3
namespace Go.Proofs.Ytciamgdigpgneaa
open Go.RowKit WM

set_option maxRecDepth 100000 in
set_option maxHeartbeats 2000000 in
theorem wire_Bytes (l : List UInt8) (w : World) (hlen : l.length ≤ 1000000) :
    Calls Try.prog 16 #[.string ⟨l.toArray⟩] w (NewBs w (encB l)) := by
  have C := wire_Int (l.length : Int) w (by omega) (by omega)
  obtain ⟨i5, hi, hz, hs1, hby⟩ := inf_u8
  have hsz : ByteArray.size ⟨l.toArray⟩ = l.length := by simp [ByteArray.size]
  have hel : (enc (l.length : Int)).length ≤ 10 := enc_len (by omega) (by omega)
  have Hf : Hid (encB l = enc (l.length : Int) ++ l) := rfl
  generalize enc (l.length : Int) = E at *
  go_enter Try.func16, Try.ntmps16
  go_wp2_with (first | (go_at_call 14; refine C.mono ?_; rintro e w1 ⟨v, rfl, hown, hbel⟩; have hbs := hbel.size) | (refine wpList_append_t rfl _ _ 28 9 rfl 5 i5 Try.underlying28 Try.underlying9 hi hz hs1 hby _ _ _ _ rfl hown l rfl (by omega) hbs ?_; intro v' w' hown' hg'))
  go_ret
  refine ⟨v', rfl, ?_, hown.grew hg' hbel (Nat.le_refl _) hbs⟩
  rw [Hf.out, List.length_append, u8s_append]
  exact hown'

set_option maxRecDepth 100000 in
set_option maxHeartbeats 2000000 in
theorem ref_Bytes (l : List UInt8) (w : World) (hlen : l.length ≤ 1000000) :
    Calls Try.prog 17 #[.string ⟨l.toArray⟩] w (NewBs w (encB l)) := by
  have C := ref_Int (l.length : Int) w (by omega) (by omega)
  obtain ⟨i5, hi, hz, hs1, hby⟩ := inf_u8
  have hsz : ByteArray.size ⟨l.toArray⟩ = l.length := by simp [ByteArray.size]
  have hel : (enc (l.length : Int)).length ≤ 10 := enc_len (by omega) (by omega)
  have Hf : Hid (encB l = enc (l.length : Int) ++ l) := rfl
  generalize enc (l.length : Int) = E at *
  go_enter Try.func17, Try.ntmps17
  go_wp2_with (first | (go_at_call 15; refine C.mono ?_; rintro e w1 ⟨v, rfl, hown, hbel⟩; have hbs := hbel.size) | (refine wpList_append_t rfl _ _ 28 9 rfl 5 i5 Try.underlying28 Try.underlying9 hi hz hs1 hby _ _ _ _ rfl hown l rfl (by omega) hbs ?_; intro v' w' hown' hg'))
  go_ret
  refine ⟨v', rfl, ?_, hown.grew hg' hbel (Nat.le_refl _) hbs⟩
  rw [Hf.out, List.length_append, u8s_append]
  exact hown'

set_option maxRecDepth 100000 in
set_option maxHeartbeats 2000000 in
theorem list_int (ao : Option Addr) (n cap : Nat) (l : List Int) (w : World) (hs : Sl w ao n cap (l.flatMap cvI)) (hlen : l.length ≤ 100000) (hr : ∀ x ∈ l, -9223372036854775808 ≤ x ∧ x ≤ 9223372036854775807) (htot : (l.flatMap enc).length ≤ 1000000000) :
    Calls Try.prog 38 #[.slice ao n cap, .func (.func 14) #[] #[]] w (NewBs w (encL enc l)) := by
  have hln : (l.flatMap cvI).length = l.length := by rw [flatMap_len cvI 1 l (fun _ _ => rfl), Nat.mul_one]
  obtain rfl : l.length = n := by rw [← hln]; exact hs.len
  have C := wire_Int (l.length : Int) w (by omega) (by omega)
  obtain ⟨i5, hi, hz, hs1, hby⟩ := inf_u8
  have hel : (enc (l.length : Int)).length ≤ 10 := enc_len (by omega) (by omega)
  have Hf : Hid (encL enc l = enc (l.length : Int) ++ l.flatMap enc) := rfl
  generalize enc (l.length : Int) = E at *
  obtain ⟨B, hB⟩ : ∃ B, B = w.heap.size := ⟨_, rfl⟩
  have HB := Lib.hid hB
  clear hB
  have hcap := hs.fits
  have hsm := hs.small
  unfold maxLen at hsm
  go_enter Try.func38, Try.ntmps38
  go_wp2_with (go_at_call 14; refine C.mono ?_; rintro e w1 ⟨v, rfl, hown0, hbel0⟩)
  clear C
  rw [← HB.out] at hown0 hbel0
  go_loopw [5, 13] (fun o i wr => ∃ (k : Nat), i = .int .i64 k ∧ k ≤ l.length ∧ Own wr B 5 1 o (E ++ (l.take k).flatMap enc).length (u8s (E ++ (l.take k).flatMap enc)) ∧ Below B w wr) (fun _ i _ => l.length - (intOf i).toNat)
  case atStart => exact ⟨0, rfl, Nat.zero_le _, by simpa using hown0, hbel0⟩
  case round =>
    obtain ⟨k, rfl, hk, hown, hbel⟩ := hrel
    have hBw : B ≤ wr.heap.size := by have := hbel.size; rw [← HB.out] at this; exact this
    have hsr : Sl wr ao l.length cap _ := hs.below hbel (Nat.le_of_eq HB.out.symm)
    by_cases hlt : k < l.length
    · obtain ⟨b, off, rfl, hc⟩ := hsr.at hlt
      have hcj : wr.cell? ⟨b, off + k, none⟩ = some (.int .i64 l[k]) := by
        rw [hc k hlt]
        have : (l.flatMap cvI).getD (k * 1 + 0) undef = (cvI l[k]).getD 0 undef := flatMap_part cvI 1 l k (fun _ _ => rfl) hlt 0 (by omega)
        rw [Nat.mul_one] at this
        simpa [cvI] using this
      have Hn : Hid ((l.take (k + 1)).flatMap enc = (l.take k).flatMap enc ++ enc l[k]) := by
        show _ = _
        rw [List.take_succ_eq_append_getElem hlt, List.flatMap_append]; simp
      have hl2 : ((l.take k).flatMap enc).length + (enc l[k]).length ≤ 1000000000 := by
        rw [← List.length_append, ← Hn.out]
        refine Nat.le_trans ?_ htot
        conv => rhs; rw [← List.take_append_drop (k + 1) l, List.flatMap_append, List.length_append]
        omega
      have C1 := wire_Int l[k] wr (hr l[k] (List.getElem_mem hlt)).1 (hr l[k] (List.getElem_mem hlt)).2 
      clear hc hsr
      generalize hX : l[k] = X at *
      have HX := Lib.hid hX
      clear hX
      generalize hP : (l.take k).flatMap enc = pre at *
      have HP := Lib.hid hP
      clear hP
      rw [List.length_append] at hown
      generalize hY : enc X = Y at *
      clear hY
      go_wp2_with (first | (go_at_call 14; refine C1.mono ?_; rintro e w1 ⟨v1, rfl, ⟨ao1, cap1, rfl, hown1⟩, hbel1⟩; have hsl1 : Bs w1 ao1 Y.length cap1 Y := (Own.mk' hown1).sl'; have hownk := hown.below hbel1 (Nat.le_refl _); have hbel2 := hbel.trans (hbel1.mono hBw); have hbs2 : B ≤ w1.heap.size := Nat.le_trans hBw hbel1.size) | (refine wpList_append_s rfl (.tmp 17) (.tmp 20) 28 rfl 5 i5 _ 1 Try.underlying28 hi hz hs1 hby rfl B _ _ _ rfl hownk _ _ _ _ rfl hsl1 (u8s_oneCell _) (by omega) (by omega) hbs2 ?_; intro v' w' hown' hg'))
      go_roundw
      case rel => exact ⟨k + 1, by go_num, by omega, by rw [Hn.out, ← List.append_assoc, u8s_append, List.length_append, List.length_append]; exact hown', hownk.grew hg' hbel2 (Nat.le_refl _) hbs2⟩
      case measure => simp [intOf]; omega
    · have hkm : k = l.length := by omega
      have he : E ++ (l.take k).flatMap enc = encL enc l := by rw [Hf.out, hkm, List.take_length]
      rw [he] at hown
      have HK := Lib.hid hkm
      clear hkm he
      go_wp2
      go_ret
      exact ⟨_, rfl, HB.out ▸ hown, HB.out ▸ hbel⟩
end Go.Proofs.Ytciamgdigpgneaa
