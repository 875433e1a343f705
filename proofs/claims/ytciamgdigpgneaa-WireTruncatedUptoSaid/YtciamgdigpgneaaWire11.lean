/- Lists of digests: the reference's encoding. -/
import Derived.Test.YtciamgdigpgneaaWire10
namespace Go.Proofs.Ytciamgdigpgneaa
open Go.RowKit WM
set_option maxRecDepth 100000 in
set_option maxHeartbeats 2000000 in
theorem ref_Digests (ao : Option Addr) (n cap : Nat) (l : List (List UInt8)) (w : World) (hs : SlN w ao n cap 16 (l.flatMap cvD)) (h16 : ∀ x ∈ l, x.length = 16) (hlen : l.length ≤ 100000) :
    Calls Try.prog 23 #[.slice ao n cap] w (NewBs w (encL (fun d => d) l)) := by
  have htot : (l.flatMap (fun d => d)).length = l.length * 16 := by
    clear hs hlen
    induction l with
    | nil => simp
    | cons x l ih => rw [List.flatMap_cons, List.length_append, ih (fun y hy => h16 y (by simp [hy])), h16 x (by simp), List.length_cons]; omega
  have hln := flatMap_len cvD 16 l (cvD_len h16)
  obtain rfl : l.length = n := by have := hs.len; rw [hln] at this; omega
  have C := ref_Int (l.length : Int) w (by omega) (by omega)
  obtain ⟨i5, hi, hz, hs1, hby⟩ := inf_u8
  obtain ⟨ig, hig, hzg, hsg, hbg⟩ := inf_digest
  have hel : (enc (l.length : Int)).length ≤ 10 := enc_len (by omega) (by omega)
  have Hf : Hid (encL (fun d => d) l = enc (l.length : Int) ++ l.flatMap (fun d => d)) := rfl
  generalize enc (l.length : Int) = E at *
  obtain ⟨B, hB⟩ : ∃ B, B = w.heap.size := ⟨_, rfl⟩
  have HB := Lib.hid hB
  clear hB
  have hcap := hs.fits
  have hsm := hs.small
  unfold maxLen at hsm
  have Hln := Lib.hid hln
  have Htot := Lib.hid htot
  clear hln htot
  go_enter Try.func23, Try.ntmps23
  go_wp2_with (go_at_call 15; refine C.mono ?_; rintro e w1 ⟨v, rfl, hown0, hbel0⟩)
  clear C
  rw [← HB.out] at hown0 hbel0
  go_loopw [3, 4] (fun o i wr => ∃ (k : Nat), i = .int .i64 k ∧ k ≤ l.length ∧ Own wr B 5 1 o (E ++ (l.take k).flatMap (fun d => d)).length (u8s (E ++ (l.take k).flatMap (fun d => d))) ∧ Below B w wr) (fun _ i _ => l.length - (intOf i).toNat)
  case atStart => exact ⟨0, rfl, Nat.zero_le _, by simpa using hown0, hbel0⟩
  case round =>
    obtain ⟨k, rfl, hk, hown, hbel⟩ := hrel
    have hBw : B ≤ wr.heap.size := by have := hbel.size; rw [← HB.out] at this; exact this
    have hsr : SlN wr ao l.length cap 16 _ := hs.below hbel (Nat.le_of_eq HB.out.symm)
    by_cases hlt : k < l.length
    · obtain ⟨b, off, rfl, hc⟩ := hsr.at hlt
      have hca : CellsAt wr b (off + k * 16) (u8s l[k]) := SlN.part hc (cvD_len h16) hlt rfl hsr
      have hX16 := h16 l[k] (List.getElem_mem hlt)
      have Hn : Hid ((l.take (k + 1)).flatMap (fun d => d) = (l.take k).flatMap (fun d => d) ++ l[k]) := by
        show _ = _
        rw [List.take_succ_eq_append_getElem hlt, List.flatMap_append]; simp
      have hl2 : ((l.take k).flatMap (fun d => d)).length ≤ 10000000 := by
        have : ((l.take k).flatMap (fun d => d)).length ≤ (l.flatMap (fun d => d)).length := by
          conv => rhs; rw [← List.take_append_drop k l, List.flatMap_append, List.length_append]
          omega
        have := Htot.out
        omega
      clear hc hsr
      generalize l[k] = X at *
      generalize hP : (l.take k).flatMap (fun d => d) = pre at *
      have HP := Lib.hid hP
      clear hP
      rw [List.length_append] at hown
      have hsl1 : Bs wr (some ⟨b, off + k * 16, none⟩) X.length X.length X := by
        refine ⟨by rw [u8s_length], Nat.le_refl _, by rw [hX16]; simp [maxLen], by simp, .inr ⟨_, _, rfl, fun j hj => ?_⟩⟩
        have hj' : j < (u8s X).length := by rw [u8s_length]; exact hj
        rw [hca j (u8s X)[j] (by simp [hj'])]
        simp [hj']
      have hxl : X.length ≤ 16 := Nat.le_of_eq hX16
      rw [hX16] at hsl1 hxl
      have HX16 := Lib.hid hX16
      clear hX16
      go_wp2_with (refine wpList_append_s rfl (.tmp 14) (.tmp 18) 28 rfl 5 i5 _ 1 Try.underlying28 hi hz hs1 hby rfl B _ _ _ rfl hown _ _ _ _ rfl hsl1 (u8s_oneCell _) (by omega) (by omega) hBw ?_; intro v' w' hownn hg')
      go_roundw
      case rel => exact ⟨k + 1, by go_num, by omega, by rw [Hn.out, ← List.append_assoc, u8s_append, List.length_append, List.length_append, HX16.out]; exact hownn, hown.grew hg' hbel (Nat.le_refl _) hBw⟩
      case measure => simp [intOf]; omega
    · have hkm : k = l.length := by omega
      have he : E ++ (l.take k).flatMap (fun d => d) = encL (fun d => d) l := by rw [Hf.out, hkm, List.take_length]
      rw [he] at hown
      have HK := Lib.hid hkm
      clear hkm he
      go_wp2
      go_ret
      exact ⟨_, rfl, HB.out ▸ hown, HB.out ▸ hbel⟩
end Go.Proofs.Ytciamgdigpgneaa
