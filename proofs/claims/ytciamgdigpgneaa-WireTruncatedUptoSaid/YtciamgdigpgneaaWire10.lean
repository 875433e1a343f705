/- Lists of digests: encoding. -/
import Derived.Test.YtciamgdigpgneaaWire9
namespace Go.Proofs.Ytciamgdigpgneaa
open Go.RowKit WM
def cvD (d : List UInt8) : List Value := u8s d
theorem cvD_len {l : List (List UInt8)} (h : ∀ x ∈ l, x.length = 16) : ∀ x ∈ l, (cvD x).length = 16 := fun x hx => by unfold cvD; rw [u8s_length]; exact h x hx
theorem u8s_arr_one (d : List UInt8) : (u8s d).toArray.all (·.oneCell') = true := by rw [Array.all_eq_true_iff_forall_mem]; intro x hx; exact u8s_oneCell _ x (by simpa using hx)
set_option maxRecDepth 100000 in
set_option maxHeartbeats 2000000 in
theorem list_digest (ao : Option Addr) (n cap : Nat) (l : List (List UInt8)) (w : World) (hs : SlN w ao n cap 16 (l.flatMap cvD)) (h16 : ∀ x ∈ l, x.length = 16) (hlen : l.length ≤ 100000) :
    Calls Try.prog 40 #[.slice ao n cap, .func (.func 41) #[] #[]] w (NewBs w (encL (fun d => d) l)) := by
  have htot : (l.flatMap (fun d => d)).length = l.length * 16 := by
    clear hs hlen
    induction l with
    | nil => simp
    | cons x l ih => rw [List.flatMap_cons, List.length_append, ih (fun y hy => h16 y (by simp [hy])), h16 x (by simp), List.length_cons]; omega
  have hln := flatMap_len cvD 16 l (cvD_len h16)
  obtain rfl : l.length = n := by have := hs.len; rw [hln] at this; omega
  have C := wire_Int (l.length : Int) w (by omega) (by omega)
  obtain ⟨i5, hi, hz, hs1, hby⟩ := inf_u8
  obtain ⟨ig, hig, hzg, hsg, hbg⟩ := inf_digest
  have hel : (enc (l.length : Int)).length ≤ 10 := enc_len (by omega) (by omega)
  have Hf : Hid (encL (fun d => d) l = enc (l.length : Int) ++ l.flatMap (fun d => d)) := rfl
  generalize enc (l.length : Int) = E at *
  obtain ⟨B, hB⟩ : ∃ B, B = w.heap.size := ⟨_, rfl⟩
  have HB := Lib.hid hB
  clear hB
  have hcap := hs.fits
  have hsm := hs.small
  unfold maxLen at hsm
  have Hln := Lib.hid hln
  have Htot := Lib.hid htot
  clear hln htot
  go_enter Try.func40, Try.ntmps40
  go_wp2_with (go_at_call 14; refine C.mono ?_; rintro e w1 ⟨v, rfl, hown0, hbel0⟩)
  clear C
  rw [← HB.out] at hown0 hbel0
  go_loopw [5, 13] (fun o i wr => ∃ (k : Nat), i = .int .i64 k ∧ k ≤ l.length ∧ Own wr B 5 1 o (E ++ (l.take k).flatMap (fun d => d)).length (u8s (E ++ (l.take k).flatMap (fun d => d))) ∧ Below B w wr) (fun _ i _ => l.length - (intOf i).toNat)
  case atStart => exact ⟨0, rfl, Nat.zero_le _, by simpa using hown0, hbel0⟩
  case round =>
    obtain ⟨k, rfl, hk, hown, hbel⟩ := hrel
    have hBw : B ≤ wr.heap.size := by have := hbel.size; rw [← HB.out] at this; exact this
    have hsr : SlN wr ao l.length cap 16 _ := hs.below hbel (Nat.le_of_eq HB.out.symm)
    by_cases hlt : k < l.length
    · obtain ⟨b, off, rfl, hc⟩ := hsr.at hlt
      have hca : CellsAt wr b (off + k * 16) (u8s l[k]) := SlN.part hc (cvD_len h16) hlt rfl hsr
      have hX16 := h16 l[k] (List.getElem_mem hlt)
      have Hn : Hid ((l.take (k + 1)).flatMap (fun d => d) = (l.take k).flatMap (fun d => d) ++ l[k]) := by
        show _ = _
        rw [List.take_succ_eq_append_getElem hlt, List.flatMap_append]; simp
      have hl2 : ((l.take k).flatMap (fun d => d)).length ≤ 10000000 := by
        have : ((l.take k).flatMap (fun d => d)).length ≤ (l.flatMap (fun d => d)).length := by
          conv => rhs; rw [← List.take_append_drop k l, List.flatMap_append, List.length_append]
          omega
        have := Htot.out
        omega
      clear hc hsr
      generalize l[k] = X at *
      generalize hP : (l.take k).flatMap (fun d => d) = pre at *
      have HP := Lib.hid hP
      clear hP
      rw [List.length_append] at hown
      have hx1 : (Try.prog.info? 57).map (·.size) = some (u8s X).length := by rw [u8s_length, hX16, hig]; simp [hsg]
      have hx2 : (Try.prog.info? 57).map (·.size) = some (u8s X).toArray.size := by rw [List.size_toArray]; exact hx1
      have hx3 : (u8s X).toArray.size = ig.size := by rw [List.size_toArray, u8s_length, hX16, hsg]
      have hx4 := u8s_arr_one X
      have hw2 := heap_alloc_new wr (.cells (u8s X).toArray 57)
      have C1 := wire_digest X hX16 (wr.alloc (.cells (u8s X).toArray 57))
      have hown' := hown.alloc (.cells (u8s X).toArray 57)
      have HX1 := Lib.hid hx1; have HX2 := Lib.hid hx2; have HX3 := Lib.hid hx3; have HX4 := Lib.hid hx4; have HW2 := Lib.hid hw2; have HX16 := Lib.hid hX16
      have hxl : X.length ≤ 16 := Nat.le_of_eq hX16
      clear hx1 hx2 hx3 hx4 hw2 hX16
      have hbel' := hbel.alloc hBw (.cells (u8s X).toArray 57)
      have hBw' : B ≤ (wr.alloc (.cells (u8s X).toArray 57)).heap.size := by simp; omega
      go_wp2_with (first | (refine wpList_load_at rfl 57 (.tmp 15) rfl b (off + k * 16) rfl _ _ hca Try.underlying57 rfl HX1.out ?_) | (refine wpList_var rfl rfl 7 (.tmp 16) 57 rfl (by simp [Act.put]) rfl rfl ig _ hig hzg (by rw [hsg]; rfl) (u8s X).toArray rfl HX3.out HX4.out ?_) | (refine wpList_load_row rfl 57 (.tmp 7) rfl wr.heap.size rfl 57 _ (0, 0) _ HW2.out Try.underlying57 rfl HX2.out ?_) | (go_at_call 41; refine C1.mono ?_; rintro e w1 ⟨v1, rfl, ⟨ao1, cap1, rfl, hown1⟩, hbel1⟩; have hsl1 : Bs w1 ao1 X.length cap1 X := (Own.mk' hown1).sl'; have hownk := hown'.below hbel1 (Nat.le_refl _); have hbel2 := hbel'.trans (hbel1.mono hBw'); have hbs2 : B ≤ w1.heap.size := Nat.le_trans hBw' hbel1.size) | (refine wpList_append_s rfl (.tmp 17) (.tmp 20) 28 rfl 5 i5 _ 1 Try.underlying28 hi hz hs1 hby rfl B _ _ _ rfl hownk _ _ _ _ rfl hsl1 (u8s_oneCell _) (by omega) (by omega) hbs2 ?_; intro v' w' hownn hg'))
      go_roundw
      case rel => exact ⟨k + 1, by go_num, by omega, by rw [Hn.out, ← List.append_assoc, u8s_append, List.length_append, List.length_append]; exact hownn, hownk.grew hg' hbel2 (Nat.le_refl _) hbs2⟩
      case measure => simp [intOf]; omega
    · have hkm : k = l.length := by omega
      have he : E ++ (l.take k).flatMap (fun d => d) = encL (fun d => d) l := by rw [Hf.out, hkm, List.take_length]
      rw [he] at hown
      have HK := Lib.hid hkm
      clear hkm he
      go_wp2
      go_ret
      exact ⟨_, rfl, HB.out ▸ hown, HB.out ▸ hbel⟩
end Go.Proofs.Ytciamgdigpgneaa
