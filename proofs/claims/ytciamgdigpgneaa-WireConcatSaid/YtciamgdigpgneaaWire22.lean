/- The laws of concatenation and of canonical encodings, walked. -/
import Derived.Test.YtciamgdigpgneaaWire21
import Derived.Test.YtciamgdigpgneaaWireMath2
namespace Go.Proofs.Ytciamgdigpgneaa
open Go.RowKit WM
set_option maxRecDepth 100000 in
set_option maxHeartbeats 8000000 in
theorem law_Concat (s : List UInt8) (ao1 : Option Addr) (n1 cap1 : Nat) (l : List Int) (w : World)
    (hsl : Sl w ao1 n1 cap1 (l.flatMap cvI)) (hr : ∀ x ∈ l, -9223372036854775808 ≤ x ∧ x ≤ 9223372036854775807) (hb1 : s.length ≤ 281474976710656) (hb2 : l.length ≤ 281474976710656) :
    Calls Try.prog 10 #[.string ⟨s.toArray⟩, .slice ao1 n1 cap1] w fun e w' => e = .returned (.bool true) ∧ Below w.heap.size w w' := by
  obtain ⟨i5, hi, hz, hs1, hby⟩ := inf_u8
  obtain rfl := len_cvI hsl
  have hsz : ByteArray.size ⟨s.toArray⟩ = s.length := by simp [ByteArray.size]
  by_cases hbig : 2000 < s.length + l.length
  · go_enter Try.func10, Try.ntmps10
    go_wp2_with (go_at_call 12; refine (sanity_true _).mono ?_; rintro e w1 ⟨rfl, hb1⟩)
    go_ret
    exact ⟨rfl, hb1⟩
  have HTl := Lib.hid (flatMap_enc_len l hr)
  have L1 := encB_len s (by omega)
  have L2 := encL_len enc l (by omega)
  have e1 : (encB s).length ≤ 40000 := by omega
  have e2 : (encL enc l).length ≤ 40000 := by have := HTl.out; omega
  have p1 := L1.1
  have p2 := L2.1
  clear L1 L2
  have R1 := Lib.hid (getB_round s (encL enc l) (by omega))
  have R2 := Lib.hid (getL_round good_int (by decide) [] l hr (by omega))
  have Hsl := Lib.hid hsl
  have hl2 : l.length ≤ 2000 := by omega
  have hs2 : s.length ≤ 2000 := by omega
  clear hsl
  have C1 := fun w => wire_Bytes s w (by omega)
  have C2 := fun w' (e : Ext w w') => wire_Ints _ _ _ l w' (Hsl.out.ext e) (by omega) hr (by have := HTl.out; omega)
  generalize hE1 : encB s = E1 at *
  generalize hE2 : encL enc l = E2 at *
  clear hE1 hE2
  go_enter Try.func10, Try.ntmps10
  go_wp2_with fail
  refine (C1 w).mono ?_
  rintro e w1 ⟨v1, rfl, ⟨a1, c1, rfl, ho1⟩, Y1⟩
  go_wp2_with fail
  refine (C2 _ Y1).mono ?_
  rintro e w2 ⟨v2, rfl, ⟨a2, c2, rfl, ho2⟩, hb⟩
  have T2 : Bs w2 a2 _ c2 E2 := (Own.mk' ho2).sl'
  have O1 : Own w2 w.heap.size 5 1 (.slice a1 E1.length c1) E1.length (u8s E1) := (Own.mk' ho1).below hb (Nat.le_refl _)
  have Y2 := Ext.trans' Y1 hb
  have hsz2 : w.heap.size ≤ w2.heap.size := Y2.size
  clear ho1 ho2 hb Y1
  go_wp2_with (refine wpList_append_s rfl _ _ 28 rfl 5 i5 _ 1 Try.underlying28 hi hz hs1 hby rfl w.heap.size _ _ _ rfl O1 _ _ _ _ rfl T2 (u8s_oneCell _) (by omega) (by omega) hsz2 ?_; rintro v' w3 ⟨a3, c3, rfl, ho3⟩ hg3; have Y3 := O1.grew hg3 Y2 (Nat.le_refl _) hsz2; rw [← u8s_append] at ho3; have T3 : Bs w3 a3 _ c3 (E1 ++ E2) := (Own.mk' ho3).sl')
  clear O1 T2 hg3 ho3 Y2 hsz2
  have C := wire_GetBytes _ _ _ (E1 ++ E2) w3 T3
  simp only [R1.out, tB] at C
  refine C.mono ?_
  rintro e _ ⟨rfl, rfl⟩
  clear C
  go_wp2_with (refine wpList_bs_from rfl 28 _ _ rfl 5 i5 Try.underlying28 hi hs1 rfl T3 E1.length .i64 rfl (by omega) ?_; intro ao' hs'; rw [List.drop_left, Nat.add_sub_cancel_left] at hs')
  have C := wire_GetInts _ _ _ E2 w3 hs' (by omega)
  have R2' := R2.out
  rw [List.append_nil] at R2'
  simp only [R2'] at C
  clear R2'
  refine C.mono ?_
  rintro e w4 ⟨v, rfl, ⟨a4, c4, rfl, ho⟩, hb⟩
  have Q : Sl w4 a4 _ c4 _ := (Own.mk' ho).sl'
  have Y4 := Ext.trans' Y3 hb
  clear C ho hb hs' T3 Y3
  go_wp2_with (go_at_call 12; refine (sanity_true _).mono ?_; rintro e w5 ⟨rfl, hb⟩)
  have Y5 := Ext.trans' Y4 hb
  have C := ref_SameInts _ _ _ l _ _ _ l w5 (Q.ext hb) (Hsl.out.ext Y5)
  simp only [beq_self_eq_true] at C
  refine C.mono ?_
  rintro e w6 ⟨rfl, hb6⟩
  have Y6 := Ext.trans' Y5 hb6
  clear C Q hb hb6 Y4 Y5
  go_wp2_with fail
  go_ret
  exact ⟨rfl, Y6⟩
theorem bs_prefix {w : World} {ao : Option Addr} {n cap : Nat} {l : List UInt8} (hs : Bs w ao n cap l) {u : Nat} (hu : u ≤ n) : Bs w ao u cap (l.take u) := by
  have hl := hs.length
  refine ⟨by rw [u8s_length, List.length_take]; omega, Nat.le_trans hu hs.fits, hs.small, hs.nil, ?_⟩
  rcases hs.cells with h0 | ⟨b, off, ha, hc⟩
  · exact .inl (by omega)
  · refine .inr ⟨b, off, ha, fun j hj => ?_⟩
    rw [hc j (by omega), ← u8s_take]
    simp only [List.getD_eq_getElem?_getD, List.getElem?_take, if_pos hj]
/-- the closure of the law of canonical encodings: the decoder failed, or the bytes are the beginning -/
theorem canon_is (g : Nat) (ao1 : Option Addr) (n1 cap1 : Nat) (c : List UInt8) (used er : Int) (ao : Option Addr) (n cap : Nat) (l : List UInt8) (w : World) (hc : Bs w ao1 n1 cap1 c) (hs : Bs w ao n cap l) (hg : w.cell? ⟨g, 0, none⟩ = some (.slice ao n cap))
    (h : ¬ er = 0 ∨ er = 0 ∧ ∃ u : Nat, used = u ∧ u ≤ l.length ∧ c = l.take u) :
    Calls Try.prog 37 #[.slice ao1 n1 cap1, .int .i64 used, .int .i64 er, .pointer (some ⟨g, 0, none⟩)] w fun e w' => e = .returned (.bool true) ∧ w = w' := by
  obtain ⟨i5, hi, hz, hs1, hby⟩ := inf_u8
  obtain rfl := hs.length
  have hcap := hs.fits
  have hsm := hs.small
  unfold maxLen at hsm
  rcases h with h | ⟨rfl, u, rfl, hu, rfl⟩
  · have he : (er == 0) = false := by simpa using h
    have HE := Lib.hid h
    clear h
    go_enter Try.func37, Try.ntmps37
    go_wp2
    go_ret
    exact ⟨rfl, rfl⟩
  · have hn1 : u = n1 := by have := hc.length; rw [List.length_take] at this; omega
    subst hn1
    have hp := bs_prefix hs hu
    have C := ref_Same _ _ _ (l.take u) _ _ _ (l.take u) w hc hp
    simp only [beq_self_eq_true] at C
    by_cases hu0 : 0 < u
    · go_enter Try.func37, Try.ntmps37
      go_wp2_with (go_at_call 13; refine C.mono ?_; rintro e _ ⟨rfl, rfl⟩)
      go_ret
      exact ⟨rfl, rfl⟩
    · obtain rfl : u = 0 := by omega
      go_enter Try.func37, Try.ntmps37
      go_wp2_with (go_at_call 13; refine C.mono ?_; rintro e _ ⟨rfl, rfl⟩)
      go_ret
      exact ⟨rfl, rfl⟩
end Go.Proofs.Ytciamgdigpgneaa
