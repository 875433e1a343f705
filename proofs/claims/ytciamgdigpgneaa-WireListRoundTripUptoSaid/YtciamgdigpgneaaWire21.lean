/- The law of the round trip of lists, walked. -/
import Derived.Test.YtciamgdigpgneaaWire19
namespace Go.Proofs.Ytciamgdigpgneaa
open Go.RowKit WM
theorem encL_len {α : Type} (one : α → List UInt8) (xs : List α) (h : (xs.length : Int) ≤ 9223372036854775807) : 1 ≤ (encL one xs).length ∧ (encL one xs).length ≤ 10 + (xs.flatMap one).length := by
  have h1 := enc_len (n := (xs.length : Int)) (by omega) h
  have h2 := venc_pos (zig (xs.length : Int))
  unfold encL
  rw [List.length_append]
  unfold enc at h1 ⊢
  omega
theorem encB_len (s : List UInt8) (h : (s.length : Int) ≤ 9223372036854775807) : 1 ≤ (encB s).length ∧ (encB s).length ≤ 10 + s.length := by
  have h1 := enc_len (n := (s.length : Int)) (by omega) h
  have h2 := venc_pos (zig (s.length : Int))
  unfold encB
  rw [List.length_append]
  unfold enc at h1 ⊢
  omega
theorem flatMap_id16 : ∀ (l : List (List UInt8)), (∀ x ∈ l, x.length = 16) → (l.flatMap fun d => d).length = l.length * 16 := by
  intro l
  induction l with
  | nil => intro _; simp
  | cons x l ih =>
    intro h
    rw [List.flatMap_cons, List.length_append, ih (fun y hy => h y (by simp [hy])), h x (by simp), List.length_cons]; omega
set_option maxRecDepth 100000 in
set_option maxHeartbeats 8000000 in
theorem law_ListRoundTrip (s : List UInt8) (ao1 : Option Addr) (n1 cap1 : Nat) (l : List Int) (ao2 : Option Addr) (n2 cap2 : Nat) (x : List (List UInt8)) (ao3 : Option Addr) (n3 cap3 : Nat) (d : List (List UInt8)) (ao4 : Option Addr) (n4 cap4 : Nat) (t : List UInt8) (w : World)
    (hsl : Sl w ao1 n1 cap1 (l.flatMap cvI)) (hr : ∀ x ∈ l, -9223372036854775808 ≤ x ∧ x ≤ 9223372036854775807) (hsx : Sl w ao2 n2 cap2 (x.flatMap cvS)) (hsd : SlN w ao3 n3 cap3 16 (d.flatMap cvD)) (h16 : ∀ x ∈ d, x.length = 16) (hst : Bs w ao4 n4 cap4 t)
    (hb1 : s.length ≤ 2000000) (hb2 : l.length ≤ 2000000) (hb3 : d.length ≤ 2000000) (hb4 : x.length + (x.map List.length).sum ≤ 4000000) (hb5 : t.length ≤ 2000000) :
    Calls Try.prog 8 #[.string ⟨s.toArray⟩, .slice ao1 n1 cap1, .slice ao2 n2 cap2, .slice ao3 n3 cap3, .slice ao4 n4 cap4] w fun e w' => e = .returned (.bool true) ∧ Below w.heap.size w w' := by
  obtain ⟨i5, hi, hz, hs1, hby⟩ := inf_u8
  obtain rfl := len_cvI hsl
  have hnx := len_cvS hsx
  obtain rfl := len_cvD hsd h16
  obtain rfl := hst.length
  have hsz : ByteArray.size ⟨s.toArray⟩ = s.length := by simp [ByteArray.size]
  have CF := law_few ao2 n2 cap2 x w hsx (by omega)
  by_cases hbig : 2000 < s.length + l.length + d.length + t.length
  · clear CF
    go_enter Try.func8, Try.ntmps8
    go_wp2_with (go_at_call 12; refine (sanity_true _).mono ?_; rintro e w1 ⟨rfl, hb1⟩)
    go_ret
    exact ⟨rfl, hb1⟩
  by_cases hfew : x.length + (x.map List.length).sum ≤ 2000
  case neg =>
    simp only [hfew, decide_false] at CF
    have HF := Lib.hid hfew
    clear hfew
    go_enter Try.func8, Try.ntmps8
    go_wp2_with (first | (go_at_call 11; refine CF.mono ?_; rintro e w1 ⟨rfl, rfl⟩) | (go_at_call 12; refine (sanity_true _).mono ?_; rintro e w1 ⟨rfl, hb1⟩))
    go_ret
    exact ⟨rfl, hb1⟩
  case pos =>
    simp only [hfew, decide_true] at CF
    have HLx : Hid (∀ y ∈ x, y.length ≤ 1000000) := fun y hy => by have := le_sum hy; omega
    have HTx := Lib.hid (flatMap_encB_len x HLx.out)
    have HTl := Lib.hid (flatMap_enc_len l hr)
    have L1 := encB_len s (by omega)
    have L2 := encL_len enc l (by omega)
    have L3 := encL_len (fun d => d) d (by omega)
    have L4 := encL_len encB x (by omega)
    have e1 : (encB s).length ≤ 40000 := by omega
    have e2 : (encL enc l).length ≤ 40000 := by have := HTl.out; omega
    have e3 : (encL (fun d => d) d).length ≤ 40000 := by have := flatMap_id16 d h16; omega
    have e4 : (encL encB x).length ≤ 40000 := by have := HTx.out; omega
    have p1 := L1.1
    have p2 := L2.1
    have p3 := L3.1
    have p4 := L4.1
    clear L1 L2 L3 L4
    have R1 := Lib.hid (getB_round s t (by omega))
    have R2 := Lib.hid (getL_round good_int (by decide) t l hr (by omega))
    have R3 := Lib.hid (getL_round good_digest (by decide) t d h16 (by omega))
    have R4 := Lib.hid (getL_round good_bytes (by decide) t x (fun y hy => by have := HLx.out y hy; show (y.length : Int) ≤ _; omega) (by omega))
    have Hsl := Lib.hid hsl
    have Hsx := Lib.hid hsx
    have Hsd := Lib.hid hsd
    have Hst := Lib.hid hst
    have Hfew := Lib.hid hfew
    have Hnx := Lib.hid hnx
    have hl2 : l.length ≤ 2000 := by omega
    have hd2 : d.length ≤ 2000 := by omega
    have hs2 : s.length ≤ 2000 := by omega
    have ht2 : t.length ≤ 2000 := by omega
    have hx2 : x.length ≤ 2000 := by omega
    clear hnx hsl hsx hsd hst hfew
    have C1 := fun w => wire_Bytes s w (by omega)
    have C2 := fun w' (e : Ext w w') => wire_Ints _ _ _ l w' (Hsl.out.ext e) (by omega) hr (by have := HTl.out; omega)
    have C3 := fun w' (e : Ext w w') => wire_Digests _ _ _ d w' (Hsd.out.ext e) h16 (by omega)
    have C4 := fun w' (e : Ext w w') => wire_Strings _ _ _ x w' (Hsx.out.ext e) (by omega) HLx.out (by have := HTx.out; have := Hfew.out; omega)
    generalize hE1 : encB s = E1 at *
    generalize hE2 : encL enc l = E2 at *
    generalize hE3 : encL (fun d => d) d = E3 at *
    generalize hE4 : encL encB x = E4 at *
    clear hE1 hE2 hE3 hE4
    go_enter Try.func8, Try.ntmps8
    go_wp2_with (go_at_call 11; refine CF.mono ?_; rintro e w1 ⟨rfl, rfl⟩)
    refine (C1 w).mono ?_
    rintro e w1 ⟨v1, rfl, ⟨a1, c1, rfl, ho⟩, hb⟩
    have T1 : Bs w1 a1 _ c1 E1 := (Own.mk' ho).sl'
    have Y1 : Ext w w1 := hb
    clear ho hb
    go_wp2_with fail
    refine (C2 _ Y1).mono ?_
    rintro e w2 ⟨v2, rfl, ⟨a2, c2, rfl, ho⟩, hb⟩
    have T2 : Bs w2 a2 _ c2 E2 := (Own.mk' ho).sl'
    have T1 := T1.ext hb
    have Y2 : Ext w w2 := Ext.trans' Y1 hb
    clear ho hb
    go_wp2_with fail
    refine (C3 _ Y2).mono ?_
    rintro e w3 ⟨v3, rfl, ⟨a3, c3, rfl, ho⟩, hb⟩
    have T3 : Bs w3 a3 _ c3 E3 := (Own.mk' ho).sl'
    have T1 := T1.ext hb
    have T2 := T2.ext hb
    have Y3 : Ext w w3 := Ext.trans' Y2 hb
    clear ho hb
    go_wp2_with fail
    refine (C4 _ Y3).mono ?_
    rintro e w4 ⟨v4, rfl, ⟨a4, c4, rfl, ho⟩, hb⟩
    have T4 : Bs w4 a4 _ c4 E4 := (Own.mk' ho).sl'
    have T1 := T1.ext hb
    have T2 := T2.ext hb
    have T3 := T3.ext hb
    have Y4 : Ext w w4 := Ext.trans' Y3 hb
    clear ho hb
    obtain ⟨b1, f1, rfl, -⟩ := T1.at (j := 0) p1
    have hfit1 := T1.fits
    obtain ⟨b2, f2, rfl, -⟩ := T2.at (j := 0) p2
    have hfit2 := T2.fits
    obtain ⟨b3, f3, rfl, -⟩ := T3.at (j := 0) p3
    have hfit3 := T3.fits
    obtain ⟨b4, f4, rfl, -⟩ := T4.at (j := 0) p4
    have hfit4 := T4.fits
    have hsF : Sl w4 (some ⟨b1, f1, none⟩) E1.length E1.length (u8s E1) := ⟨T1.len, Nat.le_refl _, Nat.le_trans T1.fits T1.small, by simp, T1.cells⟩
    have hsrc := src_of_sl (P := Try.prog) Try.underlying28 (Hst.out.ext Y4) (u8s_oneCell _)
    go_wp2_with (refine wpList_append_full rfl (.tmp 59) (.tmp 60) 28 28 rfl 5 i5 _ 1 Try.underlying28 hi hz hs1 hby b1 f1 E1.length _ rfl hsF _ _ _ rfl hsrc (by omega) (by omega) ?_; intro ao' cap' x1 hsl2 hb2; rw [← u8s_append] at hsl2)
    clear hsF hsrc
    have C := wire_GetBytes ao' _ cap' (E1 ++ t) x1 hsl2
    simp only [R1.out, tB] at C
    refine C.mono ?_
    rintro e _ ⟨rfl, rfl⟩
    have Y5 := Ext.trans' Y4 hb2
    have T2 := T2.ext hb2
    have T3 := T3.ext hb2
    have T4 := T4.ext hb2
    clear C hb2 hsl2 T1
    have hsF : Sl x1 (some ⟨b2, f2, none⟩) E2.length E2.length (u8s E2) := ⟨T2.len, Nat.le_refl _, Nat.le_trans T2.fits T2.small, by simp, T2.cells⟩
    have hsrc := src_of_sl (P := Try.prog) Try.underlying28 (Hst.out.ext Y5) (u8s_oneCell _)
    go_wp2_with (refine wpList_append_full rfl (.tmp 72) (.tmp 73) 28 28 rfl 5 i5 _ 1 Try.underlying28 hi hz hs1 hby b2 f2 E2.length _ rfl hsF _ _ _ rfl hsrc (by omega) (by omega) ?_; intro ao' cap' x2 hsl2 hb2; rw [← u8s_append] at hsl2)
    clear hsF hsrc
    have C := wire_GetInts ao' _ cap' (E2 ++ t) x2 hsl2 (by rw [List.length_append]; omega)
    simp only [R2.out] at C
    refine C.mono ?_
    rintro e z2 ⟨v, rfl, ⟨ra2, rc2, rfl, ho⟩, hb3⟩
    have Q2 := (Own.mk' ho).sl'
    have Y6 := Ext.trans' (Ext.trans' Y5 hb2) hb3
    have T3 := T3.ext (Ext.trans' hb2 hb3)
    have T4 := T4.ext (Ext.trans' hb2 hb3)
    clear C ho hb3 hb2 hsl2 T2
    have hsF : Sl z2 (some ⟨b3, f3, none⟩) E3.length E3.length (u8s E3) := ⟨T3.len, Nat.le_refl _, Nat.le_trans T3.fits T3.small, by simp, T3.cells⟩
    have hsrc := src_of_sl (P := Try.prog) Try.underlying28 (Hst.out.ext Y6) (u8s_oneCell _)
    go_wp2_with (refine wpList_append_full rfl (.tmp 85) (.tmp 86) 28 28 rfl 5 i5 _ 1 Try.underlying28 hi hz hs1 hby b3 f3 E3.length _ rfl hsF _ _ _ rfl hsrc (by omega) (by omega) ?_; intro ao' cap' x3 hsl2 hb2; rw [← u8s_append] at hsl2)
    clear hsF hsrc
    have C := wire_GetDigests ao' _ cap' (E3 ++ t) x3 hsl2 (by rw [List.length_append]; omega)
    simp only [R3.out] at C
    refine C.mono ?_
    rintro e z3 ⟨v, rfl, ⟨ra3, rc3, rfl, ho⟩, hb3⟩
    have Q3 := SlN.of_own' (Own.mk' ho)
    have Y7 := Ext.trans' (Ext.trans' Y6 hb2) hb3
    have T4 := T4.ext (Ext.trans' hb2 hb3)
    have Q2 := Q2.ext (Ext.trans' hb2 hb3)
    clear C ho hb3 hb2 hsl2 T3
    have hsF : Sl z3 (some ⟨b4, f4, none⟩) E4.length E4.length (u8s E4) := ⟨T4.len, Nat.le_refl _, Nat.le_trans T4.fits T4.small, by simp, T4.cells⟩
    have hsrc := src_of_sl (P := Try.prog) Try.underlying28 (Hst.out.ext Y7) (u8s_oneCell _)
    go_wp2_with (refine wpList_append_full rfl (.tmp 98) (.tmp 99) 28 28 rfl 5 i5 _ 1 Try.underlying28 hi hz hs1 hby b4 f4 E4.length _ rfl hsF _ _ _ rfl hsrc (by omega) (by omega) ?_; intro ao' cap' x4 hsl2 hb2; rw [← u8s_append] at hsl2)
    clear hsF hsrc
    have C := wire_GetStrings ao' _ cap' (E4 ++ t) x4 hsl2 (by rw [List.length_append]; omega)
    simp only [R4.out] at C
    refine C.mono ?_
    rintro e z4 ⟨v, rfl, ⟨ra4, rc4, rfl, ho⟩, hb3⟩
    have Q4 := (Own.mk' ho).sl'
    have Y8 := Ext.trans' (Ext.trans' Y7 hb2) hb3
    have Q2 := Q2.ext (Ext.trans' hb2 hb3)
    have Q3 := Q3.ext (Ext.trans' hb2 hb3)
    clear C ho hb3 hb2 hsl2 T4
    go_wp2_with (go_at_call 12; refine (sanity_true _).mono ?_; rintro e q0 ⟨rfl, hb⟩)
    have Q2 := Q2.ext hb
    have Q3 := Q3.ext hb
    have Q4 := Q4.ext hb
    have Z0 := Ext.trans' Y8 hb
    clear hb
    have C := ref_SameTexts _ _ _ x _ _ _ x q0 Q4 (Hsx.out.ext Z0)
    simp only [beq_self_eq_true] at C
    refine C.mono ?_
    rintro e q1 ⟨rfl, hb⟩
    have Q2 := Q2.ext hb
    have Q3 := Q3.ext hb
    have Z1 := Ext.trans' Z0 hb
    clear hb C Q4
    go_wp2_with fail
    have C := ref_SameInts _ _ _ l _ _ _ l q1 Q2 (Hsl.out.ext Z1)
    simp only [beq_self_eq_true] at C
    refine C.mono ?_
    rintro e q2 ⟨rfl, hb⟩
    have Q3 := Q3.ext hb
    have Z2 := Ext.trans' Z1 hb
    clear hb C Q2
    go_wp2_with fail
    have C := ref_SameDigests _ _ _ d _ _ _ d q2 Q3 (Hsd.out.ext Z2) h16 h16
    simp only [beq_self_eq_true] at C
    refine C.mono ?_
    rintro e q3 ⟨rfl, hb⟩
    have Z3 := Ext.trans' Z2 hb
    clear hb C Q3
    go_wp2_with fail
    go_ret
    exact ⟨rfl, Z3⟩
end Go.Proofs.Ytciamgdigpgneaa
