/- The law of encoding, walked. -/
import Derived.Test.YtciamgdigpgneaaWire19
namespace Go.Proofs.Ytciamgdigpgneaa
open Go.RowKit WM
set_option maxRecDepth 100000 in
set_option maxHeartbeats 4000000 in
theorem law_Encode (n : Int) (h1 : -9223372036854775808 ≤ n) (h2 : n ≤ 9223372036854775807) (s : List UInt8) (ao1 : Option Addr) (n1 cap1 : Nat) (l : List Int) (ao2 : Option Addr) (n2 cap2 : Nat) (x : List (List UInt8)) (ao3 : Option Addr) (n3 cap3 : Nat) (d : List (List UInt8)) (w : World)
    (hsl : Sl w ao1 n1 cap1 (l.flatMap cvI)) (hr : ∀ x ∈ l, -9223372036854775808 ≤ x ∧ x ≤ 9223372036854775807) (hsx : Sl w ao2 n2 cap2 (x.flatMap cvS)) (hsd : SlN w ao3 n3 cap3 16 (d.flatMap cvD)) (h16 : ∀ x ∈ d, x.length = 16)
    (hb1 : s.length ≤ 2000000) (hb2 : l.length ≤ 2000000) (hb3 : d.length ≤ 2000000) (hb4 : x.length + (x.map List.length).sum ≤ 4000000) :
    Calls Try.prog 3 #[.int .i64 n, .string ⟨s.toArray⟩, .slice ao1 n1 cap1, .slice ao2 n2 cap2, .slice ao3 n3 cap3] w fun e w' => e = .returned (.bool true) ∧ Below w.heap.size w w' := by
  obtain rfl := len_cvI hsl
  have hnx := len_cvS hsx
  obtain rfl := len_cvD hsd h16
  have hsz : ByteArray.size ⟨s.toArray⟩ = s.length := by simp [ByteArray.size]
  have CF := law_few ao2 n2 cap2 x w hsx (by omega)
  by_cases hbig : 2000 < s.length + l.length + d.length
  · clear CF
    go_enter Try.func3, Try.ntmps3
    go_wp2_with (go_at_call 12; refine (sanity_true _).mono ?_; rintro e w1 ⟨rfl, hb1⟩)
    go_ret
    exact ⟨rfl, hb1⟩
  by_cases hfew : x.length + (x.map List.length).sum ≤ 2000
  case neg =>
    simp only [hfew, decide_false] at CF
    have HF := Lib.hid hfew
    clear hfew
    go_enter Try.func3, Try.ntmps3
    go_wp2_with (first | (go_at_call 11; refine CF.mono ?_; rintro e w1 ⟨rfl, rfl⟩) | (go_at_call 12; refine (sanity_true _).mono ?_; rintro e w1 ⟨rfl, hb1⟩))
    go_ret
    exact ⟨rfl, hb1⟩
  case pos =>
    simp only [hfew, decide_true] at CF
    have HLx : Hid (∀ y ∈ x, y.length ≤ 1000000) := fun y hy => by have := le_sum hy; omega
    have HTx := Lib.hid (flatMap_encB_len x HLx.out)
    have HTl := Lib.hid (flatMap_enc_len l hr)
    have Hsl := Lib.hid hsl
    have Hsx := Lib.hid hsx
    have Hsd := Lib.hid hsd
    have Hfew := Lib.hid hfew
    have Hnx := Lib.hid hnx
    have hl2 : l.length ≤ 2000 := by omega
    have hd2 : d.length ≤ 2000 := by omega
    have hs2 : s.length ≤ 2000 := by omega
    clear hnx hsl hsx hsd hfew
    go_enter Try.func3, Try.ntmps3
    go_wp2_with (first | (go_at_call 11; refine CF.mono ?_; rintro e w1 ⟨rfl, rfl⟩) | (go_at_call 12; refine (sanity_true _).mono ?_; rintro e y0 ⟨rfl, Y0⟩))
    refine (wire_Int n _ h1 h2).mono ?_
    rintro e u1 ⟨v, rfl, ⟨a, c, rfl, ho⟩, hb⟩
    have T1 : Bs u1 a _ c (enc n) := (Own.mk' ho).sl'
    have X1 : Ext w u1 := Ext.trans' Y0 hb
    clear ho hb
    go_wp2_with fail
    refine (ref_Int n _ h1 h2).mono ?_
    rintro e y1 ⟨v', rfl, ⟨a', c', rfl, ho⟩, hb⟩
    have T2 : Bs y1 a' _ c' (enc n) := (Own.mk' ho).sl'
    have C := ref_Same _ _ _ (enc n) _ _ _ (enc n) y1 (T1.ext hb) T2
    simp only [beq_self_eq_true] at C
    have Y1 : Ext w y1 := Ext.trans' X1 hb
    clear ho hb T1 T2 X1
    go_wp2_with fail
    refine C.mono ?_
    rintro e _ ⟨rfl, rfl⟩
    clear C
    go_wp2_with fail
    refine (wire_Bytes s _ (by omega)).mono ?_
    rintro e u2 ⟨v, rfl, ⟨a, c, rfl, ho⟩, hb⟩
    have T1 : Bs u2 a _ c (encB s) := (Own.mk' ho).sl'
    have X2 : Ext w u2 := Ext.trans' Y1 hb
    clear ho hb
    go_wp2_with fail
    refine (ref_Bytes s _ (by omega)).mono ?_
    rintro e y2 ⟨v', rfl, ⟨a', c', rfl, ho⟩, hb⟩
    have T2 : Bs y2 a' _ c' (encB s) := (Own.mk' ho).sl'
    have C := ref_Same _ _ _ (encB s) _ _ _ (encB s) y2 (T1.ext hb) T2
    simp only [beq_self_eq_true] at C
    have Y2 : Ext w y2 := Ext.trans' X2 hb
    clear ho hb T1 T2 X2
    go_wp2_with fail
    refine C.mono ?_
    rintro e _ ⟨rfl, rfl⟩
    clear C
    go_wp2_with fail
    refine (wire_Ints _ _ _ l _ (Hsl.out.ext Y2) (by omega) hr (by have := HTl.out; omega)).mono ?_
    rintro e u3 ⟨v, rfl, ⟨a, c, rfl, ho⟩, hb⟩
    have T1 : Bs u3 a _ c (encL enc l) := (Own.mk' ho).sl'
    have X3 : Ext w u3 := Ext.trans' Y2 hb
    clear ho hb
    go_wp2_with fail
    refine (ref_Ints _ _ _ l _ (Hsl.out.ext X3) (by omega) hr (by have := HTl.out; omega)).mono ?_
    rintro e y3 ⟨v', rfl, ⟨a', c', rfl, ho⟩, hb⟩
    have T2 : Bs y3 a' _ c' (encL enc l) := (Own.mk' ho).sl'
    have C := ref_Same _ _ _ (encL enc l) _ _ _ (encL enc l) y3 (T1.ext hb) T2
    simp only [beq_self_eq_true] at C
    have Y3 : Ext w y3 := Ext.trans' X3 hb
    clear ho hb T1 T2 X3
    go_wp2_with fail
    refine C.mono ?_
    rintro e _ ⟨rfl, rfl⟩
    clear C
    go_wp2_with fail
    refine (wire_Strings _ _ _ x _ (Hsx.out.ext Y3) (by have := Hfew.out; omega) HLx.out (by have := HTx.out; have := Hfew.out; omega)).mono ?_
    rintro e u4 ⟨v, rfl, ⟨a, c, rfl, ho⟩, hb⟩
    have T1 : Bs u4 a _ c (encL encB x) := (Own.mk' ho).sl'
    have X4 : Ext w u4 := Ext.trans' Y3 hb
    clear ho hb
    go_wp2_with fail
    refine (ref_Strings _ _ _ x _ (Hsx.out.ext X4) (by have := Hfew.out; omega) HLx.out (by have := HTx.out; have := Hfew.out; omega)).mono ?_
    rintro e y4 ⟨v', rfl, ⟨a', c', rfl, ho⟩, hb⟩
    have T2 : Bs y4 a' _ c' (encL encB x) := (Own.mk' ho).sl'
    have C := ref_Same _ _ _ (encL encB x) _ _ _ (encL encB x) y4 (T1.ext hb) T2
    simp only [beq_self_eq_true] at C
    have Y4 : Ext w y4 := Ext.trans' X4 hb
    clear ho hb T1 T2 X4
    go_wp2_with fail
    refine C.mono ?_
    rintro e _ ⟨rfl, rfl⟩
    clear C
    go_wp2_with fail
    refine (wire_Digests _ _ _ d _ (Hsd.out.ext Y4) h16 (by omega)).mono ?_
    rintro e u5 ⟨v, rfl, ⟨a, c, rfl, ho⟩, hb⟩
    have T1 : Bs u5 a _ c (encL (fun d => d) d) := (Own.mk' ho).sl'
    have X5 : Ext w u5 := Ext.trans' Y4 hb
    clear ho hb
    go_wp2_with fail
    refine (ref_Digests _ _ _ d _ (Hsd.out.ext X5) h16 (by omega)).mono ?_
    rintro e y5 ⟨v', rfl, ⟨a', c', rfl, ho⟩, hb⟩
    have T2 : Bs y5 a' _ c' (encL (fun d => d) d) := (Own.mk' ho).sl'
    have C := ref_Same _ _ _ (encL (fun d => d) d) _ _ _ (encL (fun d => d) d) y5 (T1.ext hb) T2
    simp only [beq_self_eq_true] at C
    have Y5 : Ext w y5 := Ext.trans' X5 hb
    clear ho hb T1 T2 X5
    go_wp2_with fail
    refine C.mono ?_
    rintro e _ ⟨rfl, rfl⟩
    clear C
    go_wp2_with fail
    go_ret
    exact ⟨rfl, Y5⟩
end Go.Proofs.Ytciamgdigpgneaa
