/- The laws over integers and byte sequences, walked. -/
import Derived.Test.YtciamgdigpgneaaWire17
import Derived.Test.YtciamgdigpgneaaLib4
namespace Go.Proofs.Ytciamgdigpgneaa
open Go.RowKit WM
set_option maxRecDepth 100000 in
set_option maxHeartbeats 4000000 in
theorem law_IntRoundTrip (n : Int) (h1 : -9223372036854775808 ≤ n) (h2 : n ≤ 9223372036854775807) (ao : Option Addr) (m cap : Nat) (l : List UInt8) (w : World) (hs : Bs w ao m cap l) :
    Calls Try.prog 6 #[.int .i64 n, .slice ao m cap] w fun e w' => e = .returned (.bool true) ∧ Below w.heap.size w w' := by
  obtain ⟨i5, hi, hz, hs1, hby⟩ := inf_u8
  obtain rfl := hs.length
  have hcap := hs.fits
  have hsm := hs.small
  unfold maxLen at hsm
  by_cases hbig : 2000 < l.length
  · go_enter Try.func6, Try.ntmps6
    go_wp2_with (go_at_call 12; refine (sanity_true _).mono ?_; rintro e w1 ⟨rfl, hb1⟩)
    go_ret
    exact ⟨rfl, hb1⟩
  · have C := wire_Int n w h1 h2
    have hE10 := enc_len h1 h2
    have hE1 : 1 ≤ (enc n).length := venc_pos _
    have Hd := Lib.hid (dec_enc h1 h2 l)
    generalize hE : enc n = E at *
    clear hE
    have e10 := Lib.hid (show Value.bool (decide ((E.length : Int) ≤ 10)) = .bool true by simp; omega)
    go_enter Try.func6, Try.ntmps6
    go_wp2_with (first | (go_at_call 14; refine C.mono ?_; rintro e w1 ⟨v, rfl, ⟨ao1, cap1, rfl, hown⟩, hb1⟩; have hs2 := hs.ext hb1; have hsE : Bs w1 ao1 E.length cap1 E := (Own.mk' hown).sl'; obtain ⟨b, off, rfl, -⟩ := hsE.at (j := 0) hE1; have hfit1 := hsE.fits; have hsF : Sl w1 (some ⟨b, off, none⟩) E.length E.length (u8s E) := ⟨hsE.len, Nat.le_refl _, Nat.le_trans hsE.fits hsE.small, by simp, hsE.cells⟩; have hsrc := src_of_sl (P := Try.prog) Try.underlying28 hs2 (u8s_oneCell _)) | (refine wpList_append_full rfl (.tmp 21) (.tmp 22) 28 28 rfl 5 i5 _ 1 Try.underlying28 hi hz hs1 hby b off E.length _ rfl hsF _ _ _ rfl hsrc (by omega) (by omega) ?_; intro ao' cap' w2 hsl2 hb2; rw [← u8s_append] at hsl2; have C2 := wire_GetInt ao' _ cap' (E ++ l) w2 hsl2; simp only [Hd.out, tI] at C2) | (go_at_call 24; refine C2.mono ?_; rintro e w3 ⟨rfl, rfl⟩) | (go_at_call 12; refine (sanity_true _).mono ?_; rintro e w4 ⟨rfl, hb4⟩))
    go_ret
    exact ⟨congrArg Ending.returned e10.out, (Ext.trans' hb1 hb2).trans' hb4⟩
/-- the parts of a decoder's results -/
def lx {α : Type} : Except Int (List α × Nat) → List α
  | .ok (xs, _) => xs
  | .error _ => []
def lu {α : Type} : Except Int (List α × Nat) → Int
  | .ok (_, u) => u
  | .error _ => 0
def lc {α : Type} : Except Int (List α × Nat) → Int
  | .ok _ => 0
  | .error c => c
def PostA {α : Type} (eT sz : Nat) (cv : α → List Value) (w : World) (X : List α) (U C : Int) (e : Ending) (w' : World) : Prop :=
  ∃ v, e = .returned (.tuple #[v, .int .i64 U, .int .i64 C]) ∧ Own w' w.heap.size eT sz v X.length (X.flatMap cv) ∧ Below w.heap.size w w'
theorem postL_any {α : Type} {eT sz : Nat} {cv : α → List Value} {w w' : World} {r : Except Int (List α × Nat)} {e : Ending} (h : PostL eT sz cv w r e w') : PostA eT sz cv w (lx r) (lu r) (lc r) e w' := by
  cases r with
  | error c => obtain ⟨rfl, hb⟩ := h; exact ⟨_, rfl, Own.nil _ _ _ _, hb⟩
  | ok p => obtain ⟨xs, u⟩ := p; obtain ⟨v, rfl, ho, hb⟩ := h; exact ⟨v, rfl, ho, hb⟩
theorem lx_digest (l : List UInt8) : ∀ x ∈ lx (getL getD16 16 l), x.length = 16 := by
  unfold getL
  cases hd : lenD l 16 with
  | error e => intro x hx; cases hx
  | ok p =>
    obtain ⟨m, u⟩ := p
    obtain ⟨-, hml, hul, -⟩ := lenD_ok hd
    have hml : m * 16 ≤ l.length - u := (Nat.le_div_iff_mul_le (by decide)).1 hml
    obtain ⟨xs, h1, h2, h3, h4⟩ := many_digest m (l.drop u) (by rw [List.length_drop]; exact hml)
    simp only [h1]
    exact h3
set_option maxRecDepth 100000 in
set_option maxHeartbeats 4000000 in
theorem law_Decode (ao : Option Addr) (m cap : Nat) (l : List UInt8) (w : World) (hs : Bs w ao m cap l) :
    Calls Try.prog 4 #[.slice ao m cap] w fun e w' => e = .returned (.bool true) ∧ Below w.heap.size w w' := by
  obtain rfl := hs.length
  have hcap := hs.fits
  have hsm := hs.small
  unfold maxLen at hsm
  by_cases hbig : 2000 < l.length
  · go_enter Try.func4, Try.ntmps4
    go_wp2_with (go_at_call 12; refine (sanity_true _).mono ?_; rintro e w1 ⟨rfl, hb1⟩)
    go_ret
    exact ⟨rfl, hb1⟩
  · have C1 := wire_GetInt ao l.length cap l w hs
    have C2 := ref_GetInt ao l.length cap l w hs
    have C3 := wire_GetBytes ao l.length cap l w hs
    have C4 := ref_GetBytes ao l.length cap l w hs
    obtain ⟨r1, r2, r3, hr1⟩ : ∃ r1 r2 r3, tI (dec l) = .tuple #[.int .i64 r1, .int .i64 r2, .int .i64 r3] := by
      cases dec l with
      | error e => exact ⟨_, _, _, rfl⟩
      | ok p => exact ⟨_, _, _, rfl⟩
    obtain ⟨q1, q2, q3, hq1⟩ : ∃ q1 q2 q3, tB (getB l) = .tuple #[.string ⟨q1⟩, .int .i64 q2, .int .i64 q3] := by
      cases getB l with
      | error e => exact ⟨_, _, _, rfl⟩
      | ok p => exact ⟨_, _, _, rfl⟩
    simp only [hr1] at C1 C2
    simp only [hq1] at C3 C4
    clear hr1 hq1
    have C5 := (wire_GetInts ao l.length cap l w hs (by omega)).mono fun e w' h => postL_any h
    have C6 := fun w' (e : Ext w w') => (ref_GetInts ao l.length cap l w' (hs.ext e) (by omega)).mono fun e w' h => postL_any h
    have C7 := fun w' (e : Ext w w') => (wire_GetStrings ao l.length cap l w' (hs.ext e) (by omega)).mono fun e w' h => postL_any h
    have C8 := fun w' (e : Ext w w') => (ref_GetStrings ao l.length cap l w' (hs.ext e) (by omega)).mono fun e w' h => postL_any h
    have C9 := fun w' (e : Ext w w') => (wire_GetDigests ao l.length cap l w' (hs.ext e) (by omega)).mono fun e w' h => postL_any h
    have C10 := fun w' (e : Ext w w') => (ref_GetDigests ao l.length cap l w' (hs.ext e) (by omega)).mono fun e w' h => postL_any h
    have H16 := Lib.hid (lx_digest l)
    generalize lx (getL dec 1 l) = X1, lu (getL dec 1 l) = U1, lc (getL dec 1 l) = K1 at *
    generalize lx (getL getB 1 l) = X2, lu (getL getB 1 l) = U2, lc (getL getB 1 l) = K2 at *
    generalize lx (getL getD16 16 l) = X3, lu (getL getD16 16 l) = U3, lc (getL getD16 16 l) = K3 at *
    go_enter Try.func4, Try.ntmps4
    go_wp2_with (first | (go_at_call 24; refine C1.mono ?_; rintro e w1 ⟨rfl, rfl⟩) | (go_at_call 25; refine C2.mono ?_; rintro e w1 ⟨rfl, rfl⟩) | (go_at_call 26; refine C3.mono ?_; rintro e w1 ⟨rfl, rfl⟩) | (go_at_call 27; refine C4.mono ?_; rintro e w1 ⟨rfl, rfl⟩))
    clear C1 C2 C3 C4
    refine C5.mono ?_
    rintro e w1 ⟨v1, rfl, ⟨a1, c1, rfl, ho1⟩, hb1⟩
    have S1 : Sl w1 a1 X1.length c1 _ := (Own.mk' ho1).sl'
    clear ho1 C5
    go_wp2_with fail
    refine (C6 _ hb1).mono ?_
    rintro e w2 ⟨v2, rfl, ⟨a2, c2, rfl, ho2⟩, hb2⟩
    have S2 : Sl w2 a2 X1.length c2 _ := (Own.mk' ho2).sl'
    have C := ref_SameInts _ _ _ X1 _ _ _ X1 w2 (S1.ext hb2) S2
    simp only [beq_self_eq_true] at C
    have E2 := Ext.trans' hb1 hb2
    clear ho2 C6 S1 S2 hb1 hb2
    go_wp2_with fail
    refine C.mono ?_
    rintro e w3 ⟨rfl, hb3⟩
    have E3 := Ext.trans' E2 hb3
    clear C hb3 E2
    go_wp2_with fail
    refine (C7 _ E3).mono ?_
    rintro e w4 ⟨v1, rfl, ⟨a1, c1, rfl, ho1⟩, hb1⟩
    have S1 : Sl w4 a1 X2.length c1 _ := (Own.mk' ho1).sl'
    have E4 := Ext.trans' E3 hb1
    clear ho1 C7 hb1 E3
    go_wp2_with fail
    refine (C8 _ E4).mono ?_
    rintro e w5 ⟨v2, rfl, ⟨a2, c2, rfl, ho2⟩, hb2⟩
    have S2 : Sl w5 a2 X2.length c2 _ := (Own.mk' ho2).sl'
    have C := ref_SameTexts _ _ _ X2 _ _ _ X2 w5 (S1.ext hb2) S2
    simp only [beq_self_eq_true] at C
    have E5 := Ext.trans' E4 hb2
    clear ho2 C8 S1 S2 hb2 E4
    go_wp2_with fail
    refine C.mono ?_
    rintro e w6 ⟨rfl, hb3⟩
    have E6 := Ext.trans' E5 hb3
    clear C hb3 E5
    go_wp2_with fail
    refine (C9 _ E6).mono ?_
    rintro e w7 ⟨v1, rfl, ⟨a1, c1, rfl, ho1⟩, hb1⟩
    have S1 : SlN w7 a1 X3.length c1 16 _ := SlN.of_own' (Own.mk' ho1)
    have E7 := Ext.trans' E6 hb1
    clear ho1 C9 hb1 E6
    go_wp2_with fail
    refine (C10 _ E7).mono ?_
    rintro e w8 ⟨v2, rfl, ⟨a2, c2, rfl, ho2⟩, hb2⟩
    have S2 : SlN w8 a2 X3.length c2 16 _ := SlN.of_own' (Own.mk' ho2)
    have E8 := Ext.trans' E7 hb2
    go_wp2_with (go_at_call 12; refine (sanity_true _).mono ?_; rintro e w9 ⟨rfl, hb9⟩)
    have C := ref_SameDigests _ _ _ X3 _ _ _ X3 w9 ((S1.ext hb2).ext hb9) (S2.ext hb9) H16.out H16.out
    simp only [beq_self_eq_true] at C
    refine C.mono ?_
    rintro e w10 ⟨rfl, hb10⟩
    have E10 := (E8.trans' hb9).trans' hb10
    clear C ho2 S1 S2 hb2 C10
    go_wp2_with fail
    go_ret
    exact ⟨rfl, E10⟩
end Go.Proofs.Ytciamgdigpgneaa
