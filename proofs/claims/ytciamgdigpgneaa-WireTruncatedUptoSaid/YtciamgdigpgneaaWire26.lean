/- The law of truncation, walked. -/
import Derived.Test.YtciamgdigpgneaaWire25
namespace Go.Proofs.Ytciamgdigpgneaa
open Go.RowKit WM
theorem cell_lit {w : World} {g : Nat} {cs : Array Value} {e : TypeId} {fz : Nat × Nat} (h : w.heap[g]? = some (.cells cs e fz)) {j : Nat} {v : Value} (hj : cs[j]? = some v) : w.cell? ⟨g, j, none⟩ = some v := by
  simp [World.cell?, h, hj]
set_option maxRecDepth 100000 in
set_option maxHeartbeats 8000000 in
theorem law_Truncated (n : Int) (h1 : -9223372036854775808 ≤ n) (h2 : n ≤ 9223372036854775807) (s : List UInt8) (ao1 : Option Addr) (n1 cap1 : Nat) (l : List Int) (ao2 : Option Addr) (n2 cap2 : Nat) (x : List (List UInt8)) (ao3 : Option Addr) (n3 cap3 : Nat) (d : List (List UInt8)) (w : World)
    (hsl : Sl w ao1 n1 cap1 (l.flatMap cvI)) (hr : ∀ x ∈ l, -9223372036854775808 ≤ x ∧ x ≤ 9223372036854775807) (hsx : Sl w ao2 n2 cap2 (x.flatMap cvS)) (hsd : SlN w ao3 n3 cap3 16 (d.flatMap cvD)) (h16 : ∀ x ∈ d, x.length = 16)
    (hb1 : s.length ≤ 2000000) (hb2 : l.length ≤ 2000000) (hb3 : d.length ≤ 2000000) (hb4 : x.length + (x.map List.length).sum ≤ 4000000) :
    Calls Try.prog 9 #[.int .i64 n, .string ⟨s.toArray⟩, .slice ao1 n1 cap1, .slice ao2 n2 cap2, .slice ao3 n3 cap3] w fun e w' => e = .returned (.bool true) ∧ Below w.heap.size w w' := by
  obtain rfl := len_cvI hsl
  have hnx := len_cvS hsx
  obtain rfl := len_cvD hsd h16
  have hsz : ByteArray.size ⟨s.toArray⟩ = s.length := by simp [ByteArray.size]
  have CF := law_few ao2 n2 cap2 x w hsx (by omega)
  by_cases hbig : 400 < s.length + 10 * l.length + 16 * d.length
  · clear CF
    go_enter Try.func9, Try.ntmps9
    go_wp2_with (go_at_call 12; refine (sanity_true _).mono ?_; rintro e w1 ⟨rfl, hb1⟩)
    go_ret
    exact ⟨rfl, hb1⟩
  by_cases hlong : 40 < n2
  · clear CF
    go_enter Try.func9, Try.ntmps9
    go_wp2_with (go_at_call 12; refine (sanity_true _).mono ?_; rintro e w1 ⟨rfl, hb1⟩)
    go_ret
    exact ⟨rfl, hb1⟩
  by_cases hfew : x.length + (x.map List.length).sum ≤ 2000
  case neg =>
    simp only [hfew, decide_false] at CF
    have HF := Lib.hid hfew
    clear hfew
    go_enter Try.func9, Try.ntmps9
    go_wp2_with (first | (go_at_call 11; refine CF.mono ?_; rintro e w1 ⟨rfl, rfl⟩) | (go_at_call 12; refine (sanity_true _).mono ?_; rintro e w1 ⟨rfl, hb1⟩))
    go_ret
    exact ⟨rfl, hb1⟩
  case pos =>
    simp only [hfew, decide_true] at CF
    have HLx : Hid (∀ y ∈ x, y.length ≤ 1000000) := fun y hy => by have := le_sum hy; omega
    have HTx := Lib.hid (flatMap_encB_len x HLx.out)
    have HTl := Lib.hid (flatMap_enc_len l hr)
    have Hsl := Lib.hid hsl
    have Hsx := Lib.hid hsx
    have Hsd := Lib.hid hsd
    have Hfew := Lib.hid hfew
    have Hnx := Lib.hid hnx
    have hl2 : l.length ≤ 2000 := by omega
    have hd2 : d.length ≤ 2000 := by omega
    have hs2 : s.length ≤ 2000 := by omega
    clear hnx hsl hsx hsd hfew
    go_enter Try.func9, Try.ntmps9
    go_wp2_with (first | (go_at_call 11; refine CF.mono ?_; rintro e w1 ⟨rfl, rfl⟩))
    have Y0 : Ext w w := Below.refl _ _
    refine (wire_Int n _ h1 h2).mono ?_
    rintro e u1 ⟨v, rfl, ⟨a1, c1, rfl, ho⟩, hb⟩
    have T1 : Bs u1 a1 _ c1 (enc n) := (Own.mk' ho).sl'
    have Y1 : Ext w u1 := Ext.trans' Y0 hb
    clear ho hb
    go_wp2_with fail
    refine (wire_Bytes s _ (by omega)).mono ?_
    rintro e u2 ⟨v, rfl, ⟨a2, c2, rfl, ho⟩, hb⟩
    have T2 : Bs u2 a2 _ c2 (encB s) := (Own.mk' ho).sl'
    have Y2 : Ext w u2 := Ext.trans' Y1 hb
    have T1 := T1.ext hb
    clear ho hb
    go_wp2_with fail
    refine (wire_Ints _ _ _ l _ (Hsl.out.ext Y2) (by omega) hr (by have := HTl.out; omega)).mono ?_
    rintro e u3 ⟨v, rfl, ⟨a3, c3, rfl, ho⟩, hb⟩
    have T3 : Bs u3 a3 _ c3 (encL enc l) := (Own.mk' ho).sl'
    have Y3 : Ext w u3 := Ext.trans' Y2 hb
    have T1 := T1.ext hb
    have T2 := T2.ext hb
    clear ho hb
    go_wp2_with fail
    refine (wire_Strings _ _ _ x _ (Hsx.out.ext Y3) (by have := Hfew.out; omega) HLx.out (by have := HTx.out; have := Hfew.out; omega)).mono ?_
    rintro e u4 ⟨v, rfl, ⟨a4, c4, rfl, ho⟩, hb⟩
    have T4 : Bs u4 a4 _ c4 (encL encB x) := (Own.mk' ho).sl'
    have Y4 : Ext w u4 := Ext.trans' Y3 hb
    have T1 := T1.ext hb
    have T2 := T2.ext hb
    have T3 := T3.ext hb
    clear ho hb
    go_wp2_with fail
    refine (wire_Digests _ _ _ d _ (Hsd.out.ext Y4) h16 (by omega)).mono ?_
    rintro e u5 ⟨v, rfl, ⟨a5, c5, rfl, ho⟩, hb⟩
    have T5 : Bs u5 a5 _ c5 (encL (fun d => d) d) := (Own.mk' ho).sl'
    have Y5 : Ext w u5 := Ext.trans' Y4 hb
    have T1 := T1.ext hb
    have T2 := T2.ext hb
    have T3 := T3.ext hb
    have T4 := T4.ext hb
    clear ho hb
    go_wp2_with fail
    have S1 := short_Int h1 h2
    have S2 := short_Bytes (s := s) (by omega)
    have S3 := short_Ints hr (by omega)
    have S4 := short_Strings (fun y hy => by have := HLx.out y hy; omega) (by have := Hfew.out; omega)
    have S5 := short_Digests h16 (by omega)
    have Yb := (Below.refl u5.heap.size u5).alloc (Nat.le_refl _) (Obj.cells #[Value.slice a1 (enc n).length c1, Value.slice a2 (encB s).length c2, Value.slice a3 (encL enc l).length c3, Value.slice a4 (encL encB x).length c4, Value.slice a5 (encL (fun d => d) d).length c5] 28)
    have hB := heap_alloc_new u5 (.cells #[Value.slice a1 (enc n).length c1, Value.slice a2 (encB s).length c2, Value.slice a3 (encL enc l).length c3, Value.slice a4 (encL encB x).length c4, Value.slice a5 (encL (fun d => d) d).length c5] 28)
    have B1 := cell_lit hB (j := 0) rfl
    have T1 := T1.ext Yb
    have B2 := cell_lit hB (j := 1) rfl
    have T2 := T2.ext Yb
    have B3 := cell_lit hB (j := 2) rfl
    have T3 := T3.ext Yb
    have B4 := cell_lit hB (j := 3) rfl
    have T4 := T4.ext Yb
    have B5 := cell_lit hB (j := 4) rfl
    have T5 := T5.ext Yb
    have Y := Ext.trans' Y5 Yb
    clear hB Yb Y0 Y1 Y2 Y3 Y4 Y5 CF HTx HTl Hsl Hsx Hsd Hfew Hnx
    generalize u5.heap.size = g at *
    generalize (u5.alloc _) = wB at *
    obtain ⟨i5, hi, hz, hs1, hby⟩ := inf_u8
    go_loopw [49] (fun i wr => ∃ k : Nat, i = .int .i64 (k : Int) ∧ k ≤ 5 ∧ Ext wB wr) (fun i _ => 5 - (intOf i).toNat)
    case atStart => exact ⟨0, rfl, by omega, Below.refl _ _⟩
    case round =>
      obtain ⟨k, rfl, hk, X⟩ := hrel
      rcases (by omega : k = 0 ∨ k = 1 ∨ k = 2 ∨ k = 3 ∨ k = 4 ∨ k = 5) with rfl | rfl | rfl | rfl | rfl | rfl
      · have D := X.cell (p := ⟨g, 0, none⟩) (block_lt_of_cell B1)
        rw [B1] at D
        have T := T1.ext X
        clear B1 B2 B3 B4 B5 T1 T2 T3 T4 T5
        generalize (enc n) = E at *
        go_wp2_with fail
        · rename_i hM
          go_loopw [57] (fun i wx => ∃ j : Nat, i = .int .i64 (j : Int) ∧ j ≤ E.length ∧ j ≤ 500 ∧ Ext wr wx) (fun i _ => 500 - (intOf i).toNat)
          case atStart => exact ⟨0, rfl, by omega, by omega, Below.refl _ _⟩
          case round =>
            obtain ⟨j, rfl, j1, j2, X2⟩ := hrel
            by_cases hj : j < 500
            · have TT := T.ext X2
              have jE : j < E.length := by omega
              have j5 : j + 1 ≤ 500 := by omega
              go_wp2_with (first | (refine wpList_bs_to rfl 28 (.tmp 72) (.tmp 73) rfl 5 i5 Try.underlying28 hi hs1 rfl TT j .i64 rfl (by omega) ?_; intro ao' hs') | (go_at_call 24; refine (S1 _ _ _ _ hs' jE (by omega)).mono ?_; rintro e w2 ⟨v, rfl, hb2⟩))
              go_roundw
              case rel => exact ⟨j + 1, by go_num, by omega, by omega, Ext.trans' X2 hb2⟩
              case measure => simp [intOf]; omega
            · go_wp2_with fail
              go_roundw
              case rel => exact ⟨1, by go_num, by omega, Ext.trans' X X2⟩
              case measure => simp [intOf]
        · rename_i hM
          go_loopw [57] (fun i wx => ∃ j : Nat, i = .int .i64 (j : Int) ∧ j ≤ E.length ∧ j ≤ 500 ∧ Ext wr wx) (fun i _ => 500 - (intOf i).toNat)
          case atStart => exact ⟨0, rfl, by omega, by omega, Below.refl _ _⟩
          case round =>
            obtain ⟨j, rfl, j1, j2, X2⟩ := hrel
            by_cases hj : j < E.length
            · have TT := T.ext X2
              have jE : j < E.length := by omega
              have j5 : j + 1 ≤ 500 := by omega
              go_wp2_with (first | (refine wpList_bs_to rfl 28 (.tmp 72) (.tmp 73) rfl 5 i5 Try.underlying28 hi hs1 rfl TT j .i64 rfl (by omega) ?_; intro ao' hs') | (go_at_call 24; refine (S1 _ _ _ _ hs' jE (by omega)).mono ?_; rintro e w2 ⟨v, rfl, hb2⟩))
              go_roundw
              case rel => exact ⟨j + 1, by go_num, by omega, by omega, Ext.trans' X2 hb2⟩
              case measure => simp [intOf]; omega
            · go_wp2_with fail
              go_roundw
              case rel => exact ⟨1, by go_num, by omega, Ext.trans' X X2⟩
              case measure => simp [intOf]
      · have D := X.cell (p := ⟨g, 1, none⟩) (block_lt_of_cell B2)
        rw [B2] at D
        have T := T2.ext X
        clear B1 B2 B3 B4 B5 T1 T2 T3 T4 T5
        generalize (encB s) = E at *
        go_wp2_with fail
        · rename_i hM
          go_loopw [57] (fun i wx => ∃ j : Nat, i = .int .i64 (j : Int) ∧ j ≤ E.length ∧ j ≤ 500 ∧ Ext wr wx) (fun i _ => 500 - (intOf i).toNat)
          case atStart => exact ⟨0, rfl, by omega, by omega, Below.refl _ _⟩
          case round =>
            obtain ⟨j, rfl, j1, j2, X2⟩ := hrel
            by_cases hj : j < 500
            · have TT := T.ext X2
              have jE : j < E.length := by omega
              have j5 : j + 1 ≤ 500 := by omega
              go_wp2_with (first | (refine wpList_bs_to rfl 28 (.tmp 82) (.tmp 83) rfl 5 i5 Try.underlying28 hi hs1 rfl TT j .i64 rfl (by omega) ?_; intro ao' hs') | (go_at_call 26; refine (S2 _ _ _ _ hs' jE (by omega)).mono ?_; rintro e w2 ⟨v, rfl, hb2⟩))
              go_roundw
              case rel => exact ⟨j + 1, by go_num, by omega, by omega, Ext.trans' X2 hb2⟩
              case measure => simp [intOf]; omega
            · go_wp2_with fail
              go_roundw
              case rel => exact ⟨2, by go_num, by omega, Ext.trans' X X2⟩
              case measure => simp [intOf]
        · rename_i hM
          go_loopw [57] (fun i wx => ∃ j : Nat, i = .int .i64 (j : Int) ∧ j ≤ E.length ∧ j ≤ 500 ∧ Ext wr wx) (fun i _ => 500 - (intOf i).toNat)
          case atStart => exact ⟨0, rfl, by omega, by omega, Below.refl _ _⟩
          case round =>
            obtain ⟨j, rfl, j1, j2, X2⟩ := hrel
            by_cases hj : j < E.length
            · have TT := T.ext X2
              have jE : j < E.length := by omega
              have j5 : j + 1 ≤ 500 := by omega
              go_wp2_with (first | (refine wpList_bs_to rfl 28 (.tmp 82) (.tmp 83) rfl 5 i5 Try.underlying28 hi hs1 rfl TT j .i64 rfl (by omega) ?_; intro ao' hs') | (go_at_call 26; refine (S2 _ _ _ _ hs' jE (by omega)).mono ?_; rintro e w2 ⟨v, rfl, hb2⟩))
              go_roundw
              case rel => exact ⟨j + 1, by go_num, by omega, by omega, Ext.trans' X2 hb2⟩
              case measure => simp [intOf]; omega
            · go_wp2_with fail
              go_roundw
              case rel => exact ⟨2, by go_num, by omega, Ext.trans' X X2⟩
              case measure => simp [intOf]
      · have D := X.cell (p := ⟨g, 2, none⟩) (block_lt_of_cell B3)
        rw [B3] at D
        have T := T3.ext X
        clear B1 B2 B3 B4 B5 T1 T2 T3 T4 T5
        generalize (encL enc l) = E at *
        go_wp2_with fail
        · rename_i hM
          go_loopw [57] (fun i wx => ∃ j : Nat, i = .int .i64 (j : Int) ∧ j ≤ E.length ∧ j ≤ 500 ∧ Ext wr wx) (fun i _ => 500 - (intOf i).toNat)
          case atStart => exact ⟨0, rfl, by omega, by omega, Below.refl _ _⟩
          case round =>
            obtain ⟨j, rfl, j1, j2, X2⟩ := hrel
            by_cases hj : j < 500
            · have TT := T.ext X2
              have jE : j < E.length := by omega
              have j5 : j + 1 ≤ 500 := by omega
              go_wp2_with (first | (refine wpList_bs_to rfl 28 (.tmp 92) (.tmp 93) rfl 5 i5 Try.underlying28 hi hs1 rfl TT j .i64 rfl (by omega) ?_; intro ao' hs') | (go_at_call 28; refine (S3 _ _ _ _ hs' jE (by omega)).mono ?_; rintro e w2 ⟨v, rfl, hb2⟩))
              go_roundw
              case rel => exact ⟨j + 1, by go_num, by omega, by omega, Ext.trans' X2 hb2⟩
              case measure => simp [intOf]; omega
            · go_wp2_with fail
              go_roundw
              case rel => exact ⟨3, by go_num, by omega, Ext.trans' X X2⟩
              case measure => simp [intOf]
        · rename_i hM
          go_loopw [57] (fun i wx => ∃ j : Nat, i = .int .i64 (j : Int) ∧ j ≤ E.length ∧ j ≤ 500 ∧ Ext wr wx) (fun i _ => 500 - (intOf i).toNat)
          case atStart => exact ⟨0, rfl, by omega, by omega, Below.refl _ _⟩
          case round =>
            obtain ⟨j, rfl, j1, j2, X2⟩ := hrel
            by_cases hj : j < E.length
            · have TT := T.ext X2
              have jE : j < E.length := by omega
              have j5 : j + 1 ≤ 500 := by omega
              go_wp2_with (first | (refine wpList_bs_to rfl 28 (.tmp 92) (.tmp 93) rfl 5 i5 Try.underlying28 hi hs1 rfl TT j .i64 rfl (by omega) ?_; intro ao' hs') | (go_at_call 28; refine (S3 _ _ _ _ hs' jE (by omega)).mono ?_; rintro e w2 ⟨v, rfl, hb2⟩))
              go_roundw
              case rel => exact ⟨j + 1, by go_num, by omega, by omega, Ext.trans' X2 hb2⟩
              case measure => simp [intOf]; omega
            · go_wp2_with fail
              go_roundw
              case rel => exact ⟨3, by go_num, by omega, Ext.trans' X X2⟩
              case measure => simp [intOf]
      · have D := X.cell (p := ⟨g, 3, none⟩) (block_lt_of_cell B4)
        rw [B4] at D
        have T := T4.ext X
        clear B1 B2 B3 B4 B5 T1 T2 T3 T4 T5
        generalize (encL encB x) = E at *
        go_wp2_with fail
        · rename_i hM
          go_loopw [57] (fun i wx => ∃ j : Nat, i = .int .i64 (j : Int) ∧ j ≤ E.length ∧ j ≤ 500 ∧ Ext wr wx) (fun i _ => 500 - (intOf i).toNat)
          case atStart => exact ⟨0, rfl, by omega, by omega, Below.refl _ _⟩
          case round =>
            obtain ⟨j, rfl, j1, j2, X2⟩ := hrel
            by_cases hj : j < 500
            · have TT := T.ext X2
              have jE : j < E.length := by omega
              have j5 : j + 1 ≤ 500 := by omega
              go_wp2_with (first | (refine wpList_bs_to rfl 28 (.tmp 102) (.tmp 103) rfl 5 i5 Try.underlying28 hi hs1 rfl TT j .i64 rfl (by omega) ?_; intro ao' hs') | (go_at_call 31; refine (S4 _ _ _ _ hs' jE (by omega)).mono ?_; rintro e w2 ⟨v, rfl, hb2⟩))
              go_roundw
              case rel => exact ⟨j + 1, by go_num, by omega, by omega, Ext.trans' X2 hb2⟩
              case measure => simp [intOf]; omega
            · go_wp2_with fail
              go_roundw
              case rel => exact ⟨4, by go_num, by omega, Ext.trans' X X2⟩
              case measure => simp [intOf]
        · rename_i hM
          go_loopw [57] (fun i wx => ∃ j : Nat, i = .int .i64 (j : Int) ∧ j ≤ E.length ∧ j ≤ 500 ∧ Ext wr wx) (fun i _ => 500 - (intOf i).toNat)
          case atStart => exact ⟨0, rfl, by omega, by omega, Below.refl _ _⟩
          case round =>
            obtain ⟨j, rfl, j1, j2, X2⟩ := hrel
            by_cases hj : j < E.length
            · have TT := T.ext X2
              have jE : j < E.length := by omega
              have j5 : j + 1 ≤ 500 := by omega
              go_wp2_with (first | (refine wpList_bs_to rfl 28 (.tmp 102) (.tmp 103) rfl 5 i5 Try.underlying28 hi hs1 rfl TT j .i64 rfl (by omega) ?_; intro ao' hs') | (go_at_call 31; refine (S4 _ _ _ _ hs' jE (by omega)).mono ?_; rintro e w2 ⟨v, rfl, hb2⟩))
              go_roundw
              case rel => exact ⟨j + 1, by go_num, by omega, by omega, Ext.trans' X2 hb2⟩
              case measure => simp [intOf]; omega
            · go_wp2_with fail
              go_roundw
              case rel => exact ⟨4, by go_num, by omega, Ext.trans' X X2⟩
              case measure => simp [intOf]
      · have D := X.cell (p := ⟨g, 4, none⟩) (block_lt_of_cell B5)
        rw [B5] at D
        have T := T5.ext X
        clear B1 B2 B3 B4 B5 T1 T2 T3 T4 T5
        generalize (encL (fun d => d) d) = E at *
        go_wp2_with fail
        · rename_i hM
          go_loopw [57] (fun i wx => ∃ j : Nat, i = .int .i64 (j : Int) ∧ j ≤ E.length ∧ j ≤ 500 ∧ Ext wr wx) (fun i _ => 500 - (intOf i).toNat)
          case atStart => exact ⟨0, rfl, by omega, by omega, Below.refl _ _⟩
          case round =>
            obtain ⟨j, rfl, j1, j2, X2⟩ := hrel
            by_cases hj : j < 500
            · have TT := T.ext X2
              have jE : j < E.length := by omega
              have j5 : j + 1 ≤ 500 := by omega
              go_wp2_with (first | (refine wpList_bs_to rfl 28 (.tmp 62) (.tmp 63) rfl 5 i5 Try.underlying28 hi hs1 rfl TT j .i64 rfl (by omega) ?_; intro ao' hs') | (go_at_call 34; refine (S5 _ _ _ _ hs' jE (by omega)).mono ?_; rintro e w2 ⟨v, rfl, hb2⟩))
              go_roundw
              case rel => exact ⟨j + 1, by go_num, by omega, by omega, Ext.trans' X2 hb2⟩
              case measure => simp [intOf]; omega
            · go_wp2_with fail
              go_roundw
              case rel => exact ⟨5, by go_num, by omega, Ext.trans' X X2⟩
              case measure => simp [intOf]
        · rename_i hM
          go_loopw [57] (fun i wx => ∃ j : Nat, i = .int .i64 (j : Int) ∧ j ≤ E.length ∧ j ≤ 500 ∧ Ext wr wx) (fun i _ => 500 - (intOf i).toNat)
          case atStart => exact ⟨0, rfl, by omega, by omega, Below.refl _ _⟩
          case round =>
            obtain ⟨j, rfl, j1, j2, X2⟩ := hrel
            by_cases hj : j < E.length
            · have TT := T.ext X2
              have jE : j < E.length := by omega
              have j5 : j + 1 ≤ 500 := by omega
              go_wp2_with (first | (refine wpList_bs_to rfl 28 (.tmp 62) (.tmp 63) rfl 5 i5 Try.underlying28 hi hs1 rfl TT j .i64 rfl (by omega) ?_; intro ao' hs') | (go_at_call 34; refine (S5 _ _ _ _ hs' jE (by omega)).mono ?_; rintro e w2 ⟨v, rfl, hb2⟩))
              go_roundw
              case rel => exact ⟨j + 1, by go_num, by omega, by omega, Ext.trans' X2 hb2⟩
              case measure => simp [intOf]; omega
            · go_wp2_with fail
              go_roundw
              case rel => exact ⟨5, by go_num, by omega, Ext.trans' X X2⟩
              case measure => simp [intOf]
      · clear B1 B2 B3 B4 B5 T1 T2 T3 T4 T5
        go_wp2_with (go_at_call 12; refine (sanity_true _).mono ?_; rintro e w1 ⟨rfl, hb1⟩)
        go_ret
        exact ⟨rfl, Ext.trans' (Ext.trans' Y X) hb1⟩
end Go.Proofs.Ytciamgdigpgneaa
