/- Lists of digests: decoding. -/
import Derived.Test.YtciamgdigpgneaaWire11
namespace Go.Proofs.Ytciamgdigpgneaa
open Go.RowKit WM
theorem one_agg (d : List UInt8) : ∀ u ∈ (Value.agg (u8s d).toArray).cells.toList, u.oneCell' = true := by
  intro u hu
  exact u8s_oneCell d u (by simpa [Value.cells] using hu)
set_option maxRecDepth 100000 in
set_option maxHeartbeats 2000000 in
theorem get_digest (ao : Option Addr) (n cap : Nat) (l : List UInt8) (w : World) (hs : Bs w ao n cap l) (hlen : l.length ≤ 1000000) :
    Calls Try.prog 46 #[.slice ao n cap, .int .i64 16, .func (.func 47) #[] #[]] w (PostL 57 16 cvD w (getL getD16 16 l)) := by
  have C := wire_length ao n cap l 16 w hs (by decide) (by decide)
  obtain ⟨i5, hi, hz, hs1, hby⟩ := inf_u8
  obtain ⟨ig, hig, hzg, hsg, hbg⟩ := inf_digest
  obtain ⟨B, hB⟩ : ∃ B, B = w.heap.size := ⟨_, rfl⟩
  have HB := Lib.hid hB
  have hbB : Below B w w := Below.refl _ _
  clear hB
  obtain rfl := hs.length
  have hcap := hs.fits
  have hsm := hs.small
  unfold maxLen at hsm
  cases hd : lenD l 16 with
  | error e =>
    have Hf : Hid (getL getD16 16 l = .error e) := by unfold getL; rw [hd]; rfl
    simp only [hd, tN] at C
    have he := lenD_err hd
    clear hd
    rcases he with rfl | rfl
    all_goals
      go_enter Try.func46, Try.ntmps46
      go_wp2_with (go_at_call 42; refine C.mono ?_; rintro e w' ⟨rfl, rfl⟩)
      go_ret3
      exact postL_err Hf.out (Below.refl _ _)
  | ok p =>
    obtain ⟨m, u⟩ := p
    obtain ⟨-, hml, hul, -, -, hu0, hm2⟩ := lenD_ok hd
    have Hd := Lib.hid hd
    simp only [hd, tN] at C
    clear hd
    have hml : m * 16 ≤ l.length - u := (Nat.le_div_iff_mul_le (by decide)).1 hml
    go_enter Try.func46, Try.ntmps46
    go_wp2_with (go_at_call 42; refine C.mono ?_; rintro e w' ⟨rfl, rfl⟩)
    clear C
    go_loopw [10, 12, 27] (fun a v i wr => ∃ (k p : Nat) (xs : List (List UInt8)), i = .int .i64 k ∧ a = .int .i64 p ∧ k ≤ m ∧ p ≤ u + k * 16 ∧ u + k * 16 ≤ p ∧ Own wr B 57 16 v k (xs.flatMap cvD) ∧ Below B w wr ∧ Hid (many getD16 k (l.drop u) = .ok (xs, p - u)) ∧ Hid (xs.length = k)) (fun _ _ i _ => m - (intOf i).toNat)
    case atStart => exact ⟨0, u, [], rfl, rfl, Nat.zero_le _, by omega, by omega, Own.nil _ _ _ _, hbB, by show _ = _; rw [Nat.sub_self]; rfl, rfl⟩
    case round =>
      obtain ⟨k, p, xs, rfl, rfl, hk, hup, hup2, hown, hbel, HM, HL⟩ := hrel
      have hBw : B ≤ wr.heap.size := by have := hbel.size; rw [← HB.out] at this; exact this
      have hsr : Bs wr ao l.length cap l := hs.below hbel (Nat.le_of_eq HB.out.symm)
      by_cases hlt : k < m
      · have hpl : p ≤ l.length := by omega
        have h16 : 16 ≤ l.length - p := by omega
        have C1 := fun ao' (h : Bs wr ao' (l.length - p) (cap - p) (l.drop p)) => wire_getDigest ao' _ _ (l.drop p) _ h h16
        have Hn : Hid (many getD16 (k + 1) (l.drop u) = .ok (xs ++ [(l.drop p).take 16], p + 16 - u)) := by
          have := many_snoc getD16 k _ xs (p - u) HM.out
          rw [List.drop_drop, show u + (p - u) = p by omega] at this
          show _ = _
          rw [this]; simp only [getD16]
          rw [show p - u + 16 = p + 16 - u by omega]
        have hX16 : ((l.drop p).take 16).length = 16 := by rw [List.length_take, List.length_drop]; omega
        generalize (l.drop p).take 16 = X at *
        have HX1 : Hid ((Try.prog.info? 57).map (·.size) = some (u8s X).length) := by show _ = _; rw [u8s_length, hX16, hig]; simp [hsg]
        have HX2 : Hid ((Try.prog.info? 57).map (·.size) = some (u8s X).toArray.size) := by show _ = _; rw [List.size_toArray]; exact HX1.out
        have HX3 : Hid ((u8s X).toArray.size = ig.size) := by show _ = _; rw [List.size_toArray, u8s_length, hX16, hsg]
        have HX5 : Hid ((Value.agg (u8s X).toArray).cells.size = 16) := by show _ = _; simp only [Value.cells]; rw [List.size_toArray, u8s_length, hX16]
        have HX4 := Lib.hid (u8s_arr_one X)
        have Hnc : Hid ((xs ++ [X]).flatMap cvD = xs.flatMap cvD ++ (Value.agg (u8s X).toArray).cells.toList) := by show _ = _; rw [List.flatMap_append]; simp [cvD, Value.cells]
        clear hX16
        go_wp2_with (first | (refine wpList_bs_from rfl 28 _ _ rfl 5 i5 Try.underlying28 hi hs1 rfl hsr p .i64 rfl hpl ?_; intro ao' hs') | (go_at_call 47; refine (C1 ao' hs').mono ?_; rintro e w1 ⟨rfl, hbel1⟩; have hownk := (hown.below hbel1 (Nat.le_refl _)).alloc (.cells (u8s X).toArray 57); have hbs1 : B ≤ w1.heap.size := Nat.le_trans hBw hbel1.size; have hbel2 := (hbel.trans (hbel1.mono hBw)).alloc hbs1 (.cells (u8s X).toArray 57); have hbs2 : B ≤ (w1.alloc (.cells (u8s X).toArray 57)).heap.size := (by simp; omega); have HW2 := Lib.hid (heap_alloc_new w1 (.cells (u8s X).toArray 57))) | (refine wpList_var rfl rfl 13 (.tmp 35) 57 rfl (by simp [Act.put]) rfl rfl ig _ hig hzg (by rw [hsg]; rfl) (u8s X).toArray rfl HX3.out HX4.out ?_) | (refine wpList_load_row rfl 57 (.tmp 13) rfl w1.heap.size rfl 57 _ (0, 0) _ HW2.out Try.underlying57 rfl HX2.out ?_) | (refine wpList_append1 rfl rfl 41 43 _ 24 rfl (by decide) (by simp [Act.put]) rfl rfl 57 ig _ 16 16 Try.underlying24 hig hzg hsg hbg rfl (by decide) (by decide) B _ _ _ rfl hownk (.agg (u8s X).toArray) rfl HX5.out (one_agg X) (by omega) (by omega) hbs2 ?_; intro v' w' hown' hg'))
        go_roundw
        case rel => exact ⟨k + 1, p + 16, xs ++ [X], by go_num, by go_num, by omega, by omega, by omega, by rw [Hnc.out]; exact hown', hownk.grew hg' hbel2 (Nat.le_refl _) hbs2, Hn, by show _ = _; rw [List.length_append, HL.out]; rfl⟩
        case measure => simp [intOf]; omega
      · have hkm : k = m := by omega
        have Hf : Hid (getL getD16 16 l = .ok (xs, p)) := by
          show _ = _
          unfold getL; rw [Hd.out]; simp only
          rw [← hkm, HM.out]; simp only
          rw [show u + (p - u) = p by omega]
        have HK := Lib.hid hkm
        clear hkm
        go_wp2
        go_ret3
        exact postL_ok Hf.out (by rw [← HB.out, HL.out]; exact hown) (HB.out ▸ hbel)
end Go.Proofs.Ytciamgdigpgneaa
