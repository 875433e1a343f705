/- Lists of digests: the reference's decoding. -/
import Derived.Test.YtciamgdigpgneaaWire12
namespace Go.Proofs.Ytciamgdigpgneaa
open Go.RowKit WM
set_option maxRecDepth 100000 in
set_option maxHeartbeats 2000000 in
theorem ref_GetDigests (ao : Option Addr) (n cap : Nat) (l : List UInt8) (w : World) (hs : Bs w ao n cap l) (hlen : l.length ≤ 1000000) :
    Calls Try.prog 35 #[.slice ao n cap] w (PostL 57 16 cvD w (getL getD16 16 l)) := by
  have C := ref_length ao n cap l 16 w hs (by decide) (by decide)
  obtain ⟨i5, hi, hz, hs1, hby⟩ := inf_u8
  obtain ⟨ig, hig, hzg, hsg, hbg⟩ := inf_digest
  obtain ⟨B, hB⟩ : ∃ B, B = w.heap.size := ⟨_, rfl⟩
  have HB := Lib.hid hB
  have hbB : Below B w w := Below.refl _ _
  clear hB
  obtain rfl := hs.length
  have hcap := hs.fits
  have hsm := hs.small
  unfold maxLen at hsm
  cases hd : lenD l 16 with
  | error e =>
    have Hf : Hid (getL getD16 16 l = .error e) := by unfold getL; rw [hd]; rfl
    simp only [hd, tN] at C
    have he := lenD_err hd
    clear hd
    rcases he with rfl | rfl
    all_goals
      go_enter Try.func35, Try.ntmps35
      go_wp2_with (go_at_call 44; refine C.mono ?_; rintro e w' ⟨rfl, rfl⟩)
      go_ret3
      exact postL_err Hf.out (Below.refl _ _)
  | ok p =>
    obtain ⟨m, u⟩ := p
    obtain ⟨-, hml, hul, -, -, hu0, hm2⟩ := lenD_ok hd
    have Hd := Lib.hid hd
    simp only [hd, tN] at C
    clear hd
    have hml : m * 16 ≤ l.length - u := (Nat.le_div_iff_mul_le (by decide)).1 hml
    go_enter Try.func35, Try.ntmps35
    go_wp2_with (go_at_call 44; refine C.mono ?_; rintro e w' ⟨rfl, rfl⟩)
    clear C
    go_loopw [6, 8, 9] (fun a v i wr => ∃ (k p : Nat) (xs : List (List UInt8)), i = .int .i64 k ∧ a = .int .i64 p ∧ k ≤ m ∧ p ≤ u + k * 16 ∧ u + k * 16 ≤ p ∧ Own wr B 57 16 v k (xs.flatMap cvD) ∧ Below B w wr ∧ Hid (many getD16 k (l.drop u) = .ok (xs, p - u)) ∧ Hid (xs.length = k)) (fun _ _ i _ => m - (intOf i).toNat)
    case atStart => exact ⟨0, u, [], rfl, rfl, Nat.zero_le _, by omega, by omega, Own.nil _ _ _ _, hbB, by show _ = _; rw [Nat.sub_self]; rfl, rfl⟩
    case round =>
      obtain ⟨k, p, xs, rfl, rfl, hk, hup, hup2, hown, hbel, HM, HL⟩ := hrel
      have hBw : B ≤ wr.heap.size := by have := hbel.size; rw [← HB.out] at this; exact this
      have hsr : Bs wr ao l.length cap l := hs.below hbel (Nat.le_of_eq HB.out.symm)
      by_cases hlt : k < m
      · have hpl : p ≤ l.length := by omega
        have h16 : 16 ≤ l.length - p := by omega
        obtain ⟨b, off, rfl, hc⟩ := Bs.at hsr (j := p) (by omega)
        have HC := Lib.hid hc
        clear hc
        have Hn : Hid (many getD16 (k + 1) (l.drop u) = .ok (xs ++ [(l.drop p).take 16], p + 16 - u)) := by
          have := many_snoc getD16 k _ xs (p - u) HM.out
          rw [List.drop_drop, show u + (p - u) = p by omega] at this
          show _ = _
          rw [this]; simp only [getD16]
          rw [show p - u + 16 = p + 16 - u by omega]
        have hX16 : ((l.drop p).take 16).length = 16 := by rw [List.length_take, List.length_drop]; omega
        have HXd : Hid (∀ j, j < 16 → ((l.drop p).take 16)[j]? = l[p + j]?) := by intro j hj; rw [List.getElem?_take, if_pos hj, List.getElem?_drop]
        generalize (l.drop p).take 16 = X at *
        have HX16 := Lib.hid hX16
        have HX1 : Hid ((Try.prog.info? 57).map (·.size) = some (u8s X).length) := by show _ = _; rw [u8s_length, hX16, hig]; simp [hsg]
        have HX2 : Hid ((Try.prog.info? 57).map (·.size) = some (u8s X).toArray.size) := by show _ = _; rw [List.size_toArray]; exact HX1.out
        have HX3 : Hid ((u8s X).toArray.size = ig.size) := by show _ = _; rw [List.size_toArray, u8s_length, hX16, hsg]
        have HX5 : Hid ((Value.agg (u8s X).toArray).cells.size = 16) := by show _ = _; simp only [Value.cells]; rw [List.size_toArray, u8s_length, hX16]
        have HX4 := Lib.hid (u8s_arr_one X)
        have Hnc : Hid ((xs ++ [X]).flatMap cvD = xs.flatMap cvD ++ (Value.agg (u8s X).toArray).cells.toList) := by show _ = _; rw [List.flatMap_append]; simp [cvD, Value.cells]
        clear hX16
        obtain ⟨wo, rfl⟩ : ∃ wo : World, wo = wr := ⟨_, rfl⟩
        obtain ⟨g, hg⟩ : ∃ g, g = wo.heap.size := ⟨_, rfl⟩
        have HG := Lib.hid hg
        clear hg
        go_wp2
        rw [← HG.out]
        have hz16 : (wo.alloc (.cells (Array.replicate 16 (.int .u8 0)) 57)).heap[g]? = some (.cells (Array.replicate 16 (.int .u8 0)) 57 (0, 0)) := by rw [HG.out]; exact heap_alloc_new wo _
        go_loopw [11] (fun i wr => ∃ (q : Nat) (cur : Array Value), i = .int .i64 q ∧ q ≤ 16 ∧ wr.heap[g]? = some (.cells cur 57 (0, 0)) ∧ Hid (cur.size = 16) ∧ Hid (∀ j, j < q → cur[j]? = (u8s X)[j]?) ∧ Below g wo wr) (fun i _ => 16 - (intOf i).toNat)
        case atStart => exact ⟨0, _, rfl, by omega, hz16, by simp [Hid], by intro j h; omega, (Below.refl _ _).alloc (Nat.le_of_eq HG.out) _⟩
        case round =>
          clear hz16
          obtain ⟨q, cur, rfl, hq, hgc, hcs, hcur, hbg2⟩ := hrel
          by_cases hq16 : q < 16
          · have hpq : p + q < l.length := by omega
            have hcj : wr.cell? ⟨b, off + (p + q), none⟩ = some (.int .u8 ((l[p + q].toNat : Nat) : Int)) := by
              have h0 := HC.out (p + q) hpq
              rw [hbg2.cell (p := ⟨b, off + (p + q), none⟩) (by rw [HG.out]; exact block_lt_of_cell h0)]
              exact h0
            have hcg : wr.cell? ⟨g, q, none⟩ = some (cur[q]'(by rw [hcs.out]; exact hq16)) := by rw [cell_of_row wr g q cur _ _ hgc]; simp [hcs.out, hq16]
            have hfg : wr.frozen? ⟨g, q, none⟩ = false := by simp [World.frozen?, hgc]
            have Hq : Hid (∀ j, j < q + 1 → (cur.setIfInBounds q (.int .u8 ((l[p + q].toNat : Nat) : Int)))[j]? = (u8s X)[j]?) := by
              intro j hj
              rw [Array.getElem?_setIfInBounds]
              by_cases hjq : q = j
              · subst hjq
                rw [if_pos rfl, if_pos (by rw [hcs.out]; exact hq16)]
                have := HXd.out q hq16
                simp only [u8s, List.getElem?_map, this]
                simp [u8v, hpq]
              · rw [if_neg hjq]
                exact hcur.out j (by omega)
            have Hs : Hid ((wr.setCell ⟨g, q, none⟩ (.int .u8 ((l[p + q].toNat : Nat) : Int))).heap[g]? = some (.cells (cur.setIfInBounds q (.int .u8 ((l[p + q].toNat : Nat) : Int))) 57 (0, 0))) := by
              show _ = _
              simp [World.setCell, Array.getElem?_modify, hgc]
            have Hgc := Lib.hid hgc
            clear hgc
            generalize l[p + q] = c at *
            go_wp2
            go_roundw
            case rel => exact ⟨q + 1, _, by go_num, by omega, Hs.out, by show _ = _; rw [Array.size_setIfInBounds]; exact hcs.out, Hq, hbg2.setCell (Nat.le_refl _) _⟩
            case measure => simp [intOf]; omega
          · obtain rfl : q = 16 := by omega
            obtain rfl : cur = (u8s X).toArray := by
              apply Array.ext_getElem?
              intro j
              by_cases hj : j < 16
              · rw [hcur.out j hj]; simp
              · rw [Array.getElem?_eq_none (by rw [hcs.out]; omega), Array.getElem?_eq_none (by rw [List.size_toArray, u8s_length, HX16.out]; omega)]
            have Hgc := Lib.hid hgc
            have hownk : Own wr B 57 16 _ k (xs.flatMap cvD) := hown.below hbg2 (Nat.le_of_eq HG.out.symm)
            have hBg : B ≤ g := by rw [HG.out]; exact hBw
            have hbel3 := hbel.trans (hbg2.mono hBg)
            have hbs2 : B ≤ wr.heap.size := Nat.le_trans hBw hbg2.size
            clear hgc hcur hcs
            go_wp2_with (first | (refine wpList_load_row rfl 57 (.tmp 10) rfl g rfl 57 _ (0, 0) _ Hgc.out Try.underlying57 rfl HX2.out ?_) | (refine wpList_append1 rfl rfl 38 40 _ 24 rfl (by decide) (by simp [Act.put]) rfl rfl 57 ig _ 16 16 Try.underlying24 hig hzg hsg hbg rfl (by decide) (by decide) B _ _ _ rfl hownk (.agg (u8s X).toArray) rfl HX5.out (one_agg X) (by omega) (by omega) hbs2 ?_; intro v' w' hown' hg'))
            go_roundw
            case rel => exact ⟨k + 1, p + 16, xs ++ [X], by go_num, by go_num, by omega, by omega, by omega, by rw [Hnc.out]; exact hown', hownk.grew hg' hbel3 (Nat.le_refl _) hbs2, Hn, by show _ = _; rw [List.length_append, HL.out]; rfl⟩
            case measure => simp [intOf]; omega
      · have hkm : k = m := by omega
        have Hf : Hid (getL getD16 16 l = .ok (xs, p)) := by
          show _ = _
          unfold getL; rw [Hd.out]; simp only
          rw [← hkm, HM.out]; simp only
          rw [show u + (p - u) = p by omega]
        have HK := Lib.hid hkm
        clear hkm
        go_wp2
        go_ret3
        exact postL_ok Hf.out (by rw [← HB.out, HL.out]; exact hown) (HB.out ▸ hbel)
end Go.Proofs.Ytciamgdigpgneaa
