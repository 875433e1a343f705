/- Digests. -/
import Derived.Test.YtciamgdigpgneaaWire8
namespace Go.Proofs.Ytciamgdigpgneaa
open Go.RowKit WM
theorem inf_digest : ∃ i, Try.prog.info? 57 = some i ∧ i.zero = some (.agg (Array.replicate 16 (.int .u8 0))) ∧ i.size = 16 ∧ i.bytes = 16 := by
  obtain ⟨i, h1, h2, h3, h4⟩ := info_parts (show (Try.prog.info? 57).map (fun i => (i.zero, i.size, i.bytes)) = some (some (.agg (Array.replicate 16 (.int .u8 0))), 16, 16) by kernel_rfl)
  exact ⟨i, h1, h2, h3, h4⟩
set_option maxRecDepth 100000 in
set_option maxHeartbeats 2000000 in
theorem clone_bs (a : Addr) (n cap : Nat) (l : List UInt8) (w : World) (hs : Bs w (some a) n cap l) (hlen : l.length ≤ 1000000) :
    Calls Try.prog 48 #[.slice (some a) n cap] w (NewBs w l) := by
  obtain ⟨i5, hi, hz, hs1, hby⟩ := inf_u8
  obtain rfl := hs.length
  have hcap := hs.fits
  have hsm := hs.small
  unfold maxLen at hsm
  have hn := fun w => Lib.run_eql_slice_nil (P := Try.prog) w 28
  go_enter Try.func48, Try.ntmps48
  have hown : Own (w.alloc (.cells #[] 5)) w.heap.size 5 1 (.slice (some ⟨w.heap.size, 0, none⟩) 0 0) 0 [] := .mk' (World.ownsRow_made w #[] 0 (Nat.le_refl _) (by simp [maxLen]) (by simp))
  have hbel : Below w.heap.size w (w.alloc (.cells #[] 5)) := (Below.refl _ _).alloc (Nat.le_refl _) _
  have hsl := hs.alloc (.cells #[] 5)
  go_wp2_with (refine wpList_append_s rfl (.tmp 5) (.tmp 6) 28 rfl 5 i5 _ 1 Try.underlying28 hi hz hs1 hby rfl w.heap.size _ _ _ rfl hown _ _ _ _ rfl hsl (u8s_oneCell _) (by omega) (by omega) (by simp) ?_; intro v' w' hown' hg')
  go_ret
  refine ⟨v', rfl, ?_, hown.grew hg' hbel (Nat.le_refl _) (by simp)⟩
  simpa using hown'

set_option maxRecDepth 100000 in
set_option maxHeartbeats 2000000 in
theorem wire_digest (d : List UInt8) (hd : d.length = 16) (w : World) :
    Calls Try.prog 41 #[.agg (u8s d).toArray] w (NewBs w d) := by
  have hcells : CellsAt (w.alloc (.cells (u8s d).toArray 57)) w.heap.size 0 (u8s d) := by
    intro j v hj
    rw [Nat.zero_add, cell_of_row _ w.heap.size j (u8s d).toArray 57 (0, 0) (heap_alloc_new w _)]
    simpa using hj
  have hsl : Bs (w.alloc (.cells (u8s d).toArray 57)) (some ⟨w.heap.size, 0, none⟩) 16 16 d := by
    refine ⟨by rw [u8s_length, hd], Nat.le_refl _, by simp [maxLen], by simp, .inr ⟨_, _, rfl, fun j hj => ?_⟩⟩
    have hj' : j < (u8s d).length := by rw [u8s_length, hd]; exact hj
    rw [hcells j (u8s d)[j] (by simp [hj'])]
    simp [hj']
  have C := clone_bs _ 16 16 d _ hsl (by omega)
  have hbel : Below w.heap.size w (w.alloc (.cells (u8s d).toArray 57)) := (Below.refl _ _).alloc (Nat.le_refl _) _
  clear hcells
  go_enter Try.func41, Try.ntmps41
  go_wp2_with (go_at_call 48; refine C.mono ?_; rintro e w1 ⟨v, rfl, hown1, hbel1⟩)
  go_ret
  exact ⟨v, rfl, hown1.mono (by simp), hbel.trans (hbel1.mono (by simp))⟩

set_option maxRecDepth 100000 in
set_option maxHeartbeats 2000000 in
theorem wire_getDigest (ao : Option Addr) (n cap : Nat) (l : List UInt8) (w : World) (hs : Bs w ao n cap l) (h16 : 16 ≤ n) :
    Calls Try.prog 47 #[.slice ao n cap] w fun e w' => e = .returned (.tuple #[.agg (u8s (l.take 16)).toArray, .int .i64 16, .int .i64 0]) ∧ Below w.heap.size w w' := by
  obtain ⟨i5, hi, hz, hs1, hby⟩ := inf_u8
  obtain rfl := hs.length
  have hcap := hs.fits
  have hsm := hs.small
  unfold maxLen at hsm
  have hlt16 : (u8s (l.take 16)).length = 16 := by rw [u8s_length, List.length_take]; omega
  have hld : (Try.prog.info? 57).map (·.size) = some (u8s (l.take 16)).length := by rw [hlt16]; kernel_rfl
  have hld2 : (Try.prog.info? 57).map (·.size) = some (u8s (l.take 16)).toArray.size := by rw [List.size_toArray, hlt16]; kernel_rfl
  have ha1 : (u8s (l.take 16)).toArray.all (·.oneCell') = true := by rw [Array.all_eq_true_iff_forall_mem]; intro x hx; exact u8s_oneCell _ x (by simpa using hx)
  have haa := fun (w : World) ao' => run_arrayAt (P := Try.prog) (w := w) Try.underlying57 ao' 16 cap (Nat.le_refl _)
  obtain ⟨ww, hww⟩ : ∃ ww, ww = w.alloc (.cells (Array.replicate 16 (.int .u8 0)) 57) := ⟨_, rfl⟩
  have hwh : ww.heap[w.heap.size]? = some (.cells (Array.replicate 16 (.int .u8 0)) 57 (0, 0)) := by rw [hww]; exact heap_alloc_new w _
  have hsw : Bs ww ao l.length cap l := by rw [hww]; exact hs.alloc _
  have hbw : Below w.heap.size w ww := by rw [hww]; exact (Below.refl _ _).alloc (Nat.le_refl _) _
  have Hww := Lib.hid (show ww = w.alloc (.cells #[.int .u8 0, .int .u8 0, .int .u8 0, .int .u8 0, .int .u8 0, .int .u8 0, .int .u8 0, .int .u8 0, .int .u8 0, .int .u8 0, .int .u8 0, .int .u8 0, .int .u8 0, .int .u8 0, .int .u8 0, .int .u8 0] 57) from hww)
  clear hww
  obtain ⟨B, hB⟩ : ∃ B, B = w.heap.size := ⟨_, rfl⟩
  rw [← hB] at hwh hbw
  have HB := Lib.hid hB
  clear hB
  go_enter Try.func47, Try.ntmps47
  go_wp2_with (first | (refine wpList_slice_sl rfl 28 (.tmp 5) none (some _) rfl 5 i5 Try.underlying28 hi hs1 rfl (Hww.out ▸ hsw) 0 16 (.inl ⟨rfl, rfl⟩) (.inr ⟨_, .i64, rfl, rfl⟩) (by omega) (by omega) ?_; intro ao' hs'; rw [← Hww.out] at hs' ⊢; rw [← HB.out]; obtain ⟨b', off', rfl, -⟩ := Sl.at hs' (j := 0) (by omega); have hca : CellsAt ww b' off' (u8s (l.take 16)) := cellsAt_bs (by rw [u8s_drop, u8s_take] at hs'; exact hs')) | (refine wpList_load_at rfl 57 (.tmp 7) rfl b' off' rfl _ _ hca Try.underlying57 rfl hld ?_) | (refine wpList_store_row rfl 57 (.tmp 2) (.tmp 8) rfl B _ rfl rfl 57 _ hwh hld2 (by simp [hlt16]) ha1 ?_))
  have hrow := setRow_heap ww B _ (u8s (l.take 16)).toArray 57 (0, 0) hwh
  have hlv := run_loadVar_row (P := Try.prog) (ww.setRow B (u8s (l.take 16)).toArray) B 57 57 _ (0, 0) _ hrow Try.underlying57 rfl hld2
  refine bodyPost_ret (v := .tuple #[.agg (u8s (l.take 16)).toArray, .int .i64 16, .int .i64 0]) (by simp [results, Try.results47, asAddr, hlv]) rfl ⟨rfl, ?_⟩
  rw [← HB.out]
  exact below_setRow hbw (Nat.le_refl _) _
end Go.Proofs.Ytciamgdigpgneaa
