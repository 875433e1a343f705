/- Decoding of lists. -/
import Derived.Test.YtciamgdigpgneaaWire4
namespace Go.Proofs.Ytciamgdigpgneaa
open Go.RowKit WM
/-- the results of a decoder of a list -/
def PostL {α : Type} (eT sz : Nat) (cv : α → List Value) (w : World) (r : Except Int (List α × Nat)) (e : Ending) (w' : World) : Prop := match r with
  | .ok (xs, u) => ∃ v, e = .returned (.tuple #[v, .int .i64 u, .int .i64 0]) ∧ Own w' w.heap.size eT sz v xs.length (xs.flatMap cv) ∧ Below w.heap.size w w'
  | .error c => e = .returned (.tuple #[.slice none 0 0, .int .i64 0, .int .i64 c]) ∧ Below w.heap.size w w'
theorem postL_err {α : Type} {eT sz : Nat} {cv : α → List Value} {w w' : World} {r : Except Int (List α × Nat)} {c : Int} (h : r = .error c) (hb : Below w.heap.size w w') : PostL eT sz cv w r (.returned (.tuple #[.slice none 0 0, .int .i64 0, .int .i64 c])) w' := by
  subst h; exact ⟨rfl, hb⟩
theorem postL_ok {α : Type} {eT sz : Nat} {cv : α → List Value} {w w' : World} {r : Except Int (List α × Nat)} {xs : List α} {u : Nat} (h : r = .ok (xs, u)) {v : Value} (ho : Own w' w.heap.size eT sz v xs.length (xs.flatMap cv)) (hb : Below w.heap.size w w') :
    PostL eT sz cv w r (.returned (.tuple #[v, .int .i64 u, .int .i64 0])) w' := by
  subst h; exact ⟨v, rfl, ho, hb⟩
def cvI (n : Int) : List Value := [.int .i64 n]
def cvS (s : List UInt8) : List Value := [.string ⟨s.toArray⟩]
theorem getB_err {l : List UInt8} {e : Int} (h : getB l = .error e) : e = 5 ∨ e = 6 := by
  unfold getB at h
  split at h
  · rename_i hd; simp at h; subst h; exact lenD_err hd
  · cases h
theorem inf_int : ∃ i, Try.prog.info? 3 = some i ∧ i.zero = some (.int .i64 0) ∧ i.size = 1 ∧ i.bytes = 8 := by
  obtain ⟨i, h1, h2, h3, h4⟩ := info_parts (show (Try.prog.info? 3).map (fun i => (i.zero, i.size, i.bytes)) = some (some (.int .i64 0), 1, 8) by kernel_rfl)
  exact ⟨i, h1, h2, h3, h4⟩
theorem inf_string : ∃ i, Try.prog.info? 9 = some i ∧ i.zero = some (.string ⟨#[]⟩) ∧ i.size = 1 ∧ i.bytes = 16 := by
  obtain ⟨i, h1, h2, h3, h4⟩ := info_parts (show (Try.prog.info? 9).map (fun i => (i.zero, i.size, i.bytes)) = some (some (.string ⟨#[]⟩), 1, 16) by kernel_rfl)
  exact ⟨i, h1, h2, h3, h4⟩

set_option maxRecDepth 100000 in
set_option maxHeartbeats 2000000 in
theorem get_int (ao : Option Addr) (n cap : Nat) (l : List UInt8) (w : World) (hs : Bs w ao n cap l) (hlen : l.length ≤ 1000000) :
    Calls Try.prog 43 #[.slice ao n cap, .int .i64 1, .func (.func 24) #[] #[]] w (PostL 3 1 cvI w (getL dec 1 l)) := by
  have C := wire_length ao n cap l 1 w hs (by decide) (by decide)
  obtain ⟨i5, hi, hz, hs1, hby⟩ := inf_u8
  obtain ⟨ie, hie, hze, hse, hbe⟩ := inf_int
  obtain ⟨B, hB⟩ : ∃ B, B = w.heap.size := ⟨_, rfl⟩
  have HB := Lib.hid hB
  have hbB : Below B w w := Below.refl _ _
  clear hB
  obtain rfl := hs.length
  have hcap := hs.fits
  have hsm := hs.small
  unfold maxLen at hsm
  cases hd : lenD l 1 with
  | error e =>
    have Hf : Hid (getL dec 1 l = .error e) := by unfold getL; rw [hd]; rfl
    simp only [hd, tN] at C
    have he := lenD_err hd
    clear hd
    rcases he with rfl | rfl
    all_goals
      go_enter Try.func43, Try.ntmps43
      go_wp2_with (go_at_call 42; refine C.mono ?_; rintro e w' ⟨rfl, rfl⟩)
      go_ret3
      exact postL_err Hf.out (Below.refl _ _)
  | ok p =>
    obtain ⟨m, u⟩ := p
    obtain ⟨-, hml, hul, -, -, hu0, hm2⟩ := lenD_ok hd
    have Hd := Lib.hid hd
    simp only [hd, tN] at C
    clear hd
    have hml : m ≤ l.length := Nat.le_trans hml (Nat.le_trans (Nat.div_le_self _ _) (Nat.sub_le _ _))
    go_enter Try.func43, Try.ntmps43
    go_wp2_with (go_at_call 42; refine C.mono ?_; rintro e w' ⟨rfl, rfl⟩)
    clear C
    go_loopw [10, 12, 27] (fun a v i wr => ∃ (k p : Nat) (xs : List _), i = .int .i64 k ∧ a = .int .i64 p ∧ k ≤ m ∧ u ≤ p ∧ p ≤ l.length ∧ Own wr B 3 1 v k (xs.flatMap cvI) ∧ Below B w wr ∧ Hid (many dec k (l.drop u) = .ok (xs, p - u)) ∧ Hid (xs.length = k)) (fun a v i _ => m - (intOf i).toNat)
    case atStart => exact ⟨0, u, [], rfl, rfl, Nat.zero_le _, Nat.le_refl _, hul, Own.nil _ _ _ _, hbB, by show _ = _; rw [Nat.sub_self]; rfl, rfl⟩
    case round =>
      obtain ⟨k, p, xs, rfl, rfl, hk, hup, hpl, hown, hbel, HM, HL⟩ := hrel
      have hBw : B ≤ _ := HB.out ▸ hbel.size
      have hsr : Bs wr ao l.length cap l := hs.below hbel (Nat.le_of_eq HB.out.symm)
      by_cases hlt : k < m
      · have C1 := fun ao' (h : Bs wr ao' (l.length - p) (cap - p) (l.drop p)) => wire_GetInt ao' _ _ (l.drop p) _ h
        have Hdp : Hid ((l.drop u).drop (p - u) = l.drop p) := by show _ = _; rw [List.drop_drop]; congr 1; omega
        cases h1 : dec (l.drop p) with
        | error e =>
          have Hf : Hid (getL dec 1 l = .error e) := by
            unfold getL; rw [Hd.out]; simp only
            rw [many_stop dec m k _ xs (p - u) e HM.out (by rw [Hdp.out]; exact h1) hlt]; rfl
          simp only [h1, tI] at C1
          have he := dec_err h1
          clear h1
          rcases he with rfl | rfl
          all_goals
            go_wp2_with (first | (refine wpList_bs_from rfl 28 _ _ rfl 5 i5 Try.underlying28 hi hs1 rfl hsr p .i64 rfl hpl ?_; intro ao' hs') | (go_at_call 24; refine (C1 ao' hs').mono ?_; rintro e w' ⟨rfl, rfl⟩))
            go_ret3
            exact postL_err Hf.out (HB.out ▸ hbel)
        | ok q =>
          obtain ⟨x, u'⟩ := q
          have hq := canon_int _ _ _ h1
          have hu' : u' ≤ l.length - p := by have := hq.2; rwa [List.length_drop] at this
          clear hq
          have Hn : Hid (many dec (k + 1) (l.drop u) = .ok (xs ++ [x], p + u' - u)) := by
            have := many_snoc dec k _ xs (p - u) HM.out
            rw [Hdp.out, h1] at this
            show _ = _
            rw [this]; simp only
            rw [show p - u + u' = p + u' - u by omega]
          simp only [h1, tI] at C1
          clear h1 Hdp
          have hk1 : k + 1 ≤ 1000000 := by omega
          go_wp2_with (first | (refine wpList_bs_from rfl 28 _ _ rfl 5 i5 Try.underlying28 hi hs1 rfl hsr p .i64 rfl hpl ?_; intro ao' hs') | (go_at_call 24; refine (C1 ao' hs').mono ?_; rintro e w' ⟨rfl, rfl⟩) | (refine wpList_append1 rfl rfl 41 43 _ 22 rfl (by decide) (by simp) rfl rfl 3 ie _ 1 8 Try.underlying22 hie hze hse hbe rfl (by decide) (by decide) B _ _ _ rfl hown (.int .i64 _) rfl rfl (one_int _ _) (by omega) (by omega) hBw ?_; intro v' w' hown' hg'))
          go_roundw
          case rel => exact ⟨k + 1, p + u', xs ++ [x], by go_num, by go_num, by omega, by omega, by omega, by rw [List.flatMap_append]; exact hown', hown.grew hg' hbel (Nat.le_refl _) hBw, Hn, by show _ = _; rw [List.length_append, HL.out]; rfl⟩
          case measure => simp [intOf]; omega
      · have hkm : k = m := by omega
        have Hf : Hid (getL dec 1 l = .ok (xs, p)) := by
          show _ = _
          unfold getL; rw [Hd.out]; simp only
          rw [← hkm, HM.out]; simp only
          rw [show u + (p - u) = p by omega]
        have HK := Lib.hid hkm
        clear hkm
        go_wp2
        go_ret3
        exact postL_ok Hf.out (by rw [← HB.out, HL.out]; exact hown) (HB.out ▸ hbel)
end Go.Proofs.Ytciamgdigpgneaa
