/- The law of canonical encodings, walked. -/
import Derived.Test.YtciamgdigpgneaaWire22
namespace Go.Proofs.Ytciamgdigpgneaa
open Go.RowKit WM
/-- the decoder failed, or what was consumed is the encoding -/
def CanonR (l enc' : List UInt8) (used er : Int) : Prop := ¬ er = 0 ∨ er = 0 ∧ ∃ u : Nat, used = u ∧ u ≤ l.length ∧ enc' = l.take u
theorem err_ne {e : Int} (h : e = 5 ∨ e = 6) : ¬ e = 0 := by omega
theorem parts_int (l : List UInt8) : ∃ r1 r2 r3, tI (dec l) = .tuple #[.int .i64 r1, .int .i64 r2, .int .i64 r3] ∧ (-9223372036854775808 ≤ r1 ∧ r1 ≤ 9223372036854775807) ∧ CanonR l (enc r1) r2 r3 := by
  cases h : dec l with
  | error e => exact ⟨0, 0, e, rfl, by omega, .inl (err_ne (dec_err h))⟩
  | ok p =>
    obtain ⟨n, u⟩ := p
    have hc := dec_canon h
    exact ⟨n, u, 0, rfl, hc.2.2.2.2, .inr ⟨rfl, u, rfl, hc.2.2.1, hc.1.symm⟩⟩
theorem parts_bytes (l : List UInt8) : ∃ (s : List UInt8) (r2 r3 : Int), tB (getB l) = .tuple #[.string ⟨s.toArray⟩, .int .i64 r2, .int .i64 r3] ∧ s.length ≤ l.length ∧ CanonR l (encB s) r2 r3 := by
  cases h : getB l with
  | error e => exact ⟨[], 0, e, rfl, Nat.zero_le _, .inl (err_ne (getB_err h))⟩
  | ok p =>
    obtain ⟨s, u⟩ := p
    have hc := canon_bytes _ _ _ h
    refine ⟨s, u, 0, rfl, ?_, .inr ⟨rfl, u, rfl, hc.2, hc.1.symm⟩⟩
    have := congrArg List.length hc.1
    rw [List.length_take, encB, List.length_append] at this
    omega
theorem many_all {α : Type} {one : List UInt8 → Except Int (α × Nat)} {P : α → Prop} (hP : ∀ l x u, one l = .ok (x, u) → P x) : ∀ (n : Nat) (l : List UInt8) (xs : List α) (v : Nat), many one n l = .ok (xs, v) → ∀ x ∈ xs, P x := by
  intro n
  induction n with
  | zero => intro l xs v h; simp only [many, Except.ok.injEq, Prod.mk.injEq] at h; obtain ⟨rfl, rfl⟩ := h; simp
  | succ n ih =>
    intro l xs v h
    rw [many] at h
    cases h1 : one l with
    | error e => rw [h1] at h; simp at h
    | ok p =>
      obtain ⟨x, u⟩ := p
      rw [h1] at h
      simp only at h
      cases h2 : many one n (l.drop u) with
      | error e => rw [h2] at h; simp at h
      | ok q =>
        obtain ⟨ys, v'⟩ := q
        rw [h2] at h
        simp only [Except.ok.injEq, Prod.mk.injEq] at h
        obtain ⟨rfl, rfl⟩ := h
        intro y hy
        rcases List.mem_cons.1 hy with rfl | hy
        · exact hP _ _ _ h1
        · exact ih _ _ _ h2 y hy
theorem lc_ne {α : Type} {one : List UInt8 → Except Int (α × Nat)} (ho : ∀ l e, one l = .error e → e = 5 ∨ e = 6) {a : Nat} {l : List UInt8} {e : Int} (h : getL one a l = .error e) : e = 5 ∨ e = 6 := by
  unfold getL at h
  cases hd : lenD l a with
  | error e' => rw [hd] at h; simp only [Except.error.injEq] at h; subst h; exact lenD_err hd
  | ok p =>
    obtain ⟨m, u⟩ := p
    rw [hd] at h
    simp only at h
    have key : ∀ (n : Nat) (l : List UInt8) (e : Int), many one n l = .error e → e = 5 ∨ e = 6 := by
      intro n
      induction n with
      | zero => intro l e h; simp [many] at h
      | succ n ih =>
        intro l e h
        rw [many] at h
        cases h1 : one l with
        | error e' => rw [h1] at h; simp only [Except.error.injEq] at h; subst h; exact ho _ _ h1
        | ok p =>
          obtain ⟨x, u⟩ := p
          rw [h1] at h
          simp only at h
          cases h2 : many one n (l.drop u) with
          | error e' => rw [h2] at h; simp only [Except.error.injEq] at h; subst h; exact ih _ _ h2
          | ok q => rw [h2] at h; simp at h
    cases hm : many one m (l.drop u) with
    | error e' => rw [hm] at h; simp only [Except.error.injEq] at h; subst h; exact key _ _ _ hm
    | ok q => rw [hm] at h; simp at h
theorem parts_list {α : Type} {one : List UInt8 → Except Int (α × Nat)} {en : α → List UInt8} {P : α → Prop} (ho : ∀ l e, one l = .error e → e = 5 ∨ e = 6) (hc : Canon one en) (hP : ∀ l x u, one l = .ok (x, u) → P x) (hlen : ∀ x, 1 ≤ (en x).length) (a : Nat) (l : List UInt8) :
    (∀ x ∈ lx (getL one a l), P x) ∧ (lx (getL one a l)).length ≤ l.length ∧ ((lx (getL one a l)).flatMap en).length ≤ l.length ∧ CanonR l (encL en (lx (getL one a l))) (lu (getL one a l)) (lc (getL one a l)) := by
  cases h : getL one a l with
  | error e => exact ⟨(fun x hx => by cases hx), by simp [lx], by simp [lx], .inl (err_ne (lc_ne ho h))⟩
  | ok p =>
    obtain ⟨xs, u⟩ := p
    have hk := getL_canon hc h
    have hl := congrArg List.length hk.1
    rw [List.length_take, encL, List.length_append] at hl
    have hfl : xs.length ≤ (xs.flatMap en).length := by
      clear h hk hl
      induction xs with
      | nil => simp
      | cons x xs ih => have := hlen x; rw [List.flatMap_cons, List.length_append, List.length_cons]; omega
    refine ⟨?_, by simp only [lx]; omega, by simp only [lx]; omega, .inr ⟨rfl, u, rfl, hk.2, hk.1.symm⟩⟩
    unfold getL at h
    cases hd : lenD l a with
    | error e' => rw [hd] at h; simp at h
    | ok q =>
      obtain ⟨m, u'⟩ := q
      rw [hd] at h
      simp only at h
      cases hm : many one m (l.drop u') with
      | error e' => rw [hm] at h; simp at h
      | ok q =>
        obtain ⟨ys, v⟩ := q
        rw [hm] at h
        simp only [Except.ok.injEq, Prod.mk.injEq] at h
        obtain ⟨rfl, rfl⟩ := h
        exact many_all hP _ _ _ _ hm
theorem parts_digest (l : List UInt8) : (lx (getL getD16 16 l)).length ≤ l.length ∧ CanonR l (encL (fun d => d) (lx (getL getD16 16 l))) (lu (getL getD16 16 l)) (lc (getL getD16 16 l)) := by
  unfold getL
  cases hd : lenD l 16 with
  | error e => exact ⟨by simp [lx], .inl (err_ne (lenD_err hd))⟩
  | ok p =>
    obtain ⟨m, u⟩ := p
    obtain ⟨-, hml, hul, hte, hue, -⟩ := lenD_ok hd
    have hml : m * 16 ≤ l.length - u := (Nat.le_div_iff_mul_le (by decide)).1 hml
    obtain ⟨xs, h1, h2, h3, h4⟩ := many_digest m (l.drop u) (by rw [List.length_drop]; exact hml)
    simp only [h1]
    refine ⟨by simp only [lx]; omega, .inr ⟨rfl, u + m * 16, rfl, by omega, ?_⟩⟩
    simp only [lx]
    rw [encL, h2, ← hte, h4, ← List.take_add]
set_option maxRecDepth 100000 in
set_option maxHeartbeats 8000000 in
theorem law_Canonical (ao : Option Addr) (m cap : Nat) (l : List UInt8) (w : World) (hs : Bs w ao m cap l) :
    Calls Try.prog 7 #[.slice ao m cap] w fun e w' => e = .returned (.bool true) ∧ Below w.heap.size w w' := by
  obtain rfl := hs.length
  have hcap := hs.fits
  have hsm := hs.small
  unfold maxLen at hsm
  obtain ⟨w0, hw0⟩ : ∃ w0, w0 = w.alloc (.cells #[.slice ao l.length cap] 28) := ⟨_, rfl⟩
  obtain ⟨g, hg⟩ : ∃ g, g = w.heap.size := ⟨_, rfl⟩
  have hcell : w0.cell? ⟨g, 0, none⟩ = some (.slice ao l.length cap) := by
    rw [hw0, hg, cell_of_row _ w.heap.size 0 _ 28 (0, 0) (heap_alloc_new w _)]; rfl
  have Y0 : Ext w w0 := by rw [hw0]; exact ext_alloc w _
  have Hw0 := Lib.hid hw0
  have HG := Lib.hid hg
  clear hw0 hg
  by_cases hbig : 2000 < l.length
  · go_enter Try.func7, Try.ntmps7
    go_wp2_with fail
    refine (sanity_true _).mono ?_
    rintro e w1 ⟨rfl, hb1⟩
    go_wp2_with fail
    go_ret
    exact ⟨rfl, Ext.trans' (ext_alloc w _) hb1⟩
  · obtain ⟨r1, r2, r3, hr1, hrr, hrc⟩ := parts_int l
    obtain ⟨q1, q2, q3, hq1, hqq, hqc⟩ := parts_bytes l
    have P1 := parts_list (one := dec) (en := enc) (P := fun n => -9223372036854775808 ≤ n ∧ n ≤ 9223372036854775807) (fun _ _ h => dec_err h) canon_int (fun _ _ _ h => (dec_canon h).2.2.2.2) (fun x => venc_pos _) 1 l
    have P2 := parts_list (one := getB) (en := encB) (P := fun _ => True) (fun _ _ h => getB_err h) canon_bytes (fun _ _ _ _ => trivial) (fun x => by have := venc_pos (zig (x.length : Int)); unfold encB enc; rw [List.length_append]; omega) 1 l
    have P3 := parts_digest l
    have H16 := Lib.hid (lx_digest l)
    have S0 : Bs w0 ao l.length cap l := hs.ext Y0
    have C1 := wire_GetInt ao l.length cap l w0 S0
    have C2 := wire_GetBytes ao l.length cap l w0 S0
    simp only [hr1] at C1
    simp only [hq1] at C2
    have C3 := (wire_GetInts ao l.length cap l w0 S0 (by omega)).mono fun e w' h => postL_any h
    have C4 := fun w' (e : Ext w w') => (wire_GetStrings ao l.length cap l w' (hs.ext e) (by omega)).mono fun e w' h => postL_any h
    have C5 := fun w' (e : Ext w w') => (wire_GetDigests ao l.length cap l w' (hs.ext e) (by omega)).mono fun e w' h => postL_any h
    generalize lx (getL dec 1 l) = X1, lu (getL dec 1 l) = U1, lc (getL dec 1 l) = K1 at *
    generalize lx (getL getB 1 l) = X2, lu (getL getB 1 l) = U2, lc (getL getB 1 l) = K2 at *
    generalize lx (getL getD16 16 l) = X3, lu (getL getD16 16 l) = U3, lc (getL getD16 16 l) = K3 at *
    obtain ⟨P1a, P1b, P1c, P1d⟩ := P1
    obtain ⟨-, P2b, P2c, P2d⟩ := P2
    obtain ⟨P3b, P3d⟩ := P3
    have HX2 : Hid (∀ y ∈ X2, y.length ≤ 1000000) := fun y hy => by
      have h1 : (encB y).length ≤ (X2.flatMap encB).length := by
        clear P2b P2c P2d C4
        induction X2 with
        | nil => cases hy
        | cons z zs ih =>
          rw [List.flatMap_cons, List.length_append]
          rcases List.mem_cons.1 hy with rfl | hy
          · omega
          · have := ih hy; omega
      rw [encB, List.length_append] at h1
      omega
    have HP1a := Lib.hid P1a
    have HP1d := Lib.hid P1d
    have HP2d := Lib.hid P2d
    have HP3d := Lib.hid P3d
    have Hrc := Lib.hid hrc
    have Hqc := Lib.hid hqc
    have Hs := Lib.hid hs
    have Hc1 := Lib.hid P1c
    have Hc2 := Lib.hid P2c
    clear hr1 hq1 P1a P1c P1d P2c P2d P3d hrc hqc hs
    go_enter Try.func7, Try.ntmps7
    go_wp2_with fail
    rw [← Hw0.out, ← HG.out]
    refine C1.mono ?_
    rintro e _ ⟨rfl, rfl⟩
    go_wp2_with fail
    refine C2.mono ?_
    rintro e _ ⟨rfl, rfl⟩
    clear C1 C2
    go_wp2_with fail
    refine C3.mono ?_
    rintro e w1 ⟨v1, rfl, ⟨a1, c1, rfl, ho1⟩, hb⟩
    have S1 : Sl w1 a1 X1.length c1 _ := (Own.mk' ho1).sl'
    have hcell : w1.cell? ⟨g, 0, none⟩ = some (.slice ao l.length cap) := by rw [hb.cell (p := ⟨g, 0, none⟩) (block_lt_of_cell hcell)]; exact hcell
    have Y1 := Ext.trans' Y0 hb
    clear ho1 C3 hb S0
    go_wp2_with fail
    refine (C4 _ Y1).mono ?_
    rintro e w2 ⟨v2, rfl, ⟨a2, c2, rfl, ho2⟩, hb⟩
    have S2 : Sl w2 a2 X2.length c2 _ := (Own.mk' ho2).sl'
    have S1 := S1.ext hb
    have hcell : w2.cell? ⟨g, 0, none⟩ = some (.slice ao l.length cap) := by rw [hb.cell (p := ⟨g, 0, none⟩) (block_lt_of_cell hcell)]; exact hcell
    have Y2 := Ext.trans' Y1 hb
    clear ho2 C4 hb Y1
    go_wp2_with fail
    refine (C5 _ Y2).mono ?_
    rintro e w3 ⟨v3, rfl, ⟨a3, c3, rfl, ho3⟩, hb⟩
    have S3 : SlN w3 a3 X3.length c3 16 _ := SlN.of_own' (Own.mk' ho3)
    have S1 := S1.ext hb
    have S2 := S2.ext hb
    have hcell : w3.cell? ⟨g, 0, none⟩ = some (.slice ao l.length cap) := by rw [hb.cell (p := ⟨g, 0, none⟩) (block_lt_of_cell hcell)]; exact hcell
    have Y3 := Ext.trans' Y2 hb
    clear ho3 C5 hb Y2
    go_wp2_with fail
    refine (sanity_true _).mono ?_
    rintro e w4 ⟨rfl, hb⟩
    have S1 := S1.ext hb
    have S2 := S2.ext hb
    have S3 := S3.ext hb
    have hcell : w4.cell? ⟨g, 0, none⟩ = some (.slice ao l.length cap) := by rw [hb.cell (p := ⟨g, 0, none⟩) (block_lt_of_cell hcell)]; exact hcell
    have Y4 := Ext.trans' Y3 hb
    clear hb Y3
    go_wp2_with fail
    refine (wire_Int r1 _ hrr.1 hrr.2).mono ?_
    rintro e w5 ⟨v, rfl, ⟨a, c, rfl, ho⟩, hb⟩
    have T : Bs w5 a _ c (enc r1) := (Own.mk' ho).sl'
    have hcell : w5.cell? ⟨g, 0, none⟩ = some (.slice ao l.length cap) := by rw [hb.cell (p := ⟨g, 0, none⟩) (block_lt_of_cell hcell)]; exact hcell
    have Y5 := Ext.trans' Y4 hb
    have S1 := S1.ext hb
    have S2 := S2.ext hb
    have S3 := S3.ext hb
    have C := canon_is g _ _ _ (enc r1) _ _ ao l.length cap l w5 T (Hs.out.ext Y5) hcell Hrc.out
    clear ho hb Y4
    go_wp2_with fail
    refine C.mono ?_
    rintro e _ ⟨rfl, rfl⟩
    clear C T
    go_wp2_with fail
    refine (wire_Bytes q1 _ (by omega)).mono ?_
    rintro e w6 ⟨v, rfl, ⟨a, c, rfl, ho⟩, hb⟩
    have T : Bs w6 a _ c (encB q1) := (Own.mk' ho).sl'
    have hcell : w6.cell? ⟨g, 0, none⟩ = some (.slice ao l.length cap) := by rw [hb.cell (p := ⟨g, 0, none⟩) (block_lt_of_cell hcell)]; exact hcell
    have Y6 := Ext.trans' Y5 hb
    have S1 := S1.ext hb
    have S2 := S2.ext hb
    have S3 := S3.ext hb
    have C := canon_is g _ _ _ (encB q1) _ _ ao l.length cap l w6 T (Hs.out.ext Y6) hcell Hqc.out
    clear ho hb Y5
    go_wp2_with fail
    refine C.mono ?_
    rintro e _ ⟨rfl, rfl⟩
    clear C T
    go_wp2_with fail
    refine (wire_Ints _ _ _ X1 _ S1 (by omega) HP1a.out (by have := Hc1.out; omega)).mono ?_
    rintro e w7 ⟨v, rfl, ⟨a, c, rfl, ho⟩, hb⟩
    have T : Bs w7 a _ c (encL enc X1) := (Own.mk' ho).sl'
    have hcell : w7.cell? ⟨g, 0, none⟩ = some (.slice ao l.length cap) := by rw [hb.cell (p := ⟨g, 0, none⟩) (block_lt_of_cell hcell)]; exact hcell
    have Y7 := Ext.trans' Y6 hb
    have S1 := S1.ext hb
    have S2 := S2.ext hb
    have S3 := S3.ext hb
    have C := canon_is g _ _ _ (encL enc X1) _ _ ao l.length cap l w7 T (Hs.out.ext Y7) hcell HP1d.out
    clear ho hb Y6
    go_wp2_with fail
    refine C.mono ?_
    rintro e _ ⟨rfl, rfl⟩
    clear C T
    go_wp2_with fail
    refine (wire_Strings _ _ _ X2 _ S2 (by omega) HX2.out (by have := Hc2.out; omega)).mono ?_
    rintro e w8 ⟨v, rfl, ⟨a, c, rfl, ho⟩, hb⟩
    have T : Bs w8 a _ c (encL encB X2) := (Own.mk' ho).sl'
    have hcell : w8.cell? ⟨g, 0, none⟩ = some (.slice ao l.length cap) := by rw [hb.cell (p := ⟨g, 0, none⟩) (block_lt_of_cell hcell)]; exact hcell
    have Y8 := Ext.trans' Y7 hb
    have S2 := S2.ext hb
    have S3 := S3.ext hb
    have C := canon_is g _ _ _ (encL encB X2) _ _ ao l.length cap l w8 T (Hs.out.ext Y8) hcell HP2d.out
    clear ho hb Y7
    go_wp2_with fail
    refine C.mono ?_
    rintro e _ ⟨rfl, rfl⟩
    clear C T
    go_wp2_with fail
    refine (wire_Digests _ _ _ X3 _ S3 H16.out (by omega)).mono ?_
    rintro e w9 ⟨v, rfl, ⟨a, c, rfl, ho⟩, hb⟩
    have T : Bs w9 a _ c (encL (fun d => d) X3) := (Own.mk' ho).sl'
    have hcell : w9.cell? ⟨g, 0, none⟩ = some (.slice ao l.length cap) := by rw [hb.cell (p := ⟨g, 0, none⟩) (block_lt_of_cell hcell)]; exact hcell
    have Y9 := Ext.trans' Y8 hb
    have S3 := S3.ext hb
    have C := canon_is g _ _ _ (encL (fun d => d) X3) _ _ ao l.length cap l w9 T (Hs.out.ext Y9) hcell HP3d.out
    clear ho hb Y8
    go_wp2_with fail
    refine C.mono ?_
    rintro e _ ⟨rfl, rfl⟩
    clear C T
    go_wp2_with fail
    go_ret
    exact ⟨rfl, Y9⟩
end Go.Proofs.Ytciamgdigpgneaa
