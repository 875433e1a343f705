/- The plain machine, twelfth part: conversions, append, copy, len. No program in sight. -/
import Derived.Test.YtcmfoipnoejmlaaDoorCm11
namespace Go.Proofs.YtcmfoipnoejmlaaDoor
open Go Go.RowKit
section
variable {P : Program} {Γ : Env} {σ : Sg} {V : Nat → Prop} {s s' : CS} {w : World} {v : Value}

theorem newRow_can {s s' : CS} {a : Addr} {tag : Nat} {cs : List Value} (ht : tag < 1024) (h : s.newRow tag cs = some (a, s')) : Can s s' := by
  obtain ⟨h1, _, h2⟩ := newRow_some h
  exact new_can h1 (by intro p hp; simp at hp; subst hp; simp; omega) h2
theorem RL.ints {σ : Sg} (b : ByteArray) : RL (VR σ) (byteVs b) (byteVs b) := RL.of rfl fun i x y hx hy => by
  rw [hx] at hy
  cases hy
  unfold byteVs at hx
  rw [List.getElem?_map] at hx
  cases h : b.data.toList[i]? with
  | none => rw [h] at hx; simp at hx
  | some c => rw [h] at hx; simp at hx; rw [← hx]; exact VR.ofInt _ _
/-- the first elements of a slice or a string, in both machines -/
theorem firstCells_run {s1 : CS} {size n : Nat} {y y' : Value} {new : List Value} (hr : Rel σ V s w) (h : s.firstCells size n y = some (new, s1)) (hV : Covers V s1) (hn : ∃ m, lenC y = some m ∧ n ≤ m) (hy : VR σ y y') :
    ∃ new', (∀ w0 : World, w0.heap = w.heap → (Builtin.firstCells size n y').run P w0 = .ok new'.toArray w0) ∧ RL (VR σ) new new' ∧ new'.length = n * size ∧ Can s s1 ∧ Rel σ V s1 w ∧ Ext σ V s w σ s1 w := by
  obtain ⟨m, hm, hnm⟩ := hn
  unfold CS.firstCells at h
  cases y with
  | slice x n0 c =>
    simp only [lenC, Option.some.injEq] at hm
    subst hm
    simp only at h
    cases hb : Nat.beq (n * size) 0 with
    | true =>
      rw [hb] at h
      simp only [cond_true, Option.some.injEq, Prod.mk.injEq] at h
      obtain ⟨rfl, rfl⟩ := h
      have h0 : n * size = 0 := Nat.eq_of_beq_eq_true hb
      refine ⟨[], fun w0 _ => ?_, trivial, h0.symm, Can.refl _, hr, Ext.refl _ _ _ _⟩
      cases x with
      | none => obtain ⟨_, _, rfl⟩ := hy.out; simp [Builtin.firstCells]
      | some a => obtain ⟨_, _, _, _, _, _, rfl, _⟩ := hy.out; simp [Builtin.firstCells, h0, loadCells, loadCellsFrom]
    | false =>
      rw [hb] at h
      simp only [cond_false] at h
      cases x with
      | none => simp at h
      | some a =>
        simp only at h
        cases hq : s.readRow a with
        | none => rw [hq] at h; simp at h
        | some p =>
          obtain ⟨cs, s2⟩ := p
          rw [hq] at h
          simp only at h
          cases hc : cut cs a.off (n * size) with
          | none => rw [hc] at h; simp at h
          | some l =>
            rw [hc] at h
            simp only [Option.some.injEq, Prod.mk.injEq] at h
            obtain ⟨rfl, rfl⟩ := h
            obtain ⟨b, o, z, hσ, a', c', rfl, h3, h4, h5, h6, _⟩ := hy.out
            have hrow := read_row hq hr hV hσ
            obtain ⟨l', e1, e2, e3⟩ := hrow.part hc
            have hne : c' ≠ 0 := by
              rintro rfl
              have : n = 0 := by omega
              subst this
              simp at hb
            have := h6 hne
            subst this
            refine ⟨l', fun w0 hw0 => ?_, e3, e1, read_can hq, read_rel hq hr, read_ext hq⟩
            have := run_loadCells_list (P := P) w0 ⟨b, o + a.off, none⟩ l' (fun j v hj => by
              rw [Addr.add_lit]
              have := e2 j v hj
              unfold World.cell? at this ⊢
              rw [hw0]; exact this)
            rw [e1] at this
            simp [Builtin.firstCells, this]
  | string b =>
    simp only [lenC, Option.some.injEq] at hm
    subst hm
    simp only at h
    cases hb : (Nat.beq size 1 && Nat.ble n b.size) with
    | false => rw [hb] at h; simp at h
    | true =>
      rw [hb] at h
      simp only [cond_true, Option.some.injEq, Prod.mk.injEq] at h
      obtain ⟨rfl, rfl⟩ := h
      rw [Bool.and_eq_true] at hb
      have h1 : size = 1 := Nat.eq_of_beq_eq_true hb.1
      subst h1
      obtain rfl := hy.str
      refine ⟨byteVs (b.extract 0 n), fun w0 _ => ?_, RL.ints _, ?_, Can.refl _, hr, Ext.refl _ _ _ _⟩
      · simp only [Builtin.firstCells, Sem.run_pure]
        congr 1
        unfold byteVs
        apply Array.toList_inj.1
        simp
      · unfold byteVs
        rw [List.length_map, Array.length_toList]
        show (b.extract 0 n).size = n * 1
        rw [ByteArray.size_extract]
        omega
  | _ => simp at h
theorem firstCells_keep {s1 : CS} {size n : Nat} {y : Value} {new : List Value} (h : s.firstCells size n y = some (new, s1)) : Can s s1 ∧ (Rel σ V s w → Rel σ V s1 w) ∧ s1.n = s.n ∧ s1.obj = s.obj := by
  unfold CS.firstCells at h
  split at h
  · rename_i x n0 c
    cases hb : Nat.beq (n * size) 0 with
    | true =>
      rw [hb] at h
      simp only [cond_true, Option.some.injEq, Prod.mk.injEq] at h
      obtain ⟨rfl, rfl⟩ := h
      exact ⟨Can.refl _, fun k => k, rfl, rfl⟩
    | false =>
      rw [hb] at h
      simp only [cond_false] at h
      cases x with
      | none => simp at h
      | some a =>
        simp only at h
        cases hq : s.readRow a with
        | none => rw [hq] at h; simp at h
        | some p =>
          obtain ⟨cs, s2⟩ := p
          rw [hq] at h
          simp only at h
          cases hc : cut cs a.off (n * size) with
          | none => rw [hc] at h; simp at h
          | some l =>
            rw [hc] at h
            simp only [Option.some.injEq, Prod.mk.injEq] at h
            obtain ⟨rfl, rfl⟩ := h
            refine ⟨read_can hq, fun k => read_rel hq k, ?_, ?_⟩ <;> rw [(readRow_some hq).2]
  · rename_i b
    cases hb : (Nat.beq size 1 && Nat.ble n b.size) with
    | false => rw [hb] at h; simp at h
    | true =>
      rw [hb] at h
      simp only [cond_true, Option.some.injEq, Prod.mk.injEq] at h
      obtain ⟨rfl, rfl⟩ := h
      exact ⟨Can.refl _, fun k => k, rfl, rfl⟩
  · simp at h
theorem lenC_run {y y' : Value} {n : Nat} (h : lenC y = some n) (hy : VR σ y y') : ∀ w0 : World, (Builtin.lenOf y').run P w0 = .ok n w0 := by
  intro w0
  unfold lenC at h
  split at h
  · rename_i x m c
    simp only [Option.some.injEq] at h
    subst h
    cases x with
    | none => obtain ⟨rfl, _, rfl⟩ := hy.out; rfl
    | some a => obtain ⟨_, _, _, _, _, _, rfl, _⟩ := hy.out; rfl
  · simp only [Option.some.injEq] at h
    subst h
    obtain rfl := hy.str
    rfl
  · simp at h
theorem srcT_kind (hE : EnvOk P Γ) {t : TypeId} (h : srcT Γ t = true) : (∃ e', P.underlying t = some (.slice e')) ∨ P.underlying t = some .string := by
  unfold srcT at h
  cases hi : Γ.ti.at t with
  | none => rw [hi] at h; simp at h
  | some i =>
    rw [hi] at h
    have hu := (hE.ti _ _ hi).und
    simp only at h
    split at h
    · rename_i e hd; rw [hd] at hu; exact .inl ⟨e, hu⟩
    · rename_i hd; rw [hd] at hu; exact .inr hu
    · simp at h
/-- append of nothing -/
theorem run_append_zero {t tx ty e : TypeId} {i : TypeInfo} (ht : P.underlying t = some (.slice e)) (hi : P.info? e = some i) {base : Option Addr} {len cap : Nat} {x : Value} (hs : Src P i.size tx x 0 [] w) (hc : len ≤ cap) :
    (Builtin.append_ #[t, tx] ty #[.slice base len cap, x]).run P w = .ok (.slice base len cap) w := by
  have h1 : (Builtin.firstCells i.size 0 x).run P w = .ok #[] w := hs.cells
  cases base with
  | none => rcases hs.kind with ⟨e', hk⟩ | hk <;> simp [Builtin.append_, run_underlying ht, run_underlying hk, sizeOf, typeInfo, hi, hs.len, hc, h1]
  | some a => rcases hs.kind with ⟨e', hk⟩ | hk <;> simp [Builtin.append_, run_underlying ht, run_underlying hk, sizeOf, typeInfo, hi, hs.len, hc, h1, storeCells]
theorem grown_cells {z : Array Value} {n m : Nat} (hz : z.size = m) : (Builtin.zeroCells z n).size = n * m := by simp [Builtin.zeroCells, hz]
/-- the arm that makes a new row -/
theorem run_grown {t tx ty e : TypeId} {ie : TypeInfo} {z : Value} (hu : P.underlying t = some (.slice e)) (g1 : P.info? e = some ie) (g4 : ie.zero = some z) (hzs : z.cells.size = ie.size) (hsz : 0 < ie.size)
    {base : Option Addr} {len cap n : Nat} {olds news : List Value} {y' : Value} (hold : (Builtin.firstCells ie.size len (.slice base len cap)).run P w.drew = .ok olds.toArray w.drew) (hs : Src P ie.size tx y' n news w) (hol : olds.length = len * ie.size)
    (hg : cap < len + n) (h5 : len + n ≤ 1000000000) (h6 : (len + n) * ie.bytes ≤ 1000000000) :
    ∃ (C : Array Value) (more : List Value) (newCap : Nat), (Builtin.append_ #[t, tx] ty #[.slice base len cap, y']).run P w = .ok (.slice (some ⟨w.heap.size, 0, none⟩) (len + n) newCap) (w.drew.alloc (.cells C e)) ∧
      C.toList = (olds ++ news) ++ more ∧ C.size = newCap * ie.size ∧ len + n ≤ newCap ∧ newCap ≤ maxLen := by
  have hr := run_append_grow_src (P := P) w t tx ty e ie z hu g1 g4 base len cap olds hold y' n news hs hg (by omega) (growslice_fits hg (by omega))
  have h1 := grownCap_ge w (len + n) cap e
  have h2 := grownCap_le_maxLen w (len + n) cap e (by unfold maxLen; omega)
  refine ⟨_, _, _, hr, by rw [Array.toList_append], ?_, h1, h2⟩
  rw [Array.size_append, grown_cells hzs]
  simp only [List.size_toArray, List.length_append, hol, hs.newsLen]
  rw [← Nat.add_mul, ← Nat.add_mul]
  congr 1
  omega
set_option maxHeartbeats 1000000 in
theorem append_did (hE : EnvOk P Γ) (hr : Rel σ V s w) (hV : Covers V s') (hF : Fresh σ s.n s'.n) {t tx ty : TypeId} {x x' y y' : Value} (h : opAppend Γ s t y x = some (v, s')) (htx : srcT Γ tx = true) (hx : VR σ x x') (hy : VR σ y y') :
    DidV σ V s w ((Builtin.append_ #[t, tx] ty #[x', y']).run P w) v s' := by
  unfold opAppend at h
  split at h
  · rename_i base len cap
    cases hi : elemOf? Γ t with
    | none => rw [hi] at h; simp at h
    | some j =>
      rw [hi] at h
      simp only at h
      obtain ⟨e, hu, hti⟩ := elem_some hE hi
      obtain ⟨ie, z, g1, g2, g3, g4, g5, g6⟩ := hti.info
      have hzs : z.cells.size = j.size := by rw [← Array.length_toList, g5]; exact hti.len
      unfold CS.append at h
      cases hn : lenC y with
      | none => rw [hn] at h; simp at h
      | some n =>
        rw [hn] at h
        simp only at h
        cases hq : s.firstCells j.size n y with
        | none => rw [hq] at h; simp at h
        | some p =>
          obtain ⟨new, s1⟩ := p
          rw [hq] at h
          simp only at h
          cases hb : (Nat.blt 1000000000 ((len + n) * (j.bytes + 1)) || Nat.beq j.size 0 || Nat.ble 1000 j.size || !(new.all oneC)) with
          | true => rw [hb] at h; simp at h
          | false =>
            rw [hb] at h
            simp only [cond_false] at h
            simp only [Bool.or_eq_false_iff] at hb
            obtain ⟨⟨⟨hb1, hb2⟩, hb3⟩, hb4⟩ := hb
            have q1 : (len + n) * (j.bytes + 1) ≤ 1000000000 := by
              by_cases hh : (len + n) * (j.bytes + 1) ≤ 1000000000
              · exact hh
              · rw [blt_iff.2 (by omega)] at hb1; simp at hb1
            have q2 : j.size ≠ 0 := by rintro h0; rw [h0] at hb2; simp at hb2
            have q3 : j.size < 1000 := by
              by_cases hh : j.size < 1000
              · exact hh
              · rw [ble_iff.2 (by omega)] at hb3; simp at hb3
            have q4 : new.all oneC = true := by simpa using hb4
            have q5 : len + n ≤ 1000000000 := Nat.le_trans (Nat.le_mul_of_pos_right _ (by omega)) q1
            have q6 : (len + n) * j.bytes ≤ 1000000000 := Nat.le_trans (Nat.mul_le_mul_left _ (by omega)) q1
            obtain ⟨c1, k1, n1, o1⟩ := firstCells_keep (σ := σ) (V := V) (w := w) hq
            have hr1 := k1 hr
            -- what is appended, once the plain machine's later steps are known to keep the log
            have hsrc : Can s1 s' → ∃ new', Src P ie.size tx y' n new' w ∧ RL (VR σ) new new' ∧ new'.length = n * j.size ∧ Ext σ V s w σ s1 w := by
              intro hc
              obtain ⟨new', e1, e2, e3, _, _, e4⟩ := firstCells_run (P := P) hr hq (hV.back hc) ⟨n, hn, Nat.le_refl _⟩ hy
              refine ⟨new', ⟨srcT_kind hE htx, lenC_run hn hy, ?_, ?_, ?_, e2.one q4⟩, e2, e3, e4⟩
              · rw [g2]; exact e1 w rfl
              · rw [g2]; exact e1 w.drew rfl
              · rw [g2]; exact e3
            have q6' : (len + n) * ie.bytes ≤ 1000000000 := by rw [g3]; exact q6
            have htag : ∀ m, (m * 1024 + (j.size + 1)) % 1024 = j.size + 1 := fun m => by omega
            cases base with
            | none =>
              simp only at h
              obtain ⟨rfl, rfl, rfl⟩ := hx.out
              cases hn0 : Nat.beq n 0 with
              | true =>
                rw [hn0] at h
                simp only [cond_true, Option.some.injEq, Prod.mk.injEq] at h
                obtain ⟨rfl, rfl⟩ := h
                have h0 : n = 0 := Nat.eq_of_beq_eq_true hn0
                subst h0
                obtain ⟨new', hs, _, e3, e4⟩ := hsrc (Can.refl _)
                have : new' = [] := List.eq_nil_of_length_eq_zero (by simpa using e3)
                subst this
                exact ⟨σ, w, _, run_append_zero hu g1 hs (Nat.le_refl _), hx, hr1, e4⟩
              | false =>
                rw [hn0] at h
                simp only [cond_false, Nat.zero_add] at h
                have hn1 : 0 < n := by
                  rcases Nat.eq_zero_or_pos n with h0 | h0
                  · rw [h0] at hn0; simp at hn0
                  · exact h0
                obtain ⟨a, h1, rfl⟩ := sliceC_some h
                have c2 : Can s1 s' := newRow_can (by omega) h1
                obtain ⟨new', hs, e2, e3, e4⟩ := hsrc c2
                obtain ⟨C, more, newCap, r1, r2, r3, r4, r5⟩ := run_grown (P := P) (w := w) (ty := ty) hu g1 g4 (by rw [hzs, g2]) (by omega) (base := none) (len := 0) (cap := 0) (olds := []) (by simp [Builtin.firstCells]) hs (by simp) (by omega) (by omega) (by simpa using q6')
                simp only [Nat.zero_add, List.nil_append] at r1 r2 r4
                obtain ⟨rfl, _, m1, m2, m3⟩ := newRow_rel (w0 := w.drew) h1 hr1 (hF.mono (by omega) (Nat.le_refl _)) (by omega) ⟨rfl, rfl, rfl, rfl⟩ C e (0, 0) (by intro j _; simp) new' more r2 e2
                refine ⟨_, _, _, r1, ?_, m1, e4.trans m2 c1 c2 hF hr.none⟩
                refine VR.mk ⟨_, _, _, m3, _, newCap, rfl, Nat.le_refl _, r4, r5, fun _ => rfl, fun h0 => ?_, fun _ _ => ?_⟩
                · exfalso
                  have : (s1.n * 1024 + (j.size + 1)) % 1024 = 0 := h0
                  omega
                · show 0 + 0 + newCap * ((s1.n * 1024 + (j.size + 1)) % 1024 - 1) ≤ C.size
                  rw [htag, r3, g2]
                  simp
            | some a =>
              simp only at h
              obtain ⟨b, o, zz, hσ, a', c', rfl, v1, v2, v3, v4, v5, v6⟩ := hx.out
              cases hroom : Nat.ble (len + n) cap with
              | true =>
                rw [hroom] at h
                simp only [cond_true] at h
                have hle := ble_iff.1 hroom
                cases hn0 : Nat.beq n 0 with
                | true =>
                  rw [hn0] at h
                  simp only [cond_true, Option.some.injEq, Prod.mk.injEq] at h
                  obtain ⟨rfl, rfl⟩ := h
                  have h0 : n = 0 := Nat.eq_of_beq_eq_true hn0
                  subst h0
                  obtain ⟨new', hs, _, e3, e4⟩ := hsrc (Can.refl _)
                  have : new' = [] := List.eq_nil_of_length_eq_zero (by simpa using e3)
                  subst this
                  exact ⟨σ, w, _, run_append_zero hu g1 hs (by omega), hx, hr1, e4⟩
                | false =>
                  rw [hn0] at h
                  simp only [cond_false] at h
                  have hn1 : 0 < n := by
                    rcases Nat.eq_zero_or_pos n with h0 | h0
                    · rw [h0] at hn0; simp at hn0
                    · exact h0
                  cases hw : s1.write (Addr.plus a (len * j.size)) new with
                  | none => rw [hw] at h; simp at h
                  | some s2 =>
                    rw [hw] at h
                    simp only [Option.some.injEq, Prod.mk.injEq] at h
                    obtain ⟨rfl, rfl⟩ := h
                    have c2 : Can s1 s2 := write_can hr1 hw
                    obtain ⟨new', hs, e2, e3, e4⟩ := hsrc c2
                    have := v4 (by omega)
                    subst this
                    obtain ⟨w1, w2, w3, w4, w5⟩ := write_rel hw hr1 hV (a := Addr.plus a (len * j.size)) hσ e2
                    have hoff : o + (Addr.plus a (len * j.size)).off = o + a.off + len * ie.size := by rw [g2]; show o + (a.off + len * j.size) = _; omega
                    rw [hoff] at w1 w2 w4 w5
                    have hrun := run_append_room_src (P := P) w t tx ty e ie hu g1 b (o + a.off) len c' y' n new' hs (by omega) w1 w2
                    refine ⟨σ, _, _, hrun, ?_, w4, e4.trans w5 c1 c2 hF hr.none⟩
                    exact VR.mk ⟨b, o, zz, hσ, _, c', rfl, hle, v2, v3, fun _ => rfl, v5, v6⟩
              | false =>
                rw [hroom] at h
                simp only [cond_false] at h
                have hgt : cap < len + n := by
                  by_cases hh : len + n ≤ cap
                  · rw [ble_iff.2 hh] at hroom; simp at hroom
                  · omega
                -- the old cells
                cases hold : (bif Nat.beq len 0 then some ([], s1) else s1.firstCells j.size len (.slice (some a) len cap)) with
                | none => rw [hold] at h; simp at h
                | some p =>
                  obtain ⟨old, s2⟩ := p
                  rw [hold] at h
                  simp only at h
                  have keep2 : Can s1 s2 ∧ Rel σ V s2 w ∧ s2.n = s1.n ∧ s2.obj = s1.obj := by
                    cases hl0 : Nat.beq len 0 with
                    | true =>
                      rw [hl0] at hold
                      simp only [cond_true, Option.some.injEq, Prod.mk.injEq] at hold
                      obtain ⟨_, rfl⟩ := hold
                      exact ⟨Can.refl _, hr1, rfl, rfl⟩
                    | false =>
                      rw [hl0] at hold
                      simp only [cond_false] at hold
                      obtain ⟨x1, x2, x3, x4⟩ := firstCells_keep (σ := σ) (V := V) (w := w) hold
                      exact ⟨x1, x2 hr1, x3, x4⟩
                  obtain ⟨c2, hr2, n2, o2⟩ := keep2
                  have holds : Covers V s2 → ∃ old', (∀ w0 : World, w0.heap = w.heap → (Builtin.firstCells ie.size len (.slice (some a') len c')).run P w0 = .ok old'.toArray w0) ∧ RL (VR σ) old old' ∧ old'.length = len * ie.size ∧ Ext σ V s1 w σ s2 w := by
                    intro hV2
                    cases hl0 : Nat.beq len 0 with
                    | true =>
                      rw [hl0] at hold
                      simp only [cond_true, Option.some.injEq, Prod.mk.injEq] at hold
                      obtain ⟨rfl, rfl⟩ := hold
                      have : len = 0 := Nat.eq_of_beq_eq_true hl0
                      subst this
                      exact ⟨[], fun w0 _ => by simp [Builtin.firstCells, loadCells, loadCellsFrom], trivial, by simp, Ext.refl _ _ _ _⟩
                    | false =>
                      rw [hl0] at hold
                      simp only [cond_false] at hold
                      obtain ⟨old', e1, e2, e3, _, _, e4⟩ := firstCells_run (P := P) hr1 hold hV2 ⟨len, rfl, Nat.le_refl _⟩ hx
                      exact ⟨old', fun w0 hw0 => by rw [g2]; exact e1 w0 hw0, e2, by rw [g2]; exact e3, e4⟩
                  have hF2 : Fresh σ s2.n s'.n := hF.mono (by omega) (Nat.le_refl _)
                  cases ht0 : Nat.beq (Addr.ver a % 1024) 0 with
                  | true =>
                    rw [ht0] at h
                    simp only [cond_true] at h
                    have htg : Addr.ver a % 1024 = 0 := Nat.eq_of_beq_eq_true ht0
                    obtain ⟨a2, h1, rfl⟩ := sliceC_some h
                    have c3 : Can s2 s' := newRow_can (by omega) h1
                    obtain ⟨new', hs, e2, e3, e4⟩ := hsrc (c2.trans c3)
                    obtain ⟨old', f1, f2, f3, f4⟩ := holds (hV.back c3)
                    obtain ⟨C, more, newCap, r1, r2, r3, r4, r5⟩ := run_grown (P := P) (w := w) (ty := ty) hu g1 g4 (by rw [hzs, g2]) (by omega) (f1 w.drew rfl) hs f3 (by rw [v5 htg]; omega) q5 q6'
                    obtain ⟨rfl, _, m1, m2, m3⟩ := newRow_rel (w0 := w.drew) h1 hr2 hF2 (by omega) ⟨rfl, rfl, rfl, rfl⟩ C e (0, 0) (by intro j _; simp) _ more r2 (f2.append e2)
                    refine ⟨_, _, _, r1, ?_, m1, (e4.trans f4 c1 c2 (hF.mono (Nat.le_refl _) (by have := c3.n; omega)) hr.none).trans m2 (c1.trans c2) c3 hF hr.none⟩
                    refine VR.mk ⟨_, _, _, m3, _, newCap, rfl, Nat.le_refl _, r4, r5, fun _ => rfl, fun h0 => ?_, fun _ _ => ?_⟩
                    · exfalso
                      have : (s2.n * 1024 + (j.size + 1)) % 1024 = 0 := h0
                      omega
                    · show 0 + 0 + newCap * ((s2.n * 1024 + (j.size + 1)) % 1024 - 1) ≤ C.size
                      rw [htag, r3, g2]
                      simp
                  | false =>
                    rw [ht0] at h
                    simp only [cond_false] at h
                    cases ht1 : Nat.beq (Addr.ver a % 1024) (j.size + 1) with
                    | false => rw [ht1] at h; simp at h
                    | true =>
                      rw [ht1] at h
                      simp only [cond_true] at h
                      have htg : Addr.ver a % 1024 = j.size + 1 := Nat.eq_of_beq_eq_true ht1
                      have c3 : Can s2 s' := grow_can hr2 (by omega) h
                      obtain ⟨new', hs, e2, e3, e4⟩ := hsrc (c2.trans c3)
                      obtain ⟨old', f1, f2, f3, f4⟩ := holds (hV.back c3)
                      obtain ⟨cs, x1, x2, x3, x4, x5⟩ := grow_some h
                      have hext := e4.trans f4 c1 c2 (hF.mono (Nat.le_refl _) (by have := c3.n; omega)) hr.none
                      by_cases hin : len + n ≤ c'
                      · -- in place
                        have := v4 (by omega)
                        subst this
                        have hb6 := v6 (by omega) (by omega)
                        rw [htg] at hb6
                        simp only [Nat.add_sub_cancel] at hb6
                        have hmul : (len + n) * j.size ≤ c' * j.size := Nat.mul_le_mul_right _ hin
                        rw [Nat.add_mul] at hmul
                        have hnl : new.length = n * j.size := by rw [e2.length]; exact e3
                        have holdd : old = cs.drop a.off := by
                          have hdl : (cs.drop a.off).length = len * j.size := by rw [List.length_drop]; omega
                          cases hl0 : Nat.beq len 0 with
                          | true =>
                            rw [hl0] at hold
                            simp only [cond_true, Option.some.injEq, Prod.mk.injEq] at hold
                            have : len = 0 := Nat.eq_of_beq_eq_true hl0
                            subst this
                            rw [← hold.1]
                            exact (List.eq_nil_of_length_eq_zero (by simpa using hdl)).symm
                          | false =>
                            rw [hl0] at hold
                            simp only [cond_false] at hold
                            unfold CS.firstCells at hold
                            simp only at hold
                            cases hz0 : Nat.beq (len * j.size) 0 with
                            | true =>
                              exfalso
                              have h0 := Nat.eq_of_beq_eq_true hz0
                              rcases Nat.mul_eq_zero.1 h0 with h0 | h0
                              · rw [h0] at hl0; simp at hl0
                              · exact q2 h0
                            | false =>
                              rw [hz0] at hold
                              simp only [cond_false] at hold
                              cases hq2 : s1.readRow a with
                              | none => rw [hq2] at hold; simp at hold
                              | some p2 =>
                                obtain ⟨cs2, s3⟩ := p2
                                rw [hq2] at hold
                                simp only at hold
                                have hrow2 := (readRow_some hq2).1
                                rw [o2] at x2
                                rw [x2] at hrow2
                                cases hrow2
                                cases hcut : cut cs a.off (len * j.size) with
                                | none => rw [hcut] at hold; simp at hold
                                | some l =>
                                  rw [hcut] at hold
                                  simp only [Option.some.injEq, Prod.mk.injEq] at hold
                                  rw [← hold.1]
                                  unfold cut at hcut
                                  dsimp only at hcut
                                  rw [List.take_of_length_le (by omega)] at hcut
                                  cases hbq : Nat.beq (cs.drop a.off).length (len * j.size) with
                                  | false => rw [hbq] at hcut; simp at hcut
                                  | true => rw [hbq] at hcut; simp only [cond_true, Option.some.injEq] at hcut; exact hcut.symm
                        rw [x3] at h
                        obtain ⟨y1, y2, y3, y4, y5, y6, y7⟩ := grow_in h hr2 hV hF2 (by omega) hσ x2 holdd (by omega) e2 q4 (by omega)
                        have hrun := run_append_room_src (P := P) w t tx ty e ie hu g1 b (o + a.off) len c' y' n new' hs hin (by rw [g2, show o + a.off + len * j.size = o + cs.length by omega]; exact y2) (by rw [g2, show o + a.off + len * j.size = o + cs.length by omega]; exact y3)
                        rw [g2, show o + a.off + len * j.size = o + cs.length by omega] at hrun
                        subst y1
                        refine ⟨_, _, _, hrun, ?_, y5, hext.trans y6 (c1.trans c2) c3 hF hr.none⟩
                        refine VR.mk ⟨b, o + a.off, zz, y7, _, c', rfl, Nat.le_refl _, hin, v3, fun _ => rfl, fun h0 => ?_, fun _ _ => ?_⟩
                        · exfalso
                          have : (s2.n * 1024 + (j.size + 1)) % 1024 = 0 := h0
                          omega
                        · show o + a.off + 0 + c' * ((s2.n * 1024 + (j.size + 1)) % 1024 - 1) ≤ zz
                          rw [htag]
                          simp only [Nat.add_sub_cancel]
                          omega
                      · obtain ⟨C, more, newCap, r1, r2, r3, r4, r5⟩ := run_grown (P := P) (w := w) (ty := ty) hu g1 g4 (by rw [hzs, g2]) (by omega) (f1 w.drew rfl) hs f3 (by omega) q5 q6'
                        obtain ⟨rfl, m1, m2, m3⟩ := grow_out (w0 := w.drew) h hr2 hV hF2 (by omega) ⟨rfl, rfl, rfl, rfl⟩ C e _ more r2 (f2.append e2)
                        refine ⟨_, _, _, r1, ?_, m1, hext.trans m2 (c1.trans c2) c3 hF hr.none⟩
                        refine VR.mk ⟨_, _, _, m3, _, newCap, rfl, Nat.le_refl _, r4, r5, fun _ => rfl, fun h0 => ?_, fun _ _ => ?_⟩
                        · exfalso
                          have : (s2.n * 1024 + (j.size + 1)) % 1024 = 0 := h0
                          omega
                        · show 0 + 0 + newCap * ((s2.n * 1024 + (j.size + 1)) % 1024 - 1) ≤ C.size
                          rw [htag, r3, g2]
                          simp
  · simp at h
end
end Go.Proofs.YtcmfoipnoejmlaaDoor
