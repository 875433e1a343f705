/- The law HashOfSeparates in the plain machine. -/
import Derived.Test.YtcmfoipnoejmlaaDoorLOf
namespace Go.Proofs.YtcmfoipnoejmlaaDoor
open Go Go.RowKit WM
set_option linter.unusedSimpArgs false
set_option linter.unusedVariables false
set_option maxRecDepth 100000
theorem bb_eql {P : Program} {Γ : Env} {ρ : Operand → Value} {s : CS} {d : Option Tmp} {ty t t2 : TypeId} {pos : String} {x y : Operand} {e : Array Edge} {g : Option (Nat × Bool)} {a b : UInt8} (hx : ρ x = vb a) (hy : ρ y = vb b) : opBin P Γ ρ ⟨d, .binOp .eql t x y t2, ty, pos, e, g⟩ s t .eql (vb a) (vb b) = some (.bool (decide (a = b)), s) := by
  have h := oi_eql (P := P) (Γ := Γ) (ρ := ρ) (s := s) (d := d) (ty := ty) (pos := pos) (t := t) (t2 := t2) (x := x) (y := y) (e := e) (g := g) (k := .u8) (a := (a.toNat : Int)) (b := (b.toNat : Int)) hx hy
  have e1 : decide (((a.toNat : Nat) : Int) = ((b.toNat : Nat) : Int)) = decide (a = b) := by
    by_cases hab : a = b
    · subst hab; simp
    · rw [decide_eq_false hab, decide_eq_false]
      intro hh
      exact hab (UInt8.toNat_inj.1 (by omega))
  rw [e1] at h
  exact h
theorem encS_B (s : ByteArray) : encS s = encB s.data.toList := by
  unfold encS encB
  congr 2
theorem encS_inj {s s' : ByteArray} {r r' : List UInt8} (h1 : s.size ≤ 400) (h2 : s'.size ≤ 400) (h : encS s ++ r = encS s' ++ r') : s = s' ∧ r = r' := by
  have l1 : s.data.toList.length = s.size := by simp
  have l2 : s'.data.toList.length = s'.size := by simp
  have a := getB_round s.data.toList r (by omega)
  have b := getB_round s'.data.toList r' (by omega)
  rw [encS_B, encS_B] at h
  rw [h, b] at a
  simp only [Except.ok.injEq, Prod.mk.injEq] at a
  have e : s = s' := by
    apply ByteArray.ext
    exact Array.toList_inj.1 a.1.symm
  subst e
  exact ⟨rfl, List.append_cancel_left h⟩
theorem encS_ne (s : ByteArray) (r : List UInt8) : encS s ++ r ≠ [] := by
  intro h
  have := venc_pos (zig (s.size : Int))
  have h2 := congrArg List.length h
  unfold encS enc at h2
  simp only [List.length_append, List.length_nil] at h2
  omega
theorem flat_inj : ∀ (l l' : List ByteArray), (∀ s, s ∈ l → s.size ≤ 400) → (∀ s, s ∈ l' → s.size ≤ 400) → l.flatMap encS = l'.flatMap encS → l = l'
  | [], [], _, _, _ => rfl
  | [], s :: l, _, _, h => absurd h.symm (by rw [List.flatMap_cons]; exact encS_ne s _)
  | s :: l, [], _, _, h => absurd h (by rw [List.flatMap_cons]; exact encS_ne s _)
  | s :: l, s' :: l', h1, h2, h => by
    rw [List.flatMap_cons, List.flatMap_cons] at h
    obtain ⟨rfl, h'⟩ := encS_inj (h1 s (by simp)) (h2 s' (by simp)) h
    rw [flat_inj l l' (fun z hz => h1 z (by simp [hz])) (fun z hz => h2 z (by simp [hz])) h']
theorem inpL_eq (c : UInt8) (ss : List ByteArray) : ∀ i, i ≤ ss.length → inpL c ss i = c :: (ss.take i).flatMap encS
  | 0, _ => rfl
  | i + 1, h => by
    rw [inpL, inpL_eq c ss i (by omega), List.take_add_one, List.getElem?_eq_getElem (by omega), List.flatMap_append, List.cons_append]
    congr 2
    rw [List.getD_eq_getElem?_getD, List.getElem?_eq_getElem (by omega)]
    simp
theorem inpL_inj {c c' : UInt8} {ss ss' : List ByteArray} (h1 : ∀ i, i < ss.length → (ss.getD i nilB).size ≤ 400) (h2 : ∀ i, i < ss'.length → (ss'.getD i nilB).size ≤ 400) (h : inpL c ss ss.length = inpL c' ss' ss'.length) : c = c' ∧ ss = ss' := by
  rw [inpL_eq _ _ _ (Nat.le_refl _), inpL_eq _ _ _ (Nat.le_refl _), List.take_length, List.take_length, List.cons.injEq] at h
  have q : ∀ l : List ByteArray, (∀ i, i < l.length → (l.getD i nilB).size ≤ 400) → ∀ s, s ∈ l → s.size ≤ 400 := by
    intro l hl s hs
    obtain ⟨i, hi, rfl⟩ := List.mem_iff_getElem.1 hs
    have := hl i hi
    rwa [List.getD_eq_getElem?_getD, List.getElem?_eq_getElem hi] at this
  exact ⟨h.1, flat_inj _ _ (q ss h1) (q ss' h2) h.2⟩
theorem byteOf_nat (c : UInt8) : byteOf (c.toNat : Int) = c := by
  unfold byteOf
  have := c.toNat_lt
  have e : (((c.toNat : Nat) : Int) % 256).toNat = c.toNat := by omega
  rw [e]
  exact UInt8.ofNat_toNat
theorem dec_and {p q : Prop} [Decidable p] [Decidable q] : (bif decide p then decide q else false) = decide (p ∧ q) := by
  by_cases hp : p <;> by_cases hq : q <;> simp [hp, hq]
theorem beq_decT {α : Type} [DecidableEq α] (a b : α) : ((a == b) == decide (a = b)) = true := by
  by_cases h : a = b <;> simp [h]
theorem eq_take {α : Type} (a b : List α) (i : Nat) (h : a.take i = b.take i) (d : α) (ha : i < a.length) (hb : i < b.length) : (a.getD i d = b.getD i d) ↔ a.take (i + 1) = b.take (i + 1) := by
  rw [List.take_add_one, List.take_add_one, List.getD_eq_getElem?_getD, List.getD_eq_getElem?_getD, List.getElem?_eq_getElem ha, List.getElem?_eq_getElem hb, h, List.append_cancel_left_eq]
  simp only [Option.getD_some, Option.toList_some, List.cons.injEq, and_true]
set_option maxHeartbeats 60000000 in
theorem os_law (c1 c2 : UInt8) (x1 x2 : Option Addr) (l1 k1 l2 k2 : Nat) (ss1 ss2 : List ByteArray) (n : Nat) (g : Nat → Fam) (hs1 : StrArg g n x1 l1 k1 ss1) (hs2 : StrArg g n x2 l2 k2 ss2) (hG : 1 < n) (hk : rowOf (g 1).rows (1 * 1024) = some kcells) :
    ∃ v s2, callR Tryd.prog (EE axH) 8 [.agg (bvs [c1, c2]).toArray, .slice x1 l1 k1, .slice x2 l2 k2] (St n g 0 [] []) = some (v, s2) ∧ v = .bool true := by
  have hax : axH 8 = none := axH_plain _ (by decide)
  have hkw : rowOf (g 1).rows (1 * 1024) = some (wvs KW) := by rw [hk, kcells_eq]
  have hsl1 := hs1.1
  have hsl2 := hs2.1
  refine callR_ex (fn := Tryd.f8) 120 hax (fn8 axH) rfl Tryd.ntmps8 (by simp) ?_
  simp (disch := omega) only [ofArgs_cons, ofArgs_nil, Nat.reduceAdd]
  repeat apply W.seq
  apply W.region
  · simp (disch := first | omega | (simp (disch := omega) [ev_tmp, ev_const, get_of, upd_same, upd_ne, Tryd.underlying3, Tryd.underlying9, Tryd.underlying4, Tryd.underlying5, Tryd.underlying22, Tryd.underlying24]; done) | (apply inK_i64; omega) | (apply inK_u64; omega)) only [op_len, cond_true, cond_false, pick_on, stepC_if, goC_true, goC_false, guard_tt, guard_tf, guard_ft, guard_ff, slot_zero, slot_succ, put_some, runC_cons, runC_nil, stepC_free, dstC_dst, dstC_none, thenC_some, cop_assign, cop_move, cop_conv, cop_bin, cop_un, cop_pick, cop_index, cop_indexAddr, cop_load, cop_store, cop_alloc, cop_box, cop_build, cop_slice, cop_s2a, cop_field, cop_fieldAddr, cop_extract, cop_nilCheck, cop_call, cop_builtin, cop_buildSlice, ev_tmp, ev_const, ev_global, ev_func, put_of, get_of, upd_same, upd_ne, List.toList_toArray, List.map_cons, List.map_nil, some_map, none_map, ti3, ti4, box_st, cells_agg]
    with_reducible rfl
  simp only [onN, onB]
  generalize hg0 : fupd g n ⟨false, [(n * 1024 + 0, bvs [c1, c2])], none⟩ = g0
  have pn : g0 n = ⟨false, [(n * 1024 + 0, bvs [c1, c2])], none⟩ := by rw [← hg0, fupd_same]
  have p0 : ∀ i, i < n → g0 i = g i := fun i hi => by rw [← hg0, fupd_ne _ _ _ _ (by omega)]
  clear hg0
  have SAN : callR Tryd.prog (EE axH) 16 [] (St (n + 1) g0 0 [] []) = some (.bool true, St (n + 1) g0 0 (ins 0 [] 1) []) := sane_run _ (by show rowOf (g0 1).rows (1 * 1024) = _; rw [p0 _ hG]; exact hk)
  have hs1' := hs1.keep p0 (show n ≤ n + 1 by omega)
  have hs2' := hs2.keep p0 (show n ≤ n + 1 by omega)
  obtain ⟨fw1, rdf1, ef1, hfew1⟩ := few_run axH axH_plain x1 l1 k1 ss1 (n + 1) g0 0 (ins 0 [] 1) [] hs1'
  obtain ⟨fw2, rdf2, ef2, hfew2⟩ := few_run axH axH_plain x2 l2 k2 ss2 (n + 1) g0 0 rdf1 [] hs2'
  repeat apply W.seq
  apply W.region
  · simp (disch := first | omega | (simp (disch := omega) [ev_tmp, ev_const, get_of, upd_same, upd_ne, Tryd.underlying3, Tryd.underlying9, Tryd.underlying4, Tryd.underlying5, Tryd.underlying22, Tryd.underlying24]; done) | (apply inK_i64; omega) | (apply inK_u64; omega)) only [op_len, cond_true, cond_false, pick_on, stepC_if, goC_true, goC_false, guard_tt, guard_tf, guard_ft, guard_ff, slot_zero, slot_succ, put_some, runC_cons, runC_nil, stepC_free, dstC_dst, dstC_none, thenC_some, cop_assign, cop_move, cop_conv, cop_bin, cop_un, cop_pick, cop_index, cop_indexAddr, cop_load, cop_store, cop_alloc, cop_box, cop_build, cop_slice, cop_s2a, cop_field, cop_fieldAddr, cop_extract, cop_nilCheck, cop_call, cop_builtin, cop_buildSlice, ev_tmp, ev_const, ev_global, ev_func, put_of, get_of, upd_same, upd_ne, List.toList_toArray, List.map_cons, List.map_nil, some_map, none_map, ti3, ti4, SAN]
    with_reducible rfl
  simp only [onN, onB]
  by_cases hbig : fw1 = false ∨ fw2 = false
  · repeat apply W.seq
    refine (W.region_ex (fun fr s => ∃ h, fr = Fr.of 120 h ∧ h 7 = .bool true ∧ h 26 = .bool true) ?_ ?_)
    · cases fw1 with
      | false =>
        apply Exists.intro
        apply And.intro
        · simp (disch := first | omega | (simp (disch := omega) [ev_tmp, ev_const, get_of, upd_same, upd_ne, Tryd.underlying3, Tryd.underlying9, Tryd.underlying4, Tryd.underlying5, Tryd.underlying22, Tryd.underlying24]; done) | (apply inK_i64; omega) | (apply inK_u64; omega)) only [op_len, cond_true, cond_false, pick_on, stepC_if, goC_true, goC_false, guard_tt, guard_tf, guard_ft, guard_ff, slot_zero, slot_succ, put_some, runC_cons, runC_nil, stepC_free, dstC_dst, dstC_none, thenC_some, cop_assign, cop_move, cop_conv, cop_bin, cop_un, cop_pick, cop_index, cop_indexAddr, cop_load, cop_store, cop_alloc, cop_box, cop_build, cop_slice, cop_s2a, cop_field, cop_fieldAddr, cop_extract, cop_nilCheck, cop_call, cop_builtin, cop_buildSlice, ev_tmp, ev_const, ev_global, ev_func, put_of, get_of, upd_same, upd_ne, List.toList_toArray, List.map_cons, List.map_nil, some_map, none_map, ti3, ti4, ef1, un_not, Bool.not_false]
          with_reducible rfl
        · exact ⟨_, rfl, by simp (disch := omega) only [upd_same, upd_ne], by simp (disch := omega) only [upd_same, upd_ne]⟩
      | true =>
        have : fw2 = false := by rcases hbig with h | h; simp at h; exact h
        subst this
        apply Exists.intro
        apply And.intro
        · simp (disch := first | omega | (simp (disch := omega) [ev_tmp, ev_const, get_of, upd_same, upd_ne, Tryd.underlying3, Tryd.underlying9, Tryd.underlying4, Tryd.underlying5, Tryd.underlying22, Tryd.underlying24]; done) | (apply inK_i64; omega) | (apply inK_u64; omega)) only [op_len, cond_true, cond_false, pick_on, stepC_if, goC_true, goC_false, guard_tt, guard_tf, guard_ft, guard_ff, slot_zero, slot_succ, put_some, runC_cons, runC_nil, stepC_free, dstC_dst, dstC_none, thenC_some, cop_assign, cop_move, cop_conv, cop_bin, cop_un, cop_pick, cop_index, cop_indexAddr, cop_load, cop_store, cop_alloc, cop_box, cop_build, cop_slice, cop_s2a, cop_field, cop_fieldAddr, cop_extract, cop_nilCheck, cop_call, cop_builtin, cop_buildSlice, ev_tmp, ev_const, ev_global, ev_func, put_of, get_of, upd_same, upd_ne, List.toList_toArray, List.map_cons, List.map_nil, some_map, none_map, ti3, ti4, ef1, ef2, un_not, Bool.not_true, Bool.not_false]
          with_reducible rfl
        · exact ⟨_, rfl, by simp (disch := omega) only [upd_same, upd_ne], by simp (disch := omega) only [upd_same, upd_ne]⟩
    rintro fr s ⟨h, rfl, h7, h26⟩
    simp only [onN]
    repeat apply W.seq
    refine W.cond (b := true) ?_ ?_
    · simp (disch := omega) only [ev_tmp, get_of, upd_same, upd_ne, h26, decide_true, decide_false]
    simp only [cond_true, cond_false]
    repeat apply W.seq
    apply W.region
    · simp (disch := first | omega | (simp (disch := omega) [ev_tmp, ev_const, get_of, upd_same, upd_ne, h7, Tryd.underlying3, Tryd.underlying9, Tryd.underlying4, Tryd.underlying5, Tryd.underlying22, Tryd.underlying24]; done) | (apply inK_i64; omega) | (apply inK_u64; omega)) only [op_len, cond_true, cond_false, pick_on, stepC_if, goC_true, goC_false, guard_tt, guard_tf, guard_ft, guard_ff, slot_zero, slot_succ, put_some, runC_cons, runC_nil, stepC_free, dstC_dst, dstC_none, thenC_some, cop_assign, cop_move, cop_conv, cop_bin, cop_un, cop_pick, cop_index, cop_indexAddr, cop_load, cop_store, cop_alloc, cop_box, cop_build, cop_slice, cop_s2a, cop_field, cop_fieldAddr, cop_extract, cop_nilCheck, cop_call, cop_builtin, cop_buildSlice, ev_tmp, ev_const, ev_global, ev_func, put_of, get_of, upd_same, upd_ne, List.toList_toArray, List.map_cons, List.map_nil, some_map, none_map, ti3, ti4, h7]
      with_reducible rfl
    simp only [onN, onB]
    apply W.ret
    refine ⟨.inr rfl, [.bool true], ?_⟩
    apply Exists.intro
    apply And.intro
    · simp (disch := omega) only [resC, Tryd.results8, get_of, upd_same]
      all_goals rfl
    · rfl
  have hfw1 : fw1 = true := by cases fw1; exact absurd (.inl rfl) hbig; rfl
  have hfw2 : fw2 = true := by cases fw2; exact absurd (.inr rfl) hbig; rfl
  subst hfw1
  subst hfw2
  obtain ⟨h12a, h400a⟩ := hfew1 rfl
  obtain ⟨h12b, h400b⟩ := hfew2 rfl
  clear hbig hfew1 hfew2
  repeat apply W.seq
  apply W.region
  · simp (disch := first | omega | (simp (disch := omega) [ev_tmp, ev_const, get_of, upd_same, upd_ne, Tryd.underlying3, Tryd.underlying9, Tryd.underlying4, Tryd.underlying5, Tryd.underlying22, Tryd.underlying24]; done) | (apply inK_i64; omega) | (apply inK_u64; omega)) only [op_len, cond_true, cond_false, pick_on, stepC_if, goC_true, goC_false, guard_tt, guard_tf, guard_ft, guard_ff, slot_zero, slot_succ, put_some, runC_cons, runC_nil, stepC_free, dstC_dst, dstC_none, thenC_some, cop_assign, cop_move, cop_conv, cop_bin, cop_un, cop_pick, cop_index, cop_indexAddr, cop_load, cop_store, cop_alloc, cop_box, cop_build, cop_slice, cop_s2a, cop_field, cop_fieldAddr, cop_extract, cop_nilCheck, cop_call, cop_builtin, cop_buildSlice, ev_tmp, ev_const, ev_global, ev_func, put_of, get_of, upd_same, upd_ne, List.toList_toArray, List.map_cons, List.map_nil, some_map, none_map, ti3, ti4, ef1, ef2, un_not, Bool.not_true]
    with_reducible rfl
  simp only [onN, onB]
  repeat apply W.seq
  refine W.cond (b := false) ?_ ?_
  · simp (disch := omega) only [ev_tmp, get_of, upd_same, upd_ne, cond_true, decide_true, decide_false]
  simp only [cond_true, cond_false]
  apply W.skip
  simp only [onN, onB]
  have LA := fun (gg : Nat → Fam) (N : Nat) (rd : List Nat) (h : gg n = ⟨false, [(n * 1024 + 0, bvs [c1, c2])], none⟩) => ld_one (n := N) (lim := 0) (rd := rd) (wr := []) (ti5 axH) rfl (g := gg) (f := n) (u := n * 1024 + 0) (off := 0 + 0) (cs := bvs [c1, c2]) (v := vb c1) (by rw [h]; exact rowOf_one) rfl
  have LB := fun (gg : Nat → Fam) (N : Nat) (rd : List Nat) (h : gg n = ⟨false, [(n * 1024 + 0, bvs [c1, c2])], none⟩) => ld_one (n := N) (lim := 0) (rd := rd) (wr := []) (ti5 axH) rfl (g := gg) (f := n) (u := n * 1024 + 0) (off := 0 + 1) (cs := bvs [c1, c2]) (v := vb c2) (by rw [h]; exact rowOf_one) rfl
  have X0 := fun (s : CS) => idx_arr (s := s) (Γ := EE axH) (f := n) (u := n * 1024 + 0) (off := 0) (ti48 axH) (ti5 axH) (show 0 < 2 by omega)
  have X1 := fun (s : CS) => idx_arr (s := s) (Γ := EE axH) (f := n) (u := n * 1024 + 0) (off := 0) (ti48 axH) (ti5 axH) (show 1 < 2 by omega)
  have I0 := fun l => ins_ge (m := 0) (f := n) l (by omega)
  repeat apply W.seq
  refine (W.region_ex (fun fr s => ∃ h rd, fr = Fr.of 120 h ∧ s = St (n + 1) g0 0 rd [] ∧ (h 1 = .slice x1 l1 k1 ∧ h 2 = .slice x2 l2 k2 ∧ h 3 = .pointer (some (mkA n (n * 1024 + 0) 0)) ∧ h 7 = .bool true) ∧ h 8 = .bool (decide (c1 = c2 ∧ l1 = l2))) ?_ ?_)
  · by_cases hc : c1 = c2
    · apply Exists.intro
      apply And.intro
      · simp (disch := first | omega | (simp (disch := omega) [ev_tmp, ev_const, get_of, upd_same, upd_ne, Tryd.underlying3, Tryd.underlying9, Tryd.underlying4, Tryd.underlying5, Tryd.underlying22, Tryd.underlying24]; done) | (apply inK_i64; omega) | (apply inK_u64; omega)) only [op_len, cond_true, cond_false, pick_on, stepC_if, goC_true, goC_false, guard_tt, guard_tf, guard_ft, guard_ff, slot_zero, slot_succ, put_some, runC_cons, runC_nil, stepC_free, dstC_dst, dstC_none, thenC_some, cop_assign, cop_move, cop_conv, cop_bin, cop_un, cop_pick, cop_index, cop_indexAddr, cop_load, cop_store, cop_alloc, cop_box, cop_build, cop_slice, cop_s2a, cop_field, cop_fieldAddr, cop_extract, cop_nilCheck, cop_call, cop_builtin, cop_buildSlice, ev_tmp, ev_const, ev_global, ev_func, put_of, get_of, upd_same, upd_ne, List.toList_toArray, List.map_cons, List.map_nil, some_map, none_map, ti3, ti4, natOf_lit, X0, X1, LA _ _ _ pn, LB _ _ _ pn, I0, bb_eql, decide_eq_true hc, len_sl (ti27 axH), oi_eql]
        with_reducible rfl
      · refine ⟨_, _, rfl, rfl, ⟨by simp (disch := omega) only [upd_same, upd_ne], by simp (disch := omega) only [upd_same, upd_ne], by simp (disch := omega) only [upd_same, upd_ne], by simp (disch := omega) only [upd_same, upd_ne]⟩, ?_⟩
        simp (disch := omega) only [upd_same, upd_ne, cond_true]
        refine congrArg Value.bool ?_
        apply decide_eq_decide.2
        exact ⟨fun h => ⟨hc, by omega⟩, fun h => by have := h.2; omega⟩
    · apply Exists.intro
      apply And.intro
      · simp (disch := first | omega | (simp (disch := omega) [ev_tmp, ev_const, get_of, upd_same, upd_ne, Tryd.underlying3, Tryd.underlying9, Tryd.underlying4, Tryd.underlying5, Tryd.underlying22, Tryd.underlying24]; done) | (apply inK_i64; omega) | (apply inK_u64; omega)) only [op_len, cond_true, cond_false, pick_on, stepC_if, goC_true, goC_false, guard_tt, guard_tf, guard_ft, guard_ff, slot_zero, slot_succ, put_some, runC_cons, runC_nil, stepC_free, dstC_dst, dstC_none, thenC_some, cop_assign, cop_move, cop_conv, cop_bin, cop_un, cop_pick, cop_index, cop_indexAddr, cop_load, cop_store, cop_alloc, cop_box, cop_build, cop_slice, cop_s2a, cop_field, cop_fieldAddr, cop_extract, cop_nilCheck, cop_call, cop_builtin, cop_buildSlice, ev_tmp, ev_const, ev_global, ev_func, put_of, get_of, upd_same, upd_ne, List.toList_toArray, List.map_cons, List.map_nil, some_map, none_map, ti3, ti4, natOf_lit, X0, X1, LA _ _ _ pn, LB _ _ _ pn, I0, bb_eql, decide_eq_false hc]
        with_reducible rfl
      · refine ⟨_, _, rfl, rfl, ⟨by simp (disch := omega) only [upd_same, upd_ne], by simp (disch := omega) only [upd_same, upd_ne], by simp (disch := omega) only [upd_same, upd_ne], by simp (disch := omega) only [upd_same, upd_ne]⟩, ?_⟩
        simp (disch := omega) only [upd_same, upd_ne, cond_true, cond_false]
        rw [decide_eq_false (fun h => hc h.1)]
  rintro fr s ⟨h, rd, rfl, rfl, ⟨h1, h2, h3, h7⟩, h8⟩
  simp only [onN]
  apply W.seq
  refine W.cut (fun fr s => ∃ (h : Nat → Value) (rd' : List Nat), fr = Fr.of 120 h ∧ s = St (n + 1) g0 0 rd' [] ∧ (h 1 = .slice x1 l1 k1 ∧ h 2 = .slice x2 l2 k2 ∧ h 3 = .pointer (some (mkA n (n * 1024 + 0) 0)) ∧ h 7 = .bool true) ∧ h 8 = .bool (decide (c1 = c2 ∧ ss1 = ss2))) ?_ ?_
  · skip
    repeat apply W.seq
    apply W.region
    · simp (disch := first | omega | (simp (disch := omega) [ev_tmp, ev_const, get_of, upd_same, upd_ne, Tryd.underlying3, Tryd.underlying9, Tryd.underlying4, Tryd.underlying5, Tryd.underlying22, Tryd.underlying24]; done) | (apply inK_i64; omega) | (apply inK_u64; omega)) only [op_len, cond_true, cond_false, pick_on, stepC_if, goC_true, goC_false, guard_tt, guard_tf, guard_ft, guard_ff, slot_zero, slot_succ, put_some, runC_cons, runC_nil, stepC_free, dstC_dst, dstC_none, thenC_some, cop_assign, cop_move, cop_conv, cop_bin, cop_un, cop_pick, cop_index, cop_indexAddr, cop_load, cop_store, cop_alloc, cop_box, cop_build, cop_slice, cop_s2a, cop_field, cop_fieldAddr, cop_extract, cop_nilCheck, cop_call, cop_builtin, cop_buildSlice, ev_tmp, ev_const, ev_global, ev_func, put_of, get_of, upd_same, upd_ne, List.toList_toArray, List.map_cons, List.map_nil, some_map, none_map, ti3, ti4]
      with_reducible rfl
    simp only [onN, onB]
    repeat apply W.seq
    apply W.block
    refine W.loop (fun m fr s => ∃ (i : Nat) (h : Nat → Value) (rd' : List Nat), i ≤ l1 ∧ m = l1 - i ∧ fr = Fr.of 120 h ∧ s = St (n + 1) g0 0 rd' [] ∧ (h 1 = .slice x1 l1 k1 ∧ h 2 = .slice x2 l2 k2 ∧ h 3 = .pointer (some (mkA n (n * 1024 + 0) 0)) ∧ h 7 = .bool true) ∧ h 9 = .int .i64 (i : Int) ∧ h 8 = .bool (decide (c1 = c2 ∧ l1 = l2 ∧ ss1.take i = ss2.take i))) ?_ (l1 - 0) _ _ ⟨0, _, _, by omega, rfl, rfl, rfl, ⟨?_, ?_, ?_, ?_⟩, ?_, ?_⟩
    case refine_2 => simp (disch := omega) only [upd_same, upd_ne, h1]
    case refine_3 => simp (disch := omega) only [upd_same, upd_ne, h2]
    case refine_4 => simp (disch := omega) only [upd_same, upd_ne, h3]
    case refine_5 => simp (disch := omega) only [upd_same, upd_ne, h7]
    case refine_6 => simp (disch := omega) only [upd_same, upd_ne]; rfl
    case refine_7 => simp (disch := omega) only [upd_same, upd_ne, h8, List.take_zero, and_true]
    clear h1 h2 h3 h7 h8
    rintro m fr s ⟨i, h, rd', hi, rfl, rfl, rfl, ⟨h1, h2, h3, h7⟩, h9, h8⟩
    by_cases hlt : (i : Int) < (l1 : Int)
    case neg =>
      repeat apply W.seq
      apply W.region
      · simp (disch := first | omega | (simp (disch := omega) [ev_tmp, ev_const, get_of, upd_same, upd_ne, h1, h9, Tryd.underlying3, Tryd.underlying9, Tryd.underlying4, Tryd.underlying5, Tryd.underlying22, Tryd.underlying24]; done) | (apply inK_i64; omega) | (apply inK_u64; omega)) only [op_len, cond_true, cond_false, pick_on, stepC_if, goC_true, goC_false, guard_tt, guard_tf, guard_ft, guard_ff, slot_zero, slot_succ, put_some, runC_cons, runC_nil, stepC_free, dstC_dst, dstC_none, thenC_some, cop_assign, cop_move, cop_conv, cop_bin, cop_un, cop_pick, cop_index, cop_indexAddr, cop_load, cop_store, cop_alloc, cop_box, cop_build, cop_slice, cop_s2a, cop_field, cop_fieldAddr, cop_extract, cop_nilCheck, cop_call, cop_builtin, cop_buildSlice, ev_tmp, ev_const, ev_global, ev_func, put_of, get_of, upd_same, upd_ne, List.toList_toArray, List.map_cons, List.map_nil, some_map, none_map, ti3, ti4, h1, h9, len_sl (ti27 axH), oi_lss, decide_eq_false hlt]
        with_reducible rfl
      simp only [onN, onB]
      repeat apply W.seq
      refine W.cond (b := false) ?_ ?_
      · simp (disch := omega) only [ev_tmp, get_of, upd_same, upd_ne, cond_false, decide_true, decide_false]
      simp only [cond_true, cond_false]
      apply W.exit
      simp only [onN, onB, Nat.beq_refl, cond_true]
      have hie : i = l1 := by omega
      subst hie
      refine ⟨by first | rfl | trivial, _, _, rfl, rfl, ⟨by simp (disch := omega) only [upd_same, upd_ne, h1], by simp (disch := omega) only [upd_same, upd_ne, h2], by simp (disch := omega) only [upd_same, upd_ne, h3], by simp (disch := omega) only [upd_same, upd_ne, h7]⟩, ?_⟩
      simp (disch := omega) only [upd_same, upd_ne, h8]
      refine congrArg Value.bool ?_
      apply decide_eq_decide.2
      constructor
      · rintro ⟨a, b, c⟩
        rw [List.take_of_length_le (by omega), List.take_of_length_le (by omega)] at c
        exact ⟨a, c⟩
      · rintro ⟨a, b⟩
        subst b
        exact ⟨a, by omega, rfl⟩
    by_cases hf : c1 = c2 ∧ l1 = l2 ∧ ss1.take i = ss2.take i
    case neg =>
      rw [decide_eq_false hf] at h8
      repeat apply W.seq
      apply W.region
      · simp (disch := first | omega | (simp (disch := omega) [ev_tmp, ev_const, get_of, upd_same, upd_ne, h1, h8, h9, Tryd.underlying3, Tryd.underlying9, Tryd.underlying4, Tryd.underlying5, Tryd.underlying22, Tryd.underlying24]; done) | (apply inK_i64; omega) | (apply inK_u64; omega)) only [op_len, cond_true, cond_false, pick_on, stepC_if, goC_true, goC_false, guard_tt, guard_tf, guard_ft, guard_ff, slot_zero, slot_succ, put_some, runC_cons, runC_nil, stepC_free, dstC_dst, dstC_none, thenC_some, cop_assign, cop_move, cop_conv, cop_bin, cop_un, cop_pick, cop_index, cop_indexAddr, cop_load, cop_store, cop_alloc, cop_box, cop_build, cop_slice, cop_s2a, cop_field, cop_fieldAddr, cop_extract, cop_nilCheck, cop_call, cop_builtin, cop_buildSlice, ev_tmp, ev_const, ev_global, ev_func, put_of, get_of, upd_same, upd_ne, List.toList_toArray, List.map_cons, List.map_nil, some_map, none_map, ti3, ti4, h1, h8, h9, len_sl (ti27 axH), oi_lss, decide_eq_true hlt]
        with_reducible rfl
      simp only [onN, onB]
      repeat apply W.seq
      refine W.cond (b := false) ?_ ?_
      · simp (disch := omega) only [ev_tmp, get_of, upd_same, upd_ne, cond_false, cond_true, decide_true, decide_false]
      simp only [cond_true, cond_false]
      apply W.exit
      simp only [onN, onB, Nat.beq_refl, cond_true]
      refine ⟨by first | rfl | trivial, _, _, rfl, rfl, ⟨by simp (disch := omega) only [upd_same, upd_ne, h1], by simp (disch := omega) only [upd_same, upd_ne, h2], by simp (disch := omega) only [upd_same, upd_ne, h3], by simp (disch := omega) only [upd_same, upd_ne, h7]⟩, ?_⟩
      simp (disch := omega) only [upd_same, upd_ne, h8]
      refine congrArg Value.bool ?_
      exact (decide_eq_false fun ⟨a, b⟩ => hf ⟨a, by rw [← hsl1, ← hsl2, b], by rw [b]⟩).symm
    rw [decide_eq_true hf] at h8
    repeat apply W.seq
    apply W.region
    · simp (disch := first | omega | (simp (disch := omega) [ev_tmp, ev_const, get_of, upd_same, upd_ne, h1, h8, h9, Tryd.underlying3, Tryd.underlying9, Tryd.underlying4, Tryd.underlying5, Tryd.underlying22, Tryd.underlying24]; done) | (apply inK_i64; omega) | (apply inK_u64; omega)) only [op_len, cond_true, cond_false, pick_on, stepC_if, goC_true, goC_false, guard_tt, guard_tf, guard_ft, guard_ff, slot_zero, slot_succ, put_some, runC_cons, runC_nil, stepC_free, dstC_dst, dstC_none, thenC_some, cop_assign, cop_move, cop_conv, cop_bin, cop_un, cop_pick, cop_index, cop_indexAddr, cop_load, cop_store, cop_alloc, cop_box, cop_build, cop_slice, cop_s2a, cop_field, cop_fieldAddr, cop_extract, cop_nilCheck, cop_call, cop_builtin, cop_buildSlice, ev_tmp, ev_const, ev_global, ev_func, put_of, get_of, upd_same, upd_ne, List.toList_toArray, List.map_cons, List.map_nil, some_map, none_map, ti3, ti4, h1, h8, h9, len_sl (ti27 axH), oi_lss, decide_eq_true hlt]
      with_reducible rfl
    simp only [onN, onB]
    repeat apply W.seq
    refine W.cond (b := true) ?_ ?_
    · simp (disch := omega) only [ev_tmp, get_of, upd_same, upd_ne, cond_true, decide_true, decide_false]
    simp only [cond_true, cond_false]
    apply W.skip
    simp only [onN, onB]
    obtain ⟨hf1, hf2, hf3⟩ := hf
    have hil : i < l1 := by omega
    obtain ⟨pp1, pf1, hpf1, A1, A2⟩ := hs1'.at (Γ := EE axH) (i := i) hil (ti27 axH) (ti9 axH)
    have A3 := A2 (n + 1) g0 (n + 1) [] [] (fun _ _ => rfl)
    rw [ins_lt (show pf1 < n + 1 by omega)] at A3
    obtain ⟨pp2, pf2, hpf2, B1, B2⟩ := hs2'.at (Γ := EE axH) (i := i) (by omega) (ti27 axH) (ti9 axH)
    have B3 := B2 (n + 1) g0 (n + 1) [] [] (fun _ _ => rfl)
    rw [ins_lt (show pf2 < n + 1 by omega)] at B3
    repeat apply W.seq
    apply W.block
    repeat apply W.seq
    apply W.last
    · kernel_rfl
    · simp (disch := first | omega | (simp (disch := omega) [ev_tmp, ev_const, get_of, upd_same, upd_ne, h1, h2, h9, Tryd.underlying3, Tryd.underlying9, Tryd.underlying4, Tryd.underlying5, Tryd.underlying22, Tryd.underlying24]; done) | (apply inK_i64; omega) | (apply inK_u64; omega)) only [op_len, cond_true, cond_false, pick_on, stepC_if, goC_true, goC_false, guard_tt, guard_tf, guard_ft, guard_ff, slot_zero, slot_succ, put_some, runC_cons, runC_nil, stepC_free, dstC_dst, dstC_none, thenC_some, cop_assign, cop_move, cop_conv, cop_bin, cop_un, cop_pick, cop_index, cop_indexAddr, cop_load, cop_store, cop_alloc, cop_box, cop_build, cop_slice, cop_s2a, cop_field, cop_fieldAddr, cop_extract, cop_nilCheck, cop_call, cop_builtin, cop_buildSlice, ev_tmp, ev_const, ev_global, ev_func, put_of, get_of, upd_same, upd_ne, List.toList_toArray, List.map_cons, List.map_nil, some_map, none_map, ti3, ti4, quietL_cons, quietL_one, inner_st, thenL_same, thenL_rd, lastL_some, insAll_nil, insAll_cons, h1, h2, h9, natOf_nat, A1, A3, B1, B3, os_eql, thenL_rd hpf1, thenL_rd hpf2]
      with_reducible rfl
    simp only [onN, onB]
    repeat apply W.seq
    apply W.region
    · simp (disch := first | omega | (simp (disch := omega) [ev_tmp, ev_const, get_of, upd_same, upd_ne, h9, Tryd.underlying3, Tryd.underlying9, Tryd.underlying4, Tryd.underlying5, Tryd.underlying22, Tryd.underlying24]; done) | (apply inK_i64; omega) | (apply inK_u64; omega)) only [op_len, cond_true, cond_false, pick_on, stepC_if, goC_true, goC_false, guard_tt, guard_tf, guard_ft, guard_ff, slot_zero, slot_succ, put_some, runC_cons, runC_nil, stepC_free, dstC_dst, dstC_none, thenC_some, cop_assign, cop_move, cop_conv, cop_bin, cop_un, cop_pick, cop_index, cop_indexAddr, cop_load, cop_store, cop_alloc, cop_box, cop_build, cop_slice, cop_s2a, cop_field, cop_fieldAddr, cop_extract, cop_nilCheck, cop_call, cop_builtin, cop_buildSlice, ev_tmp, ev_const, ev_global, ev_func, put_of, get_of, upd_same, upd_ne, List.toList_toArray, List.map_cons, List.map_nil, some_map, none_map, ti3, ti4, oi_add, h9]
      with_reducible rfl
    simp only [onN, onB]
    refine ⟨l1 - (i + 1), by omega, i + 1, _, _, by omega, rfl, rfl, rfl, ⟨?_, ?_, ?_, ?_⟩, ?_, ?_⟩
    · simp (disch := omega) only [upd_same, upd_ne, h1]
    · simp (disch := omega) only [upd_same, upd_ne, h2]
    · simp (disch := omega) only [upd_same, upd_ne, h3]
    · simp (disch := omega) only [upd_same, upd_ne, h7]
    · simp (disch := omega) only [upd_same, upd_ne]; rfl
    · simp (disch := omega) only [upd_same, upd_ne]
      refine congrArg Value.bool ?_
      apply decide_eq_decide.2
      rw [eq_take ss1 ss2 i hf3 nilB (by omega) (by omega)]
      exact ⟨fun h => ⟨hf1, hf2, h⟩, fun h => h.2.2⟩
  clear h1 h2 h3 h7 h8
  rintro fr s ⟨h, rd, rfl, rfl, ⟨h1, h2, h3, h7⟩, h8⟩
  obtain ⟨ao1, n2, g2, rd2, e1, o1, a1, b1⟩ := inp_run axH axH_plain (c1.toNat : Int) x1 l1 k1 ss1 h12a h400a (n + 1) g0 0 rd [] (Nat.zero_le _) hs1'
  rw [byteOf_nat] at e1 o1
  repeat apply W.seq
  apply W.region
  · simp (disch := first | omega | (simp (disch := omega) [ev_tmp, ev_const, get_of, upd_same, upd_ne, h1, h3, Tryd.underlying3, Tryd.underlying9, Tryd.underlying4, Tryd.underlying5, Tryd.underlying22, Tryd.underlying24]; done) | (apply inK_i64; omega) | (apply inK_u64; omega)) only [op_len, cond_true, cond_false, pick_on, stepC_if, goC_true, goC_false, guard_tt, guard_tf, guard_ft, guard_ff, slot_zero, slot_succ, put_some, runC_cons, runC_nil, stepC_free, dstC_dst, dstC_none, thenC_some, cop_assign, cop_move, cop_conv, cop_bin, cop_un, cop_pick, cop_index, cop_indexAddr, cop_load, cop_store, cop_alloc, cop_box, cop_build, cop_slice, cop_s2a, cop_field, cop_fieldAddr, cop_extract, cop_nilCheck, cop_call, cop_builtin, cop_buildSlice, ev_tmp, ev_const, ev_global, ev_func, put_of, get_of, upd_same, upd_ne, List.toList_toArray, List.map_cons, List.map_nil, some_map, none_map, ti3, ti4, h1, h3, natOf_lit, X0, LA _ _ _ pn, I0, conv_bi (ti5 axH) (ti3 axH), e1]
    with_reducible rfl
  simp only [onN, onB]
  have q0 : ∀ i, i < n → g2 i = g i := fun i hi => by rw [b1 _ (by omega)]; exact p0 i hi
  have qn : g2 n = ⟨false, [(n * 1024 + 0, bvs [c1, c2])], none⟩ := by rw [b1 _ (by omega)]; exact pn
  obtain ⟨ao2, n3, g3, rd3, e2, o2, a2, b2⟩ := inp_run axH axH_plain (c2.toNat : Int) x2 l2 k2 ss2 h12b h400b n2 g2 0 rd2 [] (Nat.zero_le _) (hs2.keep q0 (by omega))
  rw [byteOf_nat] at e2 o2
  repeat apply W.seq
  apply W.region
  · simp (disch := first | omega | (simp (disch := omega) [ev_tmp, ev_const, get_of, upd_same, upd_ne, h2, h3, Tryd.underlying3, Tryd.underlying9, Tryd.underlying4, Tryd.underlying5, Tryd.underlying22, Tryd.underlying24]; done) | (apply inK_i64; omega) | (apply inK_u64; omega)) only [op_len, cond_true, cond_false, pick_on, stepC_if, goC_true, goC_false, guard_tt, guard_tf, guard_ft, guard_ff, slot_zero, slot_succ, put_some, runC_cons, runC_nil, stepC_free, dstC_dst, dstC_none, thenC_some, cop_assign, cop_move, cop_conv, cop_bin, cop_un, cop_pick, cop_index, cop_indexAddr, cop_load, cop_store, cop_alloc, cop_box, cop_build, cop_slice, cop_s2a, cop_field, cop_fieldAddr, cop_extract, cop_nilCheck, cop_call, cop_builtin, cop_buildSlice, ev_tmp, ev_const, ev_global, ev_func, put_of, get_of, upd_same, upd_ne, List.toList_toArray, List.map_cons, List.map_nil, some_map, none_map, ti3, ti4, h2, h3, natOf_lit, X1, LB _ _ _ qn, I0, conv_bi (ti5 axH) (ti3 axH), e2]
    with_reducible rfl
  simp only [onN, onB]
  have lM1 := inpL_len c1 ss1 (fun i hi => h400a i (by omega)) l1 (by omega)
  have lM2 := inpL_len c2 ss2 (fun i hi => h400b i (by omega)) l2 (by omega)
  have INJ : inpL c1 ss1 l1 = inpL c2 ss2 l2 → c1 = c2 ∧ ss1 = ss2 := fun hh => by
    rw [← hsl1, ← hsl2] at hh
    exact inpL_inj (fun i hi => h400a i (by omega)) (fun i hi => h400b i (by omega)) hh
  have o1' := o1.keep (n' := n3) (g' := g3) (fun j _ hj => b2 j (by omega)) a2
  have F1 := fun (N : Nat) (gg : Nat → Fam) (rd : List Nat) (hN : n3 ≤ N) (hg : ∀ i, i < n3 → gg i = g3 i) => (o1'.keep (n' := N) (g' := gg) (fun j _ hj => hg j hj) hN).first (lim := 0) (rd := rd) (wr := []) (k := (inpL c1 ss1 l1).length) (by omega) (Nat.le_refl _)
  have F2 := fun (N : Nat) (gg : Nat → Fam) (rd : List Nat) (hN : n3 ≤ N) (hg : ∀ i, i < n3 → gg i = g3 i) => (o2.keep (n' := N) (g' := gg) (fun j _ hj => hg j hj) hN).first (lim := 0) (rd := rd) (wr := []) (k := (inpL c2 ss2 l2).length) (by omega) (Nat.le_refl _)
  simp only [Nat.mul_one] at F1 F2
  rw [List.take_of_length_le (by rw [bvs_len]; exact Nat.le_refl _)] at F1
  rw [List.take_of_length_le (by rw [bvs_len]; exact Nat.le_refl _)] at F2
  have C1 := fun N gg rd hN hg ρ o => conv_str (P := Tryd.prog) (Γ := EE axH) (ρ := ρ) (o := o) (ti22 axH) (ti9 axH) (ti5 axH) (F1 N gg rd hN hg)
  have C2 := fun N gg rd hN hg ρ o => conv_str (P := Tryd.prog) (Γ := EE axH) (ρ := ρ) (o := o) (ti22 axH) (ti9 axH) (ti5 axH) (F2 N gg rd hN hg)
  clear F1 F2
  by_cases hsm : c1 = c2 ∧ ss1 = ss2
  · rw [decide_eq_true hsm] at h8
    have hMM : (⟨(inpL c1 ss1 l1).toArray⟩ : ByteArray) = ⟨(inpL c2 ss2 l2).toArray⟩ := by
      obtain ⟨r1, r2⟩ := hsm
      rw [← hsl1, ← hsl2, r1, r2]
    repeat apply W.seq
    apply W.region
    · simp (disch := first | omega | (simp (disch := omega) [ev_tmp, ev_const, get_of, upd_same, upd_ne, h8, Tryd.underlying3, Tryd.underlying9, Tryd.underlying4, Tryd.underlying5, Tryd.underlying22, Tryd.underlying24]; done) | (apply inK_i64; omega) | (apply inK_u64; omega)) only [op_len, cond_true, cond_false, pick_on, stepC_if, goC_true, goC_false, guard_tt, guard_tf, guard_ft, guard_ff, slot_zero, slot_succ, put_some, runC_cons, runC_nil, stepC_free, dstC_dst, dstC_none, thenC_some, cop_assign, cop_move, cop_conv, cop_bin, cop_un, cop_pick, cop_index, cop_indexAddr, cop_load, cop_store, cop_alloc, cop_box, cop_build, cop_slice, cop_s2a, cop_field, cop_fieldAddr, cop_extract, cop_nilCheck, cop_call, cop_builtin, cop_buildSlice, ev_tmp, ev_const, ev_global, ev_func, put_of, get_of, upd_same, upd_ne, List.toList_toArray, List.map_cons, List.map_nil, some_map, none_map, ti3, ti4, h8]
      with_reducible rfl
    simp only [onN, onB]
    repeat apply W.seq
    refine W.cond (b := true) ?_ ?_
    · simp (disch := omega) only [ev_tmp, get_of, upd_same, upd_ne, h8, decide_true, decide_false]
    simp only [cond_true, cond_false]
    repeat apply W.seq
    apply W.region
    · simp (disch := first | omega | (simp (disch := omega) [ev_tmp, ev_const, get_of, upd_same, upd_ne, h7, Tryd.underlying3, Tryd.underlying9, Tryd.underlying4, Tryd.underlying5, Tryd.underlying22, Tryd.underlying24]; done) | (apply inK_i64; omega) | (apply inK_u64; omega)) only [op_len, cond_true, cond_false, pick_on, stepC_if, goC_true, goC_false, guard_tt, guard_tf, guard_ft, guard_ff, slot_zero, slot_succ, put_some, runC_cons, runC_nil, stepC_free, dstC_dst, dstC_none, thenC_some, cop_assign, cop_move, cop_conv, cop_bin, cop_un, cop_pick, cop_index, cop_indexAddr, cop_load, cop_store, cop_alloc, cop_box, cop_build, cop_slice, cop_s2a, cop_field, cop_fieldAddr, cop_extract, cop_nilCheck, cop_call, cop_builtin, cop_buildSlice, ev_tmp, ev_const, ev_global, ev_func, put_of, get_of, upd_same, upd_ne, List.toList_toArray, List.map_cons, List.map_nil, some_map, none_map, ti3, ti4, h7, C1 n3 g3 _ (Nat.le_refl _) (fun _ _ => rfl), C2 n3 g3 _ (Nat.le_refl _) (fun _ _ => rfl), os_eql, decide_eq_true hMM]
      with_reducible rfl
    simp only [onN, onB]
    apply W.ret
    refine ⟨.inr rfl, [.bool true], ?_⟩
    apply Exists.intro
    apply And.intro
    · simp (disch := omega) only [resC, Tryd.results8, get_of, upd_same]
      all_goals rfl
    · rfl
  rw [decide_eq_false hsm] at h8
  have hMM : ¬ ((⟨(inpL c1 ss1 l1).toArray⟩ : ByteArray) = ⟨(inpL c2 ss2 l2).toArray⟩) := fun hh => hsm (INJ (by
    have := congrArg (fun b : ByteArray => b.data.toList) hh
    simpa using this))
  repeat apply W.seq
  apply W.region
  · simp (disch := first | omega | (simp (disch := omega) [ev_tmp, ev_const, get_of, upd_same, upd_ne, h8, Tryd.underlying3, Tryd.underlying9, Tryd.underlying4, Tryd.underlying5, Tryd.underlying22, Tryd.underlying24]; done) | (apply inK_i64; omega) | (apply inK_u64; omega)) only [op_len, cond_true, cond_false, pick_on, stepC_if, goC_true, goC_false, guard_tt, guard_tf, guard_ft, guard_ff, slot_zero, slot_succ, put_some, runC_cons, runC_nil, stepC_free, dstC_dst, dstC_none, thenC_some, cop_assign, cop_move, cop_conv, cop_bin, cop_un, cop_pick, cop_index, cop_indexAddr, cop_load, cop_store, cop_alloc, cop_box, cop_build, cop_slice, cop_s2a, cop_field, cop_fieldAddr, cop_extract, cop_nilCheck, cop_call, cop_builtin, cop_buildSlice, ev_tmp, ev_const, ev_global, ev_func, put_of, get_of, upd_same, upd_ne, List.toList_toArray, List.map_cons, List.map_nil, some_map, none_map, ti3, ti4, h8]
    with_reducible rfl
  simp only [onN, onB]
  repeat apply W.seq
  refine W.cond (b := false) ?_ ?_
  · simp (disch := omega) only [ev_tmp, get_of, upd_same, upd_ne, h8, decide_true, decide_false]
  simp only [cond_true, cond_false]
  apply W.skip
  simp only [onN, onB]
  have w0 : ∀ i, i < n → g3 i = g i := fun i hi => by rw [b2 _ (by omega)]; exact q0 i hi
  have wn : g3 n = ⟨false, [(n * 1024 + 0, bvs [c1, c2])], none⟩ := by rw [b2 _ (by omega)]; exact qn
  obtain ⟨n4, g4, rd4, e4, a4, b4⟩ := of_run axH axH_plain axH_comp2 (c1.toNat : Int) x1 l1 k1 ss1 h12a h400a n3 g3 0 rd3 [] (Nat.zero_le _) (hs1.keep w0 (by omega)) (by omega) (by rw [w0 _ hG]; exact hkw)
  rw [byteOf_nat] at e4
  have d16 : ∀ M : List UInt8, (bvs ((sha M).take 16)).length = 16 := fun M => by rw [bvs_len, List.length_take, sha_len]; rfl
  have S4 := st_all (n := n4 + 1) (lim := 0) (rd := rd4) (wr := []) (tiD axH) (g := fupd g4 n4 ⟨false, [(n4 * 1024 + 0, List.replicate 16 (.int .u8 0))], none⟩) (f := n4) (u := n4 * 1024 + 0) (vs := bvs ((sha (inpL c1 ss1 l1)).take 16)) (fupd_same _ _ _) (d16 _) (by simp) (bvs_one _)
  rw [fupd_fupd, ins_ge (f := n4) _ (by omega)] at S4
  repeat apply W.seq
  apply W.region
  · simp (disch := first | omega | (simp (disch := omega) [ev_tmp, ev_const, get_of, upd_same, upd_ne, h1, h3, Tryd.underlying3, Tryd.underlying9, Tryd.underlying4, Tryd.underlying5, Tryd.underlying22, Tryd.underlying24]; done) | (apply inK_i64; omega) | (apply inK_u64; omega)) only [op_len, cond_true, cond_false, pick_on, stepC_if, goC_true, goC_false, guard_tt, guard_tf, guard_ft, guard_ff, slot_zero, slot_succ, put_some, runC_cons, runC_nil, stepC_free, dstC_dst, dstC_none, thenC_some, cop_assign, cop_move, cop_conv, cop_bin, cop_un, cop_pick, cop_index, cop_indexAddr, cop_load, cop_store, cop_alloc, cop_box, cop_build, cop_slice, cop_s2a, cop_field, cop_fieldAddr, cop_extract, cop_nilCheck, cop_call, cop_builtin, cop_buildSlice, ev_tmp, ev_const, ev_global, ev_func, put_of, get_of, upd_same, upd_ne, List.toList_toArray, List.map_cons, List.map_nil, some_map, none_map, ti3, ti4, h1, h3, natOf_lit, X0, LA _ _ _ wn, I0, conv_bi (ti5 axH) (ti3 axH), e4, alloc_st (tiD axH), cells_agg, S4]
    with_reducible rfl
  simp only [onN, onB]
  generalize hg5 : fupd g4 n4 ⟨false, [(n4 * 1024 + 0, bvs ((sha (inpL c1 ss1 l1)).take 16))], none⟩ = g5
  have y3 : ∀ i, i < n3 → g5 i = g3 i := fun i hi => by rw [← hg5, fupd_ne _ _ _ _ (by omega), b4 _ (by omega)]
  have y4 : g5 n4 = ⟨false, [(n4 * 1024 + 0, bvs ((sha (inpL c1 ss1 l1)).take 16))], none⟩ := by rw [← hg5, fupd_same]
  clear hg5 S4 e4 b4
  have yn : g5 n = ⟨false, [(n * 1024 + 0, bvs [c1, c2])], none⟩ := by rw [y3 _ (by omega)]; exact wn
  have y0 : ∀ i, i < n → g5 i = g i := fun i hi => by rw [y3 _ (by omega)]; exact w0 i hi
  obtain ⟨n5, g6, rd5, e5, a5, b5⟩ := of_run axH axH_plain axH_comp2 (c2.toNat : Int) x2 l2 k2 ss2 h12b h400b (n4 + 1) g5 0 rd4 [] (Nat.zero_le _) (hs2.keep y0 (by omega)) (by omega) (by rw [y0 _ hG]; exact hkw)
  rw [byteOf_nat] at e5
  have S5 := st_all (n := n5 + 1) (lim := 0) (rd := rd5) (wr := []) (tiD axH) (g := fupd g6 n5 ⟨false, [(n5 * 1024 + 0, List.replicate 16 (.int .u8 0))], none⟩) (f := n5) (u := n5 * 1024 + 0) (vs := bvs ((sha (inpL c2 ss2 l2)).take 16)) (fupd_same _ _ _) (d16 _) (by simp) (bvs_one _)
  rw [fupd_fupd, ins_ge (f := n5) _ (by omega)] at S5
  repeat apply W.seq
  apply W.region
  · simp (disch := first | omega | (simp (disch := omega) [ev_tmp, ev_const, get_of, upd_same, upd_ne, h2, h3, Tryd.underlying3, Tryd.underlying9, Tryd.underlying4, Tryd.underlying5, Tryd.underlying22, Tryd.underlying24]; done) | (apply inK_i64; omega) | (apply inK_u64; omega)) only [op_len, cond_true, cond_false, pick_on, stepC_if, goC_true, goC_false, guard_tt, guard_tf, guard_ft, guard_ff, slot_zero, slot_succ, put_some, runC_cons, runC_nil, stepC_free, dstC_dst, dstC_none, thenC_some, cop_assign, cop_move, cop_conv, cop_bin, cop_un, cop_pick, cop_index, cop_indexAddr, cop_load, cop_store, cop_alloc, cop_box, cop_build, cop_slice, cop_s2a, cop_field, cop_fieldAddr, cop_extract, cop_nilCheck, cop_call, cop_builtin, cop_buildSlice, ev_tmp, ev_const, ev_global, ev_func, put_of, get_of, upd_same, upd_ne, List.toList_toArray, List.map_cons, List.map_nil, some_map, none_map, ti3, ti4, h2, h3, natOf_lit, X1, LB _ _ _ yn, I0, conv_bi (ti5 axH) (ti3 axH), e5, alloc_st (tiD axH), cells_agg, S5]
    with_reducible rfl
  simp only [onN, onB]
  generalize hg7 : fupd g6 n5 ⟨false, [(n5 * 1024 + 0, bvs ((sha (inpL c2 ss2 l2)).take 16))], none⟩ = g7
  have z3 : ∀ i, i < n3 → g7 i = g3 i := fun i hi => by rw [← hg7, fupd_ne _ _ _ _ (by omega), b5 _ (by omega)]; exact y3 i hi
  have z4 : g7 n4 = ⟨false, [(n4 * 1024 + 0, bvs ((sha (inpL c1 ss1 l1)).take 16))], none⟩ := by rw [← hg7, fupd_ne _ _ _ _ (by omega), b5 _ (by omega)]; exact y4
  have z5 : g7 n5 = ⟨false, [(n5 * 1024 + 0, bvs ((sha (inpL c2 ss2 l2)).take 16))], none⟩ := by rw [← hg7, fupd_same]
  clear hg7 S5 e5 b5 y4 yn
  have z0 : ∀ i, i < n → g7 i = g i := fun i hi => by rw [z3 _ (by omega)]; exact w0 i hi
  have B1 := (o1'.keep (n' := n5 + 1) (g' := g7) (fun j _ hj => z3 j hj) (by omega)).barg
  obtain ⟨n6, g8, rd6, e6, a6, b6, -⟩ := hsum_run axH axH_plain axH_comp2 ao1 (inpL c1 ss1 l1).length (inpL c1 ss1 l1).length (inpL c1 ss1 l1) (by omega) (n5 + 1) g7 0 rd5 [] (Nat.zero_le _) B1 (by omega) (by rw [z0 _ hG]; exact hkw)
  have d32 : ∀ M : List UInt8, (bvs (sha M)).length = 32 := fun M => by rw [bvs_len, sha_len]
  have S6 := st_all (n := n6 + 1) (lim := 0) (rd := rd6) (wr := []) (ti24 axH) (g := fupd g8 n6 ⟨false, [(n6 * 1024 + 0, List.replicate 32 (.int .u8 0))], none⟩) (f := n6) (u := n6 * 1024 + 0) (vs := bvs (sha (inpL c1 ss1 l1))) (fupd_same _ _ _) (d32 _) (by simp) (bvs_one _)
  rw [fupd_fupd, ins_ge (f := n6) _ (by omega)] at S6
  repeat apply W.seq
  apply W.region
  · simp (disch := first | omega | (simp (disch := omega) [ev_tmp, ev_const, get_of, upd_same, upd_ne, Tryd.underlying3, Tryd.underlying9, Tryd.underlying4, Tryd.underlying5, Tryd.underlying22, Tryd.underlying24]; done) | (apply inK_i64; omega) | (apply inK_u64; omega)) only [op_len, cond_true, cond_false, pick_on, stepC_if, goC_true, goC_false, guard_tt, guard_tf, guard_ft, guard_ff, slot_zero, slot_succ, put_some, runC_cons, runC_nil, stepC_free, dstC_dst, dstC_none, thenC_some, cop_assign, cop_move, cop_conv, cop_bin, cop_un, cop_pick, cop_index, cop_indexAddr, cop_load, cop_store, cop_alloc, cop_box, cop_build, cop_slice, cop_s2a, cop_field, cop_fieldAddr, cop_extract, cop_nilCheck, cop_call, cop_builtin, cop_buildSlice, ev_tmp, ev_const, ev_global, ev_func, put_of, get_of, upd_same, upd_ne, List.toList_toArray, List.map_cons, List.map_nil, some_map, none_map, ti3, ti4, e6, alloc_st (ti24 axH), cells_agg, S6]
    with_reducible rfl
  simp only [onN, onB]
  generalize hg9 : fupd g8 n6 ⟨false, [(n6 * 1024 + 0, bvs (sha (inpL c1 ss1 l1)))], none⟩ = g9
  have v5 : ∀ i, i < n5 + 1 → g9 i = g7 i := fun i hi => by rw [← hg9, fupd_ne _ _ _ _ (by omega), b6 _ hi]
  have v6 : g9 n6 = ⟨false, [(n6 * 1024 + 0, bvs (sha (inpL c1 ss1 l1)))], none⟩ := by rw [← hg9, fupd_same]
  clear hg9 S6 e6 b6
  have B2 := (o2.keep (n' := n6 + 1) (g' := g9) (fun j _ hj => by rw [v5 _ (by omega)]; exact z3 j hj) (by omega)).barg
  obtain ⟨n7, ga, rd7, e7, a7, b7, -⟩ := hsum_run axH axH_plain axH_comp2 ao2 (inpL c2 ss2 l2).length (inpL c2 ss2 l2).length (inpL c2 ss2 l2) (by omega) (n6 + 1) g9 0 rd6 [] (Nat.zero_le _) B2 (by omega) (by rw [v5 _ (by omega), z0 _ hG]; exact hkw)
  have S7 := st_all (n := n7 + 1) (lim := 0) (rd := rd7) (wr := []) (ti24 axH) (g := fupd ga n7 ⟨false, [(n7 * 1024 + 0, List.replicate 32 (.int .u8 0))], none⟩) (f := n7) (u := n7 * 1024 + 0) (vs := bvs (sha (inpL c2 ss2 l2))) (fupd_same _ _ _) (d32 _) (by simp) (bvs_one _)
  rw [fupd_fupd, ins_ge (f := n7) _ (by omega)] at S7
  repeat apply W.seq
  apply W.region
  · simp (disch := first | omega | (simp (disch := omega) [ev_tmp, ev_const, get_of, upd_same, upd_ne, Tryd.underlying3, Tryd.underlying9, Tryd.underlying4, Tryd.underlying5, Tryd.underlying22, Tryd.underlying24]; done) | (apply inK_i64; omega) | (apply inK_u64; omega)) only [op_len, cond_true, cond_false, pick_on, stepC_if, goC_true, goC_false, guard_tt, guard_tf, guard_ft, guard_ff, slot_zero, slot_succ, put_some, runC_cons, runC_nil, stepC_free, dstC_dst, dstC_none, thenC_some, cop_assign, cop_move, cop_conv, cop_bin, cop_un, cop_pick, cop_index, cop_indexAddr, cop_load, cop_store, cop_alloc, cop_box, cop_build, cop_slice, cop_s2a, cop_field, cop_fieldAddr, cop_extract, cop_nilCheck, cop_call, cop_builtin, cop_buildSlice, ev_tmp, ev_const, ev_global, ev_func, put_of, get_of, upd_same, upd_ne, List.toList_toArray, List.map_cons, List.map_nil, some_map, none_map, ti3, ti4, e7, alloc_st (ti24 axH), cells_agg, S7]
    with_reducible rfl
  simp only [onN, onB]
  generalize hgb : fupd ga n7 ⟨false, [(n7 * 1024 + 0, bvs (sha (inpL c2 ss2 l2)))], none⟩ = gb
  have t6 : ∀ i, i < n6 + 1 → gb i = g9 i := fun i hi => by rw [← hgb, fupd_ne _ _ _ _ (by omega), b7 _ hi]
  have t15 : gb n7 = ⟨false, [(n7 * 1024 + 0, bvs (sha (inpL c2 ss2 l2)))], none⟩ := by rw [← hgb, fupd_same]
  clear hgb S7 e7 b7
  have t14 : gb n6 = ⟨false, [(n6 * 1024 + 0, bvs (sha (inpL c1 ss1 l1)))], none⟩ := by rw [t6 _ (by omega)]; exact v6
  have t13 : gb n5 = ⟨false, [(n5 * 1024 + 0, bvs ((sha (inpL c2 ss2 l2)).take 16))], none⟩ := by rw [t6 _ (by omega), v5 _ (by omega)]; exact z5
  have t12 : gb n4 = ⟨false, [(n4 * 1024 + 0, bvs ((sha (inpL c1 ss1 l1)).take 16))], none⟩ := by rw [t6 _ (by omega), v5 _ (by omega)]; exact z4
  have t3 : ∀ i, i < n3 → gb i = g3 i := fun i hi => by rw [t6 _ (by omega), v5 _ (by omega)]; exact z3 i hi
  clear B1 B2 z0 z3 z4 z5 v5 v6 t6
  have m1 := sha_len (inpL c1 ss1 l1)
  have m2 := sha_len (inpL c2 ss2 l2)
  repeat apply W.seq
  apply W.region
  · simp (disch := first | omega | (simp (disch := omega) [ev_tmp, ev_const, get_of, upd_same, upd_ne, Tryd.underlying3, Tryd.underlying9, Tryd.underlying4, Tryd.underlying5, Tryd.underlying22, Tryd.underlying24]; done) | (apply inK_i64; omega) | (apply inK_u64; omega)) only [op_len, cond_true, cond_false, pick_on, stepC_if, goC_true, goC_false, guard_tt, guard_tf, guard_ft, guard_ff, slot_zero, slot_succ, put_some, runC_cons, runC_nil, stepC_free, dstC_dst, dstC_none, thenC_some, cop_assign, cop_move, cop_conv, cop_bin, cop_un, cop_pick, cop_index, cop_indexAddr, cop_load, cop_store, cop_alloc, cop_box, cop_build, cop_slice, cop_s2a, cop_field, cop_fieldAddr, cop_extract, cop_nilCheck, cop_call, cop_builtin, cop_buildSlice, ev_tmp, ev_const, ev_global, ev_func, put_of, get_of, upd_same, upd_ne, List.toList_toArray, List.map_cons, List.map_nil, some_map, none_map, ti3, ti4]
    with_reducible rfl
  simp only [onN, onB]
  apply W.seq
  refine W.cut (fun fr s => ∃ (h : Nat → Value) (rd' : List Nat), fr = Fr.of 120 h ∧ s = St (n7 + 1) gb 0 rd' [] ∧ (h 7 = .bool true ∧ h 10 = .slice ao1 (inpL c1 ss1 l1).length (inpL c1 ss1 l1).length ∧ h 11 = .slice ao2 (inpL c2 ss2 l2).length (inpL c2 ss2 l2).length ∧ h 12 = .pointer (some (mkA n4 (n4 * 1024 + 0) 0)) ∧ h 13 = .pointer (some (mkA n5 (n5 * 1024 + 0) 0)) ∧ h 14 = .pointer (some (mkA n6 (n6 * 1024 + 0) 0)) ∧ h 15 = .pointer (some (mkA n7 (n7 * 1024 + 0) 0))) ∧ h 16 = .bool (decide ((sha (inpL c1 ss1 l1)).take 16 = (sha (inpL c2 ss2 l2)).take 16))) ?_ ?_
  · skip
    repeat apply W.seq
    apply W.region
    · simp (disch := first | omega | (simp (disch := omega) [ev_tmp, ev_const, get_of, upd_same, upd_ne, Tryd.underlying3, Tryd.underlying9, Tryd.underlying4, Tryd.underlying5, Tryd.underlying22, Tryd.underlying24]; done) | (apply inK_i64; omega) | (apply inK_u64; omega)) only [op_len, cond_true, cond_false, pick_on, stepC_if, goC_true, goC_false, guard_tt, guard_tf, guard_ft, guard_ff, slot_zero, slot_succ, put_some, runC_cons, runC_nil, stepC_free, dstC_dst, dstC_none, thenC_some, cop_assign, cop_move, cop_conv, cop_bin, cop_un, cop_pick, cop_index, cop_indexAddr, cop_load, cop_store, cop_alloc, cop_box, cop_build, cop_slice, cop_s2a, cop_field, cop_fieldAddr, cop_extract, cop_nilCheck, cop_call, cop_builtin, cop_buildSlice, ev_tmp, ev_const, ev_global, ev_func, put_of, get_of, upd_same, upd_ne, List.toList_toArray, List.map_cons, List.map_nil, some_map, none_map, ti3, ti4]
      with_reducible rfl
    simp only [onN, onB]
    repeat apply W.seq
    apply W.block
    refine W.loop (fun m fr s => ∃ (i : Nat) (h : Nat → Value) (rd' : List Nat), i ≤ 16 ∧ m = 16 - i ∧ fr = Fr.of 120 h ∧ s = St (n7 + 1) gb 0 rd' [] ∧ (h 7 = .bool true ∧ h 10 = .slice ao1 (inpL c1 ss1 l1).length (inpL c1 ss1 l1).length ∧ h 11 = .slice ao2 (inpL c2 ss2 l2).length (inpL c2 ss2 l2).length ∧ h 12 = .pointer (some (mkA n4 (n4 * 1024 + 0) 0)) ∧ h 13 = .pointer (some (mkA n5 (n5 * 1024 + 0) 0)) ∧ h 14 = .pointer (some (mkA n6 (n6 * 1024 + 0) 0)) ∧ h 15 = .pointer (some (mkA n7 (n7 * 1024 + 0) 0))) ∧ h 17 = .int .i64 (i : Int) ∧ h 16 = .bool (decide ((sha (inpL c1 ss1 l1)).take i = (sha (inpL c2 ss2 l2)).take i))) ?_ (16 - 0) _ _ ⟨0, _, _, by omega, rfl, rfl, rfl, ⟨?_, ?_, ?_, ?_, ?_, ?_, ?_⟩, ?_, ?_⟩
    case refine_2 => simp (disch := omega) only [upd_same, upd_ne, h7]
    case refine_3 => simp (disch := omega) only [upd_same, upd_ne]
    case refine_4 => simp (disch := omega) only [upd_same, upd_ne]
    case refine_5 => simp (disch := omega) only [upd_same, upd_ne]
    case refine_6 => simp (disch := omega) only [upd_same, upd_ne]
    case refine_7 => simp (disch := omega) only [upd_same, upd_ne]
    case refine_8 => simp (disch := omega) only [upd_same, upd_ne]
    case refine_9 => simp (disch := omega) only [upd_same, upd_ne]; rfl
    case refine_10 => simp (disch := omega) only [upd_same, upd_ne]; rfl
    clear h1 h2 h3 h7 h8
    rintro m fr s ⟨i, h, rd', hi, rfl, rfl, rfl, ⟨h7, h10, h11, h12, h13, h14, h15⟩, h17, h16⟩
    repeat apply W.seq
    apply W.region
    · simp (disch := first | omega | (simp (disch := omega) [ev_tmp, ev_const, get_of, upd_same, upd_ne, h17, Tryd.underlying3, Tryd.underlying9, Tryd.underlying4, Tryd.underlying5, Tryd.underlying22, Tryd.underlying24]; done) | (apply inK_i64; omega) | (apply inK_u64; omega)) only [op_len, cond_true, cond_false, pick_on, stepC_if, goC_true, goC_false, guard_tt, guard_tf, guard_ft, guard_ff, slot_zero, slot_succ, put_some, runC_cons, runC_nil, stepC_free, dstC_dst, dstC_none, thenC_some, cop_assign, cop_move, cop_conv, cop_bin, cop_un, cop_pick, cop_index, cop_indexAddr, cop_load, cop_store, cop_alloc, cop_box, cop_build, cop_slice, cop_s2a, cop_field, cop_fieldAddr, cop_extract, cop_nilCheck, cop_call, cop_builtin, cop_buildSlice, ev_tmp, ev_const, ev_global, ev_func, put_of, get_of, upd_same, upd_ne, List.toList_toArray, List.map_cons, List.map_nil, some_map, none_map, ti3, ti4, h17, oi_lss]
      with_reducible rfl
    simp only [onN, onB]
    by_cases hlt : (i : Int) < 16
    case neg =>
      repeat apply W.seq
      refine W.cond (b := false) ?_ ?_
      · simp (disch := omega) only [ev_tmp, get_of, upd_same, upd_ne, hlt, decide_true, decide_false]
      simp only [cond_true, cond_false]
      apply W.exit
      simp only [onN, onB, Nat.beq_refl, cond_true]
      have hie : i = 16 := by omega
      subst hie
      exact ⟨by first | rfl | trivial, _, _, rfl, rfl, ⟨by simp (disch := omega) only [upd_same, upd_ne, h7], by simp (disch := omega) only [upd_same, upd_ne, h10], by simp (disch := omega) only [upd_same, upd_ne, h11], by simp (disch := omega) only [upd_same, upd_ne, h12], by simp (disch := omega) only [upd_same, upd_ne, h13], by simp (disch := omega) only [upd_same, upd_ne, h14], by simp (disch := omega) only [upd_same, upd_ne, h15]⟩, by simp (disch := omega) only [upd_same, upd_ne, h16]⟩
    repeat apply W.seq
    refine W.cond (b := true) ?_ ?_
    · simp (disch := omega) only [ev_tmp, get_of, upd_same, upd_ne, hlt, decide_true, decide_false]
    simp only [cond_true, cond_false]
    apply W.skip
    simp only [onN, onB]
    have hil : i < 16 := by omega
    repeat apply W.seq
    apply W.block
    repeat apply W.seq
    refine W.last_ex (fun fr s => ∃ (h' : Nat → Value) (rd2 : List Nat), fr = Fr.of 120 h' ∧ s = St (n7 + 1) gb 0 rd2 [] ∧ (h' 7 = .bool true ∧ h' 10 = .slice ao1 (inpL c1 ss1 l1).length (inpL c1 ss1 l1).length ∧ h' 11 = .slice ao2 (inpL c2 ss2 l2).length (inpL c2 ss2 l2).length ∧ h' 12 = .pointer (some (mkA n4 (n4 * 1024 + 0) 0)) ∧ h' 13 = .pointer (some (mkA n5 (n5 * 1024 + 0) 0)) ∧ h' 14 = .pointer (some (mkA n6 (n6 * 1024 + 0) 0)) ∧ h' 15 = .pointer (some (mkA n7 (n7 * 1024 + 0) 0))) ∧ h' 17 = .int .i64 (i : Int) ∧ h' 16 = .bool (decide ((sha (inpL c1 ss1 l1)).take (i + 1) = (sha (inpL c2 ss2 l2)).take (i + 1)))) ?_ ?_ ?_
    · kernel_rfl
    · by_cases hfl : (sha (inpL c1 ss1 l1)).take i = (sha (inpL c2 ss2 l2)).take i
      · rw [decide_eq_true hfl] at h16
        have L1 := ld_one (n := n7 + 1) (lim := n7 + 1) (rd := []) (wr := []) (ti5 axH) rfl (g := gb) (f := n6) (u := n6 * 1024 + 0) (off := 0 + i) (cs := bvs (sha (inpL c1 ss1 l1))) (by rw [t14]; exact rowOf_one) (by rw [Nat.zero_add]; exact bvs_get (by omega))
        rw [ins_lt (show n6 < n7 + 1 by omega)] at L1
        have L2 := ld_one (n := n7 + 1) (lim := n7 + 1) (rd := []) (wr := []) (ti5 axH) rfl (g := gb) (f := n7) (u := n7 * 1024 + 0) (off := 0 + i) (cs := bvs (sha (inpL c2 ss2 l2))) (by rw [t15]; exact rowOf_one) (by rw [Nat.zero_add]; exact bvs_get (by omega))
        rw [ins_lt (show n7 < n7 + 1 by omega)] at L2
        apply Exists.intro
        apply And.intro
        · simp (disch := first | omega | (simp (disch := omega) [ev_tmp, ev_const, get_of, upd_same, upd_ne, h14, h15, h16, h17, Tryd.underlying3, Tryd.underlying9, Tryd.underlying4, Tryd.underlying5, Tryd.underlying22, Tryd.underlying24]; done) | (apply inK_i64; omega) | (apply inK_u64; omega)) only [op_len, cond_true, cond_false, pick_on, stepC_if, goC_true, goC_false, guard_tt, guard_tf, guard_ft, guard_ff, slot_zero, slot_succ, put_some, runC_cons, runC_nil, stepC_free, dstC_dst, dstC_none, thenC_some, cop_assign, cop_move, cop_conv, cop_bin, cop_un, cop_pick, cop_index, cop_indexAddr, cop_load, cop_store, cop_alloc, cop_box, cop_build, cop_slice, cop_s2a, cop_field, cop_fieldAddr, cop_extract, cop_nilCheck, cop_call, cop_builtin, cop_buildSlice, ev_tmp, ev_const, ev_global, ev_func, put_of, get_of, upd_same, upd_ne, List.toList_toArray, List.map_cons, List.map_nil, some_map, none_map, ti3, ti4, quietL_cons, quietL_one, inner_st, thenL_same, thenL_rd, lastL_some, insAll_nil, insAll_cons, h14, h15, h16, h17, natOf_nat, idx_arr (ti24 axH) (ti5 axH) (show i < 32 by omega), L1, L2, bb_eql]
          with_reducible rfl
        · refine ⟨_, _, rfl, rfl, ⟨by simp (disch := omega) only [upd_same, upd_ne, h7], by simp (disch := omega) only [upd_same, upd_ne, h10], by simp (disch := omega) only [upd_same, upd_ne, h11], by simp (disch := omega) only [upd_same, upd_ne, h12], by simp (disch := omega) only [upd_same, upd_ne, h13], by simp (disch := omega) only [upd_same, upd_ne, h14], by simp (disch := omega) only [upd_same, upd_ne, h15]⟩, by simp (disch := omega) only [upd_same, upd_ne, h17], ?_⟩
          simp (disch := omega) only [upd_same, upd_ne, cond_true]
          refine congrArg Value.bool ?_
          apply decide_eq_decide.2
          exact eq_take _ _ i hfl 0 (by omega) (by omega)
      · rw [decide_eq_false hfl] at h16
        apply Exists.intro
        apply And.intro
        · simp (disch := first | omega | (simp (disch := omega) [ev_tmp, ev_const, get_of, upd_same, upd_ne, h16, h17, Tryd.underlying3, Tryd.underlying9, Tryd.underlying4, Tryd.underlying5, Tryd.underlying22, Tryd.underlying24]; done) | (apply inK_i64; omega) | (apply inK_u64; omega)) only [op_len, cond_true, cond_false, pick_on, stepC_if, goC_true, goC_false, guard_tt, guard_tf, guard_ft, guard_ff, slot_zero, slot_succ, put_some, runC_cons, runC_nil, stepC_free, dstC_dst, dstC_none, thenC_some, cop_assign, cop_move, cop_conv, cop_bin, cop_un, cop_pick, cop_index, cop_indexAddr, cop_load, cop_store, cop_alloc, cop_box, cop_build, cop_slice, cop_s2a, cop_field, cop_fieldAddr, cop_extract, cop_nilCheck, cop_call, cop_builtin, cop_buildSlice, ev_tmp, ev_const, ev_global, ev_func, put_of, get_of, upd_same, upd_ne, List.toList_toArray, List.map_cons, List.map_nil, some_map, none_map, ti3, ti4, quietL_cons, quietL_one, inner_st, thenL_same, thenL_rd, lastL_some, insAll_nil, insAll_cons, h16, h17]
          with_reducible rfl
        · refine ⟨_, _, rfl, rfl, ⟨by simp (disch := omega) only [upd_same, upd_ne, h7], by simp (disch := omega) only [upd_same, upd_ne, h10], by simp (disch := omega) only [upd_same, upd_ne, h11], by simp (disch := omega) only [upd_same, upd_ne, h12], by simp (disch := omega) only [upd_same, upd_ne, h13], by simp (disch := omega) only [upd_same, upd_ne, h14], by simp (disch := omega) only [upd_same, upd_ne, h15]⟩, by simp (disch := omega) only [upd_same, upd_ne, h17], ?_⟩
          simp (disch := omega) only [upd_same, upd_ne, cond_true, cond_false]
          refine congrArg Value.bool ?_
          refine (decide_eq_false fun hh => hfl ?_).symm
          have := congrArg (List.take i) hh
          rwa [List.take_take, List.take_take, Nat.min_eq_left (by omega)] at this
    clear h7 h10 h11 h12 h13 h14 h15 h16 h17
    rintro fr s ⟨h, rd2, rfl, rfl, ⟨h7, h10, h11, h12, h13, h14, h15⟩, h17, h16⟩
    simp only [onN, onB]
    repeat apply W.seq
    apply W.region
    · simp (disch := first | omega | (simp (disch := omega) [ev_tmp, ev_const, get_of, upd_same, upd_ne, h17, Tryd.underlying3, Tryd.underlying9, Tryd.underlying4, Tryd.underlying5, Tryd.underlying22, Tryd.underlying24]; done) | (apply inK_i64; omega) | (apply inK_u64; omega)) only [op_len, cond_true, cond_false, pick_on, stepC_if, goC_true, goC_false, guard_tt, guard_tf, guard_ft, guard_ff, slot_zero, slot_succ, put_some, runC_cons, runC_nil, stepC_free, dstC_dst, dstC_none, thenC_some, cop_assign, cop_move, cop_conv, cop_bin, cop_un, cop_pick, cop_index, cop_indexAddr, cop_load, cop_store, cop_alloc, cop_box, cop_build, cop_slice, cop_s2a, cop_field, cop_fieldAddr, cop_extract, cop_nilCheck, cop_call, cop_builtin, cop_buildSlice, ev_tmp, ev_const, ev_global, ev_func, put_of, get_of, upd_same, upd_ne, List.toList_toArray, List.map_cons, List.map_nil, some_map, none_map, ti3, ti4, oi_add, h17]
      with_reducible rfl
    simp only [onN, onB]
    exact ⟨16 - (i + 1), by omega, i + 1, _, _, by omega, rfl, rfl, rfl, ⟨by simp (disch := omega) only [upd_same, upd_ne, h7], by simp (disch := omega) only [upd_same, upd_ne, h10], by simp (disch := omega) only [upd_same, upd_ne, h11], by simp (disch := omega) only [upd_same, upd_ne, h12], by simp (disch := omega) only [upd_same, upd_ne, h13], by simp (disch := omega) only [upd_same, upd_ne, h14], by simp (disch := omega) only [upd_same, upd_ne, h15]⟩, by simp (disch := omega) only [upd_same, upd_ne]; rfl, by simp (disch := omega) only [upd_same, upd_ne, h16]⟩
  clear h1 h2 h3 h7 h8
  rintro fr s ⟨h, rd, rfl, rfl, ⟨h7, h10, h11, h12, h13, h14, h15⟩, h16⟩
  have LD := ld_all (n := n7 + 1) (lim := 0) (rd := rd) (wr := []) (tiD axH) rfl (g := gb) (f := n4) (u := n4 * 1024 + 0) (cs := bvs ((sha (inpL c1 ss1 l1)).take 16)) (by rw [t12]; exact rowOf_one) (d16 _)
  have LE := ld_all (n := n7 + 1) (lim := 0) (rd := rd) (wr := []) (tiD axH) rfl (g := gb) (f := n5) (u := n5 * 1024 + 0) (cs := bvs ((sha (inpL c2 ss2 l2)).take 16)) (by rw [t13]; exact rowOf_one) (d16 _)
  rw [ins_ge (f := n4) _ (by omega)] at LD
  rw [ins_ge (f := n5) _ (by omega)] at LE
  obtain ⟨iu, hiu, hiz⟩ := infU8
  have Q := fun (s : CS) (ρ : Operand → Value) d ty pos t2 x y e g hx hy => oa_eql (Γ := EE axH) (s := s) (ρ := ρ) (d := d) (ty := ty) (pos := pos) (t2 := t2) (x := x) (y := y) (e := e) (g := g) (a := (sha (inpL c1 ss1 l1)).take 16) (b := (sha (inpL c2 ss2 l2)).take 16) Tryd.underlying44 Tryd.underlying5 hiu hiz eqgD (by rw [List.length_take]; omega) (by rw [List.length_take]; omega) hx hy
  have BQ := fun {x y : Operand} (s : CS) (ρ : Operand → Value) d ty pos t2 e g a b hx hy => ob_eql (P := Tryd.prog) (Γ := EE axH) (s := s) (ρ := ρ) (d := d) (ty := ty) (pos := pos) (t2 := t2) (x := x) (y := y) (e := e) (g := g) (a := a) (b := b) hx hy Tryd.underlying4
  repeat apply W.seq
  apply W.region
  · simp (disch := first | omega | (simp (disch := omega) [ev_tmp, ev_const, get_of, upd_same, upd_ne, h7, h10, h11, h12, h13, h16, Tryd.underlying3, Tryd.underlying9, Tryd.underlying4, Tryd.underlying5, Tryd.underlying22, Tryd.underlying24]; done) | (apply inK_i64; omega) | (apply inK_u64; omega)) only [op_len, cond_true, cond_false, pick_on, stepC_if, goC_true, goC_false, guard_tt, guard_tf, guard_ft, guard_ff, slot_zero, slot_succ, put_some, runC_cons, runC_nil, stepC_free, dstC_dst, dstC_none, thenC_some, cop_assign, cop_move, cop_conv, cop_bin, cop_un, cop_pick, cop_index, cop_indexAddr, cop_load, cop_store, cop_alloc, cop_box, cop_build, cop_slice, cop_s2a, cop_field, cop_fieldAddr, cop_extract, cop_nilCheck, cop_call, cop_builtin, cop_buildSlice, ev_tmp, ev_const, ev_global, ev_func, put_of, get_of, upd_same, upd_ne, List.toList_toArray, List.map_cons, List.map_nil, some_map, none_map, ti3, ti4, h7, h10, h11, h12, h13, h16, C1 (n7 + 1) gb _ (by omega) t3, C2 (n7 + 1) gb _ (by omega) t3, os_neq, decide_eq_false hMM, Bool.not_false, LD, LE, Q, BQ, beq_decT]
    with_reducible rfl
  simp only [onN, onB]
  have hz : ((List.take 16 (sha (inpL c1 ss1 l1)) == List.take 16 (sha (inpL c2 ss2 l2))) == decide (List.take 16 (sha (inpL c1 ss1 l1)) = List.take 16 (sha (inpL c2 ss2 l2)))) = true := by
    generalize List.take 16 (sha (inpL c1 ss1 l1)) = a
    generalize List.take 16 (sha (inpL c2 ss2 l2)) = b
    by_cases hh : a = b
    · subst hh; simp
    · have : (a == b) = false := by simpa using hh
      rw [this, decide_eq_false hh]; rfl
  apply W.ret
  refine ⟨.inr rfl, [.bool true], ?_⟩
  apply Exists.intro
  apply And.intro
  · simp (disch := omega) only [resC, Tryd.results8, get_of, upd_same, hz]
    all_goals rfl
  · rfl
end Go.Proofs.YtcmfoipnoejmlaaDoor
