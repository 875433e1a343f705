/- The plain machine, tenth part: literals, make. No program in sight. -/
import Derived.Test.YtcmfoipnoejmlaaDoorCm9
namespace Go.Proofs.YtcmfoipnoejmlaaDoor
open Go Go.RowKit
theorem splice_cons {cs : List Value} {off : Nat} {x : Value} {l : List Value} (h : off + (l.length + 1) ≤ cs.length) : splice (cs.set off x) (off + 1) l = splice cs off (x :: l) := by
  apply List.ext_getElem?
  intro j
  rw [splice_at (by simp; omega), splice_at (by simp; omega)]
  by_cases h1 : j = off
  · subst h1
    rw [if_neg (by omega), if_pos (by simp)]
    simp only [Nat.sub_self, List.getElem?_cons_zero]
    rw [List.getElem?_set_self (by omega)]
  · by_cases h2 : off < j ∧ j < off + 1 + l.length
    · rw [if_pos ⟨by omega, by omega⟩, if_pos ⟨by omega, by simp; omega⟩]
      rw [show j - off = (j - (off + 1)) + 1 by omega, List.getElem?_cons_succ]
    · rw [if_neg (by omega), if_neg (by simp; omega), List.getElem?_set_ne (by omega)]
theorem fold_splice (off : Nat) : ∀ (l : List Value) (k : Nat) (cs : Array Value), off + k + l.length ≤ cs.size → ((l.zipIdx k).foldl (fun cs (p : Value × Nat) => cs.setIfInBounds (off + p.2) p.1) cs).toList = splice cs.toList (off + k) l
  | [], k, cs, h => by
    unfold splice
    simp
  | x :: l, k, cs, h => by
    simp only [List.zipIdx_cons, List.foldl_cons]
    simp only [List.length_cons] at h
    rw [fold_splice off l (k + 1) _ (by simp; omega), Array.toList_setIfInBounds, show off + (k + 1) = off + k + 1 by omega, splice_cons (by simp; omega)]
theorem fold_splice' {off : Nat} {v : Value} {cs : Array Value} (h : off + v.cells.size ≤ cs.size) : (v.cells.zipIdx.foldl (fun cs (x : Value × Nat) => cs.setIfInBounds (off + x.2) x.1) cs).toList = splice cs.toList off v.cells.toList := by
  rw [← Array.foldl_toList]
  simp only [Array.toList_zipIdx]
  have := fold_splice off v.cells.toList 0 cs (by simpa using h)
  simpa using this
theorem RL.splice {R : Value → Value → Prop} {a b x y : List Value} (h : RL R a b) (k : RL R x y) (off : Nat) : RL R (splice a off x) (splice b off y) := by
  unfold Go.Proofs.YtcmfoipnoejmlaaDoor.splice
  rw [k.length]
  exact ((h.take off).append k).append (h.drop _)
section
variable {P : Program} {Γ : Env} {σ : Sg} {V : Nat → Prop} {s s' : CS} {w : World} {v : Value}

theorem fill_rel {place place' : Nat → Option (Nat × Nat)} (hp : ∀ k p, place k = some p → place' k = some p) {ρ ρ' : Operand → Value} :
    ∀ (parts : List (Nat × Operand)) (l : List (Nat × List Value)) (cells : List Value) (cells' : Array Value) (r : List Value), (∀ p, p ∈ parts → VR σ (ρ p.2) (ρ' p.2)) → partsOf place ρ parts = some l → fillC cells l = some r → RL (VR σ) cells cells'.toList →
      ∃ r', Instr.fill place' cells' (parts.map fun (i, x) => (i, ρ' x)) = some r' ∧ RL (VR σ) r r'.toList
  | [], l, cells, cells', r, _, h, hf, hl => by
    simp only [partsOf, Option.some.injEq] at h
    subst h
    simp only [fillC, Option.some.injEq] at hf
    subst hf
    exact ⟨cells', rfl, hl⟩
  | (k, x) :: parts, l, cells, cells', r, hρ, h, hf, hl => by
    simp only [partsOf] at h
    cases hk : place k with
    | none => rw [hk] at h; simp at h
    | some p =>
      obtain ⟨off, size⟩ := p
      cases hq : partsOf place ρ parts with
      | none => rw [hk, hq] at h; simp at h
      | some l1 =>
        rw [hk, hq] at h
        simp only at h
        cases hb : Nat.beq (ρ x).cells.toList.length size with
        | false => rw [hb] at h; simp at h
        | true =>
          rw [hb] at h
          simp only [cond_true, Option.some.injEq] at h
          subst h
          simp only [fillC] at hf
          cases hc : Nat.ble (off + (ρ x).cells.toList.length) cells.length with
          | false => rw [hc] at hf; simp at hf
          | true =>
            rw [hc] at hf
            simp only [cond_true] at hf
            have hx := (hρ (k, x) (by simp)).cells
            have h1 := ble_iff.1 hc
            have h2 := Nat.eq_of_beq_eq_true hb
            have h3 := hx.length
            have h4 := hl.length
            have h5 : (ρ' x).cells.size = size := by rw [← Array.length_toList, ← h3]; exact h2
            have h6 : off + (ρ' x).cells.size ≤ cells'.size := by rw [← Array.length_toList, ← h3, ← Array.length_toList (xs := cells'), ← h4]; exact h1
            have hs := fold_splice' (off := off) (v := ρ' x) (cs := cells') h6
            obtain ⟨r', e1, e2⟩ := fill_rel hp parts l1 _ ((ρ' x).cells.zipIdx.foldl (fun cs (x : Value × Nat) => cs.setIfInBounds (off + x.2) x.1) cells') r (fun p hp2 => hρ p (by simp [hp2])) hq hf (by rw [hs]; exact hl.splice hx off)
            refine ⟨r', ?_, e2⟩
            simp only [List.map_cons, Instr.fill, hp _ _ hk]
            rw [if_neg (by simp [h5]; rw [h5] at h6; exact h6)]
            exact e1
theorem place_all : ∀ (fs : List Field), (fs.all fun f => (Γ.ti.at f.type).isSome) = true → EnvOk P Γ → ∃ places, fs.mapM (fun f => (P.info? f.type).map fun i => (f.offset, i.size)) = some places ∧
    ∀ (k : Nat) (f : Field) (j : TI), fs[k]? = some f → Γ.ti.at f.type = some j → places[k]? = some (f.offset, j.size)
  | [], _, _ => ⟨[], rfl, fun k f j h => by simp at h⟩
  | f :: fs, h, hE => by
    simp only [List.all_cons, Bool.and_eq_true] at h
    obtain ⟨places, h1, h2⟩ := place_all fs h.2 hE
    obtain ⟨j, hj⟩ := Option.isSome_iff_exists.1 h.1
    obtain ⟨i, z, hi, hs, _⟩ := (hE.ti _ _ hj).info
    refine ⟨(f.offset, i.size) :: places, by simp [List.mapM_cons, hi, h1], ?_⟩
    intro k f' j' hf hj'
    cases k with
    | zero =>
      simp only [List.getElem?_cons_zero, Option.some.injEq] at hf
      subst hf
      rw [hj] at hj'
      cases hj'
      simp [hs]
    | succ k =>
      simp only [List.getElem?_cons_succ] at hf ⊢
      exact h2 k f' j' hf hj'
theorem aggC_some {x : Option (List Value)} (h : aggC s x = some (v, s')) : ∃ cs, x = some cs ∧ v = .agg cs.toArray ∧ s' = s := by
  unfold aggC at h
  cases x with
  | none => simp at h
  | some cs => simp at h; exact ⟨cs, rfl, h.1.symm, h.2.symm⟩
theorem buildC_some {zero : List Value} {l : Option (List (Nat × List Value))} {cs : List Value} (h : buildC zero l = some cs) : ∃ l', l = some l' ∧ fillC zero l' = some cs := by
  unfold buildC at h
  cases l with
  | none => simp at h
  | some l => exact ⟨l, rfl, h⟩
theorem parts_list (parts : Array (Nat × Operand)) (ρ : Operand → Value) : (parts.map fun (i, x) => (i, ρ x)).toList = parts.toList.map fun (i, x) => (i, ρ x) := by simp
theorem build_did (hE : EnvOk P Γ) (hr : Rel σ V s w) {t : TypeId} {parts : Array (Nat × Operand)} {ρ ρ' : Operand → Value} (h : opBuild Γ s ρ t parts.toList = some (v, s')) (hρ : ∀ p, p ∈ parts.toList → VR σ (ρ p.2) (ρ' p.2)) :
    DidV σ V s w ((Instr.build t (parts.map fun (i, x) => (i, ρ' x))).run P w) v s' := by
  unfold opBuild at h
  cases hi : Γ.ti.at t with
  | none => rw [hi] at h; simp at h
  | some i =>
    rw [hi] at h
    simp only at h
    have hti := hE.ti _ _ hi
    obtain ⟨it, z, g1, g2, g3, g4, g5, g6⟩ := hti.info
    have hz0 : RL (VR σ) i.zero z.cells.toList := by rw [g5]; exact hti.refl σ
    split at h
    · rename_i fs hd
      have hu := hti.und
      rw [hd] at hu
      rw [sel_eq] at h
      split at h
      · rename_i hall
        obtain ⟨cs, h1, rfl, rfl⟩ := aggC_some h
        obtain ⟨l, h2, h3⟩ := buildC_some h1
        obtain ⟨places, p1, p2⟩ := place_all (P := P) fs.toList hall hE
        obtain ⟨r', f1, f2⟩ := fill_rel (place' := (places.toArray[·]?)) (fun k p hk => by
          unfold placeS at hk
          cases hf : fs[k]? with
          | none => rw [hf] at hk; simp at hk
          | some f =>
            rw [hf] at hk
            simp only at hk
            cases hj : Γ.ti.at f.type with
            | none => rw [hj] at hk; simp at hk
            | some j =>
              rw [hj] at hk
              simp only [Option.some.injEq] at hk
              subst hk
              simp only [List.getElem?_toArray]
              exact p2 k f j (by rw [Array.getElem?_toList]; exact hf) hj) parts.toList l i.zero z.cells cs hρ h2 h3 hz0
        refine DidV.same hr (run_build w t _ r' ?_) (VR.mk ⟨r', rfl, by simpa using f2⟩)
        simp only [Program.built, g1, hu, g4, p1, parts_list]
        exact f1
      · simp at h
    · rename_i n e hd
      have hu := hti.und
      rw [hd] at hu
      cases hj : Γ.ti.at e with
      | none => rw [hj] at h; simp at h
      | some j =>
        rw [hj] at h
        obtain ⟨cs, h1, rfl, rfl⟩ := aggC_some h
        obtain ⟨l, h2, h3⟩ := buildC_some h1
        obtain ⟨ie, ze, e1, e2, _⟩ := (hE.ti _ _ hj).info
        obtain ⟨r', f1, f2⟩ := fill_rel (place' := fun i => some (i * ie.size, ie.size)) (fun k p hk => by unfold placeA at hk; rw [e2]; exact hk) parts.toList l i.zero z.cells cs hρ h2 h3 hz0
        refine DidV.same hr (run_build w t _ r' ?_) (VR.mk ⟨r', rfl, by simpa using f2⟩)
        simp only [Program.built, g1, hu, g4, e1, parts_list]
        exact f1
    · simp at h
theorem made_flat (z : Array Value) (m : Nat) (hm : z.size = m) (h0 : 0 < m) : ∀ n : Nat, ((Array.range (n * m)).map (z[· % m]!)).toList = (List.replicate n z.toList).flatten := by
  intro n
  induction n with
  | zero => simp
  | succ n ih =>
    apply List.ext_getElem?
    intro j
    rw [List.replicate_succ, List.flatten_cons, ← ih]
    simp only [Array.toList_map, Array.toList_range, List.getElem?_map]
    by_cases h1 : j < m
    · rw [List.getElem?_append_left (by simp; omega), List.getElem?_range (by rw [Nat.add_mul]; omega)]
      simp only [Option.map_some, Nat.mod_eq_of_lt h1]
      rw [Array.getElem?_toList, Array.getElem?_eq_getElem (by omega), getElem!_pos z j (by omega)]
    · rw [List.getElem?_append_right (by simp; omega)]
      simp only [Array.length_toList, hm]
      rw [List.getElem?_map]
      by_cases h2 : j < (n + 1) * m
      · rw [List.getElem?_range h2, List.getElem?_range (by rw [Nat.add_mul] at h2; omega)]
        simp only [Option.map_some]
        rw [← Nat.mod_eq_sub_mod (by omega)]
      · rw [List.getElem?_eq_none (by simp; omega), List.getElem?_eq_none (by simp; rw [Nat.add_mul] at h2; omega)]
theorem elem_some {t : TypeId} {j : TI} (hE : EnvOk P Γ) (h : elemOf? Γ t = some j) : ∃ e, P.underlying t = some (.slice e) ∧ TIOk P e j := by
  unfold elemOf? at h
  cases hi : Γ.ti.at t with
  | none => rw [hi] at h; simp at h
  | some i =>
    rw [hi] at h
    simp only at h
    split at h
    · rename_i e hd
      have hu := (hE.ti _ _ hi).und
      rw [hd] at hu
      exact ⟨e, hu, hE.ti _ _ h⟩
    · simp at h
theorem RL.flat {R : Value → Value → Prop} {a b : List Value} (h : RL R a b) : ∀ n, RL R (List.replicate n a).flatten (List.replicate n b).flatten
  | 0 => trivial
  | n + 1 => by simp only [List.replicate_succ, List.flatten_cons]; exact h.append (RL.flat h n)
theorem buildSlice_did (hE : EnvOk P Γ) (hr : Rel σ V s w) (hF : Fresh σ s.n s'.n) {t : TypeId} {n : Nat} {parts : Array (Nat × Operand)} {ρ ρ' : Operand → Value} (h : opBuildSlice Γ s ρ t n parts.toList = some (v, s')) (hρ : ∀ p, p ∈ parts.toList → VR σ (ρ p.2) (ρ' p.2)) :
    DidV σ V s w ((Instr.buildSlice t n (parts.map fun (i, x) => (i, ρ' x))).run P w) v s' := by
  unfold opBuildSlice at h
  cases hi : elemOf? Γ t with
  | none => rw [hi] at h; simp at h
  | some j =>
    rw [hi] at h
    simp only at h
    obtain ⟨e, hu, hti⟩ := elem_some hE hi
    cases hb : (Nat.ble (n * j.size) 16777216 && Nat.blt 0 j.size) with
    | false => rw [hb] at h; simp at h
    | true =>
      rw [hb] at h
      simp only [cond_true] at h
      rw [Bool.and_eq_true] at hb
      have hn1 := ble_iff.1 hb.1
      have hn2 := blt_iff.1 hb.2
      cases hc : buildC (List.replicate n j.zero).flatten (partsOf (placeA j.size) ρ parts.toList) with
      | none => rw [hc] at h; simp at h
      | some cs =>
        rw [hc] at h
        obtain ⟨a, h1, rfl⟩ := sliceC_some h
        obtain ⟨l, h2, h3⟩ := buildC_some hc
        obtain ⟨ie, z, g1, g2, g3, g4, g5, g6⟩ := hti.info
        have hzs : z.cells.size = j.size := by rw [← Array.length_toList, g5]; exact hti.len
        have hmade := made_flat z.cells j.size hzs hn2 n
        have hz0 : RL (VR σ) (List.replicate n j.zero).flatten ((Array.range (n * j.size)).map (z.cells[· % j.size]!)).toList := by rw [hmade, g5]; exact (hti.refl σ).flat n
        obtain ⟨r', f1, f2⟩ := fill_rel (place' := fun i => some (i * ie.size, ie.size)) (fun k p hk => by unfold placeA at hk; rw [g2]; exact hk) parts.toList l _ _ cs hρ h2 h3 hz0
        have hlen : cs.length ≤ 16777216 := by
          have h5 : ∀ (l : List (Nat × List Value)) (c r : List Value), fillC c l = some r → r.length = c.length := by
            intro l
            induction l with
            | nil => intro c r h; simp [fillC] at h; rw [h]
            | cons p l ih =>
              intro c r h
              simp only [fillC] at h
              cases hq : Nat.ble (p.1 + p.2.length) c.length with
              | false => rw [hq] at h; simp at h
              | true =>
                rw [hq] at h
                rw [ih _ _ h, splice_length (ble_iff.1 hq)]
          rw [h5 _ _ _ h3, hz0.length]
          simpa using hn1
        obtain ⟨rfl, _, e3, e4, e5⟩ := newRow_rel (w0 := w) h1 hr hF (by decide) ⟨rfl, rfl, rfl, rfl⟩ r' e (0, 0) (by intro j _; simp) r'.toList [] (by simp) f2
        refine ⟨_, _, .slice (some ⟨w.heap.size, 0, none⟩) n n, ?_, VR.mk ⟨_, _, _, e5, _, n, rfl, Nat.le_refl _, Nat.le_refl _, ?_, fun _ => rfl, fun _ => rfl, ?_⟩, e3, e4⟩
        · by_cases hn0 : n = 0
          · subst hn0
            have f1' : Instr.fill (fun i => some (i * ie.size, ie.size)) #[] (List.map (fun x => (x.fst, ρ' x.snd)) parts.toList) = some r' := by
              rw [← f1]
              simp [Array.range_zero']
            simp [Instr.buildSlice, run_underlying hu, sizeOf, typeInfo, g1, newRow, Array.range_zero', f1']
          · refine run_buildSlice w t e n _ r' ie z hu g1 g4 (by rw [g2]; omega) (by rw [g2]; intro h0; rcases Nat.mul_eq_zero.1 h0 with h0 | h0 <;> omega) ?_
            rw [parts_list, hzs, g2]
            rw [g2] at f1
            exact f1
        · have : n ≤ n * j.size := Nat.le_mul_of_pos_right n hn2
          unfold maxLen; omega
        · intro h0
          exfalso
          apply h0
          show (s.n * 1024 + 0) % 1024 = 0
          omega
theorem makeSlice_did (hE : EnvOk P Γ) (hr : Rel σ V s w) (hF : Fresh σ s.n s'.n) {t : TypeId} {x x' y y' : Value} (h : opMakeSlice Γ s t (natOf x) (natOf y) = some (v, s')) (hx : VR σ x x') (hy : VR σ y y') :
    DidV σ V s w ((Instr.makeSlice t x' y').run P w) v s' := by
  unfold opMakeSlice at h
  split at h
  · rename_i j l c hi hl hc
    obtain ⟨e, hu, hti⟩ := elem_some hE hi
    obtain ⟨k1, rfl⟩ := natOf_some hl
    obtain ⟨k2, rfl⟩ := natOf_some hc
    obtain rfl := hx.int
    obtain rfl := hy.int
    cases hb : (Nat.ble l c && Nat.ble (c * (j.bytes + 1)) 1000000000 && Nat.blt 0 j.size) with
    | false => rw [hb] at h; simp at h
    | true =>
      rw [hb] at h
      simp only [cond_true] at h
      simp only [Bool.and_eq_true] at hb
      have h1 := ble_iff.1 hb.1.1
      have h2 := ble_iff.1 hb.1.2
      have h3 := blt_iff.1 hb.2
      obtain ⟨a, h4, rfl⟩ := sliceC_some h
      obtain ⟨ie, z, g1, g2, g3, g4, g5, g6⟩ := hti.info
      have hzs : z.cells.size = j.size := by rw [← Array.length_toList, g5]; exact hti.len
      have hmade := made_flat z.cells j.size hzs h3 c
      have hcm : c ≤ c * (j.bytes + 1) := Nat.le_mul_of_pos_right c (by omega)
      have hbm : j.bytes * c ≤ 1000000000 := by rw [Nat.mul_add, Nat.mul_comm c] at h2; omega
      have hr1 := run_make (P := P) w t e ie z hu g1 g4 k1 k2 l c (by omega) (by omega) (by rw [g3, ← Int.natCast_mul]; omega) (by omega)
      simp only [Int.toNat_natCast] at hr1
      have hcells : (madeCells z.cells (c * ie.size)).toList = (List.replicate c z.cells.toList).flatten := by unfold madeCells; rw [g2, hzs]; exact hmade
      obtain ⟨rfl, _, e3, e4, e5⟩ := newRow_rel (w0 := w) h4 hr hF (by decide) ⟨rfl, rfl, rfl, rfl⟩ (madeCells z.cells (c * ie.size)) e (0, 0) (by intro j _; simp) _ [] (by rw [hcells, List.append_nil]) (by rw [g5]; exact (hti.refl σ).flat c)
      refine ⟨_, _, _, hr1, VR.mk ⟨_, _, _, e5, _, c, rfl, h1, Nat.le_refl _, by unfold maxLen; omega, fun _ => rfl, fun _ => rfl, ?_⟩, e3, e4⟩
      intro h0
      exfalso
      apply h0
      show (s.n * 1024 + 0) % 1024 = 0
      omega
  · simp at h
end
end Go.Proofs.YtcmfoipnoejmlaaDoor
