/- The plain machine, eighth part: its operations do what the model's do, one after the other. No program in sight. -/
import Derived.Test.YtcmfoipnoejmlaaDoorCm7
namespace Go.Proofs.YtcmfoipnoejmlaaDoor
open Go Go.RowKit
section
variable {P : Program} {Γ : Env} {σ : Sg} {V : Nat → Prop} {s s' : CS} {w : World} {v : Value}

theorem retC_some {x : Option Value} (h : retC s x = some (v, s')) : x = some v ∧ s' = s := by
  unfold retC at h
  cases x with
  | none => simp at h
  | some y => simp at h; exact ⟨by rw [h.1], h.2.symm⟩
theorem pick_did (hr : Rel σ V s w) {a b c a' b' c' : Value} (h : opPick s a b c = some (v, s')) (ha : VR σ a a') (hb : VR σ b b') (hc : VR σ c c') : Did σ V s w ((do pure (.value (if ← asBool c' then a' else b')) : Sem Next).run P w) v s' := by
  unfold opPick at h
  split at h
  · rename_i t
    simp only [Option.some.injEq, Prod.mk.injEq] at h
    obtain ⟨rfl, rfl⟩ := h
    rw [hc.bool]
    cases t
    · exact Did.same hr (by simp [asBool]) hb
    · exact Did.same hr (by simp [asBool]) ha
  · simp at h
theorem ptrC_some {x : Option (Addr × CS)} (h : ptrC x = some (v, s')) : ∃ a, x = some (a, s') ∧ v = .pointer (some a) := by
  unfold ptrC at h
  cases x with
  | none => simp at h
  | some p => obtain ⟨a, s1⟩ := p; simp at h; exact ⟨a, by rw [h.2], h.1.symm⟩
theorem sliceC_some {x : Option (Addr × CS)} {len cap : Nat} (h : sliceC len cap x = some (v, s')) : ∃ a, x = some (a, s') ∧ v = .slice (some a) len cap := by
  unfold sliceC at h
  cases x with
  | none => simp at h
  | some p => obtain ⟨a, s1⟩ := p; simp at h; exact ⟨a, by rw [h.2], h.1.symm⟩
/-- a variable is laid -/
theorem newVar_did (hr : Rel σ V s w) (hF : Fresh σ s.n s'.n) {cs : List Value} {x : Value} {t : TypeId} (h : ptrC (s.newRow 0 cs) = some (v, s')) (hx : RL (VR σ) cs x.cells.toList) : DidV σ V s w ((do pure (.pointer (some (← newVar t x))) : Sem Value).run P w) v s' := by
  obtain ⟨a, h1, rfl⟩ := ptrC_some h
  obtain ⟨rfl, _, h3, h4, h5⟩ := newRow_rel (w0 := w) h1 hr hF (by decide) ⟨rfl, rfl, rfl, rfl⟩ x.cells t (0, 0) (by intro j _; simp) x.cells.toList [] (by simp) hx
  refine ⟨_, _, .pointer (some ⟨w.heap.size, 0, none⟩), ?_, VR.ofPtr h5, h3, h4⟩
  simp [newVar, newRow]
theorem alloc_did (hE : EnvOk P Γ) (hr : Rel σ V s w) (hF : Fresh σ s.n s'.n) {e : TypeId} (h : opAlloc Γ s e = some (v, s')) : DidV σ V s w ((Instr.alloc e true (.tuple #[])).run P w) v s' := by
  unfold opAlloc at h
  cases hi : Γ.ti.at e with
  | none => rw [hi] at h; simp at h
  | some i =>
    rw [hi] at h
    simp only at h
    have hti := hE.ti _ _ hi
    obtain ⟨z, hz1, _, hz2⟩ := run_zero' hti
    have := newVar_did (P := P) (t := e) (x := z) hr hF h (by rw [hz1]; exact hti.refl σ)
    unfold Instr.alloc
    simp only [Sem.run_bind, hz2, Result.andThen_ok]
    simpa using this
theorem box_did (hr : Rel σ V s w) (hF : Fresh σ s.n s'.n) {e : TypeId} {x x' : Value} (h : ptrC (s.newRow 0 x.cells.toList) = some (v, s')) (hx : VR σ x x') : DidV σ V s w ((Instr.box e x').run P w) v s' :=
  newVar_did (P := P) (t := e) hr hF h hx.cells
theorem load_did (hE : EnvOk P Γ) (hr : Rel σ V s w) (hV : Covers V s') {t : TypeId} {x x' : Value} (h : opLoad Γ s t x = some (v, s')) (hx : VR σ x x') : DidV σ V s w ((Instr.loadAt t x').run P w) v s' := by
  unfold opLoad at h
  split at h
  · rename_i a
    cases hi : Γ.ti.at t with
    | none => rw [hi] at h; simp at h
    | some i =>
      rw [hi] at h
      obtain ⟨b, o, z, h1, rfl⟩ := hx.ptr
      have := loadVar_did hE hr hi h hV h1
      unfold Instr.loadAt
      simpa [Instr.sureAddr] using this
  · simp at h
theorem store_did (hE : EnvOk P Γ) (hr : Rel σ V s w) (hV : Covers V s') {t : TypeId} {x x' y y' : Value} (h : opStore Γ s t y.cells.toList x = some (v, s')) (hx : VR σ x x') (hy : VR σ y y') : Did σ V s w ((do Instr.storeAt t x' y'; pure .skip : Sem Next).run P w) v s' := by
  unfold opStore at h
  split at h
  · rename_i a
    cases hi : Γ.ti.at t with
    | none => rw [hi] at h; simp at h
    | some i =>
      rw [hi] at h
      simp only at h
      cases hb : Nat.beq y.cells.toList.length i.size with
      | false => rw [hb] at h; simp at h
      | true =>
        rw [hb] at h
        simp only [cond_true] at h
        cases hw : s.write a y.cells.toList with
        | none => rw [hw] at h; simp [doneC] at h
        | some s1 =>
          rw [hw] at h
          simp only [doneC, Option.some.injEq, Prod.mk.injEq] at h
          obtain ⟨rfl, rfl⟩ := h
          obtain ⟨b, o, z, h1, rfl⟩ := hx.ptr
          have hl := hy.cells
          obtain ⟨e1, e2, e3, e4, e5⟩ := write_rel hw hr hV h1 hl
          have hlen : y'.cells.size = i.size := by rw [← Array.length_toList, ← hl.length]; exact Nat.eq_of_beq_eq_true hb
          have hst := run_storeCells_cells (P := P) b (o + a.off) y'.cells.toList 0 w (by simpa using e1) (by simpa using e2) e3
          refine ⟨σ, _, .skip, undef, ?_, .inr ⟨rfl, rfl⟩, VR.undef, e4, e5⟩
          simp only [Nat.add_zero] at hst
          simp [Instr.storeAt, Instr.sureAddr, storeVar, run_sizeOf' (hE.ti _ _ hi), hlen, hst]
  · simp at h
theorem nilCheck_did (hr : Rel σ V s w) {ρ' : Operand → Value} {o : Oper} {x : Operand} (ho : o.op = .nilCheck x) {y : Value} (h : opNilCheck s y = some (v, s')) (hx : VR σ y (ρ' x)) : Did σ V s w ((execOp ρ' o).run P w) v s' := by
  unfold opNilCheck at h
  split at h
  · simp only [Option.some.injEq, Prod.mk.injEq] at h
    obtain ⟨rfl, rfl⟩ := h
    have hx2 := hx
    obtain ⟨b, o', z, _, he⟩ := hx.ptr
    rw [he] at hx2
    exact Did.same hr (by simp [execOp, ho, he]) hx2
  · simp only [Option.some.injEq, Prod.mk.injEq] at h
    obtain ⟨rfl, rfl⟩ := h
    have hx2 := hx
    obtain ⟨xs', ys', he, _⟩ := hx.out
    rw [he] at hx2
    exact Did.same hr (by simp [execOp, ho, he]) hx2
  · simp at h
theorem makeI_did (hE : EnvOk P Γ) (hr : Rel σ V s w) {t : TypeId} {x x' : Value} (h : opMakeI Γ s t x = some (v, s')) (hx : VR σ x x') : DidV σ V s w ((Instr.makeInterface t x').run P w) v s' := by
  unfold opMakeI at h
  cases hi : Γ.ti.at t with
  | none => rw [hi] at h; simp at h
  | some i =>
    rw [hi] at h
    simp only at h
    have hu := (hE.ti _ _ hi).und
    split at h
    · simp at h
    · rename_i d hd
      simp only [Option.some.injEq, Prod.mk.injEq] at h
      obtain ⟨rfl, rfl⟩ := h
      refine DidV.same hr ?_ (VR.mk ⟨x', rfl, hx⟩)
      unfold Instr.makeInterface
      simp only [Sem.run_bind, run_underlying hu, Result.andThen_ok]
      rfl
theorem s2a_did (hE : EnvOk P Γ) (hr : Rel σ V s w) {t : TypeId} {x x' : Value} (h : opS2A Γ s t x = some (v, s')) (hx : VR σ x x') : DidV σ V s w ((Instr.arrayAt t x').run P w) v s' := by
  unfold opS2A at h
  split at h
  · rename_i a len cap
    cases hi : Γ.ti.at t with
    | none => rw [hi] at h; simp at h
    | some i =>
      rw [hi] at h
      simp only at h
      split at h
      · rename_i n e hd
        cases hb : (Nat.ble n len && Nat.blt 0 n) with
        | false => rw [hb] at h; simp at h
        | true =>
          rw [hb] at h
          simp only [cond_true, Option.some.injEq, Prod.mk.injEq] at h
          obtain ⟨rfl, rfl⟩ := h
          simp only [Bool.and_eq_true] at hb
          have h1 := ble_iff.1 hb.1
          have h2 := blt_iff.1 hb.2
          have hu := (hE.ti _ _ hi).und
          rw [hd] at hu
          cases a with
          | none =>
            obtain ⟨rfl, _, _⟩ := hx.out
            omega
          | some a =>
            obtain ⟨b, o, z, hσ, a', c', rfl, h3, h4, h5, h6, _⟩ := hx.out
            have := h6 (by omega)
            subst this
            refine DidV.same hr ?_ (VR.ofPtr hσ)
            simp [Instr.arrayAt, run_underlying hu, show ¬ len < n by omega]
      · simp at h
  · simp at h
theorem fieldAddr_did (hE : EnvOk P Γ) (hr : Rel σ V s w) {t : TypeId} {k : Nat} {x x' : Value} (h : opFieldAddr Γ s t k x = some (v, s')) (hx : VR σ x x') : DidV σ V s w ((Instr.fieldAt t x' k).run P w) v s' := by
  unfold opFieldAddr at h
  split at h
  · rename_i a
    cases hi : Γ.ti.at t with
    | none => rw [hi] at h; simp at h
    | some i =>
      rw [hi] at h
      simp only at h
      split at h
      · rename_i fs hd
        have hu := (hE.ti _ _ hi).und
        rw [hd] at hu
        cases hp : placeS Γ fs k with
        | none => rw [hp] at h; simp at h
        | some p =>
          obtain ⟨off, size⟩ := p
          rw [hp] at h
          simp only at h
          cases hb : Nat.beq size 0 with
          | true => rw [hb] at h; simp at h
          | false =>
            rw [hb] at h
            simp only [cond_false, Option.some.injEq, Prod.mk.injEq] at h
            obtain ⟨rfl, rfl⟩ := h
            have hs0 : size ≠ 0 := by rintro rfl; simp at hb
            unfold placeS at hp
            cases hf : fs[k]? with
            | none => rw [hf] at hp; simp at hp
            | some f =>
              rw [hf] at hp
              simp only at hp
              cases hj : Γ.ti.at f.type with
              | none => rw [hj] at hp; simp at hp
              | some j =>
                rw [hj] at hp
                simp only [Option.some.injEq, Prod.mk.injEq] at hp
                obtain ⟨rfl, rfl⟩ := hp
                obtain ⟨b, o, z, hσ, rfl⟩ := hx.ptr
                have : VR σ (.pointer (some (Addr.plus a f.offset))) (.pointer (some ⟨b, o + (a.off + f.offset), none⟩)) := VR.mk ⟨b, o, z, hσ, rfl⟩
                refine DidV.same hr ?_ this
                simp [Instr.fieldAt, run_underlying hu, hf, Instr.sureAddr, fieldPlace, run_sizeOf' (hE.ti _ _ hj), hs0, Addr.add_lit, Nat.add_assoc]
      · simp at h
  · simp at h
theorem field_did (hE : EnvOk P Γ) (hr : Rel σ V s w) {t : TypeId} {k : Nat} {x x' : Value} (h : opField Γ s t k x = some (v, s')) (hx : VR σ x x') : DidV σ V s w ((Instr.field t x' k).run P w) v s' := by
  unfold opField at h
  split at h
  · rename_i cs
    cases hi : Γ.ti.at t with
    | none => rw [hi] at h; simp at h
    | some i =>
      rw [hi] at h
      simp only at h
      split at h
      · rename_i fs hd
        have hu := (hE.ti _ _ hi).und
        rw [hd] at hu
        cases hf : fs[k]? with
        | none => rw [hf] at h; simp at h
        | some f =>
          rw [hf] at h
          simp only at h
          cases hj : Γ.ti.at f.type with
          | none => rw [hj] at h; simp at h
          | some j =>
            rw [hj] at h
            obtain ⟨hp, rfl⟩ := retC_some h
            obtain ⟨xs', rfl, hl⟩ := hx.agg
            obtain ⟨v', h1, h2⟩ := partC_part (P := P) (w := w) (hE.ti _ _ hj) hp hl
            refine DidV.same hr ?_ h2
            simp [Instr.field, run_underlying hu, hf, asAgg, h1]
      · simp at h
  · simp at h
end
end Go.Proofs.YtcmfoipnoejmlaaDoor
