/- The plain machine, ninth part: indexes, slices, literals. No program in sight. -/
import Derived.Test.YtcmfoipnoejmlaaDoorCm8
namespace Go.Proofs.YtcmfoipnoejmlaaDoor
open Go Go.RowKit
section
variable {P : Program} {Γ : Env} {σ : Sg} {V : Nat → Prop} {s s' : CS} {w : World} {v : Value}

theorem stepA_some {size k n : Nat} {a : Addr} (h : stepA s size k n a = some (v, s')) : k < n ∧ v = .pointer (some (Addr.plus a (k * size))) ∧ s' = s := by
  unfold stepA at h
  cases hb : Nat.blt k n with
  | false => rw [hb] at h; simp at h
  | true => rw [hb] at h; simp at h; exact ⟨blt_iff.1 hb, h.1.symm, h.2.symm⟩
theorem indexAddr_did (hE : EnvOk P Γ) (hr : Rel σ V s w) {t : TypeId} {x x' y y' : Value} (h : opIndexAddr Γ s t x (natOf y) = some (v, s')) (hx : VR σ x x') (hy : VR σ y y') : DidV σ V s w ((Instr.indexAt t x' y').run P w) v s' := by
  unfold opIndexAddr at h
  cases hi : Γ.ti.at t with
  | none => rw [hi] at h; simp at h
  | some i =>
    cases hk : natOf y with
    | none => rw [hi, hk] at h; simp at h
    | some k =>
      rw [hi, hk] at h
      simp only at h
      obtain ⟨kk, rfl⟩ := natOf_some hk
      obtain rfl := hy.int
      have hti := hE.ti _ _ hi
      split at h
      · rename_i a
        split at h
        · rename_i n e hd
          have hu := hti.und
          rw [hd] at hu
          cases hj : Γ.ti.at e with
          | none => rw [hj] at h; simp at h
          | some j =>
            rw [hj] at h
            obtain ⟨h1, rfl, rfl⟩ := stepA_some h
            obtain ⟨b, o, z, hσ, rfl⟩ := hx.ptr
            have : VR σ (.pointer (some (Addr.plus a (k * j.size)))) (.pointer (some ⟨b, o + (a.off + k * j.size), none⟩)) := VR.mk ⟨b, o, z, hσ, rfl⟩
            refine DidV.same hr ?_ this
            simp [Instr.indexAt, asIntOf, run_underlying hu, Instr.sureAddr, run_sizeOf' (hE.ti _ _ hj), h1, Addr.add_lit, Nat.add_assoc]
        · simp at h
      · rename_i a n c
        split at h
        · rename_i e hd
          have hu := hti.und
          rw [hd] at hu
          cases hj : Γ.ti.at e with
          | none => rw [hj] at h; simp at h
          | some j =>
            rw [hj] at h
            obtain ⟨h1, rfl, rfl⟩ := stepA_some h
            obtain ⟨b, o, z, hσ, a', c', rfl, h3, h4, h5, h6, _⟩ := hx.out
            have := h6 (by omega)
            subst this
            have : VR σ (.pointer (some (Addr.plus a (k * j.size)))) (.pointer (some ⟨b, o + (a.off + k * j.size), none⟩)) := VR.mk ⟨b, o, z, hσ, rfl⟩
            refine DidV.same hr ?_ this
            simp [Instr.indexAt, asIntOf, run_underlying hu, run_sizeOf' (hE.ti _ _ hj), h1, Addr.add_lit, Nat.add_assoc]
        · simp at h
      · simp at h
theorem index_did (hE : EnvOk P Γ) (hr : Rel σ V s w) {t : TypeId} {x x' y y' : Value} (h : opIndex Γ s t x (natOf y) = some (v, s')) (hx : VR σ x x') (hy : VR σ y y') : DidV σ V s w ((Instr.index t x' y').run P w) v s' := by
  unfold opIndex at h
  cases hi : Γ.ti.at t with
  | none => rw [hi] at h; simp at h
  | some i =>
    cases hk : natOf y with
    | none => rw [hi, hk] at h; simp at h
    | some k =>
      rw [hi, hk] at h
      simp only at h
      obtain ⟨kk, rfl⟩ := natOf_some hk
      obtain rfl := hy.int
      have hti := hE.ti _ _ hi
      split at h
      · rename_i cs
        split at h
        · rename_i n e hd
          have hu := hti.und
          rw [hd] at hu
          cases hj : Γ.ti.at e with
          | none => rw [hj] at h; simp at h
          | some j =>
            rw [hj] at h
            simp only at h
            cases hb : Nat.blt k n with
            | false => rw [hb] at h; simp at h
            | true =>
              rw [hb] at h
              obtain ⟨hp, rfl⟩ := retC_some h
              obtain ⟨xs', rfl, hl⟩ := hx.agg
              obtain ⟨v', h1, h2⟩ := partC_part (P := P) (w := w) (hE.ti _ _ hj) hp hl
              refine DidV.same hr ?_ h2
              have hkn := blt_iff.1 hb
              simp [Instr.index, asIntOf, run_underlying hu, run_sizeOf' (hE.ti _ _ hj), hkn, h1]
        · simp at h
      · rename_i b
        split at h
        · rename_i hd
          have hu := hti.und
          rw [hd] at hu
          cases hc : b.data.toList[k]? with
          | none => rw [hc] at h; simp at h
          | some c =>
            rw [hc] at h
            simp only [Option.some.injEq, Prod.mk.injEq] at h
            obtain ⟨rfl, rfl⟩ := h
            obtain rfl := hx.str
            refine DidV.same hr ?_ (VR.ofInt _ _)
            have hlt : k < b.data.size := by
              have := (List.getElem?_eq_some_iff.1 hc).1
              rwa [Array.length_toList] at this
            have hbk : b[k]? = some c := by
              rw [Array.getElem?_toList] at hc
              have h1 : b[k]? = some b[k] := getElem?_pos b k hlt
              rw [h1]
              have h2 : b.data[k]? = some b.data[k] := Array.getElem?_eq_getElem hlt
              rw [h2] at hc
              exact hc
            simp [Instr.index, asIntOf, run_underlying hu, hbk]
        · simp at h
      · simp at h
theorem extract_did (hr : Rel σ V s w) {k : Nat} {x x' : Value} (h : opExtract s k x = some (v, s')) (hx : VR σ x x') : DidV σ V s w ((Instr.extract x' k).run P w) v s' := by
  unfold opExtract at h
  split at h
  · rename_i vs
    obtain ⟨hp, rfl⟩ := retC_some h
    obtain ⟨xs', rfl, hl⟩ := hx.out
    obtain ⟨v', h1, h2⟩ := hl.at hp
    refine DidV.same hr ?_ h2
    rw [Array.getElem?_toList] at h1
    simp [Instr.extract, h1]
  · simp at h

/-- the bounds of a slice expression -/
def OptNat (x : Option Value) (d n : Nat) : Prop := (x = none ∧ n = d) ∨ ∃ k, x = some (.int k (n : Int))
theorem bounds_some {len cap l h m : Nat} {lo hi mx : Option Value} (hb : boundsC len cap lo hi mx = some (l, h, m)) :
    OptNat lo 0 l ∧ OptNat hi len h ∧ OptNat mx cap m ∧ l ≤ h ∧ h ≤ m ∧ m ≤ cap ∧ (mx = none ∨ hi ≠ none) := by
  have one : ∀ (x : Option Value) (d n : Nat), (match x with | some v => natOf v | none => some d) = some n → OptNat x d n := by
    intro x d n hx
    cases x with
    | none => simp at hx; exact .inl ⟨rfl, hx.symm⟩
    | some y => obtain ⟨k, hk⟩ := natOf_some hx; exact .inr ⟨k, by rw [hk]⟩
  unfold boundsC at hb
  split at hb
  · rename_i m' h' l' e1 e2 e3
    cases hc : (Nat.ble l' h' && Nat.ble h' m' && Nat.ble m' cap && (mx.isNone || hi.isSome)) with
    | false => rw [hc] at hb; simp at hb
    | true =>
      rw [hc] at hb
      simp only [cond_true, Option.some.injEq, Prod.mk.injEq] at hb
      obtain ⟨rfl, rfl, rfl⟩ := hb
      simp only [Bool.and_eq_true] at hc
      refine ⟨one _ _ _ e3, one _ _ _ e2, one _ _ _ e1, ble_iff.1 hc.1.1.1, ble_iff.1 hc.1.1.2, ble_iff.1 hc.1.2, ?_⟩
      cases mx <;> cases hi <;> simp_all
  · simp at hb
theorem OptNat.rel {x x' : Option Value} {d n : Nat} (h : OptNat x d n) (hx : match x, x' with | none, none => True | some a, some b => VR σ a b | _, _ => False) : OptNat x' d n := by
  rcases h with ⟨rfl, rfl⟩ | ⟨k, rfl⟩
  · cases x' with
    | none => exact .inl ⟨rfl, rfl⟩
    | some y => exact hx.elim
  · cases x' with
    | none => exact hx.elim
    | some y => exact .inr ⟨k, by rw [VR.int (hx : VR σ _ _)]⟩
theorem run_bounds {len cap' l h m : Nat} {lo hi mx : Option Value} (b : Bool) (h1 : OptNat lo 0 l) (h2 : OptNat hi len h) (h3 : mx = none ∧ m = cap' ∨ ∃ k, mx = some (.int k (m : Int))) (h4 : l ≤ h) (h5 : h ≤ m) (h6 : m ≤ cap') (h7 : mx = none ∨ hi ≠ none) (w : World) :
    (Instr.sliceBounds b len cap' lo hi mx).run P w = .ok (l, h, m) w := by
  have h8 : h ≤ cap' := Nat.le_trans h5 h6
  rcases h1 with ⟨rfl, rfl⟩ | ⟨k1, rfl⟩ <;> rcases h2 with ⟨rfl, rfl⟩ | ⟨k2, rfl⟩ <;> rcases h3 with ⟨rfl, rfl⟩ | ⟨k3, rfl⟩ <;>
    first | (exfalso; rcases h7 with h7 | h7 <;> simp at h7; done) | (simp [Instr.sliceBounds, Instr.sliceBound, asIntOf, h4, h5, h6, h8])
def OptR (σ : Sg) : Option Value → Option Value → Prop
  | none, none => True
  | some a, some b => VR σ a b
  | _, _ => False
theorem OptNat.rel' {x x' : Option Value} {d n : Nat} (h : OptNat x d n) (hx : OptR σ x x') : OptNat x' d n := by
  rcases h with ⟨rfl, rfl⟩ | ⟨k, rfl⟩
  · cases x' with
    | none => exact .inl ⟨rfl, rfl⟩
    | some y => exact hx.elim
  · cases x' with
    | none => exact hx.elim
    | some y => exact .inr ⟨k, by rw [VR.int (hx : VR σ _ _)]⟩
theorem OptR.none {x x' : Option Value} (hx : OptR σ x x') : x = none ↔ x' = none := by
  cases x <;> cases x' <;> simp_all [OptR]
theorem add_eq (b o n : Nat) : (⟨b, o, none⟩ : Addr).add n = ⟨b, o + n, none⟩ := Addr.add_lit b o n
theorem cutC_some {size : Nat} {exact : Bool} {a : Addr} {x : Option (Nat × Nat × Nat)} (h : cutC s size exact a x = some (v, s')) :
    ∃ l hh m, x = some (l, hh, m) ∧ (Addr.ver a % 1024 = 0 ∨ exact = false ∧ Addr.ver a % 1024 = size + 1) ∧ v = .slice (some (Addr.plus a (l * size))) (hh - l) (m - l) ∧ s' = s := by
  unfold cutC at h
  split at h
  · rename_i l hh m
    cases hb : (Nat.beq (Addr.ver a % 1024) 0 || (!exact && Nat.beq (Addr.ver a % 1024) (size + 1))) with
    | false => rw [hb] at h; simp at h
    | true =>
      rw [hb] at h
      simp only [cond_true, Option.some.injEq, Prod.mk.injEq] at h
      refine ⟨l, hh, m, rfl, ?_, h.1.symm, h.2.symm⟩
      rw [Bool.or_eq_true] at hb
      rcases hb with hb | hb
      · exact .inl (Nat.eq_of_beq_eq_true hb)
      · rw [Bool.and_eq_true] at hb
        exact .inr ⟨by simpa using hb.1, Nat.eq_of_beq_eq_true hb.2⟩
  · simp at h
theorem cutArr_did (hE : EnvOk P Γ) (hr : Rel σ V s w) {d : TypeDesc} {a : Addr} {lo hi mx lo' hi' mx' : Option Value} (h : cutArr Γ s d a lo hi mx = some (v, s')) (hlo : OptR σ lo lo') (hhi : OptR σ hi hi') (hmx : OptR σ mx mx') {b o z : Nat} (hσ : σ a.block (Addr.ver a) = some (b, o, z)) :
    ∃ n e size l hh m, d = .array n e ∧ (sizeOf e).run P w = .ok size w ∧ (∀ bb, (Instr.sliceBounds bb n n lo' hi' mx').run P w = .ok (l, hh, m) w) ∧ s' = s ∧
      VR σ v (.slice (some (if m = l then ⟨b, o + a.off, none⟩ else (⟨b, o + a.off, none⟩ : Addr).add (l * size))) (hh - l) (m - l)) := by
  unfold cutArr at h
  split at h
  · rename_i n e
    cases hj : Γ.ti.at e with
    | none => rw [hj] at h; simp at h
    | some j =>
      rw [hj] at h
      simp only at h
      rw [sel_eq] at h
      split at h
      · rename_i hn
        obtain ⟨l, hh, m, hb, ht, rfl, rfl⟩ := cutC_some h
        obtain ⟨b1, b2, b3, b4, b5, b6, b7⟩ := bounds_some hb
        have ht0 : Addr.ver a % 1024 = 0 := by
          rcases ht with ht | ht
          · exact ht
          · simp at ht
        have hnn := ble_iff.1 hn
        refine ⟨n, e, j.size, l, hh, m, rfl, run_sizeOf' (hE.ti _ _ hj) w, fun bb => ?_, rfl, ?_⟩
        · refine run_bounds bb (b1.rel' hlo) (b2.rel' hhi) ?_ b4 b5 b6 ?_ w
          · rcases b3.rel' hmx with ⟨h1, h2⟩ | h1
            · exact .inl ⟨h1, h2⟩
            · exact .inr h1
          · rcases b7 with h1 | h1
            · exact .inl (hmx.none.1 h1)
            · exact .inr fun k => h1 (hhi.none.2 k)
        · refine VR.mk ⟨b, o, z, hσ, _, m - l, rfl, by omega, Nat.le_refl _, by unfold maxLen; omega, ?_, fun _ => rfl, fun k => absurd ht0 k⟩
          intro hne
          rw [if_neg (by omega), add_eq, Nat.add_assoc]
          rfl
      · simp at h
  · simp at h
theorem slice_did (hE : EnvOk P Γ) (hr : Rel σ V s w) {t : TypeId} {x x' : Value} {lo hi mx lo' hi' mx' : Option Value} (h : opSlice Γ s t x lo hi mx = some (v, s')) (hx : VR σ x x') (hlo : OptR σ lo lo') (hhi : OptR σ hi hi') (hmx : OptR σ mx mx') :
    DidV σ V s w ((Instr.sliceAt t x' lo' hi' mx').run P w) v s' := by
  unfold opSlice at h
  cases hi1 : Γ.ti.at t with
  | none => rw [hi1] at h; simp at h
  | some i =>
    rw [hi1] at h
    simp only at h
    have hti := hE.ti _ _ hi1
    split at h
    · rename_i b
      split at h
      · rename_i hd
        have hu := hti.und
        rw [hd] at hu
        cases hm : mx with
        | some _ => rw [hm] at h; simp at h
        | none =>
          rw [hm] at h
          simp only [Option.isNone_none, cond_true] at h
          unfold cutStr at h
          split at h
          · rename_i l hh m hb
            simp only [Option.some.injEq, Prod.mk.injEq] at h
            obtain ⟨rfl, rfl⟩ := h
            obtain ⟨b1, b2, b3, b4, b5, b6, _⟩ := bounds_some hb
            obtain rfl := hx.str
            have hm' : mx' = none := (hmx.none (σ := σ)).1 hm
            subst hm'
            have hmm : m = b.size := by rcases b3 with ⟨_, h1⟩ | ⟨k, h1⟩; exact h1; simp at h1
            subst hmm
            have := run_bounds (P := P) (len := b.size) (cap' := b.size) (m := b.size) (mx := none) false (b1.rel' hlo) (b2.rel' hhi) (.inl ⟨rfl, rfl⟩) b4 b5 (Nat.le_refl _) (.inl rfl) w
            refine DidV.same hr ?_ (VR.ofStr _)
            simp [Instr.sliceAt, Instr.slice, run_underlying hu, this]
          · simp at h
      · simp at h
    · rename_i a len cap
      split at h
      · rename_i e hd
        have hu := hti.und
        rw [hd] at hu
        cases a with
        | none =>
          simp only at h
          cases hj : Γ.ti.at e with
          | none => rw [hj] at h; simp at h
          | some j =>
          rw [hj] at h
          simp only at h
          split at h
          · rename_i hb
            simp only [Option.some.injEq, Prod.mk.injEq] at h
            obtain ⟨rfl, rfl⟩ := h
            obtain ⟨rfl, rfl, rfl⟩ := hx.out
            obtain ⟨b1, b2, b3, b4, b5, b6, b7⟩ := bounds_some hb
            have := run_bounds (P := P) (len := 0) (cap' := 0) (m := 0) (mx := mx') true (b1.rel' hlo) (b2.rel' hhi) (by
              rcases b3.rel' hmx with ⟨h1, h2⟩ | h1
              · exact .inl ⟨h1, rfl⟩
              · exact .inr h1) (Nat.le_refl _) (Nat.le_refl _) (Nat.le_refl _) (by
              rcases b7 with h1 | h1
              · exact .inl (hmx.none.1 h1)
              · exact .inr fun k => h1 (hhi.none.2 k)) w
            refine DidV.same (v' := .slice none 0 0) hr ?_ (VR.mk ⟨rfl, rfl, rfl⟩)
            simp [Instr.sliceAt, Instr.slice, run_underlying hu, this, run_sizeOf' (hE.ti _ _ hj)]
          · simp at h
        | some a =>
          simp only at h
          cases hj : Γ.ti.at e with
          | none => rw [hj] at h; simp at h
          | some j =>
            rw [hj] at h
            simp only at h
            obtain ⟨l, hh, m, hb, ht, rfl, rfl⟩ := cutC_some h
            obtain ⟨b1, b2, b3, b4, b5, b6, b7⟩ := bounds_some hb
            obtain ⟨b, o, z, hσ, a', c', rfl, h3, h4, h5, h6, h7, h8⟩ := hx.out
            -- the end of the capacity, in the model
            obtain ⟨m', hm1, hm2, hm3, hm4⟩ : ∃ m', (mx' = none ∧ m' = c' ∨ ∃ k, mx' = some (.int k (m' : Int))) ∧ m ≤ m' ∧ m' ≤ c' ∧ (c' = cap → m' = m) := by
              rcases b3.rel' hmx with ⟨h1, h2⟩ | h1
              · exact ⟨c', .inl ⟨h1, rfl⟩, by omega, Nat.le_refl _, by omega⟩
              · exact ⟨m, .inr h1, Nat.le_refl _, by omega, fun _ => rfl⟩
            have := run_bounds (P := P) (len := len) (cap' := c') (m := m') (mx := mx') true (b1.rel' hlo) (b2.rel' hhi) hm1 b4 (by omega) hm3 (by
              rcases b7 with h1 | h1
              · exact .inl (hmx.none.1 h1)
              · exact .inr fun k => h1 (hhi.none.2 k)) w
            refine DidV.same (v' := .slice (some (if m' = l then a' else a'.add (l * j.size))) (hh - l) (m' - l)) hr ?_ ?_
            · have hif : (if m' = l then some a' else some (a'.add (l * j.size))) = some (if m' = l then a' else a'.add (l * j.size)) := by split <;> rfl
              simp [Instr.sliceAt, Instr.slice, run_underlying hu, this, run_sizeOf' (hE.ti _ _ hj), hif]
            · refine VR.mk ⟨b, o, z, hσ, _, m' - l, rfl, by omega, by omega, by omega, ?_, ?_, ?_⟩
              · intro hne
                rw [if_neg (by omega), h6 (by omega), add_eq, Nat.add_assoc]
                rfl
              · intro h0
                have := hm4 (h7 h0)
                omega
              · intro h0 hne
                rcases ht with ht | ht
                · exact absurd ht h0
                · have hb2 := h8 h0 (by omega)
                  have hv : Addr.ver (Addr.plus a (l * j.size)) = Addr.ver a := rfl
                  rw [ht.2] at hb2
                  rw [hv, ht.2]
                  simp only [Nat.add_sub_cancel] at hb2 ⊢
                  have : l * j.size + (m' - l) * j.size ≤ c' * j.size := by
                    rw [← Nat.add_mul]
                    exact Nat.mul_le_mul_right _ (by omega)
                  show o + (a.off + l * j.size) + (m' - l) * j.size ≤ z
                  omega
      · simp at h
    · rename_i a
      obtain ⟨b, o, z, hσ, rfl⟩ := hx.ptr
      split at h
      · rename_i arr hd
        have hu := hti.und
        rw [hd] at hu
        cases hia : Γ.ti.at arr with
        | none => rw [hia] at h; simp at h
        | some ia =>
          rw [hia] at h
          simp only at h
          obtain ⟨n, e, size, l, hh, m, hd2, hsz, hbd, rfl, hv⟩ := cutArr_did (P := P) (w := w) hE hr h hlo hhi hmx hσ
          have hu2 := (hE.ti _ _ hia).und
          rw [hd2] at hu2
          refine DidV.same hr ?_ hv
          simp [Instr.sliceAt, Instr.slice, run_underlying hu, run_underlying hu2, asAddr, hbd, hsz]
      · rename_i d hd
        obtain ⟨n, e, size, l, hh, m, hd2, hsz, hbd, rfl, hv⟩ := cutArr_did (P := P) (w := w) hE hr h hlo hhi hmx hσ
        have hu := hti.und
        rw [hd2] at hu
        refine DidV.same hr ?_ hv
        simp [Instr.sliceAt, run_underlying hu, Instr.sureAddr, hbd, hsz]
    · simp at h
end
end Go.Proofs.YtcmfoipnoejmlaaDoor
