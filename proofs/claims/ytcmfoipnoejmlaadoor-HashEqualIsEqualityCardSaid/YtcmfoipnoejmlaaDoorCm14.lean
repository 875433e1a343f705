/- The plain machine, fourteenth part: an operation, whichever. No program in sight. -/
import Derived.Test.YtcmfoipnoejmlaaDoorCm13
namespace Go.Proofs.YtcmfoipnoejmlaaDoor
open Go Go.RowKit

/-- what every state of the plain machine keeps -/
structure CInv (s : CS) : Prop where
  none : ∀ f, s.n ≤ f → objAt s.obj f = famNone
  vers : ∀ f p, p ∈ (objAt s.obj f).rows → p.1 / 1024 < s.n
  lim : s.lim ≤ s.n
theorem CInv.lt {s : CS} (h : CInv s) {f : Nat} (hr : (objAt s.obj f).ro = false) : f < s.n := by
  by_cases hn : f < s.n
  · exact hn
  · rw [h.none f (by omega)] at hr; simp [famNone] at hr
theorem CInv.next {s s' : CS} (h : CInv s) (c : Can s s') : CInv s' := ⟨c.none h.none, c.vers h.vers, by rw [c.lim]; exact Nat.le_trans h.lim c.n⟩
theorem write_can' {s s' : CS} {a : Addr} {vs : List Value} (hI : CInv s) (h : s.write a vs = some s') : Can s s' := by
  obtain ⟨cs, h1, h2, h3, _, h4⟩ := write_some h
  exact put_can (x := ⟨false, [(Addr.ver a, splice cs a.off vs)], none⟩) h1 rfl (hI.lt h1) s.n (Nat.le_refl _) (fun hv p hp => by simp at hp; subst hp; have := hv _ _ (rowOf_mem h2); exact this) (by rw [h4])
theorem grow_can' {s s' : CS} {a : Addr} {tag stop need : Nat} {cells : List Value} {v : Value} (hI : CInv s) (ht : tag < 1024) (h : s.grow a tag stop need cells = some (v, s')) : Can s s' := by
  obtain ⟨cs, h1, h2, _, _, h4⟩ := grow_some h
  obtain ⟨_, _, d2, _⟩ := dropTo_spec h2
  exact put_can (x := ⟨false, (s.n * 1024 + tag, cells) :: dropTo (objAt s.obj a.block).rows (Addr.ver a), none⟩) h1 rfl (hI.lt h1) (s.n + 1) (by omega) (fun hv p hp => by
    rcases List.mem_cons.1 hp with rfl | hp
    · simp only; omega
    · have := hv _ p (d2 p hp); omega) (by rw [h4])
theorem setMap_can {s s' : CS} {r : Nat} {k v : Value} (hI : CInv s) (h : s.setMap r k v = some s') : Can s s' := by
  obtain ⟨es, s1, es', h1, h2, hms, h3⟩ := setMap_some h
  obtain ⟨h4, rfl⟩ := readMap_some h1
  have := put_can (s' := { s with n := s.n, obj := objPut s.obj r ⟨false, [], some es'⟩, wr := ins s.lim s.wr r }) h2 rfl (hI.lt h2) s.n (Nat.le_refl _) (fun _ p hp => by simp at hp) rfl
  rw [h3]
  exact ⟨this.n, this.lim, fun _ h => ins_mem h, this.wr, this.same, this.ro, this.none, this.vers, this.wlt⟩
theorem readMap_can {s s' : CS} {r : Nat} {es : List (Value × Value)} (h : s.readMap r = some (es, s')) : Can s s' := by
  obtain ⟨_, rfl⟩ := readMap_some h
  exact can_log s r
section
variable {P : Program} {Γ : Env} {s s' : CS} {v : Value}
theorem retC_can {x : Option Value} (h : retC s x = some (v, s')) : Can s s' := by rw [(retC_some h).2]; exact Can.refl _
theorem ptrC_can {x : Option (Addr × CS)} (hx : ∀ a s1, x = some (a, s1) → Can s s1) (h : ptrC x = some (v, s')) : Can s s' := by
  obtain ⟨a, h1, _⟩ := ptrC_some h
  exact hx _ _ h1
theorem sliceC_can {x : Option (Addr × CS)} {len cap : Nat} (hx : ∀ a s1, x = some (a, s1) → Can s s1) (h : sliceC len cap x = some (v, s')) : Can s s' := by
  obtain ⟨a, h1, _⟩ := sliceC_some h
  exact hx _ _ h1
theorem loadVar_can {i : TI} {a : Addr} (h : s.loadVar i a = some (v, s')) : Can s s' := by
  unfold CS.loadVar at h
  cases hq : s.readRow a with
  | none => rw [hq] at h; simp at h
  | some p =>
    obtain ⟨cs, s1⟩ := p
    rw [hq] at h
    simp only at h
    split at h
    · simp only [Option.some.injEq, Prod.mk.injEq] at h
      rw [← h.2]
      exact read_can hq
    · simp at h
theorem orPure_can {ρ : Operand → Value} {o : Oper} {x : Option Value} (h : orPure P ρ o s x = some (v, s')) : Can s s' := by
  unfold orPure at h
  cases x with
  | some y => simp only [Option.some.injEq, Prod.mk.injEq] at h; rw [← h.2]; exact Can.refl _
  | none => exact retC_can h
theorem cutC_can {size : Nat} {e : Bool} {a : Addr} {x : Option (Nat × Nat × Nat)} (h : cutC s size e a x = some (v, s')) : Can s s' := by
  obtain ⟨_, _, _, _, _, _, rfl⟩ := cutC_some h
  exact Can.refl _
theorem cutArr_can {d : TypeDesc} {a : Addr} {lo hi mx : Option Value} (h : cutArr Γ s d a lo hi mx = some (v, s')) : Can s s' := by
  unfold cutArr at h
  split at h
  · split at h
    · rw [sel_eq] at h
      split at h
      · exact cutC_can h
      · simp at h
    · simp at h
  · simp at h
theorem append_can (hI : CInv s) {size bytes : Nat} {base : Option Addr} {len cap : Nat} {y : Value} (h : s.append size bytes base len cap y = some (v, s')) : Can s s' := by
  unfold CS.append at h
  split at h
  · simp at h
  · rename_i n hn
    split at h
    · simp at h
    · rename_i new s1 hq
      have c1 := (firstCells_keep (σ := fun _ _ => none) (V := fun _ => True) (w := default) hq).1
      have hI1 := hI.next c1
      simp only at h
      cases hb : (Nat.blt 1000000000 ((len + n) * (bytes + 1)) || Nat.beq size 0 || Nat.ble 1000 size || !(new.all oneC)) with
      | true => rw [hb] at h; simp at h
      | false =>
        rw [hb] at h
        simp only [cond_false] at h
        have hsz : size < 1000 := by
          by_cases hh : size < 1000
          · exact hh
          · simp only [Bool.or_eq_false_iff] at hb
            rw [ble_iff.2 (by omega)] at hb; simp at hb
        cases base with
        | none =>
          simp only at h
          cases hn0 : Nat.beq n 0 with
          | true => rw [hn0] at h; simp only [cond_true, Option.some.injEq, Prod.mk.injEq] at h; rw [← h.2]; exact c1
          | false => rw [hn0] at h; simp only [cond_false] at h; exact c1.trans (sliceC_can (fun a s2 hx => newRow_can (by omega) hx) h)
        | some a =>
          simp only at h
          cases hroom : Nat.ble (len + n) cap with
          | true =>
            rw [hroom] at h
            simp only [cond_true] at h
            cases hn0 : Nat.beq n 0 with
            | true => rw [hn0] at h; simp only [cond_true, Option.some.injEq, Prod.mk.injEq] at h; rw [← h.2]; exact c1
            | false =>
              rw [hn0] at h
              simp only [cond_false] at h
              cases hw : s1.write (Addr.plus a (len * size)) new with
              | none => rw [hw] at h; simp at h
              | some s2 =>
                rw [hw] at h
                simp only [Option.some.injEq, Prod.mk.injEq] at h
                rw [← h.2]
                exact c1.trans (write_can' hI1 hw)
          | false =>
            rw [hroom] at h
            simp only [cond_false] at h
            cases hold : (bif Nat.beq len 0 then some ([], s1) else s1.firstCells size len (.slice (some a) len cap)) with
            | none => rw [hold] at h; simp at h
            | some p =>
              obtain ⟨old, s2⟩ := p
              rw [hold] at h
              simp only at h
              have c2 : Can s1 s2 := by
                cases hl0 : Nat.beq len 0 with
                | true =>
                  rw [hl0] at hold
                  simp only [cond_true, Option.some.injEq, Prod.mk.injEq] at hold
                  rw [← hold.2]
                  exact Can.refl _
                | false =>
                  rw [hl0] at hold
                  simp only [cond_false] at hold
                  exact (firstCells_keep (σ := fun _ _ => none) (V := fun _ => True) (w := default) hold).1
              refine c1.trans (c2.trans ?_)
              cases ht0 : Nat.beq (Addr.ver a % 1024) 0 with
              | true => rw [ht0] at h; simp only [cond_true] at h; exact sliceC_can (fun a s2 hx => newRow_can (by omega) hx) h
              | false =>
                rw [ht0] at h
                simp only [cond_false] at h
                cases ht1 : Nat.beq (Addr.ver a % 1024) (size + 1) with
                | true => rw [ht1] at h; simp only [cond_true] at h; exact grow_can' (hI1.next c2) (by omega) h
                | false => rw [ht1] at h; simp at h
theorem firstCells_can {s1 : CS} {size n : Nat} {y : Value} {new : List Value} (h : s.firstCells size n y = some (new, s1)) : Can s s1 := (firstCells_keep (σ := fun _ _ => none) (V := fun _ => True) (w := default) h).1
theorem some_can {x : Value} {s1 : CS} (h : some (x, s1) = some (v, s')) (c : Can s s1) : Can s s' := by
  simp only [Option.some.injEq, Prod.mk.injEq] at h
  rw [← h.2]
  exact c
theorem cond_some {α : Type} {b : Bool} {x : Option α} {y : α} (h : (bif b then x else none) = some y) : b = true ∧ x = some y := by
  cases b
  · simp at h
  · exact ⟨rfl, h⟩
theorem sel_some {α : Type} {b : Bool} {x : Option α} {y : α} (h : sel b x none = some y) : b = true ∧ x = some y := by
  cases b
  · simp [sel] at h
  · exact ⟨rfl, h⟩
theorem doneC_can {x : Option CS} (hx : ∀ s1, x = some s1 → Can s s1) (h : doneC x = some (v, s')) : Can s s' := by
  cases x with
  | none => simp [doneC] at h
  | some s1 => exact (hx s1 rfl).trans (some_can h (Can.refl _))
theorem copyC_can (hI : CInv s) {size n : Nat} {base : Option Addr} {x : Option (List Value × CS)} (hx : ∀ cs s1, x = some (cs, s1) → Can s s1) (h : copyC size n base x = some (v, s')) : Can s s' := by
  unfold copyC at h
  cases x with
  | none => simp at h
  | some p =>
    obtain ⟨cs, s1⟩ := p
    simp only at h
    have c1 := hx cs s1 rfl
    cases hb : Nat.beq (n * size) 0 with
    | true => rw [hb] at h; exact c1.trans (some_can h (Can.refl _))
    | false =>
      rw [hb] at h
      simp only [cond_false] at h
      cases base with
      | none => simp at h
      | some a =>
        simp only at h
        cases hw : s1.write a cs with
        | none => rw [hw] at h; simp at h
        | some s2 => rw [hw] at h; exact c1.trans ((write_can' (hI.next c1) hw).trans (some_can h (Can.refl _)))
theorem mapUp_can (hI : CInv s) {t : TypeId} {k y x : Value} (h : opMapUpdate Γ s t k y x = some (v, s')) : Can s s' := by
  unfold opMapUpdate at h
  split at h
  · split at h
    · split at h
      · obtain ⟨_, h⟩ := sel_some h
        exact doneC_can (fun s1 hw => setMap_can hI hw) h
      · simp at h
    · simp at h
  · simp at h
theorem cop_can (hI : CInv s) {call : CallC} (hcall : ∀ f args s v s', call f args s = some (v, s') → CInv s → Can s s') {ρ : Operand → Value} {o : Oper} (h : cop P Γ call ρ o s = some (v, s')) : Can s s' := by
  unfold cop at h
  split at h
  · exact some_can h (Can.refl _)
  · exact some_can h (Can.refl _)
  · unfold opPick at h; split at h
    · exact some_can h (Can.refl _)
    · simp at h
  · unfold opAlloc at h; split at h
    · exact ptrC_can (fun a s1 hx => newRow_can (by omega) hx) h
    · simp at h
  · exact ptrC_can (fun a s1 hx => newRow_can (by omega) hx) h
  · unfold opBuild at h
    split at h
    · split at h
      · obtain ⟨_, h⟩ := sel_some h
        obtain ⟨_, _, _, rfl⟩ := aggC_some h
        exact Can.refl _
      · split at h
        · obtain ⟨_, _, _, rfl⟩ := aggC_some h
          exact Can.refl _
        · simp at h
      · simp at h
    · simp at h
  · unfold opBuildSlice at h
    split at h
    · obtain ⟨_, h⟩ := cond_some h
      split at h
      · exact sliceC_can (fun a s1 hx => newRow_can (by omega) hx) h
      · simp at h
    · simp at h
  · unfold opLoad at h
    split at h
    · split at h
      · exact loadVar_can h
      · simp at h
    · simp at h
  · unfold opStore at h
    split at h
    · split at h
      · obtain ⟨_, h⟩ := cond_some h
        exact doneC_can (fun s1 hw => write_can' hI hw) h
      · simp at h
    · simp at h
  · unfold opNilCheck at h
    split at h
    · exact some_can h (Can.refl _)
    · exact some_can h (Can.refl _)
    · simp at h
  · unfold opS2A at h
    split at h
    · split at h
      · split at h
        · obtain ⟨_, h⟩ := cond_some h; exact some_can h (Can.refl _)
        · simp at h
      · simp at h
    · simp at h
  · exact some_can h (Can.refl _)
  · unfold opMakeSlice at h
    split at h
    · obtain ⟨_, h⟩ := cond_some h
      exact sliceC_can (fun a s1 hx => newRow_can (by omega) hx) h
    · simp at h
  · unfold opSlice at h
    split at h
    · split at h
      · split at h
        · obtain ⟨_, h⟩ := cond_some h
          unfold cutStr at h
          split at h
          · exact some_can h (Can.refl _)
          · simp at h
        · simp at h
      · split at h
        · split at h
          · split at h
            · split at h
              · exact some_can h (Can.refl _)
              · simp at h
            · simp at h
          · split at h
            · exact cutC_can h
            · simp at h
        · simp at h
      · split at h
        · split at h
          · exact cutArr_can h
          · simp at h
        · exact cutArr_can h
      · simp at h
    · simp at h
  · unfold opFieldAddr at h
    split at h
    · split at h
      · split at h
        · split at h
          · rename_i off size _
            cases hb : Nat.beq size 0 with
            | true => rw [hb] at h; simp at h
            | false => rw [hb] at h; exact some_can h (Can.refl _)
          · simp at h
        · simp at h
      · simp at h
    · simp at h
  · unfold opField at h
    split at h
    · split at h
      · split at h
        · split at h
          · split at h
            · exact retC_can h
            · simp at h
          · simp at h
        · simp at h
      · simp at h
    · simp at h
  · unfold opIndexAddr at h
    split at h
    · split at h
      · split at h
        · split at h
          · rw [(stepA_some h).2.2]; exact Can.refl _
          · simp at h
        · simp at h
      · split at h
        · split at h
          · rw [(stepA_some h).2.2]; exact Can.refl _
          · simp at h
        · simp at h
      · simp at h
    · simp at h
  · unfold opIndex at h
    split at h
    · split at h
      · split at h
        · split at h
          · obtain ⟨_, h⟩ := cond_some h; exact retC_can h
          · simp at h
        · simp at h
      · split at h
        · split at h
          · exact some_can h (Can.refl _)
          · simp at h
        · simp at h
      · simp at h
    · simp at h
  · unfold opExtract at h
    split at h
    · exact retC_can h
    · simp at h
  · exact orPure_can h
  · unfold opConvert at h
    split at h
    · split at h
      · split at h
        · exact orPure_can h
        · simp at h
      · split at h
        · obtain ⟨_, h⟩ := cond_some h; exact sliceC_can (fun a s1 hx => newRow_can (by omega) hx) h
        · exact some_can h (Can.refl _)
        · simp at h
      · split at h
        · obtain ⟨_, h⟩ := cond_some h
          rename_i a n c _ _ _ _
          unfold strC at h
          split at h
          · split at h
            · rename_i l s1 hq _ _ _
              exact (firstCells_can hq).trans (some_can h (Can.refl _))
            · simp at h
          · simp at h
        · split at h
          · unfold markC at h
            split at h
            · rename_i s1 hq
              obtain ⟨_, hq⟩ := cond_some hq
              exact (write_can' hI hq).trans (some_can h (Can.refl _))
            · simp at h
          · simp at h
        · simp at h
      · exact retC_can h
    · simp at h
  · unfold opBin at h
    split at h
    · exact some_can h (Can.refl _)
    · exact orPure_can h
  · obtain ⟨hn, _, hs⟩ := mapC_some h
    exact new_can hn (fun p hp => by simp at hp) hs
  · unfold opLookup at h
    split at h
    · split at h
      · split at h
        · obtain ⟨_, h⟩ := sel_some h
          split at h
          · unfold lookC at h
            split at h
            · rename_i es s1 hq
              have c : Can s s1 := by
                split at hq
                · simp only [Option.some.injEq, Prod.mk.injEq] at hq; rw [← hq.2]; exact Can.refl _
                · exact readMap_can hq
              split at h
              · exact c.trans (some_can h (Can.refl _))
              · simp at h
            · simp at h
          · simp at h
        · simp at h
      · simp at h
    · simp at h
  · exact mapUp_can hI h
  · exact mapUp_can hI h
  · unfold opMakeI at h
    split at h
    · split at h
      · simp at h
      · exact some_can h (Can.refl _)
    · simp at h
  · split at h
    · unfold opCall at h
      split at h
      · exact hcall _ _ _ _ _ h hI
      · simp at h
    · unfold opBuiltin at h
      split at h
      · split at h
        · obtain ⟨_, h⟩ := sel_some h
          unfold opAppend at h
          split at h
          · split at h
            · exact append_can hI h
            · simp at h
          · simp at h
        · simp at h
      · split at h
        · unfold opCopy at h
          split at h
          · split at h
            · exact copyC_can hI (fun cs s1 hq => firstCells_can hq) h
            · simp at h
          · simp at h
        · simp at h
      · split at h
        · unfold opLen at h
          split at h
          · split at h
            · exact some_can h (Can.refl _)
            · exact some_can h (Can.refl _)
            · exact some_can h (Can.refl _)
            · exact some_can h (Can.refl _)
            · unfold lenMapC at h
              split at h
              · rename_i hq
                exact (readMap_can hq).trans (some_can h (Can.refl _))
              · simp at h
            · simp at h
          · simp at h
        · simp at h
      · exact retC_can h
      · exact retC_can h
      · simp at h
    · simp at h
  · simp at h
end
end Go.Proofs.YtcmfoipnoejmlaaDoor
