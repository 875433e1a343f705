/- Trees: regions that draw their order: first operations that turn nothing, then operations behind all that matters. No program in sight. -/
import Derived.Test.YtfalnphlgfoflaaTk
namespace Go.Proofs.Ytfalnphlgfoflaa
open Go Go.RowKit
set_option linter.unusedSimpArgs false
set_option linter.unusedVariables false
def memless : Op → Bool
  | .move _ => true
  | .assign _ => true
  | .pick _ _ _ => true
  | .build _ _ => true
  | .nilCheck _ => true
  | .sliceToArrayPointer _ _ => true
  | .makeFunc _ _ _ => true
  | .slice _ _ _ _ _ => true
  | .fieldAddr _ _ _ => true
  | .field _ _ _ => true
  | .indexAddr _ _ _ => true
  | .index _ _ _ => true
  | .extract _ _ => true
  | .unOp _ _ _ => true
  | .binOp _ _ _ _ _ => true
  | _ => false
def quietNew : Op → Bool
  | .alloc _ => true
  | .box _ _ => true
  | .buildSlice _ _ _ => true
  | .makeSlice _ _ _ => true
  | o => memless o
section
variable {GL : List (Nat × List Value)} {A A' A0 : Nat → Prop} {β β' : Bx} {S S' : TS} {s s' s2 : CS} {P : Program} {Γ : Env} {N : Nat} {h h' : Nat → T} {call : CallC} {ρ : Operand → Value} {o : Oper} {v : Value}
theorem retC_same {r : Option Value} (hc : retC s r = some (v, s')) : s' = s := by
  unfold retC at hc
  split at hc <;> first | (cases hc; rfl) | (simp at hc)
theorem orPure_same {r : Option Value} (hc : orPure P ρ o s r = some (v, s')) : s' = s := by
  unfold orPure at hc
  split at hc
  · cases hc; rfl
  · exact retC_same hc
theorem aggC_same {r : Option (List Value)} (hc : aggC s r = some (v, s')) : s' = s := by
  unfold aggC at hc
  split at hc <;> first | (cases hc; rfl) | (simp at hc)
theorem cutC_same {size : Nat} {ex : Bool} {a : Addr} {b : Option (Nat × Nat × Nat)} (hc : cutC s size ex a b = some (v, s')) : s' = s := by
  unfold cutC at hc
  split at hc
  · rename_i l hh m
    cases hq : (Nat.beq (Addr.ver a % 1024) 0 || (!ex && Nat.beq (Addr.ver a % 1024) (size + 1))) with
    | false => rw [hq] at hc; simp at hc
    | true => rw [hq] at hc; cases hc; rfl
  · simp at hc
theorem cutArr_same {d : TypeDesc} {a : Addr} {lo hi mx : Option Value} (hc : cutArr Γ s d a lo hi mx = some (v, s')) : s' = s := by
  unfold cutArr at hc
  split at hc
  · split at hc
    · rw [sel_eq] at hc
      split at hc
      · exact cutC_same hc
      · simp at hc
    · simp at hc
  · simp at hc
theorem opSlice_same {t : TypeId} {x : Value} {lo hi mx : Option Value} (hc : opSlice Γ s t x lo hi mx = some (v, s')) : s' = s := by
  unfold opSlice at hc
  split at hc
  · split at hc
    · rename_i b
      split at hc
      · cases hq : mx.isNone with
        | false => rw [hq] at hc; simp at hc
        | true =>
          rw [hq, cond_true] at hc
          unfold cutStr at hc
          split at hc <;> first | (cases hc; rfl) | (simp at hc)
      · simp at hc
    · split at hc
      · split at hc
        · split at hc
          · split at hc <;> first | (cases hc; rfl) | (simp at hc)
          · simp at hc
        · split at hc
          · exact cutC_same hc
          · simp at hc
      · simp at hc
    · split at hc
      · split at hc
        · exact cutArr_same hc
        · simp at hc
      · exact cutArr_same hc
    · simp at hc
  · simp at hc
theorem stepA_same {size k n : Nat} {a : Addr} (hc : stepA s size k n a = some (v, s')) : s' = s := by
  unfold stepA at hc
  cases hq : Nat.blt k n with
  | false => rw [hq] at hc; simp at hc
  | true => rw [hq] at hc; cases hc; rfl
theorem memless_ok (hm : memless o.op = true) (hc : cop P Γ call ρ o s = some (v, s')) : s' = s := by
  obtain ⟨d, op, ty, pos, e, g⟩ := o
  unfold cop at hc
  simp only at hm hc
  cases op with
  | move x => cases hc; rfl
  | assign x => cases hc; rfl
  | pick c a b =>
    simp only at hc
    unfold opPick at hc
    split at hc <;> first | (cases hc; rfl) | (simp at hc)
  | build t parts =>
    simp only at hc
    unfold opBuild at hc
    split at hc
    · split at hc
      · rename_i fs _
        rw [sel_eq] at hc
        split at hc
        · exact aggC_same hc
        · simp at hc
      · split at hc
        · exact aggC_same hc
        · simp at hc
      · simp at hc
    · simp at hc
  | nilCheck x =>
    simp only at hc
    unfold opNilCheck at hc
    split at hc <;> first | (cases hc; rfl) | (simp at hc)
  | sliceToArrayPointer t x =>
    simp only at hc
    unfold opS2A at hc
    split at hc
    · split at hc
      · split at hc
        · rw [Bool.cond_eq_ite] at hc
          split at hc
          · cases hc; rfl
          · simp at hc
        · simp at hc
      · simp at hc
    · simp at hc
  | makeFunc fn a b => cases hc; rfl
  | slice t x lo hi mx => exact opSlice_same hc
  | fieldAddr t x k =>
    simp only at hc
    unfold opFieldAddr at hc
    split at hc
    · split at hc
      · split at hc
        · split at hc
          · rename_i off size _
            cases hq : Nat.beq size 0 with
            | true => rw [hq] at hc; simp at hc
            | false => rw [hq] at hc; cases hc; rfl
          · simp at hc
        · simp at hc
      · simp at hc
    · simp at hc
  | field t x k =>
    simp only at hc
    unfold opField at hc
    split at hc
    · split at hc
      · split at hc
        · split at hc
          · split at hc
            · exact retC_same hc
            · simp at hc
          · simp at hc
        · simp at hc
      · simp at hc
    · simp at hc
  | indexAddr t x k =>
    simp only at hc
    unfold opIndexAddr at hc
    split at hc
    · split at hc
      · split at hc
        · split at hc
          · exact stepA_same hc
          · simp at hc
        · simp at hc
      · split at hc
        · split at hc
          · exact stepA_same hc
          · simp at hc
        · simp at hc
      · simp at hc
    · simp at hc
  | index t x k =>
    simp only at hc
    unfold opIndex at hc
    split at hc
    · split at hc
      · split at hc
        · split at hc
          · rw [Bool.cond_eq_ite] at hc
            split at hc
            · exact retC_same hc
            · simp at hc
          · simp at hc
        · simp at hc
      · split at hc
        · split at hc <;> first | (cases hc; rfl) | (simp at hc)
        · simp at hc
      · simp at hc
    · simp at hc
  | extract x k =>
    simp only at hc
    unfold opExtract at hc
    split at hc
    · exact retC_same hc
    · simp at hc
  | unOp op t x => exact orPure_same hc
  | binOp op t x y t2 =>
    simp only at hc
    unfold opBin at hc
    split at hc
    · cases hc; rfl
    · exact orPure_same hc
  | _ => simp [memless] at hm
theorem newRow_log {tag : Nat} {cs : List Value} {a : Addr} (hc : s.newRow tag cs = some (a, s')) : s'.rd = s.rd ∧ s'.wr = s.wr := by
  unfold CS.newRow at hc
  rw [sel_eq] at hc
  split at hc
  · cases hc; exact ⟨rfl, rfl⟩
  · simp at hc
theorem ptrC_log {r : Option (Addr × CS)} (hr : ∀ a t, r = some (a, t) → t.rd = s.rd ∧ t.wr = s.wr) (hc : ptrC r = some (v, s')) : s'.rd = s.rd ∧ s'.wr = s.wr := by
  unfold ptrC at hc
  split at hc
  · cases hc; exact hr _ _ rfl
  · simp at hc
theorem sliceC_log {l c : Nat} {r : Option (Addr × CS)} (hr : ∀ a t, r = some (a, t) → t.rd = s.rd ∧ t.wr = s.wr) (hc : sliceC l c r = some (v, s')) : s'.rd = s.rd ∧ s'.wr = s.wr := by
  unfold sliceC at hc
  split at hc
  · cases hc; exact hr _ _ rfl
  · simp at hc
theorem quietNew_ok (hm : quietNew o.op = true) (hc : cop P Γ call ρ o s = some (v, s')) : s'.rd = s.rd ∧ s'.wr = s.wr := by
  by_cases hq : memless o.op = true
  · rw [memless_ok hq hc]; exact ⟨rfl, rfl⟩
  obtain ⟨d, op, ty, pos, e, g⟩ := o
  unfold cop at hc
  simp only at hm hc hq
  cases op with
  | alloc e =>
    simp only at hc
    unfold opAlloc at hc
    split at hc
    · exact ptrC_log (fun a t h => newRow_log h) hc
    · simp at hc
  | box e x => exact ptrC_log (fun a t h => newRow_log h) hc
  | buildSlice t n parts =>
    simp only at hc
    unfold opBuildSlice at hc
    split at hc
    · rename_i j _
      cases hb : (Nat.ble (n * j.size) 16777216 && Nat.blt 0 j.size) with
      | false => rw [hb] at hc; simp at hc
      | true =>
        rw [hb, cond_true] at hc
        split at hc
        · exact sliceC_log (fun a t h => newRow_log h) hc
        · simp at hc
    · simp at hc
  | makeSlice t l c =>
    simp only at hc
    unfold opMakeSlice at hc
    split at hc
    · rename_i j l' c' _ _ _
      cases hb : (Nat.ble l' c' && Nat.ble (c' * (j.bytes + 1)) 1000000000 && Nat.blt 0 j.size) with
      | false => rw [hb] at hc; simp at hc
      | true =>
        rw [hb, cond_true] at hc
        exact sliceC_log (fun a t h => newRow_log h) hc
    · simp at hc
  | _ => simp_all [quietNew, memless]
def LogFit (o : Oper) (x : Lg) : Prop := (memless o.op = true → x.rd = [] ∧ x.wr = [] ∧ x.lo = x.hi) ∧ (quietNew o.op = true → x.rd = [] ∧ x.wr = [])
theorem draw_fit {ops : List Oper} : ∀ {l : List Oper} {fr fr' : Fr} {s s' : CS} {L : List Lg}, drawC P Γ call ops l fr s = some (L, fr', s') → L.length = l.length ∧ ∀ (j : Nat) (o : Oper) (x : Lg), l[j]? = some o → L[j]? = some x → LogFit o x
  | [], fr, fr', s, s', L, hc => by
    simp only [drawC, Option.some.injEq, Prod.mk.injEq] at hc
    obtain ⟨rfl, _, _⟩ := hc
    exact ⟨rfl, fun j o x hj => by simp at hj⟩
  | o :: l, fr, fr', s, s', L, hc => by
    simp only [drawC] at hc
    split at hc
    · rename_i fr1 t h1
      split at hc
      · rename_i logs fr2 s2 h2
        cases hc
        obtain ⟨i1, i2⟩ := draw_fit h2
        refine ⟨by simp [i1], fun j o' x hj hx => ?_⟩
        cases j with
        | zero =>
          simp only [List.getElem?_cons_zero, Option.some.injEq] at hj hx
          subst hj; subst hx
          unfold stepC at h1
          cases hw : wantedC ops fr o with
          | false =>
            rw [hw] at h1
            simp only [cond_false, Option.some.injEq, Prod.mk.injEq] at h1
            rw [← h1.2]
            exact ⟨fun _ => ⟨rfl, rfl, rfl⟩, fun _ => ⟨rfl, rfl⟩⟩
          | true =>
            rw [hw, cond_true] at h1
            split at h1
            · rename_i v s1 hcop
              cases h1
              refine ⟨fun hm => ?_, fun hm => ?_⟩
              · rw [memless_ok hm hcop]; exact ⟨rfl, rfl, rfl⟩
              · exact quietNew_ok hm hcop
            · simp at h1
        | succ j => exact i2 j o' x (by simpa using hj) (by simpa using hx)
      · simp at hc
    · simp at hc
theorem drawC_append {ops : List Oper} : ∀ {l m : List Oper} {fr fr1 fr2 : Fr} {s s1 s2 : CS} {L M : List Lg}, drawC P Γ call ops l fr s = some (L, fr1, s1) → drawC P Γ call ops m fr1 s1 = some (M, fr2, s2) → drawC P Γ call ops (l ++ m) fr s = some (L ++ M, fr2, s2)
  | [], m, fr, fr1, fr2, s, s1, s2, L, M, h1, h2 => by
    simp only [drawC, Option.some.injEq, Prod.mk.injEq] at h1
    obtain ⟨rfl, rfl, rfl⟩ := h1
    exact h2
  | o :: l, m, fr, fr1, fr2, s, s1, s2, L, M, h1, h2 => by
    simp only [drawC] at h1
    simp only [List.cons_append, drawC]
    split at h1
    · rename_i fra t ha
      split at h1
      · rename_i logs frb sb hb
        cases h1
        rw [drawC_append hb h2]
        rfl
      · simp at h1
    · simp at h1
theorem calmOne_of {m : Nat} {y : Lg} : ∀ {done : List Lg} {i : Nat}, (∀ j x, done[j]? = some x → Nat.testBit m (i + j) = true ∨ clash x y = false) → calmOne clash m y done i = true
  | [], _, _ => rfl
  | x :: l, i, h => by
    have h0 : Nat.testBit m i = true ∨ clash x y = false := h 0 x rfl
    have ih : calmOne clash m y l (i + 1) = true := calmOne_of fun j z hz => by
      have := h (j + 1) z (by simpa using hz)
      rw [show i + 1 + j = i + (j + 1) by omega]
      exact this
    rcases h0 with h0 | h0
    · rw [calmOne_set h0]; exact ih
    · rw [calmOne_ok h0]; exact ih
theorem calmAll_of {ms : List Nat} : ∀ {l done : List Lg}, (∀ i j x y, i < j → done.length ≤ j → (done ++ l)[i]? = some x → (done ++ l)[j]? = some y → Nat.testBit (nth 0 ms j) i = true ∨ clash x y = false) → calmAll clash done l ms = true
  | [], _, _ => rfl
  | y :: l, done, h => by
    rw [calmAll_cons, Bool.and_eq_true]
    refine ⟨calmOne_of fun j x hx => ?_, calmAll_of fun i j x z hij hd hx hz => ?_⟩
    · rw [Nat.zero_add]
      have hj := (List.getElem?_eq_some_iff.1 hx).1
      exact h j done.length x y hj (Nat.le_refl _) (by rw [List.getElem?_append_left hj]; exact hx) (by simp)
    · rw [List.append_assoc] at hx hz
      rw [List.length_append, List.length_singleton] at hd
      exact h i j x z hij (by omega) hx hz
theorem map_congr {ρ1 ρ2 : Operand → T} {l : List Operand} (hρ : ∀ x, x ∈ l → ρ1 x = ρ2 x) : l.map ρ1 = l.map ρ2 := List.map_congr_left hρ
theorem omap_congr {ρ1 ρ2 : Operand → T} {l : Option Operand} (hρ : ∀ x, l = some x → ρ1 x = ρ2 x) : l.map ρ1 = l.map ρ2 := by
  cases l with
  | none => rfl
  | some x => simp only [Option.map_some, hρ x rfl]
theorem partsT_congr {place : Nat → Option (Nat × Nat)} {ρ1 ρ2 : Operand → T} : ∀ {l : List (Nat × Operand)}, (∀ p, p ∈ l → ρ1 p.2 = ρ2 p.2) → partsT place ρ1 l = partsT place ρ2 l
  | [], _ => rfl
  | (k, x) :: l, hρ => by
    unfold partsT
    rw [partsT_congr fun p hp => hρ p (by simp [hp]), hρ (k, x) (by simp)]
theorem elemsT_congr {e : Nat} {ρ1 ρ2 : Operand → T} : ∀ {l : List (Nat × Operand)} {i : Nat}, (∀ p, p ∈ l → ρ1 p.2 = ρ2 p.2) → elemsT e ρ1 i l = elemsT e ρ2 i l
  | [], _, _ => rfl
  | (k, x) :: l, i, hρ => by
    unfold elemsT
    rw [elemsT_congr fun p hp => hρ p (by simp [hp]), hρ (k, x) (by simp)]
theorem stepP_congr {ρ1 ρ2 : Operand → T} (hρ : ∀ x, x ∈ o.op.operands.toList → ρ1 x = ρ2 x) : stepP P Γ ρ1 o S = stepP P Γ ρ2 o S := by
  obtain ⟨d, op, ty, pos, e, g⟩ := o
  simp only at hρ
  unfold stepP
  cases op with
  | move x => simp only [hρ x (by simp [Op.operands])]
  | assign x => simp only [hρ x (by simp [Op.operands])]
  | pick c a b => simp only [hρ c (by simp [Op.operands]), hρ a (by simp [Op.operands]), hρ b (by simp [Op.operands])]
  | build t parts =>
    have hp : ∀ p, p ∈ parts.toList → ρ1 p.2 = ρ2 p.2 := fun p hp => hρ p.2 (by simp [Op.operands]; exact ⟨p.1, by simpa using hp⟩)
    simp only [tBuild, partsT_congr hp]
  | buildSlice t n parts =>
    have hp : ∀ p, p ∈ parts.toList → ρ1 p.2 = ρ2 p.2 := fun p hp => hρ p.2 (by simp [Op.operands]; exact ⟨p.1, by simpa using hp⟩)
    simp only [tBuildFrozen, elemsT_congr hp]
  | load t x => simp only [hρ x (by simp [Op.operands])]
  | nilCheck x => simp only [hρ x (by simp [Op.operands])]
  | sliceToArrayPointer t x => simp only [hρ x (by simp [Op.operands])]
  | makeFunc fn first captured =>
    have h1 : first.toList.map ρ1 = first.toList.map ρ2 := map_congr fun x hx => hρ x (by simp [Op.operands]; left; simpa using hx)
    have h2 : captured.toList.map ρ1 = captured.toList.map ρ2 := map_congr fun x hx => hρ x (by simp [Op.operands]; right; simpa using hx)
    simp only [h1, h2]
  | slice t x lo hi mx =>
    have h1 : lo.map ρ1 = lo.map ρ2 := omap_congr fun y hy => hρ y (by simp [Op.operands, hy])
    have h2 : hi.map ρ1 = hi.map ρ2 := omap_congr fun y hy => hρ y (by simp [Op.operands, hy])
    have h3 : mx.map ρ1 = mx.map ρ2 := omap_congr fun y hy => hρ y (by simp [Op.operands, hy])
    simp only [hρ x (by simp [Op.operands]), h1, h2, h3]
  | fieldAddr t x k => simp only [hρ x (by simp [Op.operands])]
  | field t x k => simp only [hρ x (by simp [Op.operands])]
  | indexAddr t x ix => simp only [hρ x (by simp [Op.operands]), hρ ix (by simp [Op.operands])]
  | index t x ix => simp only [hρ x (by simp [Op.operands]), hρ ix (by simp [Op.operands])]
  | extract x k => simp only [hρ x (by simp [Op.operands])]
  | unOp op t x => simp only [hρ x (by simp [Op.operands])]
  | convert src dst x => simp only [hρ x (by simp [Op.operands])]
  | binOp op t x y t2 => simp only [hρ x (by simp [Op.operands]), hρ y (by simp [Op.operands])]
  | lookup t x k ok => simp only [hρ x (by simp [Op.operands]), hρ k (by simp [Op.operands])]
  | call c =>
    obtain ⟨cal, args, tys⟩ := c
    cases cal with
    | builtin b =>
      have ha : ∀ x, x ∈ args.toList → ρ1 x = ρ2 x := fun x hx => hρ x (by simp [Op.operands, Call.operands]; simpa using hx)
      simp only
      unfold tBuiltinP
      cases b with
      | len =>
        simp only
        split
        · rename_i x t e1 e2; rw [ha x (by rw [e1]; simp)]
        · rfl
      | min =>
        simp only
        split
        · rename_i x y e1; rw [ha x (by rw [e1]; simp), ha y (by rw [e1]; simp)]
        · rfl
      | max =>
        simp only
        split
        · rename_i x y e1; rw [ha x (by rw [e1]; simp), ha y (by rw [e1]; simp)]
        · rfl
      | _ => rfl
    | _ => rfl
  | _ => rfl
end
end Go.Proofs.Ytfalnphlgfoflaa
