/- Trees: appending, copying, making. No program in sight. -/
import Derived.Test.YtfalnphlgfoflaaTe
namespace Go.Proofs.Ytfalnphlgfoflaa
open Go Go.RowKit
set_option linter.unusedSimpArgs false
set_option linter.unusedVariables false
section
variable {GL : List (Nat × List Value)} {A A' A2 : Nat → Prop} {β β' β2 : Bx} {S S' : TS} {s s' s2 : CS} {P : Program} {Γ : Env}
theorem TRel.moved (h : TRel GL A β S s) {b f2 u2 N2 : Nat} {z : Bool} {l0 : Loc} {g' : Nat → Fam} {xs : List T} {cs2 : List Value} {rest : List (Nat × List Value)} (hb : β b = some l0) (hle : Loc.le l0 (.live f2 u2 N2)) (hf2 : f2 = s.n ∨ l0.fam = some f2)
    (hin : s'.obj = .inr g') (hI : CInv s') (hn : s.n ≤ s'.n) (hlt : f2 < s'.n) (hoth : ∀ k, k ≠ f2 → g' k = objAt s.obj k) (hat : g' f2 = ⟨false, (u2, cs2) :: rest, none⟩) (hv : VL A β (objAt s.obj) xs cs2) (h1 : cs2.all oneC = true) (hN : xs.length = N2) (hz : z = true → u2 % 1024 = 0) :
    TRel GL A (bnew β b (.live f2 u2 N2)) (S.set b (.cells z N2 xs)) s' ∧ Bx.le β (bnew β b (.live f2 u2 N2)) ∧ (∀ f, Own (bnew β b (.live f2 u2 N2)) f → Own β f ∨ s.n ≤ f) := by
  have hobj : ∀ k, objAt s'.obj k = g' k := fun k => by rw [hin]; rfl
  have hne : ∀ b', b' ≠ b → bnew β b (.live f2 u2 N2) b' = β b' := fun b' hb' => if_neg hb'
  have hse : bnew β b (.live f2 u2 N2) b = some (.live f2 u2 N2) := if_pos rfl
  have hblt : b < S.n := by
    by_cases hh : b < S.n
    · exact hh
    · rw [h.next b (by omega)] at hb; simp at hb
  have hbx : Bx.le β (bnew β b (.live f2 u2 N2)) := fun i x hx => by
    by_cases hi : i = b
    · subst hi; rw [hb] at hx; cases hx; exact ⟨_, hse, hle⟩
    · exact ⟨x, by rw [hne i hi]; exact hx, Loc.le_refl x⟩
  have hnotA : ¬ A f2 := fun hA => by
    rcases hf2 with rfl | hf2
    · have := h.alt _ hA; omega
    · cases l0 with
      | live f u N => simp [Loc.fam] at hf2; subst hf2; exact (h.dis _ (own_live hb)).2 hA
      | map r => simp [Loc.le] at hle
      | nil => simp [Loc.fam] at hf2
      | dead => simp [Loc.fam] at hf2
  have hA : ∀ k, A k → g' k = objAt s.obj k := fun k hk => hoth k fun hh => hnotA (hh ▸ hk)
  have hother : ∀ {b' : Nat} {l : Loc} {k : Nat}, β b' = some l → l.fam = some k → b' ≠ b → k ≠ f2 := by
    intro b' l k hb' hk hnb hh
    subst hh
    rcases hf2 with hf2 | hf2
    · have hO : Own β k := by
        cases l with
        | live f u N => simp [Loc.fam] at hk; subst hk; exact own_live hb'
        | map r => simp [Loc.fam] at hk; subst hk; exact own_map hb'
        | nil => simp [Loc.fam] at hk
        | dead => simp [Loc.fam] at hk
      have := (h.dis _ hO).1; omega
    · exact hnb (h.inj b' b l l0 k hb' hb hk hf2)
  have hown : ∀ f, Own (bnew β b (.live f2 u2 N2)) f → Own β f ∨ (s.n ≤ f ∧ f = f2) := fun f hf => by
    obtain ⟨b', hb'⟩ := hf
    by_cases hbb : b' = b
    · subst hbb
      rw [hse] at hb'
      rcases hb' with ⟨u, N, hb'⟩ | hb'
      · cases hb'
        rcases hf2 with rfl | hf2
        · exact .inr ⟨Nat.le_refl _, rfl⟩
        · refine .inl ?_
          cases l0 with
          | live f u N => simp [Loc.fam] at hf2; subst hf2; exact own_live hb
          | map r => simp [Loc.le] at hle
          | nil => simp [Loc.fam] at hf2
          | dead => simp [Loc.fam] at hf2
      · simp at hb'
    · rw [hne b' hbb] at hb'
      exact .inl ⟨b', hb'⟩
  refine ⟨⟨⟨g', hin⟩, hI, fun f hf => by have := h.alt f hf; omega, fun f hf => ?_, fun b1 b2 l1 l2 f hb1 hb2 hf1 hf2' => ?_, fun b' hb' => ?_, fun b' z' N' l' hb' => ?_, fun b' l' hb' => ?_, fun x hx => ?_⟩, hbx, fun f hf => (hown f hf).imp id (·.1)⟩
  · rcases hown f hf with q | ⟨q, rfl⟩
    · have := h.dis f q; exact ⟨by omega, this.2⟩
    · exact ⟨hlt, hnotA⟩
  · by_cases e1 : b1 = b <;> by_cases e2 : b2 = b
    · rw [e1, e2]
    · subst e1
      rw [hse] at hb1; cases hb1
      rw [hne b2 e2] at hb2
      simp [Loc.fam] at hf1; subst hf1
      exact absurd rfl (hother hb2 hf2' e2)
    · subst e2
      rw [hse] at hb2; cases hb2
      rw [hne b1 e1] at hb1
      simp [Loc.fam] at hf2'; subst hf2'
      exact absurd rfl (hother hb1 hf1 e1)
    · rw [hne b1 e1] at hb1; rw [hne b2 e2] at hb2
      exact h.inj b1 b2 l1 l2 f hb1 hb2 hf1 hf2'
  · have : S.n ≤ b' := hb'
    rw [hne b' (by omega)]
    exact h.next b' this
  · by_cases hbb : b' = b
    · subst hbb
      rw [TS.set_same] at hb'
      cases hb'
      refine ⟨hN, .inr ⟨f2, u2, cs2, rest, hse, hz, by rw [hobj]; exact hat, ?_, h1⟩⟩
      exact hv.mono (fun _ h => h) (fun f hf => by rw [hobj]; exact hA f hf) hbx
    · rw [TS.set_ne _ _ hbb] at hb'
      exact (h.cells b' z' N' l' hb').mono (fun _ h => h) (fun f hf => by rw [hobj]; exact hA f hf) hbx (hne b' hbb) fun f u N hl => by rw [hobj]; exact hoth f (hother hl rfl hbb)
  · by_cases hbb : b' = b
    · subst hbb; rw [TS.set_same] at hb'; cases hb'
    · rw [TS.set_ne _ _ hbb] at hb'
      exact (h.maps b' l' hb').mono (fun _ h => h) (fun f hf => by rw [hobj]; exact hA f hf) hbx (hne b' hbb) fun r hl => by rw [hobj]; exact hoth r (hother hl rfl hbb)
  · have := h.glob x hx
    exact ⟨this.1, by rw [hobj, hA _ this.1]; exact this.2⟩
noncomputable def tAppend (Γ : Env) (S : TS) (t : TypeId) (y x : T) : Option (T × TS) := match elemOf? Γ t with
  | some j => (match tSrc S j.size y with
    | some (n, xs) => (match x with
      | .nils => bif Nat.blt 1000000000 (n * (j.bytes + 1)) || Nat.beq j.size 0 || Nat.ble 1000 j.size || not (xs.all T.one) then none else
          bif Nat.beq n 0 then some (.nils, S) else some (.arr S.n j.size 0 n n xs.length, S.add (.cells false xs.length xs))
      | .arr b es off len cap N => (match S.box b with
        | .cells z N' l => bif Nat.blt 1000000000 ((len + n) * (j.bytes + 1)) || Nat.beq j.size 0 || Nat.ble 1000 j.size || not (xs.all T.one) || not (Nat.beq N N') || not (Nat.beq es j.size) then none else
            bif Nat.ble (len + n) cap then
              (bif Nat.beq n 0 then some (.arr b es off (len + n) cap N, S) else
               bif Nat.ble (off + (len + n) * es) N then some (.arr b es off (len + n) cap N, S.set b (.cells z N (spl l (off + len * es) xs))) else none)
            else bif Nat.beq off 0 && Nat.beq (len * es) N && Nat.blt 0 n then some (.arr b es 0 (len + n) (len + n) (N + xs.length), S.set b (.cells false (N + xs.length) (l ++ xs))) else none
        | _ => none)
      | _ => none)
    | none => none)
  | none => none
theorem Stp.newObj {f2 : Nat} {F : Fam} {n' : Nat} {wr : List Nat} (hcan : Can s { s with n := n', obj := objPut s.obj f2 F, wr := wr }) (hin : ∃ g, s.obj = .inr g) (hf2 : f2 = s.n ∨ Own β f2) (hbx : Bx.le β β') (hown : ∀ f, Own β' f → Own β f ∨ s.n ≤ f) (hwr : ∀ x, x ∈ wr → x ∈ s.wr ∨ (x < s.lim ∧ Own β x)) : Stp A β s A β' { s with n := n', obj := objPut s.obj f2 F, wr := wr } := by
  refine ⟨hcan, fun _ h => h, fun _ h => .inl h, hown, fun f hf hno => ?_, hbx, fun _ h => .inl h, hwr⟩
  obtain ⟨g, hg⟩ := hin
  show objAt (objPut s.obj f2 F) f = _
  rw [hg, objPut_inr, objAt_inr, objAt_inr]
  refine fupd_ne _ _ _ _ fun hh => ?_
  subst hh
  rcases hf2 with rfl | hf2
  · omega
  · exact hno hf2
theorem tAppend_ok (h : TRel GL A β S s) {t : TypeId} {x y r : T} {v w : Value} (hx : VT A β (objAt s.obj) x v) (hy : VT A β (objAt s.obj) y w) (ht : tAppend Γ S t y x = some (r, S')) : Ok GL A β s (opAppend Γ s t w v) r S' := by
  unfold tAppend at ht
  split at ht
  · rename_i j hj
    split at ht
    · rename_i n xs hsrc
      split at ht
      · -- nil
        cases hx
        cases hq : (Nat.blt 1000000000 (n * (j.bytes + 1)) || Nat.beq j.size 0 || Nat.ble 1000 j.size || not (xs.all T.one)) with
        | true => rw [hq] at ht; simp at ht
        | false =>
          rw [hq, cond_false] at ht
          simp only [Bool.or_eq_false_iff, Bool.not_eq_false'] at hq
          obtain ⟨⟨⟨q1, q2⟩, q3⟩, q4⟩ := hq
          have hj0 : 0 < j.size := by
            by_cases hh : j.size = 0
            · rw [hh] at q2; simp at q2
            · omega
          have hj1 : j.size < 1000 := by
            by_cases hh : 1000 ≤ j.size
            · rw [ble_ok hh] at q3; simp at q3
            · omega
          obtain ⟨e1, e2, e3⟩ := tSrc_ok h hj0 hy hsrc
          obtain ⟨ys, s1, f1, f2, f3⟩ := e3 n (Nat.le_refl _)
          rw [List.take_of_length_le (by omega)] at f2
          obtain ⟨r1, r2, r3, r4, r5, r6⟩ := f3.rel h
          have c1 : (Nat.blt 1000000000 ((0 + n) * (j.bytes + 1)) || Nat.beq j.size 0 || Nat.ble 1000 j.size || not (ys.all oneC)) = false := by
            rw [Nat.zero_add, q1, q2, q3, f2.one q4]; rfl
          cases hn : Nat.beq n 0 with
          | true =>
            rw [hn] at ht
            cases ht
            have : opAppend Γ s t w (.slice none 0 0) = some (.slice none 0 0, s1) := by
              unfold opAppend CS.append
              simp only [hj, e1, f1, c1, cond_false, hn, cond_true]
            rw [this]
            exact ⟨_, s1, A, β, rfl, r1, .nils, r2⟩
          | false =>
            rw [hn] at ht
            cases ht
            rw [← r3] at f2
            obtain ⟨s2, β2, k1, k2, k3, k4⟩ := r1.newBox (j.size + 1) (by omega) f2 (f2.one q4)
            have hb0 : Nat.beq (j.size + 1) 0 = false := rfl
            rw [hb0] at k3
            have : opAppend Γ s t w (.slice none 0 0) = some (.slice (some (mkA s1.n (s1.n * 1024 + (j.size + 1)) 0)) (0 + n) (0 + n), s2) := by
              unfold opAppend CS.append
              simp only [hj, e1, f1, c1, cond_false, hn, k1, sliceC]
            rw [this, Nat.zero_add]
            exact ⟨_, s2, A, β2, rfl, k3, .arr k2 (.inr (by omega)), r2.trans h.le k4⟩
      · rename_i b es off len cap N
        split at ht
        · rename_i z N' l hS
          cases hq : (Nat.blt 1000000000 ((len + n) * (j.bytes + 1)) || Nat.beq j.size 0 || Nat.ble 1000 j.size || not (xs.all T.one) || not (Nat.beq N N') || not (Nat.beq es j.size)) with
          | true => rw [hq] at ht; simp at ht
          | false =>
            rw [hq, cond_false] at ht
            simp only [Bool.or_eq_false_iff, Bool.not_eq_false'] at hq
            obtain ⟨⟨⟨⟨⟨q1, q2⟩, q3⟩, q4⟩, q5⟩, q6⟩ := hq
            have := Nat.eq_of_beq_eq_true q5
            subst this
            have := Nat.eq_of_beq_eq_true q6
            subst this
            have hj0 : 0 < j.size := by
              by_cases hh : j.size = 0
              · rw [hh] at q2; simp at q2
              · omega
            have hj1 : j.size < 1000 := by
              by_cases hh : 1000 ≤ j.size
              · rw [ble_ok hh] at q3; simp at q3
              · omega
            obtain ⟨e1, e2, e3⟩ := tSrc_ok h hj0 hy hsrc
            obtain ⟨ys, s1, f1, f2, f3⟩ := e3 n (Nat.le_refl _)
            rw [List.take_of_length_le (by omega)] at f2
            obtain ⟨r1, r2, r3, r4, r5, r6⟩ := f3.rel h
            have f2' := f2
            rw [← r3] at f2'
            have q4' := f2.one q4
            have c1 : (Nat.blt 1000000000 ((len + n) * (j.bytes + 1)) || Nat.beq j.size 0 || Nat.ble 1000 j.size || not (ys.all oneC)) = false := by
              rw [q1, q2, q3, q4']; rfl
            have hlN := (h.cells b z N l hS).1
            have hx' := hx
            rw [← r3] at hx'
            cases hc : Nat.ble (len + n) cap with
            | true =>
              rw [hc, cond_true] at ht
              cases hn : Nat.beq n 0 with
              | true =>
                rw [hn] at ht
                cases ht
                have hn0 := Nat.eq_of_beq_eq_true hn
                subst hn0
                rcases arr_inv h hS hx with ⟨f, u, rfl, hb, htag⟩ | ⟨rfl, hb, rfl, rfl, rfl, rfl⟩
                · have : opAppend Γ s t w (.slice (some (mkA f u off)) len cap) = some (.slice (some (mkA f u off)) (len + 0) cap, s1) := by
                    unfold opAppend CS.append
                    simp only [hj, e1, f1, c1, cond_false, hc, cond_true]
                    rfl
                  rw [this]
                  exact ⟨_, s1, A, β, rfl, r1, .arr hb htag, r2⟩
                · have : opAppend Γ s t w (.slice none 0 0) = some (.slice none 0 0, s1) := by
                    unfold opAppend CS.append
                    simp only [hj, e1, f1, c1, cond_false]
                    rfl
                  rw [this]
                  exact ⟨_, s1, A, β, rfl, r1, .arrNil hb, r2⟩
              | false =>
                rw [hn, cond_false] at ht
                have hn0 : n ≠ 0 := fun hh => by rw [hh] at hn; simp at hn
                cases hfit : Nat.ble (off + (len + n) * j.size) N with
                | false => rw [hfit] at ht; simp at ht
                | true =>
                  rw [hfit] at ht
                  cases ht
                  have hfit' := ble_iff.1 hfit
                  rcases arr_inv h hS hx with ⟨f, u, rfl, hb, htag⟩ | ⟨rfl, hb, rfl, rfl, rfl, rfl⟩
                  · obtain ⟨s2, k1, k2, k3⟩ := r1.write (off := off + len * j.size) hS hb f2' q4' (by rw [e2]; rw [Nat.add_mul] at hfit'; omega)
                    have : opAppend Γ s t w (.slice (some (mkA f u off)) len cap) = some (.slice (some (mkA f u off)) (len + n) cap, s2) := by
                      unfold opAppend CS.append
                      simp only [hj, e1, f1, c1, cond_false, hc, cond_true, hn, plus_mk, k1]
                    rw [this]
                    exact ⟨_, s2, A, β, rfl, k2, .arr hb htag, r2.trans h.le k3⟩
                  · have := ble_iff.1 hc; omega
            | false =>
              rw [hc, cond_false] at ht
              cases hw : (Nat.beq off 0 && Nat.beq (len * j.size) N && Nat.blt 0 n) with
              | false => rw [hw] at ht; simp at ht
              | true =>
                rw [hw] at ht
                cases ht
                simp only [Bool.and_eq_true] at hw
                obtain ⟨⟨w1, w2⟩, w3⟩ := hw
                have w1' := Nat.eq_of_beq_eq_true w1
                subst w1'
                have w2' := Nat.eq_of_beq_eq_true w2
                have hcap : cap < len + n := by
                  by_cases hh : len + n ≤ cap
                  · rw [ble_ok hh] at hc; simp at hc
                  · omega
                rcases arr_inv h hS hx with ⟨f, u, rfl, hb, htag⟩ | ⟨rfl, hb, -, rfl, rfl, rfl⟩
                · -- a row that is too small
                  obtain ⟨_, hcell⟩ := r1.cells b z N l hS
                  rcases hcell with ⟨hb2, _, _⟩ | ⟨f', u', cs, rest, hb2, hz, hat, hv, hone⟩
                  · rw [hb] at hb2; simp at hb2
                  rw [hb] at hb2
                  cases hb2
                  have hcl := hv.len
                  have hn0 : 0 < n := blt_iff.1 w3
                  obtain ⟨g, hin⟩ := r1.inr
                  have hg : g f = ⟨false, (u, cs) :: rest, none⟩ := by rw [hin] at hat; exact hat
                  have hrow : rowOf ((u, cs) :: rest) u = some cs := by unfold rowOf; rw [Nat.beq_refl]; rfl
                  have hvl : VL A β (objAt s1.obj) (l ++ xs) (cs ++ ys) := hv.append f2'
                  have hall : (cs ++ ys).all oneC = true := by rw [List.all_append, hone, q4']; rfl
                  -- the old cells
                  have hold : ∃ s2, (bif Nat.beq len 0 then some ([], s1) else s1.firstCells j.size len (.slice (some (mkA f u 0)) len cap)) = some (cs, s2) ∧ Rd A β s1 s2 := by
                    cases hz0 : Nat.beq len 0 with
                    | true =>
                      have := Nat.eq_of_beq_eq_true hz0
                      subst this
                      have : cs = [] := by
                        apply List.eq_nil_of_length_eq_zero
                        rw [← hcl, hlN, ← w2']; simp
                      rw [this]
                      exact ⟨s1, rfl, .inl rfl⟩
                    | false =>
                      have hne : len ≠ 0 := fun hh => by rw [hh] at hz0; simp at hz0
                      have hlm : 0 < len * j.size := Nat.mul_pos (by omega) hj0
                      refine ⟨{ s1 with rd := ins s1.lim s1.rd f }, ?_, .inr ⟨f, .inr (own_live hb), rfl⟩⟩
                      rw [cond_false]
                      unfold CS.firstCells CS.readRow
                      simp only [beq_no (show len * j.size ≠ 0 by omega), cond_false, ver_mk, block_mk, hat, hrow, off_mk]
                      rw [cut_ok (by omega), List.drop_zero, List.take_of_length_le (by omega)]
                  obtain ⟨s2, o1, o2⟩ := hold
                  obtain ⟨t1, t2, t3, t4, t5, t6⟩ := o2.rel r1
                  have hlen2 : (l ++ xs).length = N + xs.length := by rw [List.length_append, hlN]
                  have hxpos : 0 < xs.length := by rw [e2]; exact Nat.mul_pos hn0 hj0
                  have hvl2 : VL A β (objAt s2.obj) (l ++ xs) (cs ++ ys) := by rw [t3]; exact hvl
                  have hat2 : objAt s2.obj f = ⟨false, (u, cs) :: rest, none⟩ := by rw [t3]; exact hat
                  have hin2 : s2.obj = .inr g := by rw [t3]; exact hin
                  have base : ∀ (res : Option (Value × CS)), (bif Nat.beq (u % 1024) 0 then sliceC (len + n) (len + n) (s2.newRow (j.size + 1) (cs ++ ys)) else bif Nat.beq (u % 1024) (j.size + 1) then s2.grow (mkA f u 0) (j.size + 1) (0 + len * j.size) (len + n) (cs ++ ys) else none) = res → opAppend Γ s t w (.slice (some (mkA f u 0)) len cap) = res := by
                    intro res hres
                    unfold opAppend CS.append
                    simp only [hj, e1, f1, c1, cond_false, hc, o1, ver_mk, off_mk]
                    exact hres
                  cases hu0 : Nat.beq (u % 1024) 0 with
                  | true =>
                    have hnr : s2.newRow (j.size + 1) (cs ++ ys) = some (mkA s2.n (s2.n * 1024 + (j.size + 1)) 0, s2.rowed (j.size + 1) (cs ++ ys)) := by
                      unfold CS.newRow
                      have : roomIn s2.obj s2.n = true := by rw [hin2]; rfl
                      rw [this, sel_true]; rfl
                    obtain ⟨p1, p2, p3, p4⟩ := t1.fresh ⟨false, [(s2.n * 1024 + (j.size + 1), cs ++ ys)], none⟩ rfl (fun p hp => by simp at hp; subst hp; show (s2.n * 1024 + (j.size + 1)) / 1024 < s2.n + 1; omega)
                    obtain ⟨m1, m2, m3⟩ := t1.moved (s' := s2.rowed (j.size + 1) (cs ++ ys)) (b := b) (f2 := s2.n) (u2 := s2.n * 1024 + (j.size + 1)) (N2 := N + xs.length) (z := false) (g' := fupd g s2.n ⟨false, [(s2.n * 1024 + (j.size + 1), cs ++ ys)], none⟩) (rest := []) hb (.inr (by omega)) (.inl rfl)
                      (by show objPut s2.obj s2.n _ = _; rw [hin2, objPut_inr]) p1.inv (by show s2.n ≤ s2.n + 1; omega) (by show s2.n < s2.n + 1; omega) (fun k hk => by rw [fupd_ne _ _ _ _ hk, hin2]; rfl) (fupd_same _ _ _) hvl2 hall hlen2 (by simp)
                    rw [base (some (.slice (some (mkA s2.n (s2.n * 1024 + (j.size + 1)) 0)) (len + n) (len + n), s2.rowed (j.size + 1) (cs ++ ys))) (by rw [hu0, cond_true, hnr]; rfl)]
                    refine ⟨_, _, A, _, rfl, m1, .arr (if_pos rfl) (.inr (by omega)), r2.trans h.le (t2.trans r1.le ?_)⟩
                    exact Stp.newObj p2 t1.inr (.inl rfl) m2 m3 (fun x hx => .inl hx)
                  | false =>
                    have hu1 : u % 1024 = j.size + 1 := by
                      rcases htag with hh | hh
                      · rw [hh] at hu0; simp at hu0
                      · exact hh
                    have hgr : s2.grow (mkA f u 0) (j.size + 1) (0 + len * j.size) (len + n) (cs ++ ys) = some (.slice (some (mkA f (s2.n * 1024 + (j.size + 1)) 0)) (len + n) (len + n), { s2 with n := s2.n + 1, obj := objPut s2.obj f ⟨false, (s2.n * 1024 + (j.size + 1), cs ++ ys) :: dropTo ((u, cs) :: rest) u, none⟩, wr := ins s2.lim s2.wr f }) := by
                      unfold CS.grow
                      simp only [block_mk, ver_mk, hat2, hrow]
                      rw [beq_ok (show 0 + len * j.size = cs.length by omega), sel_true]
                    have hcan := grow_can' t1.inv (show j.size + 1 < 1024 by omega) hgr
                    obtain ⟨m1, m2, m3⟩ := t1.moved (s' := { s2 with n := s2.n + 1, obj := objPut s2.obj f ⟨false, (s2.n * 1024 + (j.size + 1), cs ++ ys) :: dropTo ((u, cs) :: rest) u, none⟩, wr := ins s2.lim s2.wr f }) (b := b) (f2 := f) (u2 := s2.n * 1024 + (j.size + 1)) (N2 := N + xs.length) (z := false) (g' := fupd g f ⟨false, (s2.n * 1024 + (j.size + 1), cs ++ ys) :: dropTo ((u, cs) :: rest) u, none⟩) hb (.inr (by omega)) (.inr rfl)
                      (by show objPut s2.obj f _ = _; rw [hin2, objPut_inr]) (t1.inv.next hcan) (by show s2.n ≤ s2.n + 1; omega) (by have := (t1.dis f (own_live hb)).1; show f < s2.n + 1; omega) (fun k hk => by rw [fupd_ne _ _ _ _ hk, hin2]; rfl) (fupd_same _ _ _) hvl2 hall hlen2 (by simp)
                    rw [base _ (by rw [hu0, cond_false, beq_ok hu1, cond_true, hgr])]
                    refine ⟨_, _, A, _, rfl, m1, .arr (if_pos rfl) (.inr (by omega)), r2.trans h.le (t2.trans r1.le ?_)⟩
                    refine Stp.newObj hcan t1.inr (.inr (own_live hb)) m2 m3 (fun x hx => ?_)
                    rcases mem_ins hx with q | ⟨rfl, q⟩
                    · exact .inl q
                    · exact .inr ⟨q, own_live hb⟩
                · -- nothing yet
                  have hn0 : 0 < n := blt_iff.1 w3
                  have hl0 : l = [] := List.eq_nil_of_length_eq_zero hlN
                  subst hl0
                  have hxpos : 0 < xs.length := by rw [e2]; exact Nat.mul_pos hn0 hj0
                  obtain ⟨g, hin⟩ := r1.inr
                  have hnr : s1.newRow (j.size + 1) ys = some (mkA s1.n (s1.n * 1024 + (j.size + 1)) 0, s1.rowed (j.size + 1) ys) := by
                    unfold CS.newRow
                    have : roomIn s1.obj s1.n = true := by rw [hin]; rfl
                    rw [this, sel_true]; rfl
                  obtain ⟨p1, p2, p3, p4⟩ := r1.fresh ⟨false, [(s1.n * 1024 + (j.size + 1), ys)], none⟩ rfl (fun p hp => by simp at hp; subst hp; show (s1.n * 1024 + (j.size + 1)) / 1024 < s1.n + 1; omega)
                  obtain ⟨m1, m2, m3⟩ := r1.moved (s' := s1.rowed (j.size + 1) ys) (b := b) (f2 := s1.n) (u2 := s1.n * 1024 + (j.size + 1)) (N2 := 0 + xs.length) (z := false) (g' := fupd g s1.n ⟨false, [(s1.n * 1024 + (j.size + 1), ys)], none⟩) (rest := []) (xs := [] ++ xs) hb (by show 0 < 0 + xs.length; omega) (.inl rfl)
                    (by show objPut s1.obj s1.n _ = _; rw [hin, objPut_inr]) p1.inv (by show s1.n ≤ s1.n + 1; omega) (by show s1.n < s1.n + 1; omega) (fun k hk => by rw [fupd_ne _ _ _ _ hk, hin]; rfl) (fupd_same _ _ _) f2' q4' (by simp) (by simp)
                  have : opAppend Γ s t w (.slice none 0 0) = some (.slice (some (mkA s1.n (s1.n * 1024 + (j.size + 1)) 0)) (0 + n) (0 + n), s1.rowed (j.size + 1) ys) := by
                    unfold opAppend CS.append
                    simp only [hj, e1, f1, c1, cond_false, beq_no (show n ≠ 0 by omega), hnr, sliceC]
                  rw [this]
                  refine ⟨_, _, A, _, rfl, m1, .arr (if_pos rfl) (.inr (by omega)), r2.trans h.le ?_⟩
                  exact Stp.newObj p2 r1.inr (.inl rfl) m2 m3 (fun x hx => .inl hx)
        · simp at ht
      · simp at ht
    · simp at ht
  · simp at ht
end
end Go.Proofs.Ytfalnphlgfoflaa
