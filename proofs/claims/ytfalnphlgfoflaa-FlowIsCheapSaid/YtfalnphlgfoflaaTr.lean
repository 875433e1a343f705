/- Trees: a call's law in a small state, used in a greater one whose boxes are told one by one. No program in sight. -/
import Derived.Test.YtfalnphlgfoflaaSh
namespace Go.Proofs.Ytfalnphlgfoflaa
open Go Go.RowKit
set_option linter.unusedSimpArgs false
set_option linter.unusedVariables false
set_option linter.unusedSectionVars false
def atR (rl : List Nat) (i : Nat) : Nat := rl.getD i 0
def memB : List Nat → Nat → Bool
  | [], _ => false
  | y :: l, x => Nat.beq y x || memB l x
def nodupB : List Nat → Bool
  | [] => true
  | x :: l => !(memB l x) && nodupB l
def rlOk (n0 n1 m m' : Nat) (rl : List Nat) : Bool :=
  Nat.ble n0 n1 && (Nat.beq rl.length n1 && (Nat.ble m m' && (rl.all (fun x => Nat.blt x m') && ((rl.take n0).all (fun x => Nat.blt x m) && ((rl.drop n0).all (fun x => Nat.ble m x) && nodupB rl)))))
def PreL (ρ : Nat → Nat) (n : Nat) (bs : List Box) : List Nat → List Box → Prop
  | r :: rl, b :: bl => (bs.getD r .gone = renBox ρ b ∧ boxIds n b = true) ∧ PreL ρ n bs rl bl
  | _, _ => True
def RestL (rl : List Nat) : Nat → List Box → List Box → Prop
  | i, a :: l, b :: m => (memB rl i = true ∨ b = a) ∧ RestL rl (i + 1) l m
  | i, [], b :: m => memB rl i = true ∧ RestL rl (i + 1) [] m
  | _, _, [] => True
theorem PreL.get {ρ : Nat → Nat} {n : Nat} {bs : List Box} : ∀ {rl : List Nat} {bl : List Box}, PreL ρ n bs rl bl → ∀ i, i < rl.length → i < bl.length → bs.getD (rl.getD i 0) .gone = renBox ρ (bl.getD i .gone) ∧ boxIds n (bl.getD i .gone) = true
  | r :: rl, b :: bl, h, 0, _, _ => h.1
  | r :: rl, b :: bl, h, i + 1, h1, h2 => PreL.get (rl := rl) (bl := bl) h.2 i (by simpa using h1) (by simpa using h2)
theorem RestL.get {rl : List Nat} : ∀ {i : Nat} {l m : List Box}, RestL rl i l m → l.length ≤ m.length → ∀ b, memB rl (i + b) = false → m.getD b .gone = l.getD b .gone
  | i, a :: l, b :: m, h, hl, 0, hm => by
    rcases h.1 with q | q
    · rw [Nat.add_zero] at hm; rw [hm] at q; cases q
    · exact q
  | i, a :: l, b :: m, h, hl, k + 1, hm => RestL.get (l := l) (m := m) h.2 (by simpa using hl) k (by rw [show i + 1 + k = i + (k + 1) by omega]; exact hm)
  | i, [], b :: m, h, hl, 0, hm => by have q := h.1; rw [Nat.add_zero] at hm; rw [hm] at q; cases q
  | i, [], b :: m, h, hl, k + 1, hm => RestL.get (l := []) (m := m) h.2 (Nat.zero_le _) k (by rw [show i + 1 + k = i + (k + 1) by omega]; exact hm)
  | i, [], [], h, hl, k, hm => rfl
theorem all_getD {p : Nat → Bool} : ∀ {l : List Nat}, l.all p = true → ∀ i, i < l.length → p (l.getD i 0) = true
  | x :: l, h, 0, _ => by simp only [List.all_cons, Bool.and_eq_true] at h; exact h.1
  | x :: l, h, i + 1, hi => by
    simp only [List.all_cons, Bool.and_eq_true] at h
    exact all_getD (l := l) h.2 i (by simpa using hi)
theorem memB_get : ∀ {l : List Nat} {i : Nat}, i < l.length → memB l (l.getD i 0) = true
  | x :: l, 0, _ => by show (Nat.beq x x || memB l x) = true; rw [Nat.beq_refl]; rfl
  | x :: l, i + 1, h => by
    show (Nat.beq x (l.getD i 0) || memB l (l.getD i 0)) = true
    rw [memB_get (l := l) (by simpa using h), Bool.or_true]
theorem nodupB_inj : ∀ {l : List Nat}, nodupB l = true → ∀ i j, i < l.length → j < l.length → l.getD i 0 = l.getD j 0 → i = j
  | x :: l, h, 0, 0, _, _, _ => rfl
  | x :: l, h, 0, j + 1, _, hj, e => by
    simp only [nodupB, Bool.and_eq_true, Bool.not_eq_true'] at h
    have := memB_get (l := l) (i := j) (by simpa using hj)
    rw [show l.getD j 0 = x from e.symm] at this
    rw [h.1] at this; cases this
  | x :: l, h, i + 1, 0, hi, _, e => by
    simp only [nodupB, Bool.and_eq_true, Bool.not_eq_true'] at h
    have := memB_get (l := l) (i := i) (by simpa using hi)
    rw [show l.getD i 0 = x from e] at this
    rw [h.1] at this; cases this
  | x :: l, h, i + 1, j + 1, hi, hj, e => by
    simp only [nodupB, Bool.and_eq_true] at h
    rw [nodupB_inj (l := l) h.2 i j (by simpa using hi) (by simpa using hj) e]
theorem stL_out {bs : List Box} {b : Nat} (h : bs.length ≤ b) : (stL bs).box b = .gone := by
  show bs.getD b .gone = .gone
  rw [List.getD_eq_getElem?_getD, List.getElem?_eq_none h]; rfl
theorem fits_of {rl : List Nat} {bs0 bs1 bs bs' : List Box} (h1 : rlOk bs0.length bs1.length bs.length bs'.length rl = true) (h4 : PreL (atR rl) bs0.length bs rl bs0) (h5 : PreL (atR rl) bs1.length bs' rl bs1) (h6 : RestL rl 0 bs bs') : Fits (atR rl) (stL bs0) (stL bs1) (stL bs) (stL bs') := by
  unfold rlOk at h1
  simp only [Bool.and_eq_true] at h1
  obtain ⟨a1, a2, a3, a4, a5, a6, a7⟩ := h1
  have a1 := ble_iff.1 a1
  have a2 := Nat.eq_of_beq_eq_true a2
  have a3 := ble_iff.1 a3
  refine ⟨a1, fun b hb => stL_out hb, fun i hi => ?_, fun i hi hj => ?_, fun i hi => ?_, a3, fun i j hi hj e => ?_, fun i hi => ?_, fun i hi => ?_, fun b hb => ?_⟩
  · have hi : i < bs0.length := hi
    have := all_getD a5 i (by rw [List.length_take]; omega)
    rw [List.getD_eq_getElem?_getD, List.getElem?_take, if_pos hi, ← List.getD_eq_getElem?_getD] at this
    exact blt_iff.1 this
  · have hi : bs0.length ≤ i := hi
    have hj : i < bs1.length := hj
    have := all_getD a6 (i - bs0.length) (by rw [List.length_drop]; omega)
    rw [List.getD_eq_getElem?_getD, List.getElem?_drop, show bs0.length + (i - bs0.length) = i by omega, ← List.getD_eq_getElem?_getD] at this
    exact ble_iff.1 this
  · have hi : i < bs1.length := hi
    exact blt_iff.1 (all_getD a4 i (by omega))
  · exact nodupB_inj a7 i j (by rw [a2]; exact hi) (by rw [a2]; exact hj) e
  · have hi : i < bs0.length := hi
    exact h4.get i (by omega) hi
  · have hi : i < bs1.length := hi
    exact h5.get i (by omega) hi
  · refine h6.get a3 b ?_
    rw [Nat.zero_add]
    cases hm : memB rl b with
    | false => rfl
    | true =>
      exfalso
      have key : ∀ {l : List Nat}, memB l b = true → ∃ i, i < l.length ∧ l.getD i 0 = b := by
        intro l
        induction l with
        | nil => intro h; cases h
        | cons x l ih =>
          intro h
          simp only [memB, Bool.or_eq_true] at h
          rcases h with h | h
          · exact ⟨0, by simp, Nat.eq_of_beq_eq_true h⟩
          · obtain ⟨i, h1, h2⟩ := ih h
            exact ⟨i + 1, by simpa using h1, h2⟩
      obtain ⟨i, q1, q2⟩ := key hm
      exact hb i (by show i < bs1.length; omega) q2
theorem Call.at {P : Program} {Γ : Env} {GL : List (Nat × List Value)} {f : FuncId} {args args' : List T} {v v' : T} {bs0 bs1 bs bs' : List Box} (rl : List Nat) (k : Call P Γ GL f args (stL bs0) v (stL bs1)) (h1 : rlOk bs0.length bs1.length bs.length bs'.length rl = true) (h2 : T.idsL bs0.length args = true) (h3 : v.ids bs1.length = true) (h4 : PreL (atR rl) bs0.length bs rl bs0) (h5 : PreL (atR rl) bs1.length bs' rl bs1) (h6 : RestL rl 0 bs bs') (ea : T.renL (atR rl) args = args') (ev : v.ren (atR rl) = v') : Call P Γ GL f args' (stL bs) v' (stL bs') := by
  subst ea ev
  exact Call.frame k h2 h3 (fits_of h1 h4 h5 h6)
theorem vecC_split {α : Type} [Inhabited α] (f : α → T) (e : Nat) (he : ∀ x, (f x).cells.length = e) : ∀ {l : List α} {i : Nat}, i < l.length → vecC f l = vecC f (l.take i) ++ ((f (l.getD i default)).cells ++ vecC f (l.drop (i + 1))) ∧ (vecC f (l.take i)).length = i * e
  | x :: l, 0, _ => ⟨by show vecC f (x :: l) = [] ++ ((f x).cells ++ vecC f l); unfold vecC; simp, by simp [vecC]⟩
  | x :: l, i + 1, h => by
    obtain ⟨h1, h2⟩ := vecC_split f e he (l := l) (i := i) (by simpa using h)
    have c : ∀ m : List α, vecC f (x :: m) = (f x).cells ++ vecC f m := fun m => by unfold vecC; simp
    constructor
    · show vecC f (x :: l) = vecC f (x :: l.take i) ++ ((f (l.getD i default)).cells ++ vecC f (l.drop (i + 1)))
      rw [c, c, List.append_assoc, ← h1]
    · show (vecC f (x :: l.take i)).length = (i + 1) * e
      rw [c, List.length_append, he, h2, Nat.add_mul]; omega
theorem vecC_at {α : Type} [Inhabited α] (f : α → T) (e j : Nat) {l : List α} {i : Nat} (he : ∀ x, (f x).cells.length = e) (hj : j < e) (h : i < l.length) : (vecC f l)[i * e + j]? = (f (l.getD i default)).cells[j]? := by
  obtain ⟨h1, h2⟩ := vecC_split f e he h
  have hc := he (l.getD i default)
  rw [h1, List.getElem?_append_right (by omega), List.getElem?_append_left (by omega)]
  congr 1; omega
theorem vecC_at0 {α : Type} [Inhabited α] (f : α → T) (e : Nat) {l : List α} {i : Nat} (he : ∀ x, (f x).cells.length = e) (hj : 0 < e) (h : i < l.length) : (vecC f l)[i * e]? = (f (l.getD i default)).cells[0]? := vecC_at f e 0 he hj h
end Go.Proofs.Ytfalnphlgfoflaa
