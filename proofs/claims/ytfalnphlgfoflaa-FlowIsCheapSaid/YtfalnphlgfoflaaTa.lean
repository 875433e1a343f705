/- Trees: values of the plain machine without addresses: a slice that nobody writes any more is the list of its elements, a row that the run owns is a numbered box. What a tree stands for. No program in sight. -/
import Derived.Test.YtfalnphlgfoflaaCmC
namespace Go.Proofs.Ytfalnphlgfoflaa
open Go Go.RowKit
inductive T where
  | int (k : IntKind) (n : Int)
  | bool (b : Bool)
  | str (b : ByteArray)
  | agg (l : List T)
  | tup (l : List T)
  | lst (e : Nat) (l : List T)
  | nils
  | nilp
  | nilm
  | nilf
  | ptr (b off N : Nat)
  | cp (l : List T)
  | arr (b e off len cap N : Nat)
  | mp (b : Nat)
  | fn (f : Nat) (first cap : List T)
  | junk
  | emp (e : Nat)
def T.cells : T → List T
  | .agg l => l
  | t => [t]
inductive Loc where
  | live (f u N : Nat)
  | nil
  | map (r : Nat)
  | dead
def Loc.le : Loc → Loc → Prop
  | .live f u N, l => match l with | .live f' u' N' => (f = f' ∧ u = u' ∧ N = N') ∨ N < N' | .dead => True | _ => False
  | .nil, l => match l with | .nil => True | .live _ _ N => 0 < N | .dead => True | _ => False
  | .map r, l => match l with | .map r' => r = r' | .dead => True | _ => False
  | .dead, l => match l with | .dead => True | _ => False
theorem Loc.le_refl (l : Loc) : Loc.le l l := by cases l <;> simp [Loc.le]
theorem Loc.le_trans {a b c : Loc} (h : Loc.le a b) (k : Loc.le b c) : Loc.le a c := by
  cases a <;> cases b <;> cases c <;> simp_all [Loc.le] <;> omega
abbrev Bx := Nat → Option Loc
def Bx.le (β β' : Bx) : Prop := ∀ b l, β b = some l → ∃ l', β' b = some l' ∧ Loc.le l l'
theorem Bx.le_refl (β : Bx) : Bx.le β β := fun b l h => ⟨l, h, Loc.le_refl l⟩
theorem Bx.le_trans {a b c : Bx} (h : Bx.le a b) (k : Bx.le b c) : Bx.le a c := fun x l hx => by
  obtain ⟨l', h1, h2⟩ := h x l hx
  obtain ⟨l2, h3, h4⟩ := k x l' h1
  exact ⟨l2, h3, Loc.le_trans h2 h4⟩
def tagOk (u e : Nat) : Prop := u % 1024 = 0 ∨ u % 1024 = e + 1
mutual
inductive VT (A : Nat → Prop) (β : Bx) (g : Nat → Fam) : T → Value → Prop
  | int (k n) : VT A β g (.int k n) (.int k n)
  | bool (b) : VT A β g (.bool b) (.bool b)
  | str (b) : VT A β g (.str b) (.string b)
  | agg {l cs} : VL A β g l cs → VT A β g (.agg l) (.agg ⟨cs⟩)
  | tup {l vs} : VL A β g l vs → VT A β g (.tup l) (.tuple ⟨vs⟩)
  | lnil {e} : VT A β g (.lst e []) (.slice none 0 0)
  | lst {e l f u off cap cs cs0} : A f → rowOf (g f).rows u = some cs0 → VL A β g (l.flatMap T.cells) cs → (∀ t, t ∈ l → t.cells.length = e) → 0 < e → (cs0.drop off).take cs.length = cs → tagOk u e → l.length ≤ cap → VT A β g (.lst e l) (.slice (some (mkA f u off)) l.length cap)
  | nils : VT A β g .nils (.slice none 0 0)
  | nilp : VT A β g .nilp (.pointer none)
  | nilm : VT A β g .nilm (.map none)
  | nilf : VT A β g .nilf .nilFunc
  | ptr {b off f u N} : β b = some (.live f u N) → VT A β g (.ptr b off N) (.pointer (some (mkA f u off)))
  | ptrOld {b off N l v} : β b = some l → (∀ f u, l ≠ .live f u N) → Loc.le (.live 0 0 N) l → oneC v = true → VT A β g (.ptr b off N) v
  | cp {l f u off cs cs0} : A f → rowOf (g f).rows u = some cs0 → VL A β g l cs → (cs0.drop off).take cs.length = cs → VT A β g (.cp l) (.pointer (some (mkA f u off)))
  | arr {b e off len cap f u N} : β b = some (.live f u N) → tagOk u e → VT A β g (.arr b e off len cap N) (.slice (some (mkA f u off)) len cap)
  | arrNil {b e} : β b = some .nil → VT A β g (.arr b e 0 0 0 0) (.slice none 0 0)
  | arrOld {b e off len cap N l v} : β b = some l → (∀ f u, l ≠ .live f u N) → Loc.le (.live 0 0 N) l → oneC v = true → VT A β g (.arr b e off len cap N) v
  | mp {b r} : β b = some (.map r) → VT A β g (.mp b) (.map (some r))
  | mpOld {b v} : β b = some .dead → oneC v = true → VT A β g (.mp b) v
  | fn {f a c va vc} : VL A β g a va → VL A β g c vc → VT A β g (.fn f a c) (.func (.func f) ⟨va⟩ ⟨vc⟩)
  | junk (v) : VT A β g .junk v
  | emp {e f u off cap cs0} : A f → rowOf (g f).rows u = some cs0 → 0 < e → tagOk u e → VT A β g (.emp e) (.slice (some (mkA f u off)) 0 cap)
inductive VL (A : Nat → Prop) (β : Bx) (g : Nat → Fam) : List T → List Value → Prop
  | nil : VL A β g [] []
  | cons {t v l vs} : VT A β g t v → VL A β g l vs → VL A β g (t :: l) (v :: vs)
end
section
variable {A A' : Nat → Prop} {β β' : Bx} {g g' : Nat → Fam}
theorem live_le {f u N : Nat} {l : Loc} (h : Loc.le (.live f u N) l) : l = .live f u N ∨ ((∀ f u, l ≠ .live f u N) ∧ Loc.le (.live 0 0 N) l) := by
  cases l with
  | live f' u' N' =>
    simp only [Loc.le] at h
    rcases h with ⟨rfl, rfl, rfl⟩ | h
    · exact .inl rfl
    · refine .inr ⟨fun f u hh => ?_, .inr h⟩
      cases hh; omega
  | dead => exact .inr ⟨fun _ _ hh => by simp at hh, trivial⟩
  | nil => simp [Loc.le] at h
  | map r => simp [Loc.le] at h
theorem old_le {N : Nat} {l l' : Loc} (h0 : ∀ f u, l ≠ .live f u N) (h : Loc.le (.live 0 0 N) l) (k : Loc.le l l') : (∀ f u, l' ≠ .live f u N) ∧ Loc.le (.live 0 0 N) l' := by
  cases l with
  | live f' u' N' =>
    simp only [Loc.le] at h
    have hN : N < N' := by
      rcases h with ⟨h1, h2, h3⟩ | h
      · exact absurd rfl (h3 ▸ h0 f' u')
      · exact h
    cases l' with
    | live f2 u2 N2 =>
      simp only [Loc.le] at k
      have : N < N2 := by rcases k with ⟨_, _, rfl⟩ | k <;> omega
      exact ⟨fun f u hh => by cases hh; omega, .inr this⟩
    | dead => exact ⟨fun _ _ hh => by simp at hh, trivial⟩
    | nil => simp [Loc.le] at k
    | map r => simp [Loc.le] at k
  | dead =>
    cases l' with
    | dead => exact ⟨fun _ _ hh => by simp at hh, trivial⟩
    | _ => simp [Loc.le] at k
  | nil => simp [Loc.le] at h
  | map r => simp [Loc.le] at h
mutual
theorem VT.mono (hA : ∀ f, A f → A' f) (hg : ∀ f, A f → g' f = g f) (hβ : Bx.le β β') : ∀ {t : T} {v : Value}, VT A β g t v → VT A' β' g' t v
  | _, _, .int k n => .int k n
  | _, _, .bool b => .bool b
  | _, _, .str b => .str b
  | _, _, .agg h => .agg (VL.mono hA hg hβ h)
  | _, _, .tup h => .tup (VL.mono hA hg hβ h)
  | _, _, .lnil => .lnil
  | _, _, .lst h1 h2 h3 h4 h5 h6 h7 h8 => .lst (hA _ h1) (by rw [hg _ h1]; exact h2) (VL.mono hA hg hβ h3) h4 h5 h6 h7 h8
  | _, _, .nils => .nils
  | _, _, .nilp => .nilp
  | _, _, .nilm => .nilm
  | _, _, .nilf => .nilf
  | _, _, .ptr h => by
    obtain ⟨l', h1, h2⟩ := hβ _ _ h
    rcases live_le h2 with rfl | ⟨h3, h4⟩
    · exact .ptr h1
    · exact .ptrOld h1 h3 h4 rfl
  | _, _, .ptrOld h h0 h1 h2 => by
    obtain ⟨l', k1, k2⟩ := hβ _ _ h
    obtain ⟨k3, k4⟩ := old_le h0 h1 k2
    exact .ptrOld k1 k3 k4 h2
  | _, _, .cp h1 h2 h3 h4 => .cp (hA _ h1) (by rw [hg _ h1]; exact h2) (VL.mono hA hg hβ h3) h4
  | _, _, .arr h ht => by
    obtain ⟨l', h1, h2⟩ := hβ _ _ h
    rcases live_le h2 with rfl | ⟨h3, h4⟩
    · exact .arr h1 ht
    · exact .arrOld h1 h3 h4 rfl
  | _, _, .arrNil h => by
    obtain ⟨l', h1, h2⟩ := hβ _ _ h
    cases l' with
    | nil => exact .arrNil h1
    | live f u N =>
      simp only [Loc.le] at h2
      exact .arrOld h1 (fun f u hh => by cases hh; omega) (.inr h2) rfl
    | dead => exact .arrOld h1 (fun _ _ hh => by simp at hh) trivial rfl
    | map r => simp [Loc.le] at h2
  | _, _, .arrOld h h0 h1 h2 => by
    obtain ⟨l', k1, k2⟩ := hβ _ _ h
    obtain ⟨k3, k4⟩ := old_le h0 h1 k2
    exact .arrOld k1 k3 k4 h2
  | _, _, .mp h => by
    obtain ⟨l', h1, h2⟩ := hβ _ _ h
    cases l' with
    | map r => simp only [Loc.le] at h2; subst h2; exact .mp h1
    | dead => exact .mpOld h1 rfl
    | _ => simp [Loc.le] at h2
  | _, _, .mpOld h h2 => by
    obtain ⟨l', k1, k2⟩ := hβ _ _ h
    cases l' with
    | dead => exact .mpOld k1 h2
    | _ => simp [Loc.le] at k2
  | _, _, .fn h1 h2 => .fn (VL.mono hA hg hβ h1) (VL.mono hA hg hβ h2)
  | _, _, .junk v => .junk v
  | _, _, .emp h1 h2 h3 h4 => .emp (hA _ h1) (by rw [hg _ h1]; exact h2) h3 h4
theorem VL.mono (hA : ∀ f, A f → A' f) (hg : ∀ f, A f → g' f = g f) (hβ : Bx.le β β') : ∀ {l : List T} {vs : List Value}, VL A β g l vs → VL A' β' g' l vs
  | _, _, .nil => .nil
  | _, _, .cons h k => .cons (VT.mono hA hg hβ h) (VL.mono hA hg hβ k)
end
theorem VL.len : ∀ {l : List T} {vs : List Value}, VL A β g l vs → l.length = vs.length
  | _, _, .nil => rfl
  | _, _, .cons _ k => by rw [List.length_cons, List.length_cons, k.len]
theorem VL.get : ∀ {l : List T} {vs : List Value} {i : Nat} {t : T}, VL A β g l vs → l[i]? = some t → ∃ v, vs[i]? = some v ∧ VT A β g t v
  | _, _, _, _, .nil, h => by simp at h
  | _, _, 0, _, .cons h k, hi => by simp at hi; subst hi; exact ⟨_, rfl, h⟩
  | _, _, i + 1, _, .cons h k, hi => by
    obtain ⟨v, h1, h2⟩ := VL.get (i := i) k (by simpa using hi)
    exact ⟨v, by simpa using h1, h2⟩
theorem VL.append : ∀ {l l2 : List T} {vs vs2 : List Value}, VL A β g l vs → VL A β g l2 vs2 → VL A β g (l ++ l2) (vs ++ vs2)
  | _, _, _, _, .nil, k => k
  | _, _, _, _, .cons h k, k2 => .cons h (k.append k2)
theorem VL.split : ∀ {l l2 : List T} {vs : List Value}, VL A β g (l ++ l2) vs → ∃ a b, vs = a ++ b ∧ VL A β g l a ∧ VL A β g l2 b
  | [], _, vs, h => ⟨[], vs, rfl, .nil, h⟩
  | t :: l, l2, _, .cons h k => by
    obtain ⟨a, b, rfl, h1, h2⟩ := VL.split (l := l) k
    exact ⟨_ :: a, b, rfl, .cons h h1, h2⟩
theorem VL.take : ∀ {l : List T} {vs : List Value} (n : Nat), VL A β g l vs → VL A β g (l.take n) (vs.take n)
  | _, _, 0, _ => by simp only [List.take_zero]; exact .nil
  | _, _, n + 1, .nil => by simp only [List.take_nil]; exact .nil
  | _, _, n + 1, .cons h k => by simp only [List.take_succ_cons]; exact .cons h (k.take n)
theorem VL.drop : ∀ {l : List T} {vs : List Value} (n : Nat), VL A β g l vs → VL A β g (l.drop n) (vs.drop n)
  | _, _, 0, h => h
  | _, _, n + 1, .nil => by simp only [List.drop_nil]; exact .nil
  | _, _, n + 1, .cons h k => by simp only [List.drop_succ_cons]; exact k.drop n
theorem VL.splice {l xs : List T} {vs ys : List Value} (off : Nat) (h : VL A β g l vs) (k : VL A β g xs ys) : VL A β g (l.take off ++ xs ++ l.drop (off + xs.length)) (splice vs off ys) := by
  unfold Go.Proofs.Ytfalnphlgfoflaa.splice
  rw [k.len]
  exact ((h.take off).append k).append (h.drop _)
theorem VL.rep {t : T} {v : Value} (h : VT A β g t v) : ∀ n, VL A β g (List.replicate n t) (List.replicate n v)
  | 0 => .nil
  | n + 1 => .cons h (VL.rep h n)
def T.one : T → Bool
  | .agg _ => false
  | .tup _ => false
  | .junk => false
  | _ => true
theorem VT.one {t : T} {v : Value} (h : VT A β g t v) (ht : t.one = true) : oneC v = true := by
  cases h <;> first | rfl | assumption | (simp [T.one] at ht)
theorem VL.one {l : List T} {vs : List Value} (h : VL A β g l vs) (hl : l.all T.one = true) : vs.all oneC = true := by
  induction l generalizing vs with
  | nil => cases h; rfl
  | cons t l ih =>
    cases h with
    | cons h1 h2 =>
      simp only [List.all_cons, Bool.and_eq_true] at hl ⊢
      exact ⟨h1.one hl.1, ih h2 hl.2⟩
theorem VT.cells {t : T} {v : Value} (h : VT A β g t v) (hj : t ≠ .junk) : VL A β g t.cells v.cells.toList := by
  have one : ∀ v : Value, oneC v = true → v.cells.toList = [v] := by intro v hv; cases v <;> first | rfl | simp [oneC] at hv
  cases h with
  | agg h => exact h
  | junk => exact absurd rfl hj
  | tup h => exact .cons (.tup h) .nil
  | ptrOld h0 h1 h2 h3 => simp only [T.cells]; rw [one _ h3]; exact .cons (.ptrOld h0 h1 h2 h3) .nil
  | arrOld h0 h1 h2 h3 => simp only [T.cells]; rw [one _ h3]; exact .cons (.arrOld h0 h1 h2 h3) .nil
  | mpOld h0 h3 => simp only [T.cells]; rw [one _ h3]; exact .cons (.mpOld h0 h3) .nil
  | int k n => exact .cons (.int k n) .nil
  | bool b => exact .cons (.bool b) .nil
  | str b => exact .cons (.str b) .nil
  | lnil => exact .cons .lnil .nil
  | lst h1 h2 h3 h4 h5 h6 h7 h8 => exact .cons (.lst h1 h2 h3 h4 h5 h6 h7 h8) .nil
  | nils => exact .cons .nils .nil
  | nilp => exact .cons .nilp .nil
  | nilm => exact .cons .nilm .nil
  | nilf => exact .cons .nilf .nil
  | ptr h => exact .cons (.ptr h) .nil
  | cp h1 h2 h3 h4 => exact .cons (.cp h1 h2 h3 h4) .nil
  | arr h ht => exact .cons (.arr h ht) .nil
  | arrNil h => exact .cons (.arrNil h) .nil
  | mp h => exact .cons (.mp h) .nil
  | fn h1 h2 => exact .cons (.fn h1 h2) .nil
  | emp h1 h2 h3 h4 => exact .cons (.emp h1 h2 h3 h4) .nil
end
end Go.Proofs.Ytfalnphlgfoflaa
