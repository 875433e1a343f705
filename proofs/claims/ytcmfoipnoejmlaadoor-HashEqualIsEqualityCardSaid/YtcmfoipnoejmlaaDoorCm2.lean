/- The plain machine, second part: what it means that its values and rows stand for those of the model. No program in sight. -/
import Derived.Test.YtcmfoipnoejmlaaDoorCm1
namespace Go.Proofs.YtcmfoipnoejmlaaDoor
open Go

theorem sel_true {α : Type} (x y : α) : sel true x y = x := rfl
theorem sel_false {α : Type} (x y : α) : sel false x y = y := rfl
theorem sel_eq {α : Type} (b : Bool) (x y : α) : sel b x y = if b = true then x else y := by cases b <;> rfl
theorem blt_iff {a b : Nat} : Nat.blt a b = true ↔ a < b := by unfold Nat.blt; rw [Nat.ble_eq]; exact Iff.rfl
theorem ble_iff {a b : Nat} : Nat.ble a b = true ↔ a ≤ b := by rw [Nat.ble_eq]
theorem half_ne {i j : Nat} (h : i ≠ j) (hm : i % 2 = j % 2) : i / 2 ≠ j / 2 := by omega
theorem Tr.get_succ {α : Type} (d : Nat) (t : Tr α (d + 1)) (i : Nat) : Tr.get (d + 1) t i = if i % 2 = 0 then Tr.get d t.1 (i / 2) else Tr.get d t.2 (i / 2) := by
  show (Bool.rec (motive := fun _ => α) (Tr.get d t.2 (i / 2)) (Tr.get d t.1 (i / 2)) (Nat.beq (i % 2) 0) : α) = _
  by_cases h : i % 2 = 0
  · rw [if_pos h, h]; rfl
  · rw [if_neg h, show i % 2 = 1 by omega]; rfl
theorem Tr.set_succ {α : Type} (v : α) (d : Nat) (t : Tr α (d + 1)) (i : Nat) : Tr.set v (d + 1) t i = if i % 2 = 0 then Prod.mk (Tr.set v d t.1 (i / 2)) t.2 else Prod.mk t.1 (Tr.set v d t.2 (i / 2)) := by
  show (Bool.rec (motive := fun _ => Tr α (d + 1)) (Prod.mk t.1 (Tr.set v d t.2 (i / 2))) (Prod.mk (Tr.set v d t.1 (i / 2)) t.2) (Nat.beq (i % 2) 0) : Tr α (d + 1)) = _
  by_cases h : i % 2 = 0
  · rw [if_pos h, h]; rfl
  · rw [if_neg h, show i % 2 = 1 by omega]; rfl
theorem Tr.get_set_same {α : Type} (v : α) (d : Nat) : ∀ (t : Tr α d) (i : Nat), Tr.get d (Tr.set v d t i) i = v := by
  induction d with
  | zero => intro t i; rfl
  | succ d ih =>
    intro t i
    rw [Tr.get_succ, Tr.set_succ]
    by_cases h : i % 2 = 0
    · rw [if_pos h, if_pos h]; exact ih _ _
    · rw [if_neg h, if_neg h]; exact ih _ _
theorem Tr.get_set_other {α : Type} (v : α) (d : Nat) : ∀ (t : Tr α d) (i j : Nat), i ≠ j → i < 2 ^ d → j < 2 ^ d → Tr.get d (Tr.set v d t i) j = Tr.get d t j := by
  induction d with
  | zero => intro t i j h hi hj; simp at hi hj; omega
  | succ d ih =>
    intro t i j h hi hj
    rw [Tr.get_succ, Tr.get_succ, Tr.set_succ]
    have hp : 2 ^ (d + 1) = 2 * 2 ^ d := by rw [Nat.pow_succ]; omega
    by_cases hi2 : i % 2 = 0 <;> by_cases hj2 : j % 2 = 0
    · rw [if_pos hi2, if_pos hj2, if_pos hj2]; exact ih _ _ _ (half_ne h (by omega)) (by omega) (by omega)
    · rw [if_pos hi2, if_neg hj2, if_neg hj2]
    · rw [if_neg hi2, if_pos hj2, if_pos hj2]
    · rw [if_neg hi2, if_neg hj2, if_neg hj2]; exact ih _ _ _ (half_ne h (by omega)) (by omega) (by omega)
theorem Tr.get_all {α : Type} (v : α) (d : Nat) : ∀ i, Tr.get d (Tr.all v d) i = v := by
  induction d with
  | zero => intro i; rfl
  | succ d ih =>
    intro i
    rw [Tr.get_succ]
    split
    · exact ih _
    · exact ih _
theorem Tr.get_of {α : Type} (f : Nat → α) (d : Nat) : ∀ k w i, i < 2 ^ d → Tr.get d (Tr.of f d k w) i = f (k + w * i) := by
  induction d with
  | zero => intro k w i h; have : i = 0 := by simp at h; omega
            subst this; simp; rfl
  | succ d ih =>
    intro k w i h
    have hp : 2 ^ (d + 1) = 2 * 2 ^ d := by rw [Nat.pow_succ]; omega
    rw [Tr.get_succ]
    by_cases h2 : i % 2 = 0
    · rw [if_pos h2]
      show Tr.get d (Tr.of f d k (2 * w)) (i / 2) = _
      rw [ih _ _ _ (by omega)]
      congr 1
      have : i = 2 * (i / 2) := by omega
      calc k + 2 * w * (i / 2) = k + w * (2 * (i / 2)) := by rw [Nat.mul_comm 2 w, Nat.mul_assoc]
        _ = k + w * i := by rw [← this]
    · rw [if_neg h2]
      show Tr.get d (Tr.of f d (k + w) (2 * w)) (i / 2) = _
      rw [ih _ _ _ (by omega)]
      congr 1
      have : i = 2 * (i / 2) + 1 := by omega
      calc k + w + 2 * w * (i / 2) = k + w * (2 * (i / 2) + 1) := by rw [Nat.mul_comm 2 w, Nat.mul_assoc, Nat.mul_add]; omega
        _ = k + w * i := by rw [← this]
theorem Tab.at_mk {α : Type} (f : Nat → Option α) (i : Nat) (a : α) (h : Tab.at (mkTab f) i = some a) : f i = some a := by
  unfold Tab.at at h
  rw [sel_eq] at h
  split at h
  · rename_i hi
    have hi' : i < 256 := blt_iff.1 hi
    unfold mkTab at h
    rw [Tr.get_of f 8 0 1 i (by simpa using hi')] at h
    simpa using h
  · exact absurd h (by simp)

def famNone : Fam := ⟨true, [], none⟩
theorem objAt_put_same {t : Sto} {i : Nat} (x : Fam) (h : roomIn t i = true) : objAt (objPut t i x) i = x := by
  cases t with
  | inr g =>
    show sel (Nat.beq i i) x (g i) = x
    rw [Nat.beq_refl, sel_eq, if_pos rfl]
  | inl t =>
  unfold objAt objPut
  show sel _ (Tr.get 14 (Tr.set x 14 t i) i) _ = x
  rw [sel_eq, if_pos (show Nat.blt i 16384 = true from h)]
  exact Tr.get_set_same _ _ _ _
theorem objAt_put_other {t : Sto} {i j : Nat} (x : Fam) (h : roomIn t i = true) (hij : i ≠ j) : objAt (objPut t i x) j = objAt t j := by
  cases t with
  | inr g =>
    show sel (Nat.beq j i) x (g j) = g j
    rw [sel_eq, if_neg (fun k => hij (Nat.eq_of_beq_eq_true k).symm)]
  | inl t =>
  have h : i < 16384 := blt_iff.1 h
  unfold objAt objPut
  show sel _ (Tr.get 14 (Tr.set x 14 t i) j) _ = sel _ (Tr.get 14 t j) _
  rw [sel_eq, sel_eq]
  by_cases hj : j < 16384
  · rw [if_pos (blt_iff.2 hj), if_pos (blt_iff.2 hj)]
    exact Tr.get_set_other _ 14 _ _ _ hij (by simpa using h) (by simpa using hj)
  · rw [if_neg (fun k => hj (blt_iff.1 k)), if_neg (fun k => hj (blt_iff.1 k))]

/-- where a version of a family lies: block, first cell, the end of what may be written -/
abbrev Sg := Nat → Nat → Option (Nat × Nat × Nat)
def RL (R : Value → Value → Prop) : List Value → List Value → Prop
  | [], [] => True
  | x :: l, y :: m => R x y ∧ RL R l m
  | _, _ => False
theorem RL.mono {R R' : Value → Value → Prop} (h : ∀ x y, R x y → R' x y) : ∀ {l m : List Value}, RL R l m → RL R' l m
  | [], [], _ => trivial
  | _ :: _, _ :: _, ⟨a, b⟩ => ⟨h _ _ a, RL.mono h b⟩
  | [], _ :: _, h => h.elim
  | _ :: _, [], h => h.elim
theorem RL.length {R : Value → Value → Prop} : ∀ {l m : List Value}, RL R l m → l.length = m.length
  | [], [], _ => rfl
  | _ :: l, _ :: m, ⟨_, b⟩ => by simp [RL.length b]
  | [], _ :: _, h => h.elim
  | _ :: _, [], h => h.elim
theorem RL.at {R : Value → Value → Prop} : ∀ {l m : List Value}, RL R l m → ∀ {i : Nat} {x : Value}, l[i]? = some x → ∃ y, m[i]? = some y ∧ R x y
  | x :: l, y :: m, ⟨a, b⟩, 0, z, h => ⟨y, rfl, by simp at h; exact h ▸ a⟩
  | x :: l, y :: m, ⟨a, b⟩, i + 1, z, h => RL.at b (i := i) (by simpa using h)
  | [], [], _, i, z, h => by simp at h
  | [], _ :: _, h, _, _, _ => h.elim
  | _ :: _, [], h, _, _, _ => h.elim
theorem RL.of {R : Value → Value → Prop} : ∀ {l m : List Value}, l.length = m.length → (∀ (i : Nat) (x y : Value), l[i]? = some x → m[i]? = some y → R x y) → RL R l m
  | [], [], _, _ => trivial
  | x :: l, y :: m, hl, h => ⟨h 0 x y rfl rfl, RL.of (by simpa using hl) fun i a b ha hb => h (i + 1) a b (by simpa using ha) (by simpa using hb)⟩
  | [], _ :: _, hl, _ => by simp at hl
  | _ :: _, [], hl, _ => by simp at hl
theorem RL.append {R : Value → Value → Prop} : ∀ {l m l' m' : List Value}, RL R l m → RL R l' m' → RL R (l ++ l') (m ++ m')
  | [], [], _, _, _, h => h
  | _ :: _, _ :: _, _, _, ⟨a, b⟩, h => ⟨a, RL.append b h⟩
  | [], _ :: _, _, _, h, _ => h.elim
  | _ :: _, [], _, _, h, _ => h.elim
theorem RL.take {R : Value → Value → Prop} : ∀ {l m : List Value}, RL R l m → ∀ n, RL R (l.take n) (m.take n)
  | [], [], _, n => by simp [RL]
  | _ :: _, _ :: _, _, 0 => trivial
  | _ :: _, _ :: _, ⟨a, b⟩, n + 1 => ⟨a, RL.take b n⟩
  | [], _ :: _, h, _ => h.elim
  | _ :: _, [], h, _ => h.elim
theorem RL.drop {R : Value → Value → Prop} : ∀ {l m : List Value}, RL R l m → ∀ n, RL R (l.drop n) (m.drop n)
  | [], [], _, n => by simp [RL]
  | _ :: _, _ :: _, h, 0 => h
  | _ :: _, _ :: _, ⟨_, b⟩, n + 1 => RL.drop b n
  | [], _ :: _, h, _ => h.elim
  | _ :: _, [], h, _ => h.elim
theorem RL.map {R : Value → Value → Prop} {α : Type} {f g : α → Value} : ∀ {l : List α}, (∀ x ∈ l, R (f x) (g x)) → RL R (l.map f) (l.map g)
  | [], _ => trivial
  | x :: l, h => ⟨h x (by simp), RL.map fun y hy => h y (by simp [hy])⟩

/-- one layer of 'stands for' -/
def StepV (σ : Sg) (R : Value → Value → Prop) : Value → Value → Prop
  | .bool a, v => v = .bool a
  | .int k n, v => v = .int k n
  | .string s, v => v = .string s
  | .pointer none, v => v = .pointer none
  | .pointer (some a), v => ∃ b o z, σ a.block (Addr.ver a) = some (b, o, z) ∧ v = .pointer (some ⟨b, o + a.off, none⟩)
  | .slice none n c, v => n = 0 ∧ c = 0 ∧ v = .slice none 0 0
  | .slice (some a) n c, v => ∃ b o z, σ a.block (Addr.ver a) = some (b, o, z) ∧ ∃ a' c', v = .slice (some a') n c' ∧ n ≤ c ∧ c ≤ c' ∧ c' ≤ maxLen ∧ (c' ≠ 0 → a' = ⟨b, o + a.off, none⟩) ∧
      (Addr.ver a % 1024 = 0 → c' = c) ∧ (Addr.ver a % 1024 ≠ 0 → c' ≠ 0 → o + a.off + c' * (Addr.ver a % 1024 - 1) ≤ z)
  | .map none, v => v = .map none
  | .map (some r), v => ∃ b o z, σ r (r * 1024) = some (b, o, z) ∧ v = .map (some b)
  | .func fn xs ys, v => ∃ xs' ys', v = .func fn xs' ys' ∧ RL R xs.toList xs'.toList ∧ RL R ys.toList ys'.toList
  | .nilFunc, v => v = .nilFunc
  | .iface t x, v => ∃ x', v = .iface t x' ∧ R x x'
  | .nilIface, v => v = .nilIface
  | .agg xs, v => ∃ xs', v = .agg xs' ∧ RL R xs.toList xs'.toList
  | .tuple xs, v => ∃ xs', v = .tuple xs' ∧ RL R xs.toList xs'.toList
  | _, _ => False
def Sg.le (σ σ' : Sg) : Prop := ∀ f u p, σ f u = some p → σ' f u = some p
theorem StepV.mono {σ σ' : Sg} (hσ : Sg.le σ σ') {R R' : Value → Value → Prop} (hR : ∀ x y, R x y → R' x y) {v v' : Value} (h : StepV σ R v v') : StepV σ' R' v v' := by
  cases v with
  | bool a => exact h
  | int k n => exact h
  | string s => exact h
  | pointer a => cases a with
    | none => exact h
    | some a => obtain ⟨b, o, z, hs, hv⟩ := h; exact ⟨b, o, z, hσ _ _ _ hs, hv⟩
  | slice a n c => cases a with
    | none => exact h
    | some a => obtain ⟨b, o, z, hs, hv⟩ := h; exact ⟨b, o, z, hσ _ _ _ hs, hv⟩
  | map r => cases r with
    | none => exact h
    | some r => obtain ⟨b, o, z, hs, hv⟩ := h; exact ⟨b, o, z, hσ _ _ _ hs, hv⟩
  | func fn xs ys => obtain ⟨xs', ys', hv, h1, h2⟩ := h; exact ⟨xs', ys', hv, h1.mono hR, h2.mono hR⟩
  | nilFunc => exact h
  | iface t x => obtain ⟨x', hv, h1⟩ := h; exact ⟨x', hv, hR _ _ h1⟩
  | nilIface => exact h
  | agg xs => obtain ⟨xs', hv, h1⟩ := h; exact ⟨xs', hv, h1.mono hR⟩
  | tuple xs => obtain ⟨xs', hv, h1⟩ := h; exact ⟨xs', hv, h1.mono hR⟩
  | _ => exact h
/-- the plain machine's value stands for the model's -/
def VR (σ : Sg) (v v' : Value) : Prop := ∀ R : Value → Value → Prop, (∀ x y, StepV σ R x y → R x y) → R v v'
theorem VR.mk {σ : Sg} {v v' : Value} (h : StepV σ (VR σ) v v') : VR σ v v' := fun R hR => hR _ _ (StepV.mono (fun _ _ _ h => h) (fun _ _ k => k R hR) h)
theorem VR.out {σ : Sg} {v v' : Value} (h : VR σ v v') : StepV σ (VR σ) v v' := h _ fun _ _ hs => StepV.mono (fun _ _ _ h => h) (fun _ _ => VR.mk) hs
theorem VR.mono {σ σ' : Sg} (hσ : Sg.le σ σ') {v v' : Value} (h : VR σ v v') : VR σ' v v' := h _ fun _ _ hs => VR.mk (StepV.mono hσ (fun _ _ h => h) hs)
theorem RL.up {σ σ' : Sg} (hσ : Sg.le σ σ') {l m : List Value} (h : RL (VR σ) l m) : RL (VR σ') l m := h.mono fun _ _ => VR.mono hσ

theorem plain_refl {σ : Sg} : ∀ (n : Nat) {v : Value}, plainV n v = true → VR σ v v := by
  intro n
  induction n with
  | zero =>
    intro v h
    cases v <;> first | exact VR.mk rfl | (simp [plainV] at h)
  | succ n ih =>
    intro v h
    cases v with
    | agg cs => exact VR.mk ⟨cs, rfl, RL.of rfl fun i x y hx hy => by rw [hx] at hy; cases hy; exact ih (by simp only [plainV, List.all_eq_true] at h; exact h x (List.mem_of_getElem? hx))⟩
    | tuple cs => exact VR.mk ⟨cs, rfl, RL.of rfl fun i x y hx hy => by rw [hx] at hy; cases hy; exact ih (by simp only [plainV, List.all_eq_true] at h; exact h x (List.mem_of_getElem? hx))⟩
    | iface t x => exact VR.mk ⟨x, rfl, ih (by simpa [plainV] using h)⟩
    | _ => first | exact VR.mk rfl | (simp [plainV] at h)
theorem RL.eq {R : Value → Value → Prop} : ∀ {l m : List Value}, RL R l m → (∀ x ∈ l, ∀ y, R x y → y = x) → m = l
  | [], [], _, _ => rfl
  | x :: l, y :: m, ⟨a, b⟩, h => by rw [h x (by simp) y a, RL.eq b fun z hz => h z (by simp [hz])]
  | [], _ :: _, h, _ => h.elim
  | _ :: _, [], h, _ => h.elim
theorem plain_eq {σ : Sg} : ∀ (n : Nat) {v v' : Value}, plainV n v = true → VR σ v v' → v' = v := by
  intro n
  induction n with
  | zero =>
    intro v v' h hv
    have := hv.out
    cases v <;> first | exact this | (simp [plainV] at h)
  | succ n ih =>
    intro v v' h hv
    have := hv.out
    cases v with
    | agg cs =>
      obtain ⟨xs', rfl, hl⟩ := this
      have := hl.eq fun x hx y hy => ih (by simp only [plainV, List.all_eq_true] at h; exact h x hx) hy
      rw [Array.toList_inj.1 this]
    | tuple cs =>
      obtain ⟨xs', rfl, hl⟩ := this
      have := hl.eq fun x hx y hy => ih (by simp only [plainV, List.all_eq_true] at h; exact h x hx) hy
      rw [Array.toList_inj.1 this]
    | iface t x =>
      obtain ⟨x', rfl, hx⟩ := this
      rw [ih (by simpa [plainV] using h) hx]
    | _ => first | exact this | (simp [plainV] at h)
theorem eval0_run {α : Type} {P : Program} : ∀ {m : Sem α} {x : α}, eval0 P m = some x → ∀ w, m.run P w = .ok x w := by
  intro m
  induction m with
  | pure a => intro x h w; simp [eval0] at h; subst h; rfl
  | program k ih => intro x h w; exact ih P (by simpa [eval0] using h) w
  | _ => intro x h; simp [eval0] at h
end Go.Proofs.YtcmfoipnoejmlaaDoor
