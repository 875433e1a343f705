/- Plain mathematics of the wire encoding, second part: lengths, prefixes, cut encodings. -/
import Derived.Test.YtciamgdigpgneaaWireMath
namespace Go.Proofs.Ytciamgdigpgneaa.WM

def vl (z : Nat) : Nat := (venc z).length
theorem vl_lt {z : Nat} (h : z < 128) : vl z = 1 := by unfold vl; rw [venc_lt h]; rfl
theorem vl_ge {z : Nat} (h : ¬ z < 128) : vl z = vl (z / 128) + 1 := by unfold vl; rw [venc_ge h]; rfl
theorem vl_half (z : Nat) : vl (z / 2 * 2) = vl z := by
  by_cases h : z < 128
  · rw [vl_lt h, vl_lt (by omega)]
  · rw [vl_ge h, vl_ge (by omega), show z / 2 * 2 / 128 = z / 128 by omega]
theorem vl_mono : ∀ (b a : Nat), a ≤ b → vl a ≤ vl b := by
  intro b
  induction b using Nat.strongRecOn with
  | _ b ih =>
    intro a hab
    by_cases hb : b < 128
    · rw [vl_lt hb, vl_lt (by omega)]; exact Nat.le_refl _
    · rw [vl_ge hb]
      by_cases ha : a < 128
      · rw [vl_lt ha]; omega
      · rw [vl_ge ha]
        have := ih (b / 128) (by omega) (a / 128) (Nat.div_le_div_right hab)
        omega
/-- how near to -1/2 -/
def far (n : Int) : Int := max n (-1 - n)
theorem enc_vl (n : Int) : (enc n).length = vl ((far n).toNat * 2) := by
  have : zig n / 2 * 2 = (far n).toNat * 2 := by unfold zig far; split <;> omega
  rw [← this, vl_half]; rfl
theorem enc_le {m n : Int} (h : far m ≤ far n) : (enc m).length ≤ (enc n).length := by
  rw [enc_vl, enc_vl]; exact vl_mono _ _ (by omega)
theorem enc_one (n : Int) : (enc n).length = 1 ↔ far n < 64 := by
  rw [enc_vl]
  have hf : 0 ≤ far n := by unfold far; omega
  constructor
  · intro h
    by_cases h1 : (far n).toNat * 2 < 128
    · omega
    · rw [vl_ge h1] at h
      have : 0 < vl ((far n).toNat * 2 / 128) := venc_pos _
      omega
  · intro h; exact vl_lt (by omega)
theorem enc_neg (n : Int) : (enc (-1 - n)).length = (enc n).length := by
  rw [enc_vl, enc_vl, show far (-1 - n) = far n by unfold far; omega]
/-- no encoding is a proper prefix of another -/
theorem enc_prefix {m n : Int} (m1 : -9223372036854775808 ≤ m) (m2 : m ≤ 9223372036854775807) (n1 : -9223372036854775808 ≤ n) (n2 : n ≤ 9223372036854775807)
    (h : (enc m).take (min (enc m).length (enc n).length) = (enc n).take (min (enc m).length (enc n).length)) : m = n := by
  have key : ∀ a b : Int, -9223372036854775808 ≤ a → a ≤ 9223372036854775807 → -9223372036854775808 ≤ b → b ≤ 9223372036854775807 → (enc a).length ≤ (enc b).length → enc a = (enc b).take (enc a).length → a = b := by
    intro a b a1 a2 b1 b2 _ he
    have h1 := dec_enc a1 a2 ((enc b).drop (enc a).length)
    have h2 := dec_enc b1 b2 []
    have e : enc a ++ (enc b).drop (enc a).length = enc b := by
      conv => lhs; lhs; rw [he]
      exact List.take_append_drop _ _
    rw [e] at h1
    rw [List.append_nil] at h2
    rw [h1] at h2
    simp only [Except.ok.injEq, Prod.mk.injEq] at h2
    exact h2.1
  by_cases hl : (enc m).length ≤ (enc n).length
  · rw [Nat.min_eq_left hl, List.take_length] at h
    exact key m n m1 m2 n1 n2 hl h
  · rw [Nat.min_eq_right (by omega), List.take_length] at h
    exact (key n m n1 n2 m1 m2 (by omega) h.symm).symm

/-! ### cut encodings -/
theorem lenD_trunc {n : Nat} (hn : (n : Int) ≤ 9223372036854775807) {i a : Nat} (hi : i < (enc n).length) : lenD ((enc n).take i) a = .error 5 := by
  unfold lenD; rw [dec_trunc (by omega) hn hi]
theorem take_enc_append {E t : List UInt8} {i : Nat} (h : E.length ≤ i) : (E ++ t).take i = E ++ t.take (i - E.length) := by
  rw [List.take_append, List.take_of_length_le h]
theorem lenD_short {n : Nat} (hn : (n : Int) ≤ 9223372036854775807) (t : List UInt8) {a : Nat} (h : t.length / a < n) : lenD (enc n ++ t) a = .error 5 := by
  unfold lenD; rw [dec_enc (by omega) hn]; simp only
  rw [if_neg (by omega), if_pos]
  rw [List.length_append, Nat.add_sub_cancel_left, Int.toNat_natCast]; exact h
theorem getB_trunc {s : List UInt8} (hn : (s.length : Int) ≤ 9223372036854775807) {i : Nat} (hi : i < (encB s).length) : getB ((encB s).take i) = .error 5 := by
  unfold getB encB
  unfold encB at hi
  rw [List.length_append] at hi
  by_cases h : i < (enc s.length).length
  · rw [List.take_append_of_le_length (by omega), lenD_trunc hn h]
  · rw [take_enc_append (by omega), lenD_short hn]
    rw [Nat.div_one, List.length_take]; omega
/-- elements that are cut yield the error of what is cut -/
def Cut {α : Type} (one : List UInt8 → Except Int (α × Nat)) (en : α → List UInt8) (P : α → Prop) : Prop := ∀ x, P x → ∀ i, i < (en x).length → one ((en x).take i) = .error 5
theorem cut_int : Cut dec enc (fun n => -9223372036854775808 ≤ n ∧ n ≤ 9223372036854775807) := fun _ h _ hi => dec_trunc h.1 h.2 hi
theorem cut_bytes : Cut getB encB (fun s => (s.length : Int) ≤ 9223372036854775807) := fun _ h _ hi => getB_trunc h hi
theorem many_cut {α : Type} {one : List UInt8 → Except Int (α × Nat)} {en : α → List UInt8} {P : α → Prop} {least : Nat} (g : Good one en P least) (c : Cut one en P) :
    ∀ xs : List α, (∀ x ∈ xs, P x) → ∀ j, j < (xs.flatMap en).length → many one xs.length ((xs.flatMap en).take j) = .error 5 := by
  intro xs
  induction xs with
  | nil => intro _ j hj; simp at hj
  | cons x xs ih =>
    intro h j hj
    rw [List.flatMap_cons, List.length_append] at hj
    rw [List.flatMap_cons, List.length_cons, many]
    by_cases hx : j < (en x).length
    · rw [List.take_append_of_le_length (by omega), c x (h x (by simp)) j hx]
    · rw [take_enc_append (by omega), g.round x _ (h x (by simp))]
      simp only
      rw [List.drop_left, ih (fun y hy => h y (by simp [hy])) (j - (en x).length) (by omega)]
theorem getL_trunc {α : Type} {one : List UInt8 → Except Int (α × Nat)} {en : α → List UInt8} {P : α → Prop} {least : Nat} (g : Good one en P least) (c : Cut one en P) (xs : List α) (h : ∀ x ∈ xs, P x) (hn : (xs.length : Int) ≤ 9223372036854775807)
    {i : Nat} (hi : i < (encL en xs).length) : getL one least ((encL en xs).take i) = .error 5 := by
  unfold getL encL
  unfold encL at hi
  rw [List.length_append] at hi
  by_cases h1 : i < (enc xs.length).length
  · rw [List.take_append_of_le_length (by omega), lenD_trunc hn h1]
  · rw [take_enc_append (by omega)]
    cases hd : lenD (enc xs.length ++ (xs.flatMap en).take (i - (enc xs.length).length)) least with
    | error e =>
      unfold lenD at hd
      rw [dec_enc (by omega) hn] at hd
      simp only at hd
      rw [if_neg (by omega)] at hd
      split at hd
      · simp only [Except.error.injEq] at hd; rw [← hd]
      · cases hd
    | ok p =>
      obtain ⟨m, u⟩ := p
      have hk := (lenD_ok hd).1
      rw [dec_enc (by omega) hn] at hk
      simp only [Except.ok.injEq, Prod.mk.injEq] at hk
      obtain ⟨hm, hu⟩ := hk
      have hm : m = xs.length := by omega
      subst hm hu
      simp only
      rw [List.drop_left, many_cut g c xs h _ (by omega)]
theorem getL_trunc_digest (xs : List (List UInt8)) (h16 : ∀ x ∈ xs, x.length = 16) (hn : (xs.length : Int) ≤ 9223372036854775807) {i : Nat} (hi : i < (encL (fun d => d) xs).length) : getL getD16 16 ((encL (fun d => d) xs).take i) = .error 5 := by
  have hfl : (xs.flatMap fun d => d).length = xs.length * 16 := by
    clear hn hi
    induction xs with
    | nil => simp
    | cons x l ih => rw [List.flatMap_cons, List.length_append, ih (fun y hy => h16 y (by simp [hy])), h16 x (by simp), List.length_cons]; omega
  unfold getL encL
  unfold encL at hi
  rw [List.length_append, hfl] at hi
  by_cases h1 : i < (enc xs.length).length
  · rw [List.take_append_of_le_length (by omega), lenD_trunc hn h1]
  · rw [take_enc_append (by omega), lenD_short hn]
    rw [List.length_take, hfl]
    have : min (i - (enc xs.length).length) (xs.length * 16) < xs.length * 16 := by omega
    exact (Nat.div_lt_iff_lt_mul (by decide)).2 this
end Go.Proofs.Ytciamgdigpgneaa.WM
