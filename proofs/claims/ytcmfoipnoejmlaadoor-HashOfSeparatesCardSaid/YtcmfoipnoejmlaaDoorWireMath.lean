/- Plain mathematics of the wire encoding (no program in sight): zigzag varints, byte strings, lists; round trip, canonicity, prefixes. -/
import Derived.Laws.BitsLemmas
namespace Go.Proofs.YtcmfoipnoejmlaaDoor.WM

def zig (n : Int) : Nat := if n < 0 then (-1 - n).toNat * 2 + 1 else n.toNat * 2
def zag (z : Nat) : Int := if z % 2 = 1 then -1 - ((z / 2 : Nat) : Int) else ((z / 2 : Nat) : Int)
theorem zag_zig (n : Int) : zag (zig n) = n := by unfold zag zig; split <;> split <;> omega
theorem zig_zag (z : Nat) : zig (zag z) = z := by unfold zag zig; split <;> split <;> omega
theorem zig_lt {n : Int} (h1 : -9223372036854775808 ≤ n) (h2 : n ≤ 9223372036854775807) : zig n < 18446744073709551616 := by unfold zig; split <;> omega
theorem zag_range {z : Nat} (h : z < 18446744073709551616) : -9223372036854775808 ≤ zag z ∧ zag z ≤ 9223372036854775807 := by unfold zag; split <;> omega

def venc (z : Nat) : List UInt8 := if h : z < 128 then [UInt8.ofNat z] else UInt8.ofNat (z % 128 + 128) :: venc (z / 128)
  termination_by z
  decreasing_by omega
theorem venc_lt {z : Nat} (h : z < 128) : venc z = [UInt8.ofNat z] := by rw [venc]; simp [h]
theorem venc_ge {z : Nat} (h : ¬ z < 128) : venc z = UInt8.ofNat (z % 128 + 128) :: venc (z / 128) := by rw [venc]; simp [h]
def enc (n : Int) : List UInt8 := venc (zig n)

theorem venc_len (k : Nat) : ∀ z, z < 128 ^ (k + 1) → (venc z).length ≤ k + 1 := by
  induction k with
  | zero => intro z h; rw [venc_lt (by simpa using h)]; simp
  | succ k ih =>
    intro z h
    by_cases hz : z < 128
    · rw [venc_lt hz]; simp
    · rw [venc_ge hz]
      have : z / 128 < 128 ^ (k + 1) := by
        rw [Nat.div_lt_iff_lt_mul (by decide)]
        rw [Nat.pow_succ] at h; omega
      have := ih _ this
      simp; omega
theorem venc_len64 {z : Nat} (h : z < 18446744073709551616) : (venc z).length ≤ 10 := venc_len 9 z (by omega)
theorem venc_pos (z : Nat) : 0 < (venc z).length := by
  by_cases hz : z < 128
  · rw [venc_lt hz]; simp
  · rw [venc_ge hz]; simp
theorem enc_len {n : Int} (h1 : -9223372036854775808 ≤ n) (h2 : n ≤ 9223372036854775807) : (enc n).length ≤ 10 := venc_len64 (zig_lt h1 h2)

/-- decode from place k with the sum z so far -/
def decF : Nat → Nat → List UInt8 → Except Int (Nat × Nat)
  | _, _, [] => .error 5
  | k, z, c :: r =>
    if (k = 9 ∧ 1 < c.toNat) ∨ (0 < k ∧ c.toNat = 0) then .error 6
    else if c.toNat < 128 then .ok (z + c.toNat * 128 ^ k, k + 1)
    else decF (k + 1) (z + c.toNat % 128 * 128 ^ k) r

def dec (l : List UInt8) : Except Int (Int × Nat) := match decF 0 0 l with
  | .ok (z, u) => .ok (zag z, u)
  | .error e => .error e

theorem toNat_ofNat_lt {a : Nat} (h : a < 256) : (UInt8.ofNat a).toNat = a := by
  rw [UInt8.toNat_ofNat']; exact Nat.mod_eq_of_lt h

/-- encoding is decoded, whatever follows -/
theorem decF_venc (t : List UInt8) : ∀ (m z k s : Nat), m = 9 - k → k ≤ 9 → z < 2 * 128 ^ m → (0 < k → 0 < z) → decF k s (venc z ++ t) = .ok (s + z * 128 ^ k, k + (venc z).length) := by
  intro m
  induction m with
  | zero =>
    intro z k s hm hk hz h0
    obtain rfl : k = 9 := by omega
    have hz2 : z < 2 := by simpa using hz
    have h0 := h0 (by omega)
    rw [venc_lt (by omega)]
    simp only [List.cons_append, List.nil_append, decF, toNat_ofNat_lt (show z < 256 by omega)]
    rw [if_neg (by omega), if_pos (by omega)]
    simp
  | succ m ih =>
    intro z k s hm hk hz h0
    by_cases hlt : z < 128
    · rw [venc_lt hlt]
      simp only [List.cons_append, List.nil_append, decF, toNat_ofNat_lt (show z < 256 by omega)]
      rw [if_neg (by omega), if_pos (by omega)]
      simp
    · rw [venc_ge hlt]
      have e1 : (UInt8.ofNat (z % 128 + 128)).toNat = z % 128 + 128 := toNat_ofNat_lt (by omega)
      simp only [List.cons_append, decF, e1]
      rw [if_neg (by omega), if_neg (by omega)]
      have hd : z / 128 < 2 * 128 ^ m := by
        rw [Nat.div_lt_iff_lt_mul (by decide)]
        rw [Nat.pow_succ] at hz; omega
      rw [ih (z / 128) (k + 1) _ (by omega) (by omega) hd (by omega)]
      have e2 : (z % 128 + 128) % 128 = z % 128 := by omega
      rw [e2]
      simp only [List.length_cons, Except.ok.injEq, Prod.mk.injEq]
      refine ⟨?_, by omega⟩
      rw [Nat.pow_succ, Nat.add_assoc, ← Nat.mul_assoc, Nat.mul_right_comm, ← Nat.add_mul]
      congr 2
      have := Nat.div_add_mod z 128
      omega
theorem dec_enc {n : Int} (h1 : -9223372036854775808 ≤ n) (h2 : n ≤ 9223372036854775807) (t : List UInt8) : dec (enc n ++ t) = .ok (n, (enc n).length) := by
  unfold dec enc
  rw [decF_venc t 9 (zig n) 0 0 rfl (by omega) (by have := zig_lt h1 h2; omega) (by omega)]
  simp [zag_zig]

/-- what is decoded is an encoding -/
theorem decF_canon : ∀ (l : List UInt8) (k s z u : Nat), k ≤ 9 → decF k s l = .ok (z, u) → ∃ y, z = s + y * 128 ^ k ∧ y < 2 * 128 ^ (9 - k) ∧ (0 < k → 0 < y) ∧ u = k + (venc y).length ∧ l.take (venc y).length = venc y := by
  intro l
  induction l with
  | nil => intro k s z u hk h; simp [decF] at h
  | cons c r ih =>
    intro k s z u hk h
    have hc := c.toNat_lt
    simp only [decF] at h
    split at h
    · cases h
    · rename_i hn
      split at h
      · rename_i hlt
        simp only [Except.ok.injEq, Prod.mk.injEq] at h
        obtain ⟨rfl, rfl⟩ := h
        refine ⟨c.toNat, rfl, ?_, by omega, by rw [venc_lt hlt]; simp, by rw [venc_lt hlt]; simp⟩
        by_cases h9 : k = 9
        · subst h9; simp; omega
        · have : 128 ^ 1 ≤ 128 ^ (9 - k) := Nat.pow_le_pow_right (by decide) (by omega)
          omega
      · rename_i hlt
        by_cases h9 : k = 9
        · omega
        · obtain ⟨y, hz, hy, hy0, hu, ht⟩ := ih (k + 1) _ z u (by omega) h
          have hy0 := hy0 (by omega)
          have hb : ¬ (c.toNat % 128 + 128 * y) < 128 := by omega
          have e1 : (c.toNat % 128 + 128 * y) % 128 + 128 = c.toNat := by omega
          have e2 : (c.toNat % 128 + 128 * y) / 128 = y := by omega
          have e3 : venc (c.toNat % 128 + 128 * y) = c :: venc y := by
            rw [venc_ge hb, e1, e2]; simp
          refine ⟨c.toNat % 128 + 128 * y, ?_, ?_, by omega, by rw [e3]; simp; omega, by rw [e3]; simpa using ht⟩
          · rw [hz, Nat.pow_succ, Nat.add_mul, Nat.add_assoc]; congr 2
            rw [Nat.mul_comm 128 y, Nat.mul_assoc, Nat.mul_comm (128 ^ k) 128]
          · have : 9 - k = (9 - (k + 1)) + 1 := by omega
            rw [this, Nat.pow_succ]; omega
theorem dec_canon {l : List UInt8} {n : Int} {u : Nat} (h : dec l = .ok (n, u)) : l.take u = enc n ∧ u = (enc n).length ∧ u ≤ l.length ∧ 0 < u ∧ -9223372036854775808 ≤ n ∧ n ≤ 9223372036854775807 := by
  unfold dec at h
  split at h
  · rename_i z u' hd
    simp only [Except.ok.injEq, Prod.mk.injEq] at h
    obtain ⟨rfl, rfl⟩ := h
    obtain ⟨y, hz, hy, _, hu, ht⟩ := decF_canon l 0 0 z u' (by omega) hd
    obtain rfl : z = y := by omega
    simp only [Nat.zero_add] at hu
    have hr := zag_range (z := z) (by omega)
    refine ⟨?_, ?_, ?_, by rw [hu]; exact venc_pos _, hr.1, hr.2⟩
    · unfold enc; rw [zig_zag, hu]; exact ht
    · unfold enc; rw [zig_zag]; exact hu
    · have := congrArg List.length ht
      rw [List.length_take] at this
      omega
  · cases h
/-- the errors are 5 and 6 -/
theorem decF_err : ∀ (l : List UInt8) (k s : Nat) (e : Int), decF k s l = .error e → e = 5 ∨ e = 6 := by
  intro l
  induction l with
  | nil => intro k s e h; simp [decF] at h; omega
  | cons c r ih =>
    intro k s e h
    simp only [decF] at h
    split at h
    · simp at h; omega
    · split at h
      · cases h
      · exact ih _ _ _ h
theorem dec_err {l : List UInt8} {e : Int} (h : dec l = .error e) : e = 5 ∨ e = 6 := by
  unfold dec at h
  split at h
  · cases h
  · rename_i e' hd; simp at h; subst h; exact decF_err _ _ _ _ hd
/-- proper prefixes of an encoding are cut short -/
theorem decF_trunc : ∀ (m z k s i : Nat), m = 9 - k → k ≤ 9 → z < 2 * 128 ^ m → (0 < k → 0 < z) → i < (venc z).length → decF k s ((venc z).take i) = .error 5 := by
  intro m
  induction m with
  | zero =>
    intro z k s i hm hk hz h0 hi
    have hz2 : z < 2 := by simpa using hz
    rw [venc_lt (by omega)] at hi ⊢
    obtain rfl : i = 0 := by simpa using hi
    simp [decF]
  | succ m ih =>
    intro z k s i hm hk hz h0 hi
    by_cases hlt : z < 128
    · rw [venc_lt (by omega)] at hi ⊢
      obtain rfl : i = 0 := by simpa using hi
      simp [decF]
    · rw [venc_ge hlt] at hi ⊢
      cases i with
      | zero => simp [decF]
      | succ i =>
        have e1 : (UInt8.ofNat (z % 128 + 128)).toNat = z % 128 + 128 := toNat_ofNat_lt (by omega)
        simp only [List.take_succ_cons, decF, e1]
        rw [if_neg (by omega), if_neg (by omega)]
        have hd : z / 128 < 2 * 128 ^ m := by
          rw [Nat.div_lt_iff_lt_mul (by decide)]
          rw [Nat.pow_succ] at hz; omega
        exact ih (z / 128) (k + 1) _ i (by omega) (by omega) hd (by omega) (by simpa using hi)
theorem dec_trunc {n : Int} (h1 : -9223372036854775808 ≤ n) (h2 : n ≤ 9223372036854775807) {i : Nat} (hi : i < (enc n).length) : dec ((enc n).take i) = .error 5 := by
  unfold dec enc
  rw [decF_trunc 9 (zig n) 0 0 i rfl (by omega) (by have := zig_lt h1 h2; omega) (by omega) hi]

/-! ### lengths, strings, lists -/
/-- a length of a list whose elements have at least 'least' bytes -/
def lenD (l : List UInt8) (least : Nat) : Except Int (Nat × Nat) := match dec l with
  | .error e => .error e
  | .ok (n, u) => if n < 0 then .error 6 else if (l.length - u) / least < n.toNat then .error 5 else .ok (n.toNat, u)
theorem lenD_err {l : List UInt8} {a : Nat} {e : Int} (h : lenD l a = .error e) : e = 5 ∨ e = 6 := by
  unfold lenD at h
  split at h
  · rename_i hd; simp at h; subst h; exact dec_err hd
  · split at h
    · simp at h; omega
    · split at h
      · simp at h; omega
      · cases h
theorem lenD_ok {l : List UInt8} {a n u : Nat} (h : lenD l a = .ok (n, u)) : dec l = .ok ((n : Int), u) ∧ n ≤ (l.length - u) / a ∧ u ≤ l.length ∧ l.take u = enc n ∧ u = (enc n).length ∧ 0 < u ∧ (n : Int) ≤ 9223372036854775807 := by
  unfold lenD at h
  split at h
  · cases h
  · rename_i n' u' hd
    split at h
    · cases h
    · split at h
      · cases h
      · simp only [Except.ok.injEq, Prod.mk.injEq] at h
        obtain ⟨rfl, rfl⟩ := h
        have hc := dec_canon hd
        have e : ((n'.toNat : Nat) : Int) = n' := by omega
        rw [e]
        exact ⟨hd, by omega, hc.2.2.1, hc.1, hc.2.1, hc.2.2.2.1, hc.2.2.2.2.2⟩

def getB (l : List UInt8) : Except Int (List UInt8 × Nat) := match lenD l 1 with
  | .error e => .error e
  | .ok (n, u) => .ok ((l.drop u).take n, u + n)
def encB (s : List UInt8) : List UInt8 := enc s.length ++ s
/-- a digest: the first 16 bytes -/
def getD16 (l : List UInt8) : Except Int (List UInt8 × Nat) := .ok (l.take 16, 16)

/-- n elements one after the other -/
def many {α : Type} (one : List UInt8 → Except Int (α × Nat)) : Nat → List UInt8 → Except Int (List α × Nat)
  | 0, _ => .ok ([], 0)
  | n + 1, l => match one l with
    | .error e => .error e
    | .ok (x, u) => match many one n (l.drop u) with
      | .error e => .error e
      | .ok (xs, v) => .ok (x :: xs, u + v)
def getL {α : Type} (one : List UInt8 → Except Int (α × Nat)) (least : Nat) (l : List UInt8) : Except Int (List α × Nat) := match lenD l least with
  | .error e => .error e
  | .ok (n, u) => match many one n (l.drop u) with
    | .error e => .error e
    | .ok (xs, v) => .ok (xs, u + v)
def encL {α : Type} (one : α → List UInt8) (xs : List α) : List UInt8 := enc xs.length ++ xs.flatMap one

/-- one more element at the end -/
theorem many_snoc {α : Type} (one : List UInt8 → Except Int (α × Nat)) : ∀ (n : Nat) (l : List UInt8) (xs : List α) (v : Nat), many one n l = .ok (xs, v) →
    many one (n + 1) l = match one (l.drop v) with
      | .error e => .error e
      | .ok (x, u) => .ok (xs ++ [x], v + u) := by
  intro n
  induction n with
  | zero =>
    intro l xs v h
    simp only [many, Except.ok.injEq, Prod.mk.injEq] at h
    obtain ⟨rfl, rfl⟩ := h
    simp only [many, List.drop_zero]
    cases one l with
    | error e => rfl
    | ok p => obtain ⟨x, u⟩ := p; simp
  | succ n ih =>
    intro l xs v h
    rw [many] at h
    rw [many]
    cases h1 : one l with
    | error e => rw [h1] at h; simp at h
    | ok p =>
      obtain ⟨x, u⟩ := p
      rw [h1] at h
      simp only at h ⊢
      cases h2 : many one n (l.drop u) with
      | error e => rw [h2] at h; simp at h
      | ok q =>
        obtain ⟨ys, v'⟩ := q
        rw [h2] at h
        simp only [Except.ok.injEq, Prod.mk.injEq] at h
        obtain ⟨rfl, rfl⟩ := h
        rw [ih _ _ _ h2, List.drop_drop]
        cases one (List.drop (u + v') l) with
        | error e => rfl
        | ok r => obtain ⟨y, w⟩ := r; simp; omega
/-- an error met on the way is the whole's -/
theorem many_stop {α : Type} (one : List UInt8 → Except Int (α × Nat)) (m : Nat) : ∀ (n : Nat) (l : List UInt8) (xs : List α) (v : Nat) (e : Int), many one n l = .ok (xs, v) → one (l.drop v) = .error e → n < m → many one m l = .error e := by
  induction m with
  | zero => intro n l xs v e _ _ h; omega
  | succ m ih =>
    intro n l xs v e h he hn
    cases n with
    | zero =>
      simp only [many, Except.ok.injEq, Prod.mk.injEq] at h
      obtain ⟨rfl, rfl⟩ := h
      rw [many]
      rw [List.drop_zero] at he
      rw [he]
    | succ n =>
      rw [many] at h ⊢
      cases h1 : one l with
      | error e' => rw [h1] at h; simp at h
      | ok p =>
        obtain ⟨x, u⟩ := p
        rw [h1] at h
        simp only at h ⊢
        cases h2 : many one n (l.drop u) with
        | error e => rw [h2] at h; simp at h
        | ok q =>
          obtain ⟨ys, v'⟩ := q
          rw [h2] at h
          simp only [Except.ok.injEq, Prod.mk.injEq] at h
          obtain ⟨rfl, rfl⟩ := h
          rw [← List.drop_drop] at he
          rw [ih n _ _ _ _ h2 he (by omega)]

/-- what a right decoder of one element does -/
structure Good {α : Type} (one : List UInt8 → Except Int (α × Nat)) (en : α → List UInt8) (P : α → Prop) (least : Nat) : Prop where
  round : ∀ x t, P x → one (en x ++ t) = .ok (x, (en x).length)
  long : ∀ x, P x → least ≤ (en x).length

theorem many_round {α : Type} {one : List UInt8 → Except Int (α × Nat)} {en : α → List UInt8} {P : α → Prop} {least : Nat} (g : Good one en P least) (t : List UInt8) :
    ∀ xs : List α, (∀ x ∈ xs, P x) → many one xs.length (xs.flatMap en ++ t) = .ok (xs, (xs.flatMap en).length) := by
  intro xs
  induction xs with
  | nil => intro _; simp [many]
  | cons x xs ih =>
    intro h
    simp only [List.length_cons, List.flatMap_cons, many, List.append_assoc]
    rw [g.round x _ (h x (by simp))]
    simp only
    rw [List.drop_left, ih (fun y hy => h y (by simp [hy]))]
    simp
theorem flatMap_long {α : Type} {one : List UInt8 → Except Int (α × Nat)} {en : α → List UInt8} {P : α → Prop} {least : Nat} (g : Good one en P least) :
    ∀ xs : List α, (∀ x ∈ xs, P x) → xs.length * least ≤ (xs.flatMap en).length := by
  intro xs
  induction xs with
  | nil => intro _; simp
  | cons x xs ih =>
    intro h
    have := ih (fun y hy => h y (by simp [hy]))
    have h1 := g.long x (h x (by simp))
    simp only [List.length_cons, List.flatMap_cons, List.length_append]
    rw [Nat.add_mul]; omega
theorem lenD_enc {n : Nat} (hn : (n : Int) ≤ 9223372036854775807) (t : List UInt8) (a : Nat) (ha : 0 < a) (h : n * a ≤ t.length) : lenD (enc n ++ t) a = .ok (n, (enc n).length) := by
  unfold lenD
  rw [dec_enc (by omega) hn]
  simp only
  rw [if_neg (by omega), if_neg]
  · simp
  · rw [List.length_append, Nat.add_sub_cancel_left, Int.toNat_natCast, Nat.not_lt]
    exact (Nat.le_div_iff_mul_le ha).2 h
theorem getL_round {α : Type} {one : List UInt8 → Except Int (α × Nat)} {en : α → List UInt8} {P : α → Prop} {least : Nat} (g : Good one en P least) (ha : 0 < least) (t : List UInt8)
    (xs : List α) (h : ∀ x ∈ xs, P x) (hn : (xs.length : Int) ≤ 9223372036854775807) : getL one least (encL en xs ++ t) = .ok (xs, (encL en xs).length) := by
  unfold getL encL
  rw [List.append_assoc, lenD_enc hn _ _ ha (by have := flatMap_long g xs h; rw [List.length_append]; omega)]
  simp only
  rw [List.drop_left, many_round g t xs h]
  simp
theorem getB_round (s t : List UInt8) (hn : (s.length : Int) ≤ 9223372036854775807) : getB (encB s ++ t) = .ok (s, (encB s).length) := by
  unfold getB encB
  rw [List.append_assoc, lenD_enc hn _ _ (by omega) (by simp)]
  simp
theorem good_int : Good dec enc (fun n => -9223372036854775808 ≤ n ∧ n ≤ 9223372036854775807) 1 :=
  ⟨fun _ t h => dec_enc h.1 h.2 t, fun _ _ => venc_pos _⟩
theorem good_bytes : Good getB encB (fun s => (s.length : Int) ≤ 9223372036854775807) 1 :=
  ⟨fun s t h => getB_round s t h, fun s _ => by unfold encB; have := venc_pos (zig s.length); unfold enc; simp; omega⟩
theorem good_digest : Good getD16 (fun d => d) (fun d => d.length = 16) 16 :=
  ⟨fun d t h => by unfold getD16; rw [List.take_append_of_le_length (by omega), List.take_of_length_le (by omega), h], fun d h => by omega⟩

/-! ### what is decoded is the encoding -/
/-- canonical: of one element -/
def Canon {α : Type} (one : List UInt8 → Except Int (α × Nat)) (en : α → List UInt8) : Prop := ∀ l x u, one l = .ok (x, u) → l.take u = en x ∧ u ≤ l.length
theorem canon_int : Canon dec enc := fun _ _ _ h => ⟨(dec_canon h).1, (dec_canon h).2.2.1⟩
theorem canon_bytes : Canon getB encB := by
  intro l x u h
  unfold getB at h
  split at h
  · cases h
  · rename_i n u' hd
    simp only [Except.ok.injEq, Prod.mk.injEq] at h
    obtain ⟨rfl, rfl⟩ := h
    obtain ⟨_, h2, h3, h4, h5, _⟩ := lenD_ok hd
    have hn : n ≤ l.length - u' := by simpa using h2
    refine ⟨?_, by omega⟩
    unfold encB
    have : (List.take n (List.drop u' l)).length = n := by simp; omega
    rw [this, ← h4, List.take_add]
theorem many_canon {α : Type} {one : List UInt8 → Except Int (α × Nat)} {en : α → List UInt8} (c : Canon one en) :
    ∀ (n : Nat) (l : List UInt8) (xs : List α) (v : Nat), many one n l = .ok (xs, v) → l.take v = xs.flatMap en ∧ v ≤ l.length ∧ xs.length = n := by
  intro n
  induction n with
  | zero =>
    intro l xs v h
    simp only [many, Except.ok.injEq, Prod.mk.injEq] at h
    obtain ⟨rfl, rfl⟩ := h
    simp
  | succ n ih =>
    intro l xs v h
    rw [many] at h
    cases h1 : one l with
    | error e => rw [h1] at h; simp at h
    | ok p =>
      obtain ⟨x, u⟩ := p
      rw [h1] at h
      simp only at h
      cases h2 : many one n (l.drop u) with
      | error e => rw [h2] at h; simp at h
      | ok q =>
        obtain ⟨ys, v'⟩ := q
        rw [h2] at h
        simp only [Except.ok.injEq, Prod.mk.injEq] at h
        obtain ⟨rfl, rfl⟩ := h
        obtain ⟨a1, a2⟩ := c _ _ _ h1
        obtain ⟨b1, b2, b3⟩ := ih _ _ _ h2
        simp only [List.length_drop] at b2
        refine ⟨?_, by omega, by simp [b3]⟩
        rw [List.take_add, a1, b1]; simp
theorem getL_canon {α : Type} {one : List UInt8 → Except Int (α × Nat)} {en : α → List UInt8} (c : Canon one en) {a : Nat} {l : List UInt8} {xs : List α} {u : Nat} (h : getL one a l = .ok (xs, u)) :
    l.take u = encL en xs ∧ u ≤ l.length := by
  unfold getL at h
  split at h
  · cases h
  · rename_i n u' hd
    obtain ⟨_, _, h3, h4, _, _⟩ := lenD_ok hd
    split at h
    · cases h
    · rename_i ys v hm
      simp only [Except.ok.injEq, Prod.mk.injEq] at h
      obtain ⟨rfl, rfl⟩ := h
      obtain ⟨b1, b2, b3⟩ := many_canon c _ _ _ _ hm
      simp only [List.length_drop] at b2
      unfold encL
      rw [b3, ← h4, ← b1, List.take_add]
      exact ⟨rfl, by omega⟩
/-- digests, n of them within the bytes that are there -/
theorem many_digest : ∀ (n : Nat) (l : List UInt8), n * 16 ≤ l.length → ∃ xs, many getD16 n l = .ok (xs, n * 16) ∧ xs.length = n ∧ (∀ x ∈ xs, x.length = 16) ∧ xs.flatMap (fun d => d) = l.take (n * 16) := by
  intro n
  induction n with
  | zero => intro l _; exact ⟨[], by simp [many]⟩
  | succ n ih =>
    intro l h
    obtain ⟨xs, h1, h2, h3, h4⟩ := ih (l.drop 16) (by simp; omega)
    refine ⟨l.take 16 :: xs, ?_, by simp [h2], ?_, ?_⟩
    · rw [many]; simp only [getD16, h1]; simp; omega
    · intro x hx
      rcases List.mem_cons.1 hx with rfl | hx
      · simp; omega
      · exact h3 x hx
    · rw [List.flatMap_cons, h4, show (n + 1) * 16 = 16 + n * 16 by omega, List.take_add]
end Go.Proofs.YtcmfoipnoejmlaaDoor.WM
