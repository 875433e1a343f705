/- Cuts bound flows, potentials bound costs: plain facts; and the law FlowCertifiesSoundly. -/
import Derived.Test.YtfalnphlgfoflaaQ4
namespace Go.Proofs.Ytfalnphlgfoflaa
open Go Go.RowKit
set_option linter.unusedSimpArgs false
set_option linter.unusedVariables false
def sumN : Nat → (Nat → Int) → Int
  | 0, _ => 0
  | n + 1, g => sumN n g + g n
theorem sumN_add (g h : Nat → Int) : ∀ n, sumN n (fun v => g v + h v) = sumN n g + sumN n h
  | 0 => rfl
  | n + 1 => by simp only [sumN, sumN_add g h n]; omega
theorem sumN_sub (g h : Nat → Int) : ∀ n, sumN n (fun v => g v - h v) = sumN n g - sumN n h
  | 0 => rfl
  | n + 1 => by simp only [sumN, sumN_sub g h n]; omega
theorem sumN_congr {g h : Nat → Int} : ∀ {n}, (∀ v, v < n → g v = h v) → sumN n g = sumN n h
  | 0, _ => rfl
  | n + 1, e => by simp only [sumN]; rw [sumN_congr fun v hv => e v (by omega), e n (by omega)]
theorem sumN_zero {g : Nat → Int} {n : Nat} (e : ∀ v, v < n → g v = 0) : sumN n g = 0 := by
  induction n with
  | zero => rfl
  | succ n ih => simp only [sumN]; rw [ih fun v hv => e v (by omega), e n (by omega)]; rfl
theorem sumN_le {g h : Nat → Int} : ∀ {n}, (∀ v, v < n → g v ≤ h v) → sumN n g ≤ sumN n h
  | 0, _ => Int.le_refl _
  | n + 1, e => by
    simp only [sumN]
    have := sumN_le fun v (hv : v < n) => e v (by omega)
    have := e n (by omega)
    omega
theorem sumN_one {g : Nat → Int} {n c : Nat} (hc : c < n) (e : ∀ v, v < n → v ≠ c → g v = 0) : sumN n g = g c := by
  induction n with
  | zero => omega
  | succ n ih =>
    simp only [sumN]
    by_cases h : c = n
    · subst h; rw [sumN_zero fun v hv => e v (by omega) (by omega)]; omega
    · rw [ih (by omega) fun v hv hn => e v (by omega) hn, e n (by omega) (by omega)]; omega
theorem sumN_two {g : Nat → Int} {n c d : Nat} (hc : c < n) (hd : d < n) (hcd : c ≠ d) (e : ∀ v, v < n → v ≠ c → v ≠ d → g v = 0) : sumN n g = g c + g d := by
  have h1 : sumN n g = sumN n (fun v => (if v = c then g v else 0) + (if v = c then 0 else g v)) := sumN_congr fun v _ => by split <;> omega
  rw [h1, sumN_add, sumN_one hc (fun v _ hv => by rw [if_neg hv]), sumN_one hd (fun v hv hvd => by
    by_cases q : v = c
    · rw [if_pos q]
    · rw [if_neg q]; exact e v hv q hvd), if_pos rfl, if_neg (Ne.symm hcd)]
theorem wsum (w : Int → Int) {N : Nat} {ls : List Link} {x : List Int} (hx : x.length = ls.length) (hf : ∀ k, k < ls.length → 0 ≤ (ls.getD k default).frm ∧ (ls.getD k default).frm < (N : Int)) (ht : ∀ k, k < ls.length → 0 ≤ (ls.getD k default).to ∧ (ls.getD k default).to < (N : Int)) :
    ∀ i, i ≤ ls.length → sumN N (fun v => w v * exS (ls.take i) (x.take i) v) = sumN i (fun k => x.getD k default * (w (ls.getD k default).frm - w (ls.getD k default).to))
  | 0, _ => by simp only [List.take_zero, exS_nil, Int.mul_zero, sumN]; exact sumN_zero fun _ _ => rfl
  | i + 1, hi => by
    have ih := wsum w hx hf ht i (by omega)
    have f1 := hf i (by omega)
    have t1 := ht i (by omega)
    have e : sumN N (fun v => w v * exS (ls.take (i + 1)) (x.take (i + 1)) v) = sumN N (fun v => w v * exS (ls.take i) (x.take i) v + (w v * (if (ls.getD i default).frm = (v : Int) then x.getD i default else 0) - w v * (if (ls.getD i default).to = (v : Int) then x.getD i default else 0))) := sumN_congr fun v _ => by
      rw [exS_step (by omega) (by omega)]
      unfold contrib
      rw [Int.mul_add, Int.mul_sub]
    rw [e, sumN_add, sumN_sub, ih]
    have a1 := sumN_one (g := fun v => w v * (if (ls.getD i default).frm = (v : Int) then x.getD i default else 0)) (n := N) (c := (ls.getD i default).frm.toNat) (by omega) (fun v _ hv => by rw [if_neg (by omega), Int.mul_zero])
    have a2 := sumN_one (g := fun v => w v * (if (ls.getD i default).to = (v : Int) then x.getD i default else 0)) (n := N) (c := (ls.getD i default).to.toNat) (by omega) (fun v _ hv => by rw [if_neg (by omega), Int.mul_zero])
    rw [a1, a2]
    simp only [sumN]
    have c1 : (((ls.getD i default).frm.toNat : Nat) : Int) = (ls.getD i default).frm := by omega
    have c2 : (((ls.getD i default).to.toNat : Nat) : Int) = (ls.getD i default).to := by omega
    rw [c1, c2, if_pos rfl, if_pos rfl, Int.mul_sub, Int.mul_comm (w _), Int.mul_comm (w (ls.getD i default).to)]
theorem wsum_all (w : Int → Int) {n : Net} {x : List Int} (hn : RightNet n) (hx : x.length = n.links.length) : sumN n.nodes.length (fun v => w v * exS n.links x v) = sumN n.links.length (fun k => x.getD k default * (w (n.links.getD k default).frm - w (n.links.getD k default).to)) := by
  have := wsum w hx hn.frm hn.to n.links.length (Nat.le_refl _)
  rw [← this]
  exact sumN_congr fun v _ => by rw [List.take_of_length_le (Nat.le_refl _), List.take_of_length_le (by omega)]
theorem flow_sum (w : Int → Int) {n : Net} {f : Failure} {a b : Int} {x : List Int} (hn : RightNet n) (ha : 0 ≤ a ∧ a < (n.nodes.length : Int)) (hb : 0 ≤ b ∧ b < (n.nodes.length : Int)) (h : IsFlow n f a b x) : sumN n.links.length (fun k => x.getD k default * (w (n.links.getD k default).frm - w (n.links.getD k default).to)) = (w a - w b) * exS n.links x a := by
  obtain ⟨h1, h2, h3, h4, h5⟩ := h
  have two : ∀ w : Int → Int, sumN n.nodes.length (fun v => w v * exS n.links x v) = w a * exS n.links x a + w b * exS n.links x b := fun w => by
    have := sumN_two (g := fun v => w v * exS n.links x v) (n := n.nodes.length) (c := a.toNat) (d := b.toNat) (by omega) (by omega) (by omega) (fun v hv hva hvb => by rw [h5 v hv (by omega) (by omega), Int.mul_zero])
    rw [this]
    have c1 : ((a.toNat : Nat) : Int) = a := by omega
    have c2 : ((b.toNat : Nat) : Int) = b := by omega
    simp only [c1, c2]
  have one := wsum_all (fun _ => 1) hn h2
  have two1 := two (fun _ => 1)
  rw [two1, sumN_zero (g := fun k => x.getD k default * (1 - 1)) (fun _ _ => by simp)] at one
  have eb : exS n.links x b = - exS n.links x a := by omega
  rw [← wsum_all w hn h2, two, eb, Int.sub_mul, Int.mul_neg]; omega
theorem capS_sum {n : Net} {f : Failure} {cut : List Int} : ∀ i, capS n f cut i = sumN i (capTerm n f cut)
  | 0 => rfl
  | i + 1 => by rw [capS, sumN, capS_sum i]
theorem cut_bounds {n : Net} {f : Failure} {a b : Int} {y cut : List Int} (hn : RightNet n) (ha : 0 ≤ a ∧ a < (n.nodes.length : Int)) (hb : 0 ≤ b ∧ b < (n.nodes.length : Int)) (hac : a ∈ cut) (hbc : b ∉ cut) (h : IsFlow n f a b y) : exS n.links y a ≤ capS n f cut n.links.length := by
  have := flow_sum (fun v => if v ∈ cut then 1 else 0) hn ha hb h
  simp only [if_pos hac, if_neg hbc] at this
  have e : exS n.links y a = sumN n.links.length (fun k => y.getD k default * ((if (n.links.getD k default).frm ∈ cut then 1 else 0) - (if (n.links.getD k default).to ∈ cut then 1 else 0))) := by rw [this]; omega
  rw [e, capS_sum]
  refine sumN_le fun k hk => ?_
  obtain ⟨g1, g2, g3⟩ := h.2.2.1 k hk
  have hc := hn.cap k hk
  unfold capTerm
  by_cases q1 : (n.links.getD k default).frm ∈ cut
  · by_cases q2 : (n.links.getD k default).to ∈ cut
    · rw [if_pos q1, if_pos q2, if_neg (fun h => h.2.2 q2)]; omega
    · rw [if_pos q1, if_neg q2]
      by_cases q3 : UpP n f (k : Int)
      · rw [if_pos ⟨q3, q1, fun h => q2 h⟩]; omega
      · rw [if_neg (fun h => q3 h.1)]
        have : ¬ 0 < y.getD k default := fun h => q3 (g3 h)
        omega
  · rw [if_neg (show ¬ (UpP n f (k : Int) ∧ (n.links.getD k default).frm ∈ cut ∧ (n.links.getD k default).to ∉ cut) from fun h => q1 h.2.1), if_neg q1]
    split <;> omega
theorem costS_sum {p x : List Int} : ∀ i, costS p x i = sumN i (fun k => p.getD k default * x.getD k default)
  | 0 => rfl
  | i + 1 => by rw [costS, sumN, costS_sum i]
theorem cheap_least {n : Net} {f : Failure} {a b : Int} {prices x y pot : List Int} (hn : RightNet n) (ha : 0 ≤ a ∧ a < (n.nodes.length : Int)) (hb : 0 ≤ b ∧ b < (n.nodes.length : Int)) (hx : IsCheapest n f prices a b x pot) (hy : IsFlow n f a b y) (he : exS n.links x a = exS n.links y a) : costS prices x n.links.length ≤ costS prices y n.links.length := by
  obtain ⟨hf, hP, hQ, hC⟩ := hx
  have key : ∀ z, IsFlow n f a b z → costS prices z n.links.length = sumN n.links.length (fun k => redK n prices pot k * z.getD k default) - ((pot.getD a.toNat default) - (pot.getD b.toNat default)) * exS n.links z a := fun z hz => by
    have := flow_sum (fun v => pot.getD v.toNat default) hn ha hb hz
    rw [← this, costS_sum, ← sumN_sub]
    refine sumN_congr fun k _ => ?_
    have e : redK n prices pot k = prices.getD k default + (pot.getD (n.links.getD k default).frm.toNat default - pot.getD (n.links.getD k default).to.toNat default) := by unfold redK; omega
    rw [e, Int.add_mul, Int.mul_comm (z.getD k default)]; omega
  rw [key x hf, key y hy, he]
  have : sumN n.links.length (fun k => redK n prices pot k * x.getD k default) ≤ sumN n.links.length (fun k => redK n prices pot k * y.getD k default) := by
    refine sumN_le fun k hk => ?_
    obtain ⟨g1, g2, g3⟩ := hf.2.2.1 k hk
    obtain ⟨g4, g5, g6⟩ := hy.2.2.1 k hk
    by_cases q : UpP n f (k : Int)
    · obtain ⟨c1, c2⟩ := hC k hk q
      by_cases r1 : redK n prices pot k < 0
      · have : ¬ x.getD k default < (n.links.getD k default).cap := fun h => c1 ⟨r1, h⟩
        exact Int.mul_le_mul_of_nonpos_left (by omega) (by omega)
      · by_cases r2 : 0 < redK n prices pot k
        · have : ¬ 0 < x.getD k default := fun h => c2 ⟨r2, h⟩
          exact Int.mul_le_mul_of_nonneg_left (by omega) (by omega)
        · have : redK n prices pot k = 0 := by omega
          rw [this]; omega
    · have e1 : ¬ 0 < x.getD k default := fun h => q (g3 h)
      have e2 : ¬ 0 < y.getD k default := fun h => q (g6 h)
      have e3 : x.getD k default = y.getD k default := by omega
      rw [e3]; exact Int.le_refl _
  omega
end Go.Proofs.Ytfalnphlgfoflaa
