/- The compression of SHA-256 once more, on numbers, as the kernel can reckon it fast; it is the same. No program in sight. -/
import Derived.Test.YtcmfoipnoejmlaaDoorHash4
namespace Go.Proofs.YtcmfoipnoejmlaaDoor
open Go Go.RowKit
set_option linter.unusedSimpArgs false
set_option linter.unusedVariables false
/-- reckon the number first -/
noncomputable def fc {α : Type} (n : Nat) (k : Nat → α) : α := Nat.rec (k 0) (fun m _ => k (Nat.succ m)) n
theorem fc_eq {α : Type} (n : Nat) (k : Nat → α) : fc n k = k n := by cases n <;> rfl
def addN (x y : Nat) : Nat := Nat.mod (Nat.add x y) 4294967296
def rotN (x i : Nat) : Nat := Nat.lor (Nat.mod (Nat.shiftLeft x (32 - i)) 4294967296) (Nat.shiftRight x i)
def mixN (x i j k : Nat) : Nat := Nat.xor (Nat.xor (rotN x i) (rotN x j)) (rotN x k)
def rxN (a b c d k w : Nat) : Nat := addN (addN (addN (addN d (mixN a 6 11 25)) (Nat.xor (Nat.land a b) (Nat.land (Nat.sub 4294967295 a) c))) k) w
def ryN (a b c : Nat) : Nat := addN (mixN a 2 13 22) (Nat.xor (Nat.xor (Nat.land a b) (Nat.land a c)) (Nat.land b c))
def sg0N (p : Nat) : Nat := Nat.xor (Nat.xor (rotN p 7) (rotN p 18)) (Nat.shiftRight p 3)
def sg1N (p : Nat) : Nat := Nat.xor (Nat.xor (rotN p 17) (rotN p 19)) (Nat.shiftRight p 10)
def nxN (a b c d : Nat) : Nat := addN (addN (addN a (sg0N b)) c) (sg1N d)
def stN (a b : Nat) : Nat := Nat.lor (Nat.mod (Nat.shiftLeft a 8) 4294967296) b
def wdN (b : List Nat) (i : Nat) : Nat := stN (stN (stN (stN 0 (b.getD (i + 0) 0)) (b.getD (i + 1) 0)) (b.getD (i + 2) 0)) (b.getD (i + 3) 0)
noncomputable def extN : Nat → Nat → Nat → Nat → Nat → Nat → Nat → Nat → Nat → Nat → Nat → Nat → Nat → Nat → Nat → Nat → Nat → List Nat
  | 0, w0, w1, w2, w3, w4, w5, w6, w7, w8, w9, w10, w11, w12, w13, w14, w15 => [w0, w1, w2, w3, w4, w5, w6, w7, w8, w9, w10, w11, w12, w13, w14, w15]
  | n + 1, w0, w1, w2, w3, w4, w5, w6, w7, w8, w9, w10, w11, w12, w13, w14, w15 => fc (nxN w0 w1 w9 w14) fun x => w0 :: extN n w1 w2 w3 w4 w5 w6 w7 w8 w9 w10 w11 w12 w13 w14 w15 x
noncomputable def rd8 : List Nat → List Nat → Nat → Nat → Nat → Nat → Nat → Nat → Nat → Nat → List Nat
  | w :: ws, k :: ks, a, b, c, d, e, f, g, h => fc (rxN e f g h k w) fun x => fc (addN x (ryN a b c)) fun a' => fc (addN d x) fun e' => rd8 ws ks a' a b c e' e f g
  | _, _, a, b, c, d, e, f, g, h => [a, b, c, d, e, f, g, h]
def sumN : List Nat → List Nat → List Nat
  | a :: l, b :: m => addN a b :: sumN l m
  | _, _ => []
noncomputable def compN (kt s b : List Nat) : List Nat :=
  sumN s (rd8 (extN 48 (wdN b 0) (wdN b 4) (wdN b 8) (wdN b 12) (wdN b 16) (wdN b 20) (wdN b 24) (wdN b 28) (wdN b 32) (wdN b 36) (wdN b 40) (wdN b 44) (wdN b 48) (wdN b 52) (wdN b 56) (wdN b 60)) kt (s.getD 0 0) (s.getD 1 0) (s.getD 2 0) (s.getD 3 0) (s.getD 4 0) (s.getD 5 0) (s.getD 6 0) (s.getD 7 0))
theorem t_add (x y : UInt32) : (x + y).toNat = addN x.toNat y.toNat := UInt32.toNat_add x y
theorem t_and (x y : UInt32) : (x &&& y).toNat = Nat.land x.toNat y.toNat := UInt32.toNat_and x y
theorem t_or (x y : UInt32) : (x ||| y).toNat = Nat.lor x.toNat y.toNat := UInt32.toNat_or x y
theorem t_xor (x y : UInt32) : (x ^^^ y).toNat = Nat.xor x.toNat y.toNat := UInt32.toNat_xor x y
theorem t_not (x : UInt32) : (~~~x).toNat = Nat.sub 4294967295 x.toNat := by
  have : (~~~x).toNat = 4294967295 - x.toNat := by rw [UInt32.toNat_not]; rfl
  exact this
theorem t_shl (x : UInt32) (n : Nat) : (shl32 x n).toNat = Nat.mod (Nat.shiftLeft x.toNat n) 4294967296 := by
  show (x.toBitVec <<< n).toNat = _
  rw [BitVec.toNat_shiftLeft]; rfl
theorem t_shr (x : UInt32) (n : Nat) : (shr32 x n).toNat = Nat.shiftRight x.toNat n := by
  show (x.toBitVec >>> n).toNat = _
  rw [BitVec.toNat_ushiftRight]; rfl
theorem t_rot (x : UInt32) (i : Nat) : (rotr32 x i).toNat = rotN x.toNat i := by unfold rotr32 rotN; rw [t_or, t_shl, t_shr]
theorem t_mix (x : UInt32) (i j k : Nat) : (mix32 x i j k).toNat = mixN x.toNat i j k := by unfold mix32 mixN; rw [t_xor, t_xor, t_rot, t_rot, t_rot]
theorem t_rx (e : List UInt32) (k w : UInt32) : (rx e k w).toNat = rxN (e.getD 0 0).toNat (e.getD 1 0).toNat (e.getD 2 0).toNat (e.getD 3 0).toNat k.toNat w.toNat := by
  unfold rx rxN
  simp only [t_add, t_mix, t_xor, t_and, t_not]
theorem t_ry (v : List UInt32) : (ry v).toNat = ryN (v.getD 0 0).toNat (v.getD 1 0).toNat (v.getD 2 0).toNat := by
  unfold ry ryN
  simp only [t_add, t_mix, t_xor, t_and]
theorem t_nx (w : List UInt32) (t : Nat) : (nextw w t).toNat = nxN (w.getD (t - 16) 0).toNat (w.getD (t - 15) 0).toNat (w.getD (t - 7) 0).toNat (w.getD (t - 2) 0).toNat := by
  unfold nextw nxN sig0 sig1 sg0N sg1N
  simp only [t_add, t_xor, t_rot, t_shr]
theorem t_byte (x : UInt8) : x.toUInt32.toNat = x.toNat := UInt8.toNat_toUInt32 x
theorem getD_map (l : List UInt8) (i : Nat) : (l.map UInt8.toNat).getD i 0 = (l.getD i 0).toNat := by
  rw [List.getD_eq_getElem?_getD, List.getD_eq_getElem?_getD, List.getElem?_map]
  cases l[i]? <;> rfl
theorem getW_map (l : List UInt32) (i : Nat) : (l.map UInt32.toNat).getD i 0 = (l.getD i 0).toNat := by
  rw [List.getD_eq_getElem?_getD, List.getD_eq_getElem?_getD, List.getElem?_map]
  cases l[i]? <;> rfl
theorem t_word (bs : List UInt8) (t : Nat) : (word bs t 4).toNat = wdN (bs.map UInt8.toNat) (4 * t) := by
  unfold wdN
  simp only [getD_map]
  simp only [word, t_or, t_shl, t_byte]
  rfl
theorem sched_keep (bs : List UInt8) (i : Nat) : ∀ m, i < m → (sched bs m).getD i 0 = (sched bs (i + 1)).getD i 0
  | 0, h => by omega
  | m + 1, h => by
    by_cases hm : m = i
    · subst hm; rfl
    · rw [sched, List.getD_eq_getElem?_getD, List.getElem?_set_ne hm, ← List.getD_eq_getElem?_getD]
      exact sched_keep bs i m (by omega)
theorem sched_get (bs : List UInt8) (i : Nat) (h : i < 64) : (sched bs 64).getD i 0 = if i < 16 then word bs i 4 else nextw (sched bs 64) i := by
  rw [sched_keep bs i 64 h]
  conv => lhs; rw [sched]
  rw [getD_set_same (by rw [sched_len]; exact h)]
  by_cases h16 : i < 16
  · rw [if_pos h16, if_pos h16]
  · rw [if_neg h16, if_neg h16]
    have k : ∀ j, j < i → (sched bs i).getD j 0 = (sched bs 64).getD j 0 := fun j hj => by rw [sched_keep bs j i hj, sched_keep bs j 64 (by omega)]
    unfold nextw
    rw [k _ (by omega), k _ (by omega), k _ (by omega), k _ (by omega)]
theorem drop_cons {α : Type} (l : List α) (t : Nat) (d : α) (h : t < l.length) : l.drop t = l.getD t d :: l.drop (t + 1) := by
  rw [List.drop_eq_getElem_cons h, List.getD_eq_getElem?_getD, List.getElem?_eq_getElem h]; rfl
theorem ext_eq (bs : List UInt8) : ∀ j t, t + 16 + j = 64 → extN j ((sched bs 64).getD t 0).toNat ((sched bs 64).getD (t + 1) 0).toNat ((sched bs 64).getD (t + 2) 0).toNat ((sched bs 64).getD (t + 3) 0).toNat ((sched bs 64).getD (t + 4) 0).toNat ((sched bs 64).getD (t + 5) 0).toNat ((sched bs 64).getD (t + 6) 0).toNat ((sched bs 64).getD (t + 7) 0).toNat ((sched bs 64).getD (t + 8) 0).toNat ((sched bs 64).getD (t + 9) 0).toNat ((sched bs 64).getD (t + 10) 0).toNat ((sched bs 64).getD (t + 11) 0).toNat ((sched bs 64).getD (t + 12) 0).toNat ((sched bs 64).getD (t + 13) 0).toNat ((sched bs 64).getD (t + 14) 0).toNat ((sched bs 64).getD (t + 15) 0).toNat = ((sched bs 64).drop t).map UInt32.toNat
  | 0, t, h => by
    have hl := sched_len bs 64
    have ht : t = 48 := by omega
    subst ht
    rw [extN]
    rw [drop_cons (sched bs 64) 48 0 (by omega)]; rw [drop_cons (sched bs 64) 49 0 (by omega)]; rw [drop_cons (sched bs 64) 50 0 (by omega)]; rw [drop_cons (sched bs 64) 51 0 (by omega)]; rw [drop_cons (sched bs 64) 52 0 (by omega)]; rw [drop_cons (sched bs 64) 53 0 (by omega)]; rw [drop_cons (sched bs 64) 54 0 (by omega)]; rw [drop_cons (sched bs 64) 55 0 (by omega)]; rw [drop_cons (sched bs 64) 56 0 (by omega)]; rw [drop_cons (sched bs 64) 57 0 (by omega)]; rw [drop_cons (sched bs 64) 58 0 (by omega)]; rw [drop_cons (sched bs 64) 59 0 (by omega)]; rw [drop_cons (sched bs 64) 60 0 (by omega)]; rw [drop_cons (sched bs 64) 61 0 (by omega)]; rw [drop_cons (sched bs 64) 62 0 (by omega)]; rw [drop_cons (sched bs 64) 63 0 (by omega)]; 
    rw [List.drop_of_length_le (by omega)]
    all_goals rfl
  | j + 1, t, h => by
    have hl := sched_len bs 64
    rw [extN, fc_eq, drop_cons (sched bs 64) t 0 (by omega), List.map_cons]
    have e := ext_eq bs j (t + 1) (by omega)
    have hx : nxN ((sched bs 64).getD t 0).toNat ((sched bs 64).getD (t + 1) 0).toNat ((sched bs 64).getD (t + 9) 0).toNat ((sched bs 64).getD (t + 14) 0).toNat = ((sched bs 64).getD (t + 1 + 15) 0).toNat := by
      rw [sched_get bs (t + 1 + 15) (by omega), if_neg (by omega), t_nx]
      rw [show t + 1 + 15 - 16 = t by omega, show t + 1 + 15 - 15 = t + 1 by omega, show t + 1 + 15 - 7 = t + 9 by omega, show t + 1 + 15 - 2 = t + 14 by omega]
    rw [hx, ← e]
theorem rd8_nil (ks : List Nat) (a b c d e f g h : Nat) : rd8 [] ks a b c d e f g h = [a, b, c, d, e, f, g, h] := by cases ks <;> rfl
theorem rd8_eq (s w kt : List UInt32) (hw : w.length = 64) (hk : kt.length = 64) : ∀ j t, t + j = 64 → rd8 ((w.drop t).map UInt32.toNat) ((kt.drop t).map UInt32.toNat) ((rds s w kt t).1.getD 0 0).toNat ((rds s w kt t).1.getD 1 0).toNat ((rds s w kt t).1.getD 2 0).toNat ((rds s w kt t).1.getD 3 0).toNat ((rds s w kt t).2.getD 0 0).toNat ((rds s w kt t).2.getD 1 0).toNat ((rds s w kt t).2.getD 2 0).toNat ((rds s w kt t).2.getD 3 0).toNat
    = [((rds s w kt 64).1.getD 0 0).toNat, ((rds s w kt 64).1.getD 1 0).toNat, ((rds s w kt 64).1.getD 2 0).toNat, ((rds s w kt 64).1.getD 3 0).toNat, ((rds s w kt 64).2.getD 0 0).toNat, ((rds s w kt 64).2.getD 1 0).toNat, ((rds s w kt 64).2.getD 2 0).toNat, ((rds s w kt 64).2.getD 3 0).toNat]
  | 0, t, h => by
    have ht : t = 64 := by omega
    subst ht
    rw [List.drop_of_length_le (by omega), List.map_nil, rd8_nil]
  | j + 1, t, h => by
    have e := rd8_eq s w kt hw hk j (t + 1) (by omega)
    rw [drop_cons w t 0 (by omega), drop_cons kt t 0 (by omega), List.map_cons, List.map_cons, rd8, fc_eq, fc_eq, fc_eq, ← t_rx, ← t_ry, ← t_add, ← t_add, ← e]
    rfl
theorem len4 {l : List UInt32} (h : l.length = 4) : ∃ a b c d, l = [a, b, c, d] := by
  match l, h with
  | [a, b, c, d], _ => exact ⟨a, b, c, d, rfl⟩
theorem len8 {l : List UInt32} (h : l.length = 8) : ∃ a b c d e f g k, l = [a, b, c, d, e, f, g, k] := by
  match l, h with
  | [a, b, c, d, e, f, g, k], _ => exact ⟨a, b, c, d, e, f, g, k, rfl⟩
theorem comp_eq (kt s : List UInt32) (bs : List UInt8) (hs : s.length = 8) (hk : kt.length = 64) : (comp kt s bs).map UInt32.toNat = compN (kt.map UInt32.toNat) (s.map UInt32.toNat) (bs.map UInt8.toNat) := by
  unfold compN
  have hx : extN 48 (wdN (bs.map UInt8.toNat) 0) (wdN (bs.map UInt8.toNat) 4) (wdN (bs.map UInt8.toNat) 8) (wdN (bs.map UInt8.toNat) 12) (wdN (bs.map UInt8.toNat) 16) (wdN (bs.map UInt8.toNat) 20) (wdN (bs.map UInt8.toNat) 24) (wdN (bs.map UInt8.toNat) 28) (wdN (bs.map UInt8.toNat) 32) (wdN (bs.map UInt8.toNat) 36) (wdN (bs.map UInt8.toNat) 40) (wdN (bs.map UInt8.toNat) 44) (wdN (bs.map UInt8.toNat) 48) (wdN (bs.map UInt8.toNat) 52) (wdN (bs.map UInt8.toNat) 56) (wdN (bs.map UInt8.toNat) 60) = (sched bs 64).map UInt32.toNat := by
    have h := ext_eq bs 48 0 rfl
    rw [List.drop_zero] at h
    rw [← h]
    have g : ∀ i, i < 16 → ((sched bs 64).getD i 0).toNat = wdN (bs.map UInt8.toNat) (4 * i) := fun i hi => by rw [sched_get bs i (by omega), if_pos hi, t_word]
    simp only [Nat.zero_add, g 0 (by omega), g 1 (by omega), g 2 (by omega), g 3 (by omega), g 4 (by omega), g 5 (by omega), g 6 (by omega), g 7 (by omega), g 8 (by omega), g 9 (by omega), g 10 (by omega), g 11 (by omega), g 12 (by omega), g 13 (by omega), g 14 (by omega), g 15 (by omega), Nat.reduceMul]
  rw [hx]
  have h := rd8_eq s (sched bs 64) kt (sched_len _ _) hk 64 0 rfl
  rw [List.drop_zero, List.drop_zero] at h
  have d0 : rds s (sched bs 64) kt 0 = (s.take 4, s.drop 4) := rfl
  rw [d0] at h
  obtain ⟨l1, l2⟩ := rds_len s (sched bs 64) kt hs 64
  unfold comp
  generalize rds s (sched bs 64) kt 64 = p at *
  obtain ⟨V, E⟩ := p
  obtain ⟨a, b, c, d, e, f, g, k, rfl⟩ := len8 hs
  obtain ⟨v0, v1, v2, v3, rfl⟩ := len4 l1
  obtain ⟨e0, e1, e2, e3, rfl⟩ := len4 l2
  simp only [getW_map]
  have h' : rd8 ((sched bs 64).map UInt32.toNat) (kt.map UInt32.toNat) a.toNat b.toNat c.toNat d.toNat e.toNat f.toNat g.toNat k.toNat = [v0.toNat, v1.toNat, v2.toNat, v3.toNat, e0.toNat, e1.toNat, e2.toNat, e3.toNat] := h
  show _ = sumN _ (rd8 ((sched bs 64).map UInt32.toNat) (kt.map UInt32.toNat) a.toNat b.toNat c.toNat d.toNat e.toNat f.toNat g.toNat k.toNat)
  rw [h']
  show [_, _, _, _, _, _, _, _] = _
  rfl
end Go.Proofs.YtcmfoipnoejmlaaDoor