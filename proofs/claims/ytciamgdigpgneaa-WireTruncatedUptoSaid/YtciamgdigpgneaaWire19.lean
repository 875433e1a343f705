/- The laws of encoding, round trip and concatenation, walked. -/
import Derived.Test.YtciamgdigpgneaaWire18
namespace Go.Proofs.Ytciamgdigpgneaa
open Go.RowKit WM
theorem flatMap_cvI (l : List Int) : l.flatMap cvI = l.map fun x => .int .i64 x := by
  induction l with
  | nil => rfl
  | cons x l ih => rw [List.flatMap_cons, ih]; rfl
theorem flatMap_cvS (l : List (List UInt8)) : l.flatMap cvS = l.map fun x => .string ⟨x.toArray⟩ := by
  induction l with
  | nil => rfl
  | cons x l ih => rw [List.flatMap_cons, ih]; rfl
theorem flatMap_enc_len : ∀ (l : List Int), (∀ x ∈ l, -9223372036854775808 ≤ x ∧ x ≤ 9223372036854775807) → (l.flatMap enc).length ≤ l.length * 10 := by
  intro l
  induction l with
  | nil => intro _; simp
  | cons x l ih =>
    intro h
    have h1 := enc_len (h x (by simp)).1 (h x (by simp)).2
    have h2 := ih fun y hy => h y (by simp [hy])
    rw [List.flatMap_cons, List.length_append, List.length_cons]; omega
theorem flatMap_encB_len : ∀ (l : List (List UInt8)), (∀ x ∈ l, x.length ≤ 1000000) → (l.flatMap encB).length ≤ l.length * 10 + (l.map List.length).sum := by
  intro l
  induction l with
  | nil => intro _; simp
  | cons x l ih =>
    intro h
    have h0 := h x (by simp)
    have h1 := enc_len (n := (x.length : Int)) (by omega) (by omega)
    have h2 := ih fun y hy => h y (by simp [hy])
    rw [List.flatMap_cons, List.length_append, List.length_cons, List.map_cons, List.sum_cons, encB, List.length_append]; omega
theorem le_sum {x : List UInt8} : ∀ {l : List (List UInt8)}, x ∈ l → x.length ≤ (l.map List.length).sum := by
  intro l
  induction l with
  | nil => intro h; cases h
  | cons y l ih =>
    intro h
    rw [List.map_cons, List.sum_cons]
    rcases List.mem_cons.1 h with rfl | h
    · omega
    · have := ih h; omega
set_option maxRecDepth 100000 in
set_option maxHeartbeats 2000000 in
theorem law_few (ao : Option Addr) (n cap : Nat) (l : List (List UInt8)) (w : World) (hs : Sl w ao n cap (l.flatMap cvS)) (hb : l.length + (l.map List.length).sum ≤ 1000000000) :
    Calls Try.prog 11 #[.slice ao n cap] w fun e w' => e = .returned (.bool (decide (l.length + (l.map List.length).sum ≤ 2000))) ∧ w = w' := by
  obtain rfl := len_cvS hs
  have hcap := hs.fits
  have hsm := hs.small
  unfold maxLen at hsm
  go_enter Try.func11, Try.ntmps11
  go_wp2
  go_loop [3, 10] (fun t i => ∃ k : Nat, i = .int .i64 k ∧ k ≤ l.length ∧ t = .int .i64 ((l.length + ((l.take k).map List.length).sum : Nat) : Int)) (fun _ i => l.length - (intOf i).toNat)
  case atStart => exact ⟨0, rfl, Nat.zero_le _, by simp⟩
  case round =>
    obtain ⟨k, rfl, hk, rfl⟩ := hrel
    by_cases hlt : k < l.length
    · obtain ⟨b, off, rfl, hc⟩ := hs.at hlt
      have hcj : w.cell? ⟨b, off + k, none⟩ = some (.string ⟨l[k].toArray⟩) := cell_cv1 (f := cvS) (fun _ => rfl) hc hlt hlt
      have hT : Hid (((l.take (k + 1)).map List.length).sum = ((l.take k).map List.length).sum + l[k].length) := by
        show _ = _
        rw [List.take_succ_eq_append_getElem hlt, List.map_append, List.sum_append]; simp
      have hle : ((l.take (k + 1)).map List.length).sum ≤ (l.map List.length).sum := by
        conv => rhs; rw [← List.take_append_drop (k + 1) l, List.map_append, List.sum_append]
        omega
      rw [hT.out] at hle
      have hsz : ByteArray.size ⟨l[k].toArray⟩ = l[k].length := by simp [ByteArray.size]
      clear hc
      generalize l[k] = x at *
      generalize ((l.take k).map List.length).sum = S at *
      have hS2 : l.length + S + x.length ≤ 1000000000 := by omega
      go_wp2
      go_round
      case rel => exact ⟨k + 1, by go_num, by omega, by rw [hT.out]; go_num⟩
      case measure => simp [intOf]; omega
    · have hkl : k = l.length := by omega
      have hf : ((l.take k).map List.length).sum = (l.map List.length).sum := by rw [hkl, List.take_length]
      obtain ⟨S, hS⟩ : ∃ S, S = (l.map List.length).sum := ⟨_, rfl⟩
      rw [hf, ← hS]
      have HK := Lib.hid hkl
      have HS := Lib.hid hS
      clear hkl hf hS
      go_wp2
      go_ret
      refine ⟨?_, rfl⟩
      show Ending.returned (.bool (decide (((l.length : Int) + (S : Int)) ≤ 2000))) = _
      congr 2
      have := HS.out
      rw [decide_eq_decide]; omega
end Go.Proofs.Ytciamgdigpgneaa
