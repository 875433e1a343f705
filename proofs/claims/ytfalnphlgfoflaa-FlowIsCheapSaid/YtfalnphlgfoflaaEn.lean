/- A law's arguments in the plain machine: what reads as a tree in the world has a start of the plain machine in which a value stands for it, and the tree for that value. No program in sight. -/
import Derived.Test.YtfalnphlgfoflaaTk
namespace Go.Proofs.Ytfalnphlgfoflaa
open Go Go.RowKit
set_option linter.unusedVariables false
set_option linter.unusedSectionVars false
mutual
inductive Rt (W : World) : T → Value → Prop
  | int (k n) : Rt W (.int k n) (.int k n)
  | bool (b) : Rt W (.bool b) (.bool b)
  | str (b) : Rt W (.str b) (.string b)
  | agg {l cs} : RtL W l cs → Rt W (.agg l) (.agg ⟨cs⟩)
  | nil {e} : Rt W (.lst e []) (.slice none 0 0)
  | zero {e a} : 0 < e → 0 < W.heap.size → Rt W (.lst e []) (.slice (some a) 0 0)
  | lst {e l b off cap cs} : RtL W (l.flatMap T.cells) cs → (∀ t, t ∈ l → t.cells.length = e) → 0 < e → l.length ≤ cap → cap ≤ maxLen → (W.cell? ⟨b, off, none⟩).isSome = true → (∀ (j : Nat) u, cs[j]? = some u → W.cell? ⟨b, off + j, none⟩ = some u) → Rt W (.lst e l) (.slice (some ⟨b, off, none⟩) l.length cap)
inductive RtL (W : World) : List T → List Value → Prop
  | nil : RtL W [] []
  | cons {t v l vs} : Rt W t v → RtL W l vs → RtL W (t :: l) (v :: vs)
end
section
variable {W : World} {N : Nat} {G : List Nat} {K : List (Nat × List Value)}
theorem RtL.len : ∀ {l : List T} {vs : List Value}, RtL W l vs → l.length = vs.length
  | _, _, .nil => rfl
  | _, _, .cons _ h => by rw [List.length_cons, List.length_cons, h.len]
theorem cell_belowE {b j k : Nat} (h : (W.cell? ⟨b, k, none⟩).isSome = true) (hj : j ≤ k) : (W.cell? ⟨b, j, none⟩).isSome = true := by
  unfold World.cell? at h ⊢
  simp only at h ⊢
  split at h
  · rename_i c _ _ hb
    simp only [Option.isSome_none, Bool.false_eq_true, if_false] at h ⊢
    have : k < c.size := by
      by_cases hk : k < c.size
      · exact hk
      · rw [Array.getElem?_eq_none (by omega)] at h; simp at h
    rw [Array.getElem?_eq_getElem (by omega)]; rfl
  · simp at h
theorem cell_ltE {b k : Nat} (h : (W.cell? ⟨b, k, none⟩).isSome = true) : b < W.heap.size := by
  unfold World.cell? at h
  simp only at h
  by_cases hb : b < W.heap.size
  · exact hb
  · rw [Array.getElem?_eq_none (by omega)] at h; simp at h
theorem rowOf_skipE {u : Nat} {m : List (Nat × List Value)} : ∀ {l : List (Nat × List Value)}, (∀ p, p ∈ l → p.1 ≠ u) → rowOf (l ++ m) u = rowOf m u
  | [], _ => rfl
  | p :: l, h => by
    show (bif Nat.beq p.1 u then some p.2 else rowOf (l ++ m) u) = _
    rw [beq_no (h p (by simp)), cond_false]
    exact rowOf_skipE fun q hq => h q (by simp [hq])
theorem segRows_row {f : Nat} {q : Seg} : ∀ {F : List Seg} {i j : Nat}, F[i]? = some q → q.b = f → rowOf (segRows N f j F) ((N + (j + i)) * 1024) = some q.cs
  | [], i, j, h, _ => by simp at h
  | p :: F, 0, j, h, hb => by
    simp only [List.getElem?_cons_zero, Option.some.injEq] at h
    subst h
    unfold segRows
    rw [if_pos hb]
    simp [rowOf, Nat.beq_refl]
  | p :: F, i + 1, j, h, hb => by
    have ih := segRows_row (F := F) (i := i) (j := j + 1) (by simpa using h) hb
    rw [show j + 1 + i = j + (i + 1) by omega] at ih
    unfold segRows
    split
    · unfold rowOf
      have : Nat.beq ((N + j) * 1024) ((N + (j + (i + 1))) * 1024) = false := by
        cases hq : Nat.beq ((N + j) * 1024) ((N + (j + (i + 1))) * 1024) with
        | false => rfl
        | true => have := Nat.eq_of_beq_eq_true hq; omega
      rw [this]
      exact ih
    · exact ih
def Low (N : Nat) : Nat → Prop := fun f => f < N
structure En (W : World) (N : Nat) (G : List Nat) (K : List (Nat × List Value)) (pre A : List Seg) (l : List T) (xs vs : List Value) : Prop where
  vr : ∀ post, RL (VR (sgS N G K (pre ++ A ++ post))) xs vs
  vl : ∀ post, VL (Low N) bx0 (famS N K (pre ++ A ++ post)) l xs
  at_ : ∀ post q, q ∈ A → SegAt (sgS N G K (pre ++ A ++ post)) W q
theorem sg_at (hK : ∀ p, p ∈ K → has G p.1 = true) (hG : ∀ g, has G g = true → g < N) {F : List Seg} {i : Nat} {q : Seg} (hq : F[i]? = some q) (hb : q.b < N) :
    sgS N G K F q.b ((N + i) * 1024) = some (q.b, q.o, q.o + q.cs.length) ∧ rowOf (famS N K F q.b).rows ((N + i) * 1024) = some q.cs := by
  constructor
  · unfold sgS
    rw [if_neg (by rintro ⟨_, h⟩; omega), if_pos (by omega)]
    have e : (N + i) * 1024 / 1024 - N = i := by omega
    rw [e, hq]
    show (if q.b = q.b then _ else _) = _
    rw [if_pos rfl]
  · show rowOf ((famK K q.b).rows ++ segRows N q.b 0 F) _ = _
    rw [rowOf_skipE fun p hp => ?_]
    · have := segRows_row (N := N) (j := 0) hq rfl
      rwa [Nat.zero_add] at this
    · obtain ⟨h1, h2, _⟩ := famK_rows hp
      have := hG _ (hK _ h2)
      rw [h1]; simp only at this; omega
theorem idx_mid {α : Type} (pre A post : List α) (q : α) : (pre ++ (A ++ [q]) ++ post)[pre.length + A.length]? = some q := by
  rw [List.append_assoc, List.append_assoc, List.getElem?_append_right (by omega), List.getElem?_append_right (by omega)]
  simp
mutual
theorem ent (hN : N = W.heap.size) (hK : ∀ p, p ∈ K → has G p.1 = true) (hG : ∀ g, has G g = true → g < N) : ∀ {t : T} {v : Value}, Rt W t v → ∀ pre, ∃ A x, En W N G K pre A [t] [x] [v]
  | _, _, .int k n, pre => ⟨[], .int k n, ⟨fun _ => ⟨plain_refl 3 rfl, trivial⟩, fun _ => .cons (.int k n) .nil, fun _ q hq => by simp at hq⟩⟩
  | _, _, .bool b, pre => ⟨[], .bool b, ⟨fun _ => ⟨plain_refl 3 rfl, trivial⟩, fun _ => .cons (.bool b) .nil, fun _ q hq => by simp at hq⟩⟩
  | _, _, .str b, pre => ⟨[], .string b, ⟨fun _ => ⟨plain_refl 3 rfl, trivial⟩, fun _ => .cons (.str b) .nil, fun _ q hq => by simp at hq⟩⟩
  | _, _, .agg h, pre => by
    obtain ⟨A, xs, k⟩ := entL hN hK hG h pre
    exact ⟨A, .agg ⟨xs⟩, fun post => ⟨VR.mk ⟨_, rfl, k.vr post⟩, trivial⟩, fun post => .cons (.agg (k.vl post)) .nil, k.at_⟩
  | _, _, .nil, pre => ⟨[], .slice none 0 0, ⟨fun _ => ⟨VR.mk ⟨rfl, rfl, rfl⟩, trivial⟩, fun _ => .cons .lnil .nil, fun _ q hq => by simp at hq⟩⟩
  | .lst e _, .slice _ _ _, @Rt.zero _ _ a he hs, pre => by
    have hi := fun post => idx_mid pre [] post (⟨0, 0, []⟩ : Seg)
    have h0 : ∀ post, _ := fun post => sg_at (q := (⟨0, 0, []⟩ : Seg)) hK hG (hi post) (by show 0 < N; omega)
    refine ⟨[⟨0, 0, []⟩], .slice (some (mkA 0 ((N + (pre.length + 0)) * 1024) 0)) 0 0, ⟨fun post => ⟨VR.mk ⟨0, 0, _, (h0 post).1, a, 0, rfl, Nat.le_refl _, Nat.le_refl _, Nat.zero_le _, fun h => absurd rfl h, fun _ => rfl, fun _ h => absurd rfl h⟩, trivial⟩, fun post => .cons ?_ .nil, fun post q hq => ?_⟩⟩
    · exact .lst (l := []) (cs := []) (show (0 : Nat) < N by omega) (h0 post).2 .nil (fun t ht => by simp at ht) he rfl (.inl (by omega)) (Nat.le_refl _)
    · simp only [List.mem_singleton] at hq
      subst hq
      exact ⟨hs, fun j hj => by simp at hj, fun j u hu => by simp at hu⟩
  | .lst e l, .slice _ _ cap, @Rt.lst _ _ _ b off _ cs h hs he hl hm hc hcell, pre => by
    obtain ⟨A, xs, k⟩ := entL hN hK hG h pre
    have hxl : xs.length = cs.length := (k.vr []).length
    have hb : b < W.heap.size := cell_ltE hc
    have hi := fun post => idx_mid pre A post (⟨b, off, xs⟩ : Seg)
    have h0 := fun post => sg_at (q := (⟨b, off, xs⟩ : Seg)) hK hG (hi post) (by show b < N; omega)
    have hF : ∀ post, pre ++ (A ++ [⟨b, off, xs⟩]) ++ post = pre ++ A ++ ((⟨b, off, xs⟩ : Seg) :: post) := fun post => by simp
    refine ⟨A ++ [⟨b, off, xs⟩], .slice (some (mkA b ((N + (pre.length + A.length)) * 1024) 0)) l.length cap, ⟨fun post => ⟨VR.mk ⟨b, off, _, (h0 post).1, ⟨b, off, none⟩, cap, rfl, hl, Nat.le_refl _, hm, fun _ => rfl, fun _ => rfl, fun ht => ?_⟩, trivial⟩, fun post => .cons ?_ .nil, fun post q hq => ?_⟩⟩
    · rw [ver_mk] at ht
      omega
    · refine .lst (cs := xs) (show b < N by omega) (h0 post).2 ?_ hs he (by rw [List.drop_zero, List.take_length]) (.inl (by omega)) hl
      rw [hF]; exact k.vl _
    · rcases List.mem_append.1 hq with hq | hq
      · rw [hF]; exact k.at_ _ q hq
      · simp only [List.mem_singleton] at hq
        subst hq
        refine ⟨hb, fun j hj => ?_, fun j u hu => ?_⟩
        · have hj : j < off + xs.length := hj
          by_cases h1 : j ≤ off
          · exact cell_belowE hc h1
          · have hjc : j - off < cs.length := by omega
            have := hcell (j - off) _ (List.getElem?_eq_getElem hjc)
            rw [show off + (j - off) = j by omega] at this
            rw [this]; rfl
        · have hju : j < xs.length := (List.getElem?_eq_some_iff.1 hu).1
          have hu : xs[j]? = some u := hu
          have hcs := List.getElem?_eq_getElem (l := cs) (i := j) (by omega)
          refine ⟨_, hcell j _ hcs, ?_⟩
          rw [hF]
          obtain ⟨y, hy1, hy2⟩ := (k.vr (⟨b, off, xs⟩ :: post)).at hu
          rw [hcs] at hy1; cases hy1; exact hy2
theorem entL (hN : N = W.heap.size) (hK : ∀ p, p ∈ K → has G p.1 = true) (hG : ∀ g, has G g = true → g < N) : ∀ {l : List T} {vs : List Value}, RtL W l vs → ∀ pre, ∃ A xs, En W N G K pre A l xs vs
  | _, _, .nil, pre => ⟨[], [], ⟨fun _ => trivial, fun _ => .nil, fun _ q hq => by simp at hq⟩⟩
  | _, _, .cons h1 h2, pre => by
    obtain ⟨A1, x, k1⟩ := ent hN hK hG h1 pre
    obtain ⟨A2, xs, k2⟩ := entL hN hK hG h2 (pre ++ A1)
    have e1 : ∀ post, pre ++ (A1 ++ A2) ++ post = pre ++ A1 ++ (A2 ++ post) := fun post => by simp
    have e2 : ∀ post, pre ++ (A1 ++ A2) ++ post = pre ++ A1 ++ A2 ++ post := fun post => by simp
    refine ⟨A1 ++ A2, x :: xs, ⟨fun post => ⟨?_, ?_⟩, fun post => ?_, fun post q hq => ?_⟩⟩
    · rw [e1]; exact (k1.vr _).1
    · rw [e2]; exact k2.vr _
    · have a := k1.vl (A2 ++ post)
      have b := k2.vl post
      rw [← e1] at a
      rw [← e2] at b
      cases a with
      | cons a _ => exact .cons a b
    · rcases List.mem_append.1 hq with hq | hq
      · rw [e1]; exact k1.at_ _ q hq
      · rw [e2]; exact k2.at_ _ q hq
end
end
end Go.Proofs.Ytfalnphlgfoflaa
