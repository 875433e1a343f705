/- Trees: loops whose rounds leave boxes behind. No program in sight. -/
import Derived.Test.YtfalnphlgfoflaaTn
namespace Go.Proofs.Ytfalnphlgfoflaa
open Go Go.RowKit
set_option linter.unusedSimpArgs false
set_option linter.unusedVariables false
def keepT (l : List Nat) (h : Nat → T) : Nat → T := fun t => if t ∈ l then h t else .junk
def keepIds : List Nat → Nat → (Nat → T) → Prop
  | [], _, _ => True
  | t :: l, n, h => (h t).ids n = true ∧ keepIds l n h
theorem keepIds_mem {n : Nat} {h : Nat → T} : ∀ {l : List Nat}, keepIds l n h → ∀ t, t ∈ l → (h t).ids n = true
  | [], _, t, ht => by simp at ht
  | x :: l, k, t, ht => by
    rcases List.mem_cons.1 ht with rfl | ht
    · exact k.1
    · exact keepIds_mem k.2 t ht
def boxesIds (n : Nat) : List Box → Bool
  | [] => true
  | b :: l => boxIds n b && boxesIds n l
theorem spl_one {l : List T} {i : Nat} {x : T} (h : i < l.length) : spl l i [x] = l.set i x := by
  unfold spl
  rw [List.set_eq_take_append_cons_drop, if_pos h]
  simp
theorem set_map {α : Type} {L : List α} {f : α → T} {i : Nat} {v : α} : (L.map f).set i (f v) = (L.set i v).map f := (List.map_set).symm
theorem spl_0 {l : List T} : spl l 0 [] = l := by simp [spl]
theorem spl_s {a : T} {l xs : List T} {n : Nat} : spl (a :: l) (n + 1) xs = a :: spl l n xs := by
  unfold spl
  rw [show n + 1 + xs.length = (n + xs.length) + 1 by omega]
  simp
theorem spl_c {a x : T} {l xs : List T} : spl (a :: l) 0 (x :: xs) = x :: spl l 0 xs := by simp [spl]
theorem spl_map {α : Type} {L : List α} {f : α → T} {i : Nat} {v : α} (h : i < L.length) : spl (L.map f) i [f v] = (L.set i v).map f := by
  rw [spl_one (by rw [List.length_map]; exact h), set_map]
theorem rep_int (n : Nat) (k : IntKind) (z : Int) : rep n [.int k z] = (List.replicate n z).map (T.int k) := by
  unfold rep
  induction n with
  | zero => rfl
  | succ n ih => rw [List.replicate_succ, List.flatten_cons, ih, List.replicate_succ]; rfl
theorem rep_bool (n : Nat) (z : Bool) : rep n [.bool z] = (List.replicate n z).map T.bool := by
  unfold rep
  induction n with
  | zero => rfl
  | succ n ih => rw [List.replicate_succ, List.flatten_cons, ih, List.replicate_succ]; rfl
theorem cells_map {α : Type} {L : List α} {f : α → T} (h : ∀ x, (f x).cells = [f x]) : (L.map f).flatMap T.cells = L.map f := by
  induction L with
  | nil => rfl
  | cons x l ih => rw [List.map_cons, List.flatMap_cons, h, ih]; rfl
theorem lend_map {α : Type} {S : TS} {b N : Nat} {z : Bool} {L : List α} {f : α → T} (h1 : ∀ x, (f x).cells = [f x]) (hS : S.box b = .cells z N (L.map f)) (hl : L.length = N) : Lend1 S (.arr b 1 0 N N N) (.lst 1 (L.map f)) :=
  .inr ⟨b, 1, 0, N, N, N, z, L.map f, L.map f, rfl, rfl, hS, by omega, by omega, by rw [List.drop_zero, Nat.mul_one, List.take_of_length_le (by rw [List.length_map]; omega), cells_map h1], fun t ht => by obtain ⟨x, _, rfl⟩ := List.mem_map.1 ht; rw [h1]; rfl, by rw [List.length_map]; exact hl, Nat.le_refl _⟩
section
variable {GL : List (Nat × List Value)} {A A' A2 : Nat → Prop} {β β' β2 : Bx} {S S' S2 : TS} {s s' s2 : CS} {P : Program} {Γ : Env} {N : Nat} {h h' h2 : Nat → T} {Q R : Exit → (Nat → T) → TS → Prop}
theorem keepT_at {l : List Nat} {t : Nat} (ht : t ∈ l) : keepT l h t = h t := if_pos ht
theorem boxesIds_get {n : Nat} {l : List Box} : ∀ {i : Nat}, boxesIds n l = true → boxIds n (l.getD i .gone) = true := by
  induction l with
  | nil => intro i _; rfl
  | cons b l ih =>
    intro i h
    simp only [boxesIds, Bool.and_eq_true] at h
    cases i with
    | zero => exact h.1
    | succ i => exact ih h.2
theorem Left.trim {fr fr' : Fr} {keep : List Nat} {bs bs2 extra : List Box} (hT : TRel GL A β (stL bs) s) (k : Left GL A β s N fr' s' h' (stL (bs2 ++ extra))) (hl : bs2.length = bs.length) (hb : boxesIds bs.length bs2 = true) (hk : keepIds keep bs.length h') : Left GL A β s N fr' s' (keepT keep h') (stL bs2) := by
  obtain ⟨A', β', k1, k2, k3⟩ := k
  have hat : ∀ b, b < bs.length → bcut β' bs.length b = β' b := fun b hb => if_pos hb
  have hsub : ∀ b l, bcut β' bs.length b = some l → β' b = some l := fun b l h => by
    unfold bcut at h
    split at h
    · exact h
    · simp at h
  have hkp : Keeps (stL (bs2 ++ extra)) (stL bs2) := by
    refine ⟨by simp [stL], fun b => ?_⟩
    by_cases hbl : b < bs2.length
    · refine .inr ⟨hbl, ?_, ?_⟩
      · show bs2.getD b .gone = (bs2 ++ extra).getD b .gone
        rw [List.getD_eq_getElem?_getD, List.getD_eq_getElem?_getD, List.getElem?_append_left hbl]
      · show boxIds bs2.length ((bs2 ++ extra).getD b .gone) = true
        rw [List.getD_eq_getElem?_getD, List.getElem?_append_left hbl, ← List.getD_eq_getElem?_getD, hl]
        exact boxesIds_get hb
    · left
      show bs2.getD b .gone = .gone
      rw [List.getD_eq_getElem?_getD, List.getElem?_eq_none (by omega)]; rfl
  have hcut := k2.cut hkp
  have hn : (stL bs2).n = bs.length := hl
  rw [hn] at hcut
  refine ⟨A', bcut β' bs.length, ⟨k1.nt, k1.le, fun t => ?_⟩, hcut, k3.can, k3.sub, k3.new, fun f hf => ?_, k3.keep, fun b l hb' => ?_, k3.rd, k3.wr⟩
  · by_cases ht : t ∈ keep
    · rw [keepT_at ht]; exact (k1.slot t).ids hat (keepIds_mem hk t ht)
    · rw [show keepT keep h' t = .junk from if_neg ht]; exact .junk _
  · obtain ⟨b, hb'⟩ := hf
    exact k3.own f ⟨b, hb'.imp (fun ⟨u, N, h⟩ => ⟨u, N, hsub _ _ h⟩) fun h => hsub _ _ h⟩
  · obtain ⟨l', c1, c2⟩ := k3.bx b l hb'
    have : b < bs.length := by
      by_cases hh : b < bs.length
      · exact hh
      · rw [hT.next b (by show bs.length ≤ b; omega)] at hb'; simp at hb'
    exact ⟨l', by rw [hat b this]; exact c1, c2⟩
def Round (keep : List Nat) (n : Nat) (I : Nat → (Nat → T) → List Box → Prop) (m0 : Nat) (h' : Nat → T) (S' : TS) : Prop :=
  ∃ m, m < m0 ∧ ∃ bs', S' = stL bs' ∧ n ≤ bs'.length ∧ boxesIds n (bs'.take n) = true ∧ keepIds keep n h' ∧ I m (keepT keep h') (bs'.take n)
theorem TW.loopT {b : Code} (keep : List Nat) (I : Nat → (Nat → T) → List Box → Prop) (hb : ∀ m h bs, I m h bs → TW P Γ GL N b h (stL bs) (onT (fun h' S' => Round keep bs.length I m h' S') Q)) : ∀ m h bs, I m h bs → TW P Γ GL N (.loop b) h (stL bs) Q := by
  intro m
  induction m using Nat.strongRecOn with
  | _ m ih =>
    intro h bs hI A β fr s hF hT
    obtain ⟨e, fr1, s1, h1, h', S', hleft, hq⟩ := hb m h bs hI A β fr s hF hT
    cases e with
    | normal =>
      obtain ⟨m2, hm, bs', rfl, hl, hbi, hki, hI'⟩ := hq
      have hl2 := Left.trim (fr := fr) (keep := keep) (bs2 := bs'.take bs.length) (extra := bs'.drop bs.length) hT (by rw [List.take_append_drop]; exact hleft) (by rw [List.length_take]; omega) hbi hki
      obtain ⟨A', β', k1, k2, k3⟩ := hl2
      obtain ⟨e2, fr2, s2, h3, h2, S2, l2, q2⟩ := ih m2 hm _ _ hI' A' β' fr1 s1 k1 k2
      exact ⟨e2, fr2, s2, Ev.again h1 h3, h2, S2, Left.trans (h' := h) (fr' := fr) hT.le k3 l2, q2⟩
    | _ => exact ⟨_, _, _, Ev.last h1 (by simp), h', S', hleft, hq⟩
def Ends (keep : List Nat) (n : Nat) (R : (Nat → T) → List Box → Prop) (h' : Nat → T) (S' : TS) : Prop :=
  ∃ bs', S' = stL bs' ∧ n ≤ bs'.length ∧ boxesIds n (bs'.take n) = true ∧ keepIds keep n h' ∧ R (keepT keep h') (bs'.take n)
theorem TRel.freezeP (hT : TRel GL A β S s) {b M : Nat} {z : Bool} {l : List T} (hS : S.box b = .cells z M l) :
    ∃ A' β', TRel GL A' β' (S.set b .gone) s ∧ Stp A β s A' β' s ∧ ∀ {v : Value}, VT A β (objAt s.obj) (.ptr b 0 M) v → VT A' β' (objAt s.obj) (.cp l) v := by
  obtain ⟨hlN, hc⟩ := hT.cells b z M l hS
  rcases hc with ⟨hb, hN, _⟩ | ⟨f, u, cs, rest, hb, hz, hat, hvl, hone⟩
  · obtain ⟨k1, k2⟩ := hT.dead hb A (fun _ h => h) (fun _ h => .inl h)
    refine ⟨_, _, k1, k2, fun {v} hv => ?_⟩
    obtain ⟨f, u, rfl, hb'⟩ := ptr_inv hT hS hv
    rw [hb] at hb'; simp at hb'
  · obtain ⟨k1, k2⟩ := hT.dead hb (fun k => A k ∨ k = f) (fun _ h => .inl h) (fun k hk => hk.imp id fun q => by rw [q]; rfl)
    refine ⟨_, _, k1, k2, fun {v} hv => ?_⟩
    obtain ⟨f', u', rfl, hb'⟩ := ptr_inv hT hS hv
    rw [hb] at hb'; cases hb'
    have hrow : rowOf (objAt s.obj f).rows u = some cs := by
      rw [hat]
      show rowOf ((u, cs) :: rest) u = some cs
      unfold rowOf; rw [Nat.beq_refl]; rfl
    exact .cp (.inr rfl) hrow (hvl.mono (fun _ h => .inl h) (fun _ _ => rfl) k2.bx) (by rw [List.drop_zero, List.take_length])
theorem TW.freezeP {c : Code} (t : Nat) {b M : Nat} {z : Bool} {l : List T} (ht : h t = .ptr b 0 M) (hS : S.box b = .cells z M l) (k : TW P Γ GL N c (tupd h t (.cp l)) (S.set b .gone) Q) : TW P Γ GL N c h S Q := by
  intro A β fr s hF hT
  obtain ⟨A', β', k1, k2, k3⟩ := hT.freezeP hS
  have hv := hF.slot t
  rw [ht] at hv
  have hF' : FrOk A' β' (objAt s.obj) N (tupd h t (.cp l)) fr := ⟨hF.nt, hF.le, fun u => by
    by_cases hu : u = t
    · subst hu; rw [tupd_same]; exact k3 hv
    · rw [tupd_ne _ _ _ _ hu]; exact k2.vt hT (hF.slot u)⟩
  refine (k A' β' fr s hF' k1).mono ?_
  rintro e2 fr2 s2 ⟨h2, S2, l2, q2⟩
  exact ⟨h2, S2, Left.trans (h' := h) (fr' := fr) hT.le k2 l2, q2⟩
theorem TW.cut {a : Code} {k : (Nat → T) → TS → Prop} (keep : List Nat) {bs : List Box} (R : (Nat → T) → List Box → Prop) (hR : TW P Γ GL N a h (stL bs) fun e h' S' => e = .normal ∧ Ends keep bs.length R h' S') (hk : ∀ h bs2, R h bs2 → k h (stL bs2)) : TW P Γ GL N a h (stL bs) (onT k Q) := by
  intro A β fr s hF hT
  obtain ⟨e, fr1, s1, h1, h', S', hleft, rfl, bs', rfl, hl, hbi, hki, hq⟩ := hR A β fr s hF hT
  exact ⟨_, fr1, s1, h1, _, _, Left.trim (fr := fr) (keep := keep) (bs2 := bs'.take bs.length) (extra := bs'.drop bs.length) hT (by rw [List.take_append_drop]; exact hleft) (by rw [List.length_take]; omega) hbi hki, hk _ _ hq⟩
end
end Go.Proofs.Ytfalnphlgfoflaa
