/- Rules for the printed walks: what is named anew behind each region, pieces that are told by what they leave, and small facts. No program in sight. -/
import Derived.Test.YtfalnphlgfoflaaTp
import Derived.Test.YtfalnphlgfoflaaTq
namespace Go.Proofs.Ytfalnphlgfoflaa
open Go Go.RowKit
set_option linter.unusedSimpArgs false
set_option linter.unusedVariables false
theorem bsome {α β : Type} {x : Option α} {f : α → Option β} {v : β} (h : x.bind f = some v) : ∃ a, x = some a ∧ f a = some v := by
  cases x with
  | none => cases h
  | some a => exact ⟨a, rfl, h⟩
def gx {α : Type} [Inhabited α] (l : List α) (i : Int) : α := l.getD i.toNat default
theorem gx_some {α : Type} [Inhabited α] {l : List α} {i : Int} (h : 0 ≤ i ∧ i < (l.length : Int)) : l[i.toNat]? = some (gx l i) := get_some (by omega)
def bx (b : ByteArray) (i : Int) : UInt8 := b.data.toList.getD i.toNat 0
theorem bx_some {b : ByteArray} {i : Int} (h : 0 ≤ i ∧ i < (b.size : Int)) : b.data.toList[i.toNat]? = some (bx b i) := by
  have : i.toNat < b.data.toList.length := by have e : b.data.toList.length = b.size := by simp
                                              omega
  unfold bx
  rw [List.getD_eq_getElem?_getD, List.getElem?_eq_getElem this]
  rfl
def vecC {α : Type} (f : α → T) (l : List α) : List T := (l.map f).flatMap T.cells
theorem vecC_append {α : Type} {f : α → T} {l l2 : List α} : vecC f (l ++ l2) = vecC f l ++ vecC f l2 := by
  unfold vecC; rw [List.map_append, List.flatMap_append]
theorem vecC_len {α : Type} {f : α → T} {e : Nat} (h : ∀ x, (f x).cells.length = e) : ∀ (l : List α), (vecC f l).length = l.length * e
  | [] => by simp [vecC]
  | x :: l => by
    have ih := vecC_len h l
    unfold vecC at ih ⊢
    rw [List.map_cons, List.flatMap_cons, List.length_append, h, ih, List.length_cons, Nat.add_mul]; omega
theorem vecC_take {α : Type} {f : α → T} {e n : Nat} {l : List α} (h : ∀ x, (f x).cells.length = e) (hl : l.length = n) : (vecC f l).take (n * e) = (l.map f).flatMap T.cells := by
  have := vecC_len h l
  rw [List.take_of_length_le (by rw [this, hl]; exact Nat.le_refl _)]; rfl
theorem cm_int {k : IntKind} {l : List Int} : (l.map (T.int k)).flatMap T.cells = l.map (T.int k) := cells_map fun _ => rfl
theorem cm_bool {l : List Bool} : (l.map T.bool).flatMap T.cells = l.map T.bool := cells_map fun _ => rfl
theorem cm_str {l : List ByteArray} : (l.map T.str).flatMap T.cells = l.map T.str := cells_map fun _ => rfl
theorem am_int {k : IntKind} {l : List Int} : (l.map (T.int k)).all T.one = true := by simp [T.one]
theorem am_bool {l : List Bool} : (l.map T.bool).all T.one = true := by simp [T.one]
theorem am_str {l : List ByteArray} : (l.map T.str).all T.one = true := by simp [T.one]
section
variable {GL : List (Nat × List Value)} {A A' A2 : Nat → Prop} {β β' β2 : Bx} {S S' S2 : TS} {s s' s2 : CS} {P : Program} {Γ : Env} {N : Nat} {h h' h2 : Nat → T} {Q R : Exit → (Nat → T) → TS → Prop}
theorem Left.trimN {fr fr' : Fr} {keep : List Nat} {bs bs2 extra : List Box} {n : Nat} (hn : bs.length ≤ n) (hT : TRel GL A β (stL bs) s) (k : Left GL A β s N fr' s' h' (stL (bs2 ++ extra))) (hl : bs2.length = n) (hb : boxesIds n bs2 = true) (hk : keepIds keep n h') : Left GL A β s N fr' s' (keepT keep h') (stL bs2) := by
  obtain ⟨A', β', k1, k2, k3⟩ := k
  have hat : ∀ b, b < n → bcut β' n b = β' b := fun b hb => if_pos hb
  have hsub : ∀ b l, bcut β' n b = some l → β' b = some l := fun b l h => by
    unfold bcut at h
    split at h
    · exact h
    · simp at h
  have hkp : Keeps (stL (bs2 ++ extra)) (stL bs2) := by
    refine ⟨by simp [stL], fun b => ?_⟩
    by_cases hbl : b < bs2.length
    · refine .inr ⟨hbl, ?_, ?_⟩
      · show bs2.getD b .gone = (bs2 ++ extra).getD b .gone
        rw [List.getD_eq_getElem?_getD, List.getD_eq_getElem?_getD, List.getElem?_append_left hbl]
      · show boxIds bs2.length ((bs2 ++ extra).getD b .gone) = true
        rw [List.getD_eq_getElem?_getD, List.getElem?_append_left hbl, ← List.getD_eq_getElem?_getD, hl]
        exact boxesIds_get hb
    · left
      show bs2.getD b .gone = .gone
      rw [List.getD_eq_getElem?_getD, List.getElem?_eq_none (by omega)]; rfl
  have hcut := k2.cut hkp
  have hnn : (stL bs2).n = n := hl
  rw [hnn] at hcut
  refine ⟨A', bcut β' n, ⟨k1.nt, k1.le, fun t => ?_⟩, hcut, k3.can, k3.sub, k3.new, fun f hf => ?_, k3.keep, fun b l hb' => ?_, k3.rd, k3.wr⟩
  · by_cases ht : t ∈ keep
    · rw [keepT_at ht]; exact (k1.slot t).ids hat (keepIds_mem hk t ht)
    · rw [show keepT keep h' t = .junk from if_neg ht]; exact .junk _
  · obtain ⟨b, hb'⟩ := hf
    exact k3.own f ⟨b, hb'.imp (fun ⟨u, N, h⟩ => ⟨u, N, hsub _ _ h⟩) fun h => hsub _ _ h⟩
  · obtain ⟨l', c1, c2⟩ := k3.bx b l hb'
    have : b < bs.length := by
      by_cases hh : b < bs.length
      · exact hh
      · rw [hT.next b (by show bs.length ≤ b; omega)] at hb'; simp at hb'
    exact ⟨l', by rw [hat b (by omega)]; exact c1, c2⟩
theorem TW.cutN {a : Code} (keep : List Nat) (n : Nat) {bs : List Box} (hn : bs.length ≤ n) (R : (Nat → T) → List Box → Prop) (hR : TW P Γ GL N a h (stL bs) (onT (fun h' S' => Ends keep n R h' S') Q)) (hk : ∀ h bs2, R h bs2 → Q .normal h (stL bs2)) : TW P Γ GL N a h (stL bs) Q := by
  intro A β fr s hF hT
  obtain ⟨e, fr1, s1, h1, h', S', hleft, hq⟩ := hR A β fr s hF hT
  cases e with
  | normal =>
    obtain ⟨bs', rfl, hl, hbi, hki, hq⟩ := hq
    exact ⟨_, fr1, s1, h1, _, _, Left.trimN (fr := fr) (keep := keep) (bs2 := bs'.take n) (extra := bs'.drop n) hn hT (by rw [List.take_append_drop]; exact hleft) (by rw [List.length_take]; omega) hbi hki, hk _ _ hq⟩
  | _ => exact ⟨_, fr1, s1, h1, h', S', hleft, hq⟩
theorem TW.unz {c : Code} (b : Nat) {zz : Bool} {M : Nat} {l : List T} (hS : S.box b = .cells zz M l) (k : TW P Γ GL N c h (S.set b (.cells false M l)) Q) : TW P Γ GL N c h S Q := by
  intro A β fr s hF hT
  have hb : ∀ b' z N l', (S.set b (.cells false M l)).box b' = .cells z N l' → ∃ z0, S.box b' = .cells z0 N l' ∧ (z = true → z0 = true) := fun b' z N l' h => by
    by_cases hi : b' = b
    · subst hi; rw [TS.set_same] at h; cases h; exact ⟨zz, hS, fun h => by cases h⟩
    · rw [TS.set_ne _ _ hi] at h; exact ⟨z, h, id⟩
  refine k A β fr s hF ⟨hT.inr, hT.inv, hT.alt, hT.dis, hT.inj, hT.next, fun b' z N l' h => ?_, fun b' l' h => ?_, hT.glob⟩
  · obtain ⟨z0, h0, hz⟩ := hb b' z N l' h
    obtain ⟨h1, h2⟩ := hT.cells b' z0 N l' h0
    refine ⟨h1, ?_⟩
    rcases h2 with ⟨q1, q2, q3⟩ | ⟨f, u, cs, rest, q1, q2, q3⟩
    · exact .inl ⟨q1, q2, by cases z with | false => rfl | true => rw [hz rfl] at q3; exact q3⟩
    · exact .inr ⟨f, u, cs, rest, q1, fun h => q2 (hz h), q3⟩
  · by_cases hi : b' = b
    · subst hi; rw [TS.set_same] at h; cases h
    · rw [TS.set_ne _ _ hi] at h; exact hT.maps b' l' h
theorem TW.slot {c : Code} (t : Nat) {v v' : T} (ht : h t = v) (hv : ∀ A β (g : Nat → Fam) w, VT A β g v w → VT A β g v' w) (k : TW P Γ GL N c (tupd h t v') S Q) : TW P Γ GL N c h S Q := by
  intro A β fr s hF hT
  have hF' : FrOk A β (objAt s.obj) N (tupd h t v') fr := ⟨hF.nt, hF.le, fun u => by
    by_cases hu : u = t
    · subst hu
      rw [tupd_same]
      have := hF.slot u
      rw [ht] at this
      exact hv _ _ _ _ this
    · rw [tupd_ne _ _ _ _ hu]; exact hF.slot u⟩
  exact k A β fr s hF' hT
theorem TW.nilL {c : Code} (t e : Nat) (ht : h t = .nils) (k : TW P Γ GL N c (tupd h t (.lst e [])) S Q) : TW P Γ GL N c h S Q := by
  intro A β fr s hF hT
  have hv := hF.slot t
  rw [ht] at hv
  have hF' : FrOk A β (objAt s.obj) N (tupd h t (.lst e [])) fr := ⟨hF.nt, hF.le, fun u => by
    by_cases hu : u = t
    · subst hu
      rw [tupd_same]
      generalize fr.get u = w at hv
      cases hv
      exact .lnil
    · rw [tupd_ne _ _ _ _ hu]; exact hF.slot u⟩
  exact k A β fr s hF' hT
mutual
theorem ids_more {n m : Nat} (hnm : n ≤ m) : ∀ {t : T}, t.ids n = true → t.ids m = true
  | .agg l, h => idsL_more hnm (l := l) h
  | .tup l, h => idsL_more hnm (l := l) h
  | .lst e l, h => idsL_more hnm (l := l) h
  | .cp l, h => idsL_more hnm (l := l) h
  | .ptr b o N, h => by simp only [T.ids] at h ⊢; exact blt_iff.2 (by have := blt_iff.1 h; omega)
  | .arr b e o l c N, h => by simp only [T.ids] at h ⊢; exact blt_iff.2 (by have := blt_iff.1 h; omega)
  | .mp b, h => by simp only [T.ids] at h ⊢; exact blt_iff.2 (by have := blt_iff.1 h; omega)
  | .fn f a c, h => by
    simp only [T.ids, Bool.and_eq_true] at h ⊢
    exact ⟨idsL_more hnm h.1, idsL_more hnm h.2⟩
  | .int _ _, _ => rfl
  | .bool _, _ => rfl
  | .str _, _ => rfl
  | .nils, _ => rfl
  | .nilp, _ => rfl
  | .nilm, _ => rfl
  | .nilf, _ => rfl
  | .junk, _ => rfl
  | .emp _, _ => rfl
theorem idsL_more {n m : Nat} (hnm : n ≤ m) : ∀ {l : List T}, T.idsL n l = true → T.idsL m l = true
  | [], _ => rfl
  | t :: l, h => by
    simp only [T.idsL, Bool.and_eq_true] at h ⊢
    exact ⟨ids_more hnm h.1, idsL_more hnm h.2⟩
end
mutual
theorem ren_no {ρ : Nat → Nat} : ∀ {t : T}, t.ids 0 = true → t.ren ρ = t
  | .agg l, h => by rw [T.ren, renL_no (l := l) h]
  | .tup l, h => by rw [T.ren, renL_no (l := l) h]
  | .lst e l, h => by rw [T.ren, renL_no (l := l) h]
  | .cp l, h => by rw [T.ren, renL_no (l := l) h]
  | .ptr b o N, h => by simp [T.ids, Nat.blt] at h
  | .arr b e o l c N, h => by simp [T.ids, Nat.blt] at h
  | .mp b, h => by simp [T.ids, Nat.blt] at h
  | .fn f a c, h => by
    simp only [T.ids, Bool.and_eq_true] at h
    rw [T.ren, renL_no (l := a) h.1, renL_no (l := c) h.2]
  | .int _ _, _ => rfl
  | .bool _, _ => rfl
  | .str _, _ => rfl
  | .nils, _ => rfl
  | .nilp, _ => rfl
  | .nilm, _ => rfl
  | .nilf, _ => rfl
  | .junk, _ => rfl
  | .emp _, _ => rfl
theorem renL_no {ρ : Nat → Nat} : ∀ {l : List T}, T.idsL 0 l = true → T.renL ρ l = l
  | [], _ => rfl
  | t :: l, h => by
    simp only [T.idsL, Bool.and_eq_true] at h
    rw [T.renL, ren_no h.1, renL_no h.2]
end
theorem Keeps.one {z : Bool} {M : Nat} {cs : List T} (h : T.idsL 1 cs = true) : Keeps (stL [.cells z M cs]) (stL [.cells z M cs]) := by
  refine ⟨Nat.le_refl _, fun b => ?_⟩
  cases b with
  | zero => exact .inr ⟨by show 0 < 1; omega, rfl, h⟩
  | succ b => exact .inl rfl
theorem Call.fresh {f : FuncId} {args : List T} {e n c M : Nat} {z : Bool} {M2 : Nat} {cs : List T} (k : Call P Γ GL f args ts0 (.arr 0 e 0 n c M) (stL [.cells z M2 cs])) (ha : T.idsL 0 args = true) (hb : T.idsL 0 cs = true) (bs : List Box) : Call P Γ GL f args (stL bs) (.arr bs.length e 0 n c M) (stL (bs ++ [.cells z M2 cs])) := by
  have := Call.frame (ρ := fun i => bs.length + i) (S := stL bs) (S' := stL (bs ++ [.cells z M2 cs])) k ha (by rfl) ⟨Nat.zero_le _, fun b _ => rfl, fun i hi => absurd hi (by show ¬ i < 0; omega), fun i _ hi => by show bs.length ≤ bs.length + i; omega, fun i hi => by have : i < 1 := hi; show bs.length + i < (bs ++ [_]).length; rw [List.length_append]; simp; omega, by show bs.length ≤ (bs ++ [_]).length; simp, fun i j _ _ h => by have : bs.length + i = bs.length + j := h; omega, fun i hi => absurd hi (by show ¬ i < 0; omega), fun i hi => ?_, fun b hb => ?_⟩
  · rw [renL_no ha] at this
    exact this
  · have : i < 1 := hi
    have : i = 0 := by omega
    subst this
    constructor
    · show (bs ++ [Box.cells z M2 cs]).getD (bs.length + 0) .gone = .cells z M2 (T.renL _ cs)
      rw [renL_no hb, Nat.add_zero, List.getD_eq_getElem?_getD, List.getElem?_append_right (Nat.le_refl _)]
      simp
    · show T.idsL 1 cs = true
      exact idsL_mem fun t ht => by
        have := idsL_of hb t ht
        exact ids_more (Nat.zero_le _) this
  · show (bs ++ [Box.cells z M2 cs]).getD b .gone = bs.getD b .gone
    by_cases hlt : b < bs.length
    · rw [List.getD_eq_getElem?_getD, List.getD_eq_getElem?_getD, List.getElem?_append_left hlt]
    · by_cases h2 : b = bs.length
      · exact absurd (h2 ▸ rfl : bs.length + 0 = b) (hb 0 (by show 0 < 1; omega))
      · rw [List.getD_eq_getElem?_getD, List.getD_eq_getElem?_getD, List.getElem?_eq_none (by rw [List.length_append]; simp; omega), List.getElem?_eq_none (by omega)]
end
def mset {K V : Type} [DecidableEq K] (k : K) (v : V) : List (K × V) → List (K × V)
  | [] => [(k, v)]
  | p :: l => if k = p.1 then (k, v) :: l else p :: mset k v l
def mget {K V : Type} [DecidableEq K] (k : K) : List (K × V) → Option V
  | [] => none
  | p :: l => if k = p.1 then some p.2 else mget k l
theorem keyI {kk : IntKind} {a b : Int} : tKeyEq (.int kk a) (.int kk b) = some (decide (a = b)) := by
  show (bif Nat.beq (ikN kk) (ikN kk) then some (a == b) else none) = _
  rw [Nat.beq_refl, cond_true]
  by_cases h : a = b <;> simp [h]
theorem keyS {a b : ByteArray} : tKeyEq (.str a) (.str b) = some (decide (a = b)) := by
  show some (a.data.toList == b.data.toList) = _
  by_cases h : a = b
  · subst h; simp
  · have : (a.data.toList == b.data.toList) = false := by simpa using fun hh => h (ByteArray.ext hh)
    rw [this, decide_eq_false h]
theorem tset_gen {K V : Type} [DecidableEq K] {kf : K → T} {f : V → T} (hk : ∀ a b, tKeyEq (kf a) (kf b) = some (decide (a = b))) (k : K) (v : V) : ∀ l : List (K × V), tSet (kf k) (f v) (l.map fun p => (kf p.1, f p.2)) = some ((mset k v l).map fun p => (kf p.1, f p.2))
  | [] => rfl
  | p :: l => by
    rw [List.map_cons, tSet, hk]
    unfold mset
    by_cases h : k = p.1
    · rw [decide_eq_true h, if_pos h, List.map_cons]
    · rw [decide_eq_false h, if_neg h, List.map_cons]
      simp only [tset_gen hk k v l]
theorem tget_gen {K V : Type} [DecidableEq K] {kf : K → T} {f : V → T} (hk : ∀ a b, tKeyEq (kf a) (kf b) = some (decide (a = b))) (k : K) : ∀ l : List (K × V), tGet (kf k) (l.map fun p => (kf p.1, f p.2)) = some ((mget k l).map f)
  | [] => rfl
  | p :: l => by
    rw [List.map_cons, tGet, hk]
    unfold mget
    by_cases h : k = p.1
    · rw [decide_eq_true h, if_pos h]; rfl
    · rw [decide_eq_false h, if_neg h]; exact tget_gen hk k l
theorem tset_int {kk : IntKind} {V : Type} {f : V → T} {k : Int} {v : V} {l : List (Int × V)} : tSet (.int kk k) (f v) (l.map fun p => (.int kk p.1, f p.2)) = some ((mset k v l).map fun p => (.int kk p.1, f p.2)) := tset_gen (kf := T.int kk) (fun _ _ => keyI) k v l
theorem tget_int {kk : IntKind} {V : Type} {f : V → T} {k : Int} {l : List (Int × V)} : tGet (.int kk k) (l.map fun p => (.int kk p.1, f p.2)) = some ((mget k l).map f) := tget_gen (kf := T.int kk) (fun _ _ => keyI) k l
theorem tset_str {V : Type} {f : V → T} {k : ByteArray} {v : V} {l : List (ByteArray × V)} : tSet (.str k) (f v) (l.map fun p => (.str p.1, f p.2)) = some ((mset k v l).map fun p => (.str p.1, f p.2)) := tset_gen (kf := T.str) (fun _ _ => keyS) k v l
theorem tget_str {V : Type} {f : V → T} {k : ByteArray} {l : List (ByteArray × V)} : tGet (.str k) (l.map fun p => (.str p.1, f p.2)) = some ((mget k l).map f) := tget_gen (kf := T.str) (fun _ _ => keyS) k l
theorem found_f {V : Type} {f : V → T} {d : V} {o : Option V} : foundT false (f d) (o.map f) = f (o.getD d) := by cases o <;> rfl
theorem found_t {V : Type} {f : V → T} {d : V} {o : Option V} : foundT true (f d) (o.map f) = .tup [f (o.getD d), .bool o.isSome] := by cases o <;> rfl
theorem ids2A : type_of% (And.intro (And.intro (And.intro (@idsL_append) (And.intro (@Bool.true_and) (@Bool.and_true))) (And.intro (@blt_ok) (And.intro (@Bool.and_self) (@and_self)))) (And.intro (And.intro (@and_true) (And.intro (@true_and) (@List.take_succ_cons.{0}))) (And.intro (And.intro (@List.take_zero.{0}) (@List.length_cons.{0})) (And.intro (@List.length_nil.{0}) (@Nat.zero_add))))) := And.intro (And.intro (And.intro (@idsL_append) (And.intro (@Bool.true_and) (@Bool.and_true))) (And.intro (@blt_ok) (And.intro (@Bool.and_self) (@and_self)))) (And.intro (And.intro (@and_true) (And.intro (@true_and) (@List.take_succ_cons.{0}))) (And.intro (And.intro (@List.take_zero.{0}) (@List.length_cons.{0})) (And.intro (@List.length_nil.{0}) (@Nat.zero_add))))
theorem ids2B : type_of% (And.intro (And.intro (And.intro (@T.ids.eq_1) (And.intro (@T.ids.eq_2) (@T.ids.eq_3))) (And.intro (@T.ids.eq_4) (And.intro (@T.ids.eq_5) (@T.ids.eq_6)))) (And.intro (And.intro (@T.ids.eq_7) (And.intro (@T.ids.eq_8) (@T.ids.eq_9))) (And.intro (@T.idsL.eq_1) (And.intro (@T.idsL.eq_2) (@tupd_at))))) := And.intro (And.intro (And.intro (@T.ids.eq_1) (And.intro (@T.ids.eq_2) (@T.ids.eq_3))) (And.intro (@T.ids.eq_4) (And.intro (@T.ids.eq_5) (@T.ids.eq_6)))) (And.intro (And.intro (@T.ids.eq_7) (And.intro (@T.ids.eq_8) (@T.ids.eq_9))) (And.intro (@T.idsL.eq_1) (And.intro (@T.idsL.eq_2) (@tupd_at))))
theorem ids2C : type_of% (And.intro (And.intro (@boxesIds.eq_1) (And.intro (@boxesIds.eq_2) (@boxIds.eq_1))) (And.intro (And.intro (@boxIds.eq_2) (@boxIds.eq_3)) (And.intro (@keepIds.eq_1) (@keepIds.eq_2)))) := And.intro (And.intro (@boxesIds.eq_1) (And.intro (@boxesIds.eq_2) (@boxIds.eq_1))) (And.intro (And.intro (@boxIds.eq_2) (@boxIds.eq_3)) (And.intro (@keepIds.eq_1) (@keepIds.eq_2)))
theorem scA : type_of% (And.intro (@List.set_cons_zero.{0}) (@List.set_cons_succ.{0})) := And.intro (@List.set_cons_zero.{0}) (@List.set_cons_succ.{0})
theorem scB : type_of% (And.intro (And.intro (@st_n) (And.intro (@List.length_cons.{0}) (@List.length_nil.{0}))) (And.intro (@List.cons_append.{0}) (And.intro (@List.nil_append.{0}) (@Nat.zero_add)))) := And.intro (And.intro (@st_n) (And.intro (@List.length_cons.{0}) (@List.length_nil.{0}))) (And.intro (@List.cons_append.{0}) (And.intro (@List.nil_append.{0}) (@Nat.zero_add)))
theorem gsA : type_of% (And.intro (And.intro (@tupd_at) (And.intro (@List.map_append.{0,0}) (@List.map_cons.{0,0}))) (And.intro (@List.map_nil.{0,0}) (And.intro (@Nat.add_mul) (@Nat.one_mul)))) := And.intro (And.intro (@tupd_at) (And.intro (@List.map_append.{0,0}) (@List.map_cons.{0,0}))) (And.intro (@List.map_nil.{0,0}) (And.intro (@Nat.add_mul) (@Nat.one_mul)))
end Go.Proofs.Ytfalnphlgfoflaa
