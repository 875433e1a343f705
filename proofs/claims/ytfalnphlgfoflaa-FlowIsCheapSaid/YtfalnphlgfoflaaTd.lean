/- Trees: addresses of fields and elements, pieces of slices, fields, elements. No program in sight. -/
import Derived.Test.YtfalnphlgfoflaaTc
namespace Go.Proofs.Ytfalnphlgfoflaa
open Go Go.RowKit
set_option linter.unusedSimpArgs false
set_option linter.unusedVariables false
section
variable {GL : List (Nat × List Value)} {A A' A2 : Nat → Prop} {β β' β2 : Bx} {S S' : TS} {s s' s2 : CS} {P : Program} {Γ : Env}
def TS.has (S : TS) (b N : Nat) : Bool := match S.box b with | .cells _ N' _ => Nat.beq N N' | _ => false
theorem TS.has_ok {b N : Nat} (h : S.has b N = true) : ∃ z l, S.box b = .cells z N l := by
  unfold TS.has at h
  split at h
  · rename_i z N' l hS
    have := Nat.eq_of_beq_eq_true h
    subst this
    exact ⟨z, l, hS⟩
  · simp at h
theorem cp_drop {g : Nat → Fam} {l : List T} {f u off : Nat} {cs0 cs : List Value} (o : Nat) (k1 : A f) (k2 : rowOf (g f).rows u = some cs0) (k3 : VL A β g l cs) (k4 : (cs0.drop off).take cs.length = cs) : VT A β g (.cp (l.drop o)) (.pointer (some (mkA f u (off + o)))) := by
  refine .cp k1 k2 (k3.drop o) ?_
  have := congrArg (List.drop o) k4
  rw [List.drop_take, List.drop_drop] at this
  rw [List.length_drop]
  exact this
theorem cp_take {g : Nat → Fam} {l : List T} {f u off : Nat} {cs0 cs : List Value} (o : Nat) (k1 : A f) (k2 : rowOf (g f).rows u = some cs0) (k3 : VL A β g l cs) (k4 : (cs0.drop off).take cs.length = cs) : VT A β g (.cp (l.take o)) (.pointer (some (mkA f u off))) := by
  refine .cp k1 k2 (k3.take o) ?_
  have := congrArg (List.take o) k4
  rw [List.take_take] at this
  rw [List.length_take]
  exact this
noncomputable def tFieldAddr (Γ : Env) (S : TS) (t : TypeId) (k : Nat) (x : T) : Option T := match Γ.ti.at t with
  | some i => (match i.desc with
    | .struct fs => (match placeS Γ fs k with
      | some (o, size) => bif Nat.beq size 0 then none else (match x with
        | .ptr b off N => bif S.has b N then some (.ptr b (off + o) N) else none
        | .cp l => some (.cp (l.drop o))
        | _ => none)
      | none => none)
    | _ => none)
  | none => none
theorem tFieldAddr_ok (h : TRel GL A β S s) {t : TypeId} {k : Nat} {x r : T} {v : Value} (hx : VT A β (objAt s.obj) x v) (ht : tFieldAddr Γ S t k x = some r) : Ok0 GL A β S s (opFieldAddr Γ s t k v) r := by
  unfold tFieldAddr at ht
  split at ht
  · rename_i i hi
    split at ht
    · rename_i fs hd
      split at ht
      · rename_i o size hp
        cases hz : Nat.beq size 0 with
        | true => rw [hz] at ht; simp at ht
        | false =>
          rw [hz, cond_false] at ht
          have key : ∀ a, opFieldAddr Γ s t k (.pointer (some a)) = some (.pointer (some (Addr.plus a o)), s) := fun a => by
            unfold opFieldAddr
            simp only [hi, hd, hp, hz, cond_false]
          split at ht
          · rename_i b off N
            cases hs : S.has b N with
            | false => rw [hs] at ht; simp at ht
            | true =>
              rw [hs] at ht
              cases ht
              obtain ⟨z, l, hS⟩ := TS.has_ok hs
              obtain ⟨f, u, rfl, hb⟩ := ptr_inv h hS hx
              rw [key, plus_mk]
              exact Ok0.same h (.ptr hb)
          · rename_i l
            cases ht
            cases hx with
            | cp k1 k2 k3 k4 =>
              rw [key, plus_mk]
              exact Ok0.same h (cp_drop o k1 k2 k3 k4)
          · simp at ht
      · simp at ht
    · simp at ht
  · simp at ht
theorem flat_len {e : Nat} : ∀ {l : List T}, (∀ t, t ∈ l → t.cells.length = e) → (l.flatMap T.cells).length = l.length * e
  | [], _ => by simp
  | t :: l, h => by
    rw [List.flatMap_cons, List.length_append, h t (by simp), flat_len fun t ht => h t (by simp [ht]), List.length_cons, Nat.add_mul]
    omega
theorem flat_drop {e : Nat} : ∀ {l : List T} (k : Nat), (∀ t, t ∈ l → t.cells.length = e) → (l.flatMap T.cells).drop (k * e) = (l.drop k).flatMap T.cells
  | _, 0, _ => by simp
  | [], k + 1, _ => by simp
  | t :: l, k + 1, h => by
    rw [List.flatMap_cons, List.drop_succ_cons, ← flat_drop k fun t ht => h t (by simp [ht])]
    have h1 := h t (by simp)
    rw [show (k + 1) * e = t.cells.length + k * e by rw [h1, Nat.add_mul]; omega, List.drop_append]
    simp
theorem flat_take {e : Nat} : ∀ {l : List T} (k : Nat), (∀ t, t ∈ l → t.cells.length = e) → (l.flatMap T.cells).take (k * e) = (l.take k).flatMap T.cells
  | _, 0, _ => by simp
  | [], k + 1, _ => by simp
  | t :: l, k + 1, h => by
    rw [List.flatMap_cons, List.take_succ_cons, List.flatMap_cons, ← flat_take k fun t ht => h t (by simp [ht])]
    have h1 := h t (by simp)
    rw [show (k + 1) * e = t.cells.length + k * e by rw [h1, Nat.add_mul]; omega, List.take_append, List.take_of_length_le (by omega)]
    simp
noncomputable def natT : T → Option Nat
  | .int _ (.ofNat n) => some n
  | _ => none
theorem natT_ok {g : Nat → Fam} {t : T} {v : Value} {n : Nat} (h : VT A β g t v) (ht : natT t = some n) : natOf v = some n := by
  unfold natT at ht
  split at ht
  · cases ht; cases h; rfl
  · simp at ht
noncomputable def tIndexAddr (Γ : Env) (S : TS) (t : TypeId) (x k : T) : Option T := match Γ.ti.at t, natT k with
  | some i, some k => (match x with
    | .ptr b off N => (match i.desc with | .array n e => (match Γ.ti.at e with | some j => bif S.has b N && Nat.blt k n then some (.ptr b (off + k * j.size) N) else none | none => none) | _ => none)
    | .cp l => (match i.desc with | .array n e => (match Γ.ti.at e with | some j => bif Nat.blt k n then some (.cp (l.drop (k * j.size))) else none | none => none) | _ => none)
    | .arr b es off len cap N => (match i.desc with | .slice e => (match Γ.ti.at e with | some j => bif S.has b N && (Nat.beq es j.size && Nat.blt k len) then some (.ptr b (off + k * j.size) N) else none | none => none) | _ => none)
    | .lst es l => (match i.desc with | .slice e => (match Γ.ti.at e with | some j => bif Nat.beq es j.size then (match l[k]? with | some r => some (.cp r.cells) | none => none) else none | none => none) | _ => none)
    | _ => none)
  | _, _ => none
theorem tIndexAddr_ok (h : TRel GL A β S s) {t : TypeId} {x k r : T} {v w : Value} (hx : VT A β (objAt s.obj) x v) (hk : VT A β (objAt s.obj) k w) (ht : tIndexAddr Γ S t x k = some r) : Ok0 GL A β S s (opIndexAddr Γ s t v (natOf w)) r := by
  unfold tIndexAddr at ht
  split at ht
  · rename_i i kk hi hkk
    rw [natT_ok hk hkk]
    split at ht
    · rename_i b off N
      split at ht
      · rename_i n e hd
        split at ht
        · rename_i j hj
          cases hq : (S.has b N && Nat.blt kk n) with
          | false => rw [hq] at ht; simp at ht
          | true =>
            rw [hq] at ht
            cases ht
            simp only [Bool.and_eq_true] at hq
            obtain ⟨z, l, hS⟩ := TS.has_ok hq.1
            obtain ⟨f, u, rfl, hb⟩ := ptr_inv h hS hx
            have : opIndexAddr Γ s t (.pointer (some (mkA f u off))) (some kk) = some (.pointer (some (mkA f u (off + kk * j.size))), s) := by
              unfold opIndexAddr stepA
              simp only [hi, hd, hj, hq.2, cond_true, plus_mk]
            rw [this]
            exact Ok0.same h (.ptr hb)
        · simp at ht
      · simp at ht
    · rename_i l
      split at ht
      · rename_i n e hd
        split at ht
        · rename_i j hj
          cases hq : Nat.blt kk n with
          | false => rw [hq] at ht; simp at ht
          | true =>
            rw [hq] at ht
            cases ht
            cases hx with
            | cp k1 k2 k3 k4 =>
              rename_i f u off cs cs0
              have : opIndexAddr Γ s t (.pointer (some (mkA f u off))) (some kk) = some (.pointer (some (mkA f u (off + kk * j.size))), s) := by
                unfold opIndexAddr stepA
                simp only [hi, hd, hj, hq, cond_true, plus_mk]
              rw [this]
              exact Ok0.same h (cp_drop _ k1 k2 k3 k4)
        · simp at ht
      · simp at ht
    · rename_i b es off len cap N
      split at ht
      · rename_i e hd
        split at ht
        · rename_i j hj
          cases hq : (S.has b N && (Nat.beq es j.size && Nat.blt kk len)) with
          | false => rw [hq] at ht; simp at ht
          | true =>
            rw [hq] at ht
            cases ht
            simp only [Bool.and_eq_true] at hq
            obtain ⟨q1, q2, q3⟩ := hq
            obtain ⟨z, l, hS⟩ := TS.has_ok q1
            rcases arr_inv h hS hx with ⟨f, u, rfl, hb, _⟩ | ⟨rfl, _, _, rfl, _, _⟩
            · have : opIndexAddr Γ s t (.slice (some (mkA f u off)) len cap) (some kk) = some (.pointer (some (mkA f u (off + kk * j.size))), s) := by
                unfold opIndexAddr stepA
                simp only [hi, hd, hj, q3, cond_true, plus_mk]
              rw [this]
              exact Ok0.same h (.ptr hb)
            · have := blt_iff.1 q3; omega
        · simp at ht
      · simp at ht
    · rename_i es l
      split at ht
      · rename_i e hd
        split at ht
        · rename_i j hj
          cases hq : Nat.beq es j.size with
          | false => rw [hq] at ht; simp at ht
          | true =>
            rw [hq] at ht
            have hes := Nat.eq_of_beq_eq_true hq
            simp only [cond_true] at ht
            split at ht
            · rename_i r' hl
              cases ht
              have hlt : kk < l.length := by
                by_cases hh : kk < l.length
                · exact hh
                · rw [List.getElem?_eq_none (by omega)] at hl; simp at hl
              cases hx with
              | lnil => simp at hlt
              | lst k1 k2 k3 k4 k5 k6 k7 k8 =>
                rename_i f u off cap cs cs0
                have : opIndexAddr Γ s t (.slice (some (mkA f u off)) l.length cap) (some kk) = some (.pointer (some (mkA f u (off + kk * es))), s) := by
                  unfold opIndexAddr stepA
                  simp only [hi, hd, hj, blt_iff.2 hlt, cond_true, plus_mk, hes]
                rw [this]
                refine Ok0.same h ?_
                have k7' : (cs0.drop (off + kk * es)).take (cs.drop (kk * es)).length = cs.drop (kk * es) := by
                  have := congrArg (List.drop (kk * es)) k6
                  rw [List.drop_take, List.drop_drop] at this
                  rw [List.length_drop]; exact this
                have h1 := cp_take es k1 k2 (k3.drop (kk * es)) (off := off + kk * es) k7'
                have h2 : ((l.flatMap T.cells).drop (kk * es)).take es = r'.cells := by
                  rw [flat_drop kk k4]
                  rw [List.getElem?_eq_getElem hlt, Option.some.injEq] at hl
                  have hc := k4 r' (by rw [← hl]; exact List.getElem_mem hlt)
                  rw [List.drop_eq_getElem_cons hlt, hl, List.flatMap_cons, List.take_append, List.take_of_length_le (by omega), hc]
                  simp
                rw [h2] at h1
                exact h1
            · simp at ht
        · simp at ht
      · simp at ht
    · simp at ht
  · simp at ht
noncomputable def tField (Γ : Env) (t : TypeId) (k : Nat) : T → Option T
  | .agg l => (match Γ.ti.at t with
    | some i => (match i.desc with
      | .struct fs => (match fs[k]? with | some f => (match Γ.ti.at f.type with | some j => partT j l f.offset | none => none) | none => none)
      | _ => none)
    | none => none)
  | _ => none
theorem tField_ok (h : TRel GL A β S s) {t : TypeId} {k : Nat} {x r : T} {v : Value} (hx : VT A β (objAt s.obj) x v) (ht : tField Γ t k x = some r) : Ok0 GL A β S s (opField Γ s t k v) r := by
  unfold tField at ht
  split at ht
  · rename_i l
    cases hx with
    | agg hl =>
      rename_i cs
      split at ht
      · rename_i i hi
        split at ht
        · rename_i fs hd
          split at ht
          · rename_i f hf
            split at ht
            · rename_i j hj
              obtain ⟨w, h1, h2⟩ := partT_ok hl ht
              have : opField Γ s t k (.agg ⟨cs⟩) = some (w, s) := by
                unfold opField
                simp only [hi, hd, hf, hj, h1]
                rfl
              rw [this]
              exact Ok0.same h h2
            · simp at ht
          · simp at ht
        · simp at ht
      · simp at ht
  · simp at ht
noncomputable def tIndex (Γ : Env) (t : TypeId) (x k : T) : Option T := match Γ.ti.at t, natT k with
  | some i, some k => (match x with
    | .agg l => (match i.desc with
      | .array n e => (match Γ.ti.at e with | some j => bif Nat.blt k n then partT j l (k * j.size) else none | none => none)
      | _ => none)
    | .str b => (match i.desc with
      | .string => (match b.data.toList[k]? with | some c => some (.int .u8 c.toNat) | none => none)
      | _ => none)
    | _ => none)
  | _, _ => none
theorem tIndex_ok (h : TRel GL A β S s) {t : TypeId} {x k r : T} {v w : Value} (hx : VT A β (objAt s.obj) x v) (hk : VT A β (objAt s.obj) k w) (ht : tIndex Γ t x k = some r) : Ok0 GL A β S s (opIndex Γ s t v (natOf w)) r := by
  unfold tIndex at ht
  split at ht
  · rename_i i kk hi hkk
    rw [natT_ok hk hkk]
    split at ht
    · rename_i l
      cases hx with
      | agg hl =>
        rename_i cs
        split at ht
        · rename_i n e hd
          split at ht
          · rename_i j hj
            cases hq : Nat.blt kk n with
            | false => rw [hq] at ht; simp at ht
            | true =>
              rw [hq, cond_true] at ht
              obtain ⟨w, h1, h2⟩ := partT_ok hl ht
              have : opIndex Γ s t (.agg ⟨cs⟩) (some kk) = some (w, s) := by
                unfold opIndex
                simp only [hi, hd, hj, hq, cond_true, h1]
                rfl
              rw [this]
              exact Ok0.same h h2
          · simp at ht
        · simp at ht
    · rename_i b
      cases hx
      split at ht
      · rename_i hd
        split at ht
        · rename_i c hc
          cases ht
          have : opIndex Γ s t (.string b) (some kk) = some (.int .u8 c.toNat, s) := by
            unfold opIndex
            simp only [hi, hd, hc]
          rw [this]
          exact Ok0.same h (.int _ _)
        · simp at ht
      · simp at ht
    · simp at ht
  · simp at ht
noncomputable def tExtract (k : Nat) : T → Option T
  | .tup l => l[k]?
  | _ => none
theorem tExtract_ok (h : TRel GL A β S s) {k : Nat} {x r : T} {v : Value} (hx : VT A β (objAt s.obj) x v) (ht : tExtract k x = some r) : Ok0 GL A β S s (opExtract s k v) r := by
  unfold tExtract at ht
  split at ht
  · cases hx with
    | tup hl =>
      obtain ⟨w, h1, h2⟩ := hl.get ht
      rename_i vs
      have : opExtract s k (.tuple ⟨vs⟩) = some (w, s) := by
        unfold opExtract
        simp only [h1]
        rfl
      rw [this]
      exact Ok0.same h h2
  · simp at ht
noncomputable def tNilCheck (S : TS) : T → Option T
  | .ptr b off N => bif S.has b N then some (.ptr b off N) else none
  | .cp l => some (.cp l)
  | .fn f a c => some (.fn f a c)
  | _ => none
theorem tNilCheck_ok (h : TRel GL A β S s) {x r : T} {v : Value} (hx : VT A β (objAt s.obj) x v) (ht : tNilCheck S x = some r) : Ok0 GL A β S s (opNilCheck s v) r := by
  unfold tNilCheck at ht
  split at ht
  · rename_i b off N
    cases hs : S.has b N with
    | false => rw [hs] at ht; simp at ht
    | true =>
      rw [hs] at ht
      cases ht
      obtain ⟨z, l, hS⟩ := TS.has_ok hs
      obtain ⟨f, u, rfl, hb⟩ := ptr_inv h hS hx
      exact Ok0.same h (.ptr hb)
  · cases ht
    cases hx with
    | cp k1 k2 k3 k4 => exact Ok0.same h (.cp k1 k2 k3 k4)
  · cases ht
    cases hx with
    | fn k1 k2 => exact Ok0.same h (.fn k1 k2)
  · simp at ht
noncomputable def tS2A (Γ : Env) (S : TS) (t : TypeId) (x : T) : Option T := match Γ.ti.at t with
  | some i => (match i.desc with
    | .array n _ => (match x with
      | .arr b e off len cap N => bif S.has b N && (Nat.ble n len && Nat.blt 0 n) then some (.ptr b off N) else none
      | .lst e l => bif Nat.ble n l.length && Nat.blt 0 n then some (.cp (l.flatMap T.cells)) else none
      | _ => none)
    | _ => none)
  | none => none
theorem tS2A_ok (h : TRel GL A β S s) {t : TypeId} {x r : T} {v : Value} (hx : VT A β (objAt s.obj) x v) (ht : tS2A Γ S t x = some r) : Ok0 GL A β S s (opS2A Γ s t v) r := by
  unfold tS2A at ht
  split at ht
  · rename_i i hi
    split at ht
    · rename_i n e0 hd
      split at ht
      · rename_i b e off len cap N
        cases hq : (S.has b N && (Nat.ble n len && Nat.blt 0 n)) with
        | false => rw [hq] at ht; simp at ht
        | true =>
          rw [hq] at ht
          cases ht
          simp only [Bool.and_eq_true] at hq
          obtain ⟨q1, q2, q3⟩ := hq
          obtain ⟨z, l, hS⟩ := TS.has_ok q1
          rcases arr_inv h hS hx with ⟨f, u, rfl, hb, _⟩ | ⟨rfl, _, _, rfl, _, _⟩
          · have : opS2A Γ s t (.slice (some (mkA f u off)) len cap) = some (.pointer (some (mkA f u off)), s) := by
              unfold opS2A
              simp only [hi, hd, q2, q3, Bool.and_self, cond_true]
            rw [this]
            exact Ok0.same h (.ptr hb)
          · have := blt_iff.1 q3; have := ble_iff.1 q2; omega
      · rename_i e l
        cases hq : (Nat.ble n l.length && Nat.blt 0 n) with
        | false => rw [hq] at ht; simp at ht
        | true =>
          rw [hq] at ht
          cases ht
          cases hx with
          | lnil => simp only [Bool.and_eq_true] at hq; have := blt_iff.1 hq.2; have := ble_iff.1 hq.1; simp at this; omega
          | lst k1 k2 k3 k4 k5 k6 k7 k8 =>
            rename_i f u off cap cs cs0
            have : opS2A Γ s t (.slice (some (mkA f u off)) l.length cap) = some (.pointer (some (mkA f u off)), s) := by
              unfold opS2A
              simp only [hi, hd, hq, cond_true]
            rw [this]
            exact Ok0.same h (.cp k1 k2 k3 k6)
      · simp at ht
    · simp at ht
  · simp at ht
end
end Go.Proofs.Ytfalnphlgfoflaa
