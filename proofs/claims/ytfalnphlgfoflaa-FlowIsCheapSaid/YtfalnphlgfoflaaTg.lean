/- Trees: copying, making, building, converting. No program in sight. -/
import Derived.Test.YtfalnphlgfoflaaTf
namespace Go.Proofs.Ytfalnphlgfoflaa
open Go Go.RowKit
set_option linter.unusedSimpArgs false
set_option linter.unusedVariables false
section
variable {GL : List (Nat × List Value)} {A A' A2 : Nat → Prop} {β β' β2 : Bx} {S S' : TS} {s s' s2 : CS} {P : Program} {Γ : Env}
noncomputable def tCopy (Γ : Env) (S : TS) (t : TypeId) (y x : T) : Option (T × TS) := match elemOf? Γ t with
  | some j => (match tSrc S j.size y with
    | some (m, xs) => (match x with
      | .arr b es off len cap N => (match S.box b with
        | .cells z N' l => bif Nat.beq N N' && (Nat.beq es j.size && (Nat.blt 0 j.size && (Nat.ble (off + min m len * es) N && xs.all T.one))) then
            some (.int .i64 (min m len : Nat), S.set b (.cells z N (spl l off (xs.take (min m len * es))))) else none
        | _ => none)
      | _ => none)
    | none => none)
  | none => none
theorem spl_nil {l : List T} {off : Nat} (h : off ≤ l.length) : spl l off [] = l := by
  unfold spl
  simp
theorem tCopy_ok (h : TRel GL A β S s) {t : TypeId} {x y r : T} {v w : Value} (hx : VT A β (objAt s.obj) x v) (hy : VT A β (objAt s.obj) y w) (ht : tCopy Γ S t y x = some (r, S')) : Ok GL A β s (opCopy Γ s t w v) r S' := by
  unfold tCopy at ht
  split at ht
  · rename_i j hj
    split at ht
    · rename_i m xs hsrc
      split at ht
      · rename_i b es off len cap N
        split at ht
        · rename_i z N' l hS
          cases hq : (Nat.beq N N' && (Nat.beq es j.size && (Nat.blt 0 j.size && (Nat.ble (off + min m len * es) N && xs.all T.one)))) with
          | false => rw [hq] at ht; simp at ht
          | true =>
            rw [hq] at ht
            simp only [Bool.and_eq_true] at hq
            obtain ⟨q1, q2, q3, q4, q5⟩ := hq
            have := Nat.eq_of_beq_eq_true q1
            subst this
            have := Nat.eq_of_beq_eq_true q2
            subst this
            have q4 := ble_iff.1 q4
            cases ht
            have hj0 := blt_iff.1 q3
            have hlN := (h.cells b z N l hS).1
            obtain ⟨e1, e2, e3⟩ := tSrc_ok h hj0 hy hsrc
            obtain ⟨ys, s1, f1, f2, f3⟩ := e3 (min m len) (Nat.min_le_left _ _)
            obtain ⟨r1, r2, r3, r4, r5, r6⟩ := f3.rel h
            have hxl : (xs.take (min m len * j.size)).length = min m len * j.size := by
              rw [List.length_take, e2]
              have : min m len * j.size ≤ m * j.size := Nat.mul_le_mul_right _ (Nat.min_le_left _ _)
              omega
            have h1 : ys.all oneC = true := f2.one (by
              rw [List.all_eq_true] at q5 ⊢
              exact fun x hx => q5 x (List.mem_of_mem_take hx))
            cases hz : Nat.beq (min m len * j.size) 0 with
            | true =>
              have hz' := Nat.eq_of_beq_eq_true hz
              have hm0 : min m len = 0 := by
                rcases Nat.mul_eq_zero.1 hz' with hh | hh
                · exact hh
                · omega
              have hnil : xs.take (min m len * j.size) = [] := by rw [hz']; rfl
              rw [hnil, spl_nil (by omega)]
              have hSS : S.set b (.cells z N l) = S := by
                unfold TS.set
                congr 1
                funext i
                split
                · rename_i hi; subst hi; exact hS.symm
                · rfl
              rw [hSS]
              have key : ∀ a c, opCopy Γ s t w (.slice a len c) = some (.int .i64 (min m len : Nat), s1) := by
                intro a c
                unfold opCopy
                simp only [hj, e1, f1]
                unfold copyC
                simp only [hz, cond_true]
              rcases arr_inv h hS hx with ⟨f, u, rfl, hb, htag⟩ | ⟨rfl, hb, rfl, rfl, rfl, rfl⟩
              · rw [key]; exact ⟨_, s1, A, β, rfl, r1, .int _ _, r2⟩
              · rw [key]; exact ⟨_, s1, A, β, rfl, r1, .int _ _, r2⟩
            | false =>
              rcases arr_inv h hS hx with ⟨f, u, rfl, hb, htag⟩ | ⟨rfl, hb, rfl, rfl, rfl, rfl⟩
              · have f2' := f2
                rw [← r3] at f2'
                obtain ⟨s2, k1, k2, k3⟩ := r1.write (off := off) hS hb f2' h1 (by omega)
                have : opCopy Γ s t w (.slice (some (mkA f u off)) len cap) = some (.int .i64 (min m len : Nat), s2) := by
                  unfold opCopy
                  simp only [hj, e1, f1]
                  unfold copyC
                  simp only [hz, cond_false, k1]
                rw [this]
                exact ⟨_, s2, A, β, rfl, k2, .int _ _, r2.trans h.le k3⟩
              · simp at hz
        · simp at ht
      · simp at ht
    · simp at ht
  · simp at ht
def rep (n : Nat) (l : List T) : List T := (List.replicate n l).flatten
theorem VL_rep {g : Nat → Fam} {l : List T} {cs : List Value} (h : VL A β g l cs) : ∀ n, VL A β g (rep n l) (List.replicate n cs).flatten
  | 0 => .nil
  | n + 1 => by
    unfold rep
    rw [List.replicate_succ, List.replicate_succ, List.flatten_cons, List.flatten_cons]
    exact h.append (VL_rep h n)
theorem rep_one {l : List T} (h : l.all T.one = true) : ∀ n, (rep n l).all T.one = true
  | 0 => rfl
  | n + 1 => by
    unfold rep
    rw [List.replicate_succ, List.flatten_cons, List.all_append, h]
    exact rep_one h n
noncomputable def tMakeSlice (Γ : Env) (S : TS) (t : TypeId) (l c : T) : Option (T × TS) := match elemOf? Γ t, natOf (ofIntT l), natOf (ofIntT c) with
  | some j, some l, some c => bif Nat.ble l c && (Nat.ble (c * (j.bytes + 1)) 1000000000 && Nat.blt 0 j.size) then
      (match zerosT j.zero with
      | some zs => some (.arr S.n j.size 0 l c (rep c zs).length, S.add (.cells true (rep c zs).length (rep c zs)))
      | none => none) else none
  | _, _, _ => none
theorem tMakeSlice_ok (h : TRel GL A β S s) {t : TypeId} {l c r : T} {lv cv : Value} (hl : VT A β (objAt s.obj) l lv) (hc : VT A β (objAt s.obj) c cv) (ht : tMakeSlice Γ S t l c = some (r, S')) : Ok GL A β s (opMakeSlice Γ s t (natOf lv) (natOf cv)) r S' := by
  unfold tMakeSlice at ht
  split at ht
  · rename_i j ll cc hj h1 h2
    rw [ofIntT_ok hl h1, ofIntT_ok hc h2]
    cases hq : (Nat.ble ll cc && (Nat.ble (cc * (j.bytes + 1)) 1000000000 && Nat.blt 0 j.size)) with
    | false => rw [hq] at ht; simp at ht
    | true =>
      rw [hq] at ht
      simp only [cond_true] at ht
      split at ht
      · rename_i zs hz
        cases ht
        obtain ⟨a, b⟩ := zerosT_ok (A := A) (β := β) (g := objAt s.obj) hz
        have hv := VL_rep a cc
        obtain ⟨s', β', k1, k2, k3, k4⟩ := h.newBox 0 (by omega) hv (hv.one (rep_one b cc))
        have : opMakeSlice Γ s t (some ll) (some cc) = some (.slice (some (mkA s.n (s.n * 1024 + 0) 0)) ll cc, s') := by
          unfold opMakeSlice
          simp only [hj]
          rw [← Bool.and_assoc] at hq
          simp only [hq, cond_true, k1]
          rfl
        rw [this]
        exact ⟨_, s', A, β', rfl, k3, .arr k2 (.inl (by omega)), k4⟩
      · simp at ht
  · simp at ht
noncomputable def fillT (cells : List T) : List (Nat × List T) → Option (List T)
  | [] => some cells
  | (off, vs) :: r => bif Nat.ble (off + vs.length) cells.length then fillT (spl cells off vs) r else none
noncomputable def partsT (place : Nat → Option (Nat × Nat)) (ρ : Operand → T) : List (Nat × Operand) → Option (List (Nat × List T))
  | [] => some []
  | (k, x) :: r => match place k, partsT place ρ r with
    | some (off, size), some l => bif Nat.beq (ρ x).cells.length size && (ρ x).cells.all T.one then some ((off, (ρ x).cells) :: l) else none
    | _, _ => none
inductive PL (A : Nat → Prop) (β : Bx) (g : Nat → Fam) : List (Nat × List T) → List (Nat × List Value) → Prop
  | nil : PL A β g [] []
  | cons {k l cs r r'} : VL A β g l cs → l.all T.one = true → PL A β g r r' → PL A β g ((k, l) :: r) ((k, cs) :: r')
theorem partsT_ok {g : Nat → Fam} {place : Nat → Option (Nat × Nat)} {ρT : Operand → T} {ρ : Operand → Value} (hρ : ∀ x, VT A β g (ρT x) (ρ x)) : ∀ {l : List (Nat × Operand)} {r : List (Nat × List T)}, partsT place ρT l = some r → ∃ r', partsOf place ρ l = some r' ∧ PL A β g r r'
  | [], r, h => by simp only [partsT, Option.some.injEq] at h; subst h; exact ⟨[], rfl, .nil⟩
  | (k, x) :: l, r, h => by
    unfold partsT at h
    split at h
    · rename_i off size l' h1 h2
      cases hq : (Nat.beq (ρT x).cells.length size && (ρT x).cells.all T.one) with
      | false => rw [hq] at h; simp at h
      | true =>
        rw [hq] at h
        cases h
        simp only [Bool.and_eq_true] at hq
        obtain ⟨r', k1, k2⟩ := partsT_ok hρ h2
        have hc := (hρ x).cells (one_ne_junk hq.2)
        refine ⟨(off, (ρ x).cells.toList) :: r', ?_, .cons hc hq.2 k2⟩
        unfold partsOf
        simp only [h1, k1]
        rw [← hc.len, hq.1]
        rfl
    · simp at h
theorem fillT_ok {g : Nat → Fam} : ∀ {r : List (Nat × List T)} {r' : List (Nat × List Value)} {l l' : List T} {cs : List Value}, PL A β g r r' → VL A β g l cs → fillT l r = some l' → ∃ cs', fillC cs r' = some cs' ∧ VL A β g l' cs' ∧ l'.length = l.length ∧ (l.all T.one = true → l'.all T.one = true)
  | [], _, l, l', cs, .nil, h, ht => by
    simp only [fillT, Option.some.injEq] at ht
    subst ht
    exact ⟨cs, rfl, h, rfl, id⟩
  | (off, vs) :: r, _, l, l', cs, .cons k1 k3 k2, h, ht => by
    rename_i cs2 r'
    unfold fillT at ht
    cases hq : Nat.ble (off + vs.length) l.length with
    | false => rw [hq] at ht; simp at ht
    | true =>
      rw [hq] at ht
      simp only [cond_true] at ht
      obtain ⟨cs', a1, a2, a3, a4⟩ := fillT_ok k2 (h.splice off k1) ht
      refine ⟨cs', ?_, a2, ?_, ?_⟩
      · unfold fillC
        rw [← k1.len, ← h.len, hq]
        exact a1
      · rw [a3]; exact spl_len (ble_iff.1 hq)
      · intro hl
        refine a4 ?_
        rw [List.all_append, List.all_append, k3, Bool.and_true, Bool.and_eq_true]
        rw [List.all_eq_true] at hl ⊢
        exact ⟨fun x hx => hl x (List.mem_of_mem_take hx), by rw [List.all_eq_true]; exact fun x hx => hl x (List.mem_of_mem_drop hx)⟩
noncomputable def buildT (zero : List Value) (parts : Option (List (Nat × List T))) : Option (List T) := match zerosT zero, parts with
  | some z, some l => fillT z l
  | _, _ => none
noncomputable def tBuild (Γ : Env) (ρ : Operand → T) (t : TypeId) (parts : List (Nat × Operand)) : Option T := match Γ.ti.at t with
  | some i => (match i.desc with
    | .struct fs => bif (fs.toList.all fun f => (Γ.ti.at f.type).isSome) then (match buildT i.zero (partsT (placeS Γ fs) ρ parts) with | some l => some (.agg l) | none => none) else none
    | .array _ e => (match Γ.ti.at e with | some j => (match buildT i.zero (partsT (placeA j.size) ρ parts) with | some l => some (.agg l) | none => none) | none => none)
    | _ => none)
  | none => none
theorem buildT_ok {g : Nat → Fam} {place : Nat → Option (Nat × Nat)} {ρT : Operand → T} {ρ : Operand → Value} {zero : List Value} {parts : List (Nat × Operand)} {l : List T} (hρ : ∀ x, VT A β g (ρT x) (ρ x)) (h : buildT zero (partsT place ρT parts) = some l) : ∃ cs, buildC zero (partsOf place ρ parts) = some cs ∧ VL A β g l cs ∧ l.all T.one = true := by
  unfold buildT at h
  split at h
  · rename_i z p hz hp
    obtain ⟨a, b⟩ := zerosT_ok (A := A) (β := β) (g := g) hz
    obtain ⟨r', k1, k2⟩ := partsT_ok hρ hp
    obtain ⟨cs, c1, c2, c3, c4⟩ := fillT_ok k2 a h
    exact ⟨cs, by unfold buildC; rw [k1]; exact c1, c2, c4 b⟩
  · simp at h
theorem tBuild_ok (h : TRel GL A β S s) {t : TypeId} {parts : List (Nat × Operand)} {ρT : Operand → T} {ρ : Operand → Value} {r : T} (hρ : ∀ x, VT A β (objAt s.obj) (ρT x) (ρ x)) (ht : tBuild Γ ρT t parts = some r) : Ok0 GL A β S s (opBuild Γ s ρ t parts) r := by
  unfold tBuild at ht
  split at ht
  · rename_i i hi
    split at ht
    · rename_i fs hd
      cases hq : (fs.toList.all fun f => (Γ.ti.at f.type).isSome) with
      | false => rw [hq] at ht; simp at ht
      | true =>
        rw [hq] at ht
        simp only [cond_true] at ht
        split at ht
        · rename_i l hl
          cases ht
          obtain ⟨cs, c1, c2, _⟩ := buildT_ok hρ hl
          have : opBuild Γ s ρ t parts = some (.agg cs.toArray, s) := by
            unfold opBuild
            simp only [hi, hd, hq, sel_true, c1]
            rfl
          rw [this]
          exact Ok0.same h (.agg c2)
        · simp at ht
    · rename_i n e hd
      split at ht
      · rename_i j hj
        split at ht
        · rename_i l hl
          cases ht
          obtain ⟨cs, c1, c2, _⟩ := buildT_ok hρ hl
          have : opBuild Γ s ρ t parts = some (.agg cs.toArray, s) := by
            unfold opBuild
            simp only [hi, hd, hj, c1]
            rfl
          rw [this]
          exact Ok0.same h (.agg c2)
        · simp at ht
      · simp at ht
    · simp at ht
  · simp at ht
noncomputable def tBuildOwn (Γ : Env) (S : TS) (ρ : Operand → T) (t : TypeId) (n : Nat) (parts : List (Nat × Operand)) : Option (T × TS) := match elemOf? Γ t with
  | some j => bif Nat.ble (n * j.size) 16777216 && Nat.blt 0 j.size then
      (match buildT (List.replicate n j.zero).flatten (partsT (placeA j.size) ρ parts) with
      | some l => some (.arr S.n j.size 0 n n l.length, S.add (.cells true l.length l))
      | none => none) else none
  | none => none
theorem tBuildOwn_ok (h : TRel GL A β S s) {t : TypeId} {n : Nat} {parts : List (Nat × Operand)} {ρT : Operand → T} {ρ : Operand → Value} {r : T} (hρ : ∀ x, VT A β (objAt s.obj) (ρT x) (ρ x)) (ht : tBuildOwn Γ S ρT t n parts = some (r, S')) : Ok GL A β s (opBuildSlice Γ s ρ t n parts) r S' := by
  unfold tBuildOwn at ht
  split at ht
  · rename_i j hj
    cases hq : (Nat.ble (n * j.size) 16777216 && Nat.blt 0 j.size) with
    | false => rw [hq] at ht; simp at ht
    | true =>
      rw [hq] at ht
      simp only [cond_true] at ht
      split at ht
      · rename_i l hl
        cases ht
        obtain ⟨cs, c1, c2, c3⟩ := buildT_ok hρ hl
        obtain ⟨s', β', k1, k2, k3, k4⟩ := h.newBox 0 (by omega) c2 (c2.one c3)
        have : opBuildSlice Γ s ρ t n parts = some (.slice (some (mkA s.n (s.n * 1024 + 0) 0)) n n, s') := by
          unfold opBuildSlice
          simp only [hj, hq, cond_true, c1, k1]
          rfl
        rw [this]
        exact ⟨_, s', A, β', rfl, k3, .arr k2 (.inl (by omega)), k4⟩
      · simp at ht
  · simp at ht
noncomputable def elemsT (e : Nat) (ρ : Operand → T) : Nat → List (Nat × Operand) → Option (List T)
  | _, [] => some []
  | i, (k, x) :: r => bif Nat.beq k i && (Nat.beq (ρ x).cells.length e && (ρ x).cells.all T.one) then (match elemsT e ρ (i + 1) r with | some l => some (ρ x :: l) | none => none) else none
noncomputable def tBuildFrozen (Γ : Env) (ρ : Operand → T) (t : TypeId) (n : Nat) (parts : List (Nat × Operand)) : Option T := match elemOf? Γ t with
  | some j => bif Nat.ble (n * j.size) 16777216 && (Nat.blt 0 j.size && (Nat.beq j.zero.length j.size && Nat.beq parts.length n)) then
      (match elemsT j.size ρ 0 parts with
      | some l => some (.lst j.size l)
      | none => none) else none
  | none => none
theorem elems_ok {g : Nat → Fam} {e : Nat} {ρT : Operand → T} {ρ : Operand → Value} (hρ : ∀ x, VT A β g (ρT x) (ρ x)) : ∀ {parts : List (Nat × Operand)} {i : Nat} {l : List T} {done : List Value} {rest : List Value}, elemsT e ρT i parts = some l → done.length = i * e → rest.length = parts.length * e →
    ∃ r cs, partsOf (placeA e) ρ parts = some r ∧ fillC (done ++ rest) r = some (done ++ cs) ∧ VL A β g (l.flatMap T.cells) cs ∧ (∀ t, t ∈ l → t.cells.length = e) ∧ l.length = parts.length
  | [], i, l, done, rest, h, hd, hr => by
    simp only [elemsT, Option.some.injEq] at h
    subst h
    have : rest = [] := List.eq_nil_of_length_eq_zero (by simpa using hr)
    subst this
    exact ⟨[], [], rfl, rfl, .nil, by simp, rfl⟩
  | (k, x) :: parts, i, l, done, rest, h, hd, hr => by
    unfold elemsT at h
    cases hq : (Nat.beq k i && (Nat.beq (ρT x).cells.length e && (ρT x).cells.all T.one)) with
    | false => rw [hq] at h; simp at h
    | true =>
      rw [hq] at h
      simp only [cond_true] at h
      simp only [Bool.and_eq_true] at hq
      obtain ⟨q1, q2, q3⟩ := hq
      have := Nat.eq_of_beq_eq_true q1
      subst this
      have q2' := Nat.eq_of_beq_eq_true q2
      split at h
      · rename_i l' hl
        cases h
        have hc := (hρ x).cells (one_ne_junk q3)
        have hcl := hc.len
        have hlen : rest.length = e + parts.length * e := by rw [hr, List.length_cons, Nat.add_mul]; omega
        obtain ⟨r, cs, a1, a2, a3, a4, a5⟩ := elems_ok hρ (done := done ++ (ρ x).cells.toList) (rest := rest.drop e) hl (by rw [List.length_append, hd, ← hcl, q2', Nat.add_mul]; omega) (by rw [List.length_drop]; omega)
        refine ⟨(k * e, (ρ x).cells.toList) :: r, (ρ x).cells.toList ++ cs, ?_, ?_, ?_, ?_, by rw [List.length_cons, List.length_cons, a5]⟩
        · unfold partsOf
          simp only [placeA, a1]
          rw [← hcl, q2]
          rfl
        · unfold fillC
          have hsp : splice (done ++ rest) (k * e) (ρ x).cells.toList = done ++ (ρ x).cells.toList ++ rest.drop e := by
            unfold Go.Proofs.Ytfalnphlgfoflaa.splice
            rw [← hcl, q2', ← hd, List.take_append, List.drop_append]
            simp
          rw [hsp, a2, ble_ok (show k * e + (ρ x).cells.toList.length ≤ (done ++ rest).length by rw [List.length_append, ← hcl, q2', hd, hlen]; omega), cond_true, List.append_assoc]
        · rw [List.flatMap_cons]
          exact hc.append a3
        · intro t ht
          rcases List.mem_cons.1 ht with rfl | ht
          · exact q2'
          · exact a4 t ht
      · simp at h
theorem tBuildFrozen_ok (h : TRel GL A β S s) {t : TypeId} {n : Nat} {parts : List (Nat × Operand)} {ρT : Operand → T} {ρ : Operand → Value} {r : T} (hρ : ∀ x, VT A β (objAt s.obj) (ρT x) (ρ x)) (ht : tBuildFrozen Γ ρT t n parts = some r) : Ok0 GL A β S s (opBuildSlice Γ s ρ t n parts) r := by
  unfold tBuildFrozen at ht
  split at ht
  · rename_i j hj
    cases hq : (Nat.ble (n * j.size) 16777216 && (Nat.blt 0 j.size && (Nat.beq j.zero.length j.size && Nat.beq parts.length n))) with
    | false => rw [hq] at ht; simp at ht
    | true =>
      rw [hq] at ht
      simp only [cond_true] at ht
      simp only [Bool.and_eq_true] at hq
      obtain ⟨q1, q2, q3, q4⟩ := hq
      have q3' := Nat.eq_of_beq_eq_true q3
      have q4' := Nat.eq_of_beq_eq_true q4
      split at ht
      · rename_i l hl
        cases ht
        obtain ⟨r, cs, a1, a2, a3, a4, a5⟩ := elems_ok hρ (done := []) (rest := (List.replicate n j.zero).flatten) hl (by simp) (by
          rw [List.length_flatten]; simp [q3', q4'])
        obtain ⟨s', A', k1, k2, k3, k4, k5⟩ := h.newFrozen 0 (by omega) a3
        have hop : opBuildSlice Γ s ρ t n parts = some (.slice (some (mkA s.n (s.n * 1024 + 0) 0)) n n, s') := by
          unfold opBuildSlice
          simp only [hj, q1, q2, Bool.and_self, cond_true, a1, buildC]
          rw [List.nil_append] at a2
          rw [a2]
          simp only [List.nil_append, k1]
          rfl
        rw [hop]
        refine ⟨_, s', A', rfl, k4, ?_, k5⟩
        have := VT.lst (A := A') (β := β) (g := objAt s'.obj) (off := 0) (cap := n) k2 k3 (k5.stp.vl h a3) a4 (blt_iff.1 q2) (by rw [List.drop_zero, List.take_length]) (.inl (by omega)) (by omega)
        rw [a5, q4'] at this
        exact this
      · simp at ht
  · simp at ht
end
end Go.Proofs.Ytfalnphlgfoflaa
