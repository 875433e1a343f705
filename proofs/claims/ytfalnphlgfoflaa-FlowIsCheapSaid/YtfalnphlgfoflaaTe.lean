/- Trees: sources of cells, lengths, slicing, appending, copying. No program in sight. -/
import Derived.Test.YtfalnphlgfoflaaTd
namespace Go.Proofs.Ytfalnphlgfoflaa
open Go Go.RowKit
set_option linter.unusedSimpArgs false
set_option linter.unusedVariables false
def byteT (c : UInt8) : T := .int .u8 (c.toNat : Int)
def bytesT (b : ByteArray) : List T := b.data.toList.map byteT
section
variable {GL : List (Nat × List Value)} {A A' A2 : Nat → Prop} {β β' β2 : Bx} {S S' : TS} {s s' s2 : CS} {P : Program} {Γ : Env}
theorem VL_bytes {g : Nat → Fam} : ∀ (l : List UInt8), VL A β g (l.map byteT) (l.map fun b => .int .u8 b.toNat)
  | [] => .nil
  | c :: l => .cons (.int _ _) (VL_bytes l)
noncomputable def tSrc (S : TS) (e : Nat) : T → Option (Nat × List T)
  | .lst es l => bif Nat.beq es e then some (l.length, l.flatMap T.cells) else none
  | .str b => bif Nat.beq e 1 then some (b.size, bytesT b) else none
  | .nils => some (0, [])
  | .arr b es off len cap N => (match S.box b with
    | .cells _ N' l => bif Nat.beq N N' && (Nat.beq es e && Nat.ble (off + len * e) N) then some (len, (l.drop off).take (len * e)) else none
    | _ => none)
  | .emp es => bif Nat.beq es e then some (0, []) else none
  | _ => none
def Rd (A : Nat → Prop) (β : Bx) (s s' : CS) : Prop := s' = s ∨ ∃ f, (A f ∨ Own β f) ∧ s' = { s with rd := ins s.lim s.rd f }
theorem Rd.rel (h : TRel GL A β S s) (k : Rd A β s s') : TRel GL A β S s' ∧ Stp A β s A β s' ∧ s'.obj = s.obj ∧ s'.n = s.n ∧ s'.lim = s.lim ∧ s'.wr = s.wr := by
  rcases k with rfl | ⟨f, hf, rfl⟩
  · exact ⟨h, Stp.refl, rfl, rfl, rfl, rfl⟩
  · exact ⟨h.read f, Stp.read hf, rfl, rfl, rfl, rfl⟩
theorem Rd.rel0 (h : TRel GL A β S s) (k : Rd A β s s') : TRel GL A β S s' ∧ Calm0 A β s A s' := by
  rcases k with rfl | ⟨f, hf, rfl⟩
  · exact ⟨h, Can.refl _, fun _ h => h, fun _ h => .inl h, fun _ _ => rfl, fun _ h => .inl h, fun _ h => h⟩
  · exact ⟨h.read f, Calm0.read hf⟩
theorem tSrc_ok (h : TRel GL A β S s) {e n : Nat} {y : T} {xs : List T} {v : Value} (he : 0 < e) (hy : VT A β (objAt s.obj) y v) (ht : tSrc S e y = some (n, xs)) :
    lenC v = some n ∧ xs.length = n * e ∧ ∀ k, k ≤ n → ∃ ys s', s.firstCells e k v = some (ys, s') ∧ VL A β (objAt s.obj) (xs.take (k * e)) ys ∧ Rd A β s s' := by
  unfold tSrc at ht
  split at ht
  · rename_i es l
    cases hq : Nat.beq es e with
    | false => rw [hq] at ht; simp at ht
    | true =>
      rw [hq] at ht
      have := Nat.eq_of_beq_eq_true hq
      subst this
      cases ht
      cases hy with
      | lnil => 
        refine ⟨rfl, by simp, fun k hk => ?_⟩
        have : k = 0 := by simpa using hk
        subst this
        refine ⟨[], s, ?_, by simpa using VL.nil, .inl rfl⟩
        unfold CS.firstCells
        simp
      | lst k1 k2 k3 k4 k5 k6 k7 k8 =>
        rename_i f u off cap cs cs0
        refine ⟨rfl, flat_len k4, fun k hk => ?_⟩
        have hcl : cs.length = l.length * es := by rw [← k3.len, flat_len k4]
        have hkl : k * es ≤ l.length * es := Nat.mul_le_mul_right es hk
        have hcs0 : off + cs.length ≤ cs0.length ∨ cs.length = 0 := by
          have := congrArg List.length k6
          rw [List.length_take, List.length_drop] at this
          omega
        cases hz : Nat.beq (k * es) 0 with
        | true =>
          have hz' := Nat.eq_of_beq_eq_true hz
          refine ⟨[], s, ?_, by rw [hz']; simpa using VL.nil, .inl rfl⟩
          unfold CS.firstCells
          simp only [hz, cond_true]
        | false =>
          have hnz : k * es ≠ 0 := fun hh => by rw [hh] at hz; simp at hz
          refine ⟨cs.take (k * es), { s with rd := ins s.lim s.rd f }, ?_, k3.take _, .inr ⟨f, .inl k1, rfl⟩⟩
          unfold CS.firstCells CS.readRow
          simp only [hz, cond_false, ver_mk, block_mk, k2, off_mk]
          rw [cut_ok (by omega)]
          have : (cs0.drop off).take (k * es) = cs.take (k * es) := by
            rw [← k6, List.take_take, Nat.min_eq_left (by omega)]
          rw [this]
  · rename_i b
    cases hq : Nat.beq e 1 with
    | false => rw [hq] at ht; simp at ht
    | true =>
      rw [hq] at ht
      have := Nat.eq_of_beq_eq_true hq
      subst this
      cases ht
      cases hy
      refine ⟨rfl, by simp [bytesT], fun k hk => ⟨_, s, first_str hk, ?_, .inl rfl⟩⟩
      have : byteVs (b.extract 0 k) = (b.data.toList.take k).map fun b => .int .u8 b.toNat := by
        unfold byteVs
        simp [ByteArray.data_extract]
      rw [this, Nat.mul_one, bytesT, ← List.map_take]
      exact VL_bytes _
  · cases ht
    cases hy
    refine ⟨rfl, by simp, fun k hk => ?_⟩
    have : k = 0 := by omega
    subst this
    refine ⟨[], s, ?_, by simpa using VL.nil, .inl rfl⟩
    unfold CS.firstCells
    simp
  · rename_i b es off len cap N
    split at ht
    · rename_i z N' l hS
      cases hq : (Nat.beq N N' && (Nat.beq es e && Nat.ble (off + len * e) N)) with
      | false => rw [hq] at ht; simp at ht
      | true =>
        rw [hq] at ht
        simp only [Bool.and_eq_true] at hq
        obtain ⟨q1, q2, q3⟩ := hq
        have := Nat.eq_of_beq_eq_true q1
        subst this
        have := Nat.eq_of_beq_eq_true q2
        subst this
        have q3 := ble_iff.1 q3
        simp only [cond_true, Option.some.injEq, Prod.mk.injEq] at ht
        obtain ⟨rfl, rfl⟩ := ht
        have hlN := (h.cells b z N l hS).1
        have hxl : ((l.drop off).take (len * es)).length = len * es := by rw [List.length_take, List.length_drop]; omega
        rcases arr_inv h hS hy with ⟨f, u, rfl, hb, _⟩ | ⟨rfl, hb, rfl, rfl, rfl, rfl⟩
        · refine ⟨rfl, hxl, fun k hk => ?_⟩
          have hkl : k * es ≤ len * es := Nat.mul_le_mul_right es hk
          obtain ⟨cs, h1, h2, h3⟩ := h.look (off := off) hS hb
          have hcl := h2.len
          cases hz : Nat.beq (k * es) 0 with
          | true =>
            have hz' := Nat.eq_of_beq_eq_true hz
            refine ⟨[], s, ?_, by rw [hz']; simpa using VL.nil, .inl rfl⟩
            unfold CS.firstCells
            simp only [hz, cond_true]
          | false =>
            refine ⟨(cs.drop off).take (k * es), { s with rd := ins s.lim s.rd f }, ?_, ?_, .inr ⟨f, .inr (own_live hb), rfl⟩⟩
            · unfold CS.firstCells
              simp only [hz, cond_false, h1, off_mk]
              rw [cut_ok (by omega)]
            · rw [List.take_take, Nat.min_eq_left (by omega)]
              exact (h2.drop off).take _
        · refine ⟨rfl, by simp, fun k hk => ?_⟩
          have : k = 0 := by omega
          subst this
          refine ⟨[], s, ?_, by simpa using VL.nil, .inl rfl⟩
          unfold CS.firstCells
          simp
    · simp at ht
  · rename_i es
    cases hq : Nat.beq es e with
    | false => rw [hq] at ht; simp at ht
    | true =>
      rw [hq] at ht
      cases ht
      cases hy
      refine ⟨rfl, by simp, fun k hk => ?_⟩
      have : k = 0 := by omega
      subst this
      refine ⟨[], s, ?_, by simpa using VL.nil, .inl rfl⟩
      unfold CS.firstCells
      simp
  · simp at ht
noncomputable def tLen (Γ : Env) (S : TS) (t : TypeId) (x : T) : Option T := match Γ.ti.at t with
  | some i => (match i.desc, x with
    | .string, .str b => some (.int .i64 b.size)
    | .array n _, _ => some (.int .i64 n)
    | .slice _, .lst _ l => some (.int .i64 l.length)
    | .slice _, .nils => some (.int .i64 0)
    | .slice _, .emp _ => some (.int .i64 0)
    | .slice _, .arr b _ _ len _ N => bif S.has b N then some (.int .i64 len) else none
    | _, _ => none)
  | none => none
theorem tLen_ok (h : TRel GL A β S s) {t : TypeId} {x r : T} {v : Value} (hx : VT A β (objAt s.obj) x v) (ht : tLen Γ S t x = some r) : Ok0 GL A β S s (opLen Γ s t v) r := by
  unfold tLen at ht
  split at ht
  · rename_i i hi
    split at ht
    · rename_i b hd
      cases ht
      cases hx
      have : opLen Γ s t (.string b) = some (.int .i64 b.size, s) := by unfold opLen; simp only [hi, hd]
      rw [this]
      exact Ok0.same h (.int _ _)
    · rename_i n e hd
      cases ht
      have : opLen Γ s t v = some (.int .i64 n, s) := by unfold opLen; simp only [hi, hd]
      rw [this]
      exact Ok0.same h (.int _ _)
    · rename_i e es l hd
      cases ht
      have key : ∀ a n c, opLen Γ s t (.slice a n c) = some (.int .i64 n, s) := fun a n c => by unfold opLen; simp only [hi, hd]
      cases hx with
      | lnil => rw [key]; exact Ok0.same h (.int _ _)
      | lst => rw [key]; exact Ok0.same h (.int _ _)
    · rename_i e hd
      cases ht
      have key : ∀ a n c, opLen Γ s t (.slice a n c) = some (.int .i64 n, s) := fun a n c => by unfold opLen; simp only [hi, hd]
      cases hx
      rw [key]
      exact Ok0.same h (.int _ _)
    · rename_i e es hd
      cases ht
      have key : ∀ a n c, opLen Γ s t (.slice a n c) = some (.int .i64 n, s) := fun a n c => by unfold opLen; simp only [hi, hd]
      cases hx
      rw [key]
      exact Ok0.same h (.int _ _)
    · rename_i e b es off len cap N hd
      have key : ∀ a n c, opLen Γ s t (.slice a n c) = some (.int .i64 n, s) := fun a n c => by unfold opLen; simp only [hi, hd]
      cases hs : S.has b N with
      | false => rw [hs] at ht; simp at ht
      | true =>
        rw [hs] at ht
        cases ht
        obtain ⟨z, l, hS⟩ := TS.has_ok hs
        rcases arr_inv h hS hx with ⟨f, u, rfl, hb, _⟩ | ⟨rfl, hb, rfl, rfl, rfl, rfl⟩
        · rw [key]; exact Ok0.same h (.int _ _)
        · rw [key]; exact Ok0.same h (.int _ _)
    · simp at ht
  · simp at ht
def ofIntT : T → Value
  | .int k n => .int k n
  | _ => undef
theorem ofIntT_ok {g : Nat → Fam} {t : T} {v : Value} {n : Nat} (h : VT A β g t v) (hn : natOf (ofIntT t) = some n) : natOf v = some n := by
  unfold ofIntT at hn
  split at hn
  · cases h; exact hn
  · simp [natOf, undef] at hn
inductive VO (A : Nat → Prop) (β : Bx) (g : Nat → Fam) : Option T → Option Value → Prop
  | none : VO A β g none none
  | some {t v} : VT A β g t v → VO A β g (some t) (some v)
noncomputable def natO (d : Nat) : Option Value → Option Nat
  | some v => natOf v
  | none => some d
theorem bounds_nat (len cap : Nat) (lo hi mx : Option Value) : boundsC len cap lo hi mx = match natO cap mx, natO len hi, natO 0 lo with
    | some m, some h, some l => bif Nat.ble l h && Nat.ble h m && Nat.ble m cap && (mx.isNone || hi.isSome) then some (l, h, m) else none
    | _, _, _ => none := by
  unfold boundsC
  cases lo <;> cases hi <;> cases mx <;> rfl
theorem bounds_ok {g : Nat → Fam} {len cap : Nat} {lo hi mx : Option T} {lov hiv mxv : Option Value} {r : Nat × Nat × Nat} (h1 : VO A β g lo lov) (h2 : VO A β g hi hiv) (h3 : VO A β g mx mxv) (hb : boundsC len cap (lo.map ofIntT) (hi.map ofIntT) (mx.map ofIntT) = some r) : boundsC len cap lov hiv mxv = some r := by
  have key : ∀ {o : Option T} {o' : Option Value} {d k : Nat}, VO A β g o o' → natO d (o.map ofIntT) = some k → natO d o' = some k := by
    intro o o' d k ho hk
    cases ho with
    | none => exact hk
    | some hv => exact ofIntT_ok hv hk
  rw [bounds_nat] at hb ⊢
  split at hb
  · rename_i m hh l e1 e2 e3
    rw [key h3 e1, key h2 e2, key h1 e3]
    have n1 : mxv.isNone = (mx.map ofIntT).isNone := by cases h3 <;> rfl
    have n2 : hiv.isSome = (hi.map ofIntT).isSome := by cases h2 <;> rfl
    simp only [n1, n2]
    exact hb
  · simp at hb
noncomputable def tSlice (Γ : Env) (S : TS) (t : TypeId) (x : T) (lo hi mx : Option T) : Option T := match Γ.ti.at t with
  | some i => (match x with
    | .str b => (match i.desc, mx with
      | .string, none => (match boundsC b.size b.size (lo.map ofIntT) (hi.map ofIntT) none with | some (l, h, _) => some (.str (b.extract l h)) | none => none)
      | _, _ => none)
    | .nils => (match i.desc with
      | .slice e => (match Γ.ti.at e with | some _ => (match boundsC 0 0 (lo.map ofIntT) (hi.map ofIntT) (mx.map ofIntT) with | some (0, 0, 0) => some .nils | _ => none) | none => none)
      | _ => none)
    | .arr b es off len cap N => (match i.desc with
      | .slice e => (match Γ.ti.at e with
        | some j => bif S.has b N && Nat.beq es j.size then (match boundsC len cap (lo.map ofIntT) (hi.map ofIntT) (mx.map ofIntT) with | some (l, h, m) => some (.arr b es (off + l * es) (h - l) (m - l) N) | none => none) else none
        | none => none)
      | _ => none)
    | .lst es l => (match i.desc, mx with
      | .slice e, none => (match Γ.ti.at e with
        | some j => bif Nat.beq es j.size then (match boundsC l.length l.length (lo.map ofIntT) (hi.map ofIntT) none with | some (a, h, _) => some (.lst es ((l.drop a).take (h - a))) | none => none) else none
        | none => none)
      | _, _ => none)
    | .ptr b off N => (match S.box b, i.desc with
      | .cells true N' _, .pointer arr => (match Γ.ti.at arr with
        | some ia => (match ia.desc with
          | .array n e => (match Γ.ti.at e with
            | some j => bif Nat.beq N N' && Nat.ble n 1000000000 then (match boundsC n n (lo.map ofIntT) (hi.map ofIntT) (mx.map ofIntT) with | some (l, h, m) => some (.arr b j.size (off + l * j.size) (h - l) (m - l) N) | none => none) else none
            | none => none)
          | _ => none)
        | none => none)
      | _, _ => none)
    | _ => none)
  | none => none
theorem bounds_cap {len cap : Nat} {lo hi : Option Value} {a h m : Nat} (hc : len ≤ cap) (hb : boundsC len len lo hi none = some (a, h, m)) : boundsC len cap lo hi none = some (a, h, cap) ∧ a ≤ h ∧ h ≤ len := by
  rw [bounds_nat] at hb ⊢
  split at hb
  · rename_i m' h' l' e1 e2 e3
    have e1' : len = m' := by simpa [natO] using e1
    subst e1'
    rw [e2, e3, show natO cap none = some cap from rfl]
    simp only
    cases hq : (Nat.ble l' h' && Nat.ble h' len && Nat.ble len len && ((none : Option Value).isNone || hi.isSome)) with
    | false => rw [hq] at hb; simp at hb
    | true =>
      rw [hq] at hb
      simp only [cond_true, Option.some.injEq, Prod.mk.injEq] at hb
      obtain ⟨rfl, rfl, rfl⟩ := hb
      simp only [Bool.and_eq_true] at hq
      obtain ⟨⟨⟨q1, q2⟩, q3⟩, q4⟩ := hq
      have q2' := ble_iff.1 q2
      refine ⟨?_, ble_iff.1 q1, q2'⟩
      rw [q1, ble_ok (show h' ≤ cap by omega), ble_ok (Nat.le_refl cap)]
      rfl
  · simp at hb
theorem bounds_le {len cap : Nat} {lo hi mx : Option Value} {a h m : Nat} (hb : boundsC len cap lo hi mx = some (a, h, m)) : a ≤ h ∧ h ≤ m ∧ m ≤ cap := by
  rw [bounds_nat] at hb
  split at hb
  · rename_i m' h' l' e1 e2 e3
    cases hq : (Nat.ble l' h' && Nat.ble h' m' && Nat.ble m' cap && (mx.isNone || hi.isSome)) with
    | false => rw [hq] at hb; simp at hb
    | true =>
      rw [hq] at hb
      simp only [cond_true, Option.some.injEq, Prod.mk.injEq] at hb
      obtain ⟨rfl, rfl, rfl⟩ := hb
      simp only [Bool.and_eq_true] at hq
      exact ⟨ble_iff.1 hq.1.1.1, ble_iff.1 hq.1.1.2, ble_iff.1 hq.1.2⟩
  · simp at hb
theorem tSlice_ok (h : TRel GL A β S s) {t : TypeId} {x r : T} {v : Value} {lo hi mx : Option T} {lov hiv mxv : Option Value} (hx : VT A β (objAt s.obj) x v) (h1 : VO A β (objAt s.obj) lo lov) (h2 : VO A β (objAt s.obj) hi hiv) (h3 : VO A β (objAt s.obj) mx mxv) (ht : tSlice Γ S t x lo hi mx = some r) : Ok0 GL A β S s (opSlice Γ s t v lov hiv mxv) r := by
  unfold tSlice at ht
  split at ht
  · rename_i i hi'
    split at ht
    · rename_i b
      cases hx
      split at ht
      · rename_i hd
        split at ht
        · rename_i l hh m hb
          cases ht
          cases h3
          have : opSlice Γ s t (.string b) lov hiv none = some (.string (b.extract l hh), s) := by
            unfold opSlice
            simp only [hi', hd, Option.isNone_none, cond_true]
            rw [bounds_ok h1 h2 .none hb]
            rfl
          rw [this]
          exact Ok0.same h (.str _)
        · simp at ht
      · simp at ht
    · cases hx
      split at ht
      · rename_i e hd
        split at ht
        · rename_i j hj
          split at ht
          · rename_i hb
            cases ht
            have : opSlice Γ s t (.slice none 0 0) lov hiv mxv = some (.slice none 0 0, s) := by
              unfold opSlice
              simp only [hi', hd, hj]
              rw [bounds_ok h1 h2 h3 hb]
              rfl
            rw [this]
            exact Ok0.same h .nils
          · simp at ht
        · simp at ht
      · simp at ht
    · rename_i b es off len cap N
      split at ht
      · rename_i e hd
        split at ht
        · rename_i j hj
          cases hq : (S.has b N && Nat.beq es j.size) with
          | false => rw [hq] at ht; simp at ht
          | true =>
            rw [hq] at ht
            simp only [Bool.and_eq_true] at hq
            have hes := Nat.eq_of_beq_eq_true hq.2
            obtain ⟨z, l0, hS⟩ := TS.has_ok hq.1
            simp only [cond_true] at ht
            split at ht
            · rename_i l hh m hb
              cases ht
              have hb' := bounds_ok h1 h2 h3 hb
              have hbl := bounds_le hb
              rcases arr_inv h hS hx with ⟨f, u, rfl, hbb, htag⟩ | ⟨rfl, hbb, rfl, rfl, rfl, rfl⟩
              · have : opSlice Γ s t (.slice (some (mkA f u off)) len cap) lov hiv mxv = some (.slice (some (mkA f u (off + l * es))) (hh - l) (m - l), s) := by
                  unfold opSlice
                  simp only [hi', hd, hj, hb']
                  unfold cutC
                  simp only [ver_mk, plus_mk]
                  rw [hes] at htag ⊢
                  rcases htag with hu | hu
                  · rw [beq_ok hu]; rfl
                  · rw [beq_ok hu]; simp
                rw [this]
                exact Ok0.same h (.arr hbb htag)
              · obtain ⟨b1, b2, b3⟩ := hbl
                have e1 : m = 0 := by omega
                have e2 : hh = 0 := by omega
                have e3 : l = 0 := by omega
                subst e1; subst e2; subst e3
                have : opSlice Γ s t (.slice none 0 0) lov hiv mxv = some (.slice none 0 0, s) := by
                  unfold opSlice
                  simp only [hi', hd, hj, hb']
                rw [this]
                simp only [Nat.zero_mul, Nat.add_zero, Nat.sub_zero]
                exact Ok0.same h (.arrNil hbb)
            · simp at ht
        · simp at ht
      · simp at ht
    · rename_i es l
      split at ht
      · rename_i e hd
        cases h3
        split at ht
        · rename_i j hj
          cases hq : Nat.beq es j.size with
          | false => rw [hq] at ht; simp at ht
          | true =>
            rw [hq] at ht
            have hes := Nat.eq_of_beq_eq_true hq
            simp only [cond_true] at ht
            split at ht
            · rename_i a hh m hb
              cases ht
              have hb' := bounds_ok h1 h2 .none hb
              obtain ⟨_, ha, hhl⟩ := bounds_cap (Nat.le_refl _) hb'
              cases hx with
              | lnil =>
                have e2 : hh = 0 := by simpa using hhl
                have e3 : a = 0 := by omega
                subst e2; subst e3
                have hm : m = 0 := by have := bounds_le hb'; simpa using this.2.2
                subst hm
                have : opSlice Γ s t (.slice none 0 0) lov hiv none = some (.slice none 0 0, s) := by
                  unfold opSlice
                  simp only [hi', hd, hj]
                  simp only [List.length_nil] at hb'
                  rw [hb']
                  rfl
                rw [this]
                exact Ok0.same h .lnil
              | lst k1 k2 k3 k4 k5 k6 k7 k8 =>
                rename_i f u off cap cs cs0
                obtain ⟨hb2, _, _⟩ := bounds_cap k8 hb'
                have : opSlice Γ s t (.slice (some (mkA f u off)) l.length cap) lov hiv none = some (.slice (some (mkA f u (off + a * es))) (hh - a) (cap - a), s) := by
                  unfold opSlice
                  simp only [hi', hd, hj, hb2]
                  unfold cutC
                  simp only [ver_mk, plus_mk]
                  rw [hes] at k7 ⊢
                  rcases k7 with hu | hu
                  · rw [beq_ok hu]; rfl
                  · rw [beq_ok hu]; simp
                rw [this]
                have hlen : ((l.drop a).take (hh - a)).length = hh - a := by rw [List.length_take, List.length_drop]; omega
                refine Ok0.same h ?_
                have hcs : VL A β (objAt s.obj) (((l.drop a).take (hh - a)).flatMap T.cells) ((cs.drop (a * es)).take ((hh - a) * es)) := by
                  rw [← flat_take (e := es) _ (fun t ht => k4 t (List.mem_of_mem_drop ht)), ← flat_drop (e := es) _ k4]
                  exact (k3.drop _).take _
                have hcl : cs.length = l.length * es := by rw [← k3.len, flat_len k4]
                have hal : hh * es ≤ l.length * es := Nat.mul_le_mul_right es hhl
                have hsub : (hh - a) * es = hh * es - a * es := Nat.sub_mul hh a es
                have hae : a * es ≤ hh * es := Nat.mul_le_mul_right es ha
                have := VT.lst (A := A) (β := β) (g := objAt s.obj) (off := off + a * es) (cap := cap - a) k1 k2 hcs (fun t ht => k4 t (List.mem_of_mem_drop (List.mem_of_mem_take ht))) k5 (by
                  have e1 : ((cs.drop (a * es)).take ((hh - a) * es)).length = (hh - a) * es := by rw [List.length_take, List.length_drop]; omega
                  rw [e1]
                  have := congrArg (List.drop (a * es)) k6
                  rw [List.drop_take, List.drop_drop] at this
                  rw [← this, List.take_take, Nat.min_eq_left (by omega)]) k7 (by rw [hlen]; omega)
                rw [hlen] at this
                exact this
            · simp at ht
        · simp at ht
      · simp at ht
    · rename_i b off N
      split at ht
      · rename_i N' l0 arr hS hd
        split at ht
        · rename_i ia hia
          split at ht
          · rename_i n e hda
            split at ht
            · rename_i j hj
              cases hq : (Nat.beq N N' && Nat.ble n 1000000000) with
              | false => rw [hq] at ht; simp at ht
              | true =>
                rw [hq] at ht
                simp only [Bool.and_eq_true] at hq
                have := Nat.eq_of_beq_eq_true hq.1
                subst this
                simp only [cond_true] at ht
                split at ht
                · rename_i l hh m hb
                  cases ht
                  have hb' := bounds_ok h1 h2 h3 hb
                  obtain ⟨f, u, rfl, hbb⟩ := ptr_inv h hS hx
                  have hu : u % 1024 = 0 := by
                    obtain ⟨_, hc⟩ := h.cells b true N l0 hS
                    rcases hc with ⟨_, _, hc⟩ | ⟨f', u', cs, rest, hb2, hz, _⟩
                    · simp at hc
                    · rw [hbb] at hb2; cases hb2; exact hz rfl
                  have : opSlice Γ s t (.pointer (some (mkA f u off))) lov hiv mxv = some (.slice (some (mkA f u (off + l * j.size))) (hh - l) (m - l), s) := by
                    unfold opSlice
                    simp only [hi', hd, hia, hda]
                    unfold cutArr
                    simp only [hj, hq.2, sel_true, hb']
                    unfold cutC
                    simp only [ver_mk, plus_mk]
                    rw [beq_ok hu]; rfl
                  rw [this]
                  exact Ok0.same h (.arr hbb (.inl hu))
                · simp at ht
            · simp at ht
          · simp at ht
        · simp at ht
      · simp at ht
    · simp at ht
  · simp at ht
end
end Go.Proofs.Ytfalnphlgfoflaa
