/- Trees: maps: making, looking up, updating. No program in sight. -/
import Derived.Test.YtfalnphlgfoflaaTh
namespace Go.Proofs.Ytfalnphlgfoflaa
open Go Go.RowKit
set_option linter.unusedSimpArgs false
set_option linter.unusedVariables false
set_option linter.unusedSectionVars false
noncomputable def keyVT (Γ : Env) (t : TypeId) (k : T) : Bool := match Γ.ti.at t with
  | some i => (match i.desc, k with | .int a, .int b _ => Nat.beq (ikN a) (ikN b) | .string, .str _ => true | .bool, .bool _ => true | _, _ => false)
  | none => false
noncomputable def tKeyEq : T → T → Option Bool
  | .int k a, .int k' b => bif Nat.beq (ikN k) (ikN k') then some (a == b) else none
  | .str a, .str b => some (a.data.toList == b.data.toList)
  | .bool a, .bool b => some (a == b)
  | _, _ => none
noncomputable def tGet (k : T) : List (T × T) → Option (Option T)
  | [] => some none
  | (k', v) :: l => match tKeyEq k k' with
    | some true => some (some v)
    | some false => tGet k l
    | none => none
noncomputable def tSet (k v : T) : List (T × T) → Option (List (T × T))
  | [] => some [(k, v)]
  | (k', v') :: l => match tKeyEq k k' with
    | some true => some ((k, v) :: l)
    | some false => (match tSet k v l with | some l => some ((k', v') :: l) | none => none)
    | none => none
noncomputable def zeroTT (i : TI) : Option T := bif aggT i.desc then (match zerosT i.zero with | some l => some (.agg l) | none => none) else match i.zero with | [z] => zeroT z | _ => none
def foundT (ok : Bool) (z : T) : Option T → T
  | some v => bif ok then .tup [v, .bool true] else v
  | none => bif ok then .tup [z, .bool false] else z
noncomputable def tLookup (Γ : Env) (S : TS) (t : TypeId) (x k : T) (ok : Bool) : Option T := match Γ.ti.at t with
  | some i => (match i.desc with
    | .map kt e => bif keyVT Γ kt k then (match Γ.ti.at e with
      | some j => (match zeroTT j with
        | some z => (match x with
          | .nilm => some (foundT ok z none)
          | .mp b => (match S.box b with | .map l => (match tGet k l with | some r => some (foundT ok z r) | none => none) | _ => none)
          | _ => none)
        | none => none)
      | none => none) else none
    | _ => none)
  | none => none
noncomputable def tMapUpdate (Γ : Env) (S : TS) (t : TypeId) (k v m : T) : Option TS := match m, Γ.ti.at t with
  | .mp b, some i => (match i.desc with
    | .map kt _ => bif keyVT Γ kt k then (match S.box b with | .map l => (match tSet k v l with | some l' => some (S.set b (.map l')) | none => none) | _ => none) else none
    | _ => none)
  | _, _ => none
def tMakeMap (S : TS) : Option (T × TS) := some (.mp S.n, S.add (.map []))
section
variable {GL : List (Nat × List Value)} {A A' : Nat → Prop} {β β' : Bx} {S S' : TS} {s s' : CS} {P : Program} {Γ : Env} {g g' : Nat → Fam}
theorem keyV_ok {t : TypeId} {k : T} {v : Value} (h : VT A β g k v) (hk : keyVT Γ t k = true) : keyV Γ t v = true := by
  unfold keyVT at hk
  unfold keyV
  split at hk
  · rename_i i hi
    rw [hi]
    simp only
    split at hk
    · rename_i hd; cases h; rw [hd]; exact hk
    · rename_i hd; cases h; rw [hd]
    · rename_i hd; cases h; rw [hd]
    · simp at hk
  · simp at hk
theorem keyEq_ok {k k' : T} {v v' : Value} {r : Bool} (h : VT A β g k v) (h' : VT A β g k' v') (hq : tKeyEq k k' = some r) : keyEq v v' = some r := by
  unfold tKeyEq at hq
  split at hq
  · cases h; cases h'
    rename_i k a k' b
    show sel (Nat.beq (ikN k) (ikN k')) (some (a == b)) none = some r
    cases hb : Nat.beq (ikN k) (ikN k') with
    | true => rw [hb, cond_true] at hq; rw [sel_true]; exact hq
    | false => rw [hb] at hq; simp at hq
  · cases h; cases h'; exact hq
  · cases h; cases h'; exact hq
  · simp at hq
def VO2 (A : Nat → Prop) (β : Bx) (g : Nat → Fam) : Option T → Option Value → Prop
  | none, none => True
  | some t, some v => VT A β g t v
  | _, _ => False
theorem VM.cons_inv {k x : T} {l : List (T × T)} {es : List (Value × Value)} (h : VM A β g ((k, x) :: l) es) : ∃ v w es', es = (v, w) :: es' ∧ VT A β g k v ∧ VT A β g x w ∧ VM A β g l es' := by
  obtain ⟨h1, h2⟩ := h
  cases es with
  | nil => cases h1
  | cons e es =>
    obtain ⟨v, w⟩ := e
    simp only [List.map_cons] at h1 h2
    cases h1 with
    | cons a b =>
      cases h2 with
      | cons c d => exact ⟨v, w, es, rfl, a, c, b, d⟩
theorem VM.nil_inv {es : List (Value × Value)} (h : VM A β g [] es) : es = [] := by
  obtain ⟨h1, _⟩ := h
  cases es with
  | nil => rfl
  | cons e es => cases h1
theorem VM.mk {k x : T} {v w : Value} {l : List (T × T)} {es : List (Value × Value)} (a : VT A β g k v) (c : VT A β g x w) (h : VM A β g l es) : VM A β g ((k, x) :: l) ((v, w) :: es) := ⟨.cons a h.1, .cons c h.2⟩
theorem mapGet_ok {k : T} {v : Value} (hk : VT A β g k v) : ∀ {l : List (T × T)} {es : List (Value × Value)} {r : Option T}, VM A β g l es → tGet k l = some r → ∃ r', mapGet v es = some r' ∧ VO2 A β g r r'
  | [], es, r, h, hr => by
    rw [VM.nil_inv h]
    simp only [tGet, Option.some.injEq] at hr
    subst hr
    exact ⟨none, rfl, trivial⟩
  | (k', x) :: l, es, r, h, hr => by
    obtain ⟨v', w, es', rfl, h1, h2, h3⟩ := VM.cons_inv h
    simp only [tGet] at hr
    split at hr
    · rename_i hq
      cases hr
      refine ⟨some w, ?_, h2⟩
      simp only [mapGet, keyEq_ok hk h1 hq]
    · rename_i hq
      obtain ⟨r', q1, q2⟩ := mapGet_ok hk h3 hr
      exact ⟨r', by simp only [mapGet, keyEq_ok hk h1 hq, q1], q2⟩
    · simp at hr
theorem mapSet_ok {k x : T} {v w : Value} (hk : VT A β g k v) (hx : VT A β g x w) : ∀ {l l' : List (T × T)} {es : List (Value × Value)}, VM A β g l es → tSet k x l = some l' → ∃ es', mapSet v w es = some es' ∧ VM A β g l' es'
  | [], l', es, h, hr => by
    rw [VM.nil_inv h]
    simp only [tSet, Option.some.injEq] at hr
    subst hr
    exact ⟨_, rfl, VM.mk hk hx ⟨.nil, .nil⟩⟩
  | (k', x') :: l, l', es, h, hr => by
    obtain ⟨v', w', es', rfl, h1, h2, h3⟩ := VM.cons_inv h
    simp only [tSet] at hr
    split at hr
    · rename_i hq
      cases hr
      exact ⟨_, by simp only [mapSet, keyEq_ok hk h1 hq], VM.mk hk hx h3⟩
    · rename_i hq
      split at hr
      · rename_i l2 hs
        cases hr
        obtain ⟨es2, q1, q2⟩ := mapSet_ok hk hx h3 hs
        exact ⟨_, by simp only [mapSet, keyEq_ok hk h1 hq, q1], VM.mk h1 h2 q2⟩
      · simp at hr
    · simp at hr
theorem zeroTT_ok {i : TI} {z : T} (h : zeroTT i = some z) : ∃ v, zeroC i = some v ∧ VT A β g z v := by
  unfold zeroTT at h
  unfold zeroC
  cases ha : aggT i.desc with
  | true =>
    rw [ha, cond_true] at h
    split at h
    · rename_i l hl
      cases h
      exact ⟨_, rfl, .agg (by simpa using (zerosT_ok (A := A) (β := β) (g := g) hl).1)⟩
    · simp at h
  | false =>
    rw [ha, cond_false] at h
    split at h
    · rename_i z' hz
      rw [hz]
      exact ⟨z', rfl, (zeroT_ok h).1⟩
    · simp at h
theorem foundT_ok {ok : Bool} {z : T} {zv : Value} {r : Option T} {r' : Option Value} (hz : VT A β g z zv) (h : VO2 A β g r r') : VT A β g (foundT ok z r) (foundC ok zv r') := by
  cases r <;> cases r' <;> simp only [VO2] at h
  · cases ok with
    | true => exact .tup (.cons hz (.cons (.bool _) .nil))
    | false => exact hz
  · cases ok with
    | true => exact .tup (.cons h (.cons (.bool _) .nil))
    | false => exact h
theorem mp_at (hT : TRel GL A β S s) {b : Nat} {l : List (T × T)} {v : Value} (hb : S.box b = .map l) (h : VT A β (objAt s.obj) (.mp b) v) : ∃ r es, v = .map (some r) ∧ β b = some (.map r) ∧ objAt s.obj r = ⟨false, [], some es⟩ ∧ VM A β (objAt s.obj) l es := by
  obtain ⟨r, es, q1, q2, q3⟩ := hT.maps b l hb
  cases h with
  | mp h => rw [q1] at h; cases h; exact ⟨_, es, rfl, q1, q2, q3⟩
  | mpOld h _ => rw [q1] at h; simp at h
theorem tLookup_ok (hT : TRel GL A β S s) {t : TypeId} {x k r : T} {vx vk : Value} {ok : Bool} (hx : VT A β (objAt s.obj) x vx) (hk : VT A β (objAt s.obj) k vk) (ht : tLookup Γ S t x k ok = some r) : Ok0 GL A β S s (opLookup Γ s t vx vk ok) r := by
  unfold tLookup at ht
  split at ht
  · rename_i i hi
    split at ht
    · rename_i kt e hd
      cases hkv : keyVT Γ kt k with
      | false => rw [hkv] at ht; simp at ht
      | true =>
        rw [hkv, cond_true] at ht
        split at ht
        · rename_i j hj
          split at ht
          · rename_i z hz
            obtain ⟨zv, z1, z2⟩ := zeroTT_ok (A := A) (β := β) (g := objAt s.obj) hz
            split at ht
            · cases ht
              cases hx
              have : opLookup Γ s t (.map none) vk ok = some (foundC ok zv none, s) := by
                simp only [opLookup, hi, hd, keyV_ok hk hkv, sel_true, hj, lookC, z1, mapGet]
              rw [this]
              exact Ok0.same hT (foundT_ok z2 trivial)
            · rename_i b
              split at ht
              · rename_i l hb
                split at ht
                · rename_i r0 hg
                  cases ht
                  obtain ⟨rr, es, rfl, q1, q2, q3⟩ := mp_at hT hb hx
                  obtain ⟨r', g1, g2⟩ := mapGet_ok hk q3 hg
                  have : opLookup Γ s t (.map (some rr)) vk ok = some (foundC ok zv r', { s with rd := ins s.lim s.rd rr }) := by
                    simp only [opLookup, hi, hd, keyV_ok hk hkv, sel_true, hj, CS.readMap, q2, lookC, z1, g1]
                  rw [this]
                  exact Ok0.read hT (.inr (own_map q1)) (foundT_ok z2 g2)
                · simp at ht
              · simp at ht
            · simp at ht
          · simp at ht
        · simp at ht
    · simp at ht
  · simp at ht
theorem tMapUpdate_ok (hT : TRel GL A β S s) {t : TypeId} {k x m : T} {vk vx vm : Value} (hk : VT A β (objAt s.obj) k vk) (hx : VT A β (objAt s.obj) x vx) (hm : VT A β (objAt s.obj) m vm) (ht : tMapUpdate Γ S t k x m = some S') : Ok GL A β s (opMapUpdate Γ s t vk vx vm) .junk S' := by
  unfold tMapUpdate at ht
  split at ht
  · rename_i b i hi
    split at ht
    · rename_i kt e hd
      cases hkv : keyVT Γ kt k with
      | false => rw [hkv] at ht; simp at ht
      | true =>
        rw [hkv, cond_true] at ht
        split at ht
        · rename_i l hb
          split at ht
          · rename_i l' hs
            cases ht
            obtain ⟨r, es, rfl, q1, q2, q3⟩ := mp_at hT hb hm
            obtain ⟨es', g1, g2⟩ := mapSet_ok hk hx q3 hs
            obtain ⟨gg, hin⟩ := hT.inr
            have hobj : ∀ f, objAt s.obj f = gg f := fun f => by rw [hin]; rfl
            have hdis := hT.dis r (own_map q1)
            have hw : opMapUpdate Γ s t vk vx (.map (some r)) = some (undef, { s with obj := .inr (fupd gg r ⟨false, [], some es'⟩), rd := ins s.lim s.rd r, wr := ins s.lim s.wr r }) := by
              have e1 : objPut s.obj r ⟨false, [], some es'⟩ = .inr (fupd gg r ⟨false, [], some es'⟩) := by rw [hin, objPut_inr]
              simp only [opMapUpdate, hi, hd, keyV_ok hk hkv, sel_true, CS.setMap, CS.readMap, q2, sel_false, g1, e1, doneC]
            have hcan := mapUp_can hT.inv hw
            have hold : ∀ f, f ≠ r → fupd gg r ⟨false, [], some es'⟩ f = objAt s.obj f := fun f hf => by rw [hobj]; exact fupd_ne _ _ _ _ hf
            have hA : ∀ f, A f → fupd gg r ⟨false, [], some es'⟩ f = objAt s.obj f := fun f hf => hold f fun h => hdis.2 (h ▸ hf)
            have hoth : ∀ {b' : Nat} {l : Loc} {f : Nat}, β b' = some l → l.fam = some f → b' ≠ b → fupd gg r ⟨false, [], some es'⟩ f = objAt s.obj f := by
              intro b' l f hb2 hf hne
              refine hold f fun hh => hne ?_
              subst hh
              exact hT.inj b' b l _ f hb2 q1 hf rfl
            rw [hw]
            refine ⟨_, _, A, β, rfl, ⟨⟨_, rfl⟩, hT.inv.next hcan, fun f hf => hT.alt f hf, fun f hf => hT.dis f hf, hT.inj, hT.next, fun b' z N l2 hb2 => ?_, fun b' l2 hb2 => ?_, fun y hy => ?_⟩, .junk _, hcan, fun _ h => h, fun _ h => .inl h, fun _ h => .inl h, fun f hf hno => ?_, Bx.le_refl _, fun y hy => ?_, fun y hy => ?_⟩
            · by_cases hbb : b' = b
              · subst hbb; rw [TS.set_same] at hb2; cases hb2
              · rw [TS.set_ne _ _ hbb] at hb2
                exact (hT.cells b' z N l2 hb2).mono (fun _ h => h) hA (Bx.le_refl _) rfl fun f u N2 hl => hoth hl rfl hbb
            · by_cases hbb : b' = b
              · subst hbb
                rw [TS.set_same] at hb2
                cases hb2
                exact ⟨r, es', q1, fupd_same _ _ _, g2.1.mono (fun _ h => h) hA (Bx.le_refl _), g2.2.mono (fun _ h => h) hA (Bx.le_refl _)⟩
              · rw [TS.set_ne _ _ hbb] at hb2
                exact (hT.maps b' l2 hb2).mono (fun _ h => h) hA (Bx.le_refl _) rfl fun r' hl => hoth hl rfl hbb
            · have := hT.glob y hy
              refine ⟨this.1, ?_⟩
              show rowOf (fupd gg r _ y.1).rows _ = _
              rw [hA _ this.1]; exact this.2
            · show fupd gg r _ f = _
              exact hold f fun hh => hno (hh ▸ own_map q1)
            · rcases mem_ins hy with q | ⟨rfl, q⟩
              · exact .inl q
              · exact .inr ⟨q, .inr (own_map q1)⟩
            · rcases mem_ins hy with q | ⟨rfl, q⟩
              · exact .inl q
              · exact .inr ⟨q, own_map q1⟩
          · simp at ht
        · simp at ht
    · simp at ht
  · simp at ht
theorem tMakeMap_ok (h : TRel GL A β S s) {r : T} (ht : tMakeMap S = some (r, S')) : Ok GL A β s (mapC s) r S' := by
  simp only [tMakeMap, Option.some.injEq, Prod.mk.injEq] at ht
  obtain ⟨rfl, rfl⟩ := ht
  obtain ⟨q1, q2, q3, q4⟩ := h.fresh ⟨false, [], some []⟩ rfl (fun p hp => by simp at hp)
  have hb0 : β S.n = none := h.next _ (Nat.le_refl _)
  have hle : Bx.le β (bnew β S.n (.map s.n)) := bnew_le hb0
  have hat : ∀ b, b ≠ S.n → bnew β S.n (.map s.n) b = β b := fun b hb => if_neg hb
  have hat2 : bnew β S.n (.map s.n) S.n = some (.map s.n) := if_pos rfl
  have hold : ∀ f, f < s.n → objAt (objPut s.obj s.n ⟨false, [], some []⟩) f = objAt s.obj f := fun f hf => q3 f (by omega)
  have hkey : ∀ b x, β b = some x → x.fam = some s.n → False := fun b x hb hx => by
    have : Own β s.n := by
      cases x with
      | live f u N => simp [Loc.fam] at hx; subst hx; exact own_live hb
      | map r => simp [Loc.fam] at hx; subst hx; exact own_map hb
      | nil => simp [Loc.fam] at hx
      | dead => simp [Loc.fam] at hx
    have := (h.dis _ this).1
    omega
  have hm : mapC s = some (.map (some s.n), { s with n := s.n + 1, obj := objPut s.obj s.n ⟨false, [], some []⟩ }) := by
    unfold mapC
    have : roomIn s.obj s.n = true := by obtain ⟨g, hg⟩ := h.inr; rw [hg]; rfl
    rw [this, sel_true]
  rw [hm]
  refine ⟨_, _, A, bnew β S.n (.map s.n), rfl, ⟨q1.inr, q1.inv, q1.alt, fun f hf => ?_, fun b b' x x' f hb hb' hx hx' => ?_, fun b hb => ?_, fun b z N x hb => ?_, fun b x hb => ?_, q1.glob⟩, .mp hat2, q2, fun _ h => h, fun _ h => .inl h, fun f hf => ?_, fun f hf _ => q3 f (by omega), hle, fun _ h => .inl h, fun _ h => .inl h⟩
  · obtain ⟨b, hb⟩ := hf
    by_cases hbn : b = S.n
    · subst hbn
      rw [hat2] at hb
      rcases hb with ⟨u, N, hb⟩ | hb
      · simp at hb
      · cases hb
        exact ⟨by show s.n < s.n + 1; omega, fun hA => by have := h.alt _ hA; omega⟩
    · rw [hat b hbn] at hb
      exact q1.dis f ⟨b, hb⟩
  · by_cases e1 : b = S.n <;> by_cases e2 : b' = S.n
    · rw [e1, e2]
    · subst e1
      rw [hat2] at hb; rw [hat b' e2] at hb'
      cases hb
      simp [Loc.fam] at hx; subst hx
      exact (hkey b' x' hb' hx').elim
    · subst e2
      rw [hat2] at hb'; rw [hat b e1] at hb
      cases hb'
      simp [Loc.fam] at hx'; subst hx'
      exact (hkey b x hb hx).elim
    · rw [hat b e1] at hb; rw [hat b' e2] at hb'
      exact h.inj b b' x x' f hb hb' hx hx'
  · have : S.n + 1 ≤ b := hb
    rw [hat b (by omega)]
    exact h.next b (by omega)
  · by_cases hbn : b = S.n
    · subst hbn; rw [TS.add_same] at hb; cases hb
    · rw [TS.add_ne _ _ hbn] at hb
      exact (h.cells b z N x hb).mono (fun _ h => h) (fun f hf => hold f (h.alt f hf)) hle (hat b hbn) fun f u N hl => hold f (h.dis f (own_live hl)).1
  · by_cases hbn : b = S.n
    · subst hbn
      rw [TS.add_same] at hb
      cases hb
      exact ⟨s.n, [], hat2, q4, .nil, .nil⟩
    · rw [TS.add_ne _ _ hbn] at hb
      exact (h.maps b x hb).mono (fun _ h => h) (fun f hf => hold f (h.alt f hf)) hle (hat b hbn) fun r hl => hold r (h.dis r (own_map hl)).1
  · obtain ⟨b, hb⟩ := hf
    by_cases hbn : b = S.n
    · subst hbn
      rw [hat2] at hb
      rcases hb with ⟨u, N, hb⟩ | hb
      · simp at hb
      · cases hb; exact .inr (Nat.le_refl _)
    · rw [hat b hbn] at hb
      exact .inl ⟨b, hb⟩
end
end Go.Proofs.Ytfalnphlgfoflaa
