/- The plain machine, seventh part: its operations do what the model's do. No program in sight. -/
import Derived.Test.YtcmfoipnoejmlaaDoorCm6
import Derived.Laws.Tables
import Derived.Laws.IdiomStrings
import Derived.Laws.MakeOwn
import Derived.Great.BuildSlice
namespace Go.Proofs.YtcmfoipnoejmlaaDoor
open Go Go.RowKit

structure TIOk (P : Program) (t : TypeId) (i : TI) : Prop where
  und : P.underlying t = some i.desc
  info : ∃ j z, P.info? t = some j ∧ j.size = i.size ∧ j.bytes = i.bytes ∧ j.zero = some z ∧ z.cells.toList = i.zero ∧ shapeV i.desc z = true
  len : i.zero.length = i.size
  refl : ∀ σ, RL (VR σ) i.zero i.zero
structure EnvOk (P : Program) (Γ : Env) : Prop where
  ti : ∀ t i, Γ.ti.at t = some i → TIOk P t i
  fn : ∀ f x, Γ.fn.at f = some x → P.funcs[f]? = some x
theorem zeroV_refl {σ : Sg} {v : Value} (h : zeroV v = true) : VR σ v v := by
  unfold zeroV at h
  split at h
  · exact VR.mk rfl
  · exact VR.mk ⟨rfl, rfl, rfl⟩
  · exact VR.mk rfl
  · exact VR.mk rfl
  · rename_i fn first captured
    simp at h
    exact VR.mk ⟨first, captured, rfl, by rw [h.1]; trivial, by rw [h.2]; trivial⟩
  · exact plain_refl 3 h
theorem env_ok (P : Program) (L : List Nat) (ax : Axs) : EnvOk P (envAx P L ax) := by
  refine ⟨fun t i h => ?_, fun f x h => ?_⟩
  case refine_2 =>
    have h1 := Tab.at_mk _ _ _ h
    rw [sel_eq] at h1
    split at h1
    · exact h1
    · simp at h1
  have h1 : tiOf P t = some i := Tab.at_mk _ _ _ h
  unfold tiOf at h1
  cases hi : P.info? t with
  | none => rw [hi] at h1; simp at h1
  | some j =>
    cases hu : P.underlying t with
    | none => rw [hi, hu] at h1; simp at h1
    | some d =>
      rw [hi, hu] at h1
      simp only at h1
      cases hz : j.zero with
      | none => rw [hz] at h1; simp at h1
      | some z =>
        rw [hz] at h1
        simp only at h1
        rw [sel_eq] at h1
        split at h1
        · rename_i hc
          simp only [Bool.and_eq_true] at hc
          simp only [Option.some.injEq] at h1
          subst h1
          refine ⟨hu, ⟨j, z, hi, rfl, rfl, hz, rfl, hc.2.2⟩, Nat.eq_of_beq_eq_true hc.1, fun σ => RL.of rfl fun i x y hx hy => ?_⟩
          rw [hx] at hy
          cases hy
          exact zeroV_refl (List.all_eq_true.1 hc.2.1 x (List.mem_of_getElem? hx))
        · simp at h1

/-- the model's run gives a value that the plain machine's stands for, and so does its memory -/
def DidV (σ : Sg) (V : Nat → Prop) (s : CS) (w : World) (m : Result Value) (v : Value) (s' : CS) : Prop :=
  ∃ σ' w' v', m = .ok v' w' ∧ VR σ' v v' ∧ Rel σ' V s' w' ∧ Ext σ V s w σ' s' w'
def Did (σ : Sg) (V : Nat → Prop) (s : CS) (w : World) (m : Result Next) (v : Value) (s' : CS) : Prop :=
  ∃ σ' w' nx v', m = .ok nx w' ∧ (nx = .value v' ∨ nx = .skip ∧ v' = undef) ∧ VR σ' v v' ∧ Rel σ' V s' w' ∧ Ext σ V s w σ' s' w'
theorem DidV.up {σ : Sg} {V : Nat → Prop} {P : Program} {s s' : CS} {w : World} {m : Sem Value} {v : Value} (h : DidV σ V s w (m.run P w) v s') : Did σ V s w ((do pure (.value (← m)) : Sem Next).run P w) v s' := by
  obtain ⟨σ', w', v', h1, h2, h3, h4⟩ := h
  refine ⟨σ', w', .value v', v', ?_, .inl rfl, h2, h3, h4⟩
  simp [h1, Result.andThen_ok]
theorem Did.same {σ : Sg} {V : Nat → Prop} {s : CS} {w : World} {m : Result Next} {v v' : Value} (hr : Rel σ V s w) (hm : m = .ok (.value v') w) (hv : VR σ v v') : Did σ V s w m v s :=
  ⟨σ, w, _, v', hm, .inl rfl, hv, hr, Ext.refl _ _ _ _⟩
theorem DidV.same {σ : Sg} {V : Nat → Prop} {s : CS} {w : World} {m : Result Value} {v v' : Value} (hr : Rel σ V s w) (hm : m = .ok v' w) (hv : VR σ v v') : DidV σ V s w m v s :=
  ⟨σ, w, v', hm, hv, hr, Ext.refl _ _ _ _⟩
theorem VR.undef {σ : Sg} : VR σ undef undef := VR.mk ⟨#[], rfl, trivial⟩
theorem VR.cells {σ : Sg} {v v' : Value} (h : VR σ v v') : RL (VR σ) v.cells.toList v'.cells.toList := by
  have := h.out
  cases v with
  | agg xs => obtain ⟨xs', rfl, hl⟩ := this; exact hl
  | pointer a => cases a with
    | none => rw [this]; exact ⟨this ▸ h, trivial⟩
    | some a => obtain ⟨b, o, z, _, rfl⟩ := this; exact ⟨h, trivial⟩
  | slice a n c => cases a with
    | none => obtain ⟨_, _, rfl⟩ := this; exact ⟨h, trivial⟩
    | some a => obtain ⟨b, o, z, _, a', c', rfl, _⟩ := this; exact ⟨h, trivial⟩
  | map r => cases r with
    | none => rw [this]; exact ⟨this ▸ h, trivial⟩
    | some r => obtain ⟨b, o, z, _, rfl⟩ := this; exact ⟨h, trivial⟩
  | func fn xs ys => obtain ⟨_, _, rfl, _⟩ := this; exact ⟨h, trivial⟩
  | iface t x => obtain ⟨_, rfl, _⟩ := this; exact ⟨h, trivial⟩
  | tuple xs => obtain ⟨_, rfl, _⟩ := this; exact ⟨h, trivial⟩
  | bool a => rw [this]; exact ⟨this ▸ h, trivial⟩
  | int k n => rw [this]; exact ⟨this ▸ h, trivial⟩
  | string s => rw [this]; exact ⟨this ▸ h, trivial⟩
  | nilFunc => rw [this]; exact ⟨this ▸ h, trivial⟩
  | nilIface => rw [this]; exact ⟨this ▸ h, trivial⟩
  | float k b => exact this.elim
  | complex k a b => exact this.elim
  | chan r => exact this.elim
theorem VR.ptr {σ : Sg} {a : Addr} {v : Value} (h : VR σ (.pointer (some a)) v) : ∃ b o z, σ a.block (Addr.ver a) = some (b, o, z) ∧ v = .pointer (some ⟨b, o + a.off, none⟩) := h.out
theorem VR.ofPtr {σ : Sg} {a : Addr} {b o z : Nat} (h : σ a.block (Addr.ver a) = some (b, o, z)) : VR σ (.pointer (some a)) (.pointer (some ⟨b, o + a.off, none⟩)) := VR.mk ⟨b, o, z, h, rfl⟩
theorem VR.int {σ : Sg} {k : IntKind} {n : Int} {v : Value} (h : VR σ (.int k n) v) : v = .int k n := h.out
theorem VR.str {σ : Sg} {b : ByteArray} {v : Value} (h : VR σ (.string b) v) : v = .string b := h.out
theorem VR.bool {σ : Sg} {b : Bool} {v : Value} (h : VR σ (.bool b) v) : v = .bool b := h.out
theorem VR.ofInt {σ : Sg} (k : IntKind) (n : Int) : VR σ (.int k n) (.int k n) := VR.mk rfl
theorem VR.ofBool {σ : Sg} (b : Bool) : VR σ (.bool b) (.bool b) := VR.mk rfl
theorem VR.ofStr {σ : Sg} (b : ByteArray) : VR σ (.string b) (.string b) := VR.mk rfl
theorem VR.agg {σ : Sg} {xs : Array Value} {v : Value} (h : VR σ (.agg xs) v) : ∃ xs', v = .agg xs' ∧ RL (VR σ) xs.toList xs'.toList := h.out
theorem VR.ofAgg {σ : Sg} {xs ys : List Value} (h : RL (VR σ) xs ys) : VR σ (.agg xs.toArray) (.agg ys.toArray) := VR.mk ⟨ys.toArray, rfl, by simpa using h⟩
theorem VR.ofSlice {σ : Sg} {a : Addr} {b o z n c c' : Nat} (h : σ a.block (Addr.ver a) = some (b, o, z)) (h1 : n ≤ c) (h2 : c ≤ c') (h3 : c' ≤ maxLen) (h4 : Addr.ver a % 1024 = 0 → c' = c) (h5 : Addr.ver a % 1024 ≠ 0 → c' ≠ 0 → o + a.off + c' * (Addr.ver a % 1024 - 1) ≤ z) :
    VR σ (.slice (some a) n c) (.slice (some ⟨b, o + a.off, none⟩) n c') := VR.mk ⟨b, o, z, h, _, c', rfl, h1, h2, h3, fun _ => rfl, h4, h5⟩
theorem natOf_some {v : Value} {n : Nat} (h : natOf v = some n) : ∃ k, v = .int k (n : Int) := by
  unfold natOf at h
  split at h
  · rename_i k m
    simp at h
    subst h
    exact ⟨k, rfl⟩
  · simp at h
section
variable {P : Program} {Γ : Env} {σ : Sg} {V : Nat → Prop} {s s' : CS} {w : World}
theorem TIOk.size {t : TypeId} {i : TI} (h : TIOk P t i) : (P.info? t).map (·.size) = some i.size := by
  obtain ⟨j, z, h1, h2, _⟩ := h.info
  rw [h1]; simp [h2]
theorem run_isAgg' {t : TypeId} {i : TI} (h : TIOk P t i) (w : World) : (isAgg t).run P w = .ok (aggT i.desc) w := by
  unfold isAgg
  rw [Sem.run_bind, run_underlying h.und]
  simp only [Result.andThen_ok]
  cases i.desc <;> rfl
theorem run_sizeOf' {t : TypeId} {i : TI} (h : TIOk P t i) (w : World) : (sizeOf t).run P w = .ok i.size w := by
  obtain ⟨j, z, h1, h2, _⟩ := h.info
  simp [sizeOf, typeInfo, h1, h2]
theorem run_zero' {t : TypeId} {i : TI} (h : TIOk P t i) : ∃ z, z.cells.toList = i.zero ∧ shapeV i.desc z = true ∧ ∀ w, (zeroValue t).run P w = .ok z w := by
  obtain ⟨j, z, h1, _, _, h4, h5, h6⟩ := h.info
  exact ⟨z, h5, h6, fun w => by simp [zeroValue, typeInfo, h1, h4]⟩

theorem partC_part {i : TI} {t : TypeId} (hi : TIOk P t i) {cs : List Value} {xs : Array Value} {off : Nat} {v : Value} (h : partC i cs off = some v) (hl : RL (VR σ) cs xs.toList) : ∃ v', (part t xs off).run P w = .ok v' w ∧ VR σ v v' := by
  unfold partC at h
  unfold part
  simp only [Sem.run_bind, run_isAgg' hi, Result.andThen_ok]
  cases ha : aggT i.desc with
  | true =>
    rw [ha] at h
    simp only [cond_true] at h
    cases hc : cut cs off i.size with
    | none => rw [hc] at h; simp at h
    | some l =>
      rw [hc] at h
      simp only [Option.some.injEq] at h
      subst h
      unfold cut at hc
      dsimp only at hc
      cases hb : Nat.beq ((cs.drop off).take i.size).length i.size with
      | false => rw [hb] at hc; simp at hc
      | true =>
        rw [hb] at hc
        simp only [cond_true, Option.some.injEq] at hc
        subst hc
        refine ⟨.agg (xs.extract off (off + i.size)), by simp [run_sizeOf' hi], ?_⟩
        have : xs.extract off (off + i.size) = ((xs.toList.drop off).take i.size).toArray := by
          apply Array.toList_inj.1
          rw [Array.toList_extract, List.extract_eq_take_drop]
          simp
        rw [this]
        exact VR.ofAgg ((hl.drop off).take i.size)
  | false =>
    rw [ha] at h
    simp only [cond_false] at h
    obtain ⟨v', hv, hR⟩ := hl.at h
    refine ⟨v', ?_, hR⟩
    rw [Array.getElem?_toList] at hv
    simp [hv]

theorem loadVar_run (hE : EnvOk P Γ) (hr : Rel σ V s w) {t : TypeId} {i : TI} {a : Addr} {v : Value} (hi : Γ.ti.at t = some i) (h : s.loadVar i a = some (v, s')) (hV : Covers V s') {b o z : Nat} (hσ : σ a.block (Addr.ver a) = some (b, o, z)) :
    ∃ v', (loadVar t ⟨b, o + a.off, none⟩).run P w = .ok v' w ∧ VR σ v v' ∧ Rel σ V s' w ∧ Ext σ V s w σ s' w := by
  unfold CS.loadVar at h
  cases hq : s.readRow a with
  | none => rw [hq] at h; simp at h
  | some p =>
    obtain ⟨cs, s1⟩ := p
    rw [hq] at h
    simp only at h
    cases hp : partC i cs a.off with
    | none => rw [hp] at h; simp at h
    | some v1 =>
      rw [hp] at h
      simp only [Option.some.injEq, Prod.mk.injEq] at h
      obtain ⟨rfl, rfl⟩ := h
      have hrow := read_row hq hr hV hσ
      have hti := hE.ti _ _ hi
      suffices hs : ∃ v', (loadVar t ⟨b, o + a.off, none⟩).run P w = .ok v' w ∧ VR σ v1 v' by
        obtain ⟨v', h1, h2⟩ := hs
        exact ⟨v', h1, h2, read_rel hq hr, read_ext hq⟩
      unfold loadVar
      simp only [Sem.run_bind, run_isAgg' hti, Result.andThen_ok]
      unfold partC at hp
      cases ha : aggT i.desc with
      | true =>
        rw [ha] at hp
        simp only [cond_true] at hp
        cases hc : cut cs a.off i.size with
        | none => rw [hc] at hp; simp at hp
        | some l =>
          rw [hc] at hp
          simp only [Option.some.injEq] at hp
          subst hp
          obtain ⟨l', e1, e2, e3⟩ := hrow.part hc
          have := run_loadCells_list (P := P) w ⟨b, o + a.off, none⟩ l' (fun j v hj => by rw [Addr.add_lit]; exact e2 j v hj)
          rw [e1] at this
          exact ⟨.agg l'.toArray, by simp [Sem.run_bind, run_sizeOf' hti, this], VR.ofAgg e3⟩
      | false =>
        rw [ha] at hp
        simp only [cond_false] at hp
        obtain ⟨u', hu, hv⟩ := hrow.2.2.2 _ _ hp
        refine ⟨u', ?_, hv⟩
        simp [run_load, hu]
theorem loadVar_did (hE : EnvOk P Γ) (hr : Rel σ V s w) {t : TypeId} {i : TI} {a : Addr} {v : Value} (hi : Γ.ti.at t = some i) (h : s.loadVar i a = some (v, s')) (hV : Covers V s') {b o z : Nat} (hσ : σ a.block (Addr.ver a) = some (b, o, z)) :
    DidV σ V s w ((loadVar t ⟨b, o + a.off, none⟩).run P w) v s' := ⟨σ, w, loadVar_run hE hr hi h hV hσ⟩
end
end Go.Proofs.YtcmfoipnoejmlaaDoor
