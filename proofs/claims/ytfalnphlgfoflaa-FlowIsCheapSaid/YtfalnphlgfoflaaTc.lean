/- Trees: writing to a box, loading, storing, addresses, fields, building. No program in sight. -/
import Derived.Test.YtfalnphlgfoflaaTb
namespace Go.Proofs.Ytfalnphlgfoflaa
open Go Go.RowKit
set_option linter.unusedSimpArgs false
set_option linter.unusedVariables false
def spl (l : List T) (off : Nat) (xs : List T) : List T := l.take off ++ xs ++ l.drop (off + xs.length)
theorem spl_len {l xs : List T} {off : Nat} (h : off + xs.length ≤ l.length) : (spl l off xs).length = l.length := by
  unfold spl
  rw [List.length_append, List.length_append, List.length_take, List.length_drop]
  omega
section
variable {GL : List (Nat × List Value)} {A A' A2 : Nat → Prop} {β β' β2 : Bx} {S S' : TS} {s s' s2 : CS} {P : Program} {Γ : Env}
theorem write_top {s : CS} {g : Nat → Fam} (hs : s.obj = .inr g) {f u off : Nat} {vs cs : List Value} {rest : List (Nat × List Value)} (hg : g f = ⟨false, (u, cs) :: rest, none⟩) (hl : off + vs.length ≤ cs.length) (ho : vs.all oneC = true) :
    CS.write s (mkA f u off) vs = some { s with obj := .inr (fupd g f ⟨false, [(u, splice cs off vs)], none⟩), wr := ins s.lim s.wr f } := by
  obtain ⟨n, ob, lim, rd, wr⟩ := s
  simp only at hs
  subst hs
  unfold CS.write
  show (match (g f).ro, rowOf (g f).rows u with | false, some cs => _ | _, _ => none) = _
  rw [hg]
  simp only
  have : rowOf ((u, cs) :: rest) u = some cs := by unfold rowOf; rw [Nat.beq_refl]; rfl
  rw [this]
  simp only
  rw [ble_iff.2 (show (mkA f u off).off + vs.length ≤ cs.length from hl), ho, Bool.and_true, sel_true, objPut_inr]
  rfl
theorem TRel.write (h : TRel GL A β S s) {b N f u off : Nat} {z : Bool} {l xs : List T} {ys : List Value} (hS : S.box b = .cells z N l) (hb : β b = some (.live f u N)) (hx : VL A β (objAt s.obj) xs ys) (ho : ys.all oneC = true) (hN : off + xs.length ≤ N) :
    ∃ s', s.write (mkA f u off) ys = some s' ∧ TRel GL A β (S.set b (.cells z N (spl l off xs))) s' ∧ Stp A β s A β s' := by
  obtain ⟨hlN, hc⟩ := h.cells b z N l hS
  rcases hc with ⟨hc, _, _⟩ | ⟨f', u', cs, rest, hb', hz, hg, hv, h1⟩
  · rw [hb] at hc; simp at hc
  rw [hb] at hb'
  cases hb'
  have hlen := hv.len
  have hxl := hx.len
  obtain ⟨g, hin⟩ := h.inr
  have hg' : g f = ⟨false, (u, cs) :: rest, none⟩ := by rw [hin] at hg; exact hg
  have hw := write_top hin (off := off) (vs := ys) hg' (by omega) ho
  have hcan := write_can' h.inv hw
  have hd := h.dis f (own_live hb)
  have hold : ∀ k, k ≠ f → fupd g f ⟨false, [(u, splice cs off ys)], none⟩ k = g k := fun k hk => fupd_ne _ _ _ _ hk
  have hobj : ∀ k, objAt s.obj k = g k := fun k => by rw [hin]; rfl
  have hA : ∀ k, A k → fupd g f ⟨false, [(u, splice cs off ys)], none⟩ k = objAt s.obj k := fun k hk => by rw [hobj]; exact hold k fun hh => hd.2 (hh ▸ hk)
  have hoth : ∀ {b' : Nat} {l : Loc} {k : Nat}, β b' = some l → l.fam = some k → b' ≠ b → fupd g f ⟨false, [(u, splice cs off ys)], none⟩ k = objAt s.obj k := by
    intro b' l k hb2 hk hne
    rw [hobj]
    refine hold k fun hh => hne ?_
    subst hh
    exact h.inj b' b l _ k hb2 hb hk rfl
  refine ⟨_, hw, ⟨⟨_, rfl⟩, h.inv.next hcan, fun k hk => h.alt k hk, fun k hk => h.dis k hk, h.inj, h.next, fun b' z' N' l' hb2 => ?_, fun b' l' hb2 => ?_, fun x hx2 => ?_⟩, hcan, fun _ h => h, fun _ h => .inl h, fun _ h => .inl h, fun k hk hno => ?_, Bx.le_refl _, fun _ h => .inl h, fun x hx2 => ?_⟩
  · by_cases hbb : b' = b
    · subst hbb
      rw [TS.set_same] at hb2
      cases hb2
      refine ⟨by rw [spl_len (by omega)]; exact hlN, .inr ⟨f, u, splice cs off ys, [], hb, hz, fupd_same _ _ _, ?_, ?_⟩⟩
      · exact (hv.splice off hx).mono (fun _ h => h) hA (Bx.le_refl _)
      · unfold Go.Proofs.Ytfalnphlgfoflaa.splice
        rw [List.all_append, List.all_append, ho]
        simp only [Bool.and_true, Bool.and_eq_true, List.all_eq_true] at h1 ⊢
        exact ⟨fun x hx => h1 x (List.mem_of_mem_take hx), fun x hx => h1 x (List.mem_of_mem_drop hx)⟩
    · rw [TS.set_ne _ _ hbb] at hb2
      exact (h.cells b' z' N' l' hb2).mono (fun _ h => h) hA (Bx.le_refl _) rfl fun f' u' N2 hl => hoth hl rfl hbb
  · by_cases hbb : b' = b
    · subst hbb; rw [TS.set_same] at hb2; cases hb2
    · rw [TS.set_ne _ _ hbb] at hb2
      exact (h.maps b' l' hb2).mono (fun _ h => h) hA (Bx.le_refl _) rfl fun r hl => hoth hl rfl hbb
  · have := h.glob x hx2
    refine ⟨this.1, ?_⟩
    show rowOf (fupd g f _ x.1).rows _ = _
    rw [hA _ this.1]; exact this.2
  · show fupd g f _ k = _
    rw [hobj]
    exact hold k fun hh => hno (hh ▸ own_live hb)
  · rcases mem_ins hx2 with q | ⟨rfl, q⟩
    · exact .inl q
    · exact .inr ⟨q, own_live hb⟩
theorem TRel.look (h : TRel GL A β S s) {b N f u off : Nat} {z : Bool} {l : List T} (hS : S.box b = .cells z N l) (hb : β b = some (.live f u N)) :
    ∃ cs, s.readRow (mkA f u off) = some (cs, { s with rd := ins s.lim s.rd f }) ∧ VL A β (objAt s.obj) l cs ∧ cs.all oneC = true := by
  obtain ⟨hlN, hc⟩ := h.cells b z N l hS
  rcases hc with ⟨hc, _, _⟩ | ⟨f', u', cs, rest, hb', hz, hg, hv, h1⟩
  · rw [hb] at hc; simp at hc
  rw [hb] at hb'
  cases hb'
  refine ⟨cs, ?_, hv, h1⟩
  unfold CS.readRow
  rw [block_mk, ver_mk, hg]
  have : rowOf ((u, cs) :: rest) u = some cs := by unfold rowOf; rw [Nat.beq_refl]; rfl
  rw [show (⟨false, (u, cs) :: rest, none⟩ : Fam).rows = (u, cs) :: rest from rfl, this]
noncomputable def partT (i : TI) (l : List T) (off : Nat) : Option T := bif aggT i.desc then (bif Nat.ble (off + i.size) l.length then some (.agg ((l.drop off).take i.size)) else none) else l[off]?
theorem cut_ok {l : List Value} {off k : Nat} (h : off + k ≤ l.length) : cut l off k = some ((l.drop off).take k) := by
  unfold cut
  have : ((l.drop off).take k).length = k := by rw [List.length_take, List.length_drop]; omega
  simp only [this, Nat.beq_refl, cond_true]
theorem partT_ok {g : Nat → Fam} {i : TI} {l : List T} {cs : List Value} {off : Nat} {t : T} (hv : VL A β g l cs) (ht : partT i l off = some t) : ∃ v, partC i cs off = some v ∧ VT A β g t v := by
  unfold partT at ht
  unfold partC
  cases ha : aggT i.desc with
  | true =>
    rw [ha] at ht
    simp only [cond_true] at ht ⊢
    cases hb : Nat.ble (off + i.size) l.length with
    | false => rw [hb] at ht; simp at ht
    | true =>
      rw [hb] at ht
      simp only [cond_true, Option.some.injEq] at ht
      subst ht
      rw [cut_ok (by rw [← hv.len]; exact ble_iff.1 hb)]
      exact ⟨_, rfl, .agg ((hv.drop off).take i.size)⟩
  | false =>
    rw [ha] at ht
    simp only [cond_false] at ht ⊢
    exact hv.get ht
noncomputable def tLoad (Γ : Env) (S : TS) (t : TypeId) : T → Option T
  | .ptr b off N => match Γ.ti.at t, S.box b with
    | some i, .cells z N' l => bif Nat.beq N N' then partT i l off else none
    | _, _ => none
  | .cp l => match Γ.ti.at t with | some i => partT i l 0 | none => none
  | _ => none
theorem liveN {b f u N M : Nat} (h : TRel GL A β S s) {z : Bool} {l : List T} (hS : S.box b = .cells z M l) {x : Loc} (hb : β b = some x) (hx : (∀ f u, x ≠ .live f u M)) (hn : Loc.le (.live 0 0 M) x) : False := by
  obtain ⟨hlN, hc⟩ := h.cells b z M l hS
  rcases hc with ⟨hc, _, _⟩ | ⟨f', u', cs, rest, hb', hz, hg, hv, h1⟩
  · rw [hb] at hc
    cases hc
    simp [Loc.le] at hn
  · rw [hb] at hb'
    cases hb'
    exact hx _ _ rfl
theorem ptr_inv (h : TRel GL A β S s) {b off N : Nat} {z : Bool} {l : List T} {v : Value} (hS : S.box b = .cells z N l) (hv : VT A β (objAt s.obj) (.ptr b off N) v) : ∃ f u, v = .pointer (some (mkA f u off)) ∧ β b = some (.live f u N) := by
  cases hv with
  | ptr hb => exact ⟨_, _, rfl, hb⟩
  | ptrOld hb h1 h2 h3 => exact (liveN (f := 0) (u := 0) (N := 0) h hS hb h1 h2).elim
theorem arr_inv (h : TRel GL A β S s) {b e off len cap N : Nat} {z : Bool} {l : List T} {v : Value} (hS : S.box b = .cells z N l) (hv : VT A β (objAt s.obj) (.arr b e off len cap N) v) : (∃ f u, v = .slice (some (mkA f u off)) len cap ∧ β b = some (.live f u N) ∧ tagOk u e) ∨ (v = .slice none 0 0 ∧ β b = some .nil ∧ off = 0 ∧ len = 0 ∧ cap = 0 ∧ N = 0) := by
  cases hv with
  | arr hb ht => exact .inl ⟨_, _, rfl, hb, ht⟩
  | arrNil hb => exact .inr ⟨rfl, hb, rfl, rfl, rfl, rfl⟩
  | arrOld hb h1 h2 h3 => exact (liveN (f := 0) (u := 0) (N := 0) h hS hb h1 h2).elim
theorem tLoad_rd (h : TRel GL A β S s) {t : TypeId} {x r : T} {v : Value} (hx : VT A β (objAt s.obj) x v) (ht : tLoad Γ S t x = some r) :
    ∃ ad i w f, v = .pointer (some ad) ∧ Γ.ti.at t = some i ∧ (A f ∨ Own β f) ∧ s.loadVar i ad = some (w, { s with rd := ins s.lim s.rd f }) ∧ VT A β (objAt s.obj) r w := by
  unfold tLoad at ht
  split at ht
  · rename_i b off N
    split at ht
    · rename_i i z N' l hi hS
      cases hq : Nat.beq N N' with
      | false => rw [hq] at ht; simp at ht
      | true =>
        rw [hq] at ht
        have := Nat.eq_of_beq_eq_true hq
        subst this
        obtain ⟨f, u, rfl, hb⟩ := ptr_inv h hS hx
        obtain ⟨cs, h1, h2, h3⟩ := h.look (off := off) hS hb
        obtain ⟨w, h4, h5⟩ := partT_ok h2 ht
        refine ⟨_, i, w, f, rfl, hi, .inr (own_live hb), ?_, h5⟩
        unfold CS.loadVar
        simp only [h1, off_mk, h4]
    · simp at ht
  · rename_i l
    cases hx with
    | cp k1 k2 k3 k4 =>
      rename_i f u off cs cs0
      split at ht
      · rename_i i hi
        have hpc : ∀ w, partC i cs 0 = some w → partC i cs0 off = some w := by
          intro w hw
          unfold partC at hw ⊢
          cases ha : aggT i.desc with
          | true =>
            rw [ha] at hw
            simp only [cond_true] at hw ⊢
            unfold cut at hw ⊢
            cases hl : Nat.beq ((cs.drop 0).take i.size).length i.size with
            | false => simp only [hl, cond_false] at hw; simp at hw
            | true =>
              simp only [hl, cond_true] at hw
              have hl' := Nat.eq_of_beq_eq_true hl
              rw [List.drop_zero, List.length_take] at hl'
              have e1 : (cs0.drop off).take i.size = (cs.drop 0).take i.size := by
                rw [← k4, List.drop_zero, List.take_take, Nat.min_eq_left (by omega)]
              rw [e1]
              simp only [hl, cond_true]
              exact hw
          | false =>
            rw [ha] at hw
            simp only [cond_false] at hw ⊢
            rw [← k4] at hw
            rw [List.getElem?_take] at hw
            split at hw
            · rw [List.getElem?_drop] at hw; exact hw
            · simp at hw
        obtain ⟨w, h4, h5⟩ := partT_ok k3 ht
        refine ⟨_, i, w, f, rfl, hi, .inl k1, ?_, h5⟩
        unfold CS.loadVar CS.readRow
        simp only [block_mk, ver_mk, k2, off_mk, hpc _ h4]
      · simp at ht
  · simp at ht
theorem tLoad_ok (h : TRel GL A β S s) {t : TypeId} {x r : T} {v : Value} (hx : VT A β (objAt s.obj) x v) (ht : tLoad Γ S t x = some r) : Ok0 GL A β S s (opLoad Γ s t v) r := by
  obtain ⟨ad, i, w, f, rfl, h1, h2, h3, h4⟩ := tLoad_rd h hx ht
  have : opLoad Γ s t (.pointer (some ad)) = some (w, { s with rd := ins s.lim s.rd f }) := by
    unfold opLoad
    simp only [h1, h3]
  rw [this]
  exact Ok0.read h h2 h4
noncomputable def tStore (Γ : Env) (S : TS) (t : TypeId) (v : T) : T → Option TS
  | .ptr b off N => match Γ.ti.at t, S.box b with
    | some i, .cells z N' l => bif Nat.beq N N' && (Nat.beq v.cells.length i.size && (Nat.ble (off + v.cells.length) N && v.cells.all T.one)) then some (S.set b (.cells z N (spl l off v.cells))) else none
    | _, _ => none
  | _ => none
theorem one_ne_junk {v : T} (h : v.cells.all T.one = true) : v ≠ .junk := by rintro rfl; simp [T.cells, T.one] at h
theorem tStore_ok (h : TRel GL A β S s) {t : TypeId} {x y : T} {v w : Value} (hx : VT A β (objAt s.obj) x v) (hy : VT A β (objAt s.obj) y w) (ht : tStore Γ S t y x = some S') : Ok GL A β s (opStore Γ s t w.cells.toList v) .junk S' := by
  unfold tStore at ht
  split at ht
  · rename_i b off N
    split at ht
    · rename_i i z N' l hi hS
      cases hq : (Nat.beq N N' && (Nat.beq y.cells.length i.size && (Nat.ble (off + y.cells.length) N && y.cells.all T.one))) with
      | false => rw [hq] at ht; simp at ht
      | true =>
        rw [hq] at ht
        simp only [cond_true, Option.some.injEq] at ht
        subst ht
        simp only [Bool.and_eq_true] at hq
        obtain ⟨q1, q2, q3, q4⟩ := hq
        have := Nat.eq_of_beq_eq_true q1
        subst this
        obtain ⟨f, u, rfl, hb⟩ := ptr_inv h hS hx
        have hc := hy.cells (one_ne_junk q4)
        obtain ⟨s', h1, h2, h3⟩ := h.write (off := off) hS hb hc (hc.one q4) (ble_iff.1 q3)
        refine ⟨undef, s', A, β, ?_, h2, .junk _, h3⟩
        unfold opStore
        simp only [hi]
        rw [← hc.len, q2, cond_true, h1]
        rfl
    · simp at ht
  · simp at ht
noncomputable def zeroT : Value → Option T
  | .int k n => some (.int k n)
  | .bool b => some (.bool b)
  | .string b => some (.str b)
  | .pointer none => some .nilp
  | .slice none 0 0 => some .nils
  | .map none => some .nilm
  | .nilFunc => some .nilf
  | _ => none
noncomputable def zerosT : List Value → Option (List T)
  | [] => some []
  | v :: l => match zeroT v, zerosT l with | some t, some r => some (t :: r) | _, _ => none
theorem zeroT_ok {g : Nat → Fam} {v : Value} {t : T} (h : zeroT v = some t) : VT A β g t v ∧ t.one = true := by
  unfold zeroT at h
  split at h <;> first | (simp at h; done) | (cases h; exact ⟨by constructor, rfl⟩)
theorem zerosT_ok {g : Nat → Fam} : ∀ {l : List Value} {r : List T}, zerosT l = some r → VL A β g r l ∧ r.all T.one = true
  | [], r, h => by simp only [zerosT, Option.some.injEq] at h; subst h; exact ⟨.nil, rfl⟩
  | v :: l, r, h => by
    unfold zerosT at h
    split at h
    · rename_i t r' h1 h2
      cases h
      obtain ⟨a, b⟩ := zeroT_ok (A := A) (β := β) (g := g) h1
      obtain ⟨c, d⟩ := zerosT_ok h2
      exact ⟨.cons a c, by rw [List.all_cons, b, d]; rfl⟩
    · simp at h
noncomputable def tAlloc (Γ : Env) (S : TS) (e : TypeId) : Option (T × TS) :=
  match Γ.ti.at e with
  | some i => (match zerosT i.zero with | some l => some (.ptr S.n 0 l.length, S.add (.cells true l.length l)) | none => none)
  | none => none
theorem ok_ptr (h : TRel GL A β S s) {l : List T} {cs : List Value} (hv : VL A β (objAt s.obj) l cs) (h1 : l.all T.one = true) : Ok GL A β s (ptrC (s.newRow 0 cs)) (.ptr S.n 0 l.length) (S.add (.cells true l.length l)) := by
  obtain ⟨s', β', k1, k2, k3, k4⟩ := h.newBox 0 (by omega) hv (hv.one h1)
  exact ⟨_, s', A, β', by rw [k1]; rfl, k3, .ptr k2, k4⟩
theorem tAlloc_ok (h : TRel GL A β S s) {e : TypeId} {r : T} (ht : tAlloc Γ S e = some (r, S')) : Ok GL A β s (opAlloc Γ s e) r S' := by
  unfold tAlloc at ht
  split at ht
  · rename_i i hi
    split at ht
    · rename_i l hl
      cases ht
      obtain ⟨a, b⟩ := zerosT_ok hl
      have := ok_ptr h a b
      unfold opAlloc
      simp only [hi]
      exact this
    · simp at ht
  · simp at ht
noncomputable def tBox (S : TS) (x : T) : Option (T × TS) := bif x.cells.all T.one then some (.ptr S.n 0 x.cells.length, S.add (.cells true x.cells.length x.cells)) else none
theorem tBox_ok (h : TRel GL A β S s) {x r : T} {v : Value} (hx : VT A β (objAt s.obj) x v) (ht : tBox S x = some (r, S')) : Ok GL A β s (ptrC (s.newRow 0 v.cells.toList)) r S' := by
  unfold tBox at ht
  cases hq : x.cells.all T.one with
  | false => rw [hq] at ht; simp at ht
  | true =>
    rw [hq] at ht
    cases ht
    exact ok_ptr h (hx.cells (one_ne_junk hq)) hq
end
end Go.Proofs.Ytfalnphlgfoflaa
