/- The plain machine, fifth part: writing, growing, maps. No program in sight. -/
import Derived.Test.YtcmfoipnoejmlaaDoorCm4
namespace Go.Proofs.YtcmfoipnoejmlaaDoor
open Go Go.RowKit

theorem setCells_heap_other (b : Nat) : ∀ (vs : List Value) (o : Nat) (w : World) (k : Nat), k ≠ b → (w.setCells b o vs).heap[k]? = w.heap[k]?
  | [], _, _, _, _ => rfl
  | v :: r, o, w, k, h => by
    rw [World.setCells, setCells_heap_other b r (o + 1) _ k h]
    simp [World.setCell, Array.getElem?_modify, Ne.symm h]
theorem setCells_size (b : Nat) : ∀ (vs : List Value) (o : Nat) (w : World), (w.setCells b o vs).heap.size = w.heap.size
  | [], _, _ => rfl
  | v :: r, o, w => by rw [World.setCells, setCells_size b r (o + 1)]; simp [World.setCell]
theorem setCells_same (b : Nat) : ∀ (vs : List Value) (o : Nat) (w : World), Same w (w.setCells b o vs)
  | [], _, _ => Same.refl _
  | v :: r, o, w => by
    rw [World.setCells]
    exact Same.trans (b := w.setCell ⟨b, o, none⟩ v) ⟨rfl, rfl, rfl⟩ (setCells_same b r (o + 1) _)
theorem splice_length {cs vs : List Value} {off : Nat} (h : off + vs.length ≤ cs.length) : (splice cs off vs).length = cs.length := by
  unfold splice; simp; omega
theorem splice_at {cs vs : List Value} {off : Nat} (h : off + vs.length ≤ cs.length) (j : Nat) : (splice cs off vs)[j]? = if off ≤ j ∧ j < off + vs.length then vs[j - off]? else cs[j]? := by
  unfold splice
  rw [List.append_assoc]
  by_cases h1 : j < off
  · rw [List.getElem?_append_left (by simp; omega), if_neg (by omega), List.getElem?_take, if_pos h1]
  · rw [List.getElem?_append_right (by simp; omega)]
    simp only [List.length_take]
    rw [show j - min off cs.length = j - off by omega]
    by_cases h2 : j < off + vs.length
    · rw [if_pos ⟨by omega, h2⟩, List.getElem?_append_left (by omega)]
    · rw [if_neg (by omega), List.getElem?_append_right (by omega), List.getElem?_drop]
      congr 1
      omega
theorem oneC_eq (v : Value) : oneC v = v.oneCell' := by cases v <;> rfl
theorem VR.one {σ : Sg} {v v' : Value} (h : VR σ v v') (h1 : oneC v = true) : v'.oneCell' = true := by
  have := h.out
  cases v with
  | pointer a => cases a with
    | none => rw [this]; rfl
    | some a => obtain ⟨b, o, z, _, rfl⟩ := this; rfl
  | slice a n c => cases a with
    | none => obtain ⟨_, _, rfl⟩ := this; rfl
    | some a => obtain ⟨b, o, z, _, a', c', rfl, _⟩ := this; rfl
  | map r => cases r with
    | none => rw [this]; rfl
    | some r => obtain ⟨b, o, z, _, rfl⟩ := this; rfl
  | func fn xs ys => obtain ⟨_, _, rfl, _⟩ := this; rfl
  | iface t x => obtain ⟨_, rfl, _⟩ := this; rfl
  | agg xs => simp [oneC] at h1
  | tuple xs => simp [oneC] at h1
  | bool a => rw [this]; rfl
  | int k n => rw [this]; rfl
  | string s => rw [this]; rfl
  | nilFunc => rw [this]; rfl
  | nilIface => rw [this]; rfl
  | float k b => exact this.elim
  | complex k a b => exact this.elim
  | chan r => exact this.elim
theorem RL.one {σ : Sg} {l m : List Value} (h : RL (VR σ) l m) (h1 : l.all oneC = true) : ∀ v ∈ m, v.oneCell' = true := by
  intro v hv
  obtain ⟨i, hi⟩ := List.mem_iff_getElem?.1 hv
  have hlt : i < l.length := by rw [h.length]; exact (List.getElem?_eq_some_iff.1 hi).1
  obtain ⟨y, hy, hr⟩ := h.at (List.getElem?_eq_getElem hlt)
  rw [hi] at hy
  cases hy
  exact hr.one (by rw [List.all_eq_true] at h1; exact h1 _ (List.getElem_mem hlt))

theorem objAt_lt {t : Sto} {i : Nat} (h : (objAt t i).ro = false) : roomIn t i = true := by
  cases t with
  | inr g => rfl
  | inl t =>
  unfold objAt at h
  simp only at h
  rw [sel_eq] at h
  split at h
  · rename_i k; exact k
  · simp at h
theorem write_some {s s' : CS} {a : Addr} {vs : List Value} (h : s.write a vs = some s') :
    ∃ cs, (objAt s.obj a.block).ro = false ∧ rowOf (objAt s.obj a.block).rows (Addr.ver a) = some cs ∧ a.off + vs.length ≤ cs.length ∧ vs.all oneC = true ∧
      s' = { s with obj := objPut s.obj a.block ⟨false, [(Addr.ver a, splice cs a.off vs)], none⟩, wr := ins s.lim s.wr a.block } := by
  unfold CS.write at h
  cases hr : (objAt s.obj a.block).ro with
  | true => rw [hr] at h; simp at h
  | false =>
    rw [hr] at h
    cases hc : rowOf (objAt s.obj a.block).rows (Addr.ver a) with
    | none => rw [hc] at h; simp at h
    | some cs =>
      rw [hc] at h
      simp only at h
      rw [sel_eq] at h
      split at h
      · rename_i hb
        rw [Bool.and_eq_true] at hb
        simp at h
        exact ⟨cs, rfl, rfl, ble_iff.1 hb.1, hb.2, h.symm⟩
      · simp at h
/-- one family is set anew -/
theorem put_can {s s' : CS} {f : Nat} {x : Fam} (hro : (objAt s.obj f).ro = false) (hx : x.ro = false) (hn : f < s.n) (m : Nat) (hm : s.n ≤ m) (hxv : (∀ f p, p ∈ (objAt s.obj f).rows → p.1 / 1024 < s.n) → ∀ p, p ∈ x.rows → p.1 / 1024 < m) (hs : s' = { s with n := m, obj := objPut s.obj f x, wr := ins s.lim s.wr f }) : Can s s' := by
  have hlt := objAt_lt hro
  subst hs
  refine ⟨hm, rfl, fun _ h => h, fun _ h => ins_mem h, ?_, ?_, ?_, ?_, fun h g hg => (mem_ins hg).elim (h g) (fun k => k.2)⟩
  · intro g hg hl hw
    have : g ≠ f := by
      rintro rfl
      rcases ins_self (lim := s.lim) (l := s.wr) (n := g) with h | h
      · exact hw h
      · omega
    exact objAt_put_other _ hlt (Ne.symm this)
  · intro g hg
    show (objAt (objPut s.obj f x) g).ro = _
    by_cases h : f = g
    · subst h; rw [objAt_put_same _ hlt, hx, hro]
    · rw [objAt_put_other _ hlt h]
  · intro h g hg
    show objAt (objPut s.obj f x) g = famNone
    have : m ≤ g := hg
    rw [objAt_put_other _ hlt (by omega)]
    exact h g (by omega)
  · intro h g p hp
    show p.1 / 1024 < m
    have hp' : p ∈ (objAt (objPut s.obj f x) g).rows := hp
    by_cases hfg : f = g
    · subst hfg; rw [objAt_put_same _ hlt] at hp'; exact hxv h p hp'
    · rw [objAt_put_other _ hlt hfg] at hp'
      have := h g p hp'
      omega
theorem fam_lt {σ : Sg} {V : Nat → Prop} {s : CS} {w : World} (hr : Rel σ V s w) {f : Nat} (h : (objAt s.obj f).ro = false) : f < s.n := by
  by_cases hn : f < s.n
  · exact hn
  · rw [hr.none f (by omega)] at h; simp [famNone] at h
theorem write_can {σ : Sg} {V : Nat → Prop} {w : World} {s s' : CS} {a : Addr} {vs : List Value} (hr : Rel σ V s w) (h : s.write a vs = some s') : Can s s' := by
  obtain ⟨cs, h1, h2, h3, _, h4⟩ := write_some h
  exact put_can (x := ⟨false, [(Addr.ver a, splice cs a.off vs)], none⟩) h1 rfl (fam_lt hr h1) s.n (Nat.le_refl _) (fun hv p hp => by simp at hp; subst hp; have := hv _ _ (rowOf_mem h2); exact this) (by rw [h4])
theorem rd_covers {V : Nat → Prop} {s s' : CS} (hV : Covers V s') {f : Nat} (h : ins s.lim s.wr f = s'.wr) (hl : s'.lim = s.lim) : V f := by
  refine hV f ?_
  rcases ins_self (lim := s.lim) (l := s.wr) (n := f) with k | k
  · exact .inr (.inl (by rw [← h]; exact k))
  · exact .inr (.inr (by rw [hl]; exact k))
/-- one family is set anew, over one block of the model -/
theorem put_rel {σ σ' : Sg} {V : Nat → Prop} {s : CS} {w w' : World} {f : Nat} {x : Fam} {m : Nat} (wr : List Nat) (hr : Rel σ V s w) (hro : (objAt s.obj f).ro = false) (hm : s.n ≤ m)
    (hle : Sg.le σ σ') (hinj : ∀ g u b o z g' u' o' z', σ' g u = some (b, o, z) → σ' g' u' = some (b, o', z') → g = g') (hlt : ∀ g u b o z, σ' g u = some (b, o, z) → b < w'.heap.size)
    (hsame : ∀ g u, g ≠ f → σ' g u = σ g u) (hblk : ∀ g u b o z, g ≠ f → σ g u = some (b, o, z) → w'.heap[b]? = w.heap[b]?) (hx : FamAt σ' w' f x) (hxv : ∀ p, p ∈ x.rows → p.1 / 1024 < m) :
    Rel σ' V { s with n := m, obj := objPut s.obj f x, wr := wr } w' := by
  have hf := objAt_lt hro
  refine ⟨hinj, hlt, ?_, ?_, ?_⟩
  · intro g hg
    show FamAt σ' w' g (objAt (objPut s.obj f x) g)
    by_cases h : f = g
    · subst h; rw [objAt_put_same _ hf]; exact hx
    · rw [objAt_put_other _ hf h]
      exact (hr.fam g hg).move hle (fun u _ => hsame g u (Ne.symm h)) (fun u b o z k => hblk g u b o z (Ne.symm h) k)
  · intro g hg
    show objAt (objPut s.obj f x) g = famNone
    have h1 : m ≤ g := hg
    have h2 := fam_lt hr hro
    rw [objAt_put_other _ hf (by omega)]
    exact hr.none g (by omega)
  · intro g p hp
    show p.1 / 1024 < m
    have hp' : p ∈ (objAt (objPut s.obj f x) g).rows := hp
    by_cases h : f = g
    · subst h; rw [objAt_put_same _ hf] at hp'; exact hxv p hp'
    · rw [objAt_put_other _ hf h] at hp'
      have := hr.vers g p hp'
      omega

theorem setCells_fr (b : Nat) : ∀ (vs : List Value) (o : Nat) (w : World) (c : Array Value) (e : TypeId) (fr : Nat × Nat), (w.setCells b o vs).heap[b]? = some (.cells c e fr) → ∃ c', w.heap[b]? = some (.cells c' e fr)
  | [], _, w, c, e, fr, h => ⟨c, h⟩
  | v :: r, o, w, c, e, fr, h => by
    obtain ⟨c1, h1⟩ := setCells_fr b r _ _ c e fr h
    unfold World.setCell at h1
    simp only [Array.getElem?_modify, if_true] at h1
    cases hx : w.heap[b]? with
    | none => rw [hx] at h1; simp at h1
    | some x =>
      rw [hx] at h1
      cases x with
      | cells c2 e2 fr2 =>
        simp only [Option.map_some, Option.some.injEq, Obj.cells.injEq] at h1
        exact ⟨c2, by rw [h1.2.1, h1.2.2]⟩
      | _ => simp at h1
theorem Up.set {w : World} {b o : Nat} {vs : List Value} (h : Up w b) : Up (w.setCells b o vs) b := fun c e lo hi k => let ⟨c', k'⟩ := setCells_fr b vs o w c e (lo, hi) k; h c' e lo hi k'
/-- cells are written -/
theorem write_rel {σ : Sg} {V : Nat → Prop} {s s' : CS} {w : World} {a : Addr} {vs vs' : List Value} (h : s.write a vs = some s') (hr : Rel σ V s w) (hV : Covers V s') {b o z : Nat} (hσ : σ a.block (Addr.ver a) = some (b, o, z)) (hl : RL (VR σ) vs vs') :
    let w' := w.setCells b (o + a.off) vs'
    (∀ j, j < vs'.length → (w.cell? ⟨b, o + a.off + j, none⟩).isSome = true) ∧ (∀ j, j < vs'.length → w.frozen? ⟨b, o + a.off + j, none⟩ = false) ∧ (∀ v ∈ vs', v.oneCell' = true) ∧ Rel σ V s' w' ∧ Ext σ V s w σ s' w' := by
  obtain ⟨cs, h1, h2, h3, h5, rfl⟩ := write_some h
  intro w'
  have hVf : V a.block := rd_covers hV rfl rfl
  obtain ⟨r1, r2, r3, r4⟩ := (hr.fam _ hVf).rows _ (rowOf_mem h2) b o z hσ
  simp only at r1 r4
  have r3' := r3 h1
  have hlen := hl.length
  have hcell : ∀ j, j < vs'.length → (w.cell? ⟨b, o + a.off + j, none⟩).isSome = true := fun j hj => r2 _ (by omega)
  have hw' : ∀ k, k ≠ b → w'.heap[k]? = w.heap[k]? := fun k hk => setCells_heap_other b _ _ _ k hk
  have hone : ∀ g u b' o' z', g ≠ a.block → σ g u = some (b', o', z') → b' ≠ b := by
    rintro g u b' o' z' hg hk rfl
    exact hg (hr.inj _ _ _ _ _ _ _ _ _ hk hσ)
  refine ⟨hcell, fun j hj => r3'.1 _ (by omega), hl.one h5, ?_, ?_⟩
  · refine put_rel _ hr h1 (Nat.le_refl _) (fun _ _ _ h => h) hr.inj (fun g u b' o' z' k => by rw [setCells_size]; exact hr.lt _ _ _ _ _ k) (fun _ _ _ => rfl) (fun g u b' o' z' hg k => hw' b' (hone g u b' o' z' hg k)) ?_ ?_
    · refine ⟨?_, fun _ => ⟨fun p hp => by simp at hp, trivial⟩, fun es he => by simp at he⟩
      intro p hp b' o' z' hk
      simp at hp
      subst hp
      rw [hσ] at hk
      cases hk
      refine ⟨by simp only; rw [splice_length h3]; exact r1, ?_, ?_, ?_⟩
      · intro j hj
        by_cases hin : o + a.off ≤ j ∧ j < o + a.off + vs'.length
        · have := World.cell?_setCells_in b vs' (o + a.off) w hcell (j - (o + a.off)) (by omega)
          rw [show o + a.off + (j - (o + a.off)) = j by omega] at this
          rw [this]; rfl
        · rw [World.cell?_setCells_out b vs' (o + a.off) w ⟨b, j, none⟩ (fun _ _ => by simp only; omega)]
          exact r2 j hj
      · intro _
        refine ⟨fun j hj => ?_, r3'.2.set⟩
        rw [World.frozen?_setCells]
        exact r3'.1 j hj
      · intro j u hj
        simp only at hj
        rw [splice_at h3] at hj
        split at hj
        · rename_i hin
          obtain ⟨u', hu, hv⟩ := hl.at hj
          have hlt := (List.getElem?_eq_some_iff.1 hu).1
          have := World.cell?_setCells_in b vs' (o + a.off) w hcell (j - a.off) hlt
          refine ⟨u', ?_, hv⟩
          rw [show o + j = o + a.off + (j - a.off) by omega, this]
          rw [List.getElem?_eq_getElem hlt] at hu
          exact hu
        · rename_i hout
          obtain ⟨u', hu, hv⟩ := r4 j u hj
          refine ⟨u', ?_, hv⟩
          rw [World.cell?_setCells_out b vs' (o + a.off) w ⟨b, o + j, none⟩ (fun _ _ => by simp only; omega)]
          exact hu
    · intro p hp
      simp at hp
      subst hp
      have := hr.vers _ _ (rowOf_mem h2)
      exact this
  · refine ⟨fun _ _ _ h => h, fun _ _ h k => absurd h k, fun _ _ _ _ _ h k => by rw [h] at k; simp at k, by rw [setCells_size]; exact Nat.le_refl _, ?_, setCells_same b _ _ _⟩
    intro k hk hq
    refine hw' k ?_
    rintro rfl
    rcases hq _ _ _ _ hσ with h | h
    · exact h hVf
    · rw [h1] at h; simp at h

theorem dropTo_spec : ∀ {l : List (Nat × List Value)} {u : Nat} {cs : List Value}, rowOf l u = some cs → ∃ r, dropTo l u = (u, cs) :: r ∧ (∀ p, p ∈ dropTo l u → p ∈ l) ∧ (∀ σ f, Desc σ f l → Desc σ f (dropTo l u))
  | (v, c) :: l, u, cs, h => by
    simp only [rowOf] at h
    cases hb : Nat.beq v u with
    | true =>
      rw [hb] at h
      simp only [cond_true, Option.some.injEq] at h
      have := Nat.eq_of_beq_eq_true hb
      subst this; subst h
      have hd : dropTo ((v, c) :: l) v = (v, c) :: l := by simp only [dropTo, hb, cond_true]
      rw [hd]
      exact ⟨l, rfl, fun p hp => hp, fun σ f k => k⟩
    | false =>
      rw [hb] at h
      obtain ⟨r, h1, h2, h3⟩ := dropTo_spec (l := l) h
      have hd : dropTo ((v, c) :: l) u = dropTo l u := by simp only [dropTo, hb, cond_false]
      rw [hd]
      exact ⟨r, h1, fun p hp => List.mem_cons_of_mem _ (h2 p hp), fun σ f k => h3 σ f k.2⟩
theorem grow_some {s s' : CS} {a : Addr} {tag stop need : Nat} {cells : List Value} {v : Value} (h : s.grow a tag stop need cells = some (v, s')) :
    ∃ cs, (objAt s.obj a.block).ro = false ∧ rowOf (objAt s.obj a.block).rows (Addr.ver a) = some cs ∧ stop = cs.length ∧ v = .slice (some (mkA a.block (s.n * 1024 + tag) 0)) need need ∧
      s' = { s with n := s.n + 1, obj := objPut s.obj a.block ⟨false, (s.n * 1024 + tag, cells) :: dropTo (objAt s.obj a.block).rows (Addr.ver a), none⟩, wr := ins s.lim s.wr a.block } := by
  unfold CS.grow at h
  cases hr : (objAt s.obj a.block).ro with
  | true => rw [hr] at h; simp at h
  | false =>
    rw [hr] at h
    cases hc : rowOf (objAt s.obj a.block).rows (Addr.ver a) with
    | none => rw [hc] at h; simp at h
    | some cs =>
      rw [hc] at h
      simp only at h
      rw [sel_eq] at h
      split at h
      · rename_i hb
        simp at h
        exact ⟨cs, rfl, rfl, Nat.eq_of_beq_eq_true hb, h.1.symm, h.2.symm⟩
      · simp at h
theorem grow_can {σ : Sg} {V : Nat → Prop} {w : World} {s s' : CS} {a : Addr} {tag stop need : Nat} {cells : List Value} {v : Value} (hr : Rel σ V s w) (ht : tag < 1024) (h : s.grow a tag stop need cells = some (v, s')) : Can s s' := by
  obtain ⟨cs, h1, h2, _, _, h4⟩ := grow_some h
  obtain ⟨_, _, d2, _⟩ := dropTo_spec h2
  exact put_can (x := ⟨false, (s.n * 1024 + tag, cells) :: dropTo (objAt s.obj a.block).rows (Addr.ver a), none⟩) h1 rfl (fam_lt hr h1) (s.n + 1) (by omega) (fun hv p hp => by
    rcases List.mem_cons.1 hp with rfl | hp
    · simp only; omega
    · have := hv _ p (d2 p hp); omega) (by rw [h4])

/-- the model finds room behind the row -/
theorem grow_in {σ : Sg} {V : Nat → Prop} {s s' : CS} {w : World} {a : Addr} {tag need : Nat} {cs old new new' : List Value} {v : Value} (h : s.grow a tag cs.length need (old ++ new) = some (v, s')) (hr : Rel σ V s w) (hV : Covers V s') (hF : Fresh σ s.n s'.n) (ht : tag < 1024)
    {b o z : Nat} (hσ : σ a.block (Addr.ver a) = some (b, o, z)) (hc : rowOf (objAt s.obj a.block).rows (Addr.ver a) = some cs) (hold : old = cs.drop a.off) (hoff : a.off ≤ cs.length) (hl : RL (VR σ) new new') (h5 : new.all oneC = true) (hz : o + cs.length + new.length ≤ z) :
    let w' := w.setCells b (o + cs.length) new'
    let σ' := σ.add a.block (s.n * 1024 + tag) (b, o + a.off, z)
    v = .slice (some (mkA a.block (s.n * 1024 + tag) 0)) need need ∧
    (∀ j, j < new'.length → (w.cell? ⟨b, o + cs.length + j, none⟩).isSome = true) ∧ (∀ j, j < new'.length → w.frozen? ⟨b, o + cs.length + j, none⟩ = false) ∧ (∀ v ∈ new', v.oneCell' = true) ∧ Rel σ' V s' w' ∧ Ext σ V s w σ' s' w' ∧
    σ' a.block (s.n * 1024 + tag) = some (b, o + a.off, z) := by
  obtain ⟨cs0, h1, h2, _, rfl, rfl⟩ := grow_some h
  rw [hc] at h2
  cases h2
  intro w' σ'
  have hVf : V a.block := rd_covers hV rfl rfl
  have hF0 : ∀ f, σ f (s.n * 1024 + tag) = none := fun f => hF f _ (.inr (by simp only; omega))
  have hfam := hr.fam _ hVf
  obtain ⟨r1, r2, r3, r4⟩ := hfam.rows _ (rowOf_mem hc) b o z hσ
  simp only at r1 r4
  have r3' := r3 h1
  have hlen := hl.length
  have hcell : ∀ j, j < new'.length → (w.cell? ⟨b, o + cs.length + j, none⟩).isSome = true := fun j hj => r2 _ (by omega)
  have hw' : ∀ k, k ≠ b → w'.heap[k]? = w.heap[k]? := fun k hk => setCells_heap_other b _ _ _ k hk
  have hle : Sg.le σ σ' := Sg.le_add (hF0 _)
  have hcase : ∀ f u p, σ' f u = some p → (f = a.block ∧ u = s.n * 1024 + tag ∧ p = (b, o + a.off, z)) ∨ σ f u = some p := by
    intro f u p k
    by_cases hq : f = a.block ∧ u = s.n * 1024 + tag
    · obtain ⟨rfl, rfl⟩ := hq
      have k' : σ.add a.block (s.n * 1024 + tag) (b, o + a.off, z) a.block (s.n * 1024 + tag) = some p := k
      rw [Sg.add_same] at k'
      cases k'
      exact .inl ⟨rfl, rfl, rfl⟩
    · have k' : σ.add a.block (s.n * 1024 + tag) (b, o + a.off, z) f u = some p := k
      rw [Sg.add_other _ _ hq] at k'
      exact .inr k'
  obtain ⟨rest, d1, d2, d3⟩ := dropTo_spec hc
  have hdesc := d3 σ a.block (hfam.desc h1)
  -- an older version over the same block ends before what is written
  have hend : ∀ p, p ∈ dropTo (objAt s.obj a.block).rows (Addr.ver a) → ∀ o' z', σ a.block p.1 = some (b, o', z') → o' + p.2.length ≤ o + cs.length := by
    intro p hp o' z' hk
    rw [d1] at hp hdesc
    rcases List.mem_cons.1 hp with rfl | hp
    · rw [hσ] at hk
      cases hk
      exact Nat.le_refl _
    · exact hdesc.1 p hp b o z o' z' hσ hk
  have hout : ∀ j, j < o + cs.length → w'.cell? ⟨b, j, none⟩ = w.cell? ⟨b, j, none⟩ := fun j hj => World.cell?_setCells_out b new' (o + cs.length) w ⟨b, j, none⟩ (fun _ _ => by simp only; omega)
  have hsome : ∀ j, j < z → (w'.cell? ⟨b, j, none⟩).isSome = true := by
    intro j hj
    by_cases hin : o + cs.length ≤ j ∧ j < o + cs.length + new'.length
    · have := World.cell?_setCells_in b new' (o + cs.length) w hcell (j - (o + cs.length)) (by omega)
      rw [show o + cs.length + (j - (o + cs.length)) = j by omega] at this
      show ((w.setCells b (o + cs.length) new').cell? _).isSome = true
      rw [this]; rfl
    · show ((w.setCells b (o + cs.length) new').cell? _).isSome = true
      rw [World.cell?_setCells_out b new' (o + cs.length) w ⟨b, j, none⟩ (fun _ _ => by simp only; omega)]
      exact r2 j hj
  have hfz : ∀ j, w'.frozen? ⟨b, j, none⟩ = w.frozen? ⟨b, j, none⟩ := fun j => World.frozen?_setCells b _ _ _ _
  have hvne : ∀ p, p ∈ dropTo (objAt s.obj a.block).rows (Addr.ver a) → p.1 ≠ s.n * 1024 + tag := by
    intro p hp hq
    have := hr.vers _ p (d2 p hp)
    omega
  refine ⟨rfl, hcell, fun j hj => r3'.1 _ (by omega), hl.one h5, ?_, ?_, Sg.add_same _ _ _ _⟩
  · refine put_rel _ hr h1 (by omega) hle ?_ ?_ (fun g u hg => Sg.add_other _ _ (fun k => hg k.1)) (fun g u b' o' z' hg k => hw' b' ?_) ?_ ?_
    · intro g u b' o' z' g' u' o'' z'' k1 k2
      rcases hcase _ _ _ k1 with ⟨rfl, rfl, e1⟩ | k1 <;> rcases hcase _ _ _ k2 with ⟨e2, e3, e4⟩ | k2
      · exact e2.symm
      · cases e1; exact hr.inj _ _ _ _ _ _ _ _ _ hσ k2
      · cases e4; rw [e2]; exact hr.inj _ _ _ _ _ _ _ _ _ k1 hσ
      · exact hr.inj _ _ _ _ _ _ _ _ _ k1 k2
    · intro g u b' o' z' k
      rw [setCells_size]
      rcases hcase _ _ _ k with ⟨_, _, e⟩ | k
      · cases e; exact hr.lt _ _ _ _ _ hσ
      · exact hr.lt _ _ _ _ _ k
    · rintro rfl
      exact hg (hr.inj _ _ _ _ _ _ _ _ _ k hσ)
    · refine ⟨?_, fun _ => ⟨?_, hdesc.move fun p hp => Sg.add_other _ _ (fun k => hvne p hp k.2)⟩, fun es he => by simp at he⟩
      · intro p hp b' o' z' hk
        rcases List.mem_cons.1 hp with rfl | hp
        · have hk' : σ.add a.block (s.n * 1024 + tag) (b, o + a.off, z) a.block (s.n * 1024 + tag) = some (b', o', z') := hk
          rw [Sg.add_same] at hk'
          cases hk'
          refine ⟨by simp only [hold, List.length_append, List.length_drop]; omega, hsome, fun _ => ⟨fun j hj => by rw [hfz]; exact r3'.1 j hj, r3'.2.set⟩, ?_⟩
          intro j u hj
          simp only [hold] at hj
          by_cases hlt : j < cs.length - a.off
          · rw [List.getElem?_append_left (by simp; omega), List.getElem?_drop] at hj
            obtain ⟨u', hu, hv⟩ := r4 _ _ hj
            refine ⟨u', ?_, hv.mono hle⟩
            rw [hout _ (by omega), show o + a.off + j = o + (a.off + j) by omega]
            exact hu
          · rw [List.getElem?_append_right (by simp; omega)] at hj
            simp only [List.length_drop] at hj
            obtain ⟨u', hu, hv⟩ := hl.at hj
            have hlt2 := (List.getElem?_eq_some_iff.1 hu).1
            have := World.cell?_setCells_in b new' (o + cs.length) w hcell (j - (cs.length - a.off)) hlt2
            refine ⟨u', ?_, hv.mono hle⟩
            rw [show o + a.off + j = o + cs.length + (j - (cs.length - a.off)) by omega]
            show (w.setCells b (o + cs.length) new').cell? _ = _
            rw [this]
            rw [List.getElem?_eq_getElem hlt2] at hu
            exact hu
        · have hk' : σ a.block p.1 = some (b', o', z') := by
            rw [← hk]
            exact (Sg.add_other _ _ (fun k => hvne p hp k.2)).symm
          have old := hfam.rows p (d2 p hp) b' o' z' hk'
          by_cases hbb : b' = b
          · subst hbb
            obtain ⟨q1, q2, q3, q4⟩ := old
            have he := hend p hp o' z' hk'
            have hzz : ∀ j, j < z' → (w'.cell? ⟨b', j, none⟩).isSome = true := by
              intro j hj
              by_cases hin : o + cs.length ≤ j ∧ j < o + cs.length + new'.length
              · exact hsome j (by omega)
              · show ((w.setCells b' (o + cs.length) new').cell? _).isSome = true
                rw [World.cell?_setCells_out b' new' (o + cs.length) w ⟨b', j, none⟩ (fun _ _ => by simp only; omega)]
                exact q2 j hj
            refine ⟨q1, hzz, fun hr0 => ⟨fun j hj => by rw [hfz]; exact (q3 h1).1 j hj, (q3 h1).2.set⟩, ?_⟩
            intro j u hj
            obtain ⟨u', hu, hv⟩ := q4 j u hj
            have hlt := (List.getElem?_eq_some_iff.1 hj).1
            exact ⟨u', by rw [hout _ (by omega)]; exact hu, hv.mono hle⟩
          · have := (old.up hle).keep (hw' b' hbb)
            rw [h1] at this
            exact this
      · intro p hp b' o' z' o'' z'' k1 k2
        simp only at k1
        have k1' : σ.add a.block (s.n * 1024 + tag) (b, o + a.off, z) a.block (s.n * 1024 + tag) = some (b', o', z') := k1
        rw [Sg.add_same] at k1'
        cases k1'
        have k2' : σ a.block p.1 = some (b, o'', z'') := by
          rw [← k2]
          exact (Sg.add_other _ _ (fun k => hvne p hp k.2)).symm
        have := hend p hp o'' z'' k2'
        simp only [hold, List.length_append, List.length_drop]
        omega
    · intro p hp
      rcases List.mem_cons.1 hp with rfl | hp
      · simp only; omega
      · have := hr.vers _ p (d2 p hp); omega
  · refine ⟨hle, ?_, ?_, by rw [setCells_size]; exact Nat.le_refl _, ?_, setCells_same b _ _ _⟩
    · intro f u h0 hne
      by_cases hq : f = a.block ∧ u = s.n * 1024 + tag
      · obtain ⟨rfl, rfl⟩ := hq
        have := fam_lt hr h1
        exact ⟨by omega, by simp only; omega, by simp only; omega, .inr hVf⟩
      · exfalso
        apply hne
        show σ.add a.block (s.n * 1024 + tag) (b, o + a.off, z) f u = none
        rw [Sg.add_other _ _ hq]
        exact h0
    · intro f u b' o' z' h0 hs hb'
      rcases hcase _ _ _ hs with ⟨rfl, rfl, e⟩ | k
      · cases e
        exact ⟨_, _, _, hσ, hVf, h1⟩
      · rw [h0] at k; simp at k
    · intro k hk hq
      refine hw' k ?_
      rintro rfl
      rcases hq _ _ _ _ hσ with h | h
      · exact h hVf
      · rw [h1] at h; simp at h
end Go.Proofs.YtcmfoipnoejmlaaDoor
