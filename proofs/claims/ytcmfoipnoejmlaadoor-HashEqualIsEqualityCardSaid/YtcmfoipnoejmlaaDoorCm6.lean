/- The plain machine, sixth part: growing into a new row; maps. No program in sight. -/
import Derived.Test.YtcmfoipnoejmlaaDoorCm5
namespace Go.Proofs.YtcmfoipnoejmlaaDoor
open Go Go.RowKit

/-- the model makes a new row: the old cells, the new ones, and whatever lies behind them -/
theorem grow_out {σ : Sg} {V : Nat → Prop} {s s' : CS} {w w0 : World} {a : Addr} {tag stop need : Nat} {cells : List Value} {v : Value} (h : s.grow a tag stop need cells = some (v, s')) (hr : Rel σ V s w) (hV : Covers V s') (hF : Fresh σ s.n s'.n) (ht : tag < 1024)
    (hw00 : w0.heap = w.heap ∧ Same w w0) (c : Array Value) (e : TypeId) (cs' more : List Value) (hc : c.toList = cs' ++ more) (hl : RL (VR σ) cells cs') :
    let σ' := σ.add a.block (s.n * 1024 + tag) (w.heap.size, 0, c.size)
    v = .slice (some (mkA a.block (s.n * 1024 + tag) 0)) need need ∧ Rel σ' V s' (w0.alloc (.cells c e (0, 0))) ∧ Ext σ V s w σ' s' (w0.alloc (.cells c e (0, 0))) ∧ σ' a.block (s.n * 1024 + tag) = some (w.heap.size, 0, c.size) := by
  obtain ⟨cs, h1, h2, _, rfl, rfl⟩ := grow_some h
  obtain ⟨hw0, hst⟩ := hw00
  intro σ'
  have hVf : V a.block := rd_covers hV rfl rfl
  have hF0 : ∀ f, σ f (s.n * 1024 + tag) = none := fun f => hF f _ (.inr (by simp only; omega))
  have hfam := hr.fam _ hVf
  have hsz : w0.heap.size = w.heap.size := by rw [hw0]
  have hle : Sg.le σ σ' := Sg.le_add (hF0 _)
  have hkeep : ∀ k, k < w.heap.size → (w0.alloc (.cells c e (0, 0))).heap[k]? = w.heap[k]? := fun k hk => by rw [alloc_keep w0 _ k (by omega), hw0]
  have hcase : ∀ f u b o z, σ' f u = some (b, o, z) → (f = a.block ∧ u = s.n * 1024 + tag ∧ b = w.heap.size ∧ o = 0 ∧ z = c.size) ∨ (σ f u = some (b, o, z) ∧ b < w.heap.size) := by
    intro f u b o z k
    by_cases hq : f = a.block ∧ u = s.n * 1024 + tag
    · obtain ⟨rfl, rfl⟩ := hq
      have k' : σ.add a.block (s.n * 1024 + tag) (w.heap.size, 0, c.size) a.block (s.n * 1024 + tag) = some (b, o, z) := k
      rw [Sg.add_same] at k'
      cases k'
      exact .inl ⟨rfl, rfl, rfl, rfl, rfl⟩
    · have k' : σ.add a.block (s.n * 1024 + tag) (w.heap.size, 0, c.size) f u = some (b, o, z) := k
      rw [Sg.add_other _ _ hq] at k'
      exact .inr ⟨k', hr.lt _ _ _ _ _ k'⟩
  obtain ⟨rest, d1, d2, d3⟩ := dropTo_spec h2
  have hdesc := d3 σ a.block (hfam.desc h1)
  have hvne : ∀ p, p ∈ dropTo (objAt s.obj a.block).rows (Addr.ver a) → p.1 ≠ s.n * 1024 + tag := by
    intro p hp hq
    have := hr.vers _ p (d2 p hp)
    omega
  have hlen : cells.length + more.length = c.size := by rw [hl.length, ← List.length_append, ← hc, Array.length_toList]
  refine ⟨rfl, ?_, ?_, Sg.add_same _ _ _ _⟩
  · refine put_rel _ hr h1 (by omega) hle ?_ ?_ (fun g u hg => Sg.add_other _ _ (fun k => hg k.1)) (fun g u b' o' z' _ k => hkeep b' (hr.lt _ _ _ _ _ k)) ?_ ?_
    · intro g u b o z g' u' o' z' k1 k2
      rcases hcase _ _ _ _ _ k1 with ⟨e1, _, hb, _⟩ | ⟨k1, hb⟩ <;> rcases hcase _ _ _ _ _ k2 with ⟨e2, _, hb2, _⟩ | ⟨k2, hb2⟩
      · rw [e1, e2]
      · omega
      · omega
      · exact hr.inj _ _ _ _ _ _ _ _ _ k1 k2
    · intro g u b o z k
      rw [show (w0.alloc (.cells c e (0, 0))).heap.size = w.heap.size + 1 by simp [hsz]]
      rcases hcase _ _ _ _ _ k with ⟨_, _, hb, _⟩ | ⟨_, hb⟩ <;> omega
    · refine ⟨?_, fun _ => ⟨?_, hdesc.move fun p hp => Sg.add_other _ _ (fun k => hvne p hp k.2)⟩, fun es he => by simp at he⟩
      · intro p hp b o z hk
        rcases List.mem_cons.1 hp with rfl | hp
        · have hk' : σ.add a.block (s.n * 1024 + tag) (w.heap.size, 0, c.size) a.block (s.n * 1024 + tag) = some (b, o, z) := hk
          rw [Sg.add_same] at hk'
          cases hk'
          refine ⟨by simp only; omega, ?_, ?_, ?_⟩
          · intro j hj
            rw [← hsz, cell_alloc j]
            simp [hj]
          · intro _
            have hb := heap_alloc_new w0 (.cells c e (0, 0))
            refine ⟨fun j hj => ?_, fun c1 e1 lo hi k => ?_⟩
            case refine_2 => rw [← hsz, hb] at k; cases k; exact Nat.le_refl _
            unfold World.frozen?
            rw [← hsz, hb]
            simp
          · intro j u hj
            obtain ⟨u', hu, hv⟩ := hl.at hj
            refine ⟨u', ?_, hv.mono hle⟩
            rw [← hsz, Nat.zero_add, cell_alloc j, ← Array.getElem?_toList, hc, List.getElem?_append_left (List.getElem?_eq_some_iff.1 hu).1]
            exact hu
        · have hk' : σ a.block p.1 = some (b, o, z) := by
            rw [← hk]
            exact (Sg.add_other _ _ (fun k => hvne p hp k.2)).symm
          have := ((hfam.rows p (d2 p hp) b o z hk').up hle).keep (hkeep b (hr.lt _ _ _ _ _ hk'))
          rw [h1] at this
          exact this
      · intro p hp b o z o' z' k1 k2
        have k1' : σ.add a.block (s.n * 1024 + tag) (w.heap.size, 0, c.size) a.block (s.n * 1024 + tag) = some (b, o, z) := k1
        rw [Sg.add_same] at k1'
        cases k1'
        have k2' : σ a.block p.1 = some (w.heap.size, o', z') := by
          rw [← k2]
          exact (Sg.add_other _ _ (fun k => hvne p hp k.2)).symm
        have := hr.lt _ _ _ _ _ k2'
        omega
    · intro p hp
      rcases List.mem_cons.1 hp with rfl | hp
      · simp only; omega
      · have := hr.vers _ p (d2 p hp); omega
  · refine ⟨hle, ?_, ?_, by simp [hsz], fun k hk _ => hkeep k hk, hst⟩
    · intro f u h0 hne
      by_cases hq : f = a.block ∧ u = s.n * 1024 + tag
      · obtain ⟨rfl, rfl⟩ := hq
        have := fam_lt hr h1
        exact ⟨by omega, by simp only; omega, by simp only; omega, .inr hVf⟩
      · exfalso
        apply hne
        show σ.add a.block (s.n * 1024 + tag) (w.heap.size, 0, c.size) f u = none
        rw [Sg.add_other _ _ hq]
        exact h0
    · intro f u b o z h0 hs hb
      rcases hcase _ _ _ _ _ hs with ⟨_, _, e, _⟩ | ⟨k, _⟩
      · omega
      · rw [h0] at k; simp at k

theorem mapC_some {s s' : CS} {v : Value} (h : mapC s = some (v, s')) : roomIn s.obj s.n = true ∧ v = .map (some s.n) ∧ s' = { s with n := s.n + 1, obj := objPut s.obj s.n ⟨false, [], some []⟩ } := by
  unfold mapC at h
  rw [sel_eq] at h
  split at h
  · rename_i hn
    simp at h
    exact ⟨hn, h.1.symm, h.2.symm⟩
  · simp at h
theorem mapC_rel {σ : Sg} {V : Nat → Prop} {s s' : CS} {w : World} {v : Value} (h : mapC s = some (v, s')) (hr : Rel σ V s w) (hF : Fresh σ s.n s'.n) :
    let σ' := σ.add s.n (s.n * 1024) (w.heap.size, 0, 0)
    v = .map (some s.n) ∧ Can s s' ∧ Rel σ' V s' (w.alloc (.map #[] 0)) ∧ Ext σ V s w σ' s' (w.alloc (.map #[] 0)) ∧ σ' s.n (s.n * 1024) = some (w.heap.size, 0, 0) := by
  obtain ⟨hn, rfl, rfl⟩ := mapC_some h
  intro σ'
  have hF' : ∀ f v, (f = s.n ∨ v / 1024 = s.n) → σ f v = none := fun f v hv => hF f v (by simp; omega)
  have hx : FamAt σ' (w.alloc (.map #[] 0)) s.n ⟨false, [], some []⟩ := by
    refine ⟨fun p hp => by simp at hp, fun _ => trivial, ?_⟩
    intro es he b o z hk
    simp at he
    subst he
    have hk' : σ.add s.n (s.n * 1024) (w.heap.size, 0, 0) s.n (s.n * 1024) = some (b, o, z) := hk
    rw [Sg.add_same] at hk'
    cases hk'
    exact ⟨#[], 0, heap_alloc_new w _, trivial⟩
  have := new_rel (w' := w.alloc (.map #[] 0)) hn hr hF' (u := s.n * 1024) (by omega) (p := (w.heap.size, 0, 0)) rfl ⟨rfl, rfl, rfl⟩ (by simp) (fun k hk => alloc_keep w _ k hk) hx (fun p hp => by simp at hp)
  exact ⟨rfl, new_can hn (fun p hp => by simp at hp) rfl, this.1, this.2, Sg.add_same _ _ _ _⟩
theorem readMap_some {s s' : CS} {r : Nat} {es : List (Value × Value)} (h : s.readMap r = some (es, s')) : (objAt s.obj r).es = some es ∧ s' = { s with rd := ins s.lim s.rd r } := by
  unfold CS.readMap at h
  cases hr : (objAt s.obj r).es with
  | none => rw [hr] at h; simp at h
  | some c => rw [hr] at h; simp at h; exact ⟨by rw [h.1], h.2.symm⟩
theorem readMap_at {σ : Sg} {V : Nat → Prop} {s s' : CS} {w : World} {r : Nat} {es : List (Value × Value)} (h : s.readMap r = some (es, s')) (hr : Rel σ V s w) (hV : Covers V s') {b o z : Nat} (hσ : σ r (r * 1024) = some (b, o, z)) :
    MapAt σ w b es ∧ Can s s' ∧ Rel σ V s' w ∧ Ext σ V s w σ s' w := by
  obtain ⟨h1, rfl⟩ := readMap_some h
  refine ⟨(hr.fam r (hV _ ?_)).es es h1 b o z hσ, can_log s r, hr.log _, Ext.log _⟩
  rcases ins_self (lim := s.lim) (l := s.rd) (n := r) with h | h
  · exact .inl h
  · exact .inr (.inr h)
theorem setMap_some {s s' : CS} {r : Nat} {k v : Value} (h : s.setMap r k v = some s') : ∃ es s1 es', s.readMap r = some (es, s1) ∧ (objAt s.obj r).ro = false ∧ mapSet k v es = some es' ∧
    s' = { s1 with obj := objPut s.obj r ⟨false, [], some es'⟩, wr := ins s.lim s.wr r } := by
  unfold CS.setMap at h
  cases hq : s.readMap r with
  | none => rw [hq] at h; simp at h
  | some p =>
    obtain ⟨es, s1⟩ := p
    rw [hq] at h
    simp only at h
    obtain ⟨_, rfl⟩ := readMap_some hq
    rw [sel_eq] at h
    split at h
    · simp at h
    · rename_i hro
      cases hm : mapSet k v es with
      | none => rw [hm] at h; simp at h
      | some es' =>
        rw [hm] at h
        simp at h
        exact ⟨es, _, es', rfl, by simpa using hro, hm, h.symm⟩
/-- a map is written; what the model's new entries are, is handed in -/
theorem setMap_rel {σ : Sg} {V : Nat → Prop} {s s' : CS} {w w' : World} {r : Nat} {k v : Value} (h : s.setMap r k v = some s') (hr : Rel σ V s w) (hV : Covers V s') {b o z : Nat} (hσ : σ r (r * 1024) = some (b, o, z))
    (hw : ∀ es es', (objAt s.obj r).es = some es → mapSet k v es = some es' → ∃ (ents : Array MapEntry) (clock : Nat), w' = { w with heap := w.heap.setIfInBounds b (.map ents clock) } ∧ EL (VR σ) es' ents.toList) :
    Can s s' ∧ Rel σ V s' w' ∧ Ext σ V s w σ s' w' := by
  obtain ⟨es, s1, es', h1, h2, hms, h3⟩ := setMap_some h
  obtain ⟨h4, rfl⟩ := readMap_some h1
  obtain ⟨ents, clock, rfl, hel⟩ := hw es es' h4 hms
  subst h3
  have hVf : V r := by
    refine hV r ?_
    rcases ins_self (lim := s.lim) (l := s.wr) (n := r) with k | k
    · exact .inr (.inl k)
    · exact .inr (.inr k)
  have hblt := hr.lt _ _ _ _ _ hσ
  have hw' : ∀ k, k ≠ b → (({ w with heap := w.heap.setIfInBounds b (.map ents clock) } : World).heap)[k]? = w.heap[k]? := fun k hk => by simp [Array.getElem?_setIfInBounds, Ne.symm hk]
  refine ⟨?_, ?_, ?_⟩
  · have := put_can (s' := { s with n := s.n, obj := objPut s.obj r ⟨false, [], some es'⟩, wr := ins s.lim s.wr r }) h2 rfl (fam_lt hr h2) s.n (Nat.le_refl _) (fun _ p hp => by simp at hp) rfl
    exact ⟨this.n, this.lim, fun _ h => ins_mem h, this.wr, this.same, this.ro, this.none, this.vers, this.wlt⟩
  · have := put_rel (ins s.lim s.wr r) hr (w' := { w with heap := w.heap.setIfInBounds b (.map ents clock) }) h2 (Nat.le_refl _) (fun _ _ _ h => h) hr.inj (fun g u b' o' z' k => by simp; exact hr.lt _ _ _ _ _ k) (fun _ _ _ => rfl)
      (fun g u b' o' z' hg k => hw' b' (by rintro rfl; exact hg (hr.inj _ _ _ _ _ _ _ _ _ k hσ))) (x := ⟨false, [], some es'⟩) ?_ (fun p hp => by simp at hp)
    · exact ⟨this.inj, this.lt, this.fam, this.none, this.vers⟩
    · refine ⟨fun p hp => by simp at hp, fun _ => trivial, ?_⟩
      intro es2 he b' o' z' hk
      simp at he
      subst he
      rw [hσ] at hk
      cases hk
      exact ⟨ents, clock, by simp [hblt], hel⟩
  · refine ⟨fun _ _ _ h => h, fun _ _ h k => absurd h k, fun _ _ _ _ _ h k => by rw [h] at k; simp at k, by simp, ?_, ⟨rfl, rfl, rfl⟩⟩
    intro k hk hq
    refine hw' k ?_
    rintro rfl
    rcases hq _ _ _ _ hσ with h | h
    · exact h hVf
    · rw [h2] at h; simp at h
end Go.Proofs.YtcmfoipnoejmlaaDoor
