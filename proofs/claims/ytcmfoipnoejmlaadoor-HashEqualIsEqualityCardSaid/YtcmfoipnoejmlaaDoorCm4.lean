/- The plain machine, fourth part: reading, making, writing and growing of rows. No program in sight. -/
import Derived.Test.YtcmfoipnoejmlaaDoorCm3
import Derived.Laws.AppendOwnNone
import Derived.Laws.CopyOwn
namespace Go.Proofs.YtcmfoipnoejmlaaDoor
open Go Go.RowKit

theorem readRow_some {s s' : CS} {a : Addr} {cs : List Value} (h : s.readRow a = some (cs, s')) :
    rowOf (objAt s.obj a.block).rows (Addr.ver a) = some cs ∧ s' = { s with rd := ins s.lim s.rd a.block } := by
  unfold CS.readRow at h
  cases hr : rowOf (objAt s.obj a.block).rows (Addr.ver a) with
  | none => rw [hr] at h; simp at h
  | some c => rw [hr] at h; simp at h; exact ⟨by rw [h.1], h.2.symm⟩
theorem can_log (s : CS) (f : Nat) : Can s { s with rd := ins s.lim s.rd f } :=
  ⟨Nat.le_refl _, rfl, fun _ h => ins_mem h, fun _ h => h, fun _ _ _ _ => rfl, fun _ _ => rfl, fun h => h, fun h => h, fun h => h⟩
theorem Rel.log {σ : Sg} {V : Nat → Prop} {s : CS} {w : World} (h : Rel σ V s w) (rd : List Nat) : Rel σ V { s with rd := rd } w := ⟨h.inj, h.lt, h.fam, h.none, h.vers⟩
theorem Ext.log {σ : Sg} {V : Nat → Prop} {s : CS} {w : World} (rd : List Nat) : Ext σ V s w σ { s with rd := rd } w :=
  ⟨fun _ _ _ h => h, fun _ _ h k => absurd h k, fun _ _ _ _ _ h k => by rw [h] at k; simp at k, Nat.le_refl _, fun _ _ _ => rfl, Same.refl _⟩
theorem read_can {s s' : CS} {a : Addr} {cs : List Value} (h : s.readRow a = some (cs, s')) : Can s s' := by rw [(readRow_some h).2]; exact can_log s _
theorem read_rel {σ : Sg} {V : Nat → Prop} {s s' : CS} {w : World} {a : Addr} {cs : List Value} (h : s.readRow a = some (cs, s')) (hr : Rel σ V s w) : Rel σ V s' w := by rw [(readRow_some h).2]; exact hr.log _
theorem read_ext {σ : Sg} {V : Nat → Prop} {s s' : CS} {w : World} {a : Addr} {cs : List Value} (h : s.readRow a = some (cs, s')) : Ext σ V s w σ s' w := by rw [(readRow_some h).2]; exact Ext.log _
theorem read_row {σ : Sg} {V : Nat → Prop} {s s' : CS} {w : World} {a : Addr} {cs : List Value} (h : s.readRow a = some (cs, s')) (hr : Rel σ V s w) (hV : Covers V s') {b o z : Nat} (hσ : σ a.block (Addr.ver a) = some (b, o, z)) :
    RowAt σ w (objAt s.obj a.block).ro b o z cs := by
  obtain ⟨h1, rfl⟩ := readRow_some h
  refine (hr.fam a.block (hV _ ?_)).rows _ (rowOf_mem h1) b o z hσ
  rcases ins_self (lim := s.lim) (l := s.rd) (n := a.block) with h | h
  · exact .inl h
  · exact .inr (.inr h)

/-- a part of a row, as the model has it -/
theorem RowAt.part {σ : Sg} {w : World} {ro : Bool} {b o z : Nat} {cs l : List Value} {off k : Nat} (h : RowAt σ w ro b o z cs) (hc : cut cs off k = some l) :
    ∃ l' : List Value, l'.length = k ∧ (∀ j v, l'[j]? = some v → w.cell? ⟨b, o + off + j, none⟩ = some v) ∧ RL (VR σ) l l' := by
  unfold cut at hc
  dsimp only at hc
  cases hb : Nat.beq ((cs.drop off).take k).length k with
  | false => rw [hb] at hc; simp at hc
  | true =>
    rw [hb] at hc
    have hl := Nat.eq_of_beq_eq_true hb
    simp only [cond_true, Option.some.injEq] at hc
    rw [hc] at hl
    refine ⟨(List.range k).map fun j => (w.cell? ⟨b, o + off + j, none⟩).getD undef, by simp, ?_, RL.of (by simp [hl]) ?_⟩
    · intro j v hj
      rw [List.getElem?_map] at hj
      by_cases hjk : j < k
      · rw [List.getElem?_range hjk] at hj
        simp at hj
        obtain ⟨x, hx⟩ : ∃ x, l[j]? = some x := ⟨_, List.getElem?_eq_getElem (by omega)⟩
        rw [← hc] at hx
        rw [List.getElem?_take, if_pos hjk, List.getElem?_drop] at hx
        obtain ⟨u', hu, _⟩ := h.2.2.2 (off + j) _ hx
        rw [Nat.add_assoc] at hj ⊢
        rw [hu] at hj ⊢
        simp at hj
        rw [hj]
      · rw [List.getElem?_eq_none (by simp; omega)] at hj
        simp at hj
    · intro i x y hx hy
      have hik : i < k := by have := (List.getElem?_eq_some_iff.1 hx).1; omega
      rw [← hc, List.getElem?_take, if_pos hik, List.getElem?_drop] at hx
      obtain ⟨u', hu, hv⟩ := h.2.2.2 (off + i) _ hx
      rw [List.getElem?_map, List.getElem?_range hik] at hy
      simp at hy
      rw [Nat.add_assoc, hu] at hy
      simp at hy
      rw [← hy]
      exact hv

/-- a new family with one version -/
theorem newRow_some {s s' : CS} {a : Addr} {tag : Nat} {cs : List Value} (h : s.newRow tag cs = some (a, s')) :
    roomIn s.obj s.n = true ∧ a = mkA s.n (s.n * 1024 + tag) 0 ∧ s' = { s with n := s.n + 1, obj := objPut s.obj s.n ⟨false, [(s.n * 1024 + tag, cs)], none⟩ } := by
  unfold CS.newRow at h
  rw [sel_eq] at h
  split at h
  · rename_i hn
    simp at h
    exact ⟨hn, h.1.symm, h.2.symm⟩
  · simp at h
theorem new_can {s s' : CS} {x : Fam} (hn : roomIn s.obj s.n = true) (hxv : ∀ p, p ∈ x.rows → p.1 / 1024 = s.n) (hs : s' = { s with n := s.n + 1, obj := objPut s.obj s.n x }) : Can s s' := by
  subst hs
  refine ⟨by simp, rfl, fun _ h => h, fun _ h => h, fun f h _ _ => objAt_put_other _ hn (by omega), fun f h => by show (objAt (objPut s.obj s.n x) f).ro = _; rw [objAt_put_other _ hn (by omega)], fun h f hf => ?_, fun h f p hp => ?_, fun h => h⟩
  · show objAt (objPut s.obj s.n x) f = famNone
    have : s.n + 1 ≤ f := hf
    rw [objAt_put_other _ hn (by omega)]
    exact h f (by omega)
  · show p.1 / 1024 < s.n + 1
    have hp' : p ∈ (objAt (objPut s.obj s.n x) f).rows := hp
    by_cases hfn : f = s.n
    · subst hfn
      rw [objAt_put_same _ hn] at hp'
      have := hxv p hp'
      omega
    · rw [objAt_put_other _ hn (Ne.symm hfn)] at hp'
      have := h f p hp'
      omega
/-- one more place -/
def Sg.add (σ : Sg) (f u : Nat) (p : Nat × Nat × Nat) : Sg := fun g v => if g = f ∧ v = u then some p else σ g v
theorem Sg.add_same (σ : Sg) (f u : Nat) (p : Nat × Nat × Nat) : σ.add f u p f u = some p := by simp [Sg.add]
theorem Sg.add_other (σ : Sg) {f u g v : Nat} (p : Nat × Nat × Nat) (h : ¬ (g = f ∧ v = u)) : σ.add f u p g v = σ g v := by simp [Sg.add, h]
theorem Sg.le_add {σ : Sg} {f u : Nat} {p : Nat × Nat × Nat} (h : σ f u = none) : Sg.le σ (σ.add f u p) := by
  intro g v q hq
  rw [Sg.add_other]
  · exact hq
  · rintro ⟨rfl, rfl⟩
    rw [h] at hq; simp at hq
/-- what a new object in the model is, for the relation: a new block behind all others -/
theorem new_rel {σ : Sg} {V : Nat → Prop} {s : CS} {w w' : World} {x : Fam} {u : Nat} {p : Nat × Nat × Nat} (hn : roomIn s.obj s.n = true) (hr : Rel σ V s w) (hF : ∀ f v, (f = s.n ∨ v / 1024 = s.n) → σ f v = none) (hu : u / 1024 = s.n)
    (hp : p.1 = w.heap.size) (hst : Same w w') (hw : w'.heap.size = w.heap.size + 1) (hk : ∀ k, k < w.heap.size → w'.heap[k]? = w.heap[k]?) (hx : FamAt (σ.add s.n u p) w' s.n x) (hxv : ∀ p, p ∈ x.rows → p.1 / 1024 = s.n) :
    Rel (σ.add s.n u p) V { s with n := s.n + 1, obj := objPut s.obj s.n x } w' ∧ Ext σ V s w (σ.add s.n u p) { s with n := s.n + 1, obj := objPut s.obj s.n x } w' := by
  have h0 : σ s.n u = none := hF s.n u (.inl rfl)
  have hle := Sg.le_add (p := p) h0
  have hcase : ∀ f v b o z, σ.add s.n u p f v = some (b, o, z) → (f = s.n ∧ v = u ∧ b = w.heap.size) ∨ (σ f v = some (b, o, z) ∧ b < w.heap.size) := by
    intro f v b o z h
    by_cases hc : f = s.n ∧ v = u
    · obtain ⟨rfl, rfl⟩ := hc
      rw [Sg.add_same] at h
      cases h
      exact .inl ⟨rfl, rfl, hp⟩
    · rw [Sg.add_other _ _ hc] at h
      exact .inr ⟨h, hr.lt _ _ _ _ _ h⟩
  refine ⟨⟨?_, ?_, ?_, ?_, ?_⟩, ⟨hle, ?_, ?_, by omega, fun b hb _ => hk b hb, hst⟩⟩
  · intro f v b o z f' v' o' z' h1 h2
    rcases hcase _ _ _ _ _ h1 with ⟨rfl, rfl, hb⟩ | ⟨h3, hb⟩ <;> rcases hcase _ _ _ _ _ h2 with ⟨h5, h6, hb2⟩ | ⟨h4, hb2⟩
    · exact h5.symm
    · omega
    · omega
    · exact hr.inj _ _ _ _ _ _ _ _ _ h3 h4
  · intro f v b o z h
    rcases hcase _ _ _ _ _ h with ⟨_, _, hb⟩ | ⟨_, hb⟩ <;> omega
  · intro f hf
    by_cases hfn : f = s.n
    · subst hfn
      show FamAt _ _ _ (objAt (objPut s.obj s.n x) s.n)
      rw [objAt_put_same _ hn]
      exact hx
    · show FamAt _ _ _ (objAt (objPut s.obj s.n x) f)
      rw [objAt_put_other _ hn (Ne.symm hfn)]
      refine (hr.fam f hf).move hle (fun v _ => Sg.add_other _ _ (fun h => hfn h.1)) (fun v b o z h => hk b (hr.lt _ _ _ _ _ h))
  · intro f hf
    show objAt (objPut s.obj s.n x) f = famNone
    have : s.n + 1 ≤ f := hf
    rw [objAt_put_other _ hn (by omega)]
    exact hr.none f (by omega)
  · intro f p hp
    show p.1 / 1024 < s.n + 1
    have hp' : p ∈ (objAt (objPut s.obj s.n x) f).rows := hp
    by_cases hfn : f = s.n
    · subst hfn
      rw [objAt_put_same _ hn] at hp'
      have := hxv p hp'
      omega
    · rw [objAt_put_other _ hn (Ne.symm hfn)] at hp'
      have := hr.vers f p hp'
      omega
  · intro f v h0 h1
    by_cases hc : f = s.n ∧ v = u
    · obtain ⟨rfl, rfl⟩ := hc
      exact ⟨by omega, by simp only; omega, by simp only; omega, .inl (Nat.le_refl _)⟩
    · rw [Sg.add_other _ _ hc] at h1
      exact absurd h0 h1
  · intro f v b o z h0 h1 hb
    rcases hcase _ _ _ _ _ h1 with ⟨_, _, hb2⟩ | ⟨h3, _⟩
    · omega
    · rw [h0] at h3; simp at h3

theorem cell_alloc {w : World} {c : Array Value} {e : TypeId} {fr : Nat × Nat} (j : Nat) : (w.alloc (.cells c e fr)).cell? ⟨w.heap.size, j, none⟩ = c[j]? := by
  rw [cell_of_row _ _ _ c e fr (heap_alloc_new w _)]
theorem alloc_keep (w : World) (o : Obj) (k : Nat) (hk : k < w.heap.size) : (w.alloc o).heap[k]? = w.heap[k]? := Below.heap_alloc w o k hk
/-- a new row: the cells, and whatever lies behind them -/
theorem newRow_rel {σ : Sg} {V : Nat → Prop} {s s' : CS} {w w0 : World} {a : Addr} {tag : Nat} {cs : List Value} (h : s.newRow tag cs = some (a, s')) (hr : Rel σ V s w) (hF : Fresh σ s.n s'.n) (ht : tag < 1024)
    (hw00 : w0.heap = w.heap ∧ Same w w0) (c : Array Value) (e : TypeId) (fr : Nat × Nat) (hfr : ∀ j, j < c.size → ¬ (fr.1 ≤ j ∧ j < fr.2)) (cs' more : List Value) (hc : c.toList = cs' ++ more) (hl : RL (VR σ) cs cs') (hup : fr.1 ≤ fr.2 := by first | decide | simp) :
    let σ' := σ.add s.n (s.n * 1024 + tag) (w.heap.size, 0, c.size)
    a = mkA s.n (s.n * 1024 + tag) 0 ∧ Can s s' ∧ Rel σ' V s' (w0.alloc (.cells c e fr)) ∧ Ext σ V s w σ' s' (w0.alloc (.cells c e fr)) ∧ σ' a.block (Addr.ver a) = some (w.heap.size, 0, c.size) := by
  obtain ⟨hn, rfl, rfl⟩ := newRow_some h
  obtain ⟨hw0, hst⟩ := hw00
  intro σ'
  have hF' : ∀ f v, (f = s.n ∨ v / 1024 = s.n) → σ f v = none := fun f v hv => hF f v (by simp; omega)
  have hsz : w0.heap.size = w.heap.size := by rw [hw0]
  have hx : FamAt σ' (w0.alloc (.cells c e fr)) s.n ⟨false, [(s.n * 1024 + tag, cs)], none⟩ := by
    refine ⟨?_, fun _ => ⟨fun p hp => by simp at hp, trivial⟩, fun es he => by simp at he⟩
    intro p hp b o z hσ
    simp at hp
    subst hp
    · have hσ' : σ.add s.n (s.n * 1024 + tag) (w.heap.size, 0, c.size) s.n (s.n * 1024 + tag) = some (b, o, z) := hσ
      rw [Sg.add_same] at hσ'
      cases hσ'
      have hlen : cs.length + more.length = c.size := by
        rw [hl.length, ← List.length_append, ← hc, Array.length_toList]
      refine ⟨by simp only; omega, ?_, ?_, ?_⟩
      · intro j hj
        rw [← hsz, cell_alloc j]
        simp [hj]
      · intro _
        have hb := heap_alloc_new w0 (.cells c e fr)
        refine ⟨fun j hj => ?_, fun c1 e1 lo hi k => ?_⟩
        case refine_2 => rw [← hsz, hb] at k; cases k; exact hup
        unfold World.frozen?
        rw [← hsz, hb]
        have := hfr j hj
        obtain ⟨lo, hi⟩ := fr
        simp only [Bool.and_eq_false_iff, decide_eq_false_iff_not]
        by_cases h1 : lo ≤ j
        · exact .inr fun h2 => this ⟨h1, h2⟩
        · exact .inl h1
      · intro j u hj
        obtain ⟨u', hu, hv⟩ := hl.at hj
        refine ⟨u', ?_, hv.mono (Sg.le_add (hF' _ _ (.inl rfl)))⟩
        rw [← hsz, Nat.zero_add, cell_alloc j, ← Array.getElem?_toList, hc, List.getElem?_append_left (List.getElem?_eq_some_iff.1 hu).1]
        exact hu
  have := new_rel (w' := w0.alloc (.cells c e fr)) hn hr hF' (u := s.n * 1024 + tag) (by omega) (p := (w.heap.size, 0, c.size)) rfl hst (by simp [hsz]) (fun k hk => by rw [alloc_keep w0 _ k (by omega), hw0]) hx (by intro p hp; simp at hp; subst hp; simp; omega)
  exact ⟨rfl, new_can hn (by intro p hp; simp at hp; subst hp; simp; omega) rfl, this.1, this.2, Sg.add_same _ _ _ _⟩
end Go.Proofs.YtcmfoipnoejmlaaDoor
