/- The plain machine, third part: the relation of its memory to the model's, and what each way to touch memory does to it. No program in sight. -/
import Derived.Test.YtcmfoipnoejmlaaDoorCm2
import Derived.Deep.AppendSrc
namespace Go.Proofs.YtcmfoipnoejmlaaDoor
open Go

/-- the range of a row that is frozen is not turned round -/
def Up (w : World) (b : Nat) : Prop := ∀ c e lo hi, w.heap[b]? = some (.cells c e (lo, hi)) → lo ≤ hi
/-- a version of a row as the model has it -/
def RowAt (σ : Sg) (w : World) (ro : Bool) (b o z : Nat) (cs : List Value) : Prop :=
  o + cs.length ≤ z ∧ (∀ j, j < z → (w.cell? ⟨b, j, none⟩).isSome = true) ∧ (ro = false → (∀ j, j < z → w.frozen? ⟨b, j, none⟩ = false) ∧ Up w b) ∧
  (∀ (j : Nat) (u : Value), cs[j]? = some u → ∃ u', w.cell? ⟨b, o + j, none⟩ = some u' ∧ VR σ u u')
def EL (R : Value → Value → Prop) : List (Value × Value) → List MapEntry → Prop
  | [], [] => True
  | (k, v) :: l, e :: m => e.key = k ∧ plainV 3 k = true ∧ R v e.val ∧ EL R l m
  | _, _ => False
def MapAt (σ : Sg) (w : World) (b : Nat) (es : List (Value × Value)) : Prop := ∃ (ents : Array MapEntry) (clock : Nat), w.heap[b]? = some (.map ents clock) ∧ EL (VR σ) es ents.toList
/-- of two versions that may be read, the newer one does not end before the older one -/
def Desc (σ : Sg) (f : Nat) : List (Nat × List Value) → Prop
  | [] => True
  | q :: l => (∀ p, p ∈ l → ∀ b o z o' z', σ f q.1 = some (b, o, z) → σ f p.1 = some (b, o', z') → o' + p.2.length ≤ o + q.2.length) ∧ Desc σ f l
structure FamAt (σ : Sg) (w : World) (f : Nat) (x : Fam) : Prop where
  rows : ∀ p, p ∈ x.rows → ∀ b o z, σ f p.1 = some (b, o, z) → RowAt σ w x.ro b o z p.2
  desc : x.ro = false → Desc σ f x.rows
  es : ∀ es, x.es = some es → ∀ b o z, σ f (f * 1024) = some (b, o, z) → MapAt σ w b es
structure Rel (σ : Sg) (V : Nat → Prop) (s : CS) (w : World) : Prop where
  inj : ∀ f u b o z f' u' o' z', σ f u = some (b, o, z) → σ f' u' = some (b, o', z') → f = f'
  lt : ∀ f u b o z, σ f u = some (b, o, z) → b < w.heap.size
  fam : ∀ f, V f → FamAt σ w f (objAt s.obj f)
  none : ∀ f, s.n ≤ f → objAt s.obj f = famNone
  vers : ∀ f p, p ∈ (objAt s.obj f).rows → p.1 / 1024 < s.n
/-- no place is known yet for what will be numbered from m to n -/
def Fresh (σ : Sg) (m n : Nat) : Prop := ∀ f u, (m ≤ f ∧ f < n) ∨ (m ≤ u / 1024 ∧ u / 1024 < n) → σ f u = none
/-- the world beside its memory has not turned -/
def Same (w w' : World) : Prop := w'.os = w.os ∧ w'.tape = w.tape ∧ w'.output = w.output
theorem Same.refl (w : World) : Same w w := ⟨rfl, rfl, rfl⟩
theorem Same.trans {a b c : World} (h : Same a b) (k : Same b c) : Same a c := ⟨k.1.trans h.1, k.2.1.trans h.2.1, k.2.2.trans h.2.2⟩
structure Ext (σ : Sg) (V : Nat → Prop) (s : CS) (w : World) (σ' : Sg) (s' : CS) (w' : World) : Prop where
  le : Sg.le σ σ'
  new : ∀ f u, σ f u = none → σ' f u ≠ none → s.n ≤ u / 1024 ∧ u / 1024 < s'.n ∧ f < s'.n ∧ (s.n ≤ f ∨ V f)
  old : ∀ f u b o z, σ f u = none → σ' f u = some (b, o, z) → b < w.heap.size → ∃ u0 o0 z0, σ f u0 = some (b, o0, z0) ∧ V f ∧ (objAt s.obj f).ro = false
  size : w.heap.size ≤ w'.heap.size
  frame : ∀ b, b < w.heap.size → (∀ f u o z, σ f u = some (b, o, z) → ¬ V f ∨ (objAt s.obj f).ro = true) → w'.heap[b]? = w.heap[b]?
  st : Same w w'
/-- what the plain machine's own step keeps -/
structure Can (s s' : CS) : Prop where
  n : s.n ≤ s'.n
  lim : s'.lim = s.lim
  rd : ∀ f, f ∈ s.rd → f ∈ s'.rd
  wr : ∀ f, f ∈ s.wr → f ∈ s'.wr
  same : ∀ f, f < s.n → f < s.lim → f ∉ s'.wr → objAt s'.obj f = objAt s.obj f
  ro : ∀ f, f < s.n → (objAt s'.obj f).ro = (objAt s.obj f).ro
  none : (∀ f, s.n ≤ f → objAt s.obj f = famNone) → ∀ f, s'.n ≤ f → objAt s'.obj f = famNone
  vers : (∀ f p, p ∈ (objAt s.obj f).rows → p.1 / 1024 < s.n) → ∀ f p, p ∈ (objAt s'.obj f).rows → p.1 / 1024 < s'.n
  wlt : (∀ f, f ∈ s.wr → f < s.lim) → ∀ f, f ∈ s'.wr → f < s'.lim
theorem Can.refl (s : CS) : Can s s := ⟨Nat.le_refl _, rfl, fun _ h => h, fun _ h => h, fun _ _ _ _ => rfl, fun _ _ => rfl, fun h => h, fun h => h, fun h => h⟩
theorem Can.trans {a b c : CS} (h : Can a b) (k : Can b c) : Can a c :=
  ⟨Nat.le_trans h.n k.n, k.lim.trans h.lim, fun f hf => k.rd f (h.rd f hf), fun f hf => k.wr f (h.wr f hf),
   fun f hn hl hw => (k.same f (Nat.lt_of_lt_of_le hn h.n) (by rw [h.lim]; exact hl) hw).trans (h.same f hn hl fun hb => hw (k.wr f hb)),
   fun f hn => (k.ro f (Nat.lt_of_lt_of_le hn h.n)).trans (h.ro f hn), fun hd => k.none (h.none hd), fun hd => k.vers (h.vers hd), fun hd => k.wlt (h.wlt hd)⟩
/-- what is touched is in V -/
def Covers (V : Nat → Prop) (s : CS) : Prop := ∀ f, (f ∈ s.rd ∨ f ∈ s.wr ∨ s.lim ≤ f) → V f
theorem Covers.back {V : Nat → Prop} {s s' : CS} (h : Covers V s') (c : Can s s') : Covers V s := fun f hf => h f (by
  rcases hf with hf | hf | hf
  · exact .inl (c.rd f hf)
  · exact .inr (.inl (c.wr f hf))
  · exact .inr (.inr (by rw [c.lim]; exact hf)))
theorem Fresh.mono {σ : Sg} {m n m' n' : Nat} (h : Fresh σ m n) (hm : m ≤ m') (hn : n' ≤ n) : Fresh σ m' n' := fun f u hf => h f u (by omega)
theorem Fresh.next {σ σ' : Sg} {V : Nat → Prop} {s s' : CS} {w w' : World} {n : Nat} (h : Fresh σ s.n n) (e : Ext σ V s w σ' s' w') (c : Can s s') : Fresh σ' s'.n n := by
  intro f u hf
  have h0 : σ f u = Option.none := h f u (by have := c.n; omega)
  cases h1 : σ' f u with
  | none => rfl
  | some p =>
    have := e.new f u h0 (by rw [h1]; simp)
    omega
theorem Ext.refl (σ : Sg) (V : Nat → Prop) (s : CS) (w : World) : Ext σ V s w σ s w :=
  ⟨fun _ _ _ h => h, fun _ _ h k => absurd h k, fun _ _ _ _ _ h k => by rw [h] at k; simp at k, Nat.le_refl _, fun _ _ _ => rfl, Same.refl _⟩
theorem Ext.trans {σ σ1 σ2 : Sg} {V : Nat → Prop} {s s1 s2 : CS} {w w1 w2 : World} (h : Ext σ V s w σ1 s1 w1) (k : Ext σ1 V s1 w1 σ2 s2 w2) (c : Can s s1) (c2 : Can s1 s2) (hf : Fresh σ s.n s2.n) (hn : ∀ f, s.n ≤ f → objAt s.obj f = famNone) : Ext σ V s w σ2 s2 w2 := by
  have hro : ∀ f u p, σ f u = some p → (objAt s1.obj f).ro = (objAt s.obj f).ro := by
    intro f u p hp
    by_cases hlt : f < s.n
    · exact c.ro f hlt
    · by_cases h2 : f < s2.n
      · rw [hf f u (.inl ⟨by omega, h2⟩)] at hp; simp at hp
      · rw [hn f (by omega), c.none hn f (by have := c2.n; omega)]
  refine ⟨fun f u p hp => k.le f u p (h.le f u p hp), ?_, ?_, Nat.le_trans h.size k.size, ?_, h.st.trans k.st⟩
  · intro f u h0 h2
    cases h1 : σ1 f u with
    | none => have q := k.new f u h1 h2; have := c.n; exact ⟨by omega, q.2.1, q.2.2.1, q.2.2.2.imp (fun x => by omega) id⟩
    | some p => have q := h.new f u h0 (by rw [h1]; simp); have := c2.n; exact ⟨q.1, by omega, by omega, q.2.2.2⟩
  · intro f u b o z h0 h2 hb
    cases h1 : σ1 f u with
    | none =>
      obtain ⟨u0, o0, z0, hs, hV, hr⟩ := k.old f u b o z h1 h2 (Nat.lt_of_lt_of_le hb h.size)
      cases h3 : σ f u0 with
      | none => exact h.old f u0 b o0 z0 h3 hs hb
      | some p =>
        have := h.le f u0 p h3
        rw [hs] at this
        cases this
        exact ⟨u0, o0, z0, h3, hV, by rw [← hro f u0 _ h3]; exact hr⟩
    | some p =>
      have := k.le f u p h1
      rw [h2] at this
      cases this
      exact h.old f u b o z h0 h1 hb
  · intro b hb hq
    rw [k.frame b (Nat.lt_of_lt_of_le hb h.size) ?_, h.frame b hb hq]
    intro f u o z h1
    cases h0 : σ f u with
    | some p =>
      have := h.le f u p h0
      rw [h1] at this
      cases this
      rcases hq f u o z h0 with hv | hr
      · exact .inl hv
      · exact .inr (by rw [hro f u _ h0]; exact hr)
    | none =>
      obtain ⟨u0, o0, z0, hs, hV, hr⟩ := h.old f u b o z h0 h1 hb
      rcases hq f u0 o0 z0 hs with hv | hr2
      · exact absurd hV hv
      · rw [hr] at hr2; simp at hr2

theorem RowAt.up {σ σ' : Sg} {w : World} {ro : Bool} {b o z : Nat} {cs : List Value} (h : RowAt σ w ro b o z cs) (hs : Sg.le σ σ') : RowAt σ' w ro b o z cs :=
  ⟨h.1, h.2.1, h.2.2.1, fun j u hj => let ⟨u', h1, h2⟩ := h.2.2.2 j u hj; ⟨u', h1, h2.mono hs⟩⟩
theorem frozen_of_heap {w w' : World} {b : Nat} (h : w'.heap[b]? = w.heap[b]?) (j : Nat) : w'.frozen? ⟨b, j, none⟩ = w.frozen? ⟨b, j, none⟩ := by unfold World.frozen?; rw [h]
theorem RowAt.keep {σ : Sg} {w w' : World} {ro : Bool} {b o z : Nat} {cs : List Value} (h : RowAt σ w ro b o z cs) (hb : w'.heap[b]? = w.heap[b]?) : RowAt σ w' ro b o z cs :=
  ⟨h.1, fun j hj => by rw [World.cell?_of_block (w := w) hb]; exact h.2.1 j hj, fun hr => ⟨fun j hj => by rw [frozen_of_heap hb]; exact (h.2.2.1 hr).1 j hj, fun c e lo hi k => (h.2.2.1 hr).2 c e lo hi (by rw [← hb]; exact k)⟩,
   fun j u hj => let ⟨u', h1, h2⟩ := h.2.2.2 j u hj; ⟨u', by rw [World.cell?_of_block (w := w) hb]; exact h1, h2⟩⟩
theorem EL.up {σ σ' : Sg} (hs : Sg.le σ σ') : ∀ {l : List (Value × Value)} {m : List MapEntry}, EL (VR σ) l m → EL (VR σ') l m
  | [], [], _ => trivial
  | (_, _) :: _, _ :: _, ⟨a, b, c, d⟩ => ⟨a, b, c.mono hs, EL.up hs d⟩
  | [], _ :: _, h => h.elim
  | _ :: _, [], h => h.elim
theorem MapAt.up {σ σ' : Sg} {w : World} {b : Nat} {es : List (Value × Value)} (h : MapAt σ w b es) (hs : Sg.le σ σ') : MapAt σ' w b es :=
  let ⟨e, c, h1, h2⟩ := h; ⟨e, c, h1, h2.up hs⟩
theorem MapAt.keep {σ : Sg} {w w' : World} {b : Nat} {es : List (Value × Value)} (h : MapAt σ w b es) (hb : w'.heap[b]? = w.heap[b]?) : MapAt σ w' b es :=
  let ⟨e, c, h1, h2⟩ := h; ⟨e, c, by rw [hb]; exact h1, h2⟩
theorem rowOf_mem : ∀ {l : List (Nat × List Value)} {u : Nat} {cs : List Value}, rowOf l u = some cs → (u, cs) ∈ l
  | (v, c) :: l, u, cs, h => by
    simp only [rowOf] at h
    cases hb : Nat.beq v u with
    | true => rw [hb] at h; simp at h; have := Nat.eq_of_beq_eq_true hb; simp [this, h]
    | false => rw [hb] at h; exact List.mem_cons_of_mem _ (rowOf_mem h)
theorem Desc.move {σ σ' : Sg} {f : Nat} : ∀ {l : List (Nat × List Value)}, (∀ p, p ∈ l → σ' f p.1 = σ f p.1) → Desc σ f l → Desc σ' f l
  | [], _, _ => trivial
  | q :: l, h, hd => ⟨fun p hp b o z o' z' h1 h2 => hd.1 p hp b o z o' z' (by rw [← h q (by simp)]; exact h1) (by rw [← h p (by simp [hp])]; exact h2), Desc.move (fun p hp => h p (by simp [hp])) hd.2⟩
/-- a family whose versions have no new places and whose blocks have not turned -/
theorem FamAt.move {σ σ' : Sg} {w w' : World} {f : Nat} {x : Fam} (h : FamAt σ w f x) (hs : Sg.le σ σ') (hold : ∀ u, (∃ cs, (u, cs) ∈ x.rows) ∨ u = f * 1024 → σ' f u = σ f u)
    (hb : ∀ u b o z, σ f u = some (b, o, z) → w'.heap[b]? = w.heap[b]?) : FamAt σ' w' f x := by
  refine ⟨?_, fun hro => (h.desc hro).move fun p hp => hold _ (.inl ⟨p.2, hp⟩), ?_⟩
  · intro p hp b o z hσ
    rw [hold p.1 (.inl ⟨p.2, hp⟩)] at hσ
    exact ((h.rows p hp b o z hσ).up hs).keep (hb _ b o z hσ)
  · intro es he b o z hσ
    rw [hold _ (.inr rfl)] at hσ
    exact ((h.es es he b o z hσ).up hs).keep (hb _ b o z hσ)

theorem ins_mem {lim : Nat} {l : List Nat} {n f : Nat} (h : f ∈ l) : f ∈ ins lim l n := by
  unfold ins
  cases Nat.blt n lim <;> simp
  · exact h
  · cases has l n <;> simp
    · exact .inr h
    · exact h
theorem has_mem : ∀ {l : List Nat} {n : Nat}, has l n = true → n ∈ l
  | x :: l, n, h => by
    simp only [has] at h
    cases hb : Nat.beq x n with
    | true => have := Nat.eq_of_beq_eq_true hb; simp [this]
    | false => rw [hb] at h; exact List.mem_cons_of_mem _ (has_mem h)
theorem ins_self {lim : Nat} {l : List Nat} {n : Nat} : n ∈ ins lim l n ∨ lim ≤ n := by
  unfold ins
  cases hb : Nat.blt n lim with
  | false => exact .inr (by rw [← Nat.not_lt]; intro k; rw [blt_iff.2 k] at hb; simp at hb)
  | true =>
    left
    cases hh : has l n with
    | true => exact has_mem hh
    | false => simp
theorem mem_ins {lim : Nat} {l : List Nat} {n f : Nat} (h : f ∈ ins lim l n) : f ∈ l ∨ (f = n ∧ f < lim) := by
  unfold ins at h
  cases h1 : Nat.blt n lim <;> rw [h1] at h
  · exact .inl h
  · have hlt := blt_iff.1 h1
    cases h2 : has l n <;> rw [h2] at h <;> simp at h
    · rcases h with h | h
      · exact .inr ⟨h, by omega⟩
      · exact .inl h
    · exact .inl h
end Go.Proofs.YtcmfoipnoejmlaaDoor
