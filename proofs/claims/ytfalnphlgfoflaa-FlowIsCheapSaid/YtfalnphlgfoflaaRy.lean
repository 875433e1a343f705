/- Least weights of ways (Bellman and Ford). No program in sight. -/
import Derived.Test.YtfalnphlgfoflaaRd
import Derived.Test.YtfalnphlgfoflaaQ1
import Derived.Test.YtfalnphlgfoflaaSL6
import Derived.Test.YtfalnphlgfoflaaRz
import Derived.Test.YtfalnphlgfoflaaRa
import Derived.Test.YtfalnphlgfoflaaQ4
set_option linter.unusedSimpArgs false
set_option linter.unusedVariables false
set_option linter.unusedSectionVars false
namespace Go.Proofs.Ytfalnphlgfoflaa
open Go Go.RowKit
set_option linter.unusedSimpArgs false
set_option linter.unusedVariables false
theorem put_eq {α : Type} {l : List α} {i : Nat} {v d : α} (h : i < l.length) : (l.set i v).getD i d = v := by
  rw [List.getD_eq_getElem?_getD, List.getElem?_set_self h]; rfl
theorem put_ne {α : Type} {l : List α} {i j : Nat} {v d : α} (h : i ≠ j) : (l.set i v).getD j d = l.getD j d := by
  rw [List.getD_eq_getElem?_getD, List.getD_eq_getElem?_getD, List.getElem?_set_ne h]
theorem few_of : ∀ (N : Nat) (l : List Int), l.Nodup → (∀ v, v ∈ l → 0 ≤ v ∧ v < (N : Int)) → l.length ≤ N
  | 0, [], _, _ => Nat.le_refl _
  | 0, x :: l, _, h => by have := h x (by simp); omega
  | N + 1, l, hd, h => by
    have ih := few_of N (l.erase (N : Int)) (hd.erase _) fun v hv => by
      obtain ⟨c1, c2⟩ := (List.Nodup.mem_erase_iff hd).1 hv
      have := h v c2
      omega
    have := List.length_erase (a := (N : Int)) (l := l)
    split at this <;> omega
def far : Int := 1125899906842624
def Net0 (N : Nat) (all : List ArcI) : Prop := ∀ a, a ∈ all → (0 ≤ a.frm ∧ a.frm < (N : Int)) ∧ (0 ≤ a.to ∧ a.to < (N : Int)) ∧ -1048576 ≤ a.weight ∧ a.weight ≤ 1048576
def Pot0 (all : List ArcI) (π : Int → Int) : Prop := ∀ a, a ∈ all → π a.to ≤ π a.frm + a.weight
inductive CBI (by_ : List (Option ArcI)) : Int → List ArcI → Prop
  | root {v : Int} : by_.getD v.toNat default = none → CBI by_ v []
  | step {v : Int} {a : ArcI} {p : List ArcI} : by_.getD v.toNat default = some a → CBI by_ a.frm p → CBI by_ v (a :: p)
theorem CBI.det {by_ : List (Option ArcI)} : ∀ {v : Int} {p q : List ArcI}, CBI by_ v p → CBI by_ v q → p = q := by
  intro v p q hp
  induction hp generalizing q with
  | root h => intro hq; cases hq with
    | root _ => rfl
    | step h2 _ => rw [h] at h2; cases h2
  | step h _ ih => intro hq; cases hq with
    | root h2 => rw [h] at h2; cases h2
    | step h2 h3 => rw [h] at h2; cases h2; rw [ih h3]
theorem CBI.tail {by_ : List (Option ArcI)} : ∀ {v : Int} {p : List ArcI}, CBI by_ v p → ∀ y, y ∈ p.map (·.frm) → ∃ q, CBI by_ y q ∧ q.length < p.length := by
  intro v p hp
  induction hp with
  | root h => intro y hy; simp at hy
  | step h h2 ih =>
    intro y hy
    rw [List.map_cons, List.mem_cons] at hy
    rcases hy with rfl | hy
    · exact ⟨_, h2, by simp⟩
    · obtain ⟨q, q1, q2⟩ := ih y hy
      exact ⟨q, q1, by simp; omega⟩
theorem CBI.nodup {by_ : List (Option ArcI)} : ∀ {v : Int} {p : List ArcI}, CBI by_ v p → (v :: p.map (·.frm)).Nodup := by
  intro v p hp
  induction hp with
  | root h => simp
  | @step v a p h h2 ih =>
    rw [List.map_cons, List.nodup_cons]
    refine ⟨fun hm => ?_, ih⟩
    have h0 : CBI by_ v (a :: p) := .step h h2
    obtain ⟨q, q1, q2⟩ := h0.tail v (by rw [List.map_cons]; exact hm)
    rw [q1.det h0] at q2; omega
def dv (d : List Int) (v : Int) : Int := d.getD v.toNat default
structure BF (N : Nat) (all : List ArcI) (src : Int → Prop) (t : Nat) (d : List Int) (by_ : List (Option ArcI)) : Prop where
  ld : d.length = N
  lb : by_.length = N
  hi : ∀ v : Int, 0 ≤ v → v < (N : Int) → dv d v ≤ far
  lo : ∀ v : Int, 0 ≤ v → v < (N : Int) → -(t : Int) * 1048576 ≤ dv d v
  src0 : ∀ v : Int, 0 ≤ v → v < (N : Int) → src v → dv d v ≤ 0
  no : ∀ v : Int, 0 ≤ v → v < (N : Int) → by_.getD v.toNat default = none → dv d v = far ∨ (src v ∧ dv d v = 0)
  so : ∀ v : Int, 0 ≤ v → v < (N : Int) → ∀ a, by_.getD v.toNat default = some a → a ∈ all ∧ a.to = v ∧ dv d a.frm < far ∧ dv d a.frm + a.weight ≤ dv d v
  ch : ∀ v : Int, 0 ≤ v → v < (N : Int) → dv d v < far → ∃ p, CBI by_ v p
theorem BF.later {N : Nat} {all : List ArcI} {src : Int → Prop} {t t' : Nat} {d : List Int} {by_ : List (Option ArcI)} (h : BF N all src t d by_) (ht : t ≤ t') : BF N all src t' d by_ :=
  ⟨h.ld, h.lb, h.hi, fun v h1 h2 => by have := h.lo v h1 h2; omega, h.src0, h.no, h.so, h.ch⟩
theorem dv_set {d : List Int} {u v x : Int} (h0 : 0 ≤ u) (h1 : u.toNat < d.length) (hv : 0 ≤ v) : dv (d.set u.toNat x) v = if v = u then x else dv d v := by
  unfold dv
  by_cases c : v = u
  · subst c; rw [if_pos rfl, put_eq h1]
  · rw [if_neg c, put_ne (by omega)]
theorem by_set {l : List (Option ArcI)} {u v : Int} {x : Option ArcI} (h0 : 0 ≤ u) (h1 : u.toNat < l.length) (hv : 0 ≤ v) : (l.set u.toNat x).getD v.toNat default = if v = u then x else l.getD v.toNat default := by
  by_cases c : v = u
  · subst c; rw [if_pos rfl, put_eq h1]
  · rw [if_neg c, put_ne (by omega)]
theorem BF.relax {N : Nat} {all : List ArcI} {src : Int → Prop} {t : Nat} {d : List Int} {by_ : List (Option ArcI)} {π : Int → Int} (hN : Net0 N all) (hπ : Pot0 all π) (h : BF N all src t d by_) {a : ArcI} (ha : a ∈ all) (h1 : dv d a.frm < far) (h2 : dv d a.frm + a.weight < dv d a.to) : BF N all src (t + 1) (d.set a.to.toNat (dv d a.frm + a.weight)) (by_.set a.to.toNat (some a)) := by
  obtain ⟨⟨f0, f1⟩, ⟨t0, t1⟩, w0, w1⟩ := hN a ha
  have ld := h.ld
  have lb := h.lb
  have hπa := hπ a ha
  have ne : a.frm ≠ a.to := fun e => by rw [e] at h2 hπa; omega
  have hd : ∀ v, 0 ≤ v → dv (d.set a.to.toNat (dv d a.frm + a.weight)) v = if v = a.to then dv d a.frm + a.weight else dv d v := fun v hv => dv_set t0 (by omega) hv
  have hb : ∀ v, 0 ≤ v → (by_.set a.to.toNat (some a)).getD v.toNat default = if v = a.to then some a else by_.getD v.toNat default := fun v hv => by_set t0 (by omega) hv
  have dle : ∀ v, 0 ≤ v → dv (d.set a.to.toNat (dv d a.frm + a.weight)) v ≤ dv d v := fun v hv => by
    rw [hd v hv]
    split
    · next e => subst e; omega
    · exact Int.le_refl _
  -- the chain of the arc's start does not meet its end
  have key : ∀ v p, CBI by_ v p → 0 ≤ v → v < (N : Int) → dv d v - π v < dv d a.to - π a.to → CBI (by_.set a.to.toNat (some a)) v p := by
    intro v p hp
    induction hp with
    | @root v hr =>
      intro v0 v1 hlt
      refine .root ?_
      rw [hb v v0, if_neg (fun e => by subst e; omega)]; exact hr
    | @step v b p hr _ ih =>
      intro v0 v1 hlt
      obtain ⟨s1, s2, s3, s4⟩ := h.so v v0 v1 b hr
      obtain ⟨g0, _⟩ := hN b s1
      have hπb := hπ b s1
      rw [s2] at hπb
      refine .step (a := b) ?_ (ih g0.1 g0.2 (by omega))
      rw [hb v v0, if_neg (fun e => by subst e; omega)]; exact hr
  obtain ⟨pu, hpu⟩ := h.ch a.frm f0 f1 h1
  have hpu' := key a.frm pu hpu f0 f1 (by omega)
  have all' : ∀ v p, CBI by_ v p → 0 ≤ v → v < (N : Int) → ∃ q, CBI (by_.set a.to.toNat (some a)) v q := by
    intro v p hp
    induction hp with
    | @root v hr =>
      intro v0 v1
      by_cases c : v = a.to
      · exact ⟨_, .step (by rw [hb v v0, if_pos c]) hpu'⟩
      · exact ⟨_, .root (by rw [hb v v0, if_neg c]; exact hr)⟩
    | @step v b p hr _ ih =>
      intro v0 v1
      by_cases c : v = a.to
      · exact ⟨_, .step (by rw [hb v v0, if_pos c]) hpu'⟩
      · obtain ⟨s1, _⟩ := h.so v v0 v1 b hr
        obtain ⟨g0, _⟩ := hN b s1
        obtain ⟨q, hq⟩ := ih g0.1 g0.2
        exact ⟨_, .step (by rw [hb v v0, if_neg c]; exact hr) hq⟩
  have hif : dv (d.set a.to.toNat (dv d a.frm + a.weight)) a.frm = dv d a.frm := by rw [hd _ f0, if_neg ne]
  refine ⟨by simp [ld], by simp [lb], fun v v0 v1 => ?_, fun v v0 v1 => ?_, fun v v0 v1 hs => ?_, fun v v0 v1 hv => ?_, fun v v0 v1 b hv => ?_, fun v v0 v1 hv => ?_⟩
  · exact Int.le_trans (dle v v0) (h.hi v v0 v1)
  · rw [hd v v0]
    have e1 := h.lo a.frm f0 f1
    have e2 := h.lo v v0 v1
    split <;> omega
  · exact Int.le_trans (dle v v0) (h.src0 v v0 v1 hs)
  · rw [hb v v0] at hv
    by_cases c : v = a.to
    · rw [if_pos c] at hv; cases hv
    · rw [if_neg c] at hv
      rw [hd v v0, if_neg c]; exact h.no v v0 v1 hv
  · rw [hb v v0] at hv
    by_cases c : v = a.to
    · rw [if_pos c] at hv
      cases hv
      rw [hif, hd v v0, if_pos c]
      exact ⟨ha, c.symm, h1, Int.le_refl _⟩
    · rw [if_neg c] at hv
      obtain ⟨s1, s2, s3, s4⟩ := h.so v v0 v1 b hv
      obtain ⟨g0, _⟩ := hN b s1
      have := dle b.frm g0.1
      rw [hd v v0, if_neg c]
      exact ⟨s1, s2, by omega, by omega⟩
  · by_cases c : v = a.to
    · exact ⟨_, .step (by rw [hb v v0, if_pos c]) hpu'⟩
    · rw [hd v v0, if_neg c] at hv
      obtain ⟨p, hp⟩ := h.ch v v0 v1 hv
      exact all' v p hp v0 v1
inductive WalkTo (N : Nat) (all : List ArcI) (src : Int → Prop) : Int → Int → Nat → Prop
  | nil {v : Int} : 0 ≤ v → v < (N : Int) → src v → WalkTo N all src v 0 0
  | snoc {a : ArcI} {c : Int} {k : Nat} : WalkTo N all src a.frm c k → a ∈ all → WalkTo N all src a.to (c + a.weight) (k + 1)
theorem WalkTo.bound {N : Nat} {all : List ArcI} {src : Int → Prop} (hN : Net0 N all) {v c : Int} {k : Nat} (h : WalkTo N all src v c k) : -(k : Int) * 1048576 ≤ c ∧ c ≤ (k : Int) * 1048576 ∧ 0 ≤ v ∧ v < (N : Int) := by
  induction h with
  | nil h1 h2 _ => exact ⟨by omega, by omega, h1, h2⟩
  | snoc _ ha ih =>
    obtain ⟨_, ⟨t0, t1⟩, w0, w1⟩ := hN _ ha
    exact ⟨by omega, by omega, t0, t1⟩
theorem BF.walk {N : Nat} {all : List ArcI} {src : Int → Prop} {t : Nat} {d : List Int} {by_ : List (Option ArcI)} (hN : Net0 N all) (h : BF N all src t d by_) {v : Int} {p : List ArcI} (hp : CBI by_ v p) : 0 ≤ v → v < (N : Int) → dv d v < far → ∃ c, WalkTo N all src v c p.length ∧ c ≤ dv d v := by
  induction hp with
  | @root v hr =>
    intro v0 v1 hv
    rcases h.no v v0 v1 hr with e | ⟨e1, e2⟩
    · omega
    · exact ⟨0, .nil v0 v1 e1, by omega⟩
  | @step v b p hr _ ih =>
    intro v0 v1 hv
    obtain ⟨s1, s2, s3, s4⟩ := h.so v v0 v1 b hr
    obtain ⟨g0, _⟩ := hN b s1
    obtain ⟨c, c1, c2⟩ := ih g0.1 g0.2 s3
    have := c1.snoc s1
    rw [s2] at this
    exact ⟨_, this, by omega⟩
theorem BF.short {N : Nat} {all : List ArcI} {src : Int → Prop} {t : Nat} {d : List Int} {by_ : List (Option ArcI)} (hN : Net0 N all) (h : BF N all src t d by_) {v : Int} {p : List ArcI} (hp : CBI by_ v p) (v0 : 0 ≤ v) (v1 : v < (N : Int)) : p.length + 1 ≤ N := by
  have nd := hp.nodup
  have hm : ∀ {v : Int} {p : List ArcI}, CBI by_ v p → 0 ≤ v → v < (N : Int) → ∀ y, y ∈ v :: p.map (·.frm) → 0 ≤ y ∧ y < (N : Int) := by
    intro v p hp
    induction hp with
    | root _ =>
      intro v0 v1 y hy
      rw [List.map_nil, List.mem_singleton] at hy
      subst hy; exact ⟨v0, v1⟩
    | @step v b p hr _ ih =>
      intro v0 v1 y hy
      rcases List.mem_cons.1 hy with rfl | hy
      · exact ⟨v0, v1⟩
      · obtain ⟨s1, _⟩ := h.so v v0 v1 b hr
        obtain ⟨g0, _⟩ := hN b s1
        rw [List.map_cons] at hy
        exact ih g0.1 g0.2 y hy
  have := few_of N _ nd (hm hp v0 v1)
  simpa using this
def DoneB (N : Nat) (all : List ArcI) (src : Int → Prop) (r : Nat) (d : List Int) : Prop := ∀ v c k, WalkTo N all src v c k → k ≤ r → dv d v ≤ c
theorem BF.stable {N : Nat} {all : List ArcI} {src : Int → Prop} {t : Nat} {d : List Int} {by_ : List (Option ArcI)} (hN : Net0 N all) (h : BF N all src t d by_) (hr : DoneB N all src N d) {a : ArcI} (ha : a ∈ all) (hf : dv d a.frm < far) : dv d a.to ≤ dv d a.frm + a.weight := by
  obtain ⟨⟨f0, f1⟩, _⟩ := hN a ha
  obtain ⟨p, hp⟩ := h.ch a.frm f0 f1 hf
  have l := h.short hN hp f0 f1
  obtain ⟨c, c1, c2⟩ := h.walk hN hp f0 f1 hf
  have := hr _ _ _ (c1.snoc ha) l
  omega
theorem BF.small {N : Nat} {all : List ArcI} {src : Int → Prop} {t : Nat} {d : List Int} {by_ : List (Option ArcI)} (hN : Net0 N all) (h : BF N all src t d by_) (hr : DoneB N all src N d) {v : Int} (v0 : 0 ≤ v) (v1 : v < (N : Int)) (hf : dv d v < far) : -(N : Int) * 1048576 ≤ dv d v ∧ dv d v ≤ (N : Int) * 1048576 := by
  obtain ⟨p, hp⟩ := h.ch v v0 v1 hf
  have l := h.short hN hp v0 v1
  obtain ⟨c, c1, c2⟩ := h.walk hN hp v0 v1 hf
  have := hr _ _ _ c1 (by omega)
  have := c1.bound hN
  omega
theorem DoneB.next {N : Nat} {all : List ArcI} {src : Int → Prop} {r : Nat} {d d' : List Int} (hN : Net0 N all) (h : DoneB N all src r d) (hr : r ≤ 1000) (hle : ∀ v, 0 ≤ v → v < (N : Int) → dv d' v ≤ dv d v) (ha : ∀ a, a ∈ all → dv d a.frm < far → dv d' a.to ≤ dv d a.frm + a.weight) : DoneB N all src (r + 1) d' := by
  intro v c k hw hk
  have hb := hw.bound hN
  by_cases e : k ≤ r
  · exact Int.le_trans (hle v hb.2.2.1 hb.2.2.2) (h v c k hw e)
  · cases hw with
    | nil _ _ _ => omega
    | @snoc a c k hw2 hm =>
      have h1 := h _ _ _ hw2 (by omega)
      have hb2 := hw2.bound hN
      have := ha a hm (by unfold far; omega)
      omega
end Go.Proofs.Ytfalnphlgfoflaa
namespace Go.Proofs.Ytfalnphlgfoflaa
open Go Go.RowKit
set_option linter.unusedSimpArgs false
set_option linter.unusedVariables false
def toU (a : ArcI) : ArcU := ⟨a.link, a.frm, a.to, a.room, a.back, ()⟩
def fwdI (n : Net) (pr x : List Int) (k : Nat) : ArcI := ⟨(k : Int), (n.links.getD k default).frm, (n.links.getD k default).to, (n.links.getD k default).cap - x.getD k default, false, pr.getD k default⟩
def bwdI (n : Net) (pr x : List Int) (k : Nat) : ArcI := ⟨(k : Int), (n.links.getD k default).to, (n.links.getD k default).frm, x.getD k default, true, -pr.getD k default⟩
def GoodA (n : Net) (f : Failure) (pr x : List Int) (a : ArcI) : Prop := ∃ k, k < n.links.length ∧ UpP n f (k : Int) ∧ ((x.getD k default < (n.links.getD k default).cap ∧ a = fwdI n pr x k) ∨ (0 < x.getD k default ∧ a = bwdI n pr x k))
theorem GoodA.ok {n : Net} {f : Failure} {pr x : List Int} {a : ArcI} (h : GoodA n f pr x a) : ArcOk n f x (toU a) := by
  obtain ⟨k, hk, hu, ⟨h1, rfl⟩ | ⟨h1, rfl⟩⟩ := h
  · exact ⟨⟨by simp [toU, fwdI], by simpa [toU, fwdI] using hk, .inl ⟨rfl, rfl, rfl⟩⟩, hu, .inl ⟨rfl, rfl, h1⟩⟩
  · exact ⟨⟨by simp [toU, bwdI], by simpa [toU, bwdI] using hk, .inr ⟨rfl, rfl, rfl⟩⟩, hu, .inr ⟨rfl, rfl, h1⟩⟩
theorem GoodA.room {n : Net} {f : Failure} {pr x : List Int} {a : ArcI} (h : GoodA n f pr x a) : 1 ≤ a.room := by
  obtain ⟨k, hk, hu, ⟨h1, rfl⟩ | ⟨h1, rfl⟩⟩ := h
  · show 1 ≤ (n.links.getD k default).cap - x.getD k default
    omega
  · show 1 ≤ x.getD k default
    omega
def Arcs2 (n : Net) (f : Failure) (pr x : List Int) (i : Nat) (l : List ArcI) : Prop := (∀ a, a ∈ l → GoodA n f pr x a) ∧ (∀ k, k < i → UpP n f (k : Int) → x.getD k default < (n.links.getD k default).cap → fwdI n pr x k ∈ l) ∧ (∀ k, k < i → UpP n f (k : Int) → 0 < x.getD k default → bwdI n pr x k ∈ l) ∧ l.length ≤ 2 * i
theorem Arcs2.all {n : Net} {f : Failure} {pr x : List Int} {l : List ArcI} (h : Arcs2 n f pr x n.links.length l) (a : ArcI) : a ∈ l ↔ GoodA n f pr x a := by
  refine ⟨h.1 a, fun g => ?_⟩
  obtain ⟨k, hk, hu, ⟨h1, rfl⟩ | ⟨h1, rfl⟩⟩ := g
  · exact h.2.1 k hk hu h1
  · exact h.2.2.1 k hk hu h1
theorem GoodA.net {n : Net} {f : Failure} {pr x : List Int} {a : ArcI} (hn : RightNet n) (hp : Bound pr n.links.length 1048576) (h : GoodA n f pr x a) : (0 ≤ a.frm ∧ a.frm < (n.nodes.length : Int)) ∧ (0 ≤ a.to ∧ a.to < (n.nodes.length : Int)) ∧ -1048576 ≤ a.weight ∧ a.weight ≤ 1048576 := by
  obtain ⟨k, hk, hu, h⟩ := h
  have hf := hn.frm k hk
  have ht := hn.to k hk
  have hw : 0 ≤ pr.getD k default ∧ pr.getD k default ≤ 1048576 := hp.2 _ (getD_mem (by have := hp.1; omega))
  rcases h with ⟨_, rfl⟩ | ⟨_, rfl⟩
  · exact ⟨hf, ht, by show -1048576 ≤ pr.getD k default; omega, hw.2⟩
  · exact ⟨ht, hf, by show -1048576 ≤ -pr.getD k default; omega, by show -pr.getD k default ≤ 1048576; omega⟩
def PotX (n : Net) (f : Failure) (pr x : List Int) (π : Int → Int) : Prop := ∀ a, GoodA n f pr x a → π a.to ≤ π a.frm + a.weight
theorem BF.path {N : Nat} {n : Net} {f : Failure} {pr x : List Int} {all : List ArcI} {src : Int → Prop} {t : Nat} {d : List Int} {by_ : List (Option ArcI)} (hN : Net0 N all) (hg : ∀ a, a ∈ all → GoodA n f pr x a) (h : BF N all src t d by_) {v : Int} {p : List ArcI} (hp : CBI by_ v p) : 0 ≤ v → v < (N : Int) → dv d v < far →
    ∃ r, src r ∧ by_.getD r.toNat default = none ∧ PathTo n r v (p.map toU) ∧ (∀ b, b ∈ p → b ∈ all ∧ by_.getD b.to.toNat default = some b ∧ dv d b.to < far ∧ dv d b.frm < far ∧ dv d b.frm + b.weight ≤ dv d b.to ∧ ∃ q, CBI by_ b.to q ∧ q.length ≤ p.length) ∧ (p.map (·.to)).Nodup ∧ r ∉ p.map (·.to) := by
  induction hp with
  | @root v hr =>
    intro v0 v1 hv
    rcases h.no v v0 v1 hr with e | ⟨e1, _⟩
    · omega
    · exact ⟨v, e1, hr, .nil, fun b hb => (by simp at hb), by simp, by simp⟩
  | @step v b p hr hc ih =>
    intro v0 v1 hv
    obtain ⟨s1, s2, s3, s4⟩ := h.so v v0 v1 b hr
    obtain ⟨g0, _⟩ := hN b s1
    obtain ⟨r, r1, r2, r3, r4, r5, r6⟩ := ih g0.1 g0.2 s3
    have hself : CBI by_ v (b :: p) := .step hr hc
    refine ⟨r, r1, r2, ?_, fun c hcm => ?_, ?_, ?_⟩
    · have := PathTo.cons (a := toU b) (hg b s1).ok.1 r3
      rw [show (toU b).to = v from s2] at this
      exact this
    · rcases List.mem_cons.1 hcm with rfl | hcm
      · rw [s2]
        exact ⟨s1, hr, hv, s3, s4, _, hself, Nat.le_refl _⟩
      · obtain ⟨c1, c2, c3, c4, c5, q, c6, c7⟩ := r4 c hcm
        exact ⟨c1, c2, c3, c4, c5, q, c6, by rw [List.length_cons]; omega⟩
    · rw [List.map_cons, List.nodup_cons]
      refine ⟨fun hm => ?_, r5⟩
      obtain ⟨c, hcm, e⟩ := List.mem_map.1 hm
      obtain ⟨_, _, _, _, _, q, c6, c7⟩ := r4 c hcm
      have e : c.to = b.to := e
      rw [e, s2] at c6
      have := hself.det c6
      rw [← this, List.length_cons] at c7
      omega
    · rw [List.map_cons, List.mem_cons]
      rintro (e | e)
      · rw [e, s2, hr] at r2; cases r2
      · exact r6 e
theorem low_pot (π : Int → Int) : ∀ N : Nat, ∃ C : Int, 0 ≤ C ∧ ∀ v : Int, 0 ≤ v → v < (N : Int) → -C ≤ π v
  | 0 => ⟨0, by omega, fun v _ _ => by omega⟩
  | N + 1 => by
    obtain ⟨C, h0, h⟩ := low_pot π N
    refine ⟨max C (-π (N : Int)), by omega, fun v v0 v1 => ?_⟩
    by_cases c : v = (N : Int)
    · subst c; omega
    · have := h v v0 (by omega)
      omega
theorem arcs_after {n : Net} {f : Failure} {pr x : List Int} {p : List ArcI} {amt : Int} (hn : RightNet n) (hx : x.length = n.links.length) (hg : ∀ b, b ∈ p → GoodA n f pr x b) (hl : ((p.map toU).map (·.link)).Nodup) (h1 : 1 ≤ amt) {a : ArcI} (ha : GoodA n f pr (augP amt (p.map toU) x) a) :
    (∃ c, GoodA n f pr x c ∧ c.frm = a.frm ∧ c.to = a.to ∧ c.weight = a.weight) ∨ ∃ b, b ∈ p ∧ a.frm = b.to ∧ a.to = b.frm ∧ a.weight = -b.weight := by
  obtain ⟨k, hk, hu, h⟩ := ha
  by_cases c : ∃ b, b ∈ p ∧ b.link.toNat = k
  · obtain ⟨b, hb, e⟩ := c
    have hin := augP_in (amt := amt) (a := toU b) hx (p := p.map toU) (fun u hu => by
      obtain ⟨y, hy, rfl⟩ := List.mem_map.1 hu
      exact (hg y hy).ok.1) hl (List.mem_map.2 ⟨b, hb, rfl⟩)
    rw [show (toU b).link = b.link from rfl, e] at hin
    obtain ⟨kb, hkb, hub, hbb⟩ := hg b hb
    rcases hbb with ⟨g1, rfl⟩ | ⟨g1, rfl⟩
    · have ek : kb = k := by simpa [fwdI] using e
      subst ek
      rw [show (toU (fwdI n pr x kb)).back = false from rfl, if_neg (by simp)] at hin
      rcases h with ⟨h2, rfl⟩ | ⟨h2, rfl⟩
      · exact .inl ⟨fwdI n pr x kb, ⟨kb, hk, hu, .inl ⟨g1, rfl⟩⟩, rfl, rfl, rfl⟩
      · exact .inr ⟨_, hb, rfl, rfl, rfl⟩
    · have ek : kb = k := by simpa [bwdI] using e
      subst ek
      rcases h with ⟨h2, rfl⟩ | ⟨h2, rfl⟩
      · refine .inr ⟨_, hb, rfl, rfl, ?_⟩
        show pr.getD kb default = -(-pr.getD kb default)
        omega
      · exact .inl ⟨bwdI n pr x kb, ⟨kb, hk, hu, .inr ⟨g1, rfl⟩⟩, rfl, rfl, rfl⟩
  · have ho := augP_out (amt := amt) (k := k) (p := p.map toU) (x := x) fun u hu e => by
      obtain ⟨y, hy, rfl⟩ := List.mem_map.1 hu
      exact c ⟨y, hy, e⟩
    rw [ho] at h
    rcases h with ⟨h2, rfl⟩ | ⟨h2, rfl⟩
    · exact .inl ⟨fwdI n pr x k, ⟨k, hk, hu, .inl ⟨h2, rfl⟩⟩, rfl, rfl, rfl⟩
    · exact .inl ⟨bwdI n pr x k, ⟨k, hk, hu, .inr ⟨h2, rfl⟩⟩, rfl, rfl, rfl⟩
theorem pot_step {n : Net} {f : Failure} {pr x : List Int} {p all : List ArcI} {amt : Int} {src : Int → Prop} {t : Nat} {d : List Int} {by_ : List (Option ArcI)} {π : Int → Int} (hn : RightNet n) (hx : x.length = n.links.length) (hP : Bound pr n.links.length 1048576) (ha : Arcs2 n f pr x n.links.length all) (hπ : PotX n f pr x π) (h : BF n.nodes.length all src t d by_) (hr : DoneB n.nodes.length all src n.nodes.length d)
    (hg : ∀ b, b ∈ p → b ∈ all ∧ dv d b.to < far ∧ dv d b.frm < far ∧ dv d b.frm + b.weight ≤ dv d b.to) (hl : ((p.map toU).map (·.link)).Nodup) (h1 : 1 ≤ amt) : ∃ π', PotX n f pr (augP amt (p.map toU) x) π' := by
  have hN : Net0 n.nodes.length all := fun a hm => (ha.1 a hm).net hn hP
  have hnn := hn.nodes
  obtain ⟨C, C0, hC⟩ := low_pot π n.nodes.length
  refine ⟨fun v => if dv d v < far then dv d v else π v + C + 20000000, fun a hga => ?_⟩
  rcases arcs_after hn hx (fun b hb => ha.1 b (hg b hb).1) hl h1 hga with ⟨c, c1, c2, c3, c4⟩ | ⟨b, b1, b2, b3, b4⟩
  · have hc := (ha.all c).2 c1
    obtain ⟨⟨f0, f1⟩, ⟨t0, t1⟩, w0, w1⟩ := hN c hc
    have hpc := hπ c c1
    show (if dv d a.to < far then dv d a.to else π a.to + C + 20000000) ≤ (if dv d a.frm < far then dv d a.frm else π a.frm + C + 20000000) + a.weight
    rw [← c2, ← c3, ← c4]
    by_cases e : dv d c.frm < far
    · have st := h.stable hN hr hc e
      have sm := h.small hN hr f0 f1 e
      rw [if_pos e, if_pos (by unfold far; omega)]
      exact st
    · rw [if_neg e]
      have lo := hC c.frm f0 f1
      by_cases e2 : dv d c.to < far
      · have sm := h.small hN hr t0 t1 e2
        rw [if_pos e2]; omega
      · rw [if_neg e2]; omega
  · obtain ⟨g1, g2, g3, g4⟩ := hg b b1
    have st := h.stable hN hr g1 g3
    show (if dv d a.to < far then dv d a.to else π a.to + C + 20000000) ≤ (if dv d a.frm < far then dv d a.frm else π a.frm + C + 20000000) + a.weight
    rw [b2, b3, b4, if_pos g3, if_pos g2]; omega
end Go.Proofs.Ytfalnphlgfoflaa
namespace Go.Proofs.Ytfalnphlgfoflaa
open Go Go.RowKit
set_option linter.unusedSimpArgs false
set_option linter.unusedVariables false
theorem ite_iff {α : Type} {p q : Prop} {_ : Decidable p} {_ : Decidable q} {a b : α} (h : p ↔ q) : (if p then a else b) = if q then a else b := by
  by_cases c : p
  · rw [if_pos c, if_pos (h.1 c)]
  · rw [if_neg c, if_neg (fun r => c (h.2 r))]
def srcOf (s : Int) (v : Int) : Prop := s < 0 ∨ v = s
theorem distA {k : Nat} {n : Net} {s : Int} (hn : n.nodes.length ≤ 1000) : ∀ (m i : Nat) (l : List Int), i ≤ n.nodes.length → n.nodes.length - i < m → l.length = n.nodes.length → (∀ v : Nat, v < n.nodes.length → l.getD v default = if v < i ∧ 0 ≤ s ∧ (v : Int) ≠ s then far else 0) →
    ∃ l', sflow_distances_b_L0 k n s m (i : Int) l = some l' ∧ l'.length = n.nodes.length ∧ ∀ v : Nat, v < n.nodes.length → l'.getD v default = if 0 ≤ s ∧ (v : Int) ≠ s then far else 0 := by
  intro m
  induction m with
  | zero => intro i l h1 h2; omega
  | succ m ih =>
    intro i l h1 h2 h3 h4
    rw [sflow_distances_b_L0]
    by_cases c : (i : Int) < (n.nodes.length : Int)
    · rw [if_pos c, wr_succ i (by omega)]
      by_cases c1 : 0 ≤ s
      · rw [if_pos c1]
        by_cases c2 : (i : Int) ≠ s
        · rw [if_pos c2, if_pos ⟨by omega, c⟩, Int.toNat_natCast, if_pos (by omega)]
          refine ih (i + 1) _ (by omega) (by omega) (by simpa using h3) fun v hv => ?_
          by_cases e : i = v
          · subst e; rw [put_eq (by omega), if_pos ⟨by omega, c1, c2⟩]; rfl
          · rw [put_ne e, h4 v hv]
            by_cases g : v < i
            · exact ite_iff ⟨fun q => ⟨by omega, q.2⟩, fun q => ⟨g, q.2⟩⟩
            · rw [if_neg (fun q => g q.1), if_neg (fun q => by have := q.1; omega)]
        · rw [if_neg c2]
          refine ih (i + 1) _ (by omega) (by omega) h3 fun v hv => ?_
          rw [h4 v hv]
          by_cases g : v < i
          · exact ite_iff ⟨fun q => ⟨by omega, q.2⟩, fun q => ⟨g, q.2⟩⟩
          · rw [if_neg (fun q => g q.1), if_neg (fun q => by
              have q1 := q.1
              have q2 := q.2.2
              exact q2 (by omega))]
      · rw [if_neg c1]
        refine ih (i + 1) _ (by omega) (by omega) h3 fun v hv => ?_
        rw [h4 v hv, if_neg (fun q => c1 q.2.1), if_neg (fun q => c1 q.2.1)]
    · rw [if_neg c]
      have : i = n.nodes.length := by omega
      subst this
      refine ⟨l, rfl, h3, fun v hv => ?_⟩
      rw [h4 v hv]
      exact ite_iff ⟨fun q => q.2, fun q => ⟨hv, q⟩⟩
theorem distC {k : Nat} {n : Net} {src : Int → Prop} {all : List ArcI} {π : Int → Int} {d0 : List Int} (hN : Net0 n.nodes.length all) (hπ : Pot0 all π) (hl : all.length ≤ 100) : ∀ (m i t : Nat) (d : List Int) (b : List (Option ArcI)), i ≤ all.length → all.length - i < m → t + (all.length - i) ≤ 1000000 → BF n.nodes.length all src t d b → (∀ v : Int, 0 ≤ v → v < (n.nodes.length : Int) → dv d v ≤ dv d0 v) → (∀ j, j < i → dv d0 (all.getD j default).frm < far → dv d (all.getD j default).to ≤ dv d0 (all.getD j default).frm + (all.getD j default).weight) →
    ∃ d' b', sflow_distances_b_L2 k n all m (i : Int) d b = some (d', b') ∧ BF n.nodes.length all src (t + (all.length - i)) d' b' ∧ (∀ v : Int, 0 ≤ v → v < (n.nodes.length : Int) → dv d' v ≤ dv d0 v) ∧ ∀ a, a ∈ all → dv d0 a.frm < far → dv d' a.to ≤ dv d0 a.frm + a.weight := by
  intro m
  induction m with
  | zero => intro i t d b h1 h2; omega
  | succ m ih =>
    intro i t d b h1 h2 ht h h3 h4
    rw [sflow_distances_b_L2]
    by_cases c : (i : Int) < (all.length : Int)
    · have hi : i < all.length := by omega
      have hm : all.getD i default ∈ all := getD_mem hi
      obtain ⟨⟨f0, f1⟩, ⟨t0, t1⟩, w0, w1⟩ := hN _ hm
      have ld := h.ld
      have lb := h.lb
      rw [if_pos c, if_pos ⟨by omega, c⟩, gx_nat all i, if_pos ⟨f0, f1⟩, if_pos (by omega)]
      have e : t + 1 + (all.length - (i + 1)) = t + (all.length - i) := by omega
      have lo := h.lo _ f0 f1
      by_cases c1 : dv d (all.getD i default).frm < far
      · rw [if_pos (show d.getD (all.getD i default).frm.toNat default < 1125899906842624 from c1), if_pos ⟨t0, t1⟩, if_pos (by omega), wr_succ i (by omega)]
        have ew : IntKind.i64.wrap (d.getD (all.getD i default).frm.toNat default + (all.getD i default).weight) = dv d (all.getD i default).frm + (all.getD i default).weight := by
          show IntKind.i64.wrap (dv d (all.getD i default).frm + (all.getD i default).weight) = _
          unfold far at c1
          exact wr64 (by omega)
        rw [ew]
        by_cases c2 : dv d (all.getD i default).frm + (all.getD i default).weight < dv d (all.getD i default).to
        · rw [if_pos (show dv d (all.getD i default).frm + (all.getD i default).weight < d.getD (all.getD i default).to.toNat default from c2), if_pos (by omega)]
          have h' := h.relax hN hπ hm c1 c2
          have hd : ∀ v, 0 ≤ v → dv (d.set (all.getD i default).to.toNat (dv d (all.getD i default).frm + (all.getD i default).weight)) v = if v = (all.getD i default).to then dv d (all.getD i default).frm + (all.getD i default).weight else dv d v := fun v hv => dv_set t0 (by omega) hv
          have dle : ∀ v, 0 ≤ v → dv (d.set (all.getD i default).to.toNat (dv d (all.getD i default).frm + (all.getD i default).weight)) v ≤ dv d v := fun v hv => by
            rw [hd v hv]
            split
            · next e => subst e; omega
            · exact Int.le_refl _
          have := ih (i + 1) (t + 1) _ _ (by omega) (by omega) (by omega) h' (fun v v0 v1 => Int.le_trans (dle v v0) (h3 v v0 v1)) (fun j hj hf => by
            rcases Nat.lt_succ_iff_lt_or_eq.1 hj with z | z
            · have := h4 j z hf
              have := dle (all.getD j default).to (hN _ (getD_mem (by omega))).2.1.1
              omega
            · subst z
              rw [hd _ t0, if_pos rfl]
              have := h3 _ f0 f1
              omega)
          rw [e] at this
          exact this
        · rw [if_neg (show ¬ dv d (all.getD i default).frm + (all.getD i default).weight < d.getD (all.getD i default).to.toNat default from c2)]
          have := ih (i + 1) (t + 1) _ _ (by omega) (by omega) (by omega) (h.later (by omega)) h3 (fun j hj hf => by
            rcases Nat.lt_succ_iff_lt_or_eq.1 hj with z | z
            · exact h4 j z hf
            · subst z
              have := h3 _ f0 f1
              omega)
          rw [e] at this
          exact this
      · rw [if_neg (show ¬ d.getD (all.getD i default).frm.toNat default < 1125899906842624 from c1), wr_succ i (by omega)]
        have := ih (i + 1) (t + 1) _ _ (by omega) (by omega) (by omega) (h.later (by omega)) h3 (fun j hj hf => by
          rcases Nat.lt_succ_iff_lt_or_eq.1 hj with z | z
          · exact h4 j z hf
          · subst z
            have := h3 _ f0 f1
            omega)
        rw [e] at this
        exact this
    · rw [if_neg c]
      have : i = all.length := by omega
      subst this
      refine ⟨d, b, rfl, h.later (by omega), h3, fun a ha hf => ?_⟩
      obtain ⟨j, hj, rfl⟩ := List.getElem_of_mem ha
      have := h4 j hj
      rw [getD_of hj] at this
      exact this hf
theorem distB {k : Nat} {n : Net} {src : Int → Prop} {all : List ArcI} {π : Int → Int} (hN : Net0 n.nodes.length all) (hπ : Pot0 all π) (hl : all.length ≤ 100) (hn : n.nodes.length ≤ 10) (hk : 5000 < k) : ∀ (m i : Nat) (d : List Int) (b : List (Option ArcI)), i ≤ n.nodes.length → n.nodes.length - i < m → BF n.nodes.length all src (i * all.length) d b → DoneB n.nodes.length all src i d →
    ∃ d' b' t, sflow_distances_b_L1 k n all m (i : Int) d b = some (d', b') ∧ BF n.nodes.length all src t d' b' ∧ DoneB n.nodes.length all src n.nodes.length d' := by
  intro m
  induction m with
  | zero => intro i d b h1 h2; omega
  | succ m ih =>
    intro i d b h1 h2 h3 h4
    rw [sflow_distances_b_L1]
    by_cases c : (i : Int) < (n.nodes.length : Int)
    · have hmul : i * all.length ≤ 10 * 100 := Nat.mul_le_mul (by omega) hl
      obtain ⟨d', b', e, g1, g2, g3⟩ := distC (k := k) (d0 := d) hN hπ hl k 0 (i * all.length) d b (by omega) (by omega) (by omega) h3 (fun _ _ _ => Int.le_refl _) (fun j hj => by omega)
      rw [show ((0 : Nat) : Int) = 0 from rfl] at e
      rw [if_pos c, e, Option.bind_some, Option.bind_some, wr_succ i (by omega)]
      refine ih (i + 1) d' b' (by omega) (by omega) ?_ (h4.next hN (by omega) g2 g3)
      rw [Nat.sub_zero] at g1
      rw [Nat.succ_mul]; exact g1
    · rw [if_neg c]
      have : i = n.nodes.length := by omega
      subst this
      exact ⟨d, b, _, rfl, h3, h4⟩
theorem distances_spec {k : Nat} {n : Net} {all : List ArcI} {π : Int → Int} {s : Int} (hN : Net0 n.nodes.length all) (hπ : Pot0 all π) (hl : all.length ≤ 100) (hn : n.nodes.length ≤ 10) (hk : 5000 < k) :
    ∃ d b t, sflow_distances_b k n all s = some (b, d, n.nodes.length) ∧ BF n.nodes.length all (srcOf s) t d b ∧ DoneB n.nodes.length all (srcOf s) n.nodes.length d := by
  obtain ⟨d0, e0, l0, h0⟩ := distA (k := k) (n := n) (s := s) (by omega) k 0 (List.replicate n.nodes.length 0) (by omega) (by omega) (by simp) (fun v hv => by
    rw [if_neg (fun q => by have := q.1; omega), getD_of (by simpa using hv)]; simp)
  rw [show ((0 : Nat) : Int) = 0 from rfl] at e0
  have hd : ∀ v : Int, 0 ≤ v → v < (n.nodes.length : Int) → dv d0 v = if 0 ≤ s ∧ v ≠ s then far else 0 := fun v v0 v1 => by
    have := h0 v.toNat (by omega)
    rw [show ((v.toNat : Nat) : Int) = v by omega] at this
    exact this
  have hb : ∀ v : Int, (List.replicate n.nodes.length (none : Option ArcI)).getD v.toNat default = none := fun v => by
    rw [List.getD_eq_getElem?_getD, List.getElem?_replicate]
    split <;> rfl
  have bf0 : BF n.nodes.length all (srcOf s) (0 * all.length) d0 (List.replicate n.nodes.length none) := by
    refine ⟨l0, by simp, fun v v0 v1 => ?_, fun v v0 v1 => ?_, fun v v0 v1 hs => ?_, fun v v0 v1 _ => ?_, fun v v0 v1 a ha => ?_, fun v v0 v1 _ => ⟨[], .root (hb v)⟩⟩
    · rw [hd v v0 v1]; unfold far; split <;> omega
    · rw [hd v v0 v1]; unfold far; split <;> omega
    · rw [hd v v0 v1, if_neg (fun q => by rcases hs with r | r <;> omega)]; exact Int.le_refl _
    · rw [hd v v0 v1]
      by_cases c : 0 ≤ s ∧ v ≠ s
      · rw [if_pos c]; exact .inl rfl
      · rw [if_neg c]
        refine .inr ⟨?_, rfl⟩
        unfold srcOf
        by_cases c1 : s < 0
        · exact .inl c1
        · exact .inr (Decidable.byContradiction fun q => c ⟨by omega, q⟩)
    · rw [hb v] at ha; cases ha
  have dn0 : DoneB n.nodes.length all (srcOf s) 0 d0 := fun v c k hw hk => by
    have hk0 : k = 0 := by omega
    subst hk0
    cases hw with
    | nil v0 v1 hs => exact bf0.src0 v v0 v1 hs
  obtain ⟨d, b, t, e, g1, g2⟩ := distB (k := k) hN hπ hl hn hk k 0 d0 _ (by omega) (by omega) bf0 dn0
  rw [show ((0 : Nat) : Int) = 0 from rfl] at e
  refine ⟨d, b, t, ?_, g1, g2⟩
  unfold sflow_distances_b
  rw [if_pos (by omega), e0, Option.bind_some, e, Option.bind_some, if_pos g1.lb]
end Go.Proofs.Ytfalnphlgfoflaa
namespace Go.Proofs.Ytfalnphlgfoflaa
open Go Go.RowKit
set_option linter.unusedSimpArgs false
set_option linter.unusedVariables false
theorem weigh_f {k : Nat} {pr : List Int} {i : Nat} (hi : i < pr.length) : sflow_Cheap_1 k (i : Int) false pr = some (pr.getD i default) := by
  unfold sflow_Cheap_1
  rw [if_neg (by simp), if_pos ⟨by omega, by omega⟩]; rfl
theorem weigh_b {k : Nat} {pr : List Int} {i : Nat} (hi : i < pr.length) (hp : 0 ≤ pr.getD i default ∧ pr.getD i default ≤ 1048576) : sflow_Cheap_1 k (i : Int) true pr = some (-pr.getD i default) := by
  unfold sflow_Cheap_1
  rw [if_pos rfl, if_pos ⟨by omega, by omega⟩, gx_nat, wr64 (by omega)]
  congr 1; omega
def nxt1 (n : Net) (f : Failure) (pr x : List Int) (i : Nat) (l : List ArcI) : List ArcI := if UpP n f (i : Int) ∧ x.getD i default < (n.links.getD i default).cap then l ++ [fwdI n pr x i] else l
def nxt2 (n : Net) (f : Failure) (pr x : List Int) (i : Nat) (l : List ArcI) : List ArcI := if UpP n f (i : Int) ∧ 0 < x.getD i default then nxt1 n f pr x i l ++ [bwdI n pr x i] else nxt1 n f pr x i l
theorem mem_nxt1 {n : Net} {f : Failure} {pr x : List Int} {i : Nat} {l : List ArcI} (a : ArcI) : a ∈ nxt1 n f pr x i l ↔ a ∈ l ∨ ((UpP n f (i : Int) ∧ x.getD i default < (n.links.getD i default).cap) ∧ a = fwdI n pr x i) := by
  unfold nxt1
  split
  · next c => rw [List.mem_append, List.mem_singleton]; exact ⟨fun h => h.elim .inl fun e => .inr ⟨c, e⟩, fun h => h.elim .inl fun e => .inr e.2⟩
  · next c => exact ⟨.inl, fun h => h.elim id fun e => (c e.1).elim⟩
theorem mem_nxt2 {n : Net} {f : Failure} {pr x : List Int} {i : Nat} {l : List ArcI} (a : ArcI) : a ∈ nxt2 n f pr x i l ↔ a ∈ nxt1 n f pr x i l ∨ ((UpP n f (i : Int) ∧ 0 < x.getD i default) ∧ a = bwdI n pr x i) := by
  unfold nxt2
  split
  · next c => rw [List.mem_append, List.mem_singleton]; exact ⟨fun h => h.elim .inl fun e => .inr ⟨c, e⟩, fun h => h.elim .inl fun e => .inr e.2⟩
  · next c => exact ⟨.inl, fun h => h.elim id fun e => (c e.1).elim⟩
theorem arcs2_next {n : Net} {f : Failure} {pr x : List Int} {i : Nat} {l : List ArcI} (hi : i < n.links.length) (h : Arcs2 n f pr x i l) : Arcs2 n f pr x (i + 1) (nxt2 n f pr x i l) := by
  obtain ⟨h1, h2, h3, h4⟩ := h
  refine ⟨fun a ha => ?_, fun k hk hu hc => ?_, fun k hk hu hc => ?_, ?_⟩
  · rcases (mem_nxt2 a).1 ha with ha | ⟨⟨u, q⟩, e⟩
    · rcases (mem_nxt1 a).1 ha with ha | ⟨⟨u, q⟩, e⟩
      · exact h1 a ha
      · exact ⟨i, hi, u, .inl ⟨q, e⟩⟩
    · exact ⟨i, hi, u, .inr ⟨q, e⟩⟩
  · rw [mem_nxt2, mem_nxt1]
    by_cases c : k < i
    · exact .inl (.inl (h2 k c hu hc))
    · have : k = i := by omega
      subst this
      exact .inl (.inr ⟨⟨hu, hc⟩, rfl⟩)
  · rw [mem_nxt2, mem_nxt1]
    by_cases c : k < i
    · exact .inl (.inl (h3 k c hu hc))
    · have : k = i := by omega
      subst this
      exact .inr ⟨⟨hu, hc⟩, rfl⟩
  · have c1 : (nxt1 n f pr x i l).length ≤ l.length + 1 := by unfold nxt1; split <;> simp
    have c2 : (nxt2 n f pr x i l).length ≤ (nxt1 n f pr x i l).length + 1 := by unfold nxt2; split <;> simp
    omega
theorem arcsI_L0 {k : Nat} {n : Net} {f : Failure} {pr x : List Int} (hn : RightNet n) (hP : Bound pr n.links.length 1048576) (hx : x.length = n.links.length) (hg : ∀ j, j < n.links.length → GoodK n f x j) (hl : f.links.length < 9223372036854775808) (hk : f.links.length < k) : ∀ (m i : Nat) (l : List ArcI), i ≤ n.links.length → n.links.length - i < m → Arcs2 n f pr x i l →
    ∃ l', sflow_arcsI_b_L0 k n.links.length n f pr x m (i : Int) l l.length = some (l', l'.length) ∧ Arcs2 n f pr x n.links.length l' := by
  have hnl := hn.links
  have hpl : pr.length = n.links.length := by have := hP.1; omega
  intro m
  induction m with
  | zero => intro i l h1 h2; omega
  | succ m ih =>
    intro i l h1 h2 h3
    rw [sflow_arcsI_b_L0]
    by_cases c : (i : Int) < (n.links.length : Int)
    · have hi : i < n.links.length := by omega
      have hc := hn.cap i hi
      have hw := hP.2 _ (getD_mem (show i < pr.length by omega))
      obtain ⟨g1, g2, g3⟩ := hg i hi
      have h3l := h3.2.2.2
      rw [if_pos c, if_pos ⟨by omega, c⟩, Up_spec hl hk hi, Option.bind_some, gx_nat n.links i, Int.toNat_natCast, wr_succ i (by omega)]
      have nx := arcs2_next hi h3
      by_cases u : UpP n f (i : Int)
      · rw [if_pos (decide_eq_true u), if_pos ⟨by omega, by omega⟩, if_pos (by omega), weigh_f (by omega), weigh_b (by omega) hw]
        have e1 : ((if x.getD i default < (n.links.getD i default).cap then ((some (pr.getD i default)).bind fun r1 => (if (l.length + 1) * 49 ≤ 1000000000 then some (l ++ [(⟨(i : Int), (n.links.getD i default).frm, (n.links.getD i default).to, IntKind.i64.wrap ((n.links.getD i default).cap - (x.getD i default)), false, r1⟩ : ArcI)], l.length + 1) else none)) else some (l, l.length)) : Option (List ArcI × Nat)) = some (nxt1 n f pr x i l, (nxt1 n f pr x i l).length) := by
          unfold nxt1
          by_cases q : x.getD i default < (n.links.getD i default).cap
          · rw [if_pos q, if_pos ⟨u, q⟩, Option.bind_some, if_pos (by omega), wr64 (by omega), List.length_append]; rfl
          · rw [if_neg q, if_neg (fun z => q z.2)]
        rw [e1, Option.bind_some]
        have c1 : (nxt1 n f pr x i l).length ≤ l.length + 1 := by unfold nxt1; split <;> simp
        by_cases q : 0 < x.getD i default
        · have e2 : nxt2 n f pr x i l = nxt1 n f pr x i l ++ [bwdI n pr x i] := by unfold nxt2; rw [if_pos ⟨u, q⟩]
          rw [if_pos q, Option.bind_some, if_pos (by show ((nxt1 n f pr x i l).length + 1) * 49 ≤ _; omega)]
          obtain ⟨l', k1, k2⟩ := ih (i + 1) (nxt2 n f pr x i l) (by omega) (by omega) nx
          rw [e2, List.length_append] at k1
          exact ⟨l', k1, k2⟩
        · have e2 : nxt2 n f pr x i l = nxt1 n f pr x i l := by unfold nxt2; rw [if_neg (fun z => q z.2)]
          rw [if_neg q]
          obtain ⟨l', k1, k2⟩ := ih (i + 1) (nxt2 n f pr x i l) (by omega) (by omega) nx
          rw [e2] at k1
          exact ⟨l', k1, k2⟩
      · have e2 : nxt2 n f pr x i l = l := by unfold nxt2 nxt1; rw [if_neg (fun z => u z.1), if_neg (fun z => u z.1)]
        rw [if_neg (by simpa using u)]
        obtain ⟨l', k1, k2⟩ := ih (i + 1) (nxt2 n f pr x i l) (by omega) (by omega) nx
        rw [e2] at k1
        exact ⟨l', k1, k2⟩
    · rw [if_neg c]
      have : i = n.links.length := by omega
      subst this
      exact ⟨l, rfl, h3⟩
theorem arcsI_spec {k : Nat} {n : Net} {f : Failure} {pr x : List Int} (hn : RightNet n) (hP : Bound pr n.links.length 1048576) (hx : x.length = n.links.length) (hg : ∀ j, j < n.links.length → GoodK n f x j) (hl : f.links.length < 9223372036854775808) (hk : f.links.length < k) (hk2 : 100 < k) : ∃ l, sflow_arcsI_b k n.links.length n f pr x = some l ∧ Arcs2 n f pr x n.links.length l := by
  have hnl := hn.links
  obtain ⟨l, h1, h2⟩ := arcsI_L0 hn hP hx hg hl hk k 0 [] (by omega) (by omega) ⟨fun a ha => (by cases ha), fun k hk => by omega, fun k hk => by omega, by simp⟩
  refine ⟨l, ?_, h2⟩
  unfold sflow_arcsI_b
  rw [show ((0 : Nat) : Int) = 0 from rfl, List.length_nil] at h1
  rw [h1, Option.bind_some, if_pos rfl]
theorem map_at (l : List (Option ArcI)) (i : Nat) : (l.map (Option.map toU)).getD i default = (l.getD i default).map toU := by
  rw [List.getD_eq_getElem?_getD, List.getD_eq_getElem?_getD, List.getElem?_map]
  cases l[i]? <;> rfl
theorem pushI_L0 {k : Nat} {by_ : List (Option ArcI)} {s : Int} : ∀ (m : Nat) (amt at_ : Int), sflow_pushI_b_L0 k by_ s m amt at_ = sflow_pushU_b_L0 k (by_.map (Option.map toU)) s m amt at_
  | 0, _, _ => rfl
  | m + 1, amt, at_ => by
    rw [sflow_pushI_b_L0, sflow_pushU_b_L0, List.length_map]
    have e : gx (by_.map (Option.map toU)) at_ = (gx by_ at_).map toU := map_at by_ at_.toNat
    rw [e]
    cases h : gx by_ at_ with
    | none => rfl
    | some a =>
      have ih := pushI_L0 (k := k) (by_ := by_) (s := s) m (min amt a.room) a.frm
      simp only [Option.map_some, Option.getD_some, Option.isSome_some]
      rw [ih]; rfl
theorem pushI_L1 {k N : Nat} {by_ : List (Option ArcI)} {s amt : Int} : ∀ (m : Nat) (at_ : Int) (l : List Int), sflow_pushI_b_L1 k N by_ s amt m at_ l = sflow_pushU_b_L1 k N (by_.map (Option.map toU)) s amt m at_ l
  | 0, _, _ => rfl
  | m + 1, at_, l => by
    rw [sflow_pushI_b_L1, sflow_pushU_b_L1, List.length_map]
    have e : gx (by_.map (Option.map toU)) at_ = (gx by_ at_).map toU := map_at by_ at_.toNat
    rw [e]
    cases h : gx by_ at_ with
    | none => rfl
    | some a =>
      have ih1 := pushI_L1 (k := k) (N := N) (by_ := by_) (s := s) (amt := amt) m a.frm (l.set a.link.toNat (IntKind.i64.wrap (l.getD a.link.toNat default - amt)))
      have ih2 := pushI_L1 (k := k) (N := N) (by_ := by_) (s := s) (amt := amt) m a.frm (l.set a.link.toNat (IntKind.i64.wrap (l.getD a.link.toNat default + amt)))
      simp only [Option.map_some, Option.getD_some, Option.isSome_some]
      rw [ih1, ih2]; rfl
theorem pushI_eq {k N : Nat} {by_ : List (Option ArcI)} {s t amt : Int} {l : List Int} : sflow_pushI_b k N by_ s t amt l = sflow_pushU_b k N (by_.map (Option.map toU)) s t amt l := by
  unfold sflow_pushI_b sflow_pushU_b
  rw [pushI_L0]
  congr 1
  funext r
  rw [pushI_L1]
theorem CBI.cb {by_ : List (Option ArcI)} {s : Int} {N : Nat} (hb : by_.length = N) : ∀ {v : Int} {p : List ArcI}, CBI by_ v p → 0 ≤ v → v < (N : Int) → (∀ b, b ∈ p → 0 ≤ b.frm ∧ b.frm < (N : Int)) → (∀ r, 0 ≤ r → r < (N : Int) → by_.getD r.toNat default = none → (∃ q, CBI by_ v q) → (r = v ∨ r ∈ p.map (·.frm)) → r = s) → by_.getD s.toNat default = none → CB (by_.map (Option.map toU)) s v (p.map toU) := by
  intro v p hp
  induction hp with
  | @root v hr =>
    intro v0 v1 _ hs _
    rw [hs v v0 v1 hr ⟨[], .root hr⟩ (.inl rfl)]; exact .nil
  | @step v b p hr hc ih =>
    intro v0 v1 hf hs h0
    have g := hf b (by simp)
    refine .cons (a := toU b) (fun e => ?_) v0 (by rw [List.length_map]; omega) (by rw [map_at, hr]; rfl) (ih g.1 g.2 (fun c hc => hf c (by simp [hc])) (fun r r0 r1 rn _ hr2 => ?_) h0)
    · subst e; rw [hr] at h0; cases h0
    · refine hs r r0 r1 rn ⟨_, .step hr hc⟩ (.inr ?_)
      rw [List.map_cons, List.mem_cons]
      exact hr2
end Go.Proofs.Ytfalnphlgfoflaa
namespace Go.Proofs.Ytfalnphlgfoflaa
open Go Go.RowKit
set_option linter.unusedSimpArgs false
set_option linter.unusedVariables false
def nearS (d : List Int) : Nat → List Int
  | 0 => []
  | i + 1 => if dv d (i : Int) < far then nearS d i ++ [(i : Int)] else nearS d i
theorem nearS_mem (d : List Int) (v : Int) : ∀ i, v ∈ nearS d i ↔ 0 ≤ v ∧ v < (i : Int) ∧ dv d v < far
  | 0 => ⟨fun h => by simp [nearS] at h, fun h => by omega⟩
  | i + 1 => by
    have ih := nearS_mem d v i
    unfold nearS
    split
    · next c =>
      rw [List.mem_append, List.mem_singleton, ih]
      constructor
      · rintro (h | rfl)
        · exact ⟨h.1, by omega, h.2.2⟩
        · exact ⟨by omega, by omega, c⟩
      · rintro ⟨h1, h2, h3⟩
        by_cases e : v = (i : Int)
        · exact .inr e
        · exact .inl ⟨h1, by omega, h3⟩
    · next c =>
      rw [ih]
      constructor
      · rintro ⟨h1, h2, h3⟩; exact ⟨h1, by omega, h3⟩
      · rintro ⟨h1, h2, h3⟩
        by_cases e : v = (i : Int)
        · subst e; exact (c h3).elim
        · exact ⟨h1, by omega, h3⟩
theorem arcI_of {n : Net} {f : Failure} {pr x : List Int} {u : ArcU} (h : ArcOk n f x u) : ∃ a, GoodA n f pr x a ∧ a.frm = u.frm ∧ a.to = u.to := by
  obtain ⟨⟨l0, l1, h1⟩, h2, h3⟩ := h
  have e : ((u.link.toNat : Nat) : Int) = u.link := by omega
  unfold lnk at h1 h3
  rcases h1 with ⟨b1, b2, b3⟩ | ⟨b1, b2, b3⟩
  · rcases h3 with ⟨_, _, c⟩ | ⟨c, _⟩
    · exact ⟨fwdI n pr x u.link.toNat, ⟨u.link.toNat, by omega, by rw [e]; exact h2, .inl ⟨c, rfl⟩⟩, b2.symm, b3.symm⟩
    · rw [b1] at c; cases c
  · rcases h3 with ⟨c, _⟩ | ⟨_, _, c⟩
    · rw [b1] at c; cases c
    · exact ⟨bwdI n pr x u.link.toNat, ⟨u.link.toNat, by omega, by rw [e]; exact h2, .inr ⟨c, rfl⟩⟩, b2.symm, b3.symm⟩
theorem Cheap_L0 {k : Nat} {n : Net} {f : Failure} {pr : List Int} {a b amount : Int} (hn : RightNet n) (ha : isNodeP n a) (hb : isNodeP n b) (hne : a ≠ b) (hP : Bound pr n.links.length 1048576) (hl : f.links.length < 9223372036854775808) (hk : f.links.length < k) (hk2 : 10000 < k) (hA : 0 ≤ amount ∧ amount ≤ 4294967296) : ∀ (m : Nat) (left : Int) (x : List Int), IsFlow n f a b x → exS n.links x a + left = amount → (∃ π, PotX n f pr x π) → 0 ≤ left → left.toNat < m →
    (∃ y, sflow_Cheap_L0 k n f pr a b m left x = some (.inr y) ∧ IsFlow n f a b y ∧ exS n.links y a = amount ∧ ∃ π, PotX n f pr y π) ∨ (sflow_Cheap_L0 k n f pr a b m left x = some (.inl ([], [], 19)) ∧ ∀ y, IsFlow n f a b y → exS n.links y a < amount) := by
  have hnn := hn.nodes
  have hnl := hn.links
  intro m
  induction m with
  | zero => intro left x hx h1 h2 h3 h4; omega
  | succ m ih =>
    intro left x hx h1 hpot h3 h4
    obtain ⟨_, hxl, hg, h0, hv⟩ := id hx
    rw [sflow_Cheap_L0]
    by_cases c0 : 0 < left
    · obtain ⟨π, hπ⟩ := hpot
      obtain ⟨all, e1, ar⟩ := arcsI_spec (k := k) hn hP hxl hg hl hk (by omega)
      have hN : Net0 n.nodes.length all := fun c hc => (ar.1 c hc).net hn hP
      have hp0 : Pot0 all π := fun c hc => hπ c (ar.1 c hc)
      have hal := ar.2.2.2
      obtain ⟨d, by_, t, e2, bf, dn⟩ := distances_spec (k := k) (n := n) (s := a) hN hp0 (by omega) hnn (by omega)
      have ld := bf.ld
      rw [if_pos c0, e1, Option.bind_some, e2, Option.bind_some]
      dsimp only
      rw [if_pos (show 0 ≤ b ∧ b < (n.nodes.length : Int) from hb), if_pos (show b.toNat < d.length by have := hb.1; have := hb.2; omega)]
      by_cases c1 : far ≤ dv d b
      · rw [if_pos (show 1125899906842624 ≤ d.getD b.toNat default from c1)]
        refine .inr ⟨rfl, fun y hy => ?_⟩
        have hac : a ∈ nearS d n.nodes.length := (nearS_mem d a _).2 ⟨ha.1, ha.2, by have := bf.src0 a ha.1 ha.2 (.inr rfl); unfold far; omega⟩
        have hbc : b ∉ nearS d n.nodes.length := fun hm => by have := ((nearS_mem d b _).1 hm).2.2; omega
        have sat := saturated (y := x) hn ha hb hac hbc hx (fun u hu hf => by
          obtain ⟨w, w1, w2, w3⟩ := arcI_of (pr := pr) hu
          have hw := (ar.all w).2 w1
          obtain ⟨⟨f0, f1⟩, ⟨t0, t1⟩, w4, w5⟩ := hN w hw
          rw [← w2] at hf
          rw [← w3]
          have hf := ((nearS_mem d w.frm _).1 hf).2.2
          have st := bf.stable hN dn hw hf
          have sm := bf.small hN dn f0 f1 hf
          exact (nearS_mem d w.to _).2 ⟨t0, t1, by unfold far; omega⟩)
        have := cut_bounds hn ha hb hac hbc hy
        omega
      · rw [if_neg (show ¬ 1125899906842624 ≤ d.getD b.toNat default from c1)]
        have hlt : dv d b < far := by omega
        obtain ⟨p, hp⟩ := bf.ch b hb.1 hb.2 hlt
        obtain ⟨r, r1, r2, r3, r4, r5, r6⟩ := bf.path hN ar.1 hp hb.1 hb.2 hlt
        have hra : r = a := by
          rcases r1 with q | q
          · have := ha.1; omega
          · exact q
        subst hra
        have hsh := bf.short hN hp hb.1 hb.2
        have cb := hp.cb (s := r) bf.lb hb.1 hb.2 (fun w hw => (hN w (r4 w hw).1).1) (fun z z0 z1 zn _ hz => by
          have hzf : dv d z < far := by
            rcases hz with rfl | hz
            · exact hlt
            · obtain ⟨w, hw, rfl⟩ := List.mem_map.1 hz
              exact (r4 w hw).2.2.2.1
          rcases bf.no z z0 z1 zn with q | ⟨q, _⟩
          · omega
          · rcases q with q | q
            · have := ha.1; omega
            · exact q) r2
        have m5 : ((p.map toU).map (·.to)).Nodup := by rw [List.map_map]; exact r5
        have m6 : r ∉ (p.map toU).map (·.to) := by rw [List.map_map]; exact r6
        have hok : ∀ u, u ∈ p.map toU → ArcOk n f x u := fun u hu => by
          obtain ⟨w, hw, rfl⟩ := List.mem_map.1 hu
          exact (ar.1 w (r4 w hw).1).ok
        have hroom : ∀ u, u ∈ p.map toU → 1 ≤ u.room := fun u hu => by
          obtain ⟨w, hw, rfl⟩ := List.mem_map.1 hu
          exact (ar.1 w (r4 w hw).1).room
        have hamt := minP_ge (p.map toU) left (by omega) hroom
        have hle := minP_le (p.map toU) left
        have hpl : ((p.map toU).map (·.link)).Nodup := path_links hn r3 m5 m6
        obtain ⟨af1, af2⟩ := aug_flow (amt := minP left (p.map toU)) hn hne hx r3 hok m5 m6 hamt hle.2
        have e : sflow_pushI_b k n.links.length by_ r b left x = some (minP left (p.map toU), augP (minP left (p.map toU)) (p.map toU) x) := by
          rw [pushI_eq]
          unfold sflow_pushU_b
          rw [push_L0 cb k _ (by rw [List.length_map]; omega), Option.bind_some, push_L1 (n := n) (x := x) (by omega) cb (fun u hu => by
            have q1 := (hok u hu).1
            obtain ⟨g1, g2, _⟩ := hg u.link.toNat (by have := q1.1; have := q1.2.1; omega)
            have := (hn.cap u.link.toNat (by have := q1.1; have := q1.2.1; omega)).2
            exact ⟨q1, g1, by omega⟩) hpl k x (by rw [List.length_map]; omega) hxl (fun _ _ => rfl), Option.bind_some]
        rw [e, Option.bind_some]
        have hw : IntKind.i64.wrap (left - minP left (p.map toU)) = left - minP left (p.map toU) := wr64 (by have := hle.1; omega)
        show (∃ y, sflow_Cheap_L0 k n f pr r b m (IntKind.i64.wrap (left - minP left (p.map toU))) (augP (minP left (p.map toU)) (p.map toU) x) = _ ∧ _) ∨ sflow_Cheap_L0 k n f pr r b m (IntKind.i64.wrap (left - minP left (p.map toU))) (augP (minP left (p.map toU)) (p.map toU) x) = _ ∧ _
        rw [hw]
        exact ih _ _ af1 (by omega) (pot_step hn hxl hP ar hπ bf dn (fun w hw => ⟨(r4 w hw).1, (r4 w hw).2.2.1, (r4 w hw).2.2.2.1, (r4 w hw).2.2.2.2.1⟩) hpl hamt) (by have := hle.1; omega) (by have := hle.1; omega)
    · rw [if_neg c0]
      exact .inl ⟨x, rfl, hx, by omega, hpot⟩
end Go.Proofs.Ytfalnphlgfoflaa
namespace Go.Proofs.Ytfalnphlgfoflaa
open Go Go.RowKit
set_option linter.unusedSimpArgs false
set_option linter.unusedVariables false
theorem greatest_val {n : Net} {f : Failure} {s t : Int} {x c y : List Int} (hn : RightNet n) (ht : Two n s t) (h : MaxOk n f s t x c) (hy : IsFlow n f s t y) : exS n.links y s ≤ exS n.links x s := by
  rw [← saturated hn ht.1 ht.2.1 ((h.2.2.2.1 s).2 .refl) h.2.2.2.2.1 h.1 (fun a ha hf => (h.2.2.2.1 _).2 (.step ((h.2.2.2.1 _).1 hf) ha))]
  exact cut_bounds hn ht.1 ht.2.1 ((h.2.2.2.1 s).2 .refl) h.2.2.2.2.1 hy
theorem Min_L0 {k : Nat} {l : List Int} (hl : l.length ≤ 1000) : ∀ (m i : Nat) (acc : Int), i ≤ l.length → l.length - i < m → ∃ r, sslices_Min_L0 k l m acc (i : Int) = some r ∧ r ≤ acc ∧ (∀ j, i ≤ j → j < l.length → r ≤ l.getD j default) ∧ (r = acc ∨ ∃ j, i ≤ j ∧ j < l.length ∧ l.getD j default = r) := by
  intro m
  induction m with
  | zero => intro i acc h1 h2; omega
  | succ m ih =>
    intro i acc h1 h2
    rw [sslices_Min_L0]
    by_cases c : (i : Int) < (l.length : Int)
    · have hi : i < l.length := by omega
      rw [if_pos c, if_pos ⟨by omega, c⟩, gx_nat l i, wr_succ i (by omega)]
      obtain ⟨r, e, g1, g2, g3⟩ := ih (i + 1) (min acc (l.getD i default)) (by omega) (by omega)
      refine ⟨r, e, by omega, fun j h3 h4 => ?_, ?_⟩
      · by_cases d : j = i
        · subst d; omega
        · exact g2 j (by omega) h4
      · rcases g3 with g | ⟨j, g4, g5, g6⟩
        · by_cases d : acc ≤ l.getD i default
          · exact .inl (by omega)
          · exact .inr ⟨i, Nat.le_refl _, hi, by omega⟩
        · exact .inr ⟨j, by omega, g5, g6⟩
    · rw [if_neg c]
      exact ⟨acc, rfl, Int.le_refl _, fun j h3 h4 => by omega, .inl rfl⟩
theorem Min_spec {k : Nat} {l : List Int} (hl : l.length ≤ 1000) (h0 : 0 < l.length) (hk : 2000 < k) : ∃ r, sslices_Min k l = some r ∧ (∀ j, j < l.length → r ≤ l.getD j default) ∧ ∃ j, j < l.length ∧ l.getD j default = r := by
  obtain ⟨r, e, g1, g2, g3⟩ := Min_L0 (k := k) hl k 1 (l.getD 0 default) (by omega) (by omega)
  rw [show ((1 : Nat) : Int) = 1 from rfl] at e
  refine ⟨r, ?_, fun j hj => ?_, ?_⟩
  · unfold sslices_Min
    rw [if_neg (by omega), Option.bind_some, if_pos ⟨by omega, by omega⟩, show gx l 0 = l.getD 0 default from rfl, e, Option.bind_some]
  · by_cases c : j = 0
    · subst c; exact g1
    · exact g2 j (by omega) hj
  · rcases g3 with g | ⟨j, _, g5, g6⟩
    · exact ⟨0, h0, g.symm⟩
    · exact ⟨j, g5, g6⟩
theorem Sub_L1 {k : Nat} {rb : List (Option ArcI) × List Int × Nat} {r : Int} (hN : rb.2.2 ≤ 1000) (hb : ∀ v, v < rb.2.2 → -1000000000 ≤ rb.2.1.getD v default ∧ rb.2.1.getD v default ≤ 1000000000) (hr : -1000000000 ≤ r ∧ r ≤ 1000000000) : ∀ (m i : Nat) (l : List Int), i ≤ rb.2.2 → rb.2.2 - i < m → l.length = rb.2.2 → (∀ v, v < rb.2.2 → l.getD v default = if v < i then rb.2.1.getD v default - r else rb.2.1.getD v default) →
    ∃ l', sflow_Cheap_L1 k rb r m (i : Int) l = some l' ∧ l'.length = rb.2.2 ∧ ∀ v, v < rb.2.2 → l'.getD v default = rb.2.1.getD v default - r := by
  intro m
  induction m with
  | zero => intro i l h1 h2; omega
  | succ m ih =>
    intro i l h1 h2 h3 h4
    rw [sflow_Cheap_L1]
    by_cases c : (i : Int) < (rb.2.2 : Int)
    · have hi := hb i (by omega)
      have h4i := h4 i (by omega)
      rw [if_neg (by omega)] at h4i
      rw [if_pos c, if_pos ⟨by omega, c⟩, Int.toNat_natCast, if_pos (by omega), wr_succ i (by omega), h4i, wr64 (by omega)]
      refine ih (i + 1) _ (by omega) (by omega) (by simpa using h3) fun v hv => ?_
      by_cases e : i = v
      · subst e; rw [put_eq (by omega), if_pos (by omega)]
      · rw [put_ne e, h4 v hv]
        by_cases g : v < i
        · rw [if_pos g, if_pos (by omega)]
        · rw [if_neg g, if_neg (by omega)]
    · rw [if_neg c]
      have e : i = rb.2.2 := by omega
      subst e
      refine ⟨l, rfl, h3, fun v hv => ?_⟩
      rw [h4 v hv, if_pos hv]
def CheapArgs (n : Net) (pr : List Int) (a b amount : Int) : Prop := isNodeP n a ∧ isNodeP n b ∧ a ≠ b ∧ Bound pr n.links.length 1048576 ∧ 0 ≤ amount ∧ amount ≤ 4294967296
theorem Cheap_spec {k : Nat} {n : Net} {f : Failure} {pr : List Int} (a b amount : Int) (hn : RightNet n) (hl : f.links.length < 9223372036854775808) (hk : 9223372036854775808 ≤ k) (hp : pr.length ≤ 1000) :
    (¬ CheapArgs n pr a b amount ∧ sflow_Cheap k n f pr a b amount = some ([], [], 1)) ∨ (CheapArgs n pr a b amount ∧ ((∃ y pot, sflow_Cheap k n f pr a b amount = some (y, pot, 0) ∧ IsCheapest n f pr a b y pot ∧ exS n.links y a = amount) ∨ (sflow_Cheap k n f pr a b amount = some ([], [], 19) ∧ ∀ y, IsFlow n f a b y → exS n.links y a < amount))) := by
  have hnn := hn.nodes
  have hnl := hn.links
  unfold sflow_Cheap
  rw [isNode_spec, Option.bind_some]
  by_cases c1 : isNodeP n a
  · rw [if_pos (decide_eq_true c1), isNode_spec, Option.bind_some]
    by_cases c2 : isNodeP n b
    · rw [if_pos (decide_eq_true c2)]
      by_cases c3 : a = b
      · rw [if_pos c3, Option.bind_some, if_pos rfl]
        exact .inl ⟨fun h => h.2.2.1 c3, rfl⟩
      · rw [if_neg c3, bounded_spec _ _ (by omega) (by omega), Option.bind_some]
        by_cases c4 : Bound pr n.links.length 1048576
        · rw [if_pos (decide_eq_true c4)]
          by_cases c5 : amount < 0
          · rw [if_pos c5, Option.bind_some, if_pos rfl]
            exact .inl ⟨fun h => by have := h.2.2.2.2.1; omega, rfl⟩
          · rw [if_neg c5, Option.bind_some]
            by_cases c6 : 4294967296 < amount
            · rw [if_pos (decide_eq_true c6)]
              exact .inl ⟨fun h => by have := h.2.2.2.2.2; omega, rfl⟩
            · rw [if_neg (by simpa using c6), if_pos (by omega)]
              refine .inr ⟨⟨c1, c2, c3, c4, by omega, by omega⟩, ?_⟩
              have pot0 : ∃ π, PotX n f pr (List.replicate n.links.length 0) π := ⟨fun _ => 0, fun w hw => by
                obtain ⟨j, hj, _, h⟩ := hw
                have e : (List.replicate n.links.length (0 : Int)).getD j default = 0 := by rw [getD_of (by simpa using hj)]; simp
                rcases h with ⟨_, rfl⟩ | ⟨h, _⟩
                · have := c4.2 _ (getD_mem (show j < pr.length by have := c4.1; omega))
                  show (0 : Int) ≤ 0 + pr.getD j default
                  omega
                · rw [e] at h; omega⟩
              rcases Cheap_L0 (k := k) (amount := amount) hn c1 c2 c3 c4 hl (by omega) (by omega) ⟨by omega, by omega⟩ k amount (List.replicate n.links.length 0) (zero_flow hn c3) (by rw [exS_zeros]; omega) pot0 (by omega) (by omega) with ⟨y, e, hy, hv, π, hπ⟩ | ⟨e, hno⟩
              · rw [e, Option.bind_some, Sum.elim_inr]
                obtain ⟨_, hyl, hg, _, _⟩ := id hy
                obtain ⟨all, e1, ar⟩ := arcsI_spec (k := k) hn c4 hyl hg hl (by omega) (by omega)
                have hN : Net0 n.nodes.length all := fun c hc => (ar.1 c hc).net hn c4
                have hp0 : Pot0 all π := fun c hc => hπ c (ar.1 c hc)
                have hal := ar.2.2.2
                obtain ⟨d, by_, t, e2, bf, dn⟩ := distances_spec (k := k) (n := n) (s := -1) hN hp0 (by omega) hnn (by omega)
                have ld := bf.ld
                have hd : ∀ v : Int, 0 ≤ v → v < (n.nodes.length : Int) → -10485760 ≤ dv d v ∧ dv d v ≤ 0 := fun v v0 v1 => by
                  have h1 := bf.src0 v v0 v1 (.inl (by omega))
                  have h2 := bf.small hN dn v0 v1 (by unfold far; omega)
                  omega
                have hst : ∀ w, w ∈ all → dv d w.to ≤ dv d w.frm + w.weight := fun w hw => by
                  obtain ⟨⟨f0, f1⟩, _⟩ := hN w hw
                  exact bf.stable hN dn hw (by have := (hd w.frm f0 f1).2; unfold far; omega)
                have hdn : ∀ v : Nat, v < n.nodes.length → -10485760 ≤ d.getD v default ∧ d.getD v default ≤ 0 := fun v hv => hd (v : Int) (by omega) (by omega)
                obtain ⟨r, e3, r1, j, j1, j2⟩ := Min_spec (k := k) (l := d) (by omega) (by have := c1.1; have := c1.2; omega) (by omega)
                have hrj := hdn j (by omega)
                obtain ⟨pot, e4, p1, p2⟩ := Sub_L1 (k := k) (rb := (by_, d, n.nodes.length)) (r := r) (by show n.nodes.length ≤ 1000; omega) (fun v hv => by have := hdn v hv; show -1000000000 ≤ d.getD v default ∧ d.getD v default ≤ 1000000000; omega) (by omega) k 0 d (by show 0 ≤ n.nodes.length; omega) (by show n.nodes.length - 0 < k; omega) ld (fun v hv => by rw [if_neg (by omega)])
                have p1 : pot.length = n.nodes.length := p1
                have p2 : ∀ v, v < n.nodes.length → pot.getD v default = d.getD v default - r := p2
                rw [show ((0 : Nat) : Int) = 0 from rfl] at e4
                refine .inl ⟨y, pot, ?_, ⟨hy, c4, ⟨by omega, fun z hz => ?_⟩, fun i hi => ?_⟩, hv⟩
                · rw [e1, Option.bind_some, e2, Option.bind_some]
                  dsimp only
                  rw [if_pos ld, e3, Option.bind_some, e4, Option.bind_some, if_pos hyl, if_pos p1]
                · obtain ⟨i, hi, rfl⟩ := List.getElem_of_mem hz
                  have := p2 i (by omega)
                  rw [getD_of hi] at this
                  rw [this]
                  have h1 := hdn i (by omega)
                  have h2 := r1 i (by omega)
                  omega
                · intro hu
                  have hf := hn.frm i hi
                  have ht := hn.to i hi
                  have q1 := p2 (n.links.getD i default).frm.toNat (by omega)
                  have q2 := p2 (n.links.getD i default).to.toNat (by omega)
                  unfold redK
                  rw [q1, q2]
                  constructor
                  · rintro ⟨g1, g2⟩
                    have := hst _ (ar.2.1 i hi hu g2)
                    have : d.getD (n.links.getD i default).to.toNat default ≤ d.getD (n.links.getD i default).frm.toNat default + pr.getD i default := this
                    omega
                  · rintro ⟨g1, g2⟩
                    have := hst _ (ar.2.2.1 i hi hu g2)
                    have : d.getD (n.links.getD i default).frm.toNat default ≤ d.getD (n.links.getD i default).to.toNat default + -pr.getD i default := this
                    omega
              · rw [e, Option.bind_some, Sum.elim_inl]
                exact .inr ⟨rfl, hno⟩
        · rw [if_neg (by simpa using c4), Option.bind_some, if_pos rfl]
          exact .inl ⟨fun h => c4 h.2.2.2.1, rfl⟩
    · rw [if_neg (by simpa using c2), Option.bind_some, if_pos rfl]
      exact .inl ⟨fun h => c2 h.2.1, rfl⟩
  · rw [if_neg (by simpa using c1), Option.bind_some, if_pos rfl]
    exact .inl ⟨fun h => c1 h.1, rfl⟩
theorem caps2_L0 {k : Nat} {n : Net} (hl : n.links.length ≤ 1000) : ∀ (m i : Nat), i ≤ n.links.length → n.links.length - i < m → sl_FlowIsCheap_L0 k n m (i : Int) = some (.inl true) ∨ sl_FlowIsCheap_L0 k n m (i : Int) = some (.inr ()) := by
  intro m
  induction m with
  | zero => intro i h1 h2; omega
  | succ m ih =>
    intro i h1 h2
    rw [sl_FlowIsCheap_L0]
    by_cases c : (i : Int) < (n.links.length : Int)
    · rw [if_pos c, if_pos ⟨by omega, c⟩, gx_nat n.links i]
      by_cases q : 1000 < (n.links.getD i default).cap
      · rw [if_pos q]; exact .inl rfl
      · rw [if_neg q, wr_succ i (by omega)]
        exact ih (i + 1) (by omega) (by omega)
    · rw [if_neg c]; exact .inr rfl
theorem args_dec {k : Nat} {n : Net} {pr : List Int} {a b amount : Int} (hp : pr.length ≤ 1000) (hk : 2000 < k) : ∃ r : Bool, ((if a < 0 then some true else (if (n.nodes.length : Int) ≤ a then some true else (if b < 0 then some true else (if (n.nodes.length : Int) ≤ b then some true else (if a = b then some true else ((sr22_Prices k n pr).bind fun rPrices => (if rPrices = true then (if amount < 0 then some true else some (decide (4294967296 < amount))) else some true))))))) : Option Bool) = some r ∧ (r = true ↔ ¬ CheapArgs n pr a b amount) := by
  rw [rPrices_spec (by omega) (by omega), Option.bind_some]
  have yes : ∀ h : ¬ CheapArgs n pr a b amount, ∃ r : Bool, (some true : Option Bool) = some r ∧ (r = true ↔ ¬ CheapArgs n pr a b amount) := fun h => ⟨true, rfl, ⟨fun _ => h, fun _ => rfl⟩⟩
  by_cases c1 : a < 0
  · rw [if_pos c1]; exact yes fun h => by have := h.1.1; omega
  rw [if_neg c1]
  by_cases c2 : (n.nodes.length : Int) ≤ a
  · rw [if_pos c2]; exact yes fun h => by have := h.1.2; omega
  rw [if_neg c2]
  by_cases c3 : b < 0
  · rw [if_pos c3]; exact yes fun h => by have := h.2.1.1; omega
  rw [if_neg c3]
  by_cases c4 : (n.nodes.length : Int) ≤ b
  · rw [if_pos c4]; exact yes fun h => by have := h.2.1.2; omega
  rw [if_neg c4]
  by_cases c5 : a = b
  · rw [if_pos c5]; exact yes fun h => h.2.2.1 c5
  rw [if_neg c5]
  by_cases c6 : Bound pr n.links.length 1048576
  · rw [if_pos (decide_eq_true c6)]
    by_cases c7 : amount < 0
    · rw [if_pos c7]; exact yes fun h => by have := h.2.2.2.2.1; omega
    rw [if_neg c7]
    by_cases c8 : 4294967296 < amount
    · rw [decide_eq_true c8]; exact yes fun h => by have := h.2.2.2.2.2; omega
    · rw [decide_eq_false c8]
      exact ⟨false, rfl, ⟨fun h => (by cases h), fun h => (h ⟨⟨by omega, by omega⟩, ⟨by omega, by omega⟩, c5, c6, by omega, by omega⟩).elim⟩⟩
  · rw [if_neg (by simpa using c6)]; exact yes fun h => c6 h.2.2.2.1
theorem law_Cheap (n : Net) (f : Failure) (pr : List Int) (a b amount : Int) (x : List Int) (hl : f.links.length < 9223372036854775808) (hh : Held n) : ∃ k, sl_FlowIsCheap k n f pr a b amount x = some true := by
  refine ⟨9223372036854775808, ?_⟩
  generalize hk : 9223372036854775808 = k
  have hk : 9223372036854775808 ≤ k := by omega
  unfold sl_FlowIsCheap
  obtain ⟨r, h1, h2⟩ := right_spec hk n f 0 0 hl hh
  rw [h1, Option.bind_some]
  by_cases hr : r = true
  · rw [if_pos hr]
    obtain ⟨hn, hfl, _, _⟩ := h2 hr
    have hnl := hn.links
    have hnn := hn.nodes
    by_cases c0 : (40 : Int) < (pr.length : Int)
    · rw [if_pos c0, Option.bind_some, if_pos rfl]
    rw [if_neg c0, Option.bind_some]
    by_cases c1 : (40 : Int) < (x.length : Int)
    · rw [if_pos (decide_eq_true c1)]
    rw [if_neg (by simpa using c1)]
    rcases caps2_L0 (k := k) (n := n) (by omega) k 0 (by omega) (by omega) with e | e <;> rw [show ((0 : Nat) : Int) = 0 from rfl] at e <;> rw [e, Option.bind_some]
    · rfl
    rw [Sum.elim_inr]
    obtain ⟨s, s1, s2⟩ := args_dec (k := k) (n := n) (pr := pr) (a := a) (b := b) (amount := amount) (by omega) (by omega)
    rcases Cheap_spec (k := k) (f := f) (pr := pr) a b amount hn hl hk (by omega) with ⟨g, e⟩ | ⟨g, ge⟩
    · rw [e, Option.bind_some, s1, Option.bind_some, if_pos (s2.2 g)]
      dsimp only
      rw [if_pos rfl]; rfl
    · obtain ⟨ca, cb, cne, cP, cA, cB⟩ := id g
      have ht : Two n a b := ⟨ca, cb, cne⟩
      have hs : ¬ s = true := fun h => s2.1 h g
      obtain ⟨z, z1, z2⟩ := rMax_spec (k := k) (f := f) a b hn hl (by omega) (by omega)
      rcases z2 with ⟨q, _⟩ | ⟨_, _, zo⟩
      · exact absurd ht q
      have Z := zo.1
      have hval : sr22_Value k n f a b = some (exS n.links z.1 a) := by
        unfold sr22_Value
        rw [z1, Option.bind_some, rCheck_spec hn ca cb hl (by omega) (by omega), Option.bind_some]
        unfold flowVal
        rw [if_pos Z]
      rcases ge with ⟨y, pot, e, hc, hv⟩ | ⟨e, hno⟩
      · have Y := hc.1
        have hle := greatest_val hn ht zo Y
        rw [e, Option.bind_some, s1, Option.bind_some, if_neg hs, hval, Option.bind_some, if_neg (by omega)]
        dsimp only
        have hpot : pot.length < 9223372036854775808 := by have := hc.2.2.1.1; omega
        obtain ⟨w, w1, w2⟩ := Cheapest_spec (k := k) (f := f) (a := a) (b := b) (prices := pr) (x := y) (pot := pot) hn ca cb hl hk (by omega) hpot
        have vy : flowVal n f a b y = amount := by unfold flowVal; rw [if_pos Y]; exact hv
        rw [rCheck_spec hn ca cb hl (by omega) (by omega), Option.bind_some, if_neg (by simp)]
        dsimp only
        rw [if_pos (decide_eq_true Y), vy, if_neg (by simp), w1, Option.bind_some, w2.2 hc, Option.bind_some, if_neg (by simp), rCheck_spec hn ca cb hl (by omega) (by omega), Option.bind_some]
        dsimp only
        by_cases X : IsFlow n f a b x
        · rw [if_pos (decide_eq_true X)]
          by_cases q : flowVal n f a b x ≠ amount
          · rw [if_pos q]
          · rw [if_neg q]
            have q : flowVal n f a b x = amount := Decidable.byContradiction q
            have vx : exS n.links x a = amount := by unfold flowVal at q; rw [if_pos X] at q; exact q
            have hpl : pr.length = n.links.length := by have := cP.1; omega
            have room : ∀ u, IsFlow n f a b u → ∀ j, j < pr.length → 0 ≤ u.getD j default ∧ u.getD j default ≤ 1048576 := fun u hu j hj => by
              obtain ⟨g1, g2, _⟩ := hu.2.2.1 j (by omega)
              have := (hn.cap j (by omega)).2
              omega
            rw [Cost_spec (by omega) (by have := Y.2.1; omega) cP.2 (room y Y) (by omega), Option.bind_some, Cost_spec (by omega) (by have := X.2.1; omega) cP.2 (room x X) (by omega), Option.bind_some, hpl]
            rw [decide_eq_true (cheap_least hn ca cb hc X (by omega))]
        · rw [if_neg (by simpa using X)]
      · have hz := hno z.1 Z
        rw [e, Option.bind_some, s1, Option.bind_some, if_neg hs, hval, Option.bind_some, if_pos hz]
        dsimp only
        rw [if_pos rfl]; rfl
  · rw [if_neg hr, Option.bind_some, if_pos rfl]
end Go.Proofs.Ytfalnphlgfoflaa
