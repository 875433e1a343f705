/- Opening the arguments of a law: slices of bytes, integers, strings and byte arrays, as lists. -/
import Derived.Test.YtcmfoipnoejmlaaDoorRows
import Derived.Test.YtcmfoipnoejmlaaDoorLbA
import Derived.ProofKit
import Derived.OpenShut
import Derived.ShutString
import Derived.ChangeOld
import Derived.Below
import Derived.Carry
import Derived.Deep.Slices
import Derived.SizedLaws
import Derived.JoinedCond
namespace Go.Proofs.YtcmfoipnoejmlaaDoor
open Go.ChangeShapes Go.WideShapes Go.ChangeAt Go.RowKit
open Go.ChangeMaps (open_string shut_string)

theorem own : ownKnob Tryd.prog.godebug = none := by kernel_rfl
theorem laidOut : laidOutB Tryd.prog = true := by kernel_rfl

theorem list_choose {α : Type} {p : Nat → α → Prop} : ∀ n, (∀ i, i < n → ∃ x, p i x) → ∃ l : List α, l.length = n ∧ ∀ i (hi : i < l.length), p i l[i] := by
  intro n
  induction n with
  | zero => intro _; exact ⟨[], rfl, fun i hi => by simp at hi⟩
  | succ n ih =>
    intro h
    obtain ⟨l, hl, hp⟩ := ih (fun i hi => h i (by omega))
    obtain ⟨x, hx⟩ := h n (by omega)
    refine ⟨l ++ [x], by simp [hl], fun i hi => ?_⟩
    by_cases hin : i < l.length
    · rw [List.getElem_append_left hin]; exact hp i hin
    · have : i = l.length := by simp at hi; omega
      subst this
      rw [List.getElem_append_right (Nat.le_refl _)]
      simpa [hl] using hx

section
variable {H : Type} {enc : TypeId × Value → H} {P : Program} {W : World} {base : Nat}
/-- a slice of one-cell elements -/
theorem opn1 {r : Reach} {t e : TypeId} {v : Value} {d : DataW H} {ps : List MemPlace} (ht : P.underlying t = some (.slice e)) (hc : P.cellsOf e = 1) (hval : Value.okWide P W r base t v) (h : DataW.Trod enc P W 0 (fun _ => true) true t v d ps) :
    ∃ ao n cap, ∃ (V : Nat → Value) (D : Nat → DataW H), v = .slice ao n cap ∧ Sl W ao n cap ((List.range n).map V) ∧ (d = .nil ∧ n = 0 ∨ ∃ sp, d = .slice ((List.range n).map D) sp ∧ n + sp.length = cap) ∧ ∀ i, i < n → ∃ f pl, DataW.trod enc P W 0 (fun _ => true) true f e [V i] = some (D i, pl) := by
  obtain ⟨a0, len0, cap0, rfl⟩ := okWide_slice ht hval
  obtain ⟨fuel, hf⟩ := h
  rcases Go.Deep.open_slice1 ht hc hf with ⟨hcs, hx⟩ | ⟨a, len, cap, m, n, V, D, Pl, hcs, hb, hl, hm, hmm, hx, hall⟩
  · simp [Value.cells] at hcs
    obtain ⟨rfl, rfl, rfl⟩ := hcs
    simp only [Prod.mk.injEq] at hx
    exact ⟨none, 0, 0, fun _ => undef, fun _ => .nil, rfl, Sl.nilSl W, .inl ⟨hx.1, rfl⟩, fun i hi => by omega⟩
  · simp [Value.cells] at hcs
    obtain ⟨rfl, rfl, rfl⟩ := hcs
    simp only [Prod.mk.injEq] at hx
    simp only [if_true] at hmm
    subst hmm
    refine ⟨some a, len0, m, V, D, rfl, ⟨by simp, hl, hm, by simp, ?_⟩, .inr ⟨_, hx.1, by simp; omega⟩, fun i hi => ⟨n, Pl i, (hall i (by omega)).2⟩⟩
    by_cases h0 : len0 = 0
    · exact .inl h0
    · have hc0 := (hall 0 (by omega)).1
      obtain ⟨b, off, spot⟩ := a
      have hspot : spot = none := by simpa [Addr.add] using World.cell?_spot hc0
      subst hspot
      refine .inr ⟨b, off, rfl, fun j hj => ?_⟩
      have := (hall j (by omega)).1
      rw [Addr.add_lit] at this
      rw [this]
      simp [hj]
theorem wf_u8 {n : Int} (h : (Lit.int .u8 n).wf = true) : ∃ c : UInt8, n = ((c.toNat : Nat) : Int) := by
  have hb := bounds_u8 h
  refine ⟨UInt8.ofNat n.toNat, ?_⟩
  rw [UInt8.toNat_ofNat', Nat.mod_eq_of_lt (by omega)]; omega
theorem map_range_eq {α β : Type} (l : List α) (f : α → β) (V : Nat → β) (h : ∀ i (hi : i < l.length), V i = f l[i]) : (List.range l.length).map V = l.map f := by
  apply List.ext_getElem (by simp)
  intro i h1 h2
  simp at h1 h2
  simp [h i h2]
theorem opn_bs {r : Reach} {t e : TypeId} {v : Value} {d : DataW H} {ps : List MemPlace} (ht : P.underlying t = some (.slice e)) (he : P.underlying e = some (.int .u8)) (hc : P.cellsOf e = 1) (hval : Value.okWide P W r base t v) (h : DataW.Trod enc P W 0 (fun _ => true) true t v d ps) :
    ∃ ao n cap l, v = .slice ao n cap ∧ Bs W ao n cap l ∧ (d = .nil ∧ n = 0 ∨ ∃ es sp, d = .slice es sp ∧ es.length = n ∧ n + sp.length = cap) := by
  obtain ⟨ao, n, cap, V, D, rfl, hs, hd, hall⟩ := opn1 ht hc hval h
  obtain ⟨l, hl, hp⟩ := list_choose (p := fun i (c : UInt8) => V i = u8v c) n (fun i hi => by
    obtain ⟨f, pl, htr⟩ := hall i hi
    obtain ⟨m, h1, -, h3⟩ := DataW.trod_int he htr
    obtain ⟨c, rfl⟩ := wf_u8 h3
    exact ⟨c, by simpa [u8v] using h1⟩)
  subst hl
  rw [map_range_eq l u8v V hp] at hs
  refine ⟨ao, _, cap, l, rfl, hs, ?_⟩
  rcases hd with hd | ⟨sp, hd, hsp⟩
  · exact .inl hd
  · exact .inr ⟨_, sp, hd, by simp, hsp⟩
theorem opn_ints {r : Reach} {t e : TypeId} {v : Value} {d : DataW H} {ps : List MemPlace} (ht : P.underlying t = some (.slice e)) (he : P.underlying e = some (.int .i64)) (hc : P.cellsOf e = 1) (hval : Value.okWide P W r base t v) (h : DataW.Trod enc P W 0 (fun _ => true) true t v d ps) :
    ∃ ao n cap, ∃ l : List Int, v = .slice ao n cap ∧ Sl W ao n cap (l.map fun x => .int .i64 x) ∧ (∀ x ∈ l, -9223372036854775808 ≤ x ∧ x ≤ 9223372036854775807) ∧ (d = .nil ∧ n = 0 ∨ ∃ es sp, d = .slice es sp ∧ es.length = n ∧ n + sp.length = cap) := by
  obtain ⟨ao, n, cap, V, D, rfl, hs, hd, hall⟩ := opn1 ht hc hval h
  obtain ⟨l, hl, hp⟩ := list_choose (p := fun i (c : Int) => V i = .int .i64 c ∧ -9223372036854775808 ≤ c ∧ c ≤ 9223372036854775807) n (fun i hi => by
    obtain ⟨f, pl, htr⟩ := hall i hi
    obtain ⟨m, h1, -, h3⟩ := DataW.trod_int he htr
    exact ⟨m, by simpa using h1, bounds_i64 h3⟩)
  subst hl
  rw [map_range_eq l (fun x => Value.int .i64 x) V (fun i hi => (hp i hi).1)] at hs
  refine ⟨ao, _, cap, l, rfl, hs, ?_, ?_⟩
  · intro x hx
    obtain ⟨i, hi, rfl⟩ := List.getElem_of_mem hx
    exact (hp i hi).2
  · rcases hd with hd | ⟨sp, hd, hsp⟩
    · exact .inl hd
    · exact .inr ⟨_, sp, hd, by simp, hsp⟩
theorem opn_strs {r : Reach} {t e : TypeId} {v : Value} {d : DataW H} {ps : List MemPlace} (ht : P.underlying t = some (.slice e)) (he : P.underlying e = some .string) (hc : P.cellsOf e = 1) (hval : Value.okWide P W r base t v) (h : DataW.Trod enc P W 0 (fun _ => true) true t v d ps) :
    ∃ ao n cap, ∃ l : List (List UInt8), v = .slice ao n cap ∧ Sl W ao n cap (l.map fun x => .string ⟨x.toArray⟩) ∧ (d = .nil ∧ n = 0 ∨ ∃ sp, d = .slice (l.map fun x => .lit (.string x)) sp) := by
  obtain ⟨ao, n, cap, V, D, rfl, hs, hd, hall⟩ := opn1 ht hc hval h
  obtain ⟨l, hl, hp⟩ := list_choose (p := fun i (c : List UInt8) => V i = .string ⟨c.toArray⟩ ∧ D i = .lit (.string c)) n (fun i hi => by
    obtain ⟨f, pl, htr⟩ := hall i hi
    obtain ⟨s, h1, h2, -⟩ := DataW.trod_string he htr
    simp only [Prod.mk.injEq] at h2
    exact ⟨s.data.toList, by simpa using h1, h2.1⟩)
  subst hl
  rw [map_range_eq l (fun x => Value.string ⟨x.toArray⟩) V (fun i hi => (hp i hi).1)] at hs
  refine ⟨ao, _, cap, l, rfl, hs, ?_⟩
  rcases hd with hd | ⟨sp, hd, -⟩
  · exact .inl hd
  · exact .inr ⟨sp, by rw [hd, map_range_eq l (fun x => DataW.lit (.string x)) D (fun i hi => (hp i hi).2)]⟩
/-- a slice of arrays of k bytes -/
theorem opn_arrs {r : Reach} {t e u : TypeId} {k : Nat} {v : Value} {d : DataW H} {ps : List MemPlace} (ht : P.underlying t = some (.slice e)) (he : P.underlying e = some (.array k u)) (hu : P.underlying u = some (.int .u8)) (hce : P.cellsOf e = k) (hcu : P.cellsOf u = 1) (hval : Value.okWide P W r base t v) (h : DataW.Trod enc P W 0 (fun _ => true) true t v d ps) (hk : 0 < k) :
    ∃ ao n cap, ∃ l : List (List UInt8), v = .slice ao n cap ∧ SlN W ao n cap k (l.flatMap u8s) ∧ (∀ x ∈ l, x.length = k) ∧ l.length = n ∧ (d = .nil ∧ n = 0 ∨ ∃ es sp, d = .slice es sp ∧ es.length = n ∧ n + sp.length = cap) := by
  obtain ⟨a0, len0, cap0, rfl⟩ := okWide_slice ht hval
  obtain ⟨fuel, hf⟩ := h
  rcases Go.Deep.open_slice ht hf with ⟨hcs, hx⟩ | ⟨a, len, cap, m, n, D, Pl, hcs, hb, hl, hm, hmm, hx, hall⟩
  · simp [Value.cells] at hcs
    obtain ⟨rfl, rfl, rfl⟩ := hcs
    simp only [Prod.mk.injEq] at hx
    exact ⟨none, 0, 0, [], rfl, SlN.nilSl W k, by simp, rfl, .inl ⟨hx.1, rfl⟩⟩
  · simp [Value.cells] at hcs
    obtain ⟨rfl, rfl, rfl⟩ := hcs
    simp only [Prod.mk.injEq] at hx
    simp only [if_true] at hmm
    subst hmm
    rw [hce] at hall
    obtain ⟨l, hll, hp⟩ := list_choose (p := fun i (c : List UInt8) => c.length = k ∧ ∀ j, j < k → W.cell? ((a.add (i * k)).add j) = (u8s c)[j]?) len0 (fun i hi => by
      obtain ⟨cs', h1, h2⟩ := hall i (by omega)
      obtain ⟨-, hcl, hcc⟩ := World.cells?_some h1
      obtain ⟨xs, mm, -, -, -, hxl, hxa⟩ := DataW.trod_array he h2
      obtain ⟨c, hcl2, hcp⟩ := list_choose (p := fun j (c : UInt8) => cs'[j]? = some (u8v c)) k (fun j hj => by
        have h3 := hxa j hj
        rw [hcu, Nat.mul_one, List.getElem?_eq_getElem (by omega)] at h3
        obtain ⟨q, h4, -, h5⟩ := DataW.trod_int hu h3
        obtain ⟨c, rfl⟩ := wf_u8 h5
        refine ⟨c, ?_⟩
        have : (List.take 1 (List.drop j cs'))[0]? = some (.int .u8 ((c.toNat : Nat) : Int)) := by rw [h4]; rfl
        rw [List.getElem?_take, if_pos (by omega), List.getElem?_drop] at this
        simpa [u8v] using this)
      refine ⟨c, hcl2, fun j hj => ?_⟩
      rw [hcc j hj, hcp j (by omega)]
      simp [u8s, show j < c.length by omega])
    have hlen16 : ∀ x ∈ l, x.length = k := fun x hx => by obtain ⟨i, hi, rfl⟩ := List.getElem_of_mem hx; exact (hp i hi).1
    have hfl := flatMap_len u8s k l (fun x hx => by rw [u8s_length]; exact hlen16 x hx)
    refine ⟨some a, len0, m, l, rfl, ⟨by rw [hfl, hll], hl, hm, by simp, ?_⟩, hlen16, hll, .inr ⟨_, _, hx.1, by simp, by simp; omega⟩⟩
    by_cases h0 : len0 = 0
    · exact .inl h0
    · have hc0 := (hp 0 (by omega)).2 0 hk
      have hz : (u8s (l[0]'(by omega)))[0]? = some (u8v ((l[0]'(by omega))[0]'(by rw [(hp 0 (by omega)).1]; exact hk))) := by simp [u8s, (hp 0 (by omega)).1, hk]
      rw [hz] at hc0
      obtain ⟨b, off, spot⟩ := a
      have hspot : spot = none := by simpa [Addr.add] using World.cell?_spot hc0
      subst hspot
      refine .inr ⟨b, off, rfl, fun j hj => ?_⟩
      have hdm := Nat.div_add_mod j k
      have hq : j / k < l.length := by rw [hll]; exact (Nat.div_lt_iff_lt_mul hk).2 hj
      have hr : j % k < k := Nat.mod_lt _ hk
      have h1 := (hp (j / k) hq).2 (j % k) hr
      rw [Addr.add_lit, Addr.add_lit] at h1
      have e1 : off + j / k * k + j % k = off + j := by rw [Nat.add_assoc, Nat.mul_comm, hdm]
      rw [e1] at h1
      rw [h1]
      have h2 := flatMap_part u8s k l (j / k) (fun x hx => by rw [u8s_length]; exact hlen16 x hx) hq (j % k) hr
      rw [show j / k * k + j % k = j by rw [Nat.mul_comm]; exact hdm] at h2
      rw [h2]
      have h3 : j % k < (u8s l[j / k]).length := by rw [u8s_length, (hp (j / k) hq).1]; exact hr
      simp [h3]
end

/-! ### the bound of the second form -/
theorem one_le {H : Type} (d : DataW H) : 1 ≤ Rows.uptoBulk d := by
  cases d with
  | lit l => cases l <;> simp [Rows.uptoBulk]
  | nil => simp [Rows.uptoBulk]
  | ptr d => simp [Rows.uptoBulk]
  | slice elems spare => simp [Rows.uptoBulk]
  | agg parts => simp [Rows.uptoBulk]
  | iface t d => simp [Rows.uptoBulk]
  | map entries => simp [Rows.uptoBulk]
  | held h => simp [Rows.uptoBulk]
theorem bulk_len {H : Type} (l : List (DataW H)) : l.length ≤ Rows.uptoBulkAll l := by
  induction l with
  | nil => simp [Rows.uptoBulkAll]
  | cons x r ih => have := one_le x; simp only [Rows.uptoBulkAll, List.length_cons]; omega
theorem bulk_slice {H : Type} (es sp : List (DataW H)) : es.length ≤ Rows.uptoBulk (.slice es sp) := by
  have := bulk_len es
  simp only [Rows.uptoBulk]; omega
theorem bulk_strs {H : Type} (l : List (List UInt8)) (sp : List (DataW H)) : (l.map fun s => s.length + 1).sum ≤ Rows.uptoBulk (DataW.slice (l.map fun x => DataW.lit (H := H) (.string x)) sp) := by
  have : Rows.uptoBulkAll (l.map fun x => DataW.lit (H := H) (.string x)) = (l.map fun s => s.length + 1).sum := by
    induction l with
    | nil => simp [Rows.uptoBulkAll]
    | cons x l ih => simp only [List.map_cons, Rows.uptoBulkAll, ih, List.sum_cons, Rows.uptoBulk]
  simp only [Rows.uptoBulk, this]; omega
theorem sum_succ (l : List (List UInt8)) : (l.map fun s => s.length + 1).sum = l.length + (l.map List.length).sum := by
  induction l with
  | nil => rfl
  | cons x l ih => simp only [List.map_cons, List.sum_cons, List.length_cons, ih]; omega
theorem bulk_mem {H : Type} {d : DataW H} {l : List (DataW H)} (h : d ∈ l) : Rows.uptoBulk d ≤ Rows.uptoBulkAll l := by
  induction l with
  | nil => cases h
  | cons x r ih =>
    simp only [Rows.uptoBulkAll]
    cases List.mem_cons.1 h with
    | inl e => subst e; omega
    | inr e => have := ih e; omega
theorem small_of {H : Type} {l : List (DataW H)} (hk : Rows.uptoSmall H l = true) : Rows.uptoBulkAll l ≤ 1048576 := by
  simpa [Rows.uptoSmall] using hk
end Go.Proofs.YtcmfoipnoejmlaaDoor
