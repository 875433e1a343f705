/- Opening a law's arguments: whatever datum of a described shape reads as a tree of that shape. -/
import Derived.Test.YtfalnphlgfoflaaProg
import Derived.Test.YtfalnphlgfoflaaEn
import GoSem.Claim
import Derived.ProofKit
import Derived.OpenShut
import Derived.ShutString
import Derived.ChangeOld
import Derived.Below
import Derived.Carry
import Derived.Deep.Slices
import Derived.SizedLaws
import Derived.JoinedCond
namespace Go.Proofs.Ytfalnphlgfoflaa
open Go Go.RowKit
set_option linter.unusedVariables false
set_option linter.unusedSectionVars false
inductive Sh where
  | int (k : IntKind)
  | bool
  | str
  | slice (e : Sh)
  | struct (l : List Sh)
mutual
def Sh.sz : Sh → Nat
  | .struct l => Sh.szL l
  | _ => 1
def Sh.szL : List Sh → Nat
  | [] => 0
  | s :: l => s.sz + Sh.szL l
end
mutual
def shOk (P : Program) : Sh → TypeId → Bool
  | .int k, t => match P.underlying t with | some (.int k') => decide (k = k') | _ => false
  | .bool, t => match P.underlying t with | some .bool => true | _ => false
  | .str, t => match P.underlying t with | some .string => true | _ => false
  | .slice s, t => match P.underlying t with | some (.slice e) => Nat.beq (P.cellsOf e) s.sz && (Nat.blt 0 s.sz && shOk P s e) | _ => false
  | .struct l, t => match P.underlying t with | some (.struct fs) => Nat.beq (P.cellsOf t) (Sh.szL l) && shOkL P l fs.toList 0 | _ => false
def shOkL (P : Program) : List Sh → List Field → Nat → Bool
  | [], [], _ => true
  | s :: l, f :: fs, o => Nat.beq f.offset o && (Nat.beq (P.cellsOf f.type) s.sz && (shOk P s f.type && shOkL P l fs (o + s.sz)))
  | _, _, _ => false
end
mutual
def conf : Sh → T → Prop
  | .int k, t => ∃ n, t = .int k n ∧ (Lit.int k n).wf = true
  | .bool, t => ∃ b, t = .bool b
  | .str, t => ∃ s, t = .str s ∧ s.size ≤ maxLen
  | .slice e, t => ∃ l, t = .lst e.sz l ∧ l.length ≤ maxLen ∧ ∀ x, x ∈ l → conf e x
  | .struct l, t => ∃ cs, t = .agg cs ∧ confL l cs
def confL : List Sh → List T → Prop
  | [], cs => cs = []
  | s :: l, cs => ∃ x r, cs = x.cells ++ r ∧ conf s x ∧ confL l r
end
theorem chooseL {α : Type} {p : Nat → α → Prop} : ∀ n, (∀ i, i < n → ∃ x, p i x) → ∃ l : List α, l.length = n ∧ ∀ i (hi : i < l.length), p i l[i] := by
  intro n
  induction n with
  | zero => intro _; exact ⟨[], rfl, fun i hi => by simp at hi⟩
  | succ n ih =>
    intro h
    obtain ⟨l, hl, hp⟩ := ih (fun i hi => h i (by omega))
    obtain ⟨x, hx⟩ := h n (by omega)
    refine ⟨l ++ [x], by simp [hl], fun i hi => ?_⟩
    by_cases hin : i < l.length
    · rw [List.getElem_append_left hin]; exact hp i hin
    · have : i = l.length := by simp at hi; omega
      subst this
      rw [List.getElem_append_right (Nat.le_refl _)]
      simpa [hl] using hx
section
variable {H : Type} {enc : TypeId × Value → H} {P : Program} {W : World}
theorem RtL.append : ∀ {l l2 : List T} {vs vs2 : List Value}, RtL W l vs → RtL W l2 vs2 → RtL W (l ++ l2) (vs ++ vs2)
  | _, _, _, _, .nil, k => k
  | _, _, _, _, .cons h k, k2 => .cons h (k.append k2)
theorem RtL.flat : ∀ {l : List (T × List Value)}, (∀ p, p ∈ l → RtL W p.1.cells p.2) → RtL W ((l.map (·.1)).flatMap T.cells) (l.map (·.2)).flatten
  | [], _ => .nil
  | p :: l, h => by
    rw [List.map_cons, List.flatMap_cons, List.map_cons, List.flatten_cons]
    exact (h p (by simp)).append (RtL.flat fun q hq => h q (by simp [hq]))
theorem flat_cells {b k : Nat} : ∀ {l : List (List Value)} {o : Nat}, (∀ c, c ∈ l → c.length = k) → (∀ (i : Nat) c, l[i]? = some c → ∀ j, j < k → W.cell? ⟨b, o + i * k + j, none⟩ = c[j]?) → ∀ (j : Nat) u, l.flatten[j]? = some u → W.cell? ⟨b, o + j, none⟩ = some u
  | [], o, _, _, j, u, h => by simp at h
  | c :: l, o, hl, hc, j, u, h => by
    have hck := hl c (by simp)
    rw [List.flatten_cons] at h
    by_cases hj : j < c.length
    · rw [List.getElem?_append_left hj] at h
      have := hc 0 c rfl j (by omega)
      rw [Nat.zero_mul, Nat.add_zero] at this
      rw [this, h]
    · rw [List.getElem?_append_right (by omega)] at h
      have := flat_cells (o := o + k) (fun c hc => hl c (by simp [hc])) (fun i c' hi j hj => by
        have := hc (i + 1) c' (by simpa using hi) j hj
        rw [show o + (i + 1) * k + j = o + k + i * k + j by rw [Nat.add_mul]; omega] at this
        exact this) (j - c.length) u h
      rw [show o + k + (j - c.length) = o + j by omega] at this
      exact this
def Somes (W : World) (cs : List Value) : Prop := ∀ v, v ∈ cs → (∃ a n c, v = .slice (some a) n c) → 0 < W.heap.size
theorem Somes.of (h : 0 < W.heap.size) (cs : List Value) : Somes W cs := fun _ _ _ => h
theorem Somes.sub {cs cs' : List Value} (h : Somes W cs) (hs : ∀ v, v ∈ cs' → v ∈ cs) : Somes W cs' := fun v hv => h v (hs v hv)
theorem slice_case {s : Sh} {e t : TypeId} {fuel : Nat} {cs : List Value} {x : DataW H × List MemPlace} (ht : P.underlying t = some (.slice e)) (hsz : P.cellsOf e = s.sz) (hpos : 0 < s.sz)
    (ih : ∀ {fuel : Nat} {cs : List Value} {x : DataW H × List MemPlace}, DataW.trod enc P W 0 (fun _ => true) true fuel e cs = some x → Somes W cs → ∃ tr, conf s tr ∧ RtL W tr.cells cs)
    (h : DataW.trod enc P W 0 (fun _ => true) true fuel t cs = some x) (hz : Somes W cs) : ∃ tr, conf (.slice s) tr ∧ RtL W tr.cells cs := by
  rcases Go.Deep.open_slice ht h with ⟨rfl, _⟩ | ⟨a, len, cap, m, n, D, Pl, rfl, hb, hl, hm, hmm, _, hall⟩
  · exact ⟨.lst s.sz [], ⟨[], rfl, Nat.zero_le _, fun x hx => by simp at hx⟩, .cons .nil .nil⟩
  · have hh : 0 < W.heap.size := hz (.slice (some a) len cap) (by simp) ⟨_, _, _, rfl⟩
    simp only [if_true] at hmm
    subst hmm
    rw [hsz] at hall
    by_cases h0 : m = 0
    · subst h0
      have : len = 0 := by omega
      subst this
      exact ⟨.lst s.sz [], ⟨[], rfl, Nat.zero_le _, fun x hx => by simp at hx⟩, .cons (.zero hpos hh) .nil⟩
    obtain ⟨cs0, hc0, _⟩ := hall 0 (by omega)
    obtain ⟨_, hl0, hcc0⟩ := World.cells?_some hc0
    have hcell0 : ((W.cell? ((a.add (0 * s.sz)).add 0))).isSome = true := by
      rw [hcc0 0 hpos, List.getElem?_eq_getElem (by omega)]; rfl
    obtain ⟨b, off, spot⟩ := a
    have hspot : spot = none := by
      cases hq : W.cell? (((⟨b, off, spot⟩ : Addr).add (0 * s.sz)).add 0) with
      | none => rw [hq] at hcell0; simp at hcell0
      | some u => simpa [Addr.add] using World.cell?_spot hq
    subst hspot
    simp only [Addr.add_lit, Nat.zero_mul, Nat.add_zero] at hcell0
    obtain ⟨l, hll, hp⟩ := chooseL (p := fun i (p : T × List Value) => conf s p.1 ∧ RtL W p.1.cells p.2 ∧ p.2.length = s.sz ∧ ∀ j, j < s.sz → W.cell? ⟨b, off + i * s.sz + j, none⟩ = p.2[j]?) len (fun i hi => by
      obtain ⟨cs', h1, h2⟩ := hall i (by omega)
      obtain ⟨tr, k1, k2⟩ := ih h2 (Somes.of hh _)
      obtain ⟨-, hcl, hcc⟩ := World.cells?_some h1
      exact ⟨(tr, cs'), k1, k2, hcl, fun j hj => by have := hcc j hj; rw [Addr.add_lit, Addr.add_lit] at this; exact this⟩)
    have hmem : ∀ p, p ∈ l → ∃ i, i < l.length ∧ l[i]? = some p ∧ conf s p.1 ∧ RtL W p.1.cells p.2 ∧ p.2.length = s.sz := fun p hp' => by
      obtain ⟨i, hi, rfl⟩ := List.getElem_of_mem hp'
      exact ⟨i, hi, List.getElem?_eq_getElem hi, (hp i hi).1, (hp i hi).2.1, (hp i hi).2.2.1⟩
    refine ⟨.lst s.sz (l.map (·.1)), ⟨_, rfl, by rw [List.length_map]; omega, fun x hx => ?_⟩, .cons ?_ .nil⟩
    · obtain ⟨p, hp1, rfl⟩ := List.mem_map.1 hx
      obtain ⟨_, _, _, k, _⟩ := hmem p hp1
      exact k
    · have := Rt.lst (W := W) (e := s.sz) (l := l.map (·.1)) (b := b) (off := off) (cap := m) (cs := (l.map (·.2)).flatten) (RtL.flat fun p hp1 => by obtain ⟨_, _, _, _, k, _⟩ := hmem p hp1; exact k) (fun t ht' => ?_) hpos (by rw [List.length_map]; omega) hm hcell0 ?_
      · rw [List.length_map, hll] at this
        exact this
      · obtain ⟨p, hp1, rfl⟩ := List.mem_map.1 ht'
        obtain ⟨_, _, _, _, k, k2⟩ := hmem p hp1
        rw [k.len, k2]
      · refine flat_cells (k := s.sz) (fun c hc => ?_) (fun i c hi => ?_)
        · obtain ⟨p, hp1, rfl⟩ := List.mem_map.1 hc
          obtain ⟨_, _, _, _, _, k2⟩ := hmem p hp1
          exact k2
        · rw [List.getElem?_map] at hi
          cases hq : l[i]? with
          | none => rw [hq] at hi; simp at hi
          | some p =>
            rw [hq] at hi
            simp only [Option.map_some, Option.some.injEq] at hi
            subst hi
            have hil := (List.getElem?_eq_some_iff.1 hq).1
            have : l[i] = p := (List.getElem?_eq_some_iff.1 hq).2
            have := (hp i hil).2.2.2
            rw [‹l[i] = p›] at this
            exact this
theorem beqN {a b : Nat} (h : Nat.beq a b = true) : a = b := Nat.eq_of_beq_eq_true h
mutual
theorem open_sh : ∀ {s : Sh} {t : TypeId} {fuel : Nat} {cs : List Value} {x : DataW H × List MemPlace}, shOk P s t = true → DataW.trod enc P W 0 (fun _ => true) true fuel t cs = some x → Somes W cs → ∃ tr, conf s tr ∧ RtL W tr.cells cs
  | .int k, t, fuel, cs, x, hs, h, hz => by
    unfold shOk at hs
    split at hs
    · rename_i k' hu
      have : k = k' := of_decide_eq_true hs
      subst this
      obtain ⟨n, rfl, -, hw⟩ := DataW.trod_int hu h
      exact ⟨.int k n, ⟨n, rfl, hw⟩, .cons (.int k n) .nil⟩
    · simp at hs
  | .bool, t, fuel, cs, x, hs, h, hz => by
    unfold shOk at hs
    split at hs
    · rename_i hu
      obtain ⟨b, rfl, -⟩ := DataW.trod_bool hu h
      exact ⟨.bool b, ⟨b, rfl⟩, .cons (.bool b) .nil⟩
    · simp at hs
  | .str, t, fuel, cs, x, hs, h, hz => by
    unfold shOk at hs
    split at hs
    · rename_i hu
      obtain ⟨b, rfl, -, hb⟩ := DataW.trod_string hu h
      exact ⟨.str b, ⟨b, rfl, hb⟩, .cons (.str b) .nil⟩
    · simp at hs
  | .slice s, t, fuel, cs, x, hs, h, hz => by
    unfold shOk at hs
    split at hs
    · rename_i e hu
      simp only [Bool.and_eq_true] at hs
      exact slice_case hu (beqN hs.1) (blt_iff.1 hs.2.1) (fun h hz => open_sh hs.2.2 h hz) h hz
    · simp at hs
  | .struct l, t, fuel, cs, x, hs, h, hz => by
    unfold shOk at hs
    split at hs
    · rename_i fs hu
      simp only [Bool.and_eq_true] at hs
      obtain ⟨xs, n, -, -, hl, hxl, hall⟩ := DataW.trod_struct hu h
      obtain ⟨ts, k1, k2⟩ := open_shL (fs := fs.toList) (o := 0) (pre := cs) (fuel := n) hs.2 (fun f hf => by
        obtain ⟨i, hi, rfl⟩ := List.getElem_of_mem hf
        have hi' : i < fs.size := by simpa using hi
        have := hall i fs[i] (Array.getElem?_eq_getElem hi')
        rw [List.getElem?_eq_getElem (by omega)] at this
        exact ⟨_, by rw [Array.getElem_toList]; exact this⟩) (by rw [hl, beqN hs.1]; omega) hz
      rw [List.drop_zero] at k2
      have hlen : cs.take (Sh.szL l) = cs := List.take_of_length_le (by rw [hl, beqN hs.1]; exact Nat.le_refl _)
      rw [hlen] at k2
      exact ⟨.agg ts, ⟨ts, rfl, k1⟩, k2⟩
    · simp at hs
theorem open_shL : ∀ {l : List Sh} {fs : List Field} {o fuel : Nat} {pre : List Value}, shOkL P l fs o = true → (∀ f, f ∈ fs → ∃ x, DataW.trod enc P W 0 (fun _ => true) true fuel f.type ((pre.drop f.offset).take (P.cellsOf f.type)) = some x) → o + Sh.szL l ≤ pre.length → Somes W pre → ∃ ts, confL l ts ∧ RtL W ts ((pre.drop o).take (Sh.szL l))
  | [], [], o, fuel, pre, hs, h, hl, hz => ⟨[], rfl, by unfold Sh.szL; rw [List.take_zero]; exact .nil⟩
  | [], _ :: _, o, fuel, pre, hs, h, hl, hz => by simp [shOkL] at hs
  | _ :: _, [], o, fuel, pre, hs, h, hl, hz => by simp [shOkL] at hs
  | s :: l, f :: fs, o, fuel, pre, hs, h, hl, hz => by
    unfold shOkL at hs
    unfold Sh.szL at hl ⊢
    simp only [Bool.and_eq_true] at hs
    obtain ⟨x, hx⟩ := h f (by simp)
    rw [beqN hs.1, beqN hs.2.1] at hx
    obtain ⟨tr, k1, k2⟩ := open_sh hs.2.2.1 hx (hz.sub fun v hv => List.mem_of_mem_drop (List.mem_of_mem_take hv))
    obtain ⟨ts, k3, k4⟩ := open_shL (o := o + s.sz) (pre := pre) (fuel := fuel) hs.2.2.2 (fun g hg => h g (by simp [hg])) (by omega) hz
    refine ⟨tr.cells ++ ts, ⟨tr, ts, rfl, k1, k3⟩, ?_⟩
    have := k2.append k4
    rw [show List.take s.sz (List.drop o pre) ++ List.take (Sh.szL l) (List.drop (o + s.sz) pre) = List.take (s.sz + Sh.szL l) (List.drop o pre) by rw [List.take_add, List.drop_drop]] at this
    exact this
end
theorem cellOk_slice {r : Reach} {base : Nat} {u : TypeId} {a : Addr} {n c : Nat} (h : Cell.okWide P W r base u (.slice (some a) n c)) : 0 < W.heap.size := by
  have key : Cell.ok P W r base u (.slice (some a) n c) → 0 < W.heap.size := fun h => by
    unfold Cell.ok at h
    split at h <;> first | contradiction | (exact h.elim) | skip
    rename_i hq
    cases hq
    obtain ⟨-, -, -, -, row, cells, hs, -⟩ := h
    unfold World.shape? at hs
    by_cases hb : 0 < W.heap.size
    · exact hb
    · rw [Array.getElem?_eq_none (by omega)] at hs; simp at hs
  unfold Cell.okWide at h
  split at h <;> first | exact key h | contradiction
theorem cellOk_agg {r : Reach} {base : Nat} {u : TypeId} {cs : Array Value} (h : Cell.okWide P W r base u (.agg cs)) : False := by
  unfold Cell.okWide at h
  split at h <;> first | contradiction | (unfold Cell.ok at h; split at h <;> first | contradiction | exact h)
theorem open_arg {r : Reach} {base : Nat} {s : Sh} {t : TypeId} {v : Value} {d : DataW H} {ps : List MemPlace} (hs : shOk P s t = true) (hv : Value.okWide P W r base t v) (h : DataW.Trod enc P W 0 (fun _ => true) true t v d ps) : ∃ tr, conf s tr ∧ Rt W tr v := by
  obtain ⟨fuel, h⟩ := h
  have one : (∀ fs, P.underlying t ≠ some (.struct fs)) → (∀ n e, P.underlying t ≠ some (.array n e)) → (∀ l, s ≠ .struct l) → ∃ tr, conf s tr ∧ Rt W tr v := fun h1 h2 h3 => by
    have hc : Cell.okWide P W r base t v := by
      unfold Value.okWide at hv
      split at hv
      · rename_i fs hu; exact absurd hu (h1 fs)
      · rename_i n e hu; exact absurd hu (h2 n e)
      · exact hv
    have hcs : v.cells.toList = [v] := by
      cases v <;> first | rfl | exact (cellOk_agg hc).elim
    rw [hcs] at h
    obtain ⟨tr, k1, k2⟩ := open_sh hs h (fun x hx ⟨a, n, c, he⟩ => by
      simp only [List.mem_singleton] at hx
      subst hx; subst he
      exact cellOk_slice hc)
    have ht : tr.cells = [tr] := by
      cases s with
      | struct l => exact absurd rfl (h3 l)
      | int k => obtain ⟨n, rfl, _⟩ := k1; rfl
      | bool => obtain ⟨n, rfl⟩ := k1; rfl
      | str => obtain ⟨n, rfl, _⟩ := k1; rfl
      | slice e => obtain ⟨l, rfl, _⟩ := k1; rfl
    rw [ht] at k2
    cases k2 with
    | cons a _ => exact ⟨tr, k1, a⟩
  cases s with
  | struct l =>
    have hu : ∃ fs, P.underlying t = some (.struct fs) := by
      unfold shOk at hs
      split at hs
      · rename_i fs hu; exact ⟨fs, hu⟩
      · simp at hs
    obtain ⟨fs, hu⟩ := hu
    unfold Value.okWide at hv
    rw [hu] at hv
    obtain ⟨cs, rfl, -, ts, -, -, hall⟩ := hv
    obtain ⟨tr, k1, k2⟩ := open_sh hs h (fun x hx ⟨a, n, c, he⟩ => by
      subst he
      obtain ⟨i, hi, hq⟩ := List.getElem_of_mem hx
      have hi' : i < cs.size := by simpa [Value.cells] using hi
      obtain ⟨u, -, hu2⟩ := hall i _ (Array.getElem?_eq_getElem hi')
      have : cs[i] = .slice (some a) n c := by simpa [Value.cells] using hq
      rw [this] at hu2
      exact cellOk_slice hu2)
    obtain ⟨ts, rfl, _⟩ := id k1
    exact ⟨_, k1, .agg (by simpa [T.cells, Value.cells] using k2)⟩
  | int k => 
    have : ∃ k', P.underlying t = some (.int k') := by
      unfold shOk at hs
      split at hs
      · rename_i k' hu; exact ⟨k', hu⟩
      · simp at hs
    obtain ⟨k', hu⟩ := this
    exact one (fun fs hh => by rw [hu] at hh; simp at hh) (fun n e hh => by rw [hu] at hh; simp at hh) (fun l hh => by simp at hh)
  | bool =>
    have : P.underlying t = some .bool := by
      unfold shOk at hs
      split at hs
      · rename_i hu; exact hu
      · simp at hs
    exact one (fun fs hh => by rw [this] at hh; simp at hh) (fun n e hh => by rw [this] at hh; simp at hh) (fun l hh => by simp at hh)
  | str =>
    have : P.underlying t = some .string := by
      unfold shOk at hs
      split at hs
      · rename_i hu; exact hu
      · simp at hs
    exact one (fun fs hh => by rw [this] at hh; simp at hh) (fun n e hh => by rw [this] at hh; simp at hh) (fun l hh => by simp at hh)
  | slice e =>
    have : ∃ e, P.underlying t = some (.slice e) := by
      unfold shOk at hs
      split at hs
      · rename_i e hu; exact ⟨e, hu⟩
      · simp at hs
    obtain ⟨e', hu⟩ := this
    exact one (fun fs hh => by rw [hu] at hh; simp at hh) (fun n e hh => by rw [hu] at hh; simp at hh) (fun l hh => by simp at hh)
end
end Go.Proofs.Ytfalnphlgfoflaa
