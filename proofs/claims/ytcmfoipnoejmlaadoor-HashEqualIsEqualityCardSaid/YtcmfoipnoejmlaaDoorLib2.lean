/- General facts for walks, second part: append to a slice of the call's own. No program in sight. -/
import Derived.Test.YtcmfoipnoejmlaaDoorLib
import Derived.Lib.AppendStr
namespace Go.Proofs.YtcmfoipnoejmlaaDoor
open Go.RowKit

theorem grownBy_trans {a b c : World} {r : Option Nat} (h : a.grownBy b r) (k : b.grownBy c r) : a.grownBy c r :=
  ⟨k.os.trans h.os, k.tape.trans h.tape, k.output.trans h.output, Nat.le_trans h.size k.size, fun i hi hr => (k.block i (Nat.lt_of_lt_of_le hi h.size) hr).trans (h.block i hi hr)⟩

/-- A slice value that owns the n elements cs (sz cells each). -/
def Own (w : World) (base e sz : Nat) (v : Value) (n : Nat) (cs : List Value) : Prop := ∃ ao cap, v = .slice ao n cap ∧ w.ownsRow base e sz v n cs
theorem Own.mk' {w : World} {base e sz n : Nat} {v : Value} {cs : List Value} (h : w.ownsRow base e sz v n cs) : Own w base e sz v n cs := by
  rcases h.2 with ⟨rfl, rfl⟩ | ⟨g, cap, cur, rfl, _⟩
  · exact ⟨_, _, rfl, h⟩
  · exact ⟨_, _, rfl, h⟩
theorem Own.row {w : World} {base e sz n : Nat} {v : Value} {cs : List Value} (h : Own w base e sz v n cs) : w.ownsRow base e sz v n cs := by obtain ⟨_, _, _, h⟩ := h; exact h
theorem Own.nil (w : World) (base e sz : Nat) : Own w base e sz (.slice none 0 0) 0 [] := .mk' (World.ownsRow_nil w base e sz)
theorem Own.below {w w' : World} {B base e sz n : Nat} {v : Value} {xs : List Value} (h : Own w base e sz v n xs) (hb : Below B w w') (hB : w.heap.size ≤ B) : Own w' base e sz v n xs := .mk' (own_below h.row hb hB)
theorem Own.mono {w : World} {base base' e sz n : Nat} {v : Value} {xs : List Value} (h : Own w base e sz v n xs) (hb : base' ≤ base) : Own w base' e sz v n xs := .mk' (own_mono h.row hb)
theorem Own.alloc {w : World} {base e sz n : Nat} {v : Value} {xs : List Value} (h : Own w base e sz v n xs) (o : Obj) : Own (w.alloc o) base e sz v n xs := .mk' (h.row.alloc o)
theorem Own.drew {w : World} {base e sz n : Nat} {v : Value} {xs : List Value} (h : Own w base e sz v n xs) : Own w.drew base e sz v n xs := h
theorem Own.sl {w : World} {base e n : Nat} {v : Value} {xs : List Value} (h : Own w base e 1 v n xs) : ∃ ao cap, v = .slice ao n cap ∧ Sl w ao n cap xs := Sl.of_own h.row
theorem Own.sl' {w : World} {base e n cap : Nat} {ao : Option Addr} {xs : List Value} (h : Own w base e 1 (.slice ao n cap) n xs) : Sl w ao n cap xs := by
  obtain ⟨ao', cap', hv, hs⟩ := h.sl
  cases hv
  exact hs
/-- behind an append to an owned row: what lies below 'base' is as it was -/
theorem Own.grew {a w w' : World} {B base e sz n : Nat} {v : Value} {cs : List Value} (h : Own w base e sz v n cs) (hg : w.grownBy w' v.ownBlock) (hb : Below B a w) (hB : B ≤ base) (hw : B ≤ w.heap.size) : Below B a w' :=
  hb.grown hg hw fun k hk => Nat.le_trans hB (h.row.lt k hk).1
/-- another slice over memory below 'base' reads as it did -/
theorem Own.grewSl {w w' : World} {base e sz n : Nat} {v : Value} {cs : List Value} (h : Own w base e sz v n cs) (hg : w.grownBy w' v.ownBlock) {W : World} (hW : Below base W w) (hs : W.heap.size ≤ base) {ao m cap ys} (hsl : Sl W ao m cap ys) (hbw : base ≤ w.heap.size) : Sl w' ao m cap ys :=
  hsl.below (h.grew hg hW (Nat.le_refl _) hbw) hs

/-- 'append(out, x...)', out the call's own, x a slice of one-cell elements, nil or not. -/
theorem wpList_append_s {P : Program} {w : World} {ops : Array Oper} {rest : List Oper} {o : Oper} {a : Act} {Q : Exit → Act → World → Prop} (hgd : o.guard = none) (s x : Operand) (t : TypeId)
    (ho : o.op = .call { callee := .builtin .append, args := #[s, x], argTypes := #[t, t] })
    (e : TypeId) (i : TypeInfo) (z : Value) (bytes : Nat) (ht : P.underlying t = some (.slice e)) (hi : P.info? e = some i) (hz : i.zero = some z)
    (hsize : i.size = 1) (hby : i.bytes = bytes) (hzs : z.cells.size = 1)
    (base : Nat) (v : Value) (n : Nat) (xs : List Value) (hs : a.eval s = v) (hown : Own w base e 1 v n xs) (ao : Option Addr) (m c : Nat) (ys : List Value) (hx : a.eval x = .slice ao m c) (hsl : Sl w ao m c ys) (h1 : ∀ u ∈ ys, u.oneCell' = true)
    (hbytes : (n + m) * bytes ≤ 140737488355328) (hnm : n + m ≤ 140737488355328) (hbase : base ≤ w.heap.size)
    (hK : ∀ v' w', Own w' base e 1 v' (n + m) (xs ++ ys) → w.grownBy w' v.ownBlock → wpList P ops Q rest (a.put o.dst v') w') : wpList P ops Q (o :: rest) a w := by
  by_cases hm : m = 0
  · subst hm
    have hy : ys = [] := List.eq_nil_of_length_eq_zero hsl.len
    subst hy
    cases ao with
    | none =>
      obtain rfl : c = 0 := hsl.nil rfl
      refine wpList_append_own_none hgd s x t ho base e i 1 ht hi v n xs hs hown.row hx ?_
      exact hK _ _ (by simpa using hown) ⟨rfl, rfl, rfl, Nat.le_refl _, fun _ _ _ => rfl⟩
    | some ad =>
      refine wpList_append_own w hgd s x t ho base e i z 1 bytes ht hi hz hsize hby hzs (by decide) v n xs hs hown.row ad 0 c [] hx rfl (by simp) h1 (by unfold maxLen; omega) hbytes hbase ?_
      intro v' w' h2 h3 _
      exact hK _ _ (.mk' h2) h3
  · obtain ⟨b, off, rfl, hc⟩ := hsl.at (j := 0) (by omega)
    refine wpList_append_own w hgd s x t ho base e i z 1 bytes ht hi hz hsize hby hzs (by decide) v n xs hs hown.row ⟨b, off, none⟩ m c ys hx (by have := hsl.len; omega) ?_ h1 (by unfold maxLen; omega) hbytes hbase ?_
    · intro j u hj
      have hlt := (List.getElem?_eq_some_iff.1 hj).1
      rw [Addr.add_lit, hc j (by rw [← hsl.len]; exact hlt)]
      simp [List.getD, hj]
    · intro v' w' h2 h3 _
      exact hK _ _ (.mk' h2) h3

/-- 'append(out, s...)', s a string. -/
theorem wpList_append_t {P : Program} {w : World} {ops : Array Oper} {rest : List Oper} {o : Oper} {a : Act} {Q : Exit → Act → World → Prop} (hgd : o.guard = none) (s x : Operand) (t u : TypeId)
    (ho : o.op = .call { callee := .builtin .append, args := #[s, x], argTypes := #[t, u] })
    (e : TypeId) (i : TypeInfo) (ht : P.underlying t = some (.slice e)) (hu : P.underlying u = some .string) (hi : P.info? e = some i) (hz : i.zero = some (.int .u8 0))
    (hsize : i.size = 1) (hby : i.bytes = 1)
    (base : Nat) (v : Value) (n : Nat) (xs : List Value) (hs : a.eval s = v) (hown : Own w base e 1 v n xs) (l : List UInt8) (hx : a.eval x = .string ⟨l.toArray⟩)
    (hnm : n + l.length ≤ 140737488355328) (hbase : base ≤ w.heap.size)
    (hK : ∀ v' w', Own w' base e 1 v' (n + l.length) (xs ++ u8s l) → w.grownBy w' v.ownBlock → wpList P ops Q rest (a.put o.dst v') w') : wpList P ops Q (o :: rest) a w := by
  have hsz : ByteArray.size ⟨l.toArray⟩ = l.length := by simp [ByteArray.size]
  refine Lib.wpList_append_own_string w hgd s x t u ho base e i ht hu hi hz hsize hby v n xs hs hown.row ⟨l.toArray⟩ hx (by rw [hsz]; unfold maxLen; omega) (by rw [hsz]; exact hnm) hbase ?_
  intro v' w' h2 h3 _
  rw [hsz] at h2
  exact hK _ _ (.mk' h2) h3

theorem foldl_set (c : Array Value) : ∀ (l : List Value) (k : Nat) (cs : Array Value), cs.size = c.size → k + l.length = c.size → (∀ j, j < l.length → c[k + j]? = l[j]?) → (∀ j, j < k → cs[j]? = c[j]?) →
    (l.zipIdx k).foldl (fun cs (p : Value × Nat) => cs.setIfInBounds p.2 p.1) cs = c := by
  intro l
  induction l with
  | nil =>
    intro k cs h1 h2 _ h4
    simp only [List.zipIdx_nil, List.foldl_nil]
    apply Array.ext_getElem?
    intro j
    by_cases hj : j < k
    · exact h4 j hj
    · simp only [List.length_nil, Nat.add_zero] at h2
      rw [Array.getElem?_eq_none (by omega), Array.getElem?_eq_none (by omega)]
  | cons x l ih =>
    intro k cs h1 h2 h3 h4
    simp only [List.zipIdx_cons, List.foldl_cons]
    simp only [List.length_cons] at h2
    refine ih (k + 1) _ (by simp [h1]) (by omega) ?_ ?_
    · intro j hj
      have := h3 (j + 1) (by simp; omega)
      rw [show k + 1 + j = k + (j + 1) by omega, this]
      simp
    · intro j hj
      rw [Array.getElem?_setIfInBounds]
      by_cases hjk : k = j
      · subst hjk
        rw [if_pos rfl, if_pos (by omega)]
        have := h3 0 (by simp)
        simpa using this.symm
      · rw [if_neg hjk]
        exact h4 j (by omega)

theorem one_int (k : IntKind) (n : Int) : ∀ u ∈ (Value.int k n).cells.toList, u.oneCell' = true := by
  intro u hu
  simp [Value.cells] at hu
  subst hu
  rfl
theorem one_str (s : ByteArray) : ∀ u ∈ (Value.string s).cells.toList, u.oneCell' = true := by
  intro u hu
  simp [Value.cells] at hu
  subst hu
  rfl

theorem run_buildSlice1 {P : Program} {w : World} {t e : TypeId} {i : TypeInfo} {z : Value} (ht : P.underlying t = some (.slice e)) (hi : P.info? e = some i) (hz : i.zero = some z) (h0 : 0 < i.size) (h24 : i.size ≤ 16777216)
    (val : Value) (hv : val.cells.size = i.size) :
    (Instr.buildSlice t 1 #[(0, val)]).run P w = .ok (.slice (some ⟨w.heap.size, 0, none⟩) 1 1) (w.alloc (.cells val.cells e)) := by
  have hf : ∀ cs : Array Value, cs.size = val.cells.size → Instr.fill (fun j => some (j * i.size, i.size)) cs [(0, val)] = some val.cells := by
    intro cs hcs
    simp only [Instr.fill, Nat.zero_mul, Nat.zero_add]
    rw [if_neg (by simp [hv]; omega)]
    have := foldl_set val.cells val.cells.toList 0 cs hcs (by simp) (by intro j hj; simp) (by intro j hj; omega)
    rw [← Array.foldl_toList]
    simp only [Array.toList_zipIdx]
    rw [this]
  have hne : ¬ (i.size = 0) := by omega
  simp [Instr.buildSlice, run_underlying ht, sizeOf, typeInfo, hi, zeroValue, hz, hne, show ¬ (16777216 < i.size) by omega, hf, hv]
  rfl

/-- 'append(out, x)' of ONE element: the element is laid in a block of its own, then appended: the two operations at once. -/
theorem wpList_append1 {P : Program} {w : World} {ops : Array Oper} {rest : List Oper} {o1 o2 : Oper} {a : Act} {Q : Exit → Act → World → Prop} (hg1 : o1.guard = none) (hg2 : o2.guard = none) (ts d1 : Tmp) (x : Operand) (t : TypeId)
    (hd1 : o1.dst = some d1) (hne : ts ≠ d1) (hlt : d1 < a.tmps.size) (ho1 : o1.op = .buildSlice t 1 #[(0, x)]) (ho2 : o2.op = .call { callee := .builtin .append, args := #[.tmp ts, .tmp d1], argTypes := #[t, t] })
    (e : TypeId) (i : TypeInfo) (z : Value) (size bytes : Nat) (ht : P.underlying t = some (.slice e)) (hi : P.info? e = some i) (hz : i.zero = some z)
    (hsize : i.size = size) (hby : i.bytes = bytes) (hzs : z.cells.size = size) (hsz : 0 < size) (h24 : size ≤ 16777216)
    (base : Nat) (v : Value) (n : Nat) (xs : List Value) (hs : a.eval (.tmp ts) = v) (hown : Own w base e size v n xs) (val : Value) (hx : a.eval x = val) (hvs : val.cells.size = size) (h1 : ∀ u ∈ val.cells.toList, u.oneCell' = true)
    (hbytes : (n + 1) * bytes ≤ 140737488355328) (hnm : n + 1 ≤ 140737488355328) (hbase : base ≤ w.heap.size)
    (hK : ∀ v' w', Own w' base e size v' (n + 1) (xs ++ val.cells.toList) → w.grownBy w' v.ownBlock → wpList P ops Q rest ((a.put (some d1) (.slice (some ⟨w.heap.size, 0, none⟩) 1 1)).put o2.dst v') w') : wpList P ops Q (o1 :: o2 :: rest) a w := by
  subst hsize
  refine wpList_plain hg1 fun K hKK => ?_
  have hr := run_buildSlice1 (P := P) (w := w) ht hi hz hsz h24 val hvs
  unfold Oper.wp
  simp only [execOp, ho1, Sem.run_bind, List.map_toArray, List.map_cons, List.map_nil, hx, hr, Result.andThen_ok, Sem.run_pure, Oper.upon_value, hd1]
  refine hKK _ _ ?_
  refine wpList_append_own (w.alloc (.cells val.cells e)) hg2 (.tmp ts) (.tmp d1) t ho2 base e i z i.size bytes ht hi hz rfl hby hzs hsz v n xs ?_ (hown.alloc _).row ⟨w.heap.size, 0, none⟩ 1 1 val.cells.toList ?_ (by simp [hvs]) ?_ h1 (by unfold maxLen; omega) hbytes (by simp; omega) ?_
  · rw [← hs]
    simp only [Act.eval, Act.put, Array.getD_eq_getD_getElem?, Array.getElem?_setIfInBounds]
    rw [if_neg (Ne.symm hne)]
  · simp [Act.eval, Act.put, hlt]
  · intro j u hj
    have hb := heap_alloc_new w (.cells val.cells e)
    rw [Addr.add_lit, Nat.zero_add, cell_of_row _ w.heap.size j val.cells e (0, 0) hb]
    simpa using hj
  · intro v' w' h2 h3 _
    exact hK v' w' (.mk' h2) (grownBy_trans (World.grownBy_alloc w _ _) h3)
/-- one more byte -/
theorem own_push {w : World} {base e : Nat} {v : Value} {pre : List UInt8} {x : Int} {c : UInt8} (h : Own w base e 1 v (pre.length + 1) (u8s pre ++ (Value.int .u8 x).cells.toList)) (hx : x = ((c.toNat : Nat) : Int)) :
    Own w base e 1 v (pre ++ [c]).length (u8s (pre ++ [c])) := by
  subst hx
  simpa [u8s, u8v, Value.cells] using h
/-- 'b[l:]' of bytes -/
theorem wpList_bs_from {P : Program} {w : World} {ops : Array Oper} {rest : List Oper} {o : Oper} {a : Act} {Q : Exit → Act → World → Prop} (hgd : o.guard = none)
    (t : TypeId) (x lo : Operand) (ho : o.op = .slice t x (some lo) none none) (e : TypeId) (i : TypeInfo) (ht : P.underlying t = some (.slice e)) (hi : P.info? e = some i) (hsz : i.size = 1)
    {ao : Option Addr} {n cap : Nat} {l : List UInt8} (hx : a.eval x = .slice ao n cap) (hs : Bs w ao n cap l) (p : Nat) (k : IntKind) (hlo : a.eval lo = .int k (p : Int)) (hp : p ≤ n)
    (hK : ∀ ao', Bs w ao' (n - p) (cap - p) (l.drop p) → wpList P ops Q rest (a.put o.dst (.slice ao' (n - p) (cap - p))) w) : wpList P ops Q (o :: rest) a w := by
  refine wpList_slice_sl hgd t x (some lo) none ho e i ht hi hsz hx hs p n (.inr ⟨_, k, rfl, hlo⟩) (.inl ⟨rfl, rfl⟩) hp (Nat.le_refl _) ?_
  intro ao' h
  rw [u8s_drop, u8s_take, List.take_of_length_le (by rw [List.length_drop, hs.length]; exact Nat.le_refl _)] at h
  exact hK ao' h
/-- 'b[:h]' of bytes -/
theorem wpList_bs_to {P : Program} {w : World} {ops : Array Oper} {rest : List Oper} {o : Oper} {a : Act} {Q : Exit → Act → World → Prop} (hgd : o.guard = none)
    (t : TypeId) (x hi' : Operand) (ho : o.op = .slice t x none (some hi') none) (e : TypeId) (i : TypeInfo) (ht : P.underlying t = some (.slice e)) (hi : P.info? e = some i) (hsz : i.size = 1)
    {ao : Option Addr} {n cap : Nat} {l : List UInt8} (hx : a.eval x = .slice ao n cap) (hs : Bs w ao n cap l) (p : Nat) (k : IntKind) (hlo : a.eval hi' = .int k (p : Int)) (hp : p ≤ n)
    (hK : ∀ ao', Bs w ao' p cap (l.take p) → wpList P ops Q rest (a.put o.dst (.slice ao' p cap)) w) : wpList P ops Q (o :: rest) a w := by
  refine wpList_slice_sl hgd t x none (some hi') ho e i ht hi hsz hx hs 0 p (.inl ⟨rfl, rfl⟩) (.inr ⟨_, k, rfl, hlo⟩) (Nat.zero_le _) hp ?_
  intro ao' h
  rw [u8s_drop, u8s_take] at h
  exact hK ao' h
end Go.Proofs.YtcmfoipnoejmlaaDoor
