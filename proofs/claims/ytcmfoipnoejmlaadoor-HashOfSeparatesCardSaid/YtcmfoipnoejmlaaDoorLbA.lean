/- General facts for walks: slices that read as lists, what is kept when a call makes new memory. No program in sight. -/
import Derived.WalkKit
import Derived.Lib.Hide
import Derived.Laws.CopyOwn
import Derived.Laws.AppendOwnNone
import Derived.Lib.AppendStr
import Derived.Deep.QuietTactic
import Derived.BigQuiet
import Derived.WalkSpells
set_option linter.unusedSimpArgs false
set_option linter.unusedVariables false
set_option linter.unusedSectionVars false
namespace Go.Proofs.YtcmfoipnoejmlaaDoor
open Go.RowKit

/-- The slice (ao, n, cap) has the n elements cs, one cell each. -/
structure Sl (w : World) (ao : Option Addr) (n cap : Nat) (cs : List Value) : Prop where
  len : cs.length = n
  fits : n ≤ cap
  small : cap ≤ maxLen
  nil : ao = none → cap = 0
  cells : n = 0 ∨ ∃ b off, ao = some ⟨b, off, none⟩ ∧ ∀ j, j < n → w.cell? ⟨b, off + j, none⟩ = some (cs.getD j undef)

theorem block_lt_of_cell {w : World} {b o : Nat} {v : Value} (h : w.cell? ⟨b, o, none⟩ = some v) : b < w.heap.size := World.block_lt_of_cell? w _ h

/-- Memory that was there reads as before. -/
structure Kept (w w' : World) : Prop where
  size : w.heap.size ≤ w'.heap.size
  block : ∀ k, k < w.heap.size → w'.heap[k]? = w.heap[k]?
theorem Below.kept' {w w' : World} (h : Below w.heap.size w w') : Kept w w' := ⟨h.size, h.block⟩

theorem Sl.keep {w w' : World} {ao n cap cs} (h : Sl w ao n cap cs) (hk : ∀ k, k < w.heap.size → w'.heap[k]? = w.heap[k]?) : Sl w' ao n cap cs := by
  refine ⟨h.len, h.fits, h.small, h.nil, ?_⟩
  rcases h.cells with h0 | ⟨b, off, ha, hc⟩
  · exact .inl h0
  · refine .inr ⟨b, off, ha, fun j hj => ?_⟩
    have := hc j hj
    rw [World.cell?_of_block (w := w) (hk b (block_lt_of_cell this))]
    exact this
theorem Sl.below {w w' : World} {B ao n cap cs} (h : Sl w ao n cap cs) (hb : Below B w w') (hB : w.heap.size ≤ B) : Sl w' ao n cap cs :=
  h.keep fun k hk => hb.block k (by omega)
theorem Sl.drew {w : World} {ao n cap cs} (h : Sl w ao n cap cs) : Sl w.drew ao n cap cs := h.keep fun _ _ => rfl
theorem Sl.alloc {w : World} {ao n cap cs} (h : Sl w ao n cap cs) (o : Obj) : Sl (w.alloc o) ao n cap cs := h.keep fun k hk => Below.heap_alloc w o k hk

theorem Sl.at {w : World} {ao n cap cs} (h : Sl w ao n cap cs) {j : Nat} (hj : j < n) : ∃ b off, ao = some ⟨b, off, none⟩ ∧ ∀ j, j < n → w.cell? ⟨b, off + j, none⟩ = some (cs.getD j undef) := by
  rcases h.cells with h0 | h1
  · omega
  · exact h1

theorem Sl.nilSl (w : World) : Sl w none 0 0 [] := ⟨rfl, Nat.le_refl _, Nat.zero_le _, fun _ => rfl, .inl rfl⟩

/-- What the call owns reads as a slice. -/
theorem Sl.of_own {w : World} {base e n : Nat} {v : Value} {xs : List Value} (h : w.ownsRow base e 1 v n xs) : ∃ ao cap, v = .slice ao n cap ∧ Sl w ao n cap xs := by
  obtain ⟨hl, h | ⟨g, cap, cur, rfl, hb, hg, hnc, hcm, hcs, ht⟩⟩ := h
  · obtain ⟨rfl, rfl⟩ := h
    have : xs = [] := List.eq_nil_of_length_eq_zero (by simpa using hl)
    subst this
    exact ⟨none, 0, rfl, Sl.nilSl w⟩
  · refine ⟨_, cap, rfl, by omega, hnc, hcm, by simp, .inr ⟨g, 0, rfl, fun j hj => ?_⟩⟩
    have hlt : j < xs.length := by omega
    rw [Nat.zero_add, cell_of_row w g j cur e (0, 0) hg]
    subst ht
    have h2 : j < cur.toList.length := by simp at hlt ⊢; omega
    simp only [List.getD_eq_getElem?_getD, List.getElem?_take]
    rw [if_pos (by omega), List.getElem?_eq_getElem h2]
    simp
/-- owned rows are kept when nothing that was there turns -/
theorem own_below {w w' : World} {B base e sz n : Nat} {v : Value} {xs : List Value} (h : w.ownsRow base e sz v n xs) (hb : Below B w w') (hB : w.heap.size ≤ B) : w'.ownsRow base e sz v n xs := by
  refine ⟨h.1, ?_⟩
  rcases h.2 with hn | ⟨g, cap, cur, rfl, hbg, hg, rest⟩
  · exact .inl hn
  · refine .inr ⟨g, cap, cur, rfl, hbg, ?_, rest⟩
    rw [hb.block g (by have := (Array.getElem?_eq_some_iff.1 hg).1; omega)]
    exact hg
theorem own_mono {w : World} {base base' e sz n : Nat} {v : Value} {xs : List Value} (h : w.ownsRow base e sz v n xs) (hb : base' ≤ base) : w.ownsRow base' e sz v n xs := by
  refine ⟨h.1, ?_⟩
  rcases h.2 with hn | ⟨g, cap, cur, rfl, hbg, rest⟩
  · exact .inl hn
  · exact .inr ⟨g, cap, cur, rfl, by omega, rest⟩

/-- 's[l:h]' of a slice of one-cell elements. -/
theorem run_slice_sl {P : Program} {w : World} {t e : TypeId} {i : TypeInfo} (ht : P.underlying t = some (.slice e)) (hi : P.info? e = some i) (hsz : i.size = 1)
    {ao : Option Addr} {n cap : Nat} {cs : List Value} (hs : Sl w ao n cap cs) (lo hi' : Option Value) (l h : Nat)
    (hlo : lo = none ∧ l = 0 ∨ ∃ k, lo = some (.int k (l : Int))) (hhi : hi' = none ∧ h = n ∨ ∃ k, hi' = some (.int k (h : Int))) (hlh : l ≤ h) (hn : h ≤ n) :
    ∃ ao', (Instr.slice t (.slice ao n cap) lo hi' none).run P w = .ok (.slice ao' (h - l) (cap - l)) w ∧ Sl w ao' (h - l) (cap - l) ((cs.drop l).take (h - l)) := by
  have hf := hs.fits
  have hsm := hs.small
  have hcl := hs.len
  refine ⟨if cap = l then ao else ao.map (·.add (l * 1)), ?_, ?_⟩
  · rcases hlo with ⟨rfl, rfl⟩ | ⟨k, rfl⟩ <;> rcases hhi with ⟨rfl, rfl⟩ | ⟨k', rfl⟩ <;>
      simp [Instr.slice, run_underlying ht, Instr.sliceBounds, Instr.sliceBound, asIntOf, sizeOf, typeInfo, hi, hsz, hlh, (show h ≤ cap by omega)]
  · refine ⟨by simp; omega, by omega, by omega, ?_, ?_⟩
    · intro h0
      by_cases hc : cap = l
      · omega
      · rw [if_neg hc] at h0
        have : ao = none := by cases ao <;> simp_all
        have := hs.nil this
        omega
    · by_cases hz : h - l = 0
      · exact .inl hz
      · obtain ⟨b, off, rfl, hc⟩ := hs.at (j := l) (by omega)
        refine .inr ⟨b, off + l, ?_, fun j hj => ?_⟩
        · rw [if_neg (by omega)]
          unfold Addr.add
          by_cases hl0 : l = 0
          · subst hl0; simp
          · simp [hl0]
        · rw [Nat.add_assoc, hc (l + j) (by omega)]
          simp [hj]

theorem wpList_slice_sl {P : Program} {w : World} {ops : Array Oper} {rest : List Oper} {o : Oper} {a : Act} {Q : Exit → Act → World → Prop} (hgd : o.guard = none)
    (t : TypeId) (x : Operand) (lo hi' : Option Operand) (ho : o.op = .slice t x lo hi' none) (e : TypeId) (i : TypeInfo) (ht : P.underlying t = some (.slice e)) (hi : P.info? e = some i) (hsz : i.size = 1)
    {ao : Option Addr} {n cap : Nat} {cs : List Value} (hx : a.eval x = .slice ao n cap) (hs : Sl w ao n cap cs) (l h : Nat)
    (hlo : lo = none ∧ l = 0 ∨ ∃ y k, lo = some y ∧ a.eval y = .int k (l : Int)) (hhi : hi' = none ∧ h = n ∨ ∃ y k, hi' = some y ∧ a.eval y = .int k (h : Int)) (hlh : l ≤ h) (hn : h ≤ n)
    (hK : ∀ ao', Sl w ao' (h - l) (cap - l) ((cs.drop l).take (h - l)) → wpList P ops Q rest (a.put o.dst (.slice ao' (h - l) (cap - l))) w) : wpList P ops Q (o :: rest) a w := by
  refine wpList_plain hgd fun K hKK => ?_
  obtain ⟨ao', hr, hs'⟩ := run_slice_sl (P := P) ht hi hsz hs (lo.map a.eval) (hi'.map a.eval) l h
    (by rcases hlo with ⟨rfl, h0⟩ | ⟨y, k, rfl, hy⟩; exact .inl ⟨rfl, h0⟩; exact .inr ⟨k, by simp [hy]⟩)
    (by rcases hhi with ⟨rfl, h0⟩ | ⟨y, k, rfl, hy⟩; exact .inl ⟨rfl, h0⟩; exact .inr ⟨k, by simp [hy]⟩) hlh hn
  have hr' : (Instr.sliceAt t (.slice ao n cap) (lo.map a.eval) (hi'.map a.eval) none).run P w = .ok (.slice ao' (h - l) (cap - l)) w := by
    simp only [Instr.sliceAt, Sem.run_bind, run_underlying ht, Result.andThen_ok]
    exact hr
  unfold Oper.wp execOp
  simp only [ho, Sem.run_bind, hx, Option.map_none, hr', Result.andThen_ok, Sem.run_pure]
  exact hKK _ _ (hK _ hs')

/-- bytes as cells -/
def u8v (c : UInt8) : Value := .int .u8 (c.toNat : Int)
def u8s (l : List UInt8) : List Value := l.map u8v
theorem u8s_length (l : List UInt8) : (u8s l).length = l.length := by simp [u8s]
theorem u8s_getD {l : List UInt8} {j : Nat} (h : j < l.length) : (u8s l).getD j undef = .int .u8 ((l[j].toNat : Nat) : Int) := by simp [u8s, u8v, h]
theorem u8s_append (a b : List UInt8) : u8s (a ++ b) = u8s a ++ u8s b := by simp [u8s]
theorem u8s_drop (a : List UInt8) (n : Nat) : (u8s a).drop n = u8s (a.drop n) := by simp [u8s]
theorem u8s_take (a : List UInt8) (n : Nat) : (u8s a).take n = u8s (a.take n) := by simp [u8s]
theorem u8s_oneCell (l : List UInt8) : ∀ u ∈ u8s l, u.oneCell' = true := by
  intro u hu
  obtain ⟨c, _, rfl⟩ := List.mem_map.1 hu
  rfl
abbrev Bs (w : World) (ao : Option Addr) (n cap : Nat) (l : List UInt8) : Prop := Sl w ao n cap (u8s l)
theorem Bs.length {w : World} {ao n cap l} (h : Bs w ao n cap l) : l.length = n := by have := h.len; rwa [u8s_length] at this
theorem Bs.at {w : World} {ao n cap l} (h : Bs w ao n cap l) {j : Nat} (hj : j < n) : ∃ b off, ao = some ⟨b, off, none⟩ ∧ ∀ j (hj : j < l.length), w.cell? ⟨b, off + j, none⟩ = some (.int .u8 ((l[j].toNat : Nat) : Int)) := by
  obtain ⟨b, off, ha, hc⟩ := Sl.at h hj
  refine ⟨b, off, ha, fun j hj => ?_⟩
  rw [hc j (by rw [← h.length]; exact hj), u8s_getD hj]

/-- 'string(b)' -/
theorem run_string_bs {P : Program} {w : World} {ao n cap l} (h : Bs w ao n cap l) (src e dst : TypeId) (hs : P.underlying src = some (.slice e)) (he : P.underlying e = some (.int .u8)) (hd : P.underlying dst = some .string) :
    (convert src dst (.slice ao n cap)).run P w = .ok (.string ⟨l.toArray⟩) w := by
  have hl := h.length
  by_cases h0 : n = 0
  · subst h0
    have : l = [] := List.eq_nil_of_length_eq_zero hl
    subst this
    cases ao with
    | none => rw [run_convert_bytes_nil w src e hs he 0 cap dst hd]; rfl
    | some a =>
      rw [run_convert_bytes_string w src dst e _ 0 cap hs he hd]
      simp [Conv.bytesToString, loadCells, loadCellsFrom]
      rfl
  · obtain ⟨b, off, rfl, hc⟩ := Bs.at h (j := 0) (by omega)
    rw [run_convert_bytes_arg w src e hs he b off n cap (l.map fun c => (c.toNat : Int)) (by simp [hl]) (fun i hi => by rw [hc i (by omega)]; simp [show i < l.length by omega]) dst hd]
    congr 2
    have : (strOfNums (l.map fun c => (c.toNat : Int))).data.toList = l := by
      rw [strOfNums_data, List.map_map]
      conv => rhs; rw [← List.map_id l]
      apply List.map_congr_left
      intro c _
      simp
    exact congrArg ByteArray.mk (Array.toList_inj.1 this)
end Go.Proofs.YtcmfoipnoejmlaaDoor
namespace Go.Proofs.YtcmfoipnoejmlaaDoor
open Go.RowKit

theorem grownBy_trans {a b c : World} {r : Option Nat} (h : a.grownBy b r) (k : b.grownBy c r) : a.grownBy c r :=
  ⟨k.os.trans h.os, k.tape.trans h.tape, k.output.trans h.output, Nat.le_trans h.size k.size, fun i hi hr => (k.block i (Nat.lt_of_lt_of_le hi h.size) hr).trans (h.block i hi hr)⟩

/-- A slice value that owns the n elements cs (sz cells each). -/
def Own (w : World) (base e sz : Nat) (v : Value) (n : Nat) (cs : List Value) : Prop := ∃ ao cap, v = .slice ao n cap ∧ w.ownsRow base e sz v n cs
theorem Own.mk' {w : World} {base e sz n : Nat} {v : Value} {cs : List Value} (h : w.ownsRow base e sz v n cs) : Own w base e sz v n cs := by
  rcases h.2 with ⟨rfl, rfl⟩ | ⟨g, cap, cur, rfl, _⟩
  · exact ⟨_, _, rfl, h⟩
  · exact ⟨_, _, rfl, h⟩
theorem Own.row {w : World} {base e sz n : Nat} {v : Value} {cs : List Value} (h : Own w base e sz v n cs) : w.ownsRow base e sz v n cs := by obtain ⟨_, _, _, h⟩ := h; exact h
theorem Own.nil (w : World) (base e sz : Nat) : Own w base e sz (.slice none 0 0) 0 [] := .mk' (World.ownsRow_nil w base e sz)
theorem Own.below {w w' : World} {B base e sz n : Nat} {v : Value} {xs : List Value} (h : Own w base e sz v n xs) (hb : Below B w w') (hB : w.heap.size ≤ B) : Own w' base e sz v n xs := .mk' (own_below h.row hb hB)
theorem Own.mono {w : World} {base base' e sz n : Nat} {v : Value} {xs : List Value} (h : Own w base e sz v n xs) (hb : base' ≤ base) : Own w base' e sz v n xs := .mk' (own_mono h.row hb)
theorem Own.alloc {w : World} {base e sz n : Nat} {v : Value} {xs : List Value} (h : Own w base e sz v n xs) (o : Obj) : Own (w.alloc o) base e sz v n xs := .mk' (h.row.alloc o)
theorem Own.drew {w : World} {base e sz n : Nat} {v : Value} {xs : List Value} (h : Own w base e sz v n xs) : Own w.drew base e sz v n xs := h
theorem Own.sl {w : World} {base e n : Nat} {v : Value} {xs : List Value} (h : Own w base e 1 v n xs) : ∃ ao cap, v = .slice ao n cap ∧ Sl w ao n cap xs := Sl.of_own h.row
theorem Own.sl' {w : World} {base e n cap : Nat} {ao : Option Addr} {xs : List Value} (h : Own w base e 1 (.slice ao n cap) n xs) : Sl w ao n cap xs := by
  obtain ⟨ao', cap', hv, hs⟩ := h.sl
  cases hv
  exact hs
/-- behind an append to an owned row: what lies below 'base' is as it was -/
theorem Own.grew {a w w' : World} {B base e sz n : Nat} {v : Value} {cs : List Value} (h : Own w base e sz v n cs) (hg : w.grownBy w' v.ownBlock) (hb : Below B a w) (hB : B ≤ base) (hw : B ≤ w.heap.size) : Below B a w' :=
  hb.grown hg hw fun k hk => Nat.le_trans hB (h.row.lt k hk).1
/-- another slice over memory below 'base' reads as it did -/
theorem Own.grewSl {w w' : World} {base e sz n : Nat} {v : Value} {cs : List Value} (h : Own w base e sz v n cs) (hg : w.grownBy w' v.ownBlock) {W : World} (hW : Below base W w) (hs : W.heap.size ≤ base) {ao m cap ys} (hsl : Sl W ao m cap ys) (hbw : base ≤ w.heap.size) : Sl w' ao m cap ys :=
  hsl.below (h.grew hg hW (Nat.le_refl _) hbw) hs

/-- 'append(out, x...)', out the call's own, x a slice of one-cell elements, nil or not. -/
theorem wpList_append_s {P : Program} {w : World} {ops : Array Oper} {rest : List Oper} {o : Oper} {a : Act} {Q : Exit → Act → World → Prop} (hgd : o.guard = none) (s x : Operand) (t : TypeId)
    (ho : o.op = .call { callee := .builtin .append, args := #[s, x], argTypes := #[t, t] })
    (e : TypeId) (i : TypeInfo) (z : Value) (bytes : Nat) (ht : P.underlying t = some (.slice e)) (hi : P.info? e = some i) (hz : i.zero = some z)
    (hsize : i.size = 1) (hby : i.bytes = bytes) (hzs : z.cells.size = 1)
    (base : Nat) (v : Value) (n : Nat) (xs : List Value) (hs : a.eval s = v) (hown : Own w base e 1 v n xs) (ao : Option Addr) (m c : Nat) (ys : List Value) (hx : a.eval x = .slice ao m c) (hsl : Sl w ao m c ys) (h1 : ∀ u ∈ ys, u.oneCell' = true)
    (hbytes : (n + m) * bytes ≤ 140737488355328) (hnm : n + m ≤ 140737488355328) (hbase : base ≤ w.heap.size)
    (hK : ∀ v' w', Own w' base e 1 v' (n + m) (xs ++ ys) → w.grownBy w' v.ownBlock → wpList P ops Q rest (a.put o.dst v') w') : wpList P ops Q (o :: rest) a w := by
  by_cases hm : m = 0
  · subst hm
    have hy : ys = [] := List.eq_nil_of_length_eq_zero hsl.len
    subst hy
    cases ao with
    | none =>
      obtain rfl : c = 0 := hsl.nil rfl
      refine wpList_append_own_none hgd s x t ho base e i 1 ht hi v n xs hs hown.row hx ?_
      exact hK _ _ (by simpa using hown) ⟨rfl, rfl, rfl, Nat.le_refl _, fun _ _ _ => rfl⟩
    | some ad =>
      refine wpList_append_own w hgd s x t ho base e i z 1 bytes ht hi hz hsize hby hzs (by decide) v n xs hs hown.row ad 0 c [] hx rfl (by simp) h1 (by unfold maxLen; omega) hbytes hbase ?_
      intro v' w' h2 h3 _
      exact hK _ _ (.mk' h2) h3
  · obtain ⟨b, off, rfl, hc⟩ := hsl.at (j := 0) (by omega)
    refine wpList_append_own w hgd s x t ho base e i z 1 bytes ht hi hz hsize hby hzs (by decide) v n xs hs hown.row ⟨b, off, none⟩ m c ys hx (by have := hsl.len; omega) ?_ h1 (by unfold maxLen; omega) hbytes hbase ?_
    · intro j u hj
      have hlt := (List.getElem?_eq_some_iff.1 hj).1
      rw [Addr.add_lit, hc j (by rw [← hsl.len]; exact hlt)]
      simp [List.getD, hj]
    · intro v' w' h2 h3 _
      exact hK _ _ (.mk' h2) h3

/-- 'append(out, s...)', s a string. -/
theorem wpList_append_t {P : Program} {w : World} {ops : Array Oper} {rest : List Oper} {o : Oper} {a : Act} {Q : Exit → Act → World → Prop} (hgd : o.guard = none) (s x : Operand) (t u : TypeId)
    (ho : o.op = .call { callee := .builtin .append, args := #[s, x], argTypes := #[t, u] })
    (e : TypeId) (i : TypeInfo) (ht : P.underlying t = some (.slice e)) (hu : P.underlying u = some .string) (hi : P.info? e = some i) (hz : i.zero = some (.int .u8 0))
    (hsize : i.size = 1) (hby : i.bytes = 1)
    (base : Nat) (v : Value) (n : Nat) (xs : List Value) (hs : a.eval s = v) (hown : Own w base e 1 v n xs) (l : List UInt8) (hx : a.eval x = .string ⟨l.toArray⟩)
    (hnm : n + l.length ≤ 140737488355328) (hbase : base ≤ w.heap.size)
    (hK : ∀ v' w', Own w' base e 1 v' (n + l.length) (xs ++ u8s l) → w.grownBy w' v.ownBlock → wpList P ops Q rest (a.put o.dst v') w') : wpList P ops Q (o :: rest) a w := by
  have hsz : ByteArray.size ⟨l.toArray⟩ = l.length := by simp [ByteArray.size]
  refine Lib.wpList_append_own_string w hgd s x t u ho base e i ht hu hi hz hsize hby v n xs hs hown.row ⟨l.toArray⟩ hx (by rw [hsz]; unfold maxLen; omega) (by rw [hsz]; exact hnm) hbase ?_
  intro v' w' h2 h3 _
  rw [hsz] at h2
  exact hK _ _ (.mk' h2) h3

theorem foldl_set (c : Array Value) : ∀ (l : List Value) (k : Nat) (cs : Array Value), cs.size = c.size → k + l.length = c.size → (∀ j, j < l.length → c[k + j]? = l[j]?) → (∀ j, j < k → cs[j]? = c[j]?) →
    (l.zipIdx k).foldl (fun cs (p : Value × Nat) => cs.setIfInBounds p.2 p.1) cs = c := by
  intro l
  induction l with
  | nil =>
    intro k cs h1 h2 _ h4
    simp only [List.zipIdx_nil, List.foldl_nil]
    apply Array.ext_getElem?
    intro j
    by_cases hj : j < k
    · exact h4 j hj
    · simp only [List.length_nil, Nat.add_zero] at h2
      rw [Array.getElem?_eq_none (by omega), Array.getElem?_eq_none (by omega)]
  | cons x l ih =>
    intro k cs h1 h2 h3 h4
    simp only [List.zipIdx_cons, List.foldl_cons]
    simp only [List.length_cons] at h2
    refine ih (k + 1) _ (by simp [h1]) (by omega) ?_ ?_
    · intro j hj
      have := h3 (j + 1) (by simp; omega)
      rw [show k + 1 + j = k + (j + 1) by omega, this]
      simp
    · intro j hj
      rw [Array.getElem?_setIfInBounds]
      by_cases hjk : k = j
      · subst hjk
        rw [if_pos rfl, if_pos (by omega)]
        have := h3 0 (by simp)
        simpa using this.symm
      · rw [if_neg hjk]
        exact h4 j (by omega)

theorem one_int (k : IntKind) (n : Int) : ∀ u ∈ (Value.int k n).cells.toList, u.oneCell' = true := by
  intro u hu
  simp [Value.cells] at hu
  subst hu
  rfl
theorem one_str (s : ByteArray) : ∀ u ∈ (Value.string s).cells.toList, u.oneCell' = true := by
  intro u hu
  simp [Value.cells] at hu
  subst hu
  rfl

theorem run_buildSlice1 {P : Program} {w : World} {t e : TypeId} {i : TypeInfo} {z : Value} (ht : P.underlying t = some (.slice e)) (hi : P.info? e = some i) (hz : i.zero = some z) (h0 : 0 < i.size) (h24 : i.size ≤ 16777216)
    (val : Value) (hv : val.cells.size = i.size) :
    (Instr.buildSlice t 1 #[(0, val)]).run P w = .ok (.slice (some ⟨w.heap.size, 0, none⟩) 1 1) (w.alloc (.cells val.cells e)) := by
  have hf : ∀ cs : Array Value, cs.size = val.cells.size → Instr.fill (fun j => some (j * i.size, i.size)) cs [(0, val)] = some val.cells := by
    intro cs hcs
    simp only [Instr.fill, Nat.zero_mul, Nat.zero_add]
    rw [if_neg (by simp [hv]; omega)]
    have := foldl_set val.cells val.cells.toList 0 cs hcs (by simp) (by intro j hj; simp) (by intro j hj; omega)
    rw [← Array.foldl_toList]
    simp only [Array.toList_zipIdx]
    rw [this]
  have hne : ¬ (i.size = 0) := by omega
  simp [Instr.buildSlice, run_underlying ht, sizeOf, typeInfo, hi, zeroValue, hz, hne, show ¬ (16777216 < i.size) by omega, hf, hv]
  rfl

/-- 'append(out, x)' of ONE element: the element is laid in a block of its own, then appended: the two operations at once. -/
theorem wpList_append1 {P : Program} {w : World} {ops : Array Oper} {rest : List Oper} {o1 o2 : Oper} {a : Act} {Q : Exit → Act → World → Prop} (hg1 : o1.guard = none) (hg2 : o2.guard = none) (ts d1 : Tmp) (x : Operand) (t : TypeId)
    (hd1 : o1.dst = some d1) (hne : ts ≠ d1) (hlt : d1 < a.tmps.size) (ho1 : o1.op = .buildSlice t 1 #[(0, x)]) (ho2 : o2.op = .call { callee := .builtin .append, args := #[.tmp ts, .tmp d1], argTypes := #[t, t] })
    (e : TypeId) (i : TypeInfo) (z : Value) (size bytes : Nat) (ht : P.underlying t = some (.slice e)) (hi : P.info? e = some i) (hz : i.zero = some z)
    (hsize : i.size = size) (hby : i.bytes = bytes) (hzs : z.cells.size = size) (hsz : 0 < size) (h24 : size ≤ 16777216)
    (base : Nat) (v : Value) (n : Nat) (xs : List Value) (hs : a.eval (.tmp ts) = v) (hown : Own w base e size v n xs) (val : Value) (hx : a.eval x = val) (hvs : val.cells.size = size) (h1 : ∀ u ∈ val.cells.toList, u.oneCell' = true)
    (hbytes : (n + 1) * bytes ≤ 140737488355328) (hnm : n + 1 ≤ 140737488355328) (hbase : base ≤ w.heap.size)
    (hK : ∀ v' w', Own w' base e size v' (n + 1) (xs ++ val.cells.toList) → w.grownBy w' v.ownBlock → wpList P ops Q rest ((a.put (some d1) (.slice (some ⟨w.heap.size, 0, none⟩) 1 1)).put o2.dst v') w') : wpList P ops Q (o1 :: o2 :: rest) a w := by
  subst hsize
  refine wpList_plain hg1 fun K hKK => ?_
  have hr := run_buildSlice1 (P := P) (w := w) ht hi hz hsz h24 val hvs
  unfold Oper.wp
  simp only [execOp, ho1, Sem.run_bind, List.map_toArray, List.map_cons, List.map_nil, hx, hr, Result.andThen_ok, Sem.run_pure, Oper.upon_value, hd1]
  refine hKK _ _ ?_
  refine wpList_append_own (w.alloc (.cells val.cells e)) hg2 (.tmp ts) (.tmp d1) t ho2 base e i z i.size bytes ht hi hz rfl hby hzs hsz v n xs ?_ (hown.alloc _).row ⟨w.heap.size, 0, none⟩ 1 1 val.cells.toList ?_ (by simp [hvs]) ?_ h1 (by unfold maxLen; omega) hbytes (by simp; omega) ?_
  · rw [← hs]
    simp only [Act.eval, Act.put, Array.getD_eq_getD_getElem?, Array.getElem?_setIfInBounds]
    rw [if_neg (Ne.symm hne)]
  · simp [Act.eval, Act.put, hlt]
  · intro j u hj
    have hb := heap_alloc_new w (.cells val.cells e)
    rw [Addr.add_lit, Nat.zero_add, cell_of_row _ w.heap.size j val.cells e (0, 0) hb]
    simpa using hj
  · intro v' w' h2 h3 _
    exact hK v' w' (.mk' h2) (grownBy_trans (World.grownBy_alloc w _ _) h3)
/-- one more byte -/
theorem own_push {w : World} {base e : Nat} {v : Value} {pre : List UInt8} {x : Int} {c : UInt8} (h : Own w base e 1 v (pre.length + 1) (u8s pre ++ (Value.int .u8 x).cells.toList)) (hx : x = ((c.toNat : Nat) : Int)) :
    Own w base e 1 v (pre ++ [c]).length (u8s (pre ++ [c])) := by
  subst hx
  simpa [u8s, u8v, Value.cells] using h
/-- 'b[l:]' of bytes -/
theorem wpList_bs_from {P : Program} {w : World} {ops : Array Oper} {rest : List Oper} {o : Oper} {a : Act} {Q : Exit → Act → World → Prop} (hgd : o.guard = none)
    (t : TypeId) (x lo : Operand) (ho : o.op = .slice t x (some lo) none none) (e : TypeId) (i : TypeInfo) (ht : P.underlying t = some (.slice e)) (hi : P.info? e = some i) (hsz : i.size = 1)
    {ao : Option Addr} {n cap : Nat} {l : List UInt8} (hx : a.eval x = .slice ao n cap) (hs : Bs w ao n cap l) (p : Nat) (k : IntKind) (hlo : a.eval lo = .int k (p : Int)) (hp : p ≤ n)
    (hK : ∀ ao', Bs w ao' (n - p) (cap - p) (l.drop p) → wpList P ops Q rest (a.put o.dst (.slice ao' (n - p) (cap - p))) w) : wpList P ops Q (o :: rest) a w := by
  refine wpList_slice_sl hgd t x (some lo) none ho e i ht hi hsz hx hs p n (.inr ⟨_, k, rfl, hlo⟩) (.inl ⟨rfl, rfl⟩) hp (Nat.le_refl _) ?_
  intro ao' h
  rw [u8s_drop, u8s_take, List.take_of_length_le (by rw [List.length_drop, hs.length]; exact Nat.le_refl _)] at h
  exact hK ao' h
/-- 'b[:h]' of bytes -/
theorem wpList_bs_to {P : Program} {w : World} {ops : Array Oper} {rest : List Oper} {o : Oper} {a : Act} {Q : Exit → Act → World → Prop} (hgd : o.guard = none)
    (t : TypeId) (x hi' : Operand) (ho : o.op = .slice t x none (some hi') none) (e : TypeId) (i : TypeInfo) (ht : P.underlying t = some (.slice e)) (hi : P.info? e = some i) (hsz : i.size = 1)
    {ao : Option Addr} {n cap : Nat} {l : List UInt8} (hx : a.eval x = .slice ao n cap) (hs : Bs w ao n cap l) (p : Nat) (k : IntKind) (hlo : a.eval hi' = .int k (p : Int)) (hp : p ≤ n)
    (hK : ∀ ao', Bs w ao' p cap (l.take p) → wpList P ops Q rest (a.put o.dst (.slice ao' p cap)) w) : wpList P ops Q (o :: rest) a w := by
  refine wpList_slice_sl hgd t x none (some hi') ho e i ht hi hsz hx hs 0 p (.inl ⟨rfl, rfl⟩) (.inr ⟨_, k, rfl, hlo⟩) (Nat.zero_le _) hp ?_
  intro ao' h
  rw [u8s_drop, u8s_take] at h
  exact hK ao' h
end Go.Proofs.YtcmfoipnoejmlaaDoor
namespace Go.Proofs.YtcmfoipnoejmlaaDoor
open Go.RowKit

/-- The slice (ao, n, cap) has n elements of sz cells each: cs, one after the other. -/
structure SlN (w : World) (ao : Option Addr) (n cap sz : Nat) (cs : List Value) : Prop where
  len : cs.length = n * sz
  fits : n ≤ cap
  small : cap ≤ maxLen
  nil : ao = none → cap = 0
  cells : n = 0 ∨ ∃ b off, ao = some ⟨b, off, none⟩ ∧ ∀ j, j < n * sz → w.cell? ⟨b, off + j, none⟩ = some (cs.getD j undef)
theorem SlN.keep {w w' : World} {ao n cap sz cs} (h : SlN w ao n cap sz cs) (hk : ∀ k, k < w.heap.size → w'.heap[k]? = w.heap[k]?) : SlN w' ao n cap sz cs := by
  refine ⟨h.len, h.fits, h.small, h.nil, ?_⟩
  rcases h.cells with h0 | ⟨b, off, ha, hc⟩
  · exact .inl h0
  · refine .inr ⟨b, off, ha, fun j hj => ?_⟩
    have := hc j hj
    rw [World.cell?_of_block (w := w) (hk b (block_lt_of_cell this))]
    exact this
theorem SlN.below {w w' : World} {B ao n cap sz cs} (h : SlN w ao n cap sz cs) (hb : Below B w w') (hB : w.heap.size ≤ B) : SlN w' ao n cap sz cs :=
  h.keep fun k hk => hb.block k (by omega)
theorem SlN.at {w : World} {ao n cap sz cs} (h : SlN w ao n cap sz cs) {j : Nat} (hj : j < n) : ∃ b off, ao = some ⟨b, off, none⟩ ∧ ∀ j, j < n * sz → w.cell? ⟨b, off + j, none⟩ = some (cs.getD j undef) := by
  rcases h.cells with h0 | h1
  · omega
  · exact h1
theorem SlN.nilSl (w : World) (sz : Nat) : SlN w none 0 0 sz [] := ⟨by simp, Nat.le_refl _, Nat.zero_le _, fun _ => rfl, .inl rfl⟩
theorem SlN.of_own {w : World} {base e sz n : Nat} {v : Value} {xs : List Value} (h : w.ownsRow base e sz v n xs) : ∃ ao cap, v = .slice ao n cap ∧ SlN w ao n cap sz xs := by
  obtain ⟨hl, h | ⟨g, cap, cur, rfl, hb, hg, hnc, hcm, hcs, ht⟩⟩ := h
  · obtain ⟨rfl, rfl⟩ := h
    have : xs = [] := List.eq_nil_of_length_eq_zero (by simpa using hl)
    subst this
    exact ⟨none, 0, rfl, SlN.nilSl w sz⟩
  · refine ⟨_, cap, rfl, hl, hnc, hcm, by simp, .inr ⟨g, 0, rfl, fun j hj => ?_⟩⟩
    have hlt : j < xs.length := by omega
    rw [Nat.zero_add, cell_of_row w g j cur e (0, 0) hg]
    subst ht
    have h2 : j < cur.toList.length := by simp at hlt ⊢; omega
    simp only [List.getD_eq_getElem?_getD, List.getElem?_take]
    rw [if_pos hj, List.getElem?_eq_getElem h2]
    simp
theorem SlN.of_own' {w : World} {base e sz n cap : Nat} {ao : Option Addr} {xs : List Value} (h : Own w base e sz (.slice ao n cap) n xs) : SlN w ao n cap sz xs := by
  obtain ⟨ao', cap', hv, hs⟩ := SlN.of_own h.row
  cases hv
  exact hs

/-- element k of a list of parts of sz cells each -/
theorem flatMap_part {α : Type} (f : α → List Value) (sz : Nat) : ∀ (l : List α) (k : Nat) (_ : ∀ x ∈ l, (f x).length = sz) (hk : k < l.length) (j : Nat), j < sz → (l.flatMap f).getD (k * sz + j) undef = (f l[k]).getD j undef := by
  intro l
  induction l with
  | nil => intro k _ hk; simp at hk
  | cons x l ih =>
    intro k hf hk j hj
    have hx := hf x (by simp)
    cases k with
    | zero => simp [List.getD, List.getElem?_append, hx, hj]
    | succ k =>
      have := ih k (fun y hy => hf y (by simp [hy])) (by simpa using hk) j hj
      simp only [List.getD_eq_getElem?_getD] at this ⊢
      rw [List.flatMap_cons, List.getElem?_append_right (by rw [hx, Nat.add_mul]; omega), hx, show (k + 1) * sz + j - sz = k * sz + j by rw [Nat.add_mul]; omega, this]
      simp
theorem flatMap_len {α : Type} (f : α → List Value) (sz : Nat) : ∀ (l : List α), (∀ x ∈ l, (f x).length = sz) → (l.flatMap f).length = l.length * sz := by
  intro l
  induction l with
  | nil => intro _; simp
  | cons x l ih =>
    intro hf
    rw [List.flatMap_cons, List.length_append, ih (fun y hy => hf y (by simp [hy])), hf x (by simp), List.length_cons, Nat.add_mul]
    omega

/-- the cells of a value of several cells -/
def CellsAt (w : World) (b off : Nat) (cs : List Value) : Prop := ∀ j v, cs[j]? = some v → w.cell? ⟨b, off + j, none⟩ = some v
theorem SlN.part {α : Type} {w : World} {ao n cap sz} {f : α → List Value} {l : List α} {b off : Nat} (hc : ∀ j, j < n * sz → w.cell? ⟨b, off + j, none⟩ = some ((l.flatMap f).getD j undef)) (hf : ∀ x ∈ l, (f x).length = sz) {k : Nat} (hk : k < l.length) (hn : l.length = n)
    (_ : SlN w ao n cap sz (l.flatMap f)) : CellsAt w b (off + k * sz) (f l[k]) := by
  intro j v hj
  have hlt : j < sz := by rw [← hf l[k] (List.getElem_mem hk)]; exact (List.getElem?_eq_some_iff.1 hj).1
  have hb : k * sz + j < n * sz := by
    have : (k + 1) * sz ≤ n * sz := Nat.mul_le_mul_right _ (by omega)
    rw [Nat.add_mul] at this
    omega
  rw [Nat.add_assoc, hc (k * sz + j) hb, flatMap_part f sz l k hf hk j hlt]
  simp [List.getD, hj]

section
variable {P : Program}
theorem run_loadVar_at {w : World} {b off : Nat} {cs : List Value} (hc : CellsAt w b off cs) (ty : TypeId) (d : TypeDesc)
    (hu : P.underlying ty = some d) (hd : (match d with | .struct _ | .array _ _ => true | _ => false) = true) (hi : (P.info? ty).map (·.size) = some cs.length) :
    (loadVar ty ⟨b, off, none⟩).run P w = .ok (.agg cs.toArray) w := by
  have hl : (loadCells ⟨b, off, none⟩ cs.length).run P w = .ok cs.toArray w :=
    run_loadCells_list (P := P) w ⟨b, off, none⟩ cs (fun j v hv => by rw [Addr.add_lit]; exact hc j v hv)
  cases hq : P.info? ty with
  | none => simp [hq] at hi
  | some i =>
    have hs : i.size = cs.length := by simpa [hq] using hi
    have hagg : (isAgg ty).run P w = .ok true w := by
      unfold isAgg
      rw [Sem.run_bind, run_underlying hu w]
      cases d <;> simp_all
    simp [loadVar, Sem.run_bind, hagg, sizeOf, typeInfo, hq, hs, hl]
/-- the load of an array or a struct -/
theorem wpList_load_at {ops : Array Oper} {rest : List Oper} {o : Oper} {a : Act} {w : World} {Q : Exit → Act → World → Prop} (hgd : o.guard = none) (ty : TypeId) (x : Operand) (ho : o.op = .load ty x)
    (b off : Nat) (hx : a.eval x = .pointer (some ⟨b, off, none⟩)) (cs : List Value) (d : TypeDesc) (hc : CellsAt w b off cs)
    (hu : P.underlying ty = some d) (hd : (match d with | .struct _ | .array _ _ => true | _ => false) = true) (hi : (P.info? ty).map (·.size) = some cs.length)
    (h : wpList P ops Q rest (a.put o.dst (.agg cs.toArray)) w) : wpList P ops Q (o :: rest) a w := by
  refine wpList_plain hgd fun K hK => ?_
  unfold Oper.wp execOp
  simp only [ho, hx, Instr.loadAt, Instr.sureAddr, Sem.run_bind, Sem.run_pure, Result.andThen_ok, run_loadVar_at hc ty d hu hd hi]
  exact hK _ _ h
theorem CellsAt.drewN {w : World} {b off : Nat} {cs : List Value} (h : CellsAt w b off cs) (n : Nat) : CellsAt (w.drewN n) b off cs := fun j v hj => by simpa using h j v hj
theorem CellsAt.keep {w w' : World} {b off : Nat} {cs : List Value} (h : CellsAt w b off cs) (hk : ∀ k, k < w.heap.size → w'.heap[k]? = w.heap[k]?) : CellsAt w' b off cs := fun j v hj => by
  have := h j v hj
  rw [World.cell?_of_block (w := w) (hk b (block_lt_of_cell this))]
  exact this
/-- .. in a region that draws its order and only reads -/
theorem wpQuiet_load_at {ops : Array Oper} {rest : List Oper} {o : Oper} {a : Act} {w : World} {Q : Act → Prop} (hgd : o.guard = none) (ty : TypeId) (x : Operand) (ho : o.op = .load ty x)
    (b off : Nat) (hx : a.eval x = .pointer (some ⟨b, off, none⟩)) (cs : List Value) (d : TypeDesc) (hc : CellsAt w b off cs)
    (hu : P.underlying ty = some d) (hd : (match d with | .struct _ | .array _ _ => true | _ => false) = true) (hi : (P.info? ty).map (·.size) = some cs.length)
    (h : wpQuiet P ops (fun w' => ∃ n, w' = w.drewN n) Q rest (a.put o.dst (.agg cs.toArray))) : wpQuiet P ops (fun w' => ∃ n, w' = w.drewN n) Q (o :: rest) a := by
  refine wpQuiet_step fun K hK => ?_
  rw [if_pos (by simp [Region.wanted, hgd])]
  refine ⟨.agg cs.toArray, ?_, hK _ h⟩
  rintro w' ⟨n, rfl⟩
  unfold Oper.quietAt execOp
  simp only [ho, hx, Instr.loadAt, Instr.sureAddr, Sem.run_bind, Sem.run_pure, Result.andThen_ok, run_loadVar_at (hc.drewN n) ty d hu hd hi]
  exact ⟨rfl, rfl⟩

theorem run_arrayAt {w : World} {t e n : Nat} (ht : P.underlying t = some (.array n e)) (ao : Option Addr) (len cap : Nat) (h : n ≤ len) : (Instr.arrayAt t (.slice ao len cap)).run P w = .ok (.pointer ao) w := by
  simp [Instr.arrayAt, run_underlying ht, show ¬ len < n by omega]
theorem cellsAt_bs {w : World} {b off n cap : Nat} {l : List UInt8} (hs : Bs w (some ⟨b, off, none⟩) n cap l) : CellsAt w b off (u8s l) := by
  intro j v hj
  have hlt := (List.getElem?_eq_some_iff.1 hj).1
  rw [u8s_length] at hlt
  obtain ⟨b', off', he, hc⟩ := Bs.at hs (j := j) (by rw [← hs.length]; exact hlt)
  cases he
  rw [hc j hlt, ← hj]
  simp [u8s, u8v, hlt]
theorem setRow_alloc (w : World) (old cs : Array Value) (t : TypeId) : (w.alloc (.cells old t)).setRow w.heap.size cs = w.alloc (.cells cs t) := by
  have : ((w.heap.push (.cells old t)).modify w.heap.size fun | .cells _ elem frozen => .cells cs elem frozen | o => o) = w.heap.push (.cells cs t) := by
    apply Array.ext_getElem?
    intro i
    rw [Array.getElem?_modify, Array.getElem?_push, Array.getElem?_push]
    by_cases h : w.heap.size = i
    · subst h; simp
    · rw [if_neg h, if_neg (Ne.symm h), if_neg (Ne.symm h)]
  exact congrArg (fun h => ({ w with heap := h } : World)) this
/-- a variable of an array or struct type is laid and set: the two operations at once -/
theorem wpList_var {w : World} {ops : Array Oper} {rest : List Oper} {o1 o2 : Oper} {a : Act} {Q : Exit → Act → World → Prop} (hg1 : o1.guard = none) (hg2 : o2.guard = none) (d : Tmp) (y : Operand) (ty : TypeId)
    (hd : o1.dst = some d) (hlt : d < a.tmps.size) (ho1 : o1.op = .alloc ty) (ho2 : o2.op = .store ty (.tmp d) y) (i : TypeInfo) (z : Value) (hi : P.info? ty = some i) (hz : i.zero = some z) (hzs : z.cells.size = i.size)
    (cs : Array Value) (hy : (a.put (some d) (.pointer (some ⟨w.heap.size, 0, none⟩))).eval y = .agg cs) (hcs : cs.size = i.size) (h1 : cs.all (·.oneCell') = true)
    (h : wpList P ops Q rest ((a.put (some d) (.pointer (some ⟨w.heap.size, 0, none⟩))).put o2.dst undef) (w.alloc (.cells cs ty))) : wpList P ops Q (o1 :: o2 :: rest) a w := by
  refine wpList_plain hg1 fun K hKK => ?_
  have hr : (Instr.alloc ty true (.tuple #[])).run P w = .ok (.pointer (some ⟨w.heap.size, 0, none⟩)) (w.alloc (.cells z.cells ty)) := by
    simp [Instr.alloc, zeroValue, typeInfo, hi, hz]
    rfl
  unfold Oper.wp
  simp only [execOp, ho1, Sem.run_bind, hr, Result.andThen_ok, Sem.run_pure, Oper.upon_value, hd]
  refine hKK _ _ ?_
  refine wpList_store_row hg2 ty (.tmp d) y ho2 w.heap.size cs (by simp [Act.eval, Act.put, hlt]) hy ty z.cells (heap_alloc_new w _) (by rw [hi]; simp [hcs]) (by rw [hzs, hcs]) h1 ?_
  rw [setRow_alloc]
  exact h
theorem forIn_range (len : Nat) (β : Type) (b : β) (f : Nat → β → Sem (ForInStep β)) : (forIn [0:len] b f : Sem β) = forIn (List.range' 0 len) b f := by
  rw [Std.Legacy.Range.forIn_eq_forIn_range']
  simp [Std.Legacy.Range.size]
/-- a loop that leaves at the first place where two lists part -/
theorem forIn_part {σ : Type} {w : World} (s0 s1 : σ) (x y : List UInt8) (len : Nat) (hx : x.length = len) (hy : y.length = len) (f : Nat → σ → Sem (ForInStep σ))
    (hf : ∀ i (hi : i < len), (f i s0).run P w = .ok (if x[i] = y[i] then .yield s0 else .done s1) w) :
    ∀ (m k : Nat), k + m = len → (forIn (List.range' k m) s0 f : Sem σ).run P w = .ok (if x.drop k = y.drop k then s0 else s1) w := by
  intro m
  induction m with
  | zero => intro k hk; simp [List.drop_of_length_le (show x.length ≤ k by omega), List.drop_of_length_le (show y.length ≤ k by omega)]
  | succ m ih =>
    intro k hk
    have hdx := List.drop_eq_getElem_cons (show k < x.length by omega)
    have hdy := List.drop_eq_getElem_cons (show k < y.length by omega)
    rw [List.range'_succ, List.forIn_cons, Sem.run_bind, hf k (by omega)]
    by_cases hxy : x[k]'(by omega) = y[k]'(by omega)
    · rw [if_pos hxy, Result.andThen_ok]
      simp only
      rw [ih (k + 1) (by omega), hdx, hdy]
      simp only [hxy, List.cons.injEq, true_and]
    · rw [if_neg hxy, Result.andThen_ok, hdx, hdy]
      simp only [hxy, List.cons.injEq, false_and, if_false, Sem.run_pure]
/-- '==' of two arrays of bytes -/
theorem run_equalIn_bytes {w : World} (d : Nat) {t e len : Nat} {i : TypeInfo} (ht : P.underlying t = some (.array len e)) (he : P.underlying e = some (.int .u8)) (hi : P.info? e = some i) (hsz : i.size = 1) (x y : List UInt8) (hx : x.length = len) (hy : y.length = len) :
    (Op.equalIn (d + 2) t (.agg (u8s x).toArray) (.agg (u8s y).toArray)).run P w = .ok (x == y) w := by
  have hpart : ∀ (l : List UInt8) (k : Nat) (hk : k < l.length), (part e (u8s l).toArray k).run P w = .ok (.int .u8 ((l[k].toNat : Nat) : Int)) w := by
    intro l k hk
    have hagg : (isAgg e).run P w = .ok false w := by
      unfold isAgg
      rw [Sem.run_bind, run_underlying he w]
      rfl
    simp [part, hagg, u8s, u8v, hk]
  have hq : ∀ a b : Int, (Op.equalIn (d + 1) e (.int .u8 a) (.int .u8 b)).run P w = .ok (a == b) w := fun a b => run_equalIn_int w d e .u8 .u8 a b he
  show (Op.equalIn ((d + 1) + 1) _ _ _).run P w = _
  generalize d + 1 = d' at *
  simp only [Op.equalIn, Sem.run_bind, run_underlying ht, Result.andThen_ok, sizeOf, typeInfo, hi, hsz, Sem.run_pure, run_program, forIn_range, Nat.mul_one]
  rw [forIn_part (P := P) (w := w) (none, ()) (some false, ()) x y len hx hy _ ?_ len 0 (by omega)]
  · by_cases hxy : x = y
    · subst hxy; simp
    · simp [hxy]
  · intro k hk
    simp only [Sem.run_bind, hpart x k (by omega), hpart y k (by omega), Result.andThen_ok, hq]
    by_cases hxy : x[k]'(by omega) = y[k]'(by omega)
    · have e1 : (((x[k]'(by omega)).toNat : Int) == ((y[k]'(by omega)).toNat : Int)) = true := by rw [hxy]; simp
      rw [e1, if_pos hxy]
      simp
    · have e1 : (((x[k]'(by omega)).toNat : Int) == ((y[k]'(by omega)).toNat : Int)) = false := by
        simp only [beq_eq_false_iff_ne, ne_eq]
        intro hh
        apply hxy
        apply UInt8.toNat_inj.1
        omega
      rw [e1, if_neg hxy]
      simp
end
end Go.Proofs.YtcmfoipnoejmlaaDoor
