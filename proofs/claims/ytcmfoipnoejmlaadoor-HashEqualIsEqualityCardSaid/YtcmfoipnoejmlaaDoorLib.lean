/- General facts for walks: slices that read as lists, what is kept when a call makes new memory. No program in sight. -/
import Derived.WalkKit
import Derived.Lib.Hide
import Derived.Laws.CopyOwn
import Derived.Laws.AppendOwnNone
namespace Go.Proofs.YtcmfoipnoejmlaaDoor
open Go.RowKit

/-- The slice (ao, n, cap) has the n elements cs, one cell each. -/
structure Sl (w : World) (ao : Option Addr) (n cap : Nat) (cs : List Value) : Prop where
  len : cs.length = n
  fits : n ≤ cap
  small : cap ≤ maxLen
  nil : ao = none → cap = 0
  cells : n = 0 ∨ ∃ b off, ao = some ⟨b, off, none⟩ ∧ ∀ j, j < n → w.cell? ⟨b, off + j, none⟩ = some (cs.getD j undef)

theorem block_lt_of_cell {w : World} {b o : Nat} {v : Value} (h : w.cell? ⟨b, o, none⟩ = some v) : b < w.heap.size := World.block_lt_of_cell? w _ h

/-- Memory that was there reads as before. -/
structure Kept (w w' : World) : Prop where
  size : w.heap.size ≤ w'.heap.size
  block : ∀ k, k < w.heap.size → w'.heap[k]? = w.heap[k]?
theorem Below.kept' {w w' : World} (h : Below w.heap.size w w') : Kept w w' := ⟨h.size, h.block⟩

theorem Sl.keep {w w' : World} {ao n cap cs} (h : Sl w ao n cap cs) (hk : ∀ k, k < w.heap.size → w'.heap[k]? = w.heap[k]?) : Sl w' ao n cap cs := by
  refine ⟨h.len, h.fits, h.small, h.nil, ?_⟩
  rcases h.cells with h0 | ⟨b, off, ha, hc⟩
  · exact .inl h0
  · refine .inr ⟨b, off, ha, fun j hj => ?_⟩
    have := hc j hj
    rw [World.cell?_of_block (w := w) (hk b (block_lt_of_cell this))]
    exact this
theorem Sl.below {w w' : World} {B ao n cap cs} (h : Sl w ao n cap cs) (hb : Below B w w') (hB : w.heap.size ≤ B) : Sl w' ao n cap cs :=
  h.keep fun k hk => hb.block k (by omega)
theorem Sl.drew {w : World} {ao n cap cs} (h : Sl w ao n cap cs) : Sl w.drew ao n cap cs := h.keep fun _ _ => rfl
theorem Sl.alloc {w : World} {ao n cap cs} (h : Sl w ao n cap cs) (o : Obj) : Sl (w.alloc o) ao n cap cs := h.keep fun k hk => Below.heap_alloc w o k hk

theorem Sl.at {w : World} {ao n cap cs} (h : Sl w ao n cap cs) {j : Nat} (hj : j < n) : ∃ b off, ao = some ⟨b, off, none⟩ ∧ ∀ j, j < n → w.cell? ⟨b, off + j, none⟩ = some (cs.getD j undef) := by
  rcases h.cells with h0 | h1
  · omega
  · exact h1

theorem Sl.nilSl (w : World) : Sl w none 0 0 [] := ⟨rfl, Nat.le_refl _, Nat.zero_le _, fun _ => rfl, .inl rfl⟩

/-- What the call owns reads as a slice. -/
theorem Sl.of_own {w : World} {base e n : Nat} {v : Value} {xs : List Value} (h : w.ownsRow base e 1 v n xs) : ∃ ao cap, v = .slice ao n cap ∧ Sl w ao n cap xs := by
  obtain ⟨hl, h | ⟨g, cap, cur, rfl, hb, hg, hnc, hcm, hcs, ht⟩⟩ := h
  · obtain ⟨rfl, rfl⟩ := h
    have : xs = [] := List.eq_nil_of_length_eq_zero (by simpa using hl)
    subst this
    exact ⟨none, 0, rfl, Sl.nilSl w⟩
  · refine ⟨_, cap, rfl, by omega, hnc, hcm, by simp, .inr ⟨g, 0, rfl, fun j hj => ?_⟩⟩
    have hlt : j < xs.length := by omega
    rw [Nat.zero_add, cell_of_row w g j cur e (0, 0) hg]
    subst ht
    have h2 : j < cur.toList.length := by simp at hlt ⊢; omega
    simp only [List.getD_eq_getElem?_getD, List.getElem?_take]
    rw [if_pos (by omega), List.getElem?_eq_getElem h2]
    simp
/-- owned rows are kept when nothing that was there turns -/
theorem own_below {w w' : World} {B base e sz n : Nat} {v : Value} {xs : List Value} (h : w.ownsRow base e sz v n xs) (hb : Below B w w') (hB : w.heap.size ≤ B) : w'.ownsRow base e sz v n xs := by
  refine ⟨h.1, ?_⟩
  rcases h.2 with hn | ⟨g, cap, cur, rfl, hbg, hg, rest⟩
  · exact .inl hn
  · refine .inr ⟨g, cap, cur, rfl, hbg, ?_, rest⟩
    rw [hb.block g (by have := (Array.getElem?_eq_some_iff.1 hg).1; omega)]
    exact hg
theorem own_mono {w : World} {base base' e sz n : Nat} {v : Value} {xs : List Value} (h : w.ownsRow base e sz v n xs) (hb : base' ≤ base) : w.ownsRow base' e sz v n xs := by
  refine ⟨h.1, ?_⟩
  rcases h.2 with hn | ⟨g, cap, cur, rfl, hbg, rest⟩
  · exact .inl hn
  · exact .inr ⟨g, cap, cur, rfl, by omega, rest⟩

/-- 's[l:h]' of a slice of one-cell elements. -/
theorem run_slice_sl {P : Program} {w : World} {t e : TypeId} {i : TypeInfo} (ht : P.underlying t = some (.slice e)) (hi : P.info? e = some i) (hsz : i.size = 1)
    {ao : Option Addr} {n cap : Nat} {cs : List Value} (hs : Sl w ao n cap cs) (lo hi' : Option Value) (l h : Nat)
    (hlo : lo = none ∧ l = 0 ∨ ∃ k, lo = some (.int k (l : Int))) (hhi : hi' = none ∧ h = n ∨ ∃ k, hi' = some (.int k (h : Int))) (hlh : l ≤ h) (hn : h ≤ n) :
    ∃ ao', (Instr.slice t (.slice ao n cap) lo hi' none).run P w = .ok (.slice ao' (h - l) (cap - l)) w ∧ Sl w ao' (h - l) (cap - l) ((cs.drop l).take (h - l)) := by
  have hf := hs.fits
  have hsm := hs.small
  have hcl := hs.len
  refine ⟨if cap = l then ao else ao.map (·.add (l * 1)), ?_, ?_⟩
  · rcases hlo with ⟨rfl, rfl⟩ | ⟨k, rfl⟩ <;> rcases hhi with ⟨rfl, rfl⟩ | ⟨k', rfl⟩ <;>
      simp [Instr.slice, run_underlying ht, Instr.sliceBounds, Instr.sliceBound, asIntOf, sizeOf, typeInfo, hi, hsz, hlh, (show h ≤ cap by omega)]
  · refine ⟨by simp; omega, by omega, by omega, ?_, ?_⟩
    · intro h0
      by_cases hc : cap = l
      · omega
      · rw [if_neg hc] at h0
        have : ao = none := by cases ao <;> simp_all
        have := hs.nil this
        omega
    · by_cases hz : h - l = 0
      · exact .inl hz
      · obtain ⟨b, off, rfl, hc⟩ := hs.at (j := l) (by omega)
        refine .inr ⟨b, off + l, ?_, fun j hj => ?_⟩
        · rw [if_neg (by omega)]
          unfold Addr.add
          by_cases hl0 : l = 0
          · subst hl0; simp
          · simp [hl0]
        · rw [Nat.add_assoc, hc (l + j) (by omega)]
          simp [hj]

theorem wpList_slice_sl {P : Program} {w : World} {ops : Array Oper} {rest : List Oper} {o : Oper} {a : Act} {Q : Exit → Act → World → Prop} (hgd : o.guard = none)
    (t : TypeId) (x : Operand) (lo hi' : Option Operand) (ho : o.op = .slice t x lo hi' none) (e : TypeId) (i : TypeInfo) (ht : P.underlying t = some (.slice e)) (hi : P.info? e = some i) (hsz : i.size = 1)
    {ao : Option Addr} {n cap : Nat} {cs : List Value} (hx : a.eval x = .slice ao n cap) (hs : Sl w ao n cap cs) (l h : Nat)
    (hlo : lo = none ∧ l = 0 ∨ ∃ y k, lo = some y ∧ a.eval y = .int k (l : Int)) (hhi : hi' = none ∧ h = n ∨ ∃ y k, hi' = some y ∧ a.eval y = .int k (h : Int)) (hlh : l ≤ h) (hn : h ≤ n)
    (hK : ∀ ao', Sl w ao' (h - l) (cap - l) ((cs.drop l).take (h - l)) → wpList P ops Q rest (a.put o.dst (.slice ao' (h - l) (cap - l))) w) : wpList P ops Q (o :: rest) a w := by
  refine wpList_plain hgd fun K hKK => ?_
  obtain ⟨ao', hr, hs'⟩ := run_slice_sl (P := P) ht hi hsz hs (lo.map a.eval) (hi'.map a.eval) l h
    (by rcases hlo with ⟨rfl, h0⟩ | ⟨y, k, rfl, hy⟩; exact .inl ⟨rfl, h0⟩; exact .inr ⟨k, by simp [hy]⟩)
    (by rcases hhi with ⟨rfl, h0⟩ | ⟨y, k, rfl, hy⟩; exact .inl ⟨rfl, h0⟩; exact .inr ⟨k, by simp [hy]⟩) hlh hn
  have hr' : (Instr.sliceAt t (.slice ao n cap) (lo.map a.eval) (hi'.map a.eval) none).run P w = .ok (.slice ao' (h - l) (cap - l)) w := by
    simp only [Instr.sliceAt, Sem.run_bind, run_underlying ht, Result.andThen_ok]
    exact hr
  unfold Oper.wp execOp
  simp only [ho, Sem.run_bind, hx, Option.map_none, hr', Result.andThen_ok, Sem.run_pure]
  exact hKK _ _ (hK _ hs')

/-- bytes as cells -/
def u8v (c : UInt8) : Value := .int .u8 (c.toNat : Int)
def u8s (l : List UInt8) : List Value := l.map u8v
theorem u8s_length (l : List UInt8) : (u8s l).length = l.length := by simp [u8s]
theorem u8s_getD {l : List UInt8} {j : Nat} (h : j < l.length) : (u8s l).getD j undef = .int .u8 ((l[j].toNat : Nat) : Int) := by simp [u8s, u8v, h]
theorem u8s_append (a b : List UInt8) : u8s (a ++ b) = u8s a ++ u8s b := by simp [u8s]
theorem u8s_drop (a : List UInt8) (n : Nat) : (u8s a).drop n = u8s (a.drop n) := by simp [u8s]
theorem u8s_take (a : List UInt8) (n : Nat) : (u8s a).take n = u8s (a.take n) := by simp [u8s]
theorem u8s_oneCell (l : List UInt8) : ∀ u ∈ u8s l, u.oneCell' = true := by
  intro u hu
  obtain ⟨c, _, rfl⟩ := List.mem_map.1 hu
  rfl
abbrev Bs (w : World) (ao : Option Addr) (n cap : Nat) (l : List UInt8) : Prop := Sl w ao n cap (u8s l)
theorem Bs.length {w : World} {ao n cap l} (h : Bs w ao n cap l) : l.length = n := by have := h.len; rwa [u8s_length] at this
theorem Bs.at {w : World} {ao n cap l} (h : Bs w ao n cap l) {j : Nat} (hj : j < n) : ∃ b off, ao = some ⟨b, off, none⟩ ∧ ∀ j (hj : j < l.length), w.cell? ⟨b, off + j, none⟩ = some (.int .u8 ((l[j].toNat : Nat) : Int)) := by
  obtain ⟨b, off, ha, hc⟩ := Sl.at h hj
  refine ⟨b, off, ha, fun j hj => ?_⟩
  rw [hc j (by rw [← h.length]; exact hj), u8s_getD hj]

/-- 'string(b)' -/
theorem run_string_bs {P : Program} {w : World} {ao n cap l} (h : Bs w ao n cap l) (src e dst : TypeId) (hs : P.underlying src = some (.slice e)) (he : P.underlying e = some (.int .u8)) (hd : P.underlying dst = some .string) :
    (convert src dst (.slice ao n cap)).run P w = .ok (.string ⟨l.toArray⟩) w := by
  have hl := h.length
  by_cases h0 : n = 0
  · subst h0
    have : l = [] := List.eq_nil_of_length_eq_zero hl
    subst this
    cases ao with
    | none => rw [run_convert_bytes_nil w src e hs he 0 cap dst hd]; rfl
    | some a =>
      rw [run_convert_bytes_string w src dst e _ 0 cap hs he hd]
      simp [Conv.bytesToString, loadCells, loadCellsFrom]
      rfl
  · obtain ⟨b, off, rfl, hc⟩ := Bs.at h (j := 0) (by omega)
    rw [run_convert_bytes_arg w src e hs he b off n cap (l.map fun c => (c.toNat : Int)) (by simp [hl]) (fun i hi => by rw [hc i (by omega)]; simp [show i < l.length by omega]) dst hd]
    congr 2
    have : (strOfNums (l.map fun c => (c.toNat : Int))).data.toList = l := by
      rw [strOfNums_data, List.map_map]
      conv => rhs; rw [← List.map_id l]
      apply List.map_congr_left
      intro c _
      simp
    exact congrArg ByteArray.mk (Array.toList_inj.1 this)
end Go.Proofs.YtcmfoipnoejmlaaDoor
