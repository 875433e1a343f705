/- General facts for walks, third part: elements of several cells (arrays, structs), arrays of bytes. -/
import Derived.Test.YtcmfoipnoejmlaaDoorLib2
import Derived.Deep.QuietTactic
import Derived.BigQuiet
import Derived.WalkSpells
namespace Go.Proofs.YtcmfoipnoejmlaaDoor
open Go.RowKit

/-- The slice (ao, n, cap) has n elements of sz cells each: cs, one after the other. -/
structure SlN (w : World) (ao : Option Addr) (n cap sz : Nat) (cs : List Value) : Prop where
  len : cs.length = n * sz
  fits : n ≤ cap
  small : cap ≤ maxLen
  nil : ao = none → cap = 0
  cells : n = 0 ∨ ∃ b off, ao = some ⟨b, off, none⟩ ∧ ∀ j, j < n * sz → w.cell? ⟨b, off + j, none⟩ = some (cs.getD j undef)
theorem SlN.keep {w w' : World} {ao n cap sz cs} (h : SlN w ao n cap sz cs) (hk : ∀ k, k < w.heap.size → w'.heap[k]? = w.heap[k]?) : SlN w' ao n cap sz cs := by
  refine ⟨h.len, h.fits, h.small, h.nil, ?_⟩
  rcases h.cells with h0 | ⟨b, off, ha, hc⟩
  · exact .inl h0
  · refine .inr ⟨b, off, ha, fun j hj => ?_⟩
    have := hc j hj
    rw [World.cell?_of_block (w := w) (hk b (block_lt_of_cell this))]
    exact this
theorem SlN.below {w w' : World} {B ao n cap sz cs} (h : SlN w ao n cap sz cs) (hb : Below B w w') (hB : w.heap.size ≤ B) : SlN w' ao n cap sz cs :=
  h.keep fun k hk => hb.block k (by omega)
theorem SlN.at {w : World} {ao n cap sz cs} (h : SlN w ao n cap sz cs) {j : Nat} (hj : j < n) : ∃ b off, ao = some ⟨b, off, none⟩ ∧ ∀ j, j < n * sz → w.cell? ⟨b, off + j, none⟩ = some (cs.getD j undef) := by
  rcases h.cells with h0 | h1
  · omega
  · exact h1
theorem SlN.nilSl (w : World) (sz : Nat) : SlN w none 0 0 sz [] := ⟨by simp, Nat.le_refl _, Nat.zero_le _, fun _ => rfl, .inl rfl⟩
theorem SlN.of_own {w : World} {base e sz n : Nat} {v : Value} {xs : List Value} (h : w.ownsRow base e sz v n xs) : ∃ ao cap, v = .slice ao n cap ∧ SlN w ao n cap sz xs := by
  obtain ⟨hl, h | ⟨g, cap, cur, rfl, hb, hg, hnc, hcm, hcs, ht⟩⟩ := h
  · obtain ⟨rfl, rfl⟩ := h
    have : xs = [] := List.eq_nil_of_length_eq_zero (by simpa using hl)
    subst this
    exact ⟨none, 0, rfl, SlN.nilSl w sz⟩
  · refine ⟨_, cap, rfl, hl, hnc, hcm, by simp, .inr ⟨g, 0, rfl, fun j hj => ?_⟩⟩
    have hlt : j < xs.length := by omega
    rw [Nat.zero_add, cell_of_row w g j cur e (0, 0) hg]
    subst ht
    have h2 : j < cur.toList.length := by simp at hlt ⊢; omega
    simp only [List.getD_eq_getElem?_getD, List.getElem?_take]
    rw [if_pos hj, List.getElem?_eq_getElem h2]
    simp
theorem SlN.of_own' {w : World} {base e sz n cap : Nat} {ao : Option Addr} {xs : List Value} (h : Own w base e sz (.slice ao n cap) n xs) : SlN w ao n cap sz xs := by
  obtain ⟨ao', cap', hv, hs⟩ := SlN.of_own h.row
  cases hv
  exact hs

/-- element k of a list of parts of sz cells each -/
theorem flatMap_part {α : Type} (f : α → List Value) (sz : Nat) : ∀ (l : List α) (k : Nat) (_ : ∀ x ∈ l, (f x).length = sz) (hk : k < l.length) (j : Nat), j < sz → (l.flatMap f).getD (k * sz + j) undef = (f l[k]).getD j undef := by
  intro l
  induction l with
  | nil => intro k _ hk; simp at hk
  | cons x l ih =>
    intro k hf hk j hj
    have hx := hf x (by simp)
    cases k with
    | zero => simp [List.getD, List.getElem?_append, hx, hj]
    | succ k =>
      have := ih k (fun y hy => hf y (by simp [hy])) (by simpa using hk) j hj
      simp only [List.getD_eq_getElem?_getD] at this ⊢
      rw [List.flatMap_cons, List.getElem?_append_right (by rw [hx, Nat.add_mul]; omega), hx, show (k + 1) * sz + j - sz = k * sz + j by rw [Nat.add_mul]; omega, this]
      simp
theorem flatMap_len {α : Type} (f : α → List Value) (sz : Nat) : ∀ (l : List α), (∀ x ∈ l, (f x).length = sz) → (l.flatMap f).length = l.length * sz := by
  intro l
  induction l with
  | nil => intro _; simp
  | cons x l ih =>
    intro hf
    rw [List.flatMap_cons, List.length_append, ih (fun y hy => hf y (by simp [hy])), hf x (by simp), List.length_cons, Nat.add_mul]
    omega

/-- the cells of a value of several cells -/
def CellsAt (w : World) (b off : Nat) (cs : List Value) : Prop := ∀ j v, cs[j]? = some v → w.cell? ⟨b, off + j, none⟩ = some v
theorem SlN.part {α : Type} {w : World} {ao n cap sz} {f : α → List Value} {l : List α} {b off : Nat} (hc : ∀ j, j < n * sz → w.cell? ⟨b, off + j, none⟩ = some ((l.flatMap f).getD j undef)) (hf : ∀ x ∈ l, (f x).length = sz) {k : Nat} (hk : k < l.length) (hn : l.length = n)
    (_ : SlN w ao n cap sz (l.flatMap f)) : CellsAt w b (off + k * sz) (f l[k]) := by
  intro j v hj
  have hlt : j < sz := by rw [← hf l[k] (List.getElem_mem hk)]; exact (List.getElem?_eq_some_iff.1 hj).1
  have hb : k * sz + j < n * sz := by
    have : (k + 1) * sz ≤ n * sz := Nat.mul_le_mul_right _ (by omega)
    rw [Nat.add_mul] at this
    omega
  rw [Nat.add_assoc, hc (k * sz + j) hb, flatMap_part f sz l k hf hk j hlt]
  simp [List.getD, hj]

section
variable {P : Program}
theorem run_loadVar_at {w : World} {b off : Nat} {cs : List Value} (hc : CellsAt w b off cs) (ty : TypeId) (d : TypeDesc)
    (hu : P.underlying ty = some d) (hd : (match d with | .struct _ | .array _ _ => true | _ => false) = true) (hi : (P.info? ty).map (·.size) = some cs.length) :
    (loadVar ty ⟨b, off, none⟩).run P w = .ok (.agg cs.toArray) w := by
  have hl : (loadCells ⟨b, off, none⟩ cs.length).run P w = .ok cs.toArray w :=
    run_loadCells_list (P := P) w ⟨b, off, none⟩ cs (fun j v hv => by rw [Addr.add_lit]; exact hc j v hv)
  cases hq : P.info? ty with
  | none => simp [hq] at hi
  | some i =>
    have hs : i.size = cs.length := by simpa [hq] using hi
    have hagg : (isAgg ty).run P w = .ok true w := by
      unfold isAgg
      rw [Sem.run_bind, run_underlying hu w]
      cases d <;> simp_all
    simp [loadVar, Sem.run_bind, hagg, sizeOf, typeInfo, hq, hs, hl]
/-- the load of an array or a struct -/
theorem wpList_load_at {ops : Array Oper} {rest : List Oper} {o : Oper} {a : Act} {w : World} {Q : Exit → Act → World → Prop} (hgd : o.guard = none) (ty : TypeId) (x : Operand) (ho : o.op = .load ty x)
    (b off : Nat) (hx : a.eval x = .pointer (some ⟨b, off, none⟩)) (cs : List Value) (d : TypeDesc) (hc : CellsAt w b off cs)
    (hu : P.underlying ty = some d) (hd : (match d with | .struct _ | .array _ _ => true | _ => false) = true) (hi : (P.info? ty).map (·.size) = some cs.length)
    (h : wpList P ops Q rest (a.put o.dst (.agg cs.toArray)) w) : wpList P ops Q (o :: rest) a w := by
  refine wpList_plain hgd fun K hK => ?_
  unfold Oper.wp execOp
  simp only [ho, hx, Instr.loadAt, Instr.sureAddr, Sem.run_bind, Sem.run_pure, Result.andThen_ok, run_loadVar_at hc ty d hu hd hi]
  exact hK _ _ h
theorem CellsAt.drewN {w : World} {b off : Nat} {cs : List Value} (h : CellsAt w b off cs) (n : Nat) : CellsAt (w.drewN n) b off cs := fun j v hj => by simpa using h j v hj
theorem CellsAt.keep {w w' : World} {b off : Nat} {cs : List Value} (h : CellsAt w b off cs) (hk : ∀ k, k < w.heap.size → w'.heap[k]? = w.heap[k]?) : CellsAt w' b off cs := fun j v hj => by
  have := h j v hj
  rw [World.cell?_of_block (w := w) (hk b (block_lt_of_cell this))]
  exact this
/-- .. in a region that draws its order and only reads -/
theorem wpQuiet_load_at {ops : Array Oper} {rest : List Oper} {o : Oper} {a : Act} {w : World} {Q : Act → Prop} (hgd : o.guard = none) (ty : TypeId) (x : Operand) (ho : o.op = .load ty x)
    (b off : Nat) (hx : a.eval x = .pointer (some ⟨b, off, none⟩)) (cs : List Value) (d : TypeDesc) (hc : CellsAt w b off cs)
    (hu : P.underlying ty = some d) (hd : (match d with | .struct _ | .array _ _ => true | _ => false) = true) (hi : (P.info? ty).map (·.size) = some cs.length)
    (h : wpQuiet P ops (fun w' => ∃ n, w' = w.drewN n) Q rest (a.put o.dst (.agg cs.toArray))) : wpQuiet P ops (fun w' => ∃ n, w' = w.drewN n) Q (o :: rest) a := by
  refine wpQuiet_step fun K hK => ?_
  rw [if_pos (by simp [Region.wanted, hgd])]
  refine ⟨.agg cs.toArray, ?_, hK _ h⟩
  rintro w' ⟨n, rfl⟩
  unfold Oper.quietAt execOp
  simp only [ho, hx, Instr.loadAt, Instr.sureAddr, Sem.run_bind, Sem.run_pure, Result.andThen_ok, run_loadVar_at (hc.drewN n) ty d hu hd hi]
  exact ⟨rfl, rfl⟩

theorem run_arrayAt {w : World} {t e n : Nat} (ht : P.underlying t = some (.array n e)) (ao : Option Addr) (len cap : Nat) (h : n ≤ len) : (Instr.arrayAt t (.slice ao len cap)).run P w = .ok (.pointer ao) w := by
  simp [Instr.arrayAt, run_underlying ht, show ¬ len < n by omega]
theorem cellsAt_bs {w : World} {b off n cap : Nat} {l : List UInt8} (hs : Bs w (some ⟨b, off, none⟩) n cap l) : CellsAt w b off (u8s l) := by
  intro j v hj
  have hlt := (List.getElem?_eq_some_iff.1 hj).1
  rw [u8s_length] at hlt
  obtain ⟨b', off', he, hc⟩ := Bs.at hs (j := j) (by rw [← hs.length]; exact hlt)
  cases he
  rw [hc j hlt, ← hj]
  simp [u8s, u8v, hlt]
theorem setRow_alloc (w : World) (old cs : Array Value) (t : TypeId) : (w.alloc (.cells old t)).setRow w.heap.size cs = w.alloc (.cells cs t) := by
  have : ((w.heap.push (.cells old t)).modify w.heap.size fun | .cells _ elem frozen => .cells cs elem frozen | o => o) = w.heap.push (.cells cs t) := by
    apply Array.ext_getElem?
    intro i
    rw [Array.getElem?_modify, Array.getElem?_push, Array.getElem?_push]
    by_cases h : w.heap.size = i
    · subst h; simp
    · rw [if_neg h, if_neg (Ne.symm h), if_neg (Ne.symm h)]
  exact congrArg (fun h => ({ w with heap := h } : World)) this
/-- a variable of an array or struct type is laid and set: the two operations at once -/
theorem wpList_var {w : World} {ops : Array Oper} {rest : List Oper} {o1 o2 : Oper} {a : Act} {Q : Exit → Act → World → Prop} (hg1 : o1.guard = none) (hg2 : o2.guard = none) (d : Tmp) (y : Operand) (ty : TypeId)
    (hd : o1.dst = some d) (hlt : d < a.tmps.size) (ho1 : o1.op = .alloc ty) (ho2 : o2.op = .store ty (.tmp d) y) (i : TypeInfo) (z : Value) (hi : P.info? ty = some i) (hz : i.zero = some z) (hzs : z.cells.size = i.size)
    (cs : Array Value) (hy : (a.put (some d) (.pointer (some ⟨w.heap.size, 0, none⟩))).eval y = .agg cs) (hcs : cs.size = i.size) (h1 : cs.all (·.oneCell') = true)
    (h : wpList P ops Q rest ((a.put (some d) (.pointer (some ⟨w.heap.size, 0, none⟩))).put o2.dst undef) (w.alloc (.cells cs ty))) : wpList P ops Q (o1 :: o2 :: rest) a w := by
  refine wpList_plain hg1 fun K hKK => ?_
  have hr : (Instr.alloc ty true (.tuple #[])).run P w = .ok (.pointer (some ⟨w.heap.size, 0, none⟩)) (w.alloc (.cells z.cells ty)) := by
    simp [Instr.alloc, zeroValue, typeInfo, hi, hz]
    rfl
  unfold Oper.wp
  simp only [execOp, ho1, Sem.run_bind, hr, Result.andThen_ok, Sem.run_pure, Oper.upon_value, hd]
  refine hKK _ _ ?_
  refine wpList_store_row hg2 ty (.tmp d) y ho2 w.heap.size cs (by simp [Act.eval, Act.put, hlt]) hy ty z.cells (heap_alloc_new w _) (by rw [hi]; simp [hcs]) (by rw [hzs, hcs]) h1 ?_
  rw [setRow_alloc]
  exact h
theorem forIn_range (len : Nat) (β : Type) (b : β) (f : Nat → β → Sem (ForInStep β)) : (forIn [0:len] b f : Sem β) = forIn (List.range' 0 len) b f := by
  rw [Std.Legacy.Range.forIn_eq_forIn_range']
  simp [Std.Legacy.Range.size]
/-- a loop that leaves at the first place where two lists part -/
theorem forIn_part {σ : Type} {w : World} (s0 s1 : σ) (x y : List UInt8) (len : Nat) (hx : x.length = len) (hy : y.length = len) (f : Nat → σ → Sem (ForInStep σ))
    (hf : ∀ i (hi : i < len), (f i s0).run P w = .ok (if x[i] = y[i] then .yield s0 else .done s1) w) :
    ∀ (m k : Nat), k + m = len → (forIn (List.range' k m) s0 f : Sem σ).run P w = .ok (if x.drop k = y.drop k then s0 else s1) w := by
  intro m
  induction m with
  | zero => intro k hk; simp [List.drop_of_length_le (show x.length ≤ k by omega), List.drop_of_length_le (show y.length ≤ k by omega)]
  | succ m ih =>
    intro k hk
    have hdx := List.drop_eq_getElem_cons (show k < x.length by omega)
    have hdy := List.drop_eq_getElem_cons (show k < y.length by omega)
    rw [List.range'_succ, List.forIn_cons, Sem.run_bind, hf k (by omega)]
    by_cases hxy : x[k]'(by omega) = y[k]'(by omega)
    · rw [if_pos hxy, Result.andThen_ok]
      simp only
      rw [ih (k + 1) (by omega), hdx, hdy]
      simp only [hxy, List.cons.injEq, true_and]
    · rw [if_neg hxy, Result.andThen_ok, hdx, hdy]
      simp only [hxy, List.cons.injEq, false_and, if_false, Sem.run_pure]
/-- '==' of two arrays of bytes -/
theorem run_equalIn_bytes {w : World} (d : Nat) {t e len : Nat} {i : TypeInfo} (ht : P.underlying t = some (.array len e)) (he : P.underlying e = some (.int .u8)) (hi : P.info? e = some i) (hsz : i.size = 1) (x y : List UInt8) (hx : x.length = len) (hy : y.length = len) :
    (Op.equalIn (d + 2) t (.agg (u8s x).toArray) (.agg (u8s y).toArray)).run P w = .ok (x == y) w := by
  have hpart : ∀ (l : List UInt8) (k : Nat) (hk : k < l.length), (part e (u8s l).toArray k).run P w = .ok (.int .u8 ((l[k].toNat : Nat) : Int)) w := by
    intro l k hk
    have hagg : (isAgg e).run P w = .ok false w := by
      unfold isAgg
      rw [Sem.run_bind, run_underlying he w]
      rfl
    simp [part, hagg, u8s, u8v, hk]
  have hq : ∀ a b : Int, (Op.equalIn (d + 1) e (.int .u8 a) (.int .u8 b)).run P w = .ok (a == b) w := fun a b => run_equalIn_int w d e .u8 .u8 a b he
  show (Op.equalIn ((d + 1) + 1) _ _ _).run P w = _
  generalize d + 1 = d' at *
  simp only [Op.equalIn, Sem.run_bind, run_underlying ht, Result.andThen_ok, sizeOf, typeInfo, hi, hsz, Sem.run_pure, run_program, forIn_range, Nat.mul_one]
  rw [forIn_part (P := P) (w := w) (none, ()) (some false, ()) x y len hx hy _ ?_ len 0 (by omega)]
  · by_cases hxy : x = y
    · subst hxy; simp
    · simp [hxy]
  · intro k hk
    simp only [Sem.run_bind, hpart x k (by omega), hpart y k (by omega), Result.andThen_ok, hq]
    by_cases hxy : x[k]'(by omega) = y[k]'(by omega)
    · have e1 : (((x[k]'(by omega)).toNat : Int) == ((y[k]'(by omega)).toNat : Int)) = true := by rw [hxy]; simp
      rw [e1, if_pos hxy]
      simp
    · have e1 : (((x[k]'(by omega)).toNat : Int) == ((y[k]'(by omega)).toNat : Int)) = false := by
        simp only [beq_eq_false_iff_ne, ne_eq]
        intro hh
        apply hxy
        apply UInt8.toNat_inj.1
        omega
      rw [e1, if_neg hxy]
      simp
end
end Go.Proofs.YtcmfoipnoejmlaaDoor
