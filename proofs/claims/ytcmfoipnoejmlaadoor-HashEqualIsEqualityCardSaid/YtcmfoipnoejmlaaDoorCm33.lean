/- The plain machine by hand: variables in memory, regions that draw their order and write. No program in sight. -/
import Derived.Test.YtcmfoipnoejmlaaDoorCm32
namespace Go.Proofs.YtcmfoipnoejmlaaDoor
open Go Go.RowKit
section
variable {P : Program} {Γ : Env} {call : CallC} {ops l : List Oper} {o : Oper} {fr fr' : Fr} {s t : CS}
noncomputable def consLg (lg : Lg) (r : Option (List Lg × Fr × CS)) : Option (List Lg × Fr × CS) := match r with
  | some (logs, fr, s) => some (lg :: logs, fr, s)
  | none => none
noncomputable def thenD (s : CS) (r : Option (Fr × CS)) (k : Fr → CS → Option (List Lg × Fr × CS)) : Option (List Lg × Fr × CS) := match r with
  | some (fr, t) => consLg ⟨t.rd, t.wr, s.n, t.n⟩ (k fr (s.outer t))
  | none => none
theorem drawC_nil : drawC P Γ call ops [] fr s = some ([], fr, s) := Eq.trans rfl rfl
theorem drawC_cons : drawC P Γ call ops (o :: l) fr s = thenD s (stepC P Γ call ops o fr s.inner) (drawC P Γ call ops l) := by
  rw [drawC]
  cases stepC P Γ call ops o fr s.inner with
  | none => rfl
  | some r =>
    show (match drawC P Γ call ops l r.1 (s.outer r.2) with | some (logs, fr, s') => _ | none => none) = consLg _ (drawC P Γ call ops l r.1 (s.outer r.2))
    cases drawC P Γ call ops l r.1 (s.outer r.2) with
    | none => rfl
    | some x => rfl
theorem consLg_some (lg : Lg) (logs : List Lg) : consLg lg (some (logs, fr, s)) = some (lg :: logs, fr, s) := Eq.trans rfl rfl
variable {n lim n' : Nat} {g g' : Nat → Fam} {rd wr rd' wr' : List Nat} {ob ob' : Sto}
theorem thenD_some {k : Fr → CS → Option (List Lg × Fr × CS)} : thenD ⟨n, ob, lim, rd, wr⟩ (some (fr, ⟨n', ob', n, rd', wr'⟩)) k = consLg ⟨rd', wr', n, n'⟩ (k fr ⟨n', ob', lim, insAll lim rd rd', insAll lim wr wr'⟩) := Eq.trans rfl rfl
theorem insAll_nil : insAll lim rd [] = rd := Eq.trans rfl rfl
theorem insAll_cons {f : Nat} : insAll lim rd (f :: rd') = insAll lim (ins lim rd f) rd' := Eq.trans rfl rfl
theorem calm_ms {n0 : Nat} {logs : List Lg} {ms : List Nat} (hm : masks ops [] = ms) (h : calmAll clash [] logs ms = true) : calm n0 ops logs = true := by
  unfold calm
  rw [hm, h]
  cases logs.all _ <;> rfl
theorem calmAll_nil {ms : List Nat} {done : List Lg} : calmAll clash done [] ms = true := Eq.trans rfl rfl
theorem calmAll_go {ms : List Nat} {done logs : List Lg} {y : Lg} (h : calmOne clash (nth 0 ms done.length) y done 0 = true) (k : calmAll clash (done ++ [y]) logs ms = true) : calmAll clash done (y :: logs) ms = true := by
  show (_ && _) = true
  rw [h, k]; rfl
theorem meet_nil (a : List Nat) : meet a [] = false := by
  unfold meet
  induction a with
  | nil => rfl
  | cons x a ih => rw [List.any_cons, ih]; rfl
theorem clash_y0 {x : Lg} {lo hi : Nat} : clash x ⟨[], [], lo, hi⟩ = false := by
  unfold clash within
  simp [meet_nil]
theorem calmOne_y0 {m lo hi : Nat} : ∀ {done : List Lg} {i : Nat}, calmOne clash m ⟨[], [], lo, hi⟩ done i = true
  | [], _ => rfl
  | x :: l, i => by
    show ((Nat.testBit m i || !clash x _) && calmOne clash m _ l (i + 1)) = true
    rw [clash_y0, calmOne_y0]; simp
theorem calmAll_y0 {ms : List Nat} {done logs : List Lg} {lo hi : Nat} : calmAll clash done (⟨[], [], lo, hi⟩ :: logs) ms = calmAll clash (done ++ [⟨[], [], lo, hi⟩]) logs ms := by
  show (calmOne _ _ _ _ _ && _) = _
  rw [calmOne_y0]; rfl
theorem calmAll_cons {ms : List Nat} {done logs : List Lg} {y : Lg} : calmAll clash done (y :: logs) ms = (calmOne clash (nth 0 ms done.length) y done 0 && calmAll clash (done ++ [y]) logs ms) := Eq.trans rfl rfl
theorem calmOne_nil {m i : Nat} {y : Lg} : calmOne clash m y [] i = true := Eq.trans rfl rfl
theorem calmOne_set {m i : Nat} {x y : Lg} {done : List Lg} (h : Nat.testBit m i = true) : calmOne clash m y (x :: done) i = calmOne clash m y done (i + 1) := by
  show ((Nat.testBit m i || _) && _) = _
  rw [h]; rfl
theorem calmOne_ok {m i : Nat} {x y : Lg} {done : List Lg} (h : clash x y = false) : calmOne clash m y (x :: done) i = calmOne clash m y done (i + 1) := by
  show ((Nat.testBit m i || !clash x y) && _) = _
  rw [h]; simp
theorem nth_zero {α : Type} {d x : α} {l : List α} : nth d (x :: l) 0 = x := Eq.trans rfl rfl
theorem nth_succ {α : Type} {d x : α} {l : List α} {i : Nat} : nth d (x :: l) (i + 1) = nth d l i := Eq.trans rfl rfl
/-- two operations of which the former only makes, and the latter touches nothing of what it makes -/
theorem clash_x0 {lo hi lo' hi' : Nat} {r w : List Nat} (hr : ∀ f, f ∈ r → f < lo ∨ hi ≤ f) (hw : ∀ f, f ∈ w → f < lo ∨ hi ≤ f) : clash ⟨[], [], lo, hi⟩ ⟨r, w, lo', hi'⟩ = false := by
  have hq : ∀ l : List Nat, (∀ f, f ∈ l → f < lo ∨ hi ≤ f) → within lo hi l = false := by
    intro l hl
    unfold within
    rw [List.any_eq_false]
    intro f hf
    rcases hl f hf with h | h
    · simp [ble_no h]
    · simp [blt_no h]
  unfold clash
  simp [hq r hr, hq w hw, meet]
theorem clash_gen {rx wx ry wy : List Nat} {lo hi lo' hi' : Nat} (h1 : ∀ f, f ∈ wx → f ∉ ry ∧ f ∉ wy) (h2 : ∀ f, f ∈ rx → f ∉ wy) (hr : ∀ f, f ∈ ry → f < lo ∨ hi ≤ f) (hw : ∀ f, f ∈ wy → f < lo ∨ hi ≤ f) : clash ⟨rx, wx, lo, hi⟩ ⟨ry, wy, lo', hi'⟩ = false := by
  have hq : ∀ l : List Nat, (∀ f, f ∈ l → f < lo ∨ hi ≤ f) → within lo hi l = false := by
    intro l hl
    unfold within
    rw [List.any_eq_false]
    intro f hf
    rcases hl f hf with h | h
    · simp [ble_no h]
    · simp [blt_no h]
  have hm : ∀ a b : List Nat, (∀ f, f ∈ a → f ∉ b) → meet a b = false := by
    intro a b hab
    unfold meet
    rw [List.any_eq_false]
    intro f hf hc
    exact hab f hf (has_mem hc)
  unfold clash
  simp [hq ry hr, hq wy hw, hm wx ry fun f hf => (h1 f hf).1, hm wx wy fun f hf => (h1 f hf).2, hm rx wy h2]
/-- a region that draws: the logs told -/
theorem W.draw_ex {id : Nat} {ops : Array Oper} {Q : Exit → Fr → CS → Prop} {logs : List Lg} {ms : List Nat} (hm : masks ops.toList [] = ms) (h : drawC P Γ (callR P Γ) ops.toList ops.toList fr s = some (logs, fr', t)) (hc : calmAll clash [] logs ms = true) (hq : Q .normal fr' t) : W P Γ (.region id ops true) fr s Q :=
  W.draw h (calm_ms hm hc) hq
variable {ρ : Operand → Value}
/-- a variable is made -/
theorem alloc_st {e : TypeId} {d : TypeDesc} {z b : Nat} {zs : List Value} (h : Γ.ti.at e = some ⟨d, z, b, zs⟩) : opAlloc Γ (St n g lim rd wr) e = some (.pointer (some (mkA n (n * 1024 + 0) 0)), St (n + 1) (fupd g n ⟨false, [(n * 1024 + 0, zs)], none⟩) lim rd wr) := by
  unfold opAlloc
  rw [h]
  simp only [newRow_st, ptrC]
theorem box_st {cs : List Value} : ptrC (CS.newRow (St n g lim rd wr) 0 cs) = some (.pointer (some (mkA n (n * 1024 + 0) 0)), St (n + 1) (fupd g n ⟨false, [(n * 1024 + 0, cs)], none⟩) lim rd wr) := by
  rw [newRow_st]; rfl
theorem idx_arr {ty e : TypeId} {z b N b2 : Nat} {zs z2 : List Value} {d : TypeDesc} {f u off k : Nat} (h : Γ.ti.at ty = some ⟨.array N e, z, b, zs⟩) (he : Γ.ti.at e = some ⟨d, 1, b2, z2⟩) (hk : k < N) : opIndexAddr Γ s ty (.pointer (some (mkA f u off))) (some k) = some (.pointer (some (mkA f u (off + k))), s) := by
  unfold opIndexAddr
  rw [h]
  simp only [he, stepA, blt_ok hk, cond_true, plus_mk, Nat.mul_one]
theorem idx_sl {ty e : TypeId} {z b b2 len cap : Nat} {zs z2 : List Value} {d : TypeDesc} {f u off k : Nat} (h : Γ.ti.at ty = some ⟨.slice e, z, b, zs⟩) (he : Γ.ti.at e = some ⟨d, 1, b2, z2⟩) (hk : k < len) : opIndexAddr Γ s ty (.slice (some (mkA f u off)) len cap) (some k) = some (.pointer (some (mkA f u (off + k))), s) := by
  unfold opIndexAddr
  rw [h]
  simp only [he, stepA, blt_ok hk, cond_true, plus_mk, Nat.mul_one]
/-- an element of an array value -/
theorem idx_agg {ty e : TypeId} {z b N b2 : Nat} {zs z2 : List Value} {d : TypeDesc} {k : Nat} {cs : Array Value} {v : Value} (h : Γ.ti.at ty = some ⟨.array N e, z, b, zs⟩) (he : Γ.ti.at e = some ⟨d, 1, b2, z2⟩) (hd : aggT d = false) (hk : k < N) (hv : cs.toList[k]? = some v) : opIndex Γ s ty (.agg cs) (some k) = some (v, s) := by
  unfold opIndex
  rw [h]
  simp only [he, blt_ok hk, cond_true, partC, hd, cond_false, Nat.mul_one, hv, retC]
/-- one cell is read -/
theorem ld_one {ty : TypeId} {d : TypeDesc} {z b f u off : Nat} {zs cs : List Value} {v : Value} (h : Γ.ti.at ty = some ⟨d, z, b, zs⟩) (hd : aggT d = false) (hr : rowOf (g f).rows u = some cs) (hv : cs[off]? = some v) : opLoad Γ (St n g lim rd wr) ty (.pointer (some (mkA f u off))) = some (v, St n g lim (ins lim rd f) wr) := by
  unfold opLoad CS.loadVar
  rw [h]
  simp only [readRow_st, ver_mk, block_mk, hr, partC, hd, cond_false, off_mk, hv]
/-- an array or a struct is read -/
theorem ld_all {ty : TypeId} {d : TypeDesc} {z b f u : Nat} {zs cs : List Value} (h : Γ.ti.at ty = some ⟨d, z, b, zs⟩) (hd : aggT d = true) (hr : rowOf (g f).rows u = some cs) (hv : cs.length = z) : opLoad Γ (St n g lim rd wr) ty (.pointer (some (mkA f u 0))) = some (.agg cs.toArray, St n g lim (ins lim rd f) wr) := by
  unfold opLoad CS.loadVar
  rw [h]
  simp only [readRow_st, ver_mk, block_mk, hr, partC, hd, cond_true, off_mk]
  rw [cut_eq (by omega), List.drop_zero, List.take_of_length_le (by omega)]
theorem ld_part {ty : TypeId} {d : TypeDesc} {z b f u off : Nat} {zs cs : List Value} (h : Γ.ti.at ty = some ⟨d, z, b, zs⟩) (hd : aggT d = true) (hr : rowOf (g f).rows u = some cs) (hv : off + z ≤ cs.length) : opLoad Γ (St n g lim rd wr) ty (.pointer (some (mkA f u off))) = some (.agg ((cs.drop off).take z).toArray, St n g lim (ins lim rd f) wr) := by
  unfold opLoad CS.loadVar
  rw [h]
  simp only [readRow_st, ver_mk, block_mk, hr, partC, hd, cond_true, off_mk]
  rw [cut_eq (by omega)]
/-- one cell is written -/
theorem st_one {ty : TypeId} {d : TypeDesc} {b f u off : Nat} {zs cs : List Value} {v : Value} {es : Option (List (Value × Value))} (h : Γ.ti.at ty = some ⟨d, 1, b, zs⟩) (hg : g f = ⟨false, [(u, cs)], es⟩) (ho : off < cs.length) (hv : oneC v = true) : opStore Γ (St n g lim rd wr) ty [v] (.pointer (some (mkA f u off))) = some (undef, St n (fupd g f ⟨false, [(u, cs.set off v)], none⟩) lim rd (ins lim wr f)) := by
  unfold opStore
  rw [h]
  simp only
  rw [beq_ok (by rfl), cond_true, write_st hg (by show off + 1 ≤ cs.length; omega) (by simp [hv]), splice_one ho]
  rfl
/-- a variable is written whole -/
theorem st_all {ty : TypeId} {d : TypeDesc} {z b f u : Nat} {zs cs vs : List Value} {es : Option (List (Value × Value))} (h : Γ.ti.at ty = some ⟨d, z, b, zs⟩) (hg : g f = ⟨false, [(u, cs)], es⟩) (hz : vs.length = z) (ho : cs.length = z) (hv : vs.all oneC = true) : opStore Γ (St n g lim rd wr) ty vs (.pointer (some (mkA f u 0))) = some (undef, St n (fupd g f ⟨false, [(u, vs)], none⟩) lim rd (ins lim wr f)) := by
  unfold opStore
  rw [h]
  simp only
  rw [beq_ok hz, cond_true, write_st hg (by omega) hv, splice_all (by omega)]
  rfl
theorem cells_int (k : IntKind) (m : Int) : (Value.int k m).cells = #[.int k m] := Eq.trans rfl rfl
theorem cells_vw (x : UInt32) : (vw x).cells = #[vw x] := Eq.trans rfl rfl
theorem cells_vb (x : UInt8) : (vb x).cells = #[vb x] := Eq.trans rfl rfl
theorem cells_vq (x : UInt64) : (vq x).cells = #[vq x] := Eq.trans rfl rfl
theorem cells_agg (cs : Array Value) : (Value.agg cs).cells = cs := Eq.trans rfl rfl
theorem cells_bool (b : Bool) : (Value.bool b).cells = #[.bool b] := Eq.trans rfl rfl
theorem cells_str (b : ByteArray) : (Value.string b).cells = #[.string b] := Eq.trans rfl rfl
/-- words as values -/
def wvs (l : List UInt32) : List Value := l.map vw
theorem wvs_len (l : List UInt32) : (wvs l).length = l.length := by simp [wvs]
theorem wvs_get {l : List UInt32} {k : Nat} (h : k < l.length) : (wvs l)[k]? = some (vw (l.getD k 0)) := by
  unfold wvs
  rw [List.getElem?_map, List.getD_eq_getElem?_getD, List.getElem?_eq_getElem h]; rfl
theorem wvs_set (l : List UInt32) (k : Nat) (x : UInt32) : (wvs l).set k (vw x) = wvs (l.set k x) := by
  unfold wvs
  rw [List.map_set]
theorem wvs_one (l : List UInt32) : (wvs l).all oneC = true := by
  rw [List.all_eq_true]
  intro x hx
  obtain ⟨c, _, rfl⟩ := List.mem_map.1 hx
  rfl
theorem wvs_plain (l : List UInt32) : (wvs l).all (plainV 2) = true := by
  rw [List.all_eq_true]
  intro x hx
  obtain ⟨c, _, rfl⟩ := List.mem_map.1 hx
  rfl
theorem vw_one (x : UInt32) : oneC (vw x) = true := Eq.trans rfl rfl
theorem vb_one (x : UInt8) : oneC (vb x) = true := Eq.trans rfl rfl
section
variable {ty t2 src dst : TypeId} {d : Option Tmp} {pos : String} {e : Array Edge} {q : Option (Nat × Bool)} {x y : Operand} {tt : TypeId} {k : IntKind} {z b z2 b2 : Nat} {zs zs2 : List Value}
theorem bw_shl_l {a : UInt32} (n : Nat) (hx : ρ x = vw a) (hy : ρ y = .int k (OfNat.ofNat n)) : opBin P Γ ρ ⟨d, .binOp .shl tt x y t2, ty, pos, e, q⟩ s tt .shl (vw a) (.int k (no_index (OfNat.ofNat n))) = some (vw (shl32 a n), s) := bw_shl (n := n) hx hy
theorem bw_shr_l {a : UInt32} (n : Nat) (hx : ρ x = vw a) (hy : ρ y = .int k (OfNat.ofNat n)) : opBin P Γ ρ ⟨d, .binOp .shr tt x y t2, ty, pos, e, q⟩ s tt .shr (vw a) (.int k (no_index (OfNat.ofNat n))) = some (vw (shr32 a n), s) := bw_shr (n := n) hx hy
theorem conv_bw {c : UInt8} (hs : Γ.ti.at src = some ⟨.int .u8, z, b, zs⟩) (hd : Γ.ti.at dst = some ⟨.int .u32, z2, b2, zs2⟩) (ps : (P.underlying src).isSome = true) (pd : P.underlying dst = some (.int .u32)) (hx : ρ x = vb c) : opConvert P Γ ρ ⟨d, .convert src dst x, ty, pos, e, q⟩ s src dst (vb c) = some (vw c.toUInt32, s) := by
  unfold opConvert
  rw [hs, hd]
  show orPure P ρ _ s (convI .u32 (c.toNat : Int)) = _
  rw [oc_int ⟨_, hx⟩ ps pd, cw_b]
theorem conv_wb {c : UInt32} (hs : Γ.ti.at src = some ⟨.int .u32, z, b, zs⟩) (hd : Γ.ti.at dst = some ⟨.int .u8, z2, b2, zs2⟩) (ps : (P.underlying src).isSome = true) (pd : P.underlying dst = some (.int .u8)) (hx : ρ x = vw c) : opConvert P Γ ρ ⟨d, .convert src dst x, ty, pos, e, q⟩ s src dst (vw c) = some (vb c.toUInt8, s) := by
  unfold opConvert
  rw [hs, hd]
  show orPure P ρ _ s (convI .u8 (c.toNat : Int)) = _
  rw [oc_int ⟨_, hx⟩ ps pd, cb_w]
theorem conv_qb {c : UInt64} (hs : Γ.ti.at src = some ⟨.int .u64, z, b, zs⟩) (hd : Γ.ti.at dst = some ⟨.int .u8, z2, b2, zs2⟩) (ps : (P.underlying src).isSome = true) (pd : P.underlying dst = some (.int .u8)) (hx : ρ x = vq c) : opConvert P Γ ρ ⟨d, .convert src dst x, ty, pos, e, q⟩ s src dst (vq c) = some (vb c.toUInt8, s) := by
  unfold opConvert
  rw [hs, hd]
  show orPure P ρ _ s (convI .u8 (c.toNat : Int)) = _
  rw [oc_int ⟨_, hx⟩ ps pd, cb_q]
end
theorem resC_nil {fr : Fr} {s : CS} : resC Γ fr s [] = some ([], s) := Eq.trans rfl rfl
noncomputable def resAdd (v : Value) : Option (List Value × CS) → Option (List Value × CS)
  | some (vs, s) => some (v :: vs, s)
  | none => none
noncomputable def resThen (Γ : Env) (fr : Fr) (l : List ResultVar) : Option (Value × CS) → Option (List Value × CS)
  | some (v, s) => resAdd v (resC Γ fr s l)
  | none => none
theorem resAdd_some {v : Value} {vs : List Value} {s : CS} : resAdd v (some (vs, s)) = some (v :: vs, s) := Eq.trans rfl rfl
theorem resThen_some {fr : Fr} {l : List ResultVar} {v : Value} {s : CS} : resThen Γ fr l (some (v, s)) = resAdd v (resC Γ fr s l) := Eq.trans rfl rfl
theorem resC_cell {fr : Fr} {s : CS} {a : Tmp} {t : TypeId} {l : List ResultVar} {ad : Addr} (h : fr.get a = .pointer (some ad)) : resC Γ fr s (.cell a t :: l) = resThen Γ fr l (opLoad Γ s t (.pointer (some ad))) := by
  rw [resC, h]
  unfold opLoad
  cases Γ.ti.at t with
  | none => rfl
  | some i =>
    simp only
    cases s.loadVar i ad with
    | none => rfl
    | some r => rfl
theorem lit_cast (n : Nat) : ((no_index (OfNat.ofNat n) : Nat) : Int) = OfNat.ofNat n := Eq.trans rfl rfl
theorem bexit {i j : Nat} (h : i ≠ j) : Nat.beq i j = false := beq_no h
/-- a slice of bytes that may be read -/
structure BSl (g : Nat → Fam) (n f u off len cap : Nat) (bs : List UInt8) : Prop where
  lt : f < n
  tag : u % 1024 = 0 ∨ u % 1024 = 2
  fits : len ≤ cap
  size : bs.length = len
  row : ∃ cs, rowOf (g f).rows u = some cs ∧ ∀ i, i < len → cs[off + i]? = some (vb (bs.getD i 0))
end
end Go.Proofs.YtcmfoipnoejmlaaDoor
