/- The plain machine by hand: slices that a call has made, slicing, appending, turning bytes to strings and back. No program in sight. -/
import Derived.Test.YtcmfoipnoejmlaaDoorCm30
namespace Go.Proofs.YtcmfoipnoejmlaaDoor
open Go Go.RowKit
theorem ble_ok {m n : Nat} (h : m ≤ n) : Nat.ble m n = true := ble_iff.2 h
theorem ble_no {m n : Nat} (h : n < m) : Nat.ble m n = false := by
  cases hb : Nat.ble m n with
  | false => rfl
  | true => exact absurd (ble_iff.1 hb) (by omega)
theorem blt_ok {m n : Nat} (h : m < n) : Nat.blt m n = true := blt_iff.2 h
theorem blt_no {m n : Nat} (h : n ≤ m) : Nat.blt m n = false := by
  cases hb : Nat.blt m n with
  | false => rfl
  | true => exact absurd (blt_iff.1 hb) (by omega)
theorem beq_ok {m n : Nat} (h : m = n) : Nat.beq m n = true := by subst h; exact Nat.beq_refl m
theorem beq_no {m n : Nat} (h : m ≠ n) : Nat.beq m n = false := by
  cases hb : Nat.beq m n with
  | false => rfl
  | true => exact absurd (Nat.eq_of_beq_eq_true hb) h
theorem natOf_nat (k : IntKind) (n : Nat) : natOf (.int k (n : Int)) = some n := Eq.trans rfl rfl
theorem natOf_lit (k : IntKind) (n : Nat) : natOf (.int k (no_index (OfNat.ofNat n))) = some n := Eq.trans rfl rfl
theorem some_map {α β : Type} (f : α → β) (a : α) : Option.map f (some a) = some (f a) := Eq.trans rfl rfl
theorem none_map {α β : Type} (f : α → β) : Option.map f (none : Option α) = none := Eq.trans rfl rfl
/-- the bounds of a slicing -/
theorem bounds_lh {len cap l h : Nat} {a b : Value} (ha : natOf a = some l) (hb : natOf b = some h) (h1 : l ≤ h) (h2 : h ≤ cap) : boundsC len cap (some a) (some b) none = some (l, h, cap) := by
  simp [boundsC, ha, hb, ble_ok h1, ble_ok h2, ble_ok (Nat.le_refl cap)]
theorem bounds_h {len cap h : Nat} {b : Value} (hb : natOf b = some h) (h2 : h ≤ cap) : boundsC len cap none (some b) none = some (0, h, cap) := by
  simp [boundsC, hb, ble_ok (Nat.zero_le h), ble_ok h2, ble_ok (Nat.le_refl cap)]
theorem bounds_l {len cap l : Nat} {a : Value} (ha : natOf a = some l) (h1 : l ≤ len) (h2 : len ≤ cap) : boundsC len cap (some a) none none = some (l, len, cap) := by
  simp [boundsC, ha, ble_ok h1, ble_ok h2, ble_ok (Nat.le_refl cap)]
theorem bounds_all {len cap : Nat} (h2 : len ≤ cap) : boundsC len cap none none none = some (0, len, cap) := by
  simp [boundsC, ble_ok (Nat.zero_le len), ble_ok h2, ble_ok (Nat.le_refl cap)]
section
variable {P : Program} {Γ : Env} {ρ : Operand → Value} {o : Oper} {s : CS} {n lim : Nat} {g : Nat → Fam} {rd wr : List Nat}
/-- a piece of a slice -/
theorem slice_sl {t e : TypeId} {z b : Nat} {zs : List Value} {j : TI} {f u off len cap l h m : Nat} {lo hi : Option Value} (ht : Γ.ti.at t = some ⟨.slice e, z, b, zs⟩) (he : Γ.ti.at e = some j) (hb : boundsC len cap lo hi none = some (l, h, m)) (hu : u % 1024 = 0 ∨ u % 1024 = j.size + 1) :
    opSlice Γ s t (.slice (some (mkA f u off)) len cap) lo hi none = some (.slice (some (mkA f u (off + l * j.size))) (h - l) (m - l), s) := by
  unfold opSlice
  rw [ht]
  simp only [he, hb]
  unfold cutC
  simp only [ver_mk, plus_mk]
  rcases hu with hu | hu
  · rw [beq_ok hu]; rfl
  · rw [beq_ok hu]; simp
theorem slice_none {t e : TypeId} {z b : Nat} {zs : List Value} {j : TI} {lo hi : Option Value} (ht : Γ.ti.at t = some ⟨.slice e, z, b, zs⟩) (he : Γ.ti.at e = some j) (hb : boundsC 0 0 lo hi none = some (0, 0, 0)) :
    opSlice Γ s t (.slice none 0 0) lo hi none = some (.slice none 0 0, s) := by
  unfold opSlice
  rw [ht]
  simp only [he, hb]
/-- a piece of a string -/
theorem slice_str {t : TypeId} {z b : Nat} {zs : List Value} {x : ByteArray} {l h m : Nat} {lo hi : Option Value} (ht : Γ.ti.at t = some ⟨.string, z, b, zs⟩) (hb : boundsC x.size x.size lo hi none = some (l, h, m)) : opSlice Γ s t (.string x) lo hi none = some (.string (x.extract l h), s) := by
  unfold opSlice
  rw [ht]
  simp only [hb, cutStr, Option.isNone_none, cond_true]
/-- a piece of an array -/
theorem slice_arr {t arr e : TypeId} {z b z2 b2 N : Nat} {zs zs2 : List Value} {j : TI} {f u off l h m : Nat} {lo hi : Option Value} (ht : Γ.ti.at t = some ⟨.pointer arr, z, b, zs⟩) (ha : Γ.ti.at arr = some ⟨.array N e, z2, b2, zs2⟩) (he : Γ.ti.at e = some j) (hN : N ≤ 1000000000) (hb : boundsC N N lo hi none = some (l, h, m)) (hu : u % 1024 = 0) :
    opSlice Γ s t (.pointer (some (mkA f u off))) lo hi none = some (.slice (some (mkA f u (off + l * j.size))) (h - l) (m - l), s) := by
  unfold opSlice
  rw [ht]
  simp only [ha, cutArr, he, ble_ok hN, sel_true, hb, cutC, ver_mk, plus_mk, beq_ok hu, Bool.true_or, cond_true]
theorem cut_eq {l : List Value} {off k : Nat} (h : off + k ≤ l.length) : cut l off k = some ((l.drop off).take k) := by
  unfold cut
  have : ((l.drop off).take k).length = k := by simp; omega
  simp only [this, Nat.beq_refl, cond_true]
/-- reading the first elements of a slice -/
theorem first_sl {f u off len cap e k : Nat} {cs : List Value} (hr : rowOf (g f).rows u = some cs) (hk : off + k * e ≤ cs.length) (hl : lim ≤ f) :
    CS.firstCells (St n g lim rd wr) e k (.slice (some (mkA f u off)) len cap) = some ((cs.drop off).take (k * e), St n g lim rd wr) := by
  unfold CS.firstCells
  simp only
  cases hz : Nat.beq (k * e) 0 with
  | true => simp [Nat.eq_of_beq_eq_true hz]
  | false =>
    simp only [cond_false, readRow_st, ver_mk, block_mk, hr, off_mk, cut_eq hk, ins_ge rd hl]
theorem first_slq {f u off len cap e k : Nat} {cs : List Value} (hr : rowOf (g f).rows u = some cs) (hk : off + k * e ≤ cs.length) (h0 : k * e ≠ 0) :
    CS.firstCells (St n g lim rd wr) e k (.slice (some (mkA f u off)) len cap) = some ((cs.drop off).take (k * e), St n g lim (ins lim rd f) wr) := by
  unfold CS.firstCells
  simp only [beq_no h0, cond_false, readRow_st, ver_mk, block_mk, hr, off_mk, cut_eq hk]
theorem first_zero {x : Option Addr} {len cap e k : Nat} (h0 : k * e = 0) : CS.firstCells s e k (.slice x len cap) = some ([], s) := by
  unfold CS.firstCells
  simp only [beq_ok h0, cond_true]
theorem first_str {b : ByteArray} {k : Nat} (h : k ≤ b.size) : CS.firstCells s 1 k (.string b) = some (byteVs (b.extract 0 k), s) := by
  unfold CS.firstCells
  simp [ble_ok h]
theorem ext_all (b : ByteArray) : b.extract 0 b.size = b := by
  apply ByteArray.ext
  simp
/-- bytes as values -/
def bvs (l : List UInt8) : List Value := l.map vb
theorem byteVs_eq (b : ByteArray) : byteVs b = bvs b.data.toList := Eq.trans rfl rfl
theorem bvs_len (l : List UInt8) : (bvs l).length = l.length := by simp [bvs]
theorem bvs_app (l m : List UInt8) : bvs (l ++ m) = bvs l ++ bvs m := by simp [bvs]
theorem bvs_take (l : List UInt8) (k : Nat) : (bvs l).take k = bvs (l.take k) := by simp [bvs, List.map_take]
theorem bvs_drop (l : List UInt8) (k : Nat) : (bvs l).drop k = bvs (l.drop k) := by simp [bvs, List.map_drop]
theorem bvs_get {l : List UInt8} {k : Nat} (h : k < l.length) : (bvs l)[k]? = some (vb (l.getD k 0)) := by
  unfold bvs
  rw [List.getElem?_map, List.getD_eq_getElem?_getD, List.getElem?_eq_getElem h]; rfl
theorem bvs_one (l : List UInt8) : (bvs l).all oneC = true := by
  rw [List.all_eq_true]
  intro x hx
  obtain ⟨c, _, rfl⟩ := List.mem_map.1 hx
  rfl
theorem bvs_plain (l : List UInt8) : (bvs l).all (plainV 3) = true := by
  rw [List.all_eq_true]
  intro x hx
  obtain ⟨c, _, rfl⟩ := List.mem_map.1 hx
  rfl
theorem allU8_bvs : ∀ (l : List UInt8), allU8 (bvs l) = some l
  | [] => rfl
  | c :: l => by
    show (match allU8 (bvs l) with | some r => some (UInt8.ofNat (c.toNat : Int).toNat :: r) | none => none) = _
    rw [allU8_bvs l]
    simp
theorem isU8_of {e : TypeId} {z b : Nat} {zs : List Value} (h : Γ.ti.at e = some ⟨.int .u8, z, b, zs⟩) : isU8 Γ e = true := by unfold isU8; rw [h]
/-- bytes to a string -/
theorem conv_str {src dst e : TypeId} {z b z2 b2 z3 b3 : Nat} {zs zs2 zs3 : List Value} {s' : CS} {x : Option Addr} {len cap : Nat} {l : List UInt8} (ht : Γ.ti.at src = some ⟨.slice e, z, b, zs⟩) (hd : Γ.ti.at dst = some ⟨.string, z2, b2, zs2⟩) (he : Γ.ti.at e = some ⟨.int .u8, z3, b3, zs3⟩)
    (hf : CS.firstCells s 1 len (.slice x len cap) = some (bvs l, s')) : opConvert P Γ ρ o s src dst (.slice x len cap) = some (.string ⟨l.toArray⟩, s') := by
  unfold opConvert
  rw [ht, hd]
  simp only [isU8_of he, cond_true, hf, strC, allU8_bvs]
/-- a string to bytes -/
theorem conv_bytes {src dst e : TypeId} {z b z2 b2 z3 b3 : Nat} {zs zs2 zs3 : List Value} {x : ByteArray} (ht : Γ.ti.at src = some ⟨.string, z, b, zs⟩) (hd : Γ.ti.at dst = some ⟨.slice e, z2, b2, zs2⟩) (he : Γ.ti.at e = some ⟨.int .u8, z3, b3, zs3⟩) (hs : x.size ≤ 1000000000) :
    opConvert P Γ ρ o (St n g lim rd wr) src dst (.string x) = some (.slice (some (mkA n (n * 1024 + 2) 0)) x.size x.size, St (n + 1) (fupd g n ⟨false, [(n * 1024 + 2, byteVs x)], none⟩) lim rd wr) := by
  unfold opConvert
  rw [ht, hd]
  simp only [isU8_of he, ble_ok hs, Bool.and_true, cond_true, newRow_st, sliceC]
/-- a slice that a call has made: its row is none that was there before number m -/
def OwnR (m : Nat) (g : Nat → Fam) (n e : Nat) (ao : Option Addr) (len : Nat) (cells : List Value) : Prop :=
  cells.length = len * e ∧ ((ao = none ∧ len = 0) ∨ ∃ f u rest, ao = some (mkA f u 0) ∧ g f = ⟨false, (u, cells) :: rest, none⟩ ∧ m ≤ f ∧ f < n ∧ u / 1024 < n ∧ u % 1024 = e + 1)
theorem OwnR.nil (m : Nat) (g : Nat → Fam) (n e : Nat) : OwnR m g n e none 0 [] := ⟨by simp, .inl ⟨rfl, rfl⟩⟩
theorem OwnR.keep {m n' e len : Nat} {g' : Nat → Fam} {ao : Option Addr} {cells : List Value} (h : OwnR m g n e ao len cells) (hg : ∀ i, m ≤ i → i < n → g' i = g i) (hn : n ≤ n') : OwnR m g' n' e ao len cells := by
  obtain ⟨h1, h⟩ := h
  refine ⟨h1, h.imp id ?_⟩
  rintro ⟨f, u, rest, k1, k2, k3, k4, k5, k6⟩
  exact ⟨f, u, rest, k1, by rw [hg f k3 k4]; exact k2, k3, by omega, by omega, k6⟩
theorem OwnR.low {m m' e len : Nat} {ao : Option Addr} {cells : List Value} (h : OwnR m g n e ao len cells) (hm : m' ≤ m) : OwnR m' g n e ao len cells := by
  obtain ⟨h1, h⟩ := h
  refine ⟨h1, h.imp id ?_⟩
  rintro ⟨f, u, rest, k1, k2, k3, k4, k5, k6⟩
  exact ⟨f, u, rest, k1, k2, by omega, k4, k5, k6⟩
/-- what a call leaves that makes a slice: the state that it leaves, the slice -/
structure Made (n : Nat) (g : Nat → Fam) (e : Nat) (ao : Option Addr) (len : Nat) (cells : List Value) (n' : Nat) (g' : Nat → Fam) : Prop where
  own : OwnR n g' n' e ao len cells
  le : n ≤ n'
  old : ∀ i, i < n → g' i = g i
theorem OwnR.first {m e len k : Nat} {ao : Option Addr} {cells : List Value} (h : OwnR m g n e ao len cells) (hl : lim ≤ m) (hk : k ≤ len) : CS.firstCells (St n g lim rd wr) e k (.slice ao len len) = some (cells.take (k * e), St n g lim rd wr) := by
  obtain ⟨h1, h⟩ := h
  rcases h with ⟨rfl, rfl⟩ | ⟨f, u, rest, rfl, k2, k3, k4, k5, k6⟩
  · have : k = 0 := by omega
    subst this
    rw [first_zero (by simp)]
    simp
  · have hkl : k * e ≤ len * e := Nat.mul_le_mul_right e hk
    rw [first_sl (cs := cells) (by rw [k2]; simp [rowOf, Nat.beq_refl]) (by omega) (by omega)]
    simp
/-- appending to a slice that the call has made -/
theorem OwnR.append {m e len k bytes : Nat} {ao : Option Addr} {cells xs : List Value} {y : Value} {rd' : List Nat} (h : OwnR m g n e ao len cells) (hm : m ≤ n) (hl : lim ≤ m) (hlen : lenC y = some k) (hy : CS.firstCells (St n g lim rd wr) e k y = some (xs, St n g lim rd' wr)) (hx : xs.length = k * e) (ho : xs.all oneC = true) (he : 0 < e ∧ e < 1000)
    (hb : (len + k) * (bytes + 1) ≤ 1000000000) :
    ∃ ao' n' g', CS.append (St n g lim rd wr) e bytes ao len len y = some (.slice ao' (len + k) (len + k), St n' g' lim rd' wr) ∧ OwnR m g' n' e ao' (len + k) (cells ++ xs) ∧ n ≤ n' ∧ n' ≤ n + 1 ∧ ∀ i, i < m → g' i = g i := by
  have c1 : (Nat.blt 1000000000 ((len + k) * (bytes + 1)) || Nat.beq e 0 || Nat.ble 1000 e || not (xs.all oneC)) = false := by
    rw [blt_no hb, beq_no (by omega), ble_no (by omega), ho]; rfl
  obtain ⟨h1, h⟩ := h
  rcases h with ⟨rfl, rfl⟩ | ⟨f, u, rest, rfl, k2, k3, k4, k5, k6⟩
  · have hc : cells = [] := by simpa using h1
    subst hc
    cases hk : Nat.beq k 0 with
    | true =>
      have := Nat.eq_of_beq_eq_true hk
      subst this
      have hx0 : xs = [] := by simpa using hx
      subst hx0
      refine ⟨none, n, g, ?_, OwnR.nil _ _ _ _, Nat.le_refl _, by omega, fun _ _ => rfl⟩
      unfold CS.append
      rw [hlen]; simp only [hy, c1, cond_false, hk, cond_true]
    | false =>
      refine ⟨some (mkA n (n * 1024 + (e + 1)) 0), n + 1, fupd g n ⟨false, [(n * 1024 + (e + 1), xs)], none⟩, ?_, ⟨by simpa using hx, .inr ⟨n, _, [], rfl, ?_, hm, by omega, by omega, by omega⟩⟩, by omega, by omega, fun i hi => fupd_ne _ _ _ _ (by omega)⟩
      · unfold CS.append
        rw [hlen]; simp only [hy, c1, cond_false, hk, newRow_st, sliceC]
      · rw [fupd_same]; simp
  · cases hk : Nat.beq k 0 with
    | true =>
      have := Nat.eq_of_beq_eq_true hk
      subst this
      have hx0 : xs = [] := by simpa using hx
      subst hx0
      refine ⟨_, n, g, ?_, ⟨by simpa using h1, .inr ⟨f, u, rest, rfl, by simpa using k2, k3, k4, k5, k6⟩⟩, Nat.le_refl _, by omega, fun _ _ => rfl⟩
      unfold CS.append
      rw [hlen]; simp only [hy, c1, cond_false]
      rw [ble_ok (by omega)]; simp only [cond_true, hk]
      rfl
    | false =>
      have hk0 : k ≠ 0 := fun h => by rw [h] at hk; simp at hk
      have hfl : lim ≤ f := by omega
      have hold : (bif Nat.beq len 0 then some ([], St n g lim rd' wr) else CS.firstCells (St n g lim rd' wr) e len (.slice (some (mkA f u 0)) len len)) = some (cells, St n g lim rd' wr) := by
        cases hz : Nat.beq len 0 with
        | true =>
          have := Nat.eq_of_beq_eq_true hz
          subst this
          have : cells = [] := by simpa using h1
          rw [this]; rfl
        | false =>
          rw [cond_false, first_sl (cs := cells) (by rw [k2]; simp [rowOf, Nat.beq_refl]) (by omega) hfl]
          rw [List.drop_zero, List.take_of_length_le (by omega)]
      refine ⟨some (mkA f (n * 1024 + (e + 1)) 0), n + 1, fupd g f ⟨false, (n * 1024 + (e + 1), cells ++ xs) :: (u, cells) :: rest, none⟩, ?_, ⟨by rw [List.length_append, h1, hx, Nat.add_mul], .inr ⟨f, _, (u, cells) :: rest, rfl, ?_, k3, by omega, by omega, by omega⟩⟩, by omega, by omega, fun i hi => fupd_ne _ _ _ _ (by omega)⟩
      · unfold CS.append
        rw [hlen]
        simp only [hy, c1, cond_false]
        rw [ble_no (by omega)]
        simp only [cond_false, hold, ver_mk]
        rw [beq_no (by omega), beq_ok k6]
        simp only [cond_false, cond_true]
        unfold CS.grow
        show (match (g f).ro, rowOf (g f).rows u with | false, some cs => _ | _, _ => none) = _
        rw [k2]
        simp only
        have hrow : rowOf ((u, cells) :: rest) u = some cells := by simp [rowOf, Nat.beq_refl]
        rw [hrow]
        simp only
        rw [beq_ok (show (mkA f u 0).off + len * e = cells.length by rw [off_mk]; omega), sel_true, block_mk, objPut_inr]
        have hd : dropTo (objAt (.inr g) f).rows u = (u, cells) :: rest := by
          rw [objAt_inr, k2]; simp [dropTo, Nat.beq_refl]
        rw [ver_mk, hd, ins_ge wr hfl]
      · rw [fupd_same]
/-- a slice of one element, written out -/
theorem build_one {t e : TypeId} {z b : Nat} {zs : List Value} {j : TI} {x : Operand} {v0 : Value} (ht : Γ.ti.at t = some ⟨.slice e, z, b, zs⟩) (he : Γ.ti.at e = some j) (hj : j.size = 1) (hz : j.zero = [v0]) (hv : (ρ x).cells = #[ρ x]) :
    opBuildSlice Γ (St n g lim rd wr) ρ t 1 [(0, x)] = some (.slice (some (mkA n (n * 1024 + 0) 0)) 1 1, St (n + 1) (fupd g n ⟨false, [(n * 1024 + 0, [ρ x])], none⟩) lim rd wr) := by
  unfold opBuildSlice elemOf?
  rw [ht]
  simp only [he, hj, hz, partsOf, placeA, hv, Nat.zero_mul]
  simp [buildC, fillC, splice, newRow_st, sliceC, ble_ok, blt_ok]
theorem cop_buildSlice {call : CallC} {d : Option Tmp} {ty t : TypeId} {k : Nat} {pos : String} {e : Array Edge} {q : Option (Nat × Bool)} {parts : Array (Nat × Operand)} : cop P Γ call ρ ⟨d, .buildSlice t k parts, ty, pos, e, q⟩ s = opBuildSlice Γ s ρ t k parts.toList := Eq.trans rfl rfl
/-- a call, by the rules: whatever it gives -/
theorem callR_ex {f : FuncId} {fn : Func} {body : Code} {args : List Value} {R : Value → CS → Prop} (n : Nat) (hax : Γ.ax f = none) (hf : Γ.fn.at f = some fn) (hb : fn.body = some body) (hn : fn.ntmps = n) (hl : args.length ≤ n)
    (h : W P Γ body (Fr.ofArgs args 0 (Fr.of n fun _ => undef)) s fun e fr' s1 => (e = .normal ∨ e = .ret) ∧ ∃ vs s2, resC Γ fr' s1 fn.results.toList = some (vs, s2) ∧ R (tupC vs) s2) : ∃ v s2, callR P Γ f args s = some (v, s2) ∧ R v s2 := by
  obtain ⟨e, fr', s1, h1, he, vs, s2, hr, hR⟩ := h
  exact ⟨_, s2, callR_go n hax hf hb hn hl ⟨e, fr', s1, h1, he, vs, hr, rfl⟩, hR⟩
theorem op_append {x y : Operand} {t tx : TypeId} (hs : srcT Γ tx = true) : opBuiltin P Γ ρ o s .append [x, y] [t, tx] = opAppend Γ s t (ρ y) (ρ x) := by
  show sel (srcT Γ tx) _ none = _
  rw [hs]; rfl
theorem app_sl {t : TypeId} {y : Value} {base : Option Addr} {len cap : Nat} {j : TI} (he : elemOf? Γ t = some j) : opAppend Γ s t y (.slice base len cap) = s.append j.size j.bytes base len cap y := by
  unfold opAppend
  simp only [he]
end
end Go.Proofs.YtcmfoipnoejmlaaDoor
