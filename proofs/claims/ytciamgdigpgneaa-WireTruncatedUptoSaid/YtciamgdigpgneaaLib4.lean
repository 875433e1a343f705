/- General facts for walks, fourth part: append to a slice without spare room ('append(b[:len(b):len(b)], x...)'). -/
import Derived.Test.YtciamgdigpgneaaLib3
import Derived.Deep.AppendSrc
namespace Go.Proofs.Ytciamgdigpgneaa
open Go.RowKit

theorem src_of_sl {P : Program} {w : World} {tx e' : TypeId} (hk : P.underlying tx = some (.slice e')) {ao : Option Addr} {n cap : Nat} {cs : List Value} (h : Sl w ao n cap cs) (h1 : ∀ u ∈ cs, u.oneCell' = true) : Src P 1 tx (.slice ao n cap) n cs w := by
  by_cases h0 : n = 0
  · subst h0
    have : cs = [] := List.eq_nil_of_length_eq_zero h.len
    subst this
    cases ao with
    | none => exact Src.ofNil w hk cap
    | some a => exact Src.ofSlice w hk a 0 cap [] rfl (by simp) h1
  · obtain ⟨b, off, rfl, hc⟩ := h.at (j := 0) (by omega)
    refine Src.ofSlice w hk ⟨b, off, none⟩ n cap cs (by rw [h.len, Nat.mul_one]) (fun j u hj => ?_) h1
    have hlt := (List.getElem?_eq_some_iff.1 hj).1
    rw [Addr.add_lit, hc j (by rw [← h.len]; exact hlt)]
    simp [List.getD, hj]
theorem run_append_full {P : Program} {w : World} (t tx ty e : TypeId) (i : TypeInfo) (z : Value) (bytes : Nat) (ht : P.underlying t = some (.slice e)) (hi : P.info? e = some i) (hz : i.zero = some z) (hsize : i.size = 1) (hby : i.bytes = bytes)
    {b off n : Nat} {xs : List Value} (hd : Sl w (some ⟨b, off, none⟩) n n xs) (x : Value) (m : Nat) (ys : List Value) (hs : Src P 1 tx x m ys w) (hnm : n + m ≤ 1000000000) (hbytes : bytes ≤ 4096) :
    ∃ ao' cap' w', (Builtin.append_ #[t, tx] ty #[.slice (some ⟨b, off, none⟩) n n, x]).run P w = .ok (.slice ao' (n + m) cap') w' ∧ Sl w' ao' (n + m) cap' (xs ++ ys) ∧ Below w.heap.size w w' := by
  have hyl : ys.length = m := by rw [hs.newsLen, Nat.mul_one]
  by_cases hm : m = 0
  · subst hm
    have hy : ys = [] := List.eq_nil_of_length_eq_zero hyl
    subst hy
    have hr := run_append_room_src (P := P) w t tx ty e i ht hi b off n n x 0 [] (by rw [hsize]; exact hs) (by omega) (by intro j hj; simp at hj) (by intro j hj; simp at hj)
    refine ⟨some ⟨b, off, none⟩, n, w, ?_, by simpa using hd, Below.refl _ _⟩
    rw [hr]
    simp [World.setCells]
  · have hold : (Builtin.firstCells i.size n (.slice (some ⟨b, off, none⟩) n n)).run P w.drew = .ok xs.toArray w.drew := by
      rw [hsize]
      refine run_firstCells_some w.drew 1 n ⟨b, off, none⟩ n n xs (by rw [hd.len, Nat.mul_one]) (fun j u hj => ?_)
      have hlt := (List.getElem?_eq_some_iff.1 hj).1
      have hjn : j < n := by rw [← hd.len]; exact hlt
      obtain ⟨b', off', he, hc⟩ := hd.at hjn
      cases he
      rw [Addr.add_lit]
      have := hc j hjn
      simp [List.getD, hj] at this
      simpa using this
    have hfit : Builtin.nextslicecap (n + m) n * i.bytes ≤ 281474976710656 := by
      have := growslice_fits (need := n + m) (old := n) (bytes := i.bytes) (by omega) (by rw [hby]; have := Nat.mul_le_mul hnm hbytes; omega)
      exact this
    have hr := run_append_grow_src (P := P) w t tx ty e i z ht hi hz (some ⟨b, off, none⟩) n n xs hold x m ys (by rw [hsize]; exact hs) (by omega) (by omega) hfit
    refine ⟨some ⟨w.heap.size, 0, none⟩, _, _, hr, ?_, ((Below.refl _ _).drew.alloc (Nat.le_refl _) _)⟩
    have hgc := grownCap_ge w (n + m) n e
    have hgm := grownCap_le_maxLen w (n + m) n e (by unfold maxLen; omega)
    refine ⟨by rw [List.length_append, hd.len, hyl], hgc, hgm, by simp, .inr ⟨_, _, rfl, fun j hj => ?_⟩⟩
    have hb := heap_alloc_new w.drew (.cells ((xs ++ ys).toArray ++ Builtin.zeroCells z.cells (grownCap w (n + m) n e - (n + m))) e)
    have hsz : w.drew.heap.size = w.heap.size := rfl
    rw [hsz] at hb
    rw [Nat.zero_add, cell_of_row _ w.heap.size j _ e (0, 0) hb, Array.getElem?_append_left (by rw [List.size_toArray, List.length_append, hd.len, hyl]; exact hj)]
    have hj2 : j < (xs ++ ys).length := by rw [List.length_append, hd.len, hyl]; exact hj
    rw [List.getElem?_toArray, List.getElem?_eq_getElem hj2]
    simp [List.getD, List.getElem?_eq_getElem hj2]
theorem wpList_append_full {P : Program} {w : World} {ops : Array Oper} {rest : List Oper} {o : Oper} {a : Act} {Q : Exit → Act → World → Prop} (hgd : o.guard = none) (s x : Operand) (t tx : TypeId)
    (ho : o.op = .call { callee := .builtin .append, args := #[s, x], argTypes := #[t, tx] }) (e : TypeId) (i : TypeInfo) (z : Value) (bytes : Nat) (ht : P.underlying t = some (.slice e)) (hi : P.info? e = some i) (hz : i.zero = some z) (hsize : i.size = 1) (hby : i.bytes = bytes)
    (b off n : Nat) (xs : List Value) (hs : a.eval s = .slice (some ⟨b, off, none⟩) n n) (hd : Sl w (some ⟨b, off, none⟩) n n xs) (xv : Value) (m : Nat) (ys : List Value) (hx : a.eval x = xv) (hsrc : Src P 1 tx xv m ys w) (hnm : n + m ≤ 1000000000) (hbytes : bytes ≤ 4096)
    (hK : ∀ ao' cap' w', Sl w' ao' (n + m) cap' (xs ++ ys) → Below w.heap.size w w' → wpList P ops Q rest (a.put o.dst (.slice ao' (n + m) cap')) w') : wpList P ops Q (o :: rest) a w := by
  refine wpList_plain hgd fun K hKK => ?_
  obtain ⟨ao', cap', w', hr, h1, h2⟩ := run_append_full (P := P) t tx o.type e i z bytes ht hi hz hsize hby hd xv m ys hsrc hnm hbytes
  unfold Oper.wp
  simp [execOp, ho, resolve, invoke, builtin, hs, hx, hr, Result.andThen]
  exact hKK _ _ (hK ao' cap' w' h1 h2)
/-- 'b[:n:n]' -/
theorem wpList_slice3 {P : Program} {w : World} {ops : Array Oper} {rest : List Oper} {o : Oper} {a : Act} {Q : Exit → Act → World → Prop} (hgd : o.guard = none)
    (t : TypeId) (x h m : Operand) (ho : o.op = .slice t x none (some h) (some m)) (e : TypeId) (i : TypeInfo) (ht : P.underlying t = some (.slice e)) (hi : P.info? e = some i)
    {ao : Option Addr} {n cap : Nat} {cs : List Value} (hx : a.eval x = .slice ao n cap) (hs : Sl w ao n cap cs) (kh km : IntKind) (hh : a.eval h = .int kh (n : Int)) (hm : a.eval m = .int km (n : Int))
    (hK : Sl w ao n n cs → wpList P ops Q rest (a.put o.dst (.slice ao n n)) w) : wpList P ops Q (o :: rest) a w := by
  have hf := hs.fits
  have hs' : Sl w ao n n cs := ⟨hs.len, Nat.le_refl _, Nat.le_trans hf hs.small, fun h => by have := hs.nil h; omega, hs.cells⟩
  refine wpList_plain hgd fun K hKK => ?_
  have hr : (Instr.sliceAt t (.slice ao n cap) none (some (.int kh (n : Int))) (some (.int km (n : Int)))).run P w = .ok (.slice ao n n) w := by
    have hadd : ∀ a : Addr, a.add 0 = a := fun a => by simp [Addr.add]
    simp only [Instr.sliceAt, Sem.run_bind, run_underlying ht, Result.andThen_ok]
    cases ao <;> simp [Instr.slice, run_underlying ht, Instr.sliceBounds, Instr.sliceBound, asIntOf, sizeOf, typeInfo, hi, hf, hadd]
  unfold Oper.wp execOp
  simp only [ho, Sem.run_bind, hx, hh, hm, Option.map_none, Option.map_some, hr, Result.andThen_ok, Sem.run_pure]
  exact hKK _ _ (hK hs')
end Go.Proofs.Ytciamgdigpgneaa
