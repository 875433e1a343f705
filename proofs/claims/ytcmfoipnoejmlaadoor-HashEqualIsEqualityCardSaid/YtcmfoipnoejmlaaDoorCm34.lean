/- The plain machine by hand: regions that draw their order and whose last operation, behind all others, writes. No program in sight. -/
import Derived.Test.YtcmfoipnoejmlaaDoorCm33
namespace Go.Proofs.YtcmfoipnoejmlaaDoor
open Go Go.RowKit
section
variable {P : Program} {Γ : Env} {call : CallC} {ops l : List Oper} {o o' : Oper} {fr fr' : Fr} {s t : CS}
noncomputable def thenL (n0 : Nat) (s : CS) (r : Option (Fr × CS)) (k : Fr → CS → Option (Fr × CS)) : Option (Fr × CS) := match r with
  | some (fr, t) => bif (t.wr.isEmpty && t.rd.all fun f => Nat.blt f n0) && Nat.ble n0 s.n then k fr (s.outer t) else none
  | none => none
noncomputable def lastL (s : CS) (r : Option (Fr × CS)) : Option (Fr × CS) := match r with
  | some (fr, t) => some (fr, s.outer t)
  | none => none
noncomputable def quietL (P : Program) (Γ : Env) (call : CallC) (ops : List Oper) (n0 : Nat) : List Oper → Fr → CS → Option (Fr × CS)
  | [], _, _ => none
  | [o], fr, s => lastL s (stepC P Γ call ops o fr s.inner)
  | o :: o' :: l, fr, s => thenL n0 s (stepC P Γ call ops o fr s.inner) (quietL P Γ call ops n0 (o' :: l))
theorem quietL_one {n0 : Nat} : quietL P Γ call ops n0 [o] fr s = lastL s (stepC P Γ call ops o fr s.inner) := Eq.trans rfl rfl
theorem quietL_cons {n0 : Nat} : quietL P Γ call ops n0 (o :: o' :: l) fr s = thenL n0 s (stepC P Γ call ops o fr s.inner) (quietL P Γ call ops n0 (o' :: l)) := Eq.trans rfl rfl
def QLog (n0 : Nat) (x : Lg) : Prop := x.wr = [] ∧ (∀ f, f ∈ x.rd → f < n0) ∧ n0 ≤ x.lo
theorem draw_last {n0 : Nat} : ∀ {l : List Oper} {fr fr' : Fr} {s s' : CS}, quietL P Γ call ops n0 l fr s = some (fr', s') → ∃ logs y, drawC P Γ call ops l fr s = some (logs ++ [y], fr', s') ∧ logs.length + 1 = l.length ∧ ∀ x, x ∈ logs → QLog n0 x
  | [], fr, fr', s, s', h => by simp [quietL] at h
  | [o], fr, fr', s, s', h => by
    rw [quietL_one] at h
    unfold lastL at h
    split at h
    · rename_i fr1 t h1
      simp only [Option.some.injEq, Prod.mk.injEq] at h
      obtain ⟨rfl, rfl⟩ := h
      refine ⟨[], ⟨t.rd, t.wr, s.n, t.n⟩, ?_, rfl, fun x hx => by simp at hx⟩
      rw [drawC_cons, h1]
      rfl
    · simp at h
  | o :: o' :: l, fr, fr', s, s', h => by
    rw [quietL_cons] at h
    unfold thenL at h
    split at h
    · rename_i fr1 t h1
      cases hq : (t.wr.isEmpty && t.rd.all fun f => Nat.blt f n0) && Nat.ble n0 s.n with
      | false => rw [hq] at h; simp at h
      | true =>
        rw [hq] at h
        simp only [cond_true] at h
        obtain ⟨logs, y, h2, h3, h4⟩ := draw_last h
        refine ⟨⟨t.rd, t.wr, s.n, t.n⟩ :: logs, y, ?_, ?_, ?_⟩
        · rw [drawC_cons, h1]
          unfold thenD
          simp only
          rw [h2]
          rfl
        · simp only [List.length_cons] at h3 ⊢; omega
        · intro x hx
          rcases List.mem_cons.1 hx with rfl | hx
          · simp only [Bool.and_eq_true, List.isEmpty_iff, List.all_eq_true] at hq
            exact ⟨hq.1.1, fun f hf => blt_iff.1 (hq.1.2 f hf), ble_iff.1 hq.2⟩
          · exact h4 x hx
    · simp at h
theorem clash_quiet {n0 : Nat} {x y : Lg} (hx : QLog n0 x) (hy : QLog n0 y) : clash x y = false := by
  obtain ⟨rx, wx, lx, hx'⟩ := x
  obtain ⟨ry, wy, ly, hy'⟩ := y
  obtain ⟨rfl, x2, x3⟩ := hx
  obtain ⟨rfl, y2, y3⟩ := hy
  refine clash_gen (fun f hf => by simp at hf) (fun f _ => by simp) (fun f hf => .inl ?_) (fun f hf => by simp at hf)
  have := y2 f hf
  exact Nat.lt_of_lt_of_le this x3
theorem calmOne_quiet {n0 m : Nat} {y : Lg} (hy : QLog n0 y) : ∀ {done : List Lg} {i : Nat}, (∀ x, x ∈ done → QLog n0 x) → calmOne clash m y done i = true
  | [], _, _ => rfl
  | x :: l, i, h => by
    rw [calmOne_ok (clash_quiet (h x (by simp)) hy)]
    exact calmOne_quiet hy fun z hz => h z (by simp [hz])
theorem calmOne_full {k : Nat} {y : Lg} : ∀ {done : List Lg} {i : Nat}, done.length + i ≤ k → calmOne clash (2 ^ k - 1) y done i = true
  | [], _, _ => rfl
  | x :: l, i, h => by
    rw [List.length_cons] at h
    rw [calmOne_set (by rw [Nat.testBit_two_pow_sub_one]; exact decide_eq_true (by omega))]
    exact calmOne_full (by omega)
theorem calmAll_last {n0 : Nat} {y : Lg} {ms : List Nat} : ∀ {logs done : List Lg}, (∀ x, x ∈ done → QLog n0 x) → (∀ x, x ∈ logs → QLog n0 x) → nth 0 ms (done.length + logs.length) = 2 ^ (done.length + logs.length) - 1 → calmAll clash done (logs ++ [y]) ms = true
  | [], done, hd, _, hm => by
    rw [List.nil_append, calmAll_cons]
    simp only [List.length_nil, Nat.add_zero] at hm
    rw [hm, calmOne_full (by omega), calmAll_nil]; rfl
  | x :: l, done, hd, hl, hm => by
    rw [List.cons_append, calmAll_cons, calmOne_quiet (hl x (by simp)) hd]
    simp only [Bool.true_and]
    refine calmAll_last (n0 := n0) ?_ (fun z hz => hl z (by simp [hz])) ?_
    · intro z hz
      rcases List.mem_append.1 hz with hz | hz
      · exact hd z hz
      · simp at hz; subst hz; exact hl _ (by simp)
    · rw [List.length_append, List.length_singleton]
      rw [List.length_cons] at hm
      rw [show done.length + 1 + l.length = done.length + (l.length + 1) by omega]
      exact hm
/-- the last operation comes behind all others, in every order -/
noncomputable def fullLast (ops : List Oper) : Bool := Nat.beq (nth 0 (masks ops []) (ops.length - 1)) (2 ^ (ops.length - 1) - 1)
theorem W.last {id : Nat} {ops : Array Oper} {Q : Exit → Fr → CS → Prop} (hf : fullLast ops.toList = true) (h : quietL P Γ (callR P Γ) ops.toList s.n ops.toList fr s = some (fr', t)) (hq : Q .normal fr' t) : W P Γ (.region id ops true) fr s Q := by
  obtain ⟨logs, y, h1, h2, h3⟩ := draw_last h
  refine W.draw_ex rfl h1 (calmAll_last (n0 := s.n) (fun x hx => by simp at hx) h3 ?_) hq
  have hk : ops.toList.length - 1 = logs.length := by omega
  have := Nat.eq_of_beq_eq_true hf
  rw [hk] at this
  simpa using this
variable {n lim n' f : Nat} {rd wr rd' wr' : List Nat} {ob ob' : Sto} {k : Fr → CS → Option (Fr × CS)}
theorem thenL_same {n0 : Nat} (h : n0 ≤ n) : thenL n0 ⟨n, ob, lim, rd, wr⟩ (some (fr, ⟨n', ob', n, [], []⟩)) k = k fr ⟨n', ob', lim, rd, wr⟩ := by
  show (bif true && Nat.ble n0 n then _ else _) = _
  rw [ble_ok h]; rfl
theorem thenL_rd {n0 : Nat} (hf : f < n0) (h : n0 ≤ n) : thenL n0 ⟨n, ob, lim, rd, wr⟩ (some (fr, ⟨n', ob', n, [f], []⟩)) k = k fr ⟨n', ob', lim, ins lim rd f, wr⟩ := by
  show (bif (true && [f].all fun f => Nat.blt f n0) && Nat.ble n0 n then _ else _) = _
  rw [ble_ok h, List.all_cons, blt_ok hf]; rfl
theorem lastL_some : lastL ⟨n, ob, lim, rd, wr⟩ (some (fr, ⟨n', ob', n, rd', wr'⟩)) = some (fr, ⟨n', ob', lim, insAll lim rd rd', insAll lim wr wr'⟩) := Eq.trans rfl rfl
variable {g : Nat → Fam}
/-- one cell is read, in a region that draws -/
theorem ld_q {ty : TypeId} {d : TypeDesc} {z b f u off : Nat} {zs cs : List Value} {v : Value} (h : Γ.ti.at ty = some ⟨d, z, b, zs⟩) (hd : aggT d = false) (hr : rowOf (g f).rows u = some cs) (hv : cs[off]? = some v) (hf : f < n) : opLoad Γ (St n g n [] []) ty (.pointer (some (mkA f u off))) = some (v, St n g n [f] []) := by
  rw [ld_one h hd hr hv, ins_lt hf]
theorem st_q {ty : TypeId} {d : TypeDesc} {b f u off : Nat} {zs cs : List Value} {v : Value} {es : Option (List (Value × Value))} (h : Γ.ti.at ty = some ⟨d, 1, b, zs⟩) (hg : g f = ⟨false, [(u, cs)], es⟩) (ho : off < cs.length) (hv : oneC v = true) (hf : f < n) : opStore Γ (St n g n [] []) ty [v] (.pointer (some (mkA f u off))) = some (undef, St n (fupd g f ⟨false, [(u, cs.set off v)], none⟩) n [] [f]) := by
  rw [st_one h hg ho hv, ins_lt hf]
/-- a piece of an array behind a pointer -/
theorem slice_arr1 {ty e : TypeId} {z2 b2 N : Nat} {zs2 : List Value} {j : TI} {f u off l h m : Nat} {lo hi : Option Value} (ha : Γ.ti.at ty = some ⟨.array N e, z2, b2, zs2⟩) (he : Γ.ti.at e = some j) (hN : N ≤ 1000000000) (hb : boundsC N N lo hi none = some (l, h, m)) (hu : u % 1024 = 0) :
    opSlice Γ s ty (.pointer (some (mkA f u off))) lo hi none = some (.slice (some (mkA f u (off + l * j.size))) (h - l) (m - l), s) := by
  unfold opSlice
  rw [ha]
  simp only [cutArr, he, ble_ok hN, sel_true, hb, cutC, ver_mk, plus_mk, beq_ok hu, Bool.true_or, cond_true]
theorem s2a_eq {ty e : TypeId} {z2 b2 N len cap : Nat} {zs2 : List Value} {a : Option Addr} (ha : Γ.ti.at ty = some ⟨.array N e, z2, b2, zs2⟩) (h0 : 0 < N) (hN : N ≤ len) : opS2A Γ s ty (.slice a len cap) = some (.pointer a, s) := by
  unfold opS2A
  rw [ha]
  simp only [ble_ok hN, blt_ok h0, Bool.and_true, cond_true]
theorem build_arr4 {ρ : Operand → Value} {ty e : TypeId} {b2 b3 : Nat} {z0 z1 z2 z3 : Value} {z4 : List Value} {d : TypeDesc} {x0 x1 x2 x3 : Operand} (ha : Γ.ti.at ty = some ⟨.array 4 e, 4, b2, [z0, z1, z2, z3]⟩) (he : Γ.ti.at e = some ⟨d, 1, b3, z4⟩) (h0 : (ρ x0).cells = #[ρ x0]) (h1 : (ρ x1).cells = #[ρ x1]) (h2 : (ρ x2).cells = #[ρ x2]) (h3 : (ρ x3).cells = #[ρ x3]) :
    opBuild Γ s ρ ty [(0, x0), (1, x1), (2, x2), (3, x3)] = some (.agg #[ρ x0, ρ x1, ρ x2, ρ x3], s) := by
  unfold opBuild
  rw [ha]
  simp only [he, partsOf, placeA, h0, h1, h2, h3]
  rfl
/-- an array or a struct is read, in a region that draws -/
theorem ld_partq {ty : TypeId} {d : TypeDesc} {z b f u off : Nat} {zs cs : List Value} (h : Γ.ti.at ty = some ⟨d, z, b, zs⟩) (hd : aggT d = true) (hr : rowOf (g f).rows u = some cs) (hv : off + z ≤ cs.length) (hf : f < n) : opLoad Γ (St n g n [] []) ty (.pointer (some (mkA f u off))) = some (.agg ((cs.drop off).take z).toArray, St n g n [f] []) := by
  rw [ld_part h hd hr hv, ins_lt hf]
theorem st_allq {ty : TypeId} {d : TypeDesc} {z b f u : Nat} {zs cs vs : List Value} {es : Option (List (Value × Value))} (h : Γ.ti.at ty = some ⟨d, z, b, zs⟩) (hg : g f = ⟨false, [(u, cs)], es⟩) (hz : vs.length = z) (ho : cs.length = z) (hv : vs.all oneC = true) (hf : f < n) : opStore Γ (St n g n [] []) ty vs (.pointer (some (mkA f u 0))) = some (undef, St n (fupd g f ⟨false, [(u, vs)], none⟩) n [] [f]) := by
  rw [st_all h hg hz ho hv, ins_lt hf]
theorem wvs_drop (l : List UInt32) (k : Nat) : (wvs l).drop k = wvs (l.drop k) := by simp [wvs, List.map_drop]
theorem wvs_take (l : List UInt32) (k : Nat) : (wvs l).take k = wvs (l.take k) := by simp [wvs, List.map_take]
end
end Go.Proofs.YtcmfoipnoejmlaaDoor
