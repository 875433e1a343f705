/- The plain machine by hand, sixth part: regions that draw their order but write nothing that was there; memory as a function. No program in sight. -/
import Derived.Test.YtcmfoipnoejmlaaDoorCm27
namespace Go.Proofs.YtcmfoipnoejmlaaDoor
open Go Go.RowKit
section
variable {P : Program} {Γ : Env} {call : CallC} {ops l : List Oper} {o : Oper} {fr : Fr} {s : CS}
/-- a step of a region that draws, quiet: it writes nothing that was there, and reads only what was there when the region began -/
noncomputable def thenQ {α : Type} (n0 : Nat) (s : CS) (r : Option (Fr × CS)) (k : Fr → CS → Option α) : Option α := match r with
  | some (fr, t) => bif t.wr.isEmpty && t.rd.all fun f => Nat.blt f n0 then k fr (s.outer t) else none
  | none => none
noncomputable def quietC (P : Program) (Γ : Env) (call : CallC) (ops : List Oper) (n0 : Nat) : List Oper → Fr → CS → Option (Fr × CS)
  | [], fr, s => some (fr, s)
  | o :: l, fr, s => thenQ n0 s (stepC P Γ call ops o fr s.inner) (quietC P Γ call ops n0 l)
theorem quietC_nil {n0 : Nat} : quietC P Γ call ops n0 [] fr s = some (fr, s) := Eq.trans rfl rfl
theorem quietC_cons {n0 : Nat} : quietC P Γ call ops n0 (o :: l) fr s = thenQ n0 s (stepC P Γ call ops o fr s.inner) (quietC P Γ call ops n0 l) := Eq.trans rfl rfl
theorem draw_quiet {n0 : Nat} : ∀ {l : List Oper} {fr fr' : Fr} {s s' : CS}, quietC P Γ call ops n0 l fr s = some (fr', s') → ∃ logs, drawC P Γ call ops l fr s = some (logs, fr', s') ∧ logs.all (fun x => x.wr.isEmpty && x.rd.all fun f => Nat.blt f n0) = true
  | [], fr, fr', s, s', h => by
    simp only [quietC, Option.some.injEq, Prod.mk.injEq] at h
    obtain ⟨rfl, rfl⟩ := h
    exact ⟨[], rfl, rfl⟩
  | o :: l, fr, fr', s, s', h => by
    simp only [quietC, thenQ] at h
    split at h
    · rename_i fr1 t h1
      cases hq : t.wr.isEmpty && t.rd.all fun f => Nat.blt f n0 with
      | false => rw [hq] at h; simp at h
      | true =>
        rw [hq] at h
        simp only [cond_true] at h
        obtain ⟨logs, h2, h3⟩ := draw_quiet h
        refine ⟨⟨t.rd, t.wr, s.n, t.n⟩ :: logs, ?_, ?_⟩
        · simp only [drawC, h1, h2]
        · rw [List.all_cons, h3, Bool.and_true]
          exact hq
    · simp at h
theorem W.quiet {id : Nat} {ops : Array Oper} {fr fr' : Fr} {s s' : CS} {Q : Exit → Fr → CS → Prop} (h : quietC P Γ (callR P Γ) ops.toList s.n ops.toList fr s = some (fr', s')) (hq : Q .normal fr' s') : W P Γ (.region id ops true) fr s Q := by
  obtain ⟨logs, h1, h2⟩ := draw_quiet h
  refine W.draw h1 ?_ hq
  unfold calm
  rw [h2]
  rfl
end
/-- a store that is given by a function, with one family turned -/
def fupd (g : Nat → Fam) (i : Nat) (x : Fam) : Nat → Fam := fun j => if j = i then x else g j
theorem fupd_same (g : Nat → Fam) (i : Nat) (x : Fam) : fupd g i x i = x := if_pos rfl
theorem fupd_ne (g : Nat → Fam) (i j : Nat) (x : Fam) (h : j ≠ i) : fupd g i x j = g j := if_neg h
theorem fupd_fupd (g : Nat → Fam) (i : Nat) (x y : Fam) : fupd (fupd g i x) i y = fupd g i y := by
  funext j
  unfold fupd
  split <;> rfl
theorem fupd_comm (g : Nat → Fam) (i j : Nat) (x y : Fam) (h : i ≠ j) : fupd (fupd g i x) j y = fupd (fupd g j y) i x := by
  funext k
  unfold fupd
  by_cases h1 : k = i
  · subst h1; rw [if_neg h, if_pos rfl, if_pos rfl]
  · rw [if_neg h1, if_neg h1]
/-- the state of a proof -/
abbrev St (n : Nat) (g : Nat → Fam) (lim : Nat) (rd wr : List Nat) : CS := ⟨n, .inr g, lim, rd, wr⟩
theorem objAt_inr (g : Nat → Fam) (i : Nat) : objAt (.inr g) i = g i := Eq.trans rfl rfl
theorem objPut_inr (g : Nat → Fam) (i : Nat) (x : Fam) : objPut (.inr g) i x = .inr (fupd g i x) := by
  show Sum.inr _ = Sum.inr _
  congr 1
  funext j
  rw [sel_eq]
  unfold fupd
  by_cases h : j = i
  · rw [if_pos h, if_pos (by subst h; exact Nat.beq_refl j)]
  · rw [if_neg h, if_neg (fun k => h (Nat.eq_of_beq_eq_true k))]
section
variable {n lim n' : Nat} {g g' : Nat → Fam} {rd wr : List Nat}
theorem inner_st {ob : Sto} : CS.inner ⟨n, ob, lim, rd, wr⟩ = ⟨n, ob, n, [], []⟩ := Eq.trans rfl rfl
theorem ins_lt {m f : Nat} (h : f < m) : ins m [] f = [f] := by unfold ins; rw [blt_iff.2 h]; rfl
theorem ins_ge {m f : Nat} (l : List Nat) (h : m ≤ f) : ins m l f = l := by
  unfold ins
  cases hb : Nat.blt f m with
  | false => rfl
  | true => exact absurd (blt_iff.1 hb) (by omega)
theorem thenQ_same {α : Type} {n0 : Nat} {fr : Fr} {k : Fr → CS → Option α} {ob ob' : Sto} : thenQ n0 ⟨n, ob, lim, rd, wr⟩ (some (fr, ⟨n', ob', n, [], []⟩)) k = k fr ⟨n', ob', lim, rd, wr⟩ := Eq.trans rfl rfl
theorem thenQ_rd {α : Type} {n0 f : Nat} {fr : Fr} {k : Fr → CS → Option α} {ob ob' : Sto} (h : f < n0) : thenQ n0 ⟨n, ob, lim, rd, wr⟩ (some (fr, ⟨n', ob', n, [f], []⟩)) k = k fr ⟨n', ob', lim, ins lim rd f, wr⟩ := by
  show (bif true && ([f].all fun f => Nat.blt f n0) then _ else _) = _
  rw [List.all_cons, blt_iff.2 h]
  rfl
theorem newRow_st {tag : Nat} {cs : List Value} : CS.newRow (St n g lim rd wr) tag cs = some (mkA n (n * 1024 + tag) 0, St (n + 1) (fupd g n ⟨false, [(n * 1024 + tag, cs)], none⟩) lim rd wr) := by
  unfold CS.newRow
  show sel true _ _ = _
  rw [sel_true, objPut_inr]
theorem readRow_st {a : Addr} : CS.readRow (St n g lim rd wr) a = match rowOf (g a.block).rows (Addr.ver a) with
    | some cs => some (cs, St n g lim (ins lim rd a.block) wr)
    | none => none := rfl
theorem rowOf_one {u : Nat} {cs : List Value} : rowOf [(u, cs)] u = some cs := by
  unfold rowOf
  rw [Nat.beq_refl]; rfl
/-- a write to a row of one version -/
theorem write_st {f u off : Nat} {vs cs : List Value} {es : Option (List (Value × Value))} (hg : g f = ⟨false, [(u, cs)], es⟩) (hl : off + vs.length ≤ cs.length) (ho : vs.all oneC = true) :
    CS.write (St n g lim rd wr) (mkA f u off) vs = some (St n (fupd g f ⟨false, [(u, splice cs off vs)], none⟩) lim rd (ins lim wr f)) := by
  unfold CS.write
  show (match (g f).ro, rowOf (g f).rows u with | false, some cs => _ | _, _ => none) = _
  rw [hg]
  simp only
  rw [rowOf_one]
  simp only
  rw [ble_iff.2 (show (mkA f u off).off + vs.length ≤ cs.length from hl), ho, Bool.and_true, sel_true, objPut_inr]
  rfl
theorem block_mk {f u off : Nat} : (mkA f u off).block = f := Eq.trans rfl rfl
theorem off_mk {f u off : Nat} : (mkA f u off).off = off := Eq.trans rfl rfl
theorem ver_mk {f u off : Nat} : Addr.ver (mkA f u off) = u := Eq.trans rfl rfl
theorem plus_mk {f u off k : Nat} : Addr.plus (mkA f u off) k = mkA f u (off + k) := Eq.trans rfl rfl
theorem splice_one {cs : List Value} {off : Nat} {v : Value} (h : off < cs.length) : splice cs off [v] = cs.set off v := by
  unfold splice
  rw [List.set_eq_take_append_cons_drop, if_pos h]
  simp
theorem splice_all {cs vs : List Value} (h : vs.length = cs.length) : splice cs 0 vs = vs := by
  unfold splice
  simp [h]
end
end Go.Proofs.YtcmfoipnoejmlaaDoor
