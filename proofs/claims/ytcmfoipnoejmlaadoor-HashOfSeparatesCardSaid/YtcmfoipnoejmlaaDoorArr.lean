/- The plain machine by hand: '==' of two arrays of bytes. No program in sight. -/
import Derived.Test.YtcmfoipnoejmlaaDoorHsD
import Derived.Test.YtcmfoipnoejmlaaDoorLbA
namespace Go.Proofs.YtcmfoipnoejmlaaDoor
open Go Go.RowKit
set_option linter.unusedSimpArgs false
section
variable {P : Program}
theorem eval0_bind_eq {α β : Type} {f : α → Sem β} : ∀ {m : Sem α}, eval0 P (m >>= f) = (eval0 P m).bind fun v => eval0 P (f v) := by
  intro m
  induction m with
  | pure a => rfl
  | program k ih => exact ih P
  | _ => rfl
theorem eval0_pure {α : Type} (a : α) : eval0 P (pure a : Sem α) = some a := rfl
theorem eval0_part {σ : Type} (s0 s1 : σ) (x y : List UInt8) (len : Nat) (hx : x.length = len) (hy : y.length = len) (f : Nat → σ → Sem (ForInStep σ))
    (hf : ∀ i (hi : i < len), eval0 P (f i s0) = some (if x[i] = y[i] then .yield s0 else .done s1)) :
    ∀ (m k : Nat), k + m = len → eval0 P (forIn (List.range' k m) s0 f : Sem σ) = some (if x.drop k = y.drop k then s0 else s1) := by
  intro m
  induction m with
  | zero => intro k hk; simp [List.drop_of_length_le (show x.length ≤ k by omega), List.drop_of_length_le (show y.length ≤ k by omega), eval0_pure]
  | succ m ih =>
    intro k hk
    have hdx := List.drop_eq_getElem_cons (show k < x.length by omega)
    have hdy := List.drop_eq_getElem_cons (show k < y.length by omega)
    rw [List.range'_succ, List.forIn_cons, eval0_bind_eq, hf k (by omega)]
    by_cases hxy : x[k]'(by omega) = y[k]'(by omega)
    · rw [if_pos hxy]
      show eval0 P (forIn (List.range' (k + 1) m) s0 f) = _
      rw [ih (k + 1) (by omega), hdx, hdy]
      simp only [hxy, List.cons.injEq, true_and]
    · rw [if_neg hxy, hdx, hdy]
      simp only [hxy, List.cons.injEq, false_and, if_false]
      rfl
theorem eval0_equalIn_int (d : Nat) {e : TypeId} (k : IntKind) (a b : Int) (he : P.underlying e = some (.int k)) : eval0 P (Op.equalIn (d + 1) e (.int .u8 a) (.int .u8 b)) = some (a == b) := by
  unfold Op.equalIn
  rw [eval0_bind_eq, eval0_underlying he]
  rfl
theorem eval0_equalIn_bytes (d : Nat) {t e len : Nat} {i : TypeInfo} (ht : P.underlying t = some (.array len e)) (he : P.underlying e = some (.int .u8)) (hi : P.info? e = some i) (hsz : i.size = 1) (x y : List UInt8) (hx : x.length = len) (hy : y.length = len) :
    eval0 P (Op.equalIn (d + 2) t (.agg (u8s x).toArray) (.agg (u8s y).toArray)) = some (x == y) := by
  have hpart : ∀ (l : List UInt8) (k : Nat) (hk : k < l.length), eval0 P (part e (u8s l).toArray k) = some (.int .u8 ((l[k].toNat : Nat) : Int)) := by
    intro l k hk
    have hagg : eval0 P (isAgg e) = some false := by
      unfold isAgg
      rw [eval0_bind_eq, eval0_underlying he]
      rfl
    simp [part, eval0_bind_eq, hagg, u8s, u8v, hk, eval0_pure]
  have hq : ∀ a b : Int, eval0 P (Op.equalIn (d + 1) e (.int .u8 a) (.int .u8 b)) = some (a == b) := fun a b => eval0_equalIn_int d .u8 a b he
  show eval0 P (Op.equalIn ((d + 1) + 1) _ _ _) = _
  generalize d + 1 = d' at *
  have hsize : eval0 P (sizeOf e) = some 1 := by
    unfold sizeOf typeInfo
    rw [eval0_bind_eq, eval0_bind_eq]
    show ((eval0 P (match P.info? e with | some i => pure i | none => _)).bind _) = _
    rw [hi]
    show eval0 P (pure i.size) = _
    rw [hsz]; rfl
  simp only [Op.equalIn, eval0_bind_eq, eval0_underlying ht, Option.bind_some, hsize, forIn_range, Nat.mul_one]
  rw [eval0_part (P := P) (none, ()) (some false, ()) x y len hx hy _ ?_ len 0 (by omega)]
  · by_cases hxy : x = y
    · subst hxy; simp [eval0_pure]
    · simp [hxy, eval0_pure]
  · intro k hk
    simp only [eval0_bind_eq, hpart x k (by omega), hpart y k (by omega), Option.bind_some, hq]
    by_cases hxy : x[k]'(by omega) = y[k]'(by omega)
    · have e1 : (((x[k]'(by omega)).toNat : Int) == ((y[k]'(by omega)).toNat : Int)) = true := by rw [hxy]; simp
      rw [e1, if_pos hxy]
      simp [eval0_pure]
    · have e1 : (((x[k]'(by omega)).toNat : Int) == ((y[k]'(by omega)).toNat : Int)) = false := by
        simp only [beq_eq_false_iff_ne, ne_eq]
        intro hh
        apply hxy
        apply UInt8.toNat_inj.1
        omega
      rw [e1, if_neg hxy]
      simp [eval0_pure]
variable {Γ : Env} {ρ : Operand → Value} {s : CS} {d : Option Tmp} {ty : TypeId} {pos : String} {t t2 : TypeId} {x y : Operand} {e : Array Edge} {g : Option (Nat × Bool)}
theorem opBin_via2 {op : BinOp} {v w r : Value} {o : Oper} (ho : o.op = .binOp op t x y t2) (hx : ρ x = v) (hy : ρ y = w) (hc : binC op v w = none) (hn : ∀ d, nilT d v = none) (hpv : plainV 3 v = true) (hpw : plainV 3 w = true) (hg : eval0 P (eqGuard op t x y v w) = some ())
    (hr : eval0 P (binOp op t v w) = some r) (hp : plainV 3 r = true) : opBin P Γ ρ o s t op v w = some (r, s) := by
  unfold opBin
  rw [hc]
  simp only
  rw [eqC_none hn]
  simp only [orPure]
  unfold pureC
  have hops : (o.op.operands.toList.all fun z => plainV 3 (ρ z)) = true := by
    rw [ho]
    simp [Op.operands, hx, hy, hpv, hpw]
  rw [hops]
  have he : execOp ρ o = ((do eqGuard op t x y v w; binOp op t v w) >>= fun z => pure (Next.value z)) := by
    unfold execOp
    rw [ho]
    simp only [hx, hy]
  rw [he]
  have hv : eval0 P ((do eqGuard op t x y v w; binOp op t v w) >>= fun z => pure (Next.value z)) = some (.value r) := by
    rw [eval0_bind_eq, eval0_bind_eq, hg]
    show (eval0 P (binOp op t v w)).bind _ = _
    rw [hr]; rfl
  simp only [cond_true]
  rw [hv]
  show retC s (bif plainV 3 r then some r else none) = some (r, s)
  rw [hp]
  rfl
theorem nilT_agg (d : TypeDesc) (a : Array Value) : nilT d (.agg a) = none := by cases d <;> rfl
theorem oa_eql {el len : Nat} {i : TypeInfo} {a b : List UInt8} (ht : P.underlying t = some (.array len el)) (he : P.underlying el = some (.int .u8)) (hi : P.info? el = some i) (hsz : i.size = 1) (hq : P.eqGuardType P.depth t = false) (ha : a.length = len) (hb : b.length = len) (hx : ρ x = .agg (bvs a).toArray) (hy : ρ y = .agg (bvs b).toArray) :
    opBin P Γ ρ ⟨d, .binOp .eql t x y t2, ty, pos, e, g⟩ s t .eql (.agg (bvs a).toArray) (.agg (bvs b).toArray) = some (.bool (a == b), s) := by
  have hpl : ∀ l : List UInt8, plainV 3 (.agg (bvs l).toArray) = true := by
    intro l
    show ((bvs l).toArray.toList.all (plainV 2)) = true
    rw [List.toList_toArray, List.all_eq_true]
    intro z hz
    obtain ⟨c, _, rfl⟩ := List.mem_map.1 hz
    rfl
  refine opBin_via2 rfl hx hy rfl (fun d => nilT_agg d _) (hpl a) (hpl b) ?_ ?_ rfl
  · unfold eqGuard
    show eval0 P (if !(P.eqGuardType P.depth t) then pure () else _) = _
    rw [hq]; rfl
  · show eval0 P (do pure (Value.bool (← Op.equal t (.agg (bvs a).toArray) (.agg (bvs b).toArray))) : Sem Value) = _
    rw [eval0_bind_eq]
    have h := eval0_equalIn_bytes (P := P) 9998 ht he hi hsz a b ha hb
    have h2 : eval0 P (Op.equal t (.agg (bvs a).toArray) (.agg (bvs b).toArray)) = some (a == b) := h
    rw [h2]; rfl
end
end Go.Proofs.YtcmfoipnoejmlaaDoor
