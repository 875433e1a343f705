/- Part 8 of the proof of TableFailsOver (several texts in one; no further condition). -/
import Derived.Test.YtjgbkegkcbcjaaaZE
import Derived.Test.YtjgbkegkcbcjaaaZG
import Derived.Test.YtjgbkegkcbcjaaaRows
set_option linter.unusedSimpArgs false
set_option linter.unusedVariables false
set_option linter.unusedSectionVars false
namespace Go.Proofs.Ytjgbkegkcbcjaaa
open Go Go.RowKit
noncomputable def axS : Axs := axAdd 9 (axVal (.bool true)) fun _ => none
theorem axS_ok : AxsOk Try.prog GG LL axS := (AxsOk.none its_ok).add (ax_val (L := LL) (ax := fun _ => none) funcs_ok (fn9 fun _ => none) rfl rfl sane_calls)
theorem axS_san : axS 9 = some (axVal (.bool true)) := axAdd_same _ _ _
theorem axS_plain : Plain axS := by
  refine ⟨fun f hf => axAdd_ne _ _ fun h => ?_, rfl, rfl, fun A β s vargs hT hv => ?_⟩
  · subst h; rw [Nat.beq_refl] at hf; cases hf
  · cases hv
    exact ⟨.bool true, s, A, β, callR_ax (k := axVal (.bool true)) axS_san rfl, hT, .bool true, Stp.refl⟩
theorem law_calls {f : FuncId} {fn : Func} {body : Code} (hfn : (EE axS).fn.at f = some fn) (hb : fn.body = some body) {args : List T} {vs : Array Value} {W : World} (h : RtL W args vs.toList) (hp : Pure Try.prog (EE axS) [] f args (.bool true)) :
    Calls Try.prog f vs W fun e W' => e = .returned (.bool true) ∧ Below W.heap.size W W' := by
  obtain ⟨A, xs, k⟩ := entL (N := W.heap.size) (G := GG) (K := []) rfl (fun p hp => by simp at hp) (fun g hg => by simp [has, GG] at hg) h []
  have e : ([] : List Seg) ++ A ++ [] = A := by simp
  have kr := k.vr []
  have kl := k.vl []
  have ka := k.at_ []
  rw [e] at kr kl ka
  obtain ⟨r1, r2, r3, r4⟩ := start_rel (G := GG) (N := W.heap.size) (K := []) (A := A) rfl (fun p hp => by simp at hp) (fun p hp => by simp at hp) (fun g hg => by simp [has, GG] at hg) ka
  have hT : TRel [] (Low W.heap.size) bx0 ts0 (St (W.heap.size + A.length) (famS W.heap.size [] A) 0 [] []) :=
    ⟨⟨_, rfl⟩, r2, fun f hf => by have : f < W.heap.size := hf; show f < W.heap.size + A.length; omega, fun f hf => absurd hf own_bx0, fun b b' l l' f hb => by simp [bx0] at hb, fun b _ => rfl, fun b z N l hb => by simp [ts0] at hb, fun b l hb => by simp [ts0] at hb, fun x hx => by simp at hx⟩
  obtain ⟨v, s2, A', β', e1, e2, e3, e4⟩ := hp.2.2 _ _ _ xs hT kl
  cases e3
  refine (calls_of mixed funcs_ok axS_ok hfn hb (args' := vs) e1 kr r1 r4 r2 r3).mono ?_
  rintro e w' ⟨σ', v', rfl, k1, k2⟩
  exact ⟨by rw [plain_eq 3 rfl k1], k2⟩
end Go.Proofs.Ytjgbkegkcbcjaaa
namespace Go.Proofs.Ytjgbkegkcbcjaaa
open Go Go.RowKit
abbrev big : Nat := 9223372036854775808
theorem wr_succ (i : Nat) (h : i < 9223372036854775807) : IntKind.i64.wrap ((i : Int) + 1) = ((i + 1 : Nat) : Int) := by
  rw [wr64 (by omega)]; push_cast; rfl
theorem gx_nat {α : Type} [Inhabited α] (l : List α) (i : Nat) : gx l (i : Int) = l.getD i default := rfl
theorem gx_at {α : Type} [Inhabited α] {l : List α} {i : Nat} (h : i < l.length) : gx l (i : Int) = l[i] := by
  rw [gx_nat, List.getD_eq_getElem?_getD, List.getElem?_eq_getElem h]; rfl
section
variable {α β σ : Type}
def sumO (o : Option β) : β ⊕ Unit := match o with | some b => .inl b | none => .inr ()
theorem loop_range {L : Nat → Int → Option (β ⊕ Unit)} (n : Nat) (c : Nat → Option β) (hn : n < big) (hs : ∀ m (j : Nat), j < n → L (m + 1) (j : Int) = match c j with | some b => some (.inl b) | none => L m (IntKind.i64.wrap ((j : Int) + 1)))
    (he : ∀ m, L (m + 1) (n : Int) = some (.inr ())) {k : Nat} (hk : n < k) : L k 0 = some (sumO ((List.range n).findSome? c)) := by
  have key : ∀ m j, j ≤ n → n - j < m → L m (j : Int) = some (sumO ((List.range' j (n - j)).findSome? c)) := by
    intro m
    induction m with
    | zero => intro j h1 h2; omega
    | succ m ih =>
      intro j h1 h2
      by_cases hj : j < n
      · rw [hs m j hj, show n - j = (n - (j + 1)) + 1 by omega, List.range'_succ, List.findSome?_cons]
        cases hc : c j with
        | some b => rfl
        | none =>
          simp only
          rw [wr_succ j (by simp only [big] at hn; omega)]
          exact ih (j + 1) (by omega) (by omega)
      · obtain rfl : j = n := by omega
        rw [he, Nat.sub_self]
        rfl
  have := key k 0 (Nat.zero_le _) (by omega)
  rw [List.range_eq_range']
  exact this
theorem findSome_map {c : Nat → Option β} {d : α → Option β} : ∀ (l : List α) (s : Nat), (∀ j (h : j < l.length), c (s + j) = d l[j]) → (List.range' s l.length).findSome? c = l.findSome? d
  | [], s, _ => rfl
  | x :: l, s, h => by
    rw [List.length_cons, List.range'_succ, List.findSome?_cons, List.findSome?_cons]
    have h0 := h 0 (by simp)
    rw [Nat.add_zero] at h0
    rw [h0]
    simp only [List.getElem_cons_zero]
    rw [findSome_map l (s + 1) fun j hj => by have := h (j + 1) (by simpa using hj); rw [show s + (j + 1) = s + 1 + j by omega] at this; simpa using this]
theorem loop_list {L : Nat → Int → Option (β ⊕ Unit)} (l : List α) (c : α → Option β) (hn : l.length < big) (hs : ∀ m (j : Nat) (h : j < l.length), L (m + 1) (j : Int) = match c l[j] with | some b => some (.inl b) | none => L m (IntKind.i64.wrap ((j : Int) + 1)))
    (he : ∀ m, L (m + 1) (l.length : Int) = some (.inr ())) {k : Nat} (hk : l.length < k) : L k 0 = some (sumO (l.findSome? c)) := by
  rw [loop_range l.length (fun j => if h : j < l.length then c l[j] else none) hn (fun m j h => by rw [hs m j h, dif_pos h]) he hk, List.range_eq_range']
  rw [findSome_map l 0 fun j h => by rw [Nat.zero_add, dif_pos h]]
theorem findSome_all {c : α → Option β} {b : β} {q : α → Bool} : ∀ (l : List α), (∀ x, x ∈ l → c x = if q x = true then none else some b) → l.findSome? c = if l.all q = true then none else some b
  | [], _ => rfl
  | x :: l, h => by
    rw [List.findSome?_cons, h x (.head _), List.all_cons]
    cases hq : q x with
    | true => simp only [if_true, Bool.true_and]; exact findSome_all l fun y hy => h y (.tail _ hy)
    | false => rfl
theorem loop_all {L : Nat → Int → Option (β ⊕ Unit)} (l : List α) (b : β) (q : α → Bool) (hn : l.length < big) (hs : ∀ m (j : Nat) (h : j < l.length), L (m + 1) (j : Int) = if q l[j] = true then L m (IntKind.i64.wrap ((j : Int) + 1)) else some (.inl b))
    (he : ∀ m, L (m + 1) (l.length : Int) = some (.inr ())) {k : Nat} (hk : l.length < k) : L k 0 = some (if l.all q = true then .inr () else .inl b) := by
  rw [loop_list l (fun x => if q x = true then none else some b) hn (fun m j h => by rw [hs m j h]; cases q l[j] <;> rfl) he hk, findSome_all l fun _ _ => rfl]
  cases l.all q <;> rfl
theorem loop_allr {L : Nat → Int → Option (β ⊕ Unit)} (n : Nat) (b : β) (q : Nat → Bool) (hn : n < big) (hs : ∀ m (j : Nat), j < n → L (m + 1) (j : Int) = if q j = true then L m (IntKind.i64.wrap ((j : Int) + 1)) else some (.inl b))
    (he : ∀ m, L (m + 1) (n : Int) = some (.inr ())) {k : Nat} (hk : n < k) : L k 0 = some (if (List.range n).all q = true then .inr () else .inl b) := by
  rw [loop_range n (fun x => if q x = true then none else some b) hn (fun m j h => by rw [hs m j h]; cases q j <;> rfl) he hk, findSome_all _ fun _ _ => rfl]
  cases (List.range n).all q <;> rfl
theorem loop_fold {L : Nat → Int → σ → Option σ} (n : Nat) (f : σ → Nat → σ) (I : Nat → σ → Prop) (hn : n < big) (hs : ∀ m (j : Nat) s, j < n → I j s → L (m + 1) (j : Int) s = L m (IntKind.i64.wrap ((j : Int) + 1)) (f s j) ∧ I (j + 1) (f s j))
    (he : ∀ m s, I n s → L (m + 1) (n : Int) s = some s) {k : Nat} (hk : n < k) {s : σ} (h0 : I 0 s) : L k 0 s = some ((List.range n).foldl f s) ∧ I n ((List.range n).foldl f s) := by
  have key : ∀ m j s, j ≤ n → n - j < m → I j s → L m (j : Int) s = some ((List.range' j (n - j)).foldl f s) ∧ I n ((List.range' j (n - j)).foldl f s) := by
    intro m
    induction m with
    | zero => intro j s h1 h2; omega
    | succ m ih =>
      intro j s h1 h2 hI
      by_cases hj : j < n
      · obtain ⟨a, b⟩ := hs m j s hj hI
        rw [a, show n - j = (n - (j + 1)) + 1 by omega, List.range'_succ, List.foldl_cons, wr_succ j (by simp only [big] at hn; omega)]
        exact ih (j + 1) _ (by omega) (by omega) b
      · obtain rfl : j = n := by omega
        rw [he m s hI, Nat.sub_self]
        exact ⟨rfl, hI⟩
  have := key k 0 s (Nat.zero_le _) (by omega) h0
  rw [List.range_eq_range']
  exact this
theorem all_getElem {l : List α} {q : α → Bool} : l.all q = true ↔ ∀ j (h : j < l.length), q l[j] = true := by
  rw [List.all_eq_true]
  exact ⟨fun h j hj => h _ (List.getElem_mem hj), fun h x hx => by obtain ⟨j, hj, rfl⟩ := List.getElem_of_mem hx; exact h j hj⟩
def idxB (q : α → Bool) (l : List α) : Int := match l.findIdx? q with | some i => (i : Int) | none => -1
theorem idxB_any (q : α → Bool) (l : List α) : decide (0 ≤ idxB q l) = l.any q := by
  unfold idxB
  cases h : l.findIdx? q with
  | none =>
    have := List.findIdx?_eq_none_iff.1 h
    have e : l.any q = false := by rw [List.any_eq_false]; intro x hx; simp [this x hx]
    rw [e]; rfl
  | some i =>
    have := List.findIdx?_isSome (xs := l) (p := q)
    rw [h] at this
    rw [← this]
    simp
theorem index_loop {L : Nat → Int → Option (Int ⊕ Unit)} (l : List α) (q : α → Bool) (hn : l.length < big) (hs : ∀ m (j : Nat) (h : j < l.length), L (m + 1) (j : Int) = if q l[j] = true then some (.inl (j : Int)) else L m (IntKind.i64.wrap ((j : Int) + 1)))
    (he : ∀ m, L (m + 1) (l.length : Int) = some (.inr ())) {k : Nat} (hk : l.length < k) : (L k 0).bind (fun o => Sum.elim (fun r => some r) (fun _ => some (-1)) o) = some (idxB q l) := by
  have h := loop_range (L := L) l.length (fun (j : Nat) => if (l[j]?).any q = true then some (j : Int) else none) hn (fun m j h => by
    rw [hs m j h, List.getElem?_eq_getElem h]
    rw [Option.any_some]
    cases q l[j] <;> rfl) he hk
  rw [h, Option.bind_some, List.range_eq_range']
  have key : ∀ (l2 pre : List α), (List.range' pre.length l2.length).findSome? (fun (j : Nat) => if ((pre ++ l2)[j]?).any q = true then some (j : Int) else none) = (l2.findIdx? q).map fun i => ((pre.length + i : Nat) : Int) := by
    intro l2
    induction l2 with
    | nil => intro pre; rfl
    | cons x l2 ih =>
      intro pre
      rw [List.length_cons, List.range'_succ, List.findSome?_cons, List.findIdx?_cons]
      have e0 : (pre ++ x :: l2)[pre.length]? = some x := by rw [List.getElem?_append_right (Nat.le_refl _), Nat.sub_self]; rfl
      rw [e0]
      rw [Option.any_some]
      cases hq : q x with
      | true => simp
      | false =>
        simp only [Bool.false_eq_true, if_false]
        have := ih (pre ++ [x])
        rw [List.length_append, List.length_singleton, List.append_assoc, List.singleton_append] at this
        rw [this]
        cases l2.findIdx? q with
        | none => rfl
        | some i => simp; omega
  have := key l []
  simp only [List.length_nil, List.nil_append, Nat.zero_add] at this
  rw [this]
  unfold idxB
  cases l.findIdx? q <;> rfl
end
/-! words -/
theorem iAnd_nat {a b : Nat} (ha : a < 9223372036854775808) (hb : b < 9223372036854775808) : iAnd .i64 (a : Int) (b : Int) = ((a &&& b : Nat) : Int) := by
  have h : a &&& b ≤ a := Nat.and_le_left
  show IntKind.i64.wrap ((BitVec.ofInt 64 (a : Int) &&& BitVec.ofInt 64 (b : Int)).toNat : Int) = _
  rw [BitVec.toNat_and, BitVec.toNat_ofInt, BitVec.toNat_ofInt]
  rw [show ((a : Int) % ((2 ^ 64 : Nat) : Int)).toNat = a by omega, show ((b : Int) % ((2 ^ 64 : Nat) : Int)).toNat = b by omega]
  exact wr64 (by omega)
theorem iOr_nat {a b : Nat} (ha : a < 9223372036854775808) (hb : b < 9223372036854775808) : iOr .i64 (a : Int) (b : Int) = ((a ||| b : Nat) : Int) := by
  have h : a ||| b < 2 ^ 63 := Nat.or_lt_two_pow (by omega) (by omega)
  show IntKind.i64.wrap ((BitVec.ofInt 64 (a : Int) ||| BitVec.ofInt 64 (b : Int)).toNat : Int) = _
  rw [BitVec.toNat_or, BitVec.toNat_ofInt, BitVec.toNat_ofInt]
  rw [show ((a : Int) % ((2 ^ 64 : Nat) : Int)).toNat = a by omega, show ((b : Int) % ((2 ^ 64 : Nat) : Int)).toNat = b by omega]
  exact wr64 (by omega)
theorem iAndN_nat {a b : Nat} (ha : a < 9223372036854775808) (hb : b < 9223372036854775808) : iAndN .i64 (a : Int) (b : Int) = ((a - (a &&& b) : Nat) : Int) := andNot_i64 ha hb
end Go.Proofs.Ytjgbkegkcbcjaaa
namespace Go.Proofs.Ytjgbkegkcbcjaaa
open Go Go.RowKit
theorem own : ownKnob Try.prog.godebug = none := by kernel_rfl
theorem laidOut : laidOutB Try.prog = true := by kernel_rfl
def inI (x : Int) : Prop := -9223372036854775808 ≤ x ∧ x ≤ 9223372036854775807
theorem wf_i64 {x : Int} (h : (Lit.int .i64 x).wf = true) : inI x := by
  simp only [Lit.wf, decide_eq_true_eq, IntKind.wrap, IntKind.bits, IntKind.signed] at h
  simp at h
  have e1 : IntKind.i64.min = -9223372036854775808 := by decide
  have e2 : IntKind.i64.max = 9223372036854775807 := by decide
  unfold inI
  omega
theorem cf_i {t : T} (h : conf (.int .i64) t) : ∃ n, t = .int .i64 n ∧ inI n := by
  obtain ⟨n, rfl, hw⟩ := h
  exact ⟨n, rfl, wf_i64 hw⟩
theorem cf_bool {t : T} (h : conf .bool t) : ∃ b, t = .bool b ∧ True := by
  obtain ⟨b, rfl⟩ := h
  exact ⟨b, rfl, trivial⟩
theorem cf_str {t : T} (h : conf .str t) : ∃ s, t = .str s ∧ s.size < big := by
  obtain ⟨s, rfl, hs⟩ := h
  have hm : maxLen < big := by decide
  exact ⟨s, rfl, by omega⟩
theorem cf_arr {n : Nat} {t : T} (h : conf (.arr .i64 n) t) : ∃ a : Ar n, t = .agg (a.l.map (T.int .i64)) ∧ ∀ y, y ∈ a.l → inI y := by
  obtain ⟨a, rfl, hw⟩ := h
  exact ⟨a, rfl, fun y hy => wf_i64 (hw y hy)⟩
theorem cf_slice {α : Type} {f : α → T} {sh : Sh} {p : α → Prop} (hf : ∀ t, conf sh t → ∃ x, t = f x ∧ p x) {t : T} (h : conf (.slice sh) t) : ∃ l : List α, t = .lst sh.sz (l.map f) ∧ (l.length < big ∧ ∀ x, x ∈ l → p x) := by
  obtain ⟨l, rfl, hl, hall⟩ := h
  have hm : maxLen < big := by decide
  have key : ∀ l : List T, (∀ x, x ∈ l → conf sh x) → ∃ m : List α, l = m.map f ∧ ∀ x, x ∈ m → p x := by
    intro l
    induction l with
    | nil => intro _; exact ⟨[], rfl, fun x hx => by simp at hx⟩
    | cons t l ih =>
      intro hc
      obtain ⟨x, rfl, hp⟩ := hf t (hc t (by simp))
      obtain ⟨m, rfl, hm⟩ := ih fun y hy => hc y (by simp [hy])
      refine ⟨x :: m, rfl, fun y hy => ?_⟩
      rcases List.mem_cons.1 hy with rfl | hy
      · exact hp
      · exact hm y hy
  obtain ⟨m, rfl, hp⟩ := key l hall
  rw [List.length_map] at hl
  exact ⟨m, rfl, by omega, hp⟩
def shFailure : Sh := .struct [(.slice (.int .i64)), (.int .i64)]
def wfFailure (x : Failure) : Prop := (x.links.length < big ∧ ∀ y, y ∈ x.links → inI y) ∧ inI x.node
theorem cf_Failure {t : T} (h : conf shFailure t) : ∃ x : Failure, t = eFailure x ∧ wfFailure x := by
  obtain ⟨cs, rfl, x0, r0, rfl, h0, x1, r1, rfl, h1, rfl⟩ := h
  obtain ⟨a0, rfl, q0⟩ := cf_slice (fun _ hh => cf_i hh) h0
  obtain ⟨a1, rfl, q1⟩ := cf_i h1
  exact ⟨⟨a0, a1⟩, by first | (simp only [eFailure, ints, T.cells, Sh.sz, Sh.szL, shFailure, List.append_nil, List.cons_append, List.nil_append, List.append_assoc, Nat.add_zero, Nat.reduceAdd]; done) | (simp only [eFailure, ints, T.cells, Sh.sz, Sh.szL, shFailure, List.append_nil, List.cons_append, List.nil_append, List.append_assoc, Nat.add_zero, Nat.reduceAdd]; rfl), q0, q1⟩
def shPat : Sh := .struct [(.arr .i64 10), (.arr .i64 10)]
def wfPat (x : Pat) : Prop := (∀ y, y ∈ x.mask.l → inI y) ∧ (∀ y, y ∈ x.bits.l → inI y)
theorem cf_Pat {t : T} (h : conf shPat t) : ∃ x : Pat, t = ePat x ∧ wfPat x := by
  obtain ⟨cs, rfl, x0, r0, rfl, h0, x1, r1, rfl, h1, rfl⟩ := h
  obtain ⟨a0, rfl, q0⟩ := cf_arr h0
  obtain ⟨a1, rfl, q1⟩ := cf_arr h1
  exact ⟨⟨a0, a1⟩, by first | (simp only [ePat, T.cells, Sh.sz, Sh.szL, shPat, List.append_nil, List.cons_append, List.nil_append, List.append_assoc, Nat.add_zero, Nat.reduceAdd]; done) | (simp only [ePat, T.cells, Sh.sz, Sh.szL, shPat, List.append_nil, List.cons_append, List.nil_append, List.append_assoc, Nat.add_zero, Nat.reduceAdd]; rfl), q0, q1⟩
def shAlt : Sh := .struct [(.int .i64), shPat]
def wfAlt (x : Alt) : Prop := inI x.link ∧ wfPat x.mod
theorem cf_Alt {t : T} (h : conf shAlt t) : ∃ x : Alt, t = eAlt x ∧ wfAlt x := by
  obtain ⟨cs, rfl, x0, r0, rfl, h0, x1, r1, rfl, h1, rfl⟩ := h
  obtain ⟨a0, rfl, q0⟩ := cf_i h0
  obtain ⟨a1, rfl, q1⟩ := cf_Pat h1
  exact ⟨⟨a0, a1⟩, by first | (simp only [eAlt, ePat, T.cells, Sh.sz, Sh.szL, shAlt, shPat, List.append_nil, List.cons_append, List.nil_append, List.append_assoc, Nat.add_zero, Nat.reduceAdd]; done) | (simp only [eAlt, ePat, T.cells, Sh.sz, Sh.szL, shAlt, shPat, List.append_nil, List.cons_append, List.nil_append, List.append_assoc, Nat.add_zero, Nat.reduceAdd]; rfl), q0, q1⟩
def shRule : Sh := .struct [(.int .i64), shPat, (.int .i64), (.slice (.slice shAlt))]
def wfRule (x : Rule) : Prop := inI x.prio ∧ wfPat x.mat ∧ inI x.step ∧ (x.outs.length < big ∧ ∀ y, y ∈ x.outs → (y.length < big ∧ ∀ y', y' ∈ y → wfAlt y'))
theorem cf_Rule {t : T} (h : conf shRule t) : ∃ x : Rule, t = eRule x ∧ wfRule x := by
  obtain ⟨cs, rfl, x0, r0, rfl, h0, x1, r1, rfl, h1, x2, r2, rfl, h2, x3, r3, rfl, h3, rfl⟩ := h
  obtain ⟨a0, rfl, q0⟩ := cf_i h0
  obtain ⟨a1, rfl, q1⟩ := cf_Pat h1
  obtain ⟨a2, rfl, q2⟩ := cf_i h2
  obtain ⟨a3, rfl, q3⟩ := cf_slice (fun _ hh => cf_slice (fun _ hh => cf_Alt hh) hh) h3
  exact ⟨⟨a0, a1, a2, a3⟩, by first | (simp only [eRule, ePat, lLAlt, lAlt, eAlt, T.cells, Sh.sz, Sh.szL, shRule, shPat, shAlt, List.append_nil, List.cons_append, List.nil_append, List.append_assoc, Nat.add_zero, Nat.reduceAdd]; done) | (simp only [eRule, ePat, lLAlt, lAlt, eAlt, T.cells, Sh.sz, Sh.szL, shRule, shPat, shAlt, List.append_nil, List.cons_append, List.nil_append, List.append_assoc, Nat.add_zero, Nat.reduceAdd]; rfl), q0, q1, q2, q3⟩
def shNode : Sh := .struct [.str, .bool, (.int .i64), (.int .i64)]
def wfNode (x : Node) : Prop := x.name.size < big ∧ True ∧ inI x.rules ∧ inI x.entries
theorem cf_Node {t : T} (h : conf shNode t) : ∃ x : Node, t = eNode x ∧ wfNode x := by
  obtain ⟨cs, rfl, x0, r0, rfl, h0, x1, r1, rfl, h1, x2, r2, rfl, h2, x3, r3, rfl, h3, rfl⟩ := h
  obtain ⟨a0, rfl, q0⟩ := cf_str h0
  obtain ⟨a1, rfl, q1⟩ := cf_bool h1
  obtain ⟨a2, rfl, q2⟩ := cf_i h2
  obtain ⟨a3, rfl, q3⟩ := cf_i h3
  exact ⟨⟨a0, a1, a2, a3⟩, by first | (simp only [eNode, T.cells, Sh.sz, Sh.szL, shNode, List.append_nil, List.cons_append, List.nil_append, List.append_assoc, Nat.add_zero, Nat.reduceAdd]; done) | (simp only [eNode, T.cells, Sh.sz, Sh.szL, shNode, List.append_nil, List.cons_append, List.nil_append, List.append_assoc, Nat.add_zero, Nat.reduceAdd]; rfl), q0, q1, q2, q3⟩
def shLink : Sh := .struct [(.int .i64), (.int .i64), (.int .i64)]
def wfLink (x : Link) : Prop := inI x.frm ∧ inI x.to ∧ inI x.cap
theorem cf_Link {t : T} (h : conf shLink t) : ∃ x : Link, t = eLink x ∧ wfLink x := by
  obtain ⟨cs, rfl, x0, r0, rfl, h0, x1, r1, rfl, h1, x2, r2, rfl, h2, rfl⟩ := h
  obtain ⟨a0, rfl, q0⟩ := cf_i h0
  obtain ⟨a1, rfl, q1⟩ := cf_i h1
  obtain ⟨a2, rfl, q2⟩ := cf_i h2
  exact ⟨⟨a0, a1, a2⟩, by first | (simp only [eLink, T.cells, Sh.sz, Sh.szL, shLink, List.append_nil, List.cons_append, List.nil_append, List.append_assoc, Nat.add_zero, Nat.reduceAdd]; done) | (simp only [eLink, T.cells, Sh.sz, Sh.szL, shLink, List.append_nil, List.cons_append, List.nil_append, List.append_assoc, Nat.add_zero, Nat.reduceAdd]; rfl), q0, q1, q2⟩
def shEdge : Sh := .struct [.str, (.int .i64)]
def wfEdge (x : Edge) : Prop := x.name.size < big ∧ inI x.node
theorem cf_Edge {t : T} (h : conf shEdge t) : ∃ x : Edge, t = eEdge x ∧ wfEdge x := by
  obtain ⟨cs, rfl, x0, r0, rfl, h0, x1, r1, rfl, h1, rfl⟩ := h
  obtain ⟨a0, rfl, q0⟩ := cf_str h0
  obtain ⟨a1, rfl, q1⟩ := cf_i h1
  exact ⟨⟨a0, a1⟩, by first | (simp only [eEdge, T.cells, Sh.sz, Sh.szL, shEdge, List.append_nil, List.cons_append, List.nil_append, List.append_assoc, Nat.add_zero, Nat.reduceAdd]; done) | (simp only [eEdge, T.cells, Sh.sz, Sh.szL, shEdge, List.append_nil, List.cons_append, List.nil_append, List.append_assoc, Nat.add_zero, Nat.reduceAdd]; rfl), q0, q1⟩
def shNet : Sh := .struct [(.slice shNode), (.slice shLink), (.slice shEdge)]
def wfNet (x : Net) : Prop := (x.nodes.length < big ∧ ∀ y, y ∈ x.nodes → wfNode y) ∧ (x.links.length < big ∧ ∀ y, y ∈ x.links → wfLink y) ∧ (x.edges.length < big ∧ ∀ y, y ∈ x.edges → wfEdge y)
theorem cf_Net {t : T} (h : conf shNet t) : ∃ x : Net, t = eNet x ∧ wfNet x := by
  obtain ⟨cs, rfl, x0, r0, rfl, h0, x1, r1, rfl, h1, x2, r2, rfl, h2, rfl⟩ := h
  obtain ⟨a0, rfl, q0⟩ := cf_slice (fun _ hh => cf_Node hh) h0
  obtain ⟨a1, rfl, q1⟩ := cf_slice (fun _ hh => cf_Link hh) h1
  obtain ⟨a2, rfl, q2⟩ := cf_slice (fun _ hh => cf_Edge hh) h2
  exact ⟨⟨a0, a1, a2⟩, by first | (simp only [eNet, lNode, eNode, lLink, eLink, lEdge, eEdge, T.cells, Sh.sz, Sh.szL, shNet, shNode, shLink, shEdge, List.append_nil, List.cons_append, List.nil_append, List.append_assoc, Nat.add_zero, Nat.reduceAdd]; done) | (simp only [eNet, lNode, eNode, lLink, eLink, lEdge, eEdge, T.cells, Sh.sz, Sh.szL, shNet, shNode, shLink, shEdge, List.append_nil, List.cons_append, List.nil_append, List.append_assoc, Nat.add_zero, Nat.reduceAdd]; rfl), q0, q1, q2⟩
end Go.Proofs.Ytjgbkegkcbcjaaa
namespace Go.Proofs.Ytjgbkegkcbcjaaa
open Go Go.RowKit
set_option maxRecDepth 100000
def sr09_Few (k : Nat) (n : Net) (nodes : Int) (links : Int) (edges : Int) : Option Bool := (if (n.nodes.length : Int) ≤ nodes then (if (n.links.length : Int) ≤ links then some (decide ((n.edges.length : Int) ≤ edges)) else some false) else some false)
set_option maxHeartbeats 8000000 in
theorem sr09_Few_ok (ax : Axs) (hx : Plain ax) (k : Nat) (n : Net) (nodes : Int) (links : Int) (edges : Int) (v : Bool) (H : sr09_Few k n nodes links edges = some v) : Pure Try.prog (EE ax) [] 4 [eNet n, .int .i64 nodes, .int .i64 links, .int .i64 edges] (.bool v) := by
 rw [sr09_Few] at H
 refine en [.tmp 8] 28 [0, 1, 2, 3] (hx.no _ (by decide)) (fn4 ax) ?_
 intro h hh
 repeat apply TW.seq
 refine rk [1, 2, 3, 4] [] hh ?_
 clear hh h
 intro h hh
 rcases isp H with ⟨c1, H⟩ | ⟨c1, H⟩
 rotate_left
 ·skip
  repeat apply TW.seq
  refine rk [8] [] (f2 hh (decide_eq_false c1)) ?_
  clear hh h
  intro h hh
  cases H
  exact rt hh
 rcases isp H with ⟨c2, H⟩ | ⟨c2, H⟩
 rotate_left
 ·skip
  repeat apply TW.seq
  refine rk [8] [] (f3 hh (decide_eq_true c1) (decide_eq_false c2)) ?_
  clear hh h
  intro h hh
  cases H
  exact rt hh
 repeat apply TW.seq
 refine rk [8] [] (f3 hh (decide_eq_true c1) (decide_eq_true c2)) ?_
 clear hh h
 intro h hh
 cases H
 exact rt hh
def sr09_Names_L0 (k : Nat) (n : Net) : Nat → Int → (List ByteArray) → Nat → Option (List ByteArray × Nat)
 | 0, _, _, _ => none
 | m + 1, i, l, n2 => (if i < (n.nodes.length : Int) then (if (0 : Int) ≤ i ∧ i < (n.nodes.length : Int) then (if (n2 + 1) * 17 ≤ 1000000000 then sr09_Names_L0 k n m (IntKind.i64.wrap (i + 1)) (l ++ [(gx n.nodes i).name]) (n2 + 1) else none) else none) else some (l, n2))
def sr09_Names_L1 (k : Nat) (n : Net) : Nat → Int → (List ByteArray) → Nat → Option (List ByteArray × Nat)
 | 0, _, _, _ => none
 | m + 1, i2, l2, n3 => (if i2 < (n.edges.length : Int) then (if (0 : Int) ≤ i2 ∧ i2 < (n.edges.length : Int) then (if (n3 + 1) * 17 ≤ 1000000000 then sr09_Names_L1 k n m (IntKind.i64.wrap (i2 + 1)) (l2 ++ [(gx n.edges i2).name]) (n3 + 1) else none) else none) else some (l2, n3))
def sr09_Names (k : Nat) (n : Net) : Option (List ByteArray × List ByteArray) := ((sr09_Names_L0 k n k 0 [] 0 : Option (List ByteArray × Nat)).bind fun s_ => ((sr09_Names_L1 k n k 0 [] 0 : Option (List ByteArray × Nat)).bind fun s_2 => (if s_.1.length = s_.2 then (if s_2.1.length = s_2.2 then some (s_.1, s_2.1) else none) else none)))
set_option maxHeartbeats 8000000 in
theorem sr09_Names_ok (ax : Axs) (hx : Plain ax) (k : Nat) (n : Net) (v : List ByteArray × List ByteArray) (H : sr09_Names k n = some v) : Pure Try.prog (EE ax) [] 14 [eNet n] (tupT [strs v.1, strs v.2]) := by
 rw [sr09_Names] at H
 refine enN [.tmp 2, .tmp 3] 42 [0] (hx.no _ (by decide)) (fn14 ax) ?_
 intro h hh
 repeat apply TW.seq
 refine rk [1] [] hh ?_
 clear hh h
 intro h hh
 repeat apply TW.seq
 refine rk [1, 4] [] hh ?_
 clear hh h
 intro h hh
 refine vk 4 1 [1, 4] hh ?_
 clear hh h
 intro h hh
 repeat apply TW.seq
 refine rk [1, 4, 5] [] hh ?_
 clear hh h
 intro h hh
 refine vk 5 1 [1, 4, 5] hh ?_
 clear hh h
 intro h hh
 repeat apply TW.seq
 refine rk [1, 4, 5, 6] [] hh ?_
 clear hh h
 intro h hh
 obtain ⟨s_, H1, H⟩ := bsome H
 repeat apply TW.seq
 refine cu [1, 4, 5] 3 (fun h bs => (h 1 = .ptr 0 0 3 ∧ h 4 = .arr 1 1 0 s_.2 s_.2 s_.2 ∧ h 5 = .arr 2 1 0 0 0 0) ∧ bs = [.cells true 3 [lNode n.nodes, lLink n.links, lEdge n.edges], .cells false s_.2 (s_.1.map T.str), .cells false 0 ([].map T.str)]) ?_ ?_
 ·skip
  repeat apply TW.seq
  apply TW.block
  repeat apply TW.seq
  refine TW.loopT [1, 4, 5, 6] (fun m h bs => ∃ (i : Int) (l : List ByteArray) (n2 : Nat), sr09_Names_L0 k n m i l n2 = some s_ ∧ (h 1 = .ptr 0 0 3 ∧ h 4 = .arr 1 1 0 n2 n2 n2 ∧ h 5 = .arr 2 1 0 0 0 0 ∧ h 6 = .int .i64 i) ∧ bs = [.cells true 3 [lNode n.nodes, lLink n.links, lEdge n.edges], .cells false n2 (l.map T.str), .cells false 0 ([].map T.str)]) ?_ k _ _ ?_
  rotate_left
  ·exact ⟨0, [], 0, H1, kq hh, rfl⟩
  clear hh h H1
  rintro m h bs ⟨i, l, n2, H1, hh, rfl⟩
  rcases m with _ | m
  ·rw [sr09_Names_L0] at H1; cases H1
  rw [sr09_Names_L0] at H1
  repeat apply TW.seq
  refine rk [1, 4, 5, 6, 12] [] hh ?_
  clear hh h
  intro h hh
  rcases isp H1 with ⟨c1, H1⟩ | ⟨c1, H1⟩
  rotate_left
  ·skip
   repeat apply TW.seq
   refine cf (f2 hh (decide_eq_false c1)) ?_
   refine xk ?_
   cases H1
   exact ce hh ⟨kq hh, rfl⟩
  repeat apply TW.seq
  refine ct (f2 hh (decide_eq_true c1)) ?_
  repeat apply TW.seq
  refine sk ?_
  repeat apply TW.seq
  apply TW.block
  obtain ⟨g2, H1⟩ := isg H1
  obtain ⟨g3, H1⟩ := isg H1
  repeat apply TW.seq
  refine rg [] [] [.cells true 3 [lNode n.nodes, lLink n.links, lEdge n.edges], .cells false (n2 + 1) ((l ++ [(gx n.nodes i).name]).map T.str), .cells false 0 ([].map T.str)] (fun h => h 1 = .ptr 0 0 3 ∧ h 4 = .arr 1 1 0 (n2 + 1) (n2 + 1) (n2 + 1) ∧ h 5 = .arr 2 1 0 0 0 0 ∧ h 6 = .int .i64 i) (f2 hh (gx_some g2)) trivial ?_
  clear hh h
  intro h hh
  repeat apply TW.seq
  refine rk [1, 4, 5, 6] [] hh ?_
  clear hh h
  intro h hh
  exact rd m hh ⟨(IntKind.i64.wrap (i + 1)), (l ++ [(gx n.nodes i).name]), (n2 + 1), H1, kq hh, rfl⟩
 clear hh h
 rintro h bs ⟨hh, rfl⟩
 repeat apply TW.seq
 refine rk [1, 4, 5, 7] [] hh ?_
 clear hh h
 intro h hh
 obtain ⟨s_2, H1, H⟩ := bsome H
 repeat apply TW.seq
 refine cu [4, 5] 3 (fun h bs => (h 4 = .arr 1 1 0 s_.2 s_.2 s_.2 ∧ h 5 = .arr 2 1 0 s_2.2 s_2.2 s_2.2) ∧ bs = [.cells true 3 [lNode n.nodes, lLink n.links, lEdge n.edges], .cells false s_.2 (s_.1.map T.str), .cells false s_2.2 (s_2.1.map T.str)]) ?_ ?_
 ·skip
  repeat apply TW.seq
  apply TW.block
  repeat apply TW.seq
  refine TW.loopT [1, 4, 5, 7] (fun m h bs => ∃ (i2 : Int) (l2 : List ByteArray) (n3 : Nat), sr09_Names_L1 k n m i2 l2 n3 = some s_2 ∧ (h 1 = .ptr 0 0 3 ∧ h 4 = .arr 1 1 0 s_.2 s_.2 s_.2 ∧ h 5 = .arr 2 1 0 n3 n3 n3 ∧ h 7 = .int .i64 i2) ∧ bs = [.cells true 3 [lNode n.nodes, lLink n.links, lEdge n.edges], .cells false s_.2 (s_.1.map T.str), .cells false n3 (l2.map T.str)]) ?_ k _ _ ?_
  rotate_left
  ·exact ⟨0, [], 0, H1, kq hh, rfl⟩
  clear hh h H1
  rintro m h bs ⟨i2, l2, n3, H1, hh, rfl⟩
  rcases m with _ | m
  ·rw [sr09_Names_L1] at H1; cases H1
  rw [sr09_Names_L1] at H1
  repeat apply TW.seq
  refine rk [1, 4, 5, 7, 28] [] hh ?_
  clear hh h
  intro h hh
  rcases isp H1 with ⟨c4, H1⟩ | ⟨c4, H1⟩
  rotate_left
  ·skip
   repeat apply TW.seq
   refine cf (f2 hh (decide_eq_false c4)) ?_
   refine xk ?_
   cases H1
   exact ce hh ⟨kq hh, rfl⟩
  repeat apply TW.seq
  refine ct (f2 hh (decide_eq_true c4)) ?_
  repeat apply TW.seq
  refine sk ?_
  repeat apply TW.seq
  apply TW.block
  obtain ⟨g5, H1⟩ := isg H1
  obtain ⟨g6, H1⟩ := isg H1
  repeat apply TW.seq
  refine rg [] [] [.cells true 3 [lNode n.nodes, lLink n.links, lEdge n.edges], .cells false s_.2 (s_.1.map T.str), .cells false (n3 + 1) ((l2 ++ [(gx n.edges i2).name]).map T.str)] (fun h => h 1 = .ptr 0 0 3 ∧ h 4 = .arr 1 1 0 s_.2 s_.2 s_.2 ∧ h 5 = .arr 2 1 0 (n3 + 1) (n3 + 1) (n3 + 1) ∧ h 7 = .int .i64 i2) (f2 hh (gx_some g5)) trivial ?_
  clear hh h
  intro h hh
  repeat apply TW.seq
  refine rk [1, 4, 5, 7] [] hh ?_
  clear hh h
  intro h hh
  exact rd m hh ⟨(IntKind.i64.wrap (i2 + 1)), (l2 ++ [(gx n.edges i2).name]), (n3 + 1), H1, kq hh, rfl⟩
 clear hh h
 rintro h bs ⟨hh, rfl⟩
 repeat apply TW.seq
 refine rk [2, 3] [] hh ?_
 clear hh h
 intro h hh
 obtain ⟨g7, H⟩ := isg H
 obtain ⟨g8, H⟩ := isg H
 refine TW.freeze 2 (b := 1) (e := 1) (off := 0) (len := s_.2) (cap := s_.2) (M := s_.2) (s_.1.map T.str) (kq hh) (by rfl) (by omega) (by omega) (by rw [List.drop_zero, Nat.mul_one, cells_map (fun _ => rfl), List.take_of_length_le (by rw [List.length_map]; omega)]) (fun t ht => by obtain ⟨x, _, rfl⟩ := List.mem_map.1 ht; first | rfl | exact eAr_len _ | exact cel_ePat _ | exact cel_eAlt _ | exact cel_eRule _ | (rw [List.length_map]; rfl)) (by rw [List.length_map]; exact g7) (by omega) ?_
 rw [st_set _ _ _ (by simp only [lzA] <;> omega)]
 simp only [scA]
 refine gk [2, 3] hh ?_
 clear hh h
 intro h hh
 refine TW.freeze 3 (b := 2) (e := 1) (off := 0) (len := s_2.2) (cap := s_2.2) (M := s_2.2) (s_2.1.map T.str) (kq hh) (by rfl) (by omega) (by omega) (by rw [List.drop_zero, Nat.mul_one, cells_map (fun _ => rfl), List.take_of_length_le (by rw [List.length_map]; omega)]) (fun t ht => by obtain ⟨x, _, rfl⟩ := List.mem_map.1 ht; first | rfl | exact eAr_len _ | exact cel_ePat _ | exact cel_eAlt _ | exact cel_eRule _ | (rw [List.length_map]; rfl)) (by rw [List.length_map]; exact g8) (by omega) ?_
 rw [st_set _ _ _ (by simp only [lzA] <;> omega)]
 simp only [scA]
 refine gk [2, 3] hh ?_
 clear hh h
 intro h hh
 cases H
 exact rt hh
def sr08_Name_L0 (k : Nat) (s_ : ByteArray) : Nat → Int → Option (Bool ⊕ Unit)
 | 0, _ => none
 | m + 1, i => (if i < (s_.size : Int) then (((if (0 : Int) ≤ i ∧ i < (s_.size : Int) then (if 97 ≤ ((bx s_ i).toNat : Int) then some (decide (((bx s_ i).toNat : Int) ≤ 122)) else some false) else none) : Option Bool).bind fun s_3 => (((if (0 : Int) ≤ i ∧ i < (s_.size : Int) then (if 48 ≤ ((bx s_ i).toNat : Int) then (if ((bx s_ i).toNat : Int) ≤ 57 then some true else some (decide (((bx s_ i).toNat : Int) = 95))) else some (decide (((bx s_ i).toNat : Int) = 95))) else none) : Option Bool).bind fun s_4 => (if s_3 = true then sr08_Name_L0 k s_ m (IntKind.i64.wrap (i + 1)) else (if s_4 = true then (if i = 0 then some (.inl false) else sr08_Name_L0 k s_ m (IntKind.i64.wrap (i + 1))) else some (.inl false))))) else some (.inr ()))
def sr08_Name (k : Nat) (s_ : ByteArray) : Option Bool := ((sr08_Name_L0 k s_ k 0 : Option (Bool ⊕ Unit)).bind fun o => Sum.elim (fun r => some r) (fun s_2 => (if 1 ≤ (s_.size : Int) then some (decide ((s_.size : Int) ≤ 24)) else some false)) o)
set_option maxHeartbeats 8000000 in
theorem sr08_Name_ok (ax : Axs) (hx : Plain ax) (k : Nat) (s_ : ByteArray) (v : Bool) (H : sr08_Name k s_ = some v) : Pure Try.prog (EE ax) [] 36 [.str s_] (.bool v) := by
 rw [sr08_Name] at H
 refine en [.tmp 2] 56 [0] (hx.no _ (by decide)) (fn36 ax) ?_
 intro h hh
 repeat apply TW.seq
 refine rk [0] [] hh ?_
 clear hh h
 intro h hh
 repeat apply TW.seq
 refine rk [0, 3] [] hh ?_
 clear hh h
 intro h hh
 obtain ⟨o, H1, H⟩ := bsome H
 repeat apply TW.seq
 refine cu [0] 0 (fun h bs => ∃ s_2 : Unit, o = .inr s_2 ∧ (h 0 = .str s_) ∧ bs = []) ?_ ?_
 ·skip
  repeat apply TW.seq
  apply TW.block
  repeat apply TW.seq
  refine TW.loopT [0, 3] (fun m h bs => ∃ (i : Int), sr08_Name_L0 k s_ m i = some o ∧ (h 0 = .str s_ ∧ h 3 = .int .i64 i) ∧ bs = []) ?_ k _ _ ?_
  rotate_left
  ·exact ⟨0, H1, kq hh, rfl⟩
  clear hh h H1
  rintro m h bs ⟨i, H1, hh, rfl⟩
  rcases m with _ | m
  ·rw [sr08_Name_L0] at H1; cases H1
  rw [sr08_Name_L0] at H1
  repeat apply TW.seq
  refine rk [0, 3, 9] [] hh ?_
  clear hh h
  intro h hh
  rcases isp H1 with ⟨c1, H1⟩ | ⟨c1, H1⟩
  rotate_left
  ·skip
   repeat apply TW.seq
   refine cf (f2 hh (decide_eq_false c1)) ?_
   refine xk ?_
   cases H1
   exact ce hh ⟨_, rfl, kq hh, rfl⟩
  repeat apply TW.seq
  refine ct (f2 hh (decide_eq_true c1)) ?_
  repeat apply TW.seq
  refine sk ?_
  repeat apply TW.seq
  apply TW.block
  obtain ⟨s_3, H2, H1⟩ := bsome H1
  repeat apply TW.seq
  refine cu [0, 3, 4] 0 (fun h bs => (h 0 = .str s_ ∧ h 3 = .int .i64 i ∧ h 4 = .bool s_3) ∧ bs = []) ?_ ?_
  ·skip
   obtain ⟨g2, H2⟩ := isg H2
   rcases isp H2 with ⟨c3, H2⟩ | ⟨c3, H2⟩
   rotate_left
   ·skip
    repeat apply TW.seq
    refine rk [0, 3, 4] [] (f3 hh (decide_eq_false c3) (bx_some g2)) ?_
    clear hh h
    intro h hh
    cases H2
    exact ce hh ⟨kq hh, rfl⟩
   repeat apply TW.seq
   refine rk [0, 3, 4] [] (f3 hh (decide_eq_true c3) (bx_some g2)) ?_
   clear hh h
   intro h hh
   cases H2
   exact ce hh ⟨kq hh, rfl⟩
  clear hh h
  rintro h bs ⟨hh, rfl⟩
  obtain ⟨s_4, H2, H1⟩ := bsome H1
  repeat apply TW.seq
  refine cu [0, 3, 4, 5] 0 (fun h bs => (h 0 = .str s_ ∧ h 3 = .int .i64 i ∧ h 4 = .bool s_3 ∧ h 5 = .bool s_4) ∧ bs = []) ?_ ?_
  ·skip
   obtain ⟨g4, H2⟩ := isg H2
   rcases isp H2 with ⟨c5, H2⟩ | ⟨c5, H2⟩
   rotate_left
   ·skip
    repeat apply TW.seq
    refine rk [0, 3, 4, 5] [] (f3 hh (decide_eq_false c5) (bx_some g4)) ?_
    clear hh h
    intro h hh
    cases H2
    exact ce hh ⟨kq hh, rfl⟩
   rcases isp H2 with ⟨c6, H2⟩ | ⟨c6, H2⟩
   rotate_left
   ·skip
    repeat apply TW.seq
    refine rk [0, 3, 4, 5] [] (f3 hh (decide_eq_true c5) (f2 (decide_eq_false c6) (bx_some g4))) ?_
    clear hh h
    intro h hh
    cases H2
    exact ce hh ⟨kq hh, rfl⟩
   repeat apply TW.seq
   refine rk [0, 3, 4, 5] [] (f3 hh (decide_eq_true c5) (f2 (decide_eq_true c6) (bx_some g4))) ?_
   clear hh h
   intro h hh
   cases H2
   exact ce hh ⟨kq hh, rfl⟩
  clear hh h
  rintro h bs ⟨hh, rfl⟩
  rcases isb H1 with ⟨c7, H1⟩ | ⟨c7, H1⟩
  rotate_left
  ·skip
   rcases isb H1 with ⟨c8, H1⟩ | ⟨c8, H1⟩
   rotate_left
   ·skip
    repeat apply TW.seq
    refine rk [0, 3, 47] [] (f3 hh c7 c8) ?_
    clear hh h
    intro h hh
    repeat apply TW.seq
    refine ct hh ?_
    repeat apply TW.seq
    refine rk [2] [] (f3 hh c7 c8) ?_
    clear hh h
    intro h hh
    cases H1
    obtain rfl := sinl H
    exact rt hh
   repeat apply TW.seq
   refine rk [0, 3, 47] [] (f3 hh c7 c8) ?_
   clear hh h
   intro h hh
   rcases isp H1 with ⟨c9, H1⟩ | ⟨c9, H1⟩
   rotate_left
   ·skip
    repeat apply TW.seq
    refine cf (f2 hh (decide_eq_false c9)) ?_
    repeat apply TW.seq
    refine sk ?_
    repeat apply TW.seq
    refine rk [0, 3] [] (f3 hh c7 c8) ?_
    clear hh h
    intro h hh
    exact rd m hh ⟨(IntKind.i64.wrap (i + 1)), H1, kq hh, rfl⟩
   repeat apply TW.seq
   refine ct (f2 hh (decide_eq_true c9)) ?_
   repeat apply TW.seq
   refine rk [2] [] (f3 hh c7 c8) ?_
   clear hh h
   intro h hh
   cases H1
   obtain rfl := sinl H
   exact rt hh
  repeat apply TW.seq
  refine rk [0, 3, 47] [] (f2 hh c7) ?_
  clear hh h
  intro h hh
  repeat apply TW.seq
  refine cf hh ?_
  repeat apply TW.seq
  refine sk ?_
  repeat apply TW.seq
  refine rk [0, 3] [] (f2 hh c7) ?_
  clear hh h
  intro h hh
  exact rd m hh ⟨(IntKind.i64.wrap (i + 1)), H1, kq hh, rfl⟩
 clear hh h
 rintro h bs ⟨s_2, rfl, hh, rfl⟩
 replace H := sinr H
 rcases isp H with ⟨c10, H⟩ | ⟨c10, H⟩
 rotate_left
 ·skip
  repeat apply TW.seq
  refine rk [2] [] (f2 hh (decide_eq_false c10)) ?_
  clear hh h
  intro h hh
  cases H
  exact rt hh
 repeat apply TW.seq
 refine rk [2] [] (f2 hh (decide_eq_true c10)) ?_
 clear hh h
 intro h hh
 cases H
 exact rt hh
def sr09_named_L1 (k : Nat) (l : List ByteArray) (i : Int) : Nat → Int → Option (Bool ⊕ Unit)
 | 0, _ => none
 | m + 1, k_ => (if k_ < i then (if (0 : Int) ≤ k_ ∧ k_ < (l.length : Int) then (if (gx l k_) = (gx l i) then some (.inl false) else sr09_named_L1 k l i m (IntKind.i64.wrap (k_ + 1))) else none) else some (.inr ()))
def sr09_named_L0 (k : Nat) (l : List ByteArray) : Nat → Int → Option (Bool ⊕ Unit)
 | 0, _ => none
 | m + 1, i => (if i < (l.length : Int) then (((if (0 : Int) ≤ i ∧ i < (l.length : Int) then ((sr08_Name k (gx l i)).bind fun rName => (if rName = true then ((sr09_named_L1 k l i k 0 : Option (Bool ⊕ Unit)).bind fun o => Sum.elim (fun r => some (.inl r)) (fun s_3 => some (.inr ())) o) else some (.inl false))) else none) : Option (Bool ⊕ Unit)).bind fun o2 => Sum.elim (fun r => some (.inl r)) (fun s_2 => sr09_named_L0 k l m (IntKind.i64.wrap (i + 1))) o2) else some (.inr ()))
def sr09_named (k : Nat) (l : List ByteArray) : Option Bool := ((sr09_named_L0 k l k 0 : Option (Bool ⊕ Unit)).bind fun o3 => Sum.elim (fun r => some r) (fun s_ => some true) o3)
set_option maxHeartbeats 8000000 in
theorem sr09_named_ok (ax : Axs) (hx : Plain ax) (k : Nat) (l : List ByteArray) (v : Bool) (H : sr09_named k l = some v) : Pure Try.prog (EE ax) [] 15 [strs l] (.bool v) := by
 rw [sr09_named] at H
 refine en [.tmp 2] 33 [0] (hx.no _ (by decide)) (fn15 ax) ?_
 intro h hh
 repeat apply TW.seq
 refine rk [0] [] hh ?_
 clear hh h
 intro h hh
 repeat apply TW.seq
 refine rk [0, 3] [] hh ?_
 clear hh h
 intro h hh
 obtain ⟨o3, H1, H⟩ := bsome H
 repeat apply TW.seq
 refine cu [] 0 (fun h bs => ∃ s_ : Unit, o3 = .inr s_ ∧ (True) ∧ bs = []) ?_ ?_
 ·skip
  repeat apply TW.seq
  apply TW.block
  repeat apply TW.seq
  refine TW.loopT [0, 3] (fun m h bs => ∃ (i : Int), sr09_named_L0 k l m i = some o3 ∧ (h 0 = strs l ∧ h 3 = .int .i64 i) ∧ bs = []) ?_ k _ _ ?_
  rotate_left
  ·exact ⟨0, H1, kq hh, rfl⟩
  clear hh h H1
  rintro m h bs ⟨i, H1, hh, rfl⟩
  rcases m with _ | m
  ·rw [sr09_named_L0] at H1; cases H1
  rw [sr09_named_L0] at H1
  repeat apply TW.seq
  refine rk [0, 3, 9] [] hh ?_
  clear hh h
  intro h hh
  rcases isp H1 with ⟨c1, H1⟩ | ⟨c1, H1⟩
  rotate_left
  ·skip
   repeat apply TW.seq
   refine cf (f2 hh (decide_eq_false c1)) ?_
   refine xk ?_
   cases H1
   exact ce hh ⟨_, rfl, kq hh, rfl⟩
  repeat apply TW.seq
  refine ct (f2 hh (decide_eq_true c1)) ?_
  repeat apply TW.seq
  refine sk ?_
  obtain ⟨o2, H2, H1⟩ := bsome H1
  repeat apply TW.seq
  refine cu [0, 3] 0 (fun h bs => ∃ s_2 : Unit, o2 = .inr s_2 ∧ (h 0 = strs l ∧ h 3 = .int .i64 i) ∧ bs = []) ?_ ?_
  ·skip
   repeat apply TW.seq
   apply TW.block
   obtain ⟨g2, H2⟩ := isg H2
   obtain ⟨rName, e3, H2⟩ := bsome H2
   repeat apply TW.seq
   refine rkc [0, 3, 4] [] [(.bool rName, stL [])] (f2 hh (gx_some g2)) ?_ ?_
   ·exact ⟨Call0.call ((sr08_Name_ok ax hx k (gx l i) rName e3 ).call _), trivial⟩
   clear hh h
   intro h hh
   repeat apply TW.seq
   refine rk [0, 3, 18] [] hh ?_
   clear hh h
   intro h hh
   rcases isb H2 with ⟨c4, H2⟩ | ⟨c4, H2⟩
   rotate_left
   ·skip
    repeat apply TW.seq
    refine ct (f2 hh c4) ?_
    repeat apply TW.seq
    refine rk [2] [] (f2 hh c4) ?_
    clear hh h
    intro h hh
    cases H2
    obtain rfl := sinm H1
    obtain rfl := sinl H
    exact rt hh
   repeat apply TW.seq
   refine cf (f2 hh c4) ?_
   repeat apply TW.seq
   refine sk ?_
   repeat apply TW.seq
   refine rk [0, 3, 5] [] (f2 hh c4) ?_
   clear hh h
   intro h hh
   obtain ⟨o, H3, H2⟩ := bsome H2
   repeat apply TW.seq
   refine cu [0, 3] 0 (fun h bs => ∃ s_3 : Unit, o = .inr s_3 ∧ (h 0 = strs l ∧ h 3 = .int .i64 i) ∧ bs = []) ?_ ?_
   ·skip
    repeat apply TW.seq
    apply TW.block
    repeat apply TW.seq
    refine TW.loopT [0, 3, 5] (fun m h bs => ∃ (k_ : Int), sr09_named_L1 k l i m k_ = some o ∧ (h 0 = strs l ∧ h 3 = .int .i64 i ∧ h 5 = .int .i64 k_) ∧ bs = []) ?_ k _ _ ?_
    rotate_left
    ·exact ⟨0, H3, kq hh, rfl⟩
    clear hh h H3
    rintro m h bs ⟨k_, H3, hh, rfl⟩
    rcases m with _ | m
    ·rw [sr09_named_L1] at H3; cases H3
    rw [sr09_named_L1] at H3
    repeat apply TW.seq
    refine rk [0, 3, 5, 21] [] (f2 hh c4) ?_
    clear hh h
    intro h hh
    rcases isp H3 with ⟨c5, H3⟩ | ⟨c5, H3⟩
    rotate_left
    ·skip
     repeat apply TW.seq
     refine cf (f2 hh (decide_eq_false c5)) ?_
     refine xk ?_
     cases H3
     exact ce hh ⟨_, rfl, kq hh, rfl⟩
    repeat apply TW.seq
    refine ct (f2 hh (decide_eq_true c5)) ?_
    repeat apply TW.seq
    refine sk ?_
    repeat apply TW.seq
    apply TW.block
    obtain ⟨g6, H3⟩ := isg H3
    repeat apply TW.seq
    refine dk 8 [0, 3, 5, 32] [] [] [] (f3 hh c4 (f2 (gx_some g6) (gx_some g2))) trivial trivial ?_
    clear hh h
    intro h hh
    rcases isp H3 with ⟨c7, H3⟩ | ⟨c7, H3⟩
    rotate_left
    ·skip
     repeat apply TW.seq
     refine cf (f2 hh (decide_eq_false c7)) ?_
     repeat apply TW.seq
     refine sk ?_
     repeat apply TW.seq
     refine rk [0, 3, 5] [] (f2 hh c4) ?_
     clear hh h
     intro h hh
     exact rd m hh ⟨(IntKind.i64.wrap (k_ + 1)), H3, kq hh, rfl⟩
    repeat apply TW.seq
    refine ct (f2 hh (decide_eq_true c7)) ?_
    repeat apply TW.seq
    refine rk [2] [] (f2 hh c4) ?_
    clear hh h
    intro h hh
    cases H3
    obtain rfl := sinm H2
    obtain rfl := sinm H1
    obtain rfl := sinl H
    exact rt hh
   clear hh h
   rintro h bs ⟨s_3, rfl, hh, rfl⟩
   replace H2 := sinr H2
   cases H2
   exact ce hh ⟨_, rfl, kq hh, rfl⟩
  clear hh h
  rintro h bs ⟨s_2, rfl, hh, rfl⟩
  replace H1 := sinr H1
  repeat apply TW.seq
  refine rk [0, 3] [] hh ?_
  clear hh h
  intro h hh
  exact rd m hh ⟨(IntKind.i64.wrap (i + 1)), H1, kq hh, rfl⟩
 clear hh h
 rintro h bs ⟨s_, rfl, hh, rfl⟩
 replace H := sinr H
 repeat apply TW.seq
 refine rk [2] [] hh ?_
 clear hh h
 intro h hh
 cases H
 exact rt hh
def sr09_isNode (k : Nat) (n : Net) (k_ : Int) : Option Bool := (if 0 ≤ k_ then some (decide (k_ < (n.nodes.length : Int))) else some false)
set_option maxHeartbeats 8000000 in
theorem sr09_isNode_ok (ax : Axs) (hx : Plain ax) (k : Nat) (n : Net) (k_ : Int) (v : Bool) (H : sr09_isNode k n k_ = some v) : Pure Try.prog (EE ax) [] 16 [eNet n, .int .i64 k_] (.bool v) := by
 rw [sr09_isNode] at H
 refine en [.tmp 4] 14 [0, 1] (hx.no _ (by decide)) (fn16 ax) ?_
 intro h hh
 repeat apply TW.seq
 refine rk [1, 2] [] hh ?_
 clear hh h
 intro h hh
 rcases isp H with ⟨c1, H⟩ | ⟨c1, H⟩
 rotate_left
 ·skip
  repeat apply TW.seq
  refine rk [4] [] (f2 hh (decide_eq_false c1)) ?_
  clear hh h
  intro h hh
  cases H
  exact rt hh
 repeat apply TW.seq
 refine rk [4] [] (f2 hh (decide_eq_true c1)) ?_
 clear hh h
 intro h hh
 cases H
 exact rt hh
def sr09_Check_L0 (k : Nat) (n : Net) : Nat → Int → Option (Int ⊕ Unit)
 | 0, _ => none
 | m + 1, i => (if i < (n.nodes.length : Int) then (if (0 : Int) ≤ i ∧ i < (n.nodes.length : Int) then (if ((gx n.nodes i).rules) < 0 then some (.inl 1) else (if 4000 < ((gx n.nodes i).rules) then some (.inl 1) else (if ((gx n.nodes i).entries) < 0 then some (.inl 1) else (if 100000 < ((gx n.nodes i).entries) then some (.inl 1) else sr09_Check_L0 k n m (IntKind.i64.wrap (i + 1)))))) else none) else some (.inr ()))
def sr09_Check_L1 (k : Nat) (n : Net) : Nat → Int → Option (Int ⊕ Unit)
 | 0, _ => none
 | m + 1, i2 => (if i2 < (n.links.length : Int) then (if (0 : Int) ≤ i2 ∧ i2 < (n.links.length : Int) then ((sr09_isNode k n ((gx n.links i2).frm)).bind fun risNode => (if risNode = true then ((sr09_isNode k n ((gx n.links i2).to)).bind fun risNode2 => (if risNode2 = true then (if ((gx n.links i2).frm) = ((gx n.links i2).to) then some (.inl 1) else (if ((gx n.links i2).cap) < 0 then some (.inl 1) else (if 1048576 < ((gx n.links i2).cap) then some (.inl 1) else sr09_Check_L1 k n m (IntKind.i64.wrap (i2 + 1))))) else some (.inl 1))) else some (.inl 1))) else none) else some (.inr ()))
def sr09_Check_L2 (k : Nat) (n : Net) : Nat → Int → Option (Int ⊕ Unit)
 | 0, _ => none
 | m + 1, i3 => (if i3 < (n.edges.length : Int) then (if (0 : Int) ≤ i3 ∧ i3 < (n.edges.length : Int) then ((sr09_isNode k n ((gx n.edges i3).node)).bind fun risNode3 => (if risNode3 = true then sr09_Check_L2 k n m (IntKind.i64.wrap (i3 + 1)) else some (.inl 1))) else none) else some (.inr ()))
def sr09_Check (k : Nat) (n : Net) : Option Int := (((if 200 < (n.nodes.length : Int) then some true else (if 2000 < (n.links.length : Int) then some true else some (decide (400 < (n.edges.length : Int))))) : Option Bool).bind fun s_ => (if s_ = true then some 2 else ((sr09_Names k n).bind fun rNames => ((sr09_named k rNames.1).bind fun rnamed => ((sr09_named k rNames.2).bind fun rnamed2 => (((if rnamed = true then some (!rnamed2) else some true) : Option Bool).bind fun s_2 => (if s_2 = true then some 4 else ((sr09_Check_L0 k n k 0 : Option (Int ⊕ Unit)).bind fun o3 => Sum.elim (fun r => some r) (fun s_3 => ((sr09_Check_L1 k n k 0 : Option (Int ⊕ Unit)).bind fun o2 => Sum.elim (fun r => some r) (fun s_4 => ((sr09_Check_L2 k n k 0 : Option (Int ⊕ Unit)).bind fun o => Sum.elim (fun r => some r) (fun s_5 => some 0) o)) o2)) o3))))))))
set_option maxHeartbeats 8000000 in
theorem sr09_Check_ok (ax : Axs) (hx : Plain ax) (k : Nat) (n : Net) (v : Int) (H : sr09_Check k n = some v) : Pure Try.prog (EE ax) [] 5 [eNet n] (.int .i64 v) := by
 rw [sr09_Check] at H
 refine en [.tmp 2] 130 [0] (hx.no _ (by decide)) (fn5 ax) ?_
 intro h hh
 repeat apply TW.seq
 refine rk [1] [] hh ?_
 clear hh h
 intro h hh
 obtain ⟨s_, H1, H⟩ := bsome H
 repeat apply TW.seq
 refine cu [1, 27] 1 (fun h bs => (h 1 = .ptr 0 0 3 ∧ h 27 = .bool s_) ∧ bs = [.cells true 3 [lNode n.nodes, lLink n.links, lEdge n.edges]]) ?_ ?_
 ·skip
  rcases isp H1 with ⟨c1, H1⟩ | ⟨c1, H1⟩
  rotate_left
  ·skip
   rcases isp H1 with ⟨c2, H1⟩ | ⟨c2, H1⟩
   rotate_left
   ·skip
    repeat apply TW.seq
    refine rk [1, 27] [] (f3 hh (decide_eq_false c1) (decide_eq_false c2)) ?_
    clear hh h
    intro h hh
    cases H1
    exact ce hh ⟨kq hh, rfl⟩
   repeat apply TW.seq
   refine rk [1, 27] [] (f3 hh (decide_eq_false c1) (decide_eq_true c2)) ?_
   clear hh h
   intro h hh
   cases H1
   exact ce hh ⟨kq hh, rfl⟩
  repeat apply TW.seq
  refine rk [1, 27] [] (f2 hh (decide_eq_true c1)) ?_
  clear hh h
  intro h hh
  cases H1
  exact ce hh ⟨kq hh, rfl⟩
 clear hh h
 rintro h bs ⟨hh, rfl⟩
 rcases isb H with ⟨c3, H⟩ | ⟨c3, H⟩
 rotate_left
 ·skip
  repeat apply TW.seq
  refine cf (f2 hh c3) ?_
  repeat apply TW.seq
  refine sk ?_
  obtain ⟨rNames, e4, H⟩ := bsome H
  repeat apply TW.seq
  refine rkc [1, 3, 4] [] [(.tup [strs rNames.1, strs rNames.2], stL [.cells true 3 [lNode n.nodes, lLink n.links, lEdge n.edges]])] (f2 hh c3) ?_ ?_
  ·exact ⟨Call0.call (Pure.clr (sr09_Names_ok ax hx k n rNames e4 ) (by first | rfl | simp only [c3])), trivial⟩
  clear hh h
  intro h hh
  obtain ⟨rnamed, e5, H⟩ := bsome H
  repeat apply TW.seq
  refine rkc [1, 4, 5] [] [(.bool rnamed, stL [.cells true 3 [lNode n.nodes, lLink n.links, lEdge n.edges]])] (f2 hh c3) ?_ ?_
  ·exact ⟨Call0.call (Pure.clr (sr09_named_ok ax hx k rNames.1 rnamed e5 ) (by first | rfl | simp only [c3])), trivial⟩
  clear hh h
  intro h hh
  obtain ⟨rnamed2, e6, H⟩ := bsome H
  repeat apply TW.seq
  refine rkc [1, 5, 6] [] [(.bool rnamed2, stL [.cells true 3 [lNode n.nodes, lLink n.links, lEdge n.edges]])] (f2 hh c3) ?_ ?_
  ·exact ⟨Call0.call (Pure.clr (sr09_named_ok ax hx k rNames.2 rnamed2 e6 ) (by first | rfl | simp only [c3])), trivial⟩
  clear hh h
  intro h hh
  obtain ⟨s_2, H1, H⟩ := bsome H
  repeat apply TW.seq
  refine cu [1, 42] 1 (fun h bs => (h 1 = .ptr 0 0 3 ∧ h 42 = .bool s_2) ∧ bs = [.cells true 3 [lNode n.nodes, lLink n.links, lEdge n.edges]]) ?_ ?_
  ·skip
   rcases isb H1 with ⟨c7, H1⟩ | ⟨c7, H1⟩
   rotate_left
   ·skip
    repeat apply TW.seq
    refine rk [1, 42] [] (f3 hh c7 c3) ?_
    clear hh h
    intro h hh
    cases H1
    exact ce hh ⟨kq hh, rfl⟩
   repeat apply TW.seq
   refine rk [1, 42] [] (f3 hh c7 c3) ?_
   clear hh h
   intro h hh
   cases H1
   exact ce hh ⟨kq hh, rfl⟩
  clear hh h
  rintro h bs ⟨hh, rfl⟩
  rcases isb H with ⟨c8, H⟩ | ⟨c8, H⟩
  rotate_left
  ·skip
   repeat apply TW.seq
   refine cf (f2 hh c8) ?_
   repeat apply TW.seq
   refine sk ?_
   repeat apply TW.seq
   refine rk [1, 7] [] (f3 hh c3 c8) ?_
   clear hh h
   intro h hh
   obtain ⟨o3, H1, H⟩ := bsome H
   repeat apply TW.seq
   refine cu [1] 1 (fun h bs => ∃ s_3 : Unit, o3 = .inr s_3 ∧ (h 1 = .ptr 0 0 3) ∧ bs = [.cells true 3 [lNode n.nodes, lLink n.links, lEdge n.edges]]) ?_ ?_
   ·skip
    repeat apply TW.seq
    apply TW.block
    repeat apply TW.seq
    refine TW.loopT [1, 7] (fun m h bs => ∃ (i : Int), sr09_Check_L0 k n m i = some o3 ∧ (h 1 = .ptr 0 0 3 ∧ h 7 = .int .i64 i) ∧ bs = [.cells true 3 [lNode n.nodes, lLink n.links, lEdge n.edges]]) ?_ k _ _ ?_
    rotate_left
    ·exact ⟨0, H1, kq hh, rfl⟩
    clear hh h H1
    rintro m h bs ⟨i, H1, hh, rfl⟩
    rcases m with _ | m
    ·rw [sr09_Check_L0] at H1; cases H1
    rw [sr09_Check_L0] at H1
    repeat apply TW.seq
    refine rk [1, 7, 47] [] (f3 hh c3 c8) ?_
    clear hh h
    intro h hh
    rcases isp H1 with ⟨c9, H1⟩ | ⟨c9, H1⟩
    rotate_left
    ·skip
     repeat apply TW.seq
     refine cf (f2 hh (decide_eq_false c9)) ?_
     refine xk ?_
     cases H1
     exact ce hh ⟨_, rfl, kq hh, rfl⟩
    repeat apply TW.seq
    refine ct (f2 hh (decide_eq_true c9)) ?_
    repeat apply TW.seq
    refine sk ?_
    repeat apply TW.seq
    apply TW.block
    obtain ⟨g10, H1⟩ := isg H1
    repeat apply TW.seq
    refine rk [1, 7, 8] [] (f3 hh c3 (f2 c8 (gx_some g10))) ?_
    clear hh h
    intro h hh
    rcases isp H1 with ⟨c11, H1⟩ | ⟨c11, H1⟩
    rotate_left
    ·skip
     rcases isp H1 with ⟨c12, H1⟩ | ⟨c12, H1⟩
     rotate_left
     ·skip
      rcases isp H1 with ⟨c13, H1⟩ | ⟨c13, H1⟩
      rotate_left
      ·skip
       repeat apply TW.seq
       refine rk [1, 7, 72] [] (f3 hh (decide_eq_false c11) (f3 (decide_eq_false c12) (decide_eq_false c13) (f2 c3 c8))) ?_
       clear hh h
       intro h hh
       rcases isp H1 with ⟨c14, H1⟩ | ⟨c14, H1⟩
       rotate_left
       ·skip
        repeat apply TW.seq
        refine cf (f2 hh (decide_eq_false c14)) ?_
        repeat apply TW.seq
        refine sk ?_
        repeat apply TW.seq
        refine rk [1, 7] [] (f3 hh c3 c8) ?_
        clear hh h
        intro h hh
        exact rd m hh ⟨(IntKind.i64.wrap (i + 1)), H1, kq hh, rfl⟩
       repeat apply TW.seq
       refine ct (f2 hh (decide_eq_true c14)) ?_
       repeat apply TW.seq
       refine rk [2] [] (f3 hh c3 c8) ?_
       clear hh h
       intro h hh
       cases H1
       obtain rfl := sinl H
       exact rt hh
      repeat apply TW.seq
      refine rk [1, 7, 72] [] (f3 hh (decide_eq_false c11) (f3 (decide_eq_false c12) (decide_eq_true c13) (f2 c3 c8))) ?_
      clear hh h
      intro h hh
      repeat apply TW.seq
      refine ct hh ?_
      repeat apply TW.seq
      refine rk [2] [] (f3 hh c3 c8) ?_
      clear hh h
      intro h hh
      cases H1
      obtain rfl := sinl H
      exact rt hh
     repeat apply TW.seq
     refine rk [1, 7, 72] [] (f3 hh (decide_eq_false c11) (f3 (decide_eq_true c12) c3 c8)) ?_
     clear hh h
     intro h hh
     repeat apply TW.seq
     refine ct hh ?_
     repeat apply TW.seq
     refine rk [2] [] (f3 hh c3 c8) ?_
     clear hh h
     intro h hh
     cases H1
     obtain rfl := sinl H
     exact rt hh
    repeat apply TW.seq
    refine rk [1, 7, 72] [] (f3 hh (decide_eq_true c11) (f2 c3 c8)) ?_
    clear hh h
    intro h hh
    repeat apply TW.seq
    refine ct hh ?_
    repeat apply TW.seq
    refine rk [2] [] (f3 hh c3 c8) ?_
    clear hh h
    intro h hh
    cases H1
    obtain rfl := sinl H
    exact rt hh
   clear hh h
   rintro h bs ⟨s_3, rfl, hh, rfl⟩
   replace H := sinr H
   repeat apply TW.seq
   refine rk [1, 9] [] (f3 hh c3 c8) ?_
   clear hh h
   intro h hh
   obtain ⟨o2, H1, H⟩ := bsome H
   repeat apply TW.seq
   refine cu [1] 1 (fun h bs => ∃ s_4 : Unit, o2 = .inr s_4 ∧ (h 1 = .ptr 0 0 3) ∧ bs = [.cells true 3 [lNode n.nodes, lLink n.links, lEdge n.edges]]) ?_ ?_
   ·skip
    repeat apply TW.seq
    apply TW.block
    repeat apply TW.seq
    refine TW.loopT [1, 9] (fun m h bs => ∃ (i2 : Int), sr09_Check_L1 k n m i2 = some o2 ∧ (h 1 = .ptr 0 0 3 ∧ h 9 = .int .i64 i2) ∧ bs = [.cells true 3 [lNode n.nodes, lLink n.links, lEdge n.edges]]) ?_ k _ _ ?_
    rotate_left
    ·exact ⟨0, H1, kq hh, rfl⟩
    clear hh h H1
    rintro m h bs ⟨i2, H1, hh, rfl⟩
    rcases m with _ | m
    ·rw [sr09_Check_L1] at H1; cases H1
    rw [sr09_Check_L1] at H1
    repeat apply TW.seq
    refine rk [1, 9, 77] [] (f3 hh c3 c8) ?_
    clear hh h
    intro h hh
    rcases isp H1 with ⟨c15, H1⟩ | ⟨c15, H1⟩
    rotate_left
    ·skip
     repeat apply TW.seq
     refine cf (f2 hh (decide_eq_false c15)) ?_
     refine xk ?_
     cases H1
     exact ce hh ⟨_, rfl, kq hh, rfl⟩
    repeat apply TW.seq
    refine ct (f2 hh (decide_eq_true c15)) ?_
    repeat apply TW.seq
    refine sk ?_
    repeat apply TW.seq
    apply TW.block
    obtain ⟨g16, H1⟩ := isg H1
    repeat apply TW.seq
    refine rk [1, 9, 10] [] (f3 hh c3 (f2 c8 (gx_some g16))) ?_
    clear hh h
    intro h hh
    obtain ⟨risNode, e17, H1⟩ := bsome H1
    rcases isb H1 with ⟨c18, H1⟩ | ⟨c18, H1⟩
    rotate_left
    ·skip
     repeat apply TW.seq
     refine rkc [1, 9, 113] [] [(.bool risNode, stL [.cells true 3 [lNode n.nodes, lLink n.links, lEdge n.edges], .cells true 3 [.int .i64 ((gx n.links i2).frm), .int .i64 ((gx n.links i2).to), .int .i64 ((gx n.links i2).cap)]])] (f3 hh c18 (f2 c3 c8)) ?_ ?_
     ·exact ⟨Call0.call (Pure.clr (sr09_isNode_ok ax hx k n ((gx n.links i2).frm) risNode e17 ) (by first | rfl | simp only [c3, c8, c18])), trivial⟩
     clear hh h
     intro h hh
     repeat apply TW.seq
     refine ct hh ?_
     repeat apply TW.seq
     refine rk [2] [] (f3 hh c3 (f2 c8 c18)) ?_
     clear hh h
     intro h hh
     cases H1
     obtain rfl := sinl H
     exact rt hh
    obtain ⟨risNode2, e19, H1⟩ := bsome H1
    rcases isb H1 with ⟨c20, H1⟩ | ⟨c20, H1⟩
    rotate_left
    ·skip
     repeat apply TW.seq
     refine rkc [1, 9, 113] [] [(.bool risNode, stL [.cells true 3 [lNode n.nodes, lLink n.links, lEdge n.edges], .cells true 3 [.int .i64 ((gx n.links i2).frm), .int .i64 ((gx n.links i2).to), .int .i64 ((gx n.links i2).cap)]]), (.bool risNode2, stL [.cells true 3 [lNode n.nodes, lLink n.links, lEdge n.edges], .cells true 3 [.int .i64 ((gx n.links i2).frm), .int .i64 ((gx n.links i2).to), .int .i64 ((gx n.links i2).cap)]])] (f3 hh c18 (f3 c20 c3 c8)) ?_ ?_
     ·exact ⟨Call0.call (Pure.clr (sr09_isNode_ok ax hx k n ((gx n.links i2).frm) risNode e17 ) (by first | rfl | simp only [c3, c8, c18, c20])), Call0.call (Pure.clr (sr09_isNode_ok ax hx k n ((gx n.links i2).to) risNode2 e19 ) (by first | rfl | simp only [c3, c8, c18, c20])), trivial⟩
     clear hh h
     intro h hh
     repeat apply TW.seq
     refine ct hh ?_
     repeat apply TW.seq
     refine rk [2] [] (f3 hh c3 (f3 c8 c18 c20)) ?_
     clear hh h
     intro h hh
     cases H1
     obtain rfl := sinl H
     exact rt hh
    rcases isp H1 with ⟨c21, H1⟩ | ⟨c21, H1⟩
    rotate_left
    ·skip
     rcases isp H1 with ⟨c22, H1⟩ | ⟨c22, H1⟩
     rotate_left
     ·skip
      repeat apply TW.seq
      refine rkc [1, 9, 113] [] [(.bool risNode, stL [.cells true 3 [lNode n.nodes, lLink n.links, lEdge n.edges], .cells true 3 [.int .i64 ((gx n.links i2).frm), .int .i64 ((gx n.links i2).to), .int .i64 ((gx n.links i2).cap)]]), (.bool risNode2, stL [.cells true 3 [lNode n.nodes, lLink n.links, lEdge n.edges], .cells true 3 [.int .i64 ((gx n.links i2).frm), .int .i64 ((gx n.links i2).to), .int .i64 ((gx n.links i2).cap)]])] (f3 hh c18 (f3 c20 (decide_eq_false c21) (f3 (decide_eq_false c22) c3 c8))) ?_ ?_
      ·exact ⟨Call0.call (Pure.clr (sr09_isNode_ok ax hx k n ((gx n.links i2).frm) risNode e17 ) (by first | rfl | simp only [c3, c8, c18, c20])), Call0.call (Pure.clr (sr09_isNode_ok ax hx k n ((gx n.links i2).to) risNode2 e19 ) (by first | rfl | simp only [c3, c8, c18, c20])), trivial⟩
      clear hh h
      intro h hh
      rcases isp H1 with ⟨c23, H1⟩ | ⟨c23, H1⟩
      rotate_left
      ·skip
       repeat apply TW.seq
       refine cf (f2 hh (decide_eq_false c23)) ?_
       repeat apply TW.seq
       refine sk ?_
       repeat apply TW.seq
       refine rk [1, 9] [] (f3 hh c3 (f3 c8 c18 c20)) ?_
       clear hh h
       intro h hh
       exact rd m hh ⟨(IntKind.i64.wrap (i2 + 1)), H1, kq hh, rfl⟩
      repeat apply TW.seq
      refine ct (f2 hh (decide_eq_true c23)) ?_
      repeat apply TW.seq
      refine rk [2] [] (f3 hh c3 (f3 c8 c18 c20)) ?_
      clear hh h
      intro h hh
      cases H1
      obtain rfl := sinl H
      exact rt hh
     repeat apply TW.seq
     refine rkc [1, 9, 113] [] [(.bool risNode, stL [.cells true 3 [lNode n.nodes, lLink n.links, lEdge n.edges], .cells true 3 [.int .i64 ((gx n.links i2).frm), .int .i64 ((gx n.links i2).to), .int .i64 ((gx n.links i2).cap)]]), (.bool risNode2, stL [.cells true 3 [lNode n.nodes, lLink n.links, lEdge n.edges], .cells true 3 [.int .i64 ((gx n.links i2).frm), .int .i64 ((gx n.links i2).to), .int .i64 ((gx n.links i2).cap)]])] (f3 hh c18 (f3 c20 (decide_eq_false c21) (f3 (decide_eq_true c22) c3 c8))) ?_ ?_
     ·exact ⟨Call0.call (Pure.clr (sr09_isNode_ok ax hx k n ((gx n.links i2).frm) risNode e17 ) (by first | rfl | simp only [c3, c8, c18, c20])), Call0.call (Pure.clr (sr09_isNode_ok ax hx k n ((gx n.links i2).to) risNode2 e19 ) (by first | rfl | simp only [c3, c8, c18, c20])), trivial⟩
     clear hh h
     intro h hh
     repeat apply TW.seq
     refine ct hh ?_
     repeat apply TW.seq
     refine rk [2] [] (f3 hh c3 (f3 c8 c18 c20)) ?_
     clear hh h
     intro h hh
     cases H1
     obtain rfl := sinl H
     exact rt hh
    repeat apply TW.seq
    refine rkc [1, 9, 113] [] [(.bool risNode, stL [.cells true 3 [lNode n.nodes, lLink n.links, lEdge n.edges], .cells true 3 [.int .i64 ((gx n.links i2).frm), .int .i64 ((gx n.links i2).to), .int .i64 ((gx n.links i2).cap)]]), (.bool risNode2, stL [.cells true 3 [lNode n.nodes, lLink n.links, lEdge n.edges], .cells true 3 [.int .i64 ((gx n.links i2).frm), .int .i64 ((gx n.links i2).to), .int .i64 ((gx n.links i2).cap)]])] (f3 hh c18 (f3 c20 (decide_eq_true c21) (f2 c3 c8))) ?_ ?_
    ·exact ⟨Call0.call (Pure.clr (sr09_isNode_ok ax hx k n ((gx n.links i2).frm) risNode e17 ) (by first | rfl | simp only [c3, c8, c18, c20])), Call0.call (Pure.clr (sr09_isNode_ok ax hx k n ((gx n.links i2).to) risNode2 e19 ) (by first | rfl | simp only [c3, c8, c18, c20])), trivial⟩
    clear hh h
    intro h hh
    repeat apply TW.seq
    refine ct hh ?_
    repeat apply TW.seq
    refine rk [2] [] (f3 hh c3 (f3 c8 c18 c20)) ?_
    clear hh h
    intro h hh
    cases H1
    obtain rfl := sinl H
    exact rt hh
   clear hh h
   rintro h bs ⟨s_4, rfl, hh, rfl⟩
   replace H := sinr H
   repeat apply TW.seq
   refine rk [1, 11] [] (f3 hh c3 c8) ?_
   clear hh h
   intro h hh
   obtain ⟨o, H1, H⟩ := bsome H
   repeat apply TW.seq
   refine cu [] 1 (fun h bs => ∃ s_5 : Unit, o = .inr s_5 ∧ (True) ∧ bs = [.cells true 3 [lNode n.nodes, lLink n.links, lEdge n.edges]]) ?_ ?_
   ·skip
    repeat apply TW.seq
    apply TW.block
    repeat apply TW.seq
    refine TW.loopT [1, 11] (fun m h bs => ∃ (i3 : Int), sr09_Check_L2 k n m i3 = some o ∧ (h 1 = .ptr 0 0 3 ∧ h 11 = .int .i64 i3) ∧ bs = [.cells true 3 [lNode n.nodes, lLink n.links, lEdge n.edges]]) ?_ k _ _ ?_
    rotate_left
    ·exact ⟨0, H1, kq hh, rfl⟩
    clear hh h H1
    rintro m h bs ⟨i3, H1, hh, rfl⟩
    rcases m with _ | m
    ·rw [sr09_Check_L2] at H1; cases H1
    rw [sr09_Check_L2] at H1
    repeat apply TW.seq
    refine rk [1, 11, 118] [] (f3 hh c3 c8) ?_
    clear hh h
    intro h hh
    rcases isp H1 with ⟨c24, H1⟩ | ⟨c24, H1⟩
    rotate_left
    ·skip
     repeat apply TW.seq
     refine cf (f2 hh (decide_eq_false c24)) ?_
     refine xk ?_
     cases H1
     exact ce hh ⟨_, rfl, kq hh, rfl⟩
    repeat apply TW.seq
    refine ct (f2 hh (decide_eq_true c24)) ?_
    repeat apply TW.seq
    refine sk ?_
    repeat apply TW.seq
    apply TW.block
    obtain ⟨g25, H1⟩ := isg H1
    obtain ⟨risNode3, e26, H1⟩ := bsome H1
    repeat apply TW.seq
    refine dk 7 [1, 11, 129] [] [] [(.bool risNode3, stL [.cells true 3 [lNode n.nodes, lLink n.links, lEdge n.edges]])] (f3 hh c3 (f2 c8 (gx_some g25))) trivial ?_ ?_
    ·exact ⟨Call0.call (Pure.clr (sr09_isNode_ok ax hx k n ((gx n.edges i3).node) risNode3 e26 ) (by first | rfl | simp only [c3, c8])), trivial⟩
    clear hh h
    intro h hh
    rcases isb H1 with ⟨c27, H1⟩ | ⟨c27, H1⟩
    rotate_left
    ·skip
     repeat apply TW.seq
     refine ct (f2 hh c27) ?_
     repeat apply TW.seq
     refine rk [2] [] (f3 hh c3 (f2 c8 c27)) ?_
     clear hh h
     intro h hh
     cases H1
     obtain rfl := sinl H
     exact rt hh
    repeat apply TW.seq
    refine cf (f2 hh c27) ?_
    repeat apply TW.seq
    refine sk ?_
    repeat apply TW.seq
    refine rk [1, 11] [] (f3 hh c3 (f2 c8 c27)) ?_
    clear hh h
    intro h hh
    exact rd m hh ⟨(IntKind.i64.wrap (i3 + 1)), H1, kq hh, rfl⟩
   clear hh h
   rintro h bs ⟨s_5, rfl, hh, rfl⟩
   replace H := sinr H
   repeat apply TW.seq
   refine rk [2] [] (f3 hh c3 c8) ?_
   clear hh h
   intro h hh
   cases H
   exact rt hh
  repeat apply TW.seq
  refine ct (f2 hh c8) ?_
  repeat apply TW.seq
  refine rk [2] [] (f3 hh c3 c8) ?_
  clear hh h
  intro h hh
  cases H
  exact rt hh
 repeat apply TW.seq
 refine ct (f2 hh c3) ?_
 repeat apply TW.seq
 refine rk [2] [] (f2 hh c3) ?_
 clear hh h
 intro h hh
 cases H
 exact rt hh
end Go.Proofs.Ytjgbkegkcbcjaaa
namespace Go.Proofs.Ytjgbkegkcbcjaaa
open Go Go.RowKit
set_option maxRecDepth 100000
def sr06_RightHead_L0 (k : Nat) (h_ : Ar 10) : Nat → Int → Option (Bool ⊕ Unit)
 | 0, _ => none
 | m + 1, i => (if i < 10 then (if (0 : Int) ≤ i ∧ i < (10 : Int) then (if (gx h_.l i) < 0 then some (.inl false) else (if 65535 < (gx h_.l i) then some (.inl false) else sr06_RightHead_L0 k h_ m (IntKind.i64.wrap (i + 1)))) else none) else some (.inr ()))
def sr06_RightHead (k : Nat) (h_ : Ar 10) : Option Bool := ((sr06_RightHead_L0 k h_ k 0 : Option (Bool ⊕ Unit)).bind fun o => Sum.elim (fun r => some r) (fun s_ => some true) o)
set_option maxHeartbeats 8000000 in
theorem sr06_RightHead_ok (ax : Axs) (hx : Plain ax) (k : Nat) (h_ : Ar 10) (v : Bool) (H : sr06_RightHead k h_ = some v) : Pure Try.prog (EE ax) [] 7 [.agg (h_.l.map (T.int .i64))] (.bool v) := by
 rw [sr06_RightHead] at H
 refine en [.tmp 2] 18 [0] (hx.no _ (by decide)) (fn7 ax) ?_
 intro h hh
 repeat apply TW.seq
 refine rk [1] [] hh ?_
 clear hh h
 intro h hh
 repeat apply TW.seq
 refine rk [1, 3] [] hh ?_
 clear hh h
 intro h hh
 obtain ⟨o, H1, H⟩ := bsome H
 repeat apply TW.seq
 refine cu [] 1 (fun h bs => ∃ s_ : Unit, o = .inr s_ ∧ (True) ∧ bs = [.cells true 10 (h_.l.map (T.int .i64))]) ?_ ?_
 ·skip
  repeat apply TW.seq
  apply TW.block
  repeat apply TW.seq
  refine TW.loopT [1, 3] (fun m h bs => ∃ (i : Int), sr06_RightHead_L0 k h_ m i = some o ∧ (h 1 = .ptr 0 0 10 ∧ h 3 = .int .i64 i) ∧ bs = [.cells true 10 (h_.l.map (T.int .i64))]) ?_ k _ _ ?_
  rotate_left
  ·exact ⟨0, H1, kq hh, rfl⟩
  clear hh h H1
  rintro m h bs ⟨i, H1, hh, rfl⟩
  rcases m with _ | m
  ·rw [sr06_RightHead_L0] at H1; cases H1
  rw [sr06_RightHead_L0] at H1
  repeat apply TW.seq
  refine rk [1, 3, 5] [] hh ?_
  clear hh h
  intro h hh
  rcases isp H1 with ⟨c1, H1⟩ | ⟨c1, H1⟩
  rotate_left
  ·skip
   repeat apply TW.seq
   refine cf (f2 hh (decide_eq_false c1)) ?_
   refine xk ?_
   cases H1
   exact ce hh ⟨_, rfl, kq hh, rfl⟩
  repeat apply TW.seq
  refine ct (f2 hh (decide_eq_true c1)) ?_
  repeat apply TW.seq
  refine sk ?_
  repeat apply TW.seq
  apply TW.block
  obtain ⟨g2, H1⟩ := isg H1
  rcases isp H1 with ⟨c3, H1⟩ | ⟨c3, H1⟩
  rotate_left
  ·skip
   repeat apply TW.seq
   refine rk [1, 3, 17] [] (f3 hh (decide_eq_false c3) (arIx h_ g2)) ?_
   clear hh h
   intro h hh
   rcases isp H1 with ⟨c4, H1⟩ | ⟨c4, H1⟩
   rotate_left
   ·skip
    repeat apply TW.seq
    refine cf (f2 hh (decide_eq_false c4)) ?_
    repeat apply TW.seq
    refine sk ?_
    repeat apply TW.seq
    refine rk [1, 3] [] hh ?_
    clear hh h
    intro h hh
    exact rd m hh ⟨(IntKind.i64.wrap (i + 1)), H1, kq hh, rfl⟩
   repeat apply TW.seq
   refine ct (f2 hh (decide_eq_true c4)) ?_
   repeat apply TW.seq
   refine rk [2] [] hh ?_
   clear hh h
   intro h hh
   cases H1
   obtain rfl := sinl H
   exact rt hh
  repeat apply TW.seq
  refine rk [1, 3, 17] [] (f3 hh (decide_eq_true c3) (arIx h_ g2)) ?_
  clear hh h
  intro h hh
  repeat apply TW.seq
  refine ct hh ?_
  repeat apply TW.seq
  refine rk [2] [] hh ?_
  clear hh h
  intro h hh
  cases H1
  obtain rfl := sinl H
  exact rt hh
 clear hh h
 rintro h bs ⟨s_, rfl, hh, rfl⟩
 replace H := sinr H
 repeat apply TW.seq
 refine rk [2] [] hh ?_
 clear hh h
 intro h hh
 cases H
 exact rt hh
def sr06_within_L0 (k : Nat) (b : Ar 10) (m_ : Ar 10) : Nat → Int → Option (Bool ⊕ Unit)
 | 0, _ => none
 | m + 1, i => (if i < 10 then (if (0 : Int) ≤ i ∧ i < (10 : Int) then (if (iAnd .i64 (gx b.l i) (gx m_.l i)) ≠ (gx b.l i) then some (.inl false) else sr06_within_L0 k b m_ m (IntKind.i64.wrap (i + 1))) else none) else some (.inr ()))
def sr06_within (k : Nat) (b : Ar 10) (m_ : Ar 10) : Option Bool := ((sr06_within_L0 k b m_ k 0 : Option (Bool ⊕ Unit)).bind fun o => Sum.elim (fun r => some r) (fun s_ => some true) o)
set_option maxHeartbeats 8000000 in
theorem sr06_within_ok (ax : Axs) (hx : Plain ax) (k : Nat) (b : Ar 10) (m_ : Ar 10) (v : Bool) (H : sr06_within k b m_ = some v) : Pure Try.prog (EE ax) [] 37 [.agg (b.l.map (T.int .i64)), .agg (m_.l.map (T.int .i64))] (.bool v) := by
 rw [sr06_within] at H
 refine en [.tmp 4] 21 [0, 1] (hx.no _ (by decide)) (fn37 ax) ?_
 intro h hh
 repeat apply TW.seq
 refine rk [2, 3] [] hh ?_
 clear hh h
 intro h hh
 repeat apply TW.seq
 refine rk [2, 3, 5] [] hh ?_
 clear hh h
 intro h hh
 obtain ⟨o, H1, H⟩ := bsome H
 repeat apply TW.seq
 refine cu [] 2 (fun h bs => ∃ s_ : Unit, o = .inr s_ ∧ (True) ∧ bs = [.cells true 10 (b.l.map (T.int .i64)), .cells true 10 (m_.l.map (T.int .i64))]) ?_ ?_
 ·skip
  repeat apply TW.seq
  apply TW.block
  repeat apply TW.seq
  refine TW.loopT [2, 3, 5] (fun m h bs => ∃ (i : Int), sr06_within_L0 k b m_ m i = some o ∧ (h 2 = .ptr 0 0 10 ∧ h 3 = .ptr 1 0 10 ∧ h 5 = .int .i64 i) ∧ bs = [.cells true 10 (b.l.map (T.int .i64)), .cells true 10 (m_.l.map (T.int .i64))]) ?_ k _ _ ?_
  rotate_left
  ·exact ⟨0, H1, kq hh, rfl⟩
  clear hh h H1
  rintro m h bs ⟨i, H1, hh, rfl⟩
  rcases m with _ | m
  ·rw [sr06_within_L0] at H1; cases H1
  rw [sr06_within_L0] at H1
  repeat apply TW.seq
  refine rk [2, 3, 5, 7] [] hh ?_
  clear hh h
  intro h hh
  rcases isp H1 with ⟨c1, H1⟩ | ⟨c1, H1⟩
  rotate_left
  ·skip
   repeat apply TW.seq
   refine cf (f2 hh (decide_eq_false c1)) ?_
   refine xk ?_
   cases H1
   exact ce hh ⟨_, rfl, kq hh, rfl⟩
  repeat apply TW.seq
  refine ct (f2 hh (decide_eq_true c1)) ?_
  repeat apply TW.seq
  refine sk ?_
  repeat apply TW.seq
  apply TW.block
  obtain ⟨g2, H1⟩ := isg H1
  repeat apply TW.seq
  refine dk 10 [2, 3, 5, 20] [] [] [] (f3 hh (arIx b g2) (arIx m_ g2)) trivial trivial ?_
  clear hh h
  intro h hh
  rcases isp H1 with ⟨c3, H1⟩ | ⟨c3, H1⟩
  rotate_left
  ·skip
   repeat apply TW.seq
   refine cf (f2 hh (decide_eq_false c3)) ?_
   repeat apply TW.seq
   refine sk ?_
   repeat apply TW.seq
   refine rk [2, 3, 5] [] hh ?_
   clear hh h
   intro h hh
   exact rd m hh ⟨(IntKind.i64.wrap (i + 1)), H1, kq hh, rfl⟩
  repeat apply TW.seq
  refine ct (f2 hh (decide_eq_true c3)) ?_
  repeat apply TW.seq
  refine rk [4] [] hh ?_
  clear hh h
  intro h hh
  cases H1
  obtain rfl := sinl H
  exact rt hh
 clear hh h
 rintro h bs ⟨s_, rfl, hh, rfl⟩
 replace H := sinr H
 repeat apply TW.seq
 refine rk [4] [] hh ?_
 clear hh h
 intro h hh
 cases H
 exact rt hh
def sr06_Right (k : Nat) (p : Pat) : Option Bool := ((sr06_RightHead k p.mask).bind fun rRightHead => ((sr06_RightHead k p.bits).bind fun rRightHead2 => (if rRightHead = true then (if rRightHead2 = true then ((sr06_within k p.bits p.mask).bind fun rwithin => some rwithin) else some false) else some false)))
set_option maxHeartbeats 8000000 in
theorem sr06_Right_ok (ax : Axs) (hx : Plain ax) (k : Nat) (p : Pat) (v : Bool) (H : sr06_Right k p = some v) : Pure Try.prog (EE ax) [] 17 [ePat p] (.bool v) := by
 rw [sr06_Right] at H
 refine en [.tmp 2] 22 [0] (hx.no _ (by decide)) (fn17 ax) ?_
 intro h hh
 repeat apply TW.seq
 refine rk [1] [] hh ?_
 clear hh h
 intro h hh
 obtain ⟨rRightHead, e1, H⟩ := bsome H
 repeat apply TW.seq
 refine rkc [1, 3] [] [(.bool rRightHead, stL [.cells true 20 (p.mask.l.map (T.int .i64) ++ (p.bits.l.map (T.int .i64)))])] hh ?_ ?_
 ·exact ⟨Call0.call ((sr06_RightHead_ok ax hx k p.mask rRightHead e1 ).call _), trivial⟩
 clear hh h
 intro h hh
 obtain ⟨rRightHead2, e2, H⟩ := bsome H
 repeat apply TW.seq
 refine rkc [1, 3, 4] [] [(.bool rRightHead2, stL [.cells true 20 (p.mask.l.map (T.int .i64) ++ (p.bits.l.map (T.int .i64)))])] hh ?_ ?_
 ·exact ⟨Call0.call ((sr06_RightHead_ok ax hx k p.bits rRightHead2 e2 ).call _), trivial⟩
 clear hh h
 intro h hh
 rcases isb H with ⟨c3, H⟩ | ⟨c3, H⟩
 rotate_left
 ·skip
  repeat apply TW.seq
  refine rk [2] [] (f2 hh c3) ?_
  clear hh h
  intro h hh
  cases H
  exact rt hh
 rcases isb H with ⟨c4, H⟩ | ⟨c4, H⟩
 rotate_left
 ·skip
  repeat apply TW.seq
  refine rk [2] [] (f3 hh c3 c4) ?_
  clear hh h
  intro h hh
  cases H
  exact rt hh
 obtain ⟨rwithin, e5, H⟩ := bsome H
 repeat apply TW.seq
 refine rkc [2] [] [(.bool rwithin, stL [.cells true 20 (p.mask.l.map (T.int .i64) ++ (p.bits.l.map (T.int .i64)))])] (f3 hh c3 c4) ?_ ?_
 ·exact ⟨Call0.call (Pure.clr (sr06_within_ok ax hx k p.bits p.mask rwithin e5 ) (by first | rfl | simp only [c3, c4])), trivial⟩
 clear hh h
 intro h hh
 cases H
 exact rt hh
def sr06_RightMod (k : Nat) (m_ : Pat) : Option Bool := ((sr06_Right k (⟨m_.mask, m_.bits⟩ : Pat)).bind fun rRight => some rRight)
set_option maxHeartbeats 8000000 in
theorem sr06_RightMod_ok (ax : Axs) (hx : Plain ax) (k : Nat) (m_ : Pat) (v : Bool) (H : sr06_RightMod k m_ = some v) : Pure Try.prog (EE ax) [] 18 [ePat m_] (.bool v) := by
 rw [sr06_RightMod] at H
 refine en [.tmp 2] 9 [0] (hx.no _ (by decide)) (fn18 ax) ?_
 intro h hh
 repeat apply TW.seq
 refine rk [1] [] hh ?_
 clear hh h
 intro h hh
 obtain ⟨rRight, e1, H⟩ := bsome H
 repeat apply TW.seq
 refine rkc [2] [] [(.bool rRight, stL [.cells true 20 (m_.mask.l.map (T.int .i64) ++ (m_.bits.l.map (T.int .i64)))])] hh ?_ ?_
 ·exact ⟨Call0.call ((sr06_Right_ok ax hx k (⟨m_.mask, m_.bits⟩ : Pat) rRight e1 ).call _), trivial⟩
 clear hh h
 intro h hh
 cases H
 exact rt hh
def sr25_Formed_L1 (k : Nat) (n : Net) (r : Rule) (k_ : Int) : Nat → Int → Option (Bool ⊕ Unit)
 | 0, _ => none
 | m + 1, i => (if (0 : Int) ≤ k_ ∧ k_ < (r.outs.length : Int) then (if i < ((gx r.outs k_).length : Int) then (if (0 : Int) ≤ i ∧ i < ((gx r.outs k_).length : Int) then ((sr06_RightMod k ((gx (gx r.outs k_) i).mod)).bind fun rRightMod => (if ((gx (gx r.outs k_) i).link) < (-1) then some (.inl false) else (if (n.links.length : Int) ≤ ((gx (gx r.outs k_) i).link) then some (.inl false) else (if rRightMod = true then sr25_Formed_L1 k n r k_ m (IntKind.i64.wrap (i + 1)) else some (.inl false))))) else none) else some (.inr ())) else none)
def sr25_Formed_L0 (k : Nat) (n : Net) (r : Rule) : Nat → Int → Option (Bool ⊕ Unit)
 | 0, _ => none
 | m + 1, k_ => (if k_ < (r.outs.length : Int) then (((((if (0 : Int) ≤ k_ ∧ k_ < (r.outs.length : Int) then (if ((gx r.outs k_).length : Int) < 1 then some true else some (decide (8 < ((gx r.outs k_).length : Int)))) else none) : Option Bool).bind fun s_4 => (if s_4 = true then some (.inl false) else ((sr25_Formed_L1 k n r k_ k 0 : Option (Bool ⊕ Unit)).bind fun o => Sum.elim (fun r => some (.inl r)) (fun s_5 => some (.inr ())) o))) : Option (Bool ⊕ Unit)).bind fun o2 => Sum.elim (fun r => some (.inl r)) (fun s_3 => sr25_Formed_L0 k n r m (IntKind.i64.wrap (k_ + 1))) o2) else some (.inr ()))
def sr25_Formed (k : Nat) (n : Net) (steps : Int) (r : Rule) : Option Bool := ((sr06_Right k r.mat).bind fun rRight => (((if r.prio < 1 then some true else (if 65535 < r.prio then some true else (if rRight = true then (if r.step < (-1) then some true else (if steps ≤ r.step then some true else some (decide (16 < (r.outs.length : Int))))) else some true))) : Option Bool).bind fun s_ => (if s_ = true then some false else ((sr25_Formed_L0 k n r k 0 : Option (Bool ⊕ Unit)).bind fun o3 => Sum.elim (fun r => some r) (fun s_2 => some true) o3))))
set_option maxHeartbeats 8000000 in
theorem sr25_Formed_ok (ax : Axs) (hx : Plain ax) (k : Nat) (n : Net) (steps : Int) (r : Rule) (v : Bool) (H : sr25_Formed k n steps r = some v) : Pure Try.prog (EE ax) [] 8 [eNet n, .int .i64 steps, eRule r] (.bool v) := by
 rw [sr25_Formed] at H
 refine en [.tmp 6] 103 [0, 1, 2] (hx.no _ (by decide)) (fn8 ax) ?_
 intro h hh
 repeat apply TW.seq
 refine rk [1, 3, 5] [] hh ?_
 clear hh h
 intro h hh
 obtain ⟨rRight, e1, H⟩ := bsome H
 repeat apply TW.seq
 refine rkc [1, 3, 5, 7] [] [(.bool rRight, stL [.cells true 3 [lNode n.nodes, lLink n.links, lEdge n.edges], .cells true 23 (T.int .i64 r.prio :: (r.mat.mask.l.map (T.int .i64) ++ (r.mat.bits.l.map (T.int .i64) ++ [T.int .i64 r.step, lLAlt r.outs])))])] hh ?_ ?_
 ·exact ⟨Call0.call ((sr06_Right_ok ax hx k r.mat rRight e1 ).call _), trivial⟩
 clear hh h
 intro h hh
 obtain ⟨s_, H1, H⟩ := bsome H
 repeat apply TW.seq
 refine cu [3, 5, 43] 2 (fun h bs => (h 3 = .ptr 0 0 3 ∧ h 5 = .ptr 1 0 23 ∧ h 43 = .bool s_) ∧ bs = [.cells true 3 [lNode n.nodes, lLink n.links, lEdge n.edges], .cells true 23 (T.int .i64 r.prio :: (r.mat.mask.l.map (T.int .i64) ++ (r.mat.bits.l.map (T.int .i64) ++ [T.int .i64 r.step, lLAlt r.outs])))]) ?_ ?_
 ·skip
  rcases isp H1 with ⟨c2, H1⟩ | ⟨c2, H1⟩
  rotate_left
  ·skip
   rcases isp H1 with ⟨c3, H1⟩ | ⟨c3, H1⟩
   rotate_left
   ·skip
    rcases isb H1 with ⟨c4, H1⟩ | ⟨c4, H1⟩
    rotate_left
    ·skip
     repeat apply TW.seq
     refine rk [3, 5, 43] [] (f3 hh (decide_eq_false c2) (f2 (decide_eq_false c3) c4)) ?_
     clear hh h
     intro h hh
     cases H1
     exact ce hh ⟨kq hh, rfl⟩
    rcases isp H1 with ⟨c5, H1⟩ | ⟨c5, H1⟩
    rotate_left
    ·skip
     rcases isp H1 with ⟨c6, H1⟩ | ⟨c6, H1⟩
     rotate_left
     ·skip
      repeat apply TW.seq
      refine rk [3, 5, 43] [] (f3 hh (decide_eq_false c2) (f3 (decide_eq_false c3) c4 (f2 (decide_eq_false c5) (decide_eq_false c6)))) ?_
      clear hh h
      intro h hh
      cases H1
      exact ce hh ⟨kq hh, rfl⟩
     repeat apply TW.seq
     refine rk [3, 5, 43] [] (f3 hh (decide_eq_false c2) (f3 (decide_eq_false c3) c4 (f2 (decide_eq_false c5) (decide_eq_true c6)))) ?_
     clear hh h
     intro h hh
     cases H1
     exact ce hh ⟨kq hh, rfl⟩
    repeat apply TW.seq
    refine rk [3, 5, 43] [] (f3 hh (decide_eq_false c2) (f3 (decide_eq_false c3) c4 (decide_eq_true c5))) ?_
    clear hh h
    intro h hh
    cases H1
    exact ce hh ⟨kq hh, rfl⟩
   repeat apply TW.seq
   refine rk [3, 5, 43] [] (f3 hh (decide_eq_false c2) (decide_eq_true c3)) ?_
   clear hh h
   intro h hh
   cases H1
   exact ce hh ⟨kq hh, rfl⟩
  repeat apply TW.seq
  refine rk [3, 5, 43] [] (f2 hh (decide_eq_true c2)) ?_
  clear hh h
  intro h hh
  cases H1
  exact ce hh ⟨kq hh, rfl⟩
 clear hh h
 rintro h bs ⟨hh, rfl⟩
 rcases isb H with ⟨c7, H⟩ | ⟨c7, H⟩
 rotate_left
 ·skip
  repeat apply TW.seq
  refine cf (f2 hh c7) ?_
  repeat apply TW.seq
  refine sk ?_
  repeat apply TW.seq
  refine rk [3, 5, 8] [] (f2 hh c7) ?_
  clear hh h
  intro h hh
  obtain ⟨o3, H1, H⟩ := bsome H
  repeat apply TW.seq
  refine cu [] 2 (fun h bs => ∃ s_2 : Unit, o3 = .inr s_2 ∧ (True) ∧ bs = [.cells true 3 [lNode n.nodes, lLink n.links, lEdge n.edges], .cells true 23 (T.int .i64 r.prio :: (r.mat.mask.l.map (T.int .i64) ++ (r.mat.bits.l.map (T.int .i64) ++ [T.int .i64 r.step, lLAlt r.outs])))]) ?_ ?_
  ·skip
   repeat apply TW.seq
   apply TW.block
   repeat apply TW.seq
   refine TW.loopT [3, 5, 8] (fun m h bs => ∃ (k_ : Int), sr25_Formed_L0 k n r m k_ = some o3 ∧ (h 3 = .ptr 0 0 3 ∧ h 5 = .ptr 1 0 23 ∧ h 8 = .int .i64 k_) ∧ bs = [.cells true 3 [lNode n.nodes, lLink n.links, lEdge n.edges], .cells true 23 (T.int .i64 r.prio :: (r.mat.mask.l.map (T.int .i64) ++ (r.mat.bits.l.map (T.int .i64) ++ [T.int .i64 r.step, lLAlt r.outs])))]) ?_ k _ _ ?_
   rotate_left
   ·exact ⟨0, H1, kq hh, rfl⟩
   clear hh h H1
   rintro m h bs ⟨k_, H1, hh, rfl⟩
   rcases m with _ | m
   ·rw [sr25_Formed_L0] at H1; cases H1
   rw [sr25_Formed_L0] at H1
   repeat apply TW.seq
   refine rk [3, 5, 8, 48] [] (f2 hh c7) ?_
   clear hh h
   intro h hh
   rcases isp H1 with ⟨c8, H1⟩ | ⟨c8, H1⟩
   rotate_left
   ·skip
    repeat apply TW.seq
    refine cf (f2 hh (decide_eq_false c8)) ?_
    refine xk ?_
    cases H1
    exact ce hh ⟨_, rfl, kq hh, rfl⟩
   repeat apply TW.seq
   refine ct (f2 hh (decide_eq_true c8)) ?_
   repeat apply TW.seq
   refine sk ?_
   obtain ⟨o2, H2, H1⟩ := bsome H1
   repeat apply TW.seq
   refine cu [3, 5, 8] 2 (fun h bs => ∃ s_3 : Unit, o2 = .inr s_3 ∧ (h 3 = .ptr 0 0 3 ∧ h 5 = .ptr 1 0 23 ∧ h 8 = .int .i64 k_) ∧ bs = [.cells true 3 [lNode n.nodes, lLink n.links, lEdge n.edges], .cells true 23 (T.int .i64 r.prio :: (r.mat.mask.l.map (T.int .i64) ++ (r.mat.bits.l.map (T.int .i64) ++ [T.int .i64 r.step, lLAlt r.outs])))]) ?_ ?_
   ·skip
    repeat apply TW.seq
    apply TW.block
    obtain ⟨s_4, H3, H2⟩ := bsome H2
    repeat apply TW.seq
    refine cu [3, 5, 8, 66] 2 (fun h bs => (h 3 = .ptr 0 0 3 ∧ h 5 = .ptr 1 0 23 ∧ h 8 = .int .i64 k_ ∧ h 66 = .bool s_4) ∧ bs = [.cells true 3 [lNode n.nodes, lLink n.links, lEdge n.edges], .cells true 23 (T.int .i64 r.prio :: (r.mat.mask.l.map (T.int .i64) ++ (r.mat.bits.l.map (T.int .i64) ++ [T.int .i64 r.step, lLAlt r.outs])))]) ?_ ?_
    ·skip
     obtain ⟨g9, H3⟩ := isg H3
     rcases isp H3 with ⟨c10, H3⟩ | ⟨c10, H3⟩
     rotate_left
     ·skip
      repeat apply TW.seq
      refine rk [3, 5, 8, 66] [] (f3 hh (decide_eq_false c10) (f2 c7 (gx_some g9))) ?_
      clear hh h
      intro h hh
      cases H3
      exact ce hh ⟨kq hh, rfl⟩
     repeat apply TW.seq
     refine rk [3, 5, 8, 66] [] (f3 hh (decide_eq_true c10) (f2 c7 (gx_some g9))) ?_
     clear hh h
     intro h hh
     cases H3
     exact ce hh ⟨kq hh, rfl⟩
    clear hh h
    rintro h bs ⟨hh, rfl⟩
    rcases isb H2 with ⟨c11, H2⟩ | ⟨c11, H2⟩
    rotate_left
    ·skip
     repeat apply TW.seq
     refine cf (f2 hh c11) ?_
     repeat apply TW.seq
     refine sk ?_
     repeat apply TW.seq
     refine rk [3, 5, 8, 9] [] (f3 hh c7 c11) ?_
     clear hh h
     intro h hh
     obtain ⟨o, H3, H2⟩ := bsome H2
     repeat apply TW.seq
     refine cu [3, 5, 8] 2 (fun h bs => ∃ s_5 : Unit, o = .inr s_5 ∧ (h 3 = .ptr 0 0 3 ∧ h 5 = .ptr 1 0 23 ∧ h 8 = .int .i64 k_) ∧ bs = [.cells true 3 [lNode n.nodes, lLink n.links, lEdge n.edges], .cells true 23 (T.int .i64 r.prio :: (r.mat.mask.l.map (T.int .i64) ++ (r.mat.bits.l.map (T.int .i64) ++ [T.int .i64 r.step, lLAlt r.outs])))]) ?_ ?_
     ·skip
      repeat apply TW.seq
      apply TW.block
      repeat apply TW.seq
      refine TW.loopT [3, 5, 8, 9] (fun m h bs => ∃ (i : Int), sr25_Formed_L1 k n r k_ m i = some o ∧ (h 3 = .ptr 0 0 3 ∧ h 5 = .ptr 1 0 23 ∧ h 8 = .int .i64 k_ ∧ h 9 = .int .i64 i) ∧ bs = [.cells true 3 [lNode n.nodes, lLink n.links, lEdge n.edges], .cells true 23 (T.int .i64 r.prio :: (r.mat.mask.l.map (T.int .i64) ++ (r.mat.bits.l.map (T.int .i64) ++ [T.int .i64 r.step, lLAlt r.outs])))]) ?_ k _ _ ?_
      rotate_left
      ·exact ⟨0, H3, kq hh, rfl⟩
      clear hh h H3
      rintro m h bs ⟨i, H3, hh, rfl⟩
      rcases m with _ | m
      ·rw [sr25_Formed_L1] at H3; cases H3
      rw [sr25_Formed_L1] at H3
      obtain ⟨g12, H3⟩ := isg H3
      repeat apply TW.seq
      refine rk [3, 5, 8, 9, 74] [] (f3 hh c7 (f2 c11 (gx_some g12))) ?_
      clear hh h
      intro h hh
      rcases isp H3 with ⟨c13, H3⟩ | ⟨c13, H3⟩
      rotate_left
      ·skip
       repeat apply TW.seq
       refine cf (f2 hh (decide_eq_false c13)) ?_
       refine xk ?_
       cases H3
       exact ce hh ⟨_, rfl, kq hh, rfl⟩
      repeat apply TW.seq
      refine ct (f2 hh (decide_eq_true c13)) ?_
      repeat apply TW.seq
      refine sk ?_
      repeat apply TW.seq
      apply TW.block
      obtain ⟨g14, H3⟩ := isg H3
      repeat apply TW.seq
      refine rk [3, 5, 8, 9, 10] [] (f3 hh c7 (f3 c11 (gx_some g12) (gx_some g14))) ?_
      clear hh h
      intro h hh
      obtain ⟨rRightMod, e15, H3⟩ := bsome H3
      repeat apply TW.seq
      refine rkc [3, 5, 8, 9, 10, 11] [] [(.bool rRightMod, stL [.cells true 3 [lNode n.nodes, lLink n.links, lEdge n.edges], .cells true 23 (T.int .i64 r.prio :: (r.mat.mask.l.map (T.int .i64) ++ (r.mat.bits.l.map (T.int .i64) ++ [T.int .i64 r.step, lLAlt r.outs]))), .cells true 21 (T.int .i64 ((gx (gx r.outs k_) i).link) :: ((((gx (gx r.outs k_) i).mod).mask).l.map (T.int .i64) ++ ((((gx (gx r.outs k_) i).mod).bits).l.map (T.int .i64))))])] (f3 hh c7 c11) ?_ ?_
      ·exact ⟨Call0.call (Pure.clr (sr06_RightMod_ok ax hx k ((gx (gx r.outs k_) i).mod) rRightMod e15 ) (by first | rfl | simp only [c7, c11])), trivial⟩
      clear hh h
      intro h hh
      rcases isp H3 with ⟨c16, H3⟩ | ⟨c16, H3⟩
      rotate_left
      ·skip
       rcases isp H3 with ⟨c17, H3⟩ | ⟨c17, H3⟩
       rotate_left
       ·skip
        repeat apply TW.seq
        refine rk [3, 5, 8, 9, 102] [] (f3 hh (decide_eq_false c16) (f3 (decide_eq_false c17) c7 c11)) ?_
        clear hh h
        intro h hh
        rcases isb H3 with ⟨c18, H3⟩ | ⟨c18, H3⟩
        rotate_left
        ·skip
         repeat apply TW.seq
         refine ct (f2 hh c18) ?_
         repeat apply TW.seq
         refine rk [6] [] (f3 hh c7 (f2 c11 c18)) ?_
         clear hh h
         intro h hh
         cases H3
         obtain rfl := sinm H2
         obtain rfl := sinm H1
         obtain rfl := sinl H
         exact rt hh
        repeat apply TW.seq
        refine cf (f2 hh c18) ?_
        repeat apply TW.seq
        refine sk ?_
        repeat apply TW.seq
        refine rk [3, 5, 8, 9] [] (f3 hh c7 (f2 c11 c18)) ?_
        clear hh h
        intro h hh
        exact rd m hh ⟨(IntKind.i64.wrap (i + 1)), H3, kq hh, rfl⟩
       repeat apply TW.seq
       refine rk [3, 5, 8, 9, 102] [] (f3 hh (decide_eq_false c16) (f3 (decide_eq_true c17) c7 c11)) ?_
       clear hh h
       intro h hh
       repeat apply TW.seq
       refine ct hh ?_
       repeat apply TW.seq
       refine rk [6] [] (f3 hh c7 c11) ?_
       clear hh h
       intro h hh
       cases H3
       obtain rfl := sinm H2
       obtain rfl := sinm H1
       obtain rfl := sinl H
       exact rt hh
      repeat apply TW.seq
      refine rk [3, 5, 8, 9, 102] [] (f3 hh (decide_eq_true c16) (f2 c7 c11)) ?_
      clear hh h
      intro h hh
      repeat apply TW.seq
      refine ct hh ?_
      repeat apply TW.seq
      refine rk [6] [] (f3 hh c7 c11) ?_
      clear hh h
      intro h hh
      cases H3
      obtain rfl := sinm H2
      obtain rfl := sinm H1
      obtain rfl := sinl H
      exact rt hh
     clear hh h
     rintro h bs ⟨s_5, rfl, hh, rfl⟩
     replace H2 := sinr H2
     cases H2
     exact ce hh ⟨_, rfl, kq hh, rfl⟩
    repeat apply TW.seq
    refine ct (f2 hh c11) ?_
    repeat apply TW.seq
    refine rk [6] [] (f3 hh c7 c11) ?_
    clear hh h
    intro h hh
    cases H2
    obtain rfl := sinm H1
    obtain rfl := sinl H
    exact rt hh
   clear hh h
   rintro h bs ⟨s_3, rfl, hh, rfl⟩
   replace H1 := sinr H1
   repeat apply TW.seq
   refine rk [3, 5, 8] [] (f2 hh c7) ?_
   clear hh h
   intro h hh
   exact rd m hh ⟨(IntKind.i64.wrap (k_ + 1)), H1, kq hh, rfl⟩
  clear hh h
  rintro h bs ⟨s_2, rfl, hh, rfl⟩
  replace H := sinr H
  repeat apply TW.seq
  refine rk [6] [] (f2 hh c7) ?_
  clear hh h
  intro h hh
  cases H
  exact rt hh
 repeat apply TW.seq
 refine ct (f2 hh c7) ?_
 repeat apply TW.seq
 refine rk [6] [] (f2 hh c7) ?_
 clear hh h
 intro h hh
 cases H
 exact rt hh
end Go.Proofs.Ytjgbkegkcbcjaaa
namespace Go.Proofs.Ytjgbkegkcbcjaaa
open Go Go.RowKit
set_option maxRecDepth 100000
def sslices_Index_int_L0 (k : Nat) (s_ : List Int) (v_ : Int) : Nat → Int → Option (Int ⊕ Unit)
 | 0, _ => none
 | m + 1, i => (if i < (s_.length : Int) then (if (0 : Int) ≤ i ∧ i < (s_.length : Int) then (if v_ = (gx s_ i) then some (.inl i) else sslices_Index_int_L0 k s_ v_ m (IntKind.i64.wrap (i + 1))) else none) else some (.inr ()))
def sslices_Index_int (k : Nat) (s_ : List Int) (v_ : Int) : Option Int := ((sslices_Index_int_L0 k s_ v_ k 0 : Option (Int ⊕ Unit)).bind fun o => Sum.elim (fun r => some r) (fun s_2 => some (-1)) o)
set_option maxHeartbeats 8000000 in
theorem sslices_Index_int_ok (ax : Axs) (hx : Plain ax) (k : Nat) (s_ : List Int) (v_ : Int) (v : Int) (H : sslices_Index_int k s_ v_ = some v) : Pure Try.prog (EE ax) [] 81 [ints s_, .int .i64 v_] (.int .i64 v) := by
 rw [sslices_Index_int] at H
 refine en [.tmp 4] 19 [0, 1] (hx.no _ (by decide)) (fn81 ax) ?_
 intro h hh
 repeat apply TW.seq
 refine rk [0, 1] [] hh ?_
 clear hh h
 intro h hh
 repeat apply TW.seq
 refine rk [0, 1, 7, 8] [] hh ?_
 clear hh h
 intro h hh
 obtain ⟨o, H1, H⟩ := bsome H
 repeat apply TW.seq
 refine cu [] 0 (fun h bs => ∃ s_2 : Unit, o = .inr s_2 ∧ (True) ∧ bs = []) ?_ ?_
 ·skip
  repeat apply TW.seq
  apply TW.block
  repeat apply TW.seq
  refine TW.loopT [0, 1, 7, 8] (fun m h bs => ∃ (i : Int), sslices_Index_int_L0 k s_ v_ m i = some o ∧ (h 0 = ints s_ ∧ h 1 = .int .i64 v_ ∧ h 7 = .int .i64 (s_.length : Int) ∧ h 8 = .int .i64 i) ∧ bs = []) ?_ k _ _ ?_
  rotate_left
  ·exact ⟨0, H1, kq hh, rfl⟩
  clear hh h H1
  rintro m h bs ⟨i, H1, hh, rfl⟩
  rcases m with _ | m
  ·rw [sslices_Index_int_L0] at H1; cases H1
  rw [sslices_Index_int_L0] at H1
  repeat apply TW.seq
  refine rk [0, 1, 7, 8, 9] [] hh ?_
  clear hh h
  intro h hh
  rcases isp H1 with ⟨c1, H1⟩ | ⟨c1, H1⟩
  rotate_left
  ·skip
   repeat apply TW.seq
   refine cf (f2 hh (decide_eq_false c1)) ?_
   refine xk ?_
   cases H1
   exact ce hh ⟨_, rfl, kq hh, rfl⟩
  repeat apply TW.seq
  refine ct (f2 hh (decide_eq_true c1)) ?_
  repeat apply TW.seq
  refine sk ?_
  repeat apply TW.seq
  apply TW.block
  repeat apply TW.seq
  refine rk [0, 1, 5, 7, 8] [] hh ?_
  clear hh h
  intro h hh
  obtain ⟨g2, H1⟩ := isg H1
  repeat apply TW.seq
  refine rk [0, 1, 5, 7, 8, 16] [] (f2 hh (gx_some g2)) ?_
  clear hh h
  intro h hh
  rcases isp H1 with ⟨c3, H1⟩ | ⟨c3, H1⟩
  rotate_left
  ·skip
   repeat apply TW.seq
   refine cf (f2 hh (decide_eq_false c3)) ?_
   repeat apply TW.seq
   refine sk ?_
   repeat apply TW.seq
   refine rk [0, 1, 7, 8] [] hh ?_
   clear hh h
   intro h hh
   exact rd m hh ⟨(IntKind.i64.wrap (i + 1)), H1, kq hh, rfl⟩
  repeat apply TW.seq
  refine ct (f2 hh (decide_eq_true c3)) ?_
  repeat apply TW.seq
  refine rk [4] [] hh ?_
  clear hh h
  intro h hh
  cases H1
  obtain rfl := sinl H
  exact rt hh
 clear hh h
 rintro h bs ⟨s_2, rfl, hh, rfl⟩
 replace H := sinr H
 repeat apply TW.seq
 refine rk [4] [] hh ?_
 clear hh h
 intro h hh
 cases H
 exact rt hh
def sslices_Contains_int (k : Nat) (s_ : List Int) (v_ : Int) : Option Bool := ((sslices_Index_int k s_ v_).bind fun rint => some (decide (0 ≤ rint)))
set_option maxHeartbeats 8000000 in
theorem sslices_Contains_int_ok (ax : Axs) (hx : Plain ax) (k : Nat) (s_ : List Int) (v_ : Int) (v : Bool) (H : sslices_Contains_int k s_ v_ = some v) : Pure Try.prog (EE ax) [] 49 [ints s_, .int .i64 v_] (.bool v) := by
 rw [sslices_Contains_int] at H
 refine en [.tmp 4] 9 [0, 1] (hx.no _ (by decide)) (fn49 ax) ?_
 intro h hh
 repeat apply TW.seq
 refine rk [0, 1] [] hh ?_
 clear hh h
 intro h hh
 obtain ⟨rint, e1, H⟩ := bsome H
 repeat apply TW.seq
 refine rkc [4] [] [(.int .i64 rint, stL [])] hh ?_ ?_
 ·exact ⟨Call0.call ((sslices_Index_int_ok ax hx k s_ v_ rint e1 ).call _), trivial⟩
 clear hh h
 intro h hh
 cases H
 exact rt hh
def sgraph_Up (k : Nat) (n : Net) (f_ : Failure) (link : Int) : Option Bool := (if (0 : Int) ≤ link ∧ link < (n.links.length : Int) then (if ((gx n.links link).frm) ≠ f_.node then (if ((gx n.links link).to) ≠ f_.node then ((sslices_Contains_int k f_.links link).bind fun rint => some (!rint)) else some false) else some false) else none)
set_option maxHeartbeats 8000000 in
theorem sgraph_Up_ok (ax : Axs) (hx : Plain ax) (k : Nat) (n : Net) (f_ : Failure) (link : Int) (v : Bool) (H : sgraph_Up k n f_ link = some v) : Pure Try.prog (EE ax) [] 35 [eNet n, eFailure f_, .int .i64 link] (.bool v) := by
 rw [sgraph_Up] at H
 refine en [.tmp 6] 32 [0, 1, 2] (hx.no _ (by decide)) (fn35 ax) ?_
 intro h hh
 repeat apply TW.seq
 refine rk [2, 3, 4] [] hh ?_
 clear hh h
 intro h hh
 obtain ⟨g1, H⟩ := isg H
 repeat apply TW.seq
 refine rk [2, 4, 7] [] (f2 hh (gx_some g1)) ?_
 clear hh h
 intro h hh
 rcases isp H with ⟨c2, H⟩ | ⟨c2, H⟩
 rotate_left
 ·skip
  repeat apply TW.seq
  refine rk [6] [] (f2 hh (decide_eq_false c2)) ?_
  clear hh h
  intro h hh
  cases H
  exact rt hh
 rcases isp H with ⟨c3, H⟩ | ⟨c3, H⟩
 rotate_left
 ·skip
  repeat apply TW.seq
  refine rk [6] [] (f3 hh (decide_eq_true c2) (decide_eq_false c3)) ?_
  clear hh h
  intro h hh
  cases H
  exact rt hh
 obtain ⟨rint, e4, H⟩ := bsome H
 repeat apply TW.seq
 refine rkc [6] [] [(.bool rint, stL [.cells true 3 [lNode n.nodes, lLink n.links, lEdge n.edges], .cells true 2 [ints f_.links, .int .i64 f_.node], .cells true 3 [.int .i64 ((gx n.links link).frm), .int .i64 ((gx n.links link).to), .int .i64 ((gx n.links link).cap)]])] (f3 hh (decide_eq_true c2) (decide_eq_true c3)) ?_ ?_
 ·exact ⟨Call0.call ((sslices_Contains_int_ok ax hx k f_.links link rint e4 ).call _), trivial⟩
 clear hh h
 intro h hh
 cases H
 exact rt hh
def stable_Send_1 (k : Nat) (a : Alt) (fv : Net) (fv2 : Failure) : Option Bool := (if a.link < 0 then some true else ((sgraph_Up k fv fv2 a.link).bind fun rUp => some rUp))
set_option maxHeartbeats 8000000 in
theorem stable_Send_1_ok (ax : Axs) (hx : Plain ax) (k : Nat) (a : Alt) (fv : Net) (fv2 : Failure) (v : Bool) (H : stable_Send_1 k a fv fv2 = some v) : Pure Try.prog (EE ax) [] 34 [eAlt a, .cp [lNode fv.nodes, lLink fv.links, lEdge fv.edges], .cp [ints fv2.links, .int .i64 fv2.node]] (.bool v) := by
 rw [stable_Send_1] at H
 refine en [.tmp 4] 15 [0, 1, 2] (hx.no _ (by decide)) (fn34 ax) ?_
 intro h hh
 repeat apply TW.seq
 refine rk [1, 2, 3] [] hh ?_
 clear hh h
 intro h hh
 rcases isp H with ⟨c1, H⟩ | ⟨c1, H⟩
 rotate_left
 ·skip
  obtain ⟨rUp, e2, H⟩ := bsome H
  repeat apply TW.seq
  refine rkc [4] [] [(.bool rUp, stL [.cells true 21 (T.int .i64 a.link :: (a.mod.mask.l.map (T.int .i64) ++ (a.mod.bits.l.map (T.int .i64))))])] (f2 hh (decide_eq_false c1)) ?_ ?_
  ·exact ⟨Call0.call ((sgraph_Up_ok ax hx k fv fv2 a.link rUp e2 ).call _), trivial⟩
  clear hh h
  intro h hh
  cases H
  exact rt hh
 repeat apply TW.seq
 refine rk [4] [] (f2 hh (decide_eq_true c1)) ?_
 clear hh h
 intro h hh
 cases H
 exact rt hh
def sslices_IndexFunc_Alt_L0 (k : Nat) (s_ : List Alt) (f_ : Alt → Option Bool) : Nat → Int → Option (Int ⊕ Unit)
 | 0, _ => none
 | m + 1, i => (if i < (s_.length : Int) then (if (0 : Int) ≤ i ∧ i < (s_.length : Int) then ((f_ (gx s_ i)).bind fun r => (if r = true then some (.inl i) else sslices_IndexFunc_Alt_L0 k s_ f_ m (IntKind.i64.wrap (i + 1)))) else none) else some (.inr ()))
def sslices_IndexFunc_Alt (k : Nat) (s_ : List Alt) (f_ : Alt → Option Bool) : Option Int := ((sslices_IndexFunc_Alt_L0 k s_ f_ k 0 : Option (Int ⊕ Unit)).bind fun o => Sum.elim (fun r => some r) (fun s_2 => some (-1)) o)
set_option maxHeartbeats 8000000 in
theorem sslices_IndexFunc_Alt_ok (ax : Axs) (hx : Plain ax) (k : Nat) (s_ : List Alt) (f_ : Alt → Option Bool) (v : Int) (H : sslices_IndexFunc_Alt k s_ f_ = some v) (f__f : Nat) (f__c : List T) (f__i : T.idsL 0 f__c = true) (f__h : ∀ (y0 : Alt) (w : Bool), f_ y0 = some w → Pure Try.prog (EE ax) [] f__f ([] ++ [eAlt y0] ++ f__c) (.bool w)) : Pure Try.prog (EE ax) [] 33 [lAlt s_, .fn f__f [] f__c] (.int .i64 v) := by
 rw [sslices_IndexFunc_Alt] at H
 refine en (ha := by simp only [ids2B, ids2C, idsA, idsB, f__i, Bool.and_self]) [.tmp 4] 19 [0, 1] (hx.no _ (by decide)) (fn33 ax) ?_
 intro h hh
 repeat apply TW.seq
 refine rk [0, 1] [] hh ?_
 clear hh h
 intro h hh
 repeat apply TW.seq
 refine rk [0, 1, 7, 8] [] hh ?_
 clear hh h
 intro h hh
 obtain ⟨o, H1, H⟩ := bsome H
 repeat apply TW.seq
 refine cu [] 0 (fun h bs => ∃ s_2 : Unit, o = .inr s_2 ∧ (True) ∧ bs = []) ?_ ?_
 ·skip
  repeat apply TW.seq
  apply TW.block
  repeat apply TW.seq
  refine TW.loopT [0, 1, 7, 8] (fun m h bs => ∃ (i : Int), sslices_IndexFunc_Alt_L0 k s_ f_ m i = some o ∧ (h 0 = lAlt s_ ∧ h 1 = .fn f__f [] f__c ∧ h 7 = .int .i64 (s_.length : Int) ∧ h 8 = .int .i64 i) ∧ bs = []) ?_ k _ _ ?_
  rotate_left
  ·exact ⟨0, H1, kq hh, rfl⟩
  clear hh h H1
  rintro m h bs ⟨i, H1, hh, rfl⟩
  rcases m with _ | m
  ·rw [sslices_IndexFunc_Alt_L0] at H1; cases H1
  rw [sslices_IndexFunc_Alt_L0] at H1
  repeat apply TW.seq
  refine rk [0, 1, 7, 8, 9] [] hh ?_
  clear hh h
  intro h hh
  rcases isp H1 with ⟨c1, H1⟩ | ⟨c1, H1⟩
  rotate_left
  ·skip
   repeat apply TW.seq
   refine cf (f2 hh (decide_eq_false c1)) ?_
   refine xk ?_
   cases H1
   exact ce (f2 hh ((fun m => idsL_more (Nat.zero_le m) f__i))) ⟨_, rfl, kq hh, rfl⟩
  repeat apply TW.seq
  refine ct (f2 hh (decide_eq_true c1)) ?_
  repeat apply TW.seq
  refine sk ?_
  repeat apply TW.seq
  apply TW.block
  repeat apply TW.seq
  refine rk [0, 1, 5, 7, 8] [] hh ?_
  clear hh h
  intro h hh
  obtain ⟨g2, H1⟩ := isg H1
  obtain ⟨r, e3, H1⟩ := bsome H1
  repeat apply TW.seq
  refine rkc [0, 1, 5, 7, 8, 16] [] [(.bool r, stL [])] (f2 hh (gx_some g2)) ?_ ?_
  ·exact ⟨Call0.call ((f__h (gx s_ i) r e3).call _), trivial⟩
  clear hh h
  intro h hh
  rcases isb H1 with ⟨c4, H1⟩ | ⟨c4, H1⟩
  rotate_left
  ·skip
   repeat apply TW.seq
   refine cf (f2 hh c4) ?_
   repeat apply TW.seq
   refine sk ?_
   repeat apply TW.seq
   refine rk [0, 1, 7, 8] [] (f2 hh c4) ?_
   clear hh h
   intro h hh
   exact rd m (f2 hh ((fun m => idsL_more (Nat.zero_le m) f__i))) ⟨(IntKind.i64.wrap (i + 1)), H1, kq hh, rfl⟩
  repeat apply TW.seq
  refine ct (f2 hh c4) ?_
  repeat apply TW.seq
  refine rk [4] [] (f2 hh c4) ?_
  clear hh h
  intro h hh
  cases H1
  obtain rfl := sinl H
  exact rt hh
 clear hh h
 rintro h bs ⟨s_2, rfl, hh, rfl⟩
 replace H := sinr H
 repeat apply TW.seq
 refine rk [4] [] hh ?_
 clear hh h
 intro h hh
 cases H
 exact rt hh
def sbits_Apply_L0 (k : Nat) (m_ : Pat) : Nat → Int → (Ar 10) → Option (Ar 10)
 | 0, _, _ => none
 | m + 1, i, x => (if i < 10 then (if (0 : Int) ≤ i ∧ i < (10 : Int) then sbits_Apply_L0 k m_ m (IntKind.i64.wrap (i + 1)) (x.set i (iOr .i64 (iAndN .i64 (gx x.l i) (gx m_.mask.l i)) (gx m_.bits.l i))) else none) else some x)
def sbits_Apply (k : Nat) (m_ : Pat) (h_ : Ar 10) : Option (Ar 10) := ((sbits_Apply_L0 k m_ k 0 h_ : Option (Ar 10)).bind fun s_ => some s_)
set_option maxHeartbeats 8000000 in
theorem sbits_Apply_ok (ax : Axs) (hx : Plain ax) (k : Nat) (m_ : Pat) (h_ : Ar 10) (v : Ar 10) (H : sbits_Apply k m_ h_ = some v) : Pure Try.prog (EE ax) [] 13 [ePat m_, .agg (h_.l.map (T.int .i64))] (.agg (v.l.map (T.int .i64))) := by
 rw [sbits_Apply] at H
 refine en [.cell 4 31] 26 [0, 1] (hx.no _ (by decide)) (fn13 ax) ?_
 intro h hh
 repeat apply TW.seq
 refine rk [2, 3, 4] [] hh ?_
 clear hh h
 intro h hh
 repeat apply TW.seq
 refine rk [2, 3, 4, 6] [] hh ?_
 clear hh h
 intro h hh
 obtain ⟨s_, H1, H⟩ := bsome H
 repeat apply TW.seq
 refine cu [3, 4] 3 (fun h bs => (h 3 = .ptr 1 0 10 ∧ h 4 = .ptr 2 0 10) ∧ bs = [.cells true 20 (m_.mask.l.map (T.int .i64) ++ (m_.bits.l.map (T.int .i64))), .cells true 10 (s_.l.map (T.int .i64)), .cells true 10 ((zA 10).l.map (T.int .i64))]) ?_ ?_
 ·skip
  repeat apply TW.seq
  apply TW.block
  repeat apply TW.seq
  refine TW.loopT [2, 3, 4, 6] (fun m h bs => ∃ (i : Int) (x : Ar 10), sbits_Apply_L0 k m_ m i x = some s_ ∧ (h 2 = .ptr 0 0 20 ∧ h 3 = .ptr 1 0 10 ∧ h 4 = .ptr 2 0 10 ∧ h 6 = .int .i64 i) ∧ bs = [.cells true 20 (m_.mask.l.map (T.int .i64) ++ (m_.bits.l.map (T.int .i64))), .cells true 10 (x.l.map (T.int .i64)), .cells true 10 ((zA 10).l.map (T.int .i64))]) ?_ k _ _ ?_
  rotate_left
  ·exact ⟨0, h_, H1, kq hh, rfl⟩
  clear hh h H1
  rintro m h bs ⟨i, x, H1, hh, rfl⟩
  rcases m with _ | m
  ·rw [sbits_Apply_L0] at H1; cases H1
  rw [sbits_Apply_L0] at H1
  repeat apply TW.seq
  refine rk [2, 3, 4, 6, 7] [] hh ?_
  clear hh h
  intro h hh
  rcases isp H1 with ⟨c1, H1⟩ | ⟨c1, H1⟩
  rotate_left
  ·skip
   repeat apply TW.seq
   refine cf (f2 hh (decide_eq_false c1)) ?_
   refine xk ?_
   cases H1
   exact ce hh ⟨kq hh, rfl⟩
  repeat apply TW.seq
  refine ct (f2 hh (decide_eq_true c1)) ?_
  repeat apply TW.seq
  refine sk ?_
  repeat apply TW.seq
  apply TW.block
  repeat apply TW.seq
  refine rk [2, 3, 4, 5, 6] [] hh ?_
  clear hh h
  intro h hh
  obtain ⟨g2, H1⟩ := isg H1
  repeat apply TW.seq
  refine dk 13 [2, 3, 4, 6] [] [] [] (f3 hh (arIx x g2) (f3 (cellAt0 (k := .i64) (L := (m_.mask.l.map (T.int .i64) ++ (m_.bits.l.map (T.int .i64)))) (r := (m_.bits.l.map (T.int .i64))) m_.mask g2) (cellAt (k := .i64) (off := 10) (L := (m_.mask.l.map (T.int .i64) ++ (m_.bits.l.map (T.int .i64)))) (r := []) m_.bits g2) (arSet (k := .i64) x (iOr .i64 (iAndN .i64 (gx x.l i) (gx m_.mask.l i)) (gx m_.bits.l i)) g2))) trivial trivial ?_
  clear hh h
  intro h hh
  repeat apply TW.seq
  refine rk [2, 3, 4, 6] [] hh ?_
  clear hh h
  intro h hh
  exact rd m hh ⟨(IntKind.i64.wrap (i + 1)), (x.set i (iOr .i64 (iAndN .i64 (gx x.l i) (gx m_.mask.l i)) (gx m_.bits.l i))), H1, kq hh, rfl⟩
 clear hh h
 rintro h bs ⟨hh, rfl⟩
 repeat apply TW.seq
 refine rk [4] [] hh ?_
 clear hh h
 intro h hh
 cases H
 exact rtc hh
def stable_Send_L0 (k : Nat) (n : Net) (f_ : Failure) (r : Rule) (h_ : Ar 10) : Nat → Int → (List (Ar 10)) → Nat → Option (List (Ar 10) × Nat)
 | 0, _, _, _ => none
 | m + 1, i, l, n2 => (if i < (r.outs.length : Int) then (if (0 : Int) ≤ i ∧ i < (r.outs.length : Int) then ((sslices_IndexFunc_Alt k (gx r.outs i) (fun y => stable_Send_1 k y n f_)).bind fun rAlt => (if 0 ≤ rAlt then (if (0 : Int) ≤ rAlt ∧ rAlt < ((gx r.outs i).length : Int) then ((sbits_Apply k ((gx (gx r.outs i) rAlt).mod) h_).bind fun rApply => (if (n2 + 1) * 81 ≤ 1000000000 then stable_Send_L0 k n f_ r h_ m (IntKind.i64.wrap (i + 1)) (l ++ [rApply]) (n2 + 1) else none)) else none) else stable_Send_L0 k n f_ r h_ m (IntKind.i64.wrap (i + 1)) l n2)) else none) else some (l, n2))
def stable_Send (k : Nat) (n : Net) (f_ : Failure) (r : Rule) (h_ : Ar 10) : Option (List (Ar 10)) := ((stable_Send_L0 k n f_ r h_ k 0 [] 0 : Option (List (Ar 10) × Nat)).bind fun s_ => (if s_.1.length = s_.2 then some s_.1 else none))
set_option maxHeartbeats 8000000 in
theorem stable_Send_ok (ax : Axs) (hx : Plain ax) (k : Nat) (n : Net) (f_ : Failure) (r : Rule) (h_ : Ar 10) (v : List (Ar 10)) (H : stable_Send k n f_ r h_ = some v) : Pure Try.prog (EE ax) [] 12 [eNet n, eFailure f_, eRule r, .agg (h_.l.map (T.int .i64))] (lAr10 v) := by
 rw [stable_Send] at H
 refine en [.tmp 8] 37 [0, 1, 2, 3] (hx.no _ (by decide)) (fn12 ax) ?_
 intro h hh
 repeat apply TW.seq
 refine rk [4, 5, 6, 7] [] hh ?_
 clear hh h
 intro h hh
 refine zk 4 0 3 true [lNode n.nodes, lLink n.links, lEdge n.edges] [4, 5, 6, 7] hh ?_
 clear hh h
 intro h hh
 refine zk 5 1 2 true [ints f_.links, .int .i64 f_.node] [4, 5, 6, 7] hh ?_
 clear hh h
 intro h hh
 repeat apply TW.seq
 refine rk [4, 5, 6, 7, 9] [] hh ?_
 clear hh h
 intro h hh
 refine vk 9 10 [4, 5, 6, 7, 9] hh ?_
 clear hh h
 intro h hh
 repeat apply TW.seq
 refine rk [4, 5, 7, 9, 14, 15, 16] [] hh ?_
 clear hh h
 intro h hh
 obtain ⟨s_, H1, H⟩ := bsome H
 repeat apply TW.seq
 refine cu [9] 5 (fun h bs => (h 9 = .arr 4 10 0 s_.2 s_.2 (s_.2 * 10)) ∧ bs = [.gone, .gone, .cells true 23 (T.int .i64 r.prio :: (r.mat.mask.l.map (T.int .i64) ++ (r.mat.bits.l.map (T.int .i64) ++ [T.int .i64 r.step, lLAlt r.outs]))), .cells true 10 (h_.l.map (T.int .i64)), .cells false (s_.2 * 10) (vecC (eAr .i64) s_.1)]) ?_ ?_
 ·skip
  repeat apply TW.seq
  apply TW.block
  repeat apply TW.seq
  refine TW.loopT [4, 5, 7, 9, 14, 15, 16] (fun m h bs => ∃ (i : Int) (l : List (Ar 10)) (n2 : Nat), stable_Send_L0 k n f_ r h_ m i l n2 = some s_ ∧ (h 4 = .cp [lNode n.nodes, lLink n.links, lEdge n.edges] ∧ h 5 = .cp [ints f_.links, .int .i64 f_.node] ∧ h 7 = .ptr 3 0 10 ∧ h 9 = .arr 4 10 0 n2 n2 (n2 * 10) ∧ h 14 = lLAlt r.outs ∧ h 15 = .int .i64 (r.outs.length : Int) ∧ h 16 = .int .i64 i) ∧ bs = [.gone, .gone, .cells true 23 (T.int .i64 r.prio :: (r.mat.mask.l.map (T.int .i64) ++ (r.mat.bits.l.map (T.int .i64) ++ [T.int .i64 r.step, lLAlt r.outs]))), .cells true 10 (h_.l.map (T.int .i64)), .cells false (n2 * 10) (vecC (eAr .i64) l)]) ?_ k _ _ ?_
  rotate_left
  ·exact ⟨0, [], 0, H1, kq hh, rfl⟩
  clear hh h H1
  rintro m h bs ⟨i, l, n2, H1, hh, rfl⟩
  rcases m with _ | m
  ·rw [stable_Send_L0] at H1; cases H1
  rw [stable_Send_L0] at H1
  repeat apply TW.seq
  refine rk [4, 5, 7, 9, 14, 15, 16, 17] [] hh ?_
  clear hh h
  intro h hh
  rcases isp H1 with ⟨c1, H1⟩ | ⟨c1, H1⟩
  rotate_left
  ·skip
   repeat apply TW.seq
   refine cf (f2 hh (decide_eq_false c1)) ?_
   refine xk ?_
   cases H1
   exact ce hh ⟨kq hh, rfl⟩
  repeat apply TW.seq
  refine ct (f2 hh (decide_eq_true c1)) ?_
  repeat apply TW.seq
  refine sk ?_
  repeat apply TW.seq
  apply TW.block
  obtain ⟨g2, H1⟩ := isg H1
  repeat apply TW.seq
  refine rk [4, 5, 7, 9, 11, 14, 15, 16] [] (f2 hh (gx_some g2)) ?_
  clear hh h
  intro h hh
  obtain ⟨rAlt, e3, H1⟩ := bsome H1
  repeat apply TW.seq
  refine rkc [4, 5, 7, 9, 11, 12, 14, 15, 16] [] [(.int .i64 rAlt, stL [.gone, .gone, .cells true 23 (T.int .i64 r.prio :: (r.mat.mask.l.map (T.int .i64) ++ (r.mat.bits.l.map (T.int .i64) ++ [T.int .i64 r.step, lLAlt r.outs]))), .cells true 10 (h_.l.map (T.int .i64)), .cells false (n2 * 10) (vecC (eAr .i64) l)])] hh ?_ ?_
  ·exact ⟨Call0.call ((sslices_IndexFunc_Alt_ok ax hx k (gx r.outs i) (fun y => stable_Send_1 k y n f_) rAlt e3 34 [.cp [lNode n.nodes, lLink n.links, lEdge n.edges], .cp [ints f_.links, .int .i64 f_.node]] (by simp only [ids2B, ids2C, idsA, idsB, Bool.and_self]) (fun y w hw => by first | exact stable_Send_1_ok ax hx k y n f_ w hw | exact (stable_Send_1_ok ax hx k y n f_ w hw))).call _), trivial⟩
  clear hh h
  intro h hh
  repeat apply TW.seq
  refine rk [4, 5, 7, 9, 11, 12, 14, 15, 16, 24] [] hh ?_
  clear hh h
  intro h hh
  rcases isp H1 with ⟨c4, H1⟩ | ⟨c4, H1⟩
  rotate_left
  ·skip
   repeat apply TW.seq
   refine cf (f2 hh (decide_eq_false c4)) ?_
   repeat apply TW.seq
   refine sk ?_
   repeat apply TW.seq
   refine rk [4, 5, 7, 9, 14, 15, 16] [] hh ?_
   clear hh h
   intro h hh
   exact rd m hh ⟨(IntKind.i64.wrap (i + 1)), l, n2, H1, kq hh, rfl⟩
  repeat apply TW.seq
  refine ct (f2 hh (decide_eq_true c4)) ?_
  obtain ⟨g5, H1⟩ := isg H1
  obtain ⟨rApply, e6, H1⟩ := bsome H1
  obtain ⟨g7, H1⟩ := isg H1
  repeat apply TW.seq
  refine dg 7 [] [] [(.agg (rApply.l.map (T.int .i64)), stL [.gone, .gone, .cells true 23 (T.int .i64 r.prio :: (r.mat.mask.l.map (T.int .i64) ++ (r.mat.bits.l.map (T.int .i64) ++ [T.int .i64 r.step, lLAlt r.outs]))), .cells true 10 (h_.l.map (T.int .i64)), .cells false (n2 * 10) (vecC (eAr .i64) l)])] [.gone, .gone, .cells true 23 (T.int .i64 r.prio :: (r.mat.mask.l.map (T.int .i64) ++ (r.mat.bits.l.map (T.int .i64) ++ [T.int .i64 r.step, lLAlt r.outs]))), .cells true 10 (h_.l.map (T.int .i64)), .cells false ((n2 + 1) * 10) (vecC (eAr .i64) (l ++ [rApply]))] (fun h => h 4 = .cp [lNode n.nodes, lLink n.links, lEdge n.edges] ∧ h 5 = .cp [ints f_.links, .int .i64 f_.node] ∧ h 7 = .ptr 3 0 10 ∧ h 9 = .arr 4 10 0 (n2 + 1) (n2 + 1) ((n2 + 1) * 10) ∧ h 14 = lLAlt r.outs ∧ h 15 = .int .i64 (r.outs.length : Int) ∧ h 16 = .int .i64 i) (f3 hh (gx_some g5) (@vecC_ar1 .i64 10)) trivial ?_ ?_
  ·exact ⟨Call0.call ((sbits_Apply_ok ax hx k ((gx (gx r.outs i) rAlt).mod) h_ rApply e6 ).call _), trivial⟩
  clear hh h
  intro h hh
  repeat apply TW.seq
  refine rk [4, 5, 7, 9, 14, 15, 16] [] hh ?_
  clear hh h
  intro h hh
  exact rd m hh ⟨(IntKind.i64.wrap (i + 1)), (l ++ [rApply]), (n2 + 1), H1, kq hh, rfl⟩
 clear hh h
 rintro h bs ⟨hh, rfl⟩
 repeat apply TW.seq
 refine rk [8] [] hh ?_
 clear hh h
 intro h hh
 obtain ⟨g8, H⟩ := isg H
 refine TW.freeze 8 (b := 4) (e := 10) (off := 0) (len := s_.2) (cap := s_.2) (M := (s_.2 * 10)) (s_.1.map (eAr .i64)) (kq hh) (by rfl) (by omega) (by omega) (by rw [List.drop_zero]; exact vecC_take (fun x => eAr_cel x) g8) (fun t ht => by obtain ⟨x, _, rfl⟩ := List.mem_map.1 ht; first | rfl | exact eAr_len _ | exact cel_ePat _ | exact cel_eAlt _ | exact cel_eRule _ | (rw [List.length_map]; rfl)) (by rw [List.length_map]; exact g8) (by omega) ?_
 rw [st_set _ _ _ (by simp only [lzA] <;> omega)]
 simp only [scA]
 refine gk [8] hh ?_
 clear hh h
 intro h hh
 cases H
 exact rt hh
def sr09_CheckFailure_L0 (k : Nat) (n : Net) (f_ : Failure) : Nat → Int → Option (Int ⊕ Unit)
 | 0, _ => none
 | m + 1, i => (if i < (f_.links.length : Int) then (if (0 : Int) ≤ i ∧ i < (f_.links.length : Int) then (if (gx f_.links i) < 0 then some (.inl 1) else (if (n.links.length : Int) ≤ (gx f_.links i) then some (.inl 1) else (if 0 < i then (if (0 : Int) ≤ (IntKind.i64.wrap (i - 1)) ∧ (IntKind.i64.wrap (i - 1)) < (f_.links.length : Int) then (if (gx f_.links i) ≤ (gx f_.links (IntKind.i64.wrap (i - 1))) then some (.inl 1) else sr09_CheckFailure_L0 k n f_ m (IntKind.i64.wrap (i + 1))) else none) else sr09_CheckFailure_L0 k n f_ m (IntKind.i64.wrap (i + 1))))) else none) else some (.inr ()))
def sr09_CheckFailure (k : Nat) (n : Net) (f_ : Failure) : Option Int := ((sr09_CheckFailure_L0 k n f_ k 0 : Option (Int ⊕ Unit)).bind fun o => Sum.elim (fun r => some r) (fun s_ => (if f_.node ≠ (-1) then ((sr09_isNode k n f_.node).bind fun risNode => (if risNode = true then some 0 else some 1)) else some 0)) o)
set_option maxHeartbeats 8000000 in
theorem sr09_CheckFailure_ok (ax : Axs) (hx : Plain ax) (k : Nat) (n : Net) (f_ : Failure) (v : Int) (H : sr09_CheckFailure k n f_ = some v) : Pure Try.prog (EE ax) [] 6 [eNet n, eFailure f_] (.int .i64 v) := by
 rw [sr09_CheckFailure] at H
 refine en [.tmp 4] 58 [0, 1] (hx.no _ (by decide)) (fn6 ax) ?_
 intro h hh
 repeat apply TW.seq
 refine rk [2, 3] [] hh ?_
 clear hh h
 intro h hh
 repeat apply TW.seq
 refine rk [2, 3, 5] [] hh ?_
 clear hh h
 intro h hh
 obtain ⟨o, H1, H⟩ := bsome H
 repeat apply TW.seq
 refine cu [2, 3] 2 (fun h bs => ∃ s_ : Unit, o = .inr s_ ∧ (h 2 = .ptr 0 0 3 ∧ h 3 = .ptr 1 0 2) ∧ bs = [.cells true 3 [lNode n.nodes, lLink n.links, lEdge n.edges], .cells true 2 [ints f_.links, .int .i64 f_.node]]) ?_ ?_
 ·skip
  repeat apply TW.seq
  apply TW.block
  repeat apply TW.seq
  refine TW.loopT [2, 3, 5] (fun m h bs => ∃ (i : Int), sr09_CheckFailure_L0 k n f_ m i = some o ∧ (h 2 = .ptr 0 0 3 ∧ h 3 = .ptr 1 0 2 ∧ h 5 = .int .i64 i) ∧ bs = [.cells true 3 [lNode n.nodes, lLink n.links, lEdge n.edges], .cells true 2 [ints f_.links, .int .i64 f_.node]]) ?_ k _ _ ?_
  rotate_left
  ·exact ⟨0, H1, kq hh, rfl⟩
  clear hh h H1
  rintro m h bs ⟨i, H1, hh, rfl⟩
  rcases m with _ | m
  ·rw [sr09_CheckFailure_L0] at H1; cases H1
  rw [sr09_CheckFailure_L0] at H1
  repeat apply TW.seq
  refine rk [2, 3, 5, 10] [] hh ?_
  clear hh h
  intro h hh
  rcases isp H1 with ⟨c1, H1⟩ | ⟨c1, H1⟩
  rotate_left
  ·skip
   repeat apply TW.seq
   refine cf (f2 hh (decide_eq_false c1)) ?_
   refine xk ?_
   cases H1
   exact ce hh ⟨_, rfl, kq hh, rfl⟩
  repeat apply TW.seq
  refine ct (f2 hh (decide_eq_true c1)) ?_
  repeat apply TW.seq
  refine sk ?_
  repeat apply TW.seq
  apply TW.block
  obtain ⟨g2, H1⟩ := isg H1
  rcases isp H1 with ⟨c3, H1⟩ | ⟨c3, H1⟩
  rotate_left
  ·skip
   rcases isp H1 with ⟨c4, H1⟩ | ⟨c4, H1⟩
   rotate_left
   ·skip
    rcases isp H1 with ⟨c5, H1⟩ | ⟨c5, H1⟩
    rotate_left
    ·skip
     repeat apply TW.seq
     refine dk 32 [2, 3, 5, 47] [] [] [] (f3 hh (decide_eq_false c3) (f3 (decide_eq_false c4) (decide_eq_false c5) (gx_some g2))) trivial trivial ?_
     clear hh h
     intro h hh
     repeat apply TW.seq
     refine cf hh ?_
     repeat apply TW.seq
     refine sk ?_
     repeat apply TW.seq
     refine rk [2, 3, 5] [] hh ?_
     clear hh h
     intro h hh
     exact rd m hh ⟨(IntKind.i64.wrap (i + 1)), H1, kq hh, rfl⟩
    obtain ⟨g6, H1⟩ := isg H1
    repeat apply TW.seq
    refine dk 32 [2, 3, 5, 47] [] [] [] (f3 hh (decide_eq_false c3) (f3 (decide_eq_false c4) (decide_eq_true c5) (f2 (gx_some g2) (gx_some g6)))) trivial trivial ?_
    clear hh h
    intro h hh
    rcases isp H1 with ⟨c7, H1⟩ | ⟨c7, H1⟩
    rotate_left
    ·skip
     repeat apply TW.seq
     refine cf (f2 hh (decide_eq_false c7)) ?_
     repeat apply TW.seq
     refine sk ?_
     repeat apply TW.seq
     refine rk [2, 3, 5] [] hh ?_
     clear hh h
     intro h hh
     exact rd m hh ⟨(IntKind.i64.wrap (i + 1)), H1, kq hh, rfl⟩
    repeat apply TW.seq
    refine ct (f2 hh (decide_eq_true c7)) ?_
    repeat apply TW.seq
    refine rk [4] [] hh ?_
    clear hh h
    intro h hh
    cases H1
    obtain rfl := sinl H
    exact rt hh
   repeat apply TW.seq
   refine dk 32 [2, 3, 5, 47] [] [] [] (f3 hh (decide_eq_false c3) (f2 (decide_eq_true c4) (gx_some g2))) trivial trivial ?_
   clear hh h
   intro h hh
   repeat apply TW.seq
   refine ct hh ?_
   repeat apply TW.seq
   refine rk [4] [] hh ?_
   clear hh h
   intro h hh
   cases H1
   obtain rfl := sinl H
   exact rt hh
  repeat apply TW.seq
  refine dk 32 [2, 3, 5, 47] [] [] [] (f3 hh (decide_eq_true c3) (gx_some g2)) trivial trivial ?_
  clear hh h
  intro h hh
  repeat apply TW.seq
  refine ct hh ?_
  repeat apply TW.seq
  refine rk [4] [] hh ?_
  clear hh h
  intro h hh
  cases H1
  obtain rfl := sinl H
  exact rt hh
 clear hh h
 rintro h bs ⟨s_, rfl, hh, rfl⟩
 replace H := sinr H
 rcases isp H with ⟨c8, H⟩ | ⟨c8, H⟩
 rotate_left
 ·skip
  repeat apply TW.seq
  refine rk [57] [] (f2 hh (decide_eq_false c8)) ?_
  clear hh h
  intro h hh
  repeat apply TW.seq
  refine cf hh ?_
  repeat apply TW.seq
  refine sk ?_
  repeat apply TW.seq
  refine rk [4] [] hh ?_
  clear hh h
  intro h hh
  cases H
  exact rt hh
 obtain ⟨risNode, e9, H⟩ := bsome H
 repeat apply TW.seq
 refine rkc [57] [] [(.bool risNode, stL [.cells true 3 [lNode n.nodes, lLink n.links, lEdge n.edges], .cells true 2 [ints f_.links, .int .i64 f_.node]])] (f2 hh (decide_eq_true c8)) ?_ ?_
 ·exact ⟨Call0.call ((sr09_isNode_ok ax hx k n f_.node risNode e9 ).call _), trivial⟩
 clear hh h
 intro h hh
 rcases isb H with ⟨c10, H⟩ | ⟨c10, H⟩
 rotate_left
 ·skip
  repeat apply TW.seq
  refine ct (f2 hh c10) ?_
  repeat apply TW.seq
  refine rk [4] [] (f2 hh c10) ?_
  clear hh h
  intro h hh
  cases H
  exact rt hh
 repeat apply TW.seq
 refine cf (f2 hh c10) ?_
 repeat apply TW.seq
 refine sk ?_
 repeat apply TW.seq
 refine rk [4] [] (f2 hh c10) ?_
 clear hh h
 intro h hh
 cases H
 exact rt hh
def sr09_Up_L0 (k : Nat) (f_ : Failure) (link : Int) : Nat → Int → Option (Bool ⊕ Unit)
 | 0, _ => none
 | m + 1, i => (if i < (f_.links.length : Int) then (if (0 : Int) ≤ i ∧ i < (f_.links.length : Int) then (if (gx f_.links i) = link then some (.inl false) else sr09_Up_L0 k f_ link m (IntKind.i64.wrap (i + 1))) else none) else some (.inr ()))
def sr09_Up (k : Nat) (n : Net) (f_ : Failure) (link : Int) : Option Bool := ((sr09_Up_L0 k f_ link k 0 : Option (Bool ⊕ Unit)).bind fun o => Sum.elim (fun r => some r) (fun s_ => (if (0 : Int) ≤ link ∧ link < (n.links.length : Int) then (if ((gx n.links link).frm) ≠ f_.node then some (decide (((gx n.links link).to) ≠ f_.node)) else some false) else none)) o)
set_option maxHeartbeats 8000000 in
theorem sr09_Up_ok (ax : Axs) (hx : Plain ax) (k : Nat) (n : Net) (f_ : Failure) (link : Int) (v : Bool) (H : sr09_Up k n f_ link = some v) : Pure Try.prog (EE ax) [] 11 [eNet n, eFailure f_, .int .i64 link] (.bool v) := by
 rw [sr09_Up] at H
 refine en [.tmp 6] 42 [0, 1, 2] (hx.no _ (by decide)) (fn11 ax) ?_
 intro h hh
 repeat apply TW.seq
 refine rk [2, 3, 4] [] hh ?_
 clear hh h
 intro h hh
 repeat apply TW.seq
 refine rk [2, 3, 4, 7] [] hh ?_
 clear hh h
 intro h hh
 obtain ⟨o, H1, H⟩ := bsome H
 repeat apply TW.seq
 refine cu [2, 3, 4] 2 (fun h bs => ∃ s_ : Unit, o = .inr s_ ∧ (h 2 = .int .i64 link ∧ h 3 = .ptr 0 0 3 ∧ h 4 = .ptr 1 0 2) ∧ bs = [.cells true 3 [lNode n.nodes, lLink n.links, lEdge n.edges], .cells true 2 [ints f_.links, .int .i64 f_.node]]) ?_ ?_
 ·skip
  repeat apply TW.seq
  apply TW.block
  repeat apply TW.seq
  refine TW.loopT [2, 3, 4, 7] (fun m h bs => ∃ (i : Int), sr09_Up_L0 k f_ link m i = some o ∧ (h 2 = .int .i64 link ∧ h 3 = .ptr 0 0 3 ∧ h 4 = .ptr 1 0 2 ∧ h 7 = .int .i64 i) ∧ bs = [.cells true 3 [lNode n.nodes, lLink n.links, lEdge n.edges], .cells true 2 [ints f_.links, .int .i64 f_.node]]) ?_ k _ _ ?_
  rotate_left
  ·exact ⟨0, H1, kq hh, rfl⟩
  clear hh h H1
  rintro m h bs ⟨i, H1, hh, rfl⟩
  rcases m with _ | m
  ·rw [sr09_Up_L0] at H1; cases H1
  rw [sr09_Up_L0] at H1
  repeat apply TW.seq
  refine rk [2, 3, 4, 7, 12] [] hh ?_
  clear hh h
  intro h hh
  rcases isp H1 with ⟨c1, H1⟩ | ⟨c1, H1⟩
  rotate_left
  ·skip
   repeat apply TW.seq
   refine cf (f2 hh (decide_eq_false c1)) ?_
   refine xk ?_
   cases H1
   exact ce hh ⟨_, rfl, kq hh, rfl⟩
  repeat apply TW.seq
  refine ct (f2 hh (decide_eq_true c1)) ?_
  repeat apply TW.seq
  refine sk ?_
  repeat apply TW.seq
  apply TW.block
  obtain ⟨g2, H1⟩ := isg H1
  repeat apply TW.seq
  refine rk [2, 3, 4, 7, 21] [] (f2 hh (gx_some g2)) ?_
  clear hh h
  intro h hh
  rcases isp H1 with ⟨c3, H1⟩ | ⟨c3, H1⟩
  rotate_left
  ·skip
   repeat apply TW.seq
   refine cf (f2 hh (decide_eq_false c3)) ?_
   repeat apply TW.seq
   refine sk ?_
   repeat apply TW.seq
   refine rk [2, 3, 4, 7] [] hh ?_
   clear hh h
   intro h hh
   exact rd m hh ⟨(IntKind.i64.wrap (i + 1)), H1, kq hh, rfl⟩
  repeat apply TW.seq
  refine ct (f2 hh (decide_eq_true c3)) ?_
  repeat apply TW.seq
  refine rk [6] [] hh ?_
  clear hh h
  intro h hh
  cases H1
  obtain rfl := sinl H
  exact rt hh
 clear hh h
 rintro h bs ⟨s_, rfl, hh, rfl⟩
 replace H := sinr H
 obtain ⟨g4, H⟩ := isg H
 rcases isp H with ⟨c5, H⟩ | ⟨c5, H⟩
 rotate_left
 ·skip
  repeat apply TW.seq
  refine dk 18 [6] [] [] [] (f3 hh (decide_eq_false c5) (gx_some g4)) trivial trivial ?_
  clear hh h
  intro h hh
  cases H
  exact rt hh
 repeat apply TW.seq
 refine dk 18 [6] [] [] [] (f3 hh (decide_eq_true c5) (gx_some g4)) trivial trivial ?_
 clear hh h
 intro h hh
 cases H
 exact rt hh
def sl_TableFailsOver_1_L0 (k : Nat) (f_ : Failure) (l : List Alt) (fv : Net) : Nat → Int → Option (Int ⊕ Unit)
 | 0, _ => none
 | m + 1, i => (if i < (l.length : Int) then (if (0 : Int) ≤ i ∧ i < (l.length : Int) then (if ((gx l i).link) < 0 then some (.inl i) else ((sr09_Up k fv f_ ((gx l i).link)).bind fun rUp => (if rUp = true then some (.inl i) else sl_TableFailsOver_1_L0 k f_ l fv m (IntKind.i64.wrap (i + 1))))) else none) else some (.inr ()))
def sl_TableFailsOver_1 (k : Nat) (f_ : Failure) (l : List Alt) (fv : Net) : Option Int := ((sl_TableFailsOver_1_L0 k f_ l fv k 0 : Option (Int ⊕ Unit)).bind fun o => Sum.elim (fun r => some r) (fun s_ => some (l.length : Int)) o)
set_option maxHeartbeats 8000000 in
theorem sl_TableFailsOver_1_ok (ax : Axs) (hx : Plain ax) (k : Nat) (f_ : Failure) (l : List Alt) (fv : Net) (v : Int) (H : sl_TableFailsOver_1 k f_ l fv = some v) : Pure Try.prog (EE ax) [] 10 [eFailure f_, lAlt l, .cp [lNode fv.nodes, lLink fv.links, lEdge fv.edges]] (.int .i64 v) := by
 rw [sl_TableFailsOver_1] at H
 refine en [.tmp 5] 29 [0, 1, 2] (hx.no _ (by decide)) (fn10 ax) ?_
 intro h hh
 repeat apply TW.seq
 refine rk [1, 2, 3] [] hh ?_
 clear hh h
 intro h hh
 repeat apply TW.seq
 refine rk [1, 2, 3, 8, 9, 10] [] hh ?_
 clear hh h
 intro h hh
 obtain ⟨o, H1, H⟩ := bsome H
 repeat apply TW.seq
 refine cu [1] 1 (fun h bs => ∃ s_ : Unit, o = .inr s_ ∧ (h 1 = lAlt l) ∧ bs = [.cells true 2 [ints f_.links, .int .i64 f_.node]]) ?_ ?_
 ·skip
  repeat apply TW.seq
  apply TW.block
  repeat apply TW.seq
  refine TW.loopT [1, 2, 3, 8, 9, 10] (fun m h bs => ∃ (i : Int), sl_TableFailsOver_1_L0 k f_ l fv m i = some o ∧ (h 1 = lAlt l ∧ h 2 = .cp [lNode fv.nodes, lLink fv.links, lEdge fv.edges] ∧ h 3 = .ptr 0 0 2 ∧ h 8 = lAlt l ∧ h 9 = .int .i64 (l.length : Int) ∧ h 10 = .int .i64 i) ∧ bs = [.cells true 2 [ints f_.links, .int .i64 f_.node]]) ?_ k _ _ ?_
  rotate_left
  ·exact ⟨0, H1, kq hh, rfl⟩
  clear hh h H1
  rintro m h bs ⟨i, H1, hh, rfl⟩
  rcases m with _ | m
  ·rw [sl_TableFailsOver_1_L0] at H1; cases H1
  rw [sl_TableFailsOver_1_L0] at H1
  repeat apply TW.seq
  refine rk [1, 2, 3, 8, 9, 10, 11] [] hh ?_
  clear hh h
  intro h hh
  rcases isp H1 with ⟨c1, H1⟩ | ⟨c1, H1⟩
  rotate_left
  ·skip
   repeat apply TW.seq
   refine cf (f2 hh (decide_eq_false c1)) ?_
   refine xk ?_
   cases H1
   exact ce hh ⟨_, rfl, kq hh, rfl⟩
  repeat apply TW.seq
  refine ct (f2 hh (decide_eq_true c1)) ?_
  repeat apply TW.seq
  refine sk ?_
  repeat apply TW.seq
  apply TW.block
  obtain ⟨g2, H1⟩ := isg H1
  repeat apply TW.seq
  refine rk [1, 2, 3, 6, 7, 8, 9, 10] [] (f2 hh (gx_some g2)) ?_
  clear hh h
  intro h hh
  rcases isp H1 with ⟨c3, H1⟩ | ⟨c3, H1⟩
  rotate_left
  ·skip
   obtain ⟨rUp, e4, H1⟩ := bsome H1
   repeat apply TW.seq
   refine rkc [1, 2, 3, 6, 8, 9, 10, 24] [] [(.bool rUp, stL [.cells true 2 [ints f_.links, .int .i64 f_.node], .cells true 21 (T.int .i64 ((gx l i).link) :: ((((gx l i).mod).mask).l.map (T.int .i64) ++ ((((gx l i).mod).bits).l.map (T.int .i64))))])] (f2 hh (decide_eq_false c3)) ?_ ?_
   ·exact ⟨Call0.call ((sr09_Up_ok ax hx k fv f_ ((gx l i).link) rUp e4 ).call _), trivial⟩
   clear hh h
   intro h hh
   rcases isb H1 with ⟨c5, H1⟩ | ⟨c5, H1⟩
   rotate_left
   ·skip
    repeat apply TW.seq
    refine cf (f2 hh c5) ?_
    repeat apply TW.seq
    refine sk ?_
    repeat apply TW.seq
    refine rk [1, 2, 3, 8, 9, 10] [] (f2 hh c5) ?_
    clear hh h
    intro h hh
    exact rd m hh ⟨(IntKind.i64.wrap (i + 1)), H1, kq hh, rfl⟩
   repeat apply TW.seq
   refine ct (f2 hh c5) ?_
   repeat apply TW.seq
   refine rk [5] [] (f2 hh c5) ?_
   clear hh h
   intro h hh
   cases H1
   obtain rfl := sinl H
   exact rt hh
  repeat apply TW.seq
  refine rk [1, 2, 3, 6, 8, 9, 10, 24] [] (f2 hh (decide_eq_true c3)) ?_
  clear hh h
  intro h hh
  repeat apply TW.seq
  refine ct hh ?_
  repeat apply TW.seq
  refine rk [5] [] hh ?_
  clear hh h
  intro h hh
  cases H1
  obtain rfl := sinl H
  exact rt hh
 clear hh h
 rintro h bs ⟨s_, rfl, hh, rfl⟩
 replace H := sinr H
 repeat apply TW.seq
 refine rk [5] [] hh ?_
 clear hh h
 intro h hh
 cases H
 exact rt hh
end Go.Proofs.Ytjgbkegkcbcjaaa
namespace Go.Proofs.Ytjgbkegkcbcjaaa
open Go Go.RowKit
theorem getD_mem {α : Type} [Inhabited α] {l : List α} {i : Nat} (h : i < l.length) : l.getD i default ∈ l := by
  rw [List.getD_eq_getElem?_getD, List.getElem?_eq_getElem h]
  exact List.getElem_mem h
def isNodeP (n : Net) (k : Int) : Prop := 0 ≤ k ∧ k < (n.nodes.length : Int)
instance (n : Net) (k : Int) : Decidable (isNodeP n k) := by unfold isNodeP; infer_instance
structure RightNet (n : Net) : Prop where
  nodes : n.nodes.length ≤ 10
  links : n.links.length ≤ 24
  frm : ∀ k, k < n.links.length → 0 ≤ (n.links.getD k default).frm ∧ (n.links.getD k default).frm < (n.nodes.length : Int)
  to : ∀ k, k < n.links.length → 0 ≤ (n.links.getD k default).to ∧ (n.links.getD k default).to < (n.nodes.length : Int)
  apart : ∀ k, k < n.links.length → (n.links.getD k default).frm ≠ (n.links.getD k default).to
  cap : ∀ k, k < n.links.length → 0 ≤ (n.links.getD k default).cap ∧ (n.links.getD k default).cap ≤ 1048576
theorem Name_L0 (k : Nat) (s : ByteArray) (hs : s.size < 9223372036854775808) : ∀ (m i : Nat), i ≤ s.size → s.size - i < m → ∃ r, sr08_Name_L0 k s m (i : Int) = some r := by
  intro m
  induction m with
  | zero => intro i h1 h2; omega
  | succ m ih =>
    intro i h1 h2
    rw [sr08_Name_L0]
    by_cases c : (i : Int) < (s.size : Int)
    · obtain ⟨r, hr⟩ := ih (i + 1) (by omega) (by omega)
      have g : (0 : Int) ≤ (i : Int) ∧ (i : Int) < (s.size : Int) := ⟨by omega, c⟩
      have A1 : ∃ b, (if (0 : Int) ≤ (i : Int) ∧ (i : Int) < (s.size : Int) then (if 97 ≤ ((bx s (i : Int)).toNat : Int) then some (decide (((bx s (i : Int)).toNat : Int) ≤ 122)) else some false) else none) = some b := by
        rw [if_pos g]; split <;> exact ⟨_, rfl⟩
      have A2 : ∃ b, (if (0 : Int) ≤ (i : Int) ∧ (i : Int) < (s.size : Int) then (if 48 ≤ ((bx s (i : Int)).toNat : Int) then (if ((bx s (i : Int)).toNat : Int) ≤ 57 then some true else some (decide (((bx s (i : Int)).toNat : Int) = 95))) else some (decide (((bx s (i : Int)).toNat : Int) = 95))) else none) = some b := by
        rw [if_pos g]; split
        · split <;> exact ⟨_, rfl⟩
        · exact ⟨_, rfl⟩
      obtain ⟨b1, h1⟩ := A1
      obtain ⟨b2, h2⟩ := A2
      rw [if_pos c, h1, h2, wr_succ i (by omega), hr]
      simp only [Option.bind_some]
      (repeat' split) <;> exact ⟨_, rfl⟩
    · rw [if_neg c]; exact ⟨_, rfl⟩
theorem Name_tot {k : Nat} (hk : 9223372036854775808 ≤ k) (s : ByteArray) (hs : s.size < 9223372036854775808) : ∃ r, sr08_Name k s = some r := by
  obtain ⟨r, h⟩ := Name_L0 k s hs k 0 (by omega) (by omega)
  rw [show ((0 : Nat) : Int) = 0 from rfl] at h
  unfold sr08_Name
  rw [h, Option.bind_some]
  cases r with
  | inl b => exact ⟨_, rfl⟩
  | inr u => simp only [Sum.elim_inr]; split <;> exact ⟨_, rfl⟩
theorem named_L1 (k : Nat) (l : List ByteArray) (e : Nat) (he : e < l.length) (hl : l.length < 9223372036854775808) : ∀ (m i : Nat), i ≤ e → e - i < m → ∃ r, sr09_named_L1 k l (e : Int) m (i : Int) = some r := by
  intro m
  induction m with
  | zero => intro i h1 h2; omega
  | succ m ih =>
    intro i h1 h2
    rw [sr09_named_L1]
    by_cases c : (i : Int) < (e : Int)
    · obtain ⟨r, hr⟩ := ih (i + 1) (by omega) (by omega)
      rw [if_pos c, if_pos ⟨by omega, by omega⟩, wr_succ i (by omega), hr]
      split <;> exact ⟨_, rfl⟩
    · rw [if_neg c]; exact ⟨_, rfl⟩
theorem named_L0 {k : Nat} (hk : 9223372036854775808 ≤ k) (l : List ByteArray) (hl : l.length < 9223372036854775808) (hs : ∀ s, s ∈ l → s.size < 9223372036854775808) : ∀ (m i : Nat), i ≤ l.length → l.length - i < m → ∃ r, sr09_named_L0 k l m (i : Int) = some r := by
  intro m
  induction m with
  | zero => intro i h1 h2; omega
  | succ m ih =>
    intro i h1 h2
    rw [sr09_named_L0]
    by_cases c : (i : Int) < (l.length : Int)
    · have hi : i < l.length := by omega
      obtain ⟨r, hr⟩ := ih (i + 1) (by omega) (by omega)
      obtain ⟨b, hb⟩ := Name_tot hk (l.getD i default) (hs _ (getD_mem hi))
      obtain ⟨r1, h1⟩ := named_L1 k l i hi hl k 0 (by omega) (by omega)
      rw [show ((0 : Nat) : Int) = 0 from rfl] at h1
      rw [if_pos c, if_pos ⟨by omega, c⟩, wr_succ i (by omega), gx_nat l i, hb, h1, hr]
      cases b with
      | false => exact ⟨_, rfl⟩
      | true => cases r1 <;> exact ⟨_, rfl⟩
    · rw [if_neg c]; exact ⟨_, rfl⟩
theorem named_tot {k : Nat} (hk : 9223372036854775808 ≤ k) (l : List ByteArray) (hl : l.length < 9223372036854775808) (hs : ∀ s, s ∈ l → s.size < 9223372036854775808) : ∃ r, sr09_named k l = some r := by
  obtain ⟨r, h⟩ := named_L0 hk l hl hs k 0 (by omega) (by omega)
  rw [show ((0 : Nat) : Int) = 0 from rfl] at h
  unfold sr09_named
  rw [h, Option.bind_some]
  cases r <;> exact ⟨_, rfl⟩
theorem Names_L0 (k : Nat) (n : Net) (hn : n.nodes.length ≤ 1000) (hs : ∀ x, x ∈ n.nodes → x.name.size < 9223372036854775808) : ∀ (m i : Nat) (l : List ByteArray), i ≤ n.nodes.length → n.nodes.length - i < m → l.length = i → (∀ s, s ∈ l → s.size < 9223372036854775808) →
    ∃ l', sr09_Names_L0 k n m (i : Int) l i = some (l', l'.length) ∧ l'.length = n.nodes.length ∧ ∀ s, s ∈ l' → s.size < 9223372036854775808 := by
  intro m
  induction m with
  | zero => intro i l h1 h2; omega
  | succ m ih =>
    intro i l h1 h2 h3 h4
    rw [sr09_Names_L0]
    by_cases c : (i : Int) < (n.nodes.length : Int)
    · have hi : i < n.nodes.length := by omega
      rw [if_pos c, if_pos ⟨by omega, c⟩, if_pos (by omega), wr_succ i (by omega), gx_nat n.nodes i]
      refine ih (i + 1) _ (by omega) (by omega) (by simp [h3]) fun s hm => ?_
      rcases List.mem_append.1 hm with q | q
      · exact h4 s q
      · simp only [List.mem_singleton] at q; subst q; exact hs _ (getD_mem hi)
    · rw [if_neg c]
      exact ⟨l, by rw [h3], by omega, h4⟩
theorem Names_L1 (k : Nat) (n : Net) (hn : n.edges.length ≤ 1000) (hs : ∀ x, x ∈ n.edges → x.name.size < 9223372036854775808) : ∀ (m i : Nat) (l : List ByteArray), i ≤ n.edges.length → n.edges.length - i < m → l.length = i → (∀ s, s ∈ l → s.size < 9223372036854775808) →
    ∃ l', sr09_Names_L1 k n m (i : Int) l i = some (l', l'.length) ∧ l'.length = n.edges.length ∧ ∀ s, s ∈ l' → s.size < 9223372036854775808 := by
  intro m
  induction m with
  | zero => intro i l h1 h2; omega
  | succ m ih =>
    intro i l h1 h2 h3 h4
    rw [sr09_Names_L1]
    by_cases c : (i : Int) < (n.edges.length : Int)
    · have hi : i < n.edges.length := by omega
      rw [if_pos c, if_pos ⟨by omega, c⟩, if_pos (by omega), wr_succ i (by omega), gx_nat n.edges i]
      refine ih (i + 1) _ (by omega) (by omega) (by simp [h3]) fun s hm => ?_
      rcases List.mem_append.1 hm with q | q
      · exact h4 s q
      · simp only [List.mem_singleton] at q; subst q; exact hs _ (getD_mem hi)
    · rw [if_neg c]
      exact ⟨l, by rw [h3], by omega, h4⟩
theorem isNode9_spec {k : Nat} {n : Net} (v : Int) : sr09_isNode k n v = some (decide (isNodeP n v)) := by
  unfold sr09_isNode isNodeP
  by_cases h : 0 ≤ v
  · rw [if_pos h]; simp [h]
  · rw [if_neg h]; simp [h]
theorem Chk_L0 (k : Nat) (n : Net) (hn : n.nodes.length ≤ 1000) : ∀ (m i : Nat), i ≤ n.nodes.length → n.nodes.length - i < m → ∃ r, sr09_Check_L0 k n m (i : Int) = some r ∧ (r = .inr () ∨ r = .inl 1) := by
  intro m
  induction m with
  | zero => intro i h1 h2; omega
  | succ m ih =>
    intro i h1 h2
    rw [sr09_Check_L0]
    by_cases c : (i : Int) < (n.nodes.length : Int)
    · obtain ⟨r, hr, hq⟩ := ih (i + 1) (by omega) (by omega)
      rw [if_pos c, if_pos ⟨by omega, c⟩, wr_succ i (by omega), hr]
      (repeat' split) <;> first | exact ⟨_, rfl, .inr rfl⟩ | exact ⟨_, rfl, hq⟩
    · rw [if_neg c]; exact ⟨_, rfl, .inl rfl⟩
def LinkOk (n : Net) (l : Link) : Prop := isNodeP n l.frm ∧ isNodeP n l.to ∧ l.frm ≠ l.to ∧ 0 ≤ l.cap ∧ l.cap ≤ 1048576
theorem Chk_L1 (k : Nat) (n : Net) (hn : n.links.length ≤ 10000) : ∀ (m i : Nat), i ≤ n.links.length → n.links.length - i < m → (∀ j, j < i → LinkOk n (n.links.getD j default)) → ∃ r, sr09_Check_L1 k n m (i : Int) = some r ∧ ((r = .inr () ∧ ∀ j, j < n.links.length → LinkOk n (n.links.getD j default)) ∨ r = .inl 1) := by
  intro m
  induction m with
  | zero => intro i h1 h2; omega
  | succ m ih =>
    intro i h1 h2 h3
    rw [sr09_Check_L1]
    by_cases c : (i : Int) < (n.links.length : Int)
    · have hi : i < n.links.length := by omega
      rw [if_pos c, if_pos ⟨by omega, c⟩, wr_succ i (by omega), gx_nat n.links i, isNode9_spec, isNode9_spec, Option.bind_some, Option.bind_some]
      by_cases q1 : isNodeP n (n.links.getD i default).frm
      · rw [if_pos (decide_eq_true q1)]
        by_cases q2 : isNodeP n (n.links.getD i default).to
        · rw [if_pos (decide_eq_true q2)]
          by_cases q3 : (n.links.getD i default).frm = (n.links.getD i default).to
          · rw [if_pos q3]; exact ⟨_, rfl, .inr rfl⟩
          · rw [if_neg q3]
            by_cases q4 : (n.links.getD i default).cap < 0
            · rw [if_pos q4]; exact ⟨_, rfl, .inr rfl⟩
            · rw [if_neg q4]
              by_cases q5 : 1048576 < (n.links.getD i default).cap
              · rw [if_pos q5]; exact ⟨_, rfl, .inr rfl⟩
              · rw [if_neg q5]
                exact ih (i + 1) (by omega) (by omega) fun j hj => by rcases Nat.lt_succ_iff_lt_or_eq.1 hj with q | q; exact h3 j q; rw [q]; exact ⟨q1, q2, q3, by omega, by omega⟩
        · rw [if_neg (by simpa using q2)]; exact ⟨_, rfl, .inr rfl⟩
      · rw [if_neg (by simpa using q1)]; exact ⟨_, rfl, .inr rfl⟩
    · rw [if_neg c]; exact ⟨_, rfl, .inl ⟨rfl, fun j hj => h3 j (by omega)⟩⟩
theorem Chk_L2 (k : Nat) (n : Net) (hn : n.edges.length ≤ 1000) : ∀ (m i : Nat), i ≤ n.edges.length → n.edges.length - i < m → ∃ r, sr09_Check_L2 k n m (i : Int) = some r ∧ (r = .inr () ∨ r = .inl 1) := by
  intro m
  induction m with
  | zero => intro i h1 h2; omega
  | succ m ih =>
    intro i h1 h2
    rw [sr09_Check_L2]
    by_cases c : (i : Int) < (n.edges.length : Int)
    · obtain ⟨r, hr, hq⟩ := ih (i + 1) (by omega) (by omega)
      rw [if_pos c, if_pos ⟨by omega, c⟩, wr_succ i (by omega), hr, isNode9_spec, Option.bind_some]
      split
      · exact ⟨_, rfl, hq⟩
      · exact ⟨_, rfl, .inr rfl⟩
    · rw [if_neg c]; exact ⟨_, rfl, .inl rfl⟩
structure Held (n : Net) : Prop where
  nodes : ∀ x, x ∈ n.nodes → x.name.size < 9223372036854775808
  edges : ∀ x, x ∈ n.edges → x.name.size < 9223372036854775808
theorem Chk_spec {k : Nat} (hk : 9223372036854775808 ≤ k) (n : Net) (h1 : n.nodes.length ≤ 10) (h2 : n.links.length ≤ 24) (h3 : n.edges.length ≤ 20) (hh : Held n) : ∃ r, sr09_Check k n = some r ∧ (r = 0 → RightNet n) := by
  unfold sr09_Check
  rw [if_neg (by omega), if_neg (by omega), Option.bind_some, if_neg (by simp only [decide_eq_true_eq]; omega)]
  obtain ⟨l1, a1, a2, a3⟩ := Names_L0 k n (by omega) hh.nodes k 0 [] (by omega) (by omega) rfl (fun s hs => by simp at hs)
  obtain ⟨l2, b1, b2, b3⟩ := Names_L1 k n (by omega) hh.edges k 0 [] (by omega) (by omega) rfl (fun s hs => by simp at hs)
  obtain ⟨r1, c1⟩ := named_tot hk l1 (by omega) a3
  obtain ⟨r2, c2⟩ := named_tot hk l2 (by omega) b3
  obtain ⟨d1, e1, g1⟩ := Chk_L0 k n (by omega) k 0 (by omega) (by omega)
  obtain ⟨d2, e2, g2⟩ := Chk_L1 k n (by omega) k 0 (by omega) (by omega) (fun j hj => by omega)
  obtain ⟨d3, e3, g3⟩ := Chk_L2 k n (by omega) k 0 (by omega) (by omega)
  rw [show ((0 : Nat) : Int) = 0 from rfl] at a1 b1 e1 e2 e3
  have hN : sr09_Names k n = some (l1, l2) := by
    unfold sr09_Names
    rw [a1, b1]
    simp
  rw [hN, Option.bind_some]
  simp only [c1, c2, Option.bind_some, e1, e2, e3]
  cases r1 with
  | false => exact ⟨4, rfl, fun h => by simp at h⟩
  | true =>
    cases r2 with
    | false => exact ⟨4, rfl, fun h => by simp at h⟩
    | true =>
      rcases g1 with rfl | rfl
      · rcases g2 with ⟨rfl, hall⟩ | rfl
        · have hR : RightNet n := ⟨h1, h2, fun j hj => (hall j hj).1, fun j hj => (hall j hj).2.1, fun j hj => (hall j hj).2.2.1, fun j hj => (hall j hj).2.2.2⟩
          rcases g3 with rfl | rfl
          · exact ⟨0, rfl, fun _ => hR⟩
          · exact ⟨1, rfl, fun h => by simp at h⟩
        · exact ⟨1, rfl, fun h => by simp at h⟩
      · exact ⟨1, rfl, fun h => by simp at h⟩
theorem netOk {k : Nat} (hk : 9223372036854775808 ≤ k) (n : Net) (hh : Held n) {α : Type} (f : Option α) (g : Option α) (h : Option α) :
    ((sr09_Few k n 10 24 20).bind fun rFew => (if rFew = true then ((sr09_Check k n).bind fun rCheck => (if rCheck ≠ 0 then g else h)) else f)) = f ∨ ((sr09_Few k n 10 24 20).bind fun rFew => (if rFew = true then ((sr09_Check k n).bind fun rCheck => (if rCheck ≠ 0 then g else h)) else f)) = g ∨ (((sr09_Few k n 10 24 20).bind fun rFew => (if rFew = true then ((sr09_Check k n).bind fun rCheck => (if rCheck ≠ 0 then g else h)) else f)) = h ∧ RightNet n) := by
  unfold sr09_Few
  by_cases q1 : (n.nodes.length : Int) ≤ 10
  · rw [if_pos q1]
    by_cases q2 : (n.links.length : Int) ≤ 24
    · rw [if_pos q2, Option.bind_some]
      by_cases q3 : (n.edges.length : Int) ≤ 20
      · rw [if_pos (decide_eq_true q3)]
        obtain ⟨r1, h1, h2⟩ := Chk_spec hk n (by omega) (by omega) (by omega) hh
        rw [h1, Option.bind_some]
        by_cases q4 : r1 = 0
        · rw [if_neg (fun h => h q4)]; exact .inr (.inr ⟨rfl, h2 q4⟩)
        · rw [if_pos q4]; exact .inr (.inl rfl)
      · rw [if_neg (by simpa using q3)]; exact .inl rfl
    · rw [if_neg q2]; exact .inl rfl
  · rw [if_neg q1]; exact .inl rfl
theorem gxA {n : Nat} (a : Ar n) {i : Nat} (h : i < n) : gx a.l (i : Int) = a.l[i]'(by rw [a.h]; exact h) := gx_at (by rw [a.h]; exact h)
theorem all_ar {n : Nat} (a : Ar n) (q : Int → Bool) : ((List.range n).all fun j => q (gx a.l (j : Int))) = a.l.all q := by
  rw [Bool.eq_iff_iff, List.all_eq_true, all_getElem]
  constructor
  · intro h j hj
    have := h j (List.mem_range.2 (by rw [a.h] at hj; exact hj))
    rwa [gx_at hj] at this
  · intro h j hj
    have hj' : j < a.l.length := by rw [a.h]; exact List.mem_range.1 hj
    rw [gx_at hj']; exact h j hj'
theorem lt10 {a : Nat} (h : a < 10) : (a : Int) < 10 := by omega
theorem lt_cast {a b : Nat} (h : a < b) : (a : Int) < (b : Int) := by omega
theorem IndexFunc_Alt_spec {k : Nat} (l : List Alt) (f : Alt → Option Bool) (q : Alt → Bool) (hf : ∀ x, x ∈ l → f x = some (q x)) (hl : l.length < big) (hk : l.length < k) : sslices_IndexFunc_Alt k l f = some (idxB q l) := by
  unfold sslices_IndexFunc_Alt
  exact index_loop l q hl (fun m j h => by rw [sslices_IndexFunc_Alt_L0, if_pos (lt_cast h), if_pos ⟨by omega, lt_cast h⟩, gx_at h, hf _ (List.getElem_mem h), Option.bind_some]) (fun m => by rw [sslices_IndexFunc_Alt_L0, if_neg (by omega)]) hk
def rightW (x : Int) : Bool := decide (0 ≤ x ∧ x ≤ 65535)
def rightHead (h : Ar 10) : Bool := h.l.all rightW
def within_ (p : Pat) : Bool := (List.range 10).all fun i => decide (iAnd .i64 (gx p.bits.l (i : Int)) (gx p.mask.l (i : Int)) = gx p.bits.l (i : Int))
def rightPat (p : Pat) : Bool := rightHead p.mask && (rightHead p.bits && within_ p)
theorem rightW_nat {x : Int} (h : rightW x = true) : ∃ n : Nat, x = (n : Int) ∧ n < 65536 := by
  have := of_decide_eq_true h
  exact ⟨x.toNat, by omega, by omega⟩
theorem rightHead_nat {h : Ar 10} (hr : rightHead h = true) {i : Nat} (hi : i < 10) : ∃ n : Nat, gx h.l (i : Int) = (n : Int) ∧ n < 65536 := by
  rw [gxA h hi]
  exact rightW_nat (List.all_eq_true.1 hr _ (List.getElem_mem _))
theorem r06_RightHead {k : Nat} (h : Ar 10) (hk : 10 < k) : sr06_RightHead k h = some (rightHead h) := by
  unfold sr06_RightHead
  rw [loop_allr (L := sr06_RightHead_L0 k h) 10 false (fun i => rightW (gx h.l (i : Int))) (by decide) (fun m j hj => by
    rw [sr06_RightHead_L0, if_pos (lt10 hj), if_pos ⟨by omega, lt10 hj⟩]
    unfold rightW
    by_cases c1 : gx h.l (j : Int) < 0
    · rw [if_pos c1, if_neg (by rw [decide_eq_true_eq]; omega)]
    · rw [if_neg c1]
      by_cases c2 : 65535 < gx h.l (j : Int)
      · rw [if_pos c2, if_neg (by rw [decide_eq_true_eq]; omega)]
      · rw [if_neg c2, if_pos (by rw [decide_eq_true_eq]; omega)]) (fun m => by rw [sr06_RightHead_L0]; exact if_neg (by decide)) hk, Option.bind_some, all_ar]
  unfold rightHead
  cases h.l.all rightW <;> rfl
theorem r06_within {k : Nat} (p : Pat) (hk : 10 < k) : sr06_within k p.bits p.mask = some (within_ p) := by
  unfold sr06_within within_
  rw [loop_allr (L := sr06_within_L0 k p.bits p.mask) 10 false (fun i => decide (iAnd .i64 (gx p.bits.l (i : Int)) (gx p.mask.l (i : Int)) = gx p.bits.l (i : Int))) (by decide) (fun m j hj => by
    rw [sr06_within_L0, if_pos (lt10 hj), if_pos ⟨by omega, lt10 hj⟩]
    by_cases c : iAnd .i64 (gx p.bits.l (j : Int)) (gx p.mask.l (j : Int)) = gx p.bits.l (j : Int)
    · rw [if_neg (fun h => h c), if_pos (decide_eq_true c)]
    · rw [if_pos c, if_neg (by rw [decide_eq_true_eq]; exact c)]) (fun m => by rw [sr06_within_L0]; exact if_neg (by decide)) hk, Option.bind_some]
  cases (List.range 10).all _ <;> rfl
theorem r06_Right {k : Nat} (p : Pat) (hk : 10 < k) : sr06_Right k p = some (rightPat p) := by
  unfold sr06_Right rightPat
  rw [r06_RightHead _ hk, r06_RightHead _ hk, Option.bind_some, Option.bind_some, r06_within p hk]
  cases rightHead p.mask <;> cases rightHead p.bits <;> rfl
theorem r06_RightMod {k : Nat} (p : Pat) (hk : 10 < k) : sr06_RightMod k p = some (rightPat p) := by
  unfold sr06_RightMod
  rw [r06_Right _ hk]; rfl
/-! rules and tables -/
def okRule (r : Rule) : Prop := r.outs.length < big ∧ ∀ l, l ∈ r.outs → l.length < big
def fAlt (n : Net) (a : Alt) : Bool := decide (-1 ≤ a.link ∧ a.link < n.links.length) && rightPat a.mod
def fOut (n : Net) (l : List Alt) : Bool := decide (1 ≤ l.length ∧ l.length ≤ 8) && l.all (fAlt n)
def formed (n : Net) (steps : Int) (r : Rule) : Bool := decide (1 ≤ r.prio ∧ r.prio ≤ 65535) && (rightPat r.mat && (decide (-1 ≤ r.step ∧ r.step < steps ∧ r.outs.length ≤ 16) && r.outs.all (fOut n)))
theorem r25_Formed {k : Nat} (n : Net) (steps : Int) (r : Rule) (hr : okRule r) (hk : big ≤ k) : sr25_Formed k n steps r = some (formed n steps r) := by
  have hk10 : 10 < k := Nat.lt_of_lt_of_le (by decide) hk
  unfold sr25_Formed formed
  rw [r06_Right _ hk10, Option.bind_some]
  have hloop : sr25_Formed_L0 k n r k 0 = some (if r.outs.all (fOut n) = true then .inr () else .inl false) := by
    refine loop_all r.outs false (fOut n) hr.1 (fun m j h => ?_) (fun m => by rw [sr25_Formed_L0, if_neg (by omega)]) (Nat.lt_of_lt_of_le hr.1 hk)
    have hx := hr.2 _ (List.getElem_mem h)
    rw [sr25_Formed_L0, if_pos (lt_cast h), if_pos ⟨by omega, lt_cast h⟩, gx_at h]
    unfold fOut
    by_cases c1 : (r.outs[j].length : Int) < 1
    · rw [if_pos c1, decide_eq_false (by omega)]; rfl
    · rw [if_neg c1, Option.bind_some]
      by_cases c2 : 8 < (r.outs[j].length : Int)
      · rw [decide_eq_true c2, decide_eq_false (by omega)]; rfl
      · rw [decide_eq_false c2, decide_eq_true (by omega)]
        simp only [Bool.false_eq_true, if_false, Bool.true_and]
        rw [loop_all (L := sr25_Formed_L1 k n r (j : Int)) r.outs[j] false (fAlt n) hx (fun m i hi => by
          rw [sr25_Formed_L1, if_pos ⟨by omega, lt_cast h⟩, gx_at h, if_pos (lt_cast hi), if_pos ⟨by omega, lt_cast hi⟩, gx_at hi, r06_RightMod _ hk10, Option.bind_some]
          unfold fAlt
          by_cases d1 : r.outs[j][i].link < -1
          · rw [if_pos d1, decide_eq_false (by omega)]; rfl
          · rw [if_neg d1]
            by_cases d2 : (n.links.length : Int) ≤ r.outs[j][i].link
            · rw [if_pos d2, decide_eq_false (by omega)]; rfl
            · rw [if_neg d2, decide_eq_true (by omega)]; rfl) (fun m => by rw [sr25_Formed_L1, if_pos ⟨by omega, lt_cast h⟩, gx_at h, if_neg (by omega)]) (Nat.lt_of_lt_of_le hx hk), Option.bind_some]
        cases r.outs[j].all (fAlt n) <;> rfl
  rw [hloop]
  by_cases c1 : r.prio < 1
  · rw [if_pos c1, decide_eq_false (by omega)]; rfl
  · rw [if_neg c1]
    by_cases c2 : 65535 < r.prio
    · rw [if_pos c2, decide_eq_false (by omega)]; rfl
    · rw [if_neg c2, decide_eq_true (show 1 ≤ r.prio ∧ r.prio ≤ 65535 by omega)]
      cases rightPat r.mat with
      | false => rfl
      | true =>
        simp only [if_true, Bool.true_and]
        by_cases c3 : r.step < -1
        · rw [if_pos c3, decide_eq_false (by omega)]; rfl
        · rw [if_neg c3]
          by_cases c4 : steps ≤ r.step
          · rw [if_pos c4, decide_eq_false (by omega)]; rfl
          · rw [if_neg c4, Option.bind_some]
            by_cases c5 : 16 < (r.outs.length : Int)
            · rw [decide_eq_true c5, decide_eq_false (by omega)]; rfl
            · rw [decide_eq_false c5, decide_eq_true (by omega)]
              simp only [Bool.false_eq_true, if_false, Bool.true_and]
              cases r.outs.all (fOut n) <;> rfl
theorem tb_andn {a b : Nat} (ha : a < 2 ^ 64) (hb : b < 2 ^ 64) (i : Nat) : (a - (a &&& b)).testBit i = (a.testBit i && !b.testBit i) := by
  rw [← and_not_nat 64 ha hb, Nat.testBit_and, show 2 ^ 64 - 1 - b = 2 ^ 64 - (b + 1) by omega, Nat.testBit_two_pow_sub_succ hb]
  by_cases hi : i < 64
  · simp [hi]
  · have : a.testBit i = false := Nat.testBit_lt_two_pow (Nat.lt_of_lt_of_le ha (Nat.pow_le_pow_right (by decide) (by omega)))
    simp [this]
theorem word_ext {a b : Nat} (ha : a < 65536) (hb : b < 65536) (h : ∀ t, t < 16 → a.testBit t = b.testBit t) : a = b := by
  apply Nat.eq_of_testBit_eq
  intro t
  by_cases ht : t < 16
  · exact h t ht
  · have e : 65536 ≤ 2 ^ t := Nat.pow_le_pow_right (n := 2) (by decide) (show 16 ≤ t by omega)
    rw [Nat.testBit_lt_two_pow (Nat.lt_of_lt_of_le ha e), Nat.testBit_lt_two_pow (Nat.lt_of_lt_of_le hb e)]
def hw (h : Ar 10) (i : Nat) : Nat := (gx h.l (i : Int)).toNat
def hbit (h : Ar 10) (i : Nat) : Bool := (hw h (i / 16)).testBit (15 - i % 16)
theorem hw_int {h : Ar 10} (hr : rightHead h = true) {i : Nat} (hi : i < 10) : gx h.l (i : Int) = (hw h i : Int) ∧ hw h i < 65536 := by
  obtain ⟨n, h1, h2⟩ := rightHead_nat hr hi
  unfold hw
  rw [h1]
  exact ⟨by simp, by simpa using h2⟩
theorem bit_at (j t : Nat) (hj : j < 10) (ht : t < 16) : (16 * j + (15 - t)) / 16 = j ∧ 15 - (16 * j + (15 - t)) % 16 = t ∧ 16 * j + (15 - t) < 160 := by omega
theorem hbit_at (h : Ar 10) {j t : Nat} (hj : j < 10) (ht : t < 16) : hbit h (16 * j + (15 - t)) = (hw h j).testBit t := by
  obtain ⟨a, b, _⟩ := bit_at j t hj ht
  unfold hbit
  rw [a, b]
theorem ar_ext {n : Nat} {a b : Ar n} (h : ∀ j : Nat, j < n → gx a.l (j : Int) = gx b.l (j : Int)) : a = b := by
  apply Ar.ext'
  apply List.ext_getElem (by rw [a.h, b.h])
  intro i h1 h2
  have := h i (by rw [← a.h]; exact h1)
  rwa [gx_at h1, gx_at h2] at this
theorem head_ext {a b : Ar 10} (ha : rightHead a = true) (hb : rightHead b = true) (h : ∀ i, i < 160 → hbit a i = hbit b i) : a = b := by
  apply ar_ext
  intro j hj
  obtain ⟨a1, a2⟩ := hw_int ha hj
  obtain ⟨b1, b2⟩ := hw_int hb hj
  rw [a1, b1, word_ext a2 b2 fun t ht => by rw [← hbit_at a hj ht, ← hbit_at b hj ht]; exact h _ (bit_at j t hj ht).2.2]
theorem rightHead_of {h : Ar 10} (hh : ∀ j : Nat, j < 10 → ∃ n : Nat, gx h.l (j : Int) = (n : Int) ∧ n < 65536) : rightHead h = true := by
  unfold rightHead
  rw [all_getElem]
  intro j hj
  have hj' : j < 10 := by rw [← h.h]; exact hj
  obtain ⟨n, h1, h2⟩ := hh j hj'
  rw [gx_at hj] at h1
  rw [h1]
  exact decide_eq_true (by omega)
/-! one bit -/
theorem rightPat_iff {p : Pat} : rightPat p = true ↔ rightHead p.mask = true ∧ rightHead p.bits = true ∧ ∀ i, i < 160 → hbit p.bits i = true → hbit p.mask i = true := by
  unfold rightPat
  simp only [Bool.and_eq_true]
  refine and_congr_right fun hm => and_congr_right fun hb => ?_
  unfold within_
  rw [List.all_eq_true]
  have key : ∀ j : Nat, j < 10 → (decide (iAnd .i64 (gx p.bits.l (j : Int)) (gx p.mask.l (j : Int)) = gx p.bits.l (j : Int)) = true ↔ ∀ t, t < 16 → (hw p.bits j).testBit t = true → (hw p.mask j).testBit t = true) := by
    intro j hj
    obtain ⟨a1, a2⟩ := hw_int hb hj
    obtain ⟨b1, b2⟩ := hw_int hm hj
    rw [a1, b1, iAnd_nat (by omega) (by omega), decide_eq_true_eq]
    constructor
    · intro h t ht h1
      have h' : hw p.bits j &&& hw p.mask j = hw p.bits j := by omega
      rw [← h', Nat.testBit_and] at h1
      simp only [Bool.and_eq_true] at h1
      exact h1.2
    · intro h
      congr 1
      apply word_ext (Nat.lt_of_le_of_lt Nat.and_le_left a2) a2
      intro t ht
      rw [Nat.testBit_and]
      cases h1 : (hw p.bits j).testBit t with
      | false => rfl
      | true => rw [h t ht h1]; rfl
  constructor
  · intro h i hi h1
    have := (key (i / 16) (by omega)).1 (h _ (List.mem_range.2 (by omega))) (15 - i % 16) (by omega)
    exact this h1
  · intro h j hj
    have hj' := List.mem_range.1 hj
    exact (key j hj').2 fun t ht h1 => by
      rw [← hbit_at p.mask hj' ht]
      exact h _ (bit_at j t hj' ht).2.2 (by rw [hbit_at p.bits hj' ht]; exact h1)
def Applied (m : Pat) (h x : Ar 10) : Prop := rightHead x = true ∧ ∀ i, i < 160 → hbit x i = if hbit m.mask i = true then hbit m.bits i else hbit h i
theorem Applied.uniq {m : Pat} {h x y : Ar 10} (a : Applied m h x) (b : Applied m h y) : x = y := head_ext a.1 b.1 fun i hi => by rw [a.2 i hi, b.2 i hi]
theorem gx_set_same {n : Nat} {a : Ar n} {i : Nat} (v : Int) (hi : i < n) : gx (a.set (i : Int) v).l (i : Int) = v := by
  show (a.l.set i v).getD i default = v
  rw [List.getD_eq_getElem?_getD, List.getElem?_set_self (by rw [a.h]; exact hi)]; rfl
theorem gx_set_ne {n : Nat} {a : Ar n} {i j : Nat} (v : Int) (hj : j < n) (h : i ≠ j) : gx (a.set (i : Int) v).l (j : Int) = gx a.l (j : Int) := by
  show (a.l.set i v).getD j default = a.l.getD j default
  rw [List.getD_eq_getElem?_getD, List.getD_eq_getElem?_getD, List.getElem?_set_ne h]
theorem bits_Apply {k : Nat} {m : Pat} {h : Ar 10} (hp : rightPat m = true) (hh : rightHead h = true) (hk : 10 < k) : ∃ x, sbits_Apply k m h = some x ∧ Applied m h x := by
  obtain ⟨pm, pb, pw⟩ := rightPat_iff.1 hp
  have hfold := loop_fold (L := sbits_Apply_L0 k m) 10 (fun x i => x.set (i : Int) (iOr .i64 (iAndN .i64 (gx x.l (i : Int)) (gx m.mask.l (i : Int))) (gx m.bits.l (i : Int))))
    (fun j x => ∀ i : Nat, i < 10 → gx x.l (i : Int) = if i < j then ((((hw h i - (hw h i &&& hw m.mask i)) ||| hw m.bits i : Nat)) : Int) else (hw h i : Int)) (by decide)
    (fun fu j x hj hI => by
      obtain ⟨a1, a2⟩ := hw_int pb hj
      obtain ⟨b1, b2⟩ := hw_int pm hj
      obtain ⟨c1, c2⟩ := hw_int hh hj
      refine ⟨by rw [sbits_Apply_L0, if_pos (lt10 hj), if_pos ⟨by omega, lt10 hj⟩], fun i hi => ?_⟩
      by_cases hij : j = i
      · subst hij
        have h0 := hI j hj
        rw [if_neg (Nat.lt_irrefl j)] at h0
        rw [gx_set_same _ hi, if_pos (Nat.lt_succ_self j), h0, b1, a1, iAndN_nat (by omega) (by omega), iOr_nat (by omega) (by omega)]
      · rw [gx_set_ne _ hi hij, hI i hi]
        by_cases hlt : i < j
        · rw [if_pos hlt, if_pos (by omega)]
        · rw [if_neg hlt, if_neg (by omega)]) (fun fu x _ => by rw [sbits_Apply_L0]; exact if_neg (by decide)) hk (s := h) (fun i hi => by rw [if_neg (Nat.not_lt_zero i)]; exact (hw_int hh hi).1)
  obtain ⟨h1, h2⟩ := hfold
  refine ⟨_, by unfold sbits_Apply; rw [h1]; rfl, ?_⟩
  generalize (List.range 10).foldl _ h = x at h2 ⊢
  have hx : ∀ i : Nat, i < 10 → gx x.l (i : Int) = ((((hw h i - (hw h i &&& hw m.mask i)) ||| hw m.bits i : Nat)) : Int) := fun i hi => by rw [h2 i hi, if_pos hi]
  have hlt : ∀ i, i < 10 → ((hw h i - (hw h i &&& hw m.mask i)) ||| hw m.bits i) < 65536 := fun i hi => Nat.or_lt_two_pow (n := 16) (by have := (hw_int hh hi).2; omega) (hw_int pb hi).2
  refine ⟨rightHead_of fun j hj => ⟨_, hx j hj, hlt j hj⟩, fun i hi => ?_⟩
  have hi10 : i / 16 < 10 := by omega
  have e1 : hw x (i / 16) = (hw h (i / 16) - (hw h (i / 16) &&& hw m.mask (i / 16))) ||| hw m.bits (i / 16) := by
    unfold hw
    rw [hx (i / 16) hi10]; rfl
  have hpw := pw i hi
  unfold hbit at hpw ⊢
  rw [e1, Nat.testBit_or, tb_andn (by have := (hw_int hh hi10).2; omega) (by have := (hw_int pm hi10).2; omega)]
  cases hm : (hw m.mask (i / 16)).testBit (15 - i % 16) with
  | true => simp
  | false =>
    cases hb : (hw m.bits (i / 16)).testBit (15 - i % 16) with
    | true => rw [hpw hb] at hm; cases hm
    | false => simp
def applyH (m : Pat) (h : Ar 10) : Ar 10 := (sbits_Apply 11 m h).getD h
theorem applyH_spec {m : Pat} {h : Ar 10} (hp : rightPat m = true) (hh : rightHead h = true) : Applied m h (applyH m h) := by
  obtain ⟨x, h1, h2⟩ := bits_Apply hp hh (show 10 < 11 by decide)
  unfold applyH
  rw [h1]; exact h2
theorem bits_ApplyH {k : Nat} {m : Pat} {h : Ar 10} (hp : rightPat m = true) (hh : rightHead h = true) (hk : 10 < k) : sbits_Apply k m h = some (applyH m h) := by
  obtain ⟨x, h1, h2⟩ := bits_Apply hp hh hk
  rw [h1, h2.uniq (applyH_spec hp hh)]
def upB (n : Net) (f : Failure) (v : Int) : Bool := decide ((gx n.links v).frm ≠ f.node) && (decide ((gx n.links v).to ≠ f.node) && !decide (v ∈ f.links))
theorem any_mem (l : List Int) (v : Int) : (l.any fun x => decide (v = x)) = decide (v ∈ l) := by
  rw [Bool.eq_iff_iff]
  simp only [List.any_eq_true, decide_eq_true_eq]
  constructor
  · rintro ⟨x, hx, rfl⟩; exact hx
  · intro h; exact ⟨v, h, rfl⟩
theorem Contains_spec {k : Nat} (l : List Int) (v : Int) (hl : l.length < big) (hk : l.length < k) : sslices_Contains_int k l v = some (decide (v ∈ l)) := by
  unfold sslices_Contains_int sslices_Index_int
  rw [index_loop (L := sslices_Index_int_L0 k l v) l (fun x => decide (v = x)) hl (fun m j h => by
    rw [sslices_Index_int_L0, if_pos (lt_cast h), if_pos ⟨by omega, lt_cast h⟩, gx_at h]
    simp only [decide_eq_true_eq]) (fun m => by rw [sslices_Index_int_L0, if_neg (by omega)]) hk, Option.bind_some, idxB_any, any_mem]
theorem graph_Up {k : Nat} (n : Net) (f : Failure) (v : Int) (hv : 0 ≤ v ∧ v < (n.links.length : Int)) (hl : f.links.length < big) (hk : big ≤ k) : sgraph_Up k n f v = some (upB n f v) := by
  unfold sgraph_Up upB
  rw [if_pos hv, Contains_spec _ _ hl (Nat.lt_of_lt_of_le hl hk)]
  by_cases c1 : (gx n.links v).frm = f.node
  · rw [if_neg (fun h => h c1)]; simp [c1]
  · rw [if_pos c1]
    by_cases c2 : (gx n.links v).to = f.node
    · rw [if_neg (fun h => h c2)]; simp [c2]
    · rw [if_pos c2]; simp [c1, c2]
theorem r09_Up {k : Nat} (n : Net) (f : Failure) (v : Int) (hv : 0 ≤ v ∧ v < (n.links.length : Int)) (hl : f.links.length < big) (hk : big ≤ k) : sr09_Up k n f v = some (upB n f v) := by
  unfold sr09_Up upB
  rw [loop_all (L := sr09_Up_L0 k f v) f.links false (fun x => !decide (x = v)) hl (fun m j h => by
    rw [sr09_Up_L0, if_pos (lt_cast h), if_pos ⟨by omega, lt_cast h⟩, gx_at h]
    by_cases c : f.links[j] = v
    · rw [if_pos c, if_neg (by simp [c])]
    · rw [if_neg c, if_pos (by simp [c])]) (fun m => by rw [sr09_Up_L0, if_neg (by omega)]) (Nat.lt_of_lt_of_le hl hk), Option.bind_some]
  have e : (f.links.all fun x => !decide (x = v)) = !decide (v ∈ f.links) := by
    rw [Bool.eq_iff_iff]
    simp only [List.all_eq_true, Bool.not_eq_true', decide_eq_false_iff_not]
    constructor
    · intro h hm; exact h v hm rfl
    · rintro h x hx rfl; exact h hx
  rw [e]
  by_cases c0 : v ∈ f.links
  · simp [c0]
  · simp only [decide_eq_false c0, Bool.not_false, if_true, Sum.elim_inr, if_pos hv, Bool.and_true]
    by_cases c1 : (gx n.links v).frm = f.node
    · rw [if_neg (fun h => h c1)]; simp [c1]
    · rw [if_pos c1]; simp [c1]
def okA (n : Net) (f : Failure) (a : Alt) : Bool := decide (a.link < 0) || upB n f a.link
theorem Send_1 {k : Nat} (n : Net) (f : Failure) (a : Alt) (hv : a.link < (n.links.length : Int)) (hl : f.links.length < big) (hk : big ≤ k) : stable_Send_1 k a n f = some (okA n f a) := by
  unfold stable_Send_1 okA
  by_cases c : a.link < 0
  · rw [if_pos c, decide_eq_true c]; rfl
  · rw [if_neg c, decide_eq_false c, graph_Up n f _ ⟨by omega, hv⟩ hl hk]; rfl
theorem find_idx {α : Type} [Inhabited α] (q : α → Bool) : ∀ (l : List α), (l.find? q = none ∧ idxB q l = -1) ∨ ∃ i : Nat, ∃ h : i < l.length, idxB q l = (i : Int) ∧ l.find? q = some l[i]
  | [] => .inl ⟨rfl, rfl⟩
  | x :: l => by
    unfold idxB
    rw [List.findIdx?_cons, List.find?_cons]
    cases hq : q x with
    | true => exact .inr ⟨0, by simp, rfl, rfl⟩
    | false =>
      rcases find_idx q l with ⟨h1, h2⟩ | ⟨i, hi, h1, h2⟩
      · left
        unfold idxB at h2
        refine ⟨h1, ?_⟩
        cases hf : l.findIdx? q with
        | none => rfl
        | some j => rw [hf] at h2; simp at h2; try omega
      · right
        unfold idxB at h1
        refine ⟨i + 1, by simpa using hi, ?_, by simpa using h2⟩
        cases hf : l.findIdx? q with
        | none => rw [hf] at h1; simp at h1; try omega
        | some j => rw [hf] at h1; simp at h1 ⊢; omega
def out1 (n : Net) (f : Failure) (h : Ar 10) (l : List Alt) : Option (Ar 10) := (l.find? (okA n f)).map fun a => applyH a.mod h
def sendL (n : Net) (f : Failure) (outs : List (List Alt)) (h : Ar 10) : List (Ar 10) := outs.filterMap (out1 n f h)
structure CanSend (n : Net) (r : Rule) : Prop where
  len : r.outs.length ≤ 16
  alts : ∀ l, l ∈ r.outs → l.length ≤ 8
  link : ∀ l, l ∈ r.outs → ∀ a, a ∈ l → a.link < (n.links.length : Int)
  mod : ∀ l, l ∈ r.outs → ∀ a, a ∈ l → rightPat a.mod = true
theorem canSend_of {n : Net} {steps : Int} {r : Rule} (h : formed n steps r = true) : CanSend n r := by
  unfold formed at h
  simp only [Bool.and_eq_true, decide_eq_true_eq] at h
  obtain ⟨_, _, ⟨_, _, h3⟩, h4⟩ := h
  have h5 := fun l hl => (List.all_eq_true.1 h4) l hl
  have h6 : ∀ l, l ∈ r.outs → (l.length ≤ 8 ∧ ∀ a, a ∈ l → a.link < (n.links.length : Int) ∧ rightPat a.mod = true) := by
    intro l hl
    have := h5 l hl
    unfold fOut at this
    simp only [Bool.and_eq_true, decide_eq_true_eq] at this
    refine ⟨this.1.2, fun a ha => ?_⟩
    have h7 := (List.all_eq_true.1 this.2) a ha
    unfold fAlt at h7
    simp only [Bool.and_eq_true, decide_eq_true_eq] at h7
    exact ⟨h7.1.2, h7.2⟩
  exact ⟨h3, fun l hl => (h6 l hl).1, fun l hl a ha => ((h6 l hl).2 a ha).1, fun l hl a ha => ((h6 l hl).2 a ha).2⟩
theorem take_succ_filterMap {α β : Type} (g : α → Option β) {l : List α} {i : Nat} (h : i < l.length) : (l.take (i + 1)).filterMap g = (l.take i).filterMap g ++ (g l[i]).toList := by
  rw [List.take_add_one, List.getElem?_eq_getElem h, Option.toList_some, List.filterMap_append]
  cases hg : g l[i] <;> simp [hg]
theorem filterMap_le {α β : Type} (g : α → Option β) (l : List α) : (l.filterMap g).length ≤ l.length := List.length_filterMap_le _ _
theorem table_Send {k : Nat} (n : Net) (f : Failure) (r : Rule) (h : Ar 10) (hr : CanSend n r) (hh : rightHead h = true) (hl : f.links.length < big) (hk : big ≤ k) : stable_Send k n f r h = some (sendL n f r.outs h) := by
  have key : ∀ m i (l : List (Ar 10)), i ≤ r.outs.length → r.outs.length - i < m → l = (r.outs.take i).filterMap (out1 n f h) → stable_Send_L0 k n f r h m (i : Int) l l.length = some (sendL n f r.outs h, (sendL n f r.outs h).length) := by
    intro m
    induction m with
    | zero => intro i l h1 h2; omega
    | succ m ih =>
      intro i l h1 h2 h3
      have hr16 := hr.len
      rw [stable_Send_L0]
      by_cases c : i < r.outs.length
      · have hli : l.length ≤ i := by rw [h3]; exact Nat.le_trans (filterMap_le _ _) (by rw [List.length_take]; omega)
        have hx := List.getElem_mem c
        have h8 := hr.alts _ hx
        rw [if_pos (lt_cast c), if_pos ⟨by omega, lt_cast c⟩, gx_at c, IndexFunc_Alt_spec r.outs[i] _ (okA n f) (fun a ha => Send_1 n f a (hr.link _ hx a ha) hl hk) (by simp only [big]; omega) (by simp only [big] at hk; omega), Option.bind_some, wr_succ i (by omega)]
        have hstep := take_succ_filterMap (out1 n f h) c
        rcases find_idx (okA n f) r.outs[i] with ⟨e1, e2⟩ | ⟨j, hj, e1, e2⟩
        · rw [e2, if_neg (by decide)]
          refine ih (i + 1) l (by omega) (by omega) ?_
          rw [hstep, ← h3]
          unfold out1
          rw [e1]; simp
        · rw [e1, if_pos (by omega), if_pos ⟨by omega, lt_cast hj⟩, gx_at hj, bits_ApplyH (hr.mod _ hx _ (List.getElem_mem hj)) hh (by simp only [big] at hk; omega), Option.bind_some, if_pos (by omega)]
          have := ih (i + 1) (l ++ [applyH (r.outs[i][j]).mod h]) (by omega) (by omega) (by
            rw [hstep, ← h3]
            unfold out1
            rw [e2]; rfl)
          rw [List.length_append, List.length_singleton] at this
          exact this
      · obtain rfl : i = r.outs.length := by omega
        rw [if_neg (by omega)]
        rw [List.take_length] at h3
        rw [h3]; rfl
  unfold stable_Send
  have := key k 0 [] (Nat.zero_le _) (by have := hr.len; simp only [big] at hk; omega) rfl
  change stable_Send_L0 k n f r h k 0 [] 0 = _ at this
  rw [this, Option.bind_some, if_pos rfl]
theorem ChkF_L0 (k : Nat) (n : Net) (f : Failure) (hl : f.links.length < 9223372036854775808) : ∀ (m i : Nat), i ≤ f.links.length → f.links.length - i < m → (∀ j, j < i → (j : Int) ≤ f.links.getD j default ∧ f.links.getD j default < (n.links.length : Int)) → ∃ r, sr09_CheckFailure_L0 k n f m (i : Int) = some r ∧ ((r = .inr () ∧ f.links.length ≤ n.links.length) ∨ r = .inl 1) := by
  intro m
  induction m with
  | zero => intro i h1 h2; omega
  | succ m ih =>
    intro i h1 h2 h3
    rw [sr09_CheckFailure_L0]
    by_cases c : (i : Int) < (f.links.length : Int)
    · have hi : i < f.links.length := by omega
      rw [if_pos c, if_pos ⟨by omega, c⟩, wr_succ i (by omega), gx_nat f.links i]
      have next : (i : Int) ≤ f.links.getD i default → f.links.getD i default < (n.links.length : Int) → _ := fun q q' => ih (i + 1) (by omega) (by omega) fun j hj => by rcases Nat.lt_succ_iff_lt_or_eq.1 hj with p | p; exact h3 j p; rw [p]; exact ⟨q, q'⟩
      by_cases q1 : f.links.getD i default < 0
      · rw [if_pos q1]; exact ⟨_, rfl, .inr rfl⟩
      · rw [if_neg q1]
        by_cases q2 : (n.links.length : Int) ≤ f.links.getD i default
        · rw [if_pos q2]; exact ⟨_, rfl, .inr rfl⟩
        · rw [if_neg q2]
          by_cases q3 : 0 < (i : Int)
          · have e1 : IntKind.i64.wrap ((i : Int) - 1) = ((i - 1 : Nat) : Int) := by rw [wr64 (by omega)]; omega
            rw [if_pos q3, e1, if_pos ⟨by omega, by omega⟩, gx_nat f.links (i - 1)]
            by_cases q4 : f.links.getD i default ≤ f.links.getD (i - 1) default
            · rw [if_pos q4]; exact ⟨_, rfl, .inr rfl⟩
            · rw [if_neg q4]
              have := h3 (i - 1) (by omega)
              exact next (by omega) (by omega)
          · rw [if_neg q3]
            exact next (by omega) (by omega)
    · rw [if_neg c]
      refine ⟨_, rfl, .inl ⟨rfl, ?_⟩⟩
      by_cases h0 : f.links.length = 0
      · omega
      · have := h3 (f.links.length - 1) (by omega)
        omega
theorem ChkF_spec {k : Nat} (hk : 9223372036854775808 ≤ k) (n : Net) (f : Failure) (hl : f.links.length < 9223372036854775808) : ∃ r, sr09_CheckFailure k n f = some r ∧ (r = 0 → f.links.length ≤ n.links.length) := by
  unfold sr09_CheckFailure
  obtain ⟨r, h1, h2⟩ := ChkF_L0 k n f hl k 0 (by omega) (by omega) (fun j hj => by omega)
  rw [show ((0 : Nat) : Int) = 0 from rfl] at h1
  rw [h1, Option.bind_some, isNode9_spec, Option.bind_some]
  rcases h2 with ⟨rfl, h2⟩ | rfl
  · simp only [Sum.elim_inr]
    (repeat' split) <;> exact ⟨_, rfl, fun _ => h2⟩
  · exact ⟨1, rfl, fun h => by simp at h⟩
end Go.Proofs.Ytjgbkegkcbcjaaa
namespace Go.Proofs.Ytjgbkegkcbcjaaa
open Go Go.RowKit
set_option maxRecDepth 100000
def sl_TableFailsOver_L1 (k : Nat) (f_ : Failure) (i : Int) : Nat → Bool → Int → Option Bool
 | 0, _, _ => none
 | m + 1, down, i2 => (if i2 < (f_.links.length : Int) then (if (0 : Int) ≤ i2 ∧ i2 < (f_.links.length : Int) then (if down = true then sl_TableFailsOver_L1 k f_ i m true (IntKind.i64.wrap (i2 + 1)) else sl_TableFailsOver_L1 k f_ i m (decide ((gx f_.links i2) = i)) (IntKind.i64.wrap (i2 + 1))) else none) else some down)
def sl_TableFailsOver_L0 (k : Nat) (n : Net) (f_ : Failure) (link : Int) : Nat → Int → (List Int) → Nat → Option (List Int × Nat)
 | 0, _, _, _ => none
 | m + 1, i, l, n2 => (if i < (n.links.length : Int) then ((((sl_TableFailsOver_L1 k f_ i k (decide (i = link)) 0 : Option Bool).bind fun s_4 => (if s_4 = true then (if (n2 + 1) * 9 ≤ 1000000000 then some (l ++ [i], n2 + 1) else none) else some (l, n2))) : Option (List Int × Nat)).bind fun s_3 => sl_TableFailsOver_L0 k n f_ link m (IntKind.i64.wrap (i + 1)) s_3.1 s_3.2) else some (l, n2))
def sl_TableFailsOver_L2 (k : Nat) (n : Net) (f_ : Failure) (link : Int) (r : Rule) (h_ : Ar 10) (s_2 : List Int × Nat) : Nat → Int → Option (Bool ⊕ Unit)
 | 0, _ => none
 | m + 1, i3 => (if i3 < (r.outs.length : Int) then (if (0 : Int) ≤ i3 ∧ i3 < (r.outs.length : Int) then ((sl_TableFailsOver_1 k f_ (gx r.outs i3) n).bind fun r1 => ((sl_TableFailsOver_1 k (⟨s_2.1, f_.node⟩ : Failure) (gx r.outs i3) n).bind fun r12 => ((stable_Send k n f_ (⟨1, (⟨(zA 10), (zA 10)⟩ : Pat), (-1), [gx r.outs i3]⟩ : Rule) h_).bind fun rSend => ((stable_Send k n (⟨s_2.1, f_.node⟩ : Failure) (⟨1, (⟨(zA 10), (zA 10)⟩ : Pat), (-1), [gx r.outs i3]⟩ : Rule) h_).bind fun rSend2 => (((if r12 < r1 then some true else (if (rSend.length : Int) = 0 then (if r1 = ((gx r.outs i3).length : Int) then (if (rSend2.length : Int) = 0 then (if r12 = ((gx r.outs i3).length : Int) then (if 1 < (rSend.length : Int) then some true else some (decide (1 < (rSend2.length : Int)))) else some true) else (if r12 = ((gx r.outs i3).length : Int) then some true else (if 1 < (rSend.length : Int) then some true else some (decide (1 < (rSend2.length : Int)))))) else some true) else (if r1 = ((gx r.outs i3).length : Int) then some true else (if (rSend2.length : Int) = 0 then (if r12 = ((gx r.outs i3).length : Int) then (if 1 < (rSend.length : Int) then some true else some (decide (1 < (rSend2.length : Int)))) else some true) else (if r12 = ((gx r.outs i3).length : Int) then some true else (if 1 < (rSend.length : Int) then some true else some (decide (1 < (rSend2.length : Int))))))))) : Option Bool).bind fun s_6 => (if s_6 = true then some (.inl false) else (((if (rSend.length : Int) = 1 then (if (0 : Int) ≤ 0 ∧ 0 < (rSend.length : Int) then (if (0 : Int) ≤ r1 ∧ r1 < ((gx r.outs i3).length : Int) then ((sbits_Apply k ((gx (gx r.outs i3) r1).mod) h_).bind fun rApply => (if (gx rSend 0) = rApply then (if (rSend2.length : Int) = 1 then (if (0 : Int) ≤ 0 ∧ 0 < (rSend2.length : Int) then (if (0 : Int) ≤ r12 ∧ r12 < ((gx r.outs i3).length : Int) then ((sbits_Apply k ((gx (gx r.outs i3) r12).mod) h_).bind fun rApply2 => some (!(decide ((gx rSend2 0) = rApply2)))) else none) else none) else some false) else some true)) else none) else none) else (if (rSend2.length : Int) = 1 then (if (0 : Int) ≤ 0 ∧ 0 < (rSend2.length : Int) then (if (0 : Int) ≤ r12 ∧ r12 < ((gx r.outs i3).length : Int) then ((sbits_Apply k ((gx (gx r.outs i3) r12).mod) h_).bind fun rApply3 => some (!(decide ((gx rSend2 0) = rApply3)))) else none) else none) else some false)) : Option Bool).bind fun s_7 => (if s_7 = true then some (.inl false) else (if r1 < ((gx r.outs i3).length : Int) then (if (0 : Int) ≤ r1 ∧ r1 < ((gx r.outs i3).length : Int) then (if ((gx (gx r.outs i3) r1).link) ≠ link then (if r1 ≠ r12 then some (.inl false) else sl_TableFailsOver_L2 k n f_ link r h_ s_2 m (IntKind.i64.wrap (i3 + 1))) else sl_TableFailsOver_L2 k n f_ link r h_ s_2 m (IntKind.i64.wrap (i3 + 1))) else none) else sl_TableFailsOver_L2 k n f_ link r h_ s_2 m (IntKind.i64.wrap (i3 + 1))))))))))) else none) else some (.inr ()))
def sl_TableFailsOver (k : Nat) (n : Net) (f_ : Failure) (link : Int) (r : Rule) (h_ : Ar 10) : Option Bool := ((((sr09_Few k n 10 24 20).bind fun rFew => (if rFew = true then ((sr09_Check k n).bind fun rCheck => (if rCheck ≠ 0 then some true else ((sr09_CheckFailure k n f_).bind fun rCheckFailure => (if rCheckFailure ≠ 0 then some true else ((sr06_RightHead k h_).bind fun rRightHead => (if rRightHead = true then ((sr25_Formed k n 1000 r).bind fun rFormed => (if rFormed = true then (if link < 0 then some true else some (decide ((n.links.length : Int) ≤ link))) else some true)) else some true)))))) else some true)) : Option Bool).bind fun s_ => (if s_ = true then some true else ((sl_TableFailsOver_L0 k n f_ link k 0 [] 0 : Option (List Int × Nat)).bind fun s_2 => (if s_2.1.length = s_2.2 then ((sl_TableFailsOver_L2 k n f_ link r h_ s_2 k 0 : Option (Bool ⊕ Unit)).bind fun o => Sum.elim (fun r => some r) (fun s_5 => some true) o) else none))))
set_option maxHeartbeats 8000000 in
theorem sl_TableFailsOver_ok (ax : Axs) (hx : Plain ax) (k : Nat) (n : Net) (f_ : Failure) (link : Int) (r : Rule) (h_ : Ar 10) (v : Bool) (H : sl_TableFailsOver k n f_ link r h_ = some v) : Pure Try.prog (EE ax) [] 3 [eNet n, eFailure f_, .int .i64 link, eRule r, .agg (h_.l.map (T.int .i64))] (.bool v) := by
 rw [sl_TableFailsOver] at H
 refine en [.tmp 10] 211 [0, 1, 2, 3, 4] (hx.no _ (by decide)) (fn3 ax) ?_
 intro h hh
 repeat apply TW.seq
 refine rk [2, 5, 6, 8, 9] [] hh ?_
 clear hh h
 intro h hh
 refine zk 5 0 3 true [lNode n.nodes, lLink n.links, lEdge n.edges] [2, 5, 6, 8, 9] hh ?_
 clear hh h
 intro h hh
 obtain ⟨s_, H1, H⟩ := bsome H
 repeat apply TW.seq
 refine cu [2, 5, 6, 8, 9, 59] 4 (fun h bs => (h 2 = .int .i64 link ∧ h 5 = .cp [lNode n.nodes, lLink n.links, lEdge n.edges] ∧ h 6 = .ptr 1 0 2 ∧ h 8 = .ptr 2 0 23 ∧ h 9 = .ptr 3 0 10 ∧ h 59 = .bool s_) ∧ bs = [.gone, .cells true 2 [ints f_.links, .int .i64 f_.node], .cells true 23 (T.int .i64 r.prio :: (r.mat.mask.l.map (T.int .i64) ++ (r.mat.bits.l.map (T.int .i64) ++ [T.int .i64 r.step, lLAlt r.outs]))), .cells true 10 (h_.l.map (T.int .i64))]) ?_ ?_
 ·skip
  obtain ⟨rFew, e1, H1⟩ := bsome H1
  rcases isb H1 with ⟨c2, H1⟩ | ⟨c2, H1⟩
  rotate_left
  ·skip
   repeat apply TW.seq
   refine rkc [2, 5, 6, 8, 9, 59] [] [(.bool rFew, stL [.gone, .cells true 2 [ints f_.links, .int .i64 f_.node], .cells true 23 (T.int .i64 r.prio :: (r.mat.mask.l.map (T.int .i64) ++ (r.mat.bits.l.map (T.int .i64) ++ [T.int .i64 r.step, lLAlt r.outs]))), .cells true 10 (h_.l.map (T.int .i64))])] (f2 hh c2) ?_ ?_
   ·exact ⟨Call0.call (Pure.clr (sr09_Few_ok ax hx k n 10 24 20 rFew e1 ) (by first | rfl | simp only [c2])), trivial⟩
   clear hh h
   intro h hh
   cases H1
   exact ce hh ⟨kq hh, rfl⟩
  obtain ⟨rCheck, e3, H1⟩ := bsome H1
  rcases isp H1 with ⟨c4, H1⟩ | ⟨c4, H1⟩
  rotate_left
  ·skip
   obtain ⟨rCheckFailure, e5, H1⟩ := bsome H1
   rcases isp H1 with ⟨c6, H1⟩ | ⟨c6, H1⟩
   rotate_left
   ·skip
    obtain ⟨rRightHead, e7, H1⟩ := bsome H1
    rcases isb H1 with ⟨c8, H1⟩ | ⟨c8, H1⟩
    rotate_left
    ·skip
     repeat apply TW.seq
     refine rkc [2, 5, 6, 8, 9, 59] [] [(.bool rFew, stL [.gone, .cells true 2 [ints f_.links, .int .i64 f_.node], .cells true 23 (T.int .i64 r.prio :: (r.mat.mask.l.map (T.int .i64) ++ (r.mat.bits.l.map (T.int .i64) ++ [T.int .i64 r.step, lLAlt r.outs]))), .cells true 10 (h_.l.map (T.int .i64))]), (.int .i64 rCheck, stL [.gone, .cells true 2 [ints f_.links, .int .i64 f_.node], .cells true 23 (T.int .i64 r.prio :: (r.mat.mask.l.map (T.int .i64) ++ (r.mat.bits.l.map (T.int .i64) ++ [T.int .i64 r.step, lLAlt r.outs]))), .cells true 10 (h_.l.map (T.int .i64))]), (.int .i64 rCheckFailure, stL [.gone, .cells true 2 [ints f_.links, .int .i64 f_.node], .cells true 23 (T.int .i64 r.prio :: (r.mat.mask.l.map (T.int .i64) ++ (r.mat.bits.l.map (T.int .i64) ++ [T.int .i64 r.step, lLAlt r.outs]))), .cells true 10 (h_.l.map (T.int .i64))]), (.bool rRightHead, stL [.gone, .cells true 2 [ints f_.links, .int .i64 f_.node], .cells true 23 (T.int .i64 r.prio :: (r.mat.mask.l.map (T.int .i64) ++ (r.mat.bits.l.map (T.int .i64) ++ [T.int .i64 r.step, lLAlt r.outs]))), .cells true 10 (h_.l.map (T.int .i64))])] (f3 hh c2 (f3 (decide_eq_false c4) (decide_eq_false c6) c8)) ?_ ?_
     ·exact ⟨Call0.call (Pure.clr (sr09_Few_ok ax hx k n 10 24 20 rFew e1 ) (by first | rfl | simp only [c2, c8])), Call0.call (Pure.clr (sr09_Check_ok ax hx k n rCheck e3 ) (by first | rfl | simp only [c2, c8])), Call0.call (Pure.clr (sr09_CheckFailure_ok ax hx k n f_ rCheckFailure e5 ) (by first | rfl | simp only [c2, c8])), Call0.call (Pure.clr (sr06_RightHead_ok ax hx k h_ rRightHead e7 ) (by first | rfl | simp only [c2, c8])), trivial⟩
     clear hh h
     intro h hh
     cases H1
     exact ce hh ⟨kq hh, rfl⟩
    obtain ⟨rFormed, e9, H1⟩ := bsome H1
    rcases isb H1 with ⟨c10, H1⟩ | ⟨c10, H1⟩
    rotate_left
    ·skip
     repeat apply TW.seq
     refine rkc [2, 5, 6, 8, 9, 59] [] [(.bool rFew, stL [.gone, .cells true 2 [ints f_.links, .int .i64 f_.node], .cells true 23 (T.int .i64 r.prio :: (r.mat.mask.l.map (T.int .i64) ++ (r.mat.bits.l.map (T.int .i64) ++ [T.int .i64 r.step, lLAlt r.outs]))), .cells true 10 (h_.l.map (T.int .i64))]), (.int .i64 rCheck, stL [.gone, .cells true 2 [ints f_.links, .int .i64 f_.node], .cells true 23 (T.int .i64 r.prio :: (r.mat.mask.l.map (T.int .i64) ++ (r.mat.bits.l.map (T.int .i64) ++ [T.int .i64 r.step, lLAlt r.outs]))), .cells true 10 (h_.l.map (T.int .i64))]), (.int .i64 rCheckFailure, stL [.gone, .cells true 2 [ints f_.links, .int .i64 f_.node], .cells true 23 (T.int .i64 r.prio :: (r.mat.mask.l.map (T.int .i64) ++ (r.mat.bits.l.map (T.int .i64) ++ [T.int .i64 r.step, lLAlt r.outs]))), .cells true 10 (h_.l.map (T.int .i64))]), (.bool rRightHead, stL [.gone, .cells true 2 [ints f_.links, .int .i64 f_.node], .cells true 23 (T.int .i64 r.prio :: (r.mat.mask.l.map (T.int .i64) ++ (r.mat.bits.l.map (T.int .i64) ++ [T.int .i64 r.step, lLAlt r.outs]))), .cells true 10 (h_.l.map (T.int .i64))]), (.bool rFormed, stL [.gone, .cells true 2 [ints f_.links, .int .i64 f_.node], .cells true 23 (T.int .i64 r.prio :: (r.mat.mask.l.map (T.int .i64) ++ (r.mat.bits.l.map (T.int .i64) ++ [T.int .i64 r.step, lLAlt r.outs]))), .cells true 10 (h_.l.map (T.int .i64))])] (f3 hh c2 (f3 (decide_eq_false c4) (decide_eq_false c6) (f2 c8 c10))) ?_ ?_
     ·exact ⟨Call0.call (Pure.clr (sr09_Few_ok ax hx k n 10 24 20 rFew e1 ) (by first | rfl | simp only [c2, c8, c10])), Call0.call (Pure.clr (sr09_Check_ok ax hx k n rCheck e3 ) (by first | rfl | simp only [c2, c8, c10])), Call0.call (Pure.clr (sr09_CheckFailure_ok ax hx k n f_ rCheckFailure e5 ) (by first | rfl | simp only [c2, c8, c10])), Call0.call (Pure.clr (sr06_RightHead_ok ax hx k h_ rRightHead e7 ) (by first | rfl | simp only [c2, c8, c10])), Call0.call (Pure.clr (sr25_Formed_ok ax hx k n 1000 r rFormed e9 ) (by first | rfl | simp only [c2, c8, c10])), trivial⟩
     clear hh h
     intro h hh
     cases H1
     exact ce hh ⟨kq hh, rfl⟩
    rcases isp H1 with ⟨c11, H1⟩ | ⟨c11, H1⟩
    rotate_left
    ·skip
     repeat apply TW.seq
     refine rkc [2, 5, 6, 8, 9, 59] [] [(.bool rFew, stL [.gone, .cells true 2 [ints f_.links, .int .i64 f_.node], .cells true 23 (T.int .i64 r.prio :: (r.mat.mask.l.map (T.int .i64) ++ (r.mat.bits.l.map (T.int .i64) ++ [T.int .i64 r.step, lLAlt r.outs]))), .cells true 10 (h_.l.map (T.int .i64))]), (.int .i64 rCheck, stL [.gone, .cells true 2 [ints f_.links, .int .i64 f_.node], .cells true 23 (T.int .i64 r.prio :: (r.mat.mask.l.map (T.int .i64) ++ (r.mat.bits.l.map (T.int .i64) ++ [T.int .i64 r.step, lLAlt r.outs]))), .cells true 10 (h_.l.map (T.int .i64))]), (.int .i64 rCheckFailure, stL [.gone, .cells true 2 [ints f_.links, .int .i64 f_.node], .cells true 23 (T.int .i64 r.prio :: (r.mat.mask.l.map (T.int .i64) ++ (r.mat.bits.l.map (T.int .i64) ++ [T.int .i64 r.step, lLAlt r.outs]))), .cells true 10 (h_.l.map (T.int .i64))]), (.bool rRightHead, stL [.gone, .cells true 2 [ints f_.links, .int .i64 f_.node], .cells true 23 (T.int .i64 r.prio :: (r.mat.mask.l.map (T.int .i64) ++ (r.mat.bits.l.map (T.int .i64) ++ [T.int .i64 r.step, lLAlt r.outs]))), .cells true 10 (h_.l.map (T.int .i64))]), (.bool rFormed, stL [.gone, .cells true 2 [ints f_.links, .int .i64 f_.node], .cells true 23 (T.int .i64 r.prio :: (r.mat.mask.l.map (T.int .i64) ++ (r.mat.bits.l.map (T.int .i64) ++ [T.int .i64 r.step, lLAlt r.outs]))), .cells true 10 (h_.l.map (T.int .i64))])] (f3 hh c2 (f3 (decide_eq_false c4) (decide_eq_false c6) (f3 c8 c10 (decide_eq_false c11)))) ?_ ?_
     ·exact ⟨Call0.call (Pure.clr (sr09_Few_ok ax hx k n 10 24 20 rFew e1 ) (by first | rfl | simp only [c2, c8, c10])), Call0.call (Pure.clr (sr09_Check_ok ax hx k n rCheck e3 ) (by first | rfl | simp only [c2, c8, c10])), Call0.call (Pure.clr (sr09_CheckFailure_ok ax hx k n f_ rCheckFailure e5 ) (by first | rfl | simp only [c2, c8, c10])), Call0.call (Pure.clr (sr06_RightHead_ok ax hx k h_ rRightHead e7 ) (by first | rfl | simp only [c2, c8, c10])), Call0.call (Pure.clr (sr25_Formed_ok ax hx k n 1000 r rFormed e9 ) (by first | rfl | simp only [c2, c8, c10])), trivial⟩
     clear hh h
     intro h hh
     cases H1
     exact ce hh ⟨kq hh, rfl⟩
    repeat apply TW.seq
    refine rkc [2, 5, 6, 8, 9, 59] [] [(.bool rFew, stL [.gone, .cells true 2 [ints f_.links, .int .i64 f_.node], .cells true 23 (T.int .i64 r.prio :: (r.mat.mask.l.map (T.int .i64) ++ (r.mat.bits.l.map (T.int .i64) ++ [T.int .i64 r.step, lLAlt r.outs]))), .cells true 10 (h_.l.map (T.int .i64))]), (.int .i64 rCheck, stL [.gone, .cells true 2 [ints f_.links, .int .i64 f_.node], .cells true 23 (T.int .i64 r.prio :: (r.mat.mask.l.map (T.int .i64) ++ (r.mat.bits.l.map (T.int .i64) ++ [T.int .i64 r.step, lLAlt r.outs]))), .cells true 10 (h_.l.map (T.int .i64))]), (.int .i64 rCheckFailure, stL [.gone, .cells true 2 [ints f_.links, .int .i64 f_.node], .cells true 23 (T.int .i64 r.prio :: (r.mat.mask.l.map (T.int .i64) ++ (r.mat.bits.l.map (T.int .i64) ++ [T.int .i64 r.step, lLAlt r.outs]))), .cells true 10 (h_.l.map (T.int .i64))]), (.bool rRightHead, stL [.gone, .cells true 2 [ints f_.links, .int .i64 f_.node], .cells true 23 (T.int .i64 r.prio :: (r.mat.mask.l.map (T.int .i64) ++ (r.mat.bits.l.map (T.int .i64) ++ [T.int .i64 r.step, lLAlt r.outs]))), .cells true 10 (h_.l.map (T.int .i64))]), (.bool rFormed, stL [.gone, .cells true 2 [ints f_.links, .int .i64 f_.node], .cells true 23 (T.int .i64 r.prio :: (r.mat.mask.l.map (T.int .i64) ++ (r.mat.bits.l.map (T.int .i64) ++ [T.int .i64 r.step, lLAlt r.outs]))), .cells true 10 (h_.l.map (T.int .i64))])] (f3 hh c2 (f3 (decide_eq_false c4) (decide_eq_false c6) (f3 c8 c10 (decide_eq_true c11)))) ?_ ?_
    ·exact ⟨Call0.call (Pure.clr (sr09_Few_ok ax hx k n 10 24 20 rFew e1 ) (by first | rfl | simp only [c2, c8, c10])), Call0.call (Pure.clr (sr09_Check_ok ax hx k n rCheck e3 ) (by first | rfl | simp only [c2, c8, c10])), Call0.call (Pure.clr (sr09_CheckFailure_ok ax hx k n f_ rCheckFailure e5 ) (by first | rfl | simp only [c2, c8, c10])), Call0.call (Pure.clr (sr06_RightHead_ok ax hx k h_ rRightHead e7 ) (by first | rfl | simp only [c2, c8, c10])), Call0.call (Pure.clr (sr25_Formed_ok ax hx k n 1000 r rFormed e9 ) (by first | rfl | simp only [c2, c8, c10])), trivial⟩
    clear hh h
    intro h hh
    cases H1
    exact ce hh ⟨kq hh, rfl⟩
   repeat apply TW.seq
   refine rkc [2, 5, 6, 8, 9, 59] [] [(.bool rFew, stL [.gone, .cells true 2 [ints f_.links, .int .i64 f_.node], .cells true 23 (T.int .i64 r.prio :: (r.mat.mask.l.map (T.int .i64) ++ (r.mat.bits.l.map (T.int .i64) ++ [T.int .i64 r.step, lLAlt r.outs]))), .cells true 10 (h_.l.map (T.int .i64))]), (.int .i64 rCheck, stL [.gone, .cells true 2 [ints f_.links, .int .i64 f_.node], .cells true 23 (T.int .i64 r.prio :: (r.mat.mask.l.map (T.int .i64) ++ (r.mat.bits.l.map (T.int .i64) ++ [T.int .i64 r.step, lLAlt r.outs]))), .cells true 10 (h_.l.map (T.int .i64))]), (.int .i64 rCheckFailure, stL [.gone, .cells true 2 [ints f_.links, .int .i64 f_.node], .cells true 23 (T.int .i64 r.prio :: (r.mat.mask.l.map (T.int .i64) ++ (r.mat.bits.l.map (T.int .i64) ++ [T.int .i64 r.step, lLAlt r.outs]))), .cells true 10 (h_.l.map (T.int .i64))])] (f3 hh c2 (f2 (decide_eq_false c4) (decide_eq_true c6))) ?_ ?_
   ·exact ⟨Call0.call (Pure.clr (sr09_Few_ok ax hx k n 10 24 20 rFew e1 ) (by first | rfl | simp only [c2])), Call0.call (Pure.clr (sr09_Check_ok ax hx k n rCheck e3 ) (by first | rfl | simp only [c2])), Call0.call (Pure.clr (sr09_CheckFailure_ok ax hx k n f_ rCheckFailure e5 ) (by first | rfl | simp only [c2])), trivial⟩
   clear hh h
   intro h hh
   cases H1
   exact ce hh ⟨kq hh, rfl⟩
  repeat apply TW.seq
  refine rkc [2, 5, 6, 8, 9, 59] [] [(.bool rFew, stL [.gone, .cells true 2 [ints f_.links, .int .i64 f_.node], .cells true 23 (T.int .i64 r.prio :: (r.mat.mask.l.map (T.int .i64) ++ (r.mat.bits.l.map (T.int .i64) ++ [T.int .i64 r.step, lLAlt r.outs]))), .cells true 10 (h_.l.map (T.int .i64))]), (.int .i64 rCheck, stL [.gone, .cells true 2 [ints f_.links, .int .i64 f_.node], .cells true 23 (T.int .i64 r.prio :: (r.mat.mask.l.map (T.int .i64) ++ (r.mat.bits.l.map (T.int .i64) ++ [T.int .i64 r.step, lLAlt r.outs]))), .cells true 10 (h_.l.map (T.int .i64))])] (f3 hh c2 (decide_eq_true c4)) ?_ ?_
  ·exact ⟨Call0.call (Pure.clr (sr09_Few_ok ax hx k n 10 24 20 rFew e1 ) (by first | rfl | simp only [c2])), Call0.call (Pure.clr (sr09_Check_ok ax hx k n rCheck e3 ) (by first | rfl | simp only [c2])), trivial⟩
  clear hh h
  intro h hh
  cases H1
  exact ce hh ⟨kq hh, rfl⟩
 clear hh h
 rintro h bs ⟨hh, rfl⟩
 rcases isb H with ⟨c12, H⟩ | ⟨c12, H⟩
 rotate_left
 ·skip
  repeat apply TW.seq
  refine cf (f2 hh c12) ?_
  repeat apply TW.seq
  refine sk ?_
  repeat apply TW.seq
  refine rk [2, 5, 6, 8, 9, 11] [] (f2 hh c12) ?_
  clear hh h
  intro h hh
  refine vz 4 0 1 ?_
  repeat apply TW.seq
  refine rk [2, 5, 6, 8, 9, 11, 66, 67] [] (f2 hh c12) ?_
  clear hh h
  intro h hh
  obtain ⟨s_2, H1, H⟩ := bsome H
  repeat apply TW.seq
  refine cu [2, 5, 6, 8, 9, 11] 6 (fun h bs => (h 2 = .int .i64 link ∧ h 5 = .cp [lNode n.nodes, lLink n.links, lEdge n.edges] ∧ h 6 = .ptr 1 0 2 ∧ h 8 = .ptr 2 0 23 ∧ h 9 = .ptr 3 0 10 ∧ h 11 = .ptr 4 0 2) ∧ bs = [.gone, .cells true 2 [ints f_.links, .int .i64 f_.node], .cells true 23 (T.int .i64 r.prio :: (r.mat.mask.l.map (T.int .i64) ++ (r.mat.bits.l.map (T.int .i64) ++ [T.int .i64 r.step, lLAlt r.outs]))), .cells true 10 (h_.l.map (T.int .i64)), .cells true 2 [.arr 5 1 0 s_2.2 s_2.2 s_2.2, .int .i64 f_.node], .cells false s_2.2 (s_2.1.map (T.int .i64))]) ?_ ?_
  ·skip
   repeat apply TW.seq
   apply TW.block
   repeat apply TW.seq
   refine TW.loopT [2, 5, 6, 8, 9, 11, 66, 67] (fun m h bs => ∃ (i : Int) (l : List Int) (n2 : Nat), sl_TableFailsOver_L0 k n f_ link m i l n2 = some s_2 ∧ (h 2 = .int .i64 link ∧ h 5 = .cp [lNode n.nodes, lLink n.links, lEdge n.edges] ∧ h 6 = .ptr 1 0 2 ∧ h 8 = .ptr 2 0 23 ∧ h 9 = .ptr 3 0 10 ∧ h 11 = .ptr 4 0 2 ∧ h 66 = .int .i64 (n.links.length : Int) ∧ h 67 = .int .i64 i) ∧ bs = [.gone, .cells true 2 [ints f_.links, .int .i64 f_.node], .cells true 23 (T.int .i64 r.prio :: (r.mat.mask.l.map (T.int .i64) ++ (r.mat.bits.l.map (T.int .i64) ++ [T.int .i64 r.step, lLAlt r.outs]))), .cells true 10 (h_.l.map (T.int .i64)), .cells true 2 [.arr 5 1 0 n2 n2 n2, .int .i64 f_.node], .cells false n2 (l.map (T.int .i64))]) ?_ k _ _ ?_
   rotate_left
   ·exact ⟨0, [], 0, H1, kq hh, rfl⟩
   clear hh h H1
   rintro m h bs ⟨i, l, n2, H1, hh, rfl⟩
   rcases m with _ | m
   ·rw [sl_TableFailsOver_L0] at H1; cases H1
   rw [sl_TableFailsOver_L0] at H1
   repeat apply TW.seq
   refine rk [2, 5, 6, 8, 9, 11, 66, 67, 68] [] (f2 hh c12) ?_
   clear hh h
   intro h hh
   rcases isp H1 with ⟨c13, H1⟩ | ⟨c13, H1⟩
   rotate_left
   ·skip
    repeat apply TW.seq
    refine cf (f2 hh (decide_eq_false c13)) ?_
    refine xk ?_
    cases H1
    exact ce hh ⟨kq hh, rfl⟩
   repeat apply TW.seq
   refine ct (f2 hh (decide_eq_true c13)) ?_
   repeat apply TW.seq
   refine sk ?_
   obtain ⟨s_3, H2, H1⟩ := bsome H1
   repeat apply TW.seq
   refine cu [2, 5, 6, 8, 9, 11, 66, 67] 6 (fun h bs => (h 2 = .int .i64 link ∧ h 5 = .cp [lNode n.nodes, lLink n.links, lEdge n.edges] ∧ h 6 = .ptr 1 0 2 ∧ h 8 = .ptr 2 0 23 ∧ h 9 = .ptr 3 0 10 ∧ h 11 = .ptr 4 0 2 ∧ h 66 = .int .i64 (n.links.length : Int) ∧ h 67 = .int .i64 i) ∧ bs = [.gone, .cells true 2 [ints f_.links, .int .i64 f_.node], .cells true 23 (T.int .i64 r.prio :: (r.mat.mask.l.map (T.int .i64) ++ (r.mat.bits.l.map (T.int .i64) ++ [T.int .i64 r.step, lLAlt r.outs]))), .cells true 10 (h_.l.map (T.int .i64)), .cells true 2 [.arr 5 1 0 s_3.2 s_3.2 s_3.2, .int .i64 f_.node], .cells false s_3.2 (s_3.1.map (T.int .i64))]) ?_ ?_
   ·skip
    repeat apply TW.seq
    apply TW.block
    repeat apply TW.seq
    refine rk [2, 5, 6, 8, 9, 11, 12, 66, 67] [] (f2 hh c12) ?_
    clear hh h
    intro h hh
    repeat apply TW.seq
    refine rk [2, 5, 6, 8, 9, 11, 12, 13, 66, 67] [] (f2 hh c12) ?_
    clear hh h
    intro h hh
    repeat apply TW.seq
    refine rk [2, 5, 6, 8, 9, 11, 12, 13, 66, 67, 74, 75, 76] [] (f2 hh c12) ?_
    clear hh h
    intro h hh
    obtain ⟨s_4, H3, H2⟩ := bsome H2
    repeat apply TW.seq
    refine cu [2, 5, 6, 8, 9, 11, 12, 13, 66, 67] 6 (fun h bs => (h 2 = .int .i64 link ∧ h 5 = .cp [lNode n.nodes, lLink n.links, lEdge n.edges] ∧ h 6 = .ptr 1 0 2 ∧ h 8 = .ptr 2 0 23 ∧ h 9 = .ptr 3 0 10 ∧ h 11 = .ptr 4 0 2 ∧ h 12 = .int .i64 i ∧ h 13 = .bool s_4 ∧ h 66 = .int .i64 (n.links.length : Int) ∧ h 67 = .int .i64 i) ∧ bs = [.gone, .cells true 2 [ints f_.links, .int .i64 f_.node], .cells true 23 (T.int .i64 r.prio :: (r.mat.mask.l.map (T.int .i64) ++ (r.mat.bits.l.map (T.int .i64) ++ [T.int .i64 r.step, lLAlt r.outs]))), .cells true 10 (h_.l.map (T.int .i64)), .cells true 2 [.arr 5 1 0 n2 n2 n2, .int .i64 f_.node], .cells false n2 (l.map (T.int .i64))]) ?_ ?_
    ·skip
     repeat apply TW.seq
     apply TW.block
     repeat apply TW.seq
     refine TW.loopT [2, 5, 6, 8, 9, 11, 12, 13, 66, 67, 74, 75, 76] (fun m h bs => ∃ (down : Bool) (i2 : Int), sl_TableFailsOver_L1 k f_ i m down i2 = some s_4 ∧ (h 2 = .int .i64 link ∧ h 5 = .cp [lNode n.nodes, lLink n.links, lEdge n.edges] ∧ h 6 = .ptr 1 0 2 ∧ h 8 = .ptr 2 0 23 ∧ h 9 = .ptr 3 0 10 ∧ h 11 = .ptr 4 0 2 ∧ h 12 = .int .i64 i ∧ h 13 = .bool down ∧ h 66 = .int .i64 (n.links.length : Int) ∧ h 67 = .int .i64 i ∧ h 74 = ints f_.links ∧ h 75 = .int .i64 (f_.links.length : Int) ∧ h 76 = .int .i64 i2) ∧ bs = [.gone, .cells true 2 [ints f_.links, .int .i64 f_.node], .cells true 23 (T.int .i64 r.prio :: (r.mat.mask.l.map (T.int .i64) ++ (r.mat.bits.l.map (T.int .i64) ++ [T.int .i64 r.step, lLAlt r.outs]))), .cells true 10 (h_.l.map (T.int .i64)), .cells true 2 [.arr 5 1 0 n2 n2 n2, .int .i64 f_.node], .cells false n2 (l.map (T.int .i64))]) ?_ k _ _ ?_
     rotate_left
     ·exact ⟨(decide (i = link)), 0, H3, kq hh, rfl⟩
     clear hh h H3
     rintro m h bs ⟨down, i2, H3, hh, rfl⟩
     rcases m with _ | m
     ·rw [sl_TableFailsOver_L1] at H3; cases H3
     rw [sl_TableFailsOver_L1] at H3
     repeat apply TW.seq
     refine rk [2, 5, 6, 8, 9, 11, 12, 13, 66, 67, 74, 75, 76, 77] [] (f2 hh c12) ?_
     clear hh h
     intro h hh
     rcases isp H3 with ⟨c14, H3⟩ | ⟨c14, H3⟩
     rotate_left
     ·skip
      repeat apply TW.seq
      refine cf (f2 hh (decide_eq_false c14)) ?_
      refine xk ?_
      cases H3
      exact ce hh ⟨kq hh, rfl⟩
     repeat apply TW.seq
     refine ct (f2 hh (decide_eq_true c14)) ?_
     repeat apply TW.seq
     refine sk ?_
     repeat apply TW.seq
     apply TW.block
     obtain ⟨g15, H3⟩ := isg H3
     repeat apply TW.seq
     refine rk [2, 5, 6, 8, 9, 11, 12, 13, 15, 66, 67, 74, 75, 76] [] (f3 hh c12 (gx_some g15)) ?_
     clear hh h
     intro h hh
     rcases isb H3 with ⟨c16, H3⟩ | ⟨c16, H3⟩
     rotate_left
     ·skip
      repeat apply TW.seq
      refine rk [2, 5, 6, 8, 9, 11, 12, 13, 66, 67, 74, 75, 76] [] (f3 hh c16 c12) ?_
      clear hh h
      intro h hh
      repeat apply TW.seq
      refine rk [2, 5, 6, 8, 9, 11, 12, 13, 66, 67, 74, 75, 76] [] (f3 hh c12 c16) ?_
      clear hh h
      intro h hh
      exact rd m hh ⟨(decide ((gx f_.links i2) = i)), (IntKind.i64.wrap (i2 + 1)), H3, kq hh, rfl⟩
     repeat apply TW.seq
     refine rk [2, 5, 6, 8, 9, 11, 12, 13, 66, 67, 74, 75, 76] [] (f3 hh c16 c12) ?_
     clear hh h
     intro h hh
     repeat apply TW.seq
     refine rk [2, 5, 6, 8, 9, 11, 12, 13, 66, 67, 74, 75, 76] [] (f3 hh c12 c16) ?_
     clear hh h
     intro h hh
     exact rd m hh ⟨true, (IntKind.i64.wrap (i2 + 1)), H3, kq hh, rfl⟩
    clear hh h
    rintro h bs ⟨hh, rfl⟩
    repeat apply TW.seq
    refine rk [2, 5, 6, 8, 9, 11, 12, 66, 67, 87] [] (f2 hh c12) ?_
    clear hh h
    intro h hh
    rcases isb H2 with ⟨c17, H2⟩ | ⟨c17, H2⟩
    rotate_left
    ·skip
     repeat apply TW.seq
     refine cf (f2 hh c17) ?_
     repeat apply TW.seq
     refine sk ?_
     cases H2
     exact ce hh ⟨kq hh, rfl⟩
    repeat apply TW.seq
    refine ct (f2 hh c17) ?_
    obtain ⟨g18, H2⟩ := isg H2
    repeat apply TW.seq
    refine rg [] [] [.gone, .cells true 2 [ints f_.links, .int .i64 f_.node], .cells true 23 (T.int .i64 r.prio :: (r.mat.mask.l.map (T.int .i64) ++ (r.mat.bits.l.map (T.int .i64) ++ [T.int .i64 r.step, lLAlt r.outs]))), .cells true 10 (h_.l.map (T.int .i64)), .cells true 2 [.arr 5 1 0 (n2 + 1) (n2 + 1) (n2 + 1), .int .i64 f_.node], .cells false (n2 + 1) ((l ++ [i]).map (T.int .i64))] (fun h => h 2 = .int .i64 link ∧ h 5 = .cp [lNode n.nodes, lLink n.links, lEdge n.edges] ∧ h 6 = .ptr 1 0 2 ∧ h 8 = .ptr 2 0 23 ∧ h 9 = .ptr 3 0 10 ∧ h 11 = .ptr 4 0 2 ∧ h 66 = .int .i64 (n.links.length : Int) ∧ h 67 = .int .i64 i) (f3 hh c12 c17) trivial ?_
    clear hh h
    intro h hh
    cases H2
    exact ce hh ⟨kq hh, rfl⟩
   clear hh h
   rintro h bs ⟨hh, rfl⟩
   repeat apply TW.seq
   refine rk [2, 5, 6, 8, 9, 11, 66, 67] [] (f2 hh c12) ?_
   clear hh h
   intro h hh
   exact rd m hh ⟨(IntKind.i64.wrap (i + 1)), s_3.1, s_3.2, H1, kq hh, rfl⟩
  clear hh h
  rintro h bs ⟨hh, rfl⟩
  repeat apply TW.seq
  refine rk [2, 5, 6, 8, 9, 11, 16] [] (f2 hh c12) ?_
  clear hh h
  intro h hh
  obtain ⟨g19, H⟩ := isg H
  repeat apply TW.seq
  refine fz (e := 1) (len := s_2.2) (l := (s_2.1.map (T.int .i64))) 4 5 0 (s_2.1.map (T.int .i64)) (by rw [List.drop_zero, Nat.mul_one, cells_map (fun _ => rfl), List.take_of_length_le (by rw [List.length_map]; omega)]) (fun t ht => by obtain ⟨x, _, rfl⟩ := List.mem_map.1 ht; first | rfl | exact eAr_len _ | exact cel_ePat _ | exact cel_eAlt _ | exact cel_eRule _ | (rw [List.length_map]; rfl)) (by rw [List.length_map]; exact g19) ?_
  repeat apply TW.seq
  refine rk [2, 5, 6, 9, 11, 16, 97, 98, 99] [] (f2 hh c12) ?_
  clear hh h
  intro h hh
  obtain ⟨o, H1, H⟩ := bsome H
  repeat apply TW.seq
  refine cu [] 6 (fun h bs => ∃ s_5 : Unit, o = .inr s_5 ∧ (True) ∧ bs = [.gone, .cells true 2 [ints f_.links, .int .i64 f_.node], .cells true 23 (T.int .i64 r.prio :: (r.mat.mask.l.map (T.int .i64) ++ (r.mat.bits.l.map (T.int .i64) ++ [T.int .i64 r.step, lLAlt r.outs]))), .cells true 10 (h_.l.map (T.int .i64)), .cells true 2 [ints s_2.1, .int .i64 f_.node], .gone]) ?_ ?_
  ·skip
   repeat apply TW.seq
   apply TW.block
   repeat apply TW.seq
   refine TW.loopT [2, 5, 6, 9, 11, 16, 97, 98, 99] (fun m h bs => ∃ (i3 : Int), sl_TableFailsOver_L2 k n f_ link r h_ s_2 m i3 = some o ∧ (h 2 = .int .i64 link ∧ h 5 = .cp [lNode n.nodes, lLink n.links, lEdge n.edges] ∧ h 6 = .ptr 1 0 2 ∧ h 9 = .ptr 3 0 10 ∧ h 11 = .ptr 4 0 2 ∧ h 16 = .fn 10 [] [.cp [lNode n.nodes, lLink n.links, lEdge n.edges]] ∧ h 97 = lLAlt r.outs ∧ h 98 = .int .i64 (r.outs.length : Int) ∧ h 99 = .int .i64 i3) ∧ bs = [.gone, .cells true 2 [ints f_.links, .int .i64 f_.node], .cells true 23 (T.int .i64 r.prio :: (r.mat.mask.l.map (T.int .i64) ++ (r.mat.bits.l.map (T.int .i64) ++ [T.int .i64 r.step, lLAlt r.outs]))), .cells true 10 (h_.l.map (T.int .i64)), .cells true 2 [ints s_2.1, .int .i64 f_.node], .gone]) ?_ k _ _ ?_
   rotate_left
   ·exact ⟨0, H1, kq hh, rfl⟩
   clear hh h H1
   rintro m h bs ⟨i3, H1, hh, rfl⟩
   rcases m with _ | m
   ·rw [sl_TableFailsOver_L2] at H1; cases H1
   rw [sl_TableFailsOver_L2] at H1
   repeat apply TW.seq
   refine rk [2, 5, 6, 9, 11, 16, 97, 98, 99, 100] [] (f2 hh c12) ?_
   clear hh h
   intro h hh
   rcases isp H1 with ⟨c20, H1⟩ | ⟨c20, H1⟩
   rotate_left
   ·skip
    repeat apply TW.seq
    refine cf (f2 hh (decide_eq_false c20)) ?_
    refine xk ?_
    cases H1
    exact ce hh ⟨_, rfl, kq hh, rfl⟩
   repeat apply TW.seq
   refine ct (f2 hh (decide_eq_true c20)) ?_
   repeat apply TW.seq
   refine sk ?_
   repeat apply TW.seq
   apply TW.block
   obtain ⟨g21, H1⟩ := isg H1
   repeat apply TW.seq
   refine rk [2, 5, 6, 9, 11, 16, 18, 97, 98, 99] [] (f3 hh c12 (gx_some g21)) ?_
   clear hh h
   intro h hh
   repeat apply TW.seq
   refine rk [2, 5, 6, 9, 11, 16, 18, 19, 97, 98, 99] [] (f2 hh c12) ?_
   clear hh h
   intro h hh
   obtain ⟨r1, e22, H1⟩ := bsome H1
   obtain ⟨r12, e23, H1⟩ := bsome H1
   repeat apply TW.seq
   refine dk 6 [2, 5, 6, 9, 11, 16, 18, 19, 20, 21, 97, 98, 99] [.int .i64 r1] [] [(.int .i64 r12, stL [.gone, .cells true 2 [ints f_.links, .int .i64 f_.node], .cells true 23 (T.int .i64 r.prio :: (r.mat.mask.l.map (T.int .i64) ++ (r.mat.bits.l.map (T.int .i64) ++ [T.int .i64 r.step, lLAlt r.outs]))), .cells true 10 (h_.l.map (T.int .i64)), .cells true 2 [ints s_2.1, .int .i64 f_.node], .gone, .cells true 23 (T.int .i64 1 :: ((zA 10).l.map (T.int .i64) ++ ((zA 10).l.map (T.int .i64) ++ [T.int .i64 (-1), lLAlt [gx r.outs i3]])))])] (f2 hh c12) ?_ ?_ ?_
   ·exact ⟨Pure.clr (sl_TableFailsOver_1_ok ax hx k f_ (gx r.outs i3) n r1 e22 ) (by first | rfl | simp only [c12]), trivial⟩
   ·exact ⟨Call0.call (Pure.clr (sl_TableFailsOver_1_ok ax hx k (⟨s_2.1, f_.node⟩ : Failure) (gx r.outs i3) n r12 e23 ) (by first | rfl | simp only [c12])), trivial⟩
   clear hh h
   intro h hh
   obtain ⟨rSend, e24, H1⟩ := bsome H1
   obtain ⟨rSend2, e25, H1⟩ := bsome H1
   repeat apply TW.seq
   refine dk 9 [2, 5, 6, 9, 11, 16, 18, 20, 21, 22, 23, 97, 98, 99] [lAr10 rSend] [] [(lAr10 rSend2, stL [.gone, .cells true 2 [ints f_.links, .int .i64 f_.node], .cells true 23 (T.int .i64 r.prio :: (r.mat.mask.l.map (T.int .i64) ++ (r.mat.bits.l.map (T.int .i64) ++ [T.int .i64 r.step, lLAlt r.outs]))), .cells true 10 (h_.l.map (T.int .i64)), .cells true 2 [ints s_2.1, .int .i64 f_.node], .gone, .cells true 23 (T.int .i64 1 :: ((zA 10).l.map (T.int .i64) ++ ((zA 10).l.map (T.int .i64) ++ [T.int .i64 (-1), lLAlt [gx r.outs i3]])))])] (f2 hh c12) ?_ ?_ ?_
   ·exact ⟨Pure.clr (stable_Send_ok ax hx k n f_ (⟨1, (⟨(zA 10), (zA 10)⟩ : Pat), (-1), [gx r.outs i3]⟩ : Rule) h_ rSend e24 ) (by first | rfl | simp only [c12]), trivial⟩
   ·exact ⟨Call0.call (Pure.clr (stable_Send_ok ax hx k n (⟨s_2.1, f_.node⟩ : Failure) (⟨1, (⟨(zA 10), (zA 10)⟩ : Pat), (-1), [gx r.outs i3]⟩ : Rule) h_ rSend2 e25 ) (by first | rfl | simp only [c12])), trivial⟩
   clear hh h
   intro h hh
   obtain ⟨s_6, H2, H1⟩ := bsome H1
   repeat apply TW.seq
   refine cu [2, 5, 6, 9, 11, 16, 18, 20, 21, 22, 23, 97, 98, 99, 156] 7 (fun h bs => (h 2 = .int .i64 link ∧ h 5 = .cp [lNode n.nodes, lLink n.links, lEdge n.edges] ∧ h 6 = .ptr 1 0 2 ∧ h 9 = .ptr 3 0 10 ∧ h 11 = .ptr 4 0 2 ∧ h 16 = .fn 10 [] [.cp [lNode n.nodes, lLink n.links, lEdge n.edges]] ∧ h 18 = lAlt (gx r.outs i3) ∧ h 20 = .int .i64 r1 ∧ h 21 = .int .i64 r12 ∧ h 22 = lAr10 rSend ∧ h 23 = lAr10 rSend2 ∧ h 97 = lLAlt r.outs ∧ h 98 = .int .i64 (r.outs.length : Int) ∧ h 99 = .int .i64 i3 ∧ h 156 = .bool s_6) ∧ bs = [.gone, .cells true 2 [ints f_.links, .int .i64 f_.node], .cells true 23 (T.int .i64 r.prio :: (r.mat.mask.l.map (T.int .i64) ++ (r.mat.bits.l.map (T.int .i64) ++ [T.int .i64 r.step, lLAlt r.outs]))), .cells true 10 (h_.l.map (T.int .i64)), .cells true 2 [ints s_2.1, .int .i64 f_.node], .gone, .cells true 23 (T.int .i64 1 :: ((zA 10).l.map (T.int .i64) ++ ((zA 10).l.map (T.int .i64) ++ [T.int .i64 (-1), lLAlt [gx r.outs i3]])))]) ?_ ?_
   ·skip
    rcases isp H2 with ⟨c26, H2⟩ | ⟨c26, H2⟩
    rotate_left
    ·skip
     rcases isp H2 with ⟨c27, H2⟩ | ⟨c27, H2⟩
     rotate_left
     ·skip
      rcases isp H2 with ⟨c34, H2⟩ | ⟨c34, H2⟩
      rotate_left
      ·skip
       rcases isp H2 with ⟨c35, H2⟩ | ⟨c35, H2⟩
       rotate_left
       ·skip
        rcases isp H2 with ⟨c38, H2⟩ | ⟨c38, H2⟩
        rotate_left
        ·skip
         rcases isp H2 with ⟨c39, H2⟩ | ⟨c39, H2⟩
         rotate_left
         ·skip
          repeat apply TW.seq
          refine rk [2, 5, 6, 9, 11, 16, 18, 20, 21, 22, 23, 97, 98, 99, 156] [] (f3 hh (decide_eq_false c26) (f3 (decide_eq_false c27) (decide_eq_false c34) (f3 (decide_eq_false c35) (decide_eq_false c38) (f2 (decide_eq_false c39) c12)))) ?_
          clear hh h
          intro h hh
          cases H2
          exact ce hh ⟨kq hh, rfl⟩
         repeat apply TW.seq
         refine rk [2, 5, 6, 9, 11, 16, 18, 20, 21, 22, 23, 97, 98, 99, 156] [] (f3 hh (decide_eq_false c26) (f3 (decide_eq_false c27) (decide_eq_false c34) (f3 (decide_eq_false c35) (decide_eq_false c38) (f2 (decide_eq_true c39) c12)))) ?_
         clear hh h
         intro h hh
         cases H2
         exact ce hh ⟨kq hh, rfl⟩
        repeat apply TW.seq
        refine rk [2, 5, 6, 9, 11, 16, 18, 20, 21, 22, 23, 97, 98, 99, 156] [] (f3 hh (decide_eq_false c26) (f3 (decide_eq_false c27) (decide_eq_false c34) (f3 (decide_eq_false c35) (decide_eq_true c38) c12))) ?_
        clear hh h
        intro h hh
        cases H2
        exact ce hh ⟨kq hh, rfl⟩
       rcases isp H2 with ⟨c36, H2⟩ | ⟨c36, H2⟩
       rotate_left
       ·skip
        repeat apply TW.seq
        refine rk [2, 5, 6, 9, 11, 16, 18, 20, 21, 22, 23, 97, 98, 99, 156] [] (f3 hh (decide_eq_false c26) (f3 (decide_eq_false c27) (decide_eq_false c34) (f3 (decide_eq_true c35) (decide_eq_false c36) c12))) ?_
        clear hh h
        intro h hh
        cases H2
        exact ce hh ⟨kq hh, rfl⟩
       rcases isp H2 with ⟨c37, H2⟩ | ⟨c37, H2⟩
       rotate_left
       ·skip
        repeat apply TW.seq
        refine rk [2, 5, 6, 9, 11, 16, 18, 20, 21, 22, 23, 97, 98, 99, 156] [] (f3 hh (decide_eq_false c26) (f3 (decide_eq_false c27) (decide_eq_false c34) (f3 (decide_eq_true c35) (decide_eq_true c36) (f2 (decide_eq_false c37) c12)))) ?_
        clear hh h
        intro h hh
        cases H2
        exact ce hh ⟨kq hh, rfl⟩
       repeat apply TW.seq
       refine rk [2, 5, 6, 9, 11, 16, 18, 20, 21, 22, 23, 97, 98, 99, 156] [] (f3 hh (decide_eq_false c26) (f3 (decide_eq_false c27) (decide_eq_false c34) (f3 (decide_eq_true c35) (decide_eq_true c36) (f2 (decide_eq_true c37) c12)))) ?_
       clear hh h
       intro h hh
       cases H2
       exact ce hh ⟨kq hh, rfl⟩
      repeat apply TW.seq
      refine rk [2, 5, 6, 9, 11, 16, 18, 20, 21, 22, 23, 97, 98, 99, 156] [] (f3 hh (decide_eq_false c26) (f3 (decide_eq_false c27) (decide_eq_true c34) c12)) ?_
      clear hh h
      intro h hh
      cases H2
      exact ce hh ⟨kq hh, rfl⟩
     rcases isp H2 with ⟨c28, H2⟩ | ⟨c28, H2⟩
     rotate_left
     ·skip
      repeat apply TW.seq
      refine rk [2, 5, 6, 9, 11, 16, 18, 20, 21, 22, 23, 97, 98, 99, 156] [] (f3 hh (decide_eq_false c26) (f3 (decide_eq_true c27) (decide_eq_false c28) c12)) ?_
      clear hh h
      intro h hh
      cases H2
      exact ce hh ⟨kq hh, rfl⟩
     rcases isp H2 with ⟨c29, H2⟩ | ⟨c29, H2⟩
     rotate_left
     ·skip
      rcases isp H2 with ⟨c32, H2⟩ | ⟨c32, H2⟩
      rotate_left
      ·skip
       rcases isp H2 with ⟨c33, H2⟩ | ⟨c33, H2⟩
       rotate_left
       ·skip
        repeat apply TW.seq
        refine rk [2, 5, 6, 9, 11, 16, 18, 20, 21, 22, 23, 97, 98, 99, 156] [] (f3 hh (decide_eq_false c26) (f3 (decide_eq_true c27) (decide_eq_true c28) (f3 (decide_eq_false c29) (decide_eq_false c32) (f2 (decide_eq_false c33) c12)))) ?_
        clear hh h
        intro h hh
        cases H2
        exact ce hh ⟨kq hh, rfl⟩
       exact absurd c33 (by omega)
      repeat apply TW.seq
      refine rk [2, 5, 6, 9, 11, 16, 18, 20, 21, 22, 23, 97, 98, 99, 156] [] (f3 hh (decide_eq_false c26) (f3 (decide_eq_true c27) (decide_eq_true c28) (f3 (decide_eq_false c29) (decide_eq_true c32) c12))) ?_
      clear hh h
      intro h hh
      cases H2
      exact ce hh ⟨kq hh, rfl⟩
     rcases isp H2 with ⟨c30, H2⟩ | ⟨c30, H2⟩
     rotate_left
     ·skip
      repeat apply TW.seq
      refine rk [2, 5, 6, 9, 11, 16, 18, 20, 21, 22, 23, 97, 98, 99, 156] [] (f3 hh (decide_eq_false c26) (f3 (decide_eq_true c27) (decide_eq_true c28) (f3 (decide_eq_true c29) (decide_eq_false c30) c12))) ?_
      clear hh h
      intro h hh
      cases H2
      exact ce hh ⟨kq hh, rfl⟩
     rcases isp H2 with ⟨c31, H2⟩ | ⟨c31, H2⟩
     rotate_left
     ·skip
      repeat apply TW.seq
      refine rk [2, 5, 6, 9, 11, 16, 18, 20, 21, 22, 23, 97, 98, 99, 156] [] (f3 hh (decide_eq_false c26) (f3 (decide_eq_true c27) (decide_eq_true c28) (f3 (decide_eq_true c29) (decide_eq_true c30) (f2 (decide_eq_false c31) c12)))) ?_
      clear hh h
      intro h hh
      cases H2
      exact ce hh ⟨kq hh, rfl⟩
     exact absurd c31 (by omega)
    repeat apply TW.seq
    refine rk [2, 5, 6, 9, 11, 16, 18, 20, 21, 22, 23, 97, 98, 99, 156] [] (f3 hh (decide_eq_true c26) c12) ?_
    clear hh h
    intro h hh
    cases H2
    exact ce hh ⟨kq hh, rfl⟩
   clear hh h
   rintro h bs ⟨hh, rfl⟩
   rcases isb H1 with ⟨c40, H1⟩ | ⟨c40, H1⟩
   rotate_left
   ·skip
    repeat apply TW.seq
    refine cf (f2 hh c40) ?_
    repeat apply TW.seq
    refine sk ?_
    obtain ⟨s_7, H2, H1⟩ := bsome H1
    repeat apply TW.seq
    refine cu [2, 5, 6, 9, 11, 16, 18, 20, 21, 97, 98, 99, 190] 7 (fun h bs => (h 2 = .int .i64 link ∧ h 5 = .cp [lNode n.nodes, lLink n.links, lEdge n.edges] ∧ h 6 = .ptr 1 0 2 ∧ h 9 = .ptr 3 0 10 ∧ h 11 = .ptr 4 0 2 ∧ h 16 = .fn 10 [] [.cp [lNode n.nodes, lLink n.links, lEdge n.edges]] ∧ h 18 = lAlt (gx r.outs i3) ∧ h 20 = .int .i64 r1 ∧ h 21 = .int .i64 r12 ∧ h 97 = lLAlt r.outs ∧ h 98 = .int .i64 (r.outs.length : Int) ∧ h 99 = .int .i64 i3 ∧ h 190 = .bool s_7) ∧ bs = [.gone, .cells true 2 [ints f_.links, .int .i64 f_.node], .cells true 23 (T.int .i64 r.prio :: (r.mat.mask.l.map (T.int .i64) ++ (r.mat.bits.l.map (T.int .i64) ++ [T.int .i64 r.step, lLAlt r.outs]))), .cells true 10 (h_.l.map (T.int .i64)), .cells true 2 [ints s_2.1, .int .i64 f_.node], .gone, .cells true 23 (T.int .i64 1 :: ((zA 10).l.map (T.int .i64) ++ ((zA 10).l.map (T.int .i64) ++ [T.int .i64 (-1), lLAlt [gx r.outs i3]])))]) ?_ ?_
    ·skip
     rcases isp H2 with ⟨c41, H2⟩ | ⟨c41, H2⟩
     rotate_left
     ·skip
      rcases isp H2 with ⟨c50, H2⟩ | ⟨c50, H2⟩
      rotate_left
      ·skip
       repeat apply TW.seq
       refine dk 31 [2, 5, 6, 9, 11, 16, 18, 20, 21, 97, 98, 99, 190] [] [] [] (f3 hh (decide_eq_false c41) (f3 (decide_eq_false c50) c12 c40)) trivial trivial ?_
       clear hh h
       intro h hh
       cases H2
       exact ce hh ⟨kq hh, rfl⟩
      obtain ⟨g51, H2⟩ := isg H2
      obtain ⟨g52, H2⟩ := isg H2
      obtain ⟨rApply3, e53, H2⟩ := bsome H2
      repeat apply TW.seq
      refine dk 31 [2, 5, 6, 9, 11, 16, 18, 20, 21, 97, 98, 99, 190] [.agg (rApply3.l.map (T.int .i64))] [] [] (f3 hh (decide_eq_false c41) (f3 (decide_eq_true c50) c12 (f3 c40 (gx_some g51) (f2 (gx_some g52) ((aq31 ax (gx rSend2 0) rApply3).2))))) ?_ trivial ?_
      ·exact ⟨Pure.clr (sbits_Apply_ok ax hx k ((gx (gx r.outs i3) r12).mod) h_ rApply3 e53 ) (by first | rfl | simp only [c12, c40]), trivial⟩
      clear hh h
      intro h hh
      cases H2
      exact ce hh ⟨kq hh, rfl⟩
     obtain ⟨g42, H2⟩ := isg H2
     obtain ⟨g43, H2⟩ := isg H2
     obtain ⟨rApply, e44, H2⟩ := bsome H2
     rcases isp H2 with ⟨c45, H2⟩ | ⟨c45, H2⟩
     rotate_left
     ·skip
      repeat apply TW.seq
      refine dk 31 [2, 5, 6, 9, 11, 16, 18, 20, 21, 97, 98, 99, 190] [.agg (rApply.l.map (T.int .i64))] [] [] (f3 hh (decide_eq_true c41) (f3 (decide_eq_false c45) c12 (f3 c40 (gx_some g42) (f2 (gx_some g43) ((aq31 ax (gx rSend 0) rApply).2))))) ?_ trivial ?_
      ·exact ⟨Pure.clr (sbits_Apply_ok ax hx k ((gx (gx r.outs i3) r1).mod) h_ rApply e44 ) (by first | rfl | simp only [c12, c40]), trivial⟩
      clear hh h
      intro h hh
      cases H2
      exact ce hh ⟨kq hh, rfl⟩
     rcases isp H2 with ⟨c46, H2⟩ | ⟨c46, H2⟩
     rotate_left
     ·skip
      repeat apply TW.seq
      refine dk 31 [2, 5, 6, 9, 11, 16, 18, 20, 21, 97, 98, 99, 190] [.agg (rApply.l.map (T.int .i64))] [] [] (f3 hh (decide_eq_true c41) (f3 (decide_eq_true c45) (decide_eq_false c46) (f3 c12 c40 (f3 (gx_some g42) (gx_some g43) ((aq31 ax (gx rSend 0) rApply).2))))) ?_ trivial ?_
      ·exact ⟨Pure.clr (sbits_Apply_ok ax hx k ((gx (gx r.outs i3) r1).mod) h_ rApply e44 ) (by first | rfl | simp only [c12, c40]), trivial⟩
      clear hh h
      intro h hh
      cases H2
      exact ce hh ⟨kq hh, rfl⟩
     obtain ⟨g47, H2⟩ := isg H2
     obtain ⟨g48, H2⟩ := isg H2
     obtain ⟨rApply2, e49, H2⟩ := bsome H2
     repeat apply TW.seq
     refine dk 31 [2, 5, 6, 9, 11, 16, 18, 20, 21, 97, 98, 99, 190] [.agg (rApply.l.map (T.int .i64)), .agg (rApply2.l.map (T.int .i64))] [] [] (f3 hh (decide_eq_true c41) (f3 (decide_eq_true c45) (decide_eq_true c46) (f3 c12 c40 (f3 (gx_some g42) (gx_some g43) (f3 ((aq31 ax (gx rSend 0) rApply).2) (gx_some g47) (f2 (gx_some g48) ((aq31 ax (gx rSend2 0) rApply2).2))))))) ?_ trivial ?_
     ·exact ⟨Pure.clr (sbits_Apply_ok ax hx k ((gx (gx r.outs i3) r1).mod) h_ rApply e44 ) (by first | rfl | simp only [c12, c40]), Pure.clr (sbits_Apply_ok ax hx k ((gx (gx r.outs i3) r12).mod) h_ rApply2 e49 ) (by first | rfl | simp only [c12, c40]), trivial⟩
     clear hh h
     intro h hh
     cases H2
     exact ce hh ⟨kq hh, rfl⟩
    clear hh h
    rintro h bs ⟨hh, rfl⟩
    rcases isb H1 with ⟨c54, H1⟩ | ⟨c54, H1⟩
    rotate_left
    ·skip
     repeat apply TW.seq
     refine cf (f2 hh c54) ?_
     repeat apply TW.seq
     refine sk ?_
     rcases isp H1 with ⟨c55, H1⟩ | ⟨c55, H1⟩
     rotate_left
     ·skip
      repeat apply TW.seq
      refine rk [2, 5, 6, 9, 11, 16, 97, 98, 99, 208] [] (f3 hh (decide_eq_false c55) (f3 c12 c40 c54)) ?_
      clear hh h
      intro h hh
      repeat apply TW.seq
      refine cf hh ?_
      repeat apply TW.seq
      refine sk ?_
      repeat apply TW.seq
      refine rk [2, 5, 6, 9, 11, 16, 97, 98, 99] [] (f3 hh c12 (f2 c40 c54)) ?_
      clear hh h
      intro h hh
      exact rd m hh ⟨(IntKind.i64.wrap (i3 + 1)), H1, kq hh, rfl⟩
     obtain ⟨g56, H1⟩ := isg H1
     rcases isp H1 with ⟨c57, H1⟩ | ⟨c57, H1⟩
     rotate_left
     ·skip
      repeat apply TW.seq
      refine rk [2, 5, 6, 9, 11, 16, 97, 98, 99, 208] [] (f3 hh (decide_eq_true c55) (f3 (decide_eq_false c57) c12 (f3 c40 c54 (gx_some g56)))) ?_
      clear hh h
      intro h hh
      repeat apply TW.seq
      refine cf hh ?_
      repeat apply TW.seq
      refine sk ?_
      repeat apply TW.seq
      refine rk [2, 5, 6, 9, 11, 16, 97, 98, 99] [] (f3 hh c12 (f2 c40 c54)) ?_
      clear hh h
      intro h hh
      exact rd m hh ⟨(IntKind.i64.wrap (i3 + 1)), H1, kq hh, rfl⟩
     repeat apply TW.seq
     refine rk [2, 5, 6, 9, 11, 16, 97, 98, 99, 208] [] (f3 hh (decide_eq_true c55) (f3 (decide_eq_true c57) c12 (f3 c40 c54 (gx_some g56)))) ?_
     clear hh h
     intro h hh
     rcases isp H1 with ⟨c58, H1⟩ | ⟨c58, H1⟩
     rotate_left
     ·skip
      repeat apply TW.seq
      refine cf (f2 hh (decide_eq_false c58)) ?_
      repeat apply TW.seq
      refine sk ?_
      repeat apply TW.seq
      refine rk [2, 5, 6, 9, 11, 16, 97, 98, 99] [] (f3 hh c12 (f2 c40 c54)) ?_
      clear hh h
      intro h hh
      exact rd m hh ⟨(IntKind.i64.wrap (i3 + 1)), H1, kq hh, rfl⟩
     repeat apply TW.seq
     refine ct (f2 hh (decide_eq_true c58)) ?_
     repeat apply TW.seq
     refine rk [10] [] (f3 hh c12 (f2 c40 c54)) ?_
     clear hh h
     intro h hh
     cases H1
     obtain rfl := sinl H
     exact rt hh
    repeat apply TW.seq
    refine ct (f2 hh c54) ?_
    repeat apply TW.seq
    refine rk [10] [] (f3 hh c12 (f2 c40 c54)) ?_
    clear hh h
    intro h hh
    cases H1
    obtain rfl := sinl H
    exact rt hh
   repeat apply TW.seq
   refine ct (f2 hh c40) ?_
   repeat apply TW.seq
   refine rk [10] [] (f3 hh c12 c40) ?_
   clear hh h
   intro h hh
   cases H1
   obtain rfl := sinl H
   exact rt hh
  clear hh h
  rintro h bs ⟨s_5, rfl, hh, rfl⟩
  replace H := sinr H
  repeat apply TW.seq
  refine rkc [10] [] [(.bool true, stL [.gone, .cells true 2 [ints f_.links, .int .i64 f_.node], .cells true 23 (T.int .i64 r.prio :: (r.mat.mask.l.map (T.int .i64) ++ (r.mat.bits.l.map (T.int .i64) ++ [T.int .i64 r.step, lLAlt r.outs]))), .cells true 10 (h_.l.map (T.int .i64)), .cells true 2 [ints s_2.1, .int .i64 f_.node], .gone])] (f2 hh c12) ?_ ?_
  ·exact ⟨Call0.call (Pure.clr hx.san (by first | rfl | simp only [c12])), trivial⟩
  clear hh h
  intro h hh
  cases H
  exact rt hh
 repeat apply TW.seq
 refine ct (f2 hh c12) ?_
 repeat apply TW.seq
 refine rkc [10] [] [(.bool true, stL [.gone, .cells true 2 [ints f_.links, .int .i64 f_.node], .cells true 23 (T.int .i64 r.prio :: (r.mat.mask.l.map (T.int .i64) ++ (r.mat.bits.l.map (T.int .i64) ++ [T.int .i64 r.step, lLAlt r.outs]))), .cells true 10 (h_.l.map (T.int .i64))])] (f2 hh c12) ?_ ?_
 ·exact ⟨Call0.call (Pure.clr hx.san (by first | rfl | simp only [c12])), trivial⟩
 clear hh h
 intro h hh
 cases H
 exact rt hh
end Go.Proofs.Ytjgbkegkcbcjaaa
namespace Go.Proofs.Ytjgbkegkcbcjaaa
open Go Go.RowKit
theorem find_at {α : Type} (q : α → Bool) : ∀ l : List α, l.find? q = l[l.findIdx q]?
  | [] => rfl
  | x :: l => by
    rw [List.find?_cons, List.findIdx_cons]
    cases q x with
    | true => simp
    | false => simp only [cond_false]; rw [List.getElem?_cons_succ]; exact find_at q l
theorem chosen_spec {k : Nat} (n : Net) (f : Failure) (l : List Alt) (hv : ∀ a, a ∈ l → a.link < (n.links.length : Int)) (hlen : l.length ≤ 8) (hl : f.links.length < big) (hk : big ≤ k) : sl_TableFailsOver_1 k f l n = some ((l.findIdx (okA n f) : Nat) : Int) := by
  have key : ∀ m i, i ≤ l.length → l.length - i < m → (∀ j (h : j < l.length), j < i → okA n f l[j] = false) → sl_TableFailsOver_1_L0 k f l n m (i : Int) = some (if l.findIdx (okA n f) < l.length then .inl ((l.findIdx (okA n f) : Nat) : Int) else .inr ()) := by
    intro m
    induction m with
    | zero => intro i h1 h2; omega
    | succ m ih =>
      intro i h1 h2 h3
      rw [sl_TableFailsOver_1_L0]
      by_cases c : i < l.length
      · have hit : okA n f l[i] = true → l.findIdx (okA n f) = i := fun q => (List.findIdx_eq c).2 ⟨q, fun j hj => h3 j (by omega) hj⟩
        rw [if_pos (lt_cast c), if_pos ⟨by omega, lt_cast c⟩, gx_at c, wr_succ i (by omega)]
        by_cases c0 : l[i].link < 0
        · have e := hit (by unfold okA; simp [c0])
          rw [if_pos c0, e, if_pos c]
        · rw [if_neg c0, r09_Up n f _ ⟨by omega, hv _ (List.getElem_mem c)⟩ hl hk, Option.bind_some]
          cases hu : upB n f l[i].link with
          | true =>
            have e := hit (by unfold okA; rw [hu]; simp)
            rw [if_pos rfl, e, if_pos c]
          | false =>
            rw [if_neg (by simp)]
            refine ih (i + 1) (by omega) (by omega) fun j hj hji => ?_
            by_cases hj2 : j < i
            · exact h3 j hj hj2
            · obtain rfl : j = i := by omega
              unfold okA; rw [hu]; simp [c0]
      · obtain rfl : i = l.length := by omega
        have e : l.findIdx (okA n f) = l.length := List.findIdx_eq_length.2 fun x hx => by
          obtain ⟨j, hj, rfl⟩ := List.getElem_of_mem hx
          exact h3 j hj hj
        rw [if_neg (by omega), e, if_neg (Nat.lt_irrefl _)]
  unfold sl_TableFailsOver_1
  have := key k 0 (Nat.zero_le _) (by simp only [big] at hk; omega) (fun j h q => by omega)
  rw [show ((0 : Nat) : Int) = 0 from rfl] at this
  rw [this, Option.bind_some]
  have hle := List.findIdx_le_length (p := okA n f) (xs := l)
  by_cases c : l.findIdx (okA n f) < l.length
  · rw [if_pos c]; rfl
  · rw [if_neg c, show l.findIdx (okA n f) = l.length by omega]; rfl
def isDown (f : Failure) (link : Int) (i : Nat) : Bool := decide ((i : Int) = link) || f.links.any fun x => decide (x = (i : Int))
def downs (f : Failure) (link : Int) (i : Nat) : List Int := ((List.range i).filter (isDown f link)).map fun j : Nat => (j : Int)
theorem downs_len (f : Failure) (link : Int) (i : Nat) : (downs f link i).length ≤ i := by
  unfold downs
  rw [List.length_map]
  exact Nat.le_trans (List.length_filter_le _ _) (by rw [List.length_range]; exact Nat.le_refl _)
theorem downs_succ (f : Failure) (link : Int) (i : Nat) : downs f link (i + 1) = if isDown f link i = true then downs f link i ++ [(i : Int)] else downs f link i := by
  unfold downs
  rw [List.range_succ, List.filter_append, List.map_append]
  cases h : isDown f link i <;> simp [List.filter, h]
theorem mem_downs {f : Failure} {link : Int} {i : Nat} {v : Int} (h0 : 0 ≤ v) (h1 : v < (i : Int)) : v ∈ downs f link i ↔ v = link ∨ v ∈ f.links := by
  unfold downs isDown
  simp only [List.mem_map, List.mem_filter, List.mem_range, Bool.or_eq_true, decide_eq_true_eq, List.any_eq_true]
  constructor
  · rintro ⟨j, ⟨hj, hd⟩, rfl⟩
    rcases hd with hd | ⟨x, hx, rfl⟩
    · exact .inl hd
    · exact .inr hx
  · intro h
    refine ⟨v.toNat, ⟨by omega, ?_⟩, by omega⟩
    have e : ((v.toNat : Nat) : Int) = v := by omega
    rw [e]
    rcases h with h | h
    · exact .inl h
    · exact .inr ⟨v, h, rfl⟩
theorem down_spec {k : Nat} (f : Failure) (i : Int) (d : Bool) (hl : f.links.length < big) (hk : big ≤ k) : sl_TableFailsOver_L1 k f i k d 0 = some (d || f.links.any fun x => decide (x = i)) := by
  have key : ∀ m j d, j ≤ f.links.length → f.links.length - j < m → sl_TableFailsOver_L1 k f i m d (j : Int) = some (d || (f.links.drop j).any fun x => decide (x = i)) := by
    intro m
    induction m with
    | zero => intro j d h1 h2; omega
    | succ m ih =>
      intro j d h1 h2
      rw [sl_TableFailsOver_L1]
      by_cases c : j < f.links.length
      · rw [if_pos (lt_cast c), if_pos ⟨by omega, lt_cast c⟩, gx_at c, wr_succ j (by simp only [big] at hl; omega), List.drop_eq_getElem_cons c, List.any_cons]
        cases d with
        | true => rw [if_pos rfl, ih (j + 1) true (by omega) (by omega)]; simp
        | false => rw [if_neg (by simp), ih (j + 1) _ (by omega) (by omega)]; simp
      · obtain rfl : j = f.links.length := by omega
        rw [if_neg (by omega), List.drop_length]; simp
  have := key k 0 d (Nat.zero_le _) (by omega)
  rwa [List.drop_zero] at this
theorem downs_spec {k : Nat} (n : Net) (f : Failure) (link : Int) (hn : n.links.length ≤ 24) (hl : f.links.length < big) (hk : big ≤ k) : sl_TableFailsOver_L0 k n f link k 0 [] 0 = some (downs f link n.links.length, (downs f link n.links.length).length) := by
  have key : ∀ m i, i ≤ n.links.length → n.links.length - i < m → sl_TableFailsOver_L0 k n f link m (i : Int) (downs f link i) (downs f link i).length = some (downs f link n.links.length, (downs f link n.links.length).length) := by
    intro m
    induction m with
    | zero => intro i h1 h2; omega
    | succ m ih =>
      intro i h1 h2
      rw [sl_TableFailsOver_L0]
      by_cases c : i < n.links.length
      · have hd := downs_len f link i
        have hs := downs_succ f link i
        rw [if_pos (lt_cast c), down_spec f _ _ hl hk, Option.bind_some, wr_succ i (by omega)]
        have e : (decide ((i : Int) = link) || f.links.any fun x => decide (x = (i : Int))) = isDown f link i := rfl
        rw [e]
        have := ih (i + 1) (by omega) (by omega)
        rw [hs] at this
        cases hi : isDown f link i with
        | true =>
          rw [hi, if_pos rfl, List.length_append, List.length_singleton] at this
          rw [if_pos rfl, if_pos (by omega), Option.bind_some]
          exact this
        | false =>
          rw [hi, if_neg (by simp)] at this
          rw [if_neg (by simp), Option.bind_some]
          exact this
      · obtain rfl : i = n.links.length := by omega
        rw [if_neg (by omega)]
  exact key k 0 (Nat.zero_le _) (by simp only [big] at hk; omega)
theorem sendOne (n : Net) (f : Failure) (l : List Alt) (h : Ar 10) : sendL n f [l] h = match l[l.findIdx (okA n f)]? with | some a => [applyH a.mod h] | none => [] := by
  unfold sendL
  have e : out1 n f h l = (l[l.findIdx (okA n f)]?).map fun a => applyH a.mod h := by unfold out1; rw [find_at]
  cases hq : l[l.findIdx (okA n f)]? with
  | none => rw [hq] at e; simp [e]
  | some a => rw [hq] at e; simp [e]
theorem sendOne_lt {n : Net} {f : Failure} {l : List Alt} (h : Ar 10) (c : l.findIdx (okA n f) < l.length) : sendL n f [l] h = [applyH l[l.findIdx (okA n f)].mod h] := by
  rw [sendOne, List.getElem?_eq_getElem c]
theorem sendOne_end {n : Net} {f : Failure} {l : List Alt} (h : Ar 10) (c : ¬ l.findIdx (okA n f) < l.length) : sendL n f [l] h = [] := by
  rw [sendOne, List.getElem?_eq_none (by omega)]
section
variable {n : Net} {f : Failure} {link : Int} (hlk : 0 ≤ link ∧ link < (n.links.length : Int))
def more (n : Net) (f : Failure) (link : Int) : Failure := ⟨downs f link n.links.length, f.node⟩
theorem ok_more {a : Alt} (hv : a.link < (n.links.length : Int)) (h : okA n (more n f link) a = true) : okA n f a = true := by
  unfold okA upB more at *
  by_cases c : a.link < 0
  · simp [c]
  · simp only [c, decide_false, Bool.false_or, Bool.and_eq_true, Bool.not_eq_true', decide_eq_false_iff_not, mem_downs (f := f) (link := link) (Int.not_lt.1 c) hv, not_or] at h ⊢
    exact ⟨h.1, h.2.1, h.2.2.2⟩
theorem more_ok {a : Alt} (hv : a.link < (n.links.length : Int)) (hne : a.link ≠ link) (h : okA n f a = true) : okA n (more n f link) a = true := by
  unfold okA upB more at *
  by_cases c : a.link < 0
  · simp [c]
  · simp only [c, decide_false, Bool.false_or, Bool.and_eq_true, Bool.not_eq_true', decide_eq_false_iff_not, mem_downs (f := f) (link := link) (Int.not_lt.1 c) hv, not_or] at h ⊢
    exact ⟨h.1, h.2.1, hne, h.2.2⟩
theorem chosen_le {l : List Alt} (hv : ∀ a, a ∈ l → a.link < (n.links.length : Int)) : l.findIdx (okA n f) ≤ l.findIdx (okA n (more n f link)) := by
  by_cases c : l.findIdx (okA n (more n f link)) < l.length
  · have h1 := List.findIdx_getElem (w := c)
    have h2 := ok_more (hv _ (List.getElem_mem c)) h1
    exact Nat.le_of_not_lt fun q => by
      have := List.not_of_lt_findIdx q
      rw [h2] at this; cases this
  · have := List.findIdx_le_length (p := okA n f) (xs := l)
    omega
theorem chosen_same {l : List Alt} (hv : ∀ a, a ∈ l → a.link < (n.links.length : Int)) (c : l.findIdx (okA n f) < l.length) (hne : (l[l.findIdx (okA n f)]).link ≠ link) : l.findIdx (okA n f) = l.findIdx (okA n (more n f link)) := by
  have h1 := List.findIdx_getElem (w := c)
  have h2 := more_ok (link := link) (hv _ (List.getElem_mem c)) hne h1
  have h3 := chosen_le (n := n) (f := f) (link := link) hv
  refine Nat.le_antisymm h3 (Nat.le_of_not_lt fun q => ?_)
  have := List.not_of_lt_findIdx q
  rw [h2] at this; cases this
end
theorem round_ok {k : Nat} (hk : big ≤ k) (n : Net) (f : Failure) (link : Int) (r : Rule) (h : Ar 10) (hn : n.links.length ≤ 24) (hl : f.links.length < big) (hr : CanSend n r) (hh : rightHead h = true) (m j : Nat) (hj : j < r.outs.length) :
    sl_TableFailsOver_L2 k n f link r h (downs f link n.links.length, (downs f link n.links.length).length) (m + 1) (j : Int) = sl_TableFailsOver_L2 k n f link r h (downs f link n.links.length, (downs f link n.links.length).length) m (IntKind.i64.wrap ((j : Int) + 1)) := by
  rw [sl_TableFailsOver_L2, if_pos (lt_cast hj), if_pos ⟨by omega, lt_cast hj⟩, gx_at hj]
  have hx := List.getElem_mem hj
  have hv := hr.link _ hx
  have hm := hr.mod _ hx
  have h8 := hr.alts _ hx
  generalize r.outs[j] = l at *
  have hml : (more n f link).links.length < big := by
    have := downs_len f link n.links.length
    simp only [more, big] at *; omega
  have hs : CanSend n ⟨1, ⟨zA 10, zA 10⟩, -1, [l]⟩ := ⟨by simp, fun y hy => by cases List.mem_singleton.1 hy; exact h8, fun y hy => by cases List.mem_singleton.1 hy; exact hv, fun y hy => by cases List.mem_singleton.1 hy; exact hm⟩
  have e0 : (⟨downs f link n.links.length, f.node⟩ : Failure) = more n f link := rfl
  simp only [e0]
  have s1 := table_Send (k := k) n f _ h hs hh hl hk
  have s2 := table_Send (k := k) n (more n f link) _ h hs hh hml hk
  simp only at s1 s2
  rw [chosen_spec n f l hv h8 hl hk, Option.bind_some, chosen_spec n (more n f link) l hv h8 hml hk, Option.bind_some, s1, Option.bind_some, s2, Option.bind_some]
  have hle := chosen_le (n := n) (f := f) (link := link) hv
  have hsame := fun c hne => chosen_same (n := n) (f := f) (link := link) hv c hne
  have hla := List.findIdx_le_length (p := okA n f) (xs := l)
  have hlb := List.findIdx_le_length (p := okA n (more n f link)) (xs := l)
  have ap : ∀ i (hi : i < l.length), sbits_Apply k l[i].mod h = some (applyH l[i].mod h) := fun i hi => bits_ApplyH (hm _ (List.getElem_mem hi)) hh (by simp only [big] at hk; omega)
  have x1 := sendOne_lt (n := n) (f := f) (l := l) h
  have x2 := sendOne_end (n := n) (f := f) (l := l) h
  have y1 := sendOne_lt (n := n) (f := more n f link) (l := l) h
  have y2 := sendOne_end (n := n) (f := more n f link) (l := l) h
  generalize l.findIdx (okA n f) = a at *
  generalize l.findIdx (okA n (more n f link)) = b at *
  have one0 : ∀ x : Ar 10, ¬ (([x] : List (Ar 10)).length : Int) = 0 := fun x => by simp
  have one1 : ∀ x : Ar 10, (([x] : List (Ar 10)).length : Int) = 1 := fun x => by simp
  have one2 : ∀ x : Ar 10, ¬ 1 < (([x] : List (Ar 10)).length : Int) := fun x => by simp
  have nil0 : (([] : List (Ar 10)).length : Int) = 0 := rfl
  have nil1 : ¬ (([] : List (Ar 10)).length : Int) = 1 := by simp
  have nil2 : ¬ 1 < (([] : List (Ar 10)).length : Int) := by simp
  have g0 : ∀ x : Ar 10, gx [x] 0 = x := fun x => rfl
  have b01 : ∀ x : Ar 10, (0 : Int) ≤ 0 ∧ 0 < (([x] : List (Ar 10)).length : Int) := fun x => by simp
  by_cases ca : a < l.length
  · have xa := x1 ca
    by_cases cb : b < l.length
    · have yb := y1 cb
      rw [xa, yb, if_neg (by omega), if_neg (one0 _), if_neg (by omega), if_neg (one0 _), if_neg (by omega), if_neg (one2 _), Option.bind_some, if_neg (by simp), if_pos (one1 _), if_pos (b01 _), if_pos ⟨by omega, by omega⟩, gx_at ca, ap a ca, Option.bind_some, g0, if_pos rfl, if_pos (one1 _), if_pos (b01 _), if_pos ⟨by omega, by omega⟩, gx_at cb, ap b cb, Option.bind_some, g0, Option.bind_some, if_neg (by simp), if_pos (by omega), if_pos ⟨by omega, by omega⟩]
      by_cases cl : (l[a]).link = link
      · rw [if_neg (fun q => q cl)]
      · rw [if_pos cl, if_neg (by have := hsame ca cl; omega)]
    · have yb := y2 cb
      rw [xa, yb, if_neg (by omega), if_neg (one0 _), if_neg (by omega), if_pos nil0, if_pos (by omega), if_neg (one2 _), Option.bind_some, if_neg (by simp), if_pos (one1 _), if_pos (b01 _), if_pos ⟨by omega, by omega⟩, gx_at ca, ap a ca, Option.bind_some, g0, if_pos rfl, if_neg nil1, Option.bind_some, if_neg (by simp), if_pos (by omega), if_pos ⟨by omega, by omega⟩]
      by_cases cl : (l[a]).link = link
      · rw [if_neg (fun q => q cl)]
      · rw [if_pos cl, if_neg (by have := hsame ca cl; omega)]
  · have xa := x2 ca
    have yb := y2 (by omega)
    rw [xa, yb, if_neg (by omega), if_pos nil0, if_pos (by omega), if_pos nil0, if_pos (by omega), if_neg nil2, Option.bind_some, if_neg (by simp), if_neg nil1, if_neg nil1, Option.bind_some, if_neg (by simp), if_neg (by omega)]
theorem law_FailsOver (n : Net) (f : Failure) (link : Int) (r : Rule) (h : Ar 10) (hn : Held n) (hl : f.links.length < big) (hr : okRule r) : ∃ k, sl_TableFailsOver k n f link r h = some true := by
  refine ⟨big, ?_⟩
  generalize hk0 : big = k
  have hk : big ≤ k := Nat.le_of_eq hk0
  have hk10 : 10 < k := Nat.lt_of_lt_of_le (by decide) hk
  unfold sl_TableFailsOver
  rcases netOk hk n hn (some true) (some true) ((sr09_CheckFailure k n f).bind fun rCheckFailure => (if rCheckFailure ≠ 0 then some true else ((sr06_RightHead k h).bind fun rRightHead => (if rRightHead = true then ((sr25_Formed k n 1000 r).bind fun rFormed => (if rFormed = true then (if link < 0 then some true else some (decide ((n.links.length : Int) ≤ link))) else some true)) else some true)))) with e | e | ⟨e, hR⟩
  · rw [e]; rfl
  · rw [e]; rfl
  rw [e]
  obtain ⟨rf, hf, _⟩ := ChkF_spec hk n f hl
  rw [hf, Option.bind_some, r06_RightHead h hk10, Option.bind_some, r25_Formed n 1000 r hr hk, Option.bind_some]
  by_cases c1 : rf = 0
  · rw [if_neg (fun hq => hq c1)]
    cases hh : rightHead h with
    | false => rfl
    | true =>
      rw [if_pos rfl]
      cases hfm : formed n 1000 r with
      | false => rfl
      | true =>
        rw [if_pos rfl]
        by_cases c2 : link < 0
        · rw [if_pos c2]; rfl
        · rw [if_neg c2, Option.bind_some]
          by_cases c3 : (n.links.length : Int) ≤ link
          · rw [if_pos (by simp [c3])]
          · have hs := canSend_of hfm
            have hn24 : n.links.length ≤ 24 := hR.links
            rw [if_neg (by simp [c3]), downs_spec n f link hn24 hl hk, Option.bind_some, if_pos rfl]
            rw [loop_allr (L := sl_TableFailsOver_L2 k n f link r h (downs f link n.links.length, (downs f link n.links.length).length)) r.outs.length false (fun _ => true) hr.1 (fun m j hj => by rw [if_pos rfl]; exact round_ok hk n f link r h hn24 hl hs hh m j hj) (fun m => by rw [sl_TableFailsOver_L2, if_neg (by omega)]) (by have := hr.1; omega), Option.bind_some]
            simp
  · rw [if_pos c1]; rfl
end Go.Proofs.Ytjgbkegkcbcjaaa
namespace Go.Proofs.Ytjgbkegkcbcjaaa
open Go Go.RowKit
theorem heldW {n : Net} (h : wfNet n) : Held n := ⟨fun x hx => (h.1.2 x hx).1, fun x hx => (h.2.2.2 x hx).1⟩
theorem okRuleW {r : Rule} (h : wfRule r) : okRule r := ⟨h.2.2.2.1, fun l hl => (h.2.2.2.2 l hl).1⟩
theorem law3w (n : Net) (f : Failure) (link : Int) (r : Rule) (h : Ar 10) (wn : wfNet n) (wf : wfFailure f) (_ : inI link) (wr : wfRule r) (_ : ∀ y, y ∈ h.l → inI y) : ∃ k, sl_TableFailsOver k n f link r h = some true :=
  law_FailsOver n f link r h (heldW wn) wf.1.1 (okRuleW wr)
end Go.Proofs.Ytjgbkegkcbcjaaa
