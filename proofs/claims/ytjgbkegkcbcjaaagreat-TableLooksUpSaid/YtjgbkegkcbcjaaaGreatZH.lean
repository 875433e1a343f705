/- Part 8 of the proof of TableLooksUp (several texts in one; no further condition). -/
import Derived.Test.YtjgbkegkcbcjaaaGreatZE
import Derived.Test.YtjgbkegkcbcjaaaGreatZG
import Derived.Test.YtjgbkegkcbcjaaaGreatRows
set_option linter.unusedSimpArgs false
set_option linter.unusedVariables false
set_option linter.unusedSectionVars false
namespace Go.Proofs.YtjgbkegkcbcjaaaGreat
open Go Go.RowKit
noncomputable def axS : Axs := axAdd 12 (axVal (.bool true)) fun _ => none
theorem axS_ok : AxsOk Tryz.prog GG LL axS := (AxsOk.none its_ok).add (ax_val (L := LL) (ax := fun _ => none) funcs_ok (fn12 fun _ => none) rfl rfl sane_calls)
theorem axS_san : axS 12 = some (axVal (.bool true)) := axAdd_same _ _ _
theorem axS_plain : Plain axS := by
  refine ⟨fun f hf => axAdd_ne _ _ fun h => ?_, rfl, rfl, fun A β s vargs hT hv => ?_⟩
  · subst h; rw [Nat.beq_refl] at hf; cases hf
  · cases hv
    exact ⟨.bool true, s, A, β, callR_ax (k := axVal (.bool true)) axS_san rfl, hT, .bool true, Stp.refl⟩
theorem law_calls {f : FuncId} {fn : Func} {body : Code} (hfn : (EE axS).fn.at f = some fn) (hb : fn.body = some body) {args : List T} {vs : Array Value} {W : World} (h : RtL W args vs.toList) (hp : Pure Tryz.prog (EE axS) [] f args (.bool true)) :
    Calls Tryz.prog f vs W fun e W' => e = .returned (.bool true) ∧ Below W.heap.size W W' := by
  obtain ⟨A, xs, k⟩ := entL (N := W.heap.size) (G := GG) (K := []) rfl (fun p hp => by simp at hp) (fun g hg => by simp [has, GG] at hg) h []
  have e : ([] : List Seg) ++ A ++ [] = A := by simp
  have kr := k.vr []
  have kl := k.vl []
  have ka := k.at_ []
  rw [e] at kr kl ka
  obtain ⟨r1, r2, r3, r4⟩ := start_rel (G := GG) (N := W.heap.size) (K := []) (A := A) rfl (fun p hp => by simp at hp) (fun p hp => by simp at hp) (fun g hg => by simp [has, GG] at hg) ka
  have hT : TRel [] (Low W.heap.size) bx0 ts0 (St (W.heap.size + A.length) (famS W.heap.size [] A) 0 [] []) :=
    ⟨⟨_, rfl⟩, r2, fun f hf => by have : f < W.heap.size := hf; show f < W.heap.size + A.length; omega, fun f hf => absurd hf own_bx0, fun b b' l l' f hb => by simp [bx0] at hb, fun b _ => rfl, fun b z N l hb => by simp [ts0] at hb, fun b l hb => by simp [ts0] at hb, fun x hx => by simp at hx⟩
  obtain ⟨v, s2, A', β', e1, e2, e3, e4⟩ := hp.2.2 _ _ _ xs hT kl
  cases e3
  refine (calls_of mixed funcs_ok axS_ok hfn hb (args' := vs) e1 kr r1 r4 r2 r3).mono ?_
  rintro e w' ⟨σ', v', rfl, k1, k2⟩
  exact ⟨by rw [plain_eq 3 rfl k1], k2⟩
end Go.Proofs.YtjgbkegkcbcjaaaGreat
namespace Go.Proofs.YtjgbkegkcbcjaaaGreat
open Go Go.RowKit
abbrev big : Nat := 9223372036854775808
theorem wr_succ (i : Nat) (h : i < 9223372036854775807) : IntKind.i64.wrap ((i : Int) + 1) = ((i + 1 : Nat) : Int) := by
  rw [wr64 (by omega)]; push_cast; rfl
theorem gx_nat {α : Type} [Inhabited α] (l : List α) (i : Nat) : gx l (i : Int) = l.getD i default := rfl
theorem gx_at {α : Type} [Inhabited α] {l : List α} {i : Nat} (h : i < l.length) : gx l (i : Int) = l[i] := by
  rw [gx_nat, List.getD_eq_getElem?_getD, List.getElem?_eq_getElem h]; rfl
section
variable {α β σ : Type}
def sumO (o : Option β) : β ⊕ Unit := match o with | some b => .inl b | none => .inr ()
theorem loop_range {L : Nat → Int → Option (β ⊕ Unit)} (n : Nat) (c : Nat → Option β) (hn : n < big) (hs : ∀ m (j : Nat), j < n → L (m + 1) (j : Int) = match c j with | some b => some (.inl b) | none => L m (IntKind.i64.wrap ((j : Int) + 1)))
    (he : ∀ m, L (m + 1) (n : Int) = some (.inr ())) {k : Nat} (hk : n < k) : L k 0 = some (sumO ((List.range n).findSome? c)) := by
  have key : ∀ m j, j ≤ n → n - j < m → L m (j : Int) = some (sumO ((List.range' j (n - j)).findSome? c)) := by
    intro m
    induction m with
    | zero => intro j h1 h2; omega
    | succ m ih =>
      intro j h1 h2
      by_cases hj : j < n
      · rw [hs m j hj, show n - j = (n - (j + 1)) + 1 by omega, List.range'_succ, List.findSome?_cons]
        cases hc : c j with
        | some b => rfl
        | none =>
          simp only
          rw [wr_succ j (by simp only [big] at hn; omega)]
          exact ih (j + 1) (by omega) (by omega)
      · obtain rfl : j = n := by omega
        rw [he, Nat.sub_self]
        rfl
  have := key k 0 (Nat.zero_le _) (by omega)
  rw [List.range_eq_range']
  exact this
theorem findSome_map {c : Nat → Option β} {d : α → Option β} : ∀ (l : List α) (s : Nat), (∀ j (h : j < l.length), c (s + j) = d l[j]) → (List.range' s l.length).findSome? c = l.findSome? d
  | [], s, _ => rfl
  | x :: l, s, h => by
    rw [List.length_cons, List.range'_succ, List.findSome?_cons, List.findSome?_cons]
    have h0 := h 0 (by simp)
    rw [Nat.add_zero] at h0
    rw [h0]
    simp only [List.getElem_cons_zero]
    rw [findSome_map l (s + 1) fun j hj => by have := h (j + 1) (by simpa using hj); rw [show s + (j + 1) = s + 1 + j by omega] at this; simpa using this]
theorem loop_list {L : Nat → Int → Option (β ⊕ Unit)} (l : List α) (c : α → Option β) (hn : l.length < big) (hs : ∀ m (j : Nat) (h : j < l.length), L (m + 1) (j : Int) = match c l[j] with | some b => some (.inl b) | none => L m (IntKind.i64.wrap ((j : Int) + 1)))
    (he : ∀ m, L (m + 1) (l.length : Int) = some (.inr ())) {k : Nat} (hk : l.length < k) : L k 0 = some (sumO (l.findSome? c)) := by
  rw [loop_range l.length (fun j => if h : j < l.length then c l[j] else none) hn (fun m j h => by rw [hs m j h, dif_pos h]) he hk, List.range_eq_range']
  rw [findSome_map l 0 fun j h => by rw [Nat.zero_add, dif_pos h]]
theorem findSome_all {c : α → Option β} {b : β} {q : α → Bool} : ∀ (l : List α), (∀ x, x ∈ l → c x = if q x = true then none else some b) → l.findSome? c = if l.all q = true then none else some b
  | [], _ => rfl
  | x :: l, h => by
    rw [List.findSome?_cons, h x (.head _), List.all_cons]
    cases hq : q x with
    | true => simp only [if_true, Bool.true_and]; exact findSome_all l fun y hy => h y (.tail _ hy)
    | false => rfl
theorem loop_all {L : Nat → Int → Option (β ⊕ Unit)} (l : List α) (b : β) (q : α → Bool) (hn : l.length < big) (hs : ∀ m (j : Nat) (h : j < l.length), L (m + 1) (j : Int) = if q l[j] = true then L m (IntKind.i64.wrap ((j : Int) + 1)) else some (.inl b))
    (he : ∀ m, L (m + 1) (l.length : Int) = some (.inr ())) {k : Nat} (hk : l.length < k) : L k 0 = some (if l.all q = true then .inr () else .inl b) := by
  rw [loop_list l (fun x => if q x = true then none else some b) hn (fun m j h => by rw [hs m j h]; cases q l[j] <;> rfl) he hk, findSome_all l fun _ _ => rfl]
  cases l.all q <;> rfl
theorem loop_allr {L : Nat → Int → Option (β ⊕ Unit)} (n : Nat) (b : β) (q : Nat → Bool) (hn : n < big) (hs : ∀ m (j : Nat), j < n → L (m + 1) (j : Int) = if q j = true then L m (IntKind.i64.wrap ((j : Int) + 1)) else some (.inl b))
    (he : ∀ m, L (m + 1) (n : Int) = some (.inr ())) {k : Nat} (hk : n < k) : L k 0 = some (if (List.range n).all q = true then .inr () else .inl b) := by
  rw [loop_range n (fun x => if q x = true then none else some b) hn (fun m j h => by rw [hs m j h]; cases q j <;> rfl) he hk, findSome_all _ fun _ _ => rfl]
  cases (List.range n).all q <;> rfl
theorem loop_fold {L : Nat → Int → σ → Option σ} (n : Nat) (f : σ → Nat → σ) (I : Nat → σ → Prop) (hn : n < big) (hs : ∀ m (j : Nat) s, j < n → I j s → L (m + 1) (j : Int) s = L m (IntKind.i64.wrap ((j : Int) + 1)) (f s j) ∧ I (j + 1) (f s j))
    (he : ∀ m s, I n s → L (m + 1) (n : Int) s = some s) {k : Nat} (hk : n < k) {s : σ} (h0 : I 0 s) : L k 0 s = some ((List.range n).foldl f s) ∧ I n ((List.range n).foldl f s) := by
  have key : ∀ m j s, j ≤ n → n - j < m → I j s → L m (j : Int) s = some ((List.range' j (n - j)).foldl f s) ∧ I n ((List.range' j (n - j)).foldl f s) := by
    intro m
    induction m with
    | zero => intro j s h1 h2; omega
    | succ m ih =>
      intro j s h1 h2 hI
      by_cases hj : j < n
      · obtain ⟨a, b⟩ := hs m j s hj hI
        rw [a, show n - j = (n - (j + 1)) + 1 by omega, List.range'_succ, List.foldl_cons, wr_succ j (by simp only [big] at hn; omega)]
        exact ih (j + 1) _ (by omega) (by omega) b
      · obtain rfl : j = n := by omega
        rw [he m s hI, Nat.sub_self]
        exact ⟨rfl, hI⟩
  have := key k 0 s (Nat.zero_le _) (by omega) h0
  rw [List.range_eq_range']
  exact this
theorem all_getElem {l : List α} {q : α → Bool} : l.all q = true ↔ ∀ j (h : j < l.length), q l[j] = true := by
  rw [List.all_eq_true]
  exact ⟨fun h j hj => h _ (List.getElem_mem hj), fun h x hx => by obtain ⟨j, hj, rfl⟩ := List.getElem_of_mem hx; exact h j hj⟩
def idxB (q : α → Bool) (l : List α) : Int := match l.findIdx? q with | some i => (i : Int) | none => -1
theorem idxB_any (q : α → Bool) (l : List α) : decide (0 ≤ idxB q l) = l.any q := by
  unfold idxB
  cases h : l.findIdx? q with
  | none =>
    have := List.findIdx?_eq_none_iff.1 h
    have e : l.any q = false := by rw [List.any_eq_false]; intro x hx; simp [this x hx]
    rw [e]; rfl
  | some i =>
    have := List.findIdx?_isSome (xs := l) (p := q)
    rw [h] at this
    rw [← this]
    simp
theorem index_loop {L : Nat → Int → Option (Int ⊕ Unit)} (l : List α) (q : α → Bool) (hn : l.length < big) (hs : ∀ m (j : Nat) (h : j < l.length), L (m + 1) (j : Int) = if q l[j] = true then some (.inl (j : Int)) else L m (IntKind.i64.wrap ((j : Int) + 1)))
    (he : ∀ m, L (m + 1) (l.length : Int) = some (.inr ())) {k : Nat} (hk : l.length < k) : (L k 0).bind (fun o => Sum.elim (fun r => some r) (fun _ => some (-1)) o) = some (idxB q l) := by
  have h := loop_range (L := L) l.length (fun (j : Nat) => if (l[j]?).any q = true then some (j : Int) else none) hn (fun m j h => by
    rw [hs m j h, List.getElem?_eq_getElem h]
    rw [Option.any_some]
    cases q l[j] <;> rfl) he hk
  rw [h, Option.bind_some, List.range_eq_range']
  have key : ∀ (l2 pre : List α), (List.range' pre.length l2.length).findSome? (fun (j : Nat) => if ((pre ++ l2)[j]?).any q = true then some (j : Int) else none) = (l2.findIdx? q).map fun i => ((pre.length + i : Nat) : Int) := by
    intro l2
    induction l2 with
    | nil => intro pre; rfl
    | cons x l2 ih =>
      intro pre
      rw [List.length_cons, List.range'_succ, List.findSome?_cons, List.findIdx?_cons]
      have e0 : (pre ++ x :: l2)[pre.length]? = some x := by rw [List.getElem?_append_right (Nat.le_refl _), Nat.sub_self]; rfl
      rw [e0]
      rw [Option.any_some]
      cases hq : q x with
      | true => simp
      | false =>
        simp only [Bool.false_eq_true, if_false]
        have := ih (pre ++ [x])
        rw [List.length_append, List.length_singleton, List.append_assoc, List.singleton_append] at this
        rw [this]
        cases l2.findIdx? q with
        | none => rfl
        | some i => simp; omega
  have := key l []
  simp only [List.length_nil, List.nil_append, Nat.zero_add] at this
  rw [this]
  unfold idxB
  cases l.findIdx? q <;> rfl
end
/-! words -/
theorem iAnd_nat {a b : Nat} (ha : a < 9223372036854775808) (hb : b < 9223372036854775808) : iAnd .i64 (a : Int) (b : Int) = ((a &&& b : Nat) : Int) := by
  have h : a &&& b ≤ a := Nat.and_le_left
  show IntKind.i64.wrap ((BitVec.ofInt 64 (a : Int) &&& BitVec.ofInt 64 (b : Int)).toNat : Int) = _
  rw [BitVec.toNat_and, BitVec.toNat_ofInt, BitVec.toNat_ofInt]
  rw [show ((a : Int) % ((2 ^ 64 : Nat) : Int)).toNat = a by omega, show ((b : Int) % ((2 ^ 64 : Nat) : Int)).toNat = b by omega]
  exact wr64 (by omega)
theorem iXor_nat {a b : Nat} (ha : a < 9223372036854775808) (hb : b < 9223372036854775808) : iXor .i64 (a : Int) (b : Int) = ((a ^^^ b : Nat) : Int) := by
  have h : a ^^^ b < 2 ^ 63 := Nat.xor_lt_two_pow (by omega) (by omega)
  show IntKind.i64.wrap ((BitVec.ofInt 64 (a : Int) ^^^ BitVec.ofInt 64 (b : Int)).toNat : Int) = _
  rw [BitVec.toNat_xor, BitVec.toNat_ofInt, BitVec.toNat_ofInt]
  rw [show ((a : Int) % ((2 ^ 64 : Nat) : Int)).toNat = a by omega, show ((b : Int) % ((2 ^ 64 : Nat) : Int)).toNat = b by omega]
  exact wr64 (by omega)
theorem iOr_nat {a b : Nat} (ha : a < 9223372036854775808) (hb : b < 9223372036854775808) : iOr .i64 (a : Int) (b : Int) = ((a ||| b : Nat) : Int) := by
  have h : a ||| b < 2 ^ 63 := Nat.or_lt_two_pow (by omega) (by omega)
  show IntKind.i64.wrap ((BitVec.ofInt 64 (a : Int) ||| BitVec.ofInt 64 (b : Int)).toNat : Int) = _
  rw [BitVec.toNat_or, BitVec.toNat_ofInt, BitVec.toNat_ofInt]
  rw [show ((a : Int) % ((2 ^ 64 : Nat) : Int)).toNat = a by omega, show ((b : Int) % ((2 ^ 64 : Nat) : Int)).toNat = b by omega]
  exact wr64 (by omega)
theorem iAndN_nat {a b : Nat} (ha : a < 9223372036854775808) (hb : b < 9223372036854775808) : iAndN .i64 (a : Int) (b : Int) = ((a - (a &&& b) : Nat) : Int) := andNot_i64 ha hb
end Go.Proofs.YtjgbkegkcbcjaaaGreat
namespace Go.Proofs.YtjgbkegkcbcjaaaGreat
open Go Go.RowKit
theorem own : ownKnob Tryz.prog.godebug = none := by kernel_rfl
theorem laidOut : laidOutB Tryz.prog = true := by kernel_rfl
def inI (x : Int) : Prop := -9223372036854775808 ≤ x ∧ x ≤ 9223372036854775807
theorem wf_i64 {x : Int} (h : (Lit.int .i64 x).wf = true) : inI x := by
  simp only [Lit.wf, decide_eq_true_eq, IntKind.wrap, IntKind.bits, IntKind.signed] at h
  simp at h
  have e1 : IntKind.i64.min = -9223372036854775808 := by decide
  have e2 : IntKind.i64.max = 9223372036854775807 := by decide
  unfold inI
  omega
theorem cf_i {t : T} (h : conf (.int .i64) t) : ∃ n, t = .int .i64 n ∧ inI n := by
  obtain ⟨n, rfl, hw⟩ := h
  exact ⟨n, rfl, wf_i64 hw⟩
theorem cf_bool {t : T} (h : conf .bool t) : ∃ b, t = .bool b ∧ True := by
  obtain ⟨b, rfl⟩ := h
  exact ⟨b, rfl, trivial⟩
theorem cf_str {t : T} (h : conf .str t) : ∃ s, t = .str s ∧ s.size < big := by
  obtain ⟨s, rfl, hs⟩ := h
  have hm : maxLen < big := by decide
  exact ⟨s, rfl, by omega⟩
theorem cf_arr {n : Nat} {t : T} (h : conf (.arr .i64 n) t) : ∃ a : Ar n, t = .agg (a.l.map (T.int .i64)) ∧ ∀ y, y ∈ a.l → inI y := by
  obtain ⟨a, rfl, hw⟩ := h
  exact ⟨a, rfl, fun y hy => wf_i64 (hw y hy)⟩
theorem cf_slice {α : Type} {f : α → T} {sh : Sh} {p : α → Prop} (hf : ∀ t, conf sh t → ∃ x, t = f x ∧ p x) {t : T} (h : conf (.slice sh) t) : ∃ l : List α, t = .lst sh.sz (l.map f) ∧ (l.length < big ∧ ∀ x, x ∈ l → p x) := by
  obtain ⟨l, rfl, hl, hall⟩ := h
  have hm : maxLen < big := by decide
  have key : ∀ l : List T, (∀ x, x ∈ l → conf sh x) → ∃ m : List α, l = m.map f ∧ ∀ x, x ∈ m → p x := by
    intro l
    induction l with
    | nil => intro _; exact ⟨[], rfl, fun x hx => by simp at hx⟩
    | cons t l ih =>
      intro hc
      obtain ⟨x, rfl, hp⟩ := hf t (hc t (by simp))
      obtain ⟨m, rfl, hm⟩ := ih fun y hy => hc y (by simp [hy])
      refine ⟨x :: m, rfl, fun y hy => ?_⟩
      rcases List.mem_cons.1 hy with rfl | hy
      · exact hp
      · exact hm y hy
  obtain ⟨m, rfl, hp⟩ := key l hall
  rw [List.length_map] at hl
  exact ⟨m, rfl, by omega, hp⟩
def shPat : Sh := .struct [(.arr .i64 10), (.arr .i64 10)]
def wfPat (x : Pat) : Prop := (∀ y, y ∈ x.mask.l → inI y) ∧ (∀ y, y ∈ x.bits.l → inI y)
theorem cf_Pat {t : T} (h : conf shPat t) : ∃ x : Pat, t = ePat x ∧ wfPat x := by
  obtain ⟨cs, rfl, x0, r0, rfl, h0, x1, r1, rfl, h1, rfl⟩ := h
  obtain ⟨a0, rfl, q0⟩ := cf_arr h0
  obtain ⟨a1, rfl, q1⟩ := cf_arr h1
  exact ⟨⟨a0, a1⟩, by first | (simp only [ePat, T.cells, Sh.sz, Sh.szL, shPat, List.append_nil, List.cons_append, List.nil_append, List.append_assoc, Nat.add_zero, Nat.reduceAdd]; done) | (simp only [ePat, T.cells, Sh.sz, Sh.szL, shPat, List.append_nil, List.cons_append, List.nil_append, List.append_assoc, Nat.add_zero, Nat.reduceAdd]; rfl), q0, q1⟩
def shFailure : Sh := .struct [(.slice (.int .i64)), (.int .i64)]
def wfFailure (x : Failure) : Prop := (x.links.length < big ∧ ∀ y, y ∈ x.links → inI y) ∧ inI x.node
theorem cf_Failure {t : T} (h : conf shFailure t) : ∃ x : Failure, t = eFailure x ∧ wfFailure x := by
  obtain ⟨cs, rfl, x0, r0, rfl, h0, x1, r1, rfl, h1, rfl⟩ := h
  obtain ⟨a0, rfl, q0⟩ := cf_slice (fun _ hh => cf_i hh) h0
  obtain ⟨a1, rfl, q1⟩ := cf_i h1
  exact ⟨⟨a0, a1⟩, by first | (simp only [eFailure, ints, T.cells, Sh.sz, Sh.szL, shFailure, List.append_nil, List.cons_append, List.nil_append, List.append_assoc, Nat.add_zero, Nat.reduceAdd]; done) | (simp only [eFailure, ints, T.cells, Sh.sz, Sh.szL, shFailure, List.append_nil, List.cons_append, List.nil_append, List.append_assoc, Nat.add_zero, Nat.reduceAdd]; rfl), q0, q1⟩
def shNode : Sh := .struct [.str, .bool, (.int .i64), (.int .i64)]
def wfNode (x : Node) : Prop := x.name.size < big ∧ True ∧ inI x.rules ∧ inI x.entries
theorem cf_Node {t : T} (h : conf shNode t) : ∃ x : Node, t = eNode x ∧ wfNode x := by
  obtain ⟨cs, rfl, x0, r0, rfl, h0, x1, r1, rfl, h1, x2, r2, rfl, h2, x3, r3, rfl, h3, rfl⟩ := h
  obtain ⟨a0, rfl, q0⟩ := cf_str h0
  obtain ⟨a1, rfl, q1⟩ := cf_bool h1
  obtain ⟨a2, rfl, q2⟩ := cf_i h2
  obtain ⟨a3, rfl, q3⟩ := cf_i h3
  exact ⟨⟨a0, a1, a2, a3⟩, by first | (simp only [eNode, T.cells, Sh.sz, Sh.szL, shNode, List.append_nil, List.cons_append, List.nil_append, List.append_assoc, Nat.add_zero, Nat.reduceAdd]; done) | (simp only [eNode, T.cells, Sh.sz, Sh.szL, shNode, List.append_nil, List.cons_append, List.nil_append, List.append_assoc, Nat.add_zero, Nat.reduceAdd]; rfl), q0, q1, q2, q3⟩
def shLink : Sh := .struct [(.int .i64), (.int .i64), (.int .i64)]
def wfLink (x : Link) : Prop := inI x.frm ∧ inI x.to ∧ inI x.cap
theorem cf_Link {t : T} (h : conf shLink t) : ∃ x : Link, t = eLink x ∧ wfLink x := by
  obtain ⟨cs, rfl, x0, r0, rfl, h0, x1, r1, rfl, h1, x2, r2, rfl, h2, rfl⟩ := h
  obtain ⟨a0, rfl, q0⟩ := cf_i h0
  obtain ⟨a1, rfl, q1⟩ := cf_i h1
  obtain ⟨a2, rfl, q2⟩ := cf_i h2
  exact ⟨⟨a0, a1, a2⟩, by first | (simp only [eLink, T.cells, Sh.sz, Sh.szL, shLink, List.append_nil, List.cons_append, List.nil_append, List.append_assoc, Nat.add_zero, Nat.reduceAdd]; done) | (simp only [eLink, T.cells, Sh.sz, Sh.szL, shLink, List.append_nil, List.cons_append, List.nil_append, List.append_assoc, Nat.add_zero, Nat.reduceAdd]; rfl), q0, q1, q2⟩
def shEdge : Sh := .struct [.str, (.int .i64)]
def wfEdge (x : Edge) : Prop := x.name.size < big ∧ inI x.node
theorem cf_Edge {t : T} (h : conf shEdge t) : ∃ x : Edge, t = eEdge x ∧ wfEdge x := by
  obtain ⟨cs, rfl, x0, r0, rfl, h0, x1, r1, rfl, h1, rfl⟩ := h
  obtain ⟨a0, rfl, q0⟩ := cf_str h0
  obtain ⟨a1, rfl, q1⟩ := cf_i h1
  exact ⟨⟨a0, a1⟩, by first | (simp only [eEdge, T.cells, Sh.sz, Sh.szL, shEdge, List.append_nil, List.cons_append, List.nil_append, List.append_assoc, Nat.add_zero, Nat.reduceAdd]; done) | (simp only [eEdge, T.cells, Sh.sz, Sh.szL, shEdge, List.append_nil, List.cons_append, List.nil_append, List.append_assoc, Nat.add_zero, Nat.reduceAdd]; rfl), q0, q1⟩
def shNet : Sh := .struct [(.slice shNode), (.slice shLink), (.slice shEdge)]
def wfNet (x : Net) : Prop := (x.nodes.length < big ∧ ∀ y, y ∈ x.nodes → wfNode y) ∧ (x.links.length < big ∧ ∀ y, y ∈ x.links → wfLink y) ∧ (x.edges.length < big ∧ ∀ y, y ∈ x.edges → wfEdge y)
theorem cf_Net {t : T} (h : conf shNet t) : ∃ x : Net, t = eNet x ∧ wfNet x := by
  obtain ⟨cs, rfl, x0, r0, rfl, h0, x1, r1, rfl, h1, x2, r2, rfl, h2, rfl⟩ := h
  obtain ⟨a0, rfl, q0⟩ := cf_slice (fun _ hh => cf_Node hh) h0
  obtain ⟨a1, rfl, q1⟩ := cf_slice (fun _ hh => cf_Link hh) h1
  obtain ⟨a2, rfl, q2⟩ := cf_slice (fun _ hh => cf_Edge hh) h2
  exact ⟨⟨a0, a1, a2⟩, by first | (simp only [eNet, lNode, eNode, lLink, eLink, lEdge, eEdge, T.cells, Sh.sz, Sh.szL, shNet, shNode, shLink, shEdge, List.append_nil, List.cons_append, List.nil_append, List.append_assoc, Nat.add_zero, Nat.reduceAdd]; done) | (simp only [eNet, lNode, eNode, lLink, eLink, lEdge, eEdge, T.cells, Sh.sz, Sh.szL, shNet, shNode, shLink, shEdge, List.append_nil, List.cons_append, List.nil_append, List.append_assoc, Nat.add_zero, Nat.reduceAdd]; rfl), q0, q1, q2⟩
def shAlt : Sh := .struct [(.int .i64), shPat]
def wfAlt (x : Alt) : Prop := inI x.link ∧ wfPat x.mod
theorem cf_Alt {t : T} (h : conf shAlt t) : ∃ x : Alt, t = eAlt x ∧ wfAlt x := by
  obtain ⟨cs, rfl, x0, r0, rfl, h0, x1, r1, rfl, h1, rfl⟩ := h
  obtain ⟨a0, rfl, q0⟩ := cf_i h0
  obtain ⟨a1, rfl, q1⟩ := cf_Pat h1
  exact ⟨⟨a0, a1⟩, by first | (simp only [eAlt, ePat, T.cells, Sh.sz, Sh.szL, shAlt, shPat, List.append_nil, List.cons_append, List.nil_append, List.append_assoc, Nat.add_zero, Nat.reduceAdd]; done) | (simp only [eAlt, ePat, T.cells, Sh.sz, Sh.szL, shAlt, shPat, List.append_nil, List.cons_append, List.nil_append, List.append_assoc, Nat.add_zero, Nat.reduceAdd]; rfl), q0, q1⟩
def shRule : Sh := .struct [(.int .i64), shPat, (.int .i64), (.slice (.slice shAlt))]
def wfRule (x : Rule) : Prop := inI x.prio ∧ wfPat x.mat ∧ inI x.step ∧ (x.outs.length < big ∧ ∀ y, y ∈ x.outs → (y.length < big ∧ ∀ y', y' ∈ y → wfAlt y'))
theorem cf_Rule {t : T} (h : conf shRule t) : ∃ x : Rule, t = eRule x ∧ wfRule x := by
  obtain ⟨cs, rfl, x0, r0, rfl, h0, x1, r1, rfl, h1, x2, r2, rfl, h2, x3, r3, rfl, h3, rfl⟩ := h
  obtain ⟨a0, rfl, q0⟩ := cf_i h0
  obtain ⟨a1, rfl, q1⟩ := cf_Pat h1
  obtain ⟨a2, rfl, q2⟩ := cf_i h2
  obtain ⟨a3, rfl, q3⟩ := cf_slice (fun _ hh => cf_slice (fun _ hh => cf_Alt hh) hh) h3
  exact ⟨⟨a0, a1, a2, a3⟩, by first | (simp only [eRule, ePat, lLAlt, lAlt, eAlt, T.cells, Sh.sz, Sh.szL, shRule, shPat, shAlt, List.append_nil, List.cons_append, List.nil_append, List.append_assoc, Nat.add_zero, Nat.reduceAdd]; done) | (simp only [eRule, ePat, lLAlt, lAlt, eAlt, T.cells, Sh.sz, Sh.szL, shRule, shPat, shAlt, List.append_nil, List.cons_append, List.nil_append, List.append_assoc, Nat.add_zero, Nat.reduceAdd]; rfl), q0, q1, q2, q3⟩
end Go.Proofs.YtjgbkegkcbcjaaaGreat
namespace Go.Proofs.YtjgbkegkcbcjaaaGreat
open Go Go.RowKit
set_option maxRecDepth 100000
def sr06_RightHead_L0 (k : Nat) (h_ : Ar 10) : Nat → Int → Option (Bool ⊕ Unit)
 | 0, _ => none
 | m + 1, i => (if i < 10 then (if (0 : Int) ≤ i ∧ i < (10 : Int) then (if (gx h_.l i) < 0 then some (.inl false) else (if 65535 < (gx h_.l i) then some (.inl false) else sr06_RightHead_L0 k h_ m (IntKind.i64.wrap (i + 1)))) else none) else some (.inr ()))
def sr06_RightHead (k : Nat) (h_ : Ar 10) : Option Bool := ((sr06_RightHead_L0 k h_ k 0 : Option (Bool ⊕ Unit)).bind fun o => Sum.elim (fun r => some r) (fun s_ => some true) o)
set_option maxHeartbeats 8000000 in
theorem sr06_RightHead_ok (ax : Axs) (hx : Plain ax) (k : Nat) (h_ : Ar 10) (v : Bool) (H : sr06_RightHead k h_ = some v) : Pure Tryz.prog (EE ax) [] 22 [.agg (h_.l.map (T.int .i64))] (.bool v) := by
 rw [sr06_RightHead] at H
 refine en [.tmp 2] 18 [0] (hx.no _ (by decide)) (fn22 ax) ?_
 intro h hh
 repeat apply TW.seq
 refine rk [1] [] hh ?_
 clear hh h
 intro h hh
 repeat apply TW.seq
 refine rk [1, 3] [] hh ?_
 clear hh h
 intro h hh
 obtain ⟨o, H1, H⟩ := bsome H
 repeat apply TW.seq
 refine cu [] 1 (fun h bs => ∃ s_ : Unit, o = .inr s_ ∧ (True) ∧ bs = [.cells true 10 (h_.l.map (T.int .i64))]) ?_ ?_
 ·skip
  repeat apply TW.seq
  apply TW.block
  repeat apply TW.seq
  refine TW.loopT [1, 3] (fun m h bs => ∃ (i : Int), sr06_RightHead_L0 k h_ m i = some o ∧ (h 1 = .ptr 0 0 10 ∧ h 3 = .int .i64 i) ∧ bs = [.cells true 10 (h_.l.map (T.int .i64))]) ?_ k _ _ ?_
  rotate_left
  ·exact ⟨0, H1, kq hh, rfl⟩
  clear hh h H1
  rintro m h bs ⟨i, H1, hh, rfl⟩
  rcases m with _ | m
  ·rw [sr06_RightHead_L0] at H1; cases H1
  rw [sr06_RightHead_L0] at H1
  repeat apply TW.seq
  refine rk [1, 3, 5] [] hh ?_
  clear hh h
  intro h hh
  rcases isp H1 with ⟨c1, H1⟩ | ⟨c1, H1⟩
  rotate_left
  ·skip
   repeat apply TW.seq
   refine cf (f2 hh (decide_eq_false c1)) ?_
   refine xk ?_
   cases H1
   exact ce hh ⟨_, rfl, kq hh, rfl⟩
  repeat apply TW.seq
  refine ct (f2 hh (decide_eq_true c1)) ?_
  repeat apply TW.seq
  refine sk ?_
  repeat apply TW.seq
  apply TW.block
  obtain ⟨g2, H1⟩ := isg H1
  rcases isp H1 with ⟨c3, H1⟩ | ⟨c3, H1⟩
  rotate_left
  ·skip
   repeat apply TW.seq
   refine rk [1, 3, 17] [] (f3 hh (decide_eq_false c3) (arIx h_ g2)) ?_
   clear hh h
   intro h hh
   rcases isp H1 with ⟨c4, H1⟩ | ⟨c4, H1⟩
   rotate_left
   ·skip
    repeat apply TW.seq
    refine cf (f2 hh (decide_eq_false c4)) ?_
    repeat apply TW.seq
    refine sk ?_
    repeat apply TW.seq
    refine rk [1, 3] [] hh ?_
    clear hh h
    intro h hh
    exact rd m hh ⟨(IntKind.i64.wrap (i + 1)), H1, kq hh, rfl⟩
   repeat apply TW.seq
   refine ct (f2 hh (decide_eq_true c4)) ?_
   repeat apply TW.seq
   refine rk [2] [] hh ?_
   clear hh h
   intro h hh
   cases H1
   obtain rfl := sinl H
   exact rt hh
  repeat apply TW.seq
  refine rk [1, 3, 17] [] (f3 hh (decide_eq_true c3) (arIx h_ g2)) ?_
  clear hh h
  intro h hh
  repeat apply TW.seq
  refine ct hh ?_
  repeat apply TW.seq
  refine rk [2] [] hh ?_
  clear hh h
  intro h hh
  cases H1
  obtain rfl := sinl H
  exact rt hh
 clear hh h
 rintro h bs ⟨s_, rfl, hh, rfl⟩
 replace H := sinr H
 repeat apply TW.seq
 refine rk [2] [] hh ?_
 clear hh h
 intro h hh
 cases H
 exact rt hh
def sr06_within_L0 (k : Nat) (b : Ar 10) (m_ : Ar 10) : Nat → Int → Option (Bool ⊕ Unit)
 | 0, _ => none
 | m + 1, i => (if i < 10 then (if (0 : Int) ≤ i ∧ i < (10 : Int) then (if (iAnd .i64 (gx b.l i) (gx m_.l i)) ≠ (gx b.l i) then some (.inl false) else sr06_within_L0 k b m_ m (IntKind.i64.wrap (i + 1))) else none) else some (.inr ()))
def sr06_within (k : Nat) (b : Ar 10) (m_ : Ar 10) : Option Bool := ((sr06_within_L0 k b m_ k 0 : Option (Bool ⊕ Unit)).bind fun o => Sum.elim (fun r => some r) (fun s_ => some true) o)
set_option maxHeartbeats 8000000 in
theorem sr06_within_ok (ax : Axs) (hx : Plain ax) (k : Nat) (b : Ar 10) (m_ : Ar 10) (v : Bool) (H : sr06_within k b m_ = some v) : Pure Tryz.prog (EE ax) [] 136 [.agg (b.l.map (T.int .i64)), .agg (m_.l.map (T.int .i64))] (.bool v) := by
 rw [sr06_within] at H
 refine en [.tmp 4] 21 [0, 1] (hx.no _ (by decide)) (fn136 ax) ?_
 intro h hh
 repeat apply TW.seq
 refine rk [2, 3] [] hh ?_
 clear hh h
 intro h hh
 repeat apply TW.seq
 refine rk [2, 3, 5] [] hh ?_
 clear hh h
 intro h hh
 obtain ⟨o, H1, H⟩ := bsome H
 repeat apply TW.seq
 refine cu [] 2 (fun h bs => ∃ s_ : Unit, o = .inr s_ ∧ (True) ∧ bs = [.cells true 10 (b.l.map (T.int .i64)), .cells true 10 (m_.l.map (T.int .i64))]) ?_ ?_
 ·skip
  repeat apply TW.seq
  apply TW.block
  repeat apply TW.seq
  refine TW.loopT [2, 3, 5] (fun m h bs => ∃ (i : Int), sr06_within_L0 k b m_ m i = some o ∧ (h 2 = .ptr 0 0 10 ∧ h 3 = .ptr 1 0 10 ∧ h 5 = .int .i64 i) ∧ bs = [.cells true 10 (b.l.map (T.int .i64)), .cells true 10 (m_.l.map (T.int .i64))]) ?_ k _ _ ?_
  rotate_left
  ·exact ⟨0, H1, kq hh, rfl⟩
  clear hh h H1
  rintro m h bs ⟨i, H1, hh, rfl⟩
  rcases m with _ | m
  ·rw [sr06_within_L0] at H1; cases H1
  rw [sr06_within_L0] at H1
  repeat apply TW.seq
  refine rk [2, 3, 5, 7] [] hh ?_
  clear hh h
  intro h hh
  rcases isp H1 with ⟨c1, H1⟩ | ⟨c1, H1⟩
  rotate_left
  ·skip
   repeat apply TW.seq
   refine cf (f2 hh (decide_eq_false c1)) ?_
   refine xk ?_
   cases H1
   exact ce hh ⟨_, rfl, kq hh, rfl⟩
  repeat apply TW.seq
  refine ct (f2 hh (decide_eq_true c1)) ?_
  repeat apply TW.seq
  refine sk ?_
  repeat apply TW.seq
  apply TW.block
  obtain ⟨g2, H1⟩ := isg H1
  repeat apply TW.seq
  refine dk 10 [2, 3, 5, 20] [] [] [] (f3 hh (arIx b g2) (arIx m_ g2)) trivial trivial ?_
  clear hh h
  intro h hh
  rcases isp H1 with ⟨c3, H1⟩ | ⟨c3, H1⟩
  rotate_left
  ·skip
   repeat apply TW.seq
   refine cf (f2 hh (decide_eq_false c3)) ?_
   repeat apply TW.seq
   refine sk ?_
   repeat apply TW.seq
   refine rk [2, 3, 5] [] hh ?_
   clear hh h
   intro h hh
   exact rd m hh ⟨(IntKind.i64.wrap (i + 1)), H1, kq hh, rfl⟩
  repeat apply TW.seq
  refine ct (f2 hh (decide_eq_true c3)) ?_
  repeat apply TW.seq
  refine rk [4] [] hh ?_
  clear hh h
  intro h hh
  cases H1
  obtain rfl := sinl H
  exact rt hh
 clear hh h
 rintro h bs ⟨s_, rfl, hh, rfl⟩
 replace H := sinr H
 repeat apply TW.seq
 refine rk [4] [] hh ?_
 clear hh h
 intro h hh
 cases H
 exact rt hh
def sr06_Right (k : Nat) (p : Pat) : Option Bool := ((sr06_RightHead k p.mask).bind fun rRightHead => ((sr06_RightHead k p.bits).bind fun rRightHead2 => (if rRightHead = true then (if rRightHead2 = true then ((sr06_within k p.bits p.mask).bind fun rwithin => some rwithin) else some false) else some false)))
set_option maxHeartbeats 8000000 in
theorem sr06_Right_ok (ax : Axs) (hx : Plain ax) (k : Nat) (p : Pat) (v : Bool) (H : sr06_Right k p = some v) : Pure Tryz.prog (EE ax) [] 108 [ePat p] (.bool v) := by
 rw [sr06_Right] at H
 refine en [.tmp 2] 22 [0] (hx.no _ (by decide)) (fn108 ax) ?_
 intro h hh
 repeat apply TW.seq
 refine rk [1] [] hh ?_
 clear hh h
 intro h hh
 obtain ⟨rRightHead, e1, H⟩ := bsome H
 repeat apply TW.seq
 refine rkc [1, 3] [] [(.bool rRightHead, stL [.cells true 20 (p.mask.l.map (T.int .i64) ++ (p.bits.l.map (T.int .i64)))])] hh ?_ ?_
 ·exact ⟨Call0.call ((sr06_RightHead_ok ax hx k p.mask rRightHead e1 ).call _), trivial⟩
 clear hh h
 intro h hh
 obtain ⟨rRightHead2, e2, H⟩ := bsome H
 repeat apply TW.seq
 refine rkc [1, 3, 4] [] [(.bool rRightHead2, stL [.cells true 20 (p.mask.l.map (T.int .i64) ++ (p.bits.l.map (T.int .i64)))])] hh ?_ ?_
 ·exact ⟨Call0.call ((sr06_RightHead_ok ax hx k p.bits rRightHead2 e2 ).call _), trivial⟩
 clear hh h
 intro h hh
 rcases isb H with ⟨c3, H⟩ | ⟨c3, H⟩
 rotate_left
 ·skip
  repeat apply TW.seq
  refine rk [2] [] (f2 hh c3) ?_
  clear hh h
  intro h hh
  cases H
  exact rt hh
 rcases isb H with ⟨c4, H⟩ | ⟨c4, H⟩
 rotate_left
 ·skip
  repeat apply TW.seq
  refine rk [2] [] (f3 hh c3 c4) ?_
  clear hh h
  intro h hh
  cases H
  exact rt hh
 obtain ⟨rwithin, e5, H⟩ := bsome H
 repeat apply TW.seq
 refine rkc [2] [] [(.bool rwithin, stL [.cells true 20 (p.mask.l.map (T.int .i64) ++ (p.bits.l.map (T.int .i64)))])] (f3 hh c3 c4) ?_ ?_
 ·exact ⟨Call0.call (Pure.clr (sr06_within_ok ax hx k p.bits p.mask rwithin e5 ) (by first | rfl | simp only [c3, c4])), trivial⟩
 clear hh h
 intro h hh
 cases H
 exact rt hh
def sr06_RightMod (k : Nat) (m_ : Pat) : Option Bool := ((sr06_Right k (⟨m_.mask, m_.bits⟩ : Pat)).bind fun rRight => some rRight)
set_option maxHeartbeats 8000000 in
theorem sr06_RightMod_ok (ax : Axs) (hx : Plain ax) (k : Nat) (m_ : Pat) (v : Bool) (H : sr06_RightMod k m_ = some v) : Pure Tryz.prog (EE ax) [] 109 [ePat m_] (.bool v) := by
 rw [sr06_RightMod] at H
 refine en [.tmp 2] 9 [0] (hx.no _ (by decide)) (fn109 ax) ?_
 intro h hh
 repeat apply TW.seq
 refine rk [1] [] hh ?_
 clear hh h
 intro h hh
 obtain ⟨rRight, e1, H⟩ := bsome H
 repeat apply TW.seq
 refine rkc [2] [] [(.bool rRight, stL [.cells true 20 (m_.mask.l.map (T.int .i64) ++ (m_.bits.l.map (T.int .i64)))])] hh ?_ ?_
 ·exact ⟨Call0.call ((sr06_Right_ok ax hx k (⟨m_.mask, m_.bits⟩ : Pat) rRight e1 ).call _), trivial⟩
 clear hh h
 intro h hh
 cases H
 exact rt hh
end Go.Proofs.YtjgbkegkcbcjaaaGreat
namespace Go.Proofs.YtjgbkegkcbcjaaaGreat
open Go Go.RowKit
set_option maxRecDepth 100000
def sslices_IndexFunc_Alt_L0 (k : Nat) (s_ : List Alt) (f_ : Alt → Option Bool) : Nat → Int → Option (Int ⊕ Unit)
 | 0, _ => none
 | m + 1, i => (if i < (s_.length : Int) then (if (0 : Int) ≤ i ∧ i < (s_.length : Int) then ((f_ (gx s_ i)).bind fun r => (if r = true then some (.inl i) else sslices_IndexFunc_Alt_L0 k s_ f_ m (IntKind.i64.wrap (i + 1)))) else none) else some (.inr ()))
def sslices_IndexFunc_Alt (k : Nat) (s_ : List Alt) (f_ : Alt → Option Bool) : Option Int := ((sslices_IndexFunc_Alt_L0 k s_ f_ k 0 : Option (Int ⊕ Unit)).bind fun o => Sum.elim (fun r => some r) (fun s_2 => some (-1)) o)
set_option maxHeartbeats 8000000 in
theorem sslices_IndexFunc_Alt_ok (ax : Axs) (hx : Plain ax) (k : Nat) (s_ : List Alt) (f_ : Alt → Option Bool) (v : Int) (H : sslices_IndexFunc_Alt k s_ f_ = some v) (f__f : Nat) (f__c : List T) (f__i : T.idsL 0 f__c = true) (f__h : ∀ (y0 : Alt) (w : Bool), f_ y0 = some w → Pure Tryz.prog (EE ax) [] f__f ([] ++ [eAlt y0] ++ f__c) (.bool w)) : Pure Tryz.prog (EE ax) [] 56 [lAlt s_, .fn f__f [] f__c] (.int .i64 v) := by
 rw [sslices_IndexFunc_Alt] at H
 refine en (ha := by simp only [ids2B, ids2C, idsA, idsB, f__i, Bool.and_self]) [.tmp 4] 19 [0, 1] (hx.no _ (by decide)) (fn56 ax) ?_
 intro h hh
 repeat apply TW.seq
 refine rk [0, 1] [] hh ?_
 clear hh h
 intro h hh
 repeat apply TW.seq
 refine rk [0, 1, 7, 8] [] hh ?_
 clear hh h
 intro h hh
 obtain ⟨o, H1, H⟩ := bsome H
 repeat apply TW.seq
 refine cu [] 0 (fun h bs => ∃ s_2 : Unit, o = .inr s_2 ∧ (True) ∧ bs = []) ?_ ?_
 ·skip
  repeat apply TW.seq
  apply TW.block
  repeat apply TW.seq
  refine TW.loopT [0, 1, 7, 8] (fun m h bs => ∃ (i : Int), sslices_IndexFunc_Alt_L0 k s_ f_ m i = some o ∧ (h 0 = lAlt s_ ∧ h 1 = .fn f__f [] f__c ∧ h 7 = .int .i64 (s_.length : Int) ∧ h 8 = .int .i64 i) ∧ bs = []) ?_ k _ _ ?_
  rotate_left
  ·exact ⟨0, H1, kq hh, rfl⟩
  clear hh h H1
  rintro m h bs ⟨i, H1, hh, rfl⟩
  rcases m with _ | m
  ·rw [sslices_IndexFunc_Alt_L0] at H1; cases H1
  rw [sslices_IndexFunc_Alt_L0] at H1
  repeat apply TW.seq
  refine rk [0, 1, 7, 8, 9] [] hh ?_
  clear hh h
  intro h hh
  rcases isp H1 with ⟨c1, H1⟩ | ⟨c1, H1⟩
  rotate_left
  ·skip
   repeat apply TW.seq
   refine cf (f2 hh (decide_eq_false c1)) ?_
   refine xk ?_
   cases H1
   exact ce (f2 hh ((fun m => idsL_more (Nat.zero_le m) f__i))) ⟨_, rfl, kq hh, rfl⟩
  repeat apply TW.seq
  refine ct (f2 hh (decide_eq_true c1)) ?_
  repeat apply TW.seq
  refine sk ?_
  repeat apply TW.seq
  apply TW.block
  repeat apply TW.seq
  refine rk [0, 1, 5, 7, 8] [] hh ?_
  clear hh h
  intro h hh
  obtain ⟨g2, H1⟩ := isg H1
  obtain ⟨r, e3, H1⟩ := bsome H1
  repeat apply TW.seq
  refine rkc [0, 1, 5, 7, 8, 16] [] [(.bool r, stL [])] (f2 hh (gx_some g2)) ?_ ?_
  ·exact ⟨Call0.call ((f__h (gx s_ i) r e3).call _), trivial⟩
  clear hh h
  intro h hh
  rcases isb H1 with ⟨c4, H1⟩ | ⟨c4, H1⟩
  rotate_left
  ·skip
   repeat apply TW.seq
   refine cf (f2 hh c4) ?_
   repeat apply TW.seq
   refine sk ?_
   repeat apply TW.seq
   refine rk [0, 1, 7, 8] [] (f2 hh c4) ?_
   clear hh h
   intro h hh
   exact rd m (f2 hh ((fun m => idsL_more (Nat.zero_le m) f__i))) ⟨(IntKind.i64.wrap (i + 1)), H1, kq hh, rfl⟩
  repeat apply TW.seq
  refine ct (f2 hh c4) ?_
  repeat apply TW.seq
  refine rk [4] [] (f2 hh c4) ?_
  clear hh h
  intro h hh
  cases H1
  obtain rfl := sinl H
  exact rt hh
 clear hh h
 rintro h bs ⟨s_2, rfl, hh, rfl⟩
 replace H := sinr H
 repeat apply TW.seq
 refine rk [4] [] hh ?_
 clear hh h
 intro h hh
 cases H
 exact rt hh
end Go.Proofs.YtjgbkegkcbcjaaaGreat
namespace Go.Proofs.YtjgbkegkcbcjaaaGreat
open Go Go.RowKit
set_option maxRecDepth 100000
def sr25_Formed_L1 (k : Nat) (n : Net) (r : Rule) (k_ : Int) : Nat → Int → Option (Bool ⊕ Unit)
 | 0, _ => none
 | m + 1, i => (if (0 : Int) ≤ k_ ∧ k_ < (r.outs.length : Int) then (if i < ((gx r.outs k_).length : Int) then (if (0 : Int) ≤ i ∧ i < ((gx r.outs k_).length : Int) then ((sr06_RightMod k ((gx (gx r.outs k_) i).mod)).bind fun rRightMod => (if ((gx (gx r.outs k_) i).link) < (-1) then some (.inl false) else (if (n.links.length : Int) ≤ ((gx (gx r.outs k_) i).link) then some (.inl false) else (if rRightMod = true then sr25_Formed_L1 k n r k_ m (IntKind.i64.wrap (i + 1)) else some (.inl false))))) else none) else some (.inr ())) else none)
def sr25_Formed_L0 (k : Nat) (n : Net) (r : Rule) : Nat → Int → Option (Bool ⊕ Unit)
 | 0, _ => none
 | m + 1, k_ => (if k_ < (r.outs.length : Int) then (((((if (0 : Int) ≤ k_ ∧ k_ < (r.outs.length : Int) then (if ((gx r.outs k_).length : Int) < 1 then some true else some (decide (8 < ((gx r.outs k_).length : Int)))) else none) : Option Bool).bind fun s_4 => (if s_4 = true then some (.inl false) else ((sr25_Formed_L1 k n r k_ k 0 : Option (Bool ⊕ Unit)).bind fun o => Sum.elim (fun r => some (.inl r)) (fun s_5 => some (.inr ())) o))) : Option (Bool ⊕ Unit)).bind fun o2 => Sum.elim (fun r => some (.inl r)) (fun s_3 => sr25_Formed_L0 k n r m (IntKind.i64.wrap (k_ + 1))) o2) else some (.inr ()))
def sr25_Formed (k : Nat) (n : Net) (steps : Int) (r : Rule) : Option Bool := ((sr06_Right k r.mat).bind fun rRight => (((if r.prio < 1 then some true else (if 65535 < r.prio then some true else (if rRight = true then (if r.step < (-1) then some true else (if steps ≤ r.step then some true else some (decide (16 < (r.outs.length : Int))))) else some true))) : Option Bool).bind fun s_ => (if s_ = true then some false else ((sr25_Formed_L0 k n r k 0 : Option (Bool ⊕ Unit)).bind fun o3 => Sum.elim (fun r => some r) (fun s_2 => some true) o3))))
set_option maxHeartbeats 8000000 in
theorem sr25_Formed_ok (ax : Axs) (hx : Plain ax) (k : Nat) (n : Net) (steps : Int) (r : Rule) (v : Bool) (H : sr25_Formed k n steps r = some v) : Pure Tryz.prog (EE ax) [] 52 [eNet n, .int .i64 steps, eRule r] (.bool v) := by
 rw [sr25_Formed] at H
 refine en [.tmp 6] 103 [0, 1, 2] (hx.no _ (by decide)) (fn52 ax) ?_
 intro h hh
 repeat apply TW.seq
 refine rk [1, 3, 5] [] hh ?_
 clear hh h
 intro h hh
 obtain ⟨rRight, e1, H⟩ := bsome H
 repeat apply TW.seq
 refine rkc [1, 3, 5, 7] [] [(.bool rRight, stL [.cells true 3 [lNode n.nodes, lLink n.links, lEdge n.edges], .cells true 23 (T.int .i64 r.prio :: (r.mat.mask.l.map (T.int .i64) ++ (r.mat.bits.l.map (T.int .i64) ++ [T.int .i64 r.step, lLAlt r.outs])))])] hh ?_ ?_
 ·exact ⟨Call0.call ((sr06_Right_ok ax hx k r.mat rRight e1 ).call _), trivial⟩
 clear hh h
 intro h hh
 obtain ⟨s_, H1, H⟩ := bsome H
 repeat apply TW.seq
 refine cu [3, 5, 43] 2 (fun h bs => (h 3 = .ptr 0 0 3 ∧ h 5 = .ptr 1 0 23 ∧ h 43 = .bool s_) ∧ bs = [.cells true 3 [lNode n.nodes, lLink n.links, lEdge n.edges], .cells true 23 (T.int .i64 r.prio :: (r.mat.mask.l.map (T.int .i64) ++ (r.mat.bits.l.map (T.int .i64) ++ [T.int .i64 r.step, lLAlt r.outs])))]) ?_ ?_
 ·skip
  rcases isp H1 with ⟨c2, H1⟩ | ⟨c2, H1⟩
  rotate_left
  ·skip
   rcases isp H1 with ⟨c3, H1⟩ | ⟨c3, H1⟩
   rotate_left
   ·skip
    rcases isb H1 with ⟨c4, H1⟩ | ⟨c4, H1⟩
    rotate_left
    ·skip
     repeat apply TW.seq
     refine rk [3, 5, 43] [] (f3 hh (decide_eq_false c2) (f2 (decide_eq_false c3) c4)) ?_
     clear hh h
     intro h hh
     cases H1
     exact ce hh ⟨kq hh, rfl⟩
    rcases isp H1 with ⟨c5, H1⟩ | ⟨c5, H1⟩
    rotate_left
    ·skip
     rcases isp H1 with ⟨c6, H1⟩ | ⟨c6, H1⟩
     rotate_left
     ·skip
      repeat apply TW.seq
      refine rk [3, 5, 43] [] (f3 hh (decide_eq_false c2) (f3 (decide_eq_false c3) c4 (f2 (decide_eq_false c5) (decide_eq_false c6)))) ?_
      clear hh h
      intro h hh
      cases H1
      exact ce hh ⟨kq hh, rfl⟩
     repeat apply TW.seq
     refine rk [3, 5, 43] [] (f3 hh (decide_eq_false c2) (f3 (decide_eq_false c3) c4 (f2 (decide_eq_false c5) (decide_eq_true c6)))) ?_
     clear hh h
     intro h hh
     cases H1
     exact ce hh ⟨kq hh, rfl⟩
    repeat apply TW.seq
    refine rk [3, 5, 43] [] (f3 hh (decide_eq_false c2) (f3 (decide_eq_false c3) c4 (decide_eq_true c5))) ?_
    clear hh h
    intro h hh
    cases H1
    exact ce hh ⟨kq hh, rfl⟩
   repeat apply TW.seq
   refine rk [3, 5, 43] [] (f3 hh (decide_eq_false c2) (decide_eq_true c3)) ?_
   clear hh h
   intro h hh
   cases H1
   exact ce hh ⟨kq hh, rfl⟩
  repeat apply TW.seq
  refine rk [3, 5, 43] [] (f2 hh (decide_eq_true c2)) ?_
  clear hh h
  intro h hh
  cases H1
  exact ce hh ⟨kq hh, rfl⟩
 clear hh h
 rintro h bs ⟨hh, rfl⟩
 rcases isb H with ⟨c7, H⟩ | ⟨c7, H⟩
 rotate_left
 ·skip
  repeat apply TW.seq
  refine cf (f2 hh c7) ?_
  repeat apply TW.seq
  refine sk ?_
  repeat apply TW.seq
  refine rk [3, 5, 8] [] (f2 hh c7) ?_
  clear hh h
  intro h hh
  obtain ⟨o3, H1, H⟩ := bsome H
  repeat apply TW.seq
  refine cu [] 2 (fun h bs => ∃ s_2 : Unit, o3 = .inr s_2 ∧ (True) ∧ bs = [.cells true 3 [lNode n.nodes, lLink n.links, lEdge n.edges], .cells true 23 (T.int .i64 r.prio :: (r.mat.mask.l.map (T.int .i64) ++ (r.mat.bits.l.map (T.int .i64) ++ [T.int .i64 r.step, lLAlt r.outs])))]) ?_ ?_
  ·skip
   repeat apply TW.seq
   apply TW.block
   repeat apply TW.seq
   refine TW.loopT [3, 5, 8] (fun m h bs => ∃ (k_ : Int), sr25_Formed_L0 k n r m k_ = some o3 ∧ (h 3 = .ptr 0 0 3 ∧ h 5 = .ptr 1 0 23 ∧ h 8 = .int .i64 k_) ∧ bs = [.cells true 3 [lNode n.nodes, lLink n.links, lEdge n.edges], .cells true 23 (T.int .i64 r.prio :: (r.mat.mask.l.map (T.int .i64) ++ (r.mat.bits.l.map (T.int .i64) ++ [T.int .i64 r.step, lLAlt r.outs])))]) ?_ k _ _ ?_
   rotate_left
   ·exact ⟨0, H1, kq hh, rfl⟩
   clear hh h H1
   rintro m h bs ⟨k_, H1, hh, rfl⟩
   rcases m with _ | m
   ·rw [sr25_Formed_L0] at H1; cases H1
   rw [sr25_Formed_L0] at H1
   repeat apply TW.seq
   refine rk [3, 5, 8, 48] [] (f2 hh c7) ?_
   clear hh h
   intro h hh
   rcases isp H1 with ⟨c8, H1⟩ | ⟨c8, H1⟩
   rotate_left
   ·skip
    repeat apply TW.seq
    refine cf (f2 hh (decide_eq_false c8)) ?_
    refine xk ?_
    cases H1
    exact ce hh ⟨_, rfl, kq hh, rfl⟩
   repeat apply TW.seq
   refine ct (f2 hh (decide_eq_true c8)) ?_
   repeat apply TW.seq
   refine sk ?_
   obtain ⟨o2, H2, H1⟩ := bsome H1
   repeat apply TW.seq
   refine cu [3, 5, 8] 2 (fun h bs => ∃ s_3 : Unit, o2 = .inr s_3 ∧ (h 3 = .ptr 0 0 3 ∧ h 5 = .ptr 1 0 23 ∧ h 8 = .int .i64 k_) ∧ bs = [.cells true 3 [lNode n.nodes, lLink n.links, lEdge n.edges], .cells true 23 (T.int .i64 r.prio :: (r.mat.mask.l.map (T.int .i64) ++ (r.mat.bits.l.map (T.int .i64) ++ [T.int .i64 r.step, lLAlt r.outs])))]) ?_ ?_
   ·skip
    repeat apply TW.seq
    apply TW.block
    obtain ⟨s_4, H3, H2⟩ := bsome H2
    repeat apply TW.seq
    refine cu [3, 5, 8, 66] 2 (fun h bs => (h 3 = .ptr 0 0 3 ∧ h 5 = .ptr 1 0 23 ∧ h 8 = .int .i64 k_ ∧ h 66 = .bool s_4) ∧ bs = [.cells true 3 [lNode n.nodes, lLink n.links, lEdge n.edges], .cells true 23 (T.int .i64 r.prio :: (r.mat.mask.l.map (T.int .i64) ++ (r.mat.bits.l.map (T.int .i64) ++ [T.int .i64 r.step, lLAlt r.outs])))]) ?_ ?_
    ·skip
     obtain ⟨g9, H3⟩ := isg H3
     rcases isp H3 with ⟨c10, H3⟩ | ⟨c10, H3⟩
     rotate_left
     ·skip
      repeat apply TW.seq
      refine rk [3, 5, 8, 66] [] (f3 hh (decide_eq_false c10) (f2 c7 (gx_some g9))) ?_
      clear hh h
      intro h hh
      cases H3
      exact ce hh ⟨kq hh, rfl⟩
     repeat apply TW.seq
     refine rk [3, 5, 8, 66] [] (f3 hh (decide_eq_true c10) (f2 c7 (gx_some g9))) ?_
     clear hh h
     intro h hh
     cases H3
     exact ce hh ⟨kq hh, rfl⟩
    clear hh h
    rintro h bs ⟨hh, rfl⟩
    rcases isb H2 with ⟨c11, H2⟩ | ⟨c11, H2⟩
    rotate_left
    ·skip
     repeat apply TW.seq
     refine cf (f2 hh c11) ?_
     repeat apply TW.seq
     refine sk ?_
     repeat apply TW.seq
     refine rk [3, 5, 8, 9] [] (f3 hh c7 c11) ?_
     clear hh h
     intro h hh
     obtain ⟨o, H3, H2⟩ := bsome H2
     repeat apply TW.seq
     refine cu [3, 5, 8] 2 (fun h bs => ∃ s_5 : Unit, o = .inr s_5 ∧ (h 3 = .ptr 0 0 3 ∧ h 5 = .ptr 1 0 23 ∧ h 8 = .int .i64 k_) ∧ bs = [.cells true 3 [lNode n.nodes, lLink n.links, lEdge n.edges], .cells true 23 (T.int .i64 r.prio :: (r.mat.mask.l.map (T.int .i64) ++ (r.mat.bits.l.map (T.int .i64) ++ [T.int .i64 r.step, lLAlt r.outs])))]) ?_ ?_
     ·skip
      repeat apply TW.seq
      apply TW.block
      repeat apply TW.seq
      refine TW.loopT [3, 5, 8, 9] (fun m h bs => ∃ (i : Int), sr25_Formed_L1 k n r k_ m i = some o ∧ (h 3 = .ptr 0 0 3 ∧ h 5 = .ptr 1 0 23 ∧ h 8 = .int .i64 k_ ∧ h 9 = .int .i64 i) ∧ bs = [.cells true 3 [lNode n.nodes, lLink n.links, lEdge n.edges], .cells true 23 (T.int .i64 r.prio :: (r.mat.mask.l.map (T.int .i64) ++ (r.mat.bits.l.map (T.int .i64) ++ [T.int .i64 r.step, lLAlt r.outs])))]) ?_ k _ _ ?_
      rotate_left
      ·exact ⟨0, H3, kq hh, rfl⟩
      clear hh h H3
      rintro m h bs ⟨i, H3, hh, rfl⟩
      rcases m with _ | m
      ·rw [sr25_Formed_L1] at H3; cases H3
      rw [sr25_Formed_L1] at H3
      obtain ⟨g12, H3⟩ := isg H3
      repeat apply TW.seq
      refine rk [3, 5, 8, 9, 74] [] (f3 hh c7 (f2 c11 (gx_some g12))) ?_
      clear hh h
      intro h hh
      rcases isp H3 with ⟨c13, H3⟩ | ⟨c13, H3⟩
      rotate_left
      ·skip
       repeat apply TW.seq
       refine cf (f2 hh (decide_eq_false c13)) ?_
       refine xk ?_
       cases H3
       exact ce hh ⟨_, rfl, kq hh, rfl⟩
      repeat apply TW.seq
      refine ct (f2 hh (decide_eq_true c13)) ?_
      repeat apply TW.seq
      refine sk ?_
      repeat apply TW.seq
      apply TW.block
      obtain ⟨g14, H3⟩ := isg H3
      repeat apply TW.seq
      refine rk [3, 5, 8, 9, 10] [] (f3 hh c7 (f3 c11 (gx_some g12) (gx_some g14))) ?_
      clear hh h
      intro h hh
      obtain ⟨rRightMod, e15, H3⟩ := bsome H3
      repeat apply TW.seq
      refine rkc [3, 5, 8, 9, 10, 11] [] [(.bool rRightMod, stL [.cells true 3 [lNode n.nodes, lLink n.links, lEdge n.edges], .cells true 23 (T.int .i64 r.prio :: (r.mat.mask.l.map (T.int .i64) ++ (r.mat.bits.l.map (T.int .i64) ++ [T.int .i64 r.step, lLAlt r.outs]))), .cells true 21 (T.int .i64 ((gx (gx r.outs k_) i).link) :: ((((gx (gx r.outs k_) i).mod).mask).l.map (T.int .i64) ++ ((((gx (gx r.outs k_) i).mod).bits).l.map (T.int .i64))))])] (f3 hh c7 c11) ?_ ?_
      ·exact ⟨Call0.call (Pure.clr (sr06_RightMod_ok ax hx k ((gx (gx r.outs k_) i).mod) rRightMod e15 ) (by first | rfl | simp only [c7, c11])), trivial⟩
      clear hh h
      intro h hh
      rcases isp H3 with ⟨c16, H3⟩ | ⟨c16, H3⟩
      rotate_left
      ·skip
       rcases isp H3 with ⟨c17, H3⟩ | ⟨c17, H3⟩
       rotate_left
       ·skip
        repeat apply TW.seq
        refine rk [3, 5, 8, 9, 102] [] (f3 hh (decide_eq_false c16) (f3 (decide_eq_false c17) c7 c11)) ?_
        clear hh h
        intro h hh
        rcases isb H3 with ⟨c18, H3⟩ | ⟨c18, H3⟩
        rotate_left
        ·skip
         repeat apply TW.seq
         refine ct (f2 hh c18) ?_
         repeat apply TW.seq
         refine rk [6] [] (f3 hh c7 (f2 c11 c18)) ?_
         clear hh h
         intro h hh
         cases H3
         obtain rfl := sinm H2
         obtain rfl := sinm H1
         obtain rfl := sinl H
         exact rt hh
        repeat apply TW.seq
        refine cf (f2 hh c18) ?_
        repeat apply TW.seq
        refine sk ?_
        repeat apply TW.seq
        refine rk [3, 5, 8, 9] [] (f3 hh c7 (f2 c11 c18)) ?_
        clear hh h
        intro h hh
        exact rd m hh ⟨(IntKind.i64.wrap (i + 1)), H3, kq hh, rfl⟩
       repeat apply TW.seq
       refine rk [3, 5, 8, 9, 102] [] (f3 hh (decide_eq_false c16) (f3 (decide_eq_true c17) c7 c11)) ?_
       clear hh h
       intro h hh
       repeat apply TW.seq
       refine ct hh ?_
       repeat apply TW.seq
       refine rk [6] [] (f3 hh c7 c11) ?_
       clear hh h
       intro h hh
       cases H3
       obtain rfl := sinm H2
       obtain rfl := sinm H1
       obtain rfl := sinl H
       exact rt hh
      repeat apply TW.seq
      refine rk [3, 5, 8, 9, 102] [] (f3 hh (decide_eq_true c16) (f2 c7 c11)) ?_
      clear hh h
      intro h hh
      repeat apply TW.seq
      refine ct hh ?_
      repeat apply TW.seq
      refine rk [6] [] (f3 hh c7 c11) ?_
      clear hh h
      intro h hh
      cases H3
      obtain rfl := sinm H2
      obtain rfl := sinm H1
      obtain rfl := sinl H
      exact rt hh
     clear hh h
     rintro h bs ⟨s_5, rfl, hh, rfl⟩
     replace H2 := sinr H2
     cases H2
     exact ce hh ⟨_, rfl, kq hh, rfl⟩
    repeat apply TW.seq
    refine ct (f2 hh c11) ?_
    repeat apply TW.seq
    refine rk [6] [] (f3 hh c7 c11) ?_
    clear hh h
    intro h hh
    cases H2
    obtain rfl := sinm H1
    obtain rfl := sinl H
    exact rt hh
   clear hh h
   rintro h bs ⟨s_3, rfl, hh, rfl⟩
   replace H1 := sinr H1
   repeat apply TW.seq
   refine rk [3, 5, 8] [] (f2 hh c7) ?_
   clear hh h
   intro h hh
   exact rd m hh ⟨(IntKind.i64.wrap (k_ + 1)), H1, kq hh, rfl⟩
  clear hh h
  rintro h bs ⟨s_2, rfl, hh, rfl⟩
  replace H := sinr H
  repeat apply TW.seq
  refine rk [6] [] (f2 hh c7) ?_
  clear hh h
  intro h hh
  cases H
  exact rt hh
 repeat apply TW.seq
 refine ct (f2 hh c7) ?_
 repeat apply TW.seq
 refine rk [6] [] (f2 hh c7) ?_
 clear hh h
 intro h hh
 cases H
 exact rt hh
def sr25_Check_L0 (k : Nat) (n : Net) (steps : Int) (t : List Rule) : Nat → Int → Option ((Int × Int) ⊕ Unit)
 | 0, _ => none
 | m + 1, k_ => (if k_ < (t.length : Int) then (if (0 : Int) ≤ k_ ∧ k_ < (t.length : Int) then ((sr25_Formed k n steps (gx t k_)).bind fun rFormed => (if rFormed = true then (if 0 < k_ then (if (0 : Int) ≤ (IntKind.i64.wrap (k_ - 1)) ∧ (IntKind.i64.wrap (k_ - 1)) < (t.length : Int) then (if ((gx t (IntKind.i64.wrap (k_ - 1))).prio) ≤ ((gx t k_).prio) then some (.inl (k_, 1)) else sr25_Check_L0 k n steps t m (IntKind.i64.wrap (k_ + 1))) else none) else sr25_Check_L0 k n steps t m (IntKind.i64.wrap (k_ + 1))) else some (.inl (k_, 1)))) else none) else some (.inr ()))
def sr25_Check (k : Nat) (n : Net) (steps : Int) (t : List Rule) : Option (Int × Int) := (((if steps < 0 then some true else some (decide (1000 < steps))) : Option Bool).bind fun s_ => (if s_ = true then some (0, 1) else (if 4000 < (t.length : Int) then some (0, 2) else ((sr25_Check_L0 k n steps t k 0 : Option ((Int × Int) ⊕ Unit)).bind fun o => Sum.elim (fun r => some r) (fun s_2 => some (0, 0)) o))))
set_option maxHeartbeats 8000000 in
theorem sr25_Check_ok (ax : Axs) (hx : Plain ax) (k : Nat) (n : Net) (steps : Int) (t : List Rule) (v : Int × Int) (H : sr25_Check k n steps t = some v) : Pure Tryz.prog (EE ax) [] 14 [eNet n, .int .i64 steps, lRule t] (tupT [.int .i64 v.1, .int .i64 v.2]) := by
 rw [sr25_Check] at H
 refine enN [.tmp 6, .tmp 7] 53 [0, 1, 2] (hx.no _ (by decide)) (fn14 ax) ?_
 intro h hh
 repeat apply TW.seq
 refine rk [1, 2, 3] [] hh ?_
 clear hh h
 intro h hh
 obtain ⟨s_, H1, H⟩ := bsome H
 repeat apply TW.seq
 refine cu [1, 2, 3, 15] 1 (fun h bs => (h 1 = .int .i64 steps ∧ h 2 = lRule t ∧ h 3 = .ptr 0 0 3 ∧ h 15 = .bool s_) ∧ bs = [.cells true 3 [lNode n.nodes, lLink n.links, lEdge n.edges]]) ?_ ?_
 ·skip
  rcases isp H1 with ⟨c1, H1⟩ | ⟨c1, H1⟩
  rotate_left
  ·skip
   repeat apply TW.seq
   refine rk [1, 2, 3, 15] [] (f2 hh (decide_eq_false c1)) ?_
   clear hh h
   intro h hh
   cases H1
   exact ce hh ⟨kq hh, rfl⟩
  repeat apply TW.seq
  refine rk [1, 2, 3, 15] [] (f2 hh (decide_eq_true c1)) ?_
  clear hh h
  intro h hh
  cases H1
  exact ce hh ⟨kq hh, rfl⟩
 clear hh h
 rintro h bs ⟨hh, rfl⟩
 rcases isb H with ⟨c2, H⟩ | ⟨c2, H⟩
 rotate_left
 ·skip
  repeat apply TW.seq
  refine cf (f2 hh c2) ?_
  repeat apply TW.seq
  refine sk ?_
  repeat apply TW.seq
  refine rk [1, 2, 3, 18] [] (f2 hh c2) ?_
  clear hh h
  intro h hh
  rcases isp H with ⟨c3, H⟩ | ⟨c3, H⟩
  rotate_left
  ·skip
   repeat apply TW.seq
   refine cf (f2 hh (decide_eq_false c3)) ?_
   repeat apply TW.seq
   refine sk ?_
   repeat apply TW.seq
   refine rk [1, 2, 3, 8] [] (f2 hh c2) ?_
   clear hh h
   intro h hh
   obtain ⟨o, H1, H⟩ := bsome H
   repeat apply TW.seq
   refine cu [] 1 (fun h bs => ∃ s_2 : Unit, o = .inr s_2 ∧ (True) ∧ bs = [.cells true 3 [lNode n.nodes, lLink n.links, lEdge n.edges]]) ?_ ?_
   ·skip
    repeat apply TW.seq
    apply TW.block
    repeat apply TW.seq
    refine TW.loopT [1, 2, 3, 8] (fun m h bs => ∃ (k_ : Int), sr25_Check_L0 k n steps t m k_ = some o ∧ (h 1 = .int .i64 steps ∧ h 2 = lRule t ∧ h 3 = .ptr 0 0 3 ∧ h 8 = .int .i64 k_) ∧ bs = [.cells true 3 [lNode n.nodes, lLink n.links, lEdge n.edges]]) ?_ k _ _ ?_
    rotate_left
    ·exact ⟨0, H1, kq hh, rfl⟩
    clear hh h H1
    rintro m h bs ⟨k_, H1, hh, rfl⟩
    rcases m with _ | m
    ·rw [sr25_Check_L0] at H1; cases H1
    rw [sr25_Check_L0] at H1
    repeat apply TW.seq
    refine rk [1, 2, 3, 8, 22] [] (f2 hh c2) ?_
    clear hh h
    intro h hh
    rcases isp H1 with ⟨c4, H1⟩ | ⟨c4, H1⟩
    rotate_left
    ·skip
     repeat apply TW.seq
     refine cf (f2 hh (decide_eq_false c4)) ?_
     refine xk ?_
     cases H1
     exact ce hh ⟨_, rfl, kq hh, rfl⟩
    repeat apply TW.seq
    refine ct (f2 hh (decide_eq_true c4)) ?_
    repeat apply TW.seq
    refine sk ?_
    repeat apply TW.seq
    apply TW.block
    obtain ⟨g5, H1⟩ := isg H1
    obtain ⟨rFormed, e6, H1⟩ := bsome H1
    repeat apply TW.seq
    refine dk 6 [1, 2, 3, 8, 9] [] [] [(.bool rFormed, stL [.cells true 3 [lNode n.nodes, lLink n.links, lEdge n.edges]])] (f3 hh c2 (gx_some g5)) trivial ?_ ?_
    ·exact ⟨Call0.call (Pure.clr (sr25_Formed_ok ax hx k n steps (gx t k_) rFormed e6 ) (by first | rfl | simp only [c2])), trivial⟩
    clear hh h
    intro h hh
    rcases isb H1 with ⟨c7, H1⟩ | ⟨c7, H1⟩
    rotate_left
    ·skip
     repeat apply TW.seq
     refine dk 17 [1, 2, 3, 8, 51] [] [] [] (f3 hh c7 c2) trivial trivial ?_
     clear hh h
     intro h hh
     repeat apply TW.seq
     refine ct hh ?_
     repeat apply TW.seq
     refine rk [6, 7] [] (f3 hh c2 c7) ?_
     clear hh h
     intro h hh
     cases H1
     obtain rfl := sinl H
     exact rt hh
    rcases isp H1 with ⟨c8, H1⟩ | ⟨c8, H1⟩
    rotate_left
    ·skip
     repeat apply TW.seq
     refine dk 17 [1, 2, 3, 8, 51] [] [] [] (f3 hh c7 (f2 (decide_eq_false c8) c2)) trivial trivial ?_
     clear hh h
     intro h hh
     repeat apply TW.seq
     refine cf hh ?_
     repeat apply TW.seq
     refine sk ?_
     repeat apply TW.seq
     refine rk [1, 2, 3, 8] [] (f3 hh c2 c7) ?_
     clear hh h
     intro h hh
     exact rd m hh ⟨(IntKind.i64.wrap (k_ + 1)), H1, kq hh, rfl⟩
    obtain ⟨g9, H1⟩ := isg H1
    repeat apply TW.seq
    refine dk 17 [1, 2, 3, 8, 51] [] [] [] (f3 hh c7 (f3 (decide_eq_true c8) c2 (f2 (gx_some g5) (gx_some g9)))) trivial trivial ?_
    clear hh h
    intro h hh
    rcases isp H1 with ⟨c10, H1⟩ | ⟨c10, H1⟩
    rotate_left
    ·skip
     repeat apply TW.seq
     refine cf (f2 hh (decide_eq_false c10)) ?_
     repeat apply TW.seq
     refine sk ?_
     repeat apply TW.seq
     refine rk [1, 2, 3, 8] [] (f3 hh c2 c7) ?_
     clear hh h
     intro h hh
     exact rd m hh ⟨(IntKind.i64.wrap (k_ + 1)), H1, kq hh, rfl⟩
    repeat apply TW.seq
    refine ct (f2 hh (decide_eq_true c10)) ?_
    repeat apply TW.seq
    refine rk [6, 7] [] (f3 hh c2 c7) ?_
    clear hh h
    intro h hh
    cases H1
    obtain rfl := sinl H
    exact rt hh
   clear hh h
   rintro h bs ⟨s_2, rfl, hh, rfl⟩
   replace H := sinr H
   repeat apply TW.seq
   refine rk [6, 7] [] (f2 hh c2) ?_
   clear hh h
   intro h hh
   cases H
   exact rt hh
  repeat apply TW.seq
  refine ct (f2 hh (decide_eq_true c3)) ?_
  repeat apply TW.seq
  refine rk [6, 7] [] (f2 hh c2) ?_
  clear hh h
  intro h hh
  cases H
  exact rt hh
 repeat apply TW.seq
 refine ct (f2 hh c2) ?_
 repeat apply TW.seq
 refine rk [6, 7] [] (f2 hh c2) ?_
 clear hh h
 intro h hh
 cases H
 exact rt hh
end Go.Proofs.YtjgbkegkcbcjaaaGreat
namespace Go.Proofs.YtjgbkegkcbcjaaaGreat
open Go Go.RowKit
set_option maxRecDepth 100000
end Go.Proofs.YtjgbkegkcbcjaaaGreat
namespace Go.Proofs.YtjgbkegkcbcjaaaGreat
open Go Go.RowKit
theorem gxA {n : Nat} (a : Ar n) {i : Nat} (h : i < n) : gx a.l (i : Int) = a.l[i]'(by rw [a.h]; exact h) := gx_at (by rw [a.h]; exact h)
theorem all_ar {n : Nat} (a : Ar n) (q : Int → Bool) : ((List.range n).all fun j => q (gx a.l (j : Int))) = a.l.all q := by
  rw [Bool.eq_iff_iff, List.all_eq_true, all_getElem]
  constructor
  · intro h j hj
    have := h j (List.mem_range.2 (by rw [a.h] at hj; exact hj))
    rwa [gx_at hj] at this
  · intro h j hj
    have hj' : j < a.l.length := by rw [a.h]; exact List.mem_range.1 hj
    rw [gx_at hj']; exact h j hj'
theorem lt10 {a : Nat} (h : a < 10) : (a : Int) < 10 := by omega
theorem lt_cast {a b : Nat} (h : a < b) : (a : Int) < (b : Int) := by omega
theorem IndexFunc_Alt_spec {k : Nat} (l : List Alt) (f : Alt → Option Bool) (q : Alt → Bool) (hf : ∀ x, x ∈ l → f x = some (q x)) (hl : l.length < big) (hk : l.length < k) : sslices_IndexFunc_Alt k l f = some (idxB q l) := by
  unfold sslices_IndexFunc_Alt
  exact index_loop l q hl (fun m j h => by rw [sslices_IndexFunc_Alt_L0, if_pos (lt_cast h), if_pos ⟨by omega, lt_cast h⟩, gx_at h, hf _ (List.getElem_mem h), Option.bind_some]) (fun m => by rw [sslices_IndexFunc_Alt_L0, if_neg (by omega)]) hk
/-! patterns -/
def rightW (x : Int) : Bool := decide (0 ≤ x ∧ x ≤ 65535)
def rightHead (h : Ar 10) : Bool := h.l.all rightW
def within_ (p : Pat) : Bool := (List.range 10).all fun i => decide (iAnd .i64 (gx p.bits.l (i : Int)) (gx p.mask.l (i : Int)) = gx p.bits.l (i : Int))
def rightPat (p : Pat) : Bool := rightHead p.mask && (rightHead p.bits && within_ p)
theorem rightW_nat {x : Int} (h : rightW x = true) : ∃ n : Nat, x = (n : Int) ∧ n < 65536 := by
  have := of_decide_eq_true h
  exact ⟨x.toNat, by omega, by omega⟩
theorem rightHead_nat {h : Ar 10} (hr : rightHead h = true) {i : Nat} (hi : i < 10) : ∃ n : Nat, gx h.l (i : Int) = (n : Int) ∧ n < 65536 := by
  rw [gxA h hi]
  exact rightW_nat (List.all_eq_true.1 hr _ (List.getElem_mem _))
theorem r06_RightHead {k : Nat} (h : Ar 10) (hk : 10 < k) : sr06_RightHead k h = some (rightHead h) := by
  unfold sr06_RightHead
  rw [loop_allr (L := sr06_RightHead_L0 k h) 10 false (fun i => rightW (gx h.l (i : Int))) (by decide) (fun m j hj => by
    rw [sr06_RightHead_L0, if_pos (lt10 hj), if_pos ⟨by omega, lt10 hj⟩]
    unfold rightW
    by_cases c1 : gx h.l (j : Int) < 0
    · rw [if_pos c1, if_neg (by rw [decide_eq_true_eq]; omega)]
    · rw [if_neg c1]
      by_cases c2 : 65535 < gx h.l (j : Int)
      · rw [if_pos c2, if_neg (by rw [decide_eq_true_eq]; omega)]
      · rw [if_neg c2, if_pos (by rw [decide_eq_true_eq]; omega)]) (fun m => by rw [sr06_RightHead_L0]; exact if_neg (by decide)) hk, Option.bind_some, all_ar]
  unfold rightHead
  cases h.l.all rightW <;> rfl
theorem r06_within {k : Nat} (p : Pat) (hk : 10 < k) : sr06_within k p.bits p.mask = some (within_ p) := by
  unfold sr06_within within_
  rw [loop_allr (L := sr06_within_L0 k p.bits p.mask) 10 false (fun i => decide (iAnd .i64 (gx p.bits.l (i : Int)) (gx p.mask.l (i : Int)) = gx p.bits.l (i : Int))) (by decide) (fun m j hj => by
    rw [sr06_within_L0, if_pos (lt10 hj), if_pos ⟨by omega, lt10 hj⟩]
    by_cases c : iAnd .i64 (gx p.bits.l (j : Int)) (gx p.mask.l (j : Int)) = gx p.bits.l (j : Int)
    · rw [if_neg (fun h => h c), if_pos (decide_eq_true c)]
    · rw [if_pos c, if_neg (by rw [decide_eq_true_eq]; exact c)]) (fun m => by rw [sr06_within_L0]; exact if_neg (by decide)) hk, Option.bind_some]
  cases (List.range 10).all _ <;> rfl
theorem r06_Right {k : Nat} (p : Pat) (hk : 10 < k) : sr06_Right k p = some (rightPat p) := by
  unfold sr06_Right rightPat
  rw [r06_RightHead _ hk, r06_RightHead _ hk, Option.bind_some, Option.bind_some, r06_within p hk]
  cases rightHead p.mask <;> cases rightHead p.bits <;> rfl
theorem r06_RightMod {k : Nat} (p : Pat) (hk : 10 < k) : sr06_RightMod k p = some (rightPat p) := by
  unfold sr06_RightMod
  rw [r06_Right _ hk]; rfl
/-! rules and tables -/
def okRule (r : Rule) : Prop := r.outs.length < big ∧ ∀ l, l ∈ r.outs → l.length < big
def okTab (t : List Rule) : Prop := t.length < big ∧ ∀ r, r ∈ t → okRule r
def fAlt (n : Net) (a : Alt) : Bool := decide (-1 ≤ a.link ∧ a.link < n.links.length) && rightPat a.mod
def fOut (n : Net) (l : List Alt) : Bool := decide (1 ≤ l.length ∧ l.length ≤ 8) && l.all (fAlt n)
def formed (n : Net) (steps : Int) (r : Rule) : Bool := decide (1 ≤ r.prio ∧ r.prio ≤ 65535) && (rightPat r.mat && (decide (-1 ≤ r.step ∧ r.step < steps ∧ r.outs.length ≤ 16) && r.outs.all (fOut n)))
theorem r25_Formed {k : Nat} (n : Net) (steps : Int) (r : Rule) (hr : okRule r) (hk : big ≤ k) : sr25_Formed k n steps r = some (formed n steps r) := by
  have hk10 : 10 < k := Nat.lt_of_lt_of_le (by decide) hk
  unfold sr25_Formed formed
  rw [r06_Right _ hk10, Option.bind_some]
  have hloop : sr25_Formed_L0 k n r k 0 = some (if r.outs.all (fOut n) = true then .inr () else .inl false) := by
    refine loop_all r.outs false (fOut n) hr.1 (fun m j h => ?_) (fun m => by rw [sr25_Formed_L0, if_neg (by omega)]) (Nat.lt_of_lt_of_le hr.1 hk)
    have hx := hr.2 _ (List.getElem_mem h)
    rw [sr25_Formed_L0, if_pos (lt_cast h), if_pos ⟨by omega, lt_cast h⟩, gx_at h]
    unfold fOut
    by_cases c1 : (r.outs[j].length : Int) < 1
    · rw [if_pos c1, decide_eq_false (by omega)]; rfl
    · rw [if_neg c1, Option.bind_some]
      by_cases c2 : 8 < (r.outs[j].length : Int)
      · rw [decide_eq_true c2, decide_eq_false (by omega)]; rfl
      · rw [decide_eq_false c2, decide_eq_true (by omega)]
        simp only [Bool.false_eq_true, if_false, Bool.true_and]
        rw [loop_all (L := sr25_Formed_L1 k n r (j : Int)) r.outs[j] false (fAlt n) hx (fun m i hi => by
          rw [sr25_Formed_L1, if_pos ⟨by omega, lt_cast h⟩, gx_at h, if_pos (lt_cast hi), if_pos ⟨by omega, lt_cast hi⟩, gx_at hi, r06_RightMod _ hk10, Option.bind_some]
          unfold fAlt
          by_cases d1 : r.outs[j][i].link < -1
          · rw [if_pos d1, decide_eq_false (by omega)]; rfl
          · rw [if_neg d1]
            by_cases d2 : (n.links.length : Int) ≤ r.outs[j][i].link
            · rw [if_pos d2, decide_eq_false (by omega)]; rfl
            · rw [if_neg d2, decide_eq_true (by omega)]; rfl) (fun m => by rw [sr25_Formed_L1, if_pos ⟨by omega, lt_cast h⟩, gx_at h, if_neg (by omega)]) (Nat.lt_of_lt_of_le hx hk), Option.bind_some]
        cases r.outs[j].all (fAlt n) <;> rfl
  rw [hloop]
  by_cases c1 : r.prio < 1
  · rw [if_pos c1, decide_eq_false (by omega)]; rfl
  · rw [if_neg c1]
    by_cases c2 : 65535 < r.prio
    · rw [if_pos c2, decide_eq_false (by omega)]; rfl
    · rw [if_neg c2, decide_eq_true (show 1 ≤ r.prio ∧ r.prio ≤ 65535 by omega)]
      cases rightPat r.mat with
      | false => rfl
      | true =>
        simp only [if_true, Bool.true_and]
        by_cases c3 : r.step < -1
        · rw [if_pos c3, decide_eq_false (by omega)]; rfl
        · rw [if_neg c3]
          by_cases c4 : steps ≤ r.step
          · rw [if_pos c4, decide_eq_false (by omega)]; rfl
          · rw [if_neg c4, Option.bind_some]
            by_cases c5 : 16 < (r.outs.length : Int)
            · rw [decide_eq_true c5, decide_eq_false (by omega)]; rfl
            · rw [decide_eq_false c5, decide_eq_true (by omega)]
              simp only [Bool.false_eq_true, if_false, Bool.true_and]
              cases r.outs.all (fOut n) <;> rfl
end Go.Proofs.YtjgbkegkcbcjaaaGreat
namespace Go.Proofs.YtjgbkegkcbcjaaaGreat
open Go Go.RowKit
set_option maxRecDepth 100000
def sr09_Few (k : Nat) (n : Net) (nodes : Int) (links : Int) (edges : Int) : Option Bool := (if (n.nodes.length : Int) ≤ nodes then (if (n.links.length : Int) ≤ links then some (decide ((n.edges.length : Int) ≤ edges)) else some false) else some false)
set_option maxHeartbeats 8000000 in
theorem sr09_Few_ok (ax : Axs) (hx : Plain ax) (k : Nat) (n : Net) (nodes : Int) (links : Int) (edges : Int) (v : Bool) (H : sr09_Few k n nodes links edges = some v) : Pure Tryz.prog (EE ax) [] 9 [eNet n, .int .i64 nodes, .int .i64 links, .int .i64 edges] (.bool v) := by
 rw [sr09_Few] at H
 refine en [.tmp 8] 28 [0, 1, 2, 3] (hx.no _ (by decide)) (fn9 ax) ?_
 intro h hh
 repeat apply TW.seq
 refine rk [1, 2, 3, 4] [] hh ?_
 clear hh h
 intro h hh
 rcases isp H with ⟨c1, H⟩ | ⟨c1, H⟩
 rotate_left
 ·skip
  repeat apply TW.seq
  refine rk [8] [] (f2 hh (decide_eq_false c1)) ?_
  clear hh h
  intro h hh
  cases H
  exact rt hh
 rcases isp H with ⟨c2, H⟩ | ⟨c2, H⟩
 rotate_left
 ·skip
  repeat apply TW.seq
  refine rk [8] [] (f3 hh (decide_eq_true c1) (decide_eq_false c2)) ?_
  clear hh h
  intro h hh
  cases H
  exact rt hh
 repeat apply TW.seq
 refine rk [8] [] (f3 hh (decide_eq_true c1) (decide_eq_true c2)) ?_
 clear hh h
 intro h hh
 cases H
 exact rt hh
def sr09_Names_L0 (k : Nat) (n : Net) : Nat → Int → (List ByteArray) → Nat → Option (List ByteArray × Nat)
 | 0, _, _, _ => none
 | m + 1, i, l, n2 => (if i < (n.nodes.length : Int) then (if (0 : Int) ≤ i ∧ i < (n.nodes.length : Int) then (if (n2 + 1) * 17 ≤ 1000000000 then sr09_Names_L0 k n m (IntKind.i64.wrap (i + 1)) (l ++ [(gx n.nodes i).name]) (n2 + 1) else none) else none) else some (l, n2))
def sr09_Names_L1 (k : Nat) (n : Net) : Nat → Int → (List ByteArray) → Nat → Option (List ByteArray × Nat)
 | 0, _, _, _ => none
 | m + 1, i2, l2, n3 => (if i2 < (n.edges.length : Int) then (if (0 : Int) ≤ i2 ∧ i2 < (n.edges.length : Int) then (if (n3 + 1) * 17 ≤ 1000000000 then sr09_Names_L1 k n m (IntKind.i64.wrap (i2 + 1)) (l2 ++ [(gx n.edges i2).name]) (n3 + 1) else none) else none) else some (l2, n3))
def sr09_Names (k : Nat) (n : Net) : Option (List ByteArray × List ByteArray) := ((sr09_Names_L0 k n k 0 [] 0 : Option (List ByteArray × Nat)).bind fun s_ => ((sr09_Names_L1 k n k 0 [] 0 : Option (List ByteArray × Nat)).bind fun s_2 => (if s_.1.length = s_.2 then (if s_2.1.length = s_2.2 then some (s_.1, s_2.1) else none) else none)))
set_option maxHeartbeats 8000000 in
theorem sr09_Names_ok (ax : Axs) (hx : Plain ax) (k : Nat) (n : Net) (v : List ByteArray × List ByteArray) (H : sr09_Names k n = some v) : Pure Tryz.prog (EE ax) [] 45 [eNet n] (tupT [strs v.1, strs v.2]) := by
 rw [sr09_Names] at H
 refine enN [.tmp 2, .tmp 3] 42 [0] (hx.no _ (by decide)) (fn45 ax) ?_
 intro h hh
 repeat apply TW.seq
 refine rk [1] [] hh ?_
 clear hh h
 intro h hh
 repeat apply TW.seq
 refine rk [1, 4] [] hh ?_
 clear hh h
 intro h hh
 refine vk 4 1 [1, 4] hh ?_
 clear hh h
 intro h hh
 repeat apply TW.seq
 refine rk [1, 4, 5] [] hh ?_
 clear hh h
 intro h hh
 refine vk 5 1 [1, 4, 5] hh ?_
 clear hh h
 intro h hh
 repeat apply TW.seq
 refine rk [1, 4, 5, 6] [] hh ?_
 clear hh h
 intro h hh
 obtain ⟨s_, H1, H⟩ := bsome H
 repeat apply TW.seq
 refine cu [1, 4, 5] 3 (fun h bs => (h 1 = .ptr 0 0 3 ∧ h 4 = .arr 1 1 0 s_.2 s_.2 s_.2 ∧ h 5 = .arr 2 1 0 0 0 0) ∧ bs = [.cells true 3 [lNode n.nodes, lLink n.links, lEdge n.edges], .cells false s_.2 (s_.1.map T.str), .cells false 0 ([].map T.str)]) ?_ ?_
 ·skip
  repeat apply TW.seq
  apply TW.block
  repeat apply TW.seq
  refine TW.loopT [1, 4, 5, 6] (fun m h bs => ∃ (i : Int) (l : List ByteArray) (n2 : Nat), sr09_Names_L0 k n m i l n2 = some s_ ∧ (h 1 = .ptr 0 0 3 ∧ h 4 = .arr 1 1 0 n2 n2 n2 ∧ h 5 = .arr 2 1 0 0 0 0 ∧ h 6 = .int .i64 i) ∧ bs = [.cells true 3 [lNode n.nodes, lLink n.links, lEdge n.edges], .cells false n2 (l.map T.str), .cells false 0 ([].map T.str)]) ?_ k _ _ ?_
  rotate_left
  ·exact ⟨0, [], 0, H1, kq hh, rfl⟩
  clear hh h H1
  rintro m h bs ⟨i, l, n2, H1, hh, rfl⟩
  rcases m with _ | m
  ·rw [sr09_Names_L0] at H1; cases H1
  rw [sr09_Names_L0] at H1
  repeat apply TW.seq
  refine rk [1, 4, 5, 6, 12] [] hh ?_
  clear hh h
  intro h hh
  rcases isp H1 with ⟨c1, H1⟩ | ⟨c1, H1⟩
  rotate_left
  ·skip
   repeat apply TW.seq
   refine cf (f2 hh (decide_eq_false c1)) ?_
   refine xk ?_
   cases H1
   exact ce hh ⟨kq hh, rfl⟩
  repeat apply TW.seq
  refine ct (f2 hh (decide_eq_true c1)) ?_
  repeat apply TW.seq
  refine sk ?_
  repeat apply TW.seq
  apply TW.block
  obtain ⟨g2, H1⟩ := isg H1
  obtain ⟨g3, H1⟩ := isg H1
  repeat apply TW.seq
  refine rg [] [] [.cells true 3 [lNode n.nodes, lLink n.links, lEdge n.edges], .cells false (n2 + 1) ((l ++ [(gx n.nodes i).name]).map T.str), .cells false 0 ([].map T.str)] (fun h => h 1 = .ptr 0 0 3 ∧ h 4 = .arr 1 1 0 (n2 + 1) (n2 + 1) (n2 + 1) ∧ h 5 = .arr 2 1 0 0 0 0 ∧ h 6 = .int .i64 i) (f2 hh (gx_some g2)) trivial ?_
  clear hh h
  intro h hh
  repeat apply TW.seq
  refine rk [1, 4, 5, 6] [] hh ?_
  clear hh h
  intro h hh
  exact rd m hh ⟨(IntKind.i64.wrap (i + 1)), (l ++ [(gx n.nodes i).name]), (n2 + 1), H1, kq hh, rfl⟩
 clear hh h
 rintro h bs ⟨hh, rfl⟩
 repeat apply TW.seq
 refine rk [1, 4, 5, 7] [] hh ?_
 clear hh h
 intro h hh
 obtain ⟨s_2, H1, H⟩ := bsome H
 repeat apply TW.seq
 refine cu [4, 5] 3 (fun h bs => (h 4 = .arr 1 1 0 s_.2 s_.2 s_.2 ∧ h 5 = .arr 2 1 0 s_2.2 s_2.2 s_2.2) ∧ bs = [.cells true 3 [lNode n.nodes, lLink n.links, lEdge n.edges], .cells false s_.2 (s_.1.map T.str), .cells false s_2.2 (s_2.1.map T.str)]) ?_ ?_
 ·skip
  repeat apply TW.seq
  apply TW.block
  repeat apply TW.seq
  refine TW.loopT [1, 4, 5, 7] (fun m h bs => ∃ (i2 : Int) (l2 : List ByteArray) (n3 : Nat), sr09_Names_L1 k n m i2 l2 n3 = some s_2 ∧ (h 1 = .ptr 0 0 3 ∧ h 4 = .arr 1 1 0 s_.2 s_.2 s_.2 ∧ h 5 = .arr 2 1 0 n3 n3 n3 ∧ h 7 = .int .i64 i2) ∧ bs = [.cells true 3 [lNode n.nodes, lLink n.links, lEdge n.edges], .cells false s_.2 (s_.1.map T.str), .cells false n3 (l2.map T.str)]) ?_ k _ _ ?_
  rotate_left
  ·exact ⟨0, [], 0, H1, kq hh, rfl⟩
  clear hh h H1
  rintro m h bs ⟨i2, l2, n3, H1, hh, rfl⟩
  rcases m with _ | m
  ·rw [sr09_Names_L1] at H1; cases H1
  rw [sr09_Names_L1] at H1
  repeat apply TW.seq
  refine rk [1, 4, 5, 7, 28] [] hh ?_
  clear hh h
  intro h hh
  rcases isp H1 with ⟨c4, H1⟩ | ⟨c4, H1⟩
  rotate_left
  ·skip
   repeat apply TW.seq
   refine cf (f2 hh (decide_eq_false c4)) ?_
   refine xk ?_
   cases H1
   exact ce hh ⟨kq hh, rfl⟩
  repeat apply TW.seq
  refine ct (f2 hh (decide_eq_true c4)) ?_
  repeat apply TW.seq
  refine sk ?_
  repeat apply TW.seq
  apply TW.block
  obtain ⟨g5, H1⟩ := isg H1
  obtain ⟨g6, H1⟩ := isg H1
  repeat apply TW.seq
  refine rg [] [] [.cells true 3 [lNode n.nodes, lLink n.links, lEdge n.edges], .cells false s_.2 (s_.1.map T.str), .cells false (n3 + 1) ((l2 ++ [(gx n.edges i2).name]).map T.str)] (fun h => h 1 = .ptr 0 0 3 ∧ h 4 = .arr 1 1 0 s_.2 s_.2 s_.2 ∧ h 5 = .arr 2 1 0 (n3 + 1) (n3 + 1) (n3 + 1) ∧ h 7 = .int .i64 i2) (f2 hh (gx_some g5)) trivial ?_
  clear hh h
  intro h hh
  repeat apply TW.seq
  refine rk [1, 4, 5, 7] [] hh ?_
  clear hh h
  intro h hh
  exact rd m hh ⟨(IntKind.i64.wrap (i2 + 1)), (l2 ++ [(gx n.edges i2).name]), (n3 + 1), H1, kq hh, rfl⟩
 clear hh h
 rintro h bs ⟨hh, rfl⟩
 repeat apply TW.seq
 refine rk [2, 3] [] hh ?_
 clear hh h
 intro h hh
 obtain ⟨g7, H⟩ := isg H
 obtain ⟨g8, H⟩ := isg H
 refine TW.freeze 2 (b := 1) (e := 1) (off := 0) (len := s_.2) (cap := s_.2) (M := s_.2) (s_.1.map T.str) (kq hh) (by rfl) (by omega) (by omega) (by rw [List.drop_zero, Nat.mul_one, cells_map (fun _ => rfl), List.take_of_length_le (by rw [List.length_map]; omega)]) (fun t ht => by obtain ⟨x, _, rfl⟩ := List.mem_map.1 ht; first | rfl | exact eAr_len _ | exact cel_ePat _ | exact cel_eAlt _ | exact cel_eRule _ | (rw [List.length_map]; rfl)) (by rw [List.length_map]; exact g7) (by omega) ?_
 rw [st_set _ _ _ (by simp only [lzA] <;> omega)]
 simp only [scA]
 refine gk [2, 3] hh ?_
 clear hh h
 intro h hh
 refine TW.freeze 3 (b := 2) (e := 1) (off := 0) (len := s_2.2) (cap := s_2.2) (M := s_2.2) (s_2.1.map T.str) (kq hh) (by rfl) (by omega) (by omega) (by rw [List.drop_zero, Nat.mul_one, cells_map (fun _ => rfl), List.take_of_length_le (by rw [List.length_map]; omega)]) (fun t ht => by obtain ⟨x, _, rfl⟩ := List.mem_map.1 ht; first | rfl | exact eAr_len _ | exact cel_ePat _ | exact cel_eAlt _ | exact cel_eRule _ | (rw [List.length_map]; rfl)) (by rw [List.length_map]; exact g8) (by omega) ?_
 rw [st_set _ _ _ (by simp only [lzA] <;> omega)]
 simp only [scA]
 refine gk [2, 3] hh ?_
 clear hh h
 intro h hh
 cases H
 exact rt hh
def sr08_Name_L0 (k : Nat) (s_ : ByteArray) : Nat → Int → Option (Bool ⊕ Unit)
 | 0, _ => none
 | m + 1, i => (if i < (s_.size : Int) then (((if (0 : Int) ≤ i ∧ i < (s_.size : Int) then (if 97 ≤ ((bx s_ i).toNat : Int) then some (decide (((bx s_ i).toNat : Int) ≤ 122)) else some false) else none) : Option Bool).bind fun s_3 => (((if (0 : Int) ≤ i ∧ i < (s_.size : Int) then (if 48 ≤ ((bx s_ i).toNat : Int) then (if ((bx s_ i).toNat : Int) ≤ 57 then some true else some (decide (((bx s_ i).toNat : Int) = 95))) else some (decide (((bx s_ i).toNat : Int) = 95))) else none) : Option Bool).bind fun s_4 => (if s_3 = true then sr08_Name_L0 k s_ m (IntKind.i64.wrap (i + 1)) else (if s_4 = true then (if i = 0 then some (.inl false) else sr08_Name_L0 k s_ m (IntKind.i64.wrap (i + 1))) else some (.inl false))))) else some (.inr ()))
def sr08_Name (k : Nat) (s_ : ByteArray) : Option Bool := ((sr08_Name_L0 k s_ k 0 : Option (Bool ⊕ Unit)).bind fun o => Sum.elim (fun r => some r) (fun s_2 => (if 1 ≤ (s_.size : Int) then some (decide ((s_.size : Int) ≤ 24)) else some false)) o)
set_option maxHeartbeats 8000000 in
theorem sr08_Name_ok (ax : Axs) (hx : Plain ax) (k : Nat) (s_ : ByteArray) (v : Bool) (H : sr08_Name k s_ = some v) : Pure Tryz.prog (EE ax) [] 101 [.str s_] (.bool v) := by
 rw [sr08_Name] at H
 refine en [.tmp 2] 56 [0] (hx.no _ (by decide)) (fn101 ax) ?_
 intro h hh
 repeat apply TW.seq
 refine rk [0] [] hh ?_
 clear hh h
 intro h hh
 repeat apply TW.seq
 refine rk [0, 3] [] hh ?_
 clear hh h
 intro h hh
 obtain ⟨o, H1, H⟩ := bsome H
 repeat apply TW.seq
 refine cu [0] 0 (fun h bs => ∃ s_2 : Unit, o = .inr s_2 ∧ (h 0 = .str s_) ∧ bs = []) ?_ ?_
 ·skip
  repeat apply TW.seq
  apply TW.block
  repeat apply TW.seq
  refine TW.loopT [0, 3] (fun m h bs => ∃ (i : Int), sr08_Name_L0 k s_ m i = some o ∧ (h 0 = .str s_ ∧ h 3 = .int .i64 i) ∧ bs = []) ?_ k _ _ ?_
  rotate_left
  ·exact ⟨0, H1, kq hh, rfl⟩
  clear hh h H1
  rintro m h bs ⟨i, H1, hh, rfl⟩
  rcases m with _ | m
  ·rw [sr08_Name_L0] at H1; cases H1
  rw [sr08_Name_L0] at H1
  repeat apply TW.seq
  refine rk [0, 3, 9] [] hh ?_
  clear hh h
  intro h hh
  rcases isp H1 with ⟨c1, H1⟩ | ⟨c1, H1⟩
  rotate_left
  ·skip
   repeat apply TW.seq
   refine cf (f2 hh (decide_eq_false c1)) ?_
   refine xk ?_
   cases H1
   exact ce hh ⟨_, rfl, kq hh, rfl⟩
  repeat apply TW.seq
  refine ct (f2 hh (decide_eq_true c1)) ?_
  repeat apply TW.seq
  refine sk ?_
  repeat apply TW.seq
  apply TW.block
  obtain ⟨s_3, H2, H1⟩ := bsome H1
  repeat apply TW.seq
  refine cu [0, 3, 4] 0 (fun h bs => (h 0 = .str s_ ∧ h 3 = .int .i64 i ∧ h 4 = .bool s_3) ∧ bs = []) ?_ ?_
  ·skip
   obtain ⟨g2, H2⟩ := isg H2
   rcases isp H2 with ⟨c3, H2⟩ | ⟨c3, H2⟩
   rotate_left
   ·skip
    repeat apply TW.seq
    refine rk [0, 3, 4] [] (f3 hh (decide_eq_false c3) (bx_some g2)) ?_
    clear hh h
    intro h hh
    cases H2
    exact ce hh ⟨kq hh, rfl⟩
   repeat apply TW.seq
   refine rk [0, 3, 4] [] (f3 hh (decide_eq_true c3) (bx_some g2)) ?_
   clear hh h
   intro h hh
   cases H2
   exact ce hh ⟨kq hh, rfl⟩
  clear hh h
  rintro h bs ⟨hh, rfl⟩
  obtain ⟨s_4, H2, H1⟩ := bsome H1
  repeat apply TW.seq
  refine cu [0, 3, 4, 5] 0 (fun h bs => (h 0 = .str s_ ∧ h 3 = .int .i64 i ∧ h 4 = .bool s_3 ∧ h 5 = .bool s_4) ∧ bs = []) ?_ ?_
  ·skip
   obtain ⟨g4, H2⟩ := isg H2
   rcases isp H2 with ⟨c5, H2⟩ | ⟨c5, H2⟩
   rotate_left
   ·skip
    repeat apply TW.seq
    refine rk [0, 3, 4, 5] [] (f3 hh (decide_eq_false c5) (bx_some g4)) ?_
    clear hh h
    intro h hh
    cases H2
    exact ce hh ⟨kq hh, rfl⟩
   rcases isp H2 with ⟨c6, H2⟩ | ⟨c6, H2⟩
   rotate_left
   ·skip
    repeat apply TW.seq
    refine rk [0, 3, 4, 5] [] (f3 hh (decide_eq_true c5) (f2 (decide_eq_false c6) (bx_some g4))) ?_
    clear hh h
    intro h hh
    cases H2
    exact ce hh ⟨kq hh, rfl⟩
   repeat apply TW.seq
   refine rk [0, 3, 4, 5] [] (f3 hh (decide_eq_true c5) (f2 (decide_eq_true c6) (bx_some g4))) ?_
   clear hh h
   intro h hh
   cases H2
   exact ce hh ⟨kq hh, rfl⟩
  clear hh h
  rintro h bs ⟨hh, rfl⟩
  rcases isb H1 with ⟨c7, H1⟩ | ⟨c7, H1⟩
  rotate_left
  ·skip
   rcases isb H1 with ⟨c8, H1⟩ | ⟨c8, H1⟩
   rotate_left
   ·skip
    repeat apply TW.seq
    refine rk [0, 3, 47] [] (f3 hh c7 c8) ?_
    clear hh h
    intro h hh
    repeat apply TW.seq
    refine ct hh ?_
    repeat apply TW.seq
    refine rk [2] [] (f3 hh c7 c8) ?_
    clear hh h
    intro h hh
    cases H1
    obtain rfl := sinl H
    exact rt hh
   repeat apply TW.seq
   refine rk [0, 3, 47] [] (f3 hh c7 c8) ?_
   clear hh h
   intro h hh
   rcases isp H1 with ⟨c9, H1⟩ | ⟨c9, H1⟩
   rotate_left
   ·skip
    repeat apply TW.seq
    refine cf (f2 hh (decide_eq_false c9)) ?_
    repeat apply TW.seq
    refine sk ?_
    repeat apply TW.seq
    refine rk [0, 3] [] (f3 hh c7 c8) ?_
    clear hh h
    intro h hh
    exact rd m hh ⟨(IntKind.i64.wrap (i + 1)), H1, kq hh, rfl⟩
   repeat apply TW.seq
   refine ct (f2 hh (decide_eq_true c9)) ?_
   repeat apply TW.seq
   refine rk [2] [] (f3 hh c7 c8) ?_
   clear hh h
   intro h hh
   cases H1
   obtain rfl := sinl H
   exact rt hh
  repeat apply TW.seq
  refine rk [0, 3, 47] [] (f2 hh c7) ?_
  clear hh h
  intro h hh
  repeat apply TW.seq
  refine cf hh ?_
  repeat apply TW.seq
  refine sk ?_
  repeat apply TW.seq
  refine rk [0, 3] [] (f2 hh c7) ?_
  clear hh h
  intro h hh
  exact rd m hh ⟨(IntKind.i64.wrap (i + 1)), H1, kq hh, rfl⟩
 clear hh h
 rintro h bs ⟨s_2, rfl, hh, rfl⟩
 replace H := sinr H
 rcases isp H with ⟨c10, H⟩ | ⟨c10, H⟩
 rotate_left
 ·skip
  repeat apply TW.seq
  refine rk [2] [] (f2 hh (decide_eq_false c10)) ?_
  clear hh h
  intro h hh
  cases H
  exact rt hh
 repeat apply TW.seq
 refine rk [2] [] (f2 hh (decide_eq_true c10)) ?_
 clear hh h
 intro h hh
 cases H
 exact rt hh
def sr09_named_L1 (k : Nat) (l : List ByteArray) (i : Int) : Nat → Int → Option (Bool ⊕ Unit)
 | 0, _ => none
 | m + 1, k_ => (if k_ < i then (if (0 : Int) ≤ k_ ∧ k_ < (l.length : Int) then (if (gx l k_) = (gx l i) then some (.inl false) else sr09_named_L1 k l i m (IntKind.i64.wrap (k_ + 1))) else none) else some (.inr ()))
def sr09_named_L0 (k : Nat) (l : List ByteArray) : Nat → Int → Option (Bool ⊕ Unit)
 | 0, _ => none
 | m + 1, i => (if i < (l.length : Int) then (((if (0 : Int) ≤ i ∧ i < (l.length : Int) then ((sr08_Name k (gx l i)).bind fun rName => (if rName = true then ((sr09_named_L1 k l i k 0 : Option (Bool ⊕ Unit)).bind fun o => Sum.elim (fun r => some (.inl r)) (fun s_3 => some (.inr ())) o) else some (.inl false))) else none) : Option (Bool ⊕ Unit)).bind fun o2 => Sum.elim (fun r => some (.inl r)) (fun s_2 => sr09_named_L0 k l m (IntKind.i64.wrap (i + 1))) o2) else some (.inr ()))
def sr09_named (k : Nat) (l : List ByteArray) : Option Bool := ((sr09_named_L0 k l k 0 : Option (Bool ⊕ Unit)).bind fun o3 => Sum.elim (fun r => some r) (fun s_ => some true) o3)
set_option maxHeartbeats 8000000 in
theorem sr09_named_ok (ax : Axs) (hx : Plain ax) (k : Nat) (l : List ByteArray) (v : Bool) (H : sr09_named k l = some v) : Pure Tryz.prog (EE ax) [] 46 [strs l] (.bool v) := by
 rw [sr09_named] at H
 refine en [.tmp 2] 33 [0] (hx.no _ (by decide)) (fn46 ax) ?_
 intro h hh
 repeat apply TW.seq
 refine rk [0] [] hh ?_
 clear hh h
 intro h hh
 repeat apply TW.seq
 refine rk [0, 3] [] hh ?_
 clear hh h
 intro h hh
 obtain ⟨o3, H1, H⟩ := bsome H
 repeat apply TW.seq
 refine cu [] 0 (fun h bs => ∃ s_ : Unit, o3 = .inr s_ ∧ (True) ∧ bs = []) ?_ ?_
 ·skip
  repeat apply TW.seq
  apply TW.block
  repeat apply TW.seq
  refine TW.loopT [0, 3] (fun m h bs => ∃ (i : Int), sr09_named_L0 k l m i = some o3 ∧ (h 0 = strs l ∧ h 3 = .int .i64 i) ∧ bs = []) ?_ k _ _ ?_
  rotate_left
  ·exact ⟨0, H1, kq hh, rfl⟩
  clear hh h H1
  rintro m h bs ⟨i, H1, hh, rfl⟩
  rcases m with _ | m
  ·rw [sr09_named_L0] at H1; cases H1
  rw [sr09_named_L0] at H1
  repeat apply TW.seq
  refine rk [0, 3, 9] [] hh ?_
  clear hh h
  intro h hh
  rcases isp H1 with ⟨c1, H1⟩ | ⟨c1, H1⟩
  rotate_left
  ·skip
   repeat apply TW.seq
   refine cf (f2 hh (decide_eq_false c1)) ?_
   refine xk ?_
   cases H1
   exact ce hh ⟨_, rfl, kq hh, rfl⟩
  repeat apply TW.seq
  refine ct (f2 hh (decide_eq_true c1)) ?_
  repeat apply TW.seq
  refine sk ?_
  obtain ⟨o2, H2, H1⟩ := bsome H1
  repeat apply TW.seq
  refine cu [0, 3] 0 (fun h bs => ∃ s_2 : Unit, o2 = .inr s_2 ∧ (h 0 = strs l ∧ h 3 = .int .i64 i) ∧ bs = []) ?_ ?_
  ·skip
   repeat apply TW.seq
   apply TW.block
   obtain ⟨g2, H2⟩ := isg H2
   obtain ⟨rName, e3, H2⟩ := bsome H2
   repeat apply TW.seq
   refine rkc [0, 3, 4] [] [(.bool rName, stL [])] (f2 hh (gx_some g2)) ?_ ?_
   ·exact ⟨Call0.call ((sr08_Name_ok ax hx k (gx l i) rName e3 ).call _), trivial⟩
   clear hh h
   intro h hh
   repeat apply TW.seq
   refine rk [0, 3, 18] [] hh ?_
   clear hh h
   intro h hh
   rcases isb H2 with ⟨c4, H2⟩ | ⟨c4, H2⟩
   rotate_left
   ·skip
    repeat apply TW.seq
    refine ct (f2 hh c4) ?_
    repeat apply TW.seq
    refine rk [2] [] (f2 hh c4) ?_
    clear hh h
    intro h hh
    cases H2
    obtain rfl := sinm H1
    obtain rfl := sinl H
    exact rt hh
   repeat apply TW.seq
   refine cf (f2 hh c4) ?_
   repeat apply TW.seq
   refine sk ?_
   repeat apply TW.seq
   refine rk [0, 3, 5] [] (f2 hh c4) ?_
   clear hh h
   intro h hh
   obtain ⟨o, H3, H2⟩ := bsome H2
   repeat apply TW.seq
   refine cu [0, 3] 0 (fun h bs => ∃ s_3 : Unit, o = .inr s_3 ∧ (h 0 = strs l ∧ h 3 = .int .i64 i) ∧ bs = []) ?_ ?_
   ·skip
    repeat apply TW.seq
    apply TW.block
    repeat apply TW.seq
    refine TW.loopT [0, 3, 5] (fun m h bs => ∃ (k_ : Int), sr09_named_L1 k l i m k_ = some o ∧ (h 0 = strs l ∧ h 3 = .int .i64 i ∧ h 5 = .int .i64 k_) ∧ bs = []) ?_ k _ _ ?_
    rotate_left
    ·exact ⟨0, H3, kq hh, rfl⟩
    clear hh h H3
    rintro m h bs ⟨k_, H3, hh, rfl⟩
    rcases m with _ | m
    ·rw [sr09_named_L1] at H3; cases H3
    rw [sr09_named_L1] at H3
    repeat apply TW.seq
    refine rk [0, 3, 5, 21] [] (f2 hh c4) ?_
    clear hh h
    intro h hh
    rcases isp H3 with ⟨c5, H3⟩ | ⟨c5, H3⟩
    rotate_left
    ·skip
     repeat apply TW.seq
     refine cf (f2 hh (decide_eq_false c5)) ?_
     refine xk ?_
     cases H3
     exact ce hh ⟨_, rfl, kq hh, rfl⟩
    repeat apply TW.seq
    refine ct (f2 hh (decide_eq_true c5)) ?_
    repeat apply TW.seq
    refine sk ?_
    repeat apply TW.seq
    apply TW.block
    obtain ⟨g6, H3⟩ := isg H3
    repeat apply TW.seq
    refine dk 8 [0, 3, 5, 32] [] [] [] (f3 hh c4 (f2 (gx_some g6) (gx_some g2))) trivial trivial ?_
    clear hh h
    intro h hh
    rcases isp H3 with ⟨c7, H3⟩ | ⟨c7, H3⟩
    rotate_left
    ·skip
     repeat apply TW.seq
     refine cf (f2 hh (decide_eq_false c7)) ?_
     repeat apply TW.seq
     refine sk ?_
     repeat apply TW.seq
     refine rk [0, 3, 5] [] (f2 hh c4) ?_
     clear hh h
     intro h hh
     exact rd m hh ⟨(IntKind.i64.wrap (k_ + 1)), H3, kq hh, rfl⟩
    repeat apply TW.seq
    refine ct (f2 hh (decide_eq_true c7)) ?_
    repeat apply TW.seq
    refine rk [2] [] (f2 hh c4) ?_
    clear hh h
    intro h hh
    cases H3
    obtain rfl := sinm H2
    obtain rfl := sinm H1
    obtain rfl := sinl H
    exact rt hh
   clear hh h
   rintro h bs ⟨s_3, rfl, hh, rfl⟩
   replace H2 := sinr H2
   cases H2
   exact ce hh ⟨_, rfl, kq hh, rfl⟩
  clear hh h
  rintro h bs ⟨s_2, rfl, hh, rfl⟩
  replace H1 := sinr H1
  repeat apply TW.seq
  refine rk [0, 3] [] hh ?_
  clear hh h
  intro h hh
  exact rd m hh ⟨(IntKind.i64.wrap (i + 1)), H1, kq hh, rfl⟩
 clear hh h
 rintro h bs ⟨s_, rfl, hh, rfl⟩
 replace H := sinr H
 repeat apply TW.seq
 refine rk [2] [] hh ?_
 clear hh h
 intro h hh
 cases H
 exact rt hh
def sr09_isNode (k : Nat) (n : Net) (k_ : Int) : Option Bool := (if 0 ≤ k_ then some (decide (k_ < (n.nodes.length : Int))) else some false)
set_option maxHeartbeats 8000000 in
theorem sr09_isNode_ok (ax : Axs) (hx : Plain ax) (k : Nat) (n : Net) (k_ : Int) (v : Bool) (H : sr09_isNode k n k_ = some v) : Pure Tryz.prog (EE ax) [] 47 [eNet n, .int .i64 k_] (.bool v) := by
 rw [sr09_isNode] at H
 refine en [.tmp 4] 14 [0, 1] (hx.no _ (by decide)) (fn47 ax) ?_
 intro h hh
 repeat apply TW.seq
 refine rk [1, 2] [] hh ?_
 clear hh h
 intro h hh
 rcases isp H with ⟨c1, H⟩ | ⟨c1, H⟩
 rotate_left
 ·skip
  repeat apply TW.seq
  refine rk [4] [] (f2 hh (decide_eq_false c1)) ?_
  clear hh h
  intro h hh
  cases H
  exact rt hh
 repeat apply TW.seq
 refine rk [4] [] (f2 hh (decide_eq_true c1)) ?_
 clear hh h
 intro h hh
 cases H
 exact rt hh
def sr09_Check_L0 (k : Nat) (n : Net) : Nat → Int → Option (Int ⊕ Unit)
 | 0, _ => none
 | m + 1, i => (if i < (n.nodes.length : Int) then (if (0 : Int) ≤ i ∧ i < (n.nodes.length : Int) then (if ((gx n.nodes i).rules) < 0 then some (.inl 1) else (if 4000 < ((gx n.nodes i).rules) then some (.inl 1) else (if ((gx n.nodes i).entries) < 0 then some (.inl 1) else (if 100000 < ((gx n.nodes i).entries) then some (.inl 1) else sr09_Check_L0 k n m (IntKind.i64.wrap (i + 1)))))) else none) else some (.inr ()))
def sr09_Check_L1 (k : Nat) (n : Net) : Nat → Int → Option (Int ⊕ Unit)
 | 0, _ => none
 | m + 1, i2 => (if i2 < (n.links.length : Int) then (if (0 : Int) ≤ i2 ∧ i2 < (n.links.length : Int) then ((sr09_isNode k n ((gx n.links i2).frm)).bind fun risNode => (if risNode = true then ((sr09_isNode k n ((gx n.links i2).to)).bind fun risNode2 => (if risNode2 = true then (if ((gx n.links i2).frm) = ((gx n.links i2).to) then some (.inl 1) else (if ((gx n.links i2).cap) < 0 then some (.inl 1) else (if 1048576 < ((gx n.links i2).cap) then some (.inl 1) else sr09_Check_L1 k n m (IntKind.i64.wrap (i2 + 1))))) else some (.inl 1))) else some (.inl 1))) else none) else some (.inr ()))
def sr09_Check_L2 (k : Nat) (n : Net) : Nat → Int → Option (Int ⊕ Unit)
 | 0, _ => none
 | m + 1, i3 => (if i3 < (n.edges.length : Int) then (if (0 : Int) ≤ i3 ∧ i3 < (n.edges.length : Int) then ((sr09_isNode k n ((gx n.edges i3).node)).bind fun risNode3 => (if risNode3 = true then sr09_Check_L2 k n m (IntKind.i64.wrap (i3 + 1)) else some (.inl 1))) else none) else some (.inr ()))
def sr09_Check (k : Nat) (n : Net) : Option Int := (((if 200 < (n.nodes.length : Int) then some true else (if 2000 < (n.links.length : Int) then some true else some (decide (400 < (n.edges.length : Int))))) : Option Bool).bind fun s_ => (if s_ = true then some 2 else ((sr09_Names k n).bind fun rNames => ((sr09_named k rNames.1).bind fun rnamed => ((sr09_named k rNames.2).bind fun rnamed2 => (((if rnamed = true then some (!rnamed2) else some true) : Option Bool).bind fun s_2 => (if s_2 = true then some 4 else ((sr09_Check_L0 k n k 0 : Option (Int ⊕ Unit)).bind fun o3 => Sum.elim (fun r => some r) (fun s_3 => ((sr09_Check_L1 k n k 0 : Option (Int ⊕ Unit)).bind fun o2 => Sum.elim (fun r => some r) (fun s_4 => ((sr09_Check_L2 k n k 0 : Option (Int ⊕ Unit)).bind fun o => Sum.elim (fun r => some r) (fun s_5 => some 0) o)) o2)) o3))))))))
set_option maxHeartbeats 8000000 in
theorem sr09_Check_ok (ax : Axs) (hx : Plain ax) (k : Nat) (n : Net) (v : Int) (H : sr09_Check k n = some v) : Pure Tryz.prog (EE ax) [] 10 [eNet n] (.int .i64 v) := by
 rw [sr09_Check] at H
 refine en [.tmp 2] 130 [0] (hx.no _ (by decide)) (fn10 ax) ?_
 intro h hh
 repeat apply TW.seq
 refine rk [1] [] hh ?_
 clear hh h
 intro h hh
 obtain ⟨s_, H1, H⟩ := bsome H
 repeat apply TW.seq
 refine cu [1, 27] 1 (fun h bs => (h 1 = .ptr 0 0 3 ∧ h 27 = .bool s_) ∧ bs = [.cells true 3 [lNode n.nodes, lLink n.links, lEdge n.edges]]) ?_ ?_
 ·skip
  rcases isp H1 with ⟨c1, H1⟩ | ⟨c1, H1⟩
  rotate_left
  ·skip
   rcases isp H1 with ⟨c2, H1⟩ | ⟨c2, H1⟩
   rotate_left
   ·skip
    repeat apply TW.seq
    refine rk [1, 27] [] (f3 hh (decide_eq_false c1) (decide_eq_false c2)) ?_
    clear hh h
    intro h hh
    cases H1
    exact ce hh ⟨kq hh, rfl⟩
   repeat apply TW.seq
   refine rk [1, 27] [] (f3 hh (decide_eq_false c1) (decide_eq_true c2)) ?_
   clear hh h
   intro h hh
   cases H1
   exact ce hh ⟨kq hh, rfl⟩
  repeat apply TW.seq
  refine rk [1, 27] [] (f2 hh (decide_eq_true c1)) ?_
  clear hh h
  intro h hh
  cases H1
  exact ce hh ⟨kq hh, rfl⟩
 clear hh h
 rintro h bs ⟨hh, rfl⟩
 rcases isb H with ⟨c3, H⟩ | ⟨c3, H⟩
 rotate_left
 ·skip
  repeat apply TW.seq
  refine cf (f2 hh c3) ?_
  repeat apply TW.seq
  refine sk ?_
  obtain ⟨rNames, e4, H⟩ := bsome H
  repeat apply TW.seq
  refine rkc [1, 3, 4] [] [(.tup [strs rNames.1, strs rNames.2], stL [.cells true 3 [lNode n.nodes, lLink n.links, lEdge n.edges]])] (f2 hh c3) ?_ ?_
  ·exact ⟨Call0.call (Pure.clr (sr09_Names_ok ax hx k n rNames e4 ) (by first | rfl | simp only [c3])), trivial⟩
  clear hh h
  intro h hh
  obtain ⟨rnamed, e5, H⟩ := bsome H
  repeat apply TW.seq
  refine rkc [1, 4, 5] [] [(.bool rnamed, stL [.cells true 3 [lNode n.nodes, lLink n.links, lEdge n.edges]])] (f2 hh c3) ?_ ?_
  ·exact ⟨Call0.call (Pure.clr (sr09_named_ok ax hx k rNames.1 rnamed e5 ) (by first | rfl | simp only [c3])), trivial⟩
  clear hh h
  intro h hh
  obtain ⟨rnamed2, e6, H⟩ := bsome H
  repeat apply TW.seq
  refine rkc [1, 5, 6] [] [(.bool rnamed2, stL [.cells true 3 [lNode n.nodes, lLink n.links, lEdge n.edges]])] (f2 hh c3) ?_ ?_
  ·exact ⟨Call0.call (Pure.clr (sr09_named_ok ax hx k rNames.2 rnamed2 e6 ) (by first | rfl | simp only [c3])), trivial⟩
  clear hh h
  intro h hh
  obtain ⟨s_2, H1, H⟩ := bsome H
  repeat apply TW.seq
  refine cu [1, 42] 1 (fun h bs => (h 1 = .ptr 0 0 3 ∧ h 42 = .bool s_2) ∧ bs = [.cells true 3 [lNode n.nodes, lLink n.links, lEdge n.edges]]) ?_ ?_
  ·skip
   rcases isb H1 with ⟨c7, H1⟩ | ⟨c7, H1⟩
   rotate_left
   ·skip
    repeat apply TW.seq
    refine rk [1, 42] [] (f3 hh c7 c3) ?_
    clear hh h
    intro h hh
    cases H1
    exact ce hh ⟨kq hh, rfl⟩
   repeat apply TW.seq
   refine rk [1, 42] [] (f3 hh c7 c3) ?_
   clear hh h
   intro h hh
   cases H1
   exact ce hh ⟨kq hh, rfl⟩
  clear hh h
  rintro h bs ⟨hh, rfl⟩
  rcases isb H with ⟨c8, H⟩ | ⟨c8, H⟩
  rotate_left
  ·skip
   repeat apply TW.seq
   refine cf (f2 hh c8) ?_
   repeat apply TW.seq
   refine sk ?_
   repeat apply TW.seq
   refine rk [1, 7] [] (f3 hh c3 c8) ?_
   clear hh h
   intro h hh
   obtain ⟨o3, H1, H⟩ := bsome H
   repeat apply TW.seq
   refine cu [1] 1 (fun h bs => ∃ s_3 : Unit, o3 = .inr s_3 ∧ (h 1 = .ptr 0 0 3) ∧ bs = [.cells true 3 [lNode n.nodes, lLink n.links, lEdge n.edges]]) ?_ ?_
   ·skip
    repeat apply TW.seq
    apply TW.block
    repeat apply TW.seq
    refine TW.loopT [1, 7] (fun m h bs => ∃ (i : Int), sr09_Check_L0 k n m i = some o3 ∧ (h 1 = .ptr 0 0 3 ∧ h 7 = .int .i64 i) ∧ bs = [.cells true 3 [lNode n.nodes, lLink n.links, lEdge n.edges]]) ?_ k _ _ ?_
    rotate_left
    ·exact ⟨0, H1, kq hh, rfl⟩
    clear hh h H1
    rintro m h bs ⟨i, H1, hh, rfl⟩
    rcases m with _ | m
    ·rw [sr09_Check_L0] at H1; cases H1
    rw [sr09_Check_L0] at H1
    repeat apply TW.seq
    refine rk [1, 7, 47] [] (f3 hh c3 c8) ?_
    clear hh h
    intro h hh
    rcases isp H1 with ⟨c9, H1⟩ | ⟨c9, H1⟩
    rotate_left
    ·skip
     repeat apply TW.seq
     refine cf (f2 hh (decide_eq_false c9)) ?_
     refine xk ?_
     cases H1
     exact ce hh ⟨_, rfl, kq hh, rfl⟩
    repeat apply TW.seq
    refine ct (f2 hh (decide_eq_true c9)) ?_
    repeat apply TW.seq
    refine sk ?_
    repeat apply TW.seq
    apply TW.block
    obtain ⟨g10, H1⟩ := isg H1
    repeat apply TW.seq
    refine rk [1, 7, 8] [] (f3 hh c3 (f2 c8 (gx_some g10))) ?_
    clear hh h
    intro h hh
    rcases isp H1 with ⟨c11, H1⟩ | ⟨c11, H1⟩
    rotate_left
    ·skip
     rcases isp H1 with ⟨c12, H1⟩ | ⟨c12, H1⟩
     rotate_left
     ·skip
      rcases isp H1 with ⟨c13, H1⟩ | ⟨c13, H1⟩
      rotate_left
      ·skip
       repeat apply TW.seq
       refine rk [1, 7, 72] [] (f3 hh (decide_eq_false c11) (f3 (decide_eq_false c12) (decide_eq_false c13) (f2 c3 c8))) ?_
       clear hh h
       intro h hh
       rcases isp H1 with ⟨c14, H1⟩ | ⟨c14, H1⟩
       rotate_left
       ·skip
        repeat apply TW.seq
        refine cf (f2 hh (decide_eq_false c14)) ?_
        repeat apply TW.seq
        refine sk ?_
        repeat apply TW.seq
        refine rk [1, 7] [] (f3 hh c3 c8) ?_
        clear hh h
        intro h hh
        exact rd m hh ⟨(IntKind.i64.wrap (i + 1)), H1, kq hh, rfl⟩
       repeat apply TW.seq
       refine ct (f2 hh (decide_eq_true c14)) ?_
       repeat apply TW.seq
       refine rk [2] [] (f3 hh c3 c8) ?_
       clear hh h
       intro h hh
       cases H1
       obtain rfl := sinl H
       exact rt hh
      repeat apply TW.seq
      refine rk [1, 7, 72] [] (f3 hh (decide_eq_false c11) (f3 (decide_eq_false c12) (decide_eq_true c13) (f2 c3 c8))) ?_
      clear hh h
      intro h hh
      repeat apply TW.seq
      refine ct hh ?_
      repeat apply TW.seq
      refine rk [2] [] (f3 hh c3 c8) ?_
      clear hh h
      intro h hh
      cases H1
      obtain rfl := sinl H
      exact rt hh
     repeat apply TW.seq
     refine rk [1, 7, 72] [] (f3 hh (decide_eq_false c11) (f3 (decide_eq_true c12) c3 c8)) ?_
     clear hh h
     intro h hh
     repeat apply TW.seq
     refine ct hh ?_
     repeat apply TW.seq
     refine rk [2] [] (f3 hh c3 c8) ?_
     clear hh h
     intro h hh
     cases H1
     obtain rfl := sinl H
     exact rt hh
    repeat apply TW.seq
    refine rk [1, 7, 72] [] (f3 hh (decide_eq_true c11) (f2 c3 c8)) ?_
    clear hh h
    intro h hh
    repeat apply TW.seq
    refine ct hh ?_
    repeat apply TW.seq
    refine rk [2] [] (f3 hh c3 c8) ?_
    clear hh h
    intro h hh
    cases H1
    obtain rfl := sinl H
    exact rt hh
   clear hh h
   rintro h bs ⟨s_3, rfl, hh, rfl⟩
   replace H := sinr H
   repeat apply TW.seq
   refine rk [1, 9] [] (f3 hh c3 c8) ?_
   clear hh h
   intro h hh
   obtain ⟨o2, H1, H⟩ := bsome H
   repeat apply TW.seq
   refine cu [1] 1 (fun h bs => ∃ s_4 : Unit, o2 = .inr s_4 ∧ (h 1 = .ptr 0 0 3) ∧ bs = [.cells true 3 [lNode n.nodes, lLink n.links, lEdge n.edges]]) ?_ ?_
   ·skip
    repeat apply TW.seq
    apply TW.block
    repeat apply TW.seq
    refine TW.loopT [1, 9] (fun m h bs => ∃ (i2 : Int), sr09_Check_L1 k n m i2 = some o2 ∧ (h 1 = .ptr 0 0 3 ∧ h 9 = .int .i64 i2) ∧ bs = [.cells true 3 [lNode n.nodes, lLink n.links, lEdge n.edges]]) ?_ k _ _ ?_
    rotate_left
    ·exact ⟨0, H1, kq hh, rfl⟩
    clear hh h H1
    rintro m h bs ⟨i2, H1, hh, rfl⟩
    rcases m with _ | m
    ·rw [sr09_Check_L1] at H1; cases H1
    rw [sr09_Check_L1] at H1
    repeat apply TW.seq
    refine rk [1, 9, 77] [] (f3 hh c3 c8) ?_
    clear hh h
    intro h hh
    rcases isp H1 with ⟨c15, H1⟩ | ⟨c15, H1⟩
    rotate_left
    ·skip
     repeat apply TW.seq
     refine cf (f2 hh (decide_eq_false c15)) ?_
     refine xk ?_
     cases H1
     exact ce hh ⟨_, rfl, kq hh, rfl⟩
    repeat apply TW.seq
    refine ct (f2 hh (decide_eq_true c15)) ?_
    repeat apply TW.seq
    refine sk ?_
    repeat apply TW.seq
    apply TW.block
    obtain ⟨g16, H1⟩ := isg H1
    repeat apply TW.seq
    refine rk [1, 9, 10] [] (f3 hh c3 (f2 c8 (gx_some g16))) ?_
    clear hh h
    intro h hh
    obtain ⟨risNode, e17, H1⟩ := bsome H1
    rcases isb H1 with ⟨c18, H1⟩ | ⟨c18, H1⟩
    rotate_left
    ·skip
     repeat apply TW.seq
     refine rkc [1, 9, 113] [] [(.bool risNode, stL [.cells true 3 [lNode n.nodes, lLink n.links, lEdge n.edges], .cells true 3 [.int .i64 ((gx n.links i2).frm), .int .i64 ((gx n.links i2).to), .int .i64 ((gx n.links i2).cap)]])] (f3 hh c18 (f2 c3 c8)) ?_ ?_
     ·exact ⟨Call0.call (Pure.clr (sr09_isNode_ok ax hx k n ((gx n.links i2).frm) risNode e17 ) (by first | rfl | simp only [c3, c8, c18])), trivial⟩
     clear hh h
     intro h hh
     repeat apply TW.seq
     refine ct hh ?_
     repeat apply TW.seq
     refine rk [2] [] (f3 hh c3 (f2 c8 c18)) ?_
     clear hh h
     intro h hh
     cases H1
     obtain rfl := sinl H
     exact rt hh
    obtain ⟨risNode2, e19, H1⟩ := bsome H1
    rcases isb H1 with ⟨c20, H1⟩ | ⟨c20, H1⟩
    rotate_left
    ·skip
     repeat apply TW.seq
     refine rkc [1, 9, 113] [] [(.bool risNode, stL [.cells true 3 [lNode n.nodes, lLink n.links, lEdge n.edges], .cells true 3 [.int .i64 ((gx n.links i2).frm), .int .i64 ((gx n.links i2).to), .int .i64 ((gx n.links i2).cap)]]), (.bool risNode2, stL [.cells true 3 [lNode n.nodes, lLink n.links, lEdge n.edges], .cells true 3 [.int .i64 ((gx n.links i2).frm), .int .i64 ((gx n.links i2).to), .int .i64 ((gx n.links i2).cap)]])] (f3 hh c18 (f3 c20 c3 c8)) ?_ ?_
     ·exact ⟨Call0.call (Pure.clr (sr09_isNode_ok ax hx k n ((gx n.links i2).frm) risNode e17 ) (by first | rfl | simp only [c3, c8, c18, c20])), Call0.call (Pure.clr (sr09_isNode_ok ax hx k n ((gx n.links i2).to) risNode2 e19 ) (by first | rfl | simp only [c3, c8, c18, c20])), trivial⟩
     clear hh h
     intro h hh
     repeat apply TW.seq
     refine ct hh ?_
     repeat apply TW.seq
     refine rk [2] [] (f3 hh c3 (f3 c8 c18 c20)) ?_
     clear hh h
     intro h hh
     cases H1
     obtain rfl := sinl H
     exact rt hh
    rcases isp H1 with ⟨c21, H1⟩ | ⟨c21, H1⟩
    rotate_left
    ·skip
     rcases isp H1 with ⟨c22, H1⟩ | ⟨c22, H1⟩
     rotate_left
     ·skip
      repeat apply TW.seq
      refine rkc [1, 9, 113] [] [(.bool risNode, stL [.cells true 3 [lNode n.nodes, lLink n.links, lEdge n.edges], .cells true 3 [.int .i64 ((gx n.links i2).frm), .int .i64 ((gx n.links i2).to), .int .i64 ((gx n.links i2).cap)]]), (.bool risNode2, stL [.cells true 3 [lNode n.nodes, lLink n.links, lEdge n.edges], .cells true 3 [.int .i64 ((gx n.links i2).frm), .int .i64 ((gx n.links i2).to), .int .i64 ((gx n.links i2).cap)]])] (f3 hh c18 (f3 c20 (decide_eq_false c21) (f3 (decide_eq_false c22) c3 c8))) ?_ ?_
      ·exact ⟨Call0.call (Pure.clr (sr09_isNode_ok ax hx k n ((gx n.links i2).frm) risNode e17 ) (by first | rfl | simp only [c3, c8, c18, c20])), Call0.call (Pure.clr (sr09_isNode_ok ax hx k n ((gx n.links i2).to) risNode2 e19 ) (by first | rfl | simp only [c3, c8, c18, c20])), trivial⟩
      clear hh h
      intro h hh
      rcases isp H1 with ⟨c23, H1⟩ | ⟨c23, H1⟩
      rotate_left
      ·skip
       repeat apply TW.seq
       refine cf (f2 hh (decide_eq_false c23)) ?_
       repeat apply TW.seq
       refine sk ?_
       repeat apply TW.seq
       refine rk [1, 9] [] (f3 hh c3 (f3 c8 c18 c20)) ?_
       clear hh h
       intro h hh
       exact rd m hh ⟨(IntKind.i64.wrap (i2 + 1)), H1, kq hh, rfl⟩
      repeat apply TW.seq
      refine ct (f2 hh (decide_eq_true c23)) ?_
      repeat apply TW.seq
      refine rk [2] [] (f3 hh c3 (f3 c8 c18 c20)) ?_
      clear hh h
      intro h hh
      cases H1
      obtain rfl := sinl H
      exact rt hh
     repeat apply TW.seq
     refine rkc [1, 9, 113] [] [(.bool risNode, stL [.cells true 3 [lNode n.nodes, lLink n.links, lEdge n.edges], .cells true 3 [.int .i64 ((gx n.links i2).frm), .int .i64 ((gx n.links i2).to), .int .i64 ((gx n.links i2).cap)]]), (.bool risNode2, stL [.cells true 3 [lNode n.nodes, lLink n.links, lEdge n.edges], .cells true 3 [.int .i64 ((gx n.links i2).frm), .int .i64 ((gx n.links i2).to), .int .i64 ((gx n.links i2).cap)]])] (f3 hh c18 (f3 c20 (decide_eq_false c21) (f3 (decide_eq_true c22) c3 c8))) ?_ ?_
     ·exact ⟨Call0.call (Pure.clr (sr09_isNode_ok ax hx k n ((gx n.links i2).frm) risNode e17 ) (by first | rfl | simp only [c3, c8, c18, c20])), Call0.call (Pure.clr (sr09_isNode_ok ax hx k n ((gx n.links i2).to) risNode2 e19 ) (by first | rfl | simp only [c3, c8, c18, c20])), trivial⟩
     clear hh h
     intro h hh
     repeat apply TW.seq
     refine ct hh ?_
     repeat apply TW.seq
     refine rk [2] [] (f3 hh c3 (f3 c8 c18 c20)) ?_
     clear hh h
     intro h hh
     cases H1
     obtain rfl := sinl H
     exact rt hh
    repeat apply TW.seq
    refine rkc [1, 9, 113] [] [(.bool risNode, stL [.cells true 3 [lNode n.nodes, lLink n.links, lEdge n.edges], .cells true 3 [.int .i64 ((gx n.links i2).frm), .int .i64 ((gx n.links i2).to), .int .i64 ((gx n.links i2).cap)]]), (.bool risNode2, stL [.cells true 3 [lNode n.nodes, lLink n.links, lEdge n.edges], .cells true 3 [.int .i64 ((gx n.links i2).frm), .int .i64 ((gx n.links i2).to), .int .i64 ((gx n.links i2).cap)]])] (f3 hh c18 (f3 c20 (decide_eq_true c21) (f2 c3 c8))) ?_ ?_
    ·exact ⟨Call0.call (Pure.clr (sr09_isNode_ok ax hx k n ((gx n.links i2).frm) risNode e17 ) (by first | rfl | simp only [c3, c8, c18, c20])), Call0.call (Pure.clr (sr09_isNode_ok ax hx k n ((gx n.links i2).to) risNode2 e19 ) (by first | rfl | simp only [c3, c8, c18, c20])), trivial⟩
    clear hh h
    intro h hh
    repeat apply TW.seq
    refine ct hh ?_
    repeat apply TW.seq
    refine rk [2] [] (f3 hh c3 (f3 c8 c18 c20)) ?_
    clear hh h
    intro h hh
    cases H1
    obtain rfl := sinl H
    exact rt hh
   clear hh h
   rintro h bs ⟨s_4, rfl, hh, rfl⟩
   replace H := sinr H
   repeat apply TW.seq
   refine rk [1, 11] [] (f3 hh c3 c8) ?_
   clear hh h
   intro h hh
   obtain ⟨o, H1, H⟩ := bsome H
   repeat apply TW.seq
   refine cu [] 1 (fun h bs => ∃ s_5 : Unit, o = .inr s_5 ∧ (True) ∧ bs = [.cells true 3 [lNode n.nodes, lLink n.links, lEdge n.edges]]) ?_ ?_
   ·skip
    repeat apply TW.seq
    apply TW.block
    repeat apply TW.seq
    refine TW.loopT [1, 11] (fun m h bs => ∃ (i3 : Int), sr09_Check_L2 k n m i3 = some o ∧ (h 1 = .ptr 0 0 3 ∧ h 11 = .int .i64 i3) ∧ bs = [.cells true 3 [lNode n.nodes, lLink n.links, lEdge n.edges]]) ?_ k _ _ ?_
    rotate_left
    ·exact ⟨0, H1, kq hh, rfl⟩
    clear hh h H1
    rintro m h bs ⟨i3, H1, hh, rfl⟩
    rcases m with _ | m
    ·rw [sr09_Check_L2] at H1; cases H1
    rw [sr09_Check_L2] at H1
    repeat apply TW.seq
    refine rk [1, 11, 118] [] (f3 hh c3 c8) ?_
    clear hh h
    intro h hh
    rcases isp H1 with ⟨c24, H1⟩ | ⟨c24, H1⟩
    rotate_left
    ·skip
     repeat apply TW.seq
     refine cf (f2 hh (decide_eq_false c24)) ?_
     refine xk ?_
     cases H1
     exact ce hh ⟨_, rfl, kq hh, rfl⟩
    repeat apply TW.seq
    refine ct (f2 hh (decide_eq_true c24)) ?_
    repeat apply TW.seq
    refine sk ?_
    repeat apply TW.seq
    apply TW.block
    obtain ⟨g25, H1⟩ := isg H1
    obtain ⟨risNode3, e26, H1⟩ := bsome H1
    repeat apply TW.seq
    refine dk 7 [1, 11, 129] [] [] [(.bool risNode3, stL [.cells true 3 [lNode n.nodes, lLink n.links, lEdge n.edges]])] (f3 hh c3 (f2 c8 (gx_some g25))) trivial ?_ ?_
    ·exact ⟨Call0.call (Pure.clr (sr09_isNode_ok ax hx k n ((gx n.edges i3).node) risNode3 e26 ) (by first | rfl | simp only [c3, c8])), trivial⟩
    clear hh h
    intro h hh
    rcases isb H1 with ⟨c27, H1⟩ | ⟨c27, H1⟩
    rotate_left
    ·skip
     repeat apply TW.seq
     refine ct (f2 hh c27) ?_
     repeat apply TW.seq
     refine rk [2] [] (f3 hh c3 (f2 c8 c27)) ?_
     clear hh h
     intro h hh
     cases H1
     obtain rfl := sinl H
     exact rt hh
    repeat apply TW.seq
    refine cf (f2 hh c27) ?_
    repeat apply TW.seq
    refine sk ?_
    repeat apply TW.seq
    refine rk [1, 11] [] (f3 hh c3 (f2 c8 c27)) ?_
    clear hh h
    intro h hh
    exact rd m hh ⟨(IntKind.i64.wrap (i3 + 1)), H1, kq hh, rfl⟩
   clear hh h
   rintro h bs ⟨s_5, rfl, hh, rfl⟩
   replace H := sinr H
   repeat apply TW.seq
   refine rk [2] [] (f3 hh c3 c8) ?_
   clear hh h
   intro h hh
   cases H
   exact rt hh
  repeat apply TW.seq
  refine ct (f2 hh c8) ?_
  repeat apply TW.seq
  refine rk [2] [] (f3 hh c3 c8) ?_
  clear hh h
  intro h hh
  cases H
  exact rt hh
 repeat apply TW.seq
 refine ct (f2 hh c3) ?_
 repeat apply TW.seq
 refine rk [2] [] (f2 hh c3) ?_
 clear hh h
 intro h hh
 cases H
 exact rt hh
def sr25_Few_L1 (k : Nat) (t : List Rule) (k_ : Int) : Nat → Int → Option (Bool ⊕ Unit)
 | 0, _ => none
 | m + 1, i => (if i < (((gx t k_).outs).length : Int) then (if (0 : Int) ≤ i ∧ i < (((gx t k_).outs).length : Int) then (if 10 < ((gx ((gx t k_).outs) i).length : Int) then some (.inl false) else sr25_Few_L1 k t k_ m (IntKind.i64.wrap (i + 1))) else none) else some (.inr ()))
def sr25_Few_L0 (k : Nat) (t : List Rule) : Nat → Int → Option (Bool ⊕ Unit)
 | 0, _ => none
 | m + 1, k_ => (if k_ < (t.length : Int) then (((if (0 : Int) ≤ k_ ∧ k_ < (t.length : Int) then (if 20 < (((gx t k_).outs).length : Int) then some (.inl false) else ((sr25_Few_L1 k t k_ k 0 : Option (Bool ⊕ Unit)).bind fun o => Sum.elim (fun r => some (.inl r)) (fun s_3 => some (.inr ())) o)) else none) : Option (Bool ⊕ Unit)).bind fun o2 => Sum.elim (fun r => some (.inl r)) (fun s_2 => sr25_Few_L0 k t m (IntKind.i64.wrap (k_ + 1))) o2) else some (.inr ()))
def sr25_Few (k : Nat) (t : List Rule) (most : Int) : Option Bool := ((sr25_Few_L0 k t k 0 : Option (Bool ⊕ Unit)).bind fun o3 => Sum.elim (fun r => some r) (fun s_ => some (decide ((t.length : Int) ≤ most))) o3)
set_option maxHeartbeats 8000000 in
theorem sr25_Few_ok (ax : Axs) (hx : Plain ax) (k : Nat) (t : List Rule) (most : Int) (v : Bool) (H : sr25_Few k t most = some v) : Pure Tryz.prog (EE ax) [] 11 [lRule t, .int .i64 most] (.bool v) := by
 rw [sr25_Few] at H
 refine en [.tmp 4] 44 [0, 1] (hx.no _ (by decide)) (fn11 ax) ?_
 intro h hh
 repeat apply TW.seq
 refine rk [0, 1] [] hh ?_
 clear hh h
 intro h hh
 repeat apply TW.seq
 refine rk [0, 1, 5] [] hh ?_
 clear hh h
 intro h hh
 obtain ⟨o3, H1, H⟩ := bsome H
 repeat apply TW.seq
 refine cu [0, 1] 0 (fun h bs => ∃ s_ : Unit, o3 = .inr s_ ∧ (h 0 = lRule t ∧ h 1 = .int .i64 most) ∧ bs = []) ?_ ?_
 ·skip
  repeat apply TW.seq
  apply TW.block
  repeat apply TW.seq
  refine TW.loopT [0, 1, 5] (fun m h bs => ∃ (k_ : Int), sr25_Few_L0 k t m k_ = some o3 ∧ (h 0 = lRule t ∧ h 1 = .int .i64 most ∧ h 5 = .int .i64 k_) ∧ bs = []) ?_ k _ _ ?_
  rotate_left
  ·exact ⟨0, H1, kq hh, rfl⟩
  clear hh h H1
  rintro m h bs ⟨k_, H1, hh, rfl⟩
  rcases m with _ | m
  ·rw [sr25_Few_L0] at H1; cases H1
  rw [sr25_Few_L0] at H1
  repeat apply TW.seq
  refine rk [0, 1, 5, 10] [] hh ?_
  clear hh h
  intro h hh
  rcases isp H1 with ⟨c1, H1⟩ | ⟨c1, H1⟩
  rotate_left
  ·skip
   repeat apply TW.seq
   refine cf (f2 hh (decide_eq_false c1)) ?_
   refine xk ?_
   cases H1
   exact ce hh ⟨_, rfl, kq hh, rfl⟩
  repeat apply TW.seq
  refine ct (f2 hh (decide_eq_true c1)) ?_
  repeat apply TW.seq
  refine sk ?_
  obtain ⟨o2, H2, H1⟩ := bsome H1
  repeat apply TW.seq
  refine cu [0, 1, 5] 0 (fun h bs => ∃ s_2 : Unit, o2 = .inr s_2 ∧ (h 0 = lRule t ∧ h 1 = .int .i64 most ∧ h 5 = .int .i64 k_) ∧ bs = []) ?_ ?_
  ·skip
   repeat apply TW.seq
   apply TW.block
   obtain ⟨g2, H2⟩ := isg H2
   repeat apply TW.seq
   refine rk [0, 1, 5, 19] [] (f2 hh (gx_some g2)) ?_
   clear hh h
   intro h hh
   rcases isp H2 with ⟨c3, H2⟩ | ⟨c3, H2⟩
   rotate_left
   ·skip
    repeat apply TW.seq
    refine cf (f2 hh (decide_eq_false c3)) ?_
    repeat apply TW.seq
    refine sk ?_
    repeat apply TW.seq
    refine rk [0, 1, 5, 6] [] hh ?_
    clear hh h
    intro h hh
    obtain ⟨o, H3, H2⟩ := bsome H2
    repeat apply TW.seq
    refine cu [0, 1, 5] 0 (fun h bs => ∃ s_3 : Unit, o = .inr s_3 ∧ (h 0 = lRule t ∧ h 1 = .int .i64 most ∧ h 5 = .int .i64 k_) ∧ bs = []) ?_ ?_
    ·skip
     repeat apply TW.seq
     apply TW.block
     repeat apply TW.seq
     refine TW.loopT [0, 1, 5, 6] (fun m h bs => ∃ (i : Int), sr25_Few_L1 k t k_ m i = some o ∧ (h 0 = lRule t ∧ h 1 = .int .i64 most ∧ h 5 = .int .i64 k_ ∧ h 6 = .int .i64 i) ∧ bs = []) ?_ k _ _ ?_
     rotate_left
     ·exact ⟨0, H3, kq hh, rfl⟩
     clear hh h H3
     rintro m h bs ⟨i, H3, hh, rfl⟩
     rcases m with _ | m
     ·rw [sr25_Few_L1] at H3; cases H3
     rw [sr25_Few_L1] at H3
     repeat apply TW.seq
     refine rk [0, 1, 5, 6, 27] [] (f2 hh (gx_some g2)) ?_
     clear hh h
     intro h hh
     rcases isp H3 with ⟨c4, H3⟩ | ⟨c4, H3⟩
     rotate_left
     ·skip
      repeat apply TW.seq
      refine cf (f2 hh (decide_eq_false c4)) ?_
      refine xk ?_
      cases H3
      exact ce hh ⟨_, rfl, kq hh, rfl⟩
     repeat apply TW.seq
     refine ct (f2 hh (decide_eq_true c4)) ?_
     repeat apply TW.seq
     refine sk ?_
     repeat apply TW.seq
     apply TW.block
     obtain ⟨g5, H3⟩ := isg H3
     repeat apply TW.seq
     refine rk [0, 1, 5, 6, 39] [] (f3 hh (gx_some g2) (gx_some g5)) ?_
     clear hh h
     intro h hh
     rcases isp H3 with ⟨c6, H3⟩ | ⟨c6, H3⟩
     rotate_left
     ·skip
      repeat apply TW.seq
      refine cf (f2 hh (decide_eq_false c6)) ?_
      repeat apply TW.seq
      refine sk ?_
      repeat apply TW.seq
      refine rk [0, 1, 5, 6] [] hh ?_
      clear hh h
      intro h hh
      exact rd m hh ⟨(IntKind.i64.wrap (i + 1)), H3, kq hh, rfl⟩
     repeat apply TW.seq
     refine ct (f2 hh (decide_eq_true c6)) ?_
     repeat apply TW.seq
     refine rk [4] [] hh ?_
     clear hh h
     intro h hh
     cases H3
     obtain rfl := sinm H2
     obtain rfl := sinm H1
     obtain rfl := sinl H
     exact rt hh
    clear hh h
    rintro h bs ⟨s_3, rfl, hh, rfl⟩
    replace H2 := sinr H2
    cases H2
    exact ce hh ⟨_, rfl, kq hh, rfl⟩
   repeat apply TW.seq
   refine ct (f2 hh (decide_eq_true c3)) ?_
   repeat apply TW.seq
   refine rk [4] [] hh ?_
   clear hh h
   intro h hh
   cases H2
   obtain rfl := sinm H1
   obtain rfl := sinl H
   exact rt hh
  clear hh h
  rintro h bs ⟨s_2, rfl, hh, rfl⟩
  replace H1 := sinr H1
  repeat apply TW.seq
  refine rk [0, 1, 5] [] hh ?_
  clear hh h
  intro h hh
  exact rd m hh ⟨(IntKind.i64.wrap (k_ + 1)), H1, kq hh, rfl⟩
 clear hh h
 rintro h bs ⟨s_, rfl, hh, rfl⟩
 replace H := sinr H
 repeat apply TW.seq
 refine rk [4] [] hh ?_
 clear hh h
 intro h hh
 cases H
 exact rt hh
end Go.Proofs.YtjgbkegkcbcjaaaGreat
namespace Go.Proofs.YtjgbkegkcbcjaaaGreat
open Go Go.RowKit
set_option maxRecDepth 100000
def sbits_Match_L0 (k : Nat) (p : Pat) (h_ : Ar 10) : Nat → Int → Option (Bool ⊕ Unit)
 | 0, _ => none
 | m + 1, i => (if i < 10 then (if (0 : Int) ≤ i ∧ i < (10 : Int) then (if (iAnd .i64 (iXor .i64 (gx p.bits.l i) (gx h_.l i)) (gx p.mask.l i)) ≠ 0 then some (.inl false) else sbits_Match_L0 k p h_ m (IntKind.i64.wrap (i + 1))) else none) else some (.inr ()))
def sbits_Match (k : Nat) (p : Pat) (h_ : Ar 10) : Option Bool := ((sbits_Match_L0 k p h_ k 0 : Option (Bool ⊕ Unit)).bind fun o => Sum.elim (fun r => some r) (fun s_ => some true) o)
set_option maxHeartbeats 8000000 in
theorem sbits_Match_ok (ax : Axs) (hx : Plain ax) (k : Nat) (p : Pat) (h_ : Ar 10) (v : Bool) (H : sbits_Match k p h_ = some v) : Pure Tryz.prog (EE ax) [] 64 [ePat p, .agg (h_.l.map (T.int .i64))] (.bool v) := by
 rw [sbits_Match] at H
 refine en [.tmp 4] 24 [0, 1] (hx.no _ (by decide)) (fn64 ax) ?_
 intro h hh
 repeat apply TW.seq
 refine rk [2, 3] [] hh ?_
 clear hh h
 intro h hh
 repeat apply TW.seq
 refine rk [2, 3, 6] [] hh ?_
 clear hh h
 intro h hh
 obtain ⟨o, H1, H⟩ := bsome H
 repeat apply TW.seq
 refine cu [] 2 (fun h bs => ∃ s_ : Unit, o = .inr s_ ∧ (True) ∧ bs = [.cells true 20 (p.mask.l.map (T.int .i64) ++ (p.bits.l.map (T.int .i64))), .cells true 10 (h_.l.map (T.int .i64))]) ?_ ?_
 ·skip
  repeat apply TW.seq
  apply TW.block
  repeat apply TW.seq
  refine TW.loopT [2, 3, 6] (fun m h bs => ∃ (i : Int), sbits_Match_L0 k p h_ m i = some o ∧ (h 2 = .ptr 0 0 20 ∧ h 3 = .ptr 1 0 10 ∧ h 6 = .int .i64 i) ∧ bs = [.cells true 20 (p.mask.l.map (T.int .i64) ++ (p.bits.l.map (T.int .i64))), .cells true 10 (h_.l.map (T.int .i64))]) ?_ k _ _ ?_
  rotate_left
  ·exact ⟨0, H1, kq hh, rfl⟩
  clear hh h H1
  rintro m h bs ⟨i, H1, hh, rfl⟩
  rcases m with _ | m
  ·rw [sbits_Match_L0] at H1; cases H1
  rw [sbits_Match_L0] at H1
  repeat apply TW.seq
  refine rk [2, 3, 6, 7] [] hh ?_
  clear hh h
  intro h hh
  rcases isp H1 with ⟨c1, H1⟩ | ⟨c1, H1⟩
  rotate_left
  ·skip
   repeat apply TW.seq
   refine cf (f2 hh (decide_eq_false c1)) ?_
   refine xk ?_
   cases H1
   exact ce hh ⟨_, rfl, kq hh, rfl⟩
  repeat apply TW.seq
  refine ct (f2 hh (decide_eq_true c1)) ?_
  repeat apply TW.seq
  refine sk ?_
  repeat apply TW.seq
  apply TW.block
  repeat apply TW.seq
  refine rk [2, 3, 5, 6] [] hh ?_
  clear hh h
  intro h hh
  obtain ⟨g2, H1⟩ := isg H1
  repeat apply TW.seq
  refine dk 12 [2, 3, 6, 22] [] [] [] (f3 hh (cellAt (k := .i64) (off := 10) (L := (p.mask.l.map (T.int .i64) ++ (p.bits.l.map (T.int .i64)))) (r := []) p.bits g2) (f2 (arIx h_ g2) (cellAt0 (k := .i64) (L := (p.mask.l.map (T.int .i64) ++ (p.bits.l.map (T.int .i64)))) (r := (p.bits.l.map (T.int .i64))) p.mask g2))) trivial trivial ?_
  clear hh h
  intro h hh
  rcases isp H1 with ⟨c3, H1⟩ | ⟨c3, H1⟩
  rotate_left
  ·skip
   repeat apply TW.seq
   refine cf (f2 hh (decide_eq_false c3)) ?_
   repeat apply TW.seq
   refine sk ?_
   repeat apply TW.seq
   refine rk [2, 3, 6] [] hh ?_
   clear hh h
   intro h hh
   exact rd m hh ⟨(IntKind.i64.wrap (i + 1)), H1, kq hh, rfl⟩
  repeat apply TW.seq
  refine ct (f2 hh (decide_eq_true c3)) ?_
  repeat apply TW.seq
  refine rk [4] [] hh ?_
  clear hh h
  intro h hh
  cases H1
  obtain rfl := sinl H
  exact rt hh
 clear hh h
 rintro h bs ⟨s_, rfl, hh, rfl⟩
 replace H := sinr H
 repeat apply TW.seq
 refine rk [4] [] hh ?_
 clear hh h
 intro h hh
 cases H
 exact rt hh
def stable_Lookup_1 (k : Nat) (r : Rule) (fv : Ar 10) : Option Bool := ((sbits_Match k r.mat fv).bind fun rMatch => some rMatch)
set_option maxHeartbeats 8000000 in
theorem stable_Lookup_1_ok (ax : Axs) (hx : Plain ax) (k : Nat) (r : Rule) (fv : Ar 10) (v : Bool) (H : stable_Lookup_1 k r fv = some v) : Pure Tryz.prog (EE ax) [] 63 [eRule r, .cp (fv.l.map (T.int .i64))] (.bool v) := by
 rw [stable_Lookup_1] at H
 refine en [.tmp 3] 8 [0, 1] (hx.no _ (by decide)) (fn63 ax) ?_
 intro h hh
 repeat apply TW.seq
 refine rk [1, 2] [] hh ?_
 clear hh h
 intro h hh
 obtain ⟨rMatch, e1, H⟩ := bsome H
 repeat apply TW.seq
 refine rkc [3] [] [(.bool rMatch, stL [.cells true 23 (T.int .i64 r.prio :: (r.mat.mask.l.map (T.int .i64) ++ (r.mat.bits.l.map (T.int .i64) ++ [T.int .i64 r.step, lLAlt r.outs])))])] hh ?_ ?_
 ·exact ⟨Call0.call ((sbits_Match_ok ax hx k r.mat fv rMatch e1 ).call _), trivial⟩
 clear hh h
 intro h hh
 cases H
 exact rt hh
def sslices_IndexFunc_Rule_L0 (k : Nat) (s_ : List Rule) (f_ : Rule → Option Bool) : Nat → Int → Option (Int ⊕ Unit)
 | 0, _ => none
 | m + 1, i => (if i < (s_.length : Int) then (if (0 : Int) ≤ i ∧ i < (s_.length : Int) then ((f_ (gx s_ i)).bind fun r => (if r = true then some (.inl i) else sslices_IndexFunc_Rule_L0 k s_ f_ m (IntKind.i64.wrap (i + 1)))) else none) else some (.inr ()))
def sslices_IndexFunc_Rule (k : Nat) (s_ : List Rule) (f_ : Rule → Option Bool) : Option Int := ((sslices_IndexFunc_Rule_L0 k s_ f_ k 0 : Option (Int ⊕ Unit)).bind fun o => Sum.elim (fun r => some r) (fun s_2 => some (-1)) o)
set_option maxHeartbeats 8000000 in
theorem sslices_IndexFunc_Rule_ok (ax : Axs) (hx : Plain ax) (k : Nat) (s_ : List Rule) (f_ : Rule → Option Bool) (v : Int) (H : sslices_IndexFunc_Rule k s_ f_ = some v) (f__f : Nat) (f__c : List T) (f__i : T.idsL 0 f__c = true) (f__h : ∀ (y0 : Rule) (w : Bool), f_ y0 = some w → Pure Tryz.prog (EE ax) [] f__f ([] ++ [eRule y0] ++ f__c) (.bool w)) : Pure Tryz.prog (EE ax) [] 62 [lRule s_, .fn f__f [] f__c] (.int .i64 v) := by
 rw [sslices_IndexFunc_Rule] at H
 refine en (ha := by simp only [ids2B, ids2C, idsA, idsB, f__i, Bool.and_self]) [.tmp 4] 19 [0, 1] (hx.no _ (by decide)) (fn62 ax) ?_
 intro h hh
 repeat apply TW.seq
 refine rk [0, 1] [] hh ?_
 clear hh h
 intro h hh
 repeat apply TW.seq
 refine rk [0, 1, 7, 8] [] hh ?_
 clear hh h
 intro h hh
 obtain ⟨o, H1, H⟩ := bsome H
 repeat apply TW.seq
 refine cu [] 0 (fun h bs => ∃ s_2 : Unit, o = .inr s_2 ∧ (True) ∧ bs = []) ?_ ?_
 ·skip
  repeat apply TW.seq
  apply TW.block
  repeat apply TW.seq
  refine TW.loopT [0, 1, 7, 8] (fun m h bs => ∃ (i : Int), sslices_IndexFunc_Rule_L0 k s_ f_ m i = some o ∧ (h 0 = lRule s_ ∧ h 1 = .fn f__f [] f__c ∧ h 7 = .int .i64 (s_.length : Int) ∧ h 8 = .int .i64 i) ∧ bs = []) ?_ k _ _ ?_
  rotate_left
  ·exact ⟨0, H1, kq hh, rfl⟩
  clear hh h H1
  rintro m h bs ⟨i, H1, hh, rfl⟩
  rcases m with _ | m
  ·rw [sslices_IndexFunc_Rule_L0] at H1; cases H1
  rw [sslices_IndexFunc_Rule_L0] at H1
  repeat apply TW.seq
  refine rk [0, 1, 7, 8, 9] [] hh ?_
  clear hh h
  intro h hh
  rcases isp H1 with ⟨c1, H1⟩ | ⟨c1, H1⟩
  rotate_left
  ·skip
   repeat apply TW.seq
   refine cf (f2 hh (decide_eq_false c1)) ?_
   refine xk ?_
   cases H1
   exact ce (f2 hh ((fun m => idsL_more (Nat.zero_le m) f__i))) ⟨_, rfl, kq hh, rfl⟩
  repeat apply TW.seq
  refine ct (f2 hh (decide_eq_true c1)) ?_
  repeat apply TW.seq
  refine sk ?_
  repeat apply TW.seq
  apply TW.block
  repeat apply TW.seq
  refine rk [0, 1, 5, 7, 8] [] hh ?_
  clear hh h
  intro h hh
  obtain ⟨g2, H1⟩ := isg H1
  obtain ⟨r, e3, H1⟩ := bsome H1
  repeat apply TW.seq
  refine rkc [0, 1, 5, 7, 8, 16] [] [(.bool r, stL [])] (f2 hh (gx_some g2)) ?_ ?_
  ·exact ⟨Call0.call ((f__h (gx s_ i) r e3).call _), trivial⟩
  clear hh h
  intro h hh
  rcases isb H1 with ⟨c4, H1⟩ | ⟨c4, H1⟩
  rotate_left
  ·skip
   repeat apply TW.seq
   refine cf (f2 hh c4) ?_
   repeat apply TW.seq
   refine sk ?_
   repeat apply TW.seq
   refine rk [0, 1, 7, 8] [] (f2 hh c4) ?_
   clear hh h
   intro h hh
   exact rd m (f2 hh ((fun m => idsL_more (Nat.zero_le m) f__i))) ⟨(IntKind.i64.wrap (i + 1)), H1, kq hh, rfl⟩
  repeat apply TW.seq
  refine ct (f2 hh c4) ?_
  repeat apply TW.seq
  refine rk [4] [] (f2 hh c4) ?_
  clear hh h
  intro h hh
  cases H1
  obtain rfl := sinl H
  exact rt hh
 clear hh h
 rintro h bs ⟨s_2, rfl, hh, rfl⟩
 replace H := sinr H
 repeat apply TW.seq
 refine rk [4] [] hh ?_
 clear hh h
 intro h hh
 cases H
 exact rt hh
def stable_Lookup (k : Nat) (t : List Rule) (h_ : Ar 10) : Option Int := ((sslices_IndexFunc_Rule k t (fun y => stable_Lookup_1 k y h_)).bind fun rRule => some rRule)
set_option maxHeartbeats 8000000 in
theorem stable_Lookup_ok (ax : Axs) (hx : Plain ax) (k : Nat) (t : List Rule) (h_ : Ar 10) (v : Int) (H : stable_Lookup k t h_ = some v) : Pure Tryz.prog (EE ax) [] 25 [lRule t, .agg (h_.l.map (T.int .i64))] (.int .i64 v) := by
 rw [stable_Lookup] at H
 refine en [.tmp 4] 8 [0, 1] (hx.no _ (by decide)) (fn25 ax) ?_
 intro h hh
 repeat apply TW.seq
 refine rk [0, 3] [] hh ?_
 clear hh h
 intro h hh
 refine zk 3 0 10 true (h_.l.map (T.int .i64)) [0, 3] hh ?_
 clear hh h
 intro h hh
 obtain ⟨rRule, e1, H⟩ := bsome H
 repeat apply TW.seq
 refine rkc [4] [] [(.int .i64 rRule, stL [.gone])] hh ?_ ?_
 ·exact ⟨Call0.call ((sslices_IndexFunc_Rule_ok ax hx k t (fun y => stable_Lookup_1 k y h_) rRule e1 63 [.cp (h_.l.map (T.int .i64))] (by simp only [ids2B, ids2C, idsA, idsB, Bool.and_self]) (fun y w hw => by first | exact stable_Lookup_1_ok ax hx k y h_ w hw | exact (stable_Lookup_1_ok ax hx k y h_ w hw))).call _), trivial⟩
 clear hh h
 intro h hh
 cases H
 exact rt hh
def sr06_value_L0 (k : Nat) (i : Int) : Nat → Int → Int → Option Int
 | 0, _, _ => none
 | m + 1, v_, k_ => (if (0 : Int) ≤ i ∧ 0 < 16 then (if k_ < (i % 16) then (if (0 : Int) ≤ v_ ∧ 0 < 2 then sr06_value_L0 k i m (IntKind.i64.wrap (v_ / 2)) (IntKind.i64.wrap (k_ + 1)) else none) else some v_) else none)
def sr06_value (k : Nat) (i : Int) : Option Int := ((sr06_value_L0 k i k 32768 0 : Option Int).bind fun s_ => some s_)
set_option maxHeartbeats 8000000 in
theorem sr06_value_ok (ax : Axs) (hx : Plain ax) (k : Nat) (i : Int) (v : Int) (H : sr06_value k i = some v) : Pure Tryz.prog (EE ax) [] 137 [.int .i64 i] (.int .i64 v) := by
 rw [sr06_value] at H
 refine en [.tmp 2] 14 [0] (hx.no _ (by decide)) (fn137 ax) ?_
 intro h hh
 repeat apply TW.seq
 refine rk [0] [] hh ?_
 clear hh h
 intro h hh
 repeat apply TW.seq
 refine rk [0, 3] [] hh ?_
 clear hh h
 intro h hh
 repeat apply TW.seq
 refine rk [0, 3, 4] [] hh ?_
 clear hh h
 intro h hh
 obtain ⟨s_, H1, H⟩ := bsome H
 repeat apply TW.seq
 refine cu [3] 0 (fun h bs => (h 3 = .int .i64 s_) ∧ bs = []) ?_ ?_
 ·skip
  repeat apply TW.seq
  apply TW.block
  repeat apply TW.seq
  refine TW.loopT [0, 3, 4] (fun m h bs => ∃ (v_ : Int) (k_ : Int), sr06_value_L0 k i m v_ k_ = some s_ ∧ (h 0 = .int .i64 i ∧ h 3 = .int .i64 v_ ∧ h 4 = .int .i64 k_) ∧ bs = []) ?_ k _ _ ?_
  rotate_left
  ·exact ⟨32768, 0, H1, kq hh, rfl⟩
  clear hh h H1
  rintro m h bs ⟨v_, k_, H1, hh, rfl⟩
  rcases m with _ | m
  ·rw [sr06_value_L0] at H1; cases H1
  rw [sr06_value_L0] at H1
  obtain ⟨g1, H1⟩ := isg H1
  repeat apply TW.seq
  refine rk [0, 3, 4, 8] [] hh ?_
  clear hh h
  intro h hh
  rcases isp H1 with ⟨c2, H1⟩ | ⟨c2, H1⟩
  rotate_left
  ·skip
   repeat apply TW.seq
   refine cf (f2 hh (decide_eq_false c2)) ?_
   refine xk ?_
   cases H1
   exact ce hh ⟨kq hh, rfl⟩
  repeat apply TW.seq
  refine ct (f2 hh (decide_eq_true c2)) ?_
  repeat apply TW.seq
  refine sk ?_
  repeat apply TW.seq
  apply TW.block
  obtain ⟨g3, H1⟩ := isg H1
  repeat apply TW.seq
  refine rk [0, 3, 4] [] hh ?_
  clear hh h
  intro h hh
  repeat apply TW.seq
  refine rk [0, 3, 4] [] hh ?_
  clear hh h
  intro h hh
  exact rd m hh ⟨(IntKind.i64.wrap (v_ / 2)), (IntKind.i64.wrap (k_ + 1)), H1, kq hh, rfl⟩
 clear hh h
 rintro h bs ⟨hh, rfl⟩
 repeat apply TW.seq
 refine rk [2] [] hh ?_
 clear hh h
 intro h hh
 cases H
 exact rt hh
def sr06_Bit (k : Nat) (h_ : Ar 10) (i : Int) : Option Int := (if (0 : Int) ≤ i ∧ 0 < 16 then (if (0 : Int) ≤ (IntKind.i64.wrap (i / 16)) ∧ (IntKind.i64.wrap (i / 16)) < (10 : Int) then ((sr06_value k i).bind fun rvalue => (if (0 : Int) ≤ (gx h_.l (IntKind.i64.wrap (i / 16))) ∧ 0 < rvalue then (if (0 : Int) ≤ (IntKind.i64.wrap ((gx h_.l (IntKind.i64.wrap (i / 16))) / rvalue)) ∧ 0 < 2 then some ((IntKind.i64.wrap ((gx h_.l (IntKind.i64.wrap (i / 16))) / rvalue)) % 2) else none) else none)) else none) else none)
set_option maxHeartbeats 8000000 in
theorem sr06_Bit_ok (ax : Axs) (hx : Plain ax) (k : Nat) (h_ : Ar 10) (i : Int) (v : Int) (H : sr06_Bit k h_ i = some v) : Pure Tryz.prog (EE ax) [] 114 [.agg (h_.l.map (T.int .i64)), .int .i64 i] (.int .i64 v) := by
 rw [sr06_Bit] at H
 refine en [.tmp 4] 13 [0, 1] (hx.no _ (by decide)) (fn114 ax) ?_
 intro h hh
 repeat apply TW.seq
 refine rk [1, 2] [] hh ?_
 clear hh h
 intro h hh
 obtain ⟨g1, H⟩ := isg H
 obtain ⟨g2, H⟩ := isg H
 obtain ⟨rvalue, e3, H⟩ := bsome H
 obtain ⟨g4, H⟩ := isg H
 obtain ⟨g5, H⟩ := isg H
 repeat apply TW.seq
 refine dk 6 [4] [.int .i64 rvalue] [] [] (f2 hh (arIx h_ g2)) ?_ trivial ?_
 ·exact ⟨(sr06_value_ok ax hx k i rvalue e3 ).call _, trivial⟩
 clear hh h
 intro h hh
 cases H
 exact rt hh
def sr06_Match_L0 (k : Nat) (p : Pat) (h_ : Ar 10) : Nat → Int → Option (Bool ⊕ Unit)
 | 0, _ => none
 | m + 1, i => (if i < 160 then ((sr06_Bit k p.mask i).bind fun rBit => (if rBit = 1 then ((sr06_Bit k p.bits i).bind fun rBit2 => ((sr06_Bit k h_ i).bind fun rBit3 => (if rBit2 ≠ rBit3 then some (.inl false) else sr06_Match_L0 k p h_ m (IntKind.i64.wrap (i + 1))))) else sr06_Match_L0 k p h_ m (IntKind.i64.wrap (i + 1)))) else some (.inr ()))
def sr06_Match (k : Nat) (p : Pat) (h_ : Ar 10) : Option Bool := ((sr06_Match_L0 k p h_ k 0 : Option (Bool ⊕ Unit)).bind fun o => Sum.elim (fun r => some r) (fun s_ => some true) o)
set_option maxHeartbeats 8000000 in
theorem sr06_Match_ok (ax : Axs) (hx : Plain ax) (k : Nat) (p : Pat) (h_ : Ar 10) (v : Bool) (H : sr06_Match k p h_ = some v) : Pure Tryz.prog (EE ax) [] 65 [ePat p, .agg (h_.l.map (T.int .i64))] (.bool v) := by
 rw [sr06_Match] at H
 refine en [.tmp 4] 25 [0, 1] (hx.no _ (by decide)) (fn65 ax) ?_
 intro h hh
 repeat apply TW.seq
 refine rk [2, 3] [] hh ?_
 clear hh h
 intro h hh
 repeat apply TW.seq
 refine rk [2, 3, 5] [] hh ?_
 clear hh h
 intro h hh
 obtain ⟨o, H1, H⟩ := bsome H
 repeat apply TW.seq
 refine cu [] 2 (fun h bs => ∃ s_ : Unit, o = .inr s_ ∧ (True) ∧ bs = [.cells true 20 (p.mask.l.map (T.int .i64) ++ (p.bits.l.map (T.int .i64))), .cells true 10 (h_.l.map (T.int .i64))]) ?_ ?_
 ·skip
  repeat apply TW.seq
  apply TW.block
  repeat apply TW.seq
  refine TW.loopT [2, 3, 5] (fun m h bs => ∃ (i : Int), sr06_Match_L0 k p h_ m i = some o ∧ (h 2 = .ptr 0 0 20 ∧ h 3 = .ptr 1 0 10 ∧ h 5 = .int .i64 i) ∧ bs = [.cells true 20 (p.mask.l.map (T.int .i64) ++ (p.bits.l.map (T.int .i64))), .cells true 10 (h_.l.map (T.int .i64))]) ?_ k _ _ ?_
  rotate_left
  ·exact ⟨0, H1, kq hh, rfl⟩
  clear hh h H1
  rintro m h bs ⟨i, H1, hh, rfl⟩
  rcases m with _ | m
  ·rw [sr06_Match_L0] at H1; cases H1
  rw [sr06_Match_L0] at H1
  repeat apply TW.seq
  refine rk [2, 3, 5, 7] [] hh ?_
  clear hh h
  intro h hh
  rcases isp H1 with ⟨c1, H1⟩ | ⟨c1, H1⟩
  rotate_left
  ·skip
   repeat apply TW.seq
   refine cf (f2 hh (decide_eq_false c1)) ?_
   refine xk ?_
   cases H1
   exact ce hh ⟨_, rfl, kq hh, rfl⟩
  repeat apply TW.seq
  refine ct (f2 hh (decide_eq_true c1)) ?_
  repeat apply TW.seq
  refine sk ?_
  repeat apply TW.seq
  apply TW.block
  obtain ⟨rBit, e2, H1⟩ := bsome H1
  rcases isp H1 with ⟨c3, H1⟩ | ⟨c3, H1⟩
  rotate_left
  ·skip
   repeat apply TW.seq
   refine dk 11 [2, 3, 5, 24] [.int .i64 rBit] [] [] (f2 hh (decide_eq_false c3)) ?_ trivial ?_
   ·exact ⟨(sr06_Bit_ok ax hx k p.mask i rBit e2 ).call _, trivial⟩
   clear hh h
   intro h hh
   repeat apply TW.seq
   refine cf hh ?_
   repeat apply TW.seq
   refine sk ?_
   repeat apply TW.seq
   refine rk [2, 3, 5] [] hh ?_
   clear hh h
   intro h hh
   exact rd m hh ⟨(IntKind.i64.wrap (i + 1)), H1, kq hh, rfl⟩
  obtain ⟨rBit2, e4, H1⟩ := bsome H1
  obtain ⟨rBit3, e5, H1⟩ := bsome H1
  repeat apply TW.seq
  refine dk 11 [2, 3, 5, 24] [.int .i64 rBit, .int .i64 rBit2] [] [(.int .i64 rBit3, stL [.cells true 20 (p.mask.l.map (T.int .i64) ++ (p.bits.l.map (T.int .i64))), .cells true 10 (h_.l.map (T.int .i64))])] (f2 hh (decide_eq_true c3)) ?_ ?_ ?_
  ·exact ⟨(sr06_Bit_ok ax hx k p.mask i rBit e2 ).call _, (sr06_Bit_ok ax hx k p.bits i rBit2 e4 ).call _, trivial⟩
  ·exact ⟨Call0.call ((sr06_Bit_ok ax hx k h_ i rBit3 e5 ).call _), trivial⟩
  clear hh h
  intro h hh
  rcases isp H1 with ⟨c6, H1⟩ | ⟨c6, H1⟩
  rotate_left
  ·skip
   repeat apply TW.seq
   refine cf (f2 hh (decide_eq_false c6)) ?_
   repeat apply TW.seq
   refine sk ?_
   repeat apply TW.seq
   refine rk [2, 3, 5] [] hh ?_
   clear hh h
   intro h hh
   exact rd m hh ⟨(IntKind.i64.wrap (i + 1)), H1, kq hh, rfl⟩
  repeat apply TW.seq
  refine ct (f2 hh (decide_eq_true c6)) ?_
  repeat apply TW.seq
  refine rk [4] [] hh ?_
  clear hh h
  intro h hh
  cases H1
  obtain rfl := sinl H
  exact rt hh
 clear hh h
 rintro h bs ⟨s_, rfl, hh, rfl⟩
 replace H := sinr H
 repeat apply TW.seq
 refine rk [4] [] hh ?_
 clear hh h
 intro h hh
 cases H
 exact rt hh
def sr25_Lookup_L0 (k : Nat) (t : List Rule) (h_ : Ar 10) : Nat → Int → Option (Int ⊕ Unit)
 | 0, _ => none
 | m + 1, k_ => (if k_ < (t.length : Int) then (if (0 : Int) ≤ k_ ∧ k_ < (t.length : Int) then ((sr06_Match k ((gx t k_).mat) h_).bind fun rMatch => (if rMatch = true then some (.inl k_) else sr25_Lookup_L0 k t h_ m (IntKind.i64.wrap (k_ + 1)))) else none) else some (.inr ()))
def sr25_Lookup (k : Nat) (t : List Rule) (h_ : Ar 10) : Option Int := ((sr25_Lookup_L0 k t h_ k 0 : Option (Int ⊕ Unit)).bind fun o => Sum.elim (fun r => some r) (fun s_ => some (-1)) o)
set_option maxHeartbeats 8000000 in
theorem sr25_Lookup_ok (ax : Axs) (hx : Plain ax) (k : Nat) (t : List Rule) (h_ : Ar 10) (v : Int) (H : sr25_Lookup k t h_ = some v) : Pure Tryz.prog (EE ax) [] 26 [lRule t, .agg (h_.l.map (T.int .i64))] (.int .i64 v) := by
 rw [sr25_Lookup] at H
 refine en [.tmp 4] 22 [0, 1] (hx.no _ (by decide)) (fn26 ax) ?_
 intro h hh
 repeat apply TW.seq
 refine rk [0, 3] [] hh ?_
 clear hh h
 intro h hh
 repeat apply TW.seq
 refine rk [0, 3, 5] [] hh ?_
 clear hh h
 intro h hh
 obtain ⟨o, H1, H⟩ := bsome H
 repeat apply TW.seq
 refine cu [] 1 (fun h bs => ∃ s_ : Unit, o = .inr s_ ∧ (True) ∧ bs = [.cells true 10 (h_.l.map (T.int .i64))]) ?_ ?_
 ·skip
  repeat apply TW.seq
  apply TW.block
  repeat apply TW.seq
  refine TW.loopT [0, 3, 5] (fun m h bs => ∃ (k_ : Int), sr25_Lookup_L0 k t h_ m k_ = some o ∧ (h 0 = lRule t ∧ h 3 = .ptr 0 0 10 ∧ h 5 = .int .i64 k_) ∧ bs = [.cells true 10 (h_.l.map (T.int .i64))]) ?_ k _ _ ?_
  rotate_left
  ·exact ⟨0, H1, kq hh, rfl⟩
  clear hh h H1
  rintro m h bs ⟨k_, H1, hh, rfl⟩
  rcases m with _ | m
  ·rw [sr25_Lookup_L0] at H1; cases H1
  rw [sr25_Lookup_L0] at H1
  repeat apply TW.seq
  refine rk [0, 3, 5, 10] [] hh ?_
  clear hh h
  intro h hh
  rcases isp H1 with ⟨c1, H1⟩ | ⟨c1, H1⟩
  rotate_left
  ·skip
   repeat apply TW.seq
   refine cf (f2 hh (decide_eq_false c1)) ?_
   refine xk ?_
   cases H1
   exact ce hh ⟨_, rfl, kq hh, rfl⟩
  repeat apply TW.seq
  refine ct (f2 hh (decide_eq_true c1)) ?_
  repeat apply TW.seq
  refine sk ?_
  repeat apply TW.seq
  apply TW.block
  obtain ⟨g2, H1⟩ := isg H1
  obtain ⟨rMatch, e3, H1⟩ := bsome H1
  repeat apply TW.seq
  refine dk 6 [0, 3, 5, 6] [] [] [(.bool rMatch, stL [.cells true 10 (h_.l.map (T.int .i64))])] (f2 hh (gx_some g2)) trivial ?_ ?_
  ·exact ⟨Call0.call ((sr06_Match_ok ax hx k ((gx t k_).mat) h_ rMatch e3 ).call _), trivial⟩
  clear hh h
  intro h hh
  repeat apply TW.seq
  refine rk [0, 3, 5, 20] [] hh ?_
  clear hh h
  intro h hh
  rcases isb H1 with ⟨c4, H1⟩ | ⟨c4, H1⟩
  rotate_left
  ·skip
   repeat apply TW.seq
   refine cf (f2 hh c4) ?_
   repeat apply TW.seq
   refine sk ?_
   repeat apply TW.seq
   refine rk [0, 3, 5] [] (f2 hh c4) ?_
   clear hh h
   intro h hh
   exact rd m hh ⟨(IntKind.i64.wrap (k_ + 1)), H1, kq hh, rfl⟩
  repeat apply TW.seq
  refine ct (f2 hh c4) ?_
  repeat apply TW.seq
  refine rk [4] [] (f2 hh c4) ?_
  clear hh h
  intro h hh
  cases H1
  obtain rfl := sinl H
  exact rt hh
 clear hh h
 rintro h bs ⟨s_, rfl, hh, rfl⟩
 replace H := sinr H
 repeat apply TW.seq
 refine rk [4] [] hh ?_
 clear hh h
 intro h hh
 cases H
 exact rt hh
def sslices_Index_int_L0 (k : Nat) (s_ : List Int) (v_ : Int) : Nat → Int → Option (Int ⊕ Unit)
 | 0, _ => none
 | m + 1, i => (if i < (s_.length : Int) then (if (0 : Int) ≤ i ∧ i < (s_.length : Int) then (if v_ = (gx s_ i) then some (.inl i) else sslices_Index_int_L0 k s_ v_ m (IntKind.i64.wrap (i + 1))) else none) else some (.inr ()))
def sslices_Index_int (k : Nat) (s_ : List Int) (v_ : Int) : Option Int := ((sslices_Index_int_L0 k s_ v_ k 0 : Option (Int ⊕ Unit)).bind fun o => Sum.elim (fun r => some r) (fun s_2 => some (-1)) o)
set_option maxHeartbeats 8000000 in
theorem sslices_Index_int_ok (ax : Axs) (hx : Plain ax) (k : Nat) (s_ : List Int) (v_ : Int) (v : Int) (H : sslices_Index_int k s_ v_ = some v) : Pure Tryz.prog (EE ax) [] 123 [ints s_, .int .i64 v_] (.int .i64 v) := by
 rw [sslices_Index_int] at H
 refine en [.tmp 4] 19 [0, 1] (hx.no _ (by decide)) (fn123 ax) ?_
 intro h hh
 repeat apply TW.seq
 refine rk [0, 1] [] hh ?_
 clear hh h
 intro h hh
 repeat apply TW.seq
 refine rk [0, 1, 7, 8] [] hh ?_
 clear hh h
 intro h hh
 obtain ⟨o, H1, H⟩ := bsome H
 repeat apply TW.seq
 refine cu [] 0 (fun h bs => ∃ s_2 : Unit, o = .inr s_2 ∧ (True) ∧ bs = []) ?_ ?_
 ·skip
  repeat apply TW.seq
  apply TW.block
  repeat apply TW.seq
  refine TW.loopT [0, 1, 7, 8] (fun m h bs => ∃ (i : Int), sslices_Index_int_L0 k s_ v_ m i = some o ∧ (h 0 = ints s_ ∧ h 1 = .int .i64 v_ ∧ h 7 = .int .i64 (s_.length : Int) ∧ h 8 = .int .i64 i) ∧ bs = []) ?_ k _ _ ?_
  rotate_left
  ·exact ⟨0, H1, kq hh, rfl⟩
  clear hh h H1
  rintro m h bs ⟨i, H1, hh, rfl⟩
  rcases m with _ | m
  ·rw [sslices_Index_int_L0] at H1; cases H1
  rw [sslices_Index_int_L0] at H1
  repeat apply TW.seq
  refine rk [0, 1, 7, 8, 9] [] hh ?_
  clear hh h
  intro h hh
  rcases isp H1 with ⟨c1, H1⟩ | ⟨c1, H1⟩
  rotate_left
  ·skip
   repeat apply TW.seq
   refine cf (f2 hh (decide_eq_false c1)) ?_
   refine xk ?_
   cases H1
   exact ce hh ⟨_, rfl, kq hh, rfl⟩
  repeat apply TW.seq
  refine ct (f2 hh (decide_eq_true c1)) ?_
  repeat apply TW.seq
  refine sk ?_
  repeat apply TW.seq
  apply TW.block
  repeat apply TW.seq
  refine rk [0, 1, 5, 7, 8] [] hh ?_
  clear hh h
  intro h hh
  obtain ⟨g2, H1⟩ := isg H1
  repeat apply TW.seq
  refine rk [0, 1, 5, 7, 8, 16] [] (f2 hh (gx_some g2)) ?_
  clear hh h
  intro h hh
  rcases isp H1 with ⟨c3, H1⟩ | ⟨c3, H1⟩
  rotate_left
  ·skip
   repeat apply TW.seq
   refine cf (f2 hh (decide_eq_false c3)) ?_
   repeat apply TW.seq
   refine sk ?_
   repeat apply TW.seq
   refine rk [0, 1, 7, 8] [] hh ?_
   clear hh h
   intro h hh
   exact rd m hh ⟨(IntKind.i64.wrap (i + 1)), H1, kq hh, rfl⟩
  repeat apply TW.seq
  refine ct (f2 hh (decide_eq_true c3)) ?_
  repeat apply TW.seq
  refine rk [4] [] hh ?_
  clear hh h
  intro h hh
  cases H1
  obtain rfl := sinl H
  exact rt hh
 clear hh h
 rintro h bs ⟨s_2, rfl, hh, rfl⟩
 replace H := sinr H
 repeat apply TW.seq
 refine rk [4] [] hh ?_
 clear hh h
 intro h hh
 cases H
 exact rt hh
def sslices_Contains_int (k : Nat) (s_ : List Int) (v_ : Int) : Option Bool := ((sslices_Index_int k s_ v_).bind fun rint => some (decide (0 ≤ rint)))
set_option maxHeartbeats 8000000 in
theorem sslices_Contains_int_ok (ax : Axs) (hx : Plain ax) (k : Nat) (s_ : List Int) (v_ : Int) (v : Bool) (H : sslices_Contains_int k s_ v_ = some v) : Pure Tryz.prog (EE ax) [] 71 [ints s_, .int .i64 v_] (.bool v) := by
 rw [sslices_Contains_int] at H
 refine en [.tmp 4] 9 [0, 1] (hx.no _ (by decide)) (fn71 ax) ?_
 intro h hh
 repeat apply TW.seq
 refine rk [0, 1] [] hh ?_
 clear hh h
 intro h hh
 obtain ⟨rint, e1, H⟩ := bsome H
 repeat apply TW.seq
 refine rkc [4] [] [(.int .i64 rint, stL [])] hh ?_ ?_
 ·exact ⟨Call0.call ((sslices_Index_int_ok ax hx k s_ v_ rint e1 ).call _), trivial⟩
 clear hh h
 intro h hh
 cases H
 exact rt hh
def sgraph_Up (k : Nat) (n : Net) (f_ : Failure) (link : Int) : Option Bool := (if (0 : Int) ≤ link ∧ link < (n.links.length : Int) then (if ((gx n.links link).frm) ≠ f_.node then (if ((gx n.links link).to) ≠ f_.node then ((sslices_Contains_int k f_.links link).bind fun rint => some (!rint)) else some false) else some false) else none)
set_option maxHeartbeats 8000000 in
theorem sgraph_Up_ok (ax : Axs) (hx : Plain ax) (k : Nat) (n : Net) (f_ : Failure) (link : Int) (v : Bool) (H : sgraph_Up k n f_ link = some v) : Pure Tryz.prog (EE ax) [] 58 [eNet n, eFailure f_, .int .i64 link] (.bool v) := by
 rw [sgraph_Up] at H
 refine en [.tmp 6] 32 [0, 1, 2] (hx.no _ (by decide)) (fn58 ax) ?_
 intro h hh
 repeat apply TW.seq
 refine rk [2, 3, 4] [] hh ?_
 clear hh h
 intro h hh
 obtain ⟨g1, H⟩ := isg H
 repeat apply TW.seq
 refine rk [2, 4, 7] [] (f2 hh (gx_some g1)) ?_
 clear hh h
 intro h hh
 rcases isp H with ⟨c2, H⟩ | ⟨c2, H⟩
 rotate_left
 ·skip
  repeat apply TW.seq
  refine rk [6] [] (f2 hh (decide_eq_false c2)) ?_
  clear hh h
  intro h hh
  cases H
  exact rt hh
 rcases isp H with ⟨c3, H⟩ | ⟨c3, H⟩
 rotate_left
 ·skip
  repeat apply TW.seq
  refine rk [6] [] (f3 hh (decide_eq_true c2) (decide_eq_false c3)) ?_
  clear hh h
  intro h hh
  cases H
  exact rt hh
 obtain ⟨rint, e4, H⟩ := bsome H
 repeat apply TW.seq
 refine rkc [6] [] [(.bool rint, stL [.cells true 3 [lNode n.nodes, lLink n.links, lEdge n.edges], .cells true 2 [ints f_.links, .int .i64 f_.node], .cells true 3 [.int .i64 ((gx n.links link).frm), .int .i64 ((gx n.links link).to), .int .i64 ((gx n.links link).cap)]])] (f3 hh (decide_eq_true c2) (decide_eq_true c3)) ?_ ?_
 ·exact ⟨Call0.call ((sslices_Contains_int_ok ax hx k f_.links link rint e4 ).call _), trivial⟩
 clear hh h
 intro h hh
 cases H
 exact rt hh
def stable_Send_1 (k : Nat) (a : Alt) (fv : Net) (fv2 : Failure) : Option Bool := (if a.link < 0 then some true else ((sgraph_Up k fv fv2 a.link).bind fun rUp => some rUp))
set_option maxHeartbeats 8000000 in
theorem stable_Send_1_ok (ax : Axs) (hx : Plain ax) (k : Nat) (a : Alt) (fv : Net) (fv2 : Failure) (v : Bool) (H : stable_Send_1 k a fv fv2 = some v) : Pure Tryz.prog (EE ax) [] 57 [eAlt a, .cp [lNode fv.nodes, lLink fv.links, lEdge fv.edges], .cp [ints fv2.links, .int .i64 fv2.node]] (.bool v) := by
 rw [stable_Send_1] at H
 refine en [.tmp 4] 15 [0, 1, 2] (hx.no _ (by decide)) (fn57 ax) ?_
 intro h hh
 repeat apply TW.seq
 refine rk [1, 2, 3] [] hh ?_
 clear hh h
 intro h hh
 rcases isp H with ⟨c1, H⟩ | ⟨c1, H⟩
 rotate_left
 ·skip
  obtain ⟨rUp, e2, H⟩ := bsome H
  repeat apply TW.seq
  refine rkc [4] [] [(.bool rUp, stL [.cells true 21 (T.int .i64 a.link :: (a.mod.mask.l.map (T.int .i64) ++ (a.mod.bits.l.map (T.int .i64))))])] (f2 hh (decide_eq_false c1)) ?_ ?_
  ·exact ⟨Call0.call ((sgraph_Up_ok ax hx k fv fv2 a.link rUp e2 ).call _), trivial⟩
  clear hh h
  intro h hh
  cases H
  exact rt hh
 repeat apply TW.seq
 refine rk [4] [] (f2 hh (decide_eq_true c1)) ?_
 clear hh h
 intro h hh
 cases H
 exact rt hh
def sbits_Apply_L0 (k : Nat) (m_ : Pat) : Nat → Int → (Ar 10) → Option (Ar 10)
 | 0, _, _ => none
 | m + 1, i, x => (if i < 10 then (if (0 : Int) ≤ i ∧ i < (10 : Int) then sbits_Apply_L0 k m_ m (IntKind.i64.wrap (i + 1)) (x.set i (iOr .i64 (iAndN .i64 (gx x.l i) (gx m_.mask.l i)) (gx m_.bits.l i))) else none) else some x)
def sbits_Apply (k : Nat) (m_ : Pat) (h_ : Ar 10) : Option (Ar 10) := ((sbits_Apply_L0 k m_ k 0 h_ : Option (Ar 10)).bind fun s_ => some s_)
set_option maxHeartbeats 8000000 in
theorem sbits_Apply_ok (ax : Axs) (hx : Plain ax) (k : Nat) (m_ : Pat) (h_ : Ar 10) (v : Ar 10) (H : sbits_Apply k m_ h_ = some v) : Pure Tryz.prog (EE ax) [] 59 [ePat m_, .agg (h_.l.map (T.int .i64))] (.agg (v.l.map (T.int .i64))) := by
 rw [sbits_Apply] at H
 refine en [.cell 4 39] 26 [0, 1] (hx.no _ (by decide)) (fn59 ax) ?_
 intro h hh
 repeat apply TW.seq
 refine rk [2, 3, 4] [] hh ?_
 clear hh h
 intro h hh
 repeat apply TW.seq
 refine rk [2, 3, 4, 6] [] hh ?_
 clear hh h
 intro h hh
 obtain ⟨s_, H1, H⟩ := bsome H
 repeat apply TW.seq
 refine cu [3, 4] 3 (fun h bs => (h 3 = .ptr 1 0 10 ∧ h 4 = .ptr 2 0 10) ∧ bs = [.cells true 20 (m_.mask.l.map (T.int .i64) ++ (m_.bits.l.map (T.int .i64))), .cells true 10 (s_.l.map (T.int .i64)), .cells true 10 ((zA 10).l.map (T.int .i64))]) ?_ ?_
 ·skip
  repeat apply TW.seq
  apply TW.block
  repeat apply TW.seq
  refine TW.loopT [2, 3, 4, 6] (fun m h bs => ∃ (i : Int) (x : Ar 10), sbits_Apply_L0 k m_ m i x = some s_ ∧ (h 2 = .ptr 0 0 20 ∧ h 3 = .ptr 1 0 10 ∧ h 4 = .ptr 2 0 10 ∧ h 6 = .int .i64 i) ∧ bs = [.cells true 20 (m_.mask.l.map (T.int .i64) ++ (m_.bits.l.map (T.int .i64))), .cells true 10 (x.l.map (T.int .i64)), .cells true 10 ((zA 10).l.map (T.int .i64))]) ?_ k _ _ ?_
  rotate_left
  ·exact ⟨0, h_, H1, kq hh, rfl⟩
  clear hh h H1
  rintro m h bs ⟨i, x, H1, hh, rfl⟩
  rcases m with _ | m
  ·rw [sbits_Apply_L0] at H1; cases H1
  rw [sbits_Apply_L0] at H1
  repeat apply TW.seq
  refine rk [2, 3, 4, 6, 7] [] hh ?_
  clear hh h
  intro h hh
  rcases isp H1 with ⟨c1, H1⟩ | ⟨c1, H1⟩
  rotate_left
  ·skip
   repeat apply TW.seq
   refine cf (f2 hh (decide_eq_false c1)) ?_
   refine xk ?_
   cases H1
   exact ce hh ⟨kq hh, rfl⟩
  repeat apply TW.seq
  refine ct (f2 hh (decide_eq_true c1)) ?_
  repeat apply TW.seq
  refine sk ?_
  repeat apply TW.seq
  apply TW.block
  repeat apply TW.seq
  refine rk [2, 3, 4, 5, 6] [] hh ?_
  clear hh h
  intro h hh
  obtain ⟨g2, H1⟩ := isg H1
  repeat apply TW.seq
  refine dk 13 [2, 3, 4, 6] [] [] [] (f3 hh (arIx x g2) (f3 (cellAt0 (k := .i64) (L := (m_.mask.l.map (T.int .i64) ++ (m_.bits.l.map (T.int .i64)))) (r := (m_.bits.l.map (T.int .i64))) m_.mask g2) (cellAt (k := .i64) (off := 10) (L := (m_.mask.l.map (T.int .i64) ++ (m_.bits.l.map (T.int .i64)))) (r := []) m_.bits g2) (arSet (k := .i64) x (iOr .i64 (iAndN .i64 (gx x.l i) (gx m_.mask.l i)) (gx m_.bits.l i)) g2))) trivial trivial ?_
  clear hh h
  intro h hh
  repeat apply TW.seq
  refine rk [2, 3, 4, 6] [] hh ?_
  clear hh h
  intro h hh
  exact rd m hh ⟨(IntKind.i64.wrap (i + 1)), (x.set i (iOr .i64 (iAndN .i64 (gx x.l i) (gx m_.mask.l i)) (gx m_.bits.l i))), H1, kq hh, rfl⟩
 clear hh h
 rintro h bs ⟨hh, rfl⟩
 repeat apply TW.seq
 refine rk [4] [] hh ?_
 clear hh h
 intro h hh
 cases H
 exact rtc hh
def stable_Send_L0 (k : Nat) (n : Net) (f_ : Failure) (r : Rule) (h_ : Ar 10) : Nat → Int → (List (Ar 10)) → Nat → Option (List (Ar 10) × Nat)
 | 0, _, _, _ => none
 | m + 1, i, l, n2 => (if i < (r.outs.length : Int) then (if (0 : Int) ≤ i ∧ i < (r.outs.length : Int) then ((sslices_IndexFunc_Alt k (gx r.outs i) (fun y => stable_Send_1 k y n f_)).bind fun rAlt => (if 0 ≤ rAlt then (if (0 : Int) ≤ rAlt ∧ rAlt < ((gx r.outs i).length : Int) then ((sbits_Apply k ((gx (gx r.outs i) rAlt).mod) h_).bind fun rApply => (if (n2 + 1) * 81 ≤ 1000000000 then stable_Send_L0 k n f_ r h_ m (IntKind.i64.wrap (i + 1)) (l ++ [rApply]) (n2 + 1) else none)) else none) else stable_Send_L0 k n f_ r h_ m (IntKind.i64.wrap (i + 1)) l n2)) else none) else some (l, n2))
def stable_Send (k : Nat) (n : Net) (f_ : Failure) (r : Rule) (h_ : Ar 10) : Option (List (Ar 10)) := ((stable_Send_L0 k n f_ r h_ k 0 [] 0 : Option (List (Ar 10) × Nat)).bind fun s_ => (if s_.1.length = s_.2 then some s_.1 else none))
set_option maxHeartbeats 8000000 in
theorem stable_Send_ok (ax : Axs) (hx : Plain ax) (k : Nat) (n : Net) (f_ : Failure) (r : Rule) (h_ : Ar 10) (v : List (Ar 10)) (H : stable_Send k n f_ r h_ = some v) : Pure Tryz.prog (EE ax) [] 23 [eNet n, eFailure f_, eRule r, .agg (h_.l.map (T.int .i64))] (lAr10 v) := by
 rw [stable_Send] at H
 refine en [.tmp 8] 37 [0, 1, 2, 3] (hx.no _ (by decide)) (fn23 ax) ?_
 intro h hh
 repeat apply TW.seq
 refine rk [4, 5, 6, 7] [] hh ?_
 clear hh h
 intro h hh
 refine zk 4 0 3 true [lNode n.nodes, lLink n.links, lEdge n.edges] [4, 5, 6, 7] hh ?_
 clear hh h
 intro h hh
 refine zk 5 1 2 true [ints f_.links, .int .i64 f_.node] [4, 5, 6, 7] hh ?_
 clear hh h
 intro h hh
 repeat apply TW.seq
 refine rk [4, 5, 6, 7, 9] [] hh ?_
 clear hh h
 intro h hh
 refine vk 9 10 [4, 5, 6, 7, 9] hh ?_
 clear hh h
 intro h hh
 repeat apply TW.seq
 refine rk [4, 5, 7, 9, 14, 15, 16] [] hh ?_
 clear hh h
 intro h hh
 obtain ⟨s_, H1, H⟩ := bsome H
 repeat apply TW.seq
 refine cu [9] 5 (fun h bs => (h 9 = .arr 4 10 0 s_.2 s_.2 (s_.2 * 10)) ∧ bs = [.gone, .gone, .cells true 23 (T.int .i64 r.prio :: (r.mat.mask.l.map (T.int .i64) ++ (r.mat.bits.l.map (T.int .i64) ++ [T.int .i64 r.step, lLAlt r.outs]))), .cells true 10 (h_.l.map (T.int .i64)), .cells false (s_.2 * 10) (vecC (eAr .i64) s_.1)]) ?_ ?_
 ·skip
  repeat apply TW.seq
  apply TW.block
  repeat apply TW.seq
  refine TW.loopT [4, 5, 7, 9, 14, 15, 16] (fun m h bs => ∃ (i : Int) (l : List (Ar 10)) (n2 : Nat), stable_Send_L0 k n f_ r h_ m i l n2 = some s_ ∧ (h 4 = .cp [lNode n.nodes, lLink n.links, lEdge n.edges] ∧ h 5 = .cp [ints f_.links, .int .i64 f_.node] ∧ h 7 = .ptr 3 0 10 ∧ h 9 = .arr 4 10 0 n2 n2 (n2 * 10) ∧ h 14 = lLAlt r.outs ∧ h 15 = .int .i64 (r.outs.length : Int) ∧ h 16 = .int .i64 i) ∧ bs = [.gone, .gone, .cells true 23 (T.int .i64 r.prio :: (r.mat.mask.l.map (T.int .i64) ++ (r.mat.bits.l.map (T.int .i64) ++ [T.int .i64 r.step, lLAlt r.outs]))), .cells true 10 (h_.l.map (T.int .i64)), .cells false (n2 * 10) (vecC (eAr .i64) l)]) ?_ k _ _ ?_
  rotate_left
  ·exact ⟨0, [], 0, H1, kq hh, rfl⟩
  clear hh h H1
  rintro m h bs ⟨i, l, n2, H1, hh, rfl⟩
  rcases m with _ | m
  ·rw [stable_Send_L0] at H1; cases H1
  rw [stable_Send_L0] at H1
  repeat apply TW.seq
  refine rk [4, 5, 7, 9, 14, 15, 16, 17] [] hh ?_
  clear hh h
  intro h hh
  rcases isp H1 with ⟨c1, H1⟩ | ⟨c1, H1⟩
  rotate_left
  ·skip
   repeat apply TW.seq
   refine cf (f2 hh (decide_eq_false c1)) ?_
   refine xk ?_
   cases H1
   exact ce hh ⟨kq hh, rfl⟩
  repeat apply TW.seq
  refine ct (f2 hh (decide_eq_true c1)) ?_
  repeat apply TW.seq
  refine sk ?_
  repeat apply TW.seq
  apply TW.block
  obtain ⟨g2, H1⟩ := isg H1
  repeat apply TW.seq
  refine rk [4, 5, 7, 9, 11, 14, 15, 16] [] (f2 hh (gx_some g2)) ?_
  clear hh h
  intro h hh
  obtain ⟨rAlt, e3, H1⟩ := bsome H1
  repeat apply TW.seq
  refine rkc [4, 5, 7, 9, 11, 12, 14, 15, 16] [] [(.int .i64 rAlt, stL [.gone, .gone, .cells true 23 (T.int .i64 r.prio :: (r.mat.mask.l.map (T.int .i64) ++ (r.mat.bits.l.map (T.int .i64) ++ [T.int .i64 r.step, lLAlt r.outs]))), .cells true 10 (h_.l.map (T.int .i64)), .cells false (n2 * 10) (vecC (eAr .i64) l)])] hh ?_ ?_
  ·exact ⟨Call0.call ((sslices_IndexFunc_Alt_ok ax hx k (gx r.outs i) (fun y => stable_Send_1 k y n f_) rAlt e3 57 [.cp [lNode n.nodes, lLink n.links, lEdge n.edges], .cp [ints f_.links, .int .i64 f_.node]] (by simp only [ids2B, ids2C, idsA, idsB, Bool.and_self]) (fun y w hw => by first | exact stable_Send_1_ok ax hx k y n f_ w hw | exact (stable_Send_1_ok ax hx k y n f_ w hw))).call _), trivial⟩
  clear hh h
  intro h hh
  repeat apply TW.seq
  refine rk [4, 5, 7, 9, 11, 12, 14, 15, 16, 24] [] hh ?_
  clear hh h
  intro h hh
  rcases isp H1 with ⟨c4, H1⟩ | ⟨c4, H1⟩
  rotate_left
  ·skip
   repeat apply TW.seq
   refine cf (f2 hh (decide_eq_false c4)) ?_
   repeat apply TW.seq
   refine sk ?_
   repeat apply TW.seq
   refine rk [4, 5, 7, 9, 14, 15, 16] [] hh ?_
   clear hh h
   intro h hh
   exact rd m hh ⟨(IntKind.i64.wrap (i + 1)), l, n2, H1, kq hh, rfl⟩
  repeat apply TW.seq
  refine ct (f2 hh (decide_eq_true c4)) ?_
  obtain ⟨g5, H1⟩ := isg H1
  obtain ⟨rApply, e6, H1⟩ := bsome H1
  obtain ⟨g7, H1⟩ := isg H1
  repeat apply TW.seq
  refine dg 7 [] [] [(.agg (rApply.l.map (T.int .i64)), stL [.gone, .gone, .cells true 23 (T.int .i64 r.prio :: (r.mat.mask.l.map (T.int .i64) ++ (r.mat.bits.l.map (T.int .i64) ++ [T.int .i64 r.step, lLAlt r.outs]))), .cells true 10 (h_.l.map (T.int .i64)), .cells false (n2 * 10) (vecC (eAr .i64) l)])] [.gone, .gone, .cells true 23 (T.int .i64 r.prio :: (r.mat.mask.l.map (T.int .i64) ++ (r.mat.bits.l.map (T.int .i64) ++ [T.int .i64 r.step, lLAlt r.outs]))), .cells true 10 (h_.l.map (T.int .i64)), .cells false ((n2 + 1) * 10) (vecC (eAr .i64) (l ++ [rApply]))] (fun h => h 4 = .cp [lNode n.nodes, lLink n.links, lEdge n.edges] ∧ h 5 = .cp [ints f_.links, .int .i64 f_.node] ∧ h 7 = .ptr 3 0 10 ∧ h 9 = .arr 4 10 0 (n2 + 1) (n2 + 1) ((n2 + 1) * 10) ∧ h 14 = lLAlt r.outs ∧ h 15 = .int .i64 (r.outs.length : Int) ∧ h 16 = .int .i64 i) (f3 hh (gx_some g5) (@vecC_ar1 .i64 10)) trivial ?_ ?_
  ·exact ⟨Call0.call ((sbits_Apply_ok ax hx k ((gx (gx r.outs i) rAlt).mod) h_ rApply e6 ).call _), trivial⟩
  clear hh h
  intro h hh
  repeat apply TW.seq
  refine rk [4, 5, 7, 9, 14, 15, 16] [] hh ?_
  clear hh h
  intro h hh
  exact rd m hh ⟨(IntKind.i64.wrap (i + 1)), (l ++ [rApply]), (n2 + 1), H1, kq hh, rfl⟩
 clear hh h
 rintro h bs ⟨hh, rfl⟩
 repeat apply TW.seq
 refine rk [8] [] hh ?_
 clear hh h
 intro h hh
 obtain ⟨g8, H⟩ := isg H
 refine TW.freeze 8 (b := 4) (e := 10) (off := 0) (len := s_.2) (cap := s_.2) (M := (s_.2 * 10)) (s_.1.map (eAr .i64)) (kq hh) (by rfl) (by omega) (by omega) (by rw [List.drop_zero]; exact vecC_take (fun x => eAr_cel x) g8) (fun t ht => by obtain ⟨x, _, rfl⟩ := List.mem_map.1 ht; first | rfl | exact eAr_len _ | exact cel_ePat _ | exact cel_eAlt _ | exact cel_eRule _ | (rw [List.length_map]; rfl)) (by rw [List.length_map]; exact g8) (by omega) ?_
 rw [st_set _ _ _ (by simp only [lzA] <;> omega)]
 simp only [scA]
 refine gk [8] hh ?_
 clear hh h
 intro h hh
 cases H
 exact rt hh
def sr09_Up_L0 (k : Nat) (f_ : Failure) (link : Int) : Nat → Int → Option (Bool ⊕ Unit)
 | 0, _ => none
 | m + 1, i => (if i < (f_.links.length : Int) then (if (0 : Int) ≤ i ∧ i < (f_.links.length : Int) then (if (gx f_.links i) = link then some (.inl false) else sr09_Up_L0 k f_ link m (IntKind.i64.wrap (i + 1))) else none) else some (.inr ()))
def sr09_Up (k : Nat) (n : Net) (f_ : Failure) (link : Int) : Option Bool := ((sr09_Up_L0 k f_ link k 0 : Option (Bool ⊕ Unit)).bind fun o => Sum.elim (fun r => some r) (fun s_ => (if (0 : Int) ≤ link ∧ link < (n.links.length : Int) then (if ((gx n.links link).frm) ≠ f_.node then some (decide (((gx n.links link).to) ≠ f_.node)) else some false) else none)) o)
set_option maxHeartbeats 8000000 in
theorem sr09_Up_ok (ax : Axs) (hx : Plain ax) (k : Nat) (n : Net) (f_ : Failure) (link : Int) (v : Bool) (H : sr09_Up k n f_ link = some v) : Pure Tryz.prog (EE ax) [] 60 [eNet n, eFailure f_, .int .i64 link] (.bool v) := by
 rw [sr09_Up] at H
 refine en [.tmp 6] 42 [0, 1, 2] (hx.no _ (by decide)) (fn60 ax) ?_
 intro h hh
 repeat apply TW.seq
 refine rk [2, 3, 4] [] hh ?_
 clear hh h
 intro h hh
 repeat apply TW.seq
 refine rk [2, 3, 4, 7] [] hh ?_
 clear hh h
 intro h hh
 obtain ⟨o, H1, H⟩ := bsome H
 repeat apply TW.seq
 refine cu [2, 3, 4] 2 (fun h bs => ∃ s_ : Unit, o = .inr s_ ∧ (h 2 = .int .i64 link ∧ h 3 = .ptr 0 0 3 ∧ h 4 = .ptr 1 0 2) ∧ bs = [.cells true 3 [lNode n.nodes, lLink n.links, lEdge n.edges], .cells true 2 [ints f_.links, .int .i64 f_.node]]) ?_ ?_
 ·skip
  repeat apply TW.seq
  apply TW.block
  repeat apply TW.seq
  refine TW.loopT [2, 3, 4, 7] (fun m h bs => ∃ (i : Int), sr09_Up_L0 k f_ link m i = some o ∧ (h 2 = .int .i64 link ∧ h 3 = .ptr 0 0 3 ∧ h 4 = .ptr 1 0 2 ∧ h 7 = .int .i64 i) ∧ bs = [.cells true 3 [lNode n.nodes, lLink n.links, lEdge n.edges], .cells true 2 [ints f_.links, .int .i64 f_.node]]) ?_ k _ _ ?_
  rotate_left
  ·exact ⟨0, H1, kq hh, rfl⟩
  clear hh h H1
  rintro m h bs ⟨i, H1, hh, rfl⟩
  rcases m with _ | m
  ·rw [sr09_Up_L0] at H1; cases H1
  rw [sr09_Up_L0] at H1
  repeat apply TW.seq
  refine rk [2, 3, 4, 7, 12] [] hh ?_
  clear hh h
  intro h hh
  rcases isp H1 with ⟨c1, H1⟩ | ⟨c1, H1⟩
  rotate_left
  ·skip
   repeat apply TW.seq
   refine cf (f2 hh (decide_eq_false c1)) ?_
   refine xk ?_
   cases H1
   exact ce hh ⟨_, rfl, kq hh, rfl⟩
  repeat apply TW.seq
  refine ct (f2 hh (decide_eq_true c1)) ?_
  repeat apply TW.seq
  refine sk ?_
  repeat apply TW.seq
  apply TW.block
  obtain ⟨g2, H1⟩ := isg H1
  repeat apply TW.seq
  refine rk [2, 3, 4, 7, 21] [] (f2 hh (gx_some g2)) ?_
  clear hh h
  intro h hh
  rcases isp H1 with ⟨c3, H1⟩ | ⟨c3, H1⟩
  rotate_left
  ·skip
   repeat apply TW.seq
   refine cf (f2 hh (decide_eq_false c3)) ?_
   repeat apply TW.seq
   refine sk ?_
   repeat apply TW.seq
   refine rk [2, 3, 4, 7] [] hh ?_
   clear hh h
   intro h hh
   exact rd m hh ⟨(IntKind.i64.wrap (i + 1)), H1, kq hh, rfl⟩
  repeat apply TW.seq
  refine ct (f2 hh (decide_eq_true c3)) ?_
  repeat apply TW.seq
  refine rk [6] [] hh ?_
  clear hh h
  intro h hh
  cases H1
  obtain rfl := sinl H
  exact rt hh
 clear hh h
 rintro h bs ⟨s_, rfl, hh, rfl⟩
 replace H := sinr H
 obtain ⟨g4, H⟩ := isg H
 rcases isp H with ⟨c5, H⟩ | ⟨c5, H⟩
 rotate_left
 ·skip
  repeat apply TW.seq
  refine dk 18 [6] [] [] [] (f3 hh (decide_eq_false c5) (gx_some g4)) trivial trivial ?_
  clear hh h
  intro h hh
  cases H
  exact rt hh
 repeat apply TW.seq
 refine dk 18 [6] [] [] [] (f3 hh (decide_eq_true c5) (gx_some g4)) trivial trivial ?_
 clear hh h
 intro h hh
 cases H
 exact rt hh
def sr06_set (k : Nat) (h_ : Ar 10) (i : Int) (b : Int) : Option (Ar 10) := (if (0 : Int) ≤ i ∧ 0 < 16 then (if (0 : Int) ≤ (IntKind.i64.wrap (i / 16)) ∧ (IntKind.i64.wrap (i / 16)) < (10 : Int) then ((sr06_Bit k h_ i).bind fun rBit => ((sr06_value k i).bind fun rvalue => some (h_.set (IntKind.i64.wrap (i / 16)) (IntKind.i64.wrap ((gx h_.l (IntKind.i64.wrap (i / 16))) + (IntKind.i64.wrap ((IntKind.i64.wrap (b - rBit)) * rvalue))))))) else none) else none)
set_option maxHeartbeats 8000000 in
theorem sr06_set_ok (ax : Axs) (hx : Plain ax) (k : Nat) (h_ : Ar 10) (i : Int) (b : Int) (v : Ar 10) (H : sr06_set k h_ i b = some v) : Pure Tryz.prog (EE ax) [] 115 [.agg (h_.l.map (T.int .i64)), .int .i64 i, .int .i64 b] (.agg (v.l.map (T.int .i64))) := by
 rw [sr06_set] at H
 refine en [.cell 6 39] 24 [0, 1, 2] (hx.no _ (by decide)) (fn115 ax) ?_
 intro h hh
 repeat apply TW.seq
 refine rk [1, 2, 3, 6] [] hh ?_
 clear hh h
 intro h hh
 obtain ⟨g1, H⟩ := isg H
 obtain ⟨g2, H⟩ := isg H
 obtain ⟨rBit, e3, H⟩ := bsome H
 obtain ⟨rvalue, e4, H⟩ := bsome H
 repeat apply TW.seq
 refine dk 13 [3, 6] [.int .i64 rBit, .int .i64 rvalue] [] [] (f3 hh (arIx h_ g2) (arSet (k := .i64) h_ (IntKind.i64.wrap ((gx h_.l (IntKind.i64.wrap (i / 16))) + (IntKind.i64.wrap ((IntKind.i64.wrap (b - rBit)) * rvalue)))) g2)) ?_ trivial ?_
 ·exact ⟨(sr06_Bit_ok ax hx k h_ i rBit e3 ).call _, (sr06_value_ok ax hx k i rvalue e4 ).call _, trivial⟩
 clear hh h
 intro h hh
 repeat apply TW.seq
 refine rk [6] [] hh ?_
 clear hh h
 intro h hh
 cases H
 exact rtc hh
def sr06_Apply_L0 (k : Nat) (m_ : Pat) : Nat → Int → (Ar 10) → Option (Ar 10)
 | 0, _, _ => none
 | m + 1, i, x => (if i < 160 then ((sr06_Bit k m_.mask i).bind fun rBit => (if rBit = 1 then ((sr06_Bit k m_.bits i).bind fun rBit2 => ((sr06_set k x i rBit2).bind fun rset => sr06_Apply_L0 k m_ m (IntKind.i64.wrap (i + 1)) rset)) else sr06_Apply_L0 k m_ m (IntKind.i64.wrap (i + 1)) x)) else some x)
def sr06_Apply (k : Nat) (m_ : Pat) (h_ : Ar 10) : Option (Ar 10) := ((sr06_Apply_L0 k m_ k 0 h_ : Option (Ar 10)).bind fun s_ => some s_)
set_option maxHeartbeats 8000000 in
theorem sr06_Apply_ok (ax : Axs) (hx : Plain ax) (k : Nat) (m_ : Pat) (h_ : Ar 10) (v : Ar 10) (H : sr06_Apply k m_ h_ = some v) : Pure Tryz.prog (EE ax) [] 61 [ePat m_, .agg (h_.l.map (T.int .i64))] (.agg (v.l.map (T.int .i64))) := by
 rw [sr06_Apply] at H
 refine en [.cell 4 39] 23 [0, 1] (hx.no _ (by decide)) (fn61 ax) ?_
 intro h hh
 repeat apply TW.seq
 refine rk [2, 3, 4] [] hh ?_
 clear hh h
 intro h hh
 repeat apply TW.seq
 refine rk [2, 3, 4, 5] [] hh ?_
 clear hh h
 intro h hh
 obtain ⟨s_, H1, H⟩ := bsome H
 repeat apply TW.seq
 refine cu [3, 4] 3 (fun h bs => (h 3 = .ptr 1 0 10 ∧ h 4 = .ptr 2 0 10) ∧ bs = [.cells true 20 (m_.mask.l.map (T.int .i64) ++ (m_.bits.l.map (T.int .i64))), .cells true 10 (s_.l.map (T.int .i64)), .cells true 10 ((zA 10).l.map (T.int .i64))]) ?_ ?_
 ·skip
  repeat apply TW.seq
  apply TW.block
  repeat apply TW.seq
  refine TW.loopT [2, 3, 4, 5] (fun m h bs => ∃ (i : Int) (x : Ar 10), sr06_Apply_L0 k m_ m i x = some s_ ∧ (h 2 = .ptr 0 0 20 ∧ h 3 = .ptr 1 0 10 ∧ h 4 = .ptr 2 0 10 ∧ h 5 = .int .i64 i) ∧ bs = [.cells true 20 (m_.mask.l.map (T.int .i64) ++ (m_.bits.l.map (T.int .i64))), .cells true 10 (x.l.map (T.int .i64)), .cells true 10 ((zA 10).l.map (T.int .i64))]) ?_ k _ _ ?_
  rotate_left
  ·exact ⟨0, h_, H1, kq hh, rfl⟩
  clear hh h H1
  rintro m h bs ⟨i, x, H1, hh, rfl⟩
  rcases m with _ | m
  ·rw [sr06_Apply_L0] at H1; cases H1
  rw [sr06_Apply_L0] at H1
  repeat apply TW.seq
  refine rk [2, 3, 4, 5, 7] [] hh ?_
  clear hh h
  intro h hh
  rcases isp H1 with ⟨c1, H1⟩ | ⟨c1, H1⟩
  rotate_left
  ·skip
   repeat apply TW.seq
   refine cf (f2 hh (decide_eq_false c1)) ?_
   refine xk ?_
   cases H1
   exact ce hh ⟨kq hh, rfl⟩
  repeat apply TW.seq
  refine ct (f2 hh (decide_eq_true c1)) ?_
  repeat apply TW.seq
  refine sk ?_
  repeat apply TW.seq
  apply TW.block
  obtain ⟨rBit, e2, H1⟩ := bsome H1
  repeat apply TW.seq
  refine rkc [2, 3, 4, 5, 14] [] [(.int .i64 rBit, stL [.cells true 20 (m_.mask.l.map (T.int .i64) ++ (m_.bits.l.map (T.int .i64))), .cells true 10 (x.l.map (T.int .i64)), .cells true 10 ((zA 10).l.map (T.int .i64))])] hh ?_ ?_
  ·exact ⟨Call0.call ((sr06_Bit_ok ax hx k m_.mask i rBit e2 ).call _), trivial⟩
  clear hh h
  intro h hh
  rcases isp H1 with ⟨c3, H1⟩ | ⟨c3, H1⟩
  rotate_left
  ·skip
   repeat apply TW.seq
   refine cf (f2 hh (decide_eq_false c3)) ?_
   repeat apply TW.seq
   refine sk ?_
   repeat apply TW.seq
   refine rk [2, 3, 4, 5] [] hh ?_
   clear hh h
   intro h hh
   exact rd m hh ⟨(IntKind.i64.wrap (i + 1)), x, H1, kq hh, rfl⟩
  repeat apply TW.seq
  refine ct (f2 hh (decide_eq_true c3)) ?_
  obtain ⟨rBit2, e4, H1⟩ := bsome H1
  obtain ⟨rset, e5, H1⟩ := bsome H1
  repeat apply TW.seq
  refine dk 6 [2, 3, 4, 5] [.int .i64 rBit2] [] [(.agg (rset.l.map (T.int .i64)), stL [.cells true 20 (m_.mask.l.map (T.int .i64) ++ (m_.bits.l.map (T.int .i64))), .cells true 10 (x.l.map (T.int .i64)), .cells true 10 ((zA 10).l.map (T.int .i64))])] hh ?_ ?_ ?_
  ·exact ⟨(sr06_Bit_ok ax hx k m_.bits i rBit2 e4 ).call _, trivial⟩
  ·exact ⟨Call0.call ((sr06_set_ok ax hx k x i rBit2 rset e5 ).call _), trivial⟩
  clear hh h
  intro h hh
  repeat apply TW.seq
  refine rk [2, 3, 4, 5] [] hh ?_
  clear hh h
  intro h hh
  exact rd m hh ⟨(IntKind.i64.wrap (i + 1)), rset, H1, kq hh, rfl⟩
 clear hh h
 rintro h bs ⟨hh, rfl⟩
 repeat apply TW.seq
 refine rk [4] [] hh ?_
 clear hh h
 intro h hh
 cases H
 exact rtc hh
def sr25_Send_L1 (k : Nat) (n : Net) (f_ : Failure) (r : Rule) (h_ : Ar 10) (k_ : Int) : Nat → Bool → Int → (List (Ar 10)) → Nat → Option (List (Ar 10) × Nat)
 | 0, _, _, _, _ => none
 | m + 1, sent, i, l2, n3 => (if (0 : Int) ≤ k_ ∧ k_ < (r.outs.length : Int) then (if i < ((gx r.outs k_).length : Int) then (if (0 : Int) ≤ i ∧ i < ((gx r.outs k_).length : Int) then (((if ((gx (gx r.outs k_) i).link) < 0 then some true else ((sr09_Up k n f_ ((gx (gx r.outs k_) i).link)).bind fun rUp => some rUp)) : Option Bool).bind fun s_4 => (((if s_4 = true then some (!sent) else some false) : Option Bool).bind fun s_5 => (if s_5 = true then ((sr06_Apply k ((gx (gx r.outs k_) i).mod) h_).bind fun rApply => (if (n3 + 1) * 81 ≤ 1000000000 then sr25_Send_L1 k n f_ r h_ k_ m true (IntKind.i64.wrap (i + 1)) (l2 ++ [rApply]) (n3 + 1) else none)) else sr25_Send_L1 k n f_ r h_ k_ m sent (IntKind.i64.wrap (i + 1)) l2 n3))) else none) else some (l2, n3)) else none)
def sr25_Send_L0 (k : Nat) (n : Net) (f_ : Failure) (r : Rule) (h_ : Ar 10) : Nat → Int → (List (Ar 10)) → Nat → Option (List (Ar 10) × Nat)
 | 0, _, _, _ => none
 | m + 1, k_, l, n2 => (if k_ < (r.outs.length : Int) then ((((sr25_Send_L1 k n f_ r h_ k_ k false 0 l n2 : Option (List (Ar 10) × Nat)).bind fun s_3 => some (s_3.1, s_3.2)) : Option (List (Ar 10) × Nat)).bind fun s_2 => sr25_Send_L0 k n f_ r h_ m (IntKind.i64.wrap (k_ + 1)) s_2.1 s_2.2) else some (l, n2))
def sr25_Send (k : Nat) (n : Net) (f_ : Failure) (r : Rule) (h_ : Ar 10) : Option (List (Ar 10)) := ((sr25_Send_L0 k n f_ r h_ k 0 [] 0 : Option (List (Ar 10) × Nat)).bind fun s_ => (if s_.1.length = s_.2 then some s_.1 else none))
set_option maxHeartbeats 8000000 in
theorem sr25_Send_ok (ax : Axs) (hx : Plain ax) (k : Nat) (n : Net) (f_ : Failure) (r : Rule) (h_ : Ar 10) (v : List (Ar 10)) (H : sr25_Send k n f_ r h_ = some v) : Pure Tryz.prog (EE ax) [] 24 [eNet n, eFailure f_, eRule r, .agg (h_.l.map (T.int .i64))] (lAr10 v) := by
 rw [sr25_Send] at H
 refine en [.tmp 8] 63 [0, 1, 2, 3] (hx.no _ (by decide)) (fn24 ax) ?_
 intro h hh
 repeat apply TW.seq
 refine rk [4, 5, 6, 7] [] hh ?_
 clear hh h
 intro h hh
 repeat apply TW.seq
 refine rk [4, 5, 6, 7, 9] [] hh ?_
 clear hh h
 intro h hh
 refine vk 9 10 [4, 5, 6, 7, 9] hh ?_
 clear hh h
 intro h hh
 repeat apply TW.seq
 refine rk [4, 5, 6, 7, 9, 10] [] hh ?_
 clear hh h
 intro h hh
 obtain ⟨s_, H1, H⟩ := bsome H
 repeat apply TW.seq
 refine cu [9] 5 (fun h bs => (h 9 = .arr 4 10 0 s_.2 s_.2 (s_.2 * 10)) ∧ bs = [.cells true 3 [lNode n.nodes, lLink n.links, lEdge n.edges], .cells true 2 [ints f_.links, .int .i64 f_.node], .cells true 23 (T.int .i64 r.prio :: (r.mat.mask.l.map (T.int .i64) ++ (r.mat.bits.l.map (T.int .i64) ++ [T.int .i64 r.step, lLAlt r.outs]))), .cells true 10 (h_.l.map (T.int .i64)), .cells false (s_.2 * 10) (vecC (eAr .i64) s_.1)]) ?_ ?_
 ·skip
  repeat apply TW.seq
  apply TW.block
  repeat apply TW.seq
  refine TW.loopT [4, 5, 6, 7, 9, 10] (fun m h bs => ∃ (k_ : Int) (l : List (Ar 10)) (n2 : Nat), sr25_Send_L0 k n f_ r h_ m k_ l n2 = some s_ ∧ (h 4 = .ptr 0 0 3 ∧ h 5 = .ptr 1 0 2 ∧ h 6 = .ptr 2 0 23 ∧ h 7 = .ptr 3 0 10 ∧ h 9 = .arr 4 10 0 n2 n2 (n2 * 10) ∧ h 10 = .int .i64 k_) ∧ bs = [.cells true 3 [lNode n.nodes, lLink n.links, lEdge n.edges], .cells true 2 [ints f_.links, .int .i64 f_.node], .cells true 23 (T.int .i64 r.prio :: (r.mat.mask.l.map (T.int .i64) ++ (r.mat.bits.l.map (T.int .i64) ++ [T.int .i64 r.step, lLAlt r.outs]))), .cells true 10 (h_.l.map (T.int .i64)), .cells false (n2 * 10) (vecC (eAr .i64) l)]) ?_ k _ _ ?_
  rotate_left
  ·exact ⟨0, [], 0, H1, kq hh, rfl⟩
  clear hh h H1
  rintro m h bs ⟨k_, l, n2, H1, hh, rfl⟩
  rcases m with _ | m
  ·rw [sr25_Send_L0] at H1; cases H1
  rw [sr25_Send_L0] at H1
  repeat apply TW.seq
  refine rk [4, 5, 6, 7, 9, 10, 19] [] hh ?_
  clear hh h
  intro h hh
  rcases isp H1 with ⟨c1, H1⟩ | ⟨c1, H1⟩
  rotate_left
  ·skip
   repeat apply TW.seq
   refine cf (f2 hh (decide_eq_false c1)) ?_
   refine xk ?_
   cases H1
   exact ce hh ⟨kq hh, rfl⟩
  repeat apply TW.seq
  refine ct (f2 hh (decide_eq_true c1)) ?_
  repeat apply TW.seq
  refine sk ?_
  obtain ⟨s_2, H2, H1⟩ := bsome H1
  repeat apply TW.seq
  refine cu [4, 5, 6, 7, 9, 10] 5 (fun h bs => (h 4 = .ptr 0 0 3 ∧ h 5 = .ptr 1 0 2 ∧ h 6 = .ptr 2 0 23 ∧ h 7 = .ptr 3 0 10 ∧ h 9 = .arr 4 10 0 s_2.2 s_2.2 (s_2.2 * 10) ∧ h 10 = .int .i64 k_) ∧ bs = [.cells true 3 [lNode n.nodes, lLink n.links, lEdge n.edges], .cells true 2 [ints f_.links, .int .i64 f_.node], .cells true 23 (T.int .i64 r.prio :: (r.mat.mask.l.map (T.int .i64) ++ (r.mat.bits.l.map (T.int .i64) ++ [T.int .i64 r.step, lLAlt r.outs]))), .cells true 10 (h_.l.map (T.int .i64)), .cells false (s_2.2 * 10) (vecC (eAr .i64) s_2.1)]) ?_ ?_
  ·skip
   repeat apply TW.seq
   apply TW.block
   repeat apply TW.seq
   refine rk [4, 5, 6, 7, 9, 10, 11] [] hh ?_
   clear hh h
   intro h hh
   repeat apply TW.seq
   refine rk [4, 5, 6, 7, 9, 10, 11, 12] [] hh ?_
   clear hh h
   intro h hh
   obtain ⟨s_3, H3, H2⟩ := bsome H2
   repeat apply TW.seq
   refine cu [4, 5, 6, 7, 9, 10] 5 (fun h bs => (h 4 = .ptr 0 0 3 ∧ h 5 = .ptr 1 0 2 ∧ h 6 = .ptr 2 0 23 ∧ h 7 = .ptr 3 0 10 ∧ h 9 = .arr 4 10 0 s_3.2 s_3.2 (s_3.2 * 10) ∧ h 10 = .int .i64 k_) ∧ bs = [.cells true 3 [lNode n.nodes, lLink n.links, lEdge n.edges], .cells true 2 [ints f_.links, .int .i64 f_.node], .cells true 23 (T.int .i64 r.prio :: (r.mat.mask.l.map (T.int .i64) ++ (r.mat.bits.l.map (T.int .i64) ++ [T.int .i64 r.step, lLAlt r.outs]))), .cells true 10 (h_.l.map (T.int .i64)), .cells false (s_3.2 * 10) (vecC (eAr .i64) s_3.1)]) ?_ ?_
   ·skip
    repeat apply TW.seq
    apply TW.block
    repeat apply TW.seq
    refine TW.loopT [4, 5, 6, 7, 9, 10, 11, 12] (fun m h bs => ∃ (sent : Bool) (i : Int) (l2 : List (Ar 10)) (n3 : Nat), sr25_Send_L1 k n f_ r h_ k_ m sent i l2 n3 = some s_3 ∧ (h 4 = .ptr 0 0 3 ∧ h 5 = .ptr 1 0 2 ∧ h 6 = .ptr 2 0 23 ∧ h 7 = .ptr 3 0 10 ∧ h 9 = .arr 4 10 0 n3 n3 (n3 * 10) ∧ h 10 = .int .i64 k_ ∧ h 11 = .bool sent ∧ h 12 = .int .i64 i) ∧ bs = [.cells true 3 [lNode n.nodes, lLink n.links, lEdge n.edges], .cells true 2 [ints f_.links, .int .i64 f_.node], .cells true 23 (T.int .i64 r.prio :: (r.mat.mask.l.map (T.int .i64) ++ (r.mat.bits.l.map (T.int .i64) ++ [T.int .i64 r.step, lLAlt r.outs]))), .cells true 10 (h_.l.map (T.int .i64)), .cells false (n3 * 10) (vecC (eAr .i64) l2)]) ?_ k _ _ ?_
    rotate_left
    ·exact ⟨false, 0, l, n2, H3, kq hh, rfl⟩
    clear hh h H3
    rintro m h bs ⟨sent, i, l2, n3, H3, hh, rfl⟩
    rcases m with _ | m
    ·rw [sr25_Send_L1] at H3; cases H3
    rw [sr25_Send_L1] at H3
    obtain ⟨g2, H3⟩ := isg H3
    repeat apply TW.seq
    refine rk [4, 5, 6, 7, 9, 10, 11, 12, 29] [] (f2 hh (gx_some g2)) ?_
    clear hh h
    intro h hh
    rcases isp H3 with ⟨c3, H3⟩ | ⟨c3, H3⟩
    rotate_left
    ·skip
     repeat apply TW.seq
     refine cf (f2 hh (decide_eq_false c3)) ?_
     refine xk ?_
     cases H3
     exact ce hh ⟨kq hh, rfl⟩
    repeat apply TW.seq
    refine ct (f2 hh (decide_eq_true c3)) ?_
    repeat apply TW.seq
    refine sk ?_
    repeat apply TW.seq
    apply TW.block
    obtain ⟨g4, H3⟩ := isg H3
    repeat apply TW.seq
    refine rk [4, 5, 6, 7, 9, 10, 11, 12, 13] [] (f3 hh (gx_some g2) (gx_some g4)) ?_
    clear hh h
    intro h hh
    obtain ⟨s_4, H4, H3⟩ := bsome H3
    repeat apply TW.seq
    refine cu [4, 5, 6, 7, 9, 10, 11, 12, 13, 14] 6 (fun h bs => (h 4 = .ptr 0 0 3 ∧ h 5 = .ptr 1 0 2 ∧ h 6 = .ptr 2 0 23 ∧ h 7 = .ptr 3 0 10 ∧ h 9 = .arr 4 10 0 n3 n3 (n3 * 10) ∧ h 10 = .int .i64 k_ ∧ h 11 = .bool sent ∧ h 12 = .int .i64 i ∧ h 13 = .ptr 5 0 21 ∧ h 14 = .bool s_4) ∧ bs = [.cells true 3 [lNode n.nodes, lLink n.links, lEdge n.edges], .cells true 2 [ints f_.links, .int .i64 f_.node], .cells true 23 (T.int .i64 r.prio :: (r.mat.mask.l.map (T.int .i64) ++ (r.mat.bits.l.map (T.int .i64) ++ [T.int .i64 r.step, lLAlt r.outs]))), .cells true 10 (h_.l.map (T.int .i64)), .cells false (n3 * 10) (vecC (eAr .i64) l2), .cells true 21 (T.int .i64 ((gx (gx r.outs k_) i).link) :: ((((gx (gx r.outs k_) i).mod).mask).l.map (T.int .i64) ++ ((((gx (gx r.outs k_) i).mod).bits).l.map (T.int .i64))))]) ?_ ?_
    ·skip
     rcases isp H4 with ⟨c5, H4⟩ | ⟨c5, H4⟩
     rotate_left
     ·skip
      obtain ⟨rUp, e6, H4⟩ := bsome H4
      repeat apply TW.seq
      refine rkc [4, 5, 6, 7, 9, 10, 11, 12, 13, 14] [] [(.bool rUp, stL [.cells true 3 [lNode n.nodes, lLink n.links, lEdge n.edges], .cells true 2 [ints f_.links, .int .i64 f_.node], .cells true 23 (T.int .i64 r.prio :: (r.mat.mask.l.map (T.int .i64) ++ (r.mat.bits.l.map (T.int .i64) ++ [T.int .i64 r.step, lLAlt r.outs]))), .cells true 10 (h_.l.map (T.int .i64)), .cells false (n3 * 10) (vecC (eAr .i64) l2), .cells true 21 (T.int .i64 ((gx (gx r.outs k_) i).link) :: ((((gx (gx r.outs k_) i).mod).mask).l.map (T.int .i64) ++ ((((gx (gx r.outs k_) i).mod).bits).l.map (T.int .i64))))])] (f2 hh (decide_eq_false c5)) ?_ ?_
      ·exact ⟨Call0.call ((sr09_Up_ok ax hx k n f_ ((gx (gx r.outs k_) i).link) rUp e6 ).call _), trivial⟩
      clear hh h
      intro h hh
      cases H4
      exact ce hh ⟨kq hh, rfl⟩
     repeat apply TW.seq
     refine rk [4, 5, 6, 7, 9, 10, 11, 12, 13, 14] [] (f2 hh (decide_eq_true c5)) ?_
     clear hh h
     intro h hh
     cases H4
     exact ce hh ⟨kq hh, rfl⟩
    clear hh h
    rintro h bs ⟨hh, rfl⟩
    obtain ⟨s_5, H4, H3⟩ := bsome H3
    repeat apply TW.seq
    refine cu [4, 5, 6, 7, 9, 10, 11, 12, 13, 54] 6 (fun h bs => (h 4 = .ptr 0 0 3 ∧ h 5 = .ptr 1 0 2 ∧ h 6 = .ptr 2 0 23 ∧ h 7 = .ptr 3 0 10 ∧ h 9 = .arr 4 10 0 n3 n3 (n3 * 10) ∧ h 10 = .int .i64 k_ ∧ h 11 = .bool sent ∧ h 12 = .int .i64 i ∧ h 13 = .ptr 5 0 21 ∧ h 54 = .bool s_5) ∧ bs = [.cells true 3 [lNode n.nodes, lLink n.links, lEdge n.edges], .cells true 2 [ints f_.links, .int .i64 f_.node], .cells true 23 (T.int .i64 r.prio :: (r.mat.mask.l.map (T.int .i64) ++ (r.mat.bits.l.map (T.int .i64) ++ [T.int .i64 r.step, lLAlt r.outs]))), .cells true 10 (h_.l.map (T.int .i64)), .cells false (n3 * 10) (vecC (eAr .i64) l2), .cells true 21 (T.int .i64 ((gx (gx r.outs k_) i).link) :: ((((gx (gx r.outs k_) i).mod).mask).l.map (T.int .i64) ++ ((((gx (gx r.outs k_) i).mod).bits).l.map (T.int .i64))))]) ?_ ?_
    ·skip
     rcases isb H4 with ⟨c7, H4⟩ | ⟨c7, H4⟩
     rotate_left
     ·skip
      repeat apply TW.seq
      refine rk [4, 5, 6, 7, 9, 10, 11, 12, 13, 54] [] (f2 hh c7) ?_
      clear hh h
      intro h hh
      cases H4
      exact ce hh ⟨kq hh, rfl⟩
     repeat apply TW.seq
     refine rk [4, 5, 6, 7, 9, 10, 11, 12, 13, 54] [] (f2 hh c7) ?_
     clear hh h
     intro h hh
     cases H4
     exact ce hh ⟨kq hh, rfl⟩
    clear hh h
    rintro h bs ⟨hh, rfl⟩
    rcases isb H3 with ⟨c8, H3⟩ | ⟨c8, H3⟩
    rotate_left
    ·skip
     repeat apply TW.seq
     refine cf (f2 hh c8) ?_
     repeat apply TW.seq
     refine sk ?_
     repeat apply TW.seq
     refine rk [4, 5, 6, 7, 9, 10, 11, 12] [] (f2 hh c8) ?_
     clear hh h
     intro h hh
     exact rd m hh ⟨sent, (IntKind.i64.wrap (i + 1)), l2, n3, H3, kq hh, rfl⟩
    repeat apply TW.seq
    refine ct (f2 hh c8) ?_
    repeat apply TW.seq
    refine rk [4, 5, 6, 7, 9, 10, 11, 12, 13] [] (f2 hh c8) ?_
    clear hh h
    intro h hh
    obtain ⟨rApply, e9, H3⟩ := bsome H3
    obtain ⟨g10, H3⟩ := isg H3
    repeat apply TW.seq
    refine rg [] [(.agg (rApply.l.map (T.int .i64)), stL [.cells true 3 [lNode n.nodes, lLink n.links, lEdge n.edges], .cells true 2 [ints f_.links, .int .i64 f_.node], .cells true 23 (T.int .i64 r.prio :: (r.mat.mask.l.map (T.int .i64) ++ (r.mat.bits.l.map (T.int .i64) ++ [T.int .i64 r.step, lLAlt r.outs]))), .cells true 10 (h_.l.map (T.int .i64)), .cells false (n3 * 10) (vecC (eAr .i64) l2), .cells true 21 (T.int .i64 ((gx (gx r.outs k_) i).link) :: ((((gx (gx r.outs k_) i).mod).mask).l.map (T.int .i64) ++ ((((gx (gx r.outs k_) i).mod).bits).l.map (T.int .i64))))])] [.cells true 3 [lNode n.nodes, lLink n.links, lEdge n.edges], .cells true 2 [ints f_.links, .int .i64 f_.node], .cells true 23 (T.int .i64 r.prio :: (r.mat.mask.l.map (T.int .i64) ++ (r.mat.bits.l.map (T.int .i64) ++ [T.int .i64 r.step, lLAlt r.outs]))), .cells true 10 (h_.l.map (T.int .i64)), .cells false ((n3 + 1) * 10) (vecC (eAr .i64) (l2 ++ [rApply])), .cells true 21 (T.int .i64 ((gx (gx r.outs k_) i).link) :: ((((gx (gx r.outs k_) i).mod).mask).l.map (T.int .i64) ++ ((((gx (gx r.outs k_) i).mod).bits).l.map (T.int .i64))))] (fun h => h 4 = .ptr 0 0 3 ∧ h 5 = .ptr 1 0 2 ∧ h 6 = .ptr 2 0 23 ∧ h 7 = .ptr 3 0 10 ∧ h 9 = .arr 4 10 0 (n3 + 1) (n3 + 1) ((n3 + 1) * 10) ∧ h 10 = .int .i64 k_ ∧ h 11 = .bool true ∧ h 12 = .int .i64 i) (f3 hh c8 (@vecC_ar1 .i64 10)) ?_ ?_
    ·exact ⟨Call0.call (Pure.clr (sr06_Apply_ok ax hx k ((gx (gx r.outs k_) i).mod) h_ rApply e9 ) (by first | rfl | simp only [c8])), trivial⟩
    clear hh h
    intro h hh
    repeat apply TW.seq
    refine rk [4, 5, 6, 7, 9, 10, 11, 12] [] (f2 hh c8) ?_
    clear hh h
    intro h hh
    exact rd m hh ⟨true, (IntKind.i64.wrap (i + 1)), (l2 ++ [rApply]), (n3 + 1), H3, kq hh, rfl⟩
   clear hh h
   rintro h bs ⟨hh, rfl⟩
   cases H2
   exact ce hh ⟨kq hh, rfl⟩
  clear hh h
  rintro h bs ⟨hh, rfl⟩
  repeat apply TW.seq
  refine rk [4, 5, 6, 7, 9, 10] [] hh ?_
  clear hh h
  intro h hh
  exact rd m hh ⟨(IntKind.i64.wrap (k_ + 1)), s_2.1, s_2.2, H1, kq hh, rfl⟩
 clear hh h
 rintro h bs ⟨hh, rfl⟩
 repeat apply TW.seq
 refine rk [8] [] hh ?_
 clear hh h
 intro h hh
 obtain ⟨g11, H⟩ := isg H
 refine TW.freeze 8 (b := 4) (e := 10) (off := 0) (len := s_.2) (cap := s_.2) (M := (s_.2 * 10)) (s_.1.map (eAr .i64)) (kq hh) (by rfl) (by omega) (by omega) (by rw [List.drop_zero]; exact vecC_take (fun x => eAr_cel x) g11) (fun t ht => by obtain ⟨x, _, rfl⟩ := List.mem_map.1 ht; first | rfl | exact eAr_len _ | exact cel_ePat _ | exact cel_eAlt _ | exact cel_eRule _ | (rw [List.length_map]; rfl)) (by rw [List.length_map]; exact g11) (by omega) ?_
 rw [st_set _ _ _ (by simp only [lzA] <;> omega)]
 simp only [scA]
 refine gk [8] hh ?_
 clear hh h
 intro h hh
 cases H
 exact rt hh
def sr09_CheckFailure_L0 (k : Nat) (n : Net) (f_ : Failure) : Nat → Int → Option (Int ⊕ Unit)
 | 0, _ => none
 | m + 1, i => (if i < (f_.links.length : Int) then (if (0 : Int) ≤ i ∧ i < (f_.links.length : Int) then (if (gx f_.links i) < 0 then some (.inl 1) else (if (n.links.length : Int) ≤ (gx f_.links i) then some (.inl 1) else (if 0 < i then (if (0 : Int) ≤ (IntKind.i64.wrap (i - 1)) ∧ (IntKind.i64.wrap (i - 1)) < (f_.links.length : Int) then (if (gx f_.links i) ≤ (gx f_.links (IntKind.i64.wrap (i - 1))) then some (.inl 1) else sr09_CheckFailure_L0 k n f_ m (IntKind.i64.wrap (i + 1))) else none) else sr09_CheckFailure_L0 k n f_ m (IntKind.i64.wrap (i + 1))))) else none) else some (.inr ()))
def sr09_CheckFailure (k : Nat) (n : Net) (f_ : Failure) : Option Int := ((sr09_CheckFailure_L0 k n f_ k 0 : Option (Int ⊕ Unit)).bind fun o => Sum.elim (fun r => some r) (fun s_ => (if f_.node ≠ (-1) then ((sr09_isNode k n f_.node).bind fun risNode => (if risNode = true then some 0 else some 1)) else some 0)) o)
set_option maxHeartbeats 8000000 in
theorem sr09_CheckFailure_ok (ax : Axs) (hx : Plain ax) (k : Nat) (n : Net) (f_ : Failure) (v : Int) (H : sr09_CheckFailure k n f_ = some v) : Pure Tryz.prog (EE ax) [] 21 [eNet n, eFailure f_] (.int .i64 v) := by
 rw [sr09_CheckFailure] at H
 refine en [.tmp 4] 58 [0, 1] (hx.no _ (by decide)) (fn21 ax) ?_
 intro h hh
 repeat apply TW.seq
 refine rk [2, 3] [] hh ?_
 clear hh h
 intro h hh
 repeat apply TW.seq
 refine rk [2, 3, 5] [] hh ?_
 clear hh h
 intro h hh
 obtain ⟨o, H1, H⟩ := bsome H
 repeat apply TW.seq
 refine cu [2, 3] 2 (fun h bs => ∃ s_ : Unit, o = .inr s_ ∧ (h 2 = .ptr 0 0 3 ∧ h 3 = .ptr 1 0 2) ∧ bs = [.cells true 3 [lNode n.nodes, lLink n.links, lEdge n.edges], .cells true 2 [ints f_.links, .int .i64 f_.node]]) ?_ ?_
 ·skip
  repeat apply TW.seq
  apply TW.block
  repeat apply TW.seq
  refine TW.loopT [2, 3, 5] (fun m h bs => ∃ (i : Int), sr09_CheckFailure_L0 k n f_ m i = some o ∧ (h 2 = .ptr 0 0 3 ∧ h 3 = .ptr 1 0 2 ∧ h 5 = .int .i64 i) ∧ bs = [.cells true 3 [lNode n.nodes, lLink n.links, lEdge n.edges], .cells true 2 [ints f_.links, .int .i64 f_.node]]) ?_ k _ _ ?_
  rotate_left
  ·exact ⟨0, H1, kq hh, rfl⟩
  clear hh h H1
  rintro m h bs ⟨i, H1, hh, rfl⟩
  rcases m with _ | m
  ·rw [sr09_CheckFailure_L0] at H1; cases H1
  rw [sr09_CheckFailure_L0] at H1
  repeat apply TW.seq
  refine rk [2, 3, 5, 10] [] hh ?_
  clear hh h
  intro h hh
  rcases isp H1 with ⟨c1, H1⟩ | ⟨c1, H1⟩
  rotate_left
  ·skip
   repeat apply TW.seq
   refine cf (f2 hh (decide_eq_false c1)) ?_
   refine xk ?_
   cases H1
   exact ce hh ⟨_, rfl, kq hh, rfl⟩
  repeat apply TW.seq
  refine ct (f2 hh (decide_eq_true c1)) ?_
  repeat apply TW.seq
  refine sk ?_
  repeat apply TW.seq
  apply TW.block
  obtain ⟨g2, H1⟩ := isg H1
  rcases isp H1 with ⟨c3, H1⟩ | ⟨c3, H1⟩
  rotate_left
  ·skip
   rcases isp H1 with ⟨c4, H1⟩ | ⟨c4, H1⟩
   rotate_left
   ·skip
    rcases isp H1 with ⟨c5, H1⟩ | ⟨c5, H1⟩
    rotate_left
    ·skip
     repeat apply TW.seq
     refine dk 32 [2, 3, 5, 47] [] [] [] (f3 hh (decide_eq_false c3) (f3 (decide_eq_false c4) (decide_eq_false c5) (gx_some g2))) trivial trivial ?_
     clear hh h
     intro h hh
     repeat apply TW.seq
     refine cf hh ?_
     repeat apply TW.seq
     refine sk ?_
     repeat apply TW.seq
     refine rk [2, 3, 5] [] hh ?_
     clear hh h
     intro h hh
     exact rd m hh ⟨(IntKind.i64.wrap (i + 1)), H1, kq hh, rfl⟩
    obtain ⟨g6, H1⟩ := isg H1
    repeat apply TW.seq
    refine dk 32 [2, 3, 5, 47] [] [] [] (f3 hh (decide_eq_false c3) (f3 (decide_eq_false c4) (decide_eq_true c5) (f2 (gx_some g2) (gx_some g6)))) trivial trivial ?_
    clear hh h
    intro h hh
    rcases isp H1 with ⟨c7, H1⟩ | ⟨c7, H1⟩
    rotate_left
    ·skip
     repeat apply TW.seq
     refine cf (f2 hh (decide_eq_false c7)) ?_
     repeat apply TW.seq
     refine sk ?_
     repeat apply TW.seq
     refine rk [2, 3, 5] [] hh ?_
     clear hh h
     intro h hh
     exact rd m hh ⟨(IntKind.i64.wrap (i + 1)), H1, kq hh, rfl⟩
    repeat apply TW.seq
    refine ct (f2 hh (decide_eq_true c7)) ?_
    repeat apply TW.seq
    refine rk [4] [] hh ?_
    clear hh h
    intro h hh
    cases H1
    obtain rfl := sinl H
    exact rt hh
   repeat apply TW.seq
   refine dk 32 [2, 3, 5, 47] [] [] [] (f3 hh (decide_eq_false c3) (f2 (decide_eq_true c4) (gx_some g2))) trivial trivial ?_
   clear hh h
   intro h hh
   repeat apply TW.seq
   refine ct hh ?_
   repeat apply TW.seq
   refine rk [4] [] hh ?_
   clear hh h
   intro h hh
   cases H1
   obtain rfl := sinl H
   exact rt hh
  repeat apply TW.seq
  refine dk 32 [2, 3, 5, 47] [] [] [] (f3 hh (decide_eq_true c3) (gx_some g2)) trivial trivial ?_
  clear hh h
  intro h hh
  repeat apply TW.seq
  refine ct hh ?_
  repeat apply TW.seq
  refine rk [4] [] hh ?_
  clear hh h
  intro h hh
  cases H1
  obtain rfl := sinl H
  exact rt hh
 clear hh h
 rintro h bs ⟨s_, rfl, hh, rfl⟩
 replace H := sinr H
 rcases isp H with ⟨c8, H⟩ | ⟨c8, H⟩
 rotate_left
 ·skip
  repeat apply TW.seq
  refine rk [57] [] (f2 hh (decide_eq_false c8)) ?_
  clear hh h
  intro h hh
  repeat apply TW.seq
  refine cf hh ?_
  repeat apply TW.seq
  refine sk ?_
  repeat apply TW.seq
  refine rk [4] [] hh ?_
  clear hh h
  intro h hh
  cases H
  exact rt hh
 obtain ⟨risNode, e9, H⟩ := bsome H
 repeat apply TW.seq
 refine rkc [57] [] [(.bool risNode, stL [.cells true 3 [lNode n.nodes, lLink n.links, lEdge n.edges], .cells true 2 [ints f_.links, .int .i64 f_.node]])] (f2 hh (decide_eq_true c8)) ?_ ?_
 ·exact ⟨Call0.call ((sr09_isNode_ok ax hx k n f_.node risNode e9 ).call _), trivial⟩
 clear hh h
 intro h hh
 rcases isb H with ⟨c10, H⟩ | ⟨c10, H⟩
 rotate_left
 ·skip
  repeat apply TW.seq
  refine ct (f2 hh c10) ?_
  repeat apply TW.seq
  refine rk [4] [] (f2 hh c10) ?_
  clear hh h
  intro h hh
  cases H
  exact rt hh
 repeat apply TW.seq
 refine cf (f2 hh c10) ?_
 repeat apply TW.seq
 refine sk ?_
 repeat apply TW.seq
 refine rk [4] [] (f2 hh c10) ?_
 clear hh h
 intro h hh
 cases H
 exact rt hh
end Go.Proofs.YtjgbkegkcbcjaaaGreat
namespace Go.Proofs.YtjgbkegkcbcjaaaGreat
open Go Go.RowKit
/-! bits of words -/
theorem tb_andn {a b : Nat} (ha : a < 2 ^ 64) (hb : b < 2 ^ 64) (i : Nat) : (a - (a &&& b)).testBit i = (a.testBit i && !b.testBit i) := by
  rw [← and_not_nat 64 ha hb, Nat.testBit_and, show 2 ^ 64 - 1 - b = 2 ^ 64 - (b + 1) by omega, Nat.testBit_two_pow_sub_succ hb]
  by_cases hi : i < 64
  · simp [hi]
  · have : a.testBit i = false := Nat.testBit_lt_two_pow (Nat.lt_of_lt_of_le ha (Nat.pow_le_pow_right (by decide) (by omega)))
    simp [this]
theorem word_ext {a b : Nat} (ha : a < 65536) (hb : b < 65536) (h : ∀ t, t < 16 → a.testBit t = b.testBit t) : a = b := by
  apply Nat.eq_of_testBit_eq
  intro t
  by_cases ht : t < 16
  · exact h t ht
  · have e : 65536 ≤ 2 ^ t := Nat.pow_le_pow_right (n := 2) (by decide) (show 16 ≤ t by omega)
    rw [Nat.testBit_lt_two_pow (Nat.lt_of_lt_of_le ha e), Nat.testBit_lt_two_pow (Nat.lt_of_lt_of_le hb e)]
theorem tb_two {t s : Nat} : (2 ^ t).testBit s = decide (t = s) := Nat.testBit_two_pow
theorem add_two {w t : Nat} (hw : w < 65536) (ht : t < 16) (h : w.testBit t = false) : w + 2 ^ t = w ||| 2 ^ t := by
  have hp : 2 ^ t < 65536 := Nat.pow_lt_pow_right (by decide) ht
  have ho : w ||| 2 ^ t < 2 ^ 16 := Nat.or_lt_two_pow hw hp
  have e1 : (w ||| 2 ^ t) &&& 2 ^ t = 2 ^ t := by
    apply Nat.eq_of_testBit_eq; intro s
    rw [Nat.testBit_and, Nat.testBit_or]; cases (2 ^ t).testBit s <;> simp
  have e2 : (w ||| 2 ^ t) - ((w ||| 2 ^ t) &&& 2 ^ t) = w := by
    apply Nat.eq_of_testBit_eq; intro s
    rw [tb_andn (by omega) (by omega), Nat.testBit_or, tb_two]
    by_cases hs : t = s
    · subst hs; simp [h]
    · simp [hs]
  have e3 : 2 ^ t ≤ w ||| 2 ^ t := Nat.right_le_or
  omega
theorem sub_two {w t : Nat} (hw : w < 65536) (ht : t < 16) (h : w.testBit t = true) : 2 ^ t ≤ w ∧ ∀ s, (w - 2 ^ t).testBit s = (w.testBit s && !decide (t = s)) := by
  have hp : 2 ^ t < 65536 := Nat.pow_lt_pow_right (by decide) ht
  have e1 : w &&& 2 ^ t = 2 ^ t := by
    apply Nat.eq_of_testBit_eq; intro s
    rw [Nat.testBit_and, tb_two]
    by_cases hs : t = s
    · subst hs; simp [h]
    · simp [hs]
  have h1 : w &&& 2 ^ t ≤ w := Nat.and_le_left
  refine ⟨by omega, fun s => ?_⟩
  have := tb_andn (a := w) (b := 2 ^ t) (by omega) (by omega) s
  rw [e1, tb_two] at this
  exact this
/-! heads -/
def hw (h : Ar 10) (i : Nat) : Nat := (gx h.l (i : Int)).toNat
def hbit (h : Ar 10) (i : Nat) : Bool := (hw h (i / 16)).testBit (15 - i % 16)
theorem hw_int {h : Ar 10} (hr : rightHead h = true) {i : Nat} (hi : i < 10) : gx h.l (i : Int) = (hw h i : Int) ∧ hw h i < 65536 := by
  obtain ⟨n, h1, h2⟩ := rightHead_nat hr hi
  unfold hw
  rw [h1]
  exact ⟨by simp, by simpa using h2⟩
theorem bit_at (j t : Nat) (hj : j < 10) (ht : t < 16) : (16 * j + (15 - t)) / 16 = j ∧ 15 - (16 * j + (15 - t)) % 16 = t ∧ 16 * j + (15 - t) < 160 := by omega
theorem hbit_at (h : Ar 10) {j t : Nat} (hj : j < 10) (ht : t < 16) : hbit h (16 * j + (15 - t)) = (hw h j).testBit t := by
  obtain ⟨a, b, _⟩ := bit_at j t hj ht
  unfold hbit
  rw [a, b]
theorem ar_ext {n : Nat} {a b : Ar n} (h : ∀ j : Nat, j < n → gx a.l (j : Int) = gx b.l (j : Int)) : a = b := by
  apply Ar.ext'
  apply List.ext_getElem (by rw [a.h, b.h])
  intro i h1 h2
  have := h i (by rw [← a.h]; exact h1)
  rwa [gx_at h1, gx_at h2] at this
theorem head_ext {a b : Ar 10} (ha : rightHead a = true) (hb : rightHead b = true) (h : ∀ i, i < 160 → hbit a i = hbit b i) : a = b := by
  apply ar_ext
  intro j hj
  obtain ⟨a1, a2⟩ := hw_int ha hj
  obtain ⟨b1, b2⟩ := hw_int hb hj
  rw [a1, b1, word_ext a2 b2 fun t ht => by rw [← hbit_at a hj ht, ← hbit_at b hj ht]; exact h _ (bit_at j t hj ht).2.2]
theorem rightHead_of {h : Ar 10} (hh : ∀ j : Nat, j < 10 → ∃ n : Nat, gx h.l (j : Int) = (n : Int) ∧ n < 65536) : rightHead h = true := by
  unfold rightHead
  rw [all_getElem]
  intro j hj
  have hj' : j < 10 := by rw [← h.h]; exact hj
  obtain ⟨n, h1, h2⟩ := hh j hj'
  rw [gx_at hj] at h1
  rw [h1]
  exact decide_eq_true (by omega)
/-! one bit -/
theorem value_spec {k i : Nat} (hi : i < 160) (hk : 16 < k) : sr06_value k (i : Int) = some ((2 ^ (15 - i % 16) : Nat) : Int) := by
  have key : ∀ m kk, kk ≤ i % 16 → i % 16 - kk < m → sr06_value_L0 k (i : Int) m ((2 ^ (15 - kk) : Nat) : Int) (kk : Int) = some ((2 ^ (15 - i % 16) : Nat) : Int) := by
    intro m
    induction m with
    | zero => intro kk h1 h2; omega
    | succ m ih =>
      intro kk h1 h2
      rw [sr06_value_L0, if_pos ⟨by omega, by decide⟩]
      by_cases c : kk < i % 16
      · have hp : 2 ^ (15 - kk) = 2 ^ (15 - (kk + 1)) * 2 := by rw [← Nat.pow_succ]; congr 1; omega
        have hb : 2 ^ (15 - kk) ≤ 2 ^ 15 := Nat.pow_le_pow_right (by decide) (by omega)
        rw [if_pos (by omega), if_pos ⟨by omega, by decide⟩, wr_succ kk (by omega)]
        have e : IntKind.i64.wrap (((2 ^ (15 - kk) : Nat) : Int) / 2) = ((2 ^ (15 - (kk + 1)) : Nat) : Int) := by rw [wr64 (by omega)]; omega
        rw [e]
        exact ih (kk + 1) (by omega) (by omega)
      · rw [if_neg (by omega), show kk = i % 16 by omega]
  unfold sr06_value
  have := key k 0 (Nat.zero_le _) (by omega)
  rw [show ((2 ^ (15 - 0) : Nat) : Int) = 32768 by decide] at this
  rw [show (0 : Int) = ((0 : Nat) : Int) from rfl, this]; rfl
theorem wrap_div {i : Nat} (hi : i < 160) : IntKind.i64.wrap ((i : Int) / 16) = ((i / 16 : Nat) : Int) := by rw [wr64 (by omega)]; omega
theorem Bit_spec {k i : Nat} {h : Ar 10} (hr : rightHead h = true) (hi : i < 160) (hk : 16 < k) : sr06_Bit k h (i : Int) = some ((hbit h i).toNat : Int) := by
  unfold sr06_Bit
  obtain ⟨a1, a2⟩ := hw_int hr (i := i / 16) (by omega)
  rw [if_pos ⟨by omega, by decide⟩, wrap_div hi, if_pos ⟨by omega, by omega⟩, value_spec hi hk, Option.bind_some, a1]
  have hp : 0 < 2 ^ (15 - i % 16) := Nat.two_pow_pos _
  rw [if_pos ⟨by omega, by omega⟩]
  have e : IntKind.i64.wrap ((hw h (i / 16) : Int) / ((2 ^ (15 - i % 16) : Nat) : Int)) = ((hw h (i / 16) / 2 ^ (15 - i % 16) : Nat) : Int) := by
    have : hw h (i / 16) / 2 ^ (15 - i % 16) ≤ hw h (i / 16) := Nat.div_le_self _ _
    rw [← Int.natCast_ediv]
    generalize hw h (i / 16) / 2 ^ (15 - i % 16) = q at *
    rw [wr64 (by omega)]
  rw [e]
  unfold hbit
  rw [Nat.testBit_eq_decide_div_mod_eq]
  generalize hw h (i / 16) / 2 ^ (15 - i % 16) = q at *
  rw [if_pos ⟨by omega, by decide⟩]
  congr 1
  by_cases c : q % 2 = 1
  · rw [decide_eq_true c]; simp only [Bool.toNat_true]; omega
  · rw [decide_eq_false c]; simp only [Bool.toNat_false]; omega
/-! matching -/
def matchB (p : Pat) (h : Ar 10) : Bool := (List.range 160).all fun i => !hbit p.mask i || (hbit p.bits i == hbit h i)
theorem matchB_iff {p : Pat} {h : Ar 10} : matchB p h = true ↔ ∀ i, i < 160 → hbit p.mask i = true → hbit p.bits i = hbit h i := by
  unfold matchB
  rw [List.all_eq_true]
  constructor
  · intro hh i hi hm
    have := hh i (List.mem_range.2 hi)
    rw [hm] at this
    simpa using this
  · intro hh i hi
    have := hh i (List.mem_range.1 hi)
    cases hm : hbit p.mask i with
    | false => rfl
    | true => simpa using this hm
theorem word_match {b h m : Nat} (hb : b < 65536) (hh : h < 65536) (hm : m < 65536) : (b ^^^ h) &&& m = 0 ↔ ∀ t, t < 16 → m.testBit t = true → b.testBit t = h.testBit t := by
  constructor
  · intro h0 t ht h1
    have := congrArg (fun x => Nat.testBit x t) h0
    simp only [Nat.testBit_and, Nat.testBit_xor, Nat.zero_testBit, h1, Bool.and_true] at this
    revert this
    cases b.testBit t <;> cases h.testBit t <;> simp
  · intro h0
    apply word_ext (Nat.lt_of_le_of_lt Nat.and_le_right hm) (by decide)
    intro t ht
    simp only [Nat.testBit_and, Nat.testBit_xor, Nat.zero_testBit]
    cases h1 : m.testBit t with
    | false => simp
    | true => rw [h0 t ht h1]; simp
theorem rightPat_iff {p : Pat} : rightPat p = true ↔ rightHead p.mask = true ∧ rightHead p.bits = true ∧ ∀ i, i < 160 → hbit p.bits i = true → hbit p.mask i = true := by
  unfold rightPat
  simp only [Bool.and_eq_true]
  refine and_congr_right fun hm => and_congr_right fun hb => ?_
  unfold within_
  rw [List.all_eq_true]
  have key : ∀ j : Nat, j < 10 → (decide (iAnd .i64 (gx p.bits.l (j : Int)) (gx p.mask.l (j : Int)) = gx p.bits.l (j : Int)) = true ↔ ∀ t, t < 16 → (hw p.bits j).testBit t = true → (hw p.mask j).testBit t = true) := by
    intro j hj
    obtain ⟨a1, a2⟩ := hw_int hb hj
    obtain ⟨b1, b2⟩ := hw_int hm hj
    rw [a1, b1, iAnd_nat (by omega) (by omega), decide_eq_true_eq]
    constructor
    · intro h t ht h1
      have h' : hw p.bits j &&& hw p.mask j = hw p.bits j := by omega
      rw [← h', Nat.testBit_and] at h1
      simp only [Bool.and_eq_true] at h1
      exact h1.2
    · intro h
      congr 1
      apply word_ext (Nat.lt_of_le_of_lt Nat.and_le_left a2) a2
      intro t ht
      rw [Nat.testBit_and]
      cases h1 : (hw p.bits j).testBit t with
      | false => rfl
      | true => rw [h t ht h1]; rfl
  constructor
  · intro h i hi h1
    have := (key (i / 16) (by omega)).1 (h _ (List.mem_range.2 (by omega))) (15 - i % 16) (by omega)
    exact this h1
  · intro h j hj
    have hj' := List.mem_range.1 hj
    exact (key j hj').2 fun t ht h1 => by
      rw [← hbit_at p.mask hj' ht]
      exact h _ (bit_at j t hj' ht).2.2 (by rw [hbit_at p.bits hj' ht]; exact h1)
theorem bits_Match {k : Nat} {p : Pat} {h : Ar 10} (hp : rightPat p = true) (hh : rightHead h = true) (hk : 10 < k) : sbits_Match k p h = some (matchB p h) := by
  obtain ⟨pm, pb, _⟩ := rightPat_iff.1 hp
  unfold sbits_Match
  rw [loop_allr (L := sbits_Match_L0 k p h) 10 false (fun j => decide ((hw p.bits j ^^^ hw h j) &&& hw p.mask j = 0)) (by decide) (fun m j hj => by
    obtain ⟨a1, a2⟩ := hw_int pb hj
    obtain ⟨b1, b2⟩ := hw_int pm hj
    obtain ⟨c1, c2⟩ := hw_int hh hj
    have hx : hw p.bits j ^^^ hw h j < 2 ^ 16 := Nat.xor_lt_two_pow a2 c2
    rw [sbits_Match_L0, if_pos (lt10 hj), if_pos ⟨by omega, lt10 hj⟩, a1, b1, c1, iXor_nat (by omega) (by omega), iAnd_nat (by omega) (by omega)]
    by_cases c : (hw p.bits j ^^^ hw h j) &&& hw p.mask j = 0
    · rw [if_neg (by omega), if_pos (decide_eq_true c)]
    · rw [if_pos (by omega), if_neg (by rw [decide_eq_true_eq]; exact c)]) (fun m => by rw [sbits_Match_L0]; exact if_neg (by decide)) hk, Option.bind_some]
  have e : (List.range 10).all (fun j => decide ((hw p.bits j ^^^ hw h j) &&& hw p.mask j = 0)) = matchB p h := by
    rw [Bool.eq_iff_iff, List.all_eq_true, matchB_iff]
    constructor
    · intro hall i hi hm
      have := of_decide_eq_true (hall (i / 16) (List.mem_range.2 (by omega)))
      exact (word_match (hw_int pb (by omega)).2 (hw_int hh (by omega)).2 (hw_int pm (by omega)).2).1 this (15 - i % 16) (by omega) hm
    · intro hall j hj
      have hj' := List.mem_range.1 hj
      refine decide_eq_true ((word_match (hw_int pb hj').2 (hw_int hh hj').2 (hw_int pm hj').2).2 fun t ht h1 => ?_)
      rw [← hbit_at p.bits hj' ht, ← hbit_at h hj' ht]
      exact hall _ (bit_at j t hj' ht).2.2 (by rw [hbit_at p.mask hj' ht]; exact h1)
  rw [e]
  cases matchB p h <;> rfl
theorem lt160 {a : Nat} (h : a < 160) : (a : Int) < 160 := by omega
theorem bool_nat {a b : Bool} : ((a.toNat : Int) ≠ (b.toNat : Int)) ↔ a ≠ b := by cases a <;> cases b <;> decide
theorem bool_one {a : Bool} : ((a.toNat : Int) = 1) ↔ a = true := by cases a <;> decide
theorem r06_Match {k : Nat} {p : Pat} {h : Ar 10} (hp : rightPat p = true) (hh : rightHead h = true) (hk : 160 < k) : sr06_Match k p h = some (matchB p h) := by
  obtain ⟨pm, pb, _⟩ := rightPat_iff.1 hp
  unfold sr06_Match
  rw [loop_allr (L := sr06_Match_L0 k p h) 160 false (fun i => !hbit p.mask i || (hbit p.bits i == hbit h i)) (by decide) (fun m i hi => by
    rw [sr06_Match_L0, if_pos (lt160 hi), Bit_spec pm hi (by omega), Option.bind_some, Bit_spec pb hi (by omega), Bit_spec hh hi (by omega)]
    by_cases c : hbit p.mask i = true
    · rw [if_pos (bool_one.2 c), Option.bind_some, Option.bind_some, c]
      by_cases d : hbit p.bits i = hbit h i
      · rw [if_neg (fun hq => (bool_nat.1 hq) d), if_pos (by simp [d])]
      · rw [if_pos (bool_nat.2 d), if_neg (by simp [d])]
    · rw [if_neg (fun hq => c (bool_one.1 hq)), if_pos (by simp [c])]) (fun m => by rw [sr06_Match_L0]; exact if_neg (by decide)) hk, Option.bind_some]
  unfold matchB
  cases (List.range 160).all _ <;> rfl
/-! rewriting -/
def Applied (m : Pat) (h x : Ar 10) : Prop := rightHead x = true ∧ ∀ i, i < 160 → hbit x i = if hbit m.mask i = true then hbit m.bits i else hbit h i
theorem Applied.uniq {m : Pat} {h x y : Ar 10} (a : Applied m h x) (b : Applied m h y) : x = y := head_ext a.1 b.1 fun i hi => by rw [a.2 i hi, b.2 i hi]
theorem gx_set_same {n : Nat} {a : Ar n} {i : Nat} (v : Int) (hi : i < n) : gx (a.set (i : Int) v).l (i : Int) = v := by
  show (a.l.set i v).getD i default = v
  rw [List.getD_eq_getElem?_getD, List.getElem?_set_self (by rw [a.h]; exact hi)]; rfl
theorem gx_set_ne {n : Nat} {a : Ar n} {i j : Nat} (v : Int) (hj : j < n) (h : i ≠ j) : gx (a.set (i : Int) v).l (j : Int) = gx a.l (j : Int) := by
  show (a.l.set i v).getD j default = a.l.getD j default
  rw [List.getD_eq_getElem?_getD, List.getD_eq_getElem?_getD, List.getElem?_set_ne h]
theorem bits_Apply {k : Nat} {m : Pat} {h : Ar 10} (hp : rightPat m = true) (hh : rightHead h = true) (hk : 10 < k) : ∃ x, sbits_Apply k m h = some x ∧ Applied m h x := by
  obtain ⟨pm, pb, pw⟩ := rightPat_iff.1 hp
  have hfold := loop_fold (L := sbits_Apply_L0 k m) 10 (fun x i => x.set (i : Int) (iOr .i64 (iAndN .i64 (gx x.l (i : Int)) (gx m.mask.l (i : Int))) (gx m.bits.l (i : Int))))
    (fun j x => ∀ i : Nat, i < 10 → gx x.l (i : Int) = if i < j then ((((hw h i - (hw h i &&& hw m.mask i)) ||| hw m.bits i : Nat)) : Int) else (hw h i : Int)) (by decide)
    (fun fu j x hj hI => by
      obtain ⟨a1, a2⟩ := hw_int pb hj
      obtain ⟨b1, b2⟩ := hw_int pm hj
      obtain ⟨c1, c2⟩ := hw_int hh hj
      refine ⟨by rw [sbits_Apply_L0, if_pos (lt10 hj), if_pos ⟨by omega, lt10 hj⟩], fun i hi => ?_⟩
      by_cases hij : j = i
      · subst hij
        have h0 := hI j hj
        rw [if_neg (Nat.lt_irrefl j)] at h0
        rw [gx_set_same _ hi, if_pos (Nat.lt_succ_self j), h0, b1, a1, iAndN_nat (by omega) (by omega), iOr_nat (by omega) (by omega)]
      · rw [gx_set_ne _ hi hij, hI i hi]
        by_cases hlt : i < j
        · rw [if_pos hlt, if_pos (by omega)]
        · rw [if_neg hlt, if_neg (by omega)]) (fun fu x _ => by rw [sbits_Apply_L0]; exact if_neg (by decide)) hk (s := h) (fun i hi => by rw [if_neg (Nat.not_lt_zero i)]; exact (hw_int hh hi).1)
  obtain ⟨h1, h2⟩ := hfold
  refine ⟨_, by unfold sbits_Apply; rw [h1]; rfl, ?_⟩
  generalize (List.range 10).foldl _ h = x at h2 ⊢
  have hx : ∀ i : Nat, i < 10 → gx x.l (i : Int) = ((((hw h i - (hw h i &&& hw m.mask i)) ||| hw m.bits i : Nat)) : Int) := fun i hi => by rw [h2 i hi, if_pos hi]
  have hlt : ∀ i, i < 10 → ((hw h i - (hw h i &&& hw m.mask i)) ||| hw m.bits i) < 65536 := fun i hi => Nat.or_lt_two_pow (n := 16) (by have := (hw_int hh hi).2; omega) (hw_int pb hi).2
  refine ⟨rightHead_of fun j hj => ⟨_, hx j hj, hlt j hj⟩, fun i hi => ?_⟩
  have hi10 : i / 16 < 10 := by omega
  have e1 : hw x (i / 16) = (hw h (i / 16) - (hw h (i / 16) &&& hw m.mask (i / 16))) ||| hw m.bits (i / 16) := by
    unfold hw
    rw [hx (i / 16) hi10]; rfl
  have hpw := pw i hi
  unfold hbit at hpw ⊢
  rw [e1, Nat.testBit_or, tb_andn (by have := (hw_int hh hi10).2; omega) (by have := (hw_int pm hi10).2; omega)]
  cases hm : (hw m.mask (i / 16)).testBit (15 - i % 16) with
  | true => simp
  | false =>
    cases hb : (hw m.bits (i / 16)).testBit (15 - i % 16) with
    | true => rw [hpw hb] at hm; cases hm
    | false => simp
theorem set_spec {k i : Nat} {h : Ar 10} {b : Bool} (hr : rightHead h = true) (hi : i < 160) (hk : 16 < k) : ∃ x, sr06_set k h (i : Int) (b.toNat : Int) = some x ∧ rightHead x = true ∧ ∀ j, j < 160 → hbit x j = if j = i then b else hbit h j := by
  unfold sr06_set
  obtain ⟨a1, a2⟩ := hw_int hr (i := i / 16) (by omega)
  rw [if_pos ⟨by omega, by decide⟩, wrap_div hi, if_pos ⟨by omega, by omega⟩, Bit_spec hr hi hk, Option.bind_some, value_spec hi hk, Option.bind_some, a1]
  have ht : 15 - i % 16 < 16 := by omega
  have hp : 2 ^ (15 - i % 16) < 65536 := Nat.pow_lt_pow_right (by decide) ht
  have hpp : 0 < 2 ^ (15 - i % 16) := Nat.two_pow_pos _
  have hi10 : i / 16 < 10 := by omega
  -- the new word
  have hnew : ∃ w : Nat, IntKind.i64.wrap ((hw h (i / 16) : Int) + IntKind.i64.wrap (IntKind.i64.wrap ((b.toNat : Int) - ((hbit h i).toNat : Int)) * ((2 ^ (15 - i % 16) : Nat) : Int))) = (w : Int) ∧ w < 65536 ∧ ∀ s, w.testBit s = if s = 15 - i % 16 then b else (hw h (i / 16)).testBit s := by
    cases hb : hbit h i with
    | false =>
      have hb' : (hw h (i / 16)).testBit (15 - i % 16) = false := hb
      cases b with
      | false =>
        refine ⟨hw h (i / 16), ?_, a2, fun s => ?_⟩
        · simp only [Bool.toNat_false, Int.natCast_zero, Int.sub_self]
          rw [wr64 (n := 0) (by omega), Int.zero_mul, wr64 (n := 0) (by omega), Int.add_zero, wr64 (by omega)]
        · by_cases hs : s = 15 - i % 16
          · rw [if_pos hs, hs, hb']
          · rw [if_neg hs]
      | true =>
        refine ⟨hw h (i / 16) + 2 ^ (15 - i % 16), ?_, ?_, fun s => ?_⟩
        · simp only [Bool.toNat_true, Bool.toNat_false]
          rw [wr64 (n := ((1 : Nat) : Int) - ((0 : Nat) : Int)) (by omega), show ((1 : Nat) : Int) - ((0 : Nat) : Int) = 1 by omega, Int.one_mul, wr64 (n := ((2 ^ (15 - i % 16) : Nat) : Int)) (by omega), wr64 (by omega)]; omega
        · rw [add_two a2 ht hb']; exact Nat.or_lt_two_pow (n := 16) a2 hp
        · rw [add_two a2 ht hb', Nat.testBit_or, tb_two]
          by_cases hs : s = 15 - i % 16
          · rw [if_pos hs]; simp [hs]
          · rw [if_neg hs]; simp [Ne.symm hs]
    | true =>
      have hb' : (hw h (i / 16)).testBit (15 - i % 16) = true := hb
      obtain ⟨g1, g2⟩ := sub_two a2 ht hb'
      cases b with
      | true =>
        refine ⟨hw h (i / 16), ?_, a2, fun s => ?_⟩
        · simp only [Int.sub_self]
          rw [wr64 (n := 0) (by omega), Int.zero_mul, wr64 (n := 0) (by omega), Int.add_zero, wr64 (by omega)]
        · by_cases hs : s = 15 - i % 16
          · rw [if_pos hs, hs, hb']
          · rw [if_neg hs]
      | false =>
        refine ⟨hw h (i / 16) - 2 ^ (15 - i % 16), ?_, by omega, fun s => ?_⟩
        · simp only [Bool.toNat_true, Bool.toNat_false]
          rw [wr64 (n := ((0 : Nat) : Int) - ((1 : Nat) : Int)) (by omega), show ((0 : Nat) : Int) - ((1 : Nat) : Int) = -1 by omega, wr64 (n := -1 * ((2 ^ (15 - i % 16) : Nat) : Int)) (by omega), wr64 (by omega)]; omega
        · rw [g2]
          by_cases hs : s = 15 - i % 16
          · rw [if_pos hs]; simp [hs]
          · rw [if_neg hs]; simp [Ne.symm hs]
  obtain ⟨w, e1, e2, e3⟩ := hnew
  refine ⟨_, rfl, ?_, ?_⟩
  · rw [e1]
    refine rightHead_of fun j hj => ?_
    by_cases hij : i / 16 = j
    · subst hij; exact ⟨w, gx_set_same _ hj, e2⟩
    · rw [gx_set_ne _ hj hij]; exact ⟨_, (hw_int hr hj).1, (hw_int hr hj).2⟩
  · intro j hj
    rw [e1]
    unfold hbit
    have hj10 : j / 16 < 10 := by omega
    by_cases hij : i / 16 = j / 16
    · have : hw (h.set ((i / 16 : Nat) : Int) (w : Int)) (j / 16) = w := by
        unfold hw
        rw [← hij, gx_set_same _ hi10]; rfl
      rw [this, e3, ← hij]
      by_cases hm : j = i
      · subst hm; rw [if_pos rfl, if_pos rfl]
      · rw [if_neg hm, if_neg (by omega)]
    · have : hw (h.set ((i / 16 : Nat) : Int) (w : Int)) (j / 16) = hw h (j / 16) := by
        unfold hw
        rw [gx_set_ne _ hj10 hij]
      rw [this, if_neg (fun hm => hij (by rw [hm]))]
theorem r06_Apply {k : Nat} {m : Pat} {h : Ar 10} (hp : rightPat m = true) (hh : rightHead h = true) (hk : 160 < k) : ∃ x, sr06_Apply k m h = some x ∧ Applied m h x := by
  obtain ⟨pm, pb, pw⟩ := rightPat_iff.1 hp
  have key : ∀ fu i (x : Ar 10), i ≤ 160 → 160 - i < fu → rightHead x = true → (∀ j, j < 160 → hbit x j = if j < i ∧ hbit m.mask j = true then hbit m.bits j else hbit h j) → ∃ y, sr06_Apply_L0 k m fu (i : Int) x = some y ∧ Applied m h y := by
    intro fu
    induction fu with
    | zero => intro i x h1 h2; omega
    | succ fu ih =>
      intro i x h1 h2 h3 h4
      rw [sr06_Apply_L0]
      by_cases c : i < 160
      · rw [if_pos (lt160 c), Bit_spec pm c (by omega), Option.bind_some, Bit_spec pb c (by omega), wr_succ i (by omega)]
        by_cases d : hbit m.mask i = true
        · rw [if_pos (bool_one.2 d), Option.bind_some]
          obtain ⟨y, s1, s2, s3⟩ := set_spec (b := hbit m.bits i) h3 c (show 16 < k by omega)
          rw [s1, Option.bind_some]
          refine ih (i + 1) y (by omega) (by omega) s2 fun j hj => ?_
          rw [s3 j hj]
          by_cases hji : j = i
          · subst hji; rw [if_pos rfl, if_pos ⟨by omega, d⟩]
          · rw [if_neg hji, h4 j hj]
            by_cases hq : j < i ∧ hbit m.mask j = true
            · rw [if_pos hq, if_pos ⟨by omega, hq.2⟩]
            · rw [if_neg hq, if_neg (fun hh2 => hq ⟨by omega, hh2.2⟩)]
        · rw [if_neg (fun hq => d (bool_one.1 hq))]
          refine ih (i + 1) x (by omega) (by omega) h3 fun j hj => ?_
          rw [h4 j hj]
          by_cases hji : j = i
          · subst hji; rw [if_neg (fun hq => d hq.2), if_neg (fun hq => d hq.2)]
          · by_cases hq : j < i ∧ hbit m.mask j = true
            · rw [if_pos hq, if_pos ⟨by omega, hq.2⟩]
            · rw [if_neg hq, if_neg (fun hh2 => hq ⟨by omega, hh2.2⟩)]
      · obtain rfl : i = 160 := by omega
        rw [if_neg (by decide)]
        refine ⟨x, rfl, h3, fun j hj => ?_⟩
        rw [h4 j hj]
        by_cases hq : hbit m.mask j = true
        · rw [if_pos ⟨hj, hq⟩, if_pos hq]
        · rw [if_neg (fun hh2 => hq hh2.2), if_neg hq]
  obtain ⟨y, h1, h2⟩ := key k 0 h (by omega) (by omega) hh fun j hj => by rw [if_neg (fun hq => Nat.not_lt_zero _ hq.1)]
  refine ⟨y, ?_, h2⟩
  unfold sr06_Apply
  rw [show (0 : Int) = ((0 : Nat) : Int) from rfl, h1]; rfl
end Go.Proofs.YtjgbkegkcbcjaaaGreat
namespace Go.Proofs.YtjgbkegkcbcjaaaGreat
open Go Go.RowKit
theorem getD_mem {α : Type} [Inhabited α] {l : List α} {i : Nat} (h : i < l.length) : l.getD i default ∈ l := by
  rw [List.getD_eq_getElem?_getD, List.getElem?_eq_getElem h]
  exact List.getElem_mem h
def isNodeP (n : Net) (k : Int) : Prop := 0 ≤ k ∧ k < (n.nodes.length : Int)
instance (n : Net) (k : Int) : Decidable (isNodeP n k) := by unfold isNodeP; infer_instance
structure RightNet (n : Net) : Prop where
  nodes : n.nodes.length ≤ 10
  links : n.links.length ≤ 24
  frm : ∀ k, k < n.links.length → 0 ≤ (n.links.getD k default).frm ∧ (n.links.getD k default).frm < (n.nodes.length : Int)
  to : ∀ k, k < n.links.length → 0 ≤ (n.links.getD k default).to ∧ (n.links.getD k default).to < (n.nodes.length : Int)
  apart : ∀ k, k < n.links.length → (n.links.getD k default).frm ≠ (n.links.getD k default).to
  cap : ∀ k, k < n.links.length → 0 ≤ (n.links.getD k default).cap ∧ (n.links.getD k default).cap ≤ 1048576
theorem Name_L0 (k : Nat) (s : ByteArray) (hs : s.size < 9223372036854775808) : ∀ (m i : Nat), i ≤ s.size → s.size - i < m → ∃ r, sr08_Name_L0 k s m (i : Int) = some r := by
  intro m
  induction m with
  | zero => intro i h1 h2; omega
  | succ m ih =>
    intro i h1 h2
    rw [sr08_Name_L0]
    by_cases c : (i : Int) < (s.size : Int)
    · obtain ⟨r, hr⟩ := ih (i + 1) (by omega) (by omega)
      have g : (0 : Int) ≤ (i : Int) ∧ (i : Int) < (s.size : Int) := ⟨by omega, c⟩
      have A1 : ∃ b, (if (0 : Int) ≤ (i : Int) ∧ (i : Int) < (s.size : Int) then (if 97 ≤ ((bx s (i : Int)).toNat : Int) then some (decide (((bx s (i : Int)).toNat : Int) ≤ 122)) else some false) else none) = some b := by
        rw [if_pos g]; split <;> exact ⟨_, rfl⟩
      have A2 : ∃ b, (if (0 : Int) ≤ (i : Int) ∧ (i : Int) < (s.size : Int) then (if 48 ≤ ((bx s (i : Int)).toNat : Int) then (if ((bx s (i : Int)).toNat : Int) ≤ 57 then some true else some (decide (((bx s (i : Int)).toNat : Int) = 95))) else some (decide (((bx s (i : Int)).toNat : Int) = 95))) else none) = some b := by
        rw [if_pos g]; split
        · split <;> exact ⟨_, rfl⟩
        · exact ⟨_, rfl⟩
      obtain ⟨b1, h1⟩ := A1
      obtain ⟨b2, h2⟩ := A2
      rw [if_pos c, h1, h2, wr_succ i (by omega), hr]
      simp only [Option.bind_some]
      (repeat' split) <;> exact ⟨_, rfl⟩
    · rw [if_neg c]; exact ⟨_, rfl⟩
theorem Name_tot {k : Nat} (hk : 9223372036854775808 ≤ k) (s : ByteArray) (hs : s.size < 9223372036854775808) : ∃ r, sr08_Name k s = some r := by
  obtain ⟨r, h⟩ := Name_L0 k s hs k 0 (by omega) (by omega)
  rw [show ((0 : Nat) : Int) = 0 from rfl] at h
  unfold sr08_Name
  rw [h, Option.bind_some]
  cases r with
  | inl b => exact ⟨_, rfl⟩
  | inr u => simp only [Sum.elim_inr]; split <;> exact ⟨_, rfl⟩
theorem named_L1 (k : Nat) (l : List ByteArray) (e : Nat) (he : e < l.length) (hl : l.length < 9223372036854775808) : ∀ (m i : Nat), i ≤ e → e - i < m → ∃ r, sr09_named_L1 k l (e : Int) m (i : Int) = some r := by
  intro m
  induction m with
  | zero => intro i h1 h2; omega
  | succ m ih =>
    intro i h1 h2
    rw [sr09_named_L1]
    by_cases c : (i : Int) < (e : Int)
    · obtain ⟨r, hr⟩ := ih (i + 1) (by omega) (by omega)
      rw [if_pos c, if_pos ⟨by omega, by omega⟩, wr_succ i (by omega), hr]
      split <;> exact ⟨_, rfl⟩
    · rw [if_neg c]; exact ⟨_, rfl⟩
theorem named_L0 {k : Nat} (hk : 9223372036854775808 ≤ k) (l : List ByteArray) (hl : l.length < 9223372036854775808) (hs : ∀ s, s ∈ l → s.size < 9223372036854775808) : ∀ (m i : Nat), i ≤ l.length → l.length - i < m → ∃ r, sr09_named_L0 k l m (i : Int) = some r := by
  intro m
  induction m with
  | zero => intro i h1 h2; omega
  | succ m ih =>
    intro i h1 h2
    rw [sr09_named_L0]
    by_cases c : (i : Int) < (l.length : Int)
    · have hi : i < l.length := by omega
      obtain ⟨r, hr⟩ := ih (i + 1) (by omega) (by omega)
      obtain ⟨b, hb⟩ := Name_tot hk (l.getD i default) (hs _ (getD_mem hi))
      obtain ⟨r1, h1⟩ := named_L1 k l i hi hl k 0 (by omega) (by omega)
      rw [show ((0 : Nat) : Int) = 0 from rfl] at h1
      rw [if_pos c, if_pos ⟨by omega, c⟩, wr_succ i (by omega), gx_nat l i, hb, h1, hr]
      cases b with
      | false => exact ⟨_, rfl⟩
      | true => cases r1 <;> exact ⟨_, rfl⟩
    · rw [if_neg c]; exact ⟨_, rfl⟩
theorem named_tot {k : Nat} (hk : 9223372036854775808 ≤ k) (l : List ByteArray) (hl : l.length < 9223372036854775808) (hs : ∀ s, s ∈ l → s.size < 9223372036854775808) : ∃ r, sr09_named k l = some r := by
  obtain ⟨r, h⟩ := named_L0 hk l hl hs k 0 (by omega) (by omega)
  rw [show ((0 : Nat) : Int) = 0 from rfl] at h
  unfold sr09_named
  rw [h, Option.bind_some]
  cases r <;> exact ⟨_, rfl⟩
theorem Names_L0 (k : Nat) (n : Net) (hn : n.nodes.length ≤ 1000) (hs : ∀ x, x ∈ n.nodes → x.name.size < 9223372036854775808) : ∀ (m i : Nat) (l : List ByteArray), i ≤ n.nodes.length → n.nodes.length - i < m → l.length = i → (∀ s, s ∈ l → s.size < 9223372036854775808) →
    ∃ l', sr09_Names_L0 k n m (i : Int) l i = some (l', l'.length) ∧ l'.length = n.nodes.length ∧ ∀ s, s ∈ l' → s.size < 9223372036854775808 := by
  intro m
  induction m with
  | zero => intro i l h1 h2; omega
  | succ m ih =>
    intro i l h1 h2 h3 h4
    rw [sr09_Names_L0]
    by_cases c : (i : Int) < (n.nodes.length : Int)
    · have hi : i < n.nodes.length := by omega
      rw [if_pos c, if_pos ⟨by omega, c⟩, if_pos (by omega), wr_succ i (by omega), gx_nat n.nodes i]
      refine ih (i + 1) _ (by omega) (by omega) (by simp [h3]) fun s hm => ?_
      rcases List.mem_append.1 hm with q | q
      · exact h4 s q
      · simp only [List.mem_singleton] at q; subst q; exact hs _ (getD_mem hi)
    · rw [if_neg c]
      exact ⟨l, by rw [h3], by omega, h4⟩
theorem Names_L1 (k : Nat) (n : Net) (hn : n.edges.length ≤ 1000) (hs : ∀ x, x ∈ n.edges → x.name.size < 9223372036854775808) : ∀ (m i : Nat) (l : List ByteArray), i ≤ n.edges.length → n.edges.length - i < m → l.length = i → (∀ s, s ∈ l → s.size < 9223372036854775808) →
    ∃ l', sr09_Names_L1 k n m (i : Int) l i = some (l', l'.length) ∧ l'.length = n.edges.length ∧ ∀ s, s ∈ l' → s.size < 9223372036854775808 := by
  intro m
  induction m with
  | zero => intro i l h1 h2; omega
  | succ m ih =>
    intro i l h1 h2 h3 h4
    rw [sr09_Names_L1]
    by_cases c : (i : Int) < (n.edges.length : Int)
    · have hi : i < n.edges.length := by omega
      rw [if_pos c, if_pos ⟨by omega, c⟩, if_pos (by omega), wr_succ i (by omega), gx_nat n.edges i]
      refine ih (i + 1) _ (by omega) (by omega) (by simp [h3]) fun s hm => ?_
      rcases List.mem_append.1 hm with q | q
      · exact h4 s q
      · simp only [List.mem_singleton] at q; subst q; exact hs _ (getD_mem hi)
    · rw [if_neg c]
      exact ⟨l, by rw [h3], by omega, h4⟩
theorem isNode9_spec {k : Nat} {n : Net} (v : Int) : sr09_isNode k n v = some (decide (isNodeP n v)) := by
  unfold sr09_isNode isNodeP
  by_cases h : 0 ≤ v
  · rw [if_pos h]; simp [h]
  · rw [if_neg h]; simp [h]
theorem Chk_L0 (k : Nat) (n : Net) (hn : n.nodes.length ≤ 1000) : ∀ (m i : Nat), i ≤ n.nodes.length → n.nodes.length - i < m → ∃ r, sr09_Check_L0 k n m (i : Int) = some r ∧ (r = .inr () ∨ r = .inl 1) := by
  intro m
  induction m with
  | zero => intro i h1 h2; omega
  | succ m ih =>
    intro i h1 h2
    rw [sr09_Check_L0]
    by_cases c : (i : Int) < (n.nodes.length : Int)
    · obtain ⟨r, hr, hq⟩ := ih (i + 1) (by omega) (by omega)
      rw [if_pos c, if_pos ⟨by omega, c⟩, wr_succ i (by omega), hr]
      (repeat' split) <;> first | exact ⟨_, rfl, .inr rfl⟩ | exact ⟨_, rfl, hq⟩
    · rw [if_neg c]; exact ⟨_, rfl, .inl rfl⟩
def LinkOk (n : Net) (l : Link) : Prop := isNodeP n l.frm ∧ isNodeP n l.to ∧ l.frm ≠ l.to ∧ 0 ≤ l.cap ∧ l.cap ≤ 1048576
theorem Chk_L1 (k : Nat) (n : Net) (hn : n.links.length ≤ 10000) : ∀ (m i : Nat), i ≤ n.links.length → n.links.length - i < m → (∀ j, j < i → LinkOk n (n.links.getD j default)) → ∃ r, sr09_Check_L1 k n m (i : Int) = some r ∧ ((r = .inr () ∧ ∀ j, j < n.links.length → LinkOk n (n.links.getD j default)) ∨ r = .inl 1) := by
  intro m
  induction m with
  | zero => intro i h1 h2; omega
  | succ m ih =>
    intro i h1 h2 h3
    rw [sr09_Check_L1]
    by_cases c : (i : Int) < (n.links.length : Int)
    · have hi : i < n.links.length := by omega
      rw [if_pos c, if_pos ⟨by omega, c⟩, wr_succ i (by omega), gx_nat n.links i, isNode9_spec, isNode9_spec, Option.bind_some, Option.bind_some]
      by_cases q1 : isNodeP n (n.links.getD i default).frm
      · rw [if_pos (decide_eq_true q1)]
        by_cases q2 : isNodeP n (n.links.getD i default).to
        · rw [if_pos (decide_eq_true q2)]
          by_cases q3 : (n.links.getD i default).frm = (n.links.getD i default).to
          · rw [if_pos q3]; exact ⟨_, rfl, .inr rfl⟩
          · rw [if_neg q3]
            by_cases q4 : (n.links.getD i default).cap < 0
            · rw [if_pos q4]; exact ⟨_, rfl, .inr rfl⟩
            · rw [if_neg q4]
              by_cases q5 : 1048576 < (n.links.getD i default).cap
              · rw [if_pos q5]; exact ⟨_, rfl, .inr rfl⟩
              · rw [if_neg q5]
                exact ih (i + 1) (by omega) (by omega) fun j hj => by rcases Nat.lt_succ_iff_lt_or_eq.1 hj with q | q; exact h3 j q; rw [q]; exact ⟨q1, q2, q3, by omega, by omega⟩
        · rw [if_neg (by simpa using q2)]; exact ⟨_, rfl, .inr rfl⟩
      · rw [if_neg (by simpa using q1)]; exact ⟨_, rfl, .inr rfl⟩
    · rw [if_neg c]; exact ⟨_, rfl, .inl ⟨rfl, fun j hj => h3 j (by omega)⟩⟩
theorem Chk_L2 (k : Nat) (n : Net) (hn : n.edges.length ≤ 1000) : ∀ (m i : Nat), i ≤ n.edges.length → n.edges.length - i < m → ∃ r, sr09_Check_L2 k n m (i : Int) = some r ∧ (r = .inr () ∨ r = .inl 1) := by
  intro m
  induction m with
  | zero => intro i h1 h2; omega
  | succ m ih =>
    intro i h1 h2
    rw [sr09_Check_L2]
    by_cases c : (i : Int) < (n.edges.length : Int)
    · obtain ⟨r, hr, hq⟩ := ih (i + 1) (by omega) (by omega)
      rw [if_pos c, if_pos ⟨by omega, c⟩, wr_succ i (by omega), hr, isNode9_spec, Option.bind_some]
      split
      · exact ⟨_, rfl, hq⟩
      · exact ⟨_, rfl, .inr rfl⟩
    · rw [if_neg c]; exact ⟨_, rfl, .inl rfl⟩
structure Held (n : Net) : Prop where
  nodes : ∀ x, x ∈ n.nodes → x.name.size < 9223372036854775808
  edges : ∀ x, x ∈ n.edges → x.name.size < 9223372036854775808
theorem Chk_spec {k : Nat} (hk : 9223372036854775808 ≤ k) (n : Net) (h1 : n.nodes.length ≤ 10) (h2 : n.links.length ≤ 24) (h3 : n.edges.length ≤ 20) (hh : Held n) : ∃ r, sr09_Check k n = some r ∧ (r = 0 → RightNet n) := by
  unfold sr09_Check
  rw [if_neg (by omega), if_neg (by omega), Option.bind_some, if_neg (by simp only [decide_eq_true_eq]; omega)]
  obtain ⟨l1, a1, a2, a3⟩ := Names_L0 k n (by omega) hh.nodes k 0 [] (by omega) (by omega) rfl (fun s hs => by simp at hs)
  obtain ⟨l2, b1, b2, b3⟩ := Names_L1 k n (by omega) hh.edges k 0 [] (by omega) (by omega) rfl (fun s hs => by simp at hs)
  obtain ⟨r1, c1⟩ := named_tot hk l1 (by omega) a3
  obtain ⟨r2, c2⟩ := named_tot hk l2 (by omega) b3
  obtain ⟨d1, e1, g1⟩ := Chk_L0 k n (by omega) k 0 (by omega) (by omega)
  obtain ⟨d2, e2, g2⟩ := Chk_L1 k n (by omega) k 0 (by omega) (by omega) (fun j hj => by omega)
  obtain ⟨d3, e3, g3⟩ := Chk_L2 k n (by omega) k 0 (by omega) (by omega)
  rw [show ((0 : Nat) : Int) = 0 from rfl] at a1 b1 e1 e2 e3
  have hN : sr09_Names k n = some (l1, l2) := by
    unfold sr09_Names
    rw [a1, b1]
    simp
  rw [hN, Option.bind_some]
  simp only [c1, c2, Option.bind_some, e1, e2, e3]
  cases r1 with
  | false => exact ⟨4, rfl, fun h => by simp at h⟩
  | true =>
    cases r2 with
    | false => exact ⟨4, rfl, fun h => by simp at h⟩
    | true =>
      rcases g1 with rfl | rfl
      · rcases g2 with ⟨rfl, hall⟩ | rfl
        · have hR : RightNet n := ⟨h1, h2, fun j hj => (hall j hj).1, fun j hj => (hall j hj).2.1, fun j hj => (hall j hj).2.2.1, fun j hj => (hall j hj).2.2.2⟩
          rcases g3 with rfl | rfl
          · exact ⟨0, rfl, fun _ => hR⟩
          · exact ⟨1, rfl, fun h => by simp at h⟩
        · exact ⟨1, rfl, fun h => by simp at h⟩
      · exact ⟨1, rfl, fun h => by simp at h⟩
theorem netOk {k : Nat} (hk : 9223372036854775808 ≤ k) (n : Net) (hh : Held n) {α : Type} (f : Option α) (g : Option α) (h : Option α) :
    ((sr09_Few k n 10 24 20).bind fun rFew => (if rFew = true then ((sr09_Check k n).bind fun rCheck => (if rCheck ≠ 0 then g else h)) else f)) = f ∨ ((sr09_Few k n 10 24 20).bind fun rFew => (if rFew = true then ((sr09_Check k n).bind fun rCheck => (if rCheck ≠ 0 then g else h)) else f)) = g ∨ (((sr09_Few k n 10 24 20).bind fun rFew => (if rFew = true then ((sr09_Check k n).bind fun rCheck => (if rCheck ≠ 0 then g else h)) else f)) = h ∧ RightNet n) := by
  unfold sr09_Few
  by_cases q1 : (n.nodes.length : Int) ≤ 10
  · rw [if_pos q1]
    by_cases q2 : (n.links.length : Int) ≤ 24
    · rw [if_pos q2, Option.bind_some]
      by_cases q3 : (n.edges.length : Int) ≤ 20
      · rw [if_pos (decide_eq_true q3)]
        obtain ⟨r1, h1, h2⟩ := Chk_spec hk n (by omega) (by omega) (by omega) hh
        rw [h1, Option.bind_some]
        by_cases q4 : r1 = 0
        · rw [if_neg (fun h => h q4)]; exact .inr (.inr ⟨rfl, h2 q4⟩)
        · rw [if_pos q4]; exact .inr (.inl rfl)
      · rw [if_neg (by simpa using q3)]; exact .inl rfl
    · rw [if_neg q2]; exact .inl rfl
  · rw [if_neg q1]; exact .inl rfl
end Go.Proofs.YtjgbkegkcbcjaaaGreat
namespace Go.Proofs.YtjgbkegkcbcjaaaGreat
open Go Go.RowKit
def lastP (t : List Rule) (j : Int) : Int := if j = 0 then 65536 else (gx t (j - 1)).prio
def goodAt (n : Net) (steps : Int) (t : List Rule) (j : Nat) : Bool := formed n steps (t.getD j default) && decide ((t.getD j default).prio < lastP t j)
def checkT (n : Net) (steps : Int) (t : List Rule) : Int × Int :=
  if steps < 0 ∨ 1000 < steps then (0, 1) else if 4000 < t.length then (0, 2) else
  match (List.range t.length).findSome? (fun j => if goodAt n steps t j = true then none else some ((j : Int), (1 : Int))) with
  | some r => r
  | none => (0, 0)
theorem r25_Check {k : Nat} (n : Net) (steps : Int) (t : List Rule) (ht : okTab t) (hk : big ≤ k) : sr25_Check k n steps t = some (checkT n steps t) := by
  unfold sr25_Check checkT
  have hloop : sr25_Check_L0 k n steps t k 0 = some (sumO ((List.range t.length).findSome? (fun j => if goodAt n steps t j = true then none else some ((j : Int), (1 : Int))))) := by
    refine loop_range (L := sr25_Check_L0 k n steps t) t.length _ ht.1 (fun m j h => ?_) (fun m => by rw [sr25_Check_L0, if_neg (by omega)]) (Nat.lt_of_lt_of_le ht.1 hk)
    have hb : j < 9223372036854775808 := by have := ht.1; simp only [big] at this; omega
    rw [sr25_Check_L0, if_pos (lt_cast h), if_pos ⟨by omega, lt_cast h⟩, gx_at h, r25_Formed n steps _ (ht.2 _ (List.getElem_mem h)) hk, Option.bind_some]
    have hg : goodAt n steps t j = (formed n steps t[j] && decide (t[j].prio < lastP t j)) := by
      unfold goodAt
      rw [List.getD_eq_getElem?_getD, List.getElem?_eq_getElem h]; rfl
    rw [hg]
    cases hf : formed n steps t[j] with
    | false => rfl
    | true =>
      simp only [if_true, Bool.true_and, decide_eq_true_eq]
      unfold lastP
      by_cases c0 : 0 < (j : Int)
      · have e1 : IntKind.i64.wrap ((j : Int) - 1) = ((j - 1 : Nat) : Int) := by rw [wr64 (by omega)]; omega
        have e2 : (j : Int) - 1 = ((j - 1 : Nat) : Int) := by omega
        have h2 : j - 1 < t.length := by omega
        rw [if_pos c0, e1, if_pos ⟨by omega, by omega⟩, if_neg (show ¬ (j : Int) = 0 by omega), e2, gx_at h2]
        by_cases c : t[j - 1].prio ≤ t[j].prio
        · rw [if_pos c, if_neg (by omega)]
        · rw [if_neg c, if_pos (by omega)]
      · have hp : t[j].prio ≤ 65535 := by
          unfold formed at hf
          simp only [Bool.and_eq_true, decide_eq_true_eq] at hf
          exact hf.1.2
        rw [if_neg c0, if_pos (show (j : Int) = 0 by omega), if_pos (by omega)]
  rw [hloop]
  by_cases c1 : steps < 0
  · rw [if_pos c1, if_pos (show steps < 0 ∨ 1000 < steps from .inl c1)]; rfl
  · rw [if_neg c1]
    by_cases c2 : 1000 < steps
    · rw [decide_eq_true c2, if_pos (show steps < 0 ∨ 1000 < steps from .inr c2)]; rfl
    · rw [decide_eq_false c2, if_neg (show ¬ (steps < 0 ∨ 1000 < steps) by omega), Option.bind_some]
      simp only [Bool.false_eq_true, if_false]
      by_cases c3 : 4000 < t.length
      · rw [if_pos (by omega), if_pos c3]
      · rw [if_neg (by omega), if_neg c3, Option.bind_some]
        cases (List.range t.length).findSome? _ <;> rfl
def fewT (t : List Rule) (most : Int) : Bool := t.all (fun r => decide (r.outs.length ≤ 20) && r.outs.all fun l => decide (l.length ≤ 10)) && decide ((t.length : Int) ≤ most)
theorem r25_Few {k : Nat} (t : List Rule) (most : Int) (ht : okTab t) (hk : big ≤ k) : sr25_Few k t most = some (fewT t most) := by
  unfold sr25_Few fewT
  rw [loop_all (L := sr25_Few_L0 k t) t false (fun r => decide (r.outs.length ≤ 20) && r.outs.all fun l => decide (l.length ≤ 10)) ht.1 (fun m j h => by
    rw [sr25_Few_L0, if_pos (lt_cast h), if_pos ⟨by omega, lt_cast h⟩, gx_at h]
    by_cases c : 20 < (t[j].outs.length : Int)
    · rw [if_pos c, decide_eq_false (by omega)]; rfl
    · rw [if_neg c, decide_eq_true (by omega)]
      have hr := (ht.2 _ (List.getElem_mem h)).1
      rw [loop_all (L := sr25_Few_L1 k t (j : Int)) t[j].outs false (fun l => decide (l.length ≤ 10)) hr (fun m i hi => by
        rw [sr25_Few_L1, gx_at h, if_pos (lt_cast hi), if_pos ⟨by omega, lt_cast hi⟩, gx_at hi]
        by_cases d : 10 < (t[j].outs[i].length : Int)
        · rw [if_pos d, decide_eq_false (by omega)]; rfl
        · rw [if_neg d, decide_eq_true (by omega)]; rfl) (fun m => by rw [sr25_Few_L1, gx_at h, if_neg (by omega)]) (Nat.lt_of_lt_of_le hr hk), Option.bind_some]
      simp only [Bool.true_and]
      cases t[j].outs.all _ <;> rfl) (fun m => by rw [sr25_Few_L0, if_neg (by omega)]) (Nat.lt_of_lt_of_le ht.1 hk), Option.bind_some]
  cases t.all _ <;> rfl
end Go.Proofs.YtjgbkegkcbcjaaaGreat
