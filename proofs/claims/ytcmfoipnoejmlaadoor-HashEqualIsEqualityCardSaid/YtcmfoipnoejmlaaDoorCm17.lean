/- The plain machine, seventeenth part: what the looks at a region say. No program in sight. -/
import Derived.Test.YtcmfoipnoejmlaaDoorCm16
namespace Go.Proofs.YtcmfoipnoejmlaaDoor
open Go Go.RowKit

theorem insAll_keep {lim : Nat} : ∀ {xs l : List Nat} {f : Nat}, f ∈ l → f ∈ insAll lim l xs
  | [], _, _, h => h
  | _ :: xs, _, _, h => insAll_keep (xs := xs) (ins_mem h)
theorem insAll_new {lim : Nat} : ∀ {xs l : List Nat} {f : Nat}, f ∈ xs → f < lim → f ∈ insAll lim l xs
  | x :: xs, l, f, h, hl => by
    rcases List.mem_cons.1 h with rfl | h
    · refine insAll_keep (xs := xs) ?_
      rcases ins_self (lim := lim) (l := l) (n := f) with h | h
      · exact h
      · omega
    · exact insAll_new (xs := xs) h hl
theorem mem_has : ∀ {l : List Nat} {n : Nat}, n ∈ l → has l n = true
  | x :: l, n, h => by
    simp only [has]
    cases hb : Nat.beq x n with
    | true => rfl
    | false =>
      simp only [cond_false]
      rcases List.mem_cons.1 h with rfl | h
      · rw [Nat.beq_refl] at hb; simp at hb
      · exact mem_has h
theorem meet_false {a b : List Nat} (h : meet a b = false) {f : Nat} (ha : f ∈ a) : f ∉ b := by
  intro hb
  unfold meet at h
  rw [List.any_eq_false] at h
  exact h f ha (mem_has hb)
theorem within_false {lo hi : Nat} {l : List Nat} (h : within lo hi l = false) {f : Nat} (hf : f ∈ l) : ¬ (lo ≤ f ∧ f < hi) := by
  intro hb
  unfold within at h
  rw [List.any_eq_false] at h
  exact h f hf (by rw [ble_iff.2 hb.1, blt_iff.2 hb.2]; rfl)
theorem nth_take {α : Type} (d : α) : ∀ (l : List α) (j i : Nat), nth d (l.take j) i = if i < j then nth d l i else d
  | [], j, i => by simp [nth]
  | x :: l, 0, i => by simp [nth]
  | x :: l, j + 1, 0 => by simp [nth]
  | x :: l, j + 1, i + 1 => by
    simp only [List.take_succ_cons, nth]
    rw [nth_take d l j i]
    by_cases h : i < j
    · rw [if_pos h, if_pos (by omega)]
    · rw [if_neg h, if_neg (by omega)]
theorem nth_append {α : Type} (d : α) : ∀ (l m : List α) (i : Nat), nth d (l ++ m) (l.length + i) = nth d m i
  | [], m, i => by simp
  | x :: l, m, i => by
    show nth d (x :: (l ++ m)) ((l.length + 1) + i) = _
    rw [show l.length + 1 + i = (l.length + i) + 1 by omega]
    exact nth_append d l m i
theorem masks_spec : ∀ (l : List Oper) (ms : List Nat), (∃ r, masks l ms = ms ++ r) ∧ ∀ (k : Nat) (o : Oper), l[k]? = some o → nth 0 (masks l ms) (ms.length + k) = maskOf ((masks l ms).take (ms.length + k)) o.after.toList
  | [], ms => ⟨⟨[], by simp [masks]⟩, fun k o h => by simp at h⟩
  | o :: l, ms => by
    obtain ⟨⟨r, hr⟩, hs⟩ := masks_spec l (ms ++ [maskOf ms o.after.toList])
    refine ⟨⟨maskOf ms o.after.toList :: r, by simp only [masks]; rw [hr]; simp⟩, fun k o' h => ?_⟩
    simp only [masks]
    cases k with
    | zero =>
      simp only [List.getElem?_cons_zero, Option.some.injEq] at h
      subst h
      rw [hr, List.append_assoc, nth_append]
      simp only [Nat.add_zero, List.take_left, List.singleton_append, nth]
    | succ k =>
      have := hs k o' (by simpa using h)
      rw [List.length_append, List.length_singleton, show ms.length + 1 + k = ms.length + (k + 1) by omega] at this
      exact this
theorem maskOf_bit : ∀ {es : List Edge} {ms : List Nat} {i : Nat}, Nat.testBit (maskOf ms es) i = true → ∃ e, e ∈ es ∧ Region.binds .any e = true ∧ (i = e.on ∨ Nat.testBit (nth 0 ms e.on) i = true)
  | e :: es, ms, i, h => by
    simp only [maskOf] at h
    cases hb : Region.binds .any e with
    | false =>
      rw [hb] at h
      obtain ⟨e', h1, h2, h3⟩ := maskOf_bit (es := es) h
      exact ⟨e', by simp [h1], h2, h3⟩
    | true =>
      rw [hb] at h
      have h' : Nat.testBit (2 ^ e.on ||| nth 0 ms e.on ||| maskOf ms es) i = true := h
      rw [Nat.testBit_or, Nat.testBit_or, Bool.or_eq_true, Bool.or_eq_true] at h'
      rcases h' with (h' | h') | h'
      · refine ⟨e, by simp, hb, .inl ?_⟩
        rw [Nat.testBit_two_pow] at h'
        exact (of_decide_eq_true h').symm
      · exact ⟨e, by simp, hb, .inr h'⟩
      · obtain ⟨e', h1, h2, h3⟩ := maskOf_bit (es := es) h'
        exact ⟨e', by simp [h1], h2, h3⟩
  | [], ms, i, h => by simp [maskOf] at h
/-- what the mask of an operation names stands before it in every order -/
theorem mask_forced {ops : List Oper} {E : Nat → Prop} (hE : ∀ (j : Nat) (o : Oper), ops[j]? = some o → E j → ∀ e, e ∈ o.after.toList → Region.binds .any e = true → E e.on) :
    ∀ (j : Nat) (o : Oper), ops[j]? = some o → (∀ e, e ∈ o.after.toList → Region.binds .any e = true → E e.on) → ∀ i, Nat.testBit (nth 0 (masks ops []) j) i = true → E i := by
  intro j
  induction j using Nat.strongRecOn with
  | _ j ih =>
    intro o ho hp i hi
    have := (masks_spec ops []).2 j o ho
    simp only [List.length_nil, Nat.zero_add] at this
    rw [this] at hi
    obtain ⟨e, h1, h2, h3⟩ := maskOf_bit hi
    have he := hp e h1 h2
    rcases h3 with rfl | h3
    · exact he
    · rw [nth_take] at h3
      split at h3
      · rename_i hlt
        have hj := (List.getElem?_eq_some_iff.1 ho).1
        obtain ⟨o', ho'⟩ : ∃ o', ops[e.on]? = some o' := ⟨_, List.getElem?_eq_getElem (by omega)⟩
        exact ih e.on hlt o' ho' (hE e.on o' ho' he) i h3
      · simp at h3
theorem calmOne_spec {α : Type} {bad : α → α → Bool} {m : Nat} {y : α} : ∀ {l : List α} {i : Nat}, calmOne bad m y l i = true → ∀ (k : Nat) (x : α), l[k]? = some x → Nat.testBit m (i + k) = true ∨ bad x y = false
  | x :: l, i, h, k, x', hk => by
    simp only [calmOne, Bool.and_eq_true, Bool.or_eq_true] at h
    cases k with
    | zero =>
      simp only [List.getElem?_cons_zero, Option.some.injEq] at hk
      subst hk
      rcases h.1 with h | h
      · exact .inl h
      · exact .inr (by simpa using h)
    | succ k =>
      have := calmOne_spec h.2 k x' (by simpa using hk)
      rwa [show i + 1 + k = i + (k + 1) by omega] at this
  | [], _, _, k, x, hk => by simp at hk
theorem calmAll_spec {α : Type} {bad : α → α → Bool} {ms : List Nat} : ∀ {l done : List α}, calmAll bad done l ms = true → ∀ (i j : Nat) (x y : α), i < j → done.length ≤ j → (done ++ l)[i]? = some x → (done ++ l)[j]? = some y → Nat.testBit (nth 0 ms j) i = true ∨ bad x y = false
  | [], done, _, i, j, x, y, hij, hd, hx, hy => by
    have := (List.getElem?_eq_some_iff.1 hy).1
    simp at this
    omega
  | z :: l, done, h, i, j, x, y, hij, hd, hx, hy => by
    simp only [calmAll, Bool.and_eq_true] at h
    by_cases hj : j = done.length
    · subst hj
      rw [List.getElem?_append_right (Nat.le_refl _)] at hy
      simp only [Nat.sub_self, List.getElem?_cons_zero, Option.some.injEq] at hy
      subst hy
      rw [List.getElem?_append_left hij] at hx
      have := calmOne_spec h.1 i x hx
      simpa using this
    · exact calmAll_spec h.2 i j x y hij (by simp; omega) (by simpa using hx) (by simpa using hy)
theorem edges_spec : ∀ {l : List Oper} {i : Nat}, edgesOk l i = true → ∀ (k : Nat) (o : Oper), l[k]? = some o → ∀ e, e ∈ o.after.toList → Region.binds .any e = true → e.on < i + k
  | o :: l, i, h, k, o', hk, e, he, hb => by
    simp only [edgesOk, Bool.and_eq_true] at h
    cases k with
    | zero =>
      simp only [List.getElem?_cons_zero, Option.some.injEq] at hk
      subst hk
      have := List.all_eq_true.1 h.1 e he
      rw [hb] at this
      simp only [Bool.not_true, Bool.false_or] at this
      have := blt_iff.1 this
      omega
    | succ k =>
      have := edges_spec h.2 k o' (by simpa using hk) e he hb
      omega
  | [], _, _, k, o, hk, _, _, _ => by simp at hk
theorem touchy_dst {ops : List Oper} {x y : Oper} (h : touchy ops x y = false) {d : Nat} (hx : x.dst = some d) : d ∉ namesOf ops y ∧ y.dst ≠ some d := by
  unfold touchy at h
  rw [hx, Bool.or_eq_false_iff] at h
  simp only [Bool.or_eq_false_iff] at h
  refine ⟨fun k => by rw [mem_has k] at h; simp at h, fun k => ?_⟩
  rw [k] at h
  simp at h
theorem touchy_names {ops : List Oper} {x y : Oper} (h : touchy ops x y = false) {d : Nat} (hy : y.dst = some d) : d ∉ namesOf ops x := by
  unfold touchy at h
  rw [hy, Bool.or_eq_false_iff] at h
  intro k
  have h2 : has (namesOf ops x) d = false := h.2
  rw [mem_has k] at h2
  simp at h2
theorem clash_false {x y : Lg} (h : clash x y = false) : (∀ f, f ∈ x.wr → f ∉ y.rd ∧ f ∉ y.wr) ∧ (∀ f, f ∈ x.rd → f ∉ y.wr) ∧ (∀ f, (f ∈ y.rd ∨ f ∈ y.wr) → ¬ (x.lo ≤ f ∧ f < x.hi)) := by
  unfold clash at h
  simp only [Bool.or_eq_false_iff] at h
  obtain ⟨⟨⟨⟨h1, h2⟩, h3⟩, h4⟩, h5⟩ := h
  exact ⟨fun f hf => ⟨meet_false h1 hf, meet_false h2 hf⟩, fun f hf => meet_false h3 hf, fun f hf => hf.elim (within_false h4) (within_false h5)⟩
theorem max_of (p : Nat → Prop) : ∀ n, (∀ k, k < n → ¬ p k) ∨ ∃ m, m < n ∧ p m ∧ ∀ k, k < n → p k → k ≤ m
  | 0 => .inl fun k hk => by omega
  | n + 1 => by
    by_cases hp : p n
    · exact .inr ⟨n, by omega, hp, fun k hk _ => by omega⟩
    · rcases max_of p n with h | ⟨m, h1, h2, h3⟩
      · refine .inl fun k hk hpk => ?_
        by_cases hkn : k = n
        · subst hkn; exact hp hpk
        · exact h k (by omega) hpk
      · refine .inr ⟨m, by omega, h2, fun k hk hpk => ?_⟩
        by_cases hkn : k = n
        · subst hkn; exact absurd hpk hp
        · exact h3 k (by omega) hpk

/-- the run of a region, operation after operation -/
structure Trace (P : Program) (Γ : Env) (call : CallC) (ops l : List Oper) (fr : Fr) (s : CS) (logs : List Lg) (fr' : Fr) (s' : CS) (F : Nat → Fr) (S T : Nat → CS) : Prop where
  f0 : F 0 = fr
  s0 : S 0 = s
  fN : F l.length = fr'
  sN : S l.length = s'
  len : logs.length = l.length
  step : ∀ (i : Nat) (o : Oper), l[i]? = some o → stepC P Γ call ops o (F i) (S i).inner = some (F (i + 1), T i) ∧ S (i + 1) = (S i).outer (T i) ∧ logs[i]? = some ⟨(T i).rd, (T i).wr, (S i).n, (T i).n⟩
section
variable {P : Program} {Γ : Env} {call : CallC}
theorem draw_trace {ops : List Oper} : ∀ {l : List Oper} {fr fr' : Fr} {s s' : CS} {logs : List Lg}, drawC P Γ call ops l fr s = some (logs, fr', s') → ∃ F S T, Trace P Γ call ops l fr s logs fr' s' F S T
  | [], fr, fr', s, s', logs, h => by
    simp only [drawC, Option.some.injEq, Prod.mk.injEq] at h
    obtain ⟨rfl, rfl, rfl⟩ := h
    exact ⟨fun _ => fr, fun _ => s, fun _ => s, rfl, rfl, rfl, rfl, rfl, fun i o h => by simp at h⟩
  | o :: l, fr, fr', s, s', logs, h => by
    simp only [drawC] at h
    cases hq : stepC P Γ call ops o fr s.inner with
    | none => rw [hq] at h; simp at h
    | some p =>
      obtain ⟨fr1, t⟩ := p
      rw [hq] at h
      simp only at h
      cases hd : drawC P Γ call ops l fr1 (s.outer t) with
      | none => rw [hd] at h; simp at h
      | some q =>
        obtain ⟨logs1, fr2, s2⟩ := q
        rw [hd] at h
        simp only [Option.some.injEq, Prod.mk.injEq] at h
        obtain ⟨rfl, rfl, rfl⟩ := h
        obtain ⟨F, S, T, ht⟩ := draw_trace hd
        refine ⟨fun i => match i with | 0 => fr | i + 1 => F i, fun i => match i with | 0 => s | i + 1 => S i, fun i => match i with | 0 => t | i + 1 => T i, rfl, rfl, ht.fN, ht.sN, by simp [ht.len], ?_⟩
        intro i o' ho'
        cases i with
        | zero =>
          simp only [List.getElem?_cons_zero, Option.some.injEq] at ho'
          subst ho'
          refine ⟨?_, ?_, rfl⟩
          · show stepC P Γ call ops o fr s.inner = some (F 0, t)
            rw [ht.f0]; exact hq
          · show S 0 = s.outer t
            exact ht.s0
        | succ i => exact ht.step i o' (by simpa using ho')
theorem inner_inv {s : CS} (h : CInv s) : CInv s.inner := ⟨h.none, h.vers, Nat.le_refl _⟩
theorem outer_can {s t : CS} (hI : CInv s) (h : Can s.inner t) : Can s (s.outer t) := by
  refine ⟨h.n, rfl, fun f hf => insAll_keep hf, fun f hf => insAll_keep hf, ?_, h.ro, h.none, h.vers, ?_⟩
  · intro f hn hl hw
    exact h.same f hn hn fun hf => hw (insAll_new hf hl)
  · have hall : ∀ (xs l : List Nat), (∀ f, f ∈ l → f < s.lim) → ∀ f, f ∈ insAll s.lim l xs → f < s.lim := by
      intro xs
      induction xs with
      | nil => intro l h f hf; exact h f hf
      | cons x xs ih => intro l h f hf; exact ih _ (fun g hg => (mem_ins hg).elim (h g) (fun k => k.2)) f hf
    exact fun h f hf => hall _ _ h f hf
end
end Go.Proofs.YtcmfoipnoejmlaaDoor
