/- Trees: values without boxes, calls that turn nothing, boxes that are given up. No program in sight. -/
import Derived.Test.YtfalnphlgfoflaaTj
namespace Go.Proofs.Ytfalnphlgfoflaa
open Go Go.RowKit
set_option linter.unusedSimpArgs false
set_option linter.unusedVariables false
mutual
def T.ids (n : Nat) : T → Bool
  | .agg l => T.idsL n l
  | .tup l => T.idsL n l
  | .lst _ l => T.idsL n l
  | .cp l => T.idsL n l
  | .ptr b _ _ => Nat.blt b n
  | .arr b _ _ _ _ _ => Nat.blt b n
  | .mp b => Nat.blt b n
  | .fn _ a c => T.idsL n a && T.idsL n c
  | _ => true
def T.idsL (n : Nat) : List T → Bool
  | [] => true
  | t :: l => T.ids n t && T.idsL n l
end
mutual
def T.flat : T → Bool
  | .agg l => T.flatL l
  | .tup l => T.flatL l
  | .int _ _ => true
  | .bool _ => true
  | .str _ => true
  | .nils => true
  | .nilp => true
  | .nilm => true
  | .nilf => true
  | .junk => true
  | _ => false
def T.flatL : List T → Bool
  | [] => true
  | t :: l => T.flat t && T.flatL l
end
section
variable {GL : List (Nat × List Value)} {A A' A2 : Nat → Prop} {β β' β2 : Bx} {S S' S2 : TS} {s s' s2 : CS} {P : Program} {Γ : Env} {N : Nat} {h h' h2 : Nat → T} {Q R : Exit → (Nat → T) → TS → Prop} {g g' : Nat → Fam}
theorem idsL_append {n : Nat} : ∀ {l l2 : List T}, T.idsL n (l ++ l2) = (T.idsL n l && T.idsL n l2)
  | [], l2 => by simp [T.idsL]
  | t :: l, l2 => by simp only [List.cons_append, T.idsL, idsL_append, Bool.and_assoc]
theorem ids_cells {n : Nat} {t : T} (h : t.ids n = true) : T.idsL n t.cells = true := by
  cases t <;> first | exact h | (simp only [T.cells, T.idsL, h, Bool.and_self])
theorem idsL_cells {n : Nat} : ∀ {l : List T}, T.idsL n l = true → T.idsL n (l.flatMap T.cells) = true
  | [], _ => rfl
  | t :: l, h => by
    simp only [T.idsL, Bool.and_eq_true] at h
    rw [List.flatMap_cons, idsL_append, ids_cells h.1, idsL_cells h.2]
    rfl
theorem idsL_mem {n : Nat} : ∀ {l : List T}, (∀ t, t ∈ l → t.ids n = true) → T.idsL n l = true
  | [], _ => rfl
  | t :: l, h => by
    simp only [T.idsL, Bool.and_eq_true]
    exact ⟨h t (by simp), idsL_mem fun t ht => h t (by simp [ht])⟩
mutual
theorem VT.ids {n : Nat} (hβ : ∀ b, b < n → β' b = β b) : ∀ {t : T} {v : Value}, t.ids n = true → VT A β g t v → VT A β' g t v
  | _, _, _, .int k n => .int k n
  | _, _, _, .bool b => .bool b
  | _, _, _, .str b => .str b
  | _, _, hi, .agg h => .agg (VL.ids hβ hi h)
  | _, _, hi, .tup h => .tup (VL.ids hβ hi h)
  | _, _, _, .lnil => .lnil
  | _, _, hi, .lst h1 h2 h3 h4 h5 h6 h7 h8 => .lst h1 h2 (VL.ids hβ (idsL_cells hi) h3) h4 h5 h6 h7 h8
  | _, _, _, .nils => .nils
  | _, _, _, .nilp => .nilp
  | _, _, _, .nilm => .nilm
  | _, _, _, .nilf => .nilf
  | _, _, hi, .ptr h => .ptr (by rw [hβ _ (blt_iff.1 hi)]; exact h)
  | _, _, hi, .ptrOld h h0 h1 h2 => .ptrOld (by rw [hβ _ (blt_iff.1 hi)]; exact h) h0 h1 h2
  | _, _, hi, .cp h1 h2 h3 h4 => .cp h1 h2 (VL.ids hβ hi h3) h4
  | _, _, hi, .arr h ht => .arr (by rw [hβ _ (blt_iff.1 hi)]; exact h) ht
  | _, _, hi, .arrNil h => .arrNil (by rw [hβ _ (blt_iff.1 hi)]; exact h)
  | _, _, hi, .arrOld h h0 h1 h2 => .arrOld (by rw [hβ _ (blt_iff.1 hi)]; exact h) h0 h1 h2
  | _, _, hi, .mp h => .mp (by rw [hβ _ (blt_iff.1 hi)]; exact h)
  | _, _, hi, .mpOld h h2 => .mpOld (by rw [hβ _ (blt_iff.1 hi)]; exact h) h2
  | _, _, hi, .fn h1 h2 => by
    simp only [T.ids, Bool.and_eq_true] at hi
    exact .fn (VL.ids hβ hi.1 h1) (VL.ids hβ hi.2 h2)
  | _, _, _, .junk v => .junk v
  | _, _, _, .emp h1 h2 h3 h4 => .emp h1 h2 h3 h4
theorem VL.ids {n : Nat} (hβ : ∀ b, b < n → β' b = β b) : ∀ {l : List T} {vs : List Value}, T.idsL n l = true → VL A β g l vs → VL A β' g l vs
  | _, _, _, .nil => .nil
  | _, _, hi, .cons h k => by
    simp only [T.idsL, Bool.and_eq_true] at hi
    exact .cons (VT.ids hβ hi.1 h) (VL.ids hβ hi.2 k)
end
mutual
theorem VT.flat : ∀ {t : T} {v : Value}, t.flat = true → VT A β g t v → VT A' β' g' t v
  | _, _, _, .int k n => .int k n
  | _, _, _, .bool b => .bool b
  | _, _, _, .str b => .str b
  | _, _, hi, .agg h => .agg (VL.flat hi h)
  | _, _, hi, .tup h => .tup (VL.flat hi h)
  | _, _, _, .nils => .nils
  | _, _, _, .nilp => .nilp
  | _, _, _, .nilm => .nilm
  | _, _, _, .nilf => .nilf
  | _, _, _, .junk v => .junk v
  | _, _, hi, .lnil => by simp [T.flat] at hi
  | _, _, hi, .lst _ _ _ _ _ _ _ _ => by simp [T.flat] at hi
  | _, _, hi, .ptr _ => by simp [T.flat] at hi
  | _, _, hi, .ptrOld _ _ _ _ => by simp [T.flat] at hi
  | _, _, hi, .cp _ _ _ _ => by simp [T.flat] at hi
  | _, _, hi, .arr _ _ => by simp [T.flat] at hi
  | _, _, hi, .arrNil _ => by simp [T.flat] at hi
  | _, _, hi, .arrOld _ _ _ _ => by simp [T.flat] at hi
  | _, _, hi, .mp _ => by simp [T.flat] at hi
  | _, _, hi, .mpOld _ _ => by simp [T.flat] at hi
  | _, _, hi, .fn _ _ => by simp [T.flat] at hi
  | _, _, hi, .emp _ _ _ _ => by simp [T.flat] at hi
theorem VL.flat : ∀ {l : List T} {vs : List Value}, T.flatL l = true → VL A β g l vs → VL A' β' g' l vs
  | _, _, _, .nil => .nil
  | _, _, hi, .cons h k => by
    simp only [T.flatL, Bool.and_eq_true] at hi
    exact .cons (VT.flat hi.1 h) (VL.flat hi.2 k)
end
def bx0 : Bx := fun _ => none
theorem own_bx0 {f : Nat} : ¬ Own bx0 f := fun ⟨b, h⟩ => by rcases h with ⟨u, N, h⟩ | h <;> simp [bx0] at h
theorem TRel.bare (hT : TRel GL A β S s) (A1 : Nat → Prop) (h1 : ∀ f, A f → A1 f) (h2 : ∀ f, A1 f → f < s.n) : TRel GL A1 bx0 ts0 s :=
  ⟨hT.inr, hT.inv, h2, fun f hf => absurd hf own_bx0, fun b b' l l' f hb => by simp [bx0] at hb, fun b _ => rfl, fun b z N l hb => by simp [ts0] at hb, fun b l hb => by simp [ts0] at hb, fun x hx => ⟨h1 _ (hT.glob x hx).1, (hT.glob x hx).2⟩⟩
def Pure (P : Program) (Γ : Env) (GL : List (Nat × List Value)) (f : FuncId) (args : List T) (v : T) : Prop := T.idsL 0 args = true ∧ v.ids 0 = true ∧ Call P Γ GL f args ts0 v ts0
def Call0 (P : Program) (Γ : Env) (GL : List (Nat × List Value)) (f : FuncId) (args : List T) (S : TS) (v : T) : Prop :=
  ∀ A β s vargs, TRel GL A β S s → VL A β (objAt s.obj) args vargs → Ok0 GL A β S s (callR P Γ f vargs s) v
theorem Call0.call {f : FuncId} {args : List T} {v : T} (k : Call0 P Γ GL f args S v) : Call P Γ GL f args S v S := fun A β s vargs hT hv => (k A β s vargs hT hv).ok
theorem Pure.call {f : FuncId} {args : List T} {v : T} (k : Pure P Γ GL f args v) (S : TS) : Call0 P Γ GL f args S v := by
  intro A β s vargs hT hv
  obtain ⟨k1, k2, k3⟩ := k
  have hT0 := hT.bare A (fun _ h => h) hT.alt
  obtain ⟨w, s', A', β', e1, e2, e3, e4⟩ := k3 A bx0 s vargs hT0 (VL.ids (n := 0) (fun b hb => absurd hb (by omega)) k1 hv)
  have hc : Calm0 A β s A' s' := by
    refine ⟨e4.can, e4.sub, fun f hf => ?_, fun f hf => e4.keep f hf own_bx0, fun x hx => ?_, fun x hx => ?_⟩
    · rcases e4.new f hf with q | q | q
      · exact .inl q
      · exact .inr q
      · exact absurd q own_bx0
    · rcases e4.rd x hx with q | ⟨q, q2⟩
      · exact .inl q
      · exact .inr ⟨q, .inl (q2.resolve_right own_bx0)⟩
    · rcases e4.wr x hx with q | ⟨_, q⟩
      · exact q
      · exact absurd q own_bx0
  exact ⟨w, s', A', e1, hc.rel hT e2.inr e2.inv e2.alt, VT.ids (n := 0) (fun b hb => absurd hb (by omega)) k2 e3, hc⟩
def Lend1 (S : TS) (t t' : T) : Prop := t = t' ∨ ∃ b e off len cap N z l L, t = .arr b e off len cap N ∧ t' = .lst e L ∧ S.box b = .cells z N l ∧ 0 < e ∧ off + len * e ≤ N ∧ (l.drop off).take (len * e) = L.flatMap T.cells ∧ (∀ t, t ∈ L → t.cells.length = e) ∧ L.length = len ∧ len ≤ cap
def Lend (S : TS) : List T → List T → Prop
  | [], [] => True
  | t :: l, t' :: l' => Lend1 S t t' ∧ Lend S l l'
  | _, _ => False
theorem lend1_ok (hT : TRel GL A β S s) {t t' : T} {v : Value} (hi : t'.ids 0 = true) (hl : Lend1 S t t') (hv : VT A β (objAt s.obj) t v) : VT (fun f => A f ∨ Own β f) bx0 (objAt s.obj) t' v := by
  rcases hl with rfl | ⟨b, e, off, len, cap, N, z, l, L, rfl, rfl, hS, he, hN, hL, hs, hlen, hcap⟩
  · exact (VT.ids (n := 0) (β' := bx0) (fun b hb => absurd hb (by omega)) hi hv).mono (fun _ h => .inl h) (fun _ _ => rfl) (Bx.le_refl _)
  · rcases arr_inv hT hS hv with ⟨f, u, rfl, hb, htag⟩ | ⟨rfl, hb, rfl, rfl, rfl, rfl⟩
    · obtain ⟨hlN, hc⟩ := hT.cells b z N l hS
      rcases hc with ⟨hb2, _, _⟩ | ⟨f', u', cs, rest, hb2, hz, hat, hvl, hone⟩
      · rw [hb] at hb2; simp at hb2
      rw [hb] at hb2
      cases hb2
      have hcl := hvl.len
      have hrow : rowOf (objAt s.obj f).rows u = some cs := by
        rw [hat]
        show rowOf ((u, cs) :: rest) u = some cs
        unfold rowOf; rw [Nat.beq_refl]; rfl
      have h1 : VL A β (objAt s.obj) (L.flatMap T.cells) ((cs.drop off).take (len * e)) := by rw [← hL]; exact (hvl.drop off).take _
      have h2 : VL (fun f => A f ∨ Own β f) bx0 (objAt s.obj) (L.flatMap T.cells) ((cs.drop off).take (len * e)) :=
        (VL.ids (n := 0) (β' := bx0) (fun b hb => absurd hb (by omega)) (idsL_cells hi) h1).mono (fun _ h => .inl h) (fun _ _ => rfl) (Bx.le_refl _)
      have h3 : ((cs.drop off).take (len * e)).length = len * e := by rw [List.length_take, List.length_drop]; omega
      have := VT.lst (A := fun f => A f ∨ Own β f) (β := bx0) (g := objAt s.obj) (off := off) (cap := cap) (.inr (own_live hb)) hrow h2 hs he (by rw [h3]) htag (by omega)
      rw [hlen] at this
      exact this
    · have : L = [] := List.eq_nil_of_length_eq_zero hlen
      subst this
      exact .lnil
theorem lend_ok (hT : TRel GL A β S s) : ∀ {l l' : List T} {vs : List Value}, T.idsL 0 l' = true → Lend S l l' → VL A β (objAt s.obj) l vs → VL (fun f => A f ∨ Own β f) bx0 (objAt s.obj) l' vs
  | [], [], _, _, _, .nil => .nil
  | t :: l, t' :: l', _, hi, hl, .cons h1 h2 => by
    simp only [T.idsL, Bool.and_eq_true] at hi
    exact .cons (lend1_ok hT hi.1 hl.1 h1) (lend_ok hT hi.2 hl.2 h2)
  | [], _ :: _, _, _, hl, _ => hl.elim
  | _ :: _, [], _, _, hl, _ => hl.elim
theorem Pure.lend {f : FuncId} {args args' : List T} {v : T} (k : Pure P Γ GL f args' v) (hl : Lend S args args') (hv : v.flat = true) : Call0 P Γ GL f args S v := by
  intro A β s vargs hT hva
  obtain ⟨k1, k2, k3⟩ := k
  have hA1 : ∀ f, (A f ∨ Own β f) → f < s.n := fun f hf => hf.elim (hT.alt f) fun h => (hT.dis f h).1
  have hT0 := hT.bare (fun f => A f ∨ Own β f) (fun _ h => .inl h) hA1
  obtain ⟨w, s', A', β', e1, e2, e3, e4⟩ := k3 _ bx0 s vargs hT0 (lend_ok hT k1 hl hva)
  have hc : Calm0 A β s A s' := by
    refine ⟨e4.can, fun _ h => h, fun f hf => .inl hf, fun f hf => e4.keep f hf own_bx0, fun x hx => ?_, fun x hx => ?_⟩
    · rcases e4.rd x hx with q | ⟨q, q2⟩
      · exact .inl q
      · exact .inr ⟨q, q2.resolve_right own_bx0⟩
    · rcases e4.wr x hx with q | ⟨_, q⟩
      · exact q
      · exact absurd q own_bx0
  exact ⟨w, s', A, e1, hc.rel hT e2.inr e2.inv (fun f hf => Nat.lt_of_lt_of_le (hT.alt f hf) e4.can.n), e3.flat hv, hc⟩
def bcut (β : Bx) (n : Nat) : Bx := fun b => if b < n then β b else none
def boxIds (n : Nat) : Box → Bool
  | .gone => true
  | .cells _ _ l => T.idsL n l
  | .map l => T.idsL n (l.map (·.1)) && T.idsL n (l.map (·.2))
def Keeps (S1 Sf : TS) : Prop := Sf.n ≤ S1.n ∧ ∀ b, Sf.box b = .gone ∨ (b < Sf.n ∧ Sf.box b = S1.box b ∧ boxIds Sf.n (S1.box b) = true)
theorem TRel.cut (hT : TRel GL A β S s) (hk : Keeps S S2) : TRel GL A (bcut β S2.n) S2 s := by
  have hat : ∀ b, b < S2.n → bcut β S2.n b = β b := fun b hb => if_pos hb
  have hsub : ∀ b l, bcut β S2.n b = some l → β b = some l := fun b l h => by
    unfold bcut at h
    split at h
    · exact h
    · simp at h
  have hown : ∀ f, Own (bcut β S2.n) f → Own β f := fun f ⟨b, hb⟩ => ⟨b, hb.imp (fun ⟨u, N, h⟩ => ⟨u, N, hsub _ _ h⟩) fun h => hsub _ _ h⟩
  refine ⟨hT.inr, hT.inv, hT.alt, fun f hf => hT.dis f (hown f hf), fun b b' l l' f hb hb' => hT.inj b b' l l' f (hsub _ _ hb) (hsub _ _ hb'), fun b hb => if_neg (by omega), fun b z N l hb => ?_, fun b l hb => ?_, hT.glob⟩
  · rcases hk.2 b with q | ⟨q1, q2, q3⟩
    · rw [q] at hb; simp at hb
    · rw [q2] at hb
      obtain ⟨c1, c2⟩ := hT.cells b z N l hb
      rw [hb] at q3
      refine ⟨c1, ?_⟩
      rcases c2 with ⟨d1, d2, d3⟩ | ⟨f, u, cs, rest, d1, d2, d3, d4, d5⟩
      · exact .inl ⟨by rw [hat b q1]; exact d1, d2, d3⟩
      · exact .inr ⟨f, u, cs, rest, by rw [hat b q1]; exact d1, d2, d3, VL.ids hat q3 d4, d5⟩
  · rcases hk.2 b with q | ⟨q1, q2, q3⟩
    · rw [q] at hb; simp at hb
    · rw [q2] at hb
      obtain ⟨r, es, c1, c2, c3, c4⟩ := hT.maps b l hb
      rw [hb] at q3
      simp only [boxIds, Bool.and_eq_true] at q3
      exact ⟨r, es, by rw [hat b q1]; exact c1, c2, VL.ids hat q3.1 c3, VL.ids hat q3.2 c4⟩
theorem Call.enter {f : FuncId} {fn : Func} {body : Code} {args : List T} {v : T} {Sf : TS} (N : Nat) (hax : Γ.ax f = none) (hf : Γ.fn.at f = some fn) (hb : fn.body = some body) (hn : fn.ntmps = N) (hN : N ≤ 512) (hl : args.length ≤ N) (hSf : S.n ≤ Sf.n) (hv : v.ids Sf.n = true)
    (k : TW P Γ GL N body (argT args 0 fun _ => .junk) S fun e h' S' => (e = .normal ∨ e = .ret) ∧ ∃ vs, resT Γ S' h' fn.results.toList = some vs ∧ ∃ S1, Shift GL (tupT vs) S' v S1 ∧ Keeps S1 Sf) : Call P Γ GL f args S v Sf := by
  intro A β s vargs hT hargs
  obtain ⟨e, fr', s1, h1, h', S', ⟨A', β', k1, k2, k3⟩, he, vs, hr, S1, hsh, hkp⟩ := k A β _ s (argT_ok hargs (FrOk.start hN) (by omega)) hT
  obtain ⟨ws, s2, r1, r2, r3, r4, r5⟩ := resT_ok k1 k2 hr
  rw [← r5] at r2
  obtain ⟨A2, β2, q1, q2, q3⟩ := hsh A' β' s2 _ r3 (tup_ok r2)
  have hall : Stp A β s A2 β2 s2 := k3.trans hT.le (r4.trans k2.le q3)
  have hat : ∀ b, b < Sf.n → bcut β2 Sf.n b = β2 b := fun b hb => if_pos hb
  have hsub : ∀ b l, bcut β2 Sf.n b = some l → β2 b = some l := fun b l h => by
    unfold bcut at h
    split at h
    · exact h
    · simp at h
  refine ⟨tupC ws, s2, A2, bcut β2 Sf.n, ?_, q1.cut hkp, q2.ids hat hv, hall.can, hall.sub, hall.new, fun f hf => ?_, hall.keep, fun b l hb => ?_, hall.rd, hall.wr⟩
  · have hlen := hargs.len
    exact callR_body hax hf hb (by omega) ⟨e, fr', s1, by rw [hn]; exact h1, he, ws, r1, rfl⟩
  · obtain ⟨b, hb⟩ := hf
    exact hall.own f ⟨b, hb.imp (fun ⟨u, N, h⟩ => ⟨u, N, hsub _ _ h⟩) fun h => hsub _ _ h⟩
  · obtain ⟨l', c1, c2⟩ := hall.bx b l hb
    have : b < S.n := by
      by_cases hh : b < S.n
      · exact hh
      · rw [hT.next b (by omega)] at hb; simp at hb
    exact ⟨l', by rw [hat b (by omega)]; exact c1, c2⟩
theorem Keeps.none (S : TS) : Keeps S ts0 := ⟨Nat.zero_le _, fun b => .inl rfl⟩
theorem Pure.enter {f : FuncId} {fn : Func} {body : Code} {args : List T} {v : T} (N : Nat) (hax : Γ.ax f = none) (hf : Γ.fn.at f = some fn) (hb : fn.body = some body) (hn : fn.ntmps = N) (hN : N ≤ 512) (hl : args.length ≤ N) (ha : T.idsL 0 args = true) (hv : v.ids 0 = true)
    (k : TW P Γ GL N body (argT args 0 fun _ => .junk) ts0 fun e h' S' => (e = .normal ∨ e = .ret) ∧ resT Γ S' h' fn.results.toList = some [v]) : Pure P Γ GL f args v :=
  ⟨ha, hv, Call.enter N hax hf hb hn hN hl (Nat.le_refl _) hv (k.mono fun e h' S' ⟨h1, h2⟩ => ⟨h1, [v], h2, S', Shift.refl _ _, Keeps.none S'⟩)⟩
theorem Pure.enterN {f : FuncId} {fn : Func} {body : Code} {args : List T} {vs : List T} (N : Nat) (hax : Γ.ax f = none) (hf : Γ.fn.at f = some fn) (hb : fn.body = some body) (hn : fn.ntmps = N) (hN : N ≤ 512) (hl : args.length ≤ N) (ha : T.idsL 0 args = true) (hv : (tupT vs).ids 0 = true)
    (k : TW P Γ GL N body (argT args 0 fun _ => .junk) ts0 fun e h' S' => (e = .normal ∨ e = .ret) ∧ resT Γ S' h' fn.results.toList = some vs) : Pure P Γ GL f args (tupT vs) :=
  ⟨ha, hv, Call.enter N hax hf hb hn hN hl (Nat.le_refl _) hv (k.mono fun e h' S' ⟨h1, h2⟩ => ⟨h1, vs, h2, S', Shift.refl _ _, Keeps.none S'⟩)⟩
theorem TRel.dead (hT : TRel GL A β S s) {b : Nat} {l0 : Loc} (hb : β b = some l0) (A' : Nat → Prop) (hA : ∀ f, A f → A' f) (hA2 : ∀ f, A' f → A f ∨ l0.fam = some f) :
    TRel GL A' (bnew β b .dead) (S.set b .gone) s ∧ Stp A β s A' (bnew β b .dead) s := by
  have hse : bnew β b .dead b = some .dead := if_pos rfl
  have hne : ∀ b', b' ≠ b → bnew β b .dead b' = β b' := fun b' hb' => if_neg hb'
  have hle : Bx.le β (bnew β b .dead) := fun i x hx => by
    by_cases hi : i = b
    · subst hi
      exact ⟨.dead, hse, by cases x <;> simp [Loc.le]⟩
    · exact ⟨x, by rw [hne i hi]; exact hx, Loc.le_refl x⟩
  have hfam : ∀ f, l0.fam = some f → Own β f := fun f hf => by
    cases l0 with
    | live f' u N => simp [Loc.fam] at hf; subst hf; exact own_live hb
    | map r => simp [Loc.fam] at hf; subst hf; exact own_map hb
    | nil => simp [Loc.fam] at hf
    | dead => simp [Loc.fam] at hf
  have hown : ∀ f, Own (bnew β b .dead) f → Own β f ∧ l0.fam ≠ some f := fun f ⟨b', hb'⟩ => by
    by_cases hi : b' = b
    · subst hi
      rw [hse] at hb'
      rcases hb' with ⟨u, N, hb'⟩ | hb' <;> simp at hb'
    · rw [hne b' hi] at hb'
      refine ⟨⟨b', hb'⟩, fun hh => hi ?_⟩
      rcases hb' with ⟨u, N, hb'⟩ | hb'
      · exact hT.inj b' b _ l0 f hb' hb rfl hh
      · exact hT.inj b' b _ l0 f hb' hb rfl hh
  have hblt : b < S.n := by
    by_cases hh : b < S.n
    · exact hh
    · rw [hT.next b (by omega)] at hb; simp at hb
  refine ⟨⟨hT.inr, hT.inv, fun f hf => ?_, fun f hf => ?_, fun b1 b2 l1 l2 f h1 h2 h3 h4 => ?_, fun b' hb' => ?_, fun b' z N l hb' => ?_, fun b' l hb' => ?_, fun x hx => ⟨hA _ (hT.glob x hx).1, (hT.glob x hx).2⟩⟩,
    Can.refl _, hA, fun f hf => (hA2 f hf).imp id fun q => .inr (hfam f q), fun f hf => .inl (hown f hf).1, fun _ _ _ => rfl, hle, fun _ h => .inl h, fun _ h => .inl h⟩
  · rcases hA2 f hf with q | q
    · exact hT.alt f q
    · exact (hT.dis f (hfam f q)).1
  · obtain ⟨q1, q2⟩ := hown f hf
    refine ⟨(hT.dis f q1).1, fun hh => ?_⟩
    rcases hA2 f hh with q | q
    · exact (hT.dis f q1).2 q
    · exact q2 q
  · by_cases e1 : b1 = b
    · subst e1; rw [hse] at h1; cases h1; simp [Loc.fam] at h3
    · by_cases e2 : b2 = b
      · subst e2; rw [hse] at h2; cases h2; simp [Loc.fam] at h4
      · rw [hne b1 e1] at h1; rw [hne b2 e2] at h2
        exact hT.inj b1 b2 l1 l2 f h1 h2 h3 h4
  · have : S.n ≤ b' := hb'
    rw [hne b' (by omega)]
    exact hT.next b' this
  · by_cases hi : b' = b
    · subst hi; rw [TS.set_same] at hb'; simp at hb'
    · rw [TS.set_ne _ _ hi] at hb'
      exact (hT.cells b' z N l hb').mono hA (fun _ _ => rfl) hle (hne b' hi) fun _ _ _ _ => rfl
  · by_cases hi : b' = b
    · subst hi; rw [TS.set_same] at hb'; simp at hb'
    · rw [TS.set_ne _ _ hi] at hb'
      exact (hT.maps b' l hb').mono hA (fun _ _ => rfl) hle (hne b' hi) fun _ _ => rfl
theorem TRel.freeze (hT : TRel GL A β S s) {b N : Nat} {z : Bool} {l : List T} (hS : S.box b = .cells z N l) :
    ∃ A' β', TRel GL A' β' (S.set b .gone) s ∧ Stp A β s A' β' s ∧ ∀ {e off len cap : Nat} {v : Value} {L : List T}, VT A β (objAt s.obj) (.arr b e off len cap N) v → 0 < e → off + len * e ≤ N → (l.drop off).take (len * e) = L.flatMap T.cells → (∀ t, t ∈ L → t.cells.length = e) → L.length = len → len ≤ cap → VT A' β' (objAt s.obj) (.lst e L) v := by
  obtain ⟨hlN, hc⟩ := hT.cells b z N l hS
  rcases hc with ⟨hb, hN, _⟩ | ⟨f, u, cs, rest, hb, hz, hat, hvl, hone⟩
  · obtain ⟨k1, k2⟩ := hT.dead hb A (fun _ h => h) (fun _ h => .inl h)
    refine ⟨_, _, k1, k2, fun {e off len cap v L} hv he hoff hL hs hlen hcap => ?_⟩
    rcases arr_inv hT hS hv with ⟨f, u, rfl, hb', _⟩ | ⟨rfl, _, rfl, rfl, rfl, _⟩
    · rw [hb] at hb'; simp at hb'
    · have : L = [] := List.eq_nil_of_length_eq_zero hlen
      subst this
      exact .lnil
  · obtain ⟨k1, k2⟩ := hT.dead hb (fun k => A k ∨ k = f) (fun _ h => .inl h) (fun k hk => hk.imp id fun q => by rw [q]; rfl)
    refine ⟨_, _, k1, k2, fun {e off len cap v L} hv he hoff hL hs hlen hcap => ?_⟩
    rcases arr_inv hT hS hv with ⟨f', u', rfl, hb', htag⟩ | ⟨rfl, hb', _⟩
    · rw [hb] at hb'; cases hb'
      have hcl := hvl.len
      have hrow : rowOf (objAt s.obj f).rows u = some cs := by
        rw [hat]
        show rowOf ((u, cs) :: rest) u = some cs
        unfold rowOf; rw [Nat.beq_refl]; rfl
      have h1 : VL A β (objAt s.obj) (L.flatMap T.cells) ((cs.drop off).take (len * e)) := by rw [← hL]; exact (hvl.drop off).take _
      have h3 : ((cs.drop off).take (len * e)).length = len * e := by rw [List.length_take, List.length_drop]; omega
      have := VT.lst (A := fun k => A k ∨ k = f) (β := bnew β b .dead) (g := objAt s.obj) (off := off) (cap := cap) (.inr rfl) hrow (h1.mono (fun _ h => .inl h) (fun _ _ => rfl) k2.bx) hs he (by rw [h3]) htag (by omega)
      rw [hlen] at this
      exact this
    · rw [hb] at hb'; simp at hb'
theorem TW.freeze {c : Code} (t : Nat) {b e off len cap M : Nat} {z : Bool} {l : List T} (L : List T) (ht : h t = .arr b e off len cap M) (hS : S.box b = .cells z M l) (he : 0 < e) (hoff : off + len * e ≤ M) (hL : (l.drop off).take (len * e) = L.flatMap T.cells) (hs : ∀ t, t ∈ L → t.cells.length = e) (hlen : L.length = len) (hcap : len ≤ cap)
    (k : TW P Γ GL N c (tupd h t (.lst e L)) (S.set b .gone) Q) : TW P Γ GL N c h S Q := by
  intro A β fr s hF hT
  obtain ⟨A', β', k1, k2, k3⟩ := hT.freeze hS
  have hv := hF.slot t
  rw [ht] at hv
  have hF' : FrOk A' β' (objAt s.obj) N (tupd h t (.lst e L)) fr := ⟨hF.nt, hF.le, fun u => by
    by_cases hu : u = t
    · subst hu; rw [tupd_same]; exact k3 hv he hoff hL hs hlen hcap
    · rw [tupd_ne _ _ _ _ hu]; exact k2.vt hT (hF.slot u)⟩
  refine (k A' β' fr s hF' k1).mono ?_
  rintro e2 fr2 s2 ⟨h2, S2, l2, q2⟩
  exact ⟨h2, S2, Left.trans (h' := h) (fr' := fr) hT.le k2 l2, q2⟩
theorem TW.vec {c : Code} (t e : Nat) (ht : h t = .nils) (k : TW P Γ GL N c (tupd h t (.arr S.n e 0 0 0 0)) (S.add (.cells false 0 [])) Q) : TW P Γ GL N c h S Q := by
  intro A β fr s hF hT
  have hv := hF.slot t
  rw [ht] at hv
  have hb0 : β S.n = none := hT.next _ (Nat.le_refl _)
  have hle : Bx.le β (bnew β S.n .nil) := bnew_le hb0
  have hse : bnew β S.n .nil S.n = some .nil := if_pos rfl
  have hne : ∀ b', b' ≠ S.n → bnew β S.n .nil b' = β b' := fun b' hb' => if_neg hb'
  have hown : ∀ f, Own (bnew β S.n .nil) f → Own β f := fun f ⟨b', hb'⟩ => by
    by_cases hi : b' = S.n
    · subst hi
      rw [hse] at hb'
      rcases hb' with ⟨u, N, hb'⟩ | hb' <;> simp at hb'
    · rw [hne b' hi] at hb'; exact ⟨b', hb'⟩
  have hst : Stp A β s A (bnew β S.n .nil) s := ⟨Can.refl _, fun _ h => h, fun _ h => .inl h, fun f hf => .inl (hown f hf), fun _ _ _ => rfl, hle, fun _ h => .inl h, fun _ h => .inl h⟩
  have hT' : TRel GL A (bnew β S.n .nil) (S.add (.cells false 0 [])) s := by
    refine ⟨hT.inr, hT.inv, hT.alt, fun f hf => hT.dis f (hown f hf), fun b1 b2 l1 l2 f h1 h2 h3 h4 => ?_, fun b' hb' => ?_, fun b' z N l hb' => ?_, fun b' l hb' => ?_, hT.glob⟩
    · by_cases e1 : b1 = S.n
      · subst e1; rw [hse] at h1; cases h1; simp [Loc.fam] at h3
      · by_cases e2 : b2 = S.n
        · subst e2; rw [hse] at h2; cases h2; simp [Loc.fam] at h4
        · rw [hne b1 e1] at h1; rw [hne b2 e2] at h2
          exact hT.inj b1 b2 l1 l2 f h1 h2 h3 h4
    · have : S.n + 1 ≤ b' := hb'
      rw [hne b' (by omega)]
      exact hT.next b' (by omega)
    · by_cases hi : b' = S.n
      · subst hi; rw [TS.add_same] at hb'; cases hb'; exact ⟨rfl, .inl ⟨hse, rfl, rfl⟩⟩
      · rw [TS.add_ne _ _ hi] at hb'
        exact (hT.cells b' z N l hb').mono (fun _ h => h) (fun _ _ => rfl) hle (hne b' hi) fun _ _ _ _ => rfl
    · by_cases hi : b' = S.n
      · subst hi; rw [TS.add_same] at hb'; cases hb'
      · rw [TS.add_ne _ _ hi] at hb'
        exact (hT.maps b' l hb').mono (fun _ h => h) (fun _ _ => rfl) hle (hne b' hi) fun _ _ => rfl
  have hF' : FrOk A (bnew β S.n .nil) (objAt s.obj) N (tupd h t (.arr S.n e 0 0 0 0)) fr := ⟨hF.nt, hF.le, fun u => by
    by_cases hu : u = t
    · subst hu
      rw [tupd_same]
      generalize fr.get u = w at hv
      cases hv
      exact .arrNil hse
    · rw [tupd_ne _ _ _ _ hu]; exact hst.vt hT (hF.slot u)⟩
  refine (k A _ fr s hF' hT').mono ?_
  rintro e2 fr2 s2 ⟨h2, S2, l2, q2⟩
  exact ⟨h2, S2, Left.trans (h' := h) (fr' := fr) hT.le hst l2, q2⟩
end
end Go.Proofs.Ytfalnphlgfoflaa
