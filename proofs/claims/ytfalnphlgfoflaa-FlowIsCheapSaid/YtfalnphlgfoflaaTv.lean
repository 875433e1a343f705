/- Trees: a region that draws, with loads from what nobody writes beside operations that turn boxes. No program in sight. -/
import Derived.Test.YtfalnphlgfoflaaTs
namespace Go.Proofs.Ytfalnphlgfoflaa
open Go Go.RowKit
set_option linter.unusedSimpArgs false
set_option linter.unusedVariables false
section
variable {GL : List (Nat × List Value)} {A A' A2 : Nat → Prop} {β β' β2 : Bx} {S S' S2 : TS} {s s' s2 : CS} {P : Program} {Γ : Env} {N : Nat} {h h' h2 : Nat → T} {Q R : Exit → (Nat → T) → TS → Prop}
theorem post_wr (hE : EnvOk P Γ) {own : List Nat} {ops : List Oper} {N : Nat} : ∀ {l : List Oper} {h h' : Nat → T} {S S' : TS} {outs : List (T × TS)} {ob : Prop} {A : Nat → Prop} {β : Bx} {fr : Fr} {s : CS}, dstOk N l = true → FrOk A β (objAt s.obj) N h fr → TRel GL A β S s → runT P Γ GL own ops l h S outs = some (ob, h', S') → ob →
    ∃ M fr' s', drawC P Γ (callR P Γ) ops l fr s = some (M, fr', s') ∧ Left GL A β s N fr' s' h' S' ∧ ∀ x, x ∈ M → ∀ f, f ∈ x.wr → Own β f ∨ s.n ≤ f
  | [], h, h', S, S', outs, ob, A, β, fr, s, hd, hF, hT, hr, hob => by
    simp only [runT, Option.some.injEq, Prod.mk.injEq] at hr
    obtain ⟨rfl, rfl, rfl⟩ := hr
    exact ⟨[], fr, s, rfl, ⟨A, β, hF, hT, Stp.refl⟩, fun x hx => by simp at hx⟩
  | o :: l, h, h', S, S', outs, ob, A, β, fr, s, hd, hF, hT, hr, hob => by
    have hd' : dstOk N l = true ∧ ∀ t, o.dst = some t → t < N := by
      unfold dstOk at hd ⊢
      rw [List.all_cons, Bool.and_eq_true] at hd
      refine ⟨hd.2, fun t ht => ?_⟩
      have := hd.1
      rw [ht] at this
      exact blt_iff.1 this
    have hTi := hT.inner
    have go : ∀ {t : T} {S1 : TS} {r : Option (Value × CS)} {l' : List (T × TS)} {ob' : Prop}, Ok GL A β s.inner r t S1 → (cop P Γ (callR P Γ) (evalC fr) o s.inner = r) → wantedC ops fr o = true → runT P Γ GL own ops l (putT h o.dst t) S1 l' = some (ob', h', S') → ob' → ∃ M fr' s', drawC P Γ (callR P Γ) ops (o :: l) fr s = some (M, fr', s') ∧ Left GL A β s N fr' s' h' S' ∧ ∀ x, x ∈ M → ∀ f, f ∈ x.wr → Own β f ∨ s.n ≤ f := by
      rintro t S1 r l' ob' ⟨v, s1, A1, β1, rfl, k1, k2, k3⟩ hc hw hrun hob'
      have hF1 : FrOk A1 β1 (objAt s1.obj) N h fr := hF.mono k3.sub (Stp.old (s := s.inner) hTi k3) k3.bx
      have hS : Stp A β s A1 β1 (s.outer s1) := k3.outer hT.inv
      obtain ⟨M, fr', s', e1, e2, e3⟩ := post_wr hE hd'.1 (s := s.outer s1) (hF1.put hd'.2 k2) (k1.outer (Nat.le_trans hT.le k3.can.n)) hrun hob'
      refine ⟨⟨s1.rd, s1.wr, s.n, s1.n⟩ :: M, fr', s', ?_, Left.trans (h' := h) (fr' := fr) hT.le hS e2, fun x hx f hf => ?_⟩
      rotate_left
      · rcases List.mem_cons.1 hx with rfl | hx
        · rcases k3.wr f hf with q | q
          · exact absurd q (by simp [CS.inner])
          · exact .inl q.2
        · rcases e3 x hx f hf with q | q
          · rcases hS.own f q with r | r
            · exact .inl r
            · exact .inr r
          · exact .inr (Nat.le_trans hS.can.n q)
      rw [drawC]
      have : stepC P Γ (callR P Γ) ops o fr s.inner = some (putC fr o.dst v, s1) := by
        unfold stepC
        rw [hw, cond_true, hc]
      rw [this]
      simp only
      rw [e1]
    unfold runT at hr
    split at hr
    · simp at hr
    · rename_i hg
      have hw := guardT_ok hF hg
      have hS : Stp A β s A β (s.outer s.inner) := Stp.outer hT.inv Stp.refl
      obtain ⟨M, fr', s', e1, e2, e3⟩ := post_wr hE hd'.1 (s := s.outer s.inner) (hF.put hd'.2 VT.undf) (hTi.outer hT.le) hr hob
      refine ⟨⟨[], [], s.n, s.n⟩ :: M, fr', s', ?_, Left.trans (h' := h) (fr' := fr) hT.le hS e2, fun x hx f hf => ?_⟩
      rotate_left
      · rcases List.mem_cons.1 hx with rfl | hx
        · simp at hf
        · rcases e3 x hx f hf with q | q
          · exact .inl q
          · exact .inr q
      rw [drawC]
      have : stepC P Γ (callR P Γ) ops o fr s.inner = some (putC fr o.dst undef, s.inner) := by
        unfold stepC
        rw [hw, cond_false]
      rw [this]
      simp only
      rw [e1]
      rfl
    · rename_i hg
      have hw := guardT_ok hF hg
      split at hr
      · rename_i f args tys ho
        split at hr
        · rename_i r outs'
          split at hr
          · rename_i p hp
            unfold callT at hp
            split at hp
            · rename_i k first cap hf
              simp only [Option.some.injEq] at hp
              subst hp
              cases hrun : runT P Γ GL own ops l (putT h o.dst r.1) r.2 outs' with
              | none => rw [hrun] at hr; simp [andT] at hr
              | some q =>
                obtain ⟨q1, q2, q3⟩ := q
                rw [hrun] at hr
                simp only [andT, Option.some.injEq, Prod.mk.injEq] at hr
                obtain ⟨rfl, rfl, rfl⟩ := hr
                have hfv := hF.eval hT f
                rw [hf] at hfv
                generalize e1 : evalC fr f = vf at hfv
                cases hfv with
                | fn h1 h2 =>
                  rename_i va vc
                  have hargs := VL_map (hF.eval hT) args.toList
                  have hcall := hob.1 A β s.inner _ hTi ((h1.append hargs).append h2)
                  refine go hcall ?_ hw hrun hob.2
                  unfold cop
                  simp only [ho, e1]
                  unfold opCall
                  rfl
            · simp at hp
          · simp at hr
        · simp at hr
      · split at hr
        · rename_i t S1 hst
          exact go (stepT_ok hE hTi (hF.eval hT) hst) rfl hw hr hob
        · simp at hr
def isCp : T → Prop
  | .cp _ => True
  | _ => False
def CpAll (h : Nat → T) : List Nat → Prop
  | [] => True
  | a :: l => isCp (h a) ∧ CpAll h l
theorem cpAll_get {h : Nat → T} {a : Nat} : ∀ {l : List Nat}, CpAll h l → a ∈ l → ∃ m, h a = .cp m
  | [], _, ha => by simp at ha
  | b :: l, k, ha => by
    rcases List.mem_cons.1 ha with rfl | ha
    · have := k.1
      unfold isCp at this
      split at this
      · next m e => exact ⟨m, e⟩
      · exact this.elim
    · exact cpAll_get k.2 ha
noncomputable def cpLoad (cs : List Nat) (all : List Oper) (o : Oper) : Bool := match lsOf o with
  | some (0, a) => cs.any (Nat.beq a) && noDst a all
  | _ => false
noncomputable def lateBadC (Γ : Env) (cs : List Nat) (all : List Oper) (x y : Bool × Oper × Option (Nat × Option Nat)) : Bool := y.1 && !(memless x.2.1.op || (quietNew y.2.1.op || (hushed Γ x.2.1 || (hushed Γ y.2.1 || cpLoad cs all x.2.1))))
noncomputable def drawOkC (Γ : Env) (k : Nat) (cs : List Nat) (ops : List Oper) : Bool := drawOk ops.length ops && calmAll (lateBadC Γ cs ops) [] (tagS [] k ops) (masks ops [])
theorem cpLoad_inv {cs : List Nat} {all : List Oper} {o : Oper} (h : cpLoad cs all o = true) : ∃ a, lsOf o = some (0, a) ∧ a ∈ cs ∧ noDst a all = true := by
  unfold cpLoad at h
  split at h
  · next a e =>
    rw [Bool.and_eq_true] at h
    obtain ⟨b, hb, hab⟩ := List.any_eq_true.1 h.1
    have : a = b := Nat.eq_of_beq_eq_true hab
    subst this
    exact ⟨a, e, hb, h.2⟩
  · simp at h
theorem slotOk_of {a : Nat} {all : List Oper} {i : Nat} {o : Oper} (h : noDst a all = true) (ho : all[i]? = some o) : slotOk 0 a o (all.drop (i + 1)) = true := by
  unfold slotOk
  unfold noDst at h ⊢
  rw [List.all_eq_true] at h
  rw [Bool.and_eq_true, Bool.or_eq_true]
  refine ⟨List.all_eq_true.2 fun x hx => h x (List.mem_of_mem_drop hx), .inr ?_⟩
  rw [List.all_cons, List.all_nil, Bool.and_true]
  exact h o (List.mem_of_getElem? ho)
theorem drawOkC_late {Γ : Env} {k : Nat} {cs : List Nat} {ops : List Oper} (hd : drawOkC Γ k cs ops = true) {i j : Nat} {x y : Oper} (hij : i < j) (hkj : k ≤ j) (hx : ops[i]? = some x) (hy : ops[j]? = some y) : Nat.testBit (nth 0 (masks ops []) j) i = true ∨ memless x.op = true ∨ quietNew y.op = true ∨ hushed Γ x = true ∨ hushed Γ y = true ∨ ∃ a, lsOf x = some (0, a) ∧ a ∈ cs ∧ noDst a ops = true := by
  unfold drawOkC at hd
  simp only [Bool.and_eq_true] at hd
  rcases calmAll_spec hd.2 i j _ _ hij (Nat.zero_le _) (by simpa using tagS_get hx) (by simpa using tagS_get hy) with q | q
  · exact .inl q
  · unfold lateBadC at q
    rw [decide_eq_true hkj] at q
    simp only [Bool.true_and, Bool.not_eq_false', Bool.or_eq_true] at q
    rcases q with q | q | q | q | q
    · exact .inr (.inl q)
    · exact .inr (.inr (.inl q))
    · exact .inr (.inr (.inr (.inl q)))
    · exact .inr (.inr (.inr (.inr (.inl q))))
    · exact .inr (.inr (.inr (.inr (.inr (cpLoad_inv q)))))
theorem TW.drawC (hE : EnvOk P Γ) {id : Nat} {ops : Array Oper} {Q : Exit → (Nat → T) → TS → Prop} (k : Nat) (cs : List Nat) (outsP : List T) (own : List Nat) (outs : List (T × TS)) {h1 : Nat → T} {ob1 ob2 : Prop} (hd : dstOk N ops.toList = true) (hoS : drawOkC Γ k cs ops.toList = true)
    (hp : runP P Γ GL ops.toList (ops.toList.take k) h S outsP = some (ob1, h1)) (hob1 : ob1) (hr : runT P Γ GL own ops.toList (ops.toList.drop k) h1 S outs = some (ob2, h', S')) (hob2 : ob2) (hcs : CpAll h cs) (hq : Q .normal h' S') : TW P Γ GL N (.region id ops true) h S Q := fun A β fr s hF hT => by
  have hok : drawOk ops.toList.length ops.toList = true := by
    unfold drawOkC at hoS
    simp only [Bool.and_eq_true] at hoS
    exact hoS.1
  have hsplit : ops.toList = ops.toList.take k ++ ops.toList.drop k := (List.take_append_drop k _).symm
  have hdd : dstOk N (ops.toList.take k) = true ∧ dstOk N (ops.toList.drop k) = true := by
    unfold dstOk at hd ⊢
    rw [hsplit, List.all_append, Bool.and_eq_true] at hd
    exact hd
  have I0 : PreInv GL ops.toList A β S s N [] h fr s := by
    refine ⟨hF.nt, hF.le, hT, fun t => ⟨0, (hF.slot t).mono (fun f hf => .inl hf) (fun _ _ => rfl) (Bx.le_refl _), fun j o _ _ _ m hm => by simp at hm⟩, fun k x hx => by simp at hx, fun k m x y _ hx => by simp at hx, fun f hf => (hT.dis f hf).1, hT.alt, ?_, hT.le⟩
    exact ⟨Can.refl _, fun _ h => h, fun _ h => .inl h, fun _ _ => rfl, fun _ h => .inl h, fun _ h => h⟩
  obtain ⟨M1, fr1, s1, d1, I1, m1⟩ := pre_ok hE hok I0 (fun j o hj => by
    rw [List.length_nil, Nat.zero_add]
    rw [List.getElem?_take] at hj
    split at hj
    · exact hj
    · simp at hj) hdd.1 hp hob1
  rw [List.nil_append] at I1
  -- behind the first part all may lean on all
  let D : Nat := 2 ^ M1.length - 1
  have hDall : ∀ m, m < M1.length → Nat.testBit D m = true := fun m hm => by
    show Nat.testBit (2 ^ M1.length - 1) m = true
    rw [Nat.testBit_two_pow_sub_one]; exact decide_eq_true hm
  have hT1 : TRel GL (SupL A M1 D) β S s1 := by
    refine I1.rel.more _ (fun f hf => .inl hf) (fun f hf => ?_) (fun f hf ho => ?_)
    · rcases hf with q | ⟨m, x, _, q2, _, q4⟩
      · exact I1.rel.alt f q
      · have := (I1.log m x q2).2.2.1; omega
    · rcases hf with q | ⟨m, x, _, q2, q3, q4⟩
      · exact (I1.rel.dis f ho).2 q
      · have := (I1.log m x q2).1
        have := I1.own f ho
        omega
  have hF1 : FrOk (SupL A M1 D) β (objAt s1.obj) N h1 fr1 := ⟨I1.nt, I1.le, fun t => by
    obtain ⟨E, e1, _⟩ := I1.slot t
    exact e1.mono (fun f hf => SupL.sub (fun m hm _ => hDall m hm) hf) (fun _ _ => rfl) (Bx.le_refl _)⟩
  have hS1 : Stp A β s (SupL A M1 D) β s1 := by
    refine ⟨I1.calm.can, fun f hf => .inl hf, fun f hf => ?_, fun f hf => .inl hf, fun f hf _ => I1.calm.keep f hf, Bx.le_refl _, I1.calm.rd, fun x hx => .inl (I1.calm.wr x hx)⟩
    rcases hf with q | ⟨m, x, _, q2, q3, _⟩
    · exact .inl q
    · have := (I1.log m x q2).1
      exact .inr (.inl (by omega))
  obtain ⟨M2, fr2, s2, d2, L2, W2⟩ := post_wr hE hdd.2 hF1 hT1 hr hob2
  have hdraw := drawC_append d1 d2
  rw [← hsplit] at hdraw
  obtain ⟨f1, f2⟩ := draw_fit hdraw
  have L2' := L2
  obtain ⟨A2, β2, hF2, hT2, _⟩ := L2'
  refine W.draw hdraw ?_ ⟨h', S', Left.trans (h' := h) (fr' := fr) hT.le hS1 L2, hq⟩
  refine calm_ms rfl (calmAll_of fun i j x y hij _ hx hy => ?_)
  simp only [List.nil_append] at hx hy
  have hjl : j < ops.toList.length := by rw [← f1]; exact (List.getElem?_eq_some_iff.1 hy).1
  have ho1 : ops.toList[i]? = some (ops.toList[i]'(by omega)) := List.getElem?_eq_getElem _
  have ho2 : ops.toList[j]? = some (ops.toList[j]'hjl) := List.getElem?_eq_getElem _
  by_cases hkj : k ≤ j
  · rcases drawOkC_late hoS hij hkj ho1 ho2 with q | q | q | q | q | ⟨a1, q1, q2, q3⟩
    · exact .inl q
    · obtain ⟨a, b, c⟩ := (f2 i _ x ho1 hx).1 q
      exact .inr (clash_left a b c)
    · obtain ⟨a, b⟩ := (f2 j _ y ho2 hy).2 q
      exact .inr (clash_right a b)
    · obtain ⟨a, b, c⟩ := draw_hush hdraw i _ x ho1 hx q
      exact .inr (clash_left a b c)
    · obtain ⟨a, b, c⟩ := draw_hush hdraw j _ y ho2 hy q
      exact .inr (clash_right a b)
    · have z1 := draw_ls hdraw (by rw [hF.nt]; exact hF.le) (by rw [hF.nt]; exact hd) i _ x 0 a1 ho1 hx q1 (slotOk_of q3 ho1)
      have hyM : y ∈ M2 := by
        have hm1 : M1.length ≤ j := by rw [m1, List.length_take]; omega
        rw [List.getElem?_append_right hm1] at hy
        exact List.mem_of_getElem? hy
      have ga := draw_get hdraw (by rw [hF.nt]; exact hF.le) q3
      obtain ⟨l, hl⟩ := cpAll_get hcs q2
      obtain ⟨rx, wx, lo, hi⟩ := x
      obtain ⟨ry, wy, lo', hi'⟩ := y
      simp only [LsFit] at z1
      rcases z1 with ⟨p1, p2, p3⟩ | ⟨ad1, p1, p2, p3, p4, p5, p6⟩
      · exact .inr (clash_left p1 p2 p3)
      · rw [ga] at p1
        have fa : A ad1.block := adr_fam (S := S) (b := none) hF hT (by rw [hl]; trivial) p1
        have e5 := p5 trivial
        have e6 := p6 (by omega)
        refine .inr (clash_gen (fun f hf => by simp [e5] at hf) (fun f hf hw => ?_) (fun f _ => by omega) (fun f _ => by omega))
        rw [p2 f hf] at hw
        rcases W2 _ hyM _ hw with r | r
        · exact (hT.dis _ r).2 fa
        · have := hT.alt _ fa
          have := I1.calm.can.n
          omega
  · have hjM : j < M1.length := by rw [m1, List.length_take]; omega
    rw [List.getElem?_append_left (by omega)] at hx
    rw [List.getElem?_append_left hjM] at hy
    by_cases hbit : Nat.testBit (nth 0 (masks ops.toList []) j) i = true
    · exact .inl hbit
    · right
      obtain ⟨x1, x2, x3, x4, x5⟩ := I1.log i x hx
      obtain ⟨y1, y2, y3, y4, y5⟩ := I1.log j y hy
      obtain ⟨rx, wx, lo, hi⟩ := x
      obtain ⟨ry, wy, lo', hi'⟩ := y
      simp only at x1 x2 x3 x4 x5 y1 y2 y3 y4 y5
      subst x4; subst y4
      refine clash_gen (fun f hf => by simp at hf) (fun f _ => by simp) (fun f hf => ?_) (fun f hf => by simp at hf)
      obtain ⟨g1, g2⟩ := y5 f hf
      rcases g2 with (g2 | ⟨m, z, g3, g4, g5, g6⟩) | g2
      · have := I1.base f g2; omega
      · by_cases hmi : m = i
        · subst hmi; exact absurd g3 hbit
        · by_cases hlt : m < i
          · have := I1.apart m i z _ hlt g4 hx; simp only at this; omega
          · have := I1.apart i m _ z (by omega) hx g4; simp only at this; omega
      · have := I1.own f g2; omega
end
end Go.Proofs.Ytfalnphlgfoflaa
