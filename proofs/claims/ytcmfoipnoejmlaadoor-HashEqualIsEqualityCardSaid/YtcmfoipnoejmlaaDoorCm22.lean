/- The plain machine, last part: a function that gives true in the plain machine gives true in the model, from whatever world, and turns nothing that was there. No program in sight. -/
import Derived.Test.YtcmfoipnoejmlaaDoorCm21
namespace Go.Proofs.YtcmfoipnoejmlaaDoor
open Go Go.RowKit
section
variable {P : Program} {Γ : Env} {G : List Nat}
/-- what a piece of code leaves -/
def Post (V : Nat → Prop) (σ : Sg) (s : CS) (w : World) (a : Act) (e : Exit) (fr' : Fr) (s' : CS) : Exit → Act → World → Prop :=
  fun e' a' w' => e' = e ∧ ∃ σ', FrR σ' fr' a' ∧ a'.defers = a.defers ∧ Rel σ' V s' w' ∧ Ext σ V s w σ' s' w'
def CodeOk (P : Program) (Γ : Env) (G : List Nat) (n : Nat) : Prop := ∀ c fr s e fr' s' σ V w a, cm P Γ n c fr s = some (e, fr', s') → codeOk G fr.nt c = true → Rel σ V s w → Covers V s' → Fresh σ s.n s'.n → CInv s → GlobOk G σ → FrR σ fr a →
  c.wp P (Post V σ s w a e fr' s') a w
def LoopOk (P : Program) (Γ : Env) (G : List Nat) (n : Nat) : Prop := ∀ b fr s e fr' s' σ V w a, cm P Γ n (.loop b) fr s = some (e, fr', s') → codeOk G fr.nt b = true → Rel σ V s w → Covers V s' → Fresh σ s.n s'.n → CInv s → GlobOk G σ → FrR σ fr a →
  Code.rounds P b (Post V σ s w a e fr' s') n a w
theorem Post.chain {V : Nat → Prop} {σ σ1 : Sg} {s s1 s' : CS} {w w1 : World} {a a1 : Act} {e : Exit} {fr' : Fr} (he : Ext σ V s w σ1 s1 w1) (hd : a1.defers = a.defers) (c1 : Can s s1) (c2 : Can s1 s') (hF : Fresh σ s.n s'.n) (hn : ∀ f, s.n ≤ f → objAt s.obj f = famNone) {x : Exit} {a2 : Act} {w2 : World}
    (h : Post V σ1 s1 w1 a1 e fr' s' x a2 w2) : Post V σ s w a e fr' s' x a2 w2 := by
  obtain ⟨rfl, σ2, h1, h2, h3, h4⟩ := h
  exact ⟨rfl, σ2, h1, h2.trans hd, h3, he.trans h4 c1 c2 hF hn⟩
theorem func_ok {L : List Nat} {ax : Axs} (hL : funcsOk P G L = true) {f : Nat} {fn : Func} (h : (envAx P L ax).fn.at f = some fn) : funcOk G fn = true ∧ P.funcs[f]? = some fn := by
  have h1 := Tab.at_mk _ _ _ h
  rw [sel_eq] at h1
  split at h1
  · rename_i hf
    refine ⟨?_, h1⟩
    unfold funcsOk at hL
    have := List.all_eq_true.1 hL f (has_mem hf)
    rw [h1] at this
    exact this
  · simp at h1
theorem call_ok {L : List Nat} {ax : Axs} (hA : CallCan (axC (envAx P L ax))) (hB : CallOk P G (axC (envAx P L ax))) (hL : funcsOk P G L = true) {n : Nat} (hc : CodeOk P (envAx P L ax) G n) : CallOk P G (callC P (envAx P L ax) n) := by
  intro f args args' s v s' w σ V h hl hr hV hF hI hG
  have hE := env_ok P L ax
  unfold callC at h
  split at h
  · rename_i hx hax
    exact hB f args args' s v s' w σ V (by unfold axC; rw [hax]; exact h) hl hr hV hF hI hG
  cases hfn : (envAx P L ax).fn.at f with
  | none => rw [hfn] at h; simp at h
  | some fn =>
    rw [hfn] at h
    simp only at h
    obtain ⟨hok, hfun⟩ := func_ok hL hfn
    unfold funcOk at hok
    simp only [Bool.and_eq_true] at hok
    obtain ⟨⟨h512, hname⟩, hbody⟩ := hok
    cases hb : fn.body with
    | none => rw [hb] at h; simp at h
    | some body =>
      rw [hb] at h hbody
      simp only at h hbody
      -- both ways to leave
      have key : ∀ e fr1 s1 vs, (e = .normal ∨ e = .ret) → sel (Nat.ble args.length fn.ntmps) (cm P (envAx P L ax) n body (Fr.ofArgs args 0 ⟨fn.ntmps, Tr.all undef 9⟩) s) none = some (e, fr1, s1) → resC (envAx P L ax) fr1 s1 fn.results.toList = some (vs, s') → v = tupC vs →
          Calls P f args' w fun e w' => ∃ σ' v', e = .returned v' ∧ VR σ' v v' ∧ Rel σ' V s' w' ∧ Ext σ V s w σ' s' w' := by
        intro e fr1 s1 vs hex h1 h2 h3
        obtain ⟨hlen, h1⟩ := sel_some h1
        have c1 := ((cm_facts (P := P) (Γ := envAx P L ax) hA n).1 _ _ _ _ _ _ h1).2.2 hI
        have c2 := resC_can h2
        have hnt : (Fr.ofArgs args 0 ⟨fn.ntmps, Tr.all undef 9⟩).nt = fn.ntmps := ofArgs_nt _ _ _
        have hfr := enter_rel (σ := σ) (ble_iff.1 h512) (ble_iff.1 hlen) hl
        have hw := hc body _ s e fr1 s1 σ V w _ h1 (by rw [hnt]; exact hbody) hr (hV.back c2) (hF.mono (Nat.le_refl _) c2.n) hI hG hfr
        refine calls_of_wp hfun hb (Code.wp_mono ?_ hw)
        rintro e' a' w' ⟨rfl, σ1, k1, k2, k3, k4⟩
        obtain ⟨v', q1, q2, q3, q4⟩ := results_run hE k1 k3 hV (hI.next c1) (hF.next k4 c1) h2
        have hR : ∃ σ' v'', Ending.returned v' = .returned v'' ∧ VR σ' v v'' ∧ Rel σ' V s' w' ∧ Ext σ V s w σ' s' w' := ⟨σ1, v', rfl, by rw [h3]; exact q2, q3, k4.trans q4 c1 c2 hF hI.none⟩
        rcases hex with rfl | rfl
        · exact ⟨k2, v', q1, hR⟩
        · exact ⟨k2, v', q1, hR⟩
      refine ⟨f, ?_, ?_⟩
      · have hne : ¬ fn.name = "runtime.NumGoroutine" := by simpa using hname
        simp [callFunc, hfun, hne, hb]
      · split at h
        · rename_i fr1 s1 h1
          split at h
          · rename_i vs s2 h2
            simp only [Option.some.injEq, Prod.mk.injEq] at h
            obtain ⟨rfl, rfl⟩ := h
            exact key _ fr1 s1 vs (.inl rfl) h1 h2 rfl
          · simp at h
        · rename_i fr1 s1 h1
          split at h
          · rename_i vs s2 h2
            simp only [Option.some.injEq, Prod.mk.injEq] at h
            obtain ⟨rfl, rfl⟩ := h
            exact key _ fr1 s1 vs (.inr rfl) h1 h2 rfl
          · simp at h
        · simp at h
set_option maxHeartbeats 1000000 in
theorem code_ok (hm : P.follows .mixedOrders = true) {L : List Nat} {ax : Axs} (hA : CallCan (axC (envAx P L ax))) (hB : CallOk P G (axC (envAx P L ax))) (hL : funcsOk P G L = true) : ∀ n, CodeOk P (envAx P L ax) G n ∧ LoopOk P (envAx P L ax) G n := by
  intro n
  induction n with
  | zero => exact ⟨fun c fr s e fr' s' σ V w a h => by simp [cm] at h, fun b fr s e fr' s' σ V w a h => by simp [cm] at h⟩
  | succ n ih =>
    obtain ⟨ih1, ih2⟩ := ih
    have hE := env_ok P L ax
    have hC := call_ok hA hB hL ih1
    obtain ⟨hfacts, hcan⟩ := cm_facts (P := P) (Γ := envAx P L ax) hA n
    have hloop : LoopOk P (envAx P L ax) G (n + 1) := by
      intro b fr s e fr' s' σ V w a h hb hr hV hF hI hG hfr
      simp only [cm] at h
      rw [rounds_succ]
      split at h
      · rename_i fr1 s1 h1
        obtain ⟨q1, _, q3⟩ := hfacts _ _ _ _ _ _ h1
        obtain ⟨r1, _, r3⟩ := hfacts _ _ _ _ _ _ h
        have c1 := q3 hI
        have c2 := r3 (hI.next c1)
        refine Code.wp_mono ?_ (ih1 b fr s _ fr1 s1 σ V w a h1 hb hr (hV.back c2) (hF.mono (Nat.le_refl _) c2.n) hI hG hfr)
        rintro e1 a1 w1 ⟨rfl, σ1, k1, k2, k3, k4⟩
        show Code.rounds P b _ n a1 w1
        have hrounds := ih2 b fr1 s1 e fr' s' σ1 V w1 a1 h (by rw [q1]; exact hb) k3 hV (hF.next k4 c1) (hI.next c1) (hG.up k4.le) k1
        -- the same, seen from the start
        have hmono : ∀ m a2 w2, Code.rounds P b (Post V σ1 s1 w1 a1 e fr' s') m a2 w2 → Code.rounds P b (Post V σ s w a e fr' s') m a2 w2 := by
          intro m
          induction m with
          | zero => intro a2 w2 hx; exact hx
          | succ m ihm =>
            intro a2 w2 hx
            rw [rounds_succ] at hx ⊢
            refine Code.wp_mono ?_ hx
            intro e2 a3 w3 hy
            cases e2 with
            | normal => exact ihm a3 w3 hy
            | exit id => exact Post.chain k4 k2 c1 c2 hF hI.none hy
            | goto lb => exact Post.chain k4 k2 c1 c2 hF hI.none hy
            | ret => exact Post.chain k4 k2 c1 c2 hF hI.none hy
            | panic ch => exact Post.chain k4 k2 c1 c2 hF hI.none hy
            | outgrown => exact Post.chain k4 k2 c1 c2 hF hI.none hy
        exact hmono n a1 w1 hrounds
      · rename_i hne
        obtain ⟨_, q2, _⟩ := hfacts _ _ _ _ _ _ h
        refine Code.wp_mono ?_ (ih1 b fr s e fr' s' σ V w a h hb hr hV hF hI hG hfr)
        rintro e1 a1 w1 ⟨rfl, σ1, k1, k2, k3, k4⟩
        cases e1 with
        | normal => exact absurd h (hne _ _)
        | exit id => exact ⟨rfl, σ1, k1, k2, k3, k4⟩
        | ret => exact ⟨rfl, σ1, k1, k2, k3, k4⟩
        | goto lb => exact q2.elim
        | panic ch => exact q2.elim
        | outgrown => exact q2.elim
    refine ⟨?_, hloop⟩
    intro c fr s e fr' s' σ V w a h hok hr hV hF hI hG hfr
    cases c with
    | skip => simp only [cm, Option.some.injEq, Prod.mk.injEq] at h; obtain ⟨rfl, rfl, rfl⟩ := h; exact wp_skip ⟨rfl, σ, hfr, rfl, hr, Ext.refl _ _ _ _⟩
    | label lb => simp only [cm, Option.some.injEq, Prod.mk.injEq] at h; obtain ⟨rfl, rfl, rfl⟩ := h; exact wp_label ⟨rfl, σ, hfr, rfl, hr, Ext.refl _ _ _ _⟩
    | exit id => simp only [cm, Option.some.injEq, Prod.mk.injEq] at h; obtain ⟨rfl, rfl, rfl⟩ := h; exact wp_exit ⟨rfl, σ, hfr, rfl, hr, Ext.refl _ _ _ _⟩
    | ret => simp only [cm, Option.some.injEq, Prod.mk.injEq] at h; obtain ⟨rfl, rfl, rfl⟩ := h; exact wp_ret ⟨rfl, σ, hfr, rfl, hr, Ext.refl _ _ _ _⟩
    | region id ops draw =>
      have h' : (bif draw then match drawC P (envAx P L ax) (callC P (envAx P L ax) n) ops.toList ops.toList fr s with
          | some (logs, fr, t) => bif calm s.n ops.toList logs then some (Exit.normal, fr, t) else none
          | none => none
        else match runC P (envAx P L ax) (callC P (envAx P L ax) n) ops.toList ops.toList fr s with
          | some (fr, s) => some (Exit.normal, fr, s)
          | none => none) = some (e, fr', s') := h
      simp only [codeOk, Bool.and_eq_true] at hok
      cases draw with
      | true =>
        simp only [cond_true] at h'
        split at h'
        · rename_i hd
          obtain ⟨hcalm, h'⟩ := cond_some h'
          simp only [Option.some.injEq, Prod.mk.injEq] at h'
          obtain ⟨rfl, rfl, rfl⟩ := h'
          refine draw_wp hm hE hC hcan hr hV hF hI hG hfr hok.1 (by simpa using hok.2) hd hcalm ?_
          intro σ1 a1 w1 k1 k2 k3 k4
          exact ⟨rfl, σ1, k1, k2, k3, k4⟩
        · simp at h'
      | false =>
        simp only [cond_false] at h'
        split at h'
        · rename_i hd
          simp only [Option.some.injEq, Prod.mk.injEq] at h'
          obtain ⟨rfl, rfl, rfl⟩ := h'
          refine wp_region_list ?_
          refine run_wp hE hC hcan (fun o ho => List.all_eq_true.1 hok.1 o ho) (fun o ho => List.all_eq_true.1 hok.1 o ho) hr hV hF hI hG hfr hd ?_
          intro σ1 a1 w1 k1 k2 k3 k4
          exact ⟨rfl, σ1, k1, k2, k3, k4⟩
        · simp at h'
    | seq x y =>
      simp only [codeOk, Bool.and_eq_true] at hok
      simp only [cm] at h
      refine wp_seq ?_
      split at h
      · rename_i fr1 s1 h1
        obtain ⟨q1, _, q3⟩ := hfacts _ _ _ _ _ _ h1
        obtain ⟨r1, _, r3⟩ := hfacts _ _ _ _ _ _ h
        have c1 := q3 hI
        have c2 := r3 (hI.next c1)
        refine Code.wp_mono ?_ (ih1 x fr s _ fr1 s1 σ V w a h1 hok.1 hr (hV.back c2) (hF.mono (Nat.le_refl _) c2.n) hI hG hfr)
        rintro e1 a1 w1 ⟨rfl, σ1, k1, k2, k3, k4⟩
        show y.wp P _ a1 w1
        refine Code.wp_mono ?_ (ih1 y fr1 s1 e fr' s' σ1 V w1 a1 h (by rw [q1]; exact hok.2) k3 hV (hF.next k4 c1) (hI.next c1) (hG.up k4.le) k1)
        intro e2 a2 w2 hy
        exact Post.chain k4 k2 c1 c2 hF hI.none hy
      · rename_i hne
        obtain ⟨_, q2, _⟩ := hfacts _ _ _ _ _ _ h
        refine Code.wp_mono ?_ (ih1 x fr s e fr' s' σ V w a h hok.1 hr hV hF hI hG hfr)
        rintro e1 a1 w1 ⟨rfl, σ1, k1, k2, k3, k4⟩
        cases e1 with
        | normal => exact absurd h (hne _ _)
        | exit id => exact ⟨rfl, σ1, k1, k2, k3, k4⟩
        | ret => exact ⟨rfl, σ1, k1, k2, k3, k4⟩
        | goto lb => exact q2.elim
        | panic ch => exact q2.elim
        | outgrown => exact q2.elim
    | cond x t f =>
      simp only [codeOk, Bool.and_eq_true] at hok
      simp only [cm] at h
      split at h
      · rename_i bb hb
        have hv : VR σ (evalC fr x) (a.eval x) := evalC_rel hG hok.1.1 fun t _ => hfr.val t
        rw [hb] at hv
        refine wp_cond hv.bool ?_
        cases bb with
        | true => exact ih1 t fr s e fr' s' σ V w a h hok.1.2 hr hV hF hI hG hfr
        | false => exact ih1 f fr s e fr' s' σ V w a h hok.2 hr hV hF hI hG hfr
      · simp at h
    | block id b =>
      simp only [codeOk] at hok
      simp only [cm] at h
      refine wp_block ?_
      split at h
      · rename_i i fr1 s1 h1
        simp only [Option.some.injEq, Prod.mk.injEq] at h
        obtain ⟨rfl, rfl, rfl⟩ := h
        refine Code.wp_mono ?_ (ih1 b fr s _ fr1 s1 σ V w a h1 hok hr hV hF hI hG hfr)
        rintro e1 a1 w1 ⟨rfl, σ1, k1, k2, k3, k4⟩
        show (if i = id then _ else _)
        by_cases hid : i = id
        · rw [if_pos hid]
          refine ⟨?_, σ1, k1, k2, k3, k4⟩
          rw [hid, Nat.beq_refl]; rfl
        · rw [if_neg hid]
          refine ⟨?_, σ1, k1, k2, k3, k4⟩
          have : Nat.beq i id = false := by
            cases hq : Nat.beq i id with
            | false => rfl
            | true => exact absurd (Nat.eq_of_beq_eq_true hq) hid
          rw [this]; rfl
      · rename_i hne
        obtain ⟨_, q2, _⟩ := hfacts _ _ _ _ _ _ h
        refine Code.wp_mono ?_ (ih1 b fr s e fr' s' σ V w a h hok hr hV hF hI hG hfr)
        rintro e1 a1 w1 ⟨rfl, σ1, k1, k2, k3, k4⟩
        cases e1 with
        | normal => exact ⟨rfl, σ1, k1, k2, k3, k4⟩
        | exit i => exact absurd h (hne _ _ _)
        | ret => exact ⟨rfl, σ1, k1, k2, k3, k4⟩
        | goto lb => exact q2.elim
        | panic ch => exact q2.elim
        | outgrown => exact q2.elim
    | loop b =>
      simp only [codeOk] at hok
      exact wp_loop_rounds (n + 1) (hloop b fr s e fr' s' σ V w a h hok hr hV hF hI hG hfr)
    | scope b =>
      simp only [codeOk] at hok
      simp only [cm] at h
      obtain ⟨_, q2, _⟩ := hfacts _ _ _ _ _ _ h
      refine wp_scope_straight ?_
      refine Code.wp_mono ?_ (ih1 b fr s e fr' s' σ V w a h hok hr hV hF hI hG hfr)
      rintro e1 a1 w1 ⟨rfl, σ1, k1, k2, k3, k4⟩
      cases e1 with
      | normal => exact ⟨rfl, σ1, k1, k2, k3, k4⟩
      | exit i => exact ⟨rfl, σ1, k1, k2, k3, k4⟩
      | ret => exact ⟨rfl, σ1, k1, k2, k3, k4⟩
      | goto lb => exact q2.elim
      | panic ch => exact q2.elim
      | outgrown => exact q2.elim
    | rangeFunc f ps x y => simp [cm] at h
    | goto lb => simp [cm] at h
    | refuse why => simp [cm] at h
theorem cs0_obj (f : Nat) : objAt cs0.obj f = famNone := by
  unfold objAt cs0
  simp only
  rw [sel_eq]
  split
  · exact Tr.get_all _ 14 _
  · rfl
/-- A FUNCTION WITHOUT PARAMETERS THAT GIVES TRUE IN THE PLAIN MACHINE GIVES TRUE IN THE MODEL, FROM WHATEVER WORLD. -/
theorem calls_true (hm : P.follows .mixedOrders = true) {L : List Nat} {f fuel : Nat} (hL : funcsOk P [] L = true) (h : callsTrue P (envOf P L) f fuel = true) (w : World) :
    Calls P f #[] w fun e w' => e = .returned (.bool true) ∧ Below w.heap.size w w' := by
  have hA : CallCan (axC (envAx P L fun _ => none)) := fun f args s v s' h => by simp [axC, envAx] at h
  have hB : CallOk P [] (axC (envAx P L fun _ => none)) := fun f args args' s v s' w σ V h => by simp [axC, envAx] at h
  unfold callsTrue envOf at h
  split at h
  · rename_i s' hq
    have hI : CInv cs0 := ⟨fun f _ => cs0_obj f, fun f p hp => by rw [cs0_obj] at hp; simp [famNone] at hp, Nat.le_refl _⟩
    have hr : Rel (fun _ _ => none) (fun _ => True) cs0 w := ⟨fun _ _ _ _ _ _ _ _ _ h => by simp at h, fun _ _ _ _ _ h => by simp at h, fun f _ => by rw [cs0_obj]; exact FamAt.ofNone, hI.none, hI.vers⟩
    have hcall := call_ok hA hB hL (code_ok hm hA hB hL fuel).1 f [] #[] cs0 _ s' w (fun _ _ => none) (fun _ => True) hq trivial hr (fun _ _ => trivial) (fun _ _ _ => rfl) hI (fun g hg => by simp [has] at hg)
    obtain ⟨x, h1, h2⟩ := hcall
    have hx : x = f := by
      unfold callC at hq
      change (match (envAx P L fun _ => none).fn.at f with | some fn => _ | none => none) = _ at hq
      cases hfn : (envAx P L fun _ => none).fn.at f with
      | none => rw [hfn] at hq; simp at hq
      | some fn =>
        obtain ⟨hok, hfun⟩ := func_ok hL hfn
        unfold funcOk at hok
        simp only [Bool.and_eq_true] at hok
        rw [hfn] at hq
        simp only at hq
        cases hb : fn.body with
        | none => rw [hb] at hq; simp at hq
        | some body =>
          have hne : ¬ fn.name = "runtime.NumGoroutine" := by simpa using hok.1.2
          have : (callFunc f #[]).run P w = .ok (.enter f #[]) w := by simp [callFunc, hfun, hne, hb]
          rw [this] at h1
          simp at h1
          exact h1.symm
    subst hx
    refine h2.mono ?_
    rintro e w' ⟨σ', v', rfl, k1, k2, k3⟩
    refine ⟨by rw [k1.bool], k3.st.1, k3.st.2.1, k3.st.2.2, k3.size, fun k hk => k3.frame k hk fun f u o z hs => by simp at hs⟩
  · simp at h
end
end Go.Proofs.YtcmfoipnoejmlaaDoor
