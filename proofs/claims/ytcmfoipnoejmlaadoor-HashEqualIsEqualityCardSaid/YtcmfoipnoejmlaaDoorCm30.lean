/- The plain machine by hand, last part: known functions and why they may be taken for known; from a run by hand to the model. No program in sight. -/
import Derived.Test.YtcmfoipnoejmlaaDoorCm29
namespace Go.Proofs.YtcmfoipnoejmlaaDoor
open Go Go.RowKit
/-- a function that is taken for known, and rightly -/
structure AxOk (P : Program) (G : List Nat) (f : Nat) (h : List Value → CS → Option (Value × CS)) : Prop where
  can : ∀ args s v s', h args s = some (v, s') → CInv s → Can s s'
  ok : ∀ (args : List Value) (args' : Array Value) s v s' w σ V, h args s = some (v, s') → RL (VR σ) args args'.toList → Rel σ V s w → Covers V s' → Fresh σ s.n s'.n → CInv s → GlobOk G σ →
    (callFunc f args').run P w = .ok (.enter f args') w ∧ Calls P f args' w fun e w' => ∃ σ' v', e = .returned v' ∧ VR σ' v v' ∧ Rel σ' V s' w' ∧ Ext σ V s w σ' s' w'
def AxsOk (P : Program) (G : List Nat) (ax : Axs) : Prop := ∀ f h, ax f = some h → AxOk P G f h
section
variable {P : Program} {G L : List Nat} {ax : Axs}
theorem AxsOk.can (h : AxsOk P G ax) : CallCan (axC (envAx P L ax)) := by
  intro f args s v s' hc hI
  unfold axC at hc
  change (match ax f with | some k => k args s | none => none) = _ at hc
  cases hq : ax f with
  | none => rw [hq] at hc; simp at hc
  | some k => rw [hq] at hc; exact (h f k hq).can args s v s' hc hI
theorem AxsOk.call (h : AxsOk P G ax) : CallOk P G (axC (envAx P L ax)) := by
  intro f args args' s v s' w σ V hc hl hr hV hF hI hG
  unfold axC at hc
  change (match ax f with | some k => k args s | none => none) = _ at hc
  cases hq : ax f with
  | none => rw [hq] at hc; simp at hc
  | some k => rw [hq] at hc; exact ⟨f, (h f k hq).ok args args' s v s' w σ V hc hl hr hV hF hI hG⟩
theorem AxsOk.none : AxsOk P G fun _ => none := fun f h hq => by simp at hq
/-- one more known function -/
def axAdd (f : Nat) (h : List Value → CS → Option (Value × CS)) (ax : Axs) : Axs := fun k => if k = f then some h else ax k
theorem axAdd_same (f : Nat) (h : List Value → CS → Option (Value × CS)) (ax : Axs) : axAdd f h ax f = some h := if_pos rfl
theorem axAdd_ne {f k : Nat} (h : List Value → CS → Option (Value × CS)) (ax : Axs) (hk : k ≠ f) : axAdd f h ax k = ax k := if_neg hk
theorem AxsOk.add {f : Nat} {h : List Value → CS → Option (Value × CS)} (h1 : AxsOk P G ax) (h2 : AxOk P G f h) : AxsOk P G (axAdd f h ax) := by
  intro k u hu
  unfold axAdd at hu
  split at hu
  · rename_i hk; subst hk; simp only [Option.some.injEq] at hu; subst hu; exact h2
  · exact h1 k u hu
theorem Rel.below {σ : Sg} {V : Nat → Prop} {s : CS} {w w' : World} (h : Rel σ V s w) (b : Below w.heap.size w w') : Rel σ V s w' :=
  ⟨h.inj, fun f u b' o z k => Nat.lt_of_lt_of_le (h.lt f u b' o z k) b.size, fun f hf => (h.fam f hf).move (fun _ _ _ k => k) (fun _ _ => rfl) fun u b' o z k => b.block b' (h.lt f u b' o z k), h.none, h.vers⟩
theorem Ext.below (σ : Sg) (V : Nat → Prop) (s : CS) {w w' : World} (b : Below w.heap.size w w') : Ext σ V s w σ s w' :=
  ⟨fun _ _ _ h => h, fun _ _ h k => absurd h k, fun _ _ _ _ _ h k => by rw [h] at k; simp at k, b.size, fun k hk _ => b.block k hk, b.os, b.tape, b.output⟩
theorem enter_ok (hL : funcsOk P G L = true) {f : Nat} {fn : Func} {body : Code} (hfn : (envAx P L ax).fn.at f = some fn) (hb : fn.body = some body) (args' : Array Value) (w : World) : (callFunc f args').run P w = .ok (.enter f args') w := by
  obtain ⟨hok, hfun⟩ := func_ok hL hfn
  unfold funcOk at hok
  simp only [Bool.and_eq_true] at hok
  have hne : ¬ fn.name = "runtime.NumGoroutine" := by simpa using hok.1.2
  simp [callFunc, hfun, hne, hb]
/-- a function without parameters whose value is known in whatever world -/
noncomputable def axVal (v : Value) : List Value → CS → Option (Value × CS) := fun args s => match args with
  | [] => some (v, s)
  | _ :: _ => none
theorem ax_val (hL : funcsOk P G L = true) {f : Nat} {fn : Func} {body : Code} (hfn : (envAx P L ax).fn.at f = some fn) (hb : fn.body = some body) {v : Value} (hv : plainV 3 v = true) (hc : ∀ w, Calls P f #[] w fun e w' => e = .returned v ∧ Below w.heap.size w w') : AxOk P G f (axVal v) := by
  refine ⟨?_, ?_⟩
  · intro args s v' s' h _
    cases args with
    | nil => simp only [axVal, Option.some.injEq, Prod.mk.injEq] at h; rw [← h.2]; exact Can.refl _
    | cons a l => simp [axVal] at h
  · intro args args' s v' s' w σ V h hl hr hV hF hI hG
    cases args with
    | cons a l => simp [axVal] at h
    | nil =>
      simp only [axVal, Option.some.injEq, Prod.mk.injEq] at h
      obtain ⟨rfl, rfl⟩ := h
      obtain ⟨args'⟩ := args'
      cases args' with
      | cons a l => exact hl.elim
      | nil =>
        refine ⟨enter_ok hL hfn hb _ _, (hc w).mono ?_⟩
        rintro e w' ⟨rfl, b⟩
        exact ⟨σ, _, rfl, plain_refl 3 hv, hr.below b, Ext.below σ V s b⟩
/-- the state with its store as a function -/
noncomputable def CS.fn (s : CS) : CS := ⟨s.n, .inr (objAt s.obj), s.lim, s.rd, s.wr⟩
theorem CS.fn_at (s : CS) (f : Nat) : objAt s.fn.obj f = objAt s.obj f := Eq.trans rfl rfl
theorem CInv.fn {s : CS} (h : CInv s) : CInv s.fn := ⟨fun f hf => h.none f hf, fun f p hp => h.vers f p hp, h.lim⟩
theorem Rel.fn {σ : Sg} {V : Nat → Prop} {s : CS} {w : World} (h : Rel σ V s w) : Rel σ V s.fn w := ⟨h.inj, h.lt, fun f hf => h.fam f hf, fun f hf => h.none f hf, fun f p hp => h.vers f p hp⟩
/-- what a run by hand must say for its function to be known: a plain value, nothing that was there turned, the numbers that it takes, the rows that it reads -/
structure Con (P : Program) (Γ : Env) (f : Nat) (args : List Value) (s : CS) (v : Value) (s' : CS) : Prop where
  plain : plainV 3 v = true
  obj : s'.obj = s.obj
  lim : s'.lim = s.lim
  wr : s'.wr = s.wr
  rd : ∀ x, x ∈ s.rd → x ∈ s'.rd
  n : s.n ≤ s'.n
  run : ∃ s1, callR P Γ f args s.fn = some (v, s1) ∧ s1.n ≤ s'.n ∧ (∀ x, x ∈ s1.rd → x ∈ s'.rd) ∧ (∀ x, x ∈ s1.wr → x ∈ s.wr) ∧ ∀ f, f < s.n → objAt s1.obj f = objAt s.obj f
theorem ax_of (hm : P.follows .mixedOrders = true) (hL : funcsOk P G L = true) (hx : AxsOk P G ax) {f : Nat} {fn : Func} {body : Code} (hax : ax f = none) (hfn : (envAx P L ax).fn.at f = some fn) (hb : fn.body = some body) {h : List Value → CS → Option (Value × CS)}
    (hc : ∀ args s v s', h args s = some (v, s') → CInv s → Con P (envAx P L ax) f args s v s') : AxOk P G f h := by
  have hA : CallCan (axC (envAx P L ax)) := hx.can
  have hB : CallOk P G (axC (envAx P L ax)) := hx.call
  refine ⟨?_, ?_⟩
  · intro args s v s' hh hI
    have c := hc args s v s' hh hI
    refine ⟨c.n, c.lim, c.rd, fun f hf => by rw [c.wr]; exact hf, fun f _ _ _ => by rw [c.obj], fun f _ => by rw [c.obj], fun hn f hf => ?_, fun hv f p hp => ?_, fun hw f hf => ?_⟩
    · rw [c.obj]; exact hn f (Nat.le_trans c.n hf)
    · rw [c.obj] at hp; exact Nat.lt_of_lt_of_le (hv f p hp) c.n
    · rw [c.wr] at hf; rw [c.lim]; exact hw f hf
  · intro args args' s v s' w σ V hh hl hr hV hF hI hG
    have c := hc args s v s' hh hI
    obtain ⟨s1, r1, r2, r3, r4, r5⟩ := c.run
    obtain ⟨n, hn⟩ := callR_some r1
    have hcan := (cm_facts (P := P) hA n).2 f args s.fn v s1 hn hI.fn
    have hV1 : Covers V s1 := by
      intro x hx
      rcases hx with hx | hx | hx
      · exact hV x (.inl (r3 x hx))
      · exact hV x (.inr (.inl (by rw [c.wr]; exact r4 x hx)))
      · exact hV x (.inr (.inr (by rw [c.lim]; rw [hcan.lim] at hx; exact hx)))
    obtain ⟨x, h1, h2⟩ := call_ok hA hB hL (code_ok hm hA hB hL n).1 f args args' s.fn v s1 w σ V hn hl hr.fn hV1 (hF.mono (Nat.le_refl _) r2) hI.fn hG
    have he := enter_ok (ax := ax) hL hfn hb args' w
    rw [he] at h1
    have hx : x = f := by simp_all
    subst hx
    refine ⟨he, h2.mono ?_⟩
    rintro e w' ⟨σ', v', rfl, k1, k2, k3⟩
    refine ⟨σ', v', rfl, k1, ⟨k2.inj, k2.lt, fun g hg => ?_, fun g hg => ?_, fun g p hp => ?_⟩, ⟨k3.le, fun g u a b => ?_, k3.old, k3.size, k3.frame, k3.st⟩⟩
    · rw [c.obj]
      by_cases hlt : g < s.n
      · rw [← r5 g hlt]; exact k2.fam g hg
      · rw [hI.none g (by omega)]; exact FamAt.ofNone
    · rw [c.obj]; exact hI.none g (Nat.le_trans c.n hg)
    · rw [c.obj] at hp; exact Nat.lt_of_lt_of_le (hI.vers g p hp) c.n
    · have q := k3.new g u a b
      exact ⟨q.1, by omega, by omega, q.2.2.2⟩
/-- FROM A RUN BY HAND TO THE MODEL. -/
theorem calls_of (hm : P.follows .mixedOrders = true) (hL : funcsOk P G L = true) (hx : AxsOk P G ax) {f : Nat} {fn : Func} {body : Code} (hfn : (envAx P L ax).fn.at f = some fn) (hb : fn.body = some body) {args : List Value} {args' : Array Value} {s s' : CS} {v : Value} {w : World} {σ : Sg}
    (h : callR P (envAx P L ax) f args s = some (v, s')) (hl : RL (VR σ) args args'.toList) (hr : Rel σ (fun _ => True) s w) (hF : ∀ f u p, σ f u = some p → f < s.n ∧ u / 1024 < s.n ∧ (objAt s.obj f).ro = true) (hI : CInv s) (hG : GlobOk G σ) :
    Calls P f args' w fun e w' => ∃ σ' v', e = .returned v' ∧ VR σ' v v' ∧ Below w.heap.size w w' := by
  have hA : CallCan (axC (envAx P L ax)) := hx.can
  have hB : CallOk P G (axC (envAx P L ax)) := hx.call
  obtain ⟨n, hn⟩ := callR_some h
  have hFr : Fresh σ s.n s'.n := by
    intro g u hgu
    cases hq : σ g u with
    | none => rfl
    | some p => have := hF g u p hq; omega
  obtain ⟨x, h1, h2⟩ := call_ok hA hB hL (code_ok hm hA hB hL n).1 f args args' s v s' w σ _ hn hl hr (fun _ _ => trivial) hFr hI hG
  have he := enter_ok (ax := ax) hL hfn hb args' w
  rw [he] at h1
  have hx : x = f := by simp_all
  subst hx
  refine h2.mono ?_
  rintro e w' ⟨σ', v', rfl, k1, k2, k3⟩
  exact ⟨σ', v', rfl, k1, k3.st.1, k3.st.2.1, k3.st.2.2, k3.size, fun k hk => k3.frame k hk fun g u o z hs => .inr (hF g u _ hs).2.2⟩
/-- with plain parameters and no globals -/
theorem calls_plain (hm : P.follows .mixedOrders = true) (hL : funcsOk P [] L = true) (hx : AxsOk P [] ax) {f : Nat} {fn : Func} {body : Code} (hfn : (envAx P L ax).fn.at f = some fn) (hb : fn.body = some body) {args : Array Value} {s' : CS} {v : Value}
    (h : callR P (envAx P L ax) f args.toList (St 0 (fun _ => famNone) 0 [] []) = some (v, s')) (hp : args.toList.all (plainV 3) = true) (hv : plainV 3 v = true) (w : World) :
    Calls P f args w fun e w' => e = .returned v ∧ Below w.heap.size w w' := by
  refine (calls_of (σ := fun _ _ => none) hm hL hx hfn hb (w := w) h (args' := args) ?_ ?_ (fun f u p hq => by simp at hq) ?_ (fun g hg => by simp [has] at hg)).mono ?_
  · exact RL.of rfl fun i x y hx hy => by
      rw [hx] at hy; cases hy
      exact plain_refl 3 (List.all_eq_true.1 hp x (List.mem_of_getElem? hx))
  · exact ⟨fun _ _ _ _ _ _ _ _ _ h => by simp at h, fun _ _ _ _ _ h => by simp at h, fun f _ => FamAt.ofNone, fun _ _ => rfl, fun f p hp => by simp [objAt, famNone] at hp⟩
  · exact ⟨fun _ _ => rfl, fun f p hp => by simp [objAt, famNone] at hp, Nat.le_refl _⟩
  · rintro e w' ⟨σ', v', rfl, k1, k2⟩
    exact ⟨by rw [plain_eq 3 hv k1], k2⟩
end
end Go.Proofs.YtcmfoipnoejmlaaDoor
