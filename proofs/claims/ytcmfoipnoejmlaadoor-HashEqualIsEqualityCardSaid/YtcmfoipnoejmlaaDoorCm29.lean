/- The plain machine: a function without parameters that reads global tables, run by the kernel; and such a function as a known one. No program in sight. -/
import Derived.Test.YtcmfoipnoejmlaaDoorCm28
namespace Go.Proofs.YtcmfoipnoejmlaaDoor
open Go Go.RowKit
/-- the families of the globals: number and cells -/
noncomputable def objK : List (Nat × List Value) → Sto
  | [] => .inl (Tr.all famNone 14)
  | (g, cs) :: l => objPut (objK l) g ⟨true, [(g * 1024, cs)], none⟩
def famK : List (Nat × List Value) → Nat → Fam
  | [], _ => famNone
  | (g, cs) :: l, f => if f = g then ⟨true, [(g * 1024, cs)], none⟩ else famK l f
noncomputable def csK (N : Nat) (K : List (Nat × List Value)) : CS := ⟨N, objK K, 0, [], []⟩
/-- what a run over the globals alone gives -/
noncomputable def valK (P : Program) (Γ : Env) (f : FuncId) (fuel N : Nat) (K : List (Nat × List Value)) : Option Value :=
  match callC P Γ fuel f [] (csK N K) with
  | some (v, _) => some v
  | none => none
theorem roomK : ∀ (K : List (Nat × List Value)) (n : Nat), n < 16384 → roomIn (objK K) n = true
  | [], n, h => blt_iff.2 h
  | (g, cs) :: l, n, h => by
    have := roomK l n h
    show roomIn (objPut (objK l) g _) n = true
    cases hq : objK l with
    | inl t => exact blt_iff.2 h
    | inr t => rfl
theorem objK_at : ∀ (K : List (Nat × List Value)), (∀ p, p ∈ K → p.1 < 16384) → ∀ f, objAt (objK K) f = famK K f
  | [], _, f => by
    show sel (Nat.blt f 16384) (Tr.get 14 (Tr.all famNone 14) f) ⟨true, [], none⟩ = famNone
    rw [sel_eq]
    split
    · exact Tr.get_all _ 14 _
    · rfl
  | (g, cs) :: l, h, f => by
    have hg := roomK l g (h (g, cs) (by simp))
    show objAt (objPut (objK l) g _) f = if f = g then _ else famK l f
    split
    · rename_i h1; subst h1; exact objAt_put_same _ hg
    · rename_i h1; rw [objAt_put_other _ hg (Ne.symm h1)]; exact objK_at l (fun p hp => h p (by simp [hp])) f
/-- the globals hold these cells in a world -/
def GlobsAt (w : World) (K : List (Nat × List Value)) : Prop :=
  ∀ p, p ∈ K → p.1 < w.heap.size ∧ ∀ (j : Nat) (u : Value), p.2[j]? = some u → w.cell? ⟨p.1, j, none⟩ = some u ∧ plainV 3 u = true
open Classical in
/-- where the globals lie -/
noncomputable def sgK (G : List Nat) (K : List (Nat × List Value)) : Sg := fun f u => if has G f = true ∧ u = f * 1024 then some (f, 0, (famK K f).rows.head?.elim 0 fun p => p.2.length) else none
theorem famK_rows : ∀ {K : List (Nat × List Value)} {f : Nat} {p : Nat × List Value}, p ∈ (famK K f).rows → p.1 = f * 1024 ∧ (f, p.2) ∈ K ∧ (famK K f).rows = [p]
  | [], f, p, h => by simp [famK, famNone] at h
  | (g, cs) :: l, f, p, h => by
    simp only [famK] at h ⊢
    split at h
    · rename_i hf
      subst hf
      simp only [List.mem_singleton] at h
      subst h
      simp
    · rename_i hf
      obtain ⟨h1, h2, h3⟩ := famK_rows h
      rw [if_neg hf]
      exact ⟨h1, List.mem_cons_of_mem _ h2, h3⟩
theorem famK_es : ∀ {K : List (Nat × List Value)} {f : Nat}, (famK K f).es = none ∧ (famK K f).ro = true
  | [], f => ⟨rfl, rfl⟩
  | (g, cs) :: l, f => by
    simp only [famK]
    split
    · exact ⟨rfl, rfl⟩
    · exact famK_es
theorem famK_some : ∀ {K : List (Nat × List Value)} {f : Nat} {cs : List Value}, (f, cs) ∈ K → ∃ p, (famK K f).rows = [p] ∧ p.1 = f * 1024 ∧ (f, p.2) ∈ K
  | (g, cs') :: l, f, cs, h => by
    simp only [famK]
    split
    · rename_i hf; subst hf; exact ⟨_, rfl, rfl, by simp⟩
    · rename_i hf
      rcases List.mem_cons.1 h with h | h
      · cases h; exact absurd rfl hf
      · obtain ⟨p, h1, h2, h3⟩ := famK_some h
        exact ⟨p, h1, h2, List.mem_cons_of_mem _ h3⟩
theorem famK_other : ∀ {K : List (Nat × List Value)} {f : Nat}, (∀ cs, (f, cs) ∉ K) → famK K f = famNone
  | [], f, h => rfl
  | (g, cs) :: l, f, h => by
    simp only [famK]
    rw [if_neg (fun hf => h cs (by subst hf; simp))]
    exact famK_other fun cs' hc => h cs' (List.mem_cons_of_mem _ hc)
section
variable {P : Program}
/-- A FUNCTION WITHOUT PARAMETERS THAT GIVES v IN THE PLAIN MACHINE OVER THE GLOBALS' TABLES GIVES v IN THE MODEL, FROM WHATEVER WORLD THAT HOLDS THEM. -/
theorem calls_glob (hm : P.follows .mixedOrders = true) {L G : List Nat} {ax : Axs} (hA : CallCan (axC (envAx P L ax))) (hB : CallOk P G (axC (envAx P L ax))) {f fuel N : Nat} {K : List (Nat × List Value)} {v : Value} (hL : funcsOk P G L = true)
    (hax : ax f = none) (hG : ∀ p, p ∈ K → has G p.1 = true ∧ p.1 < 16384) (hN : ∀ g, has G g = true → g < N) (hv : plainV 3 v = true) (h : valK P (envAx P L ax) f fuel N K = some v) (w : World) (hw : GlobsAt w K) (hwG : ∀ g, has G g = true → g < w.heap.size) :
    Calls P f #[] w fun e w' => e = .returned v ∧ Below w.heap.size w w' := by
  unfold valK at h
  split at h
  · rename_i s' hq
    simp only [Option.some.injEq] at h
    subst h
    have hobj : ∀ f, objAt (csK N K).obj f = famK K f := objK_at K fun p hp => (hG p hp).2
    have hI : CInv (csK N K) := by
      refine ⟨fun f hf => ?_, fun f p hp => ?_, Nat.zero_le _⟩
      · rw [hobj]
        exact famK_other fun cs hc => by have := hN _ (hG _ hc).1; simp only [csK] at hf; omega
      · rw [hobj] at hp
        obtain ⟨h1, h2, _⟩ := famK_rows hp
        have := hN _ (hG _ h2).1
        show p.1 / 1024 < N
        rw [h1]; simp only at this; omega
    have hσ : ∀ f u b o z, sgK G K f u = some (b, o, z) → has G f = true ∧ u = f * 1024 ∧ b = f ∧ o = 0 := by
      intro f u b o z hs
      unfold sgK at hs
      split at hs
      · rename_i hc; simp only [Option.some.injEq, Prod.mk.injEq] at hs; exact ⟨hc.1, hc.2, hs.1.symm, hs.2.1.symm⟩
      · simp at hs
    have hr : Rel (sgK G K) (fun _ => True) (csK N K) w := by
      refine ⟨?_, ?_, ?_, hI.none, hI.vers⟩
      · intro f u b o z f' u' o' z' h1 h2
        have := hσ _ _ _ _ _ h1
        have := hσ _ _ _ _ _ h2
        omega
      · intro f u b o z h1
        obtain ⟨hc, _, hb, _⟩ := hσ _ _ _ _ _ h1
        rw [hb]
        exact hwG _ hc
      · intro f _
        rw [hobj]
        refine ⟨?_, ?_, ?_⟩
        · intro p hp b o z hs
          obtain ⟨h1, h2, h3⟩ := famK_rows hp
          have hz : z = p.2.length := by
            unfold sgK at hs
            split at hs
            · rw [h3] at hs; simp at hs; exact hs.2.2.symm
            · simp at hs
          obtain ⟨_, _, hb, ho⟩ := hσ _ _ _ _ _ hs
          subst hb; subst ho; subst hz
          refine ⟨by omega, fun j hj => ?_, fun hro => ?_, fun j u hu => ?_⟩
          · obtain ⟨k1, _⟩ := (hw _ h2).2 j _ (List.getElem?_eq_getElem hj)
            rw [k1]; rfl
          · rw [famK_es.2] at hro; simp at hro
          · obtain ⟨k1, k2⟩ := (hw _ h2).2 j u hu
            rw [Nat.zero_add]
            exact ⟨u, k1, plain_refl 3 k2⟩
        · intro hro; rw [famK_es.2] at hro; simp at hro
        · intro es he
          rw [famK_es.1] at he; simp at he
    have hF : Fresh (sgK G K) (csK N K).n s'.n := by
      intro f u hx
      cases hs : sgK G K f u with
      | none => rfl
      | some p =>
        obtain ⟨b, o, z⟩ := p
        obtain ⟨hc, hu, _⟩ := hσ _ _ _ _ _ hs
        have := hN _ hc
        simp only [csK] at hx this
        omega
    have hGl : GlobOk G (sgK G K) := by
      intro g hg
      exact ⟨_, if_pos ⟨hg, rfl⟩⟩
    have hcall := call_ok hA hB hL (code_ok hm hA hB hL fuel).1 f [] #[] (csK N K) _ s' w (sgK G K) (fun _ => True) hq trivial hr (fun _ _ => trivial) hF hI hGl
    obtain ⟨x, h1, h2⟩ := hcall
    have hx : x = f := by
      unfold callC at hq
      rw [show (envAx P L ax).ax f = none from hax] at hq
      simp only at hq
      cases hfn : (envAx P L ax).fn.at f with
      | none => rw [hfn] at hq; simp at hq
      | some fn =>
        obtain ⟨hok, hfun⟩ := func_ok hL hfn
        unfold funcOk at hok
        simp only [Bool.and_eq_true] at hok
        rw [hfn] at hq
        simp only at hq
        cases hb : fn.body with
        | none => rw [hb] at hq; simp at hq
        | some body =>
          have hne : ¬ fn.name = "runtime.NumGoroutine" := by simpa using hok.1.2
          have : (callFunc f #[]).run P w = .ok (.enter f #[]) w := by simp [callFunc, hfun, hne, hb]
          rw [this] at h1
          simp at h1
          exact h1.symm
    subst hx
    refine h2.mono ?_
    rintro e w' ⟨σ', v', rfl, k1, k2, k3⟩
    refine ⟨by rw [plain_eq 3 hv k1], k3.st.1, k3.st.2.1, k3.st.2.2, k3.size, fun k hk => k3.frame k hk fun f u o z hs => .inr ?_⟩
    rw [hobj]
    exact famK_es.2
  · simp at h
end
end Go.Proofs.YtcmfoipnoejmlaaDoor
