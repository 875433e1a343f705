/- The plain machine by hand: a function that reads one global table, known; the start of a law over the globals. No program in sight. -/
import Derived.Test.YtcmfoipnoejmlaaDoorCm34
namespace Go.Proofs.YtcmfoipnoejmlaaDoor
open Go Go.RowKit
theorem Wseq {P : Program} {Γ : Env} {a b : Code} {fr : Fr} {s : CS} {Q : Exit → Fr → CS → Prop} (h : W P Γ a fr s (onN (fun fr s => W P Γ b fr s Q) Q)) : W P Γ (.seq a b) fr s Q := W.seq h
section
variable {P : Program} {G L : List Nat} {ax : Axs}
open Classical in
/-- a function without parameters whose value is known where a global holds these cells -/
noncomputable def axTab (gk : Nat) (cs : List Value) (v : Value) : List Value → CS → Option (Value × CS) := fun args s => match args with
  | [] => if rowOf (objAt s.obj gk).rows (gk * 1024) = some cs then some (v, { s with rd := ins s.lim s.rd gk }) else none
  | _ :: _ => none
theorem axTab_eq {gk : Nat} {cs : List Value} {v : Value} {s : CS} (h : rowOf (objAt s.obj gk).rows (gk * 1024) = some cs) : axTab gk cs v [] s = some (v, { s with rd := ins s.lim s.rd gk }) := by
  unfold axTab
  simp only
  rw [if_pos h]
theorem ax_tab (hL : funcsOk P G L = true) {f : Nat} {fn : Func} {body : Code} (hfn : (envAx P L ax).fn.at f = some fn) (hb : fn.body = some body) {v : Value} (hv : plainV 3 v = true) {gk : Nat} {cs : List Value} (hcs : cs.all (plainV 3) = true) (hgk : has G gk = true)
    (hc : ∀ w, GlobsAt w [(gk, cs)] → (∀ g, has G g = true → g < w.heap.size) → Calls P f #[] w fun e w' => e = .returned v ∧ Below w.heap.size w w') : AxOk P G f (axTab gk cs v) := by
  refine ⟨?_, ?_⟩
  · intro args s v' s' h _
    cases args with
    | cons a l => simp [axTab] at h
    | nil =>
      unfold axTab at h
      simp only at h
      split at h
      · simp only [Option.some.injEq, Prod.mk.injEq] at h
        rw [← h.2]
        exact ⟨Nat.le_refl _, rfl, fun f hf => ins_mem hf, fun f hf => hf, fun _ _ _ _ => rfl, fun _ _ => rfl, fun h => h, fun h => h, fun h => h⟩
      · simp at h
  · intro args args' s v' s' w σ V h hl hr hV hF hI hG
    cases args with
    | cons a l => simp [axTab] at h
    | nil =>
      unfold axTab at h
      simp only at h
      split at h
      · rename_i hrow
        simp only [Option.some.injEq, Prod.mk.injEq] at h
        obtain ⟨rfl, rfl⟩ := h
        obtain ⟨args'⟩ := args'
        cases args' with
        | cons a l => exact hl.elim
        | nil =>
          refine ⟨enter_ok hL hfn hb _ _, ?_⟩
          have hVg : V gk := by
            rcases @ins_self s.lim s.rd gk with hk | hk
            · exact hV gk (.inl hk)
            · exact hV gk (.inr (.inr hk))
          have hlt : ∀ g, has G g = true → g < w.heap.size := fun g hg => by
            obtain ⟨z, hz⟩ := hG g hg
            exact hr.lt _ _ _ _ _ hz
          have hga : GlobsAt w [(gk, cs)] := by
            intro p hp
            simp only [List.mem_singleton] at hp
            subst hp
            refine ⟨hlt gk hgk, fun j u hu => ?_⟩
            obtain ⟨z, hz⟩ := hG gk hgk
            obtain ⟨_, _, _, r4⟩ := (hr.fam gk hVg).rows _ (rowOf_mem hrow) _ _ _ hz
            obtain ⟨u', k1, k2⟩ := r4 j u hu
            have hp : plainV 3 u = true := List.all_eq_true.1 hcs u (List.mem_of_getElem? hu)
            rw [plain_eq 3 hp k2] at k1
            rw [Nat.zero_add] at k1
            exact ⟨k1, hp⟩
          refine (hc w hga hlt).mono ?_
          rintro e w' ⟨rfl, b⟩
          have hr' := hr.below b
          exact ⟨σ, _, rfl, plain_refl 3 hv, ⟨hr'.inj, hr'.lt, hr'.fam, hr'.none, hr'.vers⟩, ⟨fun _ _ _ h => h, fun _ _ h k => absurd h k, fun _ _ _ _ _ h k => by rw [h] at k; simp at k, b.size, fun k hk _ => b.block k hk, b.os, b.tape, b.output⟩⟩
      · simp at h
/-- the start of a law: the globals that are known, segments of the arguments' blocks -/
structure Seg where
  b : Nat
  o : Nat
  cs : List Value
/-- the families of the start: number of the block; version: the global's, or N and the segment's place -/
def segRows (N : Nat) (f : Nat) : Nat → List Seg → List (Nat × List Value)
  | _, [] => []
  | j, q :: l => if q.b = f then ((N + j) * 1024, q.cs) :: segRows N f (j + 1) l else segRows N f (j + 1) l
def famS (N : Nat) (K : List (Nat × List Value)) (A : List Seg) (f : Nat) : Fam := ⟨true, (famK K f).rows ++ segRows N f 0 A, none⟩
open Classical in
noncomputable def sgS (N : Nat) (G : List Nat) (K : List (Nat × List Value)) (A : List Seg) : Sg := fun f u =>
  if has G f = true ∧ u = f * 1024 then some (f, 0, (famK K f).rows.head?.elim 0 fun p => p.2.length)
  else if u % 1024 = 0 ∧ N ≤ u / 1024 then (match A[u / 1024 - N]? with
    | some q => if q.b = f then some (f, q.o, q.o + q.cs.length) else none
    | none => none) else none
/-- a segment lies in the world -/
def SegAt (σ : Sg) (w : World) (q : Seg) : Prop := q.b < w.heap.size ∧ (∀ j, j < q.o + q.cs.length → (w.cell? ⟨q.b, j, none⟩).isSome = true) ∧ ∀ (j : Nat) (u : Value), q.cs[j]? = some u → ∃ u', w.cell? ⟨q.b, q.o + j, none⟩ = some u' ∧ VR σ u u'
theorem segRows_mem {N f : Nat} {p : Nat × List Value} : ∀ {A : List Seg} {j : Nat}, p ∈ segRows N f j A → ∃ i q, A[i]? = some q ∧ q.b = f ∧ p = ((N + (j + i)) * 1024, q.cs)
  | [], j, h => by simp [segRows] at h
  | q :: l, j, h => by
    unfold segRows at h
    split at h
    · rename_i hq
      rcases List.mem_cons.1 h with rfl | h
      · exact ⟨0, q, rfl, hq, by rw [Nat.add_zero]⟩
      · obtain ⟨i, q', h1, h2, h3⟩ := segRows_mem h
        exact ⟨i + 1, q', by simpa using h1, h2, by rw [h3]; congr 2; omega⟩
    · obtain ⟨i, q', h1, h2, h3⟩ := segRows_mem h
      exact ⟨i + 1, q', by simpa using h1, h2, by rw [h3]; congr 2; omega⟩
theorem start_rel {N : Nat} {K : List (Nat × List Value)} {A : List Seg} {w : World} (hN : N = w.heap.size) (hK : ∀ p, p ∈ K → has G p.1 = true) (hw : GlobsAt w K) (hwG : ∀ g, has G g = true → g < w.heap.size) (hA : ∀ q, q ∈ A → SegAt (sgS N G K A) w q) :
    Rel (sgS N G K A) (fun _ => True) (St (N + A.length) (famS N K A) 0 [] []) w ∧ CInv (St (N + A.length) (famS N K A) 0 [] []) ∧ GlobOk G (sgS N G K A) ∧ (∀ f u p, sgS N G K A f u = some p → f < N + A.length ∧ u / 1024 < N + A.length ∧ (objAt (St (N + A.length) (famS N K A) 0 [] []).obj f).ro = true) := by
  have hσ : ∀ f u b o z, sgS N G K A f u = some (b, o, z) → b = f ∧ ((has G f = true ∧ u = f * 1024 ∧ o = 0 ∧ z = (famK K f).rows.head?.elim 0 fun p => p.2.length) ∨ (∃ i q, A[i]? = some q ∧ q.b = f ∧ u = (N + i) * 1024 ∧ o = q.o ∧ z = q.o + q.cs.length)) := by
    intro f u b o z h
    unfold sgS at h
    split at h
    · rename_i hc
      simp only [Option.some.injEq, Prod.mk.injEq] at h
      exact ⟨h.1.symm, .inl ⟨hc.1, hc.2, h.2.1.symm, h.2.2.symm⟩⟩
    · split at h
      · rename_i hc
        split at h
        · rename_i q hq
          split at h
          · rename_i hb
            simp only [Option.some.injEq, Prod.mk.injEq] at h
            refine ⟨h.1.symm, .inr ⟨_, q, hq, hb, by omega, h.2.1.symm, h.2.2.symm⟩⟩
          · simp at h
        · simp at h
      · simp at h
  have hlt : ∀ f u b o z, sgS N G K A f u = some (b, o, z) → b < w.heap.size ∧ f < N + A.length ∧ u / 1024 < N + A.length := by
    intro f u b o z h
    obtain ⟨rfl, ⟨h1, h2, _⟩ | ⟨i, q, h1, h2, h3, _⟩⟩ := hσ _ _ _ _ _ h
    · have := hwG _ h1; omega
    · have hm := List.mem_of_getElem? h1
      have hi : i < A.length := (List.getElem?_eq_some_iff.1 h1).1
      have := (hA q hm).1
      omega
  have hrows : ∀ f p, p ∈ (famS N K A f).rows → ((p.1 = f * 1024 ∧ (f, p.2) ∈ K ∧ (famK K f).rows = [p]) ∨ ∃ i q, A[i]? = some q ∧ q.b = f ∧ p = ((N + i) * 1024, q.cs)) := by
    intro f p hp
    rcases List.mem_append.1 hp with hp | hp
    · exact .inl (famK_rows hp)
    · obtain ⟨i, q, h1, h2, h3⟩ := segRows_mem hp
      exact .inr ⟨i, q, h1, h2, by rw [h3, Nat.zero_add]⟩
  have hnone : ∀ f, N + A.length ≤ f → famS N K A f = famNone := by
    intro f hf
    have : (famS N K A f).rows = [] := by
      rw [List.eq_nil_iff_forall_not_mem]
      intro p hp
      rcases hrows f p hp with ⟨_, h2, _⟩ | ⟨i, q, h1, h2, _⟩
      · have := hwG _ (hK _ h2); simp only at this; omega
      · have := (hA q (List.mem_of_getElem? h1)).1; omega
    unfold famS at this ⊢
    simp only at this
    rw [this]; rfl
  have hvers : ∀ f p, p ∈ (famS N K A f).rows → p.1 / 1024 < N + A.length := by
    intro f p hp
    rcases hrows f p hp with ⟨h1, h2, _⟩ | ⟨i, q, h1, h2, rfl⟩
    · have := hwG _ (hK _ h2); simp only at this; omega
    · have hi : i < A.length := (List.getElem?_eq_some_iff.1 h1).1
      simp only; omega
  refine ⟨⟨?_, fun f u b o z h => (hlt f u b o z h).1, ?_, fun f hf => hnone f hf, fun f p hp => hvers f p hp⟩, ⟨fun f hf => hnone f hf, fun f p hp => hvers f p hp, Nat.zero_le _⟩, ?_, fun f u p h => ⟨(hlt f u _ _ _ h).2.1, (hlt f u _ _ _ h).2.2, rfl⟩⟩
  · intro f u b o z f' u' o' z' h1 h2
    have a1 := (hσ _ _ _ _ _ h1).1
    have a2 := (hσ _ _ _ _ _ h2).1
    omega
  · intro f _
    refine ⟨fun p hp b o z h => ?_, fun hro => by simp [objAt, famS] at hro, fun es he => by simp [objAt, famS] at he⟩
    obtain ⟨rfl, hs⟩ := hσ _ _ _ _ _ h
    rcases hrows b p hp with ⟨h1, h2, h3⟩ | ⟨i, q, h1, h2, rfl⟩
    · rcases hs with ⟨g1, g2, rfl, rfl⟩ | ⟨i, q, g1, g2, g3, _⟩
      · rw [h3]
        simp only [List.head?_cons, Option.elim]
        refine ⟨by omega, fun j hj => ?_, fun hro => by simp [objAt, famS] at hro, fun j u hu => ?_⟩
        · obtain ⟨k1, _⟩ := (hw _ h2).2 j _ (List.getElem?_eq_getElem hj)
          rw [k1]; rfl
        · obtain ⟨k1, k2⟩ := (hw _ h2).2 j u hu
          rw [Nat.zero_add]
          exact ⟨u, k1, plain_refl 3 k2⟩
      · have := hwG _ (hK _ h2); simp only at this; omega
    · rcases hs with ⟨g1, g2, _, _⟩ | ⟨i', q', g1, g2, g3, rfl, rfl⟩
      · simp only at g2
        have := hwG _ g1
        omega
      · simp only at g3
        have : i' = i := by omega
        subst this
        rw [h1] at g1
        cases g1
        obtain ⟨a1, a2, a3⟩ := hA q (List.mem_of_getElem? h1)
        subst h2
        exact ⟨Nat.le_refl _, a2, fun hro => by simp [objAt, famS] at hro, a3⟩
  · intro g hg
    exact ⟨_, if_pos ⟨hg, rfl⟩⟩
end
end Go.Proofs.YtcmfoipnoejmlaaDoor
