/- The plain machine, twentieth part: a region whose order Go leaves open. No program in sight. -/
import Derived.Test.YtcmfoipnoejmlaaDoorCm19
namespace Go.Proofs.YtcmfoipnoejmlaaDoor
open Go Go.RowKit
section
variable {P : Program} {Γ : Env} {call : CallC} {G : List Nat}

theorem countP_lt {α : Type} {p q : α → Bool} : ∀ {l : List α}, (∀ x, x ∈ l → q x = true → p x = true) → (∃ x, x ∈ l ∧ p x = true ∧ q x = false) → l.countP q < l.countP p
  | [], _, h => by obtain ⟨x, hx, _⟩ := h; simp at hx
  | y :: l, h, ⟨x, hx, hp, hq⟩ => by
    have hle : ∀ (l : List α), (∀ x, x ∈ l → q x = true → p x = true) → l.countP q ≤ l.countP p := by
      intro l
      induction l with
      | nil => intro _; simp
      | cons z l ih =>
        intro h
        have h1 := ih fun x hx => h x (by simp [hx])
        have h2 := h z (by simp)
        rw [List.countP_cons, List.countP_cons]
        cases hqz : q z with
        | false => simp; omega
        | true => rw [h2 hqz]; simp; omega
    rw [List.countP_cons, List.countP_cons]
    rcases List.mem_cons.1 hx with rfl | hx
    · rw [hp, hq]
      have := hle l fun z hz => h z (by simp [hz])
      simp; omega
    · have h1 := countP_lt (fun z hz => h z (by simp [hz])) ⟨x, hx, hp, hq⟩
      have h2 := h y (by simp)
      cases hqy : q y with
      | false => simp; omega
      | true => rw [h2 hqy]; simp; omega
def cnt (l : List Oper) (E : Array Bool) : Nat := (List.range l.length).countP fun i => !E.getD i false
theorem cnt_set {l : List Oper} {E : Array Bool} {i : Nat} (hs : E.size = l.length) (hi : i < l.length) (hoff : ¬ On E i) : cnt l (E.setIfInBounds i true) < cnt l E := by
  unfold cnt
  refine countP_lt ?_ ⟨i, by simpa using hi, ?_, ?_⟩
  · intro x _ hx
    by_cases h : i = x
    · subst h
      simp [hs, hi] at hx
    · rw [getD_set_ne false h] at hx
      exact hx
  · unfold On at hoff
    simpa using hoff
  · simp [hs, hi]
/-- the looks hold: the run, as 'Calm' has it -/
theorem calm_of {l : List Oper} {fr fr' : Fr} {s s' : CS} {logs : List Lg} {F : Nat → Fr} {S T : Nat → CS} (hc : CallCan call) (ht : Trace P Γ call l l fr s logs fr' s' F S T) (hI : CInv s) (hoper : l.all (operOk G fr.nt) = true) (htidy : tidy l = true) (hcalm : calm s.n l logs = true) :
    Calm P Γ G call l logs F S T := by
  have hinv : ∀ i, i ≤ l.length → CInv (S i) := by
    intro i
    induction i with
    | zero => intro _; rw [ht.s0]; exact hI
    | succ i ih =>
      intro hi
      obtain ⟨h1, h2, _⟩ := ht.step i _ (List.getElem?_eq_getElem (show i < l.length by omega))
      have h3 := ih (by omega)
      rw [h2]
      exact h3.next (outer_can h3 (stepC_can hc (inner_inv h3) h1))
  have hcan : ∀ i, i < l.length → Can (S i).inner (T i) := fun i hi => stepC_can hc (inner_inv (hinv i (by omega))) (ht.step i _ (List.getElem?_eq_getElem hi)).1
  have hmono : ∀ i j, i ≤ j → j ≤ l.length → (S i).n ≤ (S j).n := by
    intro i j hij
    induction j with
    | zero => intro _; have : i = 0 := by omega
              subst this; exact Nat.le_refl _
    | succ j ih =>
      intro hj
      by_cases h : i = j + 1
      · subst h; exact Nat.le_refl _
      · refine Nat.le_trans (ih (by omega) (by omega)) ?_
        rw [(ht.step j _ (List.getElem?_eq_getElem (show j < l.length by omega))).2.1]
        exact (hcan j (by omega)).n
  unfold tidy at htidy
  rw [Bool.and_eq_true] at htidy
  refine ⟨fun i o ho => ⟨(ht.step i o ho).1, (ht.step i o ho).2.1⟩, hinv, hcan, fun i o ho => ?_, fun i o ho e he hb => ?_, fun i j x y hij hx hy => ?_, fun i j hij hj => ?_⟩
  · rw [ht.f0]; exact List.all_eq_true.1 hoper o (List.mem_of_getElem? ho)
  · have := edges_spec htidy.1 i o ho e he hb; omega
  · exact calmAll_spec htidy.2 i j x y hij (Nat.zero_le _) (by simpa using hx) (by simpa using hy)
  · have hli := (ht.step i _ (List.getElem?_eq_getElem (show i < l.length by omega))).2.2
    have hlj := (ht.step j _ (List.getElem?_eq_getElem hj)).2.2
    unfold calm at hcalm
    rw [cond_eq_ite] at hcalm
    split at hcalm
    · rename_i hq
      right
      have hqi := List.all_eq_true.1 hq _ (List.mem_of_getElem? hli)
      have hqj := List.all_eq_true.1 hq _ (List.mem_of_getElem? hlj)
      simp only [Bool.and_eq_true, List.isEmpty_iff] at hqi hqj
      refine ⟨fun f hf => by rw [hqi.1] at hf; simp at hf, fun f _ hf => by rw [hqj.1] at hf; simp at hf, ?_⟩
      rintro f (hf | hf) hr
      · have := blt_iff.1 (List.all_eq_true.1 hqj.2 f hf)
        have h0 := hmono 0 i (Nat.zero_le _) (by omega)
        rw [ht.s0] at h0
        omega
      · rw [hqj.1] at hf; simp at hf
    · rcases calmAll_spec hcalm i j _ _ hij (Nat.zero_le _) (by simpa using hli) (by simpa using hlj) with h | h
      · exact .inl h
      · exact .inr (clash_false h)
theorem FamAt.world {σ : Sg} {w w' : World} {f : Nat} {x : Fam} (h : FamAt σ w f x) (hw : w'.heap = w.heap) : FamAt σ w' f x :=
  h.move (fun _ _ _ k => k) (fun _ _ => rfl) (fun _ b _ _ _ => by rw [hw])
theorem Rel.world {σ : Sg} {V : Nat → Prop} {s : CS} {w w' : World} (h : Rel σ V s w) (hw : w'.heap = w.heap) : Rel σ V s w' :=
  ⟨h.inj, fun f u b o z k => by rw [hw]; exact h.lt f u b o z k, fun f hf => (h.fam f hf).world hw, h.none, h.vers⟩
set_option maxHeartbeats 1000000 in
theorem draw_wp (hm : P.follows .mixedOrders = true) (hE : EnvOk P Γ) (hC : CallOk P G call) (hc : CallCan call) {σ : Sg} {V : Nat → Prop} {s s' : CS} {w : World} {a : Act} {fr fr' : Fr} {id : Nat} {ops : Array Oper} {logs : List Lg} {Q : Exit → Act → World → Prop}
    (hr : Rel σ V s w) (hV : Covers V s') (hF : Fresh σ s.n s'.n) (hI : CInv s) (hG : GlobOk G σ) (hfr : FrR σ fr a) (hoper : ops.toList.all (operOk G fr.nt) = true) (htidy : tidy ops.toList = true)
    (h : drawC P Γ call ops.toList ops.toList fr s = some (logs, fr', s')) (hcalm : calm s.n ops.toList logs = true)
    (hQ : ∀ σ' a' w', FrR σ' fr' a' → a'.defers = a.defers → Rel σ' V s' w' → Ext σ V s w σ' s' w' → Q .normal a' w') : (Code.region id ops true).wp P Q a w := by
  obtain ⟨F, S, T, ht⟩ := draw_trace h
  have c := calm_of hc ht hI hoper htidy hcalm
  have h5 : (F 0).nt ≤ 512 := by rw [ht.f0]; exact hfr.small
  have hF0 : Fresh σ (S 0).n (S ops.toList.length).n := by rw [ht.s0, ht.sN]; exact hF
  have hwlt : ∀ i, i < ops.toList.length → ∀ f, f ∈ (T i).wr → f < (S i).n := by
    intro i hi f hf
    have := (c.can i hi).wlt (fun g hg => by simp [CS.inner] at hg) f hf
    rw [(c.can i hi).lim] at this
    exact this
  have hlim : ∀ i, i ≤ ops.toList.length → (S i).lim = s.lim := by
    intro i
    induction i with
    | zero => intro _; rw [ht.s0]
    | succ i ih => intro hi; rw [c.next (by omega)]; exact ih (by omega)
  -- what an operation touches is covered
  have hVt : ∀ i, i < ops.toList.length → ∀ f, (f ∈ (T i).rd ∨ f ∈ (T i).wr ∨ (S i).n ≤ f) → V f := by
    intro i hi f hf
    have hcs := c.cans (show i + 1 ≤ ops.toList.length by omega) (Nat.le_refl _)
    refine hV f ?_
    rw [← ht.sN]
    by_cases hl : f < s.lim
    · rcases hf with hf | hf | hf
      · exact .inl (hcs.rd f (by rw [c.next hi]; exact insAll_new hf (by rw [hlim i (by omega)]; exact hl)))
      · exact .inr (.inl (hcs.wr f (by rw [c.next hi]; exact insAll_new hf (by rw [hlim i (by omega)]; exact hl))))
      · have h1 := c.n_mono (Nat.zero_le i) (by omega)
        rw [ht.s0] at h1
        have := hI.lim
        omega
    · exact .inr (.inr (by rw [hlim _ (Nat.le_refl _)]; omega))
  refine wp_region_any hm ?_
  -- the end: all has been done
  have hend : ∀ (E : Array Bool) (σ1 : Sg) (a1 : Act) (w1 : World), DInv V ops.toList F S T σ w a E σ1 a1 w1 → (∀ i, i < ops.toList.length → On E i) → Q .normal a1 w1 := by
    intro E σ1 a1 w1 d hall
    refine hQ σ1 a1 w1 ⟨?_, by rw [← ht.fN, c.nt _ (Nat.le_refl _)]; exact h5, fun t => ?_⟩ d.defers ⟨d.inj, d.lt, fun f hf => ?_, ?_, ?_⟩ ?_
    · rw [d.asize, ← ht.fN, c.nt _ (Nat.le_refl _)]
    · rw [← ht.fN]
      rcases max_of (fun k => ∃ x, ops.toList[k]? = some x ∧ x.dst = some t) ops.toList.length with hnone | ⟨m, hm1, ⟨x, hx, hd⟩, hmax⟩
      · rw [c.slot_keep h5 (Nat.zero_le _) (Nat.le_refl _) (fun k ok _ hk hok hd => hnone k hk ⟨ok, hok, hd⟩)]
        exact d.slots0 t fun i o _ ho hd => hnone i (List.getElem?_eq_some_iff.1 ho).1 ⟨o, ho, hd⟩
      · rw [c.slot_keep h5 (show m + 1 ≤ _ by omega) (Nat.le_refl _) (fun k ok hk1 hk2 hok hd2 => by have := hmax k hk2 ⟨ok, hok, hd2⟩; omega)]
        exact d.slots t m x (hall m hm1) hx hd fun j oj _ hoj hdj => hmax j (List.getElem?_eq_some_iff.1 hoj).1 ⟨oj, hoj, hdj⟩
    · rw [← ht.sN]
      rcases max_of (fun k => Sets S T k f) ops.toList.length with hnone | ⟨m, hm1, hs, hmax⟩
      · rw [c.obj_keep (Nat.zero_le _) (Nat.le_refl _) fun k _ hk => hnone k hk]
        exact d.fam0 f hf fun i hi _ => hnone i hi
      · rw [c.obj_keep (show m + 1 ≤ _ by omega) (Nat.le_refl _) fun k hk1 hk2 hs2 => by have := hmax k hk2 hs2; omega]
        exact d.fam f m hf hm1 (hall m hm1) hs fun j hj _ hsj => hmax j hj hsj
    · rw [← ht.sN]; exact (c.inv _ (Nat.le_refl _)).none
    · rw [← ht.sN]; exact (c.inv _ (Nat.le_refl _)).vers
    · have := d.ext
      rw [ht.s0, ht.sN] at this
      exact this
  have key : ∀ (fuel : Nat) (E : Array Bool) (σ1 : Sg) (a1 : Act) (w1 : World), DInv V ops.toList F S T σ w a E σ1 a1 w1 → cnt ops.toList E ≤ fuel → wpAny P .any ops Q fuel E a1 w1 := by
    intro fuel
    -- where nothing is ready, all has been done
    have hready : ∀ (E : Array Bool) (σ1 : Sg) (a1 : Act) (w1 : World), DInv V ops.toList F S T σ w a E σ1 a1 w1 → Region.ready .any ops E = [] → ∀ i, i < ops.toList.length → On E i := by
      intro E σ1 a1 w1 d hnil i
      induction i using Nat.strongRecOn with
      | _ i ih =>
        intro hi
        refine Classical.byContradiction fun hoff => ?_
        have ho : ops.toList[i]? = some ops.toList[i] := List.getElem?_eq_getElem hi
        have : i ∈ Region.ready .any ops E := by
          rw [mem_ready]
          refine ⟨?_, ops.toList[i], by rw [← Array.getElem?_toList]; exact ho, fun e he hb => ?_⟩
          · unfold On at hoff
            have hsz : i < E.size := by rw [d.size]; exact hi
            simp only [Array.getD_eq_getD_getElem?, Array.getElem?_eq_getElem hsz, Option.getD_some] at hoff ⊢
            simpa using hoff
          · have := c.edge i _ ho e (by simpa using he) hb
            exact ih e.on this (by omega)
        rw [hnil] at this
        simp at this
    induction fuel with
    | zero =>
      intro E σ1 a1 w1 d hcnt
      have hall : ∀ i, i < ops.toList.length → On E i := by
        intro i hi
        refine Classical.byContradiction fun hoff => ?_
        have : 0 < cnt ops.toList E := by
          unfold cnt
          rw [List.countP_pos_iff]
          exact ⟨i, by simpa using hi, by unfold On at hoff; simpa using hoff⟩
        omega
      refine ⟨?_, hend E σ1 a1 w1 d hall⟩
      rw [List.eq_nil_iff_forall_not_mem]
      intro i hi
      obtain ⟨h1, o, ho, _⟩ := mem_ready.1 hi
      have hlt : i < ops.toList.length := by rw [Array.length_toList]; exact (Array.getElem?_eq_some_iff.1 ho).1
      have := hall i hlt
      unfold On at this
      have hsz : i < E.size := by rw [d.size]; exact hlt
      simp only [Array.getD_eq_getD_getElem?, Array.getElem?_eq_getElem hsz, Option.getD_some] at h1 this
      rw [this] at h1
      simp at h1
    | succ fuel ih =>
      intro E σ1 a1 w1 d hcnt
      refine ⟨fun hnil => hend E σ1 a1 w1 d (hready E σ1 a1 w1 d hnil), fun i hi => ?_⟩
      obtain ⟨h1, o, ho, hp⟩ := mem_ready.1 hi
      have ho' : ops.toList[i]? = some o := by rw [Array.getElem?_toList]; exact ho
      have hlt := (List.getElem?_eq_some_iff.1 ho').1
      have hoff : ¬ On E i := by
        unfold On
        have hsz : i < E.size := by rw [d.size]; exact hlt
        simp only [Array.getD_eq_getD_getElem?, Array.getElem?_eq_getElem hsz, Option.getD_some] at h1 ⊢
        rw [h1]; simp
      have hp' : ∀ e, e ∈ o.after.toList → Region.binds .any e = true → On E e.on := fun e he hb => hp e (by simpa using he) hb
      obtain ⟨hstep, hnext⟩ := c.step i o ho'
      have hoperi := c.oper i o ho'
      unfold operOk at hoperi
      rw [Bool.and_eq_true] at hoperi
      have hrel := rel_seen c d ho' hoff hp'
      have hcov : Covers (Vi V S T i) (T i) := by
        intro f hf
        have hf' : f ∈ (T i).rd ∨ f ∈ (T i).wr ∨ (S i).n ≤ f := by
          rcases hf with hf | hf | hf
          · exact .inl hf
          · exact .inr (.inl hf)
          · rw [(c.can i hlt).lim] at hf; exact .inr (.inr hf)
        exact ⟨hVt i hlt f hf', hf'⟩
      have hfresh : Fresh σ1 (S i).inner.n (T i).n := fresh_seen c hF0 d hlt hoff
      have hGi : GlobOk G σ1 := hG.up d.ext.le
      unfold wpOp
      rw [ho]
      simp only
      refine step_wp (fr := F i) hE hC hrel hcov hfresh (inner_inv (c.inv i (by omega))) hGi hoperi.1 ?_ ?_ hstep ?_
      · intro t htm
        refine slot_seen c h5 d ho' hoff hp' ?_
        unfold namesOf
        refine List.mem_append_left _ (List.mem_filterMap.2 ⟨.tmp t, htm, rfl⟩)
      · intro g b dd hg hd
        refine ⟨?_, slot_seen c h5 d ho' hoff hp' ?_⟩
        · unfold dstOf at hd
          cases hog : ops.toList[g]? with
          | none => rw [hog] at hd; simp at hd
          | some og =>
            rw [hog] at hd
            simp only at hd
            have := c.oper g og hog
            unfold operOk at this
            rw [Bool.and_eq_true, hd] at this
            rw [d.asize]
            exact blt_iff.1 this.2
        · unfold namesOf
          refine List.mem_append_right _ ?_
          rw [hg]
          simp only
          rw [hd]
          simp
      · intro σ' v v' w' hput hv hr' he'
        refine ih _ σ' _ w' (dinv_step c h5 hF0 hwlt d ho' hoff hp' hput hv hr' he') ?_
        have := cnt_set d.size hlt hoff
        omega
  refine key ops.size (Array.replicate ops.size false) σ a _ ?_ ?_
  · refine ⟨?_, hr.inj, fun f u b o z k => hr.lt f u b o z k, fun f u h0 h1 => absurd h0 h1, fun t _ => by rw [ht.f0]; exact hfr.val t, ?_, ?_, ?_, by rw [ht.f0]; exact hfr.size.symm, rfl, ?_, by simp⟩
    · refine ⟨fun _ _ _ k => k, fun _ _ k1 k2 => absurd k1 k2, fun _ _ _ _ _ k1 k2 => by rw [k1] at k2; simp at k2, Nat.le_refl _, fun _ _ _ => rfl, ⟨rfl, rfl, rfl⟩⟩
    · intro t i o hon
      unfold On at hon
      simp only [Array.getD_eq_getD_getElem?, Array.getElem?_replicate] at hon
      split at hon <;> simp at hon
    · intro f hf _
      rw [ht.s0]
      exact (hr.fam f hf).world rfl
    · intro f i _ _ hon
      unfold On at hon
      simp only [Array.getD_eq_getD_getElem?, Array.getElem?_replicate] at hon
      split at hon <;> simp at hon
    · intro j o hon
      unfold On at hon
      simp only [Array.getD_eq_getD_getElem?, Array.getElem?_replicate] at hon
      split at hon <;> simp at hon
  · unfold cnt
    refine Nat.le_trans List.countP_le_length ?_
    simp
end
end Go.Proofs.YtcmfoipnoejmlaaDoor
