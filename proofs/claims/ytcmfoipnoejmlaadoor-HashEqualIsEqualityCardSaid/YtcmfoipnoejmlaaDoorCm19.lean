/- The plain machine, nineteenth part: one more operation of a region, in whatever order. No program in sight. -/
import Derived.Test.YtcmfoipnoejmlaaDoorCm18
namespace Go.Proofs.YtcmfoipnoejmlaaDoor
open Go Go.RowKit
section
variable {P : Program} {Γ : Env} {call : CallC} {G : List Nat} {l : List Oper} {logs : List Lg} {F : Nat → Fr} {S T : Nat → CS} {V : Nat → Prop} {σ0 σ : Sg} {w0 w : World} {a0 a : Act} {E : Array Bool}

theorem FamAt.ofNone {f : Nat} : FamAt σ w f famNone := ⟨fun p hp => by simp [famNone] at hp, fun _ => trivial, fun es he => by simp [famNone] at he⟩
theorem on_set {E : Array Bool} {i j : Nat} (hi : i < E.size) : On (E.setIfInBounds i true) j ↔ j = i ∨ On E j := by
  unfold On
  by_cases h : i = j
  · subst h
    simp [hi]
  · rw [getD_set_ne false h]
    constructor
    · exact .inr
    · rintro (k | k)
      · exact absurd k.symm h
      · exact k
/-- what stands before i and touches it has been done -/
theorem before_on (c : Calm P Γ G call l logs F S T) (d : DInv V l F S T σ0 w0 a0 E σ a w) {i k : Nat} {o : Oper} (ho : l[i]? = some o) (hp : ∀ e, e ∈ o.after.toList → Region.binds .any e = true → On E e.on) (hb : Nat.testBit (nth 0 (masks l []) i) k = true) : On E k :=
  mask_forced (ops := l) (E := On E) (fun j o' ho' hj => d.down j o' hj ho') i o ho hp k hb
theorem after_off (c : Calm P Γ G call l logs F S T) (d : DInv V l F S T σ0 w0 a0 E σ a w) {i k : Nat} {ok : Oper} (hk : l[k]? = some ok) (hon : On E k) (hb : Nat.testBit (nth 0 (masks l []) k) i = true) : On E i :=
  mask_forced (ops := l) (E := On E) (fun j o' ho' hj => d.down j o' hj ho') k ok hk (d.down k ok hon hk) i hb
/-- a slot that operation i looks at holds what it held in the order of the text -/
theorem slot_seen (c : Calm P Γ G call l logs F S T) (h5 : (F 0).nt ≤ 512) (d : DInv V l F S T σ0 w0 a0 E σ a w) {i : Nat} {o : Oper} (ho : l[i]? = some o) (hoff : ¬ On E i) (hp : ∀ e, e ∈ o.after.toList → Region.binds .any e = true → On E e.on)
    {t : Nat} (ht : t ∈ namesOf l o) : VR σ ((F i).get t) (a.tmps.getD t undef) := by
  have hi := (List.getElem?_eq_some_iff.1 ho).1
  have hlow : ∀ (k : Nat) (x : Oper), k < i → l[k]? = some x → x.dst = some t → On E k := by
    intro k x hk hx hd
    rcases c.touch k i x o hk hx ho with hb | hb
    · exact before_on c d ho hp hb
    · exact absurd ht (touchy_dst hb hd).1
  have hhigh : ∀ (k : Nat) (x : Oper), On E k → l[k]? = some x → x.dst = some t → k < i := by
    intro k x hon hx hd
    rcases Nat.lt_trichotomy k i with h | h | h
    · exact h
    · subst h; exact absurd hon hoff
    · exfalso
      rcases c.touch i k o x h ho hx with hb | hb
      · exact hoff (after_off c d hx hon hb)
      · exact (touchy_names hb hd) ht
  rcases max_of (fun k => ∃ x, l[k]? = some x ∧ x.dst = some t) i with hnone | ⟨m, hm, ⟨x, hx, hd⟩, hmax⟩
  · rw [c.slot_keep h5 (Nat.zero_le i) (by omega) (fun k ok _ hk hok hd => hnone k hk ⟨ok, hok, hd⟩)]
    refine d.slots0 t fun k ok hon hok hd => ?_
    exact hnone k (hhigh k ok hon hok hd) ⟨ok, hok, hd⟩
  · rw [c.slot_keep h5 (show m + 1 ≤ i by omega) (by omega) (fun k ok hk1 hk2 hok hd2 => by
      have := hmax k hk2 ⟨ok, hok, hd2⟩
      omega)]
    refine d.slots t m x (hlow m x hm hx hd) hx hd fun j oj hon hoj hdj => ?_
    exact hmax j (hhigh j oj hon hoj hdj) ⟨oj, hoj, hdj⟩
/-- a family that operation i touches is as it was in the order of the text -/
theorem fam_seen (c : Calm P Γ G call l logs F S T) (d : DInv V l F S T σ0 w0 a0 E σ a w) {i : Nat} {o : Oper} (ho : l[i]? = some o) (hoff : ¬ On E i) (hp : ∀ e, e ∈ o.after.toList → Region.binds .any e = true → On E e.on)
    {f : Nat} (hf : f ∈ (T i).rd ∨ f ∈ (T i).wr) (hlt : f < (S i).n) : (∀ k, k < i → Sets S T k f → On E k) ∧ (∀ k, k < l.length → On E k → Sets S T k f → k < i) := by
  have hi := (List.getElem?_eq_some_iff.1 ho).1
  constructor
  · intro k hk hs
    rcases c.clash k i hk hi with hb | ⟨h1, h2, h3⟩
    · exact before_on c d ho hp hb
    · exfalso
      rcases hs with hs | hs
      · rcases hf with hf | hf
        · exact (h1 f hs).1 hf
        · exact (h1 f hs).2 hf
      · rw [c.n_next (by omega)] at hs
        exact h3 f hf hs
  · intro k hkl hon hs
    rcases Nat.lt_trichotomy k i with h | h | h
    · exact h
    · subst h; exact absurd hon hoff
    · exfalso
      have hk : l[k]? = some l[k] := List.getElem?_eq_getElem hkl
      rcases c.clash i k h hkl with hb | ⟨h1, h2, h3⟩
      · exact hoff (after_off c d hk hon hb)
      · rcases hs with hs | hs
        · rcases hf with hf | hf
          · exact h2 f hf hs
          · exact (h1 f hf).2 hs
        · have := c.n_mono (show i ≤ k by omega) (by omega)
          omega
theorem fam_at (c : Calm P Γ G call l logs F S T) (d : DInv V l F S T σ0 w0 a0 E σ a w) {i : Nat} {o : Oper} (ho : l[i]? = some o) (hoff : ¬ On E i) (hp : ∀ e, e ∈ o.after.toList → Region.binds .any e = true → On E e.on)
    {f : Nat} (hV : V f) (hf : f ∈ (T i).rd ∨ f ∈ (T i).wr) (hlt : f < (S i).n) : FamAt σ w f (objAt (S i).obj f) := by
  have hi := (List.getElem?_eq_some_iff.1 ho).1
  obtain ⟨h1, h2⟩ := fam_seen c d ho hoff hp hf hlt
  rcases max_of (fun k => Sets S T k f) i with hnone | ⟨m, hm, hs, hmax⟩
  · rw [c.obj_keep (Nat.zero_le i) (by omega) (fun k _ hk => hnone k hk)]
    exact d.fam0 f hV fun k hk hon hs => hnone k (h2 k hk hon hs) hs
  · rw [c.obj_keep (show m + 1 ≤ i by omega) (by omega) (fun k hk1 hk2 hs2 => by have := hmax k hk2 hs2; omega)]
    exact d.fam f m hV (by omega) (h1 m hm hs) hs fun j hj hon hs2 => hmax j (h2 j hj hon hs2) hs2
/-- the memory, as operation i finds it -/
def Vi (V : Nat → Prop) (S T : Nat → CS) (i : Nat) : Nat → Prop := fun f => V f ∧ (f ∈ (T i).rd ∨ f ∈ (T i).wr ∨ (S i).n ≤ f)
theorem rel_seen (c : Calm P Γ G call l logs F S T) (d : DInv V l F S T σ0 w0 a0 E σ a w) {i : Nat} {o : Oper} (ho : l[i]? = some o) (hoff : ¬ On E i) (hp : ∀ e, e ∈ o.after.toList → Region.binds .any e = true → On E e.on) :
    Rel σ (Vi V S T i) (S i).inner w := by
  have hi := (List.getElem?_eq_some_iff.1 ho).1
  have hI := c.inv i (by omega)
  refine ⟨d.inj, d.lt, ?_, hI.none, hI.vers⟩
  intro f hf
  show FamAt σ w f (objAt (S i).obj f)
  by_cases hlt : f < (S i).n
  · refine fam_at c d ho hoff hp hf.1 ?_ hlt
    rcases hf.2 with h | h | h
    · exact .inl h
    · exact .inr h
    · omega
  · rw [hI.none f (by omega)]
    exact FamAt.ofNone
theorem fresh_seen (c : Calm P Γ G call l logs F S T) (hF : Fresh σ0 (S 0).n (S l.length).n) (d : DInv V l F S T σ0 w0 a0 E σ a w) {i : Nat} (hi : i < l.length) (hoff : ¬ On E i) : Fresh σ (S i).n (T i).n := by
  rw [← c.n_next hi]
  intro f u hf
  have h0 := c.n_mono (Nat.zero_le i) (by omega)
  have h1 := c.n_mono (show i + 1 ≤ l.length by omega) (Nat.le_refl _)
  cases hs : σ f u with
  | none => rfl
  | some p =>
    exfalso
    have hn : σ0 f u = none := hF f u (by omega)
    obtain ⟨k, hk, hon, h2, h3, h4, h5⟩ := d.new f u hn (by rw [hs]; simp)
    have hkk : l[k]? = some l[k] := List.getElem?_eq_getElem hk
    rcases Nat.lt_trichotomy k i with h | h | h
    · have := c.n_mono (show k + 1 ≤ i by omega) (by omega); omega
    · subst h; exact hoff hon
    · have := c.n_mono (show i + 1 ≤ k by omega) (by omega)
      rcases hf with hf | hf
      · rcases c.clash i k h hk with hb | ⟨q1, q2, q3⟩
        · exact hoff (after_off c d hkk hon hb)
        · rw [← c.n_next hi] at q3
          rcases h5 with h5 | h5
          · omega
          · exact q3 f h5 hf
      · omega
set_option maxHeartbeats 1000000 in
/-- one operation more has been done -/
theorem dinv_step (c : Calm P Γ G call l logs F S T) (h5 : (F 0).nt ≤ 512) (hF : Fresh σ0 (S 0).n (S l.length).n) (hw0 : ∀ i, i < l.length → ∀ f, f ∈ (T i).wr → f < (S i).n) (d : DInv V l F S T σ0 w0 a0 E σ a w)
    {i : Nat} {o : Oper} (ho : l[i]? = some o) (hoff : ¬ On E i) (hp : ∀ e, e ∈ o.after.toList → Region.binds .any e = true → On E e.on)
    {σ' : Sg} {w' : World} {v v' : Value} (hput : F (i + 1) = putC (F i) o.dst v) (hv : VR σ' v v') (hr' : Rel σ' (Vi V S T i) (T i) w') (he' : Ext σ (Vi V S T i) (S i).inner w σ' (T i) w') :
    DInv V l F S T σ0 w0 a0 (E.setIfInBounds i true) σ' (a.put o.dst v') w' := by
  have hi := (List.getElem?_eq_some_iff.1 ho).1
  have hiE : i < E.size := by rw [d.size]; exact hi
  have hI := c.inv i (by omega)
  have hI0 := c.inv 0 (by omega)
  have hS0i := c.n_mono (Nat.zero_le i) (by omega)
  have hSiN := c.n_mono (show i + 1 ≤ l.length by omega) (Nat.le_refl _)
  have hTn := c.n_next hi
  have hobj := c.obj_next hi
  have hcan0 := c.cans (Nat.zero_le i) (by omega)
  have hro : ∀ f u p, σ0 f u = some p → (objAt (S i).obj f).ro = (objAt (S 0).obj f).ro := by
    intro f u p hs
    by_cases hlt : f < (S 0).n
    · exact hcan0.ro f hlt
    · by_cases h2 : f < (S l.length).n
      · rw [hF f u (.inl ⟨by omega, h2⟩)] at hs; simp at hs
      · rw [hI0.none f (by omega), hI.none f (by have := c.n_mono (show i ≤ l.length by omega) (Nat.le_refl _); omega)]
  have hon : ∀ j, On (E.setIfInBounds i true) j ↔ j = i ∨ On E j := fun j => on_set hiE
  -- setters of a family that operation i sets stand before it
  have hset : ∀ f, Sets S T i f → ∀ j, j < l.length → On E j → Sets S T j f → j ≤ i := by
    intro f hs j hj honj hsj
    rcases Nat.lt_trichotomy j i with h | h | h
    · omega
    · omega
    · exfalso
      have hjj : l[j]? = some l[j] := List.getElem?_eq_getElem hj
      have hij := c.n_mono (show i + 1 ≤ j by omega) (by omega)
      rcases c.clash i j h hj with hb | ⟨q1, q2, q3⟩
      · exact hoff (after_off c d hjj honj hb)
      · rw [← hTn] at q3
        rcases hs with hs | hs
        · rcases hsj with hsj | hsj
          · exact (q1 f hs).2 hsj
          · have := hw0 i hi f hs
            have := c.n_mono (show i ≤ j by omega) (by omega)
            omega
        · rcases hsj with hsj | hsj
          · exact q3 f (.inr hsj) hs
          · omega
  -- a family that operation i does not set
  have hunset : ∀ f x, V f → ¬ Sets S T i f → FamAt σ w f x → (f ∈ (T i).rd ∨ f ∈ (T i).wr → f < (S i).n → x = objAt (S i).obj f) → FamAt σ' w' f x := by
    intro f x hVf hns hx hsame
    by_cases ht : (f ∈ (T i).rd ∨ f ∈ (T i).wr) ∧ f < (S i).n
    · have hVi : Vi V S T i f := ⟨hVf, ht.1.elim (fun h => .inl h) (fun h => .inr (.inl h))⟩
      have := hr'.fam f hVi
      rw [← hobj, c.obj_same hi hns, ← hsame ht.1 ht.2] at this
      exact this
    · refine hx.move he'.le ?_ ?_
      · intro u _
        cases h1 : σ f u with
        | some p => exact he'.le f u p h1
        | none =>
          cases h2 : σ' f u with
          | none => rfl
          | some p =>
            exfalso
            obtain ⟨g1, g2, g3, g4⟩ := he'.new f u h1 (by rw [h2]; simp)
            have g3' : f < (T i).n := g3
            have hge : ¬ (S i).n ≤ f := fun k => hns (.inr ⟨k, by rw [hTn]; exact g3'⟩)
            rcases g4 with g4 | g4
            · exact hge g4
            · rcases g4.2 with g | g | g
              · exact ht ⟨.inl g, by omega⟩
              · exact ht ⟨.inr g, by omega⟩
              · exact hge g
      · intro u b oo z hs
        refine he'.frame b (d.lt _ _ _ _ _ hs) ?_
        intro f' u' o' z' hs'
        have hff := d.inj _ _ _ _ _ _ _ _ _ hs' hs
        subst hff
        by_cases hge : (S i).n ≤ f'
        · right
          show (objAt (S i).obj f').ro = true
          rw [hI.none f' hge]; rfl
        · left
          intro hVi
          rcases hVi.2 with g | g | g
          · exact ht ⟨.inl g, by omega⟩
          · exact ht ⟨.inr g, by omega⟩
          · exact hge g
  refine ⟨⟨?_, ?_, ?_, ?_, ?_, d.ext.st.trans he'.st⟩, hr'.inj, hr'.lt, ?_, ?_, ?_, ?_, ?_, ?_, ?_, ?_, ?_⟩
  · exact fun f u p hs => he'.le f u p (d.ext.le f u p hs)
  · intro f u h0 h2
    cases h1 : σ f u with
    | some p => exact d.ext.new f u h0 (by rw [h1]; simp)
    | none =>
      obtain ⟨g1, g2, g3, g4⟩ := he'.new f u h1 h2
      have g1' : (S i).n ≤ u / 1024 := g1
      refine ⟨by omega, by omega, by omega, ?_⟩
      rcases g4 with g4 | g4
      · have g4' : (S i).n ≤ f := g4
        exact .inl (by omega)
      · exact .inr g4.1
  · intro f u b oo z h0 h2 hb
    cases h1 : σ f u with
    | some p =>
      have := he'.le f u p h1
      rw [h2] at this
      cases this
      exact d.ext.old f u b oo z h0 h1 hb
    | none =>
      obtain ⟨u0, o0, z0, hs, hVi, hr0⟩ := he'.old f u b oo z h1 h2 (Nat.lt_of_lt_of_le hb d.ext.size)
      cases h3 : σ0 f u0 with
      | none => exact d.ext.old f u0 b o0 z0 h3 hs hb
      | some p =>
        have := d.ext.le f u0 p h3
        rw [hs] at this
        cases this
        exact ⟨u0, o0, z0, h3, hVi.1, by rw [← hro f u0 _ h3]; exact hr0⟩
  · exact Nat.le_trans d.ext.size he'.size
  · intro b hb hq
    rw [he'.frame b (Nat.lt_of_lt_of_le hb d.ext.size) ?_, d.ext.frame b hb hq]
    intro f u oo z h1
    cases h0 : σ0 f u with
    | some p =>
      have := d.ext.le f u p h0
      rw [h1] at this
      cases this
      rcases hq f u oo z h0 with hv | hr0
      · exact .inl fun k => hv k.1
      · exact .inr (by show (objAt (S i).obj f).ro = true; rw [hro f u _ h0]; exact hr0)
    | none =>
      obtain ⟨u0, o0, z0, hs, hVf, hr0⟩ := d.ext.old f u b oo z h0 h1 hb
      rcases hq f u0 o0 z0 hs with hv | hr2
      · exact absurd hVf hv
      · rw [hr0] at hr2; simp at hr2
  · intro f u h0 h2
    cases h1 : σ f u with
    | some p =>
      obtain ⟨k, hk, honk, rest⟩ := d.new f u h0 (by rw [h1]; simp)
      exact ⟨k, hk, (hon k).2 (.inr honk), rest⟩
    | none =>
      obtain ⟨g1, g2, g3, g4⟩ := he'.new f u h1 h2
      have g1' : (S i).n ≤ u / 1024 := g1
      refine ⟨i, hi, (hon i).2 (.inl rfl), g1', by omega, by omega, ?_⟩
      rcases g4 with g4 | g4
      · exact .inl g4
      · rcases g4.2 with g | g | g
        · exact .inr (.inl g)
        · exact .inr (.inr g)
        · exact .inl g
  · intro t hno
    have hdt : o.dst ≠ some t := hno i o ((hon i).2 (.inl rfl)) ho
    have hsame : (a.put o.dst v').tmps.getD t undef = a.tmps.getD t undef := by
      cases hd : o.dst with
      | none => rfl
      | some q => exact Act.getD_put_other v' (by rintro rfl; exact hdt hd)
    rw [hsame]
    exact (d.slots0 t fun j oj honj hoj => hno j oj ((hon j).2 (.inr honj)) hoj).mono he'.le
  · intro t j oj honj hoj hdj hmax
    rcases (hon j).1 honj with rfl | honj'
    · -- the operation itself
      rw [ho] at hoj
      cases hoj
      have hoper := c.oper _ _ ho
      unfold operOk at hoper
      rw [Bool.and_eq_true, hdj] at hoper
      have hlt : t < (F 0).nt := blt_iff.1 hoper.2
      rw [hput, hdj]
      have e1 : (putC (F j) (some t) v).get t = v := Fr.get_put_same v (by rw [c.nt j (by omega)]; exact hlt) (by rw [c.nt j (by omega)]; exact h5)
      rw [e1, Act.getD_put_same v' (by rw [d.asize]; exact hlt)]
      exact hv
    · -- an earlier one: operation i does not set this slot
      have hdt : o.dst ≠ some t := by
        intro hd
        have hij := hmax i o ((hon i).2 (.inl rfl)) ho hd
        have hne : i ≠ j := by rintro rfl; exact hoff honj'
        rcases c.touch i j o oj (by omega) ho hoj with hb | hb
        · exact hoff (after_off c d hoj honj' hb)
        · exact (touchy_dst hb hd).2 hdj
      have hsame : (a.put o.dst v').tmps.getD t undef = a.tmps.getD t undef := by
        cases hd : o.dst with
        | none => rfl
        | some q => exact Act.getD_put_other v' (by rintro rfl; exact hdt hd)
      rw [hsame]
      exact (d.slots t j oj honj' hoj hdj fun k ok honk hok hdk => hmax k ok ((hon k).2 (.inr honk)) hok hdk).mono he'.le
  · intro f hVf hno
    have hns : ¬ Sets S T i f := hno i hi ((hon i).2 (.inl rfl))
    refine hunset f _ hVf hns (d.fam0 f hVf fun k hk honk => hno k hk ((hon k).2 (.inr honk))) ?_
    intro ht hlt
    obtain ⟨h1, h2⟩ := fam_seen c d ho hoff hp ht hlt
    exact (c.obj_keep (Nat.zero_le i) (by omega) fun k _ hk hs => hno k (by omega) ((hon k).2 (.inr (h1 k hk hs))) hs).symm
  · intro f j hVf hj honj hsj hmax
    by_cases hsi : Sets S T i f
    · have h1 := hmax i hi ((hon i).2 (.inl rfl)) hsi
      have hji : j = i := by
        rcases (hon j).1 honj with h | h
        · exact h
        · have := hset f hsi j hj h hsj; omega
      subst hji
      rw [hobj]
      refine hr'.fam f ⟨hVf, ?_⟩
      rcases hsi with h | h
      · exact .inr (.inl h)
      · exact .inr (.inr h.1)
    · have honj' : On E j := by
        rcases (hon j).1 honj with rfl | h
        · exact absurd hsj hsi
        · exact h
      refine hunset f _ hVf hsi (d.fam f j hVf hj honj' hsj fun k hk honk hsk => hmax k hk ((hon k).2 (.inr honk)) hsk) ?_
      intro ht hlt
      obtain ⟨h1, h2⟩ := fam_seen c d ho hoff hp ht hlt
      have hji := h2 j hj honj' hsj
      exact (c.obj_keep (show j + 1 ≤ i by omega) (by omega) fun k hk1 hk2 hs => by
        have := hmax k (by omega) ((hon k).2 (.inr (h1 k hk2 hs))) hs
        omega).symm
  · rw [Act.put_size]; exact d.asize
  · rw [Act.put_defers']; exact d.defers
  · intro j oj honj hoj e he hb
    rcases (hon j).1 honj with rfl | honj'
    · rw [ho] at hoj
      cases hoj
      exact (hon _).2 (.inr (hp e he hb))
    · exact (hon _).2 (.inr (d.down j oj honj' hoj e he hb))
  · simp [d.size]
end
end Go.Proofs.YtcmfoipnoejmlaaDoor
