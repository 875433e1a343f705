/- Arcs with room, what they reach, least cuts, and what flows along a path. No program in sight. -/
import Derived.Test.YtfalnphlgfoflaaQ5
import Derived.Test.YtfalnphlgfoflaaFe
import Derived.Test.YtfalnphlgfoflaaQ2
import Derived.Test.YtfalnphlgfoflaaSE
set_option linter.unusedSimpArgs false
set_option linter.unusedVariables false
set_option linter.unusedSectionVars false
namespace Go.Proofs.Ytfalnphlgfoflaa
open Go Go.RowKit
set_option linter.unusedSimpArgs false
set_option linter.unusedVariables false
def EndOk (n : Net) (a : ArcU) : Prop := 0 ≤ a.link ∧ a.link < (n.links.length : Int) ∧ ((a.back = false ∧ a.frm = (lnk n a.link).frm ∧ a.to = (lnk n a.link).to) ∨ (a.back = true ∧ a.frm = (lnk n a.link).to ∧ a.to = (lnk n a.link).frm))
def ArcOk (n : Net) (f : Failure) (x : List Int) (a : ArcU) : Prop := EndOk n a ∧ UpP n f a.link ∧ ((a.back = false ∧ a.room = (lnk n a.link).cap - x.getD a.link.toNat default ∧ x.getD a.link.toNat default < (lnk n a.link).cap) ∨ (a.back = true ∧ a.room = x.getD a.link.toNat default ∧ 0 < x.getD a.link.toNat default))
inductive Reach (n : Net) (f : Failure) (x : List Int) (s : Int) : Int → Prop
  | refl : Reach n f x s s
  | step {a : ArcU} : Reach n f x s a.frm → ArcOk n f x a → Reach n f x s a.to
def Closed (n : Net) (f : Failure) (x : List Int) (C : Int → Prop) : Prop := ∀ a, ArcOk n f x a → C a.frm → C a.to
theorem reach_sub {n : Net} {f : Failure} {x : List Int} {C : Int → Prop} (h : Closed n f x C) {s v : Int} (hs : C s) (r : Reach n f x s v) : C v := by
  induction r with
  | refl => exact hs
  | step r ha ih => exact h _ ha ih
def inC (cut : List Int) (v : Int) : Int := if v ∈ cut then 1 else 0
theorem lnk_nat (n : Net) (k : Nat) : lnk n (k : Int) = n.links.getD k default := rfl
theorem flow_cut {n : Net} {f : Failure} {a b : Int} {y cut : List Int} (hn : RightNet n) (ha : 0 ≤ a ∧ a < (n.nodes.length : Int)) (hb : 0 ≤ b ∧ b < (n.nodes.length : Int)) (hac : a ∈ cut) (hbc : b ∉ cut) (h : IsFlow n f a b y) : sumN n.links.length (fun k => y.getD k default * (inC cut (n.links.getD k default).frm - inC cut (n.links.getD k default).to)) = exS n.links y a := by
  rw [flow_sum (inC cut) hn ha hb h]
  unfold inC
  rw [if_pos hac, if_neg hbc]; omega
theorem saturated {n : Net} {f : Failure} {a b : Int} {y cut : List Int} (hn : RightNet n) (ha : 0 ≤ a ∧ a < (n.nodes.length : Int)) (hb : 0 ≤ b ∧ b < (n.nodes.length : Int)) (hac : a ∈ cut) (hbc : b ∉ cut) (h : IsFlow n f a b y) (hc : Closed n f y (· ∈ cut)) : capS n f cut n.links.length = exS n.links y a := by
  rw [← flow_cut hn ha hb hac hbc h, capS_sum]
  refine sumN_congr fun k hk => ?_
  obtain ⟨g1, g2, g3⟩ := h.2.2.1 k hk
  unfold capTerm inC
  by_cases c1 : (n.links.getD k default).frm ∈ cut
  · by_cases c2 : (n.links.getD k default).to ∈ cut
    · rw [if_pos c1, if_pos c2, if_neg (show ¬ (UpP n f (k : Int) ∧ (n.links.getD k default).frm ∈ cut ∧ (n.links.getD k default).to ∉ cut) from fun q => q.2.2 c2)]; simp
    · rw [if_pos c1, if_neg c2]
      by_cases u : UpP n f (k : Int)
      · rw [if_pos ⟨u, c1, c2⟩]
        have : ¬ y.getD k default < (n.links.getD k default).cap := fun q => c2 (hc ⟨(k : Int), (n.links.getD k default).frm, (n.links.getD k default).to, (n.links.getD k default).cap - y.getD k default, false, ()⟩ ⟨⟨by simp, by simpa using hk, .inl ⟨rfl, rfl, rfl⟩⟩, u, .inl ⟨rfl, rfl, q⟩⟩ c1)
        omega
      · rw [if_neg (show ¬ (UpP n f (k : Int) ∧ (n.links.getD k default).frm ∈ cut ∧ (n.links.getD k default).to ∉ cut) from fun q => u q.1)]
        have : ¬ 0 < y.getD k default := fun q => u (g3 q)
        omega
  · rw [if_neg c1, if_neg (show ¬ (UpP n f (k : Int) ∧ (n.links.getD k default).frm ∈ cut ∧ (n.links.getD k default).to ∉ cut) from fun q => c1 q.2.1)]
    by_cases c2 : (n.links.getD k default).to ∈ cut
    · rw [if_pos c2]
      have : ¬ 0 < y.getD k default := fun q => c1 (hc ⟨(k : Int), (n.links.getD k default).to, (n.links.getD k default).frm, y.getD k default, true, ()⟩ ⟨⟨by simp, by simpa using hk, .inr ⟨rfl, rfl, rfl⟩⟩, g3 q, .inr ⟨rfl, rfl, q⟩⟩ c2)
      omega
    · rw [if_neg c2]; omega
def augA (amt : Int) (x : List Int) (a : ArcU) : List Int := x.set a.link.toNat (if a.back then x.getD a.link.toNat default - amt else x.getD a.link.toNat default + amt)
def augP (amt : Int) : List ArcU → List Int → List Int
  | [], x => x
  | a :: p, x => augP amt p (augA amt x a)
inductive PathTo (n : Net) (s : Int) : Int → List ArcU → Prop
  | nil : PathTo n s s []
  | cons {a : ArcU} {p : List ArcU} : EndOk n a → PathTo n s a.frm p → PathTo n s a.to (a :: p)
theorem exS_set : ∀ (ls : List Link) (x : List Int) (k : Nat) (y v : Int), k < ls.length → k < x.length → exS ls (x.set k y) v = exS ls x v + contrib v (ls.getD k default) (y - x.getD k default)
  | l :: ls, z :: x, 0, y, v, _, _ => by
    unfold exS contrib
    simp only [List.set_cons_zero, List.zip_cons_cons, List.map_cons, List.sum_cons, List.getD_cons_zero]
    (repeat' split) <;> omega
  | l :: ls, z :: x, k + 1, y, v, h1, h2 => by
    have ih := exS_set ls x k y v (by simpa using h1) (by simpa using h2)
    unfold exS at ih ⊢
    simp only [List.set_cons_succ, List.zip_cons_cons, List.map_cons, List.sum_cons, List.getD_cons_succ]
    rw [ih]; omega
theorem augA_len {amt : Int} {x : List Int} {a : ArcU} : (augA amt x a).length = x.length := by simp [augA]
theorem augP_len {amt : Int} : ∀ {p : List ArcU} {x : List Int}, (augP amt p x).length = x.length
  | [], _ => rfl
  | a :: p, x => by rw [augP, augP_len, augA_len]
theorem augA_ex {n : Net} {amt : Int} {x : List Int} {a : ArcU} (hn : RightNet n) (hx : x.length = n.links.length) (h : EndOk n a) (v : Int) : exS n.links (augA amt x a) v = exS n.links x v + (if a.frm = v then amt else 0) - (if a.to = v then amt else 0) := by
  obtain ⟨h1, h2, h3⟩ := h
  have hap := hn.apart a.link.toNat (by omega)
  unfold augA
  rw [exS_set _ _ _ _ _ (by omega) (by omega)]
  unfold contrib
  unfold lnk at h3
  rcases h3 with ⟨e1, e2, e3⟩ | ⟨e1, e2, e3⟩
  · rw [e1, if_neg (show ¬ (false = true) by simp), e2, e3]
    (repeat' split) <;> omega
  · rw [e1, if_pos (show true = true from rfl), e2, e3]
    (repeat' split) <;> omega
theorem augP_ex {n : Net} {amt : Int} {s : Int} (hn : RightNet n) : ∀ {p : List ArcU} {t : Int} {x : List Int}, PathTo n s t p → x.length = n.links.length → ∀ v, exS n.links (augP amt p x) v = exS n.links x v + (if s = v then amt else 0) - (if t = v then amt else 0)
  | [], _, x, .nil, hx, v => by rw [augP]; omega
  | a :: p, _, x, .cons h1 h2, hx, v => by
    rw [augP, augP_ex hn h2 (by rw [augA_len]; exact hx) v, augA_ex hn hx h1 v]; omega
theorem path_links {n : Net} {s : Int} (hn : RightNet n) : ∀ {p : List ArcU} {t : Int}, PathTo n s t p → (p.map (·.to)).Nodup → s ∉ p.map (·.to) → (p.map (·.link)).Nodup
  | [], _, _, _, _ => List.nodup_nil
  | a :: p, _, .cons h1 h2, hnd, hs => by
    rw [List.map_cons, List.nodup_cons] at hnd ⊢
    rw [List.map_cons, List.mem_cons, not_or] at hs
    refine ⟨fun hm => ?_, path_links hn h2 hnd.2 hs.2⟩
    obtain ⟨b, hb, hl⟩ := List.mem_map.1 hm
    have hbe : ∀ {p : List ArcU} {t : Int}, PathTo n s t p → ∀ b, b ∈ p → EndOk n b := by
      intro p t hp
      induction hp with
      | nil => intro b hb; cases hb
      | cons q1 q2 ih => intro b hb; rcases List.mem_cons.1 hb with rfl | hb; exact q1; exact ih b hb
    have eb := hbe h2 b hb
    have hne : b.to ≠ a.to := fun e => hnd.1 (List.mem_map.2 ⟨b, hb, e⟩)
    have hcross : b.to = a.frm ∧ b.frm = a.to := by
      obtain ⟨_, _, e1⟩ := eb
      obtain ⟨_, _, e2⟩ := h1
      rw [hl] at e1
      rcases e1 with ⟨_, c1, c2⟩ | ⟨_, c1, c2⟩ <;> rcases e2 with ⟨_, d1, d2⟩ | ⟨_, d1, d2⟩
      · exact absurd (c2.trans d2.symm) hne
      · exact ⟨c2.trans d1.symm, c1.trans d2.symm⟩
      · exact ⟨c2.trans d1.symm, c1.trans d2.symm⟩
      · exact absurd (c2.trans d2.symm) hne
    cases p with
    | nil => cases hb
    | cons c q =>
      generalize hfr : a.frm = u at h2
      cases h2 with
      | cons k1 k2 =>
        rw [List.map_cons, List.nodup_cons] at hnd
        have : b = c := by
          rcases List.mem_cons.1 hb with e | e
          · exact e
          · exact absurd (List.mem_map.2 ⟨b, e, hcross.1.trans hfr⟩) hnd.2.1
        subst this
        rw [hcross.2] at k2
        cases q with
        | nil =>
          generalize hto : a.to = u at k2
          cases k2
          exact hs.1 hto.symm
        | cons d q =>
          generalize hto : a.to = u at k2
          cases k2
          exact hnd.1 (by rw [hto]; simp)
def minP (amount : Int) (p : List ArcU) : Int := p.foldl (fun m a => min m a.room) amount
theorem minP_le : ∀ (p : List ArcU) (amount : Int), minP amount p ≤ amount ∧ ∀ a, a ∈ p → minP amount p ≤ a.room
  | [], amount => ⟨Int.le_refl _, fun a ha => by cases ha⟩
  | b :: p, amount => by
    obtain ⟨h1, h2⟩ := minP_le p (min amount b.room)
    have e : minP amount (b :: p) = minP (min amount b.room) p := rfl
    rw [e]
    refine ⟨by omega, fun a ha => ?_⟩
    rcases List.mem_cons.1 ha with rfl | ha
    · omega
    · exact h2 a ha
theorem minP_ge : ∀ (p : List ArcU) (amount : Int), 1 ≤ amount → (∀ a, a ∈ p → 1 ≤ a.room) → 1 ≤ minP amount p
  | [], amount, h, _ => h
  | b :: p, amount, h, hr => by
    have e : minP amount (b :: p) = minP (min amount b.room) p := rfl
    rw [e]
    have := hr b List.mem_cons_self
    exact minP_ge p _ (by omega) fun a ha => hr a (List.mem_cons_of_mem _ ha)
theorem augA_ne {amt : Int} {x : List Int} {a : ArcU} {k : Nat} (h : a.link.toNat ≠ k) : (augA amt x a).getD k default = x.getD k default := getD_set_ne h
theorem augP_out {amt : Int} {k : Nat} : ∀ {p : List ArcU} {x : List Int}, (∀ a, a ∈ p → a.link.toNat ≠ k) → (augP amt p x).getD k default = x.getD k default
  | [], _, _ => rfl
  | a :: p, x, h => by
    rw [augP, augP_out fun b hb => h b (List.mem_cons_of_mem _ hb), augA_ne (h a List.mem_cons_self)]
theorem augP_in {amt : Int} {n : Net} {a : ArcU} : ∀ {p : List ArcU} {x : List Int}, x.length = n.links.length → (∀ a, a ∈ p → EndOk n a) → (p.map (·.link)).Nodup → a ∈ p → (augP amt p x).getD a.link.toNat default = if a.back then x.getD a.link.toNat default - amt else x.getD a.link.toNat default + amt
  | b :: p, x, hx, he, hnd, ha => by
    rw [List.map_cons, List.nodup_cons] at hnd
    have hb := he b List.mem_cons_self
    have hother : ∀ c, c ∈ p → c.link.toNat ≠ b.link.toNat := fun c hc e => by
      have h1 := (he c (List.mem_cons_of_mem _ hc)).1
      have h2 := hb.1
      exact hnd.1 (List.mem_map.2 ⟨c, hc, by omega⟩)
    rcases List.mem_cons.1 ha with rfl | ha
    · rw [augP, augP_out hother]
      unfold augA
      have := hb.2.1
      have := hb.1
      rw [getD_of (by rw [List.length_set]; omega), List.getElem_set_self]
    · rw [augP, augP_in (by rw [augA_len]; exact hx) (fun c hc => he c (List.mem_cons_of_mem _ hc)) hnd.2 ha, augA_ne (fun e => hother a ha e.symm)]
theorem aug_flow {n : Net} {f : Failure} {s t : Int} {x : List Int} {p : List ArcU} {amt : Int} (hn : RightNet n) (hne : s ≠ t) (h : IsFlow n f s t x) (hp : PathTo n s t p) (ha : ∀ a, a ∈ p → ArcOk n f x a) (hnd : (p.map (·.to)).Nodup) (hs : s ∉ p.map (·.to)) (h1 : 1 ≤ amt) (hr : ∀ a, a ∈ p → amt ≤ a.room) : IsFlow n f s t (augP amt p x) ∧ exS n.links (augP amt p x) s = exS n.links x s + amt := by
  obtain ⟨_, hx, hg, h0, hv⟩ := h
  have hl := path_links hn hp hnd hs
  have ex := augP_ex (amt := amt) hn hp hx
  have es : exS n.links (augP amt p x) s = exS n.links x s + amt := by
    rw [ex s, if_pos rfl, if_neg (Ne.symm hne)]; omega
  refine ⟨⟨hne, by rw [augP_len]; exact hx, fun k hk => ?_, by omega, fun v hv1 hv2 hv3 => ?_⟩, es⟩
  · by_cases c : ∃ a, a ∈ p ∧ a.link.toNat = k
    · obtain ⟨a, a1, rfl⟩ := c
      obtain ⟨q1, q2, q3⟩ := ha a a1
      obtain ⟨g1, g2, g3⟩ := hg a.link.toNat hk
      have hra := hr a a1
      have q0 := q1.1
      have e0 : ((a.link.toNat : Nat) : Int) = a.link := by omega
      unfold GoodK
      rw [augP_in hx (fun b hb => (ha b hb).1) hl a1, e0]
      unfold lnk at q3
      rcases q3 with ⟨e1, e2, e3⟩ | ⟨e1, e2, e3⟩
      · rw [e1, if_neg (show ¬ (false = true) by simp)]
        exact ⟨by omega, by omega, fun _ => q2⟩
      · rw [e1, if_pos (show true = true from rfl)]
        exact ⟨by omega, by omega, fun _ => q2⟩
    · have : (augP amt p x).getD k default = x.getD k default := augP_out fun a a1 e => c ⟨a, a1, e⟩
      unfold GoodK
      rw [this]
      exact hg k hk
  · rw [ex, if_neg (fun e => hv2 e.symm), if_neg (fun e => hv3 e.symm), hv v hv1 hv2 hv3]; rfl
end Go.Proofs.Ytfalnphlgfoflaa
namespace Go.Proofs.Ytfalnphlgfoflaa
open Go Go.RowKit
set_option linter.unusedSimpArgs false
set_option linter.unusedVariables false
def Arcs (n : Net) (f : Failure) (x : List Int) (i : Nat) (l : List ArcU) : Prop := (∀ a, a ∈ l → ArcOk n f x a) ∧ (∀ a, ArcOk n f x a → a.link < (i : Int) → ∃ b, b ∈ l ∧ b.frm = a.frm ∧ b.to = a.to) ∧ l.length ≤ 2 * i
def fwd (n : Net) (x : List Int) (i : Nat) : ArcU := ⟨(i : Int), (n.links.getD i default).frm, (n.links.getD i default).to, (n.links.getD i default).cap - x.getD i default, false, ()⟩
def bwd (n : Net) (x : List Int) (i : Nat) : ArcU := ⟨(i : Int), (n.links.getD i default).to, (n.links.getD i default).frm, x.getD i default, true, ()⟩
theorem arc_cases {n : Net} {f : Failure} {x : List Int} {i : Nat} {a : ArcU} (h : ArcOk n f x a) (e : a.link = (i : Int)) : (UpP n f (i : Int) ∧ x.getD i default < (n.links.getD i default).cap ∧ a.frm = (fwd n x i).frm ∧ a.to = (fwd n x i).to) ∨ (UpP n f (i : Int) ∧ 0 < x.getD i default ∧ a.frm = (bwd n x i).frm ∧ a.to = (bwd n x i).to) := by
  obtain ⟨⟨h1, h2, h3⟩, h4, h5⟩ := h
  rw [e] at h3 h4 h5
  rw [lnk_nat] at h3 h5
  rw [Int.toNat_natCast] at h5
  rcases h5 with ⟨c1, c2, c3⟩ | ⟨c1, c2, c3⟩
  · rcases h3 with ⟨d1, d2, d3⟩ | ⟨d1, d2, d3⟩
    · exact .inl ⟨h4, c3, d2, d3⟩
    · rw [c1] at d1; cases d1
  · rcases h3 with ⟨d1, d2, d3⟩ | ⟨d1, d2, d3⟩
    · rw [c1] at d1; cases d1
    · exact .inr ⟨h4, c3, d2, d3⟩
structure BI (n : Net) (f : Failure) (x : List Int) (s : Int) (seen : List Bool) (by_ : List (Option ArcU)) (q : List Int) : Prop where
  ls : seen.length = n.nodes.length
  lb : by_.length = n.nodes.length
  cnt : q.length + seen.count false = n.nodes.length
  inr : ∀ v, v ∈ q → 0 ≤ v ∧ v < (n.nodes.length : Int)
  mem : ∀ v : Nat, v < n.nodes.length → (seen.getD v default = true ↔ (v : Int) ∈ q)
  nodup : q.Nodup
  reach : ∀ v, v ∈ q → Reach n f x s v
  head : 0 < q.length ∧ q.getD 0 default = s
  pre : ∀ j, 0 < j → j < q.length → ∃ a, by_.getD (q.getD j default).toNat default = some a ∧ ArcOk n f x a ∧ a.to = q.getD j default ∧ ∃ i, i < j ∧ q.getD i default = a.frm
theorem getD_app1 {α : Type} {l : List α} {v d : α} {i : Nat} (h : i < l.length) : (l ++ [v]).getD i d = l.getD i d := by
  rw [List.getD_eq_getElem?_getD, List.getD_eq_getElem?_getD, List.getElem?_append_left h]
theorem getD_app2 {α : Type} {l : List α} {v d : α} : (l ++ [v]).getD l.length d = v := by
  rw [List.getD_eq_getElem?_getD, List.getElem?_append_right (Nat.le_refl _), Nat.sub_self]; rfl
theorem getD_set_eq {α : Type} {l : List α} {i : Nat} {v d : α} (h : i < l.length) : (l.set i v).getD i d = v := by
  rw [List.getD_eq_getElem?_getD, List.getElem?_set_self h]; rfl
theorem count_set_true {l : List Bool} {i : Nat} (h : i < l.length) (hf : l.getD i default = false) : (l.set i true).count false + 1 = l.count false := by
  induction l generalizing i with
  | nil => simp at h
  | cons b l ih =>
    cases i with
    | zero =>
      have : b = false := hf
      subst this
      simp
    | succ i =>
      have := ih (i := i) (by simpa using h) hf
      rw [List.set_cons_succ, List.count_cons, List.count_cons]
      omega
theorem getD_mem_int {l : List Int} {i : Nat} (h : i < l.length) : l.getD i default ∈ l := getD_mem h
theorem mem_getD {l : List Int} {v : Int} (h : v ∈ l) : ∃ i, i < l.length ∧ l.getD i default = v := by
  obtain ⟨i, hi, e⟩ := List.getElem_of_mem h
  exact ⟨i, hi, by rw [getD_of hi]; exact e⟩
theorem BI.more {n : Net} {f : Failure} {x : List Int} {s : Int} {seen : List Bool} {by_ : List (Option ArcU)} {q : List Int} (h : BI n f x s seen by_ q) {a : ArcU} (ha : ArcOk n f x a) (hf : a.frm ∈ q) (h0 : 0 ≤ a.to) (h1 : a.to < (n.nodes.length : Int)) (hs : seen.getD a.to.toNat default = false) : BI n f x s (seen.set a.to.toNat true) (by_.set a.to.toNat (some a)) (q ++ [a.to]) := by
  have hlt : a.to.toNat < seen.length := by rw [h.ls]; omega
  have e0 : ((a.to.toNat : Nat) : Int) = a.to := by omega
  have hnq : a.to ∉ q := fun hm => by
    have := (h.mem a.to.toNat (by omega)).2 (by rw [e0]; exact hm)
    rw [hs] at this; cases this
  refine ⟨by rw [List.length_set]; exact h.ls, by rw [List.length_set]; exact h.lb, ?_, fun v hv => ?_, fun v hv => ?_, ?_, fun v hv => ?_, ⟨by rw [List.length_append]; simp, by rw [getD_app1 h.head.1]; exact h.head.2⟩, fun j h2 h3 => ?_⟩
  · have := count_set_true hlt hs
    have := h.cnt
    rw [List.length_append, List.length_singleton]; omega
  · rcases List.mem_append.1 hv with hv | hv
    · exact h.inr v hv
    · rw [List.mem_singleton.1 hv]; exact ⟨h0, h1⟩
  · by_cases c : v = a.to.toNat
    · subst c
      rw [getD_set_eq hlt, e0]
      simp
    · rw [getD_set_ne (fun e => c e.symm), h.mem v hv, List.mem_append, List.mem_singleton]
      constructor
      · exact .inl
      · rintro (hh | hh)
        · exact hh
        · omega
  · rw [List.nodup_append]
    refine ⟨h.nodup, by simp, fun v hv w hw e => ?_⟩
    rw [List.mem_singleton.1 hw] at e
    exact hnq (e ▸ hv)
  · rcases List.mem_append.1 hv with hv | hv
    · exact h.reach v hv
    · rw [List.mem_singleton.1 hv]; exact .step (h.reach _ hf) ha
  · rw [List.length_append, List.length_singleton] at h3
    by_cases c : j < q.length
    · obtain ⟨b, b1, b2, b3, i, b4, b5⟩ := h.pre j h2 c
      have hv := h.inr _ (getD_mem_int c)
      refine ⟨b, ?_, b2, by rw [getD_app1 c]; exact b3, i, b4, by rw [getD_app1 (by omega)]; exact b5⟩
      rw [getD_app1 c, getD_set_ne (fun e => ?_)]
      · exact b1
      · have : q.getD j default = a.to := by omega
        exact hnq (this ▸ getD_mem_int c)
    · have : j = q.length := by omega
      subst this
      obtain ⟨i, i1, i2⟩ := mem_getD hf
      refine ⟨a, ?_, ha, by rw [getD_app2], i, i1, by rw [getD_app1 i1]; exact i2⟩
      rw [getD_app2, getD_set_eq (by rw [h.lb]; omega)]
theorem BI.len {n : Net} {f : Failure} {x : List Int} {s : Int} {seen : List Bool} {by_ : List (Option ArcU)} {q : List Int} (h : BI n f x s seen by_ q) : q.length ≤ n.nodes.length := by have := h.cnt; omega
end Go.Proofs.Ytfalnphlgfoflaa
namespace Go.Proofs.Ytfalnphlgfoflaa
open Go Go.RowKit
set_option linter.unusedSimpArgs false
set_option linter.unusedVariables false
theorem nodup_inj : ∀ {l : List Int}, l.Nodup → ∀ i j, i < l.length → j < l.length → l.getD i default = l.getD j default → i = j
  | x :: l, _, 0, 0, _, _, _ => rfl
  | x :: l, h, 0, j + 1, _, hj, e => by
    rw [List.nodup_cons] at h
    exact absurd (show x ∈ l by rw [show x = l.getD j default from e]; exact getD_mem (by simpa using hj)) h.1
  | x :: l, h, i + 1, 0, hi, _, e => by
    rw [List.nodup_cons] at h
    exact absurd (show x ∈ l by rw [show x = l.getD i default from e.symm]; exact getD_mem (by simpa using hi)) h.1
  | x :: l, h, i + 1, j + 1, hi, hj, e => by
    rw [List.nodup_cons] at h
    rw [nodup_inj h.2 i j (by simpa using hi) (by simpa using hj) e]
inductive CB (by_ : List (Option ArcU)) (s : Int) : Int → List ArcU → Prop
  | nil : CB by_ s s []
  | cons {t : Int} {a : ArcU} {p : List ArcU} : t ≠ s → 0 ≤ t → t < (by_.length : Int) → by_.getD t.toNat default = some a → CB by_ s a.frm p → CB by_ s t (a :: p)
theorem BI.chain {n : Net} {f : Failure} {x : List Int} {s : Int} {seen : List Bool} {by_ : List (Option ArcU)} {q : List Int} (h : BI n f x s seen by_ q) : ∀ j, j < q.length → ∃ p, CB by_ s (q.getD j default) p ∧ PathTo n s (q.getD j default) p ∧ (∀ a, a ∈ p → ArcOk n f x a) ∧ (∀ a, a ∈ p → ∃ i, 0 < i ∧ i ≤ j ∧ q.getD i default = a.to) ∧ (p.map (·.to)).Nodup ∧ p.length ≤ j := by
  intro j
  induction j using Nat.strongRecOn with
  | _ j ih =>
    intro hj
    by_cases c : j = 0
    · subst c
      rw [h.head.2]
      exact ⟨[], .nil, .nil, fun a ha => (by cases ha), fun a ha => (by cases ha), List.nodup_nil, by simp⟩
    · obtain ⟨a, a1, a2, a3, i, i1, i2⟩ := h.pre j (by omega) hj
      obtain ⟨p, p1, p2, p3, p4, p5, p6⟩ := ih i i1 (by omega)
      rw [i2] at p1 p2
      have hv := h.inr _ (getD_mem_int hj)
      refine ⟨a :: p, .cons (fun e => ?_) hv.1 (by rw [h.lb]; exact hv.2) a1 p1, a3 ▸ .cons a2.1 p2, fun b hb => ?_, fun b hb => ?_, ?_, by simp; omega⟩
      · have := nodup_inj h.nodup j 0 hj h.head.1 (e.trans h.head.2.symm)
        omega
      · rcases List.mem_cons.1 hb with rfl | hb
        · exact a2
        · exact p3 b hb
      · rcases List.mem_cons.1 hb with rfl | hb
        · exact ⟨j, by omega, Nat.le_refl _, a3.symm⟩
        · obtain ⟨i', z1, z2, z3⟩ := p4 b hb
          exact ⟨i', z1, by omega, z3⟩
      · rw [List.map_cons, List.nodup_cons]
        refine ⟨fun hm => ?_, p5⟩
        obtain ⟨b, b1, b2⟩ := List.mem_map.1 hm
        obtain ⟨i', z1, z2, z3⟩ := p4 b b1
        have := nodup_inj h.nodup i' j (by omega) hj (by rw [z3, ← a3]; exact b2)
        omega
theorem gx_of {α : Type} [Inhabited α] (l : List α) (i : Int) : gx l i = l.getD i.toNat default := rfl
theorem push_L0 {k : Nat} {by_ : List (Option ArcU)} {s : Int} : ∀ {p : List ArcU} {t : Int}, CB by_ s t p → ∀ (m : Nat) (amount : Int), p.length < m → sflow_pushU_b_L0 k by_ s m amount t = some (minP amount p)
  | [], _, .nil, 0, _, h => by simp at h
  | [], _, .nil, m + 1, amount, _ => by rw [sflow_pushU_b_L0, if_neg (by simp)]; rfl
  | a :: p, t, .cons _ _ _ _ _, 0, _, h => by simp at h
  | a :: p, t, .cons h1 h2 h3 h4 h5, m + 1, amount, h => by
    rw [sflow_pushU_b_L0, if_pos h1, if_pos ⟨h2, h3⟩, gx_of, h4, if_pos (show (some a).isSome = true from rfl)]
    exact push_L0 h5 m _ (by simpa using h)
theorem push_L1 {k : Nat} {n : Net} {by_ : List (Option ArcU)} {s amt : Int} {x : List Int} (h0 : 0 ≤ amt ∧ amt ≤ 8589934592) : ∀ {p : List ArcU} {t : Int}, CB by_ s t p → (∀ a, a ∈ p → EndOk n a ∧ 0 ≤ x.getD a.link.toNat default ∧ x.getD a.link.toNat default ≤ 8589934592) → (p.map (·.link)).Nodup → ∀ (m : Nat) (y : List Int), p.length < m → y.length = n.links.length → (∀ a, a ∈ p → y.getD a.link.toNat default = x.getD a.link.toNat default) → sflow_pushU_b_L1 k n.links.length by_ s amt m t y = some (augP amt p y)
  | [], _, .nil, _, _, 0, _, h, _, _ => by simp at h
  | [], _, .nil, _, _, m + 1, y, _, _, _ => by rw [sflow_pushU_b_L1, if_neg (by simp)]; rfl
  | a :: p, t, .cons _ _ _ _ _, _, _, 0, _, h, _, _ => by simp at h
  | a :: p, t, .cons h1 h2 h3 h4 h5, he, hnd, m + 1, y, h, hy, hxy => by
    rw [List.map_cons, List.nodup_cons] at hnd
    obtain ⟨e1, e2, e3⟩ := he a List.mem_cons_self
    have ey := hxy a List.mem_cons_self
    obtain ⟨l0, l1, _⟩ := id e1
    have hrest : ∀ y', y' = augA amt y a → sflow_pushU_b_L1 k n.links.length by_ s amt m a.frm y' = some (augP amt (a :: p) y) := fun y' hy' => by
      subst hy'
      refine push_L1 (x := x) h0 h5 (fun b hb => he b (List.mem_cons_of_mem _ hb)) hnd.2 m _ (by simpa using h) (by rw [augA_len]; exact hy) fun b hb => ?_
      rw [augA_ne (fun e => ?_)]
      · exact hxy b (List.mem_cons_of_mem _ hb)
      · have := (he b (List.mem_cons_of_mem _ hb)).1.1
        exact hnd.1 (List.mem_map.2 ⟨b, hb, by omega⟩)
    rw [sflow_pushU_b_L1, if_pos h1, if_pos ⟨h2, h3⟩, gx_of, h4, if_pos (show (some a).isSome = true from rfl)]
    rw [Option.getD_some]
    cases hb : a.back with
    | true =>
      rw [if_pos rfl]
      rw [if_pos ⟨l0, l1⟩, if_pos (show a.link.toNat < y.length by omega)]
      refine hrest _ ?_
      show y.set a.link.toNat (IntKind.i64.wrap (y.getD a.link.toNat default - amt)) = _
      rw [wr64 (by omega)]
      unfold augA
      rw [hb, if_pos rfl]
    | false =>
      rw [if_neg (by simp)]
      rw [if_pos ⟨l0, l1⟩, if_pos (show a.link.toNat < y.length by omega)]
      refine hrest _ ?_
      show y.set a.link.toNat (IntKind.i64.wrap (y.getD a.link.toNat default + amt)) = _
      rw [wr64 (by omega)]
      unfold augA
      rw [hb, if_neg (by simp)]
def cutS (seen : List Bool) : Nat → List Int
  | 0 => []
  | i + 1 => if seen.getD i default = true then cutS seen i ++ [(i : Int)] else cutS seen i
theorem cutS_len (seen : List Bool) : ∀ i, (cutS seen i).length ≤ i
  | 0 => by simp [cutS]
  | i + 1 => by
    have := cutS_len seen i
    unfold cutS
    split
    · rw [List.length_append, List.length_singleton]; omega
    · omega
theorem cutS_mem (seen : List Bool) (v : Int) : ∀ i, v ∈ cutS seen i ↔ ∃ j, j < i ∧ v = (j : Int) ∧ seen.getD j default = true
  | 0 => by simp [cutS]
  | i + 1 => by
    have ih := cutS_mem seen v i
    unfold cutS
    constructor
    · intro h
      split at h
      · rename_i c
        rcases List.mem_append.1 h with h | h
        · obtain ⟨j, a, b⟩ := ih.1 h; exact ⟨j, by omega, b⟩
        · exact ⟨i, by omega, List.mem_singleton.1 h, c⟩
      · obtain ⟨j, a, b⟩ := ih.1 h; exact ⟨j, by omega, b⟩
    · rintro ⟨j, a, b, c⟩
      by_cases e : j = i
      · subst e; rw [if_pos c]; exact List.mem_append_right _ (by rw [b]; simp)
      · have := ih.2 ⟨j, by omega, b, c⟩
        split
        · exact List.mem_append_left _ this
        · exact this
theorem cutS_ok {n : Net} (seen : List Bool) : ∀ i, i ≤ n.nodes.length → CutOk n (cutS seen i)
  | 0, _ => fun k hk => by simp [cutS] at hk
  | i + 1, hi => by
    have ih := cutS_ok (n := n) seen i (by omega)
    unfold cutS
    split
    · intro j hj
      rw [List.length_append, List.length_singleton] at hj
      by_cases c : j < (cutS seen i).length
      · obtain ⟨a, b⟩ := ih j c
        refine ⟨by rw [getD_app1 c]; exact a, fun h => ?_⟩
        rw [getD_app1 c, getD_app1 (by omega)]
        exact b h
      · have : j = (cutS seen i).length := by omega
        subst this
        refine ⟨by rw [getD_app2]; exact ⟨by omega, by omega⟩, fun h => ?_⟩
        rw [getD_app2, getD_app1 (by omega)]
        obtain ⟨w, w1, w2, _⟩ := (cutS_mem seen _ i).1 (getD_mem_int (l := cutS seen i) (i := (cutS seen i).length - 1) (by omega))
        rw [w2]; omega
    · exact ih
def MaxOk (n : Net) (f : Failure) (s t : Int) (x c : List Int) : Prop := IsFlow n f s t x ∧ CutOk n c ∧ c.length ≤ n.nodes.length ∧ (∀ v, v ∈ c ↔ Reach n f x s v) ∧ t ∉ c ∧ ∃ seen : List Bool, c = cutS seen n.nodes.length ∧ ∀ v : Nat, v < n.nodes.length → (seen.getD v default = true ↔ Reach n f x s (v : Int))
theorem val_le {n : Net} {f : Failure} {s t : Int} {x : List Int} (hn : RightNet n) (h : IsFlow n f s t x) : exS n.links x s ≤ 25165824 := by
  have := exS_bound hn h.2.1 s n.links.length (Nat.le_refl _) h.2.2.1
  rw [List.take_of_length_le (Nat.le_refl _), List.take_of_length_le (by have := h.2.1; omega)] at this
  have := hn.links
  omega
theorem exS_zeros : ∀ (ls : List Link) (k : Nat) (v : Int), exS ls (List.replicate k 0) v = 0
  | [], k, v => by simp [exS]
  | l :: ls, 0, v => by simp [exS]
  | l :: ls, k + 1, v => by
    have ih := exS_zeros ls k v
    unfold exS at ih ⊢
    rw [List.replicate_succ, List.zip_cons_cons, List.map_cons, List.sum_cons, ih]
    unfold contrib
    (repeat' split) <;> rfl
theorem zero_flow {n : Net} {f : Failure} {s t : Int} (hn : RightNet n) (hne : s ≠ t) : IsFlow n f s t (List.replicate n.links.length 0) := by
  refine ⟨hne, by simp, fun k hk => ?_, by rw [exS_zeros]; exact Int.le_refl _, fun v _ _ _ => exS_zeros _ _ _⟩
  have := (hn.cap k hk).1
  have e : (List.replicate n.links.length (0 : Int)).getD k default = 0 := by rw [getD_of (by simpa using hk)]; simp
  unfold GoodK
  rw [e]
  exact ⟨by omega, this, fun h => by omega⟩
def Two (n : Net) (s t : Int) : Prop := isNodeP n s ∧ isNodeP n t ∧ s ≠ t
end Go.Proofs.Ytfalnphlgfoflaa
