/- Arcs with room, what they reach, least cuts, and what flows along a path. No program in sight. -/
import Derived.Test.YtfalnphlgfoflaaQ5
import Derived.Test.YtfalnphlgfoflaaFe
namespace Go.Proofs.Ytfalnphlgfoflaa
open Go Go.RowKit
set_option linter.unusedSimpArgs false
set_option linter.unusedVariables false
def EndOk (n : Net) (a : ArcU) : Prop := 0 ≤ a.link ∧ a.link < (n.links.length : Int) ∧ ((a.back = false ∧ a.frm = (lnk n a.link).frm ∧ a.to = (lnk n a.link).to) ∨ (a.back = true ∧ a.frm = (lnk n a.link).to ∧ a.to = (lnk n a.link).frm))
def ArcOk (n : Net) (f : Failure) (x : List Int) (a : ArcU) : Prop := EndOk n a ∧ UpP n f a.link ∧ ((a.back = false ∧ a.room = (lnk n a.link).cap - x.getD a.link.toNat default ∧ x.getD a.link.toNat default < (lnk n a.link).cap) ∨ (a.back = true ∧ a.room = x.getD a.link.toNat default ∧ 0 < x.getD a.link.toNat default))
inductive Reach (n : Net) (f : Failure) (x : List Int) (s : Int) : Int → Prop
  | refl : Reach n f x s s
  | step {a : ArcU} : Reach n f x s a.frm → ArcOk n f x a → Reach n f x s a.to
def Closed (n : Net) (f : Failure) (x : List Int) (C : Int → Prop) : Prop := ∀ a, ArcOk n f x a → C a.frm → C a.to
theorem reach_sub {n : Net} {f : Failure} {x : List Int} {C : Int → Prop} (h : Closed n f x C) {s v : Int} (hs : C s) (r : Reach n f x s v) : C v := by
  induction r with
  | refl => exact hs
  | step r ha ih => exact h _ ha ih
def inC (cut : List Int) (v : Int) : Int := if v ∈ cut then 1 else 0
theorem lnk_nat (n : Net) (k : Nat) : lnk n (k : Int) = n.links.getD k default := rfl
theorem flow_cut {n : Net} {f : Failure} {a b : Int} {y cut : List Int} (hn : RightNet n) (ha : 0 ≤ a ∧ a < (n.nodes.length : Int)) (hb : 0 ≤ b ∧ b < (n.nodes.length : Int)) (hac : a ∈ cut) (hbc : b ∉ cut) (h : IsFlow n f a b y) : sumN n.links.length (fun k => y.getD k default * (inC cut (n.links.getD k default).frm - inC cut (n.links.getD k default).to)) = exS n.links y a := by
  rw [flow_sum (inC cut) hn ha hb h]
  unfold inC
  rw [if_pos hac, if_neg hbc]; omega
theorem saturated {n : Net} {f : Failure} {a b : Int} {y cut : List Int} (hn : RightNet n) (ha : 0 ≤ a ∧ a < (n.nodes.length : Int)) (hb : 0 ≤ b ∧ b < (n.nodes.length : Int)) (hac : a ∈ cut) (hbc : b ∉ cut) (h : IsFlow n f a b y) (hc : Closed n f y (· ∈ cut)) : capS n f cut n.links.length = exS n.links y a := by
  rw [← flow_cut hn ha hb hac hbc h, capS_sum]
  refine sumN_congr fun k hk => ?_
  obtain ⟨g1, g2, g3⟩ := h.2.2.1 k hk
  unfold capTerm inC
  by_cases c1 : (n.links.getD k default).frm ∈ cut
  · by_cases c2 : (n.links.getD k default).to ∈ cut
    · rw [if_pos c1, if_pos c2, if_neg (show ¬ (UpP n f (k : Int) ∧ (n.links.getD k default).frm ∈ cut ∧ (n.links.getD k default).to ∉ cut) from fun q => q.2.2 c2)]; simp
    · rw [if_pos c1, if_neg c2]
      by_cases u : UpP n f (k : Int)
      · rw [if_pos ⟨u, c1, c2⟩]
        have : ¬ y.getD k default < (n.links.getD k default).cap := fun q => c2 (hc ⟨(k : Int), (n.links.getD k default).frm, (n.links.getD k default).to, (n.links.getD k default).cap - y.getD k default, false, ()⟩ ⟨⟨by simp, by simpa using hk, .inl ⟨rfl, rfl, rfl⟩⟩, u, .inl ⟨rfl, rfl, q⟩⟩ c1)
        omega
      · rw [if_neg (show ¬ (UpP n f (k : Int) ∧ (n.links.getD k default).frm ∈ cut ∧ (n.links.getD k default).to ∉ cut) from fun q => u q.1)]
        have : ¬ 0 < y.getD k default := fun q => u (g3 q)
        omega
  · rw [if_neg c1, if_neg (show ¬ (UpP n f (k : Int) ∧ (n.links.getD k default).frm ∈ cut ∧ (n.links.getD k default).to ∉ cut) from fun q => c1 q.2.1)]
    by_cases c2 : (n.links.getD k default).to ∈ cut
    · rw [if_pos c2]
      have : ¬ 0 < y.getD k default := fun q => c1 (hc ⟨(k : Int), (n.links.getD k default).to, (n.links.getD k default).frm, y.getD k default, true, ()⟩ ⟨⟨by simp, by simpa using hk, .inr ⟨rfl, rfl, rfl⟩⟩, g3 q, .inr ⟨rfl, rfl, q⟩⟩ c2)
      omega
    · rw [if_neg c2]; omega
def augA (amt : Int) (x : List Int) (a : ArcU) : List Int := x.set a.link.toNat (if a.back then x.getD a.link.toNat default - amt else x.getD a.link.toNat default + amt)
def augP (amt : Int) : List ArcU → List Int → List Int
  | [], x => x
  | a :: p, x => augP amt p (augA amt x a)
inductive PathTo (n : Net) (s : Int) : Int → List ArcU → Prop
  | nil : PathTo n s s []
  | cons {a : ArcU} {p : List ArcU} : EndOk n a → PathTo n s a.frm p → PathTo n s a.to (a :: p)
theorem exS_set : ∀ (ls : List Link) (x : List Int) (k : Nat) (y v : Int), k < ls.length → k < x.length → exS ls (x.set k y) v = exS ls x v + contrib v (ls.getD k default) (y - x.getD k default)
  | l :: ls, z :: x, 0, y, v, _, _ => by
    unfold exS contrib
    simp only [List.set_cons_zero, List.zip_cons_cons, List.map_cons, List.sum_cons, List.getD_cons_zero]
    (repeat' split) <;> omega
  | l :: ls, z :: x, k + 1, y, v, h1, h2 => by
    have ih := exS_set ls x k y v (by simpa using h1) (by simpa using h2)
    unfold exS at ih ⊢
    simp only [List.set_cons_succ, List.zip_cons_cons, List.map_cons, List.sum_cons, List.getD_cons_succ]
    rw [ih]; omega
theorem augA_len {amt : Int} {x : List Int} {a : ArcU} : (augA amt x a).length = x.length := by simp [augA]
theorem augP_len {amt : Int} : ∀ {p : List ArcU} {x : List Int}, (augP amt p x).length = x.length
  | [], _ => rfl
  | a :: p, x => by rw [augP, augP_len, augA_len]
theorem augA_ex {n : Net} {amt : Int} {x : List Int} {a : ArcU} (hn : RightNet n) (hx : x.length = n.links.length) (h : EndOk n a) (v : Int) : exS n.links (augA amt x a) v = exS n.links x v + (if a.frm = v then amt else 0) - (if a.to = v then amt else 0) := by
  obtain ⟨h1, h2, h3⟩ := h
  have hap := hn.apart a.link.toNat (by omega)
  unfold augA
  rw [exS_set _ _ _ _ _ (by omega) (by omega)]
  unfold contrib
  unfold lnk at h3
  rcases h3 with ⟨e1, e2, e3⟩ | ⟨e1, e2, e3⟩
  · rw [e1, if_neg (show ¬ (false = true) by simp), e2, e3]
    (repeat' split) <;> omega
  · rw [e1, if_pos (show true = true from rfl), e2, e3]
    (repeat' split) <;> omega
theorem augP_ex {n : Net} {amt : Int} {s : Int} (hn : RightNet n) : ∀ {p : List ArcU} {t : Int} {x : List Int}, PathTo n s t p → x.length = n.links.length → ∀ v, exS n.links (augP amt p x) v = exS n.links x v + (if s = v then amt else 0) - (if t = v then amt else 0)
  | [], _, x, .nil, hx, v => by rw [augP]; omega
  | a :: p, _, x, .cons h1 h2, hx, v => by
    rw [augP, augP_ex hn h2 (by rw [augA_len]; exact hx) v, augA_ex hn hx h1 v]; omega
theorem path_links {n : Net} {s : Int} (hn : RightNet n) : ∀ {p : List ArcU} {t : Int}, PathTo n s t p → (p.map (·.to)).Nodup → s ∉ p.map (·.to) → (p.map (·.link)).Nodup
  | [], _, _, _, _ => List.nodup_nil
  | a :: p, _, .cons h1 h2, hnd, hs => by
    rw [List.map_cons, List.nodup_cons] at hnd ⊢
    rw [List.map_cons, List.mem_cons, not_or] at hs
    refine ⟨fun hm => ?_, path_links hn h2 hnd.2 hs.2⟩
    obtain ⟨b, hb, hl⟩ := List.mem_map.1 hm
    have hbe : ∀ {p : List ArcU} {t : Int}, PathTo n s t p → ∀ b, b ∈ p → EndOk n b := by
      intro p t hp
      induction hp with
      | nil => intro b hb; cases hb
      | cons q1 q2 ih => intro b hb; rcases List.mem_cons.1 hb with rfl | hb; exact q1; exact ih b hb
    have eb := hbe h2 b hb
    have hne : b.to ≠ a.to := fun e => hnd.1 (List.mem_map.2 ⟨b, hb, e⟩)
    have hcross : b.to = a.frm ∧ b.frm = a.to := by
      obtain ⟨_, _, e1⟩ := eb
      obtain ⟨_, _, e2⟩ := h1
      rw [hl] at e1
      rcases e1 with ⟨_, c1, c2⟩ | ⟨_, c1, c2⟩ <;> rcases e2 with ⟨_, d1, d2⟩ | ⟨_, d1, d2⟩
      · exact absurd (c2.trans d2.symm) hne
      · exact ⟨c2.trans d1.symm, c1.trans d2.symm⟩
      · exact ⟨c2.trans d1.symm, c1.trans d2.symm⟩
      · exact absurd (c2.trans d2.symm) hne
    cases p with
    | nil => cases hb
    | cons c q =>
      generalize hfr : a.frm = u at h2
      cases h2 with
      | cons k1 k2 =>
        rw [List.map_cons, List.nodup_cons] at hnd
        have : b = c := by
          rcases List.mem_cons.1 hb with e | e
          · exact e
          · exact absurd (List.mem_map.2 ⟨b, e, hcross.1.trans hfr⟩) hnd.2.1
        subst this
        rw [hcross.2] at k2
        cases q with
        | nil =>
          generalize hto : a.to = u at k2
          cases k2
          exact hs.1 hto.symm
        | cons d q =>
          generalize hto : a.to = u at k2
          cases k2
          exact hnd.1 (by rw [hto]; simp)
def minP (amount : Int) (p : List ArcU) : Int := p.foldl (fun m a => min m a.room) amount
theorem minP_le : ∀ (p : List ArcU) (amount : Int), minP amount p ≤ amount ∧ ∀ a, a ∈ p → minP amount p ≤ a.room
  | [], amount => ⟨Int.le_refl _, fun a ha => by cases ha⟩
  | b :: p, amount => by
    obtain ⟨h1, h2⟩ := minP_le p (min amount b.room)
    have e : minP amount (b :: p) = minP (min amount b.room) p := rfl
    rw [e]
    refine ⟨by omega, fun a ha => ?_⟩
    rcases List.mem_cons.1 ha with rfl | ha
    · omega
    · exact h2 a ha
theorem minP_ge : ∀ (p : List ArcU) (amount : Int), 1 ≤ amount → (∀ a, a ∈ p → 1 ≤ a.room) → 1 ≤ minP amount p
  | [], amount, h, _ => h
  | b :: p, amount, h, hr => by
    have e : minP amount (b :: p) = minP (min amount b.room) p := rfl
    rw [e]
    have := hr b List.mem_cons_self
    exact minP_ge p _ (by omega) fun a ha => hr a (List.mem_cons_of_mem _ ha)
theorem augA_ne {amt : Int} {x : List Int} {a : ArcU} {k : Nat} (h : a.link.toNat ≠ k) : (augA amt x a).getD k default = x.getD k default := getD_set_ne h
theorem augP_out {amt : Int} {k : Nat} : ∀ {p : List ArcU} {x : List Int}, (∀ a, a ∈ p → a.link.toNat ≠ k) → (augP amt p x).getD k default = x.getD k default
  | [], _, _ => rfl
  | a :: p, x, h => by
    rw [augP, augP_out fun b hb => h b (List.mem_cons_of_mem _ hb), augA_ne (h a List.mem_cons_self)]
theorem augP_in {amt : Int} {n : Net} {a : ArcU} : ∀ {p : List ArcU} {x : List Int}, x.length = n.links.length → (∀ a, a ∈ p → EndOk n a) → (p.map (·.link)).Nodup → a ∈ p → (augP amt p x).getD a.link.toNat default = if a.back then x.getD a.link.toNat default - amt else x.getD a.link.toNat default + amt
  | b :: p, x, hx, he, hnd, ha => by
    rw [List.map_cons, List.nodup_cons] at hnd
    have hb := he b List.mem_cons_self
    have hother : ∀ c, c ∈ p → c.link.toNat ≠ b.link.toNat := fun c hc e => by
      have h1 := (he c (List.mem_cons_of_mem _ hc)).1
      have h2 := hb.1
      exact hnd.1 (List.mem_map.2 ⟨c, hc, by omega⟩)
    rcases List.mem_cons.1 ha with rfl | ha
    · rw [augP, augP_out hother]
      unfold augA
      have := hb.2.1
      have := hb.1
      rw [getD_of (by rw [List.length_set]; omega), List.getElem_set_self]
    · rw [augP, augP_in (by rw [augA_len]; exact hx) (fun c hc => he c (List.mem_cons_of_mem _ hc)) hnd.2 ha, augA_ne (fun e => hother a ha e.symm)]
theorem aug_flow {n : Net} {f : Failure} {s t : Int} {x : List Int} {p : List ArcU} {amt : Int} (hn : RightNet n) (hne : s ≠ t) (h : IsFlow n f s t x) (hp : PathTo n s t p) (ha : ∀ a, a ∈ p → ArcOk n f x a) (hnd : (p.map (·.to)).Nodup) (hs : s ∉ p.map (·.to)) (h1 : 1 ≤ amt) (hr : ∀ a, a ∈ p → amt ≤ a.room) : IsFlow n f s t (augP amt p x) ∧ exS n.links (augP amt p x) s = exS n.links x s + amt := by
  obtain ⟨_, hx, hg, h0, hv⟩ := h
  have hl := path_links hn hp hnd hs
  have ex := augP_ex (amt := amt) hn hp hx
  have es : exS n.links (augP amt p x) s = exS n.links x s + amt := by
    rw [ex s, if_pos rfl, if_neg (Ne.symm hne)]; omega
  refine ⟨⟨hne, by rw [augP_len]; exact hx, fun k hk => ?_, by omega, fun v hv1 hv2 hv3 => ?_⟩, es⟩
  · by_cases c : ∃ a, a ∈ p ∧ a.link.toNat = k
    · obtain ⟨a, a1, rfl⟩ := c
      obtain ⟨q1, q2, q3⟩ := ha a a1
      obtain ⟨g1, g2, g3⟩ := hg a.link.toNat hk
      have hra := hr a a1
      have q0 := q1.1
      have e0 : ((a.link.toNat : Nat) : Int) = a.link := by omega
      unfold GoodK
      rw [augP_in hx (fun b hb => (ha b hb).1) hl a1, e0]
      unfold lnk at q3
      rcases q3 with ⟨e1, e2, e3⟩ | ⟨e1, e2, e3⟩
      · rw [e1, if_neg (show ¬ (false = true) by simp)]
        exact ⟨by omega, by omega, fun _ => q2⟩
      · rw [e1, if_pos (show true = true from rfl)]
        exact ⟨by omega, by omega, fun _ => q2⟩
    · have : (augP amt p x).getD k default = x.getD k default := augP_out fun a a1 e => c ⟨a, a1, e⟩
      unfold GoodK
      rw [this]
      exact hg k hk
  · rw [ex, if_neg (fun e => hv2 e.symm), if_neg (fun e => hv3 e.symm), hv v hv1 hv2 hv3]; rfl
end Go.Proofs.Ytfalnphlgfoflaa
