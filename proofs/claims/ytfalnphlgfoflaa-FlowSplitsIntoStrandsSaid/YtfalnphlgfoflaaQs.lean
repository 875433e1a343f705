/- A chain of links is taken from a flow. -/
import Derived.Test.YtfalnphlgfoflaaQv
import Derived.Test.YtfalnphlgfoflaaQ5
import Derived.Test.YtfalnphlgfoflaaQ4
import Derived.Test.YtfalnphlgfoflaaSL5
set_option linter.unusedSimpArgs false
set_option linter.unusedVariables false
set_option linter.unusedSectionVars false
namespace Go.Proofs.Ytfalnphlgfoflaa
open Go Go.RowKit
set_option linter.unusedSimpArgs false
set_option linter.unusedVariables false
theorem exS_put : ∀ (ls : List Link) (x : List Int) (k : Nat) (y v : Int), k < ls.length → k < x.length → exS ls (x.set k y) v = exS ls x v + contrib v (ls.getD k default) (y - x.getD k default)
  | l :: ls, z :: x, 0, y, v, _, _ => by
    unfold exS contrib
    simp only [List.set_cons_zero, List.zip_cons_cons, List.map_cons, List.sum_cons, List.getD_cons_zero]
    (repeat' split) <;> omega
  | l :: ls, z :: x, k + 1, y, v, h1, h2 => by
    have ih := exS_put ls x k y v (by simpa using h1) (by simpa using h2)
    unfold exS at ih ⊢
    simp only [List.set_cons_succ, List.zip_cons_cons, List.map_cons, List.sum_cons, List.getD_cons_succ]
    rw [ih]; omega
theorem app_lt {α : Type} {l : List α} {v d : α} {i : Nat} (h : i < l.length) : (l ++ [v]).getD i d = l.getD i d := by
  rw [List.getD_eq_getElem?_getD, List.getD_eq_getElem?_getD, List.getElem?_append_left h]
theorem app_eq {α : Type} {l : List α} {v d : α} : (l ++ [v]).getD l.length d = v := by
  rw [List.getD_eq_getElem?_getD, List.getElem?_append_right (Nat.le_refl _), Nat.sub_self]; rfl
theorem drop_at {α : Type} {l : List α} {d : α} (j i : Nat) : (l.drop j).getD i d = l.getD (j + i) d := by
  rw [List.getD_eq_getElem?_getD, List.getD_eq_getElem?_getD, List.getElem?_drop]
theorem few_nums : ∀ (N : Nat) (l : List Int), l.Nodup → (∀ v, v ∈ l → 0 ≤ v ∧ v < (N : Int)) → l.length ≤ N
  | 0, [], _, _ => Nat.le_refl _
  | 0, x :: l, _, h => by have := h x (by simp); omega
  | N + 1, l, hd, h => by
    have ih := few_nums N (l.erase (N : Int)) (hd.erase _) fun v hv => by
      obtain ⟨c1, c2⟩ := (List.Nodup.mem_erase_iff hd).1 hv
      have := h v c2
      omega
    have := List.length_erase (a := (N : Int)) (l := l)
    split at this <;> omega
structure Chain (n : Net) (left L ws : List Int) : Prop where
  len : ws.length = L.length + 1
  lo : ∀ j, j < L.length → 0 ≤ L.getD j default ∧ L.getD j default < (n.links.length : Int)
  pos : ∀ j, j < L.length → 0 < left.getD (L.getD j default).toNat default
  frm : ∀ j, j < L.length → frmK n L j = ws.getD j default
  to : ∀ j, j < L.length → toK n L j = ws.getD (j + 1) default
theorem Chain.drop {n : Net} {left L ws : List Int} (h : Chain n left L ws) {j : Nat} (hj : j ≤ L.length) : Chain n left (L.drop j) (ws.drop j) := by
  have hl := h.len
  refine ⟨by rw [List.length_drop, List.length_drop]; omega, fun i hi => ?_, fun i hi => ?_, fun i hi => ?_, fun i hi => ?_⟩ <;> rw [List.length_drop] at hi
  · rw [drop_at]; exact h.lo _ (by omega)
  · rw [drop_at]; exact h.pos _ (by omega)
  · have := h.frm (j + i) (by omega)
    unfold frmK at this ⊢
    rw [drop_at, drop_at]; exact this
  · have := h.to (j + i) (by omega)
    unfold toK at this ⊢
    rw [drop_at, drop_at]; exact this
theorem Chain.snoc {n : Net} {left L ws : List Int} (h : Chain n left L ws) {q : Nat} (hq : q < n.links.length) (hp : 0 < left.getD q default) (hf : (n.links.getD q default).frm = ws.getD L.length default) : Chain n left (L ++ [(q : Int)]) (ws ++ [(n.links.getD q default).to]) := by
  have hl := h.len
  refine ⟨by simp [hl], fun i hi => ?_, fun i hi => ?_, fun i hi => ?_, fun i hi => ?_⟩ <;> rw [List.length_append, List.length_singleton] at hi <;> rcases Nat.lt_succ_iff_lt_or_eq.1 hi with c | c
  · rw [app_lt c]; exact h.lo i c
  · subst c; rw [app_eq]; omega
  · rw [app_lt c]; exact h.pos i c
  · subst c; rw [app_eq]; exact hp
  · have := h.frm i c
    unfold frmK at this ⊢
    rw [app_lt c, app_lt (by omega)]; exact this
  · subst c
    unfold frmK
    rw [app_eq, app_lt (by omega)]; exact hf
  · have := h.to i c
    unfold toK at this ⊢
    rw [app_lt c, app_lt (by omega)]; exact this
  · subst c
    unfold toK
    rw [app_eq, show L.length + 1 = ws.length by omega, app_eq]; rfl
def Apart (ws : List Int) (m : Nat) : Prop := ∀ i j, i < j → j < m → ws.getD i default ≠ ws.getD j default
theorem Chain.ne {n : Net} {left L ws : List Int} (h : Chain n left L ws) (hd : Apart ws L.length) {i j : Nat} (hij : i < j) (hj : j < L.length) : (L.getD i default).toNat ≠ (L.getD j default).toNat := fun e => by
  have a := h.frm i (by omega)
  have b := h.frm j hj
  refine hd i j hij hj ?_
  rw [← a, ← b]
  unfold frmK lnk
  rw [e]
theorem subL_out {L : List Int} {amt : Int} {s : List Int} {q : Nat} : ∀ i, (∀ j, j < i → (L.getD j default).toNat ≠ q) → (subL L amt s i).getD q default = s.getD q default
  | 0, _ => rfl
  | i + 1, h => by
    rw [subL, getD_set_ne (h i (by omega))]
    exact subL_out i fun j hj => h j (by omega)
theorem Chain.sub_in {n : Net} {left L ws : List Int} (h : Chain n left L ws) (hx : left.length = n.links.length) (hd : Apart ws L.length) (amt : Int) : ∀ i, i ≤ L.length → ∀ t, t < i → (subL L amt left i).getD (L.getD t default).toNat default = left.getD (L.getD t default).toNat default - amt
  | 0, _, t, ht => by omega
  | i + 1, hi, t, ht => by
    have lo := h.lo i (by omega)
    rw [subL]
    by_cases c : t = i
    · subst c
      rw [getD_set_eq (by rw [subL_len]; omega), subL_out t fun j hj => h.ne hd hj (by omega)]
    · rw [getD_set_ne (fun e => h.ne hd (show t < i by omega) (by omega) e.symm)]
      exact h.sub_in hx hd amt i (by omega) t (by omega)
theorem Chain.ex {n : Net} {left L ws : List Int} (h : Chain n left L ws) (hn : RightNet n) (hx : left.length = n.links.length) (hd : Apart ws L.length) (amt v : Int) : ∀ i, i ≤ L.length → exS n.links (subL L amt left i) v = exS n.links left v - (if ws.getD 0 default = v then amt else 0) + (if ws.getD i default = v then amt else 0)
  | 0, _ => by rw [subL]; omega
  | i + 1, hi => by
    have lo := h.lo i (by omega)
    have a := h.frm i (by omega)
    have b := h.to i (by omega)
    have ap := hn.apart (L.getD i default).toNat (by omega)
    unfold frmK lnk at a
    unfold toK lnk at b
    rw [subL, exS_put _ _ _ _ _ (by omega) (by rw [subL_len]; omega), h.ex hn hx hd amt v i (by omega)]
    unfold contrib
    rw [a, b]
    rw [a, b] at ap
    have e : (subL L amt left i).getD (L.getD i default).toNat default - amt - (subL L amt left i).getD (L.getD i default).toNat default = -amt := by omega
    rw [e]
    (repeat' split) <;> omega
theorem Chain.enough {n : Net} {left L ws : List Int} (h : Chain n left L ws) (hd : Apart ws L.length) {amt : Int} (hle : ∀ j, j < L.length → amt ≤ left.getD (L.getD j default).toNat default) {i : Nat} (hi : i < L.length) : EnoughK L amt left i := by
  unfold EnoughK
  rw [subL_out i fun j hj => h.ne hd hj hi]
  exact hle i hi
theorem Chain.path {n : Net} {left L ws : List Int} (h : Chain n left L ws) (hd : Apart ws L.length) {k : Nat} (hk : k < L.length) : PathK n L k := by
  refine ⟨(h.lo k hk).1, (h.lo k hk).2, fun hm => ?_, fun h0 => ?_⟩
  · unfold seenL at hm
    obtain ⟨j, hj, e⟩ := List.mem_map.1 hm
    rw [List.mem_range] at hj
    rw [h.frm k hk, h.frm j (by omega)] at e
    exact hd j k hj hk e
  · rw [h.to (k - 1) (by omega), h.frm k hk, show k - 1 + 1 = k by omega]
theorem Chain.strand {n : Net} {a b : Int} {left L ws : List Int} (h : Chain n left L ws) (h0 : 0 < L.length) (hd : Apart ws L.length) {amt : Int} (h1 : 1 ≤ amt) (hle : ∀ j, j < L.length → amt ≤ left.getD (L.getD j default).toNat default) (he : ws.getD 0 default = ws.getD L.length default ∨ (ws.getD 0 default = a ∧ ws.getD L.length default = b ∧ ∀ j, j < L.length → ws.getD j default ≠ b)) : StrandOk n a b ⟨L, amt⟩ left := by
  refine ⟨h1, ⟨h0, fun k hk => h.path hd hk, ?_⟩, fun i hi => h.enough hd hle hi⟩
  have f0 := h.frm 0 h0
  have tl := h.to (L.length - 1) (by omega)
  rw [show L.length - 1 + 1 = L.length by omega] at tl
  show EndOk n a b L
  unfold EndOk
  rw [f0, tl]
  rcases he with e | ⟨e1, e2, e3⟩
  · exact .inl e
  · refine .inr ⟨e1, e2, fun hm => ?_⟩
    unfold seenL at hm
    obtain ⟨j, hj, e⟩ := List.mem_map.1 hm
    rw [List.mem_range] at hj
    rw [h.frm j hj, e2] at e
    exact e3 j hj e
def posN (l : List Int) : Nat := l.countP (fun x => decide (0 < x))
theorem posN_le : ∀ {l m : List Int}, l.length = m.length → (∀ j, j < l.length → l.getD j default ≤ m.getD j default) → posN l ≤ posN m
  | [], [], _, _ => Nat.le_refl _
  | x :: l, y :: m, hl, h => by
    have ih := posN_le (l := l) (m := m) (by simpa using hl) fun j hj => by simpa using h (j + 1) (by simpa using hj)
    have h0 : x ≤ y := by simpa using h 0 (by simp)
    unfold posN at ih ⊢
    rw [List.countP_cons, List.countP_cons]
    by_cases c : 0 < x
    · rw [if_pos (decide_eq_true c), if_pos (decide_eq_true (show 0 < y by omega))]; omega
    · rw [if_neg (by simpa using c)]
      split <;> omega
theorem posN_lt : ∀ {l m : List Int}, l.length = m.length → (∀ j, j < l.length → l.getD j default ≤ m.getD j default) → (∃ j, j < l.length ∧ l.getD j default ≤ 0 ∧ 0 < m.getD j default) → posN l < posN m
  | [], [], _, _, ⟨j, hj, _⟩ => by simp at hj
  | x :: l, y :: m, hl, h, ⟨j, hj, h1, h2⟩ => by
    have h0 : x ≤ y := by simpa using h 0 (by simp)
    have hr : ∀ j, j < l.length → l.getD j default ≤ m.getD j default := fun j hj => by simpa using h (j + 1) (by simpa using hj)
    cases j with
    | zero =>
      have ih := posN_le (l := l) (m := m) (by simpa using hl) hr
      simp only [List.getD_cons_zero] at h1 h2
      unfold posN at ih ⊢
      rw [List.countP_cons, List.countP_cons, if_neg (by simpa using h1), if_pos (decide_eq_true h2)]; omega
    | succ j =>
      simp only [List.getD_cons_succ] at h1 h2
      have ih := posN_lt (l := l) (m := m) (by simpa using hl) hr ⟨j, by simpa using hj, h1, h2⟩
      unfold posN at ih ⊢
      rw [List.countP_cons, List.countP_cons]
      by_cases c : 0 < x
      · rw [if_pos (decide_eq_true c), if_pos (decide_eq_true (show 0 < y by omega))]; omega
      · rw [if_neg (by simpa using c)]
        split <;> omega
theorem posN_one {l : List Int} {i : Nat} (hi : i < l.length) (h : 0 < l.getD i default) : 1 ≤ posN l := by
  have := posN_lt (l := l.set i 0) (m := l) (by simp) (fun j hj => ?_) ⟨i, by simpa using hi, by rw [getD_set_eq hi]; omega, h⟩
  · omega
  · by_cases c : i = j
    · subst c; rw [getD_set_eq hi]; omega
    · rw [getD_set_ne c]; exact Int.le_refl _
theorem posN_two {l : List Int} {i j : Nat} (hij : i ≠ j) (hi : i < l.length) (hj : j < l.length) (h : 0 < l.getD i default) (h2 : 0 < l.getD j default) : 2 ≤ posN l := by
  have := posN_lt (l := l.set i 0) (m := l) (by simp) (fun j hj => ?_) ⟨i, by simpa using hi, by rw [getD_set_eq hi]; omega, h⟩
  · have := posN_one (l := l.set i 0) (i := j) (by simpa using hj) (by rw [getD_set_ne hij]; exact h2)
    omega
  · by_cases c : i = j
    · subst c; rw [getD_set_eq hi]; omega
    · rw [getD_set_ne c]; exact Int.le_refl _
end Go.Proofs.Ytfalnphlgfoflaa
namespace Go.Proofs.Ytfalnphlgfoflaa
open Go Go.RowKit
set_option linter.unusedSimpArgs false
set_option linter.unusedVariables false
def outL (n : Net) (v : Int) : Nat → List Int
  | 0 => []
  | i + 1 => if (n.links.getD i default).frm = v then outL n v i ++ [(i : Int)] else outL n v i
theorem outL_len (n : Net) (v : Int) : ∀ i, (outL n v i).length ≤ i
  | 0 => Nat.le_refl _
  | i + 1 => by
    have := outL_len n v i
    unfold outL
    split
    · rw [List.length_append, List.length_singleton]; omega
    · omega
theorem outL_mem (n : Net) (v q : Int) : ∀ i, q ∈ outL n v i ↔ ∃ j : Nat, j < i ∧ q = (j : Int) ∧ (n.links.getD j default).frm = v
  | 0 => by simp [outL]
  | i + 1 => by
    have ih := outL_mem n v q i
    unfold outL
    split
    · next c =>
      rw [List.mem_append, List.mem_singleton, ih]
      constructor
      · rintro (⟨j, h1, h2⟩ | rfl)
        · exact ⟨j, by omega, h2⟩
        · exact ⟨i, by omega, rfl, c⟩
      · rintro ⟨j, h1, h2, h3⟩
        by_cases d : j = i
        · subst d; exact .inr h2
        · exact .inl ⟨j, by omega, h2, h3⟩
    · next c =>
      rw [ih]
      constructor
      · rintro ⟨j, h1, h2⟩; exact ⟨j, by omega, h2⟩
      · rintro ⟨j, h1, h2, h3⟩
        by_cases d : j = i
        · subst d; exact absurd h3 c
        · exact ⟨j, by omega, h2, h3⟩
theorem links_L0 {k : Nat} {n : Net} {v : Int} (hn : n.links.length ≤ 1000) : ∀ (m i : Nat), i ≤ n.links.length → n.links.length - i < m → sgraph_links_L0 k n (fun y => sgraph_Out_1 k y v) m (i : Int) (outL n v i) (outL n v i).length = some (outL n v n.links.length, (outL n v n.links.length).length) := by
  intro m
  induction m with
  | zero => intro i h1 h2; omega
  | succ m ih =>
    intro i h1 h2
    rw [sgraph_links_L0]
    by_cases c : (i : Int) < (n.links.length : Int)
    · have hl := outL_len n v i
      have ih := ih (i + 1) (by omega) (by omega)
      rw [if_pos c, if_pos ⟨by omega, c⟩, gx_nat n.links i]
      show ((some (decide ((n.links.getD i default).frm = v))).bind _) = _
      rw [Option.bind_some, wr_succ i (by omega)]
      rw [show outL n v (i + 1) = if (n.links.getD i default).frm = v then outL n v i ++ [(i : Int)] else outL n v i from rfl] at ih
      by_cases q : (n.links.getD i default).frm = v
      · rw [if_pos (decide_eq_true q), if_pos (by omega)]
        rw [if_pos q, List.length_append, List.length_singleton] at ih
        rw [ih]
      · rw [if_neg (by simpa using q)]
        rw [if_neg q] at ih
        rw [ih]
    · rw [if_neg c]
      have : i = n.links.length := by omega
      subst this; rfl
theorem Out_spec {k : Nat} {n : Net} (v : Int) (hn : n.links.length ≤ 1000) (hk : 2000 < k) : sgraph_Out k n v = some (outL n v n.links.length) := by
  have h := links_L0 (k := k) (n := n) (v := v) hn k 0 (by omega) (by omega)
  unfold sgraph_Out sgraph_links
  rw [show ((0 : Nat) : Int) = 0 from rfl, show outL n v 0 = [] from rfl, show ([] : List Int).length = 0 from rfl] at h
  rw [h]
  simp
theorem next_L0 {k N : Nat} {left l : List Int} (hb : ∀ j, j < l.length → 0 ≤ l.getD j default ∧ l.getD j default < (N : Int)) (hN : left.length = N) (hl : l.length ≤ 1000) : ∀ (m i : Nat), i ≤ l.length → l.length - i < m → (∀ j, j < i → left.getD (l.getD j default).toNat default ≤ 0) →
    (sflow_Split_1_b_L0 k N left l m (i : Int) = some (.inr ()) ∧ ∀ j, j < l.length → left.getD (l.getD j default).toNat default ≤ 0) ∨ ∃ j, j < l.length ∧ sflow_Split_1_b_L0 k N left l m (i : Int) = some (.inl (l.getD j default)) ∧ 0 < left.getD (l.getD j default).toNat default := by
  intro m
  induction m with
  | zero => intro i h1 h2; omega
  | succ m ih =>
    intro i h1 h2 h3
    rw [sflow_Split_1_b_L0]
    by_cases c : (i : Int) < (l.length : Int)
    · have hi : i < l.length := by omega
      have hq := hb i hi
      rw [if_pos c, if_pos ⟨by omega, c⟩, gx_nat l i, if_pos hq, if_pos (by omega)]
      by_cases q : 0 < left.getD (l.getD i default).toNat default
      · rw [if_pos q]; exact .inr ⟨i, hi, rfl, q⟩
      · rw [if_neg q, wr_succ i (by omega)]
        exact ih (i + 1) (by omega) (by omega) fun j hj => by
          rcases Nat.lt_succ_iff_lt_or_eq.1 hj with z | z
          · exact h3 j z
          · rw [z]; omega
    · rw [if_neg c]
      have : i = l.length := by omega
      subst this
      exact .inl ⟨rfl, h3⟩
theorem next_spec {k : Nat} {n : Net} {left : List Int} (v : Int) (hn : n.links.length ≤ 1000) (hx : left.length = n.links.length) (hk : 2000 < k) : (sflow_Split_1_b k left.length v n left = some (-1) ∧ ∀ q, q < n.links.length → (n.links.getD q default).frm = v → left.getD q default ≤ 0) ∨ ∃ q : Nat, q < n.links.length ∧ sflow_Split_1_b k left.length v n left = some (q : Int) ∧ (n.links.getD q default).frm = v ∧ 0 < left.getD q default := by
  have hl := outL_len n v n.links.length
  have hm : ∀ j, j < (outL n v n.links.length).length → ∃ q : Nat, q < n.links.length ∧ (outL n v n.links.length).getD j default = (q : Int) ∧ (n.links.getD q default).frm = v := fun j hj => (outL_mem n v _ _).1 (getD_mem hj)
  unfold sflow_Split_1_b
  rw [Out_spec v hn hk, Option.bind_some]
  rcases next_L0 (k := k) (N := left.length) (left := left) (l := outL n v n.links.length) (fun j hj => by
    obtain ⟨q, h1, h2, _⟩ := hm j hj
    rw [h2]; omega) rfl (by omega) k 0 (by omega) (by omega) (fun j hj => by omega) with ⟨e, h⟩ | ⟨j, hj, e, h⟩
  · rw [show ((0 : Nat) : Int) = 0 from rfl] at e
    rw [e]
    refine .inl ⟨rfl, fun q hq hf => ?_⟩
    obtain ⟨j, hj, ej⟩ := List.getElem_of_mem ((outL_mem n v (q : Int) n.links.length).2 ⟨q, hq, rfl, hf⟩)
    have := h j hj
    rw [getD_of hj, ej] at this
    exact this
  · rw [show ((0 : Nat) : Int) = 0 from rfl] at e
    obtain ⟨q, h1, h2, h3⟩ := hm j hj
    rw [e]
    rw [h2] at h ⊢
    exact .inr ⟨q, h1, rfl, h3, h⟩
theorem cut_L0 {k N : Nat} {left l : List Int} (hb : ∀ j, j < l.length → 0 ≤ l.getD j default ∧ l.getD j default < (N : Int)) (hN : left.length = N) (hl : l.length ≤ 1000) : ∀ (m i : Nat) (amt : Int), i ≤ l.length → l.length - i < m →
    ∃ r, sflow_Split_2_b_L0 k N l left m amt (i : Int) = some r ∧ r ≤ amt ∧ (∀ j, i ≤ j → j < l.length → r ≤ left.getD (l.getD j default).toNat default) ∧ (r = amt ∨ ∃ j, i ≤ j ∧ j < l.length ∧ left.getD (l.getD j default).toNat default = r) := by
  intro m
  induction m with
  | zero => intro i amt h1 h2; omega
  | succ m ih =>
    intro i amt h1 h2
    rw [sflow_Split_2_b_L0]
    by_cases c : (i : Int) < (l.length : Int)
    · have hi : i < l.length := by omega
      have hq := hb i hi
      rw [if_pos c, if_pos ⟨by omega, c⟩, gx_nat l i, if_pos hq, if_pos (by omega), wr_succ i (by omega)]
      obtain ⟨r, e, g1, g2, g3⟩ := ih (i + 1) (min amt (left.getD (l.getD i default).toNat default)) (by omega) (by omega)
      refine ⟨r, e, by omega, fun j h3 h4 => ?_, ?_⟩
      · by_cases d : j = i
        · subst d; omega
        · exact g2 j (by omega) h4
      · rcases g3 with g | ⟨j, g4, g5, g6⟩
        · by_cases d : amt ≤ left.getD (l.getD i default).toNat default
          · exact .inl (by omega)
          · exact .inr ⟨i, Nat.le_refl _, hi, by omega⟩
        · exact .inr ⟨j, by omega, g5, g6⟩
    · rw [if_neg c]
      exact ⟨amt, rfl, Int.le_refl _, fun j h3 h4 => by omega, .inl rfl⟩
theorem cut_L1 {k N : Nat} {left l : List Int} {amt : Int} (hb : ∀ j, j < l.length → 0 ≤ l.getD j default ∧ l.getD j default < (N : Int)) (hN : left.length = N) (hl : l.length ≤ 1000) (h1 : 0 ≤ amt) (hr : ∀ i, i < l.length → amt ≤ (subL l amt left i).getD (l.getD i default).toNat default ∧ (subL l amt left i).getD (l.getD i default).toNat default ≤ 1048576) : ∀ (m i : Nat), i ≤ l.length → l.length - i < m → sflow_Split_2_b_L1 k N l amt m (i : Int) (subL l amt left i) = some (subL l amt left l.length) := by
  intro m
  induction m with
  | zero => intro i h1 h2; omega
  | succ m ih =>
    intro i g1 g2
    rw [sflow_Split_2_b_L1]
    by_cases c : (i : Int) < (l.length : Int)
    · have hi : i < l.length := by omega
      have hq := hb i hi
      have hi2 := hr i hi
      rw [if_pos c, if_pos ⟨by omega, c⟩, gx_nat l i, if_pos hq, if_pos (by rw [subL_len]; omega), wr_succ i (by omega), wr64 (by omega)]
      exact ih (i + 1) (by omega) (by omega)
    · rw [if_neg c]
      have : i = l.length := by omega
      subst this; rfl
theorem cut_spec {k n3 : Nat} {n : Net} {left L ws : List Int} {M : Int} {out : List Strand} (h : Chain n left L ws) (hx : left.length = n.links.length) (hd : Apart ws L.length) (hr : Room left) (hl : L.length ≤ 1000) (hM : 1 ≤ M) (hk : 2000 < k) (h3 : n3 ≤ 1000) :
    ∃ amt, sflow_Split_2_b k left.length n3 L M left out = some (amt, subL L amt left L.length, out ++ [⟨L, amt⟩], n3 + 1) ∧ 1 ≤ amt ∧ amt ≤ M ∧ (∀ j, j < L.length → amt ≤ left.getD (L.getD j default).toNat default) ∧ (amt = M ∨ ∃ j, j < L.length ∧ left.getD (L.getD j default).toNat default = amt) := by
  have hb : ∀ j, j < L.length → 0 ≤ L.getD j default ∧ L.getD j default < (left.length : Int) := fun j hj => by have := h.lo j hj; omega
  obtain ⟨amt, e, g1, g2, g3⟩ := cut_L0 (k := k) hb rfl hl k 0 M (by omega) (by omega)
  rw [show ((0 : Nat) : Int) = 0 from rfl] at e
  have h1 : 1 ≤ amt := by
    rcases g3 with g | ⟨j, _, g4, g5⟩
    · omega
    · have := h.pos j g4; omega
  have hle : ∀ j, j < L.length → amt ≤ left.getD (L.getD j default).toNat default := fun j hj => g2 j (by omega) hj
  have e1 := cut_L1 (k := k) (amt := amt) hb rfl hl (by omega) (fun i hi => ⟨h.enough hd hle hi, by
    rw [subL_out i fun j hj => h.ne hd hj hi]
    exact (hr _ (by have := h.lo i hi; omega)).2⟩) k 0 (by omega) (by omega)
  rw [show ((0 : Nat) : Int) = 0 from rfl, show subL L amt left 0 = left from rfl] at e1
  refine ⟨amt, ?_, h1, g1, hle, ?_⟩
  · unfold sflow_Split_2_b
    rw [e, Option.bind_some, e1, Option.bind_some, if_pos (by omega)]
  · rcases g3 with g | ⟨j, _, g4, g5⟩
    · exact .inl g
    · exact .inr ⟨j, g4, g5⟩
end Go.Proofs.Ytfalnphlgfoflaa
namespace Go.Proofs.Ytfalnphlgfoflaa
open Go Go.RowKit
set_option linter.unusedSimpArgs false
set_option linter.unusedVariables false
theorem nodup_ne {l : List Int} (h : l.Nodup) {i j : Nat} (hij : i < j) (hj : j < l.length) : l.getD i default ≠ l.getD j default := by
  rw [getD_of (show i < l.length by omega), getD_of hj]
  exact (List.pairwise_iff_getElem.1 h) i j (by omega) hj hij
theorem ex_noout {v : Int} : ∀ {ls : List Link} {x : List Int}, x.length = ls.length → (∀ q, q < ls.length → 0 ≤ x.getD q default) → (∀ q, q < ls.length → (ls.getD q default).frm = v → x.getD q default ≤ 0) →
    exS ls x v ≤ 0 ∧ ((∃ q, q < ls.length ∧ (ls.getD q default).to = v ∧ 0 < x.getD q default) → exS ls x v < 0)
  | [], [], _, _, _ => ⟨by simp [exS], fun ⟨q, h, _⟩ => by simp at h⟩
  | l :: ls, y :: x, hl, h0, h1 => by
    obtain ⟨a1, a2⟩ := ex_noout (v := v) (ls := ls) (x := x) (by simpa using hl) (fun q hq => by simpa using h0 (q + 1) (by simpa using hq)) (fun q hq => by simpa using h1 (q + 1) (by simpa using hq))
    have b0 : 0 ≤ y := by simpa using h0 0 (by simp)
    have b1 : l.frm = v → y ≤ 0 := by simpa using h1 0 (by simp)
    have e : exS (l :: ls) (y :: x) v = contrib v l y + exS ls x v := by
      unfold exS
      rw [List.zip_cons_cons, List.map_cons, List.sum_cons]
    rw [e]
    have c : contrib v l y ≤ 0 ∧ (l.to = v → 0 < y → contrib v l y < 0) := by
      unfold contrib
      by_cases c1 : l.frm = v
      · have := b1 c1
        rw [if_pos c1]
        refine ⟨by split <;> omega, fun c2 c3 => by omega⟩
      · rw [if_neg c1]
        refine ⟨by split <;> omega, fun c2 c3 => by rw [if_pos c2]; omega⟩
    refine ⟨by omega, fun ⟨q, g1, g2, g3⟩ => ?_⟩
    cases q with
    | zero =>
      have := c.2 g2 g3
      omega
    | succ q =>
      have := a2 ⟨q, by simpa using g1, by simpa using g2, by simpa using g3⟩
      omega
structure FS (n : Net) (a b : Int) (l : List Int) (value : Int) : Prop where
  len : l.length = n.links.length
  room : Room l
  v0 : 0 ≤ value ∧ value ≤ 25165824
  ex : ∀ v, isNodeP n v → exS n.links l v = (if v = a then value else 0) - (if v = b then value else 0)
def Step (n : Net) (a b : Int) (left : List Int) (value : Int) (s : Strand) (left' : List Int) (value' : Int) : Prop :=
  StrandOk n a b s left ∧ s.links.length ≤ 24 ∧ left' = subL s.links s.amount left s.links.length ∧ FS n a b left' value' ∧ posN left' ≤ posN left ∧
  ((value' = value ∧ frmK n s.links 0 = toK n s.links (s.links.length - 1) ∧ posN left' < posN left ∧ 2 ≤ posN left) ∨
   (0 < value ∧ value' = value - s.amount ∧ frmK n s.links 0 = a ∧ toK n s.links (s.links.length - 1) = b ∧ (value' = 0 ∨ posN left' < posN left)))
theorem Chain.less {n : Net} {left L ws : List Int} (h : Chain n left L ws) (hx : left.length = n.links.length) (hd : Apart ws L.length) {amt : Int} (h1 : 1 ≤ amt) (j : Nat) (hj : j < left.length) : (subL L amt left L.length).getD j default ≤ left.getD j default := by
  by_cases c : ∃ t, t < L.length ∧ (L.getD t default).toNat = j
  · obtain ⟨t, ht, rfl⟩ := c
    rw [h.sub_in hx hd amt L.length (Nat.le_refl _) t ht]; omega
  · rw [subL_out _ fun t ht e => c ⟨t, ht, e⟩]; exact Int.le_refl _
theorem Chain.zero {n : Net} {left L ws : List Int} (h : Chain n left L ws) (hx : left.length = n.links.length) (hd : Apart ws L.length) {amt : Int} (h1 : 1 ≤ amt) {t : Nat} (ht : t < L.length) (e : left.getD (L.getD t default).toNat default = amt) : posN (subL L amt left L.length) < posN left := by
  have lo := h.lo t ht
  refine posN_lt (subL_len _ _ _ _) (fun j hj => h.less hx hd h1 j (by rw [subL_len] at hj; exact hj)) ⟨(L.getD t default).toNat, by rw [subL_len]; omega, ?_, by omega⟩
  rw [h.sub_in hx hd amt L.length (Nat.le_refl _) t ht]; omega
theorem Chain.room {n : Net} {left L ws : List Int} (h : Chain n left L ws) (hx : left.length = n.links.length) (hd : Apart ws L.length) (hr : Room left) {amt : Int} (h1 : 1 ≤ amt) (hle : ∀ j, j < L.length → amt ≤ left.getD (L.getD j default).toNat default) : Room (subL L amt left L.length) :=
  room_sub h1 hr _ fun j hj => ⟨h.enough hd hle hj, by have := h.lo j hj; omega⟩
theorem ring_step {n : Net} {a b value amt : Int} {left L ws : List Int} (hn : RightNet n) (hF : FS n a b left value) (h : Chain n left L ws) (h0 : 0 < L.length) (h24 : L.length ≤ 24) (hd : Apart ws L.length) (h1 : 1 ≤ amt) (hle : ∀ j, j < L.length → amt ≤ left.getD (L.getD j default).toNat default) (hz : ∃ j, j < L.length ∧ left.getD (L.getD j default).toNat default = amt) (he : ws.getD 0 default = ws.getD L.length default) : Step n a b left value ⟨L, amt⟩ (subL L amt left L.length) value := by
  obtain ⟨t, ht, et⟩ := hz
  have lt := h.zero hF.len hd h1 ht et
  have l0 := h.lo 0 h0
  have f0 := h.frm 0 h0
  have t0 := h.to 0 h0
  have h2 : 2 ≤ L.length := by
    refine Nat.le_of_not_lt fun c => ?_
    have e1 : L.length = 1 := by omega
    rw [e1] at he
    exact hn.apart (L.getD 0 default).toNat (by omega) (f0.trans (he.trans t0.symm))
  have l1 := h.lo 1 (by omega)
  have hlen := hF.len
  refine ⟨h.strand h0 hd h1 hle (.inl he), h24, rfl, ⟨by rw [subL_len]; exact hF.len, h.room hF.len hd hF.room h1 hle, hF.v0, fun v hv => ?_⟩, by omega, .inl ⟨rfl, ?_, lt, ?_⟩⟩
  · rw [h.ex hn hF.len hd amt v L.length (Nat.le_refl _), hF.ex v hv, he]; omega
  · show frmK n L 0 = toK n L (L.length - 1)
    rw [f0, h.to _ (by omega), show L.length - 1 + 1 = L.length by omega]; exact he
  · exact posN_two (h.ne hd (show 0 < 1 by omega) (by omega)) (by omega) (by omega) (h.pos 0 h0) (h.pos 1 (by omega))
theorem way_step {n : Net} {a b value amt : Int} {left L ws : List Int} (hn : RightNet n) (hab : a ≠ b) (hF : FS n a b left value) (h : Chain n left L ws) (h0 : 0 < L.length) (h24 : L.length ≤ 24) (hd : Apart ws L.length) (h1 : 1 ≤ amt) (hv : amt ≤ value) (hle : ∀ j, j < L.length → amt ≤ left.getD (L.getD j default).toNat default) (hz : amt = value ∨ ∃ j, j < L.length ∧ left.getD (L.getD j default).toNat default = amt) (e1 : ws.getD 0 default = a) (e2 : ws.getD L.length default = b) (e3 : ∀ j, j < L.length → ws.getD j default ≠ b) : Step n a b left value ⟨L, amt⟩ (subL L amt left L.length) (value - amt) := by
  have v0 := hF.v0
  refine ⟨h.strand h0 hd h1 hle (.inr ⟨e1, e2, e3⟩), h24, rfl, ⟨by rw [subL_len]; exact hF.len, h.room hF.len hd hF.room h1 hle, by omega, fun v hv => ?_⟩, ?_, .inr ⟨by omega, rfl, ?_, ?_, ?_⟩⟩
  · rw [h.ex hn hF.len hd amt v L.length (Nat.le_refl _), hF.ex v hv, e1, e2]
    (repeat' split) <;> omega
  · exact posN_le (subL_len _ _ _ _) fun j hj => h.less hF.len hd h1 j (by rw [subL_len] at hj; exact hj)
  · exact (h.frm 0 h0).trans e1
  · show toK n L (L.length - 1) = b
    rw [h.to _ (by omega), show L.length - 1 + 1 = L.length by omega]; exact e2
  · rcases hz with e | ⟨j, hj, e⟩
    · exact .inl (by omega)
    · exact .inr (h.zero hF.len hd h1 hj e)
structure WI (n : Net) (a b value : Int) (left vs l3 : List Int) (mp : List (Int × Int)) (at_ : Int) : Prop where
  ch : Chain n left l3 vs
  last : vs.getD l3.length default = at_
  nd : vs.Nodup
  node : ∀ v, v ∈ vs → isNodeP n v
  mp : ∀ v i, mget v mp = some i ↔ ∃ j : Nat, i = (j : Int) ∧ j < vs.length ∧ vs.getD j default = v
  nb : 0 < value → b ∉ vs
  st : 0 < value → vs.getD 0 default = a
  go : value = 0 → l3.length = 0 → ∃ q, q < n.links.length ∧ (n.links.getD q default).frm = at_ ∧ 0 < left.getD q default
theorem WI.more {n : Net} {a b value : Int} {left vs l3 : List Int} {mp : List (Int × Int)} {at_ : Int} (hn : RightNet n) (hF : FS n a b left value) (hab : a ≠ b) (w : WI n a b value left vs l3 mp at_) (h : ∀ q, q < n.links.length → (n.links.getD q default).frm = at_ → left.getD q default ≤ 0) : False := by
  have hl := w.ch.len
  have hat : at_ ∈ vs := by rw [← w.last]; exact getD_mem (by omega)
  have hnode := w.node _ hat
  have v0 := hF.v0
  have hlen := hF.len
  obtain ⟨o1, o2⟩ := ex_noout (v := at_) hF.len (fun q hq => (hF.room q (by omega)).1) h
  rw [hF.ex at_ hnode] at o1 o2
  by_cases c : l3.length = 0
  · by_cases d : value = 0
    · obtain ⟨q, q1, q2, q3⟩ := w.go d c
      have := h q q1 q2
      omega
    · have e := w.st (by omega)
      have e2 := w.last
      rw [c, e] at e2
      subst e2
      rw [if_pos rfl, if_neg hab] at o1
      omega
  · have lo := w.ch.lo (l3.length - 1) (by omega)
    have po := w.ch.pos (l3.length - 1) (by omega)
    have t := w.ch.to (l3.length - 1) (by omega)
    rw [show l3.length - 1 + 1 = l3.length by omega, w.last] at t
    have o3 := o2 ⟨_, by omega, t, po⟩
    by_cases d : value = 0
    · rw [d] at o3
      simp at o3
    · have nb := w.nb (by omega)
      rw [if_neg (show ¬ at_ = b from fun e => nb (e ▸ hat))] at o3
      split at o3 <;> omega
end Go.Proofs.Ytfalnphlgfoflaa
namespace Go.Proofs.Ytfalnphlgfoflaa
open Go Go.RowKit
set_option linter.unusedSimpArgs false
set_option linter.unusedVariables false
theorem mgetI_mset {v k x : Int} : ∀ {l : List (Int × Int)}, mget v (mset k x l) = if v = k then some x else mget v l
  | [] => rfl
  | p :: l => by
    have ih := mgetI_mset (v := v) (k := k) (x := x) (l := l)
    unfold mset
    by_cases c : k = p.1
    · rw [if_pos c]
      show (if v = k then some x else mget v l) = _
      by_cases d : v = k
      · rw [if_pos d, if_pos d]
      · rw [if_neg d, if_neg d]
        show _ = (if v = p.1 then some p.2 else mget v l)
        rw [if_neg (by omega)]
    · rw [if_neg c]
      show (if v = p.1 then some p.2 else mget v (mset k x l)) = (if v = k then some x else (if v = p.1 then some p.2 else mget v l))
      rw [ih]
      by_cases d : v = p.1
      · rw [if_pos d, if_pos d, if_neg (by omega)]
      · rw [if_neg d, if_neg d]
theorem WI.len {n : Net} {a b value : Int} {left vs l3 : List Int} {mp : List (Int × Int)} {at_ : Int} (w : WI n a b value left vs l3 mp at_) : vs.length ≤ n.nodes.length := few_nums _ _ w.nd fun v hv => w.node v hv
theorem inner {k : Nat} {n : Net} {a b value : Int} {fl left : List Int} {out : List Strand} (hn : RightNet n) (hab : a ≠ b) (hF : FS n a b left value) (hfl : fl.length = left.length) (hk : 5000 < k) (hout : out.length ≤ 500) : ∀ (m : Nat) (vs l3 : List Int) (mp : List (Int × Int)) (at_ : Int), WI n a b value left vs l3 mp at_ → n.nodes.length - vs.length < m →
    ∃ s left' value', sflow_Split_L1 k n b fl left out out.length m value at_ l3 l3.length mp = some (.inr (value', left', out ++ [s], out.length + 1)) ∧ Step n a b left value s left' value' := by
  intro m
  induction m with
  | zero => intro vs l3 mp at_ w h; omega
  | succ m ih =>
    intro vs l3 mp at_ w h
    have hvl := w.len
    have hcl := w.ch.len
    have hnn := hn.nodes
    have hnl := hn.links
    have hlen := hF.len
    have v0 := hF.v0
    rw [sflow_Split_L1, hfl]
    rcases next_spec (k := k) (n := n) (left := left) at_ (by omega) hF.len (by omega) with ⟨_, e⟩ | ⟨q, q1, q2, q3, q4⟩
    · exact (w.more hn hF hab e).elim
    rw [q2, Option.bind_some, if_pos (by omega), if_pos (by omega), gx_nat n.links q]
    have hto := hn.to q q1
    have ch := w.ch.snoc q1 q4 (q3.trans w.last.symm)
    have hL : (l3 ++ [(q : Int)]).length = l3.length + 1 := by simp
    have hwl : (vs ++ [(n.links.getD q default).to]).length = vs.length + 1 := by simp
    cases hg : mget (n.links.getD q default).to mp with
    | some i =>
      obtain ⟨j, rfl, j1, j2⟩ := (w.mp _ _).1 hg
      rw [if_pos (by rfl), Option.getD_some, if_pos (by simp), if_pos ⟨by omega, by rw [hL]; omega⟩, Int.toNat_natCast]
      have cd := ch.drop (j := j) (by rw [hL]; omega)
      have hdl : ((l3 ++ [(q : Int)]).drop j).length = l3.length + 1 - j := by rw [List.length_drop, hL]
      have hd : Apart ((vs ++ [(n.links.getD q default).to]).drop j) ((l3 ++ [(q : Int)]).drop j).length := fun i1 i2 h1 h2 => by
        rw [drop_at, drop_at, app_lt (by omega), app_lt (by omega)]
        exact nodup_ne w.nd (by omega) (by omega)
      obtain ⟨amt, e, a1, a2, a3, a4⟩ := cut_spec (k := k) (n3 := out.length) (M := 4294967296) (out := out) cd hF.len hd hF.room (by omega) (by omega) (by omega) (by omega)
      rw [e, Option.bind_some]
      have b0 := cd.lo 0 (by omega)
      have hz : ∃ t, t < ((l3 ++ [(q : Int)]).drop j).length ∧ left.getD (((l3 ++ [(q : Int)]).drop j).getD t default).toNat default = amt := by
        rcases a4 with rfl | a4
        · have := a3 0 (by omega)
          have := (hF.room (((l3 ++ [(q : Int)]).drop j).getD 0 default).toNat (by omega)).2
          omega
        · exact a4
      refine ⟨_, _, _, rfl, ring_step hn hF cd (by omega) (by omega) hd a1 a3 hz ?_⟩
      rw [drop_at, drop_at, hdl, show j + (l3.length + 1 - j) = vs.length by omega, app_eq, Nat.add_zero, app_lt j1]
      exact j2
    | none =>
      rw [if_neg (by simp)]
      have hno : (n.links.getD q default).to ∉ vs := fun hm => by
        obtain ⟨j, hj, ej⟩ := List.getElem_of_mem hm
        have := (w.mp (n.links.getD q default).to j).2 ⟨j, rfl, hj, by rw [getD_of hj]; exact ej⟩
        rw [hg] at this; cases this
      have hap : Apart (vs ++ [(n.links.getD q default).to]) (l3 ++ [(q : Int)]).length := fun i1 i2 h1 h2 => by
        rw [app_lt (by omega), app_lt (by omega)]
        exact nodup_ne w.nd (by omega) (by omega)
      by_cases c : (n.links.getD q default).to = b ∧ 0 < value
      · obtain ⟨c1, c2⟩ := c
        rw [if_pos c1, Option.bind_some, if_pos (decide_eq_true c2), if_pos (by simp)]
        obtain ⟨amt, e, a1, a2, a3, a4⟩ := cut_spec (k := k) (n3 := out.length) (M := value) (out := out) ch hF.len hap hF.room (by omega) (by omega) (by omega) (by omega)
        rw [e, Option.bind_some]
        have wv : IntKind.i64.wrap (value - amt) = value - amt := wr64 (by omega)
        show ∃ s left' value', some (Sum.inr (IntKind.i64.wrap (value - amt), _)) = _ ∧ _
        rw [wv]
        refine ⟨_, _, _, rfl, way_step hn hab hF ch (by omega) (by omega) hap a1 a2 a3 a4 ?_ ?_ fun j hj => ?_⟩
        · rw [app_lt (by omega)]; exact w.st c2
        · rw [hL, show l3.length + 1 = vs.length by omega, app_eq]; exact c1
        · rw [app_lt (by omega)]
          exact fun e => w.nb c2 (e ▸ getD_mem (by omega))
      · have cc : (if (n.links.getD q default).to = b then some (decide (0 < value)) else some false) = some false := by
          by_cases c1 : (n.links.getD q default).to = b
          · rw [if_pos c1, decide_eq_false fun c2 => c ⟨c1, c2⟩]
          · rw [if_neg c1]
        rw [cc, Option.bind_some, if_neg (by simp)]
        have w' : WI n a b value left (vs ++ [(n.links.getD q default).to]) (l3 ++ [(q : Int)]) (mset (n.links.getD q default).to ((l3.length : Int) + 1) mp) (n.links.getD q default).to := by
          refine ⟨ch, by rw [hL, show l3.length + 1 = vs.length by omega, app_eq], ?_, fun v hv => ?_, fun v i => ?_, fun hv hm => ?_, fun hv => ?_, fun _ h0 => by omega⟩
          · rw [List.nodup_append]
            refine ⟨w.nd, by simp, fun v hv u hu e => ?_⟩
            rw [List.mem_singleton] at hu
            exact hno (by rw [← hu, ← e]; exact hv)
          · rw [List.mem_append, List.mem_singleton] at hv
            rcases hv with hv | rfl
            · exact w.node v hv
            · exact hto
          · rw [mgetI_mset]
            by_cases d : v = (n.links.getD q default).to
            · rw [if_pos d]
              constructor
              · intro e
                cases e
                exact ⟨vs.length, by omega, by omega, by rw [app_eq]; exact d.symm⟩
              · rintro ⟨j, rfl, j1, j2⟩
                by_cases dj : j < vs.length
                · rw [app_lt dj, d] at j2
                  exact (hno (j2 ▸ getD_mem dj)).elim
                · rw [show j = l3.length + 1 by omega]; rfl
            · rw [if_neg d, w.mp]
              constructor
              · rintro ⟨j, e1, j1, j2⟩
                exact ⟨j, e1, by omega, by rw [app_lt j1]; exact j2⟩
              · rintro ⟨j, e1, j1, j2⟩
                by_cases dj : j < vs.length
                · rw [app_lt dj] at j2
                  exact ⟨j, e1, dj, j2⟩
                · rw [show j = vs.length by omega, app_eq] at j2
                  exact (d j2.symm).elim
          · rw [List.mem_append, List.mem_singleton] at hm
            rcases hm with hm | hm
            · exact w.nb hv hm
            · exact c ⟨hm.symm, hv⟩
          · rw [app_lt (by omega)]; exact w.st hv
        obtain ⟨s, left', value', e, st⟩ := ih _ _ _ _ w' (by have := w'.len; omega)
        rw [hL] at e
        exact ⟨s, left', value', e, st⟩
theorem WI.first {n : Net} {a b value s0 : Int} {left : List Int} (hs : isNodeP n s0) (h1 : 0 < value → s0 = a) (hab : a ≠ b) (h2 : value = 0 → ∃ q, q < n.links.length ∧ (n.links.getD q default).frm = s0 ∧ 0 < left.getD q default) : WI n a b value left [s0] [] (mset s0 0 ([] : List (Int × Int))) s0 := by
  refine ⟨⟨rfl, fun j hj => by simp at hj, fun j hj => by simp at hj, fun j hj => by simp at hj, fun j hj => by simp at hj⟩, rfl, by simp, fun v hv => ?_, fun v i => ?_, fun hv hm => ?_, fun hv => h1 hv, fun hv _ => h2 hv⟩
  · rw [List.mem_singleton] at hv
    subst hv; exact hs
  · show (if v = s0 then some (0 : Int) else none) = some i ↔ _
    by_cases c : v = s0
    · rw [if_pos c]
      constructor
      · intro e; cases e; exact ⟨0, rfl, by simp, c.symm⟩
      · rintro ⟨j, rfl, j1, j2⟩
        rw [List.length_singleton] at j1
        rw [show j = 0 by omega]; rfl
    · rw [if_neg c]
      constructor
      · intro e; cases e
      · rintro ⟨j, rfl, j1, j2⟩
        rw [List.length_singleton] at j1
        rw [show j = 0 by omega] at j2
        exact (c j2.symm).elim
  · rw [List.mem_singleton] at hm
    exact hab ((h1 hv).symm.trans hm.symm)
end Go.Proofs.Ytfalnphlgfoflaa
namespace Go.Proofs.Ytfalnphlgfoflaa
open Go Go.RowKit
set_option linter.unusedSimpArgs false
set_option linter.unusedVariables false
theorem index_L0 (k : Nat) (l : List Int) (p : Int → Option Bool) (q : Int → Bool) (hp : ∀ x, x ∈ l → p x = some (q x)) (hl : l.length < 9223372036854775808) : ∀ (m i : Nat), i ≤ l.length → l.length - i < m → (∀ j, j < i → q (l.getD j default) = false) →
    (∃ j : Nat, sslices_IndexFunc_L0 k l p m (i : Int) = some (.inl (j : Int)) ∧ j < l.length ∧ q (l.getD j default) = true) ∨ (sslices_IndexFunc_L0 k l p m (i : Int) = some (.inr ()) ∧ ∀ j, j < l.length → q (l.getD j default) = false) := by
  intro m
  induction m with
  | zero => intro i h1 h2; omega
  | succ m ih =>
    intro i h1 h2 h3
    rw [sslices_IndexFunc_L0]
    by_cases c : (i : Int) < (l.length : Int)
    · have hi : i < l.length := by omega
      rw [if_pos c, if_pos ⟨by omega, c⟩, gx_nat, hp _ (getD_mem hi), Option.bind_some]
      by_cases c2 : q (l.getD i default) = true
      · rw [if_pos c2]
        exact .inl ⟨i, rfl, hi, c2⟩
      · rw [if_neg c2, wr_succ i (by omega)]
        refine ih (i + 1) (by omega) (by omega) fun j hj => ?_
        rcases Nat.lt_succ_iff_lt_or_eq.1 hj with z | z
        · exact h3 j z
        · rw [z]; simpa using c2
    · rw [if_neg c]
      have : i = l.length := by omega
      subst this
      exact .inr ⟨rfl, h3⟩
theorem index_spec {k : Nat} {l : List Int} {p : Int → Option Bool} (q : Int → Bool) (hp : ∀ x, x ∈ l → p x = some (q x)) (hl : l.length < 9223372036854775808) (hk : l.length < k) : (∃ j : Nat, sslices_IndexFunc k l p = some (j : Int) ∧ j < l.length ∧ q (l.getD j default) = true) ∨ (sslices_IndexFunc k l p = some (-1) ∧ ∀ j, j < l.length → q (l.getD j default) = false) := by
  unfold sslices_IndexFunc
  rcases index_L0 k l p q hp hl k 0 (by omega) (by omega) (fun j hj => by omega) with ⟨j, e, h⟩ | ⟨e, h⟩ <;> rw [show ((0 : Nat) : Int) = 0 from rfl] at e <;> rw [e]
  · exact .inl ⟨j, rfl, h⟩
  · exact .inr ⟨rfl, h⟩
def payS (n : Net) (a b : Int) (s : Strand) : Int := if frmK n s.links 0 = a ∧ toK n s.links (s.links.length - 1) = b then s.amount else 0
def payL (n : Net) (a b : Int) (l : List Strand) : Int := (l.map (payS n a b)).sum
theorem payL_app {n : Net} {a b : Int} {l : List Strand} {s : Strand} : payL n a b (l ++ [s]) = payL n a b l + payS n a b s := by
  unfold payL
  rw [List.map_append, List.sum_append]; simp
theorem payL_cons {n : Net} {a b : Int} {l : List Strand} {s : Strand} : payL n a b (s :: l) = payS n a b s + payL n a b l := by
  unfold payL
  rw [List.map_cons, List.sum_cons]
def remN (left : List Int) (value : Int) : Nat := if 0 < value then posN left else posN left - 1
theorem Step.rem {n : Net} {a b value value' : Int} {left left' : List Int} {s : Strand} (hF : FS n a b left value) (h : Step n a b left value s left' value') : remN left' value' + 1 ≤ remN left value := by
  obtain ⟨⟨h1, ⟨h2, h3, _⟩, h4⟩, _, e, hF', hle, h⟩ := h
  have hlen := hF.len
  have v0 := hF.v0
  have v1 := hF'.v0
  have p0 := h3 0 h2
  have e0 : s.amount ≤ left.getD (s.links.getD 0 default).toNat default := h4 0 h2
  have one := posN_one (l := left) (i := (s.links.getD 0 default).toNat) (by have := p0.1; have := p0.2.1; omega) (by omega)
  unfold remN
  rcases h with ⟨rfl, _, g1, g2⟩ | ⟨g1, g2, _, _, g3⟩
  · split <;> omega
  · rw [if_pos g1]
    rcases g3 with g | g
    · rw [if_neg (by omega)]; omega
    · split <;> omega
theorem after_app {l : List Strand} {s : Strand} {x : List Int} : ∀ i, i ≤ l.length → afterL (l ++ [s]) x i = afterL l x i
  | 0, _ => rfl
  | i + 1, h => by rw [afterL, afterL, after_app i (by omega), app_lt (by omega)]
structure Inv (n : Net) (a b : Int) (x : List Int) (V : Int) (out : List Strand) (left : List Int) (value : Int) : Prop where
  fs : FS n a b left value
  eq : left = afterL out x out.length
  ok : ∀ i, i < out.length → StrandOk n a b (out.getD i default) (afterL out x i) ∧ (out.getD i default).links.length ≤ 24
  pay : value + payL n a b out = V
  few : out.length + remN left value ≤ n.links.length
theorem Inv.step {n : Net} {a b V value value' : Int} {x left left' : List Int} {out : List Strand} {s : Strand} (hab : a ≠ b) (h : Inv n a b x V out left value) (st : Step n a b left value s left' value') : Inv n a b x V (out ++ [s]) left' value' := by
  have re := st.rem h.fs
  obtain ⟨h1, h24, e, hF', hle, hc⟩ := st
  have few := h.few
  have hp := h.pay
  have hL : (out ++ [s]).length = out.length + 1 := by simp
  refine ⟨hF', ?_, fun i hi => ?_, ?_, by omega⟩
  · rw [hL, afterL, after_app _ (Nat.le_refl _), app_eq, ← h.eq]; exact e
  · rw [hL] at hi
    by_cases c : i < out.length
    · rw [app_lt c, after_app _ (by omega)]; exact h.ok i c
    · have : i = out.length := by omega
      subst this
      rw [app_eq, after_app _ (Nat.le_refl _), ← h.eq]; exact ⟨h1, h24⟩
  · rw [payL_app]
    unfold payS
    rcases hc with ⟨rfl, g1, _⟩ | ⟨_, g2, g3, g4, _⟩
    · rw [if_neg (fun q => hab (q.1.symm.trans (g1.trans q.2)))]; omega
    · rw [if_pos ⟨g3, g4⟩]; omega
theorem outer {k : Nat} {n : Net} {a b V : Int} {fl x : List Int} (hn : RightNet n) (hab : a ≠ b) (ha : isNodeP n a) (hfl : fl.length = n.links.length) (hk : 5000 < k) : ∀ (m : Nat) (value : Int) (left : List Int) (out : List Strand), Inv n a b x V out left value → remN left value < m →
    ∃ r left', sflow_Split_L0 k n a b fl m value left out out.length = some r ∧ Inv n a b x V r left' 0 ∧ ∀ j, j < left'.length → left'.getD j default = 0 := by
  intro m
  induction m with
  | zero => intro value left out h hr; omega
  | succ m ih =>
    intro value left out h hr
    have few := h.few
    have hnl := hn.links
    have hnn := hn.nodes
    have hlen := h.fs.len
    have v0 := h.fs.v0
    have go : ∀ s0, isNodeP n s0 → (0 < value → s0 = a) → (value = 0 → ∃ q, q < n.links.length ∧ (n.links.getD q default).frm = s0 ∧ 0 < left.getD q default) →
        ∃ r left', ((sflow_Split_L1 k n b fl left out out.length k value s0 [] 0 (mset s0 0 ([] : List (Int × Int)))).bind fun o2 => Sum.elim (fun r => some r) (fun s_ => sflow_Split_L0 k n a b fl m s_.1 s_.2.1 s_.2.2.1 s_.2.2.2) o2) = some r ∧ Inv n a b x V r left' 0 ∧ ∀ j, j < left'.length → left'.getD j default = 0 := fun s0 g1 g2 g3 => by
      obtain ⟨s, left', value', e, st⟩ := inner (k := k) (out := out) hn hab h.fs (show fl.length = left.length by omega) hk (by omega) k [s0] [] (mset s0 0 ([] : List (Int × Int))) s0 (WI.first g1 g2 hab g3) (by omega)
      rw [show ([] : List Int).length = 0 from rfl] at e
      rw [e, Option.bind_some, Sum.elim_inr]
      have inv := h.step hab st
      have re := st.rem h.fs
      have := ih value' left' (out ++ [s]) inv (by omega)
      rw [show (out ++ [s]).length = out.length + 1 by simp] at this
      exact this
    rw [sflow_Split_L0]
    by_cases c : value = 0
    · rw [if_pos c, if_pos (by omega)]
      rcases index_spec (k := k) (l := left) (p := fun y => sflow_Split_3 k y) (fun y => decide (0 < y)) (fun _ _ => rfl) (by omega) (by omega) with ⟨j, e, j1, j2⟩ | ⟨e, j1⟩
      · have j2 : 0 < left.getD j default := of_decide_eq_true j2
        have hf := hn.frm j (by omega)
        rw [e, Option.bind_some, if_neg (by omega), if_pos (by omega), Option.bind_some, Sum.elim_inr, gx_nat n.links j]
        exact go _ hf (fun q => by omega) fun _ => ⟨j, by omega, rfl, j2⟩
      · rw [e, Option.bind_some, if_pos (by omega), if_pos rfl, Option.bind_some, Sum.elim_inl, Option.bind_some, Sum.elim_inl]
        subst c
        refine ⟨out, left, rfl, h, fun j hj => ?_⟩
        have := of_decide_eq_false (j1 j hj)
        have := (h.fs.room j hj).1
        omega
    · rw [if_neg c, Option.bind_some, Sum.elim_inr]
      exact go a ha (fun _ => rfl) fun q => (c q).elim
theorem posN_len : ∀ l : List Int, posN l ≤ l.length := fun l => List.countP_le_length
theorem flow_FS {n : Net} {f : Failure} {a b : Int} {x : List Int} (hn : RightNet n) (ha : isNodeP n a) (hb : isNodeP n b) (h : IsFlow n f a b x) : FS n a b x (exS n.links x a) := by
  have hx := h.2.1
  have room : Room x := fun j hj => by
    obtain ⟨g1, g2, _⟩ := h.2.2.1 j (by omega)
    have := hn.cap j (by omega)
    omega
  have hbd := (exS_bound hn hx a n.links.length (Nat.le_refl _) h.2.2.1).2
  rw [List.take_of_length_le (Nat.le_refl _), List.take_of_length_le (by omega)] at hbd
  have hnl := hn.links
  have s := flow_sum (fun v => if v = b then 1 else 0) hn ha hb h
  have hw := wsum_all (fun v => if v = b then 1 else 0) hn hx
  have h1 := sumN_one (g := fun v => (if (v : Int) = b then (1 : Int) else 0) * exS n.links x v) (n := n.nodes.length) (c := b.toNat) (by have := hb.1; have := hb.2; omega) (fun v _ hv => by rw [if_neg (by have := hb.1; omega), Int.zero_mul])
  have eb : ((b.toNat : Nat) : Int) = b := by have := hb.1; omega
  rw [eb, if_pos rfl, Int.one_mul] at h1
  rw [if_neg h.1, if_pos rfl, ← hw, h1] at s
  refine ⟨hx, room, ⟨h.2.2.2.1, by omega⟩, fun v hv => ?_⟩
  by_cases c : v = a
  · subst c; rw [if_pos rfl, if_neg h.1]; omega
  · rw [if_neg c]
    by_cases d : v = b
    · subst d; rw [if_pos rfl]; omega
    · rw [if_neg d]
      have := h.2.2.2.2 v.toNat (by have := hv.1; have := hv.2; omega)
      rw [show ((v.toNat : Nat) : Int) = v by have := hv.1; omega] at this
      rw [this c d]; rfl
theorem sum_L0 {k : Nat} {n : Net} {a b : Int} {l : List Strand} (hl : l.length ≤ 1000) (ho : ∀ i, i < l.length → (0 < (l.getD i default).links.length ∧ (l.getD i default).links.length ≤ 24) ∧ (∀ j, j < (l.getD i default).links.length → 0 ≤ (l.getD i default).links.getD j default ∧ (l.getD i default).links.getD j default < (n.links.length : Int)) ∧ 1 ≤ (l.getD i default).amount ∧ (l.getD i default).amount ≤ 1048576) : ∀ (m i : Nat) (value : Int), i ≤ l.length → l.length - i < m → -(i : Int) * 1048576 ≤ value → value ≤ 25165824 →
    sl_FlowSplitsIntoStrands_L0 k n a b l m value (i : Int) = some (value - payL n a b (l.drop i)) := by
  intro m
  induction m with
  | zero => intro i value h1 h2; omega
  | succ m ih =>
    intro i value h1 h2 h3 h4
    rw [sl_FlowSplitsIntoStrands_L0]
    by_cases c : (i : Int) < (l.length : Int)
    · have hi : i < l.length := by omega
      obtain ⟨⟨o1, o2⟩, o3, o4, o5⟩ := ho i hi
      have ed : l.drop i = l.getD i default :: l.drop (i + 1) := by rw [List.drop_eq_getElem_cons hi, getD_of hi]
      rw [if_pos c, if_pos ⟨by omega, c⟩, gx_nat l i]
      have ew : IntKind.i64.wrap (((l.getD i default).links.length : Int) - 1) = (((l.getD i default).links.length - 1 : Nat) : Int) := by rw [wr64 (by omega)]; omega
      have p0 := o3 0 o1
      have p1 := o3 ((l.getD i default).links.length - 1) (by omega)
      rw [if_pos (by omega), show gx (l.getD i default).links 0 = (l.getD i default).links.getD 0 default from rfl, if_pos p0, ew, gx_nat (l.getD i default).links, ed, payL_cons]
      have ef : (gx n.links ((l.getD i default).links.getD 0 default)).frm = frmK n (l.getD i default).links 0 := rfl
      have et : (gx n.links ((l.getD i default).links.getD ((l.getD i default).links.length - 1) default)).to = toK n (l.getD i default).links ((l.getD i default).links.length - 1) := rfl
      rw [ef, et, wr_succ i (by omega)]
      unfold payS
      by_cases c1 : frmK n (l.getD i default).links 0 = a
      · rw [if_pos c1, if_pos (by omega), if_pos p1]
        by_cases c2 : toK n (l.getD i default).links ((l.getD i default).links.length - 1) = b
        · rw [if_pos c2, if_pos ⟨c1, c2⟩, wr64 (by omega), ih (i + 1) _ (by omega) (by omega) (by omega) (by omega)]
          congr 1; omega
        · rw [if_neg c2, if_neg (fun q => c2 q.2), ih (i + 1) _ (by omega) (by omega) (by omega) (by omega)]
          congr 1; omega
      · rw [if_neg c1, if_neg (fun q => c1 q.1), ih (i + 1) _ (by omega) (by omega) (by omega) (by omega)]
        congr 1; omega
    · rw [if_neg c]
      have : i = l.length := by omega
      subst this
      rw [List.drop_length]
      congr 1
      show value = value - 0
      omega
theorem law_Splits (n : Net) (a b : Int) (x : List Int) (hh : Held n) : ∃ k, sl_FlowSplitsIntoStrands k n a b x = some true := by
  refine ⟨9223372036854775808, ?_⟩
  generalize hk : 9223372036854775808 = k
  have hk : 9223372036854775808 ≤ k := by omega
  unfold sl_FlowSplitsIntoStrands
  obtain ⟨r, h1, h2⟩ := right_spec hk n ⟨[], -1⟩ a b (by simp) hh
  rw [h1, Option.bind_some]
  by_cases hr : r = true
  · rw [if_pos hr, Option.bind_some]
    obtain ⟨hn, hfl, ha, hb⟩ := h2 hr
    have hnl := hn.links
    have hnn := hn.nodes
    by_cases c0 : (40 : Int) < (x.length : Int)
    · rw [if_pos (decide_eq_true c0)]
    rw [if_neg (by simpa using c0), Check_spec hn ha hb (by simp) (by simp; omega) (by omega), Option.bind_some]
    by_cases hf : IsFlow n ⟨[], -1⟩ a b x
    · rw [if_pos (decide_eq_true hf)]
      have fs := flow_FS hn ha hb hf
      have hx := hf.2.1
      have hv : flowVal n ⟨[], -1⟩ a b x = exS n.links x a := by unfold flowVal; rw [if_pos hf]
      have i0 : Inv n a b x (exS n.links x a) [] x (exS n.links x a) := by
        refine ⟨fs, rfl, fun i hi => by simp at hi, by show _ + (0 : Int) = _; omega, ?_⟩
        have := posN_len x
        show 0 + remN x (exS n.links x a) ≤ _
        unfold remN
        split <;> omega
      have hfew := i0.few
      obtain ⟨l, left', e, inv, hz⟩ := outer (k := k) (fl := x) hn hf.1 ha hx (by omega) k _ _ _ i0 (by omega)
      rw [show ([] : List Strand).length = 0 from rfl] at e
      have es : sflow_Split k n a b x = some l := by
        unfold sflow_Split
        rw [if_pos (by omega), Check_spec hn ha hb (by simp) (by simp; omega) (by omega), Option.bind_some, hv]
        exact e
      rw [es, Option.bind_some]
      have few := inv.few
      have hok : StrandsOk n a b x l := ⟨fun i hi => (inv.ok i hi).1, fun j hj => by rw [← inv.eq]; exact hz j (by rw [inv.fs.len]; omega), by omega⟩
      obtain ⟨r2, s1, s2⟩ := fStrands_spec (k := k) (n := n) (a := a) (b := b) (x := x) (l := l) hnl hx fs.room (by omega) (fun j hj => by have := (inv.ok j hj).2; omega) (by omega)
      rw [s1, Option.bind_some, if_pos (s2.2 hok), hv]
      have hs := sum_L0 (k := k) (n := n) (a := a) (b := b) (l := l) (by omega) (fun i hi => by
        obtain ⟨⟨g1, ⟨g2, g3, _⟩, g4⟩, g5⟩ := inv.ok i hi
        refine ⟨⟨g2, g5⟩, fun j hj => ⟨(g3 j hj).1, (g3 j hj).2.1⟩, g1, ?_⟩
        have rm := after_room (n := n) (a := a) (b := b) (l := l) hx fs.room i fun j hj => (inv.ok j (by omega)).1
        have q0 := g4 0 g2
        have b0 := g3 0 g2
        have := (rm ((l.getD i default).links.getD 0 default).toNat (by rw [afterL_len]; have := b0.1; have := b0.2.1; omega)).2
        have q1 : (l.getD i default).amount ≤ (afterL l x i).getD ((l.getD i default).links.getD 0 default).toNat default := q0
        omega) k 0 (exS n.links x a) (by omega) (by omega) (by have := fs.v0; omega) (fs.v0).2
      rw [show ((0 : Nat) : Int) = 0 from rfl] at hs
      rw [hs, Option.bind_some]
      have hp := inv.pay
      have : exS n.links x a - payL n a b (l.drop 0) = 0 := by rw [List.drop_zero]; omega
      rw [this]; rfl
    · rw [if_neg (by simpa using hf)]
  · rw [if_neg hr, Option.bind_some]; rfl
end Go.Proofs.Ytfalnphlgfoflaa
