/- Part 9 of the proof of TableLooksUp (several texts in one; no further condition). -/
import Derived.Test.YtjgbkegkcbcjaaaGreatZH
set_option linter.unusedSimpArgs false
set_option linter.unusedVariables false
set_option linter.unusedSectionVars false
namespace Go.Proofs.YtjgbkegkcbcjaaaGreat
open Go Go.RowKit
def applyH (m : Pat) (h : Ar 10) : Ar 10 := (sbits_Apply 11 m h).getD h
theorem applyH_spec {m : Pat} {h : Ar 10} (hp : rightPat m = true) (hh : rightHead h = true) : Applied m h (applyH m h) := by
  obtain ⟨x, h1, h2⟩ := bits_Apply hp hh (show 10 < 11 by decide)
  unfold applyH
  rw [h1]; exact h2
theorem bits_ApplyH {k : Nat} {m : Pat} {h : Ar 10} (hp : rightPat m = true) (hh : rightHead h = true) (hk : 10 < k) : sbits_Apply k m h = some (applyH m h) := by
  obtain ⟨x, h1, h2⟩ := bits_Apply hp hh hk
  rw [h1, h2.uniq (applyH_spec hp hh)]
theorem r06_ApplyH {k : Nat} {m : Pat} {h : Ar 10} (hp : rightPat m = true) (hh : rightHead h = true) (hk : 160 < k) : sr06_Apply k m h = some (applyH m h) := by
  obtain ⟨x, h1, h2⟩ := r06_Apply hp hh hk
  rw [h1, h2.uniq (applyH_spec hp hh)]
/-! links that are up -/
def upB (n : Net) (f : Failure) (v : Int) : Bool := decide ((gx n.links v).frm ≠ f.node) && (decide ((gx n.links v).to ≠ f.node) && !decide (v ∈ f.links))
theorem any_mem (l : List Int) (v : Int) : (l.any fun x => decide (v = x)) = decide (v ∈ l) := by
  rw [Bool.eq_iff_iff]
  simp only [List.any_eq_true, decide_eq_true_eq]
  constructor
  · rintro ⟨x, hx, rfl⟩; exact hx
  · intro h; exact ⟨v, h, rfl⟩
theorem Contains_spec {k : Nat} (l : List Int) (v : Int) (hl : l.length < big) (hk : l.length < k) : sslices_Contains_int k l v = some (decide (v ∈ l)) := by
  unfold sslices_Contains_int sslices_Index_int
  rw [index_loop (L := sslices_Index_int_L0 k l v) l (fun x => decide (v = x)) hl (fun m j h => by
    rw [sslices_Index_int_L0, if_pos (lt_cast h), if_pos ⟨by omega, lt_cast h⟩, gx_at h]
    simp only [decide_eq_true_eq]) (fun m => by rw [sslices_Index_int_L0, if_neg (by omega)]) hk, Option.bind_some, idxB_any, any_mem]
theorem graph_Up {k : Nat} (n : Net) (f : Failure) (v : Int) (hv : 0 ≤ v ∧ v < (n.links.length : Int)) (hl : f.links.length < big) (hk : big ≤ k) : sgraph_Up k n f v = some (upB n f v) := by
  unfold sgraph_Up upB
  rw [if_pos hv, Contains_spec _ _ hl (Nat.lt_of_lt_of_le hl hk)]
  by_cases c1 : (gx n.links v).frm = f.node
  · rw [if_neg (fun h => h c1)]; simp [c1]
  · rw [if_pos c1]
    by_cases c2 : (gx n.links v).to = f.node
    · rw [if_neg (fun h => h c2)]; simp [c2]
    · rw [if_pos c2]; simp [c1, c2]
theorem r09_Up {k : Nat} (n : Net) (f : Failure) (v : Int) (hv : 0 ≤ v ∧ v < (n.links.length : Int)) (hl : f.links.length < big) (hk : big ≤ k) : sr09_Up k n f v = some (upB n f v) := by
  unfold sr09_Up upB
  rw [loop_all (L := sr09_Up_L0 k f v) f.links false (fun x => !decide (x = v)) hl (fun m j h => by
    rw [sr09_Up_L0, if_pos (lt_cast h), if_pos ⟨by omega, lt_cast h⟩, gx_at h]
    by_cases c : f.links[j] = v
    · rw [if_pos c, if_neg (by simp [c])]
    · rw [if_neg c, if_pos (by simp [c])]) (fun m => by rw [sr09_Up_L0, if_neg (by omega)]) (Nat.lt_of_lt_of_le hl hk), Option.bind_some]
  have e : (f.links.all fun x => !decide (x = v)) = !decide (v ∈ f.links) := by
    rw [Bool.eq_iff_iff]
    simp only [List.all_eq_true, Bool.not_eq_true', decide_eq_false_iff_not]
    constructor
    · intro h hm; exact h v hm rfl
    · rintro h x hx rfl; exact h hx
  rw [e]
  by_cases c0 : v ∈ f.links
  · simp [c0]
  · simp only [decide_eq_false c0, Bool.not_false, if_true, Sum.elim_inr, if_pos hv, Bool.and_true]
    by_cases c1 : (gx n.links v).frm = f.node
    · rw [if_neg (fun h => h c1)]; simp [c1]
    · rw [if_pos c1]; simp [c1]
def okA (n : Net) (f : Failure) (a : Alt) : Bool := decide (a.link < 0) || upB n f a.link
theorem Send_1 {k : Nat} (n : Net) (f : Failure) (a : Alt) (hv : a.link < (n.links.length : Int)) (hl : f.links.length < big) (hk : big ≤ k) : stable_Send_1 k a n f = some (okA n f a) := by
  unfold stable_Send_1 okA
  by_cases c : a.link < 0
  · rw [if_pos c, decide_eq_true c]; rfl
  · rw [if_neg c, decide_eq_false c, graph_Up n f _ ⟨by omega, hv⟩ hl hk]; rfl
theorem find_idx {α : Type} [Inhabited α] (q : α → Bool) : ∀ (l : List α), (l.find? q = none ∧ idxB q l = -1) ∨ ∃ i : Nat, ∃ h : i < l.length, idxB q l = (i : Int) ∧ l.find? q = some l[i]
  | [] => .inl ⟨rfl, rfl⟩
  | x :: l => by
    unfold idxB
    rw [List.findIdx?_cons, List.find?_cons]
    cases hq : q x with
    | true => exact .inr ⟨0, by simp, rfl, rfl⟩
    | false =>
      rcases find_idx q l with ⟨h1, h2⟩ | ⟨i, hi, h1, h2⟩
      · left
        unfold idxB at h2
        refine ⟨h1, ?_⟩
        cases hf : l.findIdx? q with
        | none => rfl
        | some j => rw [hf] at h2; simp at h2; try omega
      · right
        unfold idxB at h1
        refine ⟨i + 1, by simpa using hi, ?_, by simpa using h2⟩
        cases hf : l.findIdx? q with
        | none => rw [hf] at h1; simp at h1; try omega
        | some j => rw [hf] at h1; simp at h1 ⊢; omega
def out1 (n : Net) (f : Failure) (h : Ar 10) (l : List Alt) : Option (Ar 10) := (l.find? (okA n f)).map fun a => applyH a.mod h
def sendL (n : Net) (f : Failure) (outs : List (List Alt)) (h : Ar 10) : List (Ar 10) := outs.filterMap (out1 n f h)
structure CanSend (n : Net) (r : Rule) : Prop where
  len : r.outs.length ≤ 16
  alts : ∀ l, l ∈ r.outs → l.length ≤ 8
  link : ∀ l, l ∈ r.outs → ∀ a, a ∈ l → a.link < (n.links.length : Int)
  mod : ∀ l, l ∈ r.outs → ∀ a, a ∈ l → rightPat a.mod = true
theorem canSend_of {n : Net} {steps : Int} {r : Rule} (h : formed n steps r = true) : CanSend n r := by
  unfold formed at h
  simp only [Bool.and_eq_true, decide_eq_true_eq] at h
  obtain ⟨_, _, ⟨_, _, h3⟩, h4⟩ := h
  have h5 := fun l hl => (List.all_eq_true.1 h4) l hl
  have h6 : ∀ l, l ∈ r.outs → (l.length ≤ 8 ∧ ∀ a, a ∈ l → a.link < (n.links.length : Int) ∧ rightPat a.mod = true) := by
    intro l hl
    have := h5 l hl
    unfold fOut at this
    simp only [Bool.and_eq_true, decide_eq_true_eq] at this
    refine ⟨this.1.2, fun a ha => ?_⟩
    have h7 := (List.all_eq_true.1 this.2) a ha
    unfold fAlt at h7
    simp only [Bool.and_eq_true, decide_eq_true_eq] at h7
    exact ⟨h7.1.2, h7.2⟩
  exact ⟨h3, fun l hl => (h6 l hl).1, fun l hl a ha => ((h6 l hl).2 a ha).1, fun l hl a ha => ((h6 l hl).2 a ha).2⟩
theorem take_succ_filterMap {α β : Type} (g : α → Option β) {l : List α} {i : Nat} (h : i < l.length) : (l.take (i + 1)).filterMap g = (l.take i).filterMap g ++ (g l[i]).toList := by
  rw [List.take_add_one, List.getElem?_eq_getElem h, Option.toList_some, List.filterMap_append]
  cases hg : g l[i] <;> simp [hg]
theorem filterMap_le {α β : Type} (g : α → Option β) (l : List α) : (l.filterMap g).length ≤ l.length := List.length_filterMap_le _ _
theorem table_Send {k : Nat} (n : Net) (f : Failure) (r : Rule) (h : Ar 10) (hr : CanSend n r) (hh : rightHead h = true) (hl : f.links.length < big) (hk : big ≤ k) : stable_Send k n f r h = some (sendL n f r.outs h) := by
  have key : ∀ m i (l : List (Ar 10)), i ≤ r.outs.length → r.outs.length - i < m → l = (r.outs.take i).filterMap (out1 n f h) → stable_Send_L0 k n f r h m (i : Int) l l.length = some (sendL n f r.outs h, (sendL n f r.outs h).length) := by
    intro m
    induction m with
    | zero => intro i l h1 h2; omega
    | succ m ih =>
      intro i l h1 h2 h3
      have hr16 := hr.len
      rw [stable_Send_L0]
      by_cases c : i < r.outs.length
      · have hli : l.length ≤ i := by rw [h3]; exact Nat.le_trans (filterMap_le _ _) (by rw [List.length_take]; omega)
        have hx := List.getElem_mem c
        have h8 := hr.alts _ hx
        rw [if_pos (lt_cast c), if_pos ⟨by omega, lt_cast c⟩, gx_at c, IndexFunc_Alt_spec r.outs[i] _ (okA n f) (fun a ha => Send_1 n f a (hr.link _ hx a ha) hl hk) (by simp only [big]; omega) (by simp only [big] at hk; omega), Option.bind_some, wr_succ i (by omega)]
        have hstep := take_succ_filterMap (out1 n f h) c
        rcases find_idx (okA n f) r.outs[i] with ⟨e1, e2⟩ | ⟨j, hj, e1, e2⟩
        · rw [e2, if_neg (by decide)]
          refine ih (i + 1) l (by omega) (by omega) ?_
          rw [hstep, ← h3]
          unfold out1
          rw [e1]; simp
        · rw [e1, if_pos (by omega), if_pos ⟨by omega, lt_cast hj⟩, gx_at hj, bits_ApplyH (hr.mod _ hx _ (List.getElem_mem hj)) hh (by simp only [big] at hk; omega), Option.bind_some, if_pos (by omega)]
          have := ih (i + 1) (l ++ [applyH (r.outs[i][j]).mod h]) (by omega) (by omega) (by
            rw [hstep, ← h3]
            unfold out1
            rw [e2]; rfl)
          rw [List.length_append, List.length_singleton] at this
          exact this
      · obtain rfl : i = r.outs.length := by omega
        rw [if_neg (by omega)]
        rw [List.take_length] at h3
        rw [h3]; rfl
  unfold stable_Send
  have := key k 0 [] (Nat.zero_le _) (by have := hr.len; simp only [big] at hk; omega) rfl
  change stable_Send_L0 k n f r h k 0 [] 0 = _ at this
  rw [this, Option.bind_some, if_pos rfl]
theorem r25_Send {k : Nat} (n : Net) (f : Failure) (r : Rule) (h : Ar 10) (hr : CanSend n r) (hh : rightHead h = true) (hl : f.links.length < big) (hk : big ≤ k) : sr25_Send k n f r h = some (sendL n f r.outs h) := by
  have hr16 := hr.len
  -- one output
  have inner : ∀ (j : Nat) (hj : j < r.outs.length) (m i : Nat) (sent : Bool) (l : List (Ar 10)), i ≤ r.outs[j].length → r.outs[j].length - i < m → (sent = false → l.length ≤ 19) →
      sr25_Send_L1 k n f r h (j : Int) m sent (i : Int) l l.length = some (l ++ (if sent = true then [] else (out1 n f h (r.outs[j].drop i)).toList), (l ++ (if sent = true then [] else (out1 n f h (r.outs[j].drop i)).toList)).length) := by
    intro j hj m
    have hx := List.getElem_mem hj
    have h8 := hr.alts _ hx
    induction m with
    | zero => intro i sent l h1 h2; omega
    | succ m ih =>
      intro i sent l h1 h2 h20
      rw [sr25_Send_L1, if_pos ⟨by omega, lt_cast hj⟩, gx_at hj]
      by_cases c : i < r.outs[j].length
      · rw [if_pos (lt_cast c), if_pos ⟨by omega, lt_cast c⟩, gx_at c, wr_succ i (by omega)]
        have hm := List.getElem_mem c
        have hok : (if (r.outs[j][i]).link < 0 then some true else ((sr09_Up k n f (r.outs[j][i]).link).bind fun rUp => some rUp)) = some (okA n f r.outs[j][i]) := by
          unfold okA
          by_cases d : (r.outs[j][i]).link < 0
          · rw [if_pos d, decide_eq_true d]; rfl
          · rw [if_neg d, decide_eq_false d, r09_Up n f _ ⟨by omega, hr.link _ hx _ hm⟩ hl hk]; rfl
        rw [hok, Option.bind_some, List.drop_eq_getElem_cons c]
        unfold out1
        rw [List.find?_cons]
        cases ho : okA n f r.outs[j][i] with
        | false =>
          simp only [Bool.false_eq_true, if_false, Option.bind_some]
          exact ih (i + 1) sent l (by omega) (by omega) h20
        | true =>
          simp only [if_true, Option.bind_some]
          cases sent with
          | true =>
            simp only [Bool.not_true, Bool.false_eq_true, if_false]
            have := ih (i + 1) true l (by omega) (by omega) (fun hq => by cases hq)
            simpa using this
          | false =>
            simp only [Bool.not_false, if_true, Bool.false_eq_true, if_false]
            rw [r06_ApplyH (hr.mod _ hx _ hm) hh (by simp only [big] at hk; omega), Option.bind_some, if_pos (by have := h20 rfl; omega)]
            have := ih (i + 1) true (l ++ [applyH (r.outs[j][i]).mod h]) (by omega) (by omega) (fun hq => by cases hq)
            rw [List.length_append, List.length_singleton] at this
            rw [this]
            simp
      · rw [if_neg (by omega), List.drop_of_length_le (by omega)]
        unfold out1
        simp
  have key : ∀ m j (l : List (Ar 10)), j ≤ r.outs.length → r.outs.length - j < m → l = (r.outs.take j).filterMap (out1 n f h) → sr25_Send_L0 k n f r h m (j : Int) l l.length = some (sendL n f r.outs h, (sendL n f r.outs h).length) := by
    intro m
    induction m with
    | zero => intro i l h1 h2; omega
    | succ m ih =>
      intro j l h1 h2 h3
      rw [sr25_Send_L0]
      by_cases c : j < r.outs.length
      · have hli : l.length ≤ j := by rw [h3]; exact Nat.le_trans (filterMap_le _ _) (by rw [List.length_take]; omega)
        have h8 := hr.alts _ (List.getElem_mem c)
        have hin := inner j c k 0 false l (Nat.zero_le _) (by simp only [big] at hk; omega) (fun _ => by omega)
        rw [show ((0 : Nat) : Int) = 0 from rfl] at hin
        rw [if_pos (lt_cast c), hin]
        simp only [Option.bind_some, Bool.false_eq_true, if_false, List.drop_zero]
        rw [wr_succ j (by omega)]
        refine ih (j + 1) _ (by omega) (by omega) ?_
        rw [take_succ_filterMap (out1 n f h) c, ← h3]
      · obtain rfl : j = r.outs.length := by omega
        rw [if_neg (by omega)]
        rw [List.take_length] at h3
        rw [h3]; rfl
  unfold sr25_Send
  have := key k 0 [] (Nat.zero_le _) (by simp only [big] at hk; omega) rfl
  change sr25_Send_L0 k n f r h k 0 [] 0 = _ at this
  rw [this, Option.bind_some, if_pos rfl]
/-! looking up -/
def lookT (t : List Rule) (h : Ar 10) : Int := idxB (fun r => matchB r.mat h) t
theorem IndexFunc_Rule_spec {k : Nat} (l : List Rule) (f : Rule → Option Bool) (q : Rule → Bool) (hf : ∀ x, x ∈ l → f x = some (q x)) (hl : l.length < big) (hk : l.length < k) : sslices_IndexFunc_Rule k l f = some (idxB q l) := by
  unfold sslices_IndexFunc_Rule
  exact index_loop l q hl (fun m j h => by rw [sslices_IndexFunc_Rule_L0, if_pos (lt_cast h), if_pos ⟨by omega, lt_cast h⟩, gx_at h, hf _ (List.getElem_mem h), Option.bind_some]) (fun m => by rw [sslices_IndexFunc_Rule_L0, if_neg (by omega)]) hk
theorem table_Lookup {k : Nat} (t : List Rule) (h : Ar 10) (hp : ∀ r, r ∈ t → rightPat r.mat = true) (hh : rightHead h = true) (hl : t.length < big) (hk : big ≤ k) : stable_Lookup k t h = some (lookT t h) := by
  unfold stable_Lookup
  rw [IndexFunc_Rule_spec t _ (fun r => matchB r.mat h) (fun r hr => by unfold stable_Lookup_1; rw [bits_Match (hp r hr) hh (by simp only [big] at hk; omega)]; rfl) hl (Nat.lt_of_lt_of_le hl hk)]; rfl
theorem r25_Lookup {k : Nat} (t : List Rule) (h : Ar 10) (hp : ∀ r, r ∈ t → rightPat r.mat = true) (hh : rightHead h = true) (hl : t.length < big) (hk : big ≤ k) : sr25_Lookup k t h = some (lookT t h) := by
  unfold sr25_Lookup
  exact index_loop t (fun r => matchB r.mat h) hl (fun m j hj => by rw [sr25_Lookup_L0, if_pos (lt_cast hj), if_pos ⟨by omega, lt_cast hj⟩, gx_at hj, r06_Match (hp _ (List.getElem_mem hj)) hh (by simp only [big] at hk; omega), Option.bind_some]) (fun m => by rw [sr25_Lookup_L0, if_neg (by omega)]) (Nat.lt_of_lt_of_le hl hk)
end Go.Proofs.YtjgbkegkcbcjaaaGreat
namespace Go.Proofs.YtjgbkegkcbcjaaaGreat
open Go Go.RowKit
theorem ChkF_L0 (k : Nat) (n : Net) (f : Failure) (hl : f.links.length < 9223372036854775808) : ∀ (m i : Nat), i ≤ f.links.length → f.links.length - i < m → (∀ j, j < i → (j : Int) ≤ f.links.getD j default ∧ f.links.getD j default < (n.links.length : Int)) → ∃ r, sr09_CheckFailure_L0 k n f m (i : Int) = some r ∧ ((r = .inr () ∧ f.links.length ≤ n.links.length) ∨ r = .inl 1) := by
  intro m
  induction m with
  | zero => intro i h1 h2; omega
  | succ m ih =>
    intro i h1 h2 h3
    rw [sr09_CheckFailure_L0]
    by_cases c : (i : Int) < (f.links.length : Int)
    · have hi : i < f.links.length := by omega
      rw [if_pos c, if_pos ⟨by omega, c⟩, wr_succ i (by omega), gx_nat f.links i]
      have next : (i : Int) ≤ f.links.getD i default → f.links.getD i default < (n.links.length : Int) → _ := fun q q' => ih (i + 1) (by omega) (by omega) fun j hj => by rcases Nat.lt_succ_iff_lt_or_eq.1 hj with p | p; exact h3 j p; rw [p]; exact ⟨q, q'⟩
      by_cases q1 : f.links.getD i default < 0
      · rw [if_pos q1]; exact ⟨_, rfl, .inr rfl⟩
      · rw [if_neg q1]
        by_cases q2 : (n.links.length : Int) ≤ f.links.getD i default
        · rw [if_pos q2]; exact ⟨_, rfl, .inr rfl⟩
        · rw [if_neg q2]
          by_cases q3 : 0 < (i : Int)
          · have e1 : IntKind.i64.wrap ((i : Int) - 1) = ((i - 1 : Nat) : Int) := by rw [wr64 (by omega)]; omega
            rw [if_pos q3, e1, if_pos ⟨by omega, by omega⟩, gx_nat f.links (i - 1)]
            by_cases q4 : f.links.getD i default ≤ f.links.getD (i - 1) default
            · rw [if_pos q4]; exact ⟨_, rfl, .inr rfl⟩
            · rw [if_neg q4]
              have := h3 (i - 1) (by omega)
              exact next (by omega) (by omega)
          · rw [if_neg q3]
            exact next (by omega) (by omega)
    · rw [if_neg c]
      refine ⟨_, rfl, .inl ⟨rfl, ?_⟩⟩
      by_cases h0 : f.links.length = 0
      · omega
      · have := h3 (f.links.length - 1) (by omega)
        omega
theorem ChkF_spec {k : Nat} (hk : 9223372036854775808 ≤ k) (n : Net) (f : Failure) (hl : f.links.length < 9223372036854775808) : ∃ r, sr09_CheckFailure k n f = some r ∧ (r = 0 → f.links.length ≤ n.links.length) := by
  unfold sr09_CheckFailure
  obtain ⟨r, h1, h2⟩ := ChkF_L0 k n f hl k 0 (by omega) (by omega) (fun j hj => by omega)
  rw [show ((0 : Nat) : Int) = 0 from rfl] at h1
  rw [h1, Option.bind_some, isNode9_spec, Option.bind_some]
  rcases h2 with ⟨rfl, h2⟩ | rfl
  · simp only [Sum.elim_inr]
    (repeat' split) <;> exact ⟨_, rfl, fun _ => h2⟩
  · exact ⟨1, rfl, fun h => by simp at h⟩
theorem findSome_none {α β : Type} {c : α → Option β} : ∀ {l : List α}, l.findSome? c = none → ∀ x, x ∈ l → c x = none
  | [], _, x, hx => by cases hx
  | y :: l, h, x, hx => by
    rw [List.findSome?_cons] at h
    cases hc : c y with
    | some b => rw [hc] at h; cases h
    | none =>
      rw [hc] at h
      cases hx with
      | head => exact hc
      | tail _ hx => exact findSome_none h x hx
theorem checkT_ok {n : Net} {steps : Int} {t : List Rule} (h : (checkT n steps t).2 = 0) : t.length ≤ 4000 ∧ ∀ j, j < t.length → goodAt n steps t j = true := by
  unfold checkT at h
  by_cases c1 : steps < 0 ∨ 1000 < steps
  · rw [if_pos c1] at h; cases h
  · rw [if_neg c1] at h
    by_cases c2 : 4000 < t.length
    · rw [if_pos c2] at h; cases h
    · rw [if_neg c2] at h
      refine ⟨by omega, fun j hj => ?_⟩
      cases hf : (List.range t.length).findSome? (fun j => if goodAt n steps t j = true then none else some ((j : Int), (1 : Int))) with
      | some r =>
        rw [hf] at h
        obtain ⟨x, _, hx⟩ := List.exists_of_findSome?_eq_some hf
        simp only at h
        split at hx
        · cases hx
        · cases hx; cases h
      | none =>
        have := findSome_none hf j (List.mem_range.2 hj)
        cases hg : goodAt n steps t j with
        | true => rfl
        | false => rw [hg] at this; simp at this
theorem formed_of {n : Net} {steps : Int} {t : List Rule} (h : (checkT n steps t).2 = 0) : ∀ r, r ∈ t → formed n steps r = true := by
  intro r hr
  obtain ⟨j, hj, rfl⟩ := List.getElem_of_mem hr
  have := (checkT_ok h).2 j hj
  unfold goodAt at this
  rw [List.getD_eq_getElem?_getD, List.getElem?_eq_getElem hj] at this
  simp only [Bool.and_eq_true] at this
  exact this.1
theorem right_of {n : Net} {steps : Int} {r : Rule} (h : formed n steps r = true) : rightPat r.mat = true := by
  unfold formed at h
  simp only [Bool.and_eq_true] at h
  exact h.2.1
end Go.Proofs.YtjgbkegkcbcjaaaGreat
namespace Go.Proofs.YtjgbkegkcbcjaaaGreat
open Go Go.RowKit
set_option maxRecDepth 100000
def sl_TableLooksUp_L1 (k : Nat) (rSend : List (Ar 10)) (rSend2 : List (Ar 10)) : Nat → Int → Option (Bool ⊕ Unit)
 | 0, _ => none
 | m + 1, i2 => (if i2 < (rSend.length : Int) then (if (0 : Int) ≤ i2 ∧ i2 < (rSend.length : Int) then (if (0 : Int) ≤ i2 ∧ i2 < (rSend2.length : Int) then (if (gx rSend i2) = (gx rSend2 i2) then sl_TableLooksUp_L1 k rSend rSend2 m (IntKind.i64.wrap (i2 + 1)) else some (.inl false)) else none) else none) else some (.inr ()))
def sl_TableLooksUp_L0 (k : Nat) (n : Net) (f_ : Failure) (t : List Rule) (h_ : Ar 10) : Nat → Int → Option (Bool ⊕ Unit)
 | 0, _ => none
 | m + 1, i => (if i < (t.length : Int) then (((if (0 : Int) ≤ i ∧ i < (t.length : Int) then ((stable_Send k n f_ (⟨(gx t i).prio, ((gx t i).mat), (gx t i).step, (gx t i).outs⟩ : Rule) h_).bind fun rSend => ((sr25_Send k n f_ (⟨(gx t i).prio, ((gx t i).mat), (gx t i).step, (gx t i).outs⟩ : Rule) h_).bind fun rSend2 => (if (rSend.length : Int) ≠ (rSend2.length : Int) then some (.inl false) else ((sl_TableLooksUp_L1 k rSend rSend2 k 0 : Option (Bool ⊕ Unit)).bind fun o => Sum.elim (fun r => some (.inl r)) (fun s_4 => some (.inr ())) o)))) else none) : Option (Bool ⊕ Unit)).bind fun o2 => Sum.elim (fun r => some (.inl r)) (fun s_3 => sl_TableLooksUp_L0 k n f_ t h_ m (IntKind.i64.wrap (i + 1))) o2) else some (.inr ()))
def sl_TableLooksUp (k : Nat) (n : Net) (f_ : Failure) (t : List Rule) (h_ : Ar 10) : Option Bool := ((((sr09_Few k n 10 24 20).bind fun rFew => (if rFew = true then ((sr09_Check k n).bind fun rCheck => (if rCheck ≠ 0 then some true else ((sr09_CheckFailure k n f_).bind fun rCheckFailure => (if rCheckFailure ≠ 0 then some true else ((sr25_Few k t 12).bind fun rFew2 => (if rFew2 = true then ((sr06_RightHead k h_).bind fun rRightHead => some (!rRightHead)) else some true)))))) else some true)) : Option Bool).bind fun s_ => (if s_ = true then some true else ((sr25_Check k n 1000 t).bind fun rCheck2 => (if rCheck2.2 ≠ 0 then some true else ((sl_TableLooksUp_L0 k n f_ t h_ k 0 : Option (Bool ⊕ Unit)).bind fun o3 => Sum.elim (fun r => some r) (fun s_2 => ((stable_Lookup k t h_).bind fun rLookup => ((sr25_Lookup k t h_).bind fun rLookup2 => some (decide (rLookup = rLookup2))))) o3)))))
set_option maxHeartbeats 8000000 in
theorem sl_TableLooksUp_ok (ax : Axs) (hx : Plain ax) (k : Nat) (n : Net) (f_ : Failure) (t : List Rule) (h_ : Ar 10) (v : Bool) (H : sl_TableLooksUp k n f_ t h_ = some v) : Pure Tryz.prog (EE ax) [] 4 [eNet n, eFailure f_, lRule t, .agg (h_.l.map (T.int .i64))] (.bool v) := by
 rw [sl_TableLooksUp] at H
 refine en [.tmp 8] 97 [0, 1, 2, 3] (hx.no _ (by decide)) (fn4 ax) ?_
 intro h hh
 repeat apply TW.seq
 refine rk [2, 4, 5, 7] [] hh ?_
 clear hh h
 intro h hh
 obtain ⟨s_, H1, H⟩ := bsome H
 repeat apply TW.seq
 refine cu [2, 4, 5, 7, 39] 3 (fun h bs => (h 2 = lRule t ∧ h 4 = .ptr 0 0 3 ∧ h 5 = .ptr 1 0 2 ∧ h 7 = .ptr 2 0 10 ∧ h 39 = .bool s_) ∧ bs = [.cells true 3 [lNode n.nodes, lLink n.links, lEdge n.edges], .cells true 2 [ints f_.links, .int .i64 f_.node], .cells true 10 (h_.l.map (T.int .i64))]) ?_ ?_
 ·skip
  obtain ⟨rFew, e1, H1⟩ := bsome H1
  rcases isb H1 with ⟨c2, H1⟩ | ⟨c2, H1⟩
  rotate_left
  ·skip
   repeat apply TW.seq
   refine rkc [2, 4, 5, 7, 39] [] [(.bool rFew, stL [.cells true 3 [lNode n.nodes, lLink n.links, lEdge n.edges], .cells true 2 [ints f_.links, .int .i64 f_.node], .cells true 10 (h_.l.map (T.int .i64))])] (f2 hh c2) ?_ ?_
   ·exact ⟨Call0.call (Pure.clr (sr09_Few_ok ax hx k n 10 24 20 rFew e1 ) (by first | rfl | simp only [c2])), trivial⟩
   clear hh h
   intro h hh
   cases H1
   exact ce hh ⟨kq hh, rfl⟩
  obtain ⟨rCheck, e3, H1⟩ := bsome H1
  rcases isp H1 with ⟨c4, H1⟩ | ⟨c4, H1⟩
  rotate_left
  ·skip
   obtain ⟨rCheckFailure, e5, H1⟩ := bsome H1
   rcases isp H1 with ⟨c6, H1⟩ | ⟨c6, H1⟩
   rotate_left
   ·skip
    obtain ⟨rFew2, e7, H1⟩ := bsome H1
    rcases isb H1 with ⟨c8, H1⟩ | ⟨c8, H1⟩
    rotate_left
    ·skip
     repeat apply TW.seq
     refine rkc [2, 4, 5, 7, 39] [] [(.bool rFew, stL [.cells true 3 [lNode n.nodes, lLink n.links, lEdge n.edges], .cells true 2 [ints f_.links, .int .i64 f_.node], .cells true 10 (h_.l.map (T.int .i64))]), (.int .i64 rCheck, stL [.cells true 3 [lNode n.nodes, lLink n.links, lEdge n.edges], .cells true 2 [ints f_.links, .int .i64 f_.node], .cells true 10 (h_.l.map (T.int .i64))]), (.int .i64 rCheckFailure, stL [.cells true 3 [lNode n.nodes, lLink n.links, lEdge n.edges], .cells true 2 [ints f_.links, .int .i64 f_.node], .cells true 10 (h_.l.map (T.int .i64))]), (.bool rFew2, stL [.cells true 3 [lNode n.nodes, lLink n.links, lEdge n.edges], .cells true 2 [ints f_.links, .int .i64 f_.node], .cells true 10 (h_.l.map (T.int .i64))])] (f3 hh c2 (f3 (decide_eq_false c4) (decide_eq_false c6) c8)) ?_ ?_
     ·exact ⟨Call0.call (Pure.clr (sr09_Few_ok ax hx k n 10 24 20 rFew e1 ) (by first | rfl | simp only [c2, c8])), Call0.call (Pure.clr (sr09_Check_ok ax hx k n rCheck e3 ) (by first | rfl | simp only [c2, c8])), Call0.call (Pure.clr (sr09_CheckFailure_ok ax hx k n f_ rCheckFailure e5 ) (by first | rfl | simp only [c2, c8])), Call0.call (Pure.clr (sr25_Few_ok ax hx k t 12 rFew2 e7 ) (by first | rfl | simp only [c2, c8])), trivial⟩
     clear hh h
     intro h hh
     cases H1
     exact ce hh ⟨kq hh, rfl⟩
    obtain ⟨rRightHead, e9, H1⟩ := bsome H1
    repeat apply TW.seq
    refine rkc [2, 4, 5, 7, 39] [] [(.bool rFew, stL [.cells true 3 [lNode n.nodes, lLink n.links, lEdge n.edges], .cells true 2 [ints f_.links, .int .i64 f_.node], .cells true 10 (h_.l.map (T.int .i64))]), (.int .i64 rCheck, stL [.cells true 3 [lNode n.nodes, lLink n.links, lEdge n.edges], .cells true 2 [ints f_.links, .int .i64 f_.node], .cells true 10 (h_.l.map (T.int .i64))]), (.int .i64 rCheckFailure, stL [.cells true 3 [lNode n.nodes, lLink n.links, lEdge n.edges], .cells true 2 [ints f_.links, .int .i64 f_.node], .cells true 10 (h_.l.map (T.int .i64))]), (.bool rFew2, stL [.cells true 3 [lNode n.nodes, lLink n.links, lEdge n.edges], .cells true 2 [ints f_.links, .int .i64 f_.node], .cells true 10 (h_.l.map (T.int .i64))]), (.bool rRightHead, stL [.cells true 3 [lNode n.nodes, lLink n.links, lEdge n.edges], .cells true 2 [ints f_.links, .int .i64 f_.node], .cells true 10 (h_.l.map (T.int .i64))])] (f3 hh c2 (f3 (decide_eq_false c4) (decide_eq_false c6) c8)) ?_ ?_
    ·exact ⟨Call0.call (Pure.clr (sr09_Few_ok ax hx k n 10 24 20 rFew e1 ) (by first | rfl | simp only [c2, c8])), Call0.call (Pure.clr (sr09_Check_ok ax hx k n rCheck e3 ) (by first | rfl | simp only [c2, c8])), Call0.call (Pure.clr (sr09_CheckFailure_ok ax hx k n f_ rCheckFailure e5 ) (by first | rfl | simp only [c2, c8])), Call0.call (Pure.clr (sr25_Few_ok ax hx k t 12 rFew2 e7 ) (by first | rfl | simp only [c2, c8])), Call0.call (Pure.clr (sr06_RightHead_ok ax hx k h_ rRightHead e9 ) (by first | rfl | simp only [c2, c8])), trivial⟩
    clear hh h
    intro h hh
    cases H1
    exact ce hh ⟨kq hh, rfl⟩
   repeat apply TW.seq
   refine rkc [2, 4, 5, 7, 39] [] [(.bool rFew, stL [.cells true 3 [lNode n.nodes, lLink n.links, lEdge n.edges], .cells true 2 [ints f_.links, .int .i64 f_.node], .cells true 10 (h_.l.map (T.int .i64))]), (.int .i64 rCheck, stL [.cells true 3 [lNode n.nodes, lLink n.links, lEdge n.edges], .cells true 2 [ints f_.links, .int .i64 f_.node], .cells true 10 (h_.l.map (T.int .i64))]), (.int .i64 rCheckFailure, stL [.cells true 3 [lNode n.nodes, lLink n.links, lEdge n.edges], .cells true 2 [ints f_.links, .int .i64 f_.node], .cells true 10 (h_.l.map (T.int .i64))])] (f3 hh c2 (f2 (decide_eq_false c4) (decide_eq_true c6))) ?_ ?_
   ·exact ⟨Call0.call (Pure.clr (sr09_Few_ok ax hx k n 10 24 20 rFew e1 ) (by first | rfl | simp only [c2])), Call0.call (Pure.clr (sr09_Check_ok ax hx k n rCheck e3 ) (by first | rfl | simp only [c2])), Call0.call (Pure.clr (sr09_CheckFailure_ok ax hx k n f_ rCheckFailure e5 ) (by first | rfl | simp only [c2])), trivial⟩
   clear hh h
   intro h hh
   cases H1
   exact ce hh ⟨kq hh, rfl⟩
  repeat apply TW.seq
  refine rkc [2, 4, 5, 7, 39] [] [(.bool rFew, stL [.cells true 3 [lNode n.nodes, lLink n.links, lEdge n.edges], .cells true 2 [ints f_.links, .int .i64 f_.node], .cells true 10 (h_.l.map (T.int .i64))]), (.int .i64 rCheck, stL [.cells true 3 [lNode n.nodes, lLink n.links, lEdge n.edges], .cells true 2 [ints f_.links, .int .i64 f_.node], .cells true 10 (h_.l.map (T.int .i64))])] (f3 hh c2 (decide_eq_true c4)) ?_ ?_
  ·exact ⟨Call0.call (Pure.clr (sr09_Few_ok ax hx k n 10 24 20 rFew e1 ) (by first | rfl | simp only [c2])), Call0.call (Pure.clr (sr09_Check_ok ax hx k n rCheck e3 ) (by first | rfl | simp only [c2])), trivial⟩
  clear hh h
  intro h hh
  cases H1
  exact ce hh ⟨kq hh, rfl⟩
 clear hh h
 rintro h bs ⟨hh, rfl⟩
 rcases isb H with ⟨c10, H⟩ | ⟨c10, H⟩
 rotate_left
 ·skip
  repeat apply TW.seq
  refine cf (f2 hh c10) ?_
  repeat apply TW.seq
  refine sk ?_
  obtain ⟨rCheck2, e11, H⟩ := bsome H
  repeat apply TW.seq
  refine rkc [2, 4, 5, 7, 10] [] [(.tup [.int .i64 rCheck2.1, .int .i64 rCheck2.2], stL [.cells true 3 [lNode n.nodes, lLink n.links, lEdge n.edges], .cells true 2 [ints f_.links, .int .i64 f_.node], .cells true 10 (h_.l.map (T.int .i64))])] (f2 hh c10) ?_ ?_
  ·exact ⟨Call0.call (Pure.clr (sr25_Check_ok ax hx k n 1000 t rCheck2 e11 ) (by first | rfl | simp only [c10])), trivial⟩
  clear hh h
  intro h hh
  repeat apply TW.seq
  refine rk [2, 4, 5, 7, 48] [] (f2 hh c10) ?_
  clear hh h
  intro h hh
  rcases isp H with ⟨c12, H⟩ | ⟨c12, H⟩
  rotate_left
  ·skip
   repeat apply TW.seq
   refine cf (f2 hh (decide_eq_false c12)) ?_
   repeat apply TW.seq
   refine sk ?_
   repeat apply TW.seq
   refine rk [2, 4, 5, 7, 50, 51, 52] [] (f2 hh c10) ?_
   clear hh h
   intro h hh
   obtain ⟨o3, H1, H⟩ := bsome H
   repeat apply TW.seq
   refine cu [2, 7] 3 (fun h bs => ∃ s_2 : Unit, o3 = .inr s_2 ∧ (h 2 = lRule t ∧ h 7 = .ptr 2 0 10) ∧ bs = [.cells true 3 [lNode n.nodes, lLink n.links, lEdge n.edges], .cells true 2 [ints f_.links, .int .i64 f_.node], .cells true 10 (h_.l.map (T.int .i64))]) ?_ ?_
   ·skip
    repeat apply TW.seq
    apply TW.block
    repeat apply TW.seq
    refine TW.loopT [2, 4, 5, 7, 50, 51, 52] (fun m h bs => ∃ (i : Int), sl_TableLooksUp_L0 k n f_ t h_ m i = some o3 ∧ (h 2 = lRule t ∧ h 4 = .ptr 0 0 3 ∧ h 5 = .ptr 1 0 2 ∧ h 7 = .ptr 2 0 10 ∧ h 50 = lRule t ∧ h 51 = .int .i64 (t.length : Int) ∧ h 52 = .int .i64 i) ∧ bs = [.cells true 3 [lNode n.nodes, lLink n.links, lEdge n.edges], .cells true 2 [ints f_.links, .int .i64 f_.node], .cells true 10 (h_.l.map (T.int .i64))]) ?_ k _ _ ?_
    rotate_left
    ·exact ⟨0, H1, kq hh, rfl⟩
    clear hh h H1
    rintro m h bs ⟨i, H1, hh, rfl⟩
    rcases m with _ | m
    ·rw [sl_TableLooksUp_L0] at H1; cases H1
    rw [sl_TableLooksUp_L0] at H1
    repeat apply TW.seq
    refine rk [2, 4, 5, 7, 50, 51, 52, 53] [] (f2 hh c10) ?_
    clear hh h
    intro h hh
    rcases isp H1 with ⟨c13, H1⟩ | ⟨c13, H1⟩
    rotate_left
    ·skip
     repeat apply TW.seq
     refine cf (f2 hh (decide_eq_false c13)) ?_
     refine xk ?_
     cases H1
     exact ce hh ⟨_, rfl, kq hh, rfl⟩
    repeat apply TW.seq
    refine ct (f2 hh (decide_eq_true c13)) ?_
    repeat apply TW.seq
    refine sk ?_
    obtain ⟨o2, H2, H1⟩ := bsome H1
    repeat apply TW.seq
    refine cu [2, 4, 5, 7, 50, 51, 52] 3 (fun h bs => ∃ s_3 : Unit, o2 = .inr s_3 ∧ (h 2 = lRule t ∧ h 4 = .ptr 0 0 3 ∧ h 5 = .ptr 1 0 2 ∧ h 7 = .ptr 2 0 10 ∧ h 50 = lRule t ∧ h 51 = .int .i64 (t.length : Int) ∧ h 52 = .int .i64 i) ∧ bs = [.cells true 3 [lNode n.nodes, lLink n.links, lEdge n.edges], .cells true 2 [ints f_.links, .int .i64 f_.node], .cells true 10 (h_.l.map (T.int .i64))]) ?_ ?_
    ·skip
     repeat apply TW.seq
     apply TW.block
     obtain ⟨g14, H2⟩ := isg H2
     repeat apply TW.seq
     refine rk [2, 4, 5, 7, 12, 50, 51, 52] [] (f3 hh c10 (gx_some g14)) ?_
     clear hh h
     intro h hh
     obtain ⟨rSend, e15, H2⟩ := bsome H2
     obtain ⟨rSend2, e16, H2⟩ := bsome H2
     repeat apply TW.seq
     refine dk 9 [2, 4, 5, 7, 13, 14, 50, 51, 52] [lAr10 rSend] [] [(lAr10 rSend2, stL [.cells true 3 [lNode n.nodes, lLink n.links, lEdge n.edges], .cells true 2 [ints f_.links, .int .i64 f_.node], .cells true 10 (h_.l.map (T.int .i64)), .cells true 23 (T.int .i64 ((gx t i).prio) :: ((((gx t i).mat).mask).l.map (T.int .i64) ++ ((((gx t i).mat).bits).l.map (T.int .i64) ++ [T.int .i64 ((gx t i).step), lLAlt ((gx t i).outs)])))])] (f2 hh c10) ?_ ?_ ?_
     ·exact ⟨Pure.clr (stable_Send_ok ax hx k n f_ (⟨(gx t i).prio, ((gx t i).mat), (gx t i).step, (gx t i).outs⟩ : Rule) h_ rSend e15 ) (by first | rfl | simp only [c10]), trivial⟩
     ·exact ⟨Call0.call (Pure.clr (sr25_Send_ok ax hx k n f_ (⟨(gx t i).prio, ((gx t i).mat), (gx t i).step, (gx t i).outs⟩ : Rule) h_ rSend2 e16 ) (by first | rfl | simp only [c10])), trivial⟩
     clear hh h
     intro h hh
     repeat apply TW.seq
     refine rk [2, 4, 5, 7, 13, 14, 50, 51, 52, 70] [] (f2 hh c10) ?_
     clear hh h
     intro h hh
     rcases isp H2 with ⟨c17, H2⟩ | ⟨c17, H2⟩
     rotate_left
     ·skip
      repeat apply TW.seq
      refine cf (f2 hh (decide_eq_false c17)) ?_
      repeat apply TW.seq
      refine sk ?_
      repeat apply TW.seq
      refine rk [2, 4, 5, 7, 13, 14, 50, 51, 52, 72, 73] [] (f2 hh c10) ?_
      clear hh h
      intro h hh
      obtain ⟨o, H3, H2⟩ := bsome H2
      repeat apply TW.seq
      refine cu [2, 4, 5, 7, 50, 51, 52] 4 (fun h bs => ∃ s_4 : Unit, o = .inr s_4 ∧ (h 2 = lRule t ∧ h 4 = .ptr 0 0 3 ∧ h 5 = .ptr 1 0 2 ∧ h 7 = .ptr 2 0 10 ∧ h 50 = lRule t ∧ h 51 = .int .i64 (t.length : Int) ∧ h 52 = .int .i64 i) ∧ bs = [.cells true 3 [lNode n.nodes, lLink n.links, lEdge n.edges], .cells true 2 [ints f_.links, .int .i64 f_.node], .cells true 10 (h_.l.map (T.int .i64)), .cells true 23 (T.int .i64 ((gx t i).prio) :: ((((gx t i).mat).mask).l.map (T.int .i64) ++ ((((gx t i).mat).bits).l.map (T.int .i64) ++ [T.int .i64 ((gx t i).step), lLAlt ((gx t i).outs)])))]) ?_ ?_
      ·skip
       repeat apply TW.seq
       apply TW.block
       repeat apply TW.seq
       refine TW.loopT [2, 4, 5, 7, 13, 14, 50, 51, 52, 72, 73] (fun m h bs => ∃ (i2 : Int), sl_TableLooksUp_L1 k rSend rSend2 m i2 = some o ∧ (h 2 = lRule t ∧ h 4 = .ptr 0 0 3 ∧ h 5 = .ptr 1 0 2 ∧ h 7 = .ptr 2 0 10 ∧ h 13 = lAr10 rSend ∧ h 14 = lAr10 rSend2 ∧ h 50 = lRule t ∧ h 51 = .int .i64 (t.length : Int) ∧ h 52 = .int .i64 i ∧ h 72 = .int .i64 (rSend.length : Int) ∧ h 73 = .int .i64 i2) ∧ bs = [.cells true 3 [lNode n.nodes, lLink n.links, lEdge n.edges], .cells true 2 [ints f_.links, .int .i64 f_.node], .cells true 10 (h_.l.map (T.int .i64)), .cells true 23 (T.int .i64 ((gx t i).prio) :: ((((gx t i).mat).mask).l.map (T.int .i64) ++ ((((gx t i).mat).bits).l.map (T.int .i64) ++ [T.int .i64 ((gx t i).step), lLAlt ((gx t i).outs)])))]) ?_ k _ _ ?_
       rotate_left
       ·exact ⟨0, H3, kq hh, rfl⟩
       clear hh h H3
       rintro m h bs ⟨i2, H3, hh, rfl⟩
       rcases m with _ | m
       ·rw [sl_TableLooksUp_L1] at H3; cases H3
       rw [sl_TableLooksUp_L1] at H3
       repeat apply TW.seq
       refine rk [2, 4, 5, 7, 13, 14, 50, 51, 52, 72, 73, 74] [] (f2 hh c10) ?_
       clear hh h
       intro h hh
       rcases isp H3 with ⟨c18, H3⟩ | ⟨c18, H3⟩
       rotate_left
       ·skip
        repeat apply TW.seq
        refine cf (f2 hh (decide_eq_false c18)) ?_
        refine xk ?_
        cases H3
        exact ce hh ⟨_, rfl, kq hh, rfl⟩
       repeat apply TW.seq
       refine ct (f2 hh (decide_eq_true c18)) ?_
       repeat apply TW.seq
       refine sk ?_
       repeat apply TW.seq
       apply TW.block
       repeat apply TW.seq
       refine rk [2, 4, 5, 7, 13, 14, 15, 50, 51, 52, 72, 73] [] (f2 hh c10) ?_
       clear hh h
       intro h hh
       obtain ⟨g19, H3⟩ := isg H3
       obtain ⟨g20, H3⟩ := isg H3
       repeat apply TW.seq
       refine dk 8 [2, 4, 5, 7, 13, 14, 50, 51, 52, 72, 73, 84] [] [] [] (f3 hh c10 (f3 (gx_some g19) (gx_some g20) ((aq39 ax (gx rSend i2) (gx rSend2 i2)).2))) trivial trivial ?_
       clear hh h
       intro h hh
       rcases isp H3 with ⟨c21, H3⟩ | ⟨c21, H3⟩
       rotate_left
       ·skip
        repeat apply TW.seq
        refine ct (f2 hh (decide_eq_false c21)) ?_
        repeat apply TW.seq
        refine rk [8] [] (f2 hh c10) ?_
        clear hh h
        intro h hh
        cases H3
        obtain rfl := sinm H2
        obtain rfl := sinm H1
        obtain rfl := sinl H
        exact rt hh
       repeat apply TW.seq
       refine cf (f2 hh (decide_eq_true c21)) ?_
       repeat apply TW.seq
       refine sk ?_
       repeat apply TW.seq
       refine rk [2, 4, 5, 7, 13, 14, 50, 51, 52, 72, 73] [] (f2 hh c10) ?_
       clear hh h
       intro h hh
       exact rd m hh ⟨(IntKind.i64.wrap (i2 + 1)), H3, kq hh, rfl⟩
      clear hh h
      rintro h bs ⟨s_4, rfl, hh, rfl⟩
      replace H2 := sinr H2
      cases H2
      exact ce hh ⟨_, rfl, kq hh, rfl⟩
     repeat apply TW.seq
     refine ct (f2 hh (decide_eq_true c17)) ?_
     repeat apply TW.seq
     refine rk [8] [] (f2 hh c10) ?_
     clear hh h
     intro h hh
     cases H2
     obtain rfl := sinm H1
     obtain rfl := sinl H
     exact rt hh
    clear hh h
    rintro h bs ⟨s_3, rfl, hh, rfl⟩
    replace H1 := sinr H1
    repeat apply TW.seq
    refine rk [2, 4, 5, 7, 50, 51, 52] [] (f2 hh c10) ?_
    clear hh h
    intro h hh
    exact rd m hh ⟨(IntKind.i64.wrap (i + 1)), H1, kq hh, rfl⟩
   clear hh h
   rintro h bs ⟨s_2, rfl, hh, rfl⟩
   replace H := sinr H
   obtain ⟨rLookup, e22, H⟩ := bsome H
   obtain ⟨rLookup2, e23, H⟩ := bsome H
   repeat apply TW.seq
   refine dk 7 [8] [.bool true, .int .i64 rLookup] [] [(.int .i64 rLookup2, stL [.cells true 3 [lNode n.nodes, lLink n.links, lEdge n.edges], .cells true 2 [ints f_.links, .int .i64 f_.node], .cells true 10 (h_.l.map (T.int .i64))])] (f2 hh c10) ?_ ?_ ?_
   ·exact ⟨Pure.clr hx.san (by first | rfl | simp only [c10]), Pure.clr (stable_Lookup_ok ax hx k t h_ rLookup e22 ) (by first | rfl | simp only [c10]), trivial⟩
   ·exact ⟨Call0.call (Pure.clr (sr25_Lookup_ok ax hx k t h_ rLookup2 e23 ) (by first | rfl | simp only [c10])), trivial⟩
   clear hh h
   intro h hh
   cases H
   exact rt hh
  repeat apply TW.seq
  refine ct (f2 hh (decide_eq_true c12)) ?_
  repeat apply TW.seq
  refine rkc [8] [] [(.bool true, stL [.cells true 3 [lNode n.nodes, lLink n.links, lEdge n.edges], .cells true 2 [ints f_.links, .int .i64 f_.node], .cells true 10 (h_.l.map (T.int .i64))])] (f2 hh c10) ?_ ?_
  ·exact ⟨Call0.call (Pure.clr hx.san (by first | rfl | simp only [c10])), trivial⟩
  clear hh h
  intro h hh
  cases H
  exact rt hh
 repeat apply TW.seq
 refine ct (f2 hh c10) ?_
 repeat apply TW.seq
 refine rkc [8] [] [(.bool true, stL [.cells true 3 [lNode n.nodes, lLink n.links, lEdge n.edges], .cells true 2 [ints f_.links, .int .i64 f_.node], .cells true 10 (h_.l.map (T.int .i64))])] (f2 hh c10) ?_ ?_
 ·exact ⟨Call0.call (Pure.clr hx.san (by first | rfl | simp only [c10])), trivial⟩
 clear hh h
 intro h hh
 cases H
 exact rt hh
end Go.Proofs.YtjgbkegkcbcjaaaGreat
namespace Go.Proofs.YtjgbkegkcbcjaaaGreat
open Go Go.RowKit
theorem law_LooksUp (n : Net) (f : Failure) (t : List Rule) (h : Ar 10) (hn : Held n) (hl : f.links.length < big) (ht : okTab t) : ∃ k, sl_TableLooksUp k n f t h = some true := by
  refine ⟨big, ?_⟩
  generalize hk0 : big = k
  have hk : big ≤ k := Nat.le_of_eq hk0
  have hk10 : 10 < k := Nat.lt_of_lt_of_le (by decide) hk
  unfold sl_TableLooksUp
  rcases netOk hk n hn (some true) (some true) ((sr09_CheckFailure k n f).bind fun rCheckFailure => (if rCheckFailure ≠ 0 then some true else ((sr25_Few k t 12).bind fun rFew2 => (if rFew2 = true then ((sr06_RightHead k h).bind fun rRightHead => some (!rRightHead)) else some true)))) with e | e | ⟨e, hR⟩
  · rw [e]; rfl
  · rw [e]; rfl
  rw [e]
  obtain ⟨rf, hf, _⟩ := ChkF_spec hk n f hl
  rw [hf, Option.bind_some, r25_Few t 12 ht hk, Option.bind_some, r06_RightHead h hk10]
  by_cases c1 : rf = 0
  · rw [if_neg (fun hq => hq c1)]
    cases fewT t 12 with
    | false => rfl
    | true =>
      cases hh : rightHead h with
      | false => rfl
      | true =>
        simp only [if_true, Option.bind_some, Bool.not_true, Bool.false_eq_true, if_false]
        rw [r25_Check n 1000 t ht hk, Option.bind_some]
        by_cases c2 : (checkT n 1000 t).2 = 0
        · rw [if_neg (fun hq => hq c2)]
          have hform := formed_of c2
          rw [loop_all (L := sl_TableLooksUp_L0 k n f t h) t false (fun _ => true) ht.1 (fun m j hj => by
            have hs := canSend_of (hform _ (List.getElem_mem hj))
            rw [sl_TableLooksUp_L0, if_pos (lt_cast hj), if_pos ⟨by omega, lt_cast hj⟩, gx_at hj]
            have e1 : stable_Send k n f ⟨(t[j]).prio, (t[j]).mat, (t[j]).step, (t[j]).outs⟩ h = some (sendL n f t[j].outs h) := table_Send n f t[j] h hs hh hl hk
            have e2 : sr25_Send k n f ⟨(t[j]).prio, (t[j]).mat, (t[j]).step, (t[j]).outs⟩ h = some (sendL n f t[j].outs h) := r25_Send n f t[j] h hs hh hl hk
            have hlen : (sendL n f t[j].outs h).length ≤ 16 := Nat.le_trans (filterMap_le _ _) hs.len
            rw [e1, Option.bind_some, e2, Option.bind_some, if_neg (fun hq => hq rfl), loop_all (L := sl_TableLooksUp_L1 k (sendL n f t[j].outs h) (sendL n f t[j].outs h)) (sendL n f t[j].outs h) false (fun _ => true) (by simp only [big]; omega) (fun m i hi => by
              rw [sl_TableLooksUp_L1, if_pos (lt_cast hi), if_pos ⟨by omega, lt_cast hi⟩, if_pos ⟨by omega, lt_cast hi⟩, if_pos rfl]; rfl) (fun m => by rw [sl_TableLooksUp_L1, if_neg (by omega)]) (by simp only [big] at hk; omega)]
            simp) (fun m => by rw [sl_TableLooksUp_L0, if_neg (by omega)]) (Nat.lt_of_lt_of_le ht.1 hk), Option.bind_some]
          have ea : t.all (fun _ => true) = true := by simp
          have hp := fun r hr => right_of (hform r hr)
          rw [ea]
          simp only [if_true, Sum.elim_inr]
          rw [table_Lookup t h hp hh ht.1 hk, Option.bind_some, r25_Lookup t h hp hh ht.1 hk, Option.bind_some]
          simp
        · rw [if_pos c2]
  · rw [if_pos c1]; rfl
end Go.Proofs.YtjgbkegkcbcjaaaGreat
namespace Go.Proofs.YtjgbkegkcbcjaaaGreat
open Go Go.RowKit
theorem heldW {n : Net} (h : wfNet n) : Held n := ⟨fun x hx => (h.1.2 x hx).1, fun x hx => (h.2.2.2 x hx).1⟩
theorem okRuleW {r : Rule} (h : wfRule r) : okRule r := ⟨h.2.2.2.1, fun l hl => (h.2.2.2.2 l hl).1⟩
theorem okTabW {t : List Rule} (h : t.length < big ∧ ∀ y, y ∈ t → wfRule y) : okTab t := ⟨h.1, fun r hr => okRuleW (h.2 r hr)⟩
end Go.Proofs.YtjgbkegkcbcjaaaGreat
namespace Go.Proofs.YtjgbkegkcbcjaaaGreat
open Go Go.RowKit
theorem law2w (n : Net) (f : Failure) (t : List Rule) (h : Ar 10) (wn : wfNet n) (wf : wfFailure f) (wt : t.length < big ∧ ∀ y, y ∈ t → wfRule y) (_ : ∀ y, y ∈ h.l → inI y) : ∃ k, sl_TableLooksUp k n f t h = some true :=
  law_LooksUp n f t h (heldW wn) wf.1.1 (okTabW wt)
end Go.Proofs.YtjgbkegkcbcjaaaGreat
