/- The document's ways: all that is reached. -/
import Derived.Test.YtfalnphlgfoflaaQg
namespace Go.Proofs.Ytfalnphlgfoflaa
open Go Go.RowKit
set_option linter.unusedSimpArgs false
set_option linter.unusedVariables false
theorem bind_ifs {α β : Type} {B : Option Bool} {p1 p2 p3 : Prop} [Decidable p1] [Decidable p2] [Decidable p3] {a b : α} {K : α → Option β} : (B.bind fun s => if s = true then (if p1 then (if p2 then (if p3 then K a else none) else none) else none) else K b) = (B.bind fun s => if s = true then (if p1 then (if p2 then (if p3 then some a else none) else none) else none) else some b).bind K := by
  cases B with
  | none => rfl
  | some s =>
    cases s with
    | true =>
      simp only [Option.bind_some, if_true]
      by_cases c1 : p1
      · by_cases c2 : p2
        · by_cases c3 : p3
          · simp [c1, c2, c3]
          · simp [c1, c2, c3]
        · simp [c1, c2]
      · simp [c1]
    | false => simp
def Done (n : Net) (f : Failure) (x : List Int) (i j : Nat) (l : List Way) : Prop := ∀ a, ArcOk n f x a → a.link < (j : Int) → a.frm = (l.getD i default).node → a.to ∈ nodesW l
theorem nodesW_app {l r : List Way} {v : Int} (h : v ∈ nodesW l) : v ∈ nodesW (l ++ r) := by
  rw [show nodesW (l ++ r) = nodesW l ++ nodesW r by simp]
  exact List.mem_append_left _ h
theorem getD_appl {α : Type} {l r : List α} {d : α} {i : Nat} (h : i < l.length) : (l ++ r).getD i d = l.getD i d := by
  rw [List.getD_eq_getElem?_getD, List.getD_eq_getElem?_getD, List.getElem?_append_left h]
theorem ways_L1 {k : Nat} {n : Net} {f : Failure} {x : List Int} {s : Int} {i : Nat} (hn : RightNet n) (hx : x.length = n.links.length) (hg : ∀ j, j < n.links.length → GoodK n f x j) (hl : f.links.length < 9223372036854775808) (hk : f.links.length < k) : ∀ (m j : Nat) (l : List Way) (seen : List Bool), j ≤ n.links.length → n.links.length - j < m → WI n f x s seen l → i < l.length → Done n f x i j l →
    ∃ l' seen', sr22_ways_L1 k n f x (i : Int) m (j : Int) l l.length seen = some (l', l'.length, seen') ∧ WI n f x s seen' l' ∧ (∃ r, l' = l ++ r) ∧ Done n f x i n.links.length l' := by
  have hnl := hn.links
  intro m
  induction m with
  | zero => intro j l seen h1 h2; omega
  | succ m ih =>
    intro j l seen h1 h2 h3 h4 h5
    rw [sr22_ways_L1]
    by_cases c : (j : Int) < (n.links.length : Int)
    · have hj : j < n.links.length := by omega
      rw [if_pos c, rUp_spec hl hk hj, Option.bind_some, if_pos ⟨by omega, c⟩]
      rw [gx_nat n.links j, gx_nat x j, Int.toNat_natCast, wr_succ j (show j < 9223372036854775807 by omega)]
      obtain ⟨l1, seen1, eA, w1, ⟨r1, rr1⟩, d1⟩ := wayA (k := k) hn hx h4 hj h3
      have h41 : i < l1.length := by rw [rr1, List.length_append]; omega
      have en1 : (l1.getD i default).node = (l.getD i default).node := by rw [rr1, getD_appl h4]
      obtain ⟨l2, seen2, eB, w2, ⟨r2, rr2⟩, d2⟩ := wayB (k := k) hn hg hx h41 hj w1
      have h42 : i < l2.length := by rw [rr2, List.length_append]; omega
      have en2 : (l2.getD i default).node = (l1.getD i default).node := by rw [rr2, getD_appl h41]
      rw [← Option.bind_assoc, eA, Option.bind_some]
      have eK := bind_ifs (B := (if (0 : Int) ≤ (i : Int) ∧ (i : Int) < (l1.length : Int) then (if i < l1.length then (if (n.links.getD j default).to = (l1.getD i default).node then (if (0 : Int) ≤ (n.links.getD j default).frm ∧ (n.links.getD j default).frm < (n.nodes.length : Int) then (if (n.links.getD j default).frm.toNat < seen1.length then (if seen1.getD (n.links.getD j default).frm.toNat default = true then some false else (if (0 : Int) ≤ (j : Int) ∧ (j : Int) < (x.length : Int) then some (decide (0 < x.getD j default)) else none)) else none) else none) else some false) else none) else none)) (p1 := (0 : Int) ≤ (n.links.getD j default).frm ∧ (n.links.getD j default).frm < (n.nodes.length : Int)) (p2 := (n.links.getD j default).frm.toNat < seen1.length) (p3 := (l1.length + 1) * 33 ≤ 1000000000) (a := (l1 ++ [(⟨(n.links.getD j default).frm, (i : Int), (j : Int), true⟩ : Way)], l1.length + 1, seen1.set (n.links.getD j default).frm.toNat true)) (b := (l1, l1.length, seen1)) (K := fun z => sr22_ways_L1 k n f x (i : Int) m ((j + 1 : Nat) : Int) z.1 z.2.1 z.2.2)
      rw [eB, Option.bind_some] at eK
      obtain ⟨l', seen', e1, e2, ⟨r, e3⟩, e4⟩ := ih (j + 1) l2 seen2 (by omega) (by omega) w2 h42 (fun a ha hlk hf => by
        rw [en2, en1] at hf
        by_cases q : a.link < (j : Int)
        · rw [rr2, rr1]
          exact nodesW_app (nodesW_app (h5 a ha q hf))
        · rcases arc_cases ha (show a.link = (j : Int) by omega) with ⟨u, q1, q2, q3⟩ | ⟨u, q1, q2, q3⟩
          · rw [q3, rr2]
            exact nodesW_app (d1 u q1 (q2.symm.trans hf))
          · rw [q3]
            exact d2 q1 (by rw [en1]; exact q2.symm.trans hf))
      refine ⟨l', seen', eK.trans e1, e2, ⟨r1 ++ (r2 ++ r), by rw [e3, rr2, rr1, List.append_assoc, List.append_assoc]⟩, fun a ha hlk hf => e4 a ha hlk ?_⟩
      rw [e3, rr2, rr1, List.append_assoc, List.append_assoc, getD_appl h4] at *
      exact hf
    · rw [if_neg c]
      have : j = n.links.length := by omega
      subst this
      exact ⟨l, seen, rfl, h3, ⟨[], by simp⟩, h5⟩
end Go.Proofs.Ytfalnphlgfoflaa
