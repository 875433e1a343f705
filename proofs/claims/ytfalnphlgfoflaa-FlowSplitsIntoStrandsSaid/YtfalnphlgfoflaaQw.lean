/- Strands: what the document's function gives. -/
import Derived.Test.YtfalnphlgfoflaaQ7
set_option linter.unusedSimpArgs false
set_option linter.unusedVariables false
set_option linter.unusedSectionVars false
namespace Go.Proofs.Ytfalnphlgfoflaa
open Go Go.RowKit
set_option linter.unusedSimpArgs false
set_option linter.unusedVariables false
def frmK (n : Net) (l : List Int) (k : Nat) : Int := (lnk n (l.getD k default)).frm
def toK (n : Net) (l : List Int) (k : Nat) : Int := (lnk n (l.getD k default)).to
def seenL (n : Net) (l : List Int) (k : Nat) : List Int := (List.range k).map (frmK n l)
theorem seenL_succ (n : Net) (l : List Int) (k : Nat) : seenL n l (k + 1) = seenL n l k ++ [frmK n l k] := by simp [seenL, List.range_succ]
def PathK (n : Net) (l : List Int) (k : Nat) : Prop := 0 ≤ l.getD k default ∧ l.getD k default < (n.links.length : Int) ∧ frmK n l k ∉ seenL n l k ∧ (0 < k → toK n l (k - 1) = frmK n l k)
def EndOk (n : Net) (a b : Int) (l : List Int) : Prop := frmK n l 0 = toK n l (l.length - 1) ∨ (frmK n l 0 = a ∧ toK n l (l.length - 1) = b ∧ toK n l (l.length - 1) ∉ seenL n l l.length)
def PathOk (n : Net) (a b : Int) (l : List Int) : Prop := 0 < l.length ∧ (∀ k, k < l.length → PathK n l k) ∧ EndOk n a b l
noncomputable instance (n : Net) (a b : Int) (l : List Int) : Decidable (PathOk n a b l) := Classical.propDecidable _
def subL (l : List Int) (amt : Int) (s : List Int) : Nat → List Int
  | 0 => s
  | i + 1 => (subL l amt s i).set (l.getD i default).toNat ((subL l amt s i).getD (l.getD i default).toNat default - amt)
theorem subL_len (l : List Int) (amt : Int) (s : List Int) : ∀ i, (subL l amt s i).length = s.length
  | 0 => rfl
  | i + 1 => by rw [subL, List.length_set, subL_len l amt s i]
def EnoughK (l : List Int) (amt : Int) (s : List Int) (i : Nat) : Prop := amt ≤ (subL l amt s i).getD (l.getD i default).toNat default
def Room (s : List Int) : Prop := ∀ j, j < s.length → 0 ≤ s.getD j default ∧ s.getD j default ≤ 1048576
theorem getD_set_eq {s : List Int} {i : Nat} {v : Int} (h : i < s.length) : (s.set i v).getD i default = v := by
  rw [List.getD_eq_getElem?_getD, List.getElem?_set_self h]; rfl
theorem room_sub {l : List Int} {amt : Int} {s : List Int} (ha : 1 ≤ amt) (hr : Room s) : ∀ i, (∀ j, j < i → EnoughK l amt s j ∧ (l.getD j default).toNat < s.length) → Room (subL l amt s i)
  | 0, _ => hr
  | i + 1, h => by
    have ih := room_sub (l := l) ha hr i fun j hj => h j (by omega)
    obtain ⟨h1, h2⟩ := h i (by omega)
    unfold EnoughK at h1
    have r := ih (l.getD i default).toNat (by rw [subL_len]; exact h2)
    intro j hj
    rw [subL] at hj ⊢
    by_cases c : (l.getD i default).toNat = j
    · rw [← c, getD_set_eq (by rw [subL_len]; exact h2)]; omega
    · rw [getD_set_ne c]; exact ih j (by rw [List.length_set] at hj; exact hj)
end Go.Proofs.Ytfalnphlgfoflaa
namespace Go.Proofs.Ytfalnphlgfoflaa
open Go Go.RowKit
set_option linter.unusedSimpArgs false
set_option linter.unusedVariables false
def StrandOk (n : Net) (a b : Int) (s : Strand) (left : List Int) : Prop := 1 ≤ s.amount ∧ PathOk n a b s.links ∧ ∀ i, i < s.links.length → EnoughK s.links s.amount left i
def afterL (l : List Strand) (x : List Int) : Nat → List Int
  | 0 => x
  | i + 1 => subL (l.getD i default).links (l.getD i default).amount (afterL l x i) (l.getD i default).links.length
def StrandsOk (n : Net) (a b : Int) (x : List Int) (l : List Strand) : Prop := (∀ i, i < l.length → StrandOk n a b (l.getD i default) (afterL l x i)) ∧ (∀ j, j < x.length → (afterL l x l.length).getD j default = 0) ∧ l.length ≤ n.links.length
theorem afterL_len (l : List Strand) (x : List Int) : ∀ i, (afterL l x i).length = x.length
  | 0 => rfl
  | i + 1 => by rw [afterL, subL_len, afterL_len l x i]
theorem after_room {n : Net} {a b : Int} {x : List Int} {l : List Strand} (hx : x.length = n.links.length) (hr : Room x) : ∀ i, (∀ j, j < i → StrandOk n a b (l.getD j default) (afterL l x j)) → Room (afterL l x i)
  | 0, _ => hr
  | i + 1, h => by
    have ih := after_room hx hr i fun j hj => h j (by omega)
    obtain ⟨h1, h2, h3⟩ := h i (by omega)
    rw [afterL]
    exact room_sub h1 ih _ fun j hj => ⟨h3 j hj, by rw [afterL_len]; have := h2.2.1 j hj; have p1 := this.1; have p2 := this.2.1; omega⟩
end Go.Proofs.Ytfalnphlgfoflaa
