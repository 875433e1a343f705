/- Flows: plain definitions and facts. No program in sight. -/
import Derived.Test.YtfalnphlgfoflaaFd
namespace Go.Proofs.Ytfalnphlgfoflaa
open Go Go.RowKit
set_option linter.unusedSimpArgs false
set_option linter.unusedVariables false
def lnk (n : Net) (k : Int) : Link := n.links.getD k.toNat default
def UpP (n : Net) (f : Failure) (k : Int) : Prop := k ∉ f.links ∧ (lnk n k).frm ≠ f.node ∧ (lnk n k).to ≠ f.node
instance (n : Net) (f : Failure) (k : Int) : Decidable (UpP n f k) := by unfold UpP; infer_instance
theorem getD_mem {α : Type} [Inhabited α] {l : List α} {i : Nat} (h : i < l.length) : l.getD i default ∈ l := by
  rw [List.getD_eq_getElem?_getD, List.getElem?_eq_getElem h]
  exact List.getElem_mem h
def contrib (v : Int) (l : Link) (y : Int) : Int := (if l.frm = v then y else 0) - (if l.to = v then y else 0)
def exS (ls : List Link) (x : List Int) (v : Int) : Int := ((ls.zip x).map fun p => contrib v p.1 p.2).sum
def restL (n : Net) (x : List Int) (i : Nat) : List Int := (List.range n.nodes.length).map fun (v : Nat) => exS (n.links.take i) (x.take i) ((v : Nat) : Int)
theorem restL_len (n : Net) (x : List Int) (i : Nat) : (restL n x i).length = n.nodes.length := by simp [restL]
theorem getD_of {α : Type} [Inhabited α] {l : List α} {i : Nat} (h : i < l.length) : l.getD i default = l[i] := by
  rw [List.getD_eq_getElem?_getD, List.getElem?_eq_getElem h]; rfl
theorem restL_getD {n : Net} {x : List Int} {i v : Nat} (h : v < n.nodes.length) : (restL n x i).getD v default = exS (n.links.take i) (x.take i) (v : Int) := by
  rw [getD_of (by rw [restL_len]; exact h)]
  simp [restL]
theorem exS_nil (v : Int) (x : List Int) : exS [] x v = 0 := by simp [exS]
theorem restL_zero (n : Net) (x : List Int) : restL n x 0 = List.replicate n.nodes.length 0 := by
  unfold restL
  simp only [List.take_zero, exS_nil]
  rw [List.map_const', List.length_range]
theorem zip_take {α β : Type} [Inhabited α] [Inhabited β] {a : List α} {b : List β} {i : Nat} (ha : i < a.length) (hb : i < b.length) : (a.take (i + 1)).zip (b.take (i + 1)) = (a.take i).zip (b.take i) ++ [(a.getD i default, b.getD i default)] := by
  have key : ∀ k, (a.take k).zip (b.take k) = (a.zip b).take k := fun k => by simp only [List.zip, List.take_zipWith]
  rw [key, key, List.take_add_one, List.getElem?_eq_getElem (by simp; omega)]
  simp only [List.getElem_zip, Option.toList_some, getD_of ha, getD_of hb]
theorem exS_step {ls : List Link} {x : List Int} {i : Nat} (ha : i < ls.length) (hb : i < x.length) (v : Int) : exS (ls.take (i + 1)) (x.take (i + 1)) v = exS (ls.take i) (x.take i) v + contrib v (ls.getD i default) (x.getD i default) := by
  unfold exS
  rw [zip_take ha hb, List.map_append, List.sum_append]
  simp
theorem rest_step {n : Net} {x : List Int} {i : Nat} (ha : i < n.links.length) (hb : i < x.length) {f t : Nat} (hf : (n.links.getD i default).frm = (f : Int)) (ht : (n.links.getD i default).to = (t : Int)) (hfn : f < n.nodes.length) (htn : t < n.nodes.length) :
    ((restL n x i).set f ((restL n x i).getD f default + x.getD i default)).set t (((restL n x i).set f ((restL n x i).getD f default + x.getD i default)).getD t default - x.getD i default) = restL n x (i + 1) := by
  apply List.ext_getElem
  · simp [restL_len]
  · intro v h1 h2
    have hv : v < n.nodes.length := by rw [restL_len] at h2; exact h2
    have e1 : (restL n x (i + 1))[v]'h2 = exS (n.links.take i) (x.take i) (v : Int) + contrib (v : Int) (n.links.getD i default) (x.getD i default) := by
      have := restL_getD (n := n) (x := x) (i := i + 1) hv
      rw [getD_of (by rw [restL_len]; exact hv)] at this
      rw [this, exS_step ha hb]
    have e2 : ∀ w, w < n.nodes.length → (restL n x i).getD w default = exS (n.links.take i) (x.take i) (w : Int) := fun w hw => restL_getD hw
    have e3 : (restL n x i)[v]'(by rw [restL_len]; exact hv) = exS (n.links.take i) (x.take i) (v : Int) := by rw [← e2 v hv, getD_of]
    rw [e1, List.getElem_set]
    have e4 : ((restL n x i).set f ((restL n x i).getD f default + x.getD i default)).getD t default = if f = t then (restL n x i).getD f default + x.getD i default else (restL n x i).getD t default := by
      rw [getD_of (l := (restL n x i).set f _) (by rw [List.length_set, restL_len]; exact htn), List.getElem_set]
      split
      · rfl
      · rw [getD_of (i := t) (by rw [restL_len]; exact htn)]
    unfold contrib
    rw [hf, ht]
    by_cases h3 : t = v
    · subst h3
      rw [if_pos rfl, e4]
      by_cases h4 : f = t
      · subst h4
        rw [if_pos rfl, e2 f hfn, if_pos rfl]; omega
      · rw [if_neg h4, e2 t htn, if_neg (by omega), if_pos rfl]; omega
    · rw [if_neg h3, List.getElem_set]
      by_cases h4 : f = v
      · subst h4
        rw [if_pos rfl, e2 f hfn, if_pos rfl, if_neg (by omega)]; omega
      · rw [if_neg h4, e3, if_neg (by omega), if_neg (by omega)]; omega
structure RightNet (n : Net) : Prop where
  nodes : n.nodes.length ≤ 10
  links : n.links.length ≤ 24
  frm : ∀ k, k < n.links.length → 0 ≤ (n.links.getD k default).frm ∧ (n.links.getD k default).frm < (n.nodes.length : Int)
  to : ∀ k, k < n.links.length → 0 ≤ (n.links.getD k default).to ∧ (n.links.getD k default).to < (n.nodes.length : Int)
  apart : ∀ k, k < n.links.length → (n.links.getD k default).frm ≠ (n.links.getD k default).to
  cap : ∀ k, k < n.links.length → 0 ≤ (n.links.getD k default).cap ∧ (n.links.getD k default).cap ≤ 1048576
def GoodK (n : Net) (f : Failure) (x : List Int) (k : Nat) : Prop := 0 ≤ x.getD k default ∧ x.getD k default ≤ (n.links.getD k default).cap ∧ (0 < x.getD k default → UpP n f (k : Int))
theorem exS_bound {n : Net} {f : Failure} {x : List Int} (hn : RightNet n) (hx : x.length = n.links.length) (v : Int) : ∀ i, i ≤ n.links.length → (∀ k, k < i → GoodK n f x k) → -(i : Int) * 1048576 ≤ exS (n.links.take i) (x.take i) v ∧ exS (n.links.take i) (x.take i) v ≤ (i : Int) * 1048576
  | 0, _, _ => by simp [exS_nil]
  | i + 1, hi, hg => by
    obtain ⟨a, b⟩ := exS_bound hn hx v i (by omega) fun k hk => hg k (by omega)
    rw [exS_step (by omega) (by omega)]
    obtain ⟨g1, g2, _⟩ := hg i (by omega)
    have := (hn.cap i (by omega)).2
    unfold contrib
    split <;> split <;> constructor <;> push_cast <;> omega
def IsFlow (n : Net) (f : Failure) (from_ to : Int) (x : List Int) : Prop := from_ ≠ to ∧ x.length = n.links.length ∧ (∀ k, k < n.links.length → GoodK n f x k) ∧ 0 ≤ exS n.links x from_ ∧ ∀ v, v < n.nodes.length → (v : Int) ≠ from_ → (v : Int) ≠ to → exS n.links x (v : Int) = 0
noncomputable instance (n : Net) (f : Failure) (a b : Int) (x : List Int) : Decidable (IsFlow n f a b x) := Classical.propDecidable _
noncomputable def flowVal (n : Net) (f : Failure) (a b : Int) (x : List Int) : Int := if IsFlow n f a b x then exS n.links x a else 0
def isNodeP (n : Net) (k : Int) : Prop := 0 ≤ k ∧ k < (n.nodes.length : Int)
instance (n : Net) (k : Int) : Decidable (isNodeP n k) := by unfold isNodeP; infer_instance
def capTerm (n : Net) (f : Failure) (cut : List Int) (k : Nat) : Int := if UpP n f (k : Int) ∧ (n.links.getD k default).frm ∈ cut ∧ (n.links.getD k default).to ∉ cut then (n.links.getD k default).cap else 0
def capS (n : Net) (f : Failure) (cut : List Int) : Nat → Int
  | 0 => 0
  | i + 1 => capS n f cut i + capTerm n f cut i
def CutK (n : Net) (cut : List Int) (k : Nat) : Prop := isNodeP n (cut.getD k default) ∧ (0 < k → cut.getD (k - 1) default < cut.getD k default)
def CutOk (n : Net) (cut : List Int) : Prop := ∀ k, k < cut.length → CutK n cut k
def Bound (l : List Int) (count most : Int) : Prop := (l.length : Int) = count ∧ ∀ y, y ∈ l → 0 ≤ y ∧ y ≤ most
instance (l : List Int) (count most : Int) : Decidable (Bound l count most) := by unfold Bound; infer_instance
def redK (n : Net) (prices pot : List Int) (k : Nat) : Int := prices.getD k default + pot.getD (n.links.getD k default).frm.toNat default - pot.getD (n.links.getD k default).to.toNat default
def CheapK (n : Net) (f : Failure) (prices x pot : List Int) (k : Nat) : Prop := UpP n f (k : Int) → ¬ (redK n prices pot k < 0 ∧ x.getD k default < (n.links.getD k default).cap) ∧ ¬ (0 < redK n prices pot k ∧ 0 < x.getD k default)
def IsCheapest (n : Net) (f : Failure) (prices : List Int) (a b : Int) (x pot : List Int) : Prop := IsFlow n f a b x ∧ Bound prices n.links.length 1048576 ∧ Bound pot n.nodes.length 4294967296 ∧ ∀ k, k < n.links.length → CheapK n f prices x pot k
def costS (prices x : List Int) : Nat → Int
  | 0 => 0
  | i + 1 => costS prices x i + prices.getD i default * x.getD i default
end Go.Proofs.Ytfalnphlgfoflaa
