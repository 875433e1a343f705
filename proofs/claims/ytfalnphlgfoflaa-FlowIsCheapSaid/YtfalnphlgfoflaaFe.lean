/- Arcs and ways as trees. -/
import Derived.Test.YtfalnphlgfoflaaFd
namespace Go.Proofs.Ytfalnphlgfoflaa
open Go Go.RowKit
set_option linter.unusedSimpArgs false
set_option linter.unusedVariables false
set_option maxRecDepth 100000
structure ArcU where
  link : Int
  frm : Int
  to : Int
  room : Int
  back : Bool
  weight : Unit
deriving Inhabited
structure ArcI where
  link : Int
  frm : Int
  to : Int
  room : Int
  back : Bool
  weight : Int
deriving Inhabited
structure Way where
  node : Int
  before : Int
  link : Int
  back : Bool
deriving Inhabited
def eUnit (_ : Unit) : T := .agg []
def eArcU (a : ArcU) : T := .agg [.int .i64 a.link, .int .i64 a.frm, .int .i64 a.to, .int .i64 a.room, .bool a.back]
def eArcI (a : ArcI) : T := .agg [.int .i64 a.link, .int .i64 a.frm, .int .i64 a.to, .int .i64 a.room, .bool a.back, .int .i64 a.weight]
def eWay (a : Way) : T := .agg [.int .i64 a.node, .int .i64 a.before, .int .i64 a.link, .bool a.back]
def lArcU (l : List ArcU) : T := .lst 5 (l.map eArcU)
def lArcI (l : List ArcI) : T := .lst 6 (l.map eArcI)
def lWay (l : List Way) : T := .lst 4 (l.map eWay)
def pArcU : Option ArcU → T
  | none => .nilp
  | some a => .cp [.int .i64 a.link, .int .i64 a.frm, .int .i64 a.to, .int .i64 a.room, .bool a.back]
def pArcI : Option ArcI → T
  | none => .nilp
  | some a => .cp [.int .i64 a.link, .int .i64 a.frm, .int .i64 a.to, .int .i64 a.room, .bool a.back, .int .i64 a.weight]
def lPArcU (l : List (Option ArcU)) : T := .lst 1 (l.map pArcU)
def lPArcI (l : List (Option ArcI)) : T := .lst 1 (l.map pArcI)
theorem pArcI_some {x : Option ArcI} (h : x.isSome = true) : pArcI x = .cp [.int .i64 (x.getD default).link, .int .i64 (x.getD default).frm, .int .i64 (x.getD default).to, .int .i64 (x.getD default).room, .bool (x.getD default).back, .int .i64 (x.getD default).weight] := by
  cases x with
  | none => cases h
  | some a => rfl
theorem celPU (x : Option ArcU) : (pArcU x).cells = [pArcU x] := by cases x <;> rfl
theorem celPI (x : Option ArcI) : (pArcI x).cells = [pArcI x] := by cases x <;> rfl
theorem onePU (x : Option ArcU) : T.one (pArcU x) = true := by cases x <;> rfl
theorem onePI (x : Option ArcI) : T.one (pArcI x) = true := by cases x <;> rfl
theorem repPI (n : Nat) : rep n [T.nilp] = (List.replicate n (none : Option ArcI)).map pArcI := by
  simp only [rep, List.map_replicate, pArcI]
  induction n with
  | zero => rfl
  | succ n ih => rw [List.replicate_succ, List.flatten_cons, ih]; rfl
theorem ids_pU {n : Nat} (x : Option ArcU) : (pArcU x).ids n = true := by cases x <;> rfl
theorem ids_pI {n : Nat} (x : Option ArcI) : (pArcI x).ids n = true := by cases x <;> rfl
theorem ids_mU {n : Nat} (l : List ArcU) : T.idsL n (l.map eArcU) = true := idsL_map (fun _ => rfl) l
theorem ids_mI {n : Nat} (l : List ArcI) : T.idsL n (l.map eArcI) = true := idsL_map (fun _ => rfl) l
theorem ids_mW {n : Nat} (l : List Way) : T.idsL n (l.map eWay) = true := idsL_map (fun _ => rfl) l
theorem ids_mpU {n : Nat} (l : List (Option ArcU)) : T.idsL n (l.map pArcU) = true := idsL_map ids_pU l
theorem ids_mpI {n : Nat} (l : List (Option ArcI)) : T.idsL n (l.map pArcI) = true := idsL_map ids_pI l
theorem ids_lU {n : Nat} (l : List ArcU) : (lArcU l).ids n = true := ids_mU l
theorem ids_lI {n : Nat} (l : List ArcI) : (lArcI l).ids n = true := ids_mI l
theorem ids_lW {n : Nat} (l : List Way) : (lWay l).ids n = true := ids_mW l
theorem ids_lpU {n : Nat} (l : List (Option ArcU)) : (lPArcU l).ids n = true := ids_mpU l
theorem ids_lpI {n : Nat} (l : List (Option ArcI)) : (lPArcI l).ids n = true := ids_mpI l
theorem ids_vU {n : Nat} : ∀ (l : List ArcU), T.idsL n (vecC eArcU l) = true
  | [] => rfl
  | x :: l => by
    have := ids_vU (n := n) l
    unfold vecC at this ⊢
    rw [List.map_cons, List.flatMap_cons, idsL_append, this]; rfl
theorem ids_vI {n : Nat} : ∀ (l : List ArcI), T.idsL n (vecC eArcI l) = true
  | [] => rfl
  | x :: l => by
    have := ids_vI (n := n) l
    unfold vecC at this ⊢
    rw [List.map_cons, List.flatMap_cons, idsL_append, this]; rfl
theorem ids_vW {n : Nat} : ∀ (l : List Way), T.idsL n (vecC eWay l) = true
  | [] => rfl
  | x :: l => by
    have := ids_vW (n := n) l
    unfold vecC at this ⊢
    rw [List.map_cons, List.flatMap_cons, idsL_append, this]; rfl
theorem idsD : type_of% (And.intro (And.intro (And.intro @ids_pU @ids_pI) (And.intro @ids_mpU @ids_mpI)) (And.intro (And.intro @ids_lU @ids_lI) (And.intro @ids_lpU @ids_lpI))) := And.intro (And.intro (And.intro @ids_pU @ids_pI) (And.intro @ids_mpU @ids_mpI)) (And.intro (And.intro @ids_lU @ids_lI) (And.intro @ids_lpU @ids_lpI))
theorem idsE : type_of% (And.intro (And.intro (And.intro @ids_mU @ids_mI) (And.intro @ids_mW @ids_lW)) (And.intro (And.intro @ids_vU @ids_vI) @ids_vW)) := And.intro (And.intro (And.intro @ids_mU @ids_mI) (And.intro @ids_mW @ids_lW)) (And.intro (And.intro @ids_vU @ids_vI) @ids_vW)
theorem encB : type_of% (And.intro (And.intro (And.intro @eUnit.eq_1 @eArcU.eq_1) (And.intro @eArcI.eq_1 @eWay.eq_1)) (And.intro (And.intro @lArcU.eq_1 @lArcI.eq_1) (And.intro (And.intro @lWay.eq_1 @lPArcU.eq_1) (And.intro @lPArcI.eq_1 (And.intro (And.intro @celPU @celPI) (And.intro @onePU @onePI)))))) := And.intro (And.intro (And.intro @eUnit.eq_1 @eArcU.eq_1) (And.intro @eArcI.eq_1 @eWay.eq_1)) (And.intro (And.intro @lArcU.eq_1 @lArcI.eq_1) (And.intro (And.intro @lWay.eq_1 @lPArcU.eq_1) (And.intro @lPArcI.eq_1 (And.intro (And.intro @celPU @celPI) (And.intro @onePU @onePI)))))
end Go.Proofs.Ytfalnphlgfoflaa
