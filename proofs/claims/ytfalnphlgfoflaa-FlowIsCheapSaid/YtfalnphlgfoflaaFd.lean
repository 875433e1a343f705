/- Networks, failures, lists as trees. -/
import Derived.Test.YtfalnphlgfoflaaFwEnv
import Derived.Test.YtfalnphlgfoflaaSh
namespace Go.Proofs.Ytfalnphlgfoflaa
open Go Go.RowKit
set_option linter.unusedSimpArgs false
set_option linter.unusedVariables false
set_option linter.unusedSectionVars false
set_option maxRecDepth 100000
def ints (l : List Int) : T := .lst 1 (l.map (T.int .i64))
structure Node where
  name : ByteArray
  box : Bool
  rules : Int
  entries : Int
structure Link where
  frm : Int
  to : Int
  cap : Int
deriving Inhabited
structure Edge where
  name : ByteArray
  node : Int
instance : Inhabited Node := ⟨⟨⟨#[]⟩, false, 0, 0⟩⟩
instance : Inhabited Edge := ⟨⟨⟨#[]⟩, 0⟩⟩
structure Net where
  nodes : List Node
  links : List Link
  edges : List Edge
structure Failure where
  links : List Int
  node : Int
structure Strand where
  links : List Int
  amount : Int
deriving Inhabited
def eNode (x : Node) : T := .agg [.str x.name, .bool x.box, .int .i64 x.rules, .int .i64 x.entries]
def eLink (x : Link) : T := .agg [.int .i64 x.frm, .int .i64 x.to, .int .i64 x.cap]
def eEdge (x : Edge) : T := .agg [.str x.name, .int .i64 x.node]
def lNodes (l : List Node) : T := .lst 4 (l.map eNode)
def lLinks (l : List Link) : T := .lst 3 (l.map eLink)
def lEdges (l : List Edge) : T := .lst 2 (l.map eEdge)
def eNet (n : Net) : T := .agg [lNodes n.nodes, lLinks n.links, lEdges n.edges]
def eFail (f : Failure) : T := .agg [ints f.links, .int .i64 f.node]
def eStrand (s : Strand) : T := .agg [ints s.links, .int .i64 s.amount]
def lStrands (l : List Strand) : T := .lst 2 (l.map eStrand)
theorem idsL_map {α : Type} {n : Nat} {f : α → T} (h : ∀ x, (f x).ids n = true) : ∀ (l : List α), T.idsL n (l.map f) = true
  | [] => rfl
  | x :: l => by simp only [List.map_cons, T.idsL, h, idsL_map h l, Bool.and_self]
theorem ids_ints {n : Nat} (l : List Int) : (ints l).ids n = true := idsL_map (fun _ => rfl) l
theorem ids_nodes {n : Nat} (l : List Node) : (lNodes l).ids n = true := idsL_map (fun _ => rfl) l
theorem ids_links {n : Nat} (l : List Link) : (lLinks l).ids n = true := idsL_map (fun _ => rfl) l
theorem ids_edges {n : Nat} (l : List Edge) : (lEdges l).ids n = true := idsL_map (fun _ => rfl) l
theorem ids_mi {n : Nat} (l : List Int) : T.idsL n (l.map (T.int .i64)) = true := idsL_map (fun _ => rfl) l
theorem ids_mn {n : Nat} (l : List Node) : T.idsL n (l.map eNode) = true := idsL_map (fun _ => rfl) l
theorem ids_ml {n : Nat} (l : List Link) : T.idsL n (l.map eLink) = true := idsL_map (fun _ => rfl) l
theorem ids_me {n : Nat} (l : List Edge) : T.idsL n (l.map eEdge) = true := idsL_map (fun _ => rfl) l
theorem ids_net {n : Nat} (x : Net) : (eNet x).ids n = true := by simp only [eNet, T.ids, T.idsL, ids_nodes, ids_links, ids_edges, Bool.and_self]
theorem ids_fail {n : Nat} (x : Failure) : (eFail x).ids n = true := by simp only [eFail, T.ids, T.idsL, ids_ints, Bool.and_self]
theorem ids_strand {n : Nat} (x : Strand) : (eStrand x).ids n = true := by simp only [eStrand, T.ids, T.idsL, ids_ints, Bool.and_self]
theorem ids_ms {n : Nat} (l : List Strand) : T.idsL n (l.map eStrand) = true := idsL_map (fun x => ids_strand x) l
theorem ids_strands {n : Nat} (l : List Strand) : (lStrands l).ids n = true := idsL_map (fun x => ids_strand x) l
def strs (l : List ByteArray) : T := .lst 1 (l.map T.str)
theorem ids_strs {n : Nat} (l : List ByteArray) : (strs l).ids n = true := idsL_map (fun _ => rfl) l
theorem ids_mstr {n : Nat} (l : List ByteArray) : T.idsL n (l.map T.str) = true := idsL_map (fun _ => rfl) l
theorem ids_mb {n : Nat} (l : List Bool) : T.idsL n (l.map T.bool) = true := idsL_map (fun _ => rfl) l
def bools (l : List Bool) : T := .lst 1 (l.map T.bool)
theorem ids_bools {n : Nat} (l : List Bool) : (bools l).ids n = true := ids_mb l
structure Plain (ax : Axs) : Prop where
  no : ∀ f, Nat.beq f 10 = false → ax f = none
  san : Pure Try.prog (EE ax) [] 10 [] (.bool true)
theorem idsA : type_of% (And.intro (And.intro (And.intro (@ids_ints) (@ids_net)) (And.intro (@ids_fail) (@ids_strands))) (And.intro (And.intro (@ids_links) (@ids_mi)) (And.intro (@ids_mn) (@ids_ml)))) := And.intro (And.intro (And.intro (@ids_ints) (@ids_net)) (And.intro (@ids_fail) (@ids_strands))) (And.intro (And.intro (@ids_links) (@ids_mi)) (And.intro (@ids_mn) (@ids_ml)))
theorem idsB : type_of% (And.intro (And.intro (And.intro (@ids_me) (@ids_ms)) (And.intro (@ids_strs) (@ids_mstr))) (And.intro (And.intro (@ids_nodes) (@ids_edges)) (And.intro (@ids_mb) (@ids_bools)))) := And.intro (And.intro (And.intro (@ids_me) (@ids_ms)) (And.intro (@ids_strs) (@ids_mstr))) (And.intro (And.intro (@ids_nodes) (@ids_edges)) (And.intro (@ids_mb) (@ids_bools)))
theorem ids_k {n : Nat} {K V : Type} {kf : K → T} {f : V → T} (h : ∀ x, (kf x).ids n = true) : ∀ (l : List (K × V)), T.idsL n ((l.map fun p => (kf p.1, f p.2)).map fun x => x.1) = true
  | [] => rfl
  | x :: l => by simp only [List.map_cons, T.idsL, h, ids_k h l, Bool.and_self]
theorem ids_v {n : Nat} {K V : Type} {kf : K → T} {f : V → T} (h : ∀ x, (f x).ids n = true) : ∀ (l : List (K × V)), T.idsL n ((l.map fun p => (kf p.1, f p.2)).map fun x => x.2) = true
  | [] => rfl
  | x :: l => by simp only [List.map_cons, T.idsL, h, ids_v h l, Bool.and_self]
theorem ids_ki {n : Nat} {V : Type} {k : IntKind} {f : V → T} (l : List (Int × V)) : T.idsL n ((l.map fun p => (T.int k p.1, f p.2)).map fun x => x.1) = true := ids_k (kf := T.int k) (fun _ => rfl) l
theorem ids_ks {n : Nat} {V : Type} {f : V → T} (l : List (ByteArray × V)) : T.idsL n ((l.map fun p => (T.str p.1, f p.2)).map fun x => x.1) = true := ids_k (kf := T.str) (fun _ => rfl) l
theorem ids_vi {n : Nat} {K : Type} {k : IntKind} {kf : K → T} (l : List (K × Int)) : T.idsL n ((l.map fun p => (kf p.1, T.int k p.2)).map fun x => x.2) = true := ids_v (f := T.int k) (fun _ => rfl) l
theorem ids_vb {n : Nat} {K : Type} {kf : K → T} (l : List (K × Bool)) : T.idsL n ((l.map fun p => (kf p.1, T.bool p.2)).map fun x => x.2) = true := ids_v (f := T.bool) (fun _ => rfl) l
theorem idsC : type_of% (And.intro (And.intro @ids_ki @ids_ks) (And.intro @ids_vi @ids_vb)) := And.intro (And.intro @ids_ki @ids_ks) (And.intro @ids_vi @ids_vb)
theorem encA : type_of% (And.intro (And.intro (And.intro (@ints.eq_1) (And.intro (@lNodes.eq_1) (@lLinks.eq_1))) (And.intro (@lEdges.eq_1) (And.intro (@lStrands.eq_1) (@eNet.eq_1)))) (And.intro (And.intro (@eFail.eq_1) (And.intro (@eLink.eq_1) (@eNode.eq_1))) (And.intro (And.intro (@eEdge.eq_1) (@eStrand.eq_1)) (And.intro (@strs.eq_1) (@bools.eq_1))))) := And.intro (And.intro (And.intro (@ints.eq_1) (And.intro (@lNodes.eq_1) (@lLinks.eq_1))) (And.intro (@lEdges.eq_1) (And.intro (@lStrands.eq_1) (@eNet.eq_1)))) (And.intro (And.intro (@eFail.eq_1) (And.intro (@eLink.eq_1) (@eNode.eq_1))) (And.intro (And.intro (@eEdge.eq_1) (@eStrand.eq_1)) (And.intro (@strs.eq_1) (@bools.eq_1))))
theorem Pure.clr {P : Program} {Γ : Env} {GL : List (Nat × List Value)} {f : FuncId} {args : List T} {v v2 : T} {S : TS} (k : Pure P Γ GL f args v) (e : v = v2) : Call0 P Γ GL f args S v2 := e ▸ k.call S
end Go.Proofs.Ytfalnphlgfoflaa
