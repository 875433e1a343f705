/- The shapes of a law's parameters, and what they hold. -/
import Derived.Test.YtfalnphlgfoflaaSan
import Derived.Test.YtfalnphlgfoflaaRows
namespace Go.Proofs.Ytfalnphlgfoflaa
open Go Go.RowKit
set_option linter.unusedVariables false
theorem own : ownKnob Try.prog.godebug = none := by kernel_rfl
theorem laidOut : laidOutB Try.prog = true := by kernel_rfl
theorem cf_int {t : T} (h : conf (.int .i64) t) : ∃ n, t = .int .i64 n := by
  obtain ⟨n, rfl, _⟩ := h
  exact ⟨n, rfl⟩
theorem cf_slice {α : Type} {f : α → T} {sh : Sh} {p : α → Prop} (hf : ∀ t, conf sh t → ∃ x, t = f x ∧ p x) {t : T} (h : conf (.slice sh) t) : ∃ l : List α, t = .lst sh.sz (l.map f) ∧ l.length < 9223372036854775808 ∧ ∀ x, x ∈ l → p x := by
  obtain ⟨l, rfl, hl, hall⟩ := h
  have hm : maxLen < 9223372036854775808 := by decide
  have key : ∀ l : List T, (∀ x, x ∈ l → conf sh x) → ∃ m : List α, l = m.map f ∧ ∀ x, x ∈ m → p x := by
    intro l
    induction l with
    | nil => intro _; exact ⟨[], rfl, fun x hx => by simp at hx⟩
    | cons t l ih =>
      intro hc
      obtain ⟨x, rfl, hp⟩ := hf t (hc t (by simp))
      obtain ⟨m, rfl, hm⟩ := ih fun y hy => hc y (by simp [hy])
      refine ⟨x :: m, rfl, fun y hy => ?_⟩
      rcases List.mem_cons.1 hy with rfl | hy
      · exact hp
      · exact hm y hy
  obtain ⟨m, rfl, hp⟩ := key l hall
  rw [List.length_map] at hl
  exact ⟨m, rfl, by omega, hp⟩
def shInts : Sh := .slice (.int .i64)
theorem cf_ints {t : T} (h : conf shInts t) : ∃ l : List Int, t = ints l ∧ l.length < 9223372036854775808 := by
  obtain ⟨l, rfl, h1, _⟩ := cf_slice (f := T.int .i64) (p := fun _ => True) (fun t ht => by obtain ⟨n, rfl⟩ := cf_int ht; exact ⟨n, rfl, trivial⟩) h
  exact ⟨l, rfl, h1⟩
def shLink : Sh := .struct [.int .i64, .int .i64, .int .i64]
theorem cf_link {t : T} (h : conf shLink t) : ∃ x : Link, t = eLink x ∧ True := by
  obtain ⟨cs, rfl, x1, r1, rfl, h1, x2, r2, rfl, h2, x3, r3, rfl, h3, rfl⟩ := h
  obtain ⟨a, rfl⟩ := cf_int h1
  obtain ⟨b, rfl⟩ := cf_int h2
  obtain ⟨c, rfl⟩ := cf_int h3
  exact ⟨⟨a, b, c⟩, rfl, trivial⟩
def shNode : Sh := .struct [.str, .bool, .int .i64, .int .i64]
theorem cf_str {t : T} (h : conf .str t) : ∃ s, t = .str s ∧ s.size < 9223372036854775808 := by
  obtain ⟨s, rfl, hs⟩ := h
  have hm : maxLen < 9223372036854775808 := by decide
  exact ⟨s, rfl, by omega⟩
theorem cf_node {t : T} (h : conf shNode t) : ∃ x : Node, t = eNode x ∧ x.name.size < 9223372036854775808 := by
  obtain ⟨cs, rfl, x1, r1, rfl, h1, x2, r2, rfl, h2, x3, r3, rfl, h3, x4, r4, rfl, h4, rfl⟩ := h
  obtain ⟨a, rfl, ha⟩ := cf_str h1
  obtain ⟨b, rfl⟩ := h2
  obtain ⟨c, rfl⟩ := cf_int h3
  obtain ⟨d, rfl⟩ := cf_int h4
  exact ⟨⟨a, b, c, d⟩, rfl, ha⟩
def shEdge : Sh := .struct [.str, .int .i64]
theorem cf_edge {t : T} (h : conf shEdge t) : ∃ x : Edge, t = eEdge x ∧ x.name.size < 9223372036854775808 := by
  obtain ⟨cs, rfl, x1, r1, rfl, h1, x2, r2, rfl, h2, rfl⟩ := h
  obtain ⟨a, rfl, ha⟩ := cf_str h1
  obtain ⟨b, rfl⟩ := cf_int h2
  exact ⟨⟨a, b⟩, rfl, ha⟩
def shNet : Sh := .struct [.slice shNode, .slice shLink, .slice shEdge]
theorem cf_net {t : T} (h : conf shNet t) : ∃ n : Net, t = eNet n ∧ n.nodes.length < 9223372036854775808 ∧ n.links.length < 9223372036854775808 ∧ n.edges.length < 9223372036854775808 ∧ (∀ x, x ∈ n.nodes → x.name.size < 9223372036854775808) ∧ (∀ x, x ∈ n.edges → x.name.size < 9223372036854775808) := by
  obtain ⟨cs, rfl, x1, r1, rfl, h1, x2, r2, rfl, h2, x3, r3, rfl, h3, rfl⟩ := h
  obtain ⟨a, rfl, a1, a2⟩ := cf_slice (fun t ht => cf_node ht) h1
  obtain ⟨b, rfl, b1, _⟩ := cf_slice (fun t ht => cf_link ht) h2
  obtain ⟨c, rfl, c1, c2⟩ := cf_slice (fun t ht => cf_edge ht) h3
  exact ⟨⟨a, b, c⟩, rfl, a1, b1, c1, a2, c2⟩
def shFail : Sh := .struct [shInts, .int .i64]
theorem cf_fail {t : T} (h : conf shFail t) : ∃ f : Failure, t = eFail f ∧ f.links.length < 9223372036854775808 := by
  obtain ⟨cs, rfl, x1, r1, rfl, h1, x2, r2, rfl, h2, rfl⟩ := h
  obtain ⟨a, rfl, ha⟩ := cf_ints h1
  obtain ⟨b, rfl⟩ := cf_int h2
  exact ⟨⟨a, b⟩, rfl, ha⟩
end Go.Proofs.Ytfalnphlgfoflaa
