/- More rules for short printed walks. -/
import Derived.Test.YtfalnphlgfoflaaRk
import Derived.Test.YtfalnphlgfoflaaTu
namespace Go.Proofs.Ytfalnphlgfoflaa
open Go Go.RowKit
set_option linter.unusedSimpArgs false
set_option linter.unusedVariables false
set_option linter.unusedSectionVars false
set_option maxRecDepth 100000
section
variable {ax : Axs} {N : Nat} {h h' : Nat → T} {S S' : TS} {Q : Exit → (Nat → T) → TS → Prop} {F : Prop} {C : (Nat → T) → Prop} {R : (Nat → T) → Prop} {bs bs2 : List Box}
theorem fz {c : Code} (c0 b i : Nat) {e len M N0 : Nat} {z z0 : Bool} {l l0 : List T} (L : List T) (hL : (l.drop 0).take (len * e) = L.flatMap T.cells) (hs : ∀ t, t ∈ L → t.cells.length = e) (hlen : L.length = len) (k : TW Try.prog (EE ax) [] N c h (stL bs2) Q) (hS0 : (stL bs).box c0 = .cells z0 N0 l0 := by rfl) (hi : l0[i]? = some (.arr b e 0 len len M) := by rfl) (hS : (stL bs).box b = .cells z M l := by rfl) (hne : c0 ≠ b := by decide) (he : 0 < e := by decide) (hoff : 0 + len * e ≤ M := by omega) (h1 : c0 < bs.length := by simp only [lzA] <;> omega) (h2 : b < bs.length := by simp only [lzA] <;> omega) (hb : (bs.set c0 (.cells z0 N0 (l0.set i (.lst e L)))).set b .gone = bs2 := by simp only [scA]; try rfl) : TW Try.prog (EE ax) [] N c h (stL bs) Q := TW.freezeC c0 i L hS0 hi hne hS he hoff hL hs hlen (by rw [st_set _ _ _ h1, st_set _ _ _ (by rw [List.length_set]; exact h2), hb]; exact k)
theorem nz {c : Code} (c0 i e : Nat) {N0 : Nat} {z0 : Bool} {l0 : List T} (k : TW Try.prog (EE ax) [] N c h (stL bs2) Q) (hS0 : (stL bs).box c0 = .cells z0 N0 l0 := by rfl) (hi : l0[i]? = some .nils := by rfl) (h1 : c0 < bs.length := by simp only [lzA] <;> omega) (hb : bs.set c0 (.cells z0 N0 (l0.set i (.lst e []))) = bs2 := by simp only [scA]; try rfl) : TW Try.prog (EE ax) [] N c h (stL bs) Q := TW.nilC c0 i e hS0 hi (by rw [st_set _ _ _ h1, hb]; exact k)
end
end Go.Proofs.Ytfalnphlgfoflaa
