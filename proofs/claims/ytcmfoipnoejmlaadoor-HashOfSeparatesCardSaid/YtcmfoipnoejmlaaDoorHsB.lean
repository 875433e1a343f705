/- The sanity of the hash layer, by the kernel: over the table of constants it gives true. -/
import Derived.Test.YtcmfoipnoejmlaaDoorHsA
import Derived.Test.YtcmfoipnoejmlaaDoorCmC
import Derived.Test.YtcmfoipnoejmlaaDoorRows
import Derived.OpenShut
import Derived.MakeChecks
set_option linter.unusedSimpArgs false
set_option linter.unusedVariables false
set_option linter.unusedSectionVars false
namespace Go.Proofs.YtcmfoipnoejmlaaDoor
open Go Go.RowKit
def KK : List Nat := [0x428a2f98, 0x71374491, 0xb5c0fbcf, 0xe9b5dba5, 0x3956c25b, 0x59f111f1, 0x923f82a4, 0xab1c5ed5,
  0xd807aa98, 0x12835b01, 0x243185be, 0x550c7dc3, 0x72be5d74, 0x80deb1fe, 0x9bdc06a7, 0xc19bf174,
  0xe49b69c1, 0xefbe4786, 0x0fc19dc6, 0x240ca1cc, 0x2de92c6f, 0x4a7484aa, 0x5cb0a9dc, 0x76f988da,
  0x983e5152, 0xa831c66d, 0xb00327c8, 0xbf597fc7, 0xc6e00bf3, 0xd5a79147, 0x06ca6351, 0x14292967,
  0x27b70a85, 0x2e1b2138, 0x4d2c6dfc, 0x53380d13, 0x650a7354, 0x766a0abb, 0x81c2c92e, 0x92722c85,
  0xa2bfe8a1, 0xa81a664b, 0xc24b8b70, 0xc76c51a3, 0xd192e819, 0xd6990624, 0xf40e3585, 0x106aa070,
  0x19a4c116, 0x1e376c08, 0x2748774c, 0x34b0bcb5, 0x391c0cb3, 0x4ed8aa4a, 0x5b9cca4f, 0x682e6ff3,
  0x748f82ee, 0x78a5636f, 0x84c87814, 0x8cc70208, 0x90befffa, 0xa4506ceb, 0xbef9a3f7, 0xc67178f2]
def KW : List UInt32 := KK.map UInt32.ofNat
noncomputable def kcells : List Value := KK.map fun (n : Nat) => Value.int .u32 (Int.ofNat n)
noncomputable def axC1 : Axs := axAdd 53 hComp fun _ => none
theorem axC1_ok : AxsOk Tryd.prog GG axC1 := AxsOk.none.add hComp_ok
theorem sane_val : valK Tryd.prog (EE axC1) 16 1000000 2 [(1, kcells)] = some (.bool true) := by kernel_rfl
end Go.Proofs.YtcmfoipnoejmlaaDoor
namespace Go.Proofs.YtcmfoipnoejmlaaDoor
open Go Go.RowKit
set_option maxRecDepth 100000
theorem kcells_eq : kcells = wvs KW := by kernel_rfl
theorem KW_len : KW.length = 64 := by kernel_rfl
theorem kcells_plain : kcells.all (plainV 3) = true := by kernel_rfl
theorem sane_calls (w : World) (h : GlobsAt w [(1, kcells)]) (hG : ∀ g, has GG g = true → g < w.heap.size) : Calls Tryd.prog 16 #[] w fun e w' => e = .returned (.bool true) ∧ Below w.heap.size w w' :=
  calls_glob mixed axC1_ok.can axC1_ok.call funcs_ok (K := [(1, kcells)]) (N := 2) (axAdd_ne _ _ (by decide)) (fun p hp => by simp only [List.mem_singleton] at hp; subst hp; exact ⟨rfl, by decide⟩)
    (fun g hg => by
      have := has_mem hg
      simp only [GG, List.mem_cons, List.not_mem_nil, or_false] at this
      omega) rfl sane_val w h hG
noncomputable def axH : Axs := axAdd 16 (axTab 1 kcells (.bool true)) axC1
theorem axH_ok : AxsOk Tryd.prog GG axH :=
  axC1_ok.add (ax_tab (L := LL) (ax := fun _ => none) funcs_ok (fn16 fun _ => none) rfl rfl kcells_plain rfl sane_calls)
theorem axH_plain : Plain axH := by
  intro f hf
  have h1 : f ≠ 16 := by rintro rfl; exact absurd hf (by decide)
  have h2 : f ≠ 53 := by rintro rfl; exact absurd hf (by decide)
  unfold axH axC1
  rw [axAdd_ne _ _ h1, axAdd_ne _ _ h2]
/-- sanity, over the table -/
theorem sane_run (s : CS) (h : rowOf (objAt s.obj 1).rows (1 * 1024) = some kcells) : callR Tryd.prog (EE axH) 16 [] s = some (.bool true, { s with rd := ins s.lim s.rd 1 }) :=
  callR_ax (Γ := EE axH) (k := axTab 1 kcells (.bool true)) (show axH _ = some _ from axAdd_same _ _ _) (axTab_eq h)
/-- compress, known -/
theorem compress_run (kt st : List UInt32) (bs : List UInt8) (f u o len cap : Nat) (s : CS) (cs : List Value) (hr : rowOf (objAt s.obj f).rows u = some cs) (hc : (cs.drop o).take 64 = bvs bs) (hk : rowOf (objAt s.obj 1).rows (1 * 1024) = some (wvs kt)) (hs : st.length = 8) (hkt : kt.length = 64) (hb : bs.length = 64) (hlen : len = 64) (hcap : len ≤ cap) (hcap2 : cap < 1000000000) (hf : f < s.n) (hG : 1 < s.n) (hu : u % 1024 = 0 ∨ u % 1024 = 2) :
    callR Tryd.prog (EE axH) 53 [.agg (wvs st).toArray, .slice (some (mkA f u o)) len cap] s = some (.agg (wvs (comp kt st bs)).toArray, { s with n := s.n + 7, rd := ins s.lim (ins s.lim s.rd f) 1 }) :=
  callR_ax (Γ := EE axH) (k := hComp) (show axH 53 = some _ by unfold axH axC1; rw [axAdd_ne _ _ (by decide)]; exact axAdd_same _ _ _) (hComp_eq kt st bs f u o len cap s cs hr hc hk hs hkt hb hlen hcap hcap2 hf hG hu)
section
variable {P : Program} {w : World} {H : Type} {enc : TypeId × Value → H} {base : Nat} {spare : Nat → Bool} {held : Bool}
/-- the cells of a laid table of words -/
theorem laid_words {t e : TypeId} {n : Nat} {k : IntKind} (ht : P.underlying t = some (.array n e)) (he : P.underlying e = some (.int k)) (hc : P.cellsOf e = 1) {fuel : Nat} {cs : List Value} {L : List Int} {q : List MemPlace} (h : DataW.trod enc P w base spare held fuel t cs = some (.agg (L.map fun x => .lit (.int k x)), q)) (hL : L.length = n) :
    ∀ (j : Nat) (x : Int), L[j]? = some x → cs[j]? = some (.int k x) := by
  intro j x hx
  obtain ⟨xs, m, rfl, hx1, hlen, hn, hel⟩ := DataW.trod_array ht h
  have hj : j < n := by
    have := (List.getElem?_eq_some_iff.1 hx).1
    omega
  have h0 := hel j hj
  rw [hc, Nat.mul_one] at h0
  have hxs : xs[j]? = some (xs[j]'(by omega)) := List.getElem?_eq_getElem (by omega)
  rw [hxs] at h0
  obtain ⟨z, e1, e2, _⟩ := DataW.trod_int he h0
  simp only [Prod.mk.injEq, DataW.agg.injEq] at hx1
  have hm : (L.map fun x => DataW.lit (H := H) (.int k x))[j]? = (xs.map (·.1))[j]? := by rw [hx1.1]
  rw [List.getElem?_map, List.getElem?_map, hx, hxs, e2] at hm
  simp only [Option.map_some, Option.some.injEq, DataW.lit.injEq, Lit.int.injEq, true_and] at hm
  subst hm
  have : (cs.drop j)[0]? = ((cs.drop j).take 1)[0]? := by rw [List.getElem?_take_of_lt (by omega)]
  rw [e1] at this
  simpa using this
end
def KI : List Int := KK.map fun (n : Nat) => (n : Int)
theorem kcells_get (j : Nat) (u : Value) (h : kcells[j]? = some u) : ∃ x, KI[j]? = some x ∧ u = .int .u32 x := by
  unfold kcells at h
  unfold KI
  rw [List.getElem?_map] at h ⊢
  cases hk : KK[j]? with
  | none => rw [hk] at h; simp at h
  | some n => rw [hk] at h; simp only [Option.map_some, Option.some.injEq] at h; exact ⟨(n : Int), rfl, h.symm⟩
theorem g_hash : Tryd.prog.globalNamed "interlace/hash.constants" = some 1 := by kernel_rfl
theorem g_ref : Tryd.prog.globalNamed "interlace/interlaceref02.constants" = some 0 := by kernel_rfl
theorem tg_hash : (Tryd.prog.globals[1]?).map (·.type) = some 75 := by kernel_rfl
theorem tg_ref : (Tryd.prog.globals[0]?).map (·.type) = some 75 := by kernel_rfl
/-- the condition of a law that lists hash.constants alone -/
theorem globs_hash {W : World} (h : laidMetH Tryd.prog [("interlace/hash.constants", Rows.laid_interlace_hash_constants)] W) : GlobsAt W [(1, kcells)] ∧ ∀ g, has GG g = true → g < W.heap.size := by
  rw [MakeChecks.laidMetH_plain _ _ _ (by kernel_rfl)] at h
  obtain ⟨ps, ⟨g0, t0, cs0, f0, p0, q0, hg0, ht0, hv0, hd0, _⟩, _, _⟩ := h
  obtain rfl := Option.some.inj (g_hash.symm.trans hg0)
  obtain rfl := Option.some.inj (tg_hash.symm.trans ht0)
  have hc := laid_words (L := KI) Tryd.underlying75 Tryd.underlying29 (by kernel_rfl) hd0 (by kernel_rfl)
  have hcell : ∀ (j : Nat) (u : Value), kcells[j]? = some u → W.cell? ⟨1, j, none⟩ = some u := by
    intro j u hu
    obtain ⟨x, hx, rfl⟩ := kcells_get j u hu
    rw [World.var?_cell hg0 hv0 j, ← Array.getElem?_toList]
    exact hc j x hx
  have hlt : 1 < W.heap.size := by
    have := hcell 0 (.int .u32 1116352408) (by kernel_rfl)
    by_cases hh : 1 < W.heap.size
    · exact hh
    · unfold World.cell? at this
      rw [Array.getElem?_eq_none (by simpa using hh)] at this
      simp at this
  refine ⟨fun p hp => ?_, fun g hg => ?_⟩
  · simp only [List.mem_singleton] at hp
    subst hp
    exact ⟨hlt, fun j u hu => ⟨hcell j u hu, List.all_eq_true.1 kcells_plain u (List.mem_of_getElem? hu)⟩⟩
  · have := has_mem hg
    simp only [GG, List.mem_cons, List.not_mem_nil, or_false] at this
    omega
end Go.Proofs.YtcmfoipnoejmlaaDoor
