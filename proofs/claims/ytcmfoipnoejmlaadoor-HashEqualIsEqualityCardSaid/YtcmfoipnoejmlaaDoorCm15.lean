/- The plain machine, fifteenth part: an operation does what the model's does. No program in sight. -/
import Derived.Test.YtcmfoipnoejmlaaDoorCm14
namespace Go.Proofs.YtcmfoipnoejmlaaDoor
open Go Go.RowKit
section
variable {P : Program} {Γ : Env} {σ : Sg} {V : Nat → Prop} {s s' : CS} {w : World} {v : Value}

theorem RL.mapOps {ρ ρ' : Operand → Value} : ∀ {l : List Operand}, (∀ x, x ∈ l → VR σ (ρ x) (ρ' x)) → RL (VR σ) (l.map ρ) (l.map ρ')
  | [], _ => trivial
  | x :: l, h => ⟨h x (by simp), RL.mapOps fun y hy => h y (by simp [hy])⟩
/-- the model enters a function, or gives a value at once -/
def OpDid (P : Program) (σ : Sg) (V : Nat → Prop) (s : CS) (w : World) (call : CallC) (m : Sem Next) (v : Value) (s' : CS) : Prop :=
  (∃ f args args', m.run P w = (callFunc f args').run P w ∧ RL (VR σ) args args'.toList ∧ call f args s = some (v, s')) ∨ Did σ V s w (m.run P w) v s'
theorem list2 {α : Type} {xs : Array α} {a b : α} (h : xs.toList = [a, b]) : xs = #[a, b] := Array.toList_inj.1 h
theorem list1 {α : Type} {xs : Array α} {a : α} (h : xs.toList = [a]) : xs = #[a] := Array.toList_inj.1 h
theorem optMap_rel {ρ ρ' : Operand → Value} {x : Option Operand} (h : ∀ y, x = some y → VR σ (ρ y) (ρ' y)) : OptR σ (x.map ρ) (x.map ρ') := by
  cases x with
  | none => trivial
  | some y => exact h y rfl
theorem call_did (hE : EnvOk P Γ) (hr : Rel σ V s w) (hV : Covers V s') (hF : Fresh σ s.n s'.n) {call : CallC} {ρ ρ' : Operand → Value} {o : Oper} {c : Call} (ho : o.op = .call c) (hρ : ∀ x, x ∈ o.op.operands.toList → VR σ (ρ x) (ρ' x))
    (h : (match c.callee with
      | .value f => opCall call s (c.args.toList.map ρ) (ρ f)
      | .builtin b => opBuiltin P Γ ρ o s b c.args.toList c.argTypes.toList
      | _ => none) = some (v, s')) : OpDid P σ V s w call (execOp ρ' o) v s' := by
  have hargs : ∀ x, x ∈ c.args.toList → VR σ (ρ x) (ρ' x) := fun x hx => hρ x (by rw [ho]; simp [Op.operands, Call.operands]; right; simpa using hx)
  have hex : execOp ρ' o = (do let d ← resolve ρ' c o.type; invoke d.target d.args) := by simp [execOp, ho]
  have hsel : ∀ cs b, o.op ≠ .select cs b := by intro cs b; rw [ho]; simp
  split at h
  · rename_i f hc
    have hf : VR σ (ρ f) (ρ' f) := hρ f (by rw [ho]; simp [Op.operands, Call.operands, hc])
    unfold opCall at h
    split at h
    · rename_i g first captured hfn
      rw [hfn] at hf
      obtain ⟨first', captured', hf', h1, h2⟩ := hf.out
      refine .inl ⟨g, _, first' ++ c.args.map ρ' ++ captured', ?_, ?_, h⟩
      · rw [hex]
        simp [resolve, hc, hf', Deferred.ofValue, invoke, Array.append_assoc]
      · simp only [Array.toList_append, Array.toList_map]
        exact (h1.append (RL.mapOps hargs)).append h2
    · simp at h
  · rename_i b hc
    right
    have hres : (resolve ρ' c o.type) = pure { target := .builtin b c.argTypes o.type (c.args.map fun | .const _ => true | _ => false), args := c.args.map ρ' } := by unfold resolve; rw [hc]; rfl
    unfold opBuiltin at h
    split at h
    · split at h
      · rename_i x y t tx ha ht
        obtain ⟨htx, h⟩ := sel_some h
        have vx := hargs x (by rw [ha]; simp)
        have vy := hargs y (by rw [ha]; simp)
        have hd := append_did (ty := o.type) hE hr hV hF h htx vx vy
        rw [hex, hres]
        rw [list2 ha, list2 ht] 
        have := hd.up
        simpa [invoke, builtin] using this
      · simp at h
    · split at h
      · rename_i x y t tx ha ht
        have vx := hargs x (by rw [ha]; simp)
        have vy := hargs y (by rw [ha]; simp)
        have hd := copy_did (ty := o.type) (tx := tx) hE hr hV hF h vx vy
        rw [hex, hres]
        rw [list2 ha, list2 ht]
        have := hd.up
        simpa [invoke, builtin] using this
      · simp at h
    · split at h
      · rename_i x t ha ht
        have vx := hargs x (by rw [ha]; simp)
        have hd := len_did (ty := o.type) hE hr hV h vx
        rw [hex, hres]
        rw [list1 ha, list1 ht]
        have := hd.up
        simpa [invoke, builtin] using this
      · simp at h
    · obtain ⟨h1, rfl⟩ := retC_some h
      obtain ⟨h2, h3⟩ := pureC_run (w := w) hsel h1 hρ
      exact Did.same hr h2 h3
    · obtain ⟨h1, rfl⟩ := retC_some h
      obtain ⟨h2, h3⟩ := pureC_run (w := w) hsel h1 hρ
      exact Did.same hr h2 h3
    · simp at h
  · simp at h
theorem cop_did (hE : EnvOk P Γ) (hr : Rel σ V s w) (hV : Covers V s') (hF : Fresh σ s.n s'.n) {call : CallC} {ρ ρ' : Operand → Value} {o : Oper} (hρ : ∀ x, x ∈ o.op.operands.toList → VR σ (ρ x) (ρ' x))
    (h : cop P Γ call ρ o s = some (v, s')) : OpDid P σ V s w call (execOp ρ' o) v s' := by
  obtain ⟨dst, op, type, pos, after, guard⟩ := o
  unfold cop at h
  simp only at hρ h
  cases op with
  | move x =>
    simp only [Option.some.injEq, Prod.mk.injEq] at h
    obtain ⟨rfl, rfl⟩ := h
    exact .inr (Did.same hr rfl (hρ x (by simp [Op.operands])))
  | assign x =>
    simp only [Option.some.injEq, Prod.mk.injEq] at h
    obtain ⟨rfl, rfl⟩ := h
    exact .inr (Did.same hr rfl (hρ x (by simp [Op.operands])))
  | pick c a b => exact .inr (pick_did (P := P) hr h (hρ a (by simp [Op.operands])) (hρ b (by simp [Op.operands])) (hρ c (by simp [Op.operands])))
  | alloc e => exact .inr (alloc_did hE hr hF h).up
  | box e x => exact .inr (box_did (P := P) (e := e) hr hF h (hρ x (by simp [Op.operands]))).up
  | build t parts => exact .inr (build_did hE hr h (fun p hp => hρ p.2 (by simp [Op.operands]; exact ⟨p.1, by simpa using hp⟩))).up
  | buildSlice t n parts => exact .inr (buildSlice_did hE hr hF h (fun p hp => hρ p.2 (by simp [Op.operands]; exact ⟨p.1, by simpa using hp⟩))).up
  | load t x => exact .inr (load_did hE hr hV h (hρ x (by simp [Op.operands]))).up
  | store t x y => exact .inr (store_did hE hr hV h (hρ x (by simp [Op.operands])) (hρ y (by simp [Op.operands])))
  | nilCheck x => exact .inr (nilCheck_did (P := P) hr rfl h (hρ x (by simp [Op.operands])))
  | sliceToArrayPointer t x => exact .inr (s2a_did hE hr h (hρ x (by simp [Op.operands]))).up
  | makeFunc fn first captured =>
    simp only [Option.some.injEq, Prod.mk.injEq] at h
    obtain ⟨rfl, rfl⟩ := h
    refine .inr (Did.same (v' := .func fn (first.map ρ') (captured.map ρ')) hr (by simp [execOp, Instr.makeFunc]) (VR.mk ⟨_, _, rfl, ?_, ?_⟩))
    · simp only [Array.toList_map]; exact RL.mapOps fun x hx => hρ x (by simp [Op.operands]; left; simpa using hx)
    · simp only [Array.toList_map]; exact RL.mapOps fun x hx => hρ x (by simp [Op.operands]; right; simpa using hx)
  | makeSlice t l c => exact .inr (makeSlice_did hE hr hF h (hρ l (by simp [Op.operands])) (hρ c (by simp [Op.operands]))).up
  | slice t x lo hi mx =>
    refine .inr (slice_did hE hr h (hρ x (by simp [Op.operands])) (optMap_rel fun y hy => hρ y ?_) (optMap_rel fun y hy => hρ y ?_) (optMap_rel fun y hy => hρ y ?_)).up
    · simp [Op.operands, hy]
    · simp [Op.operands, hy]
    · simp [Op.operands, hy]
  | fieldAddr t x k => exact .inr (fieldAddr_did hE hr h (hρ x (by simp [Op.operands]))).up
  | field t x k => exact .inr (field_did hE hr h (hρ x (by simp [Op.operands]))).up
  | indexAddr t x ix => exact .inr (indexAddr_did hE hr h (hρ x (by simp [Op.operands])) (hρ ix (by simp [Op.operands]))).up
  | index t x ix => exact .inr (index_did hE hr h (hρ x (by simp [Op.operands])) (hρ ix (by simp [Op.operands]))).up
  | extract x k => exact .inr (extract_did (P := P) hr h (hρ x (by simp [Op.operands]))).up
  | unOp op t x =>
    refine .inr (orPure_did hr (by intro cs b; simp) h hρ fun y hy => ?_)
    obtain ⟨h1, h2⟩ := unC_run (P := P) (w := w) hy (hρ x (by simp [Op.operands]))
    exact ⟨by simp [execOp, h1], h2⟩
  | convert src dst x => exact .inr (convert_did hE hr hV hF rfl h hρ)
  | binOp op t x y yt => exact .inr (bin_did hE hr rfl h hρ)
  | makeMap t r =>
    cases r with
    | some r => simp at h
    | none =>
      obtain ⟨rfl, _, h3, h4, h5⟩ := mapC_rel (w := w) h hr hF
      refine .inr ⟨_, _, .value (.map (some w.heap.size)), _, ?_, .inl rfl, VR.mk ⟨_, _, _, h5, rfl⟩, h3, h4⟩
      simp [execOp, Instr.makeMap, newObj]
      rfl
  | lookup t x k ok => exact .inr (lookup_did hE hr hV h (hρ x (by simp [Op.operands])) (hρ k (by simp [Op.operands]))).up
  | mapUpdate t m k x => exact .inr (mapUpdate_did hE hr hV h (hρ m (by simp [Op.operands])) (hρ k (by simp [Op.operands])) (hρ x (by simp [Op.operands])))
  | insert t m k x => exact .inr (mapUpdate_did hE hr hV h (hρ m (by simp [Op.operands])) (hρ k (by simp [Op.operands])) (hρ x (by simp [Op.operands])))
  | makeInterface t x => exact .inr (makeI_did hE hr h (hρ x (by simp [Op.operands]))).up
  | call c => exact call_did hE hr hV hF rfl hρ h
  | _ => simp at h
end
end Go.Proofs.YtcmfoipnoejmlaaDoor
