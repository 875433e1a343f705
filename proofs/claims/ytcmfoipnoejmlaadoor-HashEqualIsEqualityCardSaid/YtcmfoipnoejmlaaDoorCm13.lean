/- The plain machine, thirteenth part: conversions, copy, len, maps. No program in sight. -/
import Derived.Test.YtcmfoipnoejmlaaDoorCm12
namespace Go.Proofs.YtcmfoipnoejmlaaDoor
open Go Go.RowKit
section
variable {P : Program} {Γ : Env} {σ : Sg} {V : Nat → Prop} {s s' : CS} {w : World} {v : Value}

theorem isU8_und (hE : EnvOk P Γ) {e : TypeId} (h : isU8 Γ e = true) : P.underlying e = some (.int .u8) := by
  unfold isU8 at h
  cases hi : Γ.ti.at e with
  | none => rw [hi] at h; simp at h
  | some i =>
    rw [hi] at h
    simp only at h
    have hu := (hE.ti _ _ hi).und
    split at h
    · rename_i hd; rw [hd] at hu; exact hu
    · simp at h
theorem allU8_rel : ∀ {l l' : List Value} {r : List UInt8}, allU8 l = some r → RL (VR σ) l l' → ∃ ns : List Int, l' = ns.map (Value.int .u8) ∧ r = ns.map fun n => UInt8.ofNat n.toNat
  | [], [], r, h, _ => by simp only [allU8, Option.some.injEq] at h; exact ⟨[], rfl, h.symm⟩
  | x :: l, y :: m, r, h, ⟨a, b⟩ => by
    unfold allU8 at h
    split at h
    · rename_i hq; simp at hq
    · rename_i k l2 heq
      simp only [List.cons.injEq] at heq
      obtain ⟨rfl, rfl⟩ := heq
      cases hl : allU8 l with
      | none => rw [hl] at h; simp at h
      | some r2 =>
        rw [hl] at h
        simp only [Option.some.injEq] at h
        obtain ⟨ns, e1, e2⟩ := allU8_rel hl b
        refine ⟨k :: ns, ?_, ?_⟩
        · rw [VR.int a, e1]; rfl
        · rw [← h, e2]; rfl
    · simp at h
  | [], _ :: _, _, _, h => h.elim
  | _ :: _, [], _, _, h => h.elim
theorem freeze_other {b n k : Nat} (h : k ≠ b) : (w.freeze ⟨b, n, none⟩ 1).heap[k]? = w.heap[k]? := by
  unfold World.freeze
  rw [if_neg (by decide)]
  simp only [Array.getElem?_modify]
  rw [if_neg (Ne.symm h)]
theorem freeze_size {b n : Nat} : (w.freeze ⟨b, n, none⟩ 1).heap.size = w.heap.size := by
  unfold World.freeze
  rw [if_neg (by decide)]
  simp
theorem freeze_at {b n : Nat} : (w.freeze ⟨b, n, none⟩ 1).heap[b]? = (w.heap[b]?).map fun
    | .cells c elem (lo, hi) => .cells c elem (if lo == hi then (n, n + 1) else (min lo n, max hi (n + 1)))
    | o => o := by
  unfold World.freeze
  rw [if_neg (by decide)]
  simp only [Array.getElem?_modify, if_true]
  rfl
theorem freeze_cell {b n : Nat} (x : Addr) : (w.freeze ⟨b, n, none⟩ 1).cell? x = w.cell? x := by
  unfold World.cell?
  by_cases h : x.block = b
  · rw [h, freeze_at]
    cases w.heap[b]? with
    | none => rfl
    | some x => cases x <;> rfl
  · rw [freeze_other h]
/-- a row is marked behind its last cell -/
theorem mark_row {ro : Bool} {b b' o z : Nat} {cs : List Value} {el : TypeId} {n : Nat} (hsh : w.shape? b = some (el, n)) (h : RowAt σ w ro b' o z cs) : RowAt σ (w.freeze ⟨b, n, none⟩ 1) ro b' o z cs := by
  by_cases hb : b' = b
  · subst hb
    refine ⟨h.1, fun j hj => by rw [freeze_cell]; exact h.2.1 j hj, fun hr => ⟨fun j hj => ?_, fun c e lo hi k => ?_⟩, fun j u hj => ?_⟩
    case refine_2 =>
      have hup := (h.2.2.1 hr).2
      unfold World.shape? at hsh
      rw [freeze_at] at k
      cases hx : w.heap[b']? with
      | none => rw [hx] at k; simp at k
      | some x =>
        rw [hx] at k hsh
        cases x with
        | cells c2 e2 fr =>
          obtain ⟨lo2, hi2⟩ := fr
          have h1 := hup c2 e2 lo2 hi2 hx
          simp only [Option.map_some, Option.some.injEq, Obj.cells.injEq] at k
          obtain ⟨_, _, k⟩ := k
          split at k
          · cases k; omega
          · cases k; omega
        | _ => simp at k
    · have hc := h.2.1 j hj
      have hf := (h.2.2.1 hr).1
      have hup := (h.2.2.1 hr).2
      unfold World.shape? at hsh
      unfold World.frozen?
      rw [freeze_at]
      cases hx : w.heap[b']? with
      | none => rw [hx] at hsh; simp at hsh
      | some x =>
        rw [hx] at hsh
        cases x with
        | cells c e2 fr =>
          obtain ⟨lo, hi⟩ := fr
          simp only [Option.some.injEq, Prod.mk.injEq] at hsh
          have hz : ∀ i, i < z → i < c.size := by
            intro i hi2
            have := h.2.1 i hi2
            unfold World.cell? at this
            rw [hx] at this
            simp only [Option.isSome_none, Bool.false_eq_true, if_false] at this
            exact (Array.getElem?_eq_some_iff.1 (Option.eq_some_iff_get_eq.2 ⟨this, rfl⟩)).1
          have hj1 := hz j hj
          have hup1 := hup c e2 lo hi hx
          have hnf : ∀ i, i < z → ¬ (lo ≤ i ∧ i < hi) := by
            intro i hi2
            have := hf i hi2
            unfold World.frozen? at this
            rw [hx] at this
            simpa using this
          simp only [Option.map_some]
          by_cases hlh : lo = hi
          · rw [if_pos (by simpa using hlh)]
            simp only [Bool.and_eq_false_iff, decide_eq_false_iff_not]
            omega
          · rw [if_neg (by simpa using hlh)]
            simp only [Bool.and_eq_false_iff, decide_eq_false_iff_not]
            have h1 := hnf j hj
            by_cases hlo : lo < z
            · have h2 := hnf lo hlo
              by_cases h3 : j < lo
              · left; omega
              · right
                have : hi ≤ lo := by omega
                omega
            · left; omega
        | _ => simp at hsh
    · obtain ⟨u', k1, k2⟩ := h.2.2.2 j u hj
      exact ⟨u', by rw [freeze_cell]; exact k1, k2⟩
  · exact h.keep (freeze_other hb)
theorem mark_fam {f : Nat} {x : Fam} {b : Nat} {el : TypeId} {n : Nat} (hsh : w.shape? b = some (el, n)) (h : FamAt σ w f x) : FamAt σ (w.freeze ⟨b, n, none⟩ 1) f x := by
  refine ⟨fun p hp b' o z hs => mark_row hsh (h.rows p hp b' o z hs), h.desc, fun es he b' o z hs => ?_⟩
  obtain ⟨ents, clock, h1, h2⟩ := h.es es he b' o z hs
  refine ⟨ents, clock, ?_, h2⟩
  by_cases hb : b' = b
  · subst hb
    unfold World.shape? at hsh
    rw [h1] at hsh
    simp at hsh
  · rw [freeze_other hb]; exact h1
/-- a slice of bytes, turned to its own type: its row is marked -/
theorem mark_did {src : TypeId} {e : TypeId} (u1 : P.underlying src = some (.slice e)) (he : P.underlying e = some (.int .u8)) (hr : Rel σ V s w) (hV : Covers V s') {a : Addr} {n c : Nat} (hn : 0 < n) (h : s.write a [] = some s') {x : Value} (vx : VR σ (.slice (some a) n c) x) : DidV σ V s w ((convert src src x).run P w) (.slice (some a) n c) s' := by
  obtain ⟨b, o, z, hσ, a', c', rfl, hnc, hcc, _, ha, _⟩ := vx.out
  have hw := write_rel (vs' := []) h hr hV hσ trivial
  obtain ⟨_, _, _, hr', he'⟩ := hw
  have hset : w.setCells b (o + a.off) [] = w := rfl
  rw [hset] at hr' he'
  obtain ⟨cs, h1, h2, _⟩ := write_some h
  have hVf : V a.block := by
    obtain ⟨_, _, _, _, _, hs⟩ := write_some h
    refine rd_covers hV (s := s) ?_ ?_
    · rw [hs]
    · rw [hs]
  have hab : a'.block = b := by rw [ha (by omega)]
  have hrun : ∀ el k, w.shape? b = some (el, k) → (convert src src (.slice (some a') n c')).run P w = .ok (.slice (some a') n c') (w.freeze ⟨b, k, none⟩ 1) := by
    intro el k hk
    simp [convert, run_underlying u1, run_underlying he, markStringish, hab, hk]
  have hrun0 : w.shape? b = none → (convert src src (.slice (some a') n c')).run P w = .ok (.slice (some a') n c') w := by
    intro hk
    simp [convert, run_underlying u1, run_underlying he, markStringish, hab, hk]
  cases hsh : w.shape? b with
  | none => exact ⟨σ, w, _, hrun0 hsh, vx, hr', he'⟩
  | some q =>
    obtain ⟨el, k⟩ := q
    refine ⟨σ, _, _, hrun el k hsh, vx, ⟨hr'.inj, fun f u b1 o1 z1 hk => by rw [freeze_size]; exact hr'.lt f u b1 o1 z1 hk, fun f hf => mark_fam hsh (hr'.fam f hf), hr'.none, hr'.vers⟩, ?_⟩
    refine ⟨he'.le, he'.new, he'.old, by rw [freeze_size]; exact Nat.le_refl _, fun k2 hk2 hq => ?_, ⟨?_, ?_, ?_⟩⟩
    · refine freeze_other ?_
      rintro rfl
      rcases hq _ _ _ _ hσ with hv | hv
      · exact hv hVf
      · rw [h1] at hv; simp at hv
    · unfold World.freeze; rw [if_neg (by decide)]
    · unfold World.freeze; rw [if_neg (by decide)]
    · unfold World.freeze; rw [if_neg (by decide)]
theorem foldl_push : ∀ (ns : List Int) (r : ByteArray), ns.foldl (fun r n => r.push (UInt8.ofNat n.toNat)) r = ⟨r.data ++ (ns.map fun n => UInt8.ofNat n.toNat).toArray⟩
  | [], r => by simp
  | n :: ns, r => by
    simp only [List.foldl_cons, List.map_cons]
    rw [foldl_push ns]
    simp [ByteArray.push]
theorem convert_did (hE : EnvOk P Γ) (hr : Rel σ V s w) (hV : Covers V s') (hF : Fresh σ s.n s'.n) {ρ ρ' : Operand → Value} {o : Oper} {src dst : TypeId} {x : Operand} (ho : o.op = .convert src dst x) (h : opConvert P Γ ρ o s src dst (ρ x) = some (v, s'))
    (hρ : ∀ x, x ∈ o.op.operands.toList → VR σ (ρ x) (ρ' x)) : Did σ V s w ((execOp ρ' o).run P w) v s' := by
  have vx : VR σ (ρ x) (ρ' x) := hρ x (by rw [ho]; simp [Op.operands])
  have hex : (execOp ρ' o) = (do pure (.value (← convert src dst (ρ' x)))) := by simp [execOp, ho]
  have hsel : ∀ cs b, o.op ≠ .select cs b := by intro cs b; rw [ho]; simp
  unfold opConvert at h
  cases hi : Γ.ti.at src with
  | none => rw [hi] at h; simp at h
  | some i =>
    cases hj : Γ.ti.at dst with
    | none => rw [hi, hj] at h; simp at h
    | some j =>
      rw [hi, hj] at h
      simp only at h
      have ti := hE.ti _ _ hi
      have tj := hE.ti _ _ hj
      split at h
      · rename_i k1 n hx
        split at h
        · rename_i k hd
          refine orPure_did hr hsel h hρ fun y hy => ?_
          rw [hx] at vx
          obtain ⟨h1, h2⟩ := convI_run (w := w) (σ := σ) ti tj hd (k1 := k1) hy
          refine ⟨?_, h2⟩
          rw [hex, vx.int]
          simp [h1]
        · simp at h
      · rename_i b hx
        rw [hx] at vx
        have hx2 := vx.str
        rw [hex, hx2]
        apply DidV.up
        split at h
        · rename_i e hd1 hd2
          have u1 := ti.und
          have u2 := tj.und
          rw [hd1] at u1
          rw [hd2] at u2
          cases hb : (isU8 Γ e && Nat.ble b.size 1000000000) with
          | false => rw [hb] at h; simp at h
          | true =>
            rw [hb] at h
            simp only [cond_true] at h
            rw [Bool.and_eq_true] at hb
            have he := isU8_und hE hb.1
            have hle := ble_iff.1 hb.2
            obtain ⟨a, h1, rfl⟩ := sliceC_some h
            have hrun := run_bytes_of_string (P := P) w src dst e b u1 u2 he
            have hcap := grownCap_ge w b.size 0 e
            have hcap2 := grownCap_le_maxLen w b.size 0 e (by unfold maxLen; omega)
            have hsz : (bytesRow b (grownCap w b.size 0 e)).size = grownCap w b.size 0 e := by
              simp [bytesRow]
              show b.size + _ = _
              omega
            obtain ⟨rfl, _, m1, m2, m3⟩ := newRow_rel (w0 := w.drew) h1 hr hF (by decide) ⟨rfl, rfl, rfl, rfl⟩ (bytesRow b (grownCap w b.size 0 e)) e ((bytesRow b (grownCap w b.size 0 e)).size, (bytesRow b (grownCap w b.size 0 e)).size + 1) (by intro j hj; simp only; omega)
              (byteVs b) (List.replicate (grownCap w b.size 0 e - b.size) (.int .u8 0)) (by simp [bytesRow, byteVs]) (RL.ints b)
            refine ⟨_, _, _, hrun, VR.mk ⟨_, _, _, m3, _, grownCap w b.size 0 e, rfl, Nat.le_refl _, hcap, hcap2, fun _ => rfl, fun h0 => ?_, fun _ _ => ?_⟩, m1, m2⟩
            · exfalso
              have : (s.n * 1024 + 2) % 1024 = 0 := h0
              omega
            · show 0 + 0 + grownCap w b.size 0 e * ((s.n * 1024 + 2) % 1024 - 1) ≤ _
              rw [hsz, show (s.n * 1024 + 2) % 1024 = 2 by omega]
              omega
        · rename_i hd1 hd2
          have u1 := ti.und
          have u2 := tj.und
          rw [hd1] at u1
          rw [hd2] at u2
          simp only [Option.some.injEq, Prod.mk.injEq] at h
          obtain ⟨rfl, rfl⟩ := h
          refine DidV.same hr ?_ (VR.ofStr _)
          simp [convert, run_underlying u1, run_underlying u2]
        · simp at h
      · rename_i x0 n c hx
        rw [hx] at vx
        rw [hex]
        apply DidV.up
        split at h
        · rename_i e hd1 hd2
          have u1 := ti.und
          have u2 := tj.und
          rw [hd1] at u1
          rw [hd2] at u2
          cases hb : isU8 Γ e with
          | false => rw [hb] at h; simp at h
          | true =>
            rw [hb] at h
            simp only [cond_true] at h
            have he := isU8_und hE hb
            unfold strC at h
            cases hq : s.firstCells 1 n (.slice x0 n c) with
            | none => rw [hq] at h; simp at h
            | some p =>
              obtain ⟨l, s1⟩ := p
              rw [hq] at h
              simp only at h
              cases hl : allU8 l with
              | none => rw [hl] at h; simp at h
              | some r =>
                rw [hl] at h
                simp only [Option.some.injEq, Prod.mk.injEq] at h
                obtain ⟨rfl, rfl⟩ := h
                obtain ⟨new', e1, e2, e3, _, e5, e6⟩ := firstCells_run (P := P) hr hq hV ⟨n, rfl, Nat.le_refl _⟩ vx
                obtain ⟨ns, f1, f2⟩ := allU8_rel hl e2
                refine ⟨σ, w, _, ?_, VR.ofStr _, e5, e6⟩
                cases x0 with
                | none =>
                  obtain ⟨rfl, _, hv⟩ := vx.out
                  rw [hv, run_convert_bytes_nil w src e u1 he 0 0 dst u2]
                  have : ns = [] := by
                    have : new' = [] := List.eq_nil_of_length_eq_zero (by simpa using e3)
                    rw [this] at f1
                    exact (List.map_eq_nil_iff.1 f1.symm)
                  subst this
                  subst f2
                  rfl
                | some a =>
                  obtain ⟨_, _, _, _, a', c', hv, _⟩ := vx.out
                  rw [hv]
                  rw [run_convert_bytes_string w src dst e _ n c' u1 he u2]
                  have e1w := e1 w rfl
                  rw [hv] at e1w
                  have hload : (loadCells a' n).run P w = .ok (ns.map (Value.int .u8)).toArray w := by
                    rw [← f1]
                    simpa [Builtin.firstCells] using e1w
                  rw [run_bytesToString w a' n c' ns hload, foldl_push, f2]
                  have he0 : ByteArray.empty.data = #[] := rfl
                  rw [he0]
                  simp
        · rename_i e e2 hd1 hd2
          have u1 := ti.und
          rw [hd1] at u1
          cases x0 with
          | none => simp at h
          | some a =>
            simp only at h
            cases hb : (Nat.beq src dst && (Nat.blt 0 n && isU8 Γ e)) with
            | false => rw [hb] at h; simp [markC] at h
            | true =>
              rw [hb] at h
              rw [Bool.and_eq_true, Bool.and_eq_true] at hb
              have hsd := Nat.eq_of_beq_eq_true hb.1
              subst hsd
              cases hq : s.write a [] with
              | none => rw [hq] at h; simp [markC] at h
              | some s1 =>
                rw [hq] at h
                simp only [cond_true, markC, Option.some.injEq, Prod.mk.injEq] at h
                obtain ⟨rfl, rfl⟩ := h
                exact mark_did u1 (isU8_und hE hb.2.2) hr hV (blt_iff.1 hb.2.1) hq vx
        · simp at h
      · obtain ⟨h1, rfl⟩ := retC_some h
        obtain ⟨h2, h3⟩ := pureC_run (w := w) hsel h1 hρ
        exact Did.same hr h2 h3

theorem copy_did (hE : EnvOk P Γ) (hr : Rel σ V s w) (hV : Covers V s') (hF : Fresh σ s.n s'.n) {t tx ty : TypeId} {x x' y y' : Value} (h : opCopy Γ s t y x = some (v, s')) (hx : VR σ x x') (hy : VR σ y y') :
    DidV σ V s w ((Builtin.copy_ #[t, tx] ty #[x', y']).run P w) v s' := by
  unfold opCopy at h
  split at h
  · rename_i base len cap
    cases hi : elemOf? Γ t with
    | none => rw [hi] at h; simp at h
    | some j =>
      cases hm : lenC y with
      | none => rw [hi, hm] at h; simp at h
      | some m =>
        rw [hi, hm] at h
        simp only at h
        obtain ⟨e, hu, hti⟩ := elem_some hE hi
        unfold copyC at h
        cases hq : s.firstCells j.size (min m len) y with
        | none => rw [hq] at h; simp at h
        | some p =>
          obtain ⟨cs, s1⟩ := p
          rw [hq] at h
          simp only at h
          obtain ⟨c1, k1, n1, o1⟩ := firstCells_keep (σ := σ) (V := V) (w := w) hq
          have hlen : ∀ w0, (Builtin.lenOf y').run P w0 = .ok m w0 := lenC_run hm hy
          have hmin : Nat.min m len = min m len := rfl
          cases hz : Nat.beq (min m len * j.size) 0 with
          | true =>
            rw [hz] at h
            simp only [cond_true, Option.some.injEq, Prod.mk.injEq] at h
            obtain ⟨rfl, rfl⟩ := h
            obtain ⟨new', e1, e2, e3, _, e5, e6⟩ := firstCells_run (P := P) hr hq hV ⟨m, hm, Nat.min_le_left _ _⟩ hy
            have h0 := Nat.eq_of_beq_eq_true hz
            have hnil : new' = [] := List.eq_nil_of_length_eq_zero (by omega)
            subst hnil
            have e1w := e1 w rfl
            refine ⟨σ, w, .int .i64 ((min m len : Nat) : Int), ?_, VR.ofInt _ _, e5, e6⟩
            cases base with
            | none =>
              obtain ⟨rfl, rfl, rfl⟩ := hx.out
              simp [Builtin.copy_, run_underlying hu, hlen, run_sizeOf' hti, hmin, goInt] at e1w ⊢
              rw [e1w]; rfl
            | some a =>
              obtain ⟨_, _, _, _, a', c', rfl, _⟩ := hx.out
              simp [Builtin.copy_, run_underlying hu, hlen, run_sizeOf' hti, hmin, goInt, e1w, storeCells]
          | false =>
            rw [hz] at h
            simp only [cond_false] at h
            cases base with
            | none => simp at h
            | some a =>
              simp only at h
              cases hw : s1.write a cs with
              | none => rw [hw] at h; simp at h
              | some s2 =>
                rw [hw] at h
                simp only [Option.some.injEq, Prod.mk.injEq] at h
                obtain ⟨rfl, rfl⟩ := h
                have hr1 := k1 hr
                have c2 : Can s1 s2 := write_can hr1 hw
                obtain ⟨new', e1, e2, e3, _, _, e6⟩ := firstCells_run (P := P) hr hq (hV.back c2) ⟨m, hm, Nat.min_le_left _ _⟩ hy
                obtain ⟨b, o, z, hσ, a', c', rfl, v1, v2, v3, v4, v5, v6⟩ := hx.out
                have hne : c' ≠ 0 := by
                  rintro rfl
                  have : len = 0 := by omega
                  subst this
                  simp at hz
                have := v4 hne
                subst this
                obtain ⟨w1, w2, w3, w4, w5⟩ := write_rel hw hr1 hV hσ e2
                have hst := run_storeCells_cells (P := P) b (o + a.off) new' 0 w (by simpa using w1) (by simpa using w2) w3
                simp only [Nat.add_zero] at hst
                have e1w := e1 w rfl
                refine ⟨σ, _, .int .i64 ((min m len : Nat) : Int), ?_, VR.ofInt _ _, w4, e6.trans w5 c1 c2 hF hr.none⟩
                simp [Builtin.copy_, run_underlying hu, hlen, run_sizeOf' hti, hmin, goInt, e1w, hst]
  · simp at h
theorem EL.length {R : Value → Value → Prop} : ∀ {l : List (Value × Value)} {m : List MapEntry}, EL R l m → l.length = m.length
  | [], [], _ => rfl
  | (_, _) :: l, _ :: m, ⟨_, _, _, d⟩ => by simp [EL.length d]
  | [], _ :: _, h => h.elim
  | _ :: _, [], h => h.elim
theorem len_did (hE : EnvOk P Γ) (hr : Rel σ V s w) (hV : Covers V s') {t ty : TypeId} {x x' : Value} (h : opLen Γ s t x = some (v, s')) (hx : VR σ x x') : DidV σ V s w ((Builtin.len_ #[t] ty #[x']).run P w) v s' := by
  unfold opLen at h
  cases hi : Γ.ti.at t with
  | none => rw [hi] at h; simp at h
  | some i =>
    rw [hi] at h
    simp only at h
    have hu := (hE.ti _ _ hi).und
    split at h
    · rename_i b hd
      rw [hd] at hu
      simp only [Option.some.injEq, Prod.mk.injEq] at h
      obtain ⟨rfl, rfl⟩ := h
      obtain rfl := hx.str
      exact DidV.same hr (by simp [Builtin.len_, run_underlying hu, goInt]) (VR.ofInt _ _)
    · rename_i n e hd
      rw [hd] at hu
      simp only [Option.some.injEq, Prod.mk.injEq] at h
      obtain ⟨rfl, rfl⟩ := h
      exact DidV.same hr (by simp [Builtin.len_, run_underlying hu, goInt]) (VR.ofInt _ _)
    · rename_i e a n c hd
      rw [hd] at hu
      simp only [Option.some.injEq, Prod.mk.injEq] at h
      obtain ⟨rfl, rfl⟩ := h
      cases a with
      | none => obtain ⟨rfl, _, rfl⟩ := hx.out; exact DidV.same hr (by simp [Builtin.len_, run_underlying hu, goInt]) (VR.ofInt _ _)
      | some a => obtain ⟨_, _, _, _, _, _, rfl, _⟩ := hx.out; exact DidV.same hr (by simp [Builtin.len_, run_underlying hu, goInt]) (VR.ofInt _ _)
    · rename_i k e hd
      rw [hd] at hu
      simp only [Option.some.injEq, Prod.mk.injEq] at h
      obtain ⟨rfl, rfl⟩ := h
      obtain rfl := hx.out
      exact DidV.same hr (by simp [Builtin.len_, run_underlying hu, goInt]) (VR.ofInt _ _)
    · rename_i k e r hd
      rw [hd] at hu
      unfold lenMapC at h
      cases hq : s.readMap r with
      | none => rw [hq] at h; simp at h
      | some p =>
        obtain ⟨es, s1⟩ := p
        rw [hq] at h
        simp only [Option.some.injEq, Prod.mk.injEq] at h
        obtain ⟨rfl, rfl⟩ := h
        obtain ⟨b, o, z, hσ, rfl⟩ := hx.out
        obtain ⟨⟨ents, clock, hb, hel⟩, _, h3, h4⟩ := readMap_at hq hr hV hσ
        refine ⟨σ, w, .int .i64 (es.length : Int), ?_, VR.ofInt _ _, h3, h4⟩
        have : es.length = ents.size := by rw [hel.length, Array.length_toList]
        have hg : (getObj b).run P w = .ok (.map ents clock) w := by simp [getObj, Sem.run, hb]
        simp [Builtin.len_, run_underlying hu, goInt, hg, this]
    · simp at h
theorem bytes_eq (a b : ByteArray) : (a == b) = (a.data.toList == b.data.toList) := by
  cases a with | mk x =>
  cases b with | mk y =>
  show (x == y) = (x.toList == y.toList)
  rw [Bool.eq_iff_iff, beq_iff_eq, beq_iff_eq]
  exact ⟨fun h => by rw [h], fun h => Array.toList_inj.1 h⟩
theorem keyEq_same {kind : TypeDesc} {k k' : Value} {b : Bool} (hk : match kind, k with | .int a, .int c _ => Nat.beq (ikN a) (ikN c) = true | .string, .string _ => True | .bool, .bool _ => True | _, _ => False) (h : keyEq k k' = some b) :
    Instr.sameNow kind k k' = some b ∧ (b = true → k' = k) := by
  unfold keyEq at h
  split at h
  · rename_i k1 a k2 c
    rw [sel_eq] at h
    split at h
    · rename_i hq
      have := ikN_inj hq
      subst this
      simp only [Option.some.injEq] at h
      split at hk
      · rename_i heq
        cases heq
        refine ⟨by simp [Instr.sameNow, h], fun hb => ?_⟩
        subst hb
        simp at h
        rw [h]
      · rename_i heq; simp at heq
      · rename_i heq; simp at heq
      · exact hk.elim
    · simp at h
  · rename_i a c
    simp only [Option.some.injEq] at h
    split at hk
    · rename_i heq; simp at heq
    · refine ⟨by simp only [Instr.sameNow, bytes_eq, h], fun hb => ?_⟩
      subst hb
      rw [beq_iff_eq] at h
      cases a; cases c
      exact congrArg (fun x => Value.string ⟨x⟩) (Array.toList_inj.1 h).symm
    · rename_i heq; simp at heq
    · exact hk.elim
  · rename_i a c
    simp only [Option.some.injEq] at h
    split at hk
    · rename_i heq; simp at heq
    · rename_i heq; simp at heq
    · refine ⟨by simp [Instr.sameNow, h], fun hb => ?_⟩
      subst hb
      simp at h
      rw [h]
    · exact hk.elim
  · simp at h
def KeyFits (kind : TypeDesc) (k : Value) : Prop := match kind, k with | .int a, .int c _ => Nat.beq (ikN a) (ikN c) = true | .string, .string _ => True | .bool, .bool _ => True | _, _ => False
theorem keyV_fits {t : TypeId} {k : Value} (h : keyV Γ t k = true) : ∃ i, Γ.ti.at t = some i ∧ KeyFits i.desc k := by
  unfold keyV at h
  cases hi : Γ.ti.at t with
  | none => rw [hi] at h; simp at h
  | some i =>
    rw [hi] at h
    simp only at h
    refine ⟨i, rfl, ?_⟩
    unfold KeyFits
    split at h <;> simp_all
theorem get_run {kind : TypeDesc} {k : Value} (hk : KeyFits kind k) {R : Value → Value → Prop} : ∀ {es : List (Value × Value)} {ents : List MapEntry} {r : Option Value} (i : Nat), mapGet k es = some r → EL R es ents →
    match r with
    | some v => ∃ j v', Instr.findNow kind k ents i = some (some (j, v')) ∧ R v v'
    | none => Instr.findNow kind k ents i = some none
  | [], [], r, i, h, _ => by simp only [mapGet, Option.some.injEq] at h; subst h; rfl
  | (k', v) :: es, e :: ents, r, i, h, ⟨a, _, c, d⟩ => by
    simp only [mapGet] at h
    cases hq : keyEq k k' with
    | none => rw [hq] at h; simp at h
    | some b =>
      obtain ⟨h1, _⟩ := keyEq_same hk hq
      rw [hq] at h
      cases b with
      | true =>
        simp only [Option.some.injEq] at h
        subst h
        exact ⟨i, e.val, by simp only [Instr.findNow, a, h1], c⟩
      | false =>
        simp only at h
        have := get_run hk (i + 1) h d
        cases r with
        | none => simp only at this ⊢; simp only [Instr.findNow, a, h1]; exact this
        | some v0 => obtain ⟨j, v', h2, h3⟩ := this; exact ⟨j, v', by simp only [Instr.findNow, a, h1]; exact h2, h3⟩
  | [], _ :: _, _, _, _, h => h.elim
  | _ :: _, [], _, _, _, h => h.elim
theorem run_checkKey {kt : TypeId} {i : TI} (hi : TIOk P kt i) {k : Value} (hk : KeyFits i.desc k) (b : Bool) (n : Nat) : (Instr.checkKey b (n + 1) kt k).run P w = .ok () w := by
  have hu := hi.und
  unfold KeyFits at hk
  cases hd : i.desc with
  | int a => rw [hd] at hk hu; cases k <;> first | exact hk.elim | simp [Instr.checkKey, run_underlying hu]
  | string => rw [hd] at hk hu; cases k <;> first | exact hk.elim | simp [Instr.checkKey, run_underlying hu]
  | bool => rw [hd] at hk hu; cases k <;> first | exact hk.elim | simp [Instr.checkKey, run_underlying hu]
  | _ => rw [hd] at hk; exact hk.elim
theorem run_checkKey' {kt : TypeId} {i : TI} (hi : TIOk P kt i) {k : Value} (hk : KeyFits i.desc k) (b : Bool) : (Instr.checkKey b 10000 kt k).run P w = .ok () w := run_checkKey hi hk b 9999
theorem KeyFits.self {kind : TypeDesc} {k k' : Value} (h : KeyFits kind k) (hv : VR σ k k') : k' = k := by
  unfold KeyFits at h
  split at h
  · exact hv.int
  · exact hv.str
  · exact hv.bool
  · exact h.elim
theorem KeyFits.plain {kind : TypeDesc} {k : Value} (h : KeyFits kind k) : plainV 3 k = true := by
  unfold KeyFits at h
  split at h
  · rfl
  · rfl
  · rfl
  · exact h.elim
theorem zeroC_run {i : TI} {t : TypeId} (hi : TIOk P t i) {z : Value} (h : zeroC i = some z) : ∃ z', (∀ w, (zeroValue t).run P w = .ok z' w) ∧ ∀ σ, VR σ z z' := by
  obtain ⟨z', h1, h2, h3⟩ := run_zero' (P := P) hi
  refine ⟨z', h3, fun σ => ?_⟩
  have hr := hi.refl σ
  unfold zeroC at h
  unfold shapeV at h2
  cases ha : aggT i.desc with
  | true =>
    rw [ha] at h
    simp only [cond_true, Option.some.injEq] at h
    subst h
    split at h2
    · rename_i cs
      have hc : cs.toList = i.zero := h1
      refine VR.mk ⟨cs, rfl, ?_⟩
      rw [hc]
      simpa using hr
    · simp at h2
    · rw [ha] at h2; simp at h2
  | false =>
    rw [ha] at h
    simp only [cond_false] at h
    split at h
    · rename_i z0 hz
      simp only [Option.some.injEq] at h
      subst h
      have hc : z'.cells.toList = [z0] := by rw [h1, hz]
      have : z' = z0 := by
        split at h2
        · rw [ha] at h2; simp at h2
        · simp at h2
        · rename_i hn1 hn2
          cases z' with
          | agg cs => exact absurd rfl (hn1 cs)
          | _ => simp [Value.cells] at hc; exact hc
      rw [this]
      rw [hz] at hr
      exact hr.1
    · simp at h
theorem lookup_did (hE : EnvOk P Γ) (hr : Rel σ V s w) (hV : Covers V s') {t : TypeId} {ok : Bool} {x x' k k' : Value} (h : opLookup Γ s t x k ok = some (v, s')) (hx : VR σ x x') (hk : VR σ k k') : DidV σ V s w ((Instr.lookup t x' k' ok).run P w) v s' := by
  unfold opLookup at h
  split at h
  · rename_i r
    cases hi : Γ.ti.at t with
    | none => rw [hi] at h; simp at h
    | some i =>
      rw [hi] at h
      simp only at h
      have hu := (hE.ti _ _ hi).und
      split at h
      · rename_i kt e hd
        rw [hd] at hu
        rw [sel_eq] at h
        split at h
        · rename_i hkv
          obtain ⟨ik, hik, hfit⟩ := keyV_fits hkv
          have htk := hE.ti _ _ hik
          have huk := htk.und
          have hkk := hfit.self hk
          subst hkk
          cases hj : Γ.ti.at e with
          | none => rw [hj] at h; simp at h
          | some j =>
            rw [hj] at h
            simp only at h
            -- the entries
            have key : ∀ (es : List (Value × Value)) (s1 : CS), lookC k' ok (zeroC j) (some (es, s1)) = some (v, s') → s' = s1 ∧ ∀ (ents : Array MapEntry), EL (VR σ) es ents.toList → ∃ (fr : Option (Nat × Value)) (z' : Value),
                (∀ w0 : World, (Instr.findKey kt k' ents.toList).run P w0 = .ok fr w0) ∧ (∀ w0 : World, (zeroValue e).run P w0 = .ok z' w0) ∧
                ((∃ jj v', fr = some (jj, v') ∧ VR σ v (if ok then .tuple #[v', .bool true] else v')) ∨ (fr = none ∧ VR σ v (if ok then .tuple #[z', .bool false] else z'))) := by
              intro es s1 hl
              unfold lookC at hl
              simp only at hl
              cases hz : zeroC j with
              | none => rw [hz] at hl; simp at hl
              | some z =>
                cases hg : mapGet k' es with
                | none => rw [hz, hg] at hl; simp at hl
                | some r0 =>
                  rw [hz, hg] at hl
                  simp only [Option.some.injEq, Prod.mk.injEq] at hl
                  obtain ⟨rfl, rfl⟩ := hl
                  refine ⟨rfl, fun ents hel => ?_⟩
                  obtain ⟨z', hz1, hz2⟩ := zeroC_run (hE.ti _ _ hj) hz
                  have hgr := get_run hfit 0 hg hel
                  cases r0 with
                  | none =>
                    simp only at hgr
                    refine ⟨none, z', fun w0 => by simp [Instr.findKey, run_underlying huk, hgr], hz1, .inr ⟨rfl, ?_⟩⟩
                    cases ok
                    · exact hz2 σ
                    · exact VR.mk ⟨_, rfl, hz2 σ, VR.ofBool _, trivial⟩
                  | some v0 =>
                    simp only at hgr
                    obtain ⟨jj, v', g1, g2⟩ := hgr
                    refine ⟨some (jj, v'), z', fun w0 => by simp [Instr.findKey, run_underlying huk, g1], hz1, .inl ⟨jj, v', rfl, ?_⟩⟩
                    cases ok
                    · exact g2
                    · exact VR.mk ⟨_, rfl, g2, VR.ofBool _, trivial⟩
            cases r with
            | none =>
              obtain rfl := hx.out
              simp only at h
              obtain ⟨rfl, hf⟩ := key _ _ h
              obtain ⟨fr, z', g1, g2, g3⟩ := hf #[] trivial
              rcases g3 with ⟨jj, v', rfl, g4⟩ | ⟨rfl, g4⟩
              · refine DidV.same hr ?_ g4
                have g1' := g1 w
                simp at g1'
                simp [Instr.lookup, run_underlying hu, run_checkKey' htk hfit, g1']
              · refine DidV.same hr ?_ g4
                have g1' := g1 w
                simp at g1'
                simp [Instr.lookup, run_underlying hu, run_checkKey' htk hfit, g1', g2]
            | some r =>
              simp only at h
              cases hq : s.readMap r with
              | none => rw [hq] at h; simp [lookC] at h
              | some p =>
                obtain ⟨es, s1⟩ := p
                rw [hq] at h
                obtain ⟨rfl, hf⟩ := key _ _ h
                obtain ⟨b, o, z, hσ, rfl⟩ := hx.out
                obtain ⟨⟨ents, clock, hb, hel⟩, _, h3, h4⟩ := readMap_at hq hr hV hσ
                obtain ⟨fr, z', g1, g2, g3⟩ := hf ents hel
                have hg : (getObj b).run P w = .ok (.map ents clock) w := by simp [getObj, Sem.run, hb]
                rcases g3 with ⟨jj, v', rfl, g4⟩ | ⟨rfl, g4⟩
                · exact ⟨σ, w, _, by simp [Instr.lookup, run_underlying hu, run_checkKey' htk hfit, hg, g1], g4, h3, h4⟩
                · exact ⟨σ, w, _, by simp [Instr.lookup, run_underlying hu, run_checkKey' htk hfit, hg, g1, g2], g4, h3, h4⟩
        · simp at h
      · simp at h
  · simp at h
theorem sameBits_self {kind : TypeDesc} {k : Value} (h : KeyFits kind k) (n : Nat) : Instr.sameBits n k k = true := by
  unfold KeyFits at h
  split at h
  · cases n <;> simp [Instr.sameBits]
  · cases n <;> simp [Instr.sameBits, bytes_eq]
  · cases n <;> simp [Instr.sameBits]
  · exact h.elim
theorem set_run {kind : TypeDesc} {k v v' : Value} (hk : KeyFits kind k) {R : Value → Value → Prop} (hv : R v v') : ∀ {es es' : List (Value × Value)} {ents : List MapEntry} (i : Nat), mapSet k v es = some es' → EL R es ents →
    (∃ j val e, Instr.findNow kind k ents i = some (some (i + j, val)) ∧ ents[j]? = some e ∧ e.key = k ∧ EL R es' (ents.modify j fun e => { e with key := k, val := v' })) ∨
    (Instr.findNow kind k ents i = some none ∧ ∀ c, EL R es' (ents ++ [{ key := k, val := v', born := c }]))
  | [], es', [], i, h, _ => by
    simp only [mapSet, Option.some.injEq] at h
    subst h
    exact .inr ⟨rfl, fun c => ⟨rfl, hk.plain, hv, trivial⟩⟩
  | (k', v0) :: es, es', e :: ents, i, h, ⟨a, b, c, d⟩ => by
    simp only [mapSet] at h
    cases hq : keyEq k k' with
    | none => rw [hq] at h; simp at h
    | some bb =>
      obtain ⟨h1, h2⟩ := keyEq_same hk hq
      rw [hq] at h
      cases bb with
      | true =>
        simp only [Option.some.injEq] at h
        subst h
        refine .inl ⟨0, e.val, e, by simp only [Instr.findNow, a, h1]; rfl, rfl, by rw [a]; exact h2 rfl, ?_⟩
        exact ⟨rfl, hk.plain, hv, d⟩
      | false =>
        simp only at h
        cases hm : mapSet k v es with
        | none => rw [hm] at h; simp at h
        | some es2 =>
          rw [hm] at h
          simp only [Option.some.injEq] at h
          subst h
          rcases set_run hk hv (i + 1) hm d with ⟨j, val, e2, g1, g2, g3, g4⟩ | ⟨g1, g2⟩
          · refine .inl ⟨j + 1, val, e2, ?_, g2, g3, ⟨a, b, c, g4⟩⟩
            simp only [Instr.findNow, a, h1]
            rw [g1, show i + 1 + j = i + (j + 1) by omega]
          · exact .inr ⟨by simp only [Instr.findNow, a, h1]; exact g1, fun cc => ⟨a, b, c, g2 cc⟩⟩
  | [], _, _ :: _, _, _, h => h.elim
  | _ :: _, _, [], _, _, h => h.elim
theorem mapUpdate_did (hE : EnvOk P Γ) (hr : Rel σ V s w) (hV : Covers V s') {t : TypeId} {x x' k k' y y' : Value} (h : opMapUpdate Γ s t k y x = some (v, s')) (hx : VR σ x x') (hk : VR σ k k') (hy : VR σ y y') :
    Did σ V s w ((do Instr.mapUpdate t x' k' y'; pure .skip : Sem Next).run P w) v s' := by
  unfold opMapUpdate at h
  split at h
  · rename_i r
    cases hi : Γ.ti.at t with
    | none => rw [hi] at h; simp at h
    | some i =>
      rw [hi] at h
      simp only at h
      have hu := (hE.ti _ _ hi).und
      split at h
      · rename_i kt e hd
        rw [hd] at hu
        rw [sel_eq] at h
        split at h
        · rename_i hkv
          obtain ⟨ik, hik, hfit⟩ := keyV_fits hkv
          have htk := hE.ti _ _ hik
          have huk := htk.und
          have hkk := hfit.self hk
          subst hkk
          cases hw : s.setMap r k' y with
          | none => rw [hw] at h; simp [doneC] at h
          | some s1 =>
            rw [hw] at h
            simp only [doneC, Option.some.injEq, Prod.mk.injEq] at h
            obtain ⟨rfl, rfl⟩ := h
            obtain ⟨b, o, z, hσ, rfl⟩ := hx.out
            obtain ⟨es, s2, es', h1, h2, h3, _⟩ := setMap_some hw
            have hVr : V r := by
              have := (setMap_some hw)
              obtain ⟨_, _, _, q1, _, _, q4⟩ := this
              obtain ⟨_, q5⟩ := readMap_some q1
              refine hV r ?_
              rcases ins_self (lim := s.lim) (l := s.wr) (n := r) with kk | kk
              · exact .inr (.inl (by rw [q4]; exact kk))
              · exact .inr (.inr (by rw [q4, q5]; exact kk))
            obtain ⟨h4, _⟩ := readMap_some h1
            obtain ⟨ents, clock, hb, hel⟩ := (hr.fam r hVr).es es h4 b o z hσ
            have hg : (getObj b).run P w = .ok (.map ents clock) w := by simp [getObj, Sem.run, hb]
            have hset : ∀ en cl, (setObj b (.map en cl)).run P w = .ok () { w with heap := w.heap.setIfInBounds b (.map en cl) } := fun en cl => by simp [setObj, Sem.run, hb]
            rcases set_run hfit hy 0 h3 hel with ⟨j, val, e0, g1, g2, g3, g4⟩ | ⟨g1, g2⟩
            · have hrel := setMap_rel (w' := { w with heap := w.heap.setIfInBounds b (.map (ents.modify j fun e => { e with key := k', val := y' }) clock) }) hw hr hV hσ (fun es0 es0' q1 q2 => by
                rw [h4] at q1
                cases q1
                rw [h3] at q2
                cases q2
                exact ⟨_, clock, rfl, by rw [Array.toList_modify]; exact g4⟩)
              refine ⟨σ, _, .skip, undef, ?_, .inr ⟨rfl, rfl⟩, VR.undef, hrel.2.1, hrel.2.2⟩
              rw [Nat.zero_add] at g1
              have hf : (Instr.findKey kt k' ents.toList).run P w = .ok (some (j, val)) w := by simp [Instr.findKey, run_underlying huk, g1]
              rw [Array.getElem?_toList] at g2
              have hold : ((ents[j]?).map (·.key)).getD k' = k' := by rw [g2]; simpa using g3
              have hks : (Instr.keyThatStays k' k').run P w = .ok k' w := by simp [Instr.keyThatStays, sameBits_self hfit]
              simp [Instr.mapUpdate, run_underlying hu, hg, run_checkKey' htk hfit, hf]
              rw [show (Option.map (fun x => x.key) ents[j]?).getD k' = k' from hold, hks]
              simp [hset]
            · have hrel := setMap_rel (w' := { w with heap := w.heap.setIfInBounds b (.map (ents.push { key := k', val := y', born := clock }) (clock + 1)) }) hw hr hV hσ (fun es0 es0' q1 q2 => by
                rw [h4] at q1
                cases q1
                rw [h3] at q2
                cases q2
                exact ⟨_, clock + 1, rfl, by rw [Array.toList_push]; exact g2 clock⟩)
              refine ⟨σ, _, .skip, undef, ?_, .inr ⟨rfl, rfl⟩, VR.undef, hrel.2.1, hrel.2.2⟩
              have hf : (Instr.findKey kt k' ents.toList).run P w = .ok none w := by simp [Instr.findKey, run_underlying huk, g1]
              simp [Instr.mapUpdate, run_underlying hu, hg, run_checkKey' htk hfit, hf, hset]
        · simp at h
      · simp at h
  · simp at h
end
end Go.Proofs.YtcmfoipnoejmlaaDoor
