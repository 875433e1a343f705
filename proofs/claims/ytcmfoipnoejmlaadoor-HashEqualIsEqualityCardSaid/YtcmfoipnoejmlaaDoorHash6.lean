/- hash.compress as a known function of the plain machine. -/
import Derived.Test.YtcmfoipnoejmlaaDoorHash5
namespace Go.Proofs.YtcmfoipnoejmlaaDoor
open Go Go.RowKit
set_option linter.unusedVariables false
/-- reckon a list of numbers first -/
noncomputable def fcL {α : Type} : List Nat → (List Nat → α) → α
  | [], k => k []
  | n :: l, k => fc n fun n' => fcL l fun l' => k (n' :: l')
theorem fcL_eq {α : Type} : ∀ (l : List Nat) (k : List Nat → α), fcL l k = k l
  | [], k => rfl
  | n :: l, k => by rw [fcL, fc_eq, fcL_eq l]
/-- words and bytes out of cells -/
noncomputable def wordsN : List Value → Option (List Nat)
  | [] => some []
  | .int .u32 (.ofNat n) :: l => bif Nat.blt n 4294967296 then (match wordsN l with | some r => some (n :: r) | none => none) else none
  | _ :: _ => none
noncomputable def bytesN : List Value → Option (List Nat)
  | [] => some []
  | .int .u8 (.ofNat n) :: l => bif Nat.blt n 256 then (match bytesN l with | some r => some (n :: r) | none => none) else none
  | _ :: _ => none
theorem wordsN_out : ∀ {l : List Value} {r : List Nat}, wordsN l = some r → ∃ w : List UInt32, l = wvs w ∧ r = w.map UInt32.toNat
  | [], r, h => by simp [wordsN] at h; subst h; exact ⟨[], rfl, rfl⟩
  | v :: l, r, h => by
    unfold wordsN at h
    split at h
    · simp_all
    · rename_i n l' heq
      simp only [List.cons.injEq] at heq
      obtain ⟨rfl, rfl⟩ := heq
      cases hb : Nat.blt n 4294967296 with
      | false => rw [hb] at h; simp at h
      | true =>
        rw [hb] at h
        simp only [cond_true] at h
        have hn := blt_iff.1 hb
        cases hq : wordsN l with
        | none => rw [hq] at h; simp at h
        | some r' =>
          rw [hq] at h
          simp only [Option.some.injEq] at h
          subst h
          obtain ⟨w, rfl, rfl⟩ := wordsN_out hq
          have he : (UInt32.ofNat n).toNat = n := UInt32.toNat_ofNat_of_lt' hn
          refine ⟨UInt32.ofNat n :: w, ?_, ?_⟩
          · show _ = vw (UInt32.ofNat n) :: wvs w
            unfold vw
            rw [he]; rfl
          · rw [List.map_cons, he]
    · simp at h
theorem bytesN_out : ∀ {l : List Value} {r : List Nat}, bytesN l = some r → ∃ w : List UInt8, l = bvs w ∧ r = w.map UInt8.toNat
  | [], r, h => by simp [bytesN] at h; subst h; exact ⟨[], rfl, rfl⟩
  | v :: l, r, h => by
    unfold bytesN at h
    split at h
    · simp_all
    · rename_i n l' heq
      simp only [List.cons.injEq] at heq
      obtain ⟨rfl, rfl⟩ := heq
      cases hb : Nat.blt n 256 with
      | false => rw [hb] at h; simp at h
      | true =>
        rw [hb] at h
        simp only [cond_true] at h
        have hn := blt_iff.1 hb
        cases hq : bytesN l with
        | none => rw [hq] at h; simp at h
        | some r' =>
          rw [hq] at h
          simp only [Option.some.injEq] at h
          subst h
          obtain ⟨w, rfl, rfl⟩ := bytesN_out hq
          have he : (UInt8.ofNat n).toNat = n := UInt8.toNat_ofNat_of_lt' hn
          refine ⟨UInt8.ofNat n :: w, ?_, ?_⟩
          · show _ = vb (UInt8.ofNat n) :: bvs w
            unfold vb
            rw [he]; rfl
          · rw [List.map_cons, he]
    · simp at h
theorem wordsN_in : ∀ (w : List UInt32), wordsN (wvs w) = some (w.map UInt32.toNat)
  | [] => rfl
  | x :: w => by
    show (bif Nat.blt x.toNat 4294967296 then (match wordsN (wvs w) with | some r => some (x.toNat :: r) | none => none) else none) = _
    rw [wordsN_in w, blt_ok x.toNat_lt]; rfl
theorem bytesN_in : ∀ (w : List UInt8), bytesN (bvs w) = some (w.map UInt8.toNat)
  | [] => rfl
  | x :: w => by
    show (bif Nat.blt x.toNat 256 then (match bytesN (bvs w) with | some r => some (x.toNat :: r) | none => none) else none) = _
    rw [bytesN_in w, blt_ok x.toNat_lt]; rfl
noncomputable def natW (n : Nat) : Value := .int .u32 (.ofNat n)
theorem natW_map (w : List UInt32) : (w.map UInt32.toNat).map natW = wvs w := by rw [List.map_map]; rfl
/-- all that hash.compress must find -/
noncomputable def compOk (s : CS) (a : Addr) (u len cap : Nat) (sN bN kN : List Nat) : Bool :=
  Nat.beq len 64 && (Nat.ble len cap && (Nat.blt cap 1000000000 && (Nat.beq sN.length 8 && (Nat.beq bN.length 64 && (Nat.beq kN.length 64 && (Nat.blt a.block s.n && (Nat.blt 1 s.n && (Nat.beq (u % 1024) 0 || Nat.beq (u % 1024) 2))))))))
noncomputable def hComp3 (s : CS) (a : Addr) (u len cap : Nat) : Option (List Nat) → Option (List Nat) → Option (List Nat) → Option (Value × CS)
  | some sN, some bN, some kN => bif compOk s a u len cap sN bN kN then
      fcL sN fun sN => fcL bN fun bN => fcL kN fun kN => fcL (compN kN sN bN) fun r => some (.agg (r.map natW).toArray, { s with n := s.n + 7, rd := ins s.lim (ins s.lim s.rd a.block) 1 }) else none
  | _, _, _ => none
noncomputable def hComp2 (s : CS) (ws : List Value) (a : Addr) (u len cap : Nat) : Option (List Value) → Option (List Value) → Option (Value × CS)
  | some cs, some kc => hComp3 s a u len cap (wordsN ws) (bytesN ((cs.drop a.off).take 64)) (wordsN kc)
  | _, _ => none
noncomputable def hComp : List Value → CS → Option (Value × CS)
  | [.agg ws, .slice (some ⟨f, o, some u⟩) len cap], s => hComp2 s ws.toList ⟨f, o, some u⟩ u len cap (rowOf (objAt s.obj f).rows u) (rowOf (objAt s.obj 1).rows (1 * 1024))
  | _, _ => none
theorem ins_in {lim f : Nat} {l : List Nat} (h : f < lim) : f ∈ ins lim l f := by
  rcases @ins_self lim l f with k | k
  · exact k
  · omega
theorem hComp_eq (kt st : List UInt32) (bs : List UInt8) (f u o len cap : Nat) (s : CS) (cs : List Value) (hr : rowOf (objAt s.obj f).rows u = some cs) (hc : (cs.drop o).take 64 = bvs bs) (hk : rowOf (objAt s.obj 1).rows (1 * 1024) = some (wvs kt)) (hs : st.length = 8) (hkt : kt.length = 64) (hb : bs.length = 64) (hlen : len = 64) (hcap : len ≤ cap) (hcap2 : cap < 1000000000) (hf : f < s.n) (hG : 1 < s.n) (hu : u % 1024 = 0 ∨ u % 1024 = 2) :
    hComp [.agg (wvs st).toArray, .slice (some (mkA f u o)) len cap] s = some (.agg (wvs (comp kt st bs)).toArray, { s with n := s.n + 7, rd := ins s.lim (ins s.lim s.rd f) 1 }) := by
  show hComp2 s (wvs st).toArray.toList (mkA f u o) u len cap _ _ = _
  rw [hr, hk]
  show hComp3 s (mkA f u o) u len cap (wordsN (wvs st).toArray.toList) (bytesN ((cs.drop o).take 64)) (wordsN (wvs kt)) = _
  rw [List.toList_toArray, hc, wordsN_in, wordsN_in, bytesN_in]
  unfold hComp3
  have hok : compOk s (mkA f u o) u len cap (st.map UInt32.toNat) (bs.map UInt8.toNat) (kt.map UInt32.toNat) = true := by
    unfold compOk
    rw [List.length_map, List.length_map, List.length_map, beq_ok hlen, ble_ok hcap, blt_ok hcap2, beq_ok hs, beq_ok hb, beq_ok hkt, block_mk, blt_ok hf, blt_ok hG]
    rcases hu with hu | hu
    · rw [beq_ok hu]; rfl
    · rw [beq_ok hu]; simp
  simp only [hok, cond_true, fcL_eq]
  rw [← comp_eq kt st bs hs hkt, natW_map]
  rfl
theorem hComp_out {args : List Value} {s : CS} {r : Value × CS} (h : hComp args s = some r) : ∃ (kt st : List UInt32) (bs : List UInt8) (f u o len cap : Nat) (cs : List Value), args = [.agg (wvs st).toArray, .slice (some (mkA f u o)) len cap] ∧ r = (.agg (wvs (comp kt st bs)).toArray, { s with n := s.n + 7, rd := ins s.lim (ins s.lim s.rd f) 1 })
    ∧ rowOf (objAt s.obj f).rows u = some cs ∧ (cs.drop o).take 64 = bvs bs ∧ rowOf (objAt s.obj 1).rows (1 * 1024) = some (wvs kt) ∧ st.length = 8 ∧ kt.length = 64 ∧ bs.length = 64 ∧ len = 64 ∧ len ≤ cap ∧ cap < 1000000000 ∧ f < s.n ∧ 1 < s.n ∧ (u % 1024 = 0 ∨ u % 1024 = 2) := by
  unfold hComp at h
  split at h
  · rename_i ws f o u len cap
    cases h1 : rowOf (objAt s.obj f).rows u with
    | none => rw [h1] at h; simp [hComp2] at h
    | some cs =>
      cases h2 : rowOf (objAt s.obj 1).rows (1 * 1024) with
      | none => rw [h1, h2] at h; simp [hComp2] at h
      | some kc =>
        rw [h1, h2] at h
        simp only [hComp2] at h
        cases h3 : wordsN ws.toList with
        | none => rw [h3] at h; simp [hComp3] at h
        | some sN =>
          cases h4 : bytesN ((cs.drop o).take 64) with
          | none => rw [h3, h4] at h; simp [hComp3] at h
          | some bN =>
            cases h5 : wordsN kc with
            | none => rw [h3, h4, h5] at h; simp [hComp3] at h
            | some kN =>
              rw [h3, h4, h5] at h
              simp only [hComp3, fcL_eq] at h
              cases h6 : compOk s ⟨f, o, some u⟩ u len cap sN bN kN with
              | false => rw [h6] at h; simp at h
              | true =>
                rw [h6] at h
                simp only [cond_true, Option.some.injEq] at h
                obtain ⟨st, e1, rfl⟩ := wordsN_out h3
                obtain ⟨bs, e2, rfl⟩ := bytesN_out h4
                obtain ⟨kt, rfl, rfl⟩ := wordsN_out h5
                unfold compOk at h6
                simp only [Bool.and_eq_true, Bool.or_eq_true, List.length_map] at h6
                obtain ⟨a1, a2, a3, a4, a5, a6, a7, a8, a9⟩ := h6
                have b4 := Nat.eq_of_beq_eq_true a4
                have b6 := Nat.eq_of_beq_eq_true a6
                refine ⟨kt, st, bs, f, u, o, len, cap, cs, ?_, ?_, h1, e2, rfl, b4, b6, Nat.eq_of_beq_eq_true a5, Nat.eq_of_beq_eq_true a1, ble_iff.1 a2, blt_iff.1 a3, blt_iff.1 a7, blt_iff.1 a8, a9.imp Nat.eq_of_beq_eq_true Nat.eq_of_beq_eq_true⟩
                · rw [← e1]; rfl
                · rw [← h, ← comp_eq kt st bs b4 b6, natW_map]
  · simp at h
theorem hComp_ok : AxOk Tryd.prog GG 53 hComp := by
  refine ax_of (L := LL) (ax := fun _ => none) mixed funcs_ok AxsOk.none rfl (fn53 fun _ => none) rfl ?_
  intro args s v s' h hI
  obtain ⟨kt, st, bs, f, u, o, len, cap, cs, rfl, hr, h1, h2, h3, h4, h5, h6, h7, h8, h9, h10, h11, h12⟩ := hComp_out h
  simp only [Prod.mk.injEq] at hr
  obtain ⟨rfl, rfl⟩ := hr
  have hb : BSl (objAt s.obj) s.n f u o len cap bs := by
    refine ⟨h10, h12, h8, by omega, cs, h1, fun i hi => ?_⟩
    have : (bvs bs)[i]? = some (vb (bs.getD i 0)) := bvs_get (by omega)
    rw [← h2, List.getElem?_take_of_lt (by omega), List.getElem?_drop] at this
    exact this
  obtain ⟨n', g', rd', e1, k1, k2, k3, k4⟩ := comp_run (fun _ => none) (fun f _ => rfl) rfl kt st bs f u o len cap s.n (objAt s.obj) s.lim s.rd s.wr hI.lim hb h7 h9 h4 h5 h11 h3
  refine ⟨?_, rfl, rfl, rfl, ?_, Nat.le_add_right _ _, St n' g' s.lim rd' s.wr, e1, k2, ?_, fun x hx => hx, fun f hf => k3 f hf⟩
  · show (wvs (comp kt st bs)).toArray.toList.all (plainV 2) = true
    rw [List.toList_toArray]; exact wvs_plain _
  · intro x hx; exact ins_mem (ins_mem hx)
  · intro x hx
    rcases k4 x hx with hx | ⟨rfl | rfl, hq⟩
    · exact ins_mem (ins_mem hx)
    · exact ins_mem (ins_in hq)
    · exact ins_in hq
end Go.Proofs.YtcmfoipnoejmlaaDoor
