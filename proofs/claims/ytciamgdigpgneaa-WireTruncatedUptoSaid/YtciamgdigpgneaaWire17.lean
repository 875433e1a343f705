/- The law's own examples. -/
import Derived.Test.YtciamgdigpgneaaWire16
namespace Go.Proofs.Ytciamgdigpgneaa
open Go.RowKit WM
/-- nothing that was there has turned -/
abbrev Ext (w w' : World) : Prop := Below w.heap.size w w'
theorem Ext.trans' {a b c : World} (h : Ext a b) (k : Ext b c) : Ext a c := h.trans (k.mono h.size)
theorem ext_alloc (w : World) (o : Obj) : Ext w (w.alloc o) := (Below.refl _ _).alloc (Nat.le_refl _) o
theorem Sl.ext {w w' : World} {ao n cap cs} (h : Sl w ao n cap cs) (e : Ext w w') : Sl w' ao n cap cs := h.below e (Nat.le_refl _)
theorem SlN.ext {w w' : World} {ao n cap sz cs} (h : SlN w ao n cap sz cs) (e : Ext w w') : SlN w' ao n cap sz cs := h.below e (Nat.le_refl _)
/-- a literal of n elements in a block of its own -/
theorem sl_lit (w : World) (e : TypeId) (cs : List Value) (h : cs.length ≤ maxLen) : Sl (w.alloc (.cells cs.toArray e)) (some ⟨w.heap.size, 0, none⟩) cs.length cs.length cs := by
  refine ⟨rfl, Nat.le_refl _, h, by simp, .inr ⟨_, _, rfl, fun j hj => ?_⟩⟩
  rw [Nat.zero_add, cell_of_row _ w.heap.size j cs.toArray e (0, 0) (heap_alloc_new w _)]
  simp [hj]
theorem slN_lit (w : World) (e n sz : TypeId) (cs : List Value) (hn : cs.length = n * sz) (h : n ≤ maxLen) : SlN (w.alloc (.cells cs.toArray e)) (some ⟨w.heap.size, 0, none⟩) n n sz cs := by
  refine ⟨hn, Nat.le_refl _, h, by simp, .inr ⟨_, _, rfl, fun j hj => ?_⟩⟩
  rw [Nat.zero_add, cell_of_row _ w.heap.size j cs.toArray e (0, 0) (heap_alloc_new w _)]
  simp [hn, hj]
theorem bs_lit (w : World) (l : List UInt8) (h : l.length ≤ maxLen) : Bs (w.alloc (.cells (u8s l).toArray 5)) (some ⟨w.heap.size, 0, none⟩) l.length l.length l := by
  have := sl_lit w 5 (u8s l) (by rw [u8s_length]; exact h)
  rwa [u8s_length] at this
theorem bs_lit' (w : World) (g : Nat) (hg : g = w.heap.size) (l : List UInt8) (cs : Array Value) (hcs : cs = (u8s l).toArray) (h : l.length ≤ maxLen) : Bs (w.alloc (.cells cs 5)) (some ⟨g, 0, none⟩) l.length l.length l := by
  subst hcs hg; exact bs_lit w l h
theorem sl_lit' (w : World) (g : Nat) (hg : g = w.heap.size) (e : TypeId) (cs : List Value) (arr : Array Value) (ha : arr = cs.toArray) (h : cs.length ≤ maxLen) : Sl (w.alloc (.cells arr e)) (some ⟨g, 0, none⟩) cs.length cs.length cs := by
  subst ha hg; exact sl_lit w e cs h
theorem slN_lit' (w : World) (g : Nat) (hg : g = w.heap.size) (e n sz : TypeId) (cs : List Value) (arr : Array Value) (ha : arr = cs.toArray) (hn : cs.length = n * sz) (h : n ≤ maxLen) : SlN (w.alloc (.cells arr e)) (some ⟨g, 0, none⟩) n n sz cs := by
  subst ha hg; exact slN_lit w e n sz cs hn h
/-- a load of an array or a struct behind a guard that says yes -/
theorem wpList_load_at_g {P : Program} {ops : Array Oper} {rest : List Oper} {o : Oper} {a : Act} {w : World} {Q : Exit → Act → World → Prop} (hgd : Region.wanted o (yielded ops a.tmps) = true) (ty : TypeId) (x : Operand) (ho : o.op = .load ty x)
    (b off : Nat) (hx : a.eval x = .pointer (some ⟨b, off, none⟩)) (cs : List Value) (arr : Array Value) (ha : arr = cs.toArray) (d : TypeDesc) (hc : CellsAt w b off cs)
    (hu : P.underlying ty = some d) (hd : (match d with | .struct _ | .array _ _ => true | _ => false) = true) (hi : (P.info? ty).map (·.size) = some cs.length)
    (h : wpList P ops Q rest (a.put o.dst (.agg arr)) w) : wpList P ops Q (o :: rest) a w := by
  subst ha
  refine BigFrame.wpList_want hgd fun K hK => ?_
  unfold Oper.wp execOp
  simp only [ho, hx, Instr.loadAt, Instr.sureAddr, Sem.run_bind, Sem.run_pure, Result.andThen_ok, run_loadVar_at hc ty d hu hd hi]
  exact hK _ _ h
theorem CellsAt.ext {w w' : World} {b off : Nat} {cs : List Value} (h : CellsAt w b off cs) (e : Ext w w') : CellsAt w' b off cs := h.keep fun k hk => e.block k hk
theorem cellsAt_new (w : World) (g : Nat) (hg : g = w.heap.size) (e : TypeId) (cs : List Value) (arr : Array Value) (ha : arr = cs.toArray) : CellsAt (w.alloc (.cells arr e)) g 0 cs := by
  subst ha hg
  intro j v hj
  rw [Nat.zero_add, cell_of_row _ w.heap.size j cs.toArray e (0, 0) (heap_alloc_new w _)]
  simpa using hj
theorem enc_small {n : Int} (h0 : 0 ≤ n) (h : n < 64) : enc n = [UInt8.ofNat (n.toNat * 2)] := by
  unfold enc zig; rw [if_neg (by omega), venc_lt (by omega)]
def exD : List UInt8 := [1, 2, 0, 0, 0, 0, 0, 0, 0, 0, 0, 0, 0, 0, 0, 0]
def exL : List UInt8 := [2, 1, 2, 0, 0, 0, 0, 0, 0, 0, 0, 0, 0, 0, 0, 0, 0]
theorem exE : encL (fun d => d) [exD] = exL := by
  unfold encL; rw [enc_small (by simp) (by simp)]; rfl
theorem exE2 : encL encB [[], [97]] = [4, 0, 2, 97] := by
  unfold encL; simp only [List.flatMap_cons, List.flatMap_nil, encB, List.length_cons, List.length_nil]
  rw [enc_small (by simp) (by simp), enc_small (by simp) (by simp), enc_small (by simp) (by simp)]; rfl
theorem exE3 : encB [97, 98] = [4, 97, 98] := by
  unfold encB; rw [enc_small (by simp) (by simp)]; rfl
theorem exE4 : encL enc [1, -1] = [4, 2, 1] := by
  unfold encL; simp only [List.flatMap_cons, List.flatMap_nil, List.length_cons, List.length_nil]
  rw [enc_small (n := ((0 + 1 + 1 : Nat) : Int)) (by simp) (by simp), enc_small (n := 1) (by simp) (by simp)]
  rw [show enc (-1) = [1] by unfold enc zig; rw [if_pos (by omega), venc_lt (by decide)]; rfl]; rfl
theorem exE5 : enc (-65) = [129, 1] := by
  unfold enc zig; rw [if_pos (by omega), venc_ge (by decide), venc_lt (by decide)]; rfl
theorem exT4 : ([1, -1].flatMap enc).length ≤ 1000000000 := by
  have h1 := enc_small (n := 1) (by simp) (by simp)
  have h2 : enc (-1) = [1] := by unfold enc zig; rw [if_pos (by omega), venc_lt (by decide)]; rfl
  simp [h1, h2]
set_option maxRecDepth 100000 in
set_option maxHeartbeats 8000000 in
theorem sanity_true (w : World) : Calls Try.prog 12 #[] w fun e w' => e = .returned (.bool true) ∧ Below w.heap.size w w' := by
  have hLd : (Try.prog.info? 57).map (·.size) = some (u8s exD).length := by kernel_rfl
  have C1 := fun w g hg => wire_GetInt _ 3 3 [128, 1, 9] _ (bs_lit' w g hg [128, 1, 9] #[.int .u8 128, .int .u8 1, .int .u8 9] rfl (by decide))
  simp only [show dec [128, 1, 9] = .ok (64, 2) from rfl, tI] at C1
  have C2 := fun w g hg => wire_GetInt _ 1 1 [128] _ (bs_lit' w g hg [128] #[.int .u8 128] rfl (by decide))
  simp only [show dec [128] = .error 5 from rfl, tI] at C2
  have C3 := fun w g hg => wire_GetInt _ 2 2 [128, 0] _ (bs_lit' w g hg [128, 0] #[.int .u8 128, .int .u8 0] rfl (by decide))
  simp only [show dec [128, 0] = .error 6 from rfl, tI] at C3
  have C4 := fun w g hg => wire_GetBytes _ 4 4 [4, 97, 98, 7] _ (bs_lit' w g hg [4, 97, 98, 7] #[.int .u8 4, .int .u8 97, .int .u8 98, .int .u8 7] rfl (by decide))
  simp only [show getB [4, 97, 98, 7] = .ok ([97, 98], 3) from rfl, tB] at C4
  have C5 := fun w g hg => wire_GetInts _ 3 3 [4, 2, 1] _ (bs_lit' w g hg [4, 2, 1] #[.int .u8 4, .int .u8 2, .int .u8 1] rfl (by decide)) (by decide)
  simp only [show getL dec 1 [4, 2, 1] = .ok ([1, -1], 3) from rfl] at C5
  have C6 := fun w g hg => wire_Digests _ 1 1 [exD] _ (slN_lit' w g hg 57 1 16 ([exD].flatMap cvD) #[.int .u8 1, .int .u8 2, .int .u8 0, .int .u8 0, .int .u8 0, .int .u8 0, .int .u8 0, .int .u8 0, .int .u8 0, .int .u8 0, .int .u8 0, .int .u8 0, .int .u8 0, .int .u8 0, .int .u8 0, .int .u8 0] rfl rfl (by decide)) (by simp [exD]) (by decide)
  simp only [exE] at C6
  have C8 := fun w g hg => wire_GetStrings _ 5 5 [4, 0, 2, 97, 5] _ (bs_lit' w g hg [4, 0, 2, 97, 5] #[.int .u8 4, .int .u8 0, .int .u8 2, .int .u8 97, .int .u8 5] rfl (by decide)) (by decide)
  simp only [show getL getB 1 [4, 0, 2, 97, 5] = .ok ([[], [97]], 4) from rfl] at C8
  have C10 := fun w g hg => wire_Strings _ 2 2 [[], [97]] _ (sl_lit' w g hg 9 ([[], [97]].flatMap cvS) #[.string ⟨#[]⟩, .string ⟨#[97]⟩] rfl (by decide)) (by decide) (by simp) (by simp [encB, List.flatMap_cons]; rw [enc_small (by simp) (by simp), enc_small (by simp) (by simp)]; simp)
  simp only [exE2] at C10
  have C12 := fun w => wire_Int (-65) w (by decide) (by decide)
  simp only [exE5] at C12
  have C15 := fun w => wire_Bytes [97, 98] w (by decide)
  simp only [exE3] at C15
  have C17 := fun w g hg => wire_Ints _ 2 2 [1, -1] _ (sl_lit' w g hg 3 ([1, -1].flatMap cvI) #[.int .i64 1, .int .i64 (-1)] rfl (by decide)) (by decide) (by simp) exT4
  simp only [exE4] at C17
  go_enter Try.func12, Try.ntmps12
  go_wp2_with fail
  refine (C1 _ _ (by simp)).mono ?_; rintro e w1 ⟨rfl, rfl⟩
  go_wp2_with fail
  refine (C2 _ _ (by simp)).mono ?_; rintro e w2 ⟨rfl, rfl⟩
  go_wp2_with fail
  refine (C3 _ _ (by simp)).mono ?_; rintro e w3 ⟨rfl, rfl⟩
  go_wp2_with fail
  refine (C4 _ _ (by simp)).mono ?_; rintro e w4 ⟨rfl, rfl⟩
  go_wp2_with fail
  refine (C5 _ _ (by simp)).mono ?_; rintro e w5 ⟨v5, rfl, ⟨ao5, cap5, rfl, ho5⟩, hb5⟩
  have E5 : Ext w w5 := ((((((ext_alloc w _).trans' (ext_alloc _ _)).trans' (ext_alloc _ _)).trans' (ext_alloc _ _)).trans' (ext_alloc _ _))).trans' hb5
  have S5 : Sl w5 ao5 2 cap5 ([1, -1].flatMap cvI) := (Own.mk' ho5).sl'
  clear ho5 hb5
  trace "6"
  go_wp2_with fail
  refine (C6 _ _ (by simp)).mono ?_; rintro e w6 ⟨v6, rfl, ⟨ao6, cap6, rfl, ho6⟩, hb6⟩
  have K6 : CellsAt w6 w5.heap.size 0 (u8s exD) := ((cellsAt_new w5 _ rfl 57 (u8s exD) #[.int .u8 1, .int .u8 2, .int .u8 0, .int .u8 0, .int .u8 0, .int .u8 0, .int .u8 0, .int .u8 0, .int .u8 0, .int .u8 0, .int .u8 0, .int .u8 0, .int .u8 0, .int .u8 0, .int .u8 0, .int .u8 0] rfl).ext (ext_alloc _ _)).ext hb6
  have E56 : Ext w5 w6 := ((ext_alloc w5 _).trans' (ext_alloc _ _)).trans' hb6
  have S6 : Bs w6 ao6 17 cap6 exL := (Own.mk' ho6).sl'
  have S5 := S5.ext E56
  have E6 := E5.trans' E56
  clear ho6 hb6 E56 E5
  have C7 := wire_GetDigests ao6 17 cap6 exL w6 S6 (by decide)
  simp only [show getL getD16 16 exL = .ok ([exD], 17) from rfl] at C7
  trace "7"
  go_wp2_with fail
  refine C7.mono ?_; rintro e w7 ⟨v7, rfl, ⟨ao7, cap7, rfl, ho7⟩, hb7⟩
  have S7 : SlN w7 ao7 1 cap7 16 ([exD].flatMap cvD) := SlN.of_own' (Own.mk' ho7)
  have S5 := S5.ext hb7
  have K7 := K6.ext hb7
  have E7 := E6.trans' hb7
  clear ho7 hb7 K6 S6 E6 C7
  go_wp2_with fail
  refine (C8 _ _ (by simp)).mono ?_; rintro e w8 ⟨v8, rfl, ⟨ao8, cap8, rfl, ho8⟩, hb8⟩
  have E78 : Ext w7 w8 := (ext_alloc w7 _).trans' hb8
  have S8 : Sl w8 ao8 2 cap8 ([[], [97]].flatMap cvS) := (Own.mk' ho8).sl'
  have S5 := S5.ext E78
  have S7 := S7.ext E78
  have K8 := K7.ext E78
  have E8 := E7.trans' E78
  clear ho8 hb8 K7 E7 E78
  have C9 := ref_SameTexts ao8 2 cap8 [[], [97]] _ 2 2 [[], [97]] _ (S8.ext (ext_alloc w8 (.cells #[.string ⟨#[]⟩, .string ⟨#[97]⟩] 9))) (sl_lit' w8 _ rfl 9 ([[], [97]].flatMap cvS) #[.string ⟨#[]⟩, .string ⟨#[97]⟩] rfl (by decide))
  simp only [show (([[], [97]] : List (List UInt8)) == [[], [97]]) = true from by decide] at C9
  trace "9"
  go_wp2_with fail
  refine C9.mono ?_; rintro e w9 ⟨rfl, hb9⟩
  have E89 : Ext w8 w9 := (ext_alloc w8 _).trans' hb9
  have S5 := S5.ext E89
  have S7 := S7.ext E89
  have K9 := K8.ext E89
  have E9 := E8.trans' E89
  clear hb9 K8 E8 E89 C9 S8
  go_wp2_with fail
  refine (C10 _ _ (by simp)).mono ?_; rintro e w10 ⟨v10, rfl, ⟨ao10, cap10, rfl, ho10⟩, hb10⟩
  have E910 : Ext w9 w10 := (ext_alloc w9 _).trans' hb10
  have S10 : Bs w10 ao10 4 cap10 [4, 0, 2, 97] := (Own.mk' ho10).sl'
  have S5 := S5.ext E910
  have S7 := S7.ext E910
  have K10 := K9.ext E910
  have E10 := E9.trans' E910
  clear ho10 hb10 K9 E9 E910
  have C11 := ref_Same ao10 4 cap10 [4, 0, 2, 97] _ 4 4 [4, 0, 2, 97] _ (S10.ext (ext_alloc w10 (.cells #[.int .u8 4, .int .u8 0, .int .u8 2, .int .u8 97] 5))) (bs_lit' w10 _ rfl [4, 0, 2, 97] #[.int .u8 4, .int .u8 0, .int .u8 2, .int .u8 97] rfl (by decide))
  simp only [show (([4, 0, 2, 97] : List UInt8) == [4, 0, 2, 97]) = true from by decide] at C11
  trace "11"
  go_wp2_with fail
  refine C11.mono ?_; rintro e w11 ⟨rfl, rfl⟩
  clear S10 C11
  go_wp2_with fail
  refine (C12 _).mono ?_; rintro e w12 ⟨v12, rfl, ⟨ao12, cap12, rfl, ho12⟩, hb12⟩
  have E1012 : Ext w10 w12 := (ext_alloc w10 _).trans' hb12
  have S12 : Bs w12 ao12 2 cap12 [129, 1] := (Own.mk' ho12).sl'
  have S5 := S5.ext E1012
  have S7 := S7.ext E1012
  have K12 := K10.ext E1012
  have E12 := E10.trans' E1012
  clear ho12 hb12 K10 E10 E1012
  have C13 := ref_Same ao12 2 cap12 [129, 1] _ 2 2 [129, 1] _ (S12.ext (ext_alloc w12 (.cells #[.int .u8 129, .int .u8 1] 5))) (bs_lit' w12 _ rfl [129, 1] #[.int .u8 129, .int .u8 1] rfl (by decide))
  simp only [show (([129, 1] : List UInt8) == [129, 1]) = true from by decide] at C13
  trace "13"
  go_wp2_with fail
  refine C13.mono ?_; rintro e w13 ⟨rfl, rfl⟩
  clear S12 C13
  have S5 := S5.ext (ext_alloc w12 (.cells #[.int .u8 129, .int .u8 1] 5))
  have S7 := S7.ext (ext_alloc w12 (.cells #[.int .u8 129, .int .u8 1] 5))
  have K13 := K12.ext (ext_alloc w12 (.cells #[.int .u8 129, .int .u8 1] 5))
  have E13 := E12.trans' (ext_alloc w12 (.cells #[.int .u8 129, .int .u8 1] 5))
  clear K12 E12
  generalize w12.alloc (.cells #[.int .u8 129, .int .u8 1] 5) = w13 at *
  have C14 := ref_SameInts ao5 2 cap5 [1, -1] _ 2 2 [1, -1] _ (S5.ext (ext_alloc w13 (.cells #[.int .i64 1, .int .i64 (-1)] 3))) (sl_lit' w13 _ rfl 3 ([1, -1].flatMap cvI) #[.int .i64 1, .int .i64 (-1)] rfl (by decide))
  simp only [show (([1, -1] : List Int) == [1, -1]) = true from by decide] at C14
  trace "14"
  go_wp2_with fail
  refine C14.mono ?_; rintro e w14 ⟨rfl, hb14⟩
  have E1314 : Ext w13 w14 := (ext_alloc w13 _).trans' hb14
  have S7 := S7.ext E1314
  have K14 := K13.ext E1314
  have E14 := E13.trans' E1314
  clear hb14 K13 E13 E1314 S5 C14
  go_wp2_with fail
  refine (C15 _).mono ?_; rintro e w15 ⟨v15, rfl, ⟨ao15, cap15, rfl, ho15⟩, hb15⟩
  have S15 : Bs w15 ao15 3 cap15 [4, 97, 98] := (Own.mk' ho15).sl'
  have S7 := S7.ext hb15
  have K15 := K14.ext hb15
  have E15 := E14.trans' hb15
  clear ho15 hb15 K14 E14
  have C16 := ref_Same ao15 3 cap15 [4, 97, 98] _ 3 3 [4, 97, 98] _ (S15.ext (ext_alloc w15 (.cells #[.int .u8 4, .int .u8 97, .int .u8 98] 5))) (bs_lit' w15 _ rfl [4, 97, 98] #[.int .u8 4, .int .u8 97, .int .u8 98] rfl (by decide))
  simp only [show (([4, 97, 98] : List UInt8) == [4, 97, 98]) = true from by decide] at C16
  trace "16"
  go_wp2_with fail
  refine C16.mono ?_; rintro e w16 ⟨rfl, rfl⟩
  clear S15 C16
  go_wp2_with fail
  refine (C17 _ _ (by simp)).mono ?_; rintro e w17 ⟨v17, rfl, ⟨ao17, cap17, rfl, ho17⟩, hb17⟩
  have E1517 : Ext w15 w17 := ((ext_alloc w15 _).trans' (ext_alloc _ _)).trans' hb17
  have S17 : Bs w17 ao17 3 cap17 [4, 2, 1] := (Own.mk' ho17).sl'
  have S7 := S7.ext E1517
  have K17 := K15.ext E1517
  have E17 := E15.trans' E1517
  clear ho17 hb17 K15 E15 E1517
  have C18 := ref_Same ao17 3 cap17 [4, 2, 1] _ 3 3 [4, 2, 1] _ (S17.ext (ext_alloc w17 (.cells #[.int .u8 4, .int .u8 2, .int .u8 1] 5))) (bs_lit' w17 _ rfl [4, 2, 1] #[.int .u8 4, .int .u8 2, .int .u8 1] rfl (by decide))
  simp only [show (([4, 2, 1] : List UInt8) == [4, 2, 1]) = true from by decide] at C18
  trace "18"
  go_wp2_with fail
  refine C18.mono ?_; rintro e w18 ⟨rfl, rfl⟩
  clear S17 C18
  have S7 := S7.ext (ext_alloc w17 (.cells #[.int .u8 4, .int .u8 2, .int .u8 1] 5))
  have K18 := K17.ext (ext_alloc w17 (.cells #[.int .u8 4, .int .u8 2, .int .u8 1] 5))
  have E18 := E17.trans' (ext_alloc w17 (.cells #[.int .u8 4, .int .u8 2, .int .u8 1] 5))
  clear K17 E17
  generalize w17.alloc (.cells #[.int .u8 4, .int .u8 2, .int .u8 1] 5) = w18 at *
  have C19 := ref_SameDigests ao7 1 cap7 [exD] _ 1 1 [exD] _ (S7.ext (ext_alloc w18 (.cells #[.int .u8 1, .int .u8 2, .int .u8 0, .int .u8 0, .int .u8 0, .int .u8 0, .int .u8 0, .int .u8 0, .int .u8 0, .int .u8 0, .int .u8 0, .int .u8 0, .int .u8 0, .int .u8 0, .int .u8 0, .int .u8 0] 57))) (slN_lit' w18 _ rfl 57 1 16 ([exD].flatMap cvD) #[.int .u8 1, .int .u8 2, .int .u8 0, .int .u8 0, .int .u8 0, .int .u8 0, .int .u8 0, .int .u8 0, .int .u8 0, .int .u8 0, .int .u8 0, .int .u8 0, .int .u8 0, .int .u8 0, .int .u8 0, .int .u8 0] rfl rfl (by decide)) (by simp [exD]) (by simp [exD])
  simp only [show (([exD] : List (List UInt8)) == [exD]) = true from by decide] at C19
  trace "19"
  go_wp2_with (refine wpList_load_at_g rfl 57 (.tmp 16) rfl w5.heap.size 0 rfl (u8s exD) #[.int .u8 1, .int .u8 2, .int .u8 0, .int .u8 0, .int .u8 0, .int .u8 0, .int .u8 0, .int .u8 0, .int .u8 0, .int .u8 0, .int .u8 0, .int .u8 0, .int .u8 0, .int .u8 0, .int .u8 0, .int .u8 0] rfl _ K18 Try.underlying57 rfl hLd ?_)
  trace "20"
  refine C19.mono ?_; rintro e w19 ⟨rfl, hb19⟩
  have E1819 : Ext w18 w19 := (ext_alloc w18 _).trans' hb19
  have E19 := E18.trans' E1819
  clear hb19 E1819 E18 C19 S7 K18
  go_wp2_with fail
  go_ret
  exact ⟨rfl, E19⟩
end Go.Proofs.Ytciamgdigpgneaa
