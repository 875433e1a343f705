/- Trees: the run's own boxes, what a piece of a run may turn, and the operations on memory, one by one: each does in the plain machine what it says on trees. No program in sight. -/
import Derived.Test.YtfalnphlgfoflaaTa
namespace Go.Proofs.Ytfalnphlgfoflaa
open Go Go.RowKit
set_option linter.unusedSimpArgs false
set_option linter.unusedVariables false
inductive Box where
  | gone
  | cells (z : Bool) (N : Nat) (l : List T)
  | map (l : List (T × T))
structure TS where
  n : Nat
  box : Nat → Box
def ts0 : TS := ⟨0, fun _ => .gone⟩
def TS.set (S : TS) (b : Nat) (x : Box) : TS := ⟨S.n, fun i => if i = b then x else S.box i⟩
def TS.add (S : TS) (x : Box) : TS := ⟨S.n + 1, fun i => if i = S.n then x else S.box i⟩
theorem TS.set_same (S : TS) (b : Nat) (x : Box) : (S.set b x).box b = x := if_pos rfl
theorem TS.set_ne (S : TS) {b c : Nat} (x : Box) (h : c ≠ b) : (S.set b x).box c = S.box c := if_neg h
theorem TS.add_same (S : TS) (x : Box) : (S.add x).box S.n = x := if_pos rfl
theorem TS.add_ne (S : TS) {c : Nat} (x : Box) (h : c ≠ S.n) : (S.add x).box c = S.box c := if_neg h
def Own (β : Bx) (f : Nat) : Prop := ∃ b, (∃ u N, β b = some (.live f u N)) ∨ β b = some (.map f)
def Loc.fam : Loc → Option Nat
  | .live f _ _ => some f
  | .map r => some r
  | _ => none
def CellsAt (A : Nat → Prop) (β : Bx) (g : Nat → Fam) (b : Nat) (z : Bool) (N : Nat) (l : List T) : Prop :=
  l.length = N ∧ ((β b = some .nil ∧ N = 0 ∧ z = false) ∨ ∃ f u cs rest, β b = some (.live f u N) ∧ (z = true → u % 1024 = 0) ∧ g f = ⟨false, (u, cs) :: rest, none⟩ ∧ VL A β g l cs ∧ cs.all oneC = true)
def VM (A : Nat → Prop) (β : Bx) (g : Nat → Fam) (l : List (T × T)) (es : List (Value × Value)) : Prop :=
  VL A β g (l.map (·.1)) (es.map (·.1)) ∧ VL A β g (l.map (·.2)) (es.map (·.2)) 
def BoxMapAt (A : Nat → Prop) (β : Bx) (g : Nat → Fam) (b : Nat) (l : List (T × T)) : Prop :=
  ∃ r es, β b = some (.map r) ∧ g r = ⟨false, [], some es⟩ ∧ VM A β g l es
structure TRel (GL : List (Nat × List Value)) (A : Nat → Prop) (β : Bx) (S : TS) (s : CS) : Prop where
  inr : ∃ g, s.obj = .inr g
  inv : CInv s
  alt : ∀ f, A f → f < s.n
  dis : ∀ f, Own β f → f < s.n ∧ ¬ A f
  inj : ∀ b b' l l' f, β b = some l → β b' = some l' → l.fam = some f → l'.fam = some f → b = b'
  next : ∀ b, S.n ≤ b → β b = none
  cells : ∀ b z N l, S.box b = .cells z N l → CellsAt A β (objAt s.obj) b z N l
  maps : ∀ b l, S.box b = .map l → BoxMapAt A β (objAt s.obj) b l
  glob : ∀ x, x ∈ GL → A x.1 ∧ rowOf (objAt s.obj x.1).rows (x.1 * 1024) = some x.2
structure Stp (A : Nat → Prop) (β : Bx) (s : CS) (A' : Nat → Prop) (β' : Bx) (s' : CS) : Prop where
  can : Can s s'
  sub : ∀ f, A f → A' f
  new : ∀ f, A' f → A f ∨ s.n ≤ f ∨ Own β f
  own : ∀ f, Own β' f → Own β f ∨ s.n ≤ f
  keep : ∀ f, f < s.n → ¬ Own β f → objAt s'.obj f = objAt s.obj f
  bx : Bx.le β β'
  rd : ∀ x, x ∈ s'.rd → x ∈ s.rd ∨ (x < s.lim ∧ (A x ∨ Own β x))
  wr : ∀ x, x ∈ s'.wr → x ∈ s.wr ∨ (x < s.lim ∧ Own β x)
section
variable {GL : List (Nat × List Value)} {A A' A2 : Nat → Prop} {β β' β2 : Bx} {S S' : TS} {s s' s2 : CS}
theorem Stp.refl : Stp A β s A β s := ⟨Can.refl _, fun _ h => h, fun _ h => .inl h, fun _ h => .inl h, fun _ _ _ => rfl, Bx.le_refl _, fun _ h => .inl h, fun _ h => .inl h⟩
theorem Stp.trans (hl : s.lim ≤ s.n) (h : Stp A β s A' β' s') (k : Stp A' β' s' A2 β2 s2) : Stp A β s A2 β2 s2 := by
  have hn := h.can.n
  refine ⟨h.can.trans k.can, fun f hf => k.sub f (h.sub f hf), fun f hf => ?_, fun f hf => ?_, fun f hf ho => ?_, Bx.le_trans h.bx k.bx, fun x hx => ?_, fun x hx => ?_⟩
  · rcases k.new f hf with q | q | q
    · exact h.new f q
    · exact .inr (.inl (by omega))
    · rcases h.own f q with q | q
      · exact .inr (.inr q)
      · exact .inr (.inl q)
  · rcases k.own f hf with q | q
    · exact h.own f q
    · exact .inr (by omega)
  · rw [k.keep f (by omega) (fun q => by rcases h.own f q with q | q; exact ho q; omega)]
    exact h.keep f hf ho
  · rcases k.rd x hx with q | ⟨q, q2⟩
    · exact h.rd x q
    · rw [h.can.lim] at q
      refine .inr ⟨q, ?_⟩
      rcases q2 with q2 | q2
      · rcases h.new x q2 with q3 | q3 | q3
        · exact .inl q3
        · omega
        · exact .inr q3
      · rcases h.own x q2 with q3 | q3
        · exact .inr q3
        · omega
  · rcases k.wr x hx with q | ⟨q, q2⟩
    · exact h.wr x q
    · rw [h.can.lim] at q
      refine .inr ⟨q, ?_⟩
      rcases h.own x q2 with q3 | q3
      · exact q3
      · omega
theorem Stp.old (h : TRel GL A β S s) (k : Stp A β s A' β' s') : ∀ f, A f → objAt s'.obj f = objAt s.obj f := fun f hf => k.keep f (h.alt f hf) fun ho => (h.dis f ho).2 hf
theorem Stp.vt (h : TRel GL A β S s) (k : Stp A β s A' β' s') {t : T} {v : Value} (hv : VT A β (objAt s.obj) t v) : VT A' β' (objAt s'.obj) t v := hv.mono k.sub (k.old h) k.bx
theorem Stp.vl (h : TRel GL A β S s) (k : Stp A β s A' β' s') {t : List T} {v : List Value} (hv : VL A β (objAt s.obj) t v) : VL A' β' (objAt s'.obj) t v := hv.mono k.sub (k.old h) k.bx
def Ok (GL : List (Nat × List Value)) (A : Nat → Prop) (β : Bx) (s : CS) (r : Option (Value × CS)) (t : T) (S' : TS) : Prop :=
  ∃ v s' A' β', r = some (v, s') ∧ TRel GL A' β' S' s' ∧ VT A' β' (objAt s'.obj) t v ∧ Stp A β s A' β' s'
theorem Ok.same (h : TRel GL A β S s) {t : T} {v : Value} (hv : VT A β (objAt s.obj) t v) : Ok GL A β s (some (v, s)) t S := ⟨v, s, A, β, rfl, h, hv, Stp.refl⟩
theorem Can.read (s : CS) (f : Nat) : Can s { s with rd := ins s.lim s.rd f } := by
  refine ⟨Nat.le_refl _, rfl, fun x hx => ?_, fun _ h => h, fun _ _ _ _ => rfl, fun _ _ => rfl, fun h => h, fun h => h, fun h => h⟩
  show x ∈ ins s.lim s.rd f
  unfold ins
  cases Nat.blt f s.lim with
  | false => exact hx
  | true =>
    cases has s.rd f with
    | true => exact hx
    | false => exact List.mem_cons_of_mem _ hx
theorem TRel.read (h : TRel GL A β S s) (f : Nat) : TRel GL A β S { s with rd := ins s.lim s.rd f } :=
  ⟨h.inr, ⟨h.inv.none, h.inv.vers, h.inv.lim⟩, h.alt, h.dis, h.inj, h.next, h.cells, h.maps, h.glob⟩
theorem Stp.read {f : Nat} (hf : A f ∨ Own β f) : Stp A β s A β { s with rd := ins s.lim s.rd f } := by
  refine ⟨Can.read s f, fun _ h => h, fun _ h => .inl h, fun _ h => .inl h, fun _ _ _ => rfl, Bx.le_refl _, fun x hx => ?_, fun _ h => .inl h⟩
  rcases mem_ins hx with q | ⟨rfl, q⟩
  · exact .inl q
  · exact .inr ⟨q, hf⟩
theorem Ok.read (h : TRel GL A β S s) {f : Nat} (hf : A f ∨ Own β f) {t : T} {v : Value} (hv : VT A β (objAt s.obj) t v) : Ok GL A β s (some (v, { s with rd := ins s.lim s.rd f })) t S :=
  ⟨v, _, A, β, rfl, h.read f, hv, Stp.read hf⟩
theorem own_live {b f u N : Nat} (h : β b = some (.live f u N)) : Own β f := ⟨b, .inl ⟨u, N, h⟩⟩
theorem own_map {b r : Nat} (h : β b = some (.map r)) : Own β r := ⟨b, .inr h⟩
def bnew (β : Bx) (b : Nat) (l : Loc) : Bx := fun i => if i = b then some l else β i
theorem bnew_le {b : Nat} {l : Loc} (h : β b = none) : Bx.le β (bnew β b l) := fun i x hx => by
  refine ⟨x, ?_, Loc.le_refl x⟩
  unfold bnew
  rw [if_neg (fun hh => by subst hh; rw [h] at hx; simp at hx)]
  exact hx
theorem CellsAt.mono {g g' : Nat → Fam} {b N : Nat} {z : Bool} {l : List T} (hA : ∀ f, A f → A' f) (hg : ∀ f, A f → g' f = g f) (hβ : Bx.le β β') (hb : β' b = β b) (ho : ∀ f u N, β b = some (.live f u N) → g' f = g f) (h : CellsAt A β g b z N l) : CellsAt A' β' g' b z N l := by
  obtain ⟨h1, h2⟩ := h
  refine ⟨h1, ?_⟩
  rcases h2 with ⟨k1, k2⟩ | ⟨f, u, cs, rest, k1, kz, k2, k3, k4⟩
  · exact .inl ⟨by rw [hb]; exact k1, k2⟩
  · exact .inr ⟨f, u, cs, rest, by rw [hb]; exact k1, kz, by rw [ho f u N k1]; exact k2, k3.mono hA hg hβ, k4⟩
theorem BoxMapAt.mono {g g' : Nat → Fam} {b : Nat} {l : List (T × T)} (hA : ∀ f, A f → A' f) (hg : ∀ f, A f → g' f = g f) (hβ : Bx.le β β') (hb : β' b = β b) (ho : ∀ r, β b = some (.map r) → g' r = g r) (h : BoxMapAt A β g b l) : BoxMapAt A' β' g' b l := by
  obtain ⟨r, es, h1, h2, h3, h4⟩ := h
  exact ⟨r, es, by rw [hb]; exact h1, by rw [ho r h1]; exact h2, h3.mono hA hg hβ, h4.mono hA hg hβ⟩
structure Calm0 (A : Nat → Prop) (β : Bx) (s : CS) (A' : Nat → Prop) (s' : CS) : Prop where
  can : Can s s'
  sub : ∀ f, A f → A' f
  new : ∀ f, A' f → A f ∨ s.n ≤ f
  keep : ∀ f, f < s.n → objAt s'.obj f = objAt s.obj f
  rd : ∀ x, x ∈ s'.rd → x ∈ s.rd ∨ (x < s.lim ∧ (A x ∨ Own β x))
  wr : ∀ x, x ∈ s'.wr → x ∈ s.wr
theorem Calm0.stp (k : Calm0 A β s A' s') : Stp A β s A' β s' := ⟨k.can, k.sub, fun f hf => (k.new f hf).imp id .inl, fun f hf => .inl hf, fun f hf _ => k.keep f hf, Bx.le_refl _, k.rd, fun x hx => .inl (k.wr x hx)⟩
theorem Calm0.rel (hT : TRel GL A β S s) (k : Calm0 A β s A' s') (hin : ∃ g, s'.obj = .inr g) (hI : CInv s') (ha : ∀ f, A' f → f < s'.n) : TRel GL A' β S s' := by
  refine ⟨hin, hI, ha, fun f hf => ?_, hT.inj, hT.next, fun b z N l hb => ?_, fun b l hb => ?_, fun x hx => ?_⟩
  · have := hT.dis f hf
    refine ⟨Nat.lt_of_lt_of_le this.1 k.can.n, fun hA => ?_⟩
    rcases k.new f hA with q | q
    · exact this.2 q
    · omega
  · exact (hT.cells b z N l hb).mono k.sub (fun f hf => k.keep f (hT.alt f hf)) (Bx.le_refl _) rfl fun f u N hl => k.keep f (hT.dis f (own_live hl)).1
  · exact (hT.maps b l hb).mono k.sub (fun f hf => k.keep f (hT.alt f hf)) (Bx.le_refl _) rfl fun r hl => k.keep r (hT.dis r (own_map hl)).1
  · have := hT.glob x hx
    exact ⟨k.sub _ this.1, by rw [k.keep _ (hT.alt _ this.1)]; exact this.2⟩
def Ok0 (GL : List (Nat × List Value)) (A : Nat → Prop) (β : Bx) (S : TS) (s : CS) (r : Option (Value × CS)) (t : T) : Prop :=
  ∃ v s' A', r = some (v, s') ∧ TRel GL A' β S s' ∧ VT A' β (objAt s'.obj) t v ∧ Calm0 A β s A' s'
theorem Ok0.ok {r : Option (Value × CS)} {t : T} (h : Ok0 GL A β S s r t) : Ok GL A β s r t S := by
  obtain ⟨v, s', A', h1, h2, h3, h4⟩ := h
  exact ⟨v, s', A', β, h1, h2, h3, h4.stp⟩
theorem Ok0.same (h : TRel GL A β S s) {t : T} {v : Value} (hv : VT A β (objAt s.obj) t v) : Ok0 GL A β S s (some (v, s)) t :=
  ⟨v, s, A, rfl, h, hv, Can.refl _, fun _ h => h, fun _ h => .inl h, fun _ _ => rfl, fun _ h => .inl h, fun _ h => h⟩
theorem Calm0.read {f : Nat} (hf : A f ∨ Own β f) : Calm0 A β s A { s with rd := ins s.lim s.rd f } := by
  refine ⟨Can.read s f, fun _ h => h, fun _ h => .inl h, fun _ _ => rfl, fun x hx => ?_, fun _ h => h⟩
  rcases mem_ins hx with q | ⟨rfl, q⟩
  · exact .inl q
  · exact .inr ⟨q, hf⟩
theorem Ok0.read (h : TRel GL A β S s) {f : Nat} (hf : A f ∨ Own β f) {t : T} {v : Value} (hv : VT A β (objAt s.obj) t v) : Ok0 GL A β S s (some (v, { s with rd := ins s.lim s.rd f })) t :=
  ⟨v, _, A, rfl, h.read f, hv, Calm0.read hf⟩
theorem TRel.fresh (h : TRel GL A β S s) (F : Fam) (hF : F.ro = false) (hv : ∀ p, p ∈ F.rows → p.1 / 1024 < s.n + 1) :
    TRel GL A β S { s with n := s.n + 1, obj := objPut s.obj s.n F } ∧ Can s { s with n := s.n + 1, obj := objPut s.obj s.n F } ∧ (∀ f, f ≠ s.n → objAt (objPut s.obj s.n F) f = objAt s.obj f) ∧ objAt (objPut s.obj s.n F) s.n = F := by
  obtain ⟨n, ob, lim, rd, wr⟩ := s
  obtain ⟨g, hg⟩ := h.inr
  simp only at hg
  subst hg
  simp only [objPut_inr, objAt_inr]
  have hne : ∀ f, f ≠ n → fupd g n F f = g f := fun f hf => fupd_ne g n f F hf
  have hold : ∀ f, f < n → fupd g n F f = g f := fun f hf => hne f (by omega)
  have hlim : lim ≤ n := h.inv.lim
  have hI : CInv (⟨n + 1, .inr (fupd g n F), lim, rd, wr⟩ : CS) := by
    refine ⟨fun f hf => ?_, fun f p hp => ?_, by show lim ≤ n + 1; omega⟩
    · show fupd g n F f = famNone
      rw [hne f (by have : n + 1 ≤ f := hf; omega)]
      exact h.inv.none f (by have : n + 1 ≤ f := hf; show n ≤ f; omega)
    · change p ∈ (fupd g n F f).rows at hp
      show p.1 / 1024 < n + 1
      by_cases hf : f = n
      · subst hf; rw [fupd_same] at hp; exact hv p hp
      · rw [hne f hf] at hp
        have : p.1 / 1024 < n := h.inv.vers f p hp
        omega
  refine ⟨⟨⟨_, rfl⟩, hI, fun f hf => ?_, fun f hf => ?_, h.inj, h.next, fun b z N l hb => ?_, fun b l hb => ?_, fun x hx => ?_⟩, ?_, hne, fupd_same g n F⟩
  · have : f < n := h.alt f hf
    show f < n + 1; omega
  · have : f < n ∧ ¬ A f := h.dis f hf
    exact ⟨by show f < n + 1; omega, this.2⟩
  · exact (h.cells b z N l hb).mono (fun _ h => h) (fun f hf => hold f (h.alt f hf)) (Bx.le_refl _) rfl fun f u N hl => hold f (h.dis f (own_live hl)).1
  · exact (h.maps b l hb).mono (fun _ h => h) (fun f hf => hold f (h.alt f hf)) (Bx.le_refl _) rfl fun r hl => hold r (h.dis r (own_map hl)).1
  · have := h.glob x hx
    refine ⟨this.1, ?_⟩
    show rowOf (fupd g n F x.1).rows (x.1 * 1024) = _
    rw [hold x.1 (h.alt _ this.1)]
    exact this.2
  · refine ⟨by show n ≤ n + 1; omega, rfl, fun _ h => h, fun _ h => h, fun f hf _ _ => hold f hf, fun f hf => ?_, fun hd f hf => hI.none f hf, fun hd f p hp => hI.vers f p hp, fun h => h⟩
    show (fupd g n F f).ro = _
    rw [hold f hf]; rfl
theorem TRel.le (h : TRel GL A β S s) : s.lim ≤ s.n := h.inv.lim
noncomputable def CS.rowed (s : CS) (tag : Nat) (cs : List Value) : CS := { s with n := s.n + 1, obj := objPut s.obj s.n ⟨false, [(s.n * 1024 + tag, cs)], none⟩ }
theorem TRel.newBox (h : TRel GL A β S s) {l : List T} {cs : List Value} (tag : Nat) (ht : tag < 1024) (hv : VL A β (objAt s.obj) l cs) (h1 : cs.all oneC = true) :
    ∃ s' β', s.newRow tag cs = some (mkA s.n (s.n * 1024 + tag) 0, s') ∧ β' S.n = some (.live s.n (s.n * 1024 + tag) l.length) ∧ TRel GL A β' (S.add (.cells (Nat.beq tag 0) l.length l)) s' ∧ Stp A β s A β' s' := by
  obtain ⟨q1, q2, q3, q4⟩ := h.fresh ⟨false, [(s.n * 1024 + tag, cs)], none⟩ rfl (fun p hp => by simp at hp; subst hp; show (s.n * 1024 + tag) / 1024 < s.n + 1; omega)
  refine ⟨s.rowed tag cs, bnew β S.n (.live s.n (s.n * 1024 + tag) l.length), ?_, if_pos rfl, ?_, ?_⟩
  · unfold CS.newRow
    have : roomIn s.obj s.n = true := by obtain ⟨g, hg⟩ := h.inr; rw [hg]; rfl
    rw [this, sel_true]; rfl
  · have hb0 : β S.n = none := h.next _ (Nat.le_refl _)
    have hle : Bx.le β (bnew β S.n (.live s.n (s.n * 1024 + tag) l.length)) := bnew_le hb0
    have hat : ∀ b, b ≠ S.n → bnew β S.n (.live s.n (s.n * 1024 + tag) l.length) b = β b := fun b hb => if_neg hb
    have hat2 : bnew β S.n (.live s.n (s.n * 1024 + tag) l.length) S.n = some (.live s.n (s.n * 1024 + tag) l.length) := if_pos rfl
    have hold : ∀ f, f < s.n → objAt (objPut s.obj s.n ⟨false, [(s.n * 1024 + tag, cs)], none⟩) f = objAt s.obj f := fun f hf => q3 f (by omega)
    refine ⟨q1.inr, q1.inv, q1.alt, fun f hf => ?_, fun b b' x x' f hb hb' hx hx' => ?_, fun b hb => ?_, fun b z N x hb => ?_, fun b x hb => ?_, q1.glob⟩
    · obtain ⟨b, hb⟩ := hf
      by_cases hbn : b = S.n
      · subst hbn
        rw [hat2] at hb
        rcases hb with ⟨u, N, hb⟩ | hb
        · cases hb
          exact ⟨by show s.n < s.n + 1; omega, fun hA => by have := h.alt _ hA; omega⟩
        · simp at hb
      · rw [hat b hbn] at hb
        exact q1.dis f ⟨b, hb⟩
    · have key : ∀ b x, β b = some x → x.fam = some s.n → False := fun b x hb hx => by
        have : Own β s.n := by
          cases x with
          | live f u N => simp [Loc.fam] at hx; subst hx; exact own_live hb
          | map r => simp [Loc.fam] at hx; subst hx; exact own_map hb
          | nil => simp [Loc.fam] at hx
          | dead => simp [Loc.fam] at hx
        have := (h.dis _ this).1
        omega
      by_cases e1 : b = S.n <;> by_cases e2 : b' = S.n
      · rw [e1, e2]
      · subst e1
        rw [hat2] at hb; rw [hat b' e2] at hb'
        cases hb
        simp [Loc.fam] at hx; subst hx
        exact (key b' x' hb' hx').elim
      · subst e2
        rw [hat2] at hb'; rw [hat b e1] at hb
        cases hb'
        simp [Loc.fam] at hx'; subst hx'
        exact (key b x hb hx).elim
      · rw [hat b e1] at hb; rw [hat b' e2] at hb'
        exact h.inj b b' x x' f hb hb' hx hx'
    · have : S.n + 1 ≤ b := hb
      rw [hat b (by omega)]
      exact h.next b (by omega)
    · by_cases hbn : b = S.n
      · subst hbn
        rw [TS.add_same] at hb
        cases hb
        refine ⟨rfl, .inr ⟨s.n, _, cs, [], hat2, fun hz => by have := Nat.eq_of_beq_eq_true hz; omega, q4, hv.mono (fun _ h => h) (fun f hf => hold f (h.alt f hf)) hle, h1⟩⟩
      · rw [TS.add_ne _ _ hbn] at hb
        exact (h.cells b z N x hb).mono (fun _ h => h) (fun f hf => hold f (h.alt f hf)) hle (hat b hbn) fun f u N hl => hold f (h.dis f (own_live hl)).1
    · by_cases hbn : b = S.n
      · subst hbn
        rw [TS.add_same] at hb
        cases hb
      · rw [TS.add_ne _ _ hbn] at hb
        exact (h.maps b x hb).mono (fun _ h => h) (fun f hf => hold f (h.alt f hf)) hle (hat b hbn) fun r hl => hold r (h.dis r (own_map hl)).1
  · refine ⟨q2, fun _ h => h, fun _ h => .inl h, fun f hf => ?_, fun f hf _ => q3 f (by omega), bnew_le (h.next _ (Nat.le_refl _)), fun _ h => .inl h, fun _ h => .inl h⟩
    obtain ⟨b, hb⟩ := hf
    by_cases hbn : b = S.n
    · subst hbn
      unfold bnew at hb
      rw [if_pos rfl] at hb
      rcases hb with ⟨u, N, hb⟩ | hb
      · cases hb; exact .inr (Nat.le_refl _)
      · simp at hb
    · unfold bnew at hb
      rw [if_neg hbn] at hb
      exact .inl ⟨b, hb⟩
theorem TRel.newFrozen (h : TRel GL A β S s) {l : List T} {cs : List Value} (tag : Nat) (ht : tag < 1024) (hv : VL A β (objAt s.obj) l cs) :
    ∃ s' A', s.newRow tag cs = some (mkA s.n (s.n * 1024 + tag) 0, s') ∧ A' s.n ∧ rowOf (objAt s'.obj s.n).rows (s.n * 1024 + tag) = some cs ∧ TRel GL A' β S s' ∧ Calm0 A β s A' s' := by
  obtain ⟨q1, q2, q3, q4⟩ := h.fresh ⟨false, [(s.n * 1024 + tag, cs)], none⟩ rfl (fun p hp => by simp at hp; subst hp; show (s.n * 1024 + tag) / 1024 < s.n + 1; omega)
  have hold : ∀ f, f < s.n → objAt (objPut s.obj s.n ⟨false, [(s.n * 1024 + tag, cs)], none⟩) f = objAt s.obj f := fun f hf => q3 f (by omega)
  refine ⟨s.rowed tag cs, fun f => A f ∨ f = s.n, ?_, .inr rfl, ?_, ?_, ?_⟩
  · unfold CS.newRow
    have : roomIn s.obj s.n = true := by obtain ⟨g, hg⟩ := h.inr; rw [hg]; rfl
    rw [this, sel_true]; rfl
  · show rowOf (objAt (objPut s.obj s.n _) s.n).rows _ = _
    rw [q4]; exact rowOf_one
  · refine ⟨q1.inr, q1.inv, fun f hf => ?_, fun f hf => ?_, h.inj, h.next, fun b z N x hb => ?_, fun b x hb => ?_, fun x hx => ⟨.inl (q1.glob x hx).1, (q1.glob x hx).2⟩⟩
    · rcases hf with hf | rfl
      · exact q1.alt f hf
      · show s.n < s.n + 1; omega
    · refine ⟨(q1.dis f hf).1, fun hh => ?_⟩
      rcases hh with hh | rfl
      · exact (q1.dis f hf).2 hh
      · have := (h.dis _ hf).1; omega
    · exact (q1.cells b z N x hb).mono (fun _ h => .inl h) (fun _ _ => rfl) (Bx.le_refl _) rfl fun _ _ _ _ => rfl
    · exact (q1.maps b x hb).mono (fun _ h => .inl h) (fun _ _ => rfl) (Bx.le_refl _) rfl fun _ _ => rfl
  · refine ⟨q2, fun _ h => .inl h, fun f hf => ?_, hold, fun _ h => .inl h, fun _ h => h⟩
    rcases hf with hf | rfl
    · exact .inl hf
    · exact .inr (Nat.le_refl _)
theorem Ok0.rd (h : TRel GL A β S s) {s1 : CS} (hs : TRel GL A β S s1 ∧ Calm0 A β s A s1) {t : T} {v : Value} (hv : VT A β (objAt s1.obj) t v) : Ok0 GL A β S s (some (v, s1)) t := ⟨v, s1, A, rfl, hs.1, hv, hs.2⟩
end
end Go.Proofs.Ytfalnphlgfoflaa
