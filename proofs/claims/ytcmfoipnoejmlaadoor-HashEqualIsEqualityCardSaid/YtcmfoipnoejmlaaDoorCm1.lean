/- The plain machine: a run of a function over plain numbered rows and maps, in the order of the text, as a Lean function that the kernel can compute. Definitions alone; that the model does the same is shown behind. No program in sight. -/
import Derived.WalkKit
namespace Go.Proofs.YtcmfoipnoejmlaaDoor
open Go

/-- a table of 2^d places, as pairs of pairs -/
def Tr (α : Type) (d : Nat) : Type := Nat.rec (motive := fun _ => Type) α (fun _ ih => ih × ih) d
noncomputable def Tr.get {α : Type} (d : Nat) : Tr α d → Nat → α :=
  Nat.rec (motive := fun d => Tr α d → Nat → α) (fun a _ => a)
    (fun _ ih t i => Bool.rec (ih (Prod.snd t) (Nat.div i 2)) (ih (Prod.fst t) (Nat.div i 2)) (Nat.beq (Nat.mod i 2) 0)) d
noncomputable def Tr.set {α : Type} (v : α) (d : Nat) : Tr α d → Nat → Tr α d :=
  Nat.rec (motive := fun d => Tr α d → Nat → Tr α d) (fun _ _ => v)
    (fun _ ih t i => Bool.rec (Prod.mk (Prod.fst t) (ih (Prod.snd t) (Nat.div i 2))) (Prod.mk (ih (Prod.fst t) (Nat.div i 2)) (Prod.snd t)) (Nat.beq (Nat.mod i 2) 0)) d
noncomputable def Tr.all {α : Type} (v : α) (d : Nat) : Tr α d := Nat.rec (motive := fun d => Tr α d) v (fun _ ih => Prod.mk ih ih) d
/-- the table of a function on numbers: place i (of those k, k + 2^j, ..) -/
noncomputable def Tr.of {α : Type} (f : Nat → α) (d : Nat) : Nat → Nat → Tr α d :=
  Nat.rec (motive := fun d => Nat → Nat → Tr α d) (fun k _ => f k) (fun _ ih k w => Prod.mk (ih k (Nat.mul 2 w)) (ih (Nat.add k w) (Nat.mul 2 w))) d
/-- a choice -/
noncomputable def sel {α : Type} (b : Bool) (x y : α) : α := Bool.rec y x b
abbrev Tab (α : Type) := Tr (Option α) 8
noncomputable def Tab.at {α : Type} (t : Tab α) (i : Nat) : Option α := sel (Nat.blt i 256) (Tr.get 8 t i) none
/-- the slots of a call -/
structure Fr where
  nt : Nat
  tr : Tr Value 9
noncomputable def Fr.get (fr : Fr) (t : Nat) : Value := sel (Nat.blt t 512) (Tr.get 9 fr.tr t) undef
noncomputable def Fr.put (fr : Fr) (t : Nat) (v : Value) : Fr := sel (Nat.blt t fr.nt) ⟨fr.nt, Tr.set v 9 fr.tr t⟩ fr
noncomputable def Fr.ofArgs : List Value → Nat → Fr → Fr
  | [], _, fr => fr
  | v :: l, i, fr => Fr.ofArgs l (i + 1) (fr.put i v)

/-- what the machine knows of a type -/
structure TI where
  desc : TypeDesc
  size : Nat
  bytes : Nat
  zero : List Value
/-- a family: the versions of a row that may be read (the newest first), or a map -/
structure Fam where
  ro : Bool
  rows : List (Nat × List Value)
  es : Option (List (Value × Value))
/-- the families: a table with bounded room (for the kernel), or a function (for proofs) -/
abbrev Sto := Sum (Tr Fam 14) (Nat → Fam)
noncomputable def objAt (t : Sto) (i : Nat) : Fam := match t with
  | .inl t => sel (Nat.blt i 16384) (Tr.get 14 t i) ⟨true, [], none⟩
  | .inr g => g i
noncomputable def objPut (t : Sto) (i : Nat) (x : Fam) : Sto := match t with
  | .inl t => .inl (Tr.set x 14 t i)
  | .inr g => .inr fun j => sel (Nat.beq j i) x (g j)
/-- family n has a place -/
noncomputable def roomIn (t : Sto) (n : Nat) : Bool := match t with
  | .inl _ => Nat.blt n 16384
  | .inr _ => true
structure CS where
  n : Nat
  obj : Sto
  lim : Nat
  rd : List Nat
  wr : List Nat
/-- types, functions, and functions of which a law is taken for known -/
structure Env where
  ti : Tab TI
  fn : Tab Func
  ax : Nat → Option (List Value → CS → Option (Value × CS))

noncomputable def has : List Nat → Nat → Bool
  | [], _ => false
  | x :: l, n => bif Nat.beq x n then true else has l n
noncomputable def ins (lim : Nat) (l : List Nat) (n : Nat) : List Nat := bif Nat.blt n lim then (bif has l n then l else n :: l) else l
noncomputable def insAll (lim : Nat) (l : List Nat) : List Nat → List Nat
  | [] => l
  | x :: xs => insAll lim (ins lim l x) xs
noncomputable def rowOf : List (Nat × List Value) → Nat → Option (List Value)
  | [], _ => none
  | (u, cs) :: l, v => bif Nat.beq u v then some cs else rowOf l v
noncomputable def dropTo : List (Nat × List Value) → Nat → List (Nat × List Value)
  | [], _ => []
  | (u, cs) :: l, v => bif Nat.beq u v then (u, cs) :: l else dropTo l v
/-- where an address lies: family, version, place -/
noncomputable def Addr.ver (a : Addr) : Nat := a.spot.getD 0
noncomputable def mkA (f u off : Nat) : Addr := ⟨f, off, some u⟩
noncomputable def CS.readRow (s : CS) (a : Addr) : Option (List Value × CS) :=
  match rowOf (objAt s.obj a.block).rows (Addr.ver a) with
  | some cs => some (cs, { s with rd := ins s.lim s.rd a.block })
  | none => none
noncomputable def oneC : Value → Bool
  | .agg _ => false
  | .tuple _ => false
  | _ => true
noncomputable def splice (cs : List Value) (off : Nat) (vs : List Value) : List Value := cs.take off ++ vs ++ cs.drop (off + vs.length)
noncomputable def CS.newRow (s : CS) (tag : Nat) (cs : List Value) : Option (Addr × CS) :=
  sel (roomIn s.obj s.n) (some (mkA s.n (s.n * 1024 + tag) 0, { s with n := s.n + 1, obj := objPut s.obj s.n ⟨false, [(s.n * 1024 + tag, cs)], none⟩ })) none
noncomputable def CS.write (s : CS) (a : Addr) (vs : List Value) : Option CS :=
  match (objAt s.obj a.block).ro, rowOf (objAt s.obj a.block).rows (Addr.ver a) with
  | false, some cs => sel (and (Nat.ble (a.off + vs.length) cs.length) (vs.all oneC))
      (some { s with obj := objPut s.obj a.block ⟨false, [(Addr.ver a, splice cs a.off vs)], none⟩, wr := ins s.lim s.wr a.block }) none
  | _, _ => none
noncomputable def Addr.plus (a : Addr) (k : Nat) : Addr := ⟨a.block, a.off + k, a.spot⟩

noncomputable def natOf : Value → Option Nat
  | .int _ (.ofNat n) => some n
  | _ => none
noncomputable def aggT (d : TypeDesc) : Bool := match d with | .struct _ => true | .array .. => true | _ => false
noncomputable def cut (l : List Value) (off k : Nat) : Option (List Value) := let r := (l.drop off).take k; bif Nat.beq r.length k then some r else none
noncomputable def partC (i : TI) (cs : List Value) (off : Nat) : Option Value :=
  bif aggT i.desc then (match cut cs off i.size with | some l => some (.agg l.toArray) | none => none) else cs[off]?
noncomputable def CS.loadVar (s : CS) (i : TI) (a : Addr) : Option (Value × CS) :=
  match s.readRow a with
  | some (cs, s) => match partC i cs a.off with | some v => some (v, s) | none => none
  | none => none
/-- a run that asks nothing of memory -/
noncomputable def eval0 {α : Type} (P : Program) : Sem α → Option α
  | .pure a => some a
  | .program k => eval0 P (k P)
  | _ => none
noncomputable def plainV : Nat → Value → Bool
  | _, .bool _ => true
  | _, .int _ _ => true
  | _, .string _ => true
  | _, .nilIface => true
  | n + 1, .agg cs => cs.toList.all (plainV n)
  | n + 1, .tuple cs => cs.toList.all (plainV n)
  | n + 1, .iface _ v => plainV n v
  | _, _ => false
/-- values that stand for themselves wherever the memory lies -/
noncomputable def zeroV : Value → Bool
  | .pointer none => true
  | .slice none 0 0 => true
  | .map none => true
  | .nilFunc => true
  | .func _ first captured => first.toList.isEmpty && captured.toList.isEmpty
  | v => plainV 3 v
noncomputable def shapeV (d : TypeDesc) (z : Value) : Bool :=
  match z with
  | .agg _ => aggT d
  | .tuple _ => false
  | _ => not (aggT d)
noncomputable def byteVs (s : ByteArray) : List Value := s.data.toList.map fun b => .int .u8 b.toNat
noncomputable def evalC (fr : Fr) : Operand → Value
  | .tmp t => fr.get t
  | .const v => v
  | .global g => .pointer (some (mkA g (g * 1024) 0))
  | .func f => .func (.func f) #[] #[]
noncomputable def fillC (cells : List Value) : List (Nat × List Value) → Option (List Value)
  | [] => some cells
  | (off, vs) :: r => bif Nat.ble (off + vs.length) cells.length then fillC (splice cells off vs) r else none
noncomputable def partsOf (place : Nat → Option (Nat × Nat)) (ρ : Operand → Value) : List (Nat × Operand) → Option (List (Nat × List Value))
  | [] => some []
  | (k, x) :: r => match place k, partsOf place ρ r with
    | some (off, size), some l => let c := (ρ x).cells.toList; bif Nat.beq c.length size then some ((off, c) :: l) else none
    | _, _ => none
noncomputable def ikN : IntKind → Nat := fun k => IntKind.rec 0 1 2 3 4 5 6 7 k
/-- the numbers from 0 on that the kind holds lie below this -/
noncomputable def topN : IntKind → Nat := fun k => IntKind.rec 128 32768 2147483648 9223372036854775808 256 65536 4294967296 18446744073709551616 k
noncomputable def natI (k : IntKind) (b : Bool) (n : Nat) : Option Value := sel b (some (.int k (.ofNat n))) none
noncomputable def boolO (b : Bool) : Option Value := some (.bool b)
/-- operations on numbers that are not negative, whose result the kind holds -/
noncomputable def binF (op : BinOp) (k : IntKind) (m n : Nat) : Option Value :=
  match op with
  | .add => natI k (Nat.blt (Nat.add m n) (topN k)) (Nat.add m n)
  | .sub => natI k (and (Nat.ble n m) (Nat.blt m (topN k))) (Nat.sub m n)
  | .mul => natI k (Nat.blt (Nat.mul m n) (topN k)) (Nat.mul m n)
  | .quo => natI k (and (Nat.blt 0 n) (Nat.blt m (topN k))) (Nat.div m n)
  | .rem => natI k (Nat.blt 0 n) (Nat.mod m n)
  | .and => natI k (and (Nat.blt m (topN k)) (Nat.blt n (topN k))) (Nat.land m n)
  | .or => natI k (and (Nat.blt m (topN k)) (Nat.blt n (topN k))) (Nat.lor m n)
  | .xor => natI k (and (Nat.blt m (topN k)) (Nat.blt n (topN k))) (Nat.xor m n)
  | .shl => natI k (and (Nat.blt n 64) (Nat.blt (Nat.mul m (Nat.pow 2 (Nat.min n k.bits))) (topN k))) (Nat.mul m (Nat.pow 2 (Nat.min n k.bits)))
  | .shr => natI k true (Nat.div m (Nat.pow 2 (Nat.min n k.bits)))
  | .andNot => none
  | .eql => boolO (Nat.beq m n)
  | .neq => boolO (not (Nat.beq m n))
  | .lss => boolO (Nat.blt m n)
  | .leq => boolO (Nat.ble m n)
  | .gtr => boolO (Nat.blt n m)
  | .geq => boolO (Nat.ble n m)
noncomputable def binC (op : BinOp) : Value → Value → Option Value
  | .int k (.ofNat m), .int k' (.ofNat n) => sel (Nat.beq (ikN k) (ikN k')) (binF op k m n) none
  | _, _ => none
noncomputable def lenC : Value → Option Nat
  | .slice _ n _ => some n
  | .string s => some s.size
  | _ => none
/-- the first n elements of a slice or a string, as cells -/
noncomputable def CS.firstCells (s : CS) (size n : Nat) : Value → Option (List Value × CS)
  | .slice x _ _ => bif Nat.beq (n * size) 0 then some ([], s) else match x with
    | some a => match s.readRow a with
      | some (cs, s) => (match cut cs a.off (n * size) with | some l => some (l, s) | none => none)
      | none => none
    | none => none
  | .string b => bif Nat.beq size 1 && Nat.ble n b.size then some (byteVs (b.extract 0 n), s) else none
  | _ => none
noncomputable def sliceC (len cap : Nat) : Option (Addr × CS) → Option (Value × CS)
  | some x => some (.slice (some x.1) len cap, x.2)
  | none => none
noncomputable def CS.grow (s : CS) (a : Addr) (tag stop need : Nat) (cells : List Value) : Option (Value × CS) :=
  match (objAt s.obj a.block).ro, rowOf (objAt s.obj a.block).rows (Addr.ver a) with
  | false, some cs => sel (Nat.beq stop cs.length)
      (some (.slice (some (mkA a.block (s.n * 1024 + tag) 0)) need need,
        { s with n := s.n + 1, obj := objPut s.obj a.block ⟨false, (s.n * 1024 + tag, cells) :: dropTo (objAt s.obj a.block).rows (Addr.ver a), none⟩, wr := ins s.lim s.wr a.block })) none
  | _, _ => none
noncomputable def CS.append (s : CS) (size bytes : Nat) (base : Option Addr) (len cap : Nat) (x : Value) : Option (Value × CS) :=
  match lenC x with
  | none => none
  | some n => match s.firstCells size n x with
    | none => none
    | some (new, s) =>
      let need := len + n
      bif Nat.blt 1000000000 (need * (bytes + 1)) || Nat.beq size 0 || Nat.ble 1000 size || not (new.all oneC) then none else
      match base with
      | none => bif Nat.beq n 0 then some (.slice none len cap, s) else sliceC need need (s.newRow (size + 1) new)
      | some a =>
        bif Nat.ble need cap then
          (bif Nat.beq n 0 then some (.slice (some a) need cap, s) else
           match s.write (Addr.plus a (len * size)) new with | some s => some (.slice (some a) need cap, s) | none => none)
        else
          match (bif Nat.beq len 0 then some ([], s) else s.firstCells size len (.slice (some a) len cap)) with
          | none => none
          | some (old, s) =>
            let tag := Addr.ver a % 1024
            bif Nat.beq tag 0 then sliceC need need (s.newRow (size + 1) (old ++ new))
            else bif Nat.beq tag (size + 1) then s.grow a (size + 1) (a.off + len * size) need (old ++ new)
            else none
noncomputable def boundsC (len cap : Nat) (lo hi mx : Option Value) : Option (Nat × Nat × Nat) :=
  match (match mx with | some v => natOf v | none => some cap), (match hi with | some v => natOf v | none => some len), (match lo with | some v => natOf v | none => some 0) with
  | some m, some h, some l => bif Nat.ble l h && Nat.ble h m && Nat.ble m cap && (mx.isNone || hi.isSome) then some (l, h, m) else none
  | _, _, _ => none
noncomputable def CS.readMap (s : CS) (r : Nat) : Option (List (Value × Value) × CS) :=
  match (objAt s.obj r).es with | some es => some (es, { s with rd := ins s.lim s.rd r }) | none => none
noncomputable def keyEq : Value → Value → Option Bool
  | .int k a, .int k' b => sel (Nat.beq (ikN k) (ikN k')) (some (a == b)) none
  | .string a, .string b => some (a.data.toList == b.data.toList)
  | .bool a, .bool b => some (a == b)
  | _, _ => none
noncomputable def mapGet (k : Value) : List (Value × Value) → Option (Option Value)
  | [] => some none
  | (k', v) :: l => match keyEq k k' with
    | some true => some (some v)
    | some false => mapGet k l
    | none => none
noncomputable def mapSet (k v : Value) : List (Value × Value) → Option (List (Value × Value))
  | [] => some [(k, v)]
  | (k', v') :: l => match keyEq k k' with
    | some true => some ((k, v) :: l)
    | some false => (match mapSet k v l with | some l => some ((k', v') :: l) | none => none)
    | none => none
noncomputable def zeroC (i : TI) : Option Value := bif aggT i.desc then some (.agg i.zero.toArray) else match i.zero with | [z] => some z | _ => none

noncomputable def pureC (P : Program) (ρ : Operand → Value) (o : Oper) : Option Value :=
  bif (o.op.operands.toList.all fun x => plainV 3 (ρ x)) then
    match eval0 P (execOp ρ o) with
    | some (.value v) => bif plainV 3 v then some v else none
    | _ => none
  else none
noncomputable def retC (s : CS) (v : Option Value) : Option (Value × CS) := match v with | some v => some (v, s) | none => none
/-- the fields' places -/
noncomputable def placeS (Γ : Env) (fs : Array Field) (k : Nat) : Option (Nat × Nat) :=
  match fs[k]? with | some f => (match Γ.ti.at f.type with | some j => some (f.offset, j.size) | none => none) | none => none
noncomputable def placeA (size k : Nat) : Option (Nat × Nat) := some (k * size, size)
noncomputable def buildC (zero : List Value) (parts : Option (List (Nat × List Value))) : Option (List Value) :=
  match parts with | some l => fillC zero l | none => none
noncomputable def aggC (s : CS) (cs : Option (List Value)) : Option (Value × CS) := match cs with | some cs => some (.agg cs.toArray, s) | none => none
noncomputable def ptrC : Option (Addr × CS) → Option (Value × CS)
  | some x => some (.pointer (some x.1), x.2)
  | none => none
noncomputable def elemOf? (Γ : Env) (t : TypeId) : Option TI :=
  match Γ.ti.at t with | some i => (match i.desc with | .slice e => Γ.ti.at e | _ => none) | none => none
noncomputable def opAlloc (Γ : Env) (s : CS) (e : TypeId) : Option (Value × CS) :=
  match Γ.ti.at e with | some i => ptrC (s.newRow 0 i.zero) | none => none
noncomputable def opBuild (Γ : Env) (s : CS) (ρ : Operand → Value) (t : TypeId) (parts : List (Nat × Operand)) : Option (Value × CS) :=
  match Γ.ti.at t with
  | some i => (match i.desc with
    | .struct fs => sel (fs.toList.all fun f => (Γ.ti.at f.type).isSome) (aggC s (buildC i.zero (partsOf (placeS Γ fs) ρ parts))) none
    | .array _ e => (match Γ.ti.at e with | some j => aggC s (buildC i.zero (partsOf (placeA j.size) ρ parts)) | none => none)
    | _ => none)
  | none => none
noncomputable def opBuildSlice (Γ : Env) (s : CS) (ρ : Operand → Value) (t : TypeId) (n : Nat) (parts : List (Nat × Operand)) : Option (Value × CS) :=
  match elemOf? Γ t with
  | some j => bif Nat.ble (n * j.size) 16777216 && Nat.blt 0 j.size then
      (match buildC (List.replicate n j.zero).flatten (partsOf (placeA j.size) ρ parts) with
      | some cs => sliceC n n (s.newRow 0 cs)
      | none => none) else none
  | none => none
noncomputable def opLoad (Γ : Env) (s : CS) (t : TypeId) : Value → Option (Value × CS)
  | .pointer (some a) => (match Γ.ti.at t with | some i => s.loadVar i a | none => none)
  | _ => none
noncomputable def doneC : Option CS → Option (Value × CS)
  | some s => some (undef, s)
  | none => none
noncomputable def opStore (Γ : Env) (s : CS) (t : TypeId) (c : List Value) : Value → Option (Value × CS)
  | .pointer (some a) => (match Γ.ti.at t with | some i => bif Nat.beq c.length i.size then doneC (s.write a c) else none | none => none)
  | _ => none
noncomputable def opNilCheck (s : CS) : Value → Option (Value × CS)
  | .pointer (some a) => some (.pointer (some a), s)
  | .func (.func f) a b => some (.func (.func f) a b, s)
  | _ => none
noncomputable def opS2A (Γ : Env) (s : CS) (t : TypeId) : Value → Option (Value × CS)
  | .slice a len _ => (match Γ.ti.at t with
    | some i => (match i.desc with | .array n _ => bif Nat.ble n len && Nat.blt 0 n then some (.pointer a, s) else none | _ => none)
    | none => none)
  | _ => none
noncomputable def opMakeSlice (Γ : Env) (s : CS) (t : TypeId) (l c : Option Nat) : Option (Value × CS) :=
  match elemOf? Γ t, l, c with
  | some j, some l, some c => bif Nat.ble l c && Nat.ble (c * (j.bytes + 1)) 1000000000 && Nat.blt 0 j.size then
      sliceC l c (s.newRow 0 (List.replicate c j.zero).flatten) else none
  | _, _, _ => none
noncomputable def cutC (s : CS) (size : Nat) (exact : Bool) (a : Addr) : Option (Nat × Nat × Nat) → Option (Value × CS)
  | some (l, h, m) => bif Nat.beq (Addr.ver a % 1024) 0 || (!exact && Nat.beq (Addr.ver a % 1024) (size + 1)) then
      some (.slice (some (Addr.plus a (l * size))) (h - l) (m - l), s) else none
  | none => none
noncomputable def cutArr (Γ : Env) (s : CS) (d : TypeDesc) (a : Addr) (lo hi mx : Option Value) : Option (Value × CS) :=
  match d with
  | .array n e => (match Γ.ti.at e with | some j => sel (Nat.ble n 1000000000) (cutC s j.size true a (boundsC n n lo hi mx)) none | none => none)
  | _ => none
noncomputable def cutStr (s : CS) (b : ByteArray) : Option (Nat × Nat × Nat) → Option (Value × CS)
  | some (l, h, _) => some (.string (b.extract l h), s)
  | none => none
noncomputable def opSlice (Γ : Env) (s : CS) (t : TypeId) (x : Value) (lo hi mx : Option Value) : Option (Value × CS) :=
  match Γ.ti.at t with
  | some i => (match x with
    | .string b => (match i.desc with | .string => bif mx.isNone then cutStr s b (boundsC b.size b.size lo hi none) else none | _ => none)
    | .slice a len cap => (match i.desc with
      | .slice e => (match a with
        | none => (match Γ.ti.at e with | some _ => (match boundsC len cap lo hi mx with | some (0, 0, 0) => some (.slice none 0 0, s) | _ => none) | none => none)
        | some a => (match Γ.ti.at e with | some j => cutC s j.size false a (boundsC len cap lo hi mx) | none => none))
      | _ => none)
    | .pointer (some a) => (match i.desc with
      | .pointer arr => (match Γ.ti.at arr with | some ia => cutArr Γ s ia.desc a lo hi mx | none => none)
      | d => cutArr Γ s d a lo hi mx)
    | _ => none)
  | none => none
noncomputable def opFieldAddr (Γ : Env) (s : CS) (t : TypeId) (k : Nat) : Value → Option (Value × CS)
  | .pointer (some a) => (match Γ.ti.at t with
    | some i => (match i.desc with
      | .struct fs => (match placeS Γ fs k with
        | some (off, size) => bif Nat.beq size 0 then none else some (.pointer (some (Addr.plus a off)), s)
        | none => none)
      | _ => none)
    | none => none)
  | _ => none
noncomputable def opField (Γ : Env) (s : CS) (t : TypeId) (k : Nat) : Value → Option (Value × CS)
  | .agg cs => (match Γ.ti.at t with
    | some i => (match i.desc with
      | .struct fs => (match fs[k]? with
        | some f => (match Γ.ti.at f.type with | some j => retC s (partC j cs.toList f.offset) | none => none)
        | none => none)
      | _ => none)
    | none => none)
  | _ => none
noncomputable def stepA (s : CS) (size k n : Nat) (a : Addr) : Option (Value × CS) := bif Nat.blt k n then some (.pointer (some (Addr.plus a (k * size))), s) else none
noncomputable def opIndexAddr (Γ : Env) (s : CS) (t : TypeId) (x : Value) (k : Option Nat) : Option (Value × CS) :=
  match Γ.ti.at t, k with
  | some i, some k => (match x with
    | .pointer (some a) => (match i.desc with | .array n e => (match Γ.ti.at e with | some j => stepA s j.size k n a | none => none) | _ => none)
    | .slice (some a) n _ => (match i.desc with | .slice e => (match Γ.ti.at e with | some j => stepA s j.size k n a | none => none) | _ => none)
    | _ => none)
  | _, _ => none
noncomputable def opIndex (Γ : Env) (s : CS) (t : TypeId) (x : Value) (k : Option Nat) : Option (Value × CS) :=
  match Γ.ti.at t, k with
  | some i, some k => (match x with
    | .agg cs => (match i.desc with
      | .array n e => (match Γ.ti.at e with | some j => bif Nat.blt k n then retC s (partC j cs.toList (k * j.size)) else none | none => none)
      | _ => none)
    | .string b => (match i.desc with
      | .string => (match b.data.toList[k]? with | some c => some (.int .u8 c.toNat, s) | none => none)
      | _ => none)
    | _ => none)
  | _, _ => none
noncomputable def opExtract (s : CS) (k : Nat) : Value → Option (Value × CS)
  | .tuple vs => retC s vs.toList[k]?
  | _ => none
noncomputable def unC (op : UnOp) : Value → Option Value
  | .bool b => (match op with | .not => some (.bool (not b)) | _ => none)
  | _ => none
noncomputable def convI (k : IntKind) : Int → Option Value
  | .ofNat n => natI k (Nat.blt n (topN k)) n
  | _ => none
noncomputable def orPure (P : Program) (ρ : Operand → Value) (o : Oper) (s : CS) : Option Value → Option (Value × CS)
  | some v => some (v, s)
  | none => retC s (pureC P ρ o)
noncomputable def isU8 (Γ : Env) (e : TypeId) : Bool := match Γ.ti.at e with | some j => (match j.desc with | .int .u8 => true | _ => false) | none => false
noncomputable def allU8 : List Value → Option (List UInt8)
  | [] => some []
  | .int .u8 k :: l => (match allU8 l with | some r => some (UInt8.ofNat k.toNat :: r) | none => none)
  | _ :: _ => none
noncomputable def strC : Option (List Value × CS) → Option (Value × CS)
  | some (l, s) => (match allU8 l with | some r => some (.string ⟨r.toArray⟩, s) | none => none)
  | none => none
noncomputable def markC (v : Value) : Option CS → Option (Value × CS)
  | some s => some (v, s)
  | none => none
noncomputable def opConvert (P : Program) (Γ : Env) (ρ : Operand → Value) (o : Oper) (s : CS) (src dst : TypeId) (x : Value) : Option (Value × CS) :=
  match Γ.ti.at src, Γ.ti.at dst with
  | some i, some j => (match x with
    | .int _ n => (match j.desc with | .int k => orPure P ρ o s (convI k n) | _ => none)
    | .string b => (match i.desc, j.desc with
      | .string, .slice e => bif isU8 Γ e && Nat.ble b.size 1000000000 then sliceC b.size b.size (s.newRow 2 (byteVs b)) else none
      | .string, .string => some (.string b, s)
      | _, _ => none)
    | .slice a n c => (match i.desc, j.desc with
      | .slice e, .string => bif isU8 Γ e then strC (s.firstCells 1 n (.slice a n c)) else none
      | .slice e, .slice _ => (match a with | some a => markC (.slice (some a) n c) (bif Nat.beq src dst && (Nat.blt 0 n && isU8 Γ e) then s.write a [] else none) | none => none)
      | _, _ => none)
    | _ => retC s (pureC P ρ o))
  | _, _ => none
noncomputable def nilC (x y : Option Bool) (neg : Bool) : Option Value :=
  match x, y with
  | some a, some b => bif a || b then some (.bool (xor neg (a && b))) else none
  | _, _ => none
noncomputable def nilT (d : TypeDesc) (x : Value) : Option Bool :=
  match d, x with
  | .pointer _, .pointer a => some a.isNone
  | .slice _, .slice a _ _ => some a.isNone
  | .map _ _, .map a => some a.isNone
  | .func _ _ _, .func _ _ _ => some false
  | .func _ _ _, .nilFunc => some true
  | _, _ => none
noncomputable def eqC (Γ : Env) (t : TypeId) (op : BinOp) (x y : Value) : Option Value :=
  match Γ.ti.at t with
  | some i => (match op with
    | .eql => nilC (nilT i.desc x) (nilT i.desc y) false
    | .neq => nilC (nilT i.desc x) (nilT i.desc y) true
    | _ => none)
  | none => none
noncomputable def opBin (P : Program) (Γ : Env) (ρ : Operand → Value) (o : Oper) (s : CS) (t : TypeId) (op : BinOp) (x y : Value) : Option (Value × CS) :=
  match binC op x y with
  | some v => some (v, s)
  | none => orPure P ρ o s (eqC Γ t op x y)
noncomputable def mapC (s : CS) : Option (Value × CS) := sel (roomIn s.obj s.n) (some (.map (some s.n), { s with n := s.n + 1, obj := objPut s.obj s.n ⟨false, [], some []⟩ })) none
noncomputable def foundC (ok : Bool) (z : Value) : Option Value → Value
  | some v => bif ok then .tuple #[v, .bool true] else v
  | none => bif ok then .tuple #[z, .bool false] else z
noncomputable def lookC (k : Value) (ok : Bool) (z : Option Value) : Option (List (Value × Value) × CS) → Option (Value × CS)
  | some (es, s) => (match z, mapGet k es with | some z, some r => some (foundC ok z r, s) | _, _ => none)
  | none => none
noncomputable def keyV (Γ : Env) (t : TypeId) (k : Value) : Bool := match Γ.ti.at t with
  | some i => (match i.desc, k with | .int a, .int b _ => Nat.beq (ikN a) (ikN b) | .string, .string _ => true | .bool, .bool _ => true | _, _ => false)
  | none => false
noncomputable def opLookup (Γ : Env) (s : CS) (t : TypeId) (x k : Value) (ok : Bool) : Option (Value × CS) :=
  match x with
  | .map r => (match Γ.ti.at t with
    | some i => (match i.desc with
      | .map kt e => sel (keyV Γ kt k) (match Γ.ti.at e with
        | some j => lookC k ok (zeroC j) (match r with | none => some ([], s) | some r => s.readMap r)
        | none => none) none
      | _ => none)
    | none => none)
  | _ => none
noncomputable def CS.setMap (s : CS) (r : Nat) (k v : Value) : Option CS :=
  match s.readMap r with
  | some (es, s) => sel (objAt s.obj r).ro none (match mapSet k v es with
    | some es' => some { s with obj := objPut s.obj r ⟨false, [], some es'⟩, wr := ins s.lim s.wr r }
    | none => none)
  | none => none
noncomputable def opMapUpdate (Γ : Env) (s : CS) (t : TypeId) (k v : Value) : Value → Option (Value × CS)
  | .map (some r) => (match Γ.ti.at t with
    | some i => (match i.desc with | .map kt _ => sel (keyV Γ kt k) (doneC (s.setMap r k v)) none | _ => none)
    | none => none)
  | _ => none
noncomputable def opAppend (Γ : Env) (s : CS) (t : TypeId) (y : Value) : Value → Option (Value × CS)
  | .slice base len cap => (match elemOf? Γ t with | some j => s.append j.size j.bytes base len cap y | none => none)
  | _ => none
noncomputable def copyC (size n : Nat) (base : Option Addr) : Option (List Value × CS) → Option (Value × CS)
  | some (cs, s) => bif Nat.beq (n * size) 0 then some (.int .i64 n, s) else (match base with
    | some a => (match s.write a cs with | some s => some (.int .i64 n, s) | none => none)
    | none => none)
  | none => none
noncomputable def opCopy (Γ : Env) (s : CS) (t : TypeId) (y : Value) : Value → Option (Value × CS)
  | .slice base len _ => (match elemOf? Γ t, lenC y with
    | some j, some m => copyC j.size (min m len) base (s.firstCells j.size (min m len) y)
    | _, _ => none)
  | _ => none
noncomputable def lenMapC : Option (List (Value × Value) × CS) → Option (Value × CS)
  | some (es, s) => some (.int .i64 es.length, s)
  | none => none
noncomputable def opLen (Γ : Env) (s : CS) (t : TypeId) (x : Value) : Option (Value × CS) :=
  match Γ.ti.at t with
  | some i => (match i.desc, x with
    | .string, .string b => some (.int .i64 b.size, s)
    | .array n _, _ => some (.int .i64 n, s)
    | .slice _, .slice _ n _ => some (.int .i64 n, s)
    | .map _ _, .map none => some (.int .i64 0, s)
    | .map _ _, .map (some r) => lenMapC (s.readMap r)
    | _, _ => none)
  | none => none
noncomputable def srcT (Γ : Env) (t : TypeId) : Bool := match Γ.ti.at t with
  | some i => (match i.desc with | .slice _ => true | .string => true | _ => false)
  | none => false
noncomputable def opBuiltin (P : Program) (Γ : Env) (ρ : Operand → Value) (o : Oper) (s : CS) (b : Builtin) (args : List Operand) (ts : List TypeId) : Option (Value × CS) :=
  match b with
  | .append => (match args, ts with | [x, y], [t, tx] => sel (srcT Γ tx) (opAppend Γ s t (ρ y) (ρ x)) none | _, _ => none)
  | .copy => (match args, ts with | [x, y], [t, _] => opCopy Γ s t (ρ y) (ρ x) | _, _ => none)
  | .len => (match args, ts with | [x], [t] => opLen Γ s t (ρ x) | _, _ => none)
  | .min => retC s (pureC P ρ o)
  | .max => retC s (pureC P ρ o)
  | _ => none
noncomputable def opCall (call : FuncId → List Value → CS → Option (Value × CS)) (s : CS) (args : List Value) : Value → Option (Value × CS)
  | .func (.func f) first captured => call f (first.toList ++ args ++ captured.toList) s
  | _ => none
noncomputable def opPick (s : CS) (a b : Value) : Value → Option (Value × CS)
  | .bool t => some (bif t then a else b, s)
  | _ => none

noncomputable def opMakeI (Γ : Env) (s : CS) (t : TypeId) (x : Value) : Option (Value × CS) :=
  match Γ.ti.at t with
  | some i => (match i.desc with | .interface _ => none | _ => some (.iface t x, s))
  | none => none
/-- one operation -/
noncomputable def cop (P : Program) (Γ : Env) (call : FuncId → List Value → CS → Option (Value × CS)) (ρ : Operand → Value) (o : Oper) (s : CS) : Option (Value × CS) :=
  match o.op with
  | .move x => some (ρ x, s)
  | .assign x => some (ρ x, s)
  | .pick c a b => opPick s (ρ a) (ρ b) (ρ c)
  | .alloc e => opAlloc Γ s e
  | .box _ x => ptrC (s.newRow 0 (ρ x).cells.toList)
  | .build t parts => opBuild Γ s ρ t parts.toList
  | .buildSlice t n parts => opBuildSlice Γ s ρ t n parts.toList
  | .load t x => opLoad Γ s t (ρ x)
  | .store t x v => opStore Γ s t (ρ v).cells.toList (ρ x)
  | .nilCheck x => opNilCheck s (ρ x)
  | .sliceToArrayPointer t x => opS2A Γ s t (ρ x)
  | .makeFunc fn first captured => some (.func fn (first.map ρ) (captured.map ρ), s)
  | .makeSlice t l c => opMakeSlice Γ s t (natOf (ρ l)) (natOf (ρ c))
  | .slice t x lo hi mx => opSlice Γ s t (ρ x) (lo.map ρ) (hi.map ρ) (mx.map ρ)
  | .fieldAddr t x k => opFieldAddr Γ s t k (ρ x)
  | .field t x k => opField Γ s t k (ρ x)
  | .indexAddr t x ix => opIndexAddr Γ s t (ρ x) (natOf (ρ ix))
  | .index t x ix => opIndex Γ s t (ρ x) (natOf (ρ ix))
  | .extract x k => opExtract s k (ρ x)
  | .unOp op _ x => orPure P ρ o s (unC op (ρ x))
  | .convert src dst x => opConvert P Γ ρ o s src dst (ρ x)
  | .binOp op t x y _ => opBin P Γ ρ o s t op (ρ x) (ρ y)
  | .makeMap _ none => mapC s
  | .lookup t x k ok => opLookup Γ s t (ρ x) (ρ k) ok
  | .mapUpdate t m k v => opMapUpdate Γ s t (ρ k) (ρ v) (ρ m)
  | .insert t m k v => opMapUpdate Γ s t (ρ k) (ρ v) (ρ m)
  | .makeInterface t x => opMakeI Γ s t (ρ x)
  | .call c => match c.callee with
    | .value f => opCall call s (c.args.toList.map ρ) (ρ f)
    | .builtin b => opBuiltin P Γ ρ o s b c.args.toList c.argTypes.toList
    | _ => none
  | _ => none

noncomputable def putC (fr : Fr) (d : Option Tmp) (v : Value) : Fr := match d with | some d => fr.put d v | none => fr
noncomputable def dstOf (ops : List Oper) (j : Nat) : Option Tmp := match ops[j]? with | some o => o.dst | none => none
noncomputable def wantedC (ops : List Oper) (fr : Fr) (o : Oper) : Bool :=
  match o.guard with
  | none => true
  | some (j, want) => match dstOf ops j with
    | some d => (match fr.get d with | .bool b => b == want | _ => false)
    | none => false
abbrev CallC := FuncId → List Value → CS → Option (Value × CS)
noncomputable def stepC (P : Program) (Γ : Env) (call : CallC) (ops : List Oper) (o : Oper) (fr : Fr) (s : CS) : Option (Fr × CS) :=
  bif wantedC ops fr o then match cop P Γ call (evalC fr) o s with
    | some (v, s) => some (putC fr o.dst v, s)
    | none => none
  else some (putC fr o.dst undef, s)
noncomputable def runC (P : Program) (Γ : Env) (call : CallC) (ops : List Oper) : List Oper → Fr → CS → Option (Fr × CS)
  | [], fr, s => some (fr, s)
  | o :: l, fr, s => match stepC P Γ call ops o fr s with
    | some (fr, s) => runC P Γ call ops l fr s
    | none => none
/-- what an operation touched of the families that were there before it, and those that it made: from lo to hi -/
structure Lg where
  rd : List Nat
  wr : List Nat
  lo : Nat
  hi : Nat
noncomputable def CS.inner (s : CS) : CS := { s with lim := s.n, rd := [], wr := [] }
noncomputable def CS.outer (s t : CS) : CS := { t with lim := s.lim, rd := insAll s.lim s.rd t.rd, wr := insAll s.lim s.wr t.wr }
/-- the same, each operation with a log of its own -/
noncomputable def drawC (P : Program) (Γ : Env) (call : CallC) (ops : List Oper) : List Oper → Fr → CS → Option (List Lg × Fr × CS)
  | [], fr, s => some ([], fr, s)
  | o :: l, fr, s => match stepC P Γ call ops o fr s.inner with
    | some (fr, t) => (match drawC P Γ call ops l fr (s.outer t) with
      | some (logs, fr, s') => some (⟨t.rd, t.wr, s.n, t.n⟩ :: logs, fr, s')
      | none => none)
    | none => none
noncomputable def nth {α : Type} (d : α) : List α → Nat → α
  | [], _ => d
  | x :: _, 0 => x
  | _ :: l, i + 1 => nth d l i
/-- for each operation, as bits, those that come before it in every order -/
noncomputable def maskOf (ms : List Nat) : List Edge → Nat
  | [] => 0
  | e :: l => bif Region.binds .any e then Nat.lor (Nat.lor (Nat.pow 2 e.on) (nth 0 ms e.on)) (maskOf ms l) else maskOf ms l
noncomputable def masks : List Oper → List Nat → List Nat
  | [], ms => ms
  | o :: l, ms => masks l (ms ++ [maskOf ms o.after.toList])
noncomputable def meet (a b : List Nat) : Bool := a.any (has b)
noncomputable def within (lo hi : Nat) (l : List Nat) : Bool := l.any fun f => Nat.ble lo f && Nat.blt f hi
/-- x stands before y in the text -/
noncomputable def clash (x y : Lg) : Bool := meet x.wr y.rd || meet x.wr y.wr || meet x.rd y.wr || within x.lo x.hi y.rd || within x.lo x.hi y.wr
/-- those before y (numbered from i) that are not surely before it do not clash with it -/
noncomputable def calmOne {α : Type} (bad : α → α → Bool) (m : Nat) (y : α) : List α → Nat → Bool
  | [], _ => true
  | x :: l, i => (Nat.testBit m i || !bad x y) && calmOne bad m y l (i + 1)
noncomputable def calmAll {α : Type} (bad : α → α → Bool) : List α → List α → List Nat → Bool
  | _, [], _ => true
  | done, y :: l, ms => calmOne bad (nth 0 ms done.length) y done 0 && calmAll bad (done ++ [y]) l ms
noncomputable def calm (n0 : Nat) (ops : List Oper) (logs : List Lg) : Bool :=
  bif logs.all (fun x => x.wr.isEmpty && x.rd.all fun f => Nat.blt f n0) then true else calmAll clash [] logs (masks ops [])

/-- what is looked at once in a program's text -/
noncomputable def namesOf (ops : List Oper) (o : Oper) : List Nat :=
  (o.op.operands.toList.filterMap fun x => match x with | .tmp t => some t | _ => none) ++ (match o.guard with
    | some (g, _) => (match dstOf ops g with | some d => [d] | none => [])
    | none => [])
noncomputable def touchy (ops : List Oper) (x y : Oper) : Bool :=
  (match x.dst with | some d => has (namesOf ops y) d || (match y.dst with | some e => Nat.beq e d | none => false) | none => false) ||
  (match y.dst with | some d => has (namesOf ops x) d | none => false)
noncomputable def edgesOk : List Oper → Nat → Bool
  | [], _ => true
  | o :: l, i => (o.after.toList.all fun e => !Region.binds .any e || Nat.blt e.on i) && edgesOk l (i + 1)
noncomputable def tidy (ops : List Oper) : Bool := edgesOk ops 0 && calmAll (touchy ops) [] ops (masks ops [])
noncomputable def operandOk (G : List Nat) : Operand → Bool
  | .tmp _ => true
  | .const v => zeroV v
  | .global g => has G g
  | .func _ => true
noncomputable def operOk (G : List Nat) (nt : Nat) (o : Oper) : Bool :=
  o.op.operands.toList.all (operandOk G) && (match o.dst with | some d => Nat.blt d nt | none => true)
noncomputable def codeOk (G : List Nat) (nt : Nat) : Code → Bool
  | .region _ ops draw => ops.toList.all (operOk G nt) && (!draw || tidy ops.toList)
  | .seq a b => codeOk G nt a && codeOk G nt b
  | .cond c a b => operandOk G c && codeOk G nt a && codeOk G nt b
  | .block _ b => codeOk G nt b
  | .loop b => codeOk G nt b
  | .scope b => codeOk G nt b
  | _ => true
noncomputable def funcOk (G : List Nat) (fn : Func) : Bool :=
  Nat.ble fn.ntmps 512 && !(fn.name == "runtime.NumGoroutine") && (match fn.body with | some b => codeOk G fn.ntmps b | none => true)
noncomputable def resC (Γ : Env) (fr : Fr) (s : CS) : List ResultVar → Option (List Value × CS)
  | [] => some ([], s)
  | .tmp t :: l => match resC Γ fr s l with | some (vs, s) => some (fr.get t :: vs, s) | none => none
  | .cell a t :: l => match fr.get a, Γ.ti.at t with
    | .pointer (some a), some i => (match s.loadVar i a with
      | some (v, s) => (match resC Γ fr s l with | some (vs, s) => some (v :: vs, s) | none => none)
      | none => none)
    | _, _ => none
noncomputable def tupC : List Value → Value
  | [v] => v
  | vs => .tuple vs.toArray
noncomputable def cm (P : Program) (Γ : Env) : Nat → Code → Fr → CS → Option (Exit × Fr × CS)
  | 0, _, _, _ => none
  | n + 1, c, fr, s => match c with
    | .skip => some (.normal, fr, s)
    | .label _ => some (.normal, fr, s)
    | .region _ ops draw =>
      let call : CallC := fun f args s => match Γ.ax f with
        | some h => h args s
        | none => match Γ.fn.at f with
          | some fn => (match fn.body with
            | some body => (match sel (Nat.ble args.length fn.ntmps) (cm P Γ n body (Fr.ofArgs args 0 ⟨fn.ntmps, Tr.all undef 9⟩) s) none with
              | some (.normal, fr, s) => (match resC Γ fr s fn.results.toList with | some (vs, s) => some (tupC vs, s) | none => none)
              | some (.ret, fr, s) => (match resC Γ fr s fn.results.toList with | some (vs, s) => some (tupC vs, s) | none => none)
              | _ => none)
            | none => none)
          | none => none
      bif draw then match drawC P Γ call ops.toList ops.toList fr s with
        | some (logs, fr, t) => bif calm s.n ops.toList logs then some (.normal, fr, t) else none
        | none => none
      else match runC P Γ call ops.toList ops.toList fr s with
        | some (fr, s) => some (.normal, fr, s)
        | none => none
    | .seq a b => match cm P Γ n a fr s with
      | some (.normal, fr, s) => cm P Γ n b fr s
      | r => r
    | .cond c t e => match evalC fr c with
      | .bool v => cm P Γ n (bif v then t else e) fr s
      | _ => none
    | .block id b => match cm P Γ n b fr s with
      | some (.exit i, fr, s) => some (bif Nat.beq i id then .normal else .exit i, fr, s)
      | r => r
    | .loop b => match cm P Γ n b fr s with
      | some (.normal, fr, s) => cm P Γ n (.loop b) fr s
      | r => r
    | .exit id => some (.exit id, fr, s)
    | .ret => some (.ret, fr, s)
    | .scope b => cm P Γ n b fr s
    | _ => none

noncomputable def mkTab {α : Type} (f : Nat → Option α) : Tab α := Tr.of f 8 0 1
noncomputable def tiOf (P : Program) (t : TypeId) : Option TI :=
  match P.info? t, P.underlying t with
  | some i, some d => (match i.zero with
    | some z => sel (and (Nat.beq z.cells.toList.length i.size) (and (z.cells.toList.all zeroV) (shapeV d z))) (some ⟨d, i.size, i.bytes, z.cells.toList⟩) none
    | none => none)
  | _, _ => none
abbrev Axs := Nat → Option (List Value → CS → Option (Value × CS))
noncomputable def envAx (P : Program) (L : List Nat) (ax : Axs) : Env := ⟨mkTab (tiOf P), mkTab fun f => sel (has L f) P.funcs[f]? none, ax⟩
noncomputable def envOf (P : Program) (L : List Nat) : Env := envAx P L fun _ => none
noncomputable def funcsOk (P : Program) (G L : List Nat) : Bool := L.all fun f => match P.funcs[f]? with | some fn => funcOk G fn | none => true
noncomputable def callC (P : Program) (Γ : Env) (n : Nat) : CallC := fun f args s => match Γ.ax f with
  | some h => h args s
  | none => match Γ.fn.at f with
    | some fn => (match fn.body with
      | some body => (match sel (Nat.ble args.length fn.ntmps) (cm P Γ n body (Fr.ofArgs args 0 ⟨fn.ntmps, Tr.all undef 9⟩) s) none with
        | some (.normal, fr, s) => (match resC Γ fr s fn.results.toList with | some (vs, s) => some (tupC vs, s) | none => none)
        | some (.ret, fr, s) => (match resC Γ fr s fn.results.toList with | some (vs, s) => some (tupC vs, s) | none => none)
        | _ => none)
      | none => none)
    | none => none
/-- the known functions alone -/
noncomputable def axC (Γ : Env) : CallC := fun f args s => match Γ.ax f with
  | some h => h args s
  | none => none
noncomputable def cs0 : CS := ⟨0, .inl (Tr.all ⟨true, [], none⟩ 14), 0, [], []⟩
/-- a function without parameters, run over no memory, gives true -/
noncomputable def callsTrue (P : Program) (Γ : Env) (f : FuncId) (fuel : Nat) : Bool :=
  match callC P Γ fuel f [] cs0 with
  | some (.bool true, _) => true
  | _ => false
end Go.Proofs.YtcmfoipnoejmlaaDoor
