/- The executor, part 1: what it asks of code. -/
import Derived.OrdersHeld
import Derived.WalkKit
import Derived.RangeFuncLeaves
import Derived.OrdersIn
import Derived.RangeFuncRecord
import Derived.Sort.LoopGhostIn
import Derived.Deep.LoopGhost
/- A small executor for the model's code: what a function does, said as one condition on heaps of which a part is known. The definitions. -/
namespace Go.Vx

/-! ### Heaps of which a part is known -/
abbrev PHeap := Nat → Option Obj
def Sees (H : PHeap) (w : World) : Prop := ∀ k o, H k = some o → w.heap[k]? = some o
def PHeap.upd (H : PHeap) (b : Nat) (o : Obj) : PHeap := fun k => if k = b then some o else H k
structure Sub (A B : PHeap) : Prop where
  le : ∀ k o, A k = some o → B k = some o
/-- What a step may do: the known part H becomes H', of the rest nothing turns, and what comes to be known is new. -/
structure Nx (H H' : PHeap) (w w' : World) : Prop where
  os : w'.os = w.os
  tape : w'.tape = w.tape
  output : w'.output = w.output
  size : w.heap.size ≤ w'.heap.size
  keep : ∀ k, k < w.heap.size → H k = none → w'.heap[k]? = w.heap[k]?
  fresh : ∀ k, H' k ≠ none → H k ≠ none ∨ w.heap.size ≤ k
  sees : Sees H' w'
def hcell (H : PHeap) (a : Addr) : Option Value :=
  match H a.block with
  | some (.cells c _ _) => if a.spot.isSome then none else c[a.off]?
  | _ => none
/-- The cells from an address on read as a list. -/
structure Reads (H : PHeap) (oa : Option Addr) (l : List Value) : Prop where
  out : ∃ a, oa = some a ∧ ∀ (i : Nat) v, l[i]? = some v → hcell H (a.add i) = some v
/-- The cells from an address on may be written, and there are n. -/
structure Writes (H H' : PHeap) (oa : Option Addr) (l : List Value) : Prop where
  out : ∃ a c e lo hi, oa = some a ∧ a.spot = none ∧ H a.block = some (.cells c e (lo, hi)) ∧ a.off + l.length ≤ c.size ∧
    (∀ i, i < l.length → ¬ (lo ≤ a.off + i ∧ a.off + i < hi)) ∧
    H' = H.upd a.block (.cells (c.toList.take a.off ++ l ++ c.toList.drop (a.off + l.length)).toArray e (lo, hi))
structure Ob (p : Prop) : Prop where
  out : p
/-- A call. -/
structure Triple (P : Program) (f : FuncId) (args : Array Value) (H : PHeap) (Q : Value → PHeap → Prop) : Prop where
  out : ∀ w, Sees H w → Calls P f args w fun e w' => ∃ v H', e = .returned v ∧ Nx H H' w w' ∧ Q v H'
/-- Any other operation that yields a value. -/
structure EvV (P : Program) (s : Sem Value) (H : PHeap) (K : Value → PHeap → Prop) : Prop where
  out : ∀ w, Sees H w → ∃ v w' H', s.run P w = .ok v w' ∧ Nx H H' w w' ∧ K v H'
/-- An operation that only looks. -/
structure LookV (P : Program) (s : Sem Value) (H : PHeap) (K : Value → Prop) : Prop where
  out : ∃ v, (∀ w, Sees H w → s.run P w = .ok v w) ∧ K v
structure EvU (P : Program) (s : Sem Unit) (H : PHeap) (K : PHeap → Prop) : Prop where
  out : ∀ w, Sees H w → ∃ w' H', s.run P w = .ok () w' ∧ Nx H H' w w' ∧ K H'

/-- The fence that lets all by; in a frame of its own, or in a round's. -/
def RF (r : Option Nat) : Fence := { fn := fun _ => True, depth := none, alive := false, round := r }

/-! ### Values of a slot -/
inductive SV where
  | v (x : Value)
  | kb (b : Bool)
  | loc (box off : Nat)
  | fv (x : Value)
  | unk
structure Box where
  cells : List Value
  ty : TypeId
  fz : Bool
structure St where
  tm : List SV
  bx : List Box
def SV.val? : SV → Option Value
  | .v x => some x
  | .kb b => some (.bool b)
  | .fv x => some x
  | _ => none
def SV.conc (β : Nat → Option Nat) : SV → Value → Prop
  | .v x, y => y = x
  | .kb b, y => y = .bool b
  | .loc b o, y => ∃ g, β b = some g ∧ y = .pointer (some ⟨g, o, none⟩)
  | .fv x, y => y = x
  | .unk, _ => True
def St.put (st : St) (dst : Option Tmp) (sv : SV) : St :=
  match dst with
  | some d => { st with tm := st.tm.set d sv }
  | none => st
def St.get (st : St) (t : Tmp) : SV := st.tm.getD t .unk
def St.ev (st : St) : Operand → SV
  | .tmp t => st.get t
  | .const (.bool b) => .kb b
  | .const v => .v v
  | .global g => .v (.pointer (some ⟨g, 0, none⟩))
  | .func f => .v (.func (.func f) #[] #[])
def St.val (st : St) (x : Operand) : Option Value := (st.ev x).val?
def St.vals (st : St) : List Operand → Option (List Value)
  | [] => some []
  | x :: xs => match st.val x with
    | some v => match st.vals xs with
      | some vs => some (v :: vs)
      | none => none
    | none => none
def St.kbAt (st : St) (x : Operand) (b : Bool) : St :=
  match x with
  | .tmp t => { st with tm := st.tm.set t (.kb b) }
  | _ => st

/-! ### Shapes -/
def exLeaf : Value → (Value → Prop) → Prop
  | .int k _, K => ∃ n : Int, K (.int k n)
  | .bool _, K => ∃ b : Bool, K (.bool b)
  | .string _, K => ∃ s : ByteArray, K (.string s)
  | .pointer _, K => ∃ a : Option Addr, K (.pointer a)
  | .slice _ _ _, K => ∃ (a : Option Addr) (n c : Nat), K (.slice a n c)
  | .map _, K => ∃ r : Option Nat, K (.map r)
  | _, K => ∃ v : Value, K v
def exLs : List Value → (List Value → Prop) → Prop
  | [], K => K []
  | z :: zs, K => exLeaf z fun v => exLs zs fun l => K (v :: l)
def exV : Value → (Value → Prop) → Prop
  | .agg cs, K => exLs cs.toList fun l => K (.agg l.toArray)
  | z, K => exLeaf z K
def exVs : List Value → (List Value → Prop) → Prop
  | [], K => K []
  | z :: zs, K => exV z fun v => exVs zs fun l => K (v :: l)
def allLeaf : Value → (Value → Prop) → Prop
  | .int k _, K => ∀ n : Int, K (.int k n)
  | .bool _, K => ∀ b : Bool, K (.bool b)
  | .string _, K => ∀ s : ByteArray, K (.string s)
  | .pointer _, K => ∀ a : Option Addr, K (.pointer a)
  | .slice _ _ _, K => ∀ (a : Option Addr) (n c : Nat), K (.slice a n c)
  | .map _, K => ∀ r : Option Nat, K (.map r)
  | _, K => ∀ v : Value, K v
def allLs : List Value → (List Value → Prop) → Prop
  | [], K => K []
  | z :: zs, K => allLeaf z fun v => allLs zs fun l => K (v :: l)
def allV : Value → (Value → Prop) → Prop
  | .agg cs, K => allLs cs.toList fun l => K (.agg l.toArray)
  | z, K => allLeaf z K
def allVs : List Value → (List Value → Prop) → Prop
  | [], K => K []
  | z :: zs, K => allV z fun v => allVs zs fun l => K (v :: l)
def sameK : IntKind → IntKind → Bool
  | .i8, .i8 | .i16, .i16 | .i32, .i32 | .i64, .i64 | .u8, .u8 | .u16, .u16 | .u32, .u32 | .u64, .u64 => true
  | _, _ => false
def fitLeaf : Value → Value → Bool
  | .int k _, .int k' _ => sameK k k'
  | .bool _, .bool _ | .string _, .string _ | .pointer _, .pointer _ | .slice _ _ _, .slice _ _ _ | .map _, .map _ => true
  | .int _ _, _ | .bool _, _ | .string _, _ | .pointer _, _ | .slice _ _ _, _ | .map _, _ => false
  | _, _ => true
def fitLs : List Value → List Value → Bool
  | [], [] => true
  | z :: zs, v :: vs => fitLeaf z v && fitLs zs vs
  | _, _ => false
def fitV : Value → Value → Bool
  | .agg zs, .agg vs => fitLs zs.toList vs.toList
  | .agg _, _ => false
  | z, v => fitLeaf z v
def fitVs : List Value → List Value → Bool
  | [], [] => true
  | z :: zs, v :: vs => fitV z v && fitVs zs vs
  | _, _ => false

/-! ### Ways that meet again without a memory step between -/
def mergeLeaf (c : Bool) : Value → Value → Option Value
  | .int k a, .int k' b => if sameK k k' then some (.int k (cond c a b)) else none
  | .bool a, .bool b => some (.bool (cond c a b))
  | .string a, .string b => some (.string (cond c a b))
  | .pointer a, .pointer b => some (.pointer (cond c a b))
  | .slice a n m, .slice a' n' m' => some (.slice (cond c a a') (cond c n n') (cond c m m'))
  | .map a, .map b => some (.map (cond c a b))
  | .func f a b, .func f' a' b' => some (cond c (.func f a b) (.func f' a' b'))
  | _, _ => none
def mergeLs (c : Bool) : List Value → List Value → Option (List Value)
  | [], [] => some []
  | x :: xs, y :: ys => match mergeLeaf c x y with
    | some v => match mergeLs c xs ys with
      | some vs => some (v :: vs)
      | none => none
    | none => none
  | _, _ => none
def mergeV (c : Bool) : Value → Value → Option Value
  | .agg xs, .agg ys => match mergeLs c xs.toList ys.toList with
    | some vs => some (.agg vs.toArray)
    | none => none
  | x, y => mergeLeaf c x y
def mergeSV (c : Bool) (x y : SV) : SV :=
  match x.val?, y.val? with
  | some a, some b => match mergeV c a b with
    | some v => .v v
    | none => .unk
  | _, _ => .unk
/-- Of the slots in W the merged value, of the others what they were. -/
def mergeTm (c : Bool) (W : List Tmp) : Nat → List SV → List SV → List SV → List SV
  | i, t :: ts, x :: xs, y :: ys => (if W.contains i then mergeSV c x y else t) :: mergeTm c W (i + 1) ts xs ys
  | _, ts, _, _ => ts

/-! ### Operations without a step of memory -/
/-- A condition, if there is one, and what is yielded. -/
structure PR where
  ob : Option Prop
  sv : SV
def byteAt (s : ByteArray) (i : Int) : Int := ((s.data[i.toNat]?).getD 0).toNat
def elemA (a : Option Addr) (i : Int) (sz : Nat) : Option Addr := a.map fun a => a.add (i.toNat * sz)
def fldA (a : Option Addr) (off : Nat) : Option Addr := a.map fun a => a.add off
def slA (a : Option Addr) (l : Int) (m : Nat) (sz : Nat) : Option Addr := if (m : Int) = l then a else a.map fun a => a.add (l.toNat * sz)
def bitsOp (op : BinOp) (k : IntKind) (x y : Int) : Int :=
  match op with
  | .and => k.wrap (BitVec.ofInt k.bits x &&& BitVec.ofInt k.bits y).toNat
  | .or => k.wrap (BitVec.ofInt k.bits x ||| BitVec.ofInt k.bits y).toNat
  | .xor => k.wrap (BitVec.ofInt k.bits x ^^^ BitVec.ofInt k.bits y).toNat
  | _ => k.wrap (BitVec.ofInt k.bits x &&& ~~~ (BitVec.ofInt k.bits y)).toNat
def shlI (k : IntKind) (x y : Int) : Int := k.wrap (x * 2 ^ min y.toNat k.bits)
def shrI (k : IntKind) (x y : Int) : Int := x.fdiv (2 ^ min y.toNat k.bits)
def lessS (a b : ByteArray) : Bool := Op.bytesLess a.toList b.toList
def eqS (a b : ByteArray) : Bool := a.toList == b.toList
def maxI (x y : Int) : Int := if y > x then y else x
def minI (x y : Int) : Int := if y < x then y else x
def maxT (x y : ByteArray) : ByteArray := if lessS x y then y else x

def zeroOf (P : Program) (t : TypeId) : Option Value :=
  match P.info? t with
  | some i => i.zero
  | none => none
def sizeT (P : Program) (t : TypeId) : Option Nat :=
  match P.info? t with
  | some i => some i.size
  | none => none
def aggT (P : Program) (t : TypeId) : Option Bool :=
  match P.underlying t with
  | some (.struct _) => some true
  | some (.array _ _) => some true
  | some _ => some false
  | none => none
/-- The value of a type at a place in a row of cells. -/
def partOf (P : Program) (t : TypeId) (cs : List Value) (off : Nat) : Option Value :=
  match aggT P t, sizeT P t with
  | some true, some n => if off + n ≤ cs.length then some (.agg ((cs.drop off).take n).toArray) else none
  | some false, _ => match cs.drop off with
    | v :: _ => some v
    | [] => none
  | _, _ => none
def opaqueT (P : Program) (t : TypeId) : Bool :=
  match zeroOf P t with
  | some .nilFunc => true
  | some .nilIface => true
  | _ => false
def svOf (P : Program) (t : TypeId) (x : Value) : SV := if opaqueT P t then .fv x else .v x
def eqLeaf (P : Program) (t : TypeId) : Value → Value → Option Bool
  | .int k a, .int k' b => match P.underlying t with
    | some (.int _) => if sameK k k' then some (a == b) else none
    | _ => none
  | .bool a, .bool b => match P.underlying t with
    | some .bool => some (a == b)
    | _ => none
  | .string a, .string b => match P.underlying t with
    | some .string => some (eqS a b)
    | _ => none
  | _, _ => none
def part? (P : Program) (t : TypeId) (cs : Array Value) (off : Nat) : Option Value := partOf P t cs.toList off
def eqFs (P : Program) (eqd : TypeId → Value → Value → Option Bool) (xs ys : Array Value) : List Field → Option Bool
  | [] => some true
  | f :: fs => if f.name ≠ "_" then
      match part? P f.type xs f.offset, part? P f.type ys f.offset with
      | some a, some b => match eqd f.type a b with
        | some r => match fs with
          | [] => some r
          | _ => match eqFs P eqd xs ys fs with
            | some s => some (r && s)
            | none => none
        | none => none
      | _, _ => none
    else eqFs P eqd xs ys fs
def eqT (P : Program) : Nat → TypeId → Value → Value → Option Bool
  | 0, _, _, _ => none
  | d + 1, t, x, y => match x, y with
    | .agg xs, .agg ys => match P.underlying t with
      | some (.struct fs) => if P.stoodInHeld t then none else eqFs P (eqT P d) xs ys fs.toList
      | _ => none
    | _, _ => eqLeaf P t x y
/-- Is it nil? -/
def isNil : Value → Option Bool
  | .pointer a => some a.isNone
  | .slice a _ _ => some a.isNone
  | .map r => some r.isNone
  | _ => none
def nilOperand : Operand → Bool
  | .const (.pointer none) => true
  | .const (.slice none _ _) => true
  | .const (.map none) => true
  | _ => false
def nilOk (P : Program) (t : TypeId) : Value → Bool
  | .pointer _ => match P.underlying t with | some (.pointer _) => true | _ => false
  | .slice _ _ _ => match P.underlying t with | some (.slice _) => true | _ => false
  | .map _ => match P.underlying t with | some (.map _ _) => true | _ => false
  | _ => false
def pure? (v : Value) : Option PR := some ⟨none, .v v⟩
def binI (op : BinOp) (k : IntKind) (a b : Int) : Option PR :=
  match op with
  | .add => pure? (.int k (k.wrap (a + b)))
  | .sub => pure? (.int k (k.wrap (a - b)))
  | .mul => pure? (.int k (k.wrap (a * b)))
  | .quo => some ⟨some (b ≠ 0), .v (.int k (k.wrap (a.tdiv b)))⟩
  | .rem => some ⟨some (b ≠ 0), .v (.int k (a.tmod b))⟩
  | .eql => pure? (.bool (a == b))
  | .neq => pure? (.bool (a != b))
  | .lss => pure? (.bool (decide (a < b)))
  | .leq => pure? (.bool (decide (a ≤ b)))
  | .gtr => pure? (.bool (decide (a > b)))
  | .geq => pure? (.bool (decide (a ≥ b)))
  | .and => pure? (.int k (bitsOp .and k a b))
  | .or => pure? (.int k (bitsOp .or k a b))
  | .xor => pure? (.int k (bitsOp .xor k a b))
  | .andNot => pure? (.int k (bitsOp .andNot k a b))
  | _ => none
def binS (op : BinOp) (a b : ByteArray) : Option PR :=
  match op with
  | .add => some ⟨some (((a.size + b.size : Nat) : Int) ≤ 9223372036854775807), .v (.string (a ++ b))⟩
  | .eql => pure? (.bool (eqS a b))
  | .neq => pure? (.bool (!eqS a b))
  | .lss => pure? (.bool (lessS a b))
  | .leq => pure? (.bool (lessS a b || eqS a b))
  | .gtr => pure? (.bool (!(lessS a b || eqS a b)))
  | .geq => pure? (.bool (!lessS a b))
  | _ => none
def binV (P : Program) (op : BinOp) (t : TypeId) (x y : Value) : Option PR :=
  match x, y with
  | .int k a, .int k' b => match op with
    | .shl => some ⟨some (0 ≤ b), .v (.int k (shlI k a b))⟩
    | .shr => some ⟨some (0 ≤ b), .v (.int k (shrI k a b))⟩
    | op => if sameK k k' then binI op k a b else none
  | .string a, .string b => binS op a b
  | .bool a, .bool b => match P.underlying t with
    | some .bool => match op with
      | .eql => pure? (.bool (a == b))
      | .neq => pure? (.bool (!(a == b)))
      | _ => none
    | _ => none
  | .agg xs, .agg ys => if P.eqGuardType P.depth t then none else
    match eqT P 100 t (.agg xs) (.agg ys) with
    | some r => match op with
      | .eql => pure? (.bool r)
      | .neq => pure? (.bool (!r))
      | _ => none
    | none => none
  | _, _ => none
def nilFits : Operand → Value → Bool
  | .const (.pointer none), .pointer _ => true
  | .const (.slice none _ _), .slice _ _ _ => true
  | .const (.map none), .map _ => true
  | _, _ => false
def binO (P : Program) (st : St) (op : BinOp) (t : TypeId) (x y : Operand) : Option PR :=
  match nilOperand y, st.val x, st.val y with
  | true, some vx, _ => if nilFits y vx && nilOk P t vx then match isNil vx with
      | some r => match op with
        | .eql => pure? (.bool r)
        | .neq => pure? (.bool (!r))
        | _ => none
      | none => none
    else none
  | false, some vx, some vy => binV P op t vx vy
  | _, _, _ => none
def loBound : Option Value → Option Int
  | none => some 0
  | some (.int _ n) => some n
  | _ => none
def hiBound (d : Nat) : Option Value → Option Int
  | none => some d
  | some (.int _ n) => some n
  | _ => none
def optVal (st : St) : Option Operand → Option (Option Value)
  | none => some none
  | some x => match st.val x with
    | some v => some (some v)
    | none => none
def sliceO (P : Program) (st : St) (t : TypeId) (x : Operand) (lo hi mx : Option Operand) : Option PR :=
  match st.val x, optVal st lo, optVal st hi, optVal st mx, P.underlying t with
  | some (.string s), some l, some h, some none, some .string =>
    match loBound l, hiBound s.size h with
    | some l, some h => some ⟨some (0 ≤ l ∧ l ≤ h ∧ h ≤ s.size), .v (.string (s.extract l.toNat h.toNat))⟩
    | _, _ => none
  | some (.slice a n c), some l, some h, some m, some (.slice e) =>
    match loBound l, hiBound n h, sizeT P e with
    | some l, some h', some sz => match m with
      | none => some ⟨some (0 ≤ l ∧ l ≤ h' ∧ h' ≤ c), .v (.slice (slA a l c sz) (h'.toNat - l.toNat) (c - l.toNat))⟩
      | some (.int _ m) => match h with
        | some _ => some ⟨some (0 ≤ l ∧ l ≤ h' ∧ h' ≤ m ∧ m ≤ c), .v (.slice (slA a l m.toNat sz) (h'.toNat - l.toNat) (m.toNat - l.toNat))⟩
        | none => none
      | _ => none
    | _, _, _ => none
  | _, _, _, _, _ => none
def buildPlaces (P : Program) : List Field → Option (List (Nat × Nat))
  | [] => some []
  | f :: fs => match sizeT P f.type, buildPlaces P fs with
    | some n, some l => some ((f.offset, n) :: l)
    | _, _ => none
def partVals (st : St) : List (Nat × Operand) → Option (List (Nat × Value))
  | [] => some []
  | (i, x) :: r => match st.val x, partVals st r with
    | some v, some l => some ((i, v) :: l)
    | _, _ => none
/-- Some cells put over others from a place on. -/
def over (cells : List Value) (off : Nat) (l : List Value) : List Value := cells.take off ++ l ++ cells.drop (off + l.length)
def cellsL : Value → List Value
  | .agg cs => cs.toList
  | v => [v]
def fillL (place : Nat → Option (Nat × Nat)) (cells : List Value) : List (Nat × Value) → Option (List Value)
  | [] => some cells
  | (i, v) :: rest => match place i with
    | none => none
    | some (off, size) => if (cellsL v).length = size then if off + size ≤ cells.length then fillL place (over cells off (cellsL v)) rest else none else none
def buildO (P : Program) (st : St) (t : TypeId) (parts : List (Nat × Operand)) : Option PR :=
  match zeroOf P t, P.underlying t, partVals st parts with
  | some (.agg z), some (.struct fs), some ps => match buildPlaces P fs.toList with
    | some pl => match fillL (fun i => pl[i]?) z.toList ps with
      | some l => pure? (.agg l.toArray)
      | none => none
    | none => none
  | _, _, _ => none
def pOp (P : Program) (bx : List Box) (st : St) (o : Oper) : Option PR :=
  match o.op with
  | .load t x => match st.ev x with
    | .loc b off => match bx.drop b with
      | c :: _ => match partOf P t c.cells off with
        | some v => some ⟨none, svOf P t v⟩
        | none => none
      | [] => none
    | _ => none
  | .move x => some ⟨none, st.ev x⟩
  | .assign x => some ⟨none, st.ev x⟩
  | .pick c a b => match st.ev c with
    | .kb c => some ⟨none, match c with | true => st.ev a | false => st.ev b⟩
    | .v (.bool c) => some ⟨none, mergeSV c (st.ev a) (st.ev b)⟩
    | _ => none
  | .extract x i => match st.ev x with
    | .v (.tuple vs) => match vs.toList.drop i with
      | v :: _ => pure? v
      | [] => none
    | _ => none
  | .field t x i => match st.ev x, P.underlying t with
    | .v (.agg cs), some (.struct fs) => match fs.toList.drop i with
      | f :: _ => match partOf P f.type cs.toList f.offset with
        | some v => some ⟨none, svOf P f.type v⟩
        | none => none
      | [] => none
    | _, _ => none
  | .fieldAddr t x i => match P.underlying t with
    | some (.struct fs) => match fs.toList.drop i with
      | f :: _ => match sizeT P f.type with
        | some (_ + 1) => match st.ev x with
          | .loc b o => some ⟨none, .loc b (o + f.offset)⟩
          | .v (.pointer a) => some ⟨some (a ≠ none), .v (.pointer (fldA a f.offset))⟩
          | _ => none
        | _ => none
      | [] => none
    | _ => none
  | .indexAddr t x i => match P.underlying t, st.ev x, st.ev i with
    | some (.slice e), .v (.slice a n _), .v (.int _ j) => match sizeT P e with
      | some sz => some ⟨some (a ≠ none ∧ 0 ≤ j ∧ j < n), .v (.pointer (elemA a j sz))⟩
      | none => none
    | some (.array n e), .v (.pointer a), .v (.int _ j) => match sizeT P e with
      | some sz => some ⟨some (a ≠ none ∧ 0 ≤ j ∧ j < n), .v (.pointer (elemA a j sz))⟩
      | none => none
    | _, _, _ => none
  | .index t x i => match P.underlying t, st.ev x, st.ev i with
    | some .string, .v (.string s), .v (.int _ j) => some ⟨some (0 ≤ j ∧ j < s.size), .v (.int .u8 (byteAt s j))⟩
    | _, _, _ => none
  | .unOp op _ x => match op, st.ev x with
    | .not, .kb b => some ⟨none, .kb (!b)⟩
    | .not, .v (.bool b) => pure? (.bool (!b))
    | .neg, .v (.int k n) => pure? (.int k (k.wrap (0 - n)))
    | _, _ => none
  | .binOp op t x y _ => binO P st op t x y
  | .convert src dst x => match P.underlying src, P.underlying dst, st.ev x with
    | some (.int _), some (.int k), .v (.int _ n) => pure? (.int k (k.wrap n))
    | some .string, some .string, .v (.string s) => pure? (.string s)
    | _, _, _ => none
  | .nilCheck x => match st.ev x with
    | .loc b o => some ⟨none, .loc b o⟩
    | .v (.pointer a) => some ⟨some (a ≠ none), .v (.pointer a)⟩
    | _ => none
  | .slice t x lo hi mx => sliceO P st t x lo hi mx
  | .build t parts => buildO P st t parts.toList
  | .makeFunc fn first captured => match st.vals first.toList, st.vals captured.toList with
    | some fs, some cs => pure? (.func fn fs.toArray cs.toArray)
    | _, _ => none
  | .makeInterface t x => match P.underlying t, st.val x with
    | some (.interface _), _ => none
    | some _, some v => pure? (.iface t v)
    | _, _ => none
  | .call { callee := .builtin b, args, argTypes } => match b, args.toList, argTypes.toList with
    | .len, [x], [t] => match P.underlying t, st.ev x with
      | some .string, .v (.string s) => pure? (.int .i64 s.size)
      | some (.slice _), .v (.slice _ n _) => pure? (.int .i64 n)
      | some (.array n _), _ => pure? (.int .i64 n)
      | _, _ => none
    | .cap, [x], [t] => match P.underlying t, st.ev x with
      | some (.slice _), .v (.slice _ _ c) => pure? (.int .i64 c)
      | _, _ => none
    | .max, [x, y], _ => match st.ev x, st.ev y with
      | .v (.int k a), .v (.int _ b) => pure? (.int k (maxI a b))
      | .v (.string a), .v (.string b) => pure? (.string (maxT a b))
      | _, _ => none
    | .min, [x, y], _ => match st.ev x, st.ev y with
      | .v (.int k a), .v (.int _ b) => pure? (.int k (minI a b))
      | _, _ => none
    | _, _, _ => none
  | _ => none
/-- Which operations leave the heap alone. -/
def quietOp (P : Program) (o : Oper) : Bool :=
  match o.op with
  | .move _ | .assign _ | .pick _ _ _ | .extract _ _ | .field _ _ _ | .fieldAddr _ _ _ | .indexAddr _ _ _ | .index _ _ _ | .unOp _ _ _ | .binOp _ _ _ _ _
  | .nilCheck _ | .slice _ _ _ _ _ | .build _ _ | .makeFunc _ _ _ | .makeInterface _ _ | .load _ _ | .lookup _ _ _ _ => true
  | .convert src dst _ => match P.underlying src, P.underlying dst with
    | some (.int _), some (.int _) => true
    | some .string, some .string => true
    | some (.slice _), some .string => true
    | _, _ => false
  | .call { callee := .builtin b, args := _, argTypes } => match b, argTypes.toList with
    | .len, t :: _ => match P.underlying t with
      | some .string => true
      | some (.slice _) => true
      | some (.array _ _) => true
      | _ => false
    | .cap, _ => true
    | .max, _ => true
    | .min, _ => true
    | _, _ => false
  | _ => false
end Go.Vx

/- The executor: what is to be shown of a function's code, as one condition. -/
namespace Go.Vx

/-- What a prover tells of a function: which variables in memory others may see; of each loop (by the first region in it) the slots, and the slots of the boxes, that it changes and that live; of each block whose ways are to meet the same. -/
structure Cx where
  esc : List Tmp
  loops : List (Nat × List Tmp × List Nat)
  joins : List (Nat × List (Tmp × TypeId) × List Nat)
  rfs : List (Nat × List TypeId) := []

structure CallV (P : Program) (f : Value) (args : Array Value) (H : PHeap) (Q : Value → PHeap → Prop) : Prop where
  out : ∀ w, Sees H w → ∃ g xs, (do let d ← Deferred.ofValue f args; invoke d.target d.args : Sem Next).run P w = .ok (.enter g xs) w ∧
    Calls P g xs w fun e w' => ∃ v H', e = .returned v ∧ Nx H H' w w' ∧ Q v H'
/-- A function without a body, that the model carries out at once. -/
structure ExtV (P : Program) (f : FuncId) (args : Array Value) (H : PHeap) (K : Value → PHeap → Prop) : Prop where
  out : ∀ w, Sees H w → ∃ v w' H', (callFunc f args).run P w = .ok (.value v) w' ∧ Nx H H' w w' ∧ K v H'
/-- A function value that is called where no order is drawn: it may also be a loop's 'yield'. -/
structure CallY (P : Program) (f : Value) (args : Array Value) (H : PHeap) (Q : Value → PHeap → Prop) : Prop where
  out : ∀ w, Sees H w → (∃ g xs, (do let d ← Deferred.ofValue f args; invoke d.target d.args : Sem Next).run P w = .ok (.enter g xs) w ∧
      Calls P g xs w fun e w' => ∃ v H', e = .returned v ∧ Nx H H' w w' ∧ Q v H') ∨
    (∃ l g tmps assign body, (do let d ← Deferred.ofValue f args; invoke d.target d.args : Sem Next).run P w = .ok (.round l g tmps assign body) w ∧
      RoundIn (RF none) 0 P l g tmps assign body w fun e w' => ∃ v H', e = .returned v ∧ Nx H H' w w' ∧ Q v H')
structure CellsOnly (F : PHeap) : Prop where
  out : ∀ k o, F k = some o → ∃ c e r, o = .cells c e r
/-- A function that can be ranged over: it hands on n times what E says, one by one, as long as that is asked. -/
structure IterOk (P : Program) (g : Value) (H : PHeap) (n : Nat) (E : Nat → List Value → PHeap → Prop) : Prop where
  out : ∀ (y : Value) (J : Nat → PHeap → Prop) (X : PHeap → Prop) (H0 : PHeap), J 0 H0 → (∀ i H', J i H' → Sub H H') → (∀ i H' H'', J i H' → Sub H' H'' → J i H'') →
    (∀ (i : Nat) x F H', i < n → CellsOnly F → Sub F H' → E i x F → J i H' → CallY P y x.toArray H' fun v H'' => (v = .bool true ∧ J (i + 1) H'') ∨ (v = .bool false ∧ X H'')) →
    CallV P g #[y] H0 fun _ H' => J n H' ∨ X H'
structure CallI (P : Program) (r : Value) (name : String) (args : Array Value) (H : PHeap) (Q : Value → PHeap → Prop) : Prop where
  out : ∀ w, Sees H w → ∃ g xs, (invoke (.fn (.method name) #[]) (#[r] ++ args)).run P w = .ok (.enter g xs) w ∧
    Calls P g xs w fun e w' => ∃ v H', e = .returned v ∧ Nx H H' w w' ∧ Q v H'

def goodF (P : Program) (f : FuncId) : Bool :=
  match P.funcs[f]? with
  | some fn => fn.body.isSome && !(fn.name == "runtime.NumGoroutine")
  | none => false

def zerosOf (P : Program) : List TypeId → Option (List Value)
  | [] => some []
  | t :: ts => match zeroOf P t, zerosOf P ts with
    | some z, some zs => some (z :: zs)
    | _, _ => none
/-- The value of a result of a type, and how a slot holds it. -/
def exR (P : Program) (t : TypeId) (K : Value → SV → Prop) : Prop :=
  match P.underlying t with
  | some (.tuple ts) => match zerosOf P ts.toList with
    | some zs => exVs zs fun l => K (.tuple l.toArray) (.v (.tuple l.toArray))
    | none => False
  | some _ => match zeroOf P t with
    | some z => exV z fun v => K v (svOf P t v)
    | none => False
  | none => False

def vLoad (P : Program) (H : PHeap) (st : St) (t : TypeId) (x : Operand) (K : SV → Prop) : Prop :=
  match st.ev x with
  | .v (.pointer oa) => match aggT P t, zeroOf P t, sizeT P t with
    | some true, some (.agg z), some n => if z.size = n then exLs z.toList fun l => Reads H oa l ∧ K (.v (.agg l.toArray)) else False
    | some false, some z, _ => exLeaf z fun v => Reads H oa [v] ∧ K (svOf P t v)
    | _, _, _ => False
  | _ => False
def vQuiet (P : Program) (H : PHeap) (bx : List Box) (st : St) (o : Oper) (K : SV → Prop) : Prop :=
  match pOp P bx st o with
  | some ⟨none, sv⟩ => K sv
  | some ⟨some p, sv⟩ => Ob p ∧ K sv
  | none => match o.op with
    | .load t x => vLoad P H st t x K
    | .lookup t m k ok => match st.val m, st.val k, P.underlying t with
      | some m, some k, some (.map _ e) => match zeroOf P e with
        | some z => LookV P (Instr.lookup t m k ok) H fun v => exV z fun x =>
            if ok then ∃ b : Bool, v = .tuple #[x, .bool b] ∧ K (.v (.tuple #[x, .bool b])) else v = x ∧ K (svOf P e x)
        | none => False
      | _, _, _ => False
    | .convert src dst x => match P.underlying src, st.val x with
      | some (.slice _), some x => LookV P (Go.convert src dst x) H fun v => ∃ s : ByteArray, v = .string s ∧ K (.v (.string s))
      | _, _ => False
    | _ => False
def okCell : Value → Bool
  | .agg _ => false
  | .tuple _ => false
  | _ => true
/-- Two addresses that are compared. -/
def ptrEq (st : St) (o : Oper) : Option (BinOp × TypeId × Option Addr × Option Addr) :=
  match o.op with
  | .binOp op t x y _ => match nilOperand x, nilOperand y, st.val x, st.val y with
    | false, false, some (.pointer a), some (.pointer b) => some (op, t, a, b)
    | _, _, _, _ => none
  | _ => none
/-- In the order of the text addresses may be compared. -/
def vQuietT (P : Program) (H : PHeap) (bx : List Box) (st : St) (o : Oper) (K : SV → Prop) : Prop :=
  match ptrEq st o with
  | some (op, t, a, b) => LookV P (Go.binOp op t (.pointer a) (.pointer b)) H fun v => ∃ r : Bool, v = .bool r ∧ K (.v (.bool r))
  | none => vQuiet P H bx st o K
/-- The cells of a value that is put into memory. -/
def okThen (sv : SV) (v : Value) (K : List Value → Prop) : Prop :=
  match sv with
  | .fv u => Ob (okCell u = true) ∧ K [u]
  | _ => if (cellsL v).all okCell = true then K (cellsL v) else False
def setNth (l : List Box) (b : Nat) (c : Box) : List Box := l.set b c
def escapes (cx : Cx) (dst : Option Tmp) : Bool := match dst with | some d => cx.esc.contains d | none => true
def vNew (cx : Cx) (dst : Option Tmp) (st : St) (H : PHeap) (t : TypeId) (cells : List Value) (K : SV → St → PHeap → Prop) : Prop :=
  if escapes cx dst = true then
    ∀ b, H b = none → K (.v (.pointer (some ⟨b, 0, none⟩))) st (H.upd b (.cells cells.toArray t (0, 0)))
  else K (.loc st.bx.length 0) { st with bx := st.bx ++ [⟨cells, t, false⟩] } H
def evR (P : Program) (t : TypeId) (s : Sem Value) (st : St) (H : PHeap) (K : SV → St → PHeap → Prop) : Prop :=
  EvV P s H fun v H' => exR P t fun x sv => v = x ∧ K sv st H'
def vCall (P : Program) (lc : Bool) (st : St) (H : PHeap) (o : Oper) (c : Call) (K : SV → St → PHeap → Prop) : Prop :=
  match c.callee, st.vals c.args.toList with
  | .value f, some args => match st.ev f with
    | .v (.func (.func g) first captured) => if goodF P g then
        Triple P g (first.toList ++ args ++ captured.toList).toArray H fun v H' => exR P o.type fun x sv => v = x ∧ K sv st H'
      else ExtV P g (first.toList ++ args ++ captured.toList).toArray H fun v H' => exR P o.type fun x sv => v = x ∧ K sv st H'
    | .fv f => match lc with
      | true => CallY P f args.toArray H fun v H' => exR P o.type fun x sv => v = x ∧ K sv st H'
      | false => CallV P f args.toArray H fun v H' => exR P o.type fun x sv => v = x ∧ K sv st H'
    | _ => False
  | .invoke r name, some args => match st.val r with
    | some r => CallI P r name args.toArray H fun v H' => exR P o.type fun x sv => v = x ∧ K sv st H'
    | none => False
  | .builtin b, some args => match b with
    | .append => evR P o.type (Builtin.append_ c.argTypes o.type args.toArray) st H K
    | .copy => evR P o.type (Builtin.copy_ c.argTypes o.type args.toArray) st H K
    | .delete => EvV P (Builtin.delete_ c.argTypes o.type args.toArray) H fun v H' => K .unk st H'
    | .clear => EvV P (Builtin.clear_ c.argTypes o.type args.toArray) H fun v H' => K .unk st H'
    | .len => evR P o.type (Builtin.len_ c.argTypes o.type args.toArray) st H K
    | .max => evR P o.type (Builtin.max_ c.argTypes o.type args.toArray) st H K
    | .min => evR P o.type (Builtin.min_ c.argTypes o.type args.toArray) st H K
    | .unsafeSliceData => evR P o.type (Builtin.unsafeSliceData_ c.argTypes o.type args.toArray) st H K
    | .unsafeString => evR P o.type (Builtin.unsafeString_ c.argTypes o.type args.toArray) st H K
    | _ => False
  | _, none => False
/-- The types of what a slot's tuple holds, as the prover tells them. -/
def tysAt (cx : Cx) (dst : Option Tmp) : Option (List TypeId) := match dst with
  | some d => (cx.rfs.filter fun x => x.1 == d).head?.map (·.2)
  | none => none
def vEff (cx : Cx) (P : Program) (lc : Bool) (st : St) (H : PHeap) (o : Oper) (K : SV → St → PHeap → Prop) : Prop :=
  match o.op with
  | .store t a x => match st.ev a, st.val x, sizeT P t with
    | .loc b off, some v, some n => okThen (st.ev x) v fun l => match lc, st.bx.drop b with
      | true, c :: _ => if c.fz then False else
          if l.length = n ∧ off + n ≤ c.cells.length then K .unk { st with bx := setNth st.bx b { c with cells := over c.cells off l } } H else False
      | _, _ => False
    | .v (.pointer oa), some v, some n => okThen (st.ev x) v fun l => if l.length = n then ∃ H', Writes H H' oa l ∧ K .unk st H' else False
    | _, _, _ => False
  | .alloc t => match zeroOf P t with
    | some z => vNew cx o.dst st H t (cellsL z) K
    | none => False
  | .box t x => match st.val x with
    | some v => okThen (st.ev x) v fun l => vNew cx o.dst st H t l K
    | none => False
  | .buildSlice t len parts => match P.underlying t, partVals st parts.toList with
    | some (.slice e), some ps => match sizeT P e, zeroOf P e with
      | some n, some z => match decide (len * n ≤ 16777216), decide ((cellsL z).length = n), fillL (fun i => some (i * n, n)) (List.replicate len (cellsL z)).flatten ps with
        | true, true, some cells => ∀ b, H b = none → K (.v (.slice (some ⟨b, 0, none⟩) len len)) st (H.upd b (.cells cells.toArray e (0, 0)))
        | _, _, _ => False
      | _, _ => False
    | _, _ => False
  | .call c => vCall P lc st H o c K
  | .mapUpdate t m k x => match st.val m, st.val k, st.val x with
    | some m, some k, some x => EvU P (Instr.mapUpdate t m k x) H fun H' => K .unk st H'
    | _, _, _ => False
  | .insert t m k x => match st.val m, st.val k, st.val x with
    | some m, some k, some x => EvU P (Instr.mapUpdate t m k x) H fun H' => K .unk st H'
    | _, _, _ => False
  | .mapEntry t m k => match st.val m, st.val k, P.underlying t with
    | some m, some k, some (.map _ e) => match zeroOf P e with
      | some z => EvV P (Instr.mapEntry t m k) H fun v H' => exV z fun x => ∃ n : Int, v = .tuple #[x, .int .i64 n] ∧ K (.v (.tuple #[x, .int .i64 n])) st H'
      | none => False
    | _, _, _ => False
  | .entryStore t m s x => match st.val m, st.val s, st.val x with
    | some m, some s, some x => EvU P (Instr.entryStore t m s x) H fun H' => K .unk st H'
    | _, _, _ => False
  | .makeMap t r => match optVal st r with
    | some r => EvV P (Instr.makeMap t r) H fun v H' => ∃ m : Option Nat, v = .map m ∧ K (.v (.map m)) st H'
    | none => False
  | .makeSlice t l c => match st.val l, st.val c with
    | some l, some c => EvV P (Instr.makeSlice t l c) H fun v H' => ∃ (a : Option Addr) (n c : Nat), v = .slice a n c ∧ K (.v (.slice a n c)) st H'
    | _, _ => False
  | .range t x => match st.val x with
    | some x => EvV P (Instr.range t x) H fun v H' => ∃ a : Option Addr, v = .pointer a ∧ K (.v (.pointer a)) st H'
    | none => False
  | .next it s => match st.val it with
    | some it => EvV P (Instr.next it s o.type) H fun v H' => (v = .tuple #[.bool false] ∧ K (.v (.tuple #[.bool false])) st H') ∨
        match s with
        | true => ∃ i c : Int, v = .tuple #[.bool true, .int .i64 i, .int .i32 c] ∧ K (.v (.tuple #[.bool true, .int .i64 i, .int .i32 c])) st H'
        | false => ∃ k x : Value, v = .tuple #[.bool true, k, x] ∧ K (.v (.tuple #[.bool true, k, x])) st H'
    | none => False
  | .entry it => match st.val it, tysAt cx o.dst with
    | some it, some ts => match zerosOf P ts with
      | some zs => EvV P (Instr.entry it) H fun v H' => exVs zs fun l => v = .tuple l.toArray ∧ K (.v (.tuple l.toArray)) st H'
      | none => False
    | _, _ => False
  | .convert src dst x => match st.val x with
    | some x => evR P dst (Go.convert src dst x) st H K
    | none => False
  | .typeAssert x xt at_ ok => match st.val x with
    | some x => evR P o.type (Instr.typeAssert x xt at_ ok) st H K
    | none => False
  | _ => False
/-- The mode: the order of the text, or an order that is drawn (then loads look at a part of the heap that nothing turns). -/
structure Dm where
  hs : PHeap
  bx : List Box
  on : Bool
def predsOf (o : Oper) : List Nat := (o.after.toList.filter fun e => Region.binds .any e).map (·.on)
/-- What an operation waits for, and what that waits for. -/
def ancs (ops : Array Oper) : Nat → List Nat → List Nat → List Nat
  | 0, _, vis => vis
  | _ + 1, [], vis => vis
  | f + 1, j :: st, vis => if vis.contains j = true then ancs ops f st vis else
      ancs ops f ((match ops[j]? with | some o => predsOf o | none => []) ++ st) (j :: vis)
def isLoad (P : Program) (o : Oper) : Bool :=
  match o.op with
  | .load _ _ => true
  | .lookup _ _ _ _ => true
  | .convert src _ _ => match P.underlying src with
    | some (.slice _) => true
    | _ => false
  | _ => false
/-- A load of a variable that is told to lie beside the heap (the number of its slot, and 1000000, stands in 'esc'). -/
def lclLoad (cx : Cx) (o : Oper) : Bool :=
  match o.op with
  | .load _ (.tmp t) => cx.esc.contains (t + 1000000)
  | _ => false
def isHL (cx : Cx) (P : Program) (o : Oper) : Bool := isLoad P o && !lclLoad cx o
def loadsOf (cx : Cx) (P : Program) (ops : Array Oper) : List Nat := (List.range ops.size).filter fun i => match ops[i]? with | some o => isHL cx P o | none => false
/-- Is there a load for which an operation does not wait? -/
def keepB (cx : Cx) (P : Program) (ops : Array Oper) (j : Nat) : Bool :=
  match ops[j]? with
  | some o => (loadsOf cx P ops).any fun q => !(ancs ops 1000 (predsOf o) []).contains q
  | none => false
/-- Behind these operations no load looks at what they turn. -/
def dropB (cx : Cx) (P : Program) (ops : Array Oper) (l : List Nat) : Bool := l.all fun j => match ops[j]? with
  | some o => quietOp P o || !keepB cx P ops j
  | none => true
def vStep (cx : Cx) (P : Program) (dm : Option Dm) (drop : Bool) (st : St) (H : PHeap) (o : Oper) (K : Option Dm → SV → St → PHeap → Prop) : Prop :=
  match dm with
  | none => if quietOp P o then vQuietT P H st.bx st o (fun sv => K none sv st H) else vEff cx P true st H o (K none)
  | some d => if quietOp P o then (match lclLoad cx o with
      | true => vQuiet P (fun _ => none) d.bx st o (fun sv => K (some d) sv st H)
      | false => vQuiet P d.hs d.bx st o (fun sv => K (some d) sv st H)) else
    match d.on with
    | true => match drop with
      | true => vEff cx P false st H o (K (some ⟨fun _ => none, d.bx, false⟩))
      | false => vEff cx P false st H o (fun sv st' H' => Sub d.hs H' ∧ K (some d) sv st' H')
    | false => vEff cx P false st H o (K (some d))

def dstOf (ops : Array Oper) (j : Nat) : Option Tmp :=
  match ops[j]? with
  | some o => o.dst
  | none => none
def writtenAt (ops : Array Oper) : List Nat → List Tmp
  | [] => []
  | i :: is => match dstOf ops i with
    | some d => d :: writtenAt ops is
    | none => writtenAt ops is
def pure1 (P : Program) (bx : List Box) (st : St) (o : Oper) : Option SV :=
  if quietOp P o then match pOp P bx st o with
    | some ⟨none, sv⟩ => some sv
    | _ => none
  else none
/-- The slot that decides whether an operation is wanted. -/
def guardSlot (ops : Array Oper) (o : Oper) : Option (Option Tmp × Bool) :=
  match o.guard with
  | none => some (none, true)
  | some (j, want) => match dstOf ops j with
    | some t => some (some t, want)
    | none => none
/-- The operations of a list, if none is a step of memory: ways meet again. -/
def pOps (P : Program) (bx : List Box) (ops : Array Oper) : List Nat → St → Option St
  | [], st => some st
  | i :: is, st => match ops[i]? with
    | none => none
    | some o => match guardSlot ops o with
      | none => none
      | some (none, _) => match pure1 P bx st o with
        | some sv => pOps P bx ops is (st.put o.dst sv)
        | none => none
      | some (some t, want) => match st.get t with
        | .kb b => match b == want with
          | true => match pure1 P bx st o with
            | some sv => pOps P bx ops is (st.put o.dst sv)
            | none => none
          | false => pOps P bx ops is (st.put o.dst (.v undef))
        | .v (.bool b) => match pure1 P bx (st.kbAt (.tmp t) want) o with
          | some sv => match pOps P bx ops is ((st.kbAt (.tmp t) want).put o.dst sv), pOps P bx ops is ((st.kbAt (.tmp t) (!want)).put o.dst (.v undef)) with
            | some s1, some s2 => some { st with tm := match want with
                | true => mergeTm b (writtenAt ops (i :: is)) 0 st.tm s1.tm s2.tm
                | false => mergeTm b (writtenAt ops (i :: is)) 0 st.tm s2.tm s1.tm }
            | _, _ => none
          | none => none
        | .v (.tuple _) => pOps P bx ops is (st.put o.dst (.v undef))
        | _ => none
def dmBx (dm : Option Dm) (st : St) : List Box :=
  match dm with
  | none => st.bx
  | some d => d.bx
def vOps (cx : Cx) (P : Program) (ops : Array Oper) : Option Dm → List Nat → St → PHeap → (St → PHeap → Prop) → Prop
  | _, [], st, H, K => K st H
  | dm, i :: is, st, H, K => match ops[i]? with
    | none => False
    | some o => match guardSlot ops o with
      | none => False
      | some (none, _) => vStep cx P dm (dropB cx P ops (i :: is)) st H o fun dm sv st H => vOps cx P ops dm is (st.put o.dst sv) H K
      | some (some t, want) => match st.get t with
        | .kb b => match b == want with
          | true => vStep cx P dm (dropB cx P ops (i :: is)) st H o fun dm sv st H => vOps cx P ops dm is (st.put o.dst sv) H K
          | false => vOps cx P ops dm is (st.put o.dst (.v undef)) H K
        | .v (.bool b) => match pOps P (dmBx dm st) ops (i :: is) st with
          | some st' => K st' H
          | none => (b = want → vStep cx P dm (dropB cx P ops (i :: is)) (st.kbAt (.tmp t) want) H o fun dm sv st H => vOps cx P ops dm is (st.put o.dst sv) H K) ∧
              (b = (!want) → vOps cx P ops dm is ((st.kbAt (.tmp t) (!want)).put o.dst (.v undef)) H K)
        | .v (.tuple _) => vOps cx P ops dm is (st.put o.dst (.v undef)) H K
        | _ => False

def firstQuiet (P : Program) (ops : Array Oper) : List Nat → Option Nat
  | [] => none
  | i :: is => match ops[i]? with
    | some o => if quietOp P o then some i else firstQuiet P ops is
    | none => none
def canon (P : Program) (ops : Array Oper) : Nat → Array Bool → List Nat
  | 0, _ => []
  | f + 1, listed => match firstQuiet P ops (Region.ready .any ops listed) with
    | some i => i :: canon P ops f (listed.setIfInBounds i true)
    | none => match Region.ready .any ops listed with
      | i :: _ => i :: canon P ops f (listed.setIfInBounds i true)
      | [] => []
def drawOk (P : Program) (ops : Array Oper) : Nat → Array Bool → List Nat → Bool
  | 0, listed, [] => (Region.ready .any ops listed).isEmpty
  | f + 1, listed, i :: is => (match ops[i]? with
      | some o => if quietOp P o then Region.free .any ops listed i && (Region.ready .any ops listed).contains i else Region.ready .any ops listed == [i]
      | none => false) && drawOk P ops f (listed.setIfInBounds i true) is
  | _, _, _ => false

/-! ### Orders that are drawn, with new blocks among what may come up -/
/-- Operations that do nothing but make a block. -/
def isFl0 (cx : Cx) (o : Oper) : Bool :=
  match o.op with
  | .alloc _ => escapes cx o.dst
  | .box _ _ => escapes cx o.dst
  | .buildSlice _ _ _ => true
  | _ => false
def isFloat (cx : Cx) (P : Program) (ops : Array Oper) (f : Nat) : Bool :=
  match ops[f]? with
  | some o => isFl0 cx o && !quietOp P o && o.guard.isNone && (match o.dst with | some d => !(o.looksAt ops).contains d | none => false) && ((List.range ops.size).all fun j => j == f || dstOf ops j != o.dst) && (predsOf o).all fun p => match ops[p]? with
    | some q => !isFl0 cx q
    | none => false
  | none => false
/-- Nothing that an operation waits for is still to come. -/
def readyF (ops : Array Oper) (l : List Nat) (f : Nat) : Bool :=
  match ops[f]? with
  | some o => (predsOf o).all fun p => decide (p < ops.size) && !l.contains p
  | none => false
def floatsOf (cx : Cx) (P : Program) (ops : Array Oper) (l : List Nat) : List Nat := l.filter fun f => isFloat cx P ops f && readyF ops l f
def rdy (ops : Array Oper) (u : List Nat) : List Nat := u.filter fun j => readyF ops u j
/-- What the new block holds. -/
def fcells (P : Program) (st : St) (o : Oper) : Option (List Value × TypeId) :=
  match o.op with
  | .alloc t => match zeroOf P t with
    | some z => some (cellsL z, t)
    | none => none
  | .box t x => match st.val x with
    | some v => some (cellsL v, t)
    | none => none
  | .buildSlice t len parts => match P.underlying t, partVals st parts.toList with
    | some (.slice e), some ps => match sizeT P e, zeroOf P e with
      | some n, some z => match decide (len * n ≤ 16777216), decide ((cellsL z).length = n), fillL (fun i => some (i * n, n)) (List.replicate len (cellsL z)).flatten ps with
        | true, true, some cells => some (cells, e)
        | _, _, _ => none
      | _, _ => none
    | _, _ => none
  | _ => none
def flOk (cx : Cx) (P : Program) (ops : Array Oper) (l : List Nat) (st : St) : Bool := (floatsOf cx P ops l).all fun f => match ops[f]? with
  | some o => (fcells P st o).isSome
  | none => false
def freeL (ops : Array Oper) (l : List Nat) (i : Nat) (o : Oper) : Bool := l.all fun j => j == i || match ops[j]? with
  | none => true
  | some oj => (predsOf oj).contains i || o.apart ops oj
def fdrawOk (cx : Cx) (P : Program) (ops : Array Oper) : List Nat → Bool
  | [] => true
  | i :: is => (match ops[i]? with
      | some o => !is.contains i && readyF ops (i :: is) i && ((floatsOf cx P ops (i :: is)).all fun f => match ops[f]? with | some q => (i :: floatsOf cx P ops (i :: is)).all fun g => g == f || (match ops[g]? with | some p => p.apart ops q | none => false) | none => false) &&
          if quietOp P o then freeL ops is i o else rdy ops ((i :: is).filter fun j => !(floatsOf cx P ops (i :: is)).contains j || j == i) == [i]
      | none => false) && fdrawOk cx P ops is
def fcanon (cx : Cx) (P : Program) (ops : Array Oper) : Nat → List Nat → List Nat
  | 0, _ => []
  | f + 1, u => match (rdy ops u).find? fun i => match ops[i]? with | some o => quietOp P o | none => false with
    | some i => i :: fcanon cx P ops f (u.filter fun j => j != i)
    | none => match (rdy ops u).find? fun i => !isFloat cx P ops i with
      | some i => i :: fcanon cx P ops f (u.filter fun j => j != i)
      | none => match (rdy ops u).find? fun i => rdy ops (u.filter fun j => !(rdy ops u).contains j || j == i) == [i] with
        | some i => i :: fcanon cx P ops f (u.filter fun j => j != i)
        | none => []
def flDsts (cx : Cx) (P : Program) (ops : Array Oper) : List Tmp := (List.range ops.size).filterMap fun f => if isFloat cx P ops f then dstOf ops f else none
def fOps (cx : Cx) (P : Program) (ops : Array Oper) : Dm → List Nat → St → PHeap → (St → PHeap → Prop) → Prop
  | _, [], st, H, K => K st H
  | d, i :: is, st, H, K => match flOk cx P ops (i :: is) st with
    | false => False
    | true => match ops[i]? with
      | none => False
      | some o => match guardSlot ops o with
        | none => False
        | some (none, _) => vStep cx P (some d) (dropB cx P ops (i :: is)) st H o fun dm sv st H => match dm with
          | some d => fOps cx P ops d is (st.put o.dst sv) H K
          | none => False
        | some (some t, want) => match st.get t with
          | .kb b => match b == want with
            | true => vStep cx P (some d) (dropB cx P ops (i :: is)) st H o fun dm sv st H => match dm with
              | some d => fOps cx P ops d is (st.put o.dst sv) H K
              | none => False
            | false => fOps cx P ops d is (st.put o.dst (.v undef)) H K
          | .v (.bool b) => (b = want → vStep cx P (some d) (dropB cx P ops (i :: is)) (st.kbAt (.tmp t) want) H o fun dm sv st H => match dm with
              | some d => fOps cx P ops d is (st.put o.dst sv) H K
              | none => False) ∧
              (b = (!want) → fOps cx P ops d is ((st.kbAt (.tmp t) (!want)).put o.dst (.v undef)) H K)
          | .v (.tuple _) => fOps cx P ops d is (st.put o.dst (.v undef)) H K
          | _ => False

def writtenOps (ops : Array Oper) : List Tmp := ops.toList.filterMap (·.dst)
def writtenC : Code → List Tmp
  | .region _ ops _ => writtenOps ops
  | .seq a b => writtenC a ++ writtenC b
  | .cond _ a b => writtenC a ++ writtenC b
  | .block _ a => writtenC a
  | .loop a => writtenC a
  | .scope a => writtenC a
  | _ => []
/-- Code without a step of memory, that ends where it ends. -/
def pCode (P : Program) : Code → St → Option St
  | .skip, st => some st
  | .region _ ops false, st => pOps P st.bx ops (List.range ops.size) st
  | .seq a b, st => match pCode P a st with
    | some st => pCode P b st
    | none => none
  | .cond c a b, st => match st.ev c with
    | .kb true => pCode P a st
    | .kb false => pCode P b st
    | .v (.bool t) => match pCode P a (st.kbAt c true), pCode P b (st.kbAt c false) with
      | some s1, some s2 => some { st with tm := mergeTm t (writtenC a ++ writtenC b) 0 st.tm s1.tm s2.tm }
      | _, _ => none
    | _ => none
  | _, _ => none

def find? {α : Type} (k : Nat) : List (Nat × α) → Option α
  | [] => none
  | (j, x) :: l => if j == k then some x else find? k l
def keyOf : Code → Nat
  | .region id _ _ => id
  | .seq a _ => keyOf a
  | .block _ a => keyOf a
  | .loop a => keyOf a
  | .cond _ a _ => keyOf a
  | _ => 0
def slotVals (st : St) : List Tmp → Option (List Value)
  | [] => some []
  | t :: ts => match (st.get t).val?, slotVals st ts with
    | some v, some vs => some (v :: vs)
    | _, _ => none
def boxVals (st : St) : List Nat → Option (List Value)
  | [] => some []
  | b :: bs => match st.bx.drop b, boxVals st bs with
    | c :: _, some vs => if c.fz then none else some (.agg c.cells.toArray :: vs)
    | _, _ => none
def genVals (st : St) (ts : List Tmp) (bs : List Nat) : Option (List Value) :=
  match slotVals st ts, boxVals st bs with
  | some a, some b => some (a ++ b)
  | _, _ => none
def forget (W : List Tmp) : Nat → List SV → List SV
  | _, [] => []
  | i, x :: xs => (if W.contains i then .unk else x) :: forget W (i + 1) xs
def isFv : SV → Bool
  | .fv _ => true
  | _ => false
def setSlots (tm : List SV) (fvs : List Bool) : List Tmp → List Value → List SV × List Value
  | t :: ts, v :: vs => match fvs with
    | true :: fs => setSlots (tm.set t (.fv v)) fs ts vs
    | _ :: fs => setSlots (tm.set t (.v v)) fs ts vs
    | [] => setSlots (tm.set t (.v v)) [] ts vs
  | _, vs => (tm, vs)
/-- Boxes that are not in bs may not be written any more. -/
def freezeBut (bs : List Nat) : Nat → List Box → List Box
  | _, [] => []
  | i, c :: cs => (if bs.contains i then c else { c with fz := true }) :: freezeBut bs (i + 1) cs
/-- Boxes with new cells. -/
def putBoxes (l : List (Nat × List Value)) : Nat → List Box → List Box
  | _, [] => []
  | i, c :: cs => (match find? i l with
      | some cells => { c with cells := cells }
      | none => c) :: putBoxes l (i + 1) cs
def zipBoxes : List Nat → List Value → List (Nat × List Value)
  | b :: bs, v :: vs => (b, cellsL v) :: zipBoxes bs vs
  | _, _ => []
/-- The state at a place where ways meet: of the slots in W the values told, else nothing known. -/
def meetSt (st : St) (W : List Tmp) (fvs : List Bool) (ts : List Tmp) (bs : List Nat) (l : List Value) : St :=
  match setSlots (forget W 0 st.tm) fvs ts l with
  | (tm, rest) => { tm := tm, bx := putBoxes (zipBoxes bs rest) 0 st.bx }
def frozenSt (bs : List Nat) (st : St) : St := { st with bx := freezeBut bs 0 st.bx }
def locIdx (st : St) : List Tmp → Option (List Nat)
  | [] => some []
  | t :: ts => match st.get t, locIdx st ts with
    | .loc b 0, some bs => some (b :: bs)
    | _, _ => none
def unfreeze : List Box → List Box → List Box
  | c :: cs, d :: ds => { d with fz := c.fz } :: unfreeze cs ds
  | _, ds => ds
abbrev Rl := List Value → PHeap → Prop
abbrev Mu := List Value → PHeap → Nat
structure Less (a b : Nat) : Prop where
  out : a < b
/-- What is carried: of each way that comes, the values and the heap. -/
def carried (zs : List Value) (st : St) (ts : List Tmp) (bs : List Nat) (n : Nat) (R : List Value → Prop) : Prop :=
  match genVals st ts bs with
  | some l => if fitVs zs l = true ∧ n ≤ st.bx.length then R l else False
  | none => False
abbrev at0 (b : Nat) : Option Addr := some ⟨b, 0, none⟩
structure FitAll (zs : List Value) (E : Nat → List Value → PHeap → Prop) : Prop where
  out : ∀ i x F, E i x F → fitVs zs x = true
structure Grows (J : Nat → PHeap → Prop) : Prop where
  out : ∀ i H H', J i H → Sub H H' → J i H'
def noDefer (ops : Array Oper) : Bool := ops.toList.all fun o => match o.op with
  | .defer _ => false
  | _ => true
/-- Code without a loop over a function; regions that draw their order defer nothing. -/
def plainC : Code → Bool
  | .region _ ops d => !d || noDefer ops
  | .seq a b => plainC a && plainC b
  | .cond _ a b => plainC a && plainC b
  | .block _ a => plainC a
  | .loop a => plainC a
  | .rangeFunc _ _ _ _ => false
  | .scope _ => false
  | _ => true
def exitsC : Code → List Nat
  | .seq a b => exitsC a ++ exitsC b
  | .cond _ a b => exitsC a ++ exitsC b
  | .block _ a => exitsC a
  | .loop a => exitsC a
  | .exit id => [id]
  | _ => []
def retsC : Code → Bool
  | .seq a b => retsC a || retsC b
  | .cond _ a b => retsC a || retsC b
  | .block _ a => retsC a
  | .loop a => retsC a
  | .ret => true
  | _ => false
def eachOf (K : Nat → Prop) : List Nat → Prop
  | [] => True
  | [j] => K j
  | j :: js => K j ∧ eachOf K js
/-- The slots of the loop's variables. -/
def bindPs (st : St) (tys : List Bool) : List Tmp → List Value → St
  | t :: ts, v :: vs => match tys with
    | true :: fs => bindPs { st with tm := st.tm.set t (.fv v) } fs ts vs
    | _ :: fs => bindPs { st with tm := st.tm.set t (.v v) } fs ts vs
    | [] => bindPs { st with tm := st.tm.set t (.v v) } [] ts vs
  | _, _ => st
def vCode (cx : Cx) (P : Program) : Code → St → PHeap → (St → PHeap → Prop) → (Nat → St → PHeap → Prop) → (St → PHeap → Prop) → Prop
  | .skip, st, H, Kn, _, _ => Kn st H
  | .label _, st, H, Kn, _, _ => Kn st H
  | .region _ ops false, st, H, Kn, _, _ => vOps cx P ops none (List.range ops.size) st H Kn
  | .region _ ops true, st, H, Kn, _, _ =>
    match P.follows .mixedOrders && Region.noSelect ops && drawOk P ops ops.size (Array.replicate ops.size false) (canon P ops ops.size (Array.replicate ops.size false)) with
    | true => ∃ Hs, Sub Hs H ∧ vOps cx P ops (some ⟨Hs, st.bx, true⟩) (canon P ops ops.size (Array.replicate ops.size false)) st H Kn
    | false => match P.follows .mixedOrders && Region.noSelect ops && fdrawOk cx P ops (fcanon cx P ops ops.size (List.range ops.size)) && (List.range ops.size).all fun j => (fcanon cx P ops ops.size (List.range ops.size)).contains j with
      | true => ∃ Hs, Sub Hs H ∧ fOps cx P ops ⟨Hs, st.bx, true⟩ (fcanon cx P ops ops.size (List.range ops.size)) { st with tm := forget (flDsts cx P ops) 0 st.tm } H Kn
      | false => False
  | .seq a b, st, H, Kn, Kx, Kr => vCode cx P a st H (fun st H => vCode cx P b st H Kn Kx Kr) Kx Kr
  | .cond c a b, st, H, Kn, Kx, Kr => match st.ev c with
    | .kb true => vCode cx P a st H Kn Kx Kr
    | .kb false => vCode cx P b st H Kn Kx Kr
    | .v (.bool t) => match pCode P a (st.kbAt c true), pCode P b (st.kbAt c false) with
      | some s1, some s2 => Kn { st with tm := mergeTm t (writtenC a ++ writtenC b) 0 st.tm s1.tm s2.tm } H
      | _, _ => (t = true → vCode cx P a (st.kbAt c true) H Kn Kx Kr) ∧ (t = false → vCode cx P b (st.kbAt c false) H Kn Kx Kr)
    | _ => False
  | .block id body, st, H, Kn, Kx, Kr => match find? id cx.joins with
    | none => vCode cx P body st H Kn (fun j st' H' => if j = id then Kn st' H' else Kx j st' H') Kr
    | some (ts, bts) => match locIdx st bts with
     | none => False
     | some bs => match zerosOf P (ts.map (·.2)), boxVals st bs with
      | some zs, some zb => ∃ R : List Value → PHeap → Prop,
          (allVs (zs ++ zb) fun l => ∀ H', R l H' → Kn (meetSt st (writtenC body) (ts.map fun t => opaqueT P t.2) (ts.map (·.1)) bs l) H') ∧
          vCode cx P body (frozenSt bs st) H
            (fun st' H' => carried (zs ++ zb) st' (ts.map (·.1)) bs st.bx.length fun l => R l H')
            (fun j st' H' => if j = id then carried (zs ++ zb) st' (ts.map (·.1)) bs st.bx.length fun l => R l H' else Kx j { st' with bx := unfreeze st.bx st'.bx } H')
            (fun st' H' => Kr { st' with bx := unfreeze st.bx st'.bx } H')
      | _, _ => False
  | .loop body, st, H, _, Kx, Kr => match find? (keyOf body) cx.loops with
    | none => False
    | some (ts, bts) => match locIdx st bts with
     | none => False
     | some bs => match genVals st ts bs with
      | none => False
      | some zs => ∃ (R : List Value → PHeap → Prop) (μ : List Value → PHeap → Nat), R zs H ∧
          allVs zs fun l => ∀ H', R l H' →
            vCode cx P body (frozenSt bs (meetSt st (writtenC body) (ts.map fun t => isFv (st.get t)) ts bs l)) H'
              (fun st' H'' => carried zs st' ts bs st.bx.length fun l' => R l' H'' ∧ Less (μ l' H'') (μ l H'))
              (fun j st' H'' => Kx j { st' with bx := unfreeze st.bx st'.bx } H'')
              (fun st' H'' => Kr { st' with bx := unfreeze st.bx st'.bx } H'')
  | .rangeFunc g ps assign body, st, H, Kn, Kx, Kr => match st.val g, find? (ps.toList.headD 0) cx.rfs with
    | some gv, some tys => match zerosOf P tys, st.bx with
      | some zs, [] => match plainC assign && plainC body && ps.size == tys.length with
        | true => ∃ (n : Nat) (E : Nat → List Value → PHeap → Prop) (J X : Nat → PHeap → Prop) (Hr : PHeap), Sub Hr H ∧ IterOk P gv Hr n E ∧ FitAll zs E ∧ (∀ i H', J i H' → Sub Hr H') ∧ Grows J ∧ J 0 H ∧
            (allVs zs fun l => ∀ (i : Nat) F H', E i l F → Sub F H' → J i H' →
              vCode cx P assign (bindPs st (tys.map (opaqueT P)) ps.toList l) H' (fun st1 H1 =>
                vCode cx P body st1 H1 (fun _ H'' => J (i + 1) H'') (fun j _ H'' => if (exitsC body).contains j = true then X (j + 1) H'' else False) (fun _ H'' => if retsC body = true then X 0 H'' else False))
                (fun _ _ _ => False) (fun _ _ => False)) ∧
            (∀ H', J n H' → Kn st H') ∧ eachOf (fun j => ∀ H', X (j + 1) H' → Kx j st H') (exitsC body) ∧ (if retsC body = true then ∀ H', X 0 H' → Kr st H' else True)
        | false => False
      | _, _ => False
    | _, _ => False
  | .exit id, st, H, _, Kx, _ => Kx id st H
  | .ret, st, H, _, _, Kr => Kr st H
  | .scope body, st, H, Kn, Kx, Kr => vCode cx P body st H Kn Kx Kr
  | _, _, _, _, _, _ => False

def resK (P : Program) (st : St) (H : PHeap) : List ResultVar → (List Value → Prop) → Prop
  | [], K => K []
  | .tmp t :: rs, K => match (st.get t).val? with
    | some v => resK P st H rs fun vs => K (v :: vs)
    | none => False
  | .cell a t :: rs, K => match st.get a with
    | .loc b off => match st.bx.drop b with
      | c :: _ => match partOf P t c.cells off with
        | some v => resK P st H rs fun vs => K (v :: vs)
        | none => False
      | [] => False
    | .v (.pointer _) => vLoad P H st t (.tmp a) fun sv => match sv.val? with
      | some v => resK P st H rs fun vs => K (v :: vs)
      | none => False
    | _ => False
def retVal : List Value → Value
  | [v] => v
  | l => .tuple l.toArray
def vRet (P : Program) (fn : Func) (Q : Value → PHeap → Prop) (st : St) (H : PHeap) : Prop :=
  resK P st H fn.results.toList fun l => Q (retVal l) H
def entrySVs (P : Program) : List TypeId → List Value → List SV
  | t :: ts, v :: vs => (if opaqueT P t then .fv v else .v v) :: entrySVs P ts vs
  | _, vs => vs.map .v
def vFunc (cx : Cx) (P : Program) (f : FuncId) (args : List Value) (H : PHeap) (Q : Value → PHeap → Prop) : Prop :=
  match P.funcs[f]? with
  | some fn => match fn.body with
    | some c => vCode cx P c { tm := entrySVs P fn.params.toList args ++ List.replicate (fn.ntmps - args.length) .unk, bx := [] } H (vRet P fn Q) (fun _ _ _ => False) (vRet P fn Q)
    | none => False
  | none => False
end Go.Vx

/- The executor's operations without a step of memory: each yields, in the model, what the executor tells. -/
namespace Go.Vx

structure TmOk (β : Nat → Option Nat) (st : St) (a : Act) : Prop where
  size : a.tmps.size = st.tm.length
  at_ : ∀ (t : Nat) (sv : SV), st.tm[t]? = some sv → sv.conc β (a.tmps.getD t undef)
def BxOk (β : Nat → Option Nat) (bx : List Box) (w : World) : Prop := ∀ (i : Nat) (c : Box), bx[i]? = some c → ∃ g, β i = some g ∧ w.heap[g]? = some (.cells c.cells.toArray c.ty (0, 0))

section
variable {P : Program} {β : Nat → Option Nat} {st : St} {a : Act} {w : World}

theorem sameK_eq {k k' : IntKind} (h : sameK k k' = true) : k = k' := by cases k <;> cases k' <;> simp_all [sameK]

theorem TmOk.get (h : TmOk β st a) (t : Tmp) : (st.get t).conc β (a.tmps.getD t undef) := by
  unfold St.get
  rw [List.getD_eq_getElem?_getD]
  cases e : st.tm[t]? with
  | none => trivial
  | some sv => exact h.at_ t sv e
theorem TmOk.ev (h : TmOk β st a) (x : Operand) : (st.ev x).conc β (a.eval x) := by
  cases x with
  | tmp t => exact h.get t
  | const v => cases v <;> rfl
  | global g => rfl
  | func f => rfl
theorem val_conc {sv : SV} {x y : Value} (h : sv.val? = some x) (hc : sv.conc β y) : y = x := by
  cases sv <;> simp_all [SV.val?, SV.conc]
theorem TmOk.val (h : TmOk β st a) {x : Operand} {v : Value} (hv : st.val x = some v) : a.eval x = v := val_conc hv (h.ev x)
theorem TmOk.v (h : TmOk β st a) {x : Operand} {v : Value} (hv : st.ev x = .v v) : a.eval x = v := by
  have := h.ev x; rw [hv] at this; exact this
theorem TmOk.vals (h : TmOk β st a) : ∀ {xs : List Operand} {vs : List Value}, st.vals xs = some vs → xs.map a.eval = vs
  | [], vs, e => by simp [St.vals] at e; simp [← e]
  | x :: xs, vs, e => by
    simp only [St.vals] at e
    split at e
    · rename_i v hv
      split at e
      · rename_i vs' hvs
        obtain rfl := Option.some.inj e
        simp [h.val hv, h.vals hvs]
      · cases e
    · cases e
theorem TmOk.partVals (h : TmOk β st a) : ∀ {ps : List (Nat × Operand)} {l : List (Nat × Value)}, partVals st ps = some l → ps.map (fun p => (p.1, a.eval p.2)) = l
  | [], l, e => by simp [Vx.partVals] at e; simp [← e]
  | (i, x) :: r, l, e => by
    simp only [Vx.partVals] at e
    split at e
    · rename_i v l' hv hl
      obtain rfl := Option.some.inj e
      simp [h.val hv, h.partVals hl]
    · cases e
theorem TmOk.optVal (h : TmOk β st a) {x : Option Operand} {v : Option Value} (hv : optVal st x = some v) : x.map a.eval = v := by
  cases x with
  | none => simp [Vx.optVal] at hv; simp [← hv]
  | some x =>
    simp only [Vx.optVal] at hv
    split at hv
    · rename_i u hu
      obtain rfl := Option.some.inj hv
      simp [h.val hu]
    · cases hv
theorem TmOk.put (h : TmOk β st a) (dst : Option Tmp) {sv : SV} {y : Value} (hc : sv.conc β y) : TmOk β (st.put dst sv) (a.put dst y) := by
  cases dst with
  | none => exact h
  | some d =>
    refine ⟨by simp [St.put, Act.put, h.size], fun t sv' ht => ?_⟩
    simp only [St.put, List.getElem?_set] at ht
    simp only [Act.put]
    by_cases e : d = t
    · subst e
      rw [if_pos rfl] at ht
      split at ht
      · rename_i hlt
        obtain rfl := Option.some.inj ht
        have : d < a.tmps.size := by rw [h.size]; exact hlt
        rw [Array.getD_eq_getD_getElem?, Array.getElem?_setIfInBounds_self_of_lt this]
        exact hc
      · cases ht
    · rw [if_neg e] at ht
      rw [Array.getD_eq_getD_getElem?, Array.getElem?_setIfInBounds_ne (by omega), ← Array.getD_eq_getD_getElem?]
      exact h.at_ t sv' ht
theorem TmOk.setTm (h : TmOk β st a) (t : Tmp) {sv : SV} (hc : sv.conc β (a.tmps.getD t undef)) : TmOk β { st with tm := st.tm.set t sv } a := by
  refine ⟨by simp [h.size], fun u sv' hu => ?_⟩
  simp only [List.getElem?_set] at hu
  split at hu
  · rename_i e
    subst e
    split at hu
    · obtain rfl := Option.some.inj hu; exact hc
    · cases hu
  · exact h.at_ u sv' hu
theorem TmOk.kbAt (h : TmOk β st a) {x : Operand} {b : Bool} (hx : a.eval x = .bool b) : TmOk β (st.kbAt x b) a := by
  cases x with
  | tmp t => exact h.setTm t hx
  | _ => exact h
theorem kbAt_bx (x : Operand) (b : Bool) : (st.kbAt x b).bx = st.bx := by cases x <;> rfl
theorem put_bx (d : Option Tmp) (sv : SV) : (st.put d sv).bx = st.bx := by cases d <;> rfl
theorem TmOk.bx (h : TmOk β st a) (bx : List Box) : TmOk β { st with bx := bx } a := ⟨h.size, h.at_⟩

/-! ### The model's words -/
theorem run_und {t : TypeId} {d : TypeDesc} (h : P.underlying t = some d) : (underlying t).run P w = .ok d w := run_underlying h w
theorem run_size {t : TypeId} {n : Nat} (h : sizeT P t = some n) : (sizeOf t).run P w = .ok n w := by
  unfold sizeT at h
  split at h
  · rename_i i hi
    obtain rfl := Option.some.inj h
    simp [sizeOf, typeInfo, hi]
  · cases h
theorem run_agg {t : TypeId} {b : Bool} (h : aggT P t = some b) : (isAgg t).run P w = .ok b w := by
  unfold aggT at h
  split at h
  all_goals (try cases h)
  · rename_i hu; simp [isAgg, run_und hu]
  · rename_i hu; simp [isAgg, run_und hu]
  · rename_i d h1 h2 hu
    simp only [isAgg, Sem.run_bind, run_und hu, Result.andThen_ok]
    cases d <;> simp_all
theorem run_zero {t : TypeId} {z : Value} (h : zeroOf P t = some z) : (zeroValue t).run P w = .ok z w := by
  unfold zeroOf at h
  split at h
  · rename_i i hi
    simp [zeroValue, typeInfo, hi, h]
  · cases h
theorem toArray_extract (cs : Array Value) (o n : Nat) : ((cs.toList.drop o).take n).toArray = cs.extract o (o + n) := by
  apply Array.ext'
  rw [Array.toList_extract]
  simp [List.extract_eq_take_drop]
theorem run_partOf {t : TypeId} {cs : Array Value} {o : Nat} {v : Value} (h : partOf P t cs.toList o = some v) : (part t cs o).run P w = .ok v w := by
  unfold partOf at h
  split at h
  · rename_i n ha hs
    split at h
    · rename_i hle
      obtain rfl := Option.some.inj h
      simp [part, run_agg ha, run_size hs, toArray_extract]
    · cases h
  · rename_i x ha
    split at h
    · rename_i u us hd
      obtain rfl := Option.some.inj h
      have : cs[o]? = some u := by
        have := congrArg (fun l => l[0]?) hd
        simpa [List.getElem?_drop] using this
      simp [part, run_agg ha, this]
    · cases h
  · cases h
theorem cells_toList (v : Value) : v.cells.toList = cellsL v := by cases v <;> rfl
theorem cells_size (v : Value) : v.cells.size = (cellsL v).length := by rw [← cells_toList]; simp
end
end Go.Vx

/- The executor's operations without a step of memory: each yields, in the model, what the executor tells (second part). -/
namespace Go.Vx
section
variable {P : Program} {β : Nat → Option Nat} {st : St} {a : Act} {w : World} {bx : List Box}

theorem add_none (g o n : Nat) : (⟨g, o, none⟩ : Addr).add n = ⟨g, o + n, none⟩ := by unfold Addr.add; split <;> simp_all
theorem drop_cons {α : Type} {l : List α} {n : Nat} {x : α} {r : List α} (h : l.drop n = x :: r) : l[n]? = some x := by
  have := congrArg (fun l => l[0]?) h
  simpa [List.getElem?_drop] using this
theorem svOf_conc (t : TypeId) (v : Value) : (svOf P t v).conc β v := by unfold svOf; split <;> rfl
theorem run_loadVar_cells {t ty : TypeId} {g off : Nat} {cs : List Value} {v : Value} {fz : Nat × Nat} (hg : w.heap[g]? = some (.cells cs.toArray ty fz)) (h : partOf P t cs off = some v) :
    (loadVar t ⟨g, off, none⟩).run P w = .ok v w := by
  have hcell : ∀ j u, cs[j]? = some u → w.cell? ⟨g, j, none⟩ = some u := fun j u hj => by simp [World.cell?, hg, hj]
  unfold partOf at h
  split at h
  · rename_i n ha hs
    split at h
    · rename_i hle
      obtain rfl := Option.some.inj h
      have hl : ((cs.drop off).take n).length = n := by simp; omega
      have := run_loadCells_list (P := P) w ⟨g, off, none⟩ ((cs.drop off).take n) (fun j u hj => by
        rw [add_none]
        refine hcell _ _ ?_
        rw [List.getElem?_take] at hj
        split at hj
        · simpa [List.getElem?_drop] using hj
        · cases hj)
      rw [hl] at this
      simp [loadVar, run_agg ha, run_size hs, this]
    · cases h
  · rename_i x ha
    split at h
    · rename_i u us hd
      obtain rfl := Option.some.inj h
      have hc := hcell off u (drop_cons hd)
      simp [loadVar, run_agg ha, hc]
    · cases h
  · cases h
theorem run_zip (a b : Nat) : a + b = b + a := Nat.add_comm a b

/-! ### == -/
theorem run_eqLeaf {t : TypeId} {x y : Value} {r : Bool} (d : Nat) (h : eqLeaf P t x y = some r) : (Op.equalIn (d + 1) t x y).run P w = .ok r w := by
  unfold eqLeaf at h
  split at h
  · split at h
    · rename_i hu
      split at h
      · rename_i hk
        obtain rfl := sameK_eq hk
        obtain rfl := Option.some.inj h
        exact run_equalIn_int w d t _ _ _ _ hu
      · cases h
    · cases h
  · split at h
    · rename_i hu
      obtain rfl := Option.some.inj h
      exact run_equalIn_bool w d t _ _ hu
    · cases h
  · split at h
    · rename_i hu
      obtain rfl := Option.some.inj h
      exact run_equalIn_string w d t _ _ hu
    · cases h
  · cases h
theorem run_eqFs {d : Nat} {eqd : TypeId → Value → Value → Option Bool} {xs ys : Array Value} (hd : ∀ t x y r, eqd t x y = some r → (Op.equalIn d t x y).run P w = .ok r w) :
    ∀ {fs : List Field} {r : Bool}, eqFs P eqd xs ys fs = some r → (Op.eqFields d xs ys fs).run P w = .ok r w
  | [], r, h => by
    obtain rfl := Option.some.inj h
    simp [Op.eqFields]
  | f :: fs, r, h => by
    rw [eqFs] at h
    by_cases hn : f.name ≠ "_"
    · rw [if_pos hn] at h
      split at h
      · rename_i x y hx hy
        have hx' := run_partOf (w := w) hx
        have hy' := run_partOf (w := w) hy
        split at h
        · rename_i s hs
          have hs' := hd _ _ _ _ hs
          rw [Op.eqFields, if_pos hn]
          simp only [Sem.run_bind, hx', hy', hs', Result.andThen_ok]
          split at h
          · obtain rfl := Option.some.inj h
            cases s <;> simp [Op.eqFields]
          · split at h
            · rename_i s' hs2
              obtain rfl := Option.some.inj h
              have ih := run_eqFs hd hs2
              cases s
              · simp
              · simpa using ih
            · cases h
        · cases h
      · cases h
    · rw [if_neg hn] at h
      rw [Op.eqFields, if_neg hn]
      exact run_eqFs hd h
theorem run_eqT : ∀ (d k : Nat) {t : TypeId} {x y : Value} {r : Bool}, eqT P d t x y = some r → (Op.equalIn (d + k) t x y).run P w = .ok r w
  | 0, _, _, _, _, _, h => by simp [eqT] at h
  | d + 1, k, t, x, y, r, h => by
    rw [show d + 1 + k = (d + k) + 1 by omega]
    simp only [eqT] at h
    split at h
    · rename_i xs ys
      split at h
      · rename_i fs hu
        split at h
        · cases h
        · rename_i hp
          have hf : P.fieldsOf t = fs := by simp [Program.fieldsOf, hu]
          rw [run_equalIn_struct (P := P) w (d + k) t xs ys (by rw [hf]; exact hu) (by simpa using hp), hf]
          exact run_eqFs (fun _ _ _ _ hh => run_eqT d k hh) h
      · cases h
    · exact run_eqLeaf (d + k) h
theorem run_eqNil {t : TypeId} {x : Value} {r : Bool} {z : Value} (hz : z = .pointer none ∨ (∃ n c, z = .slice none n c) ∨ z = .map none) (hk : match x with | .pointer _ => z = .pointer none | .slice _ _ _ => ∃ n c, z = .slice none n c | .map _ => z = .map none | _ => False)
    (ho : nilOk P t x = true) (h : isNil x = some r) (d : Nat) : (Op.equalIn (d + 1) t x z).run P w = .ok r w := by
  cases x <;> simp only [isNil] at h <;> try (cases h; done)
  case pointer p =>
    simp only at hk
    subst hk
    obtain rfl := Option.some.inj h
    simp only [nilOk] at ho
    split at ho
    · rename_i e hu
      cases p <;> simp [Op.equalIn, run_underlying hu]
    · cases ho
  case slice p n c =>
    simp only at hk
    obtain ⟨n', c', rfl⟩ := hk
    obtain rfl := Option.some.inj h
    simp only [nilOk] at ho
    split at ho
    · rename_i e hu
      cases p <;> simp [Op.equalIn, run_underlying hu]
    · cases ho
  case map p =>
    simp only at hk
    subst hk
    obtain rfl := Option.some.inj h
    simp only [nilOk] at ho
    split at ho
    · rename_i e hu
      cases p <;> simp [Op.equalIn, run_underlying hu]
    · cases ho
end
end Go.Vx

/- The executor's operations without a step of memory: each yields, in the model, what the executor tells (third part). -/
namespace Go.Vx
section
variable {P : Program} {β : Nat → Option Nat} {st : St} {a : Act} {w : World} {bx : List Box}

theorem run_binI {op : BinOp} {k : IntKind} {x y : Int} {t : TypeId} {r : PR} (h : binI op k x y = some r) (hp : ∀ p, r.ob = some p → p) (hs1 : op ≠ .shl) (hs2 : op ≠ .shr) :
    ∃ v, r.sv = .v v ∧ ∀ w : World, (binOp op t (.int k x) (.int k y)).run P w = .ok v w := by
  unfold binI at h
  cases op <;> simp only [pure?, Option.some.injEq] at h <;> (try cases h) <;> (try contradiction)
  all_goals refine ⟨_, rfl, fun w => ?_⟩
  all_goals first
    | (simp [binOp, Op.intArith]; done)
    | (simp [binOp, Op.intCmp]; done)
    | (simp [binOp, Op.intBits, bitsOp]; done)
    | (have hy := hp _ rfl; simp [binOp, Op.intDiv, hy]; done)
theorem run_binS {op : BinOp} {x y : ByteArray} {t : TypeId} {r : PR} (h : binS op x y = some r) (hp : ∀ p, r.ob = some p → p) :
    ∃ v, r.sv = .v v ∧ ∀ w : World, (binOp op t (.string x) (.string y)).run P w = .ok v w := by
  unfold binS at h
  cases op <;> simp only [pure?, Option.some.injEq] at h <;> (try cases h)
  all_goals refine ⟨_, rfl, fun w => ?_⟩
  all_goals first
    | (simp [binOp, Op.stringOp, eqS, lessS]; done)
    | (have hy := hp _ rfl
       have hy' : ¬ (9223372036854775807 < ((x.size : Int) + y.size)) := by simp only [Int.natCast_add] at hy; omega
       simp [binOp, Op.stringOp, IntKind.max, IntKind.signed, IntKind.bits, hy']; done)
theorem run_guardPlain {op : BinOp} {t : TypeId} {x y : Operand} {u v : Value} (h : (match u, v with | .nilIface, .nilIface => false | .agg _, .agg _ => false | _, _ => true) = true) : (eqGuard op t x y u v).run P w = .ok () w := by
  unfold eqGuard
  cases u <;> cases v <;> simp_all
theorem run_binV {op : BinOp} {t : TypeId} {x y : Value} {X Y : Operand} {r : PR} (h : binV P op t x y = some r) (hp : ∀ p, r.ob = some p → p) :
    ∃ v, r.sv = .v v ∧ ∀ w : World, (do eqGuard op t X Y x y; binOp op t x y : Sem Value).run P w = .ok v w := by
  unfold binV at h
  split at h
  · rename_i k n k' m
    have hg : ∀ w : World, (eqGuard op t X Y (.int k n) (.int k' m)).run P w = .ok () w := fun w => run_guardPlain rfl
    split at h
    · obtain rfl := Option.some.inj h
      have hm := hp _ rfl
      have hm' : ¬ m < 0 := by omega
      exact ⟨_, rfl, fun w => by simp [hg, binOp, Op.shift, hm', shlI]⟩
    · obtain rfl := Option.some.inj h
      have hm := hp _ rfl
      have hm' : ¬ m < 0 := by omega
      exact ⟨_, rfl, fun w => by simp [hg, binOp, Op.shift, hm', shrI]⟩
    · rename_i h1 h2
      split at h
      · rename_i hk
        obtain rfl := sameK_eq hk
        obtain ⟨v, hv, hr⟩ := run_binI (P := P) (t := t) h hp (by simpa using h1) (by simpa using h2)
        exact ⟨v, hv, fun w => by simp [hg, hr]⟩
      · cases h
  · obtain ⟨v, hv, hr⟩ := run_binS (P := P) (t := t) h hp
    exact ⟨v, hv, fun w => by simp [run_guardPlain, hr]⟩
  · rename_i b c
    have hg : ∀ w : World, (eqGuard op t X Y (.bool b) (.bool c)).run P w = .ok () w := fun w => run_guardPlain rfl
    split at h
    · rename_i hu
      split at h
      · obtain rfl := Option.some.inj h; exact ⟨_, rfl, fun w => by simp [hg, run_eql_bool w t _ _ hu]⟩
      · obtain rfl := Option.some.inj h; exact ⟨_, rfl, fun w => by simp [hg, run_neq_bool w t _ _ hu]⟩
      · cases h
    · cases h
  · rename_i xs ys
    split at h
    · cases h
    · rename_i hq
      have hg : ∀ w : World, (eqGuard op t X Y (.agg xs) (.agg ys)).run P w = .ok () w := fun w => run_eqGuard_agg w op t X Y xs ys (by simpa using hq)
      split at h
      · rename_i s hs
        have he : ∀ w : World, (Op.equalIn 10000 t (.agg xs) (.agg ys)).run P w = .ok s w := fun w => run_eqT 100 9900 hs
        split at h
        · obtain rfl := Option.some.inj h; exact ⟨_, rfl, fun w => by simp [hg, run_eql_struct, he]⟩
        · obtain rfl := Option.some.inj h; exact ⟨_, rfl, fun w => by simp [hg, run_neq_struct, he]⟩
        · cases h
      · cases h
  · cases h
theorem run_nilCmp {op : BinOp} {t : TypeId} {x : Value} {X y : Operand} {r : Bool} (hf : nilFits y x = true) (ho : nilOk P t x = true) (h : isNil x = some r) (w : World) :
    (op = .eql → (do eqGuard op t X y x (a.eval y); binOp op t x (a.eval y) : Sem Value).run P w = .ok (.bool r) w) ∧
    (op = .neq → (do eqGuard op t X y x (a.eval y); binOp op t x (a.eval y) : Sem Value).run P w = .ok (.bool (!r)) w) := by
  unfold nilFits at hf
  split at hf
  · rename_i p
    have he := run_eqNil (w := w) (P := P) (t := t) (z := .pointer none) (.inl rfl) (by rfl) ho h 9999
    refine ⟨fun e => ?_, fun e => ?_⟩ <;> subst e <;> simp [run_guardPlain, Act.eval, binOp, Op.equal, Op.maxDepth, he]
  · rename_i n c p n' c'
    have he := run_eqNil (w := w) (P := P) (t := t) (z := .slice none n c) (.inr (.inl ⟨_, _, rfl⟩)) (by exact ⟨_, _, rfl⟩) ho h 9999
    refine ⟨fun e => ?_, fun e => ?_⟩ <;> subst e <;> simp [run_guardPlain, Act.eval, binOp, Op.equal, Op.maxDepth, he]
  · rename_i p
    have he := run_eqNil (w := w) (P := P) (t := t) (z := .map none) (.inr (.inr rfl)) (by rfl) ho h 9999
    refine ⟨fun e => ?_, fun e => ?_⟩ <;> subst e <;> simp [run_guardPlain, Act.eval, binOp, Op.equal, Op.maxDepth, he]
  · cases hf
theorem run_binO {op : BinOp} {t : TypeId} {x y : Operand} {r : PR} (ht : TmOk β st a) (h : binO P st op t x y = some r) (hp : ∀ p, r.ob = some p → p) :
    ∃ v, r.sv = .v v ∧ ∀ w : World, (do eqGuard op t x y (a.eval x) (a.eval y); binOp op t (a.eval x) (a.eval y) : Sem Value).run P w = .ok v w := by
  unfold binO at h
  split at h
  · rename_i vx vy hn hx
    rw [ht.val hx]
    split at h
    · rename_i hf
      simp only [Bool.and_eq_true] at hf
      split at h
      · rename_i b hb
        split at h
        · obtain rfl := Option.some.inj h; exact ⟨_, rfl, fun w => (run_nilCmp hf.1 hf.2 hb w).1 rfl⟩
        · obtain rfl := Option.some.inj h; exact ⟨_, rfl, fun w => (run_nilCmp hf.1 hf.2 hb w).2 rfl⟩
        · cases h
      · cases h
    · cases h
  · rename_i vx vy hn hx hy
    rw [ht.val hx, ht.val hy]
    exact run_binV h hp
  · cases h
end
end Go.Vx

/- The executor's operations without a step of memory: all of them. -/
namespace Go.Vx
section
variable {P : Program} {β : Nat → Option Nat} {st : St} {a : Act} {w : World} {bx : List Box}

theorem getElem?_of_drop {α : Type} {xs : Array α} {i : Nat} {f : α} {fs : List α} (h : xs.toList.drop i = f :: fs) : xs[i]? = some f := by
  have := drop_cons h
  simpa using this
theorem asInt_slice (xs : Value) : True := trivial
theorem run_bound {x : Value} {n : Int} {y : Nat} {c : BoundsCode} {k : IntKind} (hx : x = .int k n) (h0 : 0 ≤ n) (h1 : n ≤ y) : (Instr.sliceBound x y c).run P w = .ok n.toNat w := by
  subst hx
  simp [Instr.sliceBound, asIntOf, h0, h1]
theorem run_bounds {lo hi : Option Value} {l h : Int} {isS : Bool} {len cap : Nat} (hl : loBound lo = some l) (hh : hiBound len hi = some h) (h0 : 0 ≤ l) (h1 : l ≤ h) (h2 : h ≤ cap) :
    (Instr.sliceBounds isS len cap lo hi none).run P w = .ok (l.toNat, h.toNat, cap) w := by
  have hhr : ∃ k, (hi = none ∧ h = len) ∨ hi = some (.int k h) := by
    cases hi with
    | none => simp [hiBound] at hh; exact ⟨.i64, .inl ⟨rfl, hh.symm⟩⟩
    | some v => cases v <;> simp [hiBound] at hh; rename_i k n; exact ⟨k, .inr (by rw [hh])⟩
  have hlr : ∃ k, (lo = none ∧ l = 0) ∨ lo = some (.int k l) := by
    cases lo with
    | none => simp [loBound] at hl; exact ⟨.i64, .inl ⟨rfl, hl.symm⟩⟩
    | some v => cases v <;> simp [loBound] at hl; rename_i k n; exact ⟨k, .inr (by rw [hl])⟩
  obtain ⟨kh, hh'⟩ := hhr
  obtain ⟨kl, hl'⟩ := hlr
  have hn : ((h.toNat : Nat) : Int) = h := by omega
  rcases hh' with ⟨rfl, rfl⟩ | rfl <;> rcases hl' with ⟨rfl, rfl⟩ | rfl
  · simp [Instr.sliceBounds]
  · simp [Instr.sliceBounds, run_bound (P := P) (w := w) (x := .int kl l) (y := len) rfl h0 h1]
  · simp [Instr.sliceBounds, run_bound (P := P) (w := w) (x := .int kh h) (y := cap) rfl (by omega) h2]
  · simp [Instr.sliceBounds, run_bound (P := P) (w := w) (x := .int kh h) (y := cap) rfl (by omega) h2, run_bound (P := P) (w := w) (x := .int kl l) (y := h.toNat) rfl h0 (by omega)]
theorem run_bounds3 {lo hi : Option Value} {l h m : Int} {km : IntKind} {len cap : Nat} (hl : loBound lo = some l) (hhi : ∃ k, hi = some (.int k h)) (h0 : 0 ≤ l) (h1 : l ≤ h) (h2 : h ≤ m) (h3 : m ≤ cap) :
    (Instr.sliceBounds true len cap lo hi (some (.int km m))).run P w = .ok (l.toNat, h.toNat, m.toNat) w := by
  obtain ⟨kh, rfl⟩ := hhi
  have hlr : ∃ k, (lo = none ∧ l = 0) ∨ lo = some (.int k l) := by
    cases lo with
    | none => simp [loBound] at hl; exact ⟨.i64, .inl ⟨rfl, hl.symm⟩⟩
    | some v => cases v <;> simp [loBound] at hl; rename_i k n; exact ⟨k, .inr (by rw [hl])⟩
  obtain ⟨kl, hl'⟩ := hlr
  rcases hl' with ⟨rfl, rfl⟩ | rfl
  · simp [Instr.sliceBounds, run_bound (P := P) (w := w) (x := .int km m) (y := cap) rfl (by omega) h3, run_bound (P := P) (w := w) (x := .int kh h) (y := m.toNat) rfl (by omega) (by omega)]
  · simp [Instr.sliceBounds, run_bound (P := P) (w := w) (x := .int km m) (y := cap) rfl (by omega) h3, run_bound (P := P) (w := w) (x := .int kh h) (y := m.toNat) rfl (by omega) (by omega), run_bound (P := P) (w := w) (x := .int kl l) (y := h.toNat) rfl h0 (by omega)]
theorem slA_eq {ad : Option Addr} {l : Int} {m sz : Nat} (h0 : 0 ≤ l) : (if m = l.toNat then ad else ad.map (·.add (l.toNat * sz))) = slA ad l m sz := by
  unfold slA
  by_cases e : m = l.toNat
  · rw [if_pos e, if_pos (by omega)]
  · rw [if_neg e, if_neg (by omega)]
theorem mapM_places : ∀ (fs : List Field) (l : List (Nat × Nat)) (w : World), buildPlaces P fs = some l → ((fs.mapM fun f => do pure (f.offset, ← sizeOf f.type) : Sem (List (Nat × Nat)))).run P w = .ok l w
  | [], l, w, h => by simp [buildPlaces] at h; simp [← h]
  | f :: fs, l, w, h => by
    simp only [buildPlaces] at h
    split at h
    · rename_i n l' hn hl
      obtain rfl := Option.some.inj h
      have ih := mapM_places fs l' w hl
      simp only [List.mapM_cons, Sem.run_bind, run_size hn, Result.andThen_ok, Sem.run_pure, ih]
    · cases h
theorem fold_over : ∀ (cs : List Value) (base : Array Value) (off k : Nat), off + k + cs.length ≤ base.size →
    (cs.zipIdx k).foldl (fun acc (c, j) => acc.setIfInBounds (off + j) c) base = (over base.toList (off + k) cs).toArray
  | [], base, off, k, _ => by simp [over]
  | c :: cs, base, off, k, h => by
    simp only [List.zipIdx_cons, List.foldl_cons]
    rw [fold_over cs (base.setIfInBounds (off + k) c) off (k + 1) (by simp at h ⊢; omega)]
    congr 1
    have e := list_seg_step base.toList (off + k) c cs (by simp at h ⊢; omega)
    simpa [over, Array.toList_setIfInBounds, Nat.add_assoc] using e
theorem fill_eq (pl : Nat → Option (Nat × Nat)) : ∀ (ps : List (Nat × Value)) (base : Array Value) (l : List Value), fillL pl base.toList ps = some l → Instr.fill pl base ps = some l.toArray
  | [], base, l, h => by simp [fillL] at h; simp [Instr.fill, ← h]
  | (i, v) :: ps, base, l, h => by
    simp only [fillL] at h
    split at h
    · cases h
    · rename_i off size hp
      split at h
      · rename_i hs
        split at h
        · rename_i ho
          have h1 : v.cells.size = size := by rw [cells_size]; exact hs
          have e : v.cells.zipIdx.foldl (fun cs (c, j) => cs.setIfInBounds (off + j) c) base = (over base.toList off (cellsL v)).toArray := by
            rw [← Array.foldl_toList, Array.toList_zipIdx, cells_toList]
            have := fold_over (cellsL v) base off 0 (by simp at ho ⊢; omega)
            simpa using this
          have ih := fill_eq pl ps (over base.toList off (cellsL v)).toArray l (by simpa using h)
          have h2 : ¬ (off + v.cells.size > base.size) := by simp at ho; omega
          simp only [Instr.fill, hp]
          rw [if_neg (by simp [h1]; simp at ho; omega), e]
          exact ih
        · cases h
      · cases h
end
end Go.Vx

/- The executor's operations without a step of memory: what each yields. -/
namespace Go.Vx
section
variable {P : Program} {β : Nat → Option Nat} {st : St} {a : Act} {w : World} {bx : List Box}

theorem merge_leaf {c : Bool} {x y v : Value} (h : mergeLeaf c x y = some v) : v = cond c x y := by
  unfold mergeLeaf at h
  split at h
  · split at h
    · rename_i hk; obtain rfl := sameK_eq hk; obtain rfl := Option.some.inj h; cases c <;> rfl
    · cases h
  all_goals first | (obtain rfl := Option.some.inj h; cases c <;> rfl) | cases h
theorem merge_ls {c : Bool} : ∀ {xs ys vs : List Value}, mergeLs c xs ys = some vs → vs = cond c xs ys
  | [], [], vs, h => by obtain rfl := Option.some.inj h; cases c <;> rfl
  | x :: xs, y :: ys, vs, h => by
    simp only [mergeLs] at h
    split at h
    · rename_i v hv
      split at h
      · rename_i l hl
        obtain rfl := Option.some.inj h
        have h1 := merge_leaf hv
        have h2 := merge_ls hl
        subst h1 h2
        cases c <;> rfl
      · cases h
    · cases h
  | [], _ :: _, _, h => by simp [mergeLs] at h
  | _ :: _, [], _, h => by simp [mergeLs] at h
theorem merge_v {c : Bool} {x y v : Value} (h : mergeV c x y = some v) : v = cond c x y := by
  unfold mergeV at h
  split at h
  · split at h
    · rename_i l hl
      obtain rfl := Option.some.inj h
      have := merge_ls hl
      subst this
      cases c <;> simp
    · cases h
  · exact merge_leaf h
theorem merge_sv {c : Bool} {x y : SV} {u v : Value} (hx : x.conc β u) (hy : y.conc β v) : (mergeSV c x y).conc β (cond c u v) := by
  unfold mergeSV
  split
  · rename_i p q hp hq
    rw [val_conc hp hx, val_conc hq hy]
    split
    · rename_i r hr; exact (merge_v hr).symm
    · trivial
  · trivial

/-- What an operation yields, in whatever world in which the boxes lie. -/
def Ylds (P : Program) (β : Nat → Option Nat) (bx : List Box) (a : Act) (o : Oper) (sv : SV) : Prop := ∃ y, sv.conc β y ∧ ∀ w, BxOk β bx w → (execOp a.eval o).run P w = .ok (.value y) w

theorem pOp_sound {o : Oper} {r : PR} (ht : TmOk β st a) (h : pOp P bx st o = some r) (hp : ∀ p, r.ob = some p → p) : Ylds P β bx a o r.sv := by
  obtain ⟨dst, op, type, pos, after, guard⟩ := o
  unfold pOp at h
  cases op <;> simp only at h <;> try (cases h; done)
  case load t x =>
    split at h
    · rename_i b off he
      split at h
      · rename_i c cs hd
        split at h
        · rename_i v hv
          obtain rfl := Option.some.inj h
          refine ⟨v, svOf_conc _ _, fun w hb => ?_⟩
          have hx := ht.ev x
          rw [he] at hx
          obtain ⟨g, hg, hx⟩ := hx
          obtain ⟨g', hg', hh⟩ := hb b c (drop_cons hd)
          rw [hg] at hg'
          obtain rfl := Option.some.inj hg'
          have hl := run_loadVar_cells (P := P) (w := w) hh hv
          simp [execOp, hx, Instr.loadAt, Instr.sureAddr, hl]
        · cases h
      · cases h
    · cases h
  case move x => obtain rfl := Option.some.inj h; exact ⟨a.eval x, ht.ev x, fun w _ => by simp [execOp]⟩
  case assign x => obtain rfl := Option.some.inj h; exact ⟨a.eval x, ht.ev x, fun w _ => by simp [execOp]⟩
  case pick c x y =>
    have hc := ht.ev c
    split at h
    · rename_i b he
      obtain rfl := Option.some.inj h
      rw [he] at hc
      simp only [SV.conc] at hc
      cases b
      · exact ⟨a.eval y, ht.ev y, fun w _ => by simp [execOp, hc, asBool]⟩
      · exact ⟨a.eval x, ht.ev x, fun w _ => by simp [execOp, hc, asBool]⟩
    · rename_i b he
      obtain rfl := Option.some.inj h
      rw [he] at hc
      simp only [SV.conc] at hc
      refine ⟨_, merge_sv (c := b) (ht.ev x) (ht.ev y), fun w _ => ?_⟩
      cases b <;> simp [execOp, hc, asBool]
    · cases h
  case extract x i =>
    split at h
    · rename_i vs he
      have hx := ht.v he
      split at h
      · rename_i v vs' hd
        obtain rfl := Option.some.inj h
        exact ⟨v, rfl, fun w _ => by simp [execOp, hx, Instr.extract, getElem?_of_drop hd]⟩
      · cases h
    · cases h
  case field t x i =>
    split at h
    · rename_i cs fs he hu
      have hx := ht.v he
      split at h
      · rename_i f fs' hd
        split at h
        · rename_i v hv
          obtain rfl := Option.some.inj h
          exact ⟨v, svOf_conc _ _, fun w _ => by simp [execOp, hx, Instr.field, run_und hu, getElem?_of_drop hd, asAgg, run_partOf hv]⟩
        · cases h
      · cases h
    · cases h
  case fieldAddr t x i =>
    split at h
    · rename_i fs hu
      split at h
      · rename_i f fs' hd
        split at h
        · rename_i n hs
          split at h
          · rename_i b o' he
            obtain rfl := Option.some.inj h
            have hx := ht.ev x
            rw [he] at hx
            obtain ⟨g, hg, hx⟩ := hx
            refine ⟨_, ⟨g, hg, rfl⟩, fun w _ => ?_⟩
            simp [execOp, hx, Instr.fieldAt, run_und hu, getElem?_of_drop hd, Instr.sureAddr, fieldPlace, run_size hs, add_none]
          · rename_i ad he
            obtain rfl := Option.some.inj h
            have hx := ht.v he
            have hne := hp _ rfl
            obtain ⟨ad', rfl⟩ := Option.ne_none_iff_exists'.1 hne
            refine ⟨_, rfl, fun w _ => ?_⟩
            simp [execOp, hx, Instr.fieldAt, run_und hu, getElem?_of_drop hd, Instr.sureAddr, fieldPlace, run_size hs, fldA]
          · cases h
        · cases h
      · cases h
    · cases h
  case indexAddr t x i =>
    split at h
    · rename_i e ad n c k j hu he hi
      have hx := ht.v he
      have hi' := ht.v hi
      split at h
      · rename_i sz hs
        obtain rfl := Option.some.inj h
        obtain ⟨hne, h0, h1⟩ := hp _ rfl
        obtain ⟨ad', rfl⟩ := Option.ne_none_iff_exists'.1 hne
        refine ⟨_, rfl, fun w _ => ?_⟩
        simp [execOp, hx, hi', Instr.indexAt, asIntOf, run_und hu, h0, h1, run_size hs, elemA]
      · cases h
    · rename_i n e ad k j hu he hi
      have hx := ht.v he
      have hi' := ht.v hi
      split at h
      · rename_i sz hs
        obtain rfl := Option.some.inj h
        obtain ⟨hne, h0, h1⟩ := hp _ rfl
        obtain ⟨ad', rfl⟩ := Option.ne_none_iff_exists'.1 hne
        refine ⟨_, rfl, fun w _ => ?_⟩
        simp [execOp, hx, hi', Instr.indexAt, asIntOf, run_und hu, h0, h1, run_size hs, elemA, Instr.sureAddr]
      · cases h
    · cases h
  case index t x i =>
    split at h
    · rename_i s k j hu he hi
      have hx := ht.v he
      have hi' := ht.v hi
      obtain rfl := Option.some.inj h
      obtain ⟨h0, h1⟩ := hp _ rfl
      refine ⟨_, rfl, fun w _ => ?_⟩
      have hj : j.toNat < s.size := by omega
      have hj' : j.toNat < s.data.size := hj
      simp [execOp, hx, hi', Instr.index, asIntOf, run_und hu, h0, hj, byteAt, hj']
      rfl
    · cases h
  case unOp op t x =>
    split at h
    · rename_i b he
      obtain rfl := Option.some.inj h
      have hx := ht.ev x
      rw [he] at hx
      simp only [SV.conc] at hx
      exact ⟨_, rfl, fun w _ => by simp [execOp, hx, Op.unary]⟩
    · rename_i b he
      obtain rfl := Option.some.inj h
      exact ⟨_, rfl, fun w _ => by simp [execOp, ht.v he, Op.unary]⟩
    · rename_i k n he
      obtain rfl := Option.some.inj h
      exact ⟨_, rfl, fun w _ => by simp [execOp, ht.v he, Op.unary, Op.intArith]⟩
    · cases h
  case binOp op t x y yt =>
    obtain ⟨v, hv, hr⟩ := run_binO (P := P) (a := a) ht h hp
    refine ⟨v, by rw [hv]; rfl, fun w _ => ?_⟩
    have := hr w
    simp only [Sem.run_bind] at this
    simp only [execOp, Sem.run_bind, this, Result.andThen_ok, Sem.run_pure]
  case convert src dst x =>
    split at h
    · rename_i k0 k1 k n h1 h2 he
      obtain rfl := Option.some.inj h
      exact ⟨_, rfl, fun w _ => by simp [execOp, ht.v he, Go.convert, run_und h1, run_und h2, Conv.intToInt]⟩
    · rename_i s h1 h2 he
      obtain rfl := Option.some.inj h
      exact ⟨_, rfl, fun w _ => by simp [execOp, ht.v he, Go.convert, run_und h1, run_und h2]⟩
    · cases h
  case nilCheck x =>
    split at h
    · rename_i b o' he
      obtain rfl := Option.some.inj h
      have hx := ht.ev x
      rw [he] at hx
      obtain ⟨g, hg, hx⟩ := hx
      exact ⟨_, ⟨g, hg, rfl⟩, fun w _ => by simp [execOp, hx]⟩
    · rename_i ad he
      obtain rfl := Option.some.inj h
      have hne := hp _ rfl
      obtain ⟨ad', rfl⟩ := Option.ne_none_iff_exists'.1 hne
      exact ⟨_, rfl, fun w _ => by simp [execOp, ht.v he]⟩
    · cases h
  case slice t x lo hi mx =>
    unfold sliceO at h
    split at h
    · rename_i s l hh hs hl hhi hm hu
      split at h
      · rename_i l' h' hl' hh'
        obtain rfl := Option.some.inj h
        obtain ⟨h0, h1, h2⟩ := hp _ rfl
        have hnu : ∀ n e, P.underlying t ≠ some (.array n e) := by rw [hu]; intro n e; simp
        refine ⟨_, rfl, fun w _ => ?_⟩
        simp [execOp, ht.val hs, ht.optVal hl, ht.optVal hhi, ht.optVal hm, Instr.sliceAt, Instr.slice, run_und hu, run_bounds hl' hh' h0 h1 h2]
      · cases h
    · rename_i ad n c l hh m e hs hl hhi hm hu
      split at h
      · rename_i l' h' sz hl' hh' hsz
        split at h
        · obtain rfl := Option.some.inj h
          obtain ⟨h0, h1, h2⟩ := hp _ rfl
          refine ⟨_, rfl, fun w _ => ?_⟩
          simp [execOp, ht.val hs, ht.optVal hl, ht.optVal hhi, ht.optVal hm, Instr.sliceAt, Instr.slice, run_und hu, run_bounds hl' hh' h0 h1 h2, run_size hsz, slA_eq h0]
        · rename_i k m'
          cases hh with
          | none => simp at h
          | some v =>
            obtain rfl := Option.some.inj h
            obtain ⟨h0, h1, h2, h3⟩ := hp _ rfl
            refine ⟨_, rfl, fun w _ => ?_⟩
            have : ∃ k, v = .int k h' := by cases v <;> simp [hiBound] at hh'; exact ⟨_, by rw [hh']⟩
            obtain ⟨kh, rfl⟩ := this
            simp [execOp, ht.val hs, ht.optVal hl, ht.optVal hhi, ht.optVal hm, Instr.sliceAt, Instr.slice, run_und hu, run_bounds3 hl' ⟨_, rfl⟩ h0 h1 h2 h3, run_size hsz, slA_eq h0]
        · cases h
      · cases h
    · cases h
  case build t parts =>
    unfold buildO at h
    split at h
    · rename_i z fs ps hz hu hps
      split at h
      · rename_i pl hpl
        split at h
        · rename_i l hl
          obtain rfl := Option.some.inj h
          refine ⟨_, rfl, fun w _ => ?_⟩
          have e1 : (parts.map fun (i, x) => (i, a.eval x)).toList = ps := by
            have := ht.partVals hps
            rw [← this]; simp
          have e2 := fill_eq (fun i => pl[i]?) ps z l hl
          have e3 : (fs.mapM fun f => do pure (f.offset, ← sizeOf f.type) : Sem (Array (Nat × Nat))).run P w = .ok pl.toArray w := by
            rw [← Array.toArray_toList (xs := fs)]
            rw [List.mapM_toArray]
            simp only [Sem.run_map, mapM_places fs.toList pl w hpl, Result.andThen_ok]
          have e4 : (fun i : Nat => (pl.toArray)[i]?) = (fun i : Nat => pl[i]?) := by funext i; simp
          simp only [execOp, Instr.build, Sem.run_bind, run_zero hz, Result.andThen_ok, run_und hu, e3, Value.cells, e1, e4, e2, Sem.run_pure]
        · cases h
      · cases h
    · cases h
  case makeFunc fn first captured =>
    split at h
    · rename_i fs cs hf hc
      obtain rfl := Option.some.inj h
      refine ⟨_, rfl, fun w _ => ?_⟩
      have h1 := ht.vals hf
      have h2 := ht.vals hc
      have e1 : first.map a.eval = fs.toArray := by apply Array.ext'; simpa using h1
      have e2 : captured.map a.eval = cs.toArray := by apply Array.ext'; simpa using h2
      simp [execOp, Instr.makeFunc, e1, e2]
    · cases h
  case makeInterface t x =>
    split at h
    · cases h
    · rename_i d v hni hu hv
      obtain rfl := Option.some.inj h
      refine ⟨_, rfl, fun w _ => ?_⟩
      simp only [execOp, Instr.makeInterface, ht.val hv, Sem.run_bind, run_und hu, Result.andThen_ok]
      cases d <;> simp_all
    · cases h
  case call c =>
    obtain ⟨callee, args, argTypes⟩ := c
    cases callee <;> simp only at h <;> try (cases h; done)
    rename_i b
    split at h
    · rename_i x t hargs htys
      obtain ⟨args⟩ := args; obtain ⟨argTypes⟩ := argTypes
      simp only at hargs htys
      subst hargs htys
      split at h
      · rename_i s hu he
        obtain rfl := Option.some.inj h
        exact ⟨_, rfl, fun w _ => by simp [execOp, resolve, invoke, Go.builtin, Builtin.len_, ht.v he, run_und hu, goInt]⟩
      · rename_i e ad n c hu he
        obtain rfl := Option.some.inj h
        exact ⟨_, rfl, fun w _ => by simp [execOp, resolve, invoke, Go.builtin, Builtin.len_, ht.v he, run_und hu, goInt]⟩
      · rename_i n e hu
        obtain rfl := Option.some.inj h
        exact ⟨_, rfl, fun w _ => by simp [execOp, resolve, invoke, Go.builtin, Builtin.len_, run_und hu, goInt]⟩
      · cases h
    · rename_i x t hargs htys
      obtain ⟨args⟩ := args; obtain ⟨argTypes⟩ := argTypes
      simp only at hargs htys
      subst hargs htys
      split at h
      · rename_i e ad n c hu he
        obtain rfl := Option.some.inj h
        exact ⟨_, rfl, fun w _ => by simp [execOp, resolve, invoke, Go.builtin, Builtin.cap_, ht.v he, run_und hu, goInt]⟩
      · cases h
    · rename_i x y hargs
      obtain ⟨args⟩ := args
      simp only at hargs
      subst hargs
      split at h
      · rename_i k m k' n he hf
        obtain rfl := Option.some.inj h
        exact ⟨_, rfl, fun w _ => by simp [execOp, resolve, invoke, Go.builtin, Builtin.max_, Builtin.max2, ht.v he, ht.v hf, maxI]⟩
      · rename_i m n he hf
        obtain rfl := Option.some.inj h
        refine ⟨_, rfl, fun w _ => ?_⟩
        have e : (if (!lessS m n) = true then m else n) = maxT m n := by unfold maxT; cases lessS m n <;> rfl
        rw [← e]
        simp [execOp, resolve, invoke, Go.builtin, Builtin.max_, Builtin.max2, ht.v he, ht.v hf, Op.stringOp, asBool, lessS]
      · cases h
    · rename_i x y hargs
      obtain ⟨args⟩ := args
      simp only at hargs
      subst hargs
      split at h
      · rename_i k m k' n he hf
        obtain rfl := Option.some.inj h
        exact ⟨_, rfl, fun w _ => by simp [execOp, resolve, invoke, Go.builtin, Builtin.min_, Builtin.min2, ht.v he, ht.v hf, minI]⟩
      · cases h
    · cases h
end
end Go.Vx

/- The executor's lists of operations: ways that meet again without a step of memory; a load of what is known. -/
namespace Go.Vx
section
variable {P : Program} {β : Nat → Option Nat} {st : St} {a : Act} {w : World} {bx : List Box}

/-! ### What is known of a heap holds in a world that has it -/
theorem Sees.cell {H : PHeap} (hs : Sees H w) {ad : Addr} {v : Value} (h : hcell H ad = some v) : w.cell? ad = some v := by
  unfold hcell at h
  split at h
  · rename_i c e fz hk
    simp only [World.cell?, hs _ _ hk]
    exact h
  · cases h
theorem exLeaf_get {z : Value} {K : Value → Prop} (h : exLeaf z K) : ∃ v, K v := by
  cases z <;> simp only [exLeaf] at h
  case slice => obtain ⟨x, y, q, h⟩ := h; exact ⟨_, h⟩
  all_goals (obtain ⟨x, h⟩ := h; exact ⟨_, h⟩)
theorem exLs_get : ∀ {zs : List Value} {K : List Value → Prop}, exLs zs K → ∃ l, l.length = zs.length ∧ K l
  | [], K, h => ⟨[], rfl, h⟩
  | z :: zs, K, h => by
    obtain ⟨v, hv⟩ := exLeaf_get h
    obtain ⟨l, hl, hk⟩ := exLs_get hv
    exact ⟨v :: l, by simp [hl], hk⟩
theorem exV_get {z : Value} {K : Value → Prop} (h : exV z K) : ∃ v, K v := by
  unfold exV at h
  split at h
  · obtain ⟨l, _, hk⟩ := exLs_get h; exact ⟨_, hk⟩
  · exact exLeaf_get h
theorem exVs_get : ∀ {zs : List Value} {K : List Value → Prop}, exVs zs K → ∃ l, K l
  | [], K, h => ⟨[], h⟩
  | z :: zs, K, h => by
    obtain ⟨v, hv⟩ := exV_get h
    obtain ⟨l, hk⟩ := exVs_get hv
    exact ⟨_, hk⟩
theorem run_loadVar_reads {H : PHeap} {t : TypeId} {ad : Addr} {l : List Value} (hs : Sees H w) (hr : ∀ (i : Nat) v, l[i]? = some v → hcell H (ad.add i) = some v) :
    (aggT P t = some true → sizeT P t = some l.length → (loadVar t ad).run P w = .ok (.agg l.toArray) w) ∧
    (∀ v, aggT P t = some false → l = [v] → (loadVar t ad).run P w = .ok v w) := by
  refine ⟨fun ha hn => ?_, fun v ha hl => ?_⟩
  · have := run_loadCells_list (P := P) w ad l (fun j u hj => hs.cell (hr j u hj))
    simp [loadVar, run_agg ha, run_size hn, this]
  · subst hl
    have h0 := hs.cell (hr 0 v rfl)
    have e : ad.add 0 = ad := by simp [Addr.add]
    rw [e] at h0
    simp [loadVar, run_agg ha, h0]
theorem vLoad_sound {H : PHeap} {t : TypeId} {x : Operand} {K : SV → Prop} {o : Oper} (ho : o.op = .load t x) (ht : TmOk β st a) (h : vLoad P H st t x K) :
    ∃ sv y, K sv ∧ sv.conc β y ∧ ∀ w, Sees H w → (execOp a.eval o).run P w = .ok (.value y) w := by
  obtain ⟨dst, op, type, pos, after, guard⟩ := o
  simp only at ho
  subst ho
  unfold vLoad at h
  split at h
  · rename_i oa he
    have hx := ht.v he
    split at h
    · rename_i z n ha hz hn
      split at h
      · rename_i hzn
        obtain ⟨l, hl, ⟨⟨ad, rfl, hr⟩⟩, hk⟩ := exLs_get h
        refine ⟨_, .agg l.toArray, hk, rfl, fun w hs => ?_⟩
        have := (run_loadVar_reads (P := P) (t := t) hs hr).1 ha (by rw [hn, hl, ← hzn]; simp)
        simp [execOp, Instr.loadAt, hx, Instr.sureAddr, this]
      · cases h
    · rename_i z n ha hz
      obtain ⟨v, ⟨⟨ad, rfl, hr⟩⟩, hk⟩ := exLeaf_get h
      refine ⟨_, v, hk, svOf_conc _ _, fun w hs => ?_⟩
      have := (run_loadVar_reads (P := P) (t := t) hs hr).2 v ha rfl
      simp [execOp, Instr.loadAt, hx, Instr.sureAddr, this]
    · cases h
  · cases h
theorem vLoad_var {H : PHeap} {t : TypeId} {x : Operand} {K : SV → Prop} (ht : TmOk β st a) (h : vLoad P H st t x K) (hs : Sees H w) :
    ∃ ad sv y, a.eval x = .pointer (some ad) ∧ (loadVar t ad).run P w = .ok y w ∧ K sv ∧ sv.conc β y := by
  unfold vLoad at h
  split at h
  · rename_i oa he
    have hx := ht.v he
    split at h
    · rename_i z n ha hz hn
      split at h
      · rename_i hzn
        obtain ⟨l, hl, ⟨⟨ad, rfl, hr⟩⟩, hk⟩ := exLs_get h
        exact ⟨ad, _, .agg l.toArray, hx, (run_loadVar_reads (P := P) (t := t) hs hr).1 ha (by rw [hn, hl, ← hzn]; simp), hk, rfl⟩
      · cases h
    · rename_i z n ha hz
      obtain ⟨v, ⟨⟨ad, rfl, hr⟩⟩, hk⟩ := exLeaf_get h
      exact ⟨ad, _, v, hx, (run_loadVar_reads (P := P) (t := t) hs hr).2 v ha rfl, hk, svOf_conc _ _⟩
    · cases h
  · cases h
theorem vQuiet_sound {H : PHeap} {o : Oper} {K : SV → Prop} (ht : TmOk β st a) (h : vQuiet P H bx st o K) :
    ∃ sv y, K sv ∧ sv.conc β y ∧ (∀ w, BxOk β bx w → Sees H w → (execOp a.eval o).run P w = .ok (.value y) w) ∧ (isLoad P o = false → ∀ w, BxOk β bx w → (execOp a.eval o).run P w = .ok (.value y) w) := by
  unfold vQuiet at h
  split at h
  · rename_i sv hp
    obtain ⟨y, hc, hr⟩ := pOp_sound ht hp (fun p hp => by cases hp)
    exact ⟨sv, y, h, hc, fun w hb _ => hr w hb, fun _ => hr⟩
  · rename_i p sv hp
    obtain ⟨y, hc, hr⟩ := pOp_sound ht hp (fun q hq => by cases hq; exact h.1.out)
    exact ⟨sv, y, h.2, hc, fun w hb _ => hr w hb, fun _ => hr⟩
  · split at h
    · rename_i t x ho
      obtain ⟨sv, y, hk, hc, hr⟩ := vLoad_sound ho ht h
      exact ⟨sv, y, hk, hc, fun w _ hs => hr w hs, fun e => by simp [isLoad, ho] at e⟩
    · rename_i t m k ok ho
      obtain ⟨dst, op, type, pos, after, guard⟩ := o
      simp only at ho
      subst ho
      split at h
      · rename_i vm vk kt e hm hk' hu
        split at h
        · rename_i z hz
          obtain ⟨v, hr, hh⟩ := h.out
          have hrun : ∀ w, Sees H w → (execOp a.eval ⟨dst, .lookup t m k ok, type, pos, after, guard⟩).run P w = .ok (.value v) w := fun w hs => by
            simp [execOp, ht.val hm, ht.val hk', hr w hs]
          obtain ⟨x, hx⟩ := exV_get hh
          split at hx
          · obtain ⟨b, rfl, hK⟩ := hx
            exact ⟨.v _, _, hK, rfl, fun w _ hs => hrun w hs, fun e => by simp [isLoad] at e⟩
          · obtain ⟨rfl, hK⟩ := hx
            exact ⟨_, _, hK, svOf_conc _ _, fun w _ hs => hrun w hs, fun e => by simp [isLoad] at e⟩
        · cases h
      · cases h
    · rename_i src dt x ho
      obtain ⟨dst, op, type, pos, after, guard⟩ := o
      simp only at ho
      subst ho
      split at h
      · rename_i e vx hu hx
        obtain ⟨v, hr, s, rfl, hK⟩ := h.out
        exact ⟨.v (.string s), .string s, hK, rfl, fun w _ hs => by simp [execOp, ht.val hx, hr w hs], fun e => by simp [isLoad, hu] at e⟩
      · cases h
    · cases h

theorem vQuietT_sound {H : PHeap} {o : Oper} {K : SV → Prop} (ht : TmOk β st a) (h : vQuietT P H bx st o K) :
    ∃ sv y, K sv ∧ sv.conc β y ∧ ∀ w, BxOk β bx w → Sees H w → (execOp a.eval o).run P w = .ok (.value y) w := by
  unfold vQuietT at h
  split at h
  · rename_i op t x y hp
    unfold ptrEq at hp
    split at hp
    · rename_i op' t' ox oy z ho
      split at hp
      · rename_i x' y' h1 h2 h3 h4
        simp only [Option.some.injEq, Prod.mk.injEq] at hp
        obtain ⟨rfl, rfl, rfl, rfl⟩ := hp
        obtain ⟨dst, op, type, pos, after, guard⟩ := o
        simp only at ho
        subst ho
        obtain ⟨v, hr, r, rfl, hK⟩ := h.out
        exact ⟨.v (.bool r), .bool r, hK, rfl, fun w _ hs => by
          have hg := run_guardPlain (P := P) (w := w) (op := op') (t := t') (x := ox) (y := oy) (u := .pointer x') (v := .pointer y') rfl
          simp [execOp, ht.val h3, ht.val h4, hg, hr w hs]⟩
      · cases hp
    · cases hp
  · obtain ⟨sv, y, h1, h2, h3, _⟩ := vQuiet_sound ht h
    exact ⟨sv, y, h1, h2, h3⟩

/-! ### Ways that meet again -/
theorem merge_true {x y : SV} {u : Value} (hx : x.conc β u) : (mergeSV true x y).conc β u := by
  unfold mergeSV
  split
  · rename_i p q hp hq
    rw [val_conc hp hx]
    split
    · rename_i r hr; have := merge_v hr; simp only [cond_true] at this; rw [this]; rfl
    · trivial
  · trivial
theorem merge_false {x y : SV} {u : Value} (hy : y.conc β u) : (mergeSV false x y).conc β u := by
  unfold mergeSV
  split
  · rename_i p q hp hq
    rw [val_conc hq hy]
    split
    · rename_i r hr; have := merge_v hr; simp only [cond_false] at this; rw [this]; rfl
    · trivial
  · trivial
theorem mergeTm_len (c : Bool) (W : List Tmp) : ∀ (k : Nat) (ts xs ys : List SV), (mergeTm c W k ts xs ys).length = ts.length
  | _, [], _, _ => by simp [mergeTm]
  | k, t :: ts, [], _ => by simp [mergeTm]
  | k, t :: ts, x :: xs, [] => by simp [mergeTm]
  | k, t :: ts, x :: xs, y :: ys => by simp [mergeTm, mergeTm_len c W (k + 1) ts xs ys]
theorem mergeTm_get (c : Bool) (W : List Tmp) : ∀ (k : Nat) (ts xs ys : List SV) (i : Nat) (sv : SV), xs.length = ts.length → ys.length = ts.length → (mergeTm c W k ts xs ys)[i]? = some sv →
    (k + i ∉ W ∧ ts[i]? = some sv) ∨ ∃ x y, xs[i]? = some x ∧ ys[i]? = some y ∧ sv = mergeSV c x y
  | _, [], xs, ys, i, sv, _, _, h => by simp [mergeTm] at h
  | k, t :: ts, [], _, i, sv, h1, _, _ => by simp at h1
  | k, t :: ts, x :: xs, [], i, sv, _, h2, _ => by simp at h2
  | k, t :: ts, x :: xs, y :: ys, 0, sv, h1, h2, h => by
    simp only [mergeTm, List.getElem?_cons_zero, Option.some.injEq] at h
    by_cases hw : W.contains k = true
    · rw [if_pos hw] at h; exact .inr ⟨x, y, rfl, rfl, h.symm⟩
    · rw [if_neg hw] at h; exact .inl ⟨by simpa using hw, by simp [h]⟩
  | k, t :: ts, x :: xs, y :: ys, i + 1, sv, h1, h2, h => by
    simp only [mergeTm, List.getElem?_cons_succ] at h
    have := mergeTm_get c W (k + 1) ts xs ys i sv (by simpa using h1) (by simpa using h2) h
    rw [show k + 1 + i = k + (i + 1) by omega] at this
    simpa using this
/-- The merged state holds where the state of the way that was gone holds, and the slots beside W are what they were. -/
theorem TmOk.merge {s1 s2 : St} {W : List Tmp} {a' : Act} {c : Bool} (ht : TmOk β st a) (h1 : s1.tm.length = st.tm.length) (h2 : s2.tm.length = st.tm.length)
    (hf : ∀ t, t ∉ W → a'.tmps.getD t undef = a.tmps.getD t undef) (h : TmOk β (cond c s1 s2) a') : TmOk β { st with tm := mergeTm c W 0 st.tm s1.tm s2.tm } a' := by
  refine ⟨?_, fun t sv hsv => ?_⟩
  · have := h.size
    rw [this]
    simp only [mergeTm_len]
    cases c <;> simp [h1, h2]
  · rcases mergeTm_get c W 0 st.tm s1.tm s2.tm t sv h1 h2 hsv with ⟨hn, hs⟩ | ⟨x, y, hx, hy, rfl⟩
    · rw [hf t (by simpa using hn)]; exact ht.at_ t sv hs
    · cases c
      · exact merge_false (h.at_ t y hy)
      · exact merge_true (h.at_ t x hx)
end
end Go.Vx
