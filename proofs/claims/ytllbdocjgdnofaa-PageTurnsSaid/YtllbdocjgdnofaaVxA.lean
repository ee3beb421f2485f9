/- A small executor for the model's code: what a function does, said as one condition on heaps of which a part is known. The definitions. -/
import Derived.OrdersHeld
import Derived.WalkKit
import Derived.RangeFuncLeaves
import Derived.OrdersIn
import Derived.RangeFuncRecord
import Derived.Sort.LoopGhostIn
namespace Go.Vx

/-! ### Heaps of which a part is known -/
abbrev PHeap := Nat → Option Obj
def Sees (H : PHeap) (w : World) : Prop := ∀ k o, H k = some o → w.heap[k]? = some o
def PHeap.upd (H : PHeap) (b : Nat) (o : Obj) : PHeap := fun k => if k = b then some o else H k
structure Sub (A B : PHeap) : Prop where
  le : ∀ k o, A k = some o → B k = some o
/-- What a step may do: the known part H becomes H', of the rest nothing turns, and what comes to be known is new. -/
structure Nx (H H' : PHeap) (w w' : World) : Prop where
  os : w'.os = w.os
  tape : w'.tape = w.tape
  output : w'.output = w.output
  size : w.heap.size ≤ w'.heap.size
  keep : ∀ k, k < w.heap.size → H k = none → w'.heap[k]? = w.heap[k]?
  fresh : ∀ k, H' k ≠ none → H k ≠ none ∨ w.heap.size ≤ k
  sees : Sees H' w'
def hcell (H : PHeap) (a : Addr) : Option Value :=
  match H a.block with
  | some (.cells c _ _) => if a.spot.isSome then none else c[a.off]?
  | _ => none
/-- The cells from an address on read as a list. -/
structure Reads (H : PHeap) (oa : Option Addr) (l : List Value) : Prop where
  out : ∃ a, oa = some a ∧ ∀ (i : Nat) v, l[i]? = some v → hcell H (a.add i) = some v
/-- The cells from an address on may be written, and there are n. -/
structure Writes (H H' : PHeap) (oa : Option Addr) (l : List Value) : Prop where
  out : ∃ a c e lo hi, oa = some a ∧ a.spot = none ∧ H a.block = some (.cells c e (lo, hi)) ∧ a.off + l.length ≤ c.size ∧
    (∀ i, i < l.length → ¬ (lo ≤ a.off + i ∧ a.off + i < hi)) ∧
    H' = H.upd a.block (.cells (c.toList.take a.off ++ l ++ c.toList.drop (a.off + l.length)).toArray e (lo, hi))
structure Ob (p : Prop) : Prop where
  out : p
/-- A call. -/
structure Triple (P : Program) (f : FuncId) (args : Array Value) (H : PHeap) (Q : Value → PHeap → Prop) : Prop where
  out : ∀ w, Sees H w → Calls P f args w fun e w' => ∃ v H', e = .returned v ∧ Nx H H' w w' ∧ Q v H'
/-- Any other operation that yields a value. -/
structure EvV (P : Program) (s : Sem Value) (H : PHeap) (K : Value → PHeap → Prop) : Prop where
  out : ∀ w, Sees H w → ∃ v w' H', s.run P w = .ok v w' ∧ Nx H H' w w' ∧ K v H'
/-- An operation that only looks. -/
structure LookV (P : Program) (s : Sem Value) (H : PHeap) (K : Value → Prop) : Prop where
  out : ∃ v, (∀ w, Sees H w → s.run P w = .ok v w) ∧ K v
structure EvU (P : Program) (s : Sem Unit) (H : PHeap) (K : PHeap → Prop) : Prop where
  out : ∀ w, Sees H w → ∃ w' H', s.run P w = .ok () w' ∧ Nx H H' w w' ∧ K H'

/-- The fence that lets all by; in a frame of its own, or in a round's. -/
def RF (r : Option Nat) : Fence := { fn := fun _ => True, depth := none, alive := false, round := r }

/-! ### Values of a slot -/
inductive SV where
  | v (x : Value)
  | kb (b : Bool)
  | loc (box off : Nat)
  | fv (x : Value)
  | unk
structure Box where
  cells : List Value
  ty : TypeId
  fz : Bool
structure St where
  tm : List SV
  bx : List Box
def SV.val? : SV → Option Value
  | .v x => some x
  | .kb b => some (.bool b)
  | .fv x => some x
  | _ => none
def SV.conc (β : Nat → Option Nat) : SV → Value → Prop
  | .v x, y => y = x
  | .kb b, y => y = .bool b
  | .loc b o, y => ∃ g, β b = some g ∧ y = .pointer (some ⟨g, o, none⟩)
  | .fv x, y => y = x
  | .unk, _ => True
def St.put (st : St) (dst : Option Tmp) (sv : SV) : St :=
  match dst with
  | some d => { st with tm := st.tm.set d sv }
  | none => st
def St.get (st : St) (t : Tmp) : SV := st.tm.getD t .unk
def St.ev (st : St) : Operand → SV
  | .tmp t => st.get t
  | .const (.bool b) => .kb b
  | .const v => .v v
  | .global g => .v (.pointer (some ⟨g, 0, none⟩))
  | .func f => .v (.func (.func f) #[] #[])
def St.val (st : St) (x : Operand) : Option Value := (st.ev x).val?
def St.vals (st : St) : List Operand → Option (List Value)
  | [] => some []
  | x :: xs => match st.val x with
    | some v => match st.vals xs with
      | some vs => some (v :: vs)
      | none => none
    | none => none
def St.kbAt (st : St) (x : Operand) (b : Bool) : St :=
  match x with
  | .tmp t => { st with tm := st.tm.set t (.kb b) }
  | _ => st

/-! ### Shapes -/
def exLeaf : Value → (Value → Prop) → Prop
  | .int k _, K => ∃ n : Int, K (.int k n)
  | .bool _, K => ∃ b : Bool, K (.bool b)
  | .string _, K => ∃ s : ByteArray, K (.string s)
  | .pointer _, K => ∃ a : Option Addr, K (.pointer a)
  | .slice _ _ _, K => ∃ (a : Option Addr) (n c : Nat), K (.slice a n c)
  | .map _, K => ∃ r : Option Nat, K (.map r)
  | _, K => ∃ v : Value, K v
def exLs : List Value → (List Value → Prop) → Prop
  | [], K => K []
  | z :: zs, K => exLeaf z fun v => exLs zs fun l => K (v :: l)
def exV : Value → (Value → Prop) → Prop
  | .agg cs, K => exLs cs.toList fun l => K (.agg l.toArray)
  | z, K => exLeaf z K
def exVs : List Value → (List Value → Prop) → Prop
  | [], K => K []
  | z :: zs, K => exV z fun v => exVs zs fun l => K (v :: l)
def allLeaf : Value → (Value → Prop) → Prop
  | .int k _, K => ∀ n : Int, K (.int k n)
  | .bool _, K => ∀ b : Bool, K (.bool b)
  | .string _, K => ∀ s : ByteArray, K (.string s)
  | .pointer _, K => ∀ a : Option Addr, K (.pointer a)
  | .slice _ _ _, K => ∀ (a : Option Addr) (n c : Nat), K (.slice a n c)
  | .map _, K => ∀ r : Option Nat, K (.map r)
  | _, K => ∀ v : Value, K v
def allLs : List Value → (List Value → Prop) → Prop
  | [], K => K []
  | z :: zs, K => allLeaf z fun v => allLs zs fun l => K (v :: l)
def allV : Value → (Value → Prop) → Prop
  | .agg cs, K => allLs cs.toList fun l => K (.agg l.toArray)
  | z, K => allLeaf z K
def allVs : List Value → (List Value → Prop) → Prop
  | [], K => K []
  | z :: zs, K => allV z fun v => allVs zs fun l => K (v :: l)
def sameK : IntKind → IntKind → Bool
  | .i8, .i8 | .i16, .i16 | .i32, .i32 | .i64, .i64 | .u8, .u8 | .u16, .u16 | .u32, .u32 | .u64, .u64 => true
  | _, _ => false
def fitLeaf : Value → Value → Bool
  | .int k _, .int k' _ => sameK k k'
  | .bool _, .bool _ | .string _, .string _ | .pointer _, .pointer _ | .slice _ _ _, .slice _ _ _ | .map _, .map _ => true
  | .int _ _, _ | .bool _, _ | .string _, _ | .pointer _, _ | .slice _ _ _, _ | .map _, _ => false
  | _, _ => true
def fitLs : List Value → List Value → Bool
  | [], [] => true
  | z :: zs, v :: vs => fitLeaf z v && fitLs zs vs
  | _, _ => false
def fitV : Value → Value → Bool
  | .agg zs, .agg vs => fitLs zs.toList vs.toList
  | .agg _, _ => false
  | z, v => fitLeaf z v
def fitVs : List Value → List Value → Bool
  | [], [] => true
  | z :: zs, v :: vs => fitV z v && fitVs zs vs
  | _, _ => false

/-! ### Ways that meet again without a memory step between -/
def mergeLeaf (c : Bool) : Value → Value → Option Value
  | .int k a, .int k' b => if sameK k k' then some (.int k (cond c a b)) else none
  | .bool a, .bool b => some (.bool (cond c a b))
  | .string a, .string b => some (.string (cond c a b))
  | .pointer a, .pointer b => some (.pointer (cond c a b))
  | .slice a n m, .slice a' n' m' => some (.slice (cond c a a') (cond c n n') (cond c m m'))
  | .map a, .map b => some (.map (cond c a b))
  | _, _ => none
def mergeLs (c : Bool) : List Value → List Value → Option (List Value)
  | [], [] => some []
  | x :: xs, y :: ys => match mergeLeaf c x y with
    | some v => match mergeLs c xs ys with
      | some vs => some (v :: vs)
      | none => none
    | none => none
  | _, _ => none
def mergeV (c : Bool) : Value → Value → Option Value
  | .agg xs, .agg ys => match mergeLs c xs.toList ys.toList with
    | some vs => some (.agg vs.toArray)
    | none => none
  | x, y => mergeLeaf c x y
def mergeSV (c : Bool) (x y : SV) : SV :=
  match x.val?, y.val? with
  | some a, some b => match mergeV c a b with
    | some v => .v v
    | none => .unk
  | _, _ => .unk
/-- Of the slots in W the merged value, of the others what they were. -/
def mergeTm (c : Bool) (W : List Tmp) : Nat → List SV → List SV → List SV → List SV
  | i, t :: ts, x :: xs, y :: ys => (if W.contains i then mergeSV c x y else t) :: mergeTm c W (i + 1) ts xs ys
  | _, ts, _, _ => ts

/-! ### Operations without a step of memory -/
/-- A condition, if there is one, and what is yielded. -/
structure PR where
  ob : Option Prop
  sv : SV
def byteAt (s : ByteArray) (i : Int) : Int := ((s.data[i.toNat]?).getD 0).toNat
def elemA (a : Option Addr) (i : Int) (sz : Nat) : Option Addr := a.map fun a => a.add (i.toNat * sz)
def fldA (a : Option Addr) (off : Nat) : Option Addr := a.map fun a => a.add off
def slA (a : Option Addr) (l : Int) (m : Nat) (sz : Nat) : Option Addr := if (m : Int) = l then a else a.map fun a => a.add (l.toNat * sz)
def bitsOp (op : BinOp) (k : IntKind) (x y : Int) : Int :=
  match op with
  | .and => k.wrap (BitVec.ofInt k.bits x &&& BitVec.ofInt k.bits y).toNat
  | .or => k.wrap (BitVec.ofInt k.bits x ||| BitVec.ofInt k.bits y).toNat
  | .xor => k.wrap (BitVec.ofInt k.bits x ^^^ BitVec.ofInt k.bits y).toNat
  | _ => k.wrap (BitVec.ofInt k.bits x &&& ~~~ (BitVec.ofInt k.bits y)).toNat
def shlI (k : IntKind) (x y : Int) : Int := k.wrap (x * 2 ^ min y.toNat k.bits)
def shrI (k : IntKind) (x y : Int) : Int := x.fdiv (2 ^ min y.toNat k.bits)
def lessS (a b : ByteArray) : Bool := Op.bytesLess a.toList b.toList
def eqS (a b : ByteArray) : Bool := a.toList == b.toList
def maxI (x y : Int) : Int := if y > x then y else x
def minI (x y : Int) : Int := if y < x then y else x
def maxT (x y : ByteArray) : ByteArray := if lessS x y then y else x

def zeroOf (P : Program) (t : TypeId) : Option Value :=
  match P.info? t with
  | some i => i.zero
  | none => none
def sizeT (P : Program) (t : TypeId) : Option Nat :=
  match P.info? t with
  | some i => some i.size
  | none => none
def aggT (P : Program) (t : TypeId) : Option Bool :=
  match P.underlying t with
  | some (.struct _) => some true
  | some (.array _ _) => some true
  | some _ => some false
  | none => none
/-- The value of a type at a place in a row of cells. -/
def partOf (P : Program) (t : TypeId) (cs : List Value) (off : Nat) : Option Value :=
  match aggT P t, sizeT P t with
  | some true, some n => if off + n ≤ cs.length then some (.agg ((cs.drop off).take n).toArray) else none
  | some false, _ => match cs.drop off with
    | v :: _ => some v
    | [] => none
  | _, _ => none
def opaqueT (P : Program) (t : TypeId) : Bool :=
  match zeroOf P t with
  | some .nilFunc => true
  | some .nilIface => true
  | _ => false
def svOf (P : Program) (t : TypeId) (x : Value) : SV := if opaqueT P t then .fv x else .v x
def eqLeaf (P : Program) (t : TypeId) : Value → Value → Option Bool
  | .int k a, .int k' b => match P.underlying t with
    | some (.int _) => if sameK k k' then some (a == b) else none
    | _ => none
  | .bool a, .bool b => match P.underlying t with
    | some .bool => some (a == b)
    | _ => none
  | .string a, .string b => match P.underlying t with
    | some .string => some (eqS a b)
    | _ => none
  | _, _ => none
def part? (P : Program) (t : TypeId) (cs : Array Value) (off : Nat) : Option Value := partOf P t cs.toList off
def eqFs (P : Program) (eqd : TypeId → Value → Value → Option Bool) (xs ys : Array Value) : List Field → Option Bool
  | [] => some true
  | f :: fs => if f.name ≠ "_" then
      match part? P f.type xs f.offset, part? P f.type ys f.offset with
      | some a, some b => match eqd f.type a b with
        | some r => match fs with
          | [] => some r
          | _ => match eqFs P eqd xs ys fs with
            | some s => some (r && s)
            | none => none
        | none => none
      | _, _ => none
    else eqFs P eqd xs ys fs
def eqT (P : Program) : Nat → TypeId → Value → Value → Option Bool
  | 0, _, _, _ => none
  | d + 1, t, x, y => match x, y with
    | .agg xs, .agg ys => match P.underlying t with
      | some (.struct fs) => if P.stoodInHeld t then none else eqFs P (eqT P d) xs ys fs.toList
      | _ => none
    | _, _ => eqLeaf P t x y
/-- Is it nil? -/
def isNil : Value → Option Bool
  | .pointer a => some a.isNone
  | .slice a _ _ => some a.isNone
  | .map r => some r.isNone
  | _ => none
def nilOperand : Operand → Bool
  | .const (.pointer none) => true
  | .const (.slice none _ _) => true
  | .const (.map none) => true
  | _ => false
def nilOk (P : Program) (t : TypeId) : Value → Bool
  | .pointer _ => match P.underlying t with | some (.pointer _) => true | _ => false
  | .slice _ _ _ => match P.underlying t with | some (.slice _) => true | _ => false
  | .map _ => match P.underlying t with | some (.map _ _) => true | _ => false
  | _ => false
def pure? (v : Value) : Option PR := some ⟨none, .v v⟩
def binI (op : BinOp) (k : IntKind) (a b : Int) : Option PR :=
  match op with
  | .add => pure? (.int k (k.wrap (a + b)))
  | .sub => pure? (.int k (k.wrap (a - b)))
  | .mul => pure? (.int k (k.wrap (a * b)))
  | .quo => some ⟨some (b ≠ 0), .v (.int k (k.wrap (a.tdiv b)))⟩
  | .rem => some ⟨some (b ≠ 0), .v (.int k (a.tmod b))⟩
  | .eql => pure? (.bool (a == b))
  | .neq => pure? (.bool (a != b))
  | .lss => pure? (.bool (decide (a < b)))
  | .leq => pure? (.bool (decide (a ≤ b)))
  | .gtr => pure? (.bool (decide (a > b)))
  | .geq => pure? (.bool (decide (a ≥ b)))
  | .and => pure? (.int k (bitsOp .and k a b))
  | .or => pure? (.int k (bitsOp .or k a b))
  | .xor => pure? (.int k (bitsOp .xor k a b))
  | .andNot => pure? (.int k (bitsOp .andNot k a b))
  | _ => none
def binS (op : BinOp) (a b : ByteArray) : Option PR :=
  match op with
  | .add => some ⟨some (((a.size + b.size : Nat) : Int) ≤ 9223372036854775807), .v (.string (a ++ b))⟩
  | .eql => pure? (.bool (eqS a b))
  | .neq => pure? (.bool (!eqS a b))
  | .lss => pure? (.bool (lessS a b))
  | .leq => pure? (.bool (lessS a b || eqS a b))
  | .gtr => pure? (.bool (!(lessS a b || eqS a b)))
  | .geq => pure? (.bool (!lessS a b))
  | _ => none
def binV (P : Program) (op : BinOp) (t : TypeId) (x y : Value) : Option PR :=
  match x, y with
  | .int k a, .int k' b => match op with
    | .shl => some ⟨some (0 ≤ b), .v (.int k (shlI k a b))⟩
    | .shr => some ⟨some (0 ≤ b), .v (.int k (shrI k a b))⟩
    | op => if sameK k k' then binI op k a b else none
  | .string a, .string b => binS op a b
  | .bool a, .bool b => match P.underlying t with
    | some .bool => match op with
      | .eql => pure? (.bool (a == b))
      | .neq => pure? (.bool (!(a == b)))
      | _ => none
    | _ => none
  | .agg xs, .agg ys => if P.eqGuardType P.depth t then none else
    match eqT P 100 t (.agg xs) (.agg ys) with
    | some r => match op with
      | .eql => pure? (.bool r)
      | .neq => pure? (.bool (!r))
      | _ => none
    | none => none
  | _, _ => none
def nilFits : Operand → Value → Bool
  | .const (.pointer none), .pointer _ => true
  | .const (.slice none _ _), .slice _ _ _ => true
  | .const (.map none), .map _ => true
  | _, _ => false
def binO (P : Program) (st : St) (op : BinOp) (t : TypeId) (x y : Operand) : Option PR :=
  match nilOperand y, st.val x, st.val y with
  | true, some vx, _ => if nilFits y vx && nilOk P t vx then match isNil vx with
      | some r => match op with
        | .eql => pure? (.bool r)
        | .neq => pure? (.bool (!r))
        | _ => none
      | none => none
    else none
  | false, some vx, some vy => binV P op t vx vy
  | _, _, _ => none
def loBound : Option Value → Option Int
  | none => some 0
  | some (.int _ n) => some n
  | _ => none
def hiBound (d : Nat) : Option Value → Option Int
  | none => some d
  | some (.int _ n) => some n
  | _ => none
def optVal (st : St) : Option Operand → Option (Option Value)
  | none => some none
  | some x => match st.val x with
    | some v => some (some v)
    | none => none
def sliceO (P : Program) (st : St) (t : TypeId) (x : Operand) (lo hi mx : Option Operand) : Option PR :=
  match st.val x, optVal st lo, optVal st hi, optVal st mx, P.underlying t with
  | some (.string s), some l, some h, some none, some .string =>
    match loBound l, hiBound s.size h with
    | some l, some h => some ⟨some (0 ≤ l ∧ l ≤ h ∧ h ≤ s.size), .v (.string (s.extract l.toNat h.toNat))⟩
    | _, _ => none
  | some (.slice a n c), some l, some h, some m, some (.slice e) =>
    match loBound l, hiBound n h, sizeT P e with
    | some l, some h', some sz => match m with
      | none => some ⟨some (0 ≤ l ∧ l ≤ h' ∧ h' ≤ c), .v (.slice (slA a l c sz) (h'.toNat - l.toNat) (c - l.toNat))⟩
      | some (.int _ m) => match h with
        | some _ => some ⟨some (0 ≤ l ∧ l ≤ h' ∧ h' ≤ m ∧ m ≤ c), .v (.slice (slA a l m.toNat sz) (h'.toNat - l.toNat) (m.toNat - l.toNat))⟩
        | none => none
      | _ => none
    | _, _, _ => none
  | _, _, _, _, _ => none
def buildPlaces (P : Program) : List Field → Option (List (Nat × Nat))
  | [] => some []
  | f :: fs => match sizeT P f.type, buildPlaces P fs with
    | some n, some l => some ((f.offset, n) :: l)
    | _, _ => none
def partVals (st : St) : List (Nat × Operand) → Option (List (Nat × Value))
  | [] => some []
  | (i, x) :: r => match st.val x, partVals st r with
    | some v, some l => some ((i, v) :: l)
    | _, _ => none
/-- Some cells put over others from a place on. -/
def over (cells : List Value) (off : Nat) (l : List Value) : List Value := cells.take off ++ l ++ cells.drop (off + l.length)
def cellsL : Value → List Value
  | .agg cs => cs.toList
  | v => [v]
def fillL (place : Nat → Option (Nat × Nat)) (cells : List Value) : List (Nat × Value) → Option (List Value)
  | [] => some cells
  | (i, v) :: rest => match place i with
    | none => none
    | some (off, size) => if (cellsL v).length = size then if off + size ≤ cells.length then fillL place (over cells off (cellsL v)) rest else none else none
def buildO (P : Program) (st : St) (t : TypeId) (parts : List (Nat × Operand)) : Option PR :=
  match zeroOf P t, P.underlying t, partVals st parts with
  | some (.agg z), some (.struct fs), some ps => match buildPlaces P fs.toList with
    | some pl => match fillL (fun i => pl[i]?) z.toList ps with
      | some l => pure? (.agg l.toArray)
      | none => none
    | none => none
  | _, _, _ => none
def pOp (P : Program) (bx : List Box) (st : St) (o : Oper) : Option PR :=
  match o.op with
  | .load t x => match st.ev x with
    | .loc b off => match bx.drop b with
      | c :: _ => match partOf P t c.cells off with
        | some v => some ⟨none, svOf P t v⟩
        | none => none
      | [] => none
    | _ => none
  | .move x => some ⟨none, st.ev x⟩
  | .assign x => some ⟨none, st.ev x⟩
  | .pick c a b => match st.ev c with
    | .kb c => some ⟨none, match c with | true => st.ev a | false => st.ev b⟩
    | .v (.bool c) => some ⟨none, mergeSV c (st.ev a) (st.ev b)⟩
    | _ => none
  | .extract x i => match st.ev x with
    | .v (.tuple vs) => match vs.toList.drop i with
      | v :: _ => pure? v
      | [] => none
    | _ => none
  | .field t x i => match st.ev x, P.underlying t with
    | .v (.agg cs), some (.struct fs) => match fs.toList.drop i with
      | f :: _ => match partOf P f.type cs.toList f.offset with
        | some v => some ⟨none, svOf P f.type v⟩
        | none => none
      | [] => none
    | _, _ => none
  | .fieldAddr t x i => match P.underlying t with
    | some (.struct fs) => match fs.toList.drop i with
      | f :: _ => match sizeT P f.type with
        | some (_ + 1) => match st.ev x with
          | .loc b o => some ⟨none, .loc b (o + f.offset)⟩
          | .v (.pointer a) => some ⟨some (a ≠ none), .v (.pointer (fldA a f.offset))⟩
          | _ => none
        | _ => none
      | [] => none
    | _ => none
  | .indexAddr t x i => match P.underlying t, st.ev x, st.ev i with
    | some (.slice e), .v (.slice a n _), .v (.int _ j) => match sizeT P e with
      | some sz => some ⟨some (a ≠ none ∧ 0 ≤ j ∧ j < n), .v (.pointer (elemA a j sz))⟩
      | none => none
    | some (.array n e), .v (.pointer a), .v (.int _ j) => match sizeT P e with
      | some sz => some ⟨some (a ≠ none ∧ 0 ≤ j ∧ j < n), .v (.pointer (elemA a j sz))⟩
      | none => none
    | _, _, _ => none
  | .index t x i => match P.underlying t, st.ev x, st.ev i with
    | some .string, .v (.string s), .v (.int _ j) => some ⟨some (0 ≤ j ∧ j < s.size), .v (.int .u8 (byteAt s j))⟩
    | _, _, _ => none
  | .unOp op _ x => match op, st.ev x with
    | .not, .kb b => some ⟨none, .kb (!b)⟩
    | .not, .v (.bool b) => pure? (.bool (!b))
    | .neg, .v (.int k n) => pure? (.int k (k.wrap (0 - n)))
    | _, _ => none
  | .binOp op t x y _ => binO P st op t x y
  | .convert src dst x => match P.underlying src, P.underlying dst, st.ev x with
    | some (.int _), some (.int k), .v (.int _ n) => pure? (.int k (k.wrap n))
    | some .string, some .string, .v (.string s) => pure? (.string s)
    | _, _, _ => none
  | .nilCheck x => match st.ev x with
    | .loc b o => some ⟨none, .loc b o⟩
    | .v (.pointer a) => some ⟨some (a ≠ none), .v (.pointer a)⟩
    | _ => none
  | .slice t x lo hi mx => sliceO P st t x lo hi mx
  | .build t parts => buildO P st t parts.toList
  | .makeFunc fn first captured => match st.vals first.toList, st.vals captured.toList with
    | some fs, some cs => pure? (.func fn fs.toArray cs.toArray)
    | _, _ => none
  | .makeInterface t x => match P.underlying t, st.val x with
    | some (.interface _), _ => none
    | some _, some v => pure? (.iface t v)
    | _, _ => none
  | .call { callee := .builtin b, args, argTypes } => match b, args.toList, argTypes.toList with
    | .len, [x], [t] => match P.underlying t, st.ev x with
      | some .string, .v (.string s) => pure? (.int .i64 s.size)
      | some (.slice _), .v (.slice _ n _) => pure? (.int .i64 n)
      | some (.array n _), _ => pure? (.int .i64 n)
      | _, _ => none
    | .cap, [x], [t] => match P.underlying t, st.ev x with
      | some (.slice _), .v (.slice _ _ c) => pure? (.int .i64 c)
      | _, _ => none
    | .max, [x, y], _ => match st.ev x, st.ev y with
      | .v (.int k a), .v (.int _ b) => pure? (.int k (maxI a b))
      | .v (.string a), .v (.string b) => pure? (.string (maxT a b))
      | _, _ => none
    | .min, [x, y], _ => match st.ev x, st.ev y with
      | .v (.int k a), .v (.int _ b) => pure? (.int k (minI a b))
      | _, _ => none
    | _, _, _ => none
  | _ => none
/-- Which operations leave the heap alone. -/
def quietOp (P : Program) (o : Oper) : Bool :=
  match o.op with
  | .move _ | .assign _ | .pick _ _ _ | .extract _ _ | .field _ _ _ | .fieldAddr _ _ _ | .indexAddr _ _ _ | .index _ _ _ | .unOp _ _ _ | .binOp _ _ _ _ _
  | .nilCheck _ | .slice _ _ _ _ _ | .build _ _ | .makeFunc _ _ _ | .makeInterface _ _ | .load _ _ | .lookup _ _ _ _ => true
  | .convert src dst _ => match P.underlying src, P.underlying dst with
    | some (.int _), some (.int _) => true
    | some .string, some .string => true
    | _, _ => false
  | .call { callee := .builtin b, args := _, argTypes } => match b, argTypes.toList with
    | .len, t :: _ => match P.underlying t with
      | some .string => true
      | some (.slice _) => true
      | some (.array _ _) => true
      | _ => false
    | .cap, _ => true
    | .max, _ => true
    | .min, _ => true
    | _, _ => false
  | _ => false
end Go.Vx
