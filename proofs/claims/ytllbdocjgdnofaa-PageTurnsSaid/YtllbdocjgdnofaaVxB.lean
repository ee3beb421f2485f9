/- The executor: what is to be shown of a function's code, as one condition. -/
import Derived.Test.YtllbdocjgdnofaaVxA
namespace Go.Vx

/-- What a prover tells of a function: which variables in memory others may see; of each loop (by the first region in it) the slots, and the slots of the boxes, that it changes and that live; of each block whose ways are to meet the same. -/
structure Cx where
  esc : List Tmp
  loops : List (Nat × List Tmp × List Nat)
  joins : List (Nat × List (Tmp × TypeId) × List Nat)
  rfs : List (Nat × List TypeId) := []

structure CallV (P : Program) (f : Value) (args : Array Value) (H : PHeap) (Q : Value → PHeap → Prop) : Prop where
  out : ∀ w, Sees H w → ∃ g xs, (do let d ← Deferred.ofValue f args; invoke d.target d.args : Sem Next).run P w = .ok (.enter g xs) w ∧
    Calls P g xs w fun e w' => ∃ v H', e = .returned v ∧ Nx H H' w w' ∧ Q v H'
/-- A function without a body, that the model carries out at once. -/
structure ExtV (P : Program) (f : FuncId) (args : Array Value) (H : PHeap) (K : Value → PHeap → Prop) : Prop where
  out : ∀ w, Sees H w → ∃ v w' H', (callFunc f args).run P w = .ok (.value v) w' ∧ Nx H H' w w' ∧ K v H'
/-- A function value that is called where no order is drawn: it may also be a loop's 'yield'. -/
structure CallY (P : Program) (f : Value) (args : Array Value) (H : PHeap) (Q : Value → PHeap → Prop) : Prop where
  out : ∀ w, Sees H w → (∃ g xs, (do let d ← Deferred.ofValue f args; invoke d.target d.args : Sem Next).run P w = .ok (.enter g xs) w ∧
      Calls P g xs w fun e w' => ∃ v H', e = .returned v ∧ Nx H H' w w' ∧ Q v H') ∨
    (∃ l g tmps assign body, (do let d ← Deferred.ofValue f args; invoke d.target d.args : Sem Next).run P w = .ok (.round l g tmps assign body) w ∧
      RoundIn (RF none) 0 P l g tmps assign body w fun e w' => ∃ v H', e = .returned v ∧ Nx H H' w w' ∧ Q v H')
/-- A function that can be ranged over: it hands on the list's elements, one by one, as long as that is asked. -/
structure IterOk (P : Program) (g : Value) (H : PHeap) (xs : List (List Value)) : Prop where
  out : ∀ (y : Value) (J : Nat → PHeap → Prop) (X : PHeap → Prop) (H0 : PHeap), J 0 H0 → (∀ i H', J i H' → Sub H H') →
    (∀ (i : Nat) x H', xs[i]? = some x → J i H' → CallY P y x.toArray H' fun v H'' => (v = .bool true ∧ J (i + 1) H'') ∨ (v = .bool false ∧ X H'')) →
    CallV P g #[y] H0 fun _ H' => J xs.length H' ∨ X H'
structure CallI (P : Program) (r : Value) (name : String) (args : Array Value) (H : PHeap) (Q : Value → PHeap → Prop) : Prop where
  out : ∀ w, Sees H w → ∃ g xs, (invoke (.fn (.method name) #[]) (#[r] ++ args)).run P w = .ok (.enter g xs) w ∧
    Calls P g xs w fun e w' => ∃ v H', e = .returned v ∧ Nx H H' w w' ∧ Q v H'

def goodF (P : Program) (f : FuncId) : Bool :=
  match P.funcs[f]? with
  | some fn => fn.body.isSome && !(fn.name == "runtime.NumGoroutine")
  | none => false

def zerosOf (P : Program) : List TypeId → Option (List Value)
  | [] => some []
  | t :: ts => match zeroOf P t, zerosOf P ts with
    | some z, some zs => some (z :: zs)
    | _, _ => none
/-- The value of a result of a type, and how a slot holds it. -/
def exR (P : Program) (t : TypeId) (K : Value → SV → Prop) : Prop :=
  match P.underlying t with
  | some (.tuple ts) => match zerosOf P ts.toList with
    | some zs => exVs zs fun l => K (.tuple l.toArray) (.v (.tuple l.toArray))
    | none => False
  | some _ => match zeroOf P t with
    | some z => exV z fun v => K v (svOf P t v)
    | none => False
  | none => False

def vLoad (P : Program) (H : PHeap) (st : St) (t : TypeId) (x : Operand) (K : SV → Prop) : Prop :=
  match st.ev x with
  | .v (.pointer oa) => match aggT P t, zeroOf P t, sizeT P t with
    | some true, some (.agg z), some n => if z.size = n then exLs z.toList fun l => Reads H oa l ∧ K (.v (.agg l.toArray)) else False
    | some false, some z, _ => exLeaf z fun v => Reads H oa [v] ∧ K (svOf P t v)
    | _, _, _ => False
  | _ => False
def vQuiet (P : Program) (H : PHeap) (bx : List Box) (st : St) (o : Oper) (K : SV → Prop) : Prop :=
  match pOp P bx st o with
  | some ⟨none, sv⟩ => K sv
  | some ⟨some p, sv⟩ => Ob p ∧ K sv
  | none => match o.op with
    | .load t x => vLoad P H st t x K
    | .lookup t m k ok => match st.val m, st.val k, P.underlying t with
      | some m, some k, some (.map _ e) => match zeroOf P e with
        | some z => LookV P (Instr.lookup t m k ok) H fun v => exV z fun x =>
            if ok then ∃ b : Bool, v = .tuple #[x, .bool b] ∧ K (.v (.tuple #[x, .bool b])) else v = x ∧ K (svOf P e x)
        | none => False
      | _, _, _ => False
    | _ => False
def okCell : Value → Bool
  | .agg _ => false
  | .tuple _ => false
  | _ => true
/-- The cells of a value that is put into memory. -/
def okThen (sv : SV) (v : Value) (K : List Value → Prop) : Prop :=
  match sv with
  | .fv u => Ob (okCell u = true) ∧ K [u]
  | _ => if (cellsL v).all okCell = true then K (cellsL v) else False
def setNth (l : List Box) (b : Nat) (c : Box) : List Box := l.set b c
def escapes (cx : Cx) (dst : Option Tmp) : Bool := match dst with | some d => cx.esc.contains d | none => true
def vNew (cx : Cx) (dst : Option Tmp) (st : St) (H : PHeap) (t : TypeId) (cells : List Value) (K : SV → St → PHeap → Prop) : Prop :=
  if escapes cx dst = true then
    ∀ b, H b = none → K (.v (.pointer (some ⟨b, 0, none⟩))) st (H.upd b (.cells cells.toArray t (0, 0)))
  else K (.loc st.bx.length 0) { st with bx := st.bx ++ [⟨cells, t, false⟩] } H
def evR (P : Program) (t : TypeId) (s : Sem Value) (st : St) (H : PHeap) (K : SV → St → PHeap → Prop) : Prop :=
  EvV P s H fun v H' => exR P t fun x sv => v = x ∧ K sv st H'
def vCall (P : Program) (lc : Bool) (st : St) (H : PHeap) (o : Oper) (c : Call) (K : SV → St → PHeap → Prop) : Prop :=
  match c.callee, st.vals c.args.toList with
  | .value f, some args => match st.ev f with
    | .v (.func (.func g) first captured) => if goodF P g then
        Triple P g (first.toList ++ args ++ captured.toList).toArray H fun v H' => exR P o.type fun x sv => v = x ∧ K sv st H'
      else ExtV P g (first.toList ++ args ++ captured.toList).toArray H fun v H' => exR P o.type fun x sv => v = x ∧ K sv st H'
    | .fv f => match lc with
      | true => CallY P f args.toArray H fun v H' => exR P o.type fun x sv => v = x ∧ K sv st H'
      | false => CallV P f args.toArray H fun v H' => exR P o.type fun x sv => v = x ∧ K sv st H'
    | _ => False
  | .invoke r name, some args => match st.val r with
    | some r => CallI P r name args.toArray H fun v H' => exR P o.type fun x sv => v = x ∧ K sv st H'
    | none => False
  | .builtin b, some args => match b with
    | .append => evR P o.type (Builtin.append_ c.argTypes o.type args.toArray) st H K
    | .copy => evR P o.type (Builtin.copy_ c.argTypes o.type args.toArray) st H K
    | .delete => EvV P (Builtin.delete_ c.argTypes o.type args.toArray) H fun v H' => K .unk st H'
    | .clear => EvV P (Builtin.clear_ c.argTypes o.type args.toArray) H fun v H' => K .unk st H'
    | .len => evR P o.type (Builtin.len_ c.argTypes o.type args.toArray) st H K
    | .max => evR P o.type (Builtin.max_ c.argTypes o.type args.toArray) st H K
    | .min => evR P o.type (Builtin.min_ c.argTypes o.type args.toArray) st H K
    | _ => False
  | _, none => False
/-- The types of what a slot's tuple holds, as the prover tells them. -/
def tysAt (cx : Cx) (dst : Option Tmp) : Option (List TypeId) := match dst with
  | some d => (cx.rfs.filter fun x => x.1 == d).head?.map (·.2)
  | none => none
def vEff (cx : Cx) (P : Program) (lc : Bool) (st : St) (H : PHeap) (o : Oper) (K : SV → St → PHeap → Prop) : Prop :=
  match o.op with
  | .store t a x => match st.ev a, st.val x, sizeT P t with
    | .loc b off, some v, some n => okThen (st.ev x) v fun l => match lc, st.bx.drop b with
      | true, c :: _ => if c.fz then False else
          if l.length = n ∧ off + n ≤ c.cells.length then K .unk { st with bx := setNth st.bx b { c with cells := over c.cells off l } } H else False
      | _, _ => False
    | .v (.pointer oa), some v, some n => okThen (st.ev x) v fun l => if l.length = n then ∃ H', Writes H H' oa l ∧ K .unk st H' else False
    | _, _, _ => False
  | .alloc t => match zeroOf P t with
    | some z => vNew cx o.dst st H t (cellsL z) K
    | none => False
  | .box t x => match st.val x with
    | some v => okThen (st.ev x) v fun l => vNew cx o.dst st H t l K
    | none => False
  | .buildSlice t len parts => match P.underlying t, partVals st parts.toList with
    | some (.slice e), some ps => match sizeT P e, zeroOf P e with
      | some n, some z => match decide (len * n ≤ 16777216), decide ((cellsL z).length = n), fillL (fun i => some (i * n, n)) (List.replicate len (cellsL z)).flatten ps with
        | true, true, some cells => ∀ b, H b = none → K (.v (.slice (some ⟨b, 0, none⟩) len len)) st (H.upd b (.cells cells.toArray e (0, 0)))
        | _, _, _ => False
      | _, _ => False
    | _, _ => False
  | .call c => vCall P lc st H o c K
  | .mapUpdate t m k x => match st.val m, st.val k, st.val x with
    | some m, some k, some x => EvU P (Instr.mapUpdate t m k x) H fun H' => K .unk st H'
    | _, _, _ => False
  | .insert t m k x => match st.val m, st.val k, st.val x with
    | some m, some k, some x => EvU P (Instr.mapUpdate t m k x) H fun H' => K .unk st H'
    | _, _, _ => False
  | .mapEntry t m k => match st.val m, st.val k, P.underlying t with
    | some m, some k, some (.map _ e) => match zeroOf P e with
      | some z => EvV P (Instr.mapEntry t m k) H fun v H' => exV z fun x => ∃ n : Int, v = .tuple #[x, .int .i64 n] ∧ K (.v (.tuple #[x, .int .i64 n])) st H'
      | none => False
    | _, _, _ => False
  | .entryStore t m s x => match st.val m, st.val s, st.val x with
    | some m, some s, some x => EvU P (Instr.entryStore t m s x) H fun H' => K .unk st H'
    | _, _, _ => False
  | .makeMap t r => match optVal st r with
    | some r => EvV P (Instr.makeMap t r) H fun v H' => ∃ m : Option Nat, v = .map m ∧ K (.v (.map m)) st H'
    | none => False
  | .makeSlice t l c => match st.val l, st.val c with
    | some l, some c => EvV P (Instr.makeSlice t l c) H fun v H' => ∃ (a : Option Addr) (n c : Nat), v = .slice a n c ∧ K (.v (.slice a n c)) st H'
    | _, _ => False
  | .range t x => match st.val x with
    | some x => EvV P (Instr.range t x) H fun v H' => ∃ a : Option Addr, v = .pointer a ∧ K (.v (.pointer a)) st H'
    | none => False
  | .next it s => match st.val it with
    | some it => EvV P (Instr.next it s o.type) H fun v H' => (v = .tuple #[.bool false] ∧ K (.v (.tuple #[.bool false])) st H') ∨
        match s with
        | true => ∃ i c : Int, v = .tuple #[.bool true, .int .i64 i, .int .i32 c] ∧ K (.v (.tuple #[.bool true, .int .i64 i, .int .i32 c])) st H'
        | false => ∃ k x : Value, v = .tuple #[.bool true, k, x] ∧ K (.v (.tuple #[.bool true, k, x])) st H'
    | none => False
  | .entry it => match st.val it, tysAt cx o.dst with
    | some it, some ts => match zerosOf P ts with
      | some zs => EvV P (Instr.entry it) H fun v H' => exVs zs fun l => v = .tuple l.toArray ∧ K (.v (.tuple l.toArray)) st H'
      | none => False
    | _, _ => False
  | .convert src dst x => match st.val x with
    | some x => evR P dst (Go.convert src dst x) st H K
    | none => False
  | .typeAssert x xt at_ ok => match st.val x with
    | some x => evR P o.type (Instr.typeAssert x xt at_ ok) st H K
    | none => False
  | _ => False
/-- The mode: the order of the text, or an order that is drawn (then loads look at a part of the heap that nothing turns). -/
structure Dm where
  hs : PHeap
  bx : List Box
  on : Bool
def predsOf (o : Oper) : List Nat := (o.after.toList.filter fun e => Region.binds .any e).map (·.on)
/-- What an operation waits for, and what that waits for. -/
def ancs (ops : Array Oper) : Nat → List Nat → List Nat → List Nat
  | 0, _, vis => vis
  | _ + 1, [], vis => vis
  | f + 1, j :: st, vis => if vis.contains j = true then ancs ops f st vis else
      ancs ops f ((match ops[j]? with | some o => predsOf o | none => []) ++ st) (j :: vis)
def isLoad (o : Oper) : Bool :=
  match o.op with
  | .load _ _ => true
  | .lookup _ _ _ _ => true
  | _ => false
def loadsOf (ops : Array Oper) : List Nat := (List.range ops.size).filter fun i => match ops[i]? with | some o => isLoad o | none => false
/-- Is there a load for which an operation does not wait? -/
def keepB (ops : Array Oper) (j : Nat) : Bool :=
  match ops[j]? with
  | some o => (loadsOf ops).any fun q => !(ancs ops 1000 (predsOf o) []).contains q
  | none => false
/-- Behind these operations no load looks at what they turn. -/
def dropB (P : Program) (ops : Array Oper) (l : List Nat) : Bool := l.all fun j => match ops[j]? with
  | some o => quietOp P o || !keepB ops j
  | none => true
def vStep (cx : Cx) (P : Program) (dm : Option Dm) (drop : Bool) (st : St) (H : PHeap) (o : Oper) (K : Option Dm → SV → St → PHeap → Prop) : Prop :=
  match dm with
  | none => if quietOp P o then vQuiet P H st.bx st o (fun sv => K none sv st H) else vEff cx P true st H o (K none)
  | some d => if quietOp P o then vQuiet P d.hs d.bx st o (fun sv => K (some d) sv st H) else
    match d.on with
    | true => match drop with
      | true => vEff cx P false st H o (K (some ⟨fun _ => none, d.bx, false⟩))
      | false => vEff cx P false st H o (fun sv st' H' => Sub d.hs H' ∧ K (some d) sv st' H')
    | false => vEff cx P false st H o (K (some d))

def dstOf (ops : Array Oper) (j : Nat) : Option Tmp :=
  match ops[j]? with
  | some o => o.dst
  | none => none
def writtenAt (ops : Array Oper) : List Nat → List Tmp
  | [] => []
  | i :: is => match dstOf ops i with
    | some d => d :: writtenAt ops is
    | none => writtenAt ops is
def pure1 (P : Program) (bx : List Box) (st : St) (o : Oper) : Option SV :=
  if quietOp P o then match pOp P bx st o with
    | some ⟨none, sv⟩ => some sv
    | _ => none
  else none
/-- The slot that decides whether an operation is wanted. -/
def guardSlot (ops : Array Oper) (o : Oper) : Option (Option Tmp × Bool) :=
  match o.guard with
  | none => some (none, true)
  | some (j, want) => match dstOf ops j with
    | some t => some (some t, want)
    | none => none
/-- The operations of a list, if none is a step of memory: ways meet again. -/
def pOps (P : Program) (bx : List Box) (ops : Array Oper) : List Nat → St → Option St
  | [], st => some st
  | i :: is, st => match ops[i]? with
    | none => none
    | some o => match guardSlot ops o with
      | none => none
      | some (none, _) => match pure1 P bx st o with
        | some sv => pOps P bx ops is (st.put o.dst sv)
        | none => none
      | some (some t, want) => match st.get t with
        | .kb b => match b == want with
          | true => match pure1 P bx st o with
            | some sv => pOps P bx ops is (st.put o.dst sv)
            | none => none
          | false => pOps P bx ops is (st.put o.dst (.v undef))
        | .v (.bool b) => match pure1 P bx (st.kbAt (.tmp t) want) o with
          | some sv => match pOps P bx ops is ((st.kbAt (.tmp t) want).put o.dst sv), pOps P bx ops is ((st.kbAt (.tmp t) (!want)).put o.dst (.v undef)) with
            | some s1, some s2 => some { st with tm := match want with
                | true => mergeTm b (writtenAt ops (i :: is)) 0 st.tm s1.tm s2.tm
                | false => mergeTm b (writtenAt ops (i :: is)) 0 st.tm s2.tm s1.tm }
            | _, _ => none
          | none => none
        | .v (.tuple _) => pOps P bx ops is (st.put o.dst (.v undef))
        | _ => none
def dmBx (dm : Option Dm) (st : St) : List Box :=
  match dm with
  | none => st.bx
  | some d => d.bx
def vOps (cx : Cx) (P : Program) (ops : Array Oper) : Option Dm → List Nat → St → PHeap → (St → PHeap → Prop) → Prop
  | _, [], st, H, K => K st H
  | dm, i :: is, st, H, K => match ops[i]? with
    | none => False
    | some o => match guardSlot ops o with
      | none => False
      | some (none, _) => vStep cx P dm (dropB P ops (i :: is)) st H o fun dm sv st H => vOps cx P ops dm is (st.put o.dst sv) H K
      | some (some t, want) => match st.get t with
        | .kb b => match b == want with
          | true => vStep cx P dm (dropB P ops (i :: is)) st H o fun dm sv st H => vOps cx P ops dm is (st.put o.dst sv) H K
          | false => vOps cx P ops dm is (st.put o.dst (.v undef)) H K
        | .v (.bool b) => match pOps P (dmBx dm st) ops (i :: is) st with
          | some st' => K st' H
          | none => (b = want → vStep cx P dm (dropB P ops (i :: is)) (st.kbAt (.tmp t) want) H o fun dm sv st H => vOps cx P ops dm is (st.put o.dst sv) H K) ∧
              (b = (!want) → vOps cx P ops dm is ((st.kbAt (.tmp t) (!want)).put o.dst (.v undef)) H K)
        | .v (.tuple _) => vOps cx P ops dm is (st.put o.dst (.v undef)) H K
        | _ => False

def firstQuiet (P : Program) (ops : Array Oper) : List Nat → Option Nat
  | [] => none
  | i :: is => match ops[i]? with
    | some o => if quietOp P o then some i else firstQuiet P ops is
    | none => none
def canon (P : Program) (ops : Array Oper) : Nat → Array Bool → List Nat
  | 0, _ => []
  | f + 1, listed => match firstQuiet P ops (Region.ready .any ops listed) with
    | some i => i :: canon P ops f (listed.setIfInBounds i true)
    | none => match Region.ready .any ops listed with
      | i :: _ => i :: canon P ops f (listed.setIfInBounds i true)
      | [] => []
def drawOk (P : Program) (ops : Array Oper) : Nat → Array Bool → List Nat → Bool
  | 0, listed, [] => (Region.ready .any ops listed).isEmpty
  | f + 1, listed, i :: is => (match ops[i]? with
      | some o => if quietOp P o then Region.free .any ops listed i && (Region.ready .any ops listed).contains i else Region.ready .any ops listed == [i]
      | none => false) && drawOk P ops f (listed.setIfInBounds i true) is
  | _, _, _ => false

/-! ### Orders that are drawn, with new blocks among what may come up -/
/-- Operations that do nothing but make a block. -/
def isFl0 (cx : Cx) (o : Oper) : Bool :=
  match o.op with
  | .alloc _ => escapes cx o.dst
  | .box _ _ => escapes cx o.dst
  | .buildSlice _ _ _ => true
  | _ => false
def isFloat (cx : Cx) (P : Program) (ops : Array Oper) (f : Nat) : Bool :=
  match ops[f]? with
  | some o => isFl0 cx o && !quietOp P o && o.guard.isNone && (match o.dst with | some d => !(o.looksAt ops).contains d | none => false) && ((List.range ops.size).all fun j => j == f || dstOf ops j != o.dst) && (predsOf o).all fun p => match ops[p]? with
    | some q => !isFl0 cx q
    | none => false
  | none => false
/-- Nothing that an operation waits for is still to come. -/
def readyF (ops : Array Oper) (l : List Nat) (f : Nat) : Bool :=
  match ops[f]? with
  | some o => (predsOf o).all fun p => decide (p < ops.size) && !l.contains p
  | none => false
def floatsOf (cx : Cx) (P : Program) (ops : Array Oper) (l : List Nat) : List Nat := l.filter fun f => isFloat cx P ops f && readyF ops l f
def rdy (ops : Array Oper) (u : List Nat) : List Nat := u.filter fun j => readyF ops u j
/-- What the new block holds. -/
def fcells (P : Program) (st : St) (o : Oper) : Option (List Value × TypeId) :=
  match o.op with
  | .alloc t => match zeroOf P t with
    | some z => some (cellsL z, t)
    | none => none
  | .box t x => match st.val x with
    | some v => some (cellsL v, t)
    | none => none
  | .buildSlice t len parts => match P.underlying t, partVals st parts.toList with
    | some (.slice e), some ps => match sizeT P e, zeroOf P e with
      | some n, some z => match decide (len * n ≤ 16777216), decide ((cellsL z).length = n), fillL (fun i => some (i * n, n)) (List.replicate len (cellsL z)).flatten ps with
        | true, true, some cells => some (cells, e)
        | _, _, _ => none
      | _, _ => none
    | _, _ => none
  | _ => none
def flOk (cx : Cx) (P : Program) (ops : Array Oper) (l : List Nat) (st : St) : Bool := (floatsOf cx P ops l).all fun f => match ops[f]? with
  | some o => (fcells P st o).isSome
  | none => false
def freeL (ops : Array Oper) (l : List Nat) (i : Nat) (o : Oper) : Bool := l.all fun j => j == i || match ops[j]? with
  | none => true
  | some oj => (predsOf oj).contains i || o.apart ops oj
def fdrawOk (cx : Cx) (P : Program) (ops : Array Oper) : List Nat → Bool
  | [] => true
  | i :: is => (match ops[i]? with
      | some o => !is.contains i && readyF ops (i :: is) i && ((floatsOf cx P ops (i :: is)).all fun f => match ops[f]? with | some q => (i :: floatsOf cx P ops (i :: is)).all fun g => g == f || (match ops[g]? with | some p => p.apart ops q | none => false) | none => false) &&
          if quietOp P o then freeL ops is i o else rdy ops ((i :: is).filter fun j => !(floatsOf cx P ops (i :: is)).contains j || j == i) == [i]
      | none => false) && fdrawOk cx P ops is
def fcanon (cx : Cx) (P : Program) (ops : Array Oper) : Nat → List Nat → List Nat
  | 0, _ => []
  | f + 1, u => match (rdy ops u).find? fun i => match ops[i]? with | some o => quietOp P o | none => false with
    | some i => i :: fcanon cx P ops f (u.filter fun j => j != i)
    | none => match (rdy ops u).find? fun i => !isFloat cx P ops i with
      | some i => i :: fcanon cx P ops f (u.filter fun j => j != i)
      | none => match (rdy ops u).find? fun i => rdy ops (u.filter fun j => !(rdy ops u).contains j || j == i) == [i] with
        | some i => i :: fcanon cx P ops f (u.filter fun j => j != i)
        | none => []
def flDsts (cx : Cx) (P : Program) (ops : Array Oper) : List Tmp := (List.range ops.size).filterMap fun f => if isFloat cx P ops f then dstOf ops f else none
def fOps (cx : Cx) (P : Program) (ops : Array Oper) : Dm → List Nat → St → PHeap → (St → PHeap → Prop) → Prop
  | _, [], st, H, K => K st H
  | d, i :: is, st, H, K => match flOk cx P ops (i :: is) st with
    | false => False
    | true => match ops[i]? with
      | none => False
      | some o => match guardSlot ops o with
        | none => False
        | some (none, _) => vStep cx P (some d) (dropB P ops (i :: is)) st H o fun dm sv st H => match dm with
          | some d => fOps cx P ops d is (st.put o.dst sv) H K
          | none => False
        | some (some t, want) => match st.get t with
          | .kb b => match b == want with
            | true => vStep cx P (some d) (dropB P ops (i :: is)) st H o fun dm sv st H => match dm with
              | some d => fOps cx P ops d is (st.put o.dst sv) H K
              | none => False
            | false => fOps cx P ops d is (st.put o.dst (.v undef)) H K
          | .v (.bool b) => (b = want → vStep cx P (some d) (dropB P ops (i :: is)) (st.kbAt (.tmp t) want) H o fun dm sv st H => match dm with
              | some d => fOps cx P ops d is (st.put o.dst sv) H K
              | none => False) ∧
              (b = (!want) → fOps cx P ops d is ((st.kbAt (.tmp t) (!want)).put o.dst (.v undef)) H K)
          | .v (.tuple _) => fOps cx P ops d is (st.put o.dst (.v undef)) H K
          | _ => False

def writtenOps (ops : Array Oper) : List Tmp := ops.toList.filterMap (·.dst)
def writtenC : Code → List Tmp
  | .region _ ops _ => writtenOps ops
  | .seq a b => writtenC a ++ writtenC b
  | .cond _ a b => writtenC a ++ writtenC b
  | .block _ a => writtenC a
  | .loop a => writtenC a
  | .scope a => writtenC a
  | _ => []
/-- Code without a step of memory, that ends where it ends. -/
def pCode (P : Program) : Code → St → Option St
  | .skip, st => some st
  | .region _ ops false, st => pOps P st.bx ops (List.range ops.size) st
  | .seq a b, st => match pCode P a st with
    | some st => pCode P b st
    | none => none
  | .cond c a b, st => match st.ev c with
    | .kb true => pCode P a st
    | .kb false => pCode P b st
    | .v (.bool t) => match pCode P a (st.kbAt c true), pCode P b (st.kbAt c false) with
      | some s1, some s2 => some { st with tm := mergeTm t (writtenC a ++ writtenC b) 0 st.tm s1.tm s2.tm }
      | _, _ => none
    | _ => none
  | _, _ => none

def find? {α : Type} (k : Nat) : List (Nat × α) → Option α
  | [] => none
  | (j, x) :: l => if j == k then some x else find? k l
def keyOf : Code → Nat
  | .region id _ _ => id
  | .seq a _ => keyOf a
  | .block _ a => keyOf a
  | .loop a => keyOf a
  | .cond _ a _ => keyOf a
  | _ => 0
def slotVals (st : St) : List Tmp → Option (List Value)
  | [] => some []
  | t :: ts => match (st.get t).val?, slotVals st ts with
    | some v, some vs => some (v :: vs)
    | _, _ => none
def boxVals (st : St) : List Nat → Option (List Value)
  | [] => some []
  | b :: bs => match st.bx.drop b, boxVals st bs with
    | c :: _, some vs => if c.fz then none else some (.agg c.cells.toArray :: vs)
    | _, _ => none
def genVals (st : St) (ts : List Tmp) (bs : List Nat) : Option (List Value) :=
  match slotVals st ts, boxVals st bs with
  | some a, some b => some (a ++ b)
  | _, _ => none
def forget (W : List Tmp) : Nat → List SV → List SV
  | _, [] => []
  | i, x :: xs => (if W.contains i then .unk else x) :: forget W (i + 1) xs
def isFv : SV → Bool
  | .fv _ => true
  | _ => false
def setSlots (tm : List SV) (fvs : List Bool) : List Tmp → List Value → List SV × List Value
  | t :: ts, v :: vs => match fvs with
    | true :: fs => setSlots (tm.set t (.fv v)) fs ts vs
    | _ :: fs => setSlots (tm.set t (.v v)) fs ts vs
    | [] => setSlots (tm.set t (.v v)) [] ts vs
  | _, vs => (tm, vs)
/-- Boxes that are not in bs may not be written any more. -/
def freezeBut (bs : List Nat) : Nat → List Box → List Box
  | _, [] => []
  | i, c :: cs => (if bs.contains i then c else { c with fz := true }) :: freezeBut bs (i + 1) cs
/-- Boxes with new cells. -/
def putBoxes (l : List (Nat × List Value)) : Nat → List Box → List Box
  | _, [] => []
  | i, c :: cs => (match find? i l with
      | some cells => { c with cells := cells }
      | none => c) :: putBoxes l (i + 1) cs
def zipBoxes : List Nat → List Value → List (Nat × List Value)
  | b :: bs, v :: vs => (b, cellsL v) :: zipBoxes bs vs
  | _, _ => []
/-- The state at a place where ways meet: of the slots in W the values told, else nothing known. -/
def meetSt (st : St) (W : List Tmp) (fvs : List Bool) (ts : List Tmp) (bs : List Nat) (l : List Value) : St :=
  match setSlots (forget W 0 st.tm) fvs ts l with
  | (tm, rest) => { tm := tm, bx := putBoxes (zipBoxes bs rest) 0 st.bx }
def frozenSt (bs : List Nat) (st : St) : St := { st with bx := freezeBut bs 0 st.bx }
def locIdx (st : St) : List Tmp → Option (List Nat)
  | [] => some []
  | t :: ts => match st.get t, locIdx st ts with
    | .loc b 0, some bs => some (b :: bs)
    | _, _ => none
def unfreeze : List Box → List Box → List Box
  | c :: cs, d :: ds => { d with fz := c.fz } :: unfreeze cs ds
  | _, ds => ds
abbrev Rl := List Value → PHeap → Prop
abbrev Mu := List Value → PHeap → Nat
structure Less (a b : Nat) : Prop where
  out : a < b
/-- What is carried: of each way that comes, the values and the heap. -/
def carried (zs : List Value) (st : St) (ts : List Tmp) (bs : List Nat) (n : Nat) (R : List Value → Prop) : Prop :=
  match genVals st ts bs with
  | some l => if fitVs zs l = true ∧ n ≤ st.bx.length then R l else False
  | none => False
abbrev at0 (b : Nat) : Option Addr := some ⟨b, 0, none⟩
structure Nth (l : List (List Value)) (i : Nat) (x : List Value) : Prop where
  out : l[i]? = some x
structure FitAll (zs : List Value) (xs : List (List Value)) : Prop where
  out : ∀ x ∈ xs, fitVs zs x = true
/-- Code whose regions draw no order, without a loop over a function. -/
def plainC : Code → Bool
  | .region _ _ d => !d
  | .seq a b => plainC a && plainC b
  | .cond _ a b => plainC a && plainC b
  | .block _ a => plainC a
  | .loop a => plainC a
  | .rangeFunc _ _ _ _ => false
  | .scope _ => false
  | _ => true
def exitsC : Code → List Nat
  | .seq a b => exitsC a ++ exitsC b
  | .cond _ a b => exitsC a ++ exitsC b
  | .block _ a => exitsC a
  | .loop a => exitsC a
  | .exit id => [id]
  | _ => []
def retsC : Code → Bool
  | .seq a b => retsC a || retsC b
  | .cond _ a b => retsC a || retsC b
  | .block _ a => retsC a
  | .loop a => retsC a
  | .ret => true
  | _ => false
def eachOf (K : Nat → Prop) : List Nat → Prop
  | [] => True
  | [j] => K j
  | j :: js => K j ∧ eachOf K js
/-- The slots of the loop's variables. -/
def bindPs (st : St) (tys : List Bool) : List Tmp → List Value → St
  | t :: ts, v :: vs => match tys with
    | true :: fs => bindPs { st with tm := st.tm.set t (.fv v) } fs ts vs
    | _ :: fs => bindPs { st with tm := st.tm.set t (.v v) } fs ts vs
    | [] => bindPs { st with tm := st.tm.set t (.v v) } [] ts vs
  | _, _ => st
def vCode (cx : Cx) (P : Program) : Code → St → PHeap → (St → PHeap → Prop) → (Nat → St → PHeap → Prop) → (St → PHeap → Prop) → Prop
  | .skip, st, H, Kn, _, _ => Kn st H
  | .label _, st, H, Kn, _, _ => Kn st H
  | .region _ ops false, st, H, Kn, _, _ => vOps cx P ops none (List.range ops.size) st H Kn
  | .region _ ops true, st, H, Kn, _, _ =>
    match P.follows .mixedOrders && Region.noSelect ops && drawOk P ops ops.size (Array.replicate ops.size false) (canon P ops ops.size (Array.replicate ops.size false)) with
    | true => ∃ Hs, Sub Hs H ∧ vOps cx P ops (some ⟨Hs, st.bx, true⟩) (canon P ops ops.size (Array.replicate ops.size false)) st H Kn
    | false => match P.follows .mixedOrders && Region.noSelect ops && fdrawOk cx P ops (fcanon cx P ops ops.size (List.range ops.size)) && (List.range ops.size).all fun j => (fcanon cx P ops ops.size (List.range ops.size)).contains j with
      | true => ∃ Hs, Sub Hs H ∧ fOps cx P ops ⟨Hs, st.bx, true⟩ (fcanon cx P ops ops.size (List.range ops.size)) { st with tm := forget (flDsts cx P ops) 0 st.tm } H Kn
      | false => False
  | .seq a b, st, H, Kn, Kx, Kr => vCode cx P a st H (fun st H => vCode cx P b st H Kn Kx Kr) Kx Kr
  | .cond c a b, st, H, Kn, Kx, Kr => match st.ev c with
    | .kb true => vCode cx P a st H Kn Kx Kr
    | .kb false => vCode cx P b st H Kn Kx Kr
    | .v (.bool t) => match pCode P a (st.kbAt c true), pCode P b (st.kbAt c false) with
      | some s1, some s2 => Kn { st with tm := mergeTm t (writtenC a ++ writtenC b) 0 st.tm s1.tm s2.tm } H
      | _, _ => (t = true → vCode cx P a (st.kbAt c true) H Kn Kx Kr) ∧ (t = false → vCode cx P b (st.kbAt c false) H Kn Kx Kr)
    | _ => False
  | .block id body, st, H, Kn, Kx, Kr => match find? id cx.joins with
    | none => vCode cx P body st H Kn (fun j st' H' => if j = id then Kn st' H' else Kx j st' H') Kr
    | some (ts, bts) => match locIdx st bts with
     | none => False
     | some bs => match zerosOf P (ts.map (·.2)), boxVals st bs with
      | some zs, some zb => ∃ R : List Value → PHeap → Prop,
          (allVs (zs ++ zb) fun l => ∀ H', R l H' → Kn (meetSt st (writtenC body) (ts.map fun t => opaqueT P t.2) (ts.map (·.1)) bs l) H') ∧
          vCode cx P body (frozenSt bs st) H
            (fun st' H' => carried (zs ++ zb) st' (ts.map (·.1)) bs st.bx.length fun l => R l H')
            (fun j st' H' => if j = id then carried (zs ++ zb) st' (ts.map (·.1)) bs st.bx.length fun l => R l H' else Kx j { st' with bx := unfreeze st.bx st'.bx } H')
            (fun st' H' => Kr { st' with bx := unfreeze st.bx st'.bx } H')
      | _, _ => False
  | .loop body, st, H, _, Kx, Kr => match find? (keyOf body) cx.loops with
    | none => False
    | some (ts, bts) => match locIdx st bts with
     | none => False
     | some bs => match genVals st ts bs with
      | none => False
      | some zs => ∃ (R : List Value → PHeap → Prop) (μ : List Value → PHeap → Nat), R zs H ∧
          allVs zs fun l => ∀ H', R l H' →
            vCode cx P body (frozenSt bs (meetSt st (writtenC body) (ts.map fun t => isFv (st.get t)) ts bs l)) H'
              (fun st' H'' => carried zs st' ts bs st.bx.length fun l' => R l' H'' ∧ Less (μ l' H'') (μ l H'))
              (fun j st' H'' => Kx j { st' with bx := unfreeze st.bx st'.bx } H'')
              (fun st' H'' => Kr { st' with bx := unfreeze st.bx st'.bx } H'')
  | .rangeFunc g ps assign body, st, H, Kn, Kx, Kr => match st.val g, find? (ps.toList.headD 0) cx.rfs with
    | some gv, some tys => match zerosOf P tys, st.bx with
      | some zs, [] => match plainC assign && plainC body && ps.size == tys.length with
        | true => ∃ (xs : List (List Value)) (J X : Nat → PHeap → Prop) (Hr : PHeap), Sub Hr H ∧ IterOk P gv Hr xs ∧ FitAll zs xs ∧ (∀ i H', J i H' → Sub Hr H') ∧ J 0 H ∧
            (allVs zs fun l => ∀ (i : Nat) H', Nth xs i l → J i H' →
              vCode cx P assign (bindPs st (tys.map (opaqueT P)) ps.toList l) H' (fun st1 H1 =>
                vCode cx P body st1 H1 (fun _ H'' => J (i + 1) H'') (fun j _ H'' => if (exitsC body).contains j = true then X (j + 1) H'' else False) (fun _ H'' => if retsC body = true then X 0 H'' else False))
                (fun _ _ _ => False) (fun _ _ => False)) ∧
            (∀ H', J xs.length H' → Kn st H') ∧ eachOf (fun j => ∀ H', X (j + 1) H' → Kx j st H') (exitsC body) ∧ (if retsC body = true then ∀ H', X 0 H' → Kr st H' else True)
        | false => False
      | _, _ => False
    | _, _ => False
  | .exit id, st, H, _, Kx, _ => Kx id st H
  | .ret, st, H, _, _, Kr => Kr st H
  | _, _, _, _, _, _ => False

def resVals (P : Program) (st : St) : List ResultVar → Option (List Value)
  | [] => some []
  | .tmp t :: rs => match (st.get t).val?, resVals P st rs with
    | some v, some vs => some (v :: vs)
    | _, _ => none
  | .cell a t :: rs => match st.get a with
    | .loc b off => match st.bx.drop b with
      | c :: _ => match partOf P t c.cells off, resVals P st rs with
        | some v, some vs => some (v :: vs)
        | _, _ => none
      | [] => none
    | _ => none
def retVal : List Value → Value
  | [v] => v
  | l => .tuple l.toArray
def vRet (P : Program) (fn : Func) (Q : Value → PHeap → Prop) (st : St) (H : PHeap) : Prop :=
  match resVals P st fn.results.toList with
  | some l => Q (retVal l) H
  | none => False
def entrySVs (P : Program) : List TypeId → List Value → List SV
  | t :: ts, v :: vs => (if opaqueT P t then .fv v else .v v) :: entrySVs P ts vs
  | _, vs => vs.map .v
def vFunc (cx : Cx) (P : Program) (f : FuncId) (args : List Value) (H : PHeap) (Q : Value → PHeap → Prop) : Prop :=
  match P.funcs[f]? with
  | some fn => match fn.body with
    | some c => vCode cx P c { tm := entrySVs P fn.params.toList args ++ List.replicate (fn.ntmps - args.length) .unk, bx := [] } H (vRet P fn Q) (fun _ _ _ => False) (vRet P fn Q)
    | none => False
  | none => False
end Go.Vx
