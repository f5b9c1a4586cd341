/- From the model's code to the compact one. No statement of the seat is proved here. -/
import Derived.Test.YtdbbmeihhemflaaVCore
namespace Go.VI
open Go

def leafAV : Value → Option AV
  | .bool b => some (.bool b)
  | .int k n => some (.int k n)
  | .string s => some (.str s.data.toList)
  | .slice none 0 0 => some .nilS
  | .pointer none => some .nilP
  | .nilFunc => some .nilF
  | .nilIface => some .nilI
  | _ => none

def constAV : Value → Option AV
  | .agg cs => (cs.toList.mapM leafAV).map .agg
  | .tuple vs => if vs.size = 0 then some und else none
  | v => leafAV v

def cOpd : Operand → Option Opd
  | .tmp t => some (.t t)
  | .const v => (constAV v).map .c
  | .func f => some (.c (.fn f []))
  | .global _ => none

def cSize (P : Program) (t : TypeId) : Option Nat := (P.info? t).map (·.size)
def cBytes (P : Program) (t : TypeId) : Option Nat := (P.info? t).map (·.bytes)
def cZero (P : Program) (t : TypeId) : Option (List AV) := do
  let i ← P.info? t
  let z ← i.zero
  let v ← constAV z
  let cs := cells v
  if cs.length = i.size ∧ cs.all isCell = true ∧ z.cells.size = i.size then some cs else none
def cAgg (P : Program) (t : TypeId) : Option Bool :=
  match P.underlying t with
  | some (.struct _) | some (.array _ _) => some true
  | some _ => some false
  | none => none

/-- The cells of a type, where == asks cell by cell. -/
def leavesF (P : Program) (lv : TypeId → Option (List LK)) : List Field → Nat → Option (List LK)
  | [], _ => some []
  | f :: r, off => do
    let k ← lv f.type
    if f.name ≠ "_" ∧ f.offset = off ∧ cSize P f.type = some k.length ∧ (cAgg P f.type).isSome = true then do
      let l ← leavesF P lv r (off + k.length)
      some (k ++ l)
    else none

def leaves (P : Program) : Nat → TypeId → Option (List LK)
  | 0, _ => none
  | d + 1, t => match P.underlying t with
    | some .bool => some [.b]
    | some (.int _) => some [.i]
    | some .string => some [.s]
    | some (.struct fs) => if P.stoodInHeld t then none else leavesF P (leaves P d) fs.toList 0
    | _ => none

def isConst : Operand → Bool
  | .const _ => true
  | _ => false

def eqKind (P : Program) (t : TypeId) (x y : Operand) : Option EK :=
  match P.underlying t with
  | some .bool => some .b
  | some (.slice _) => some .sl
  | some (.func ..) => some .fn
  | some (.interface _) => if isConst x || isConst y then some .ifc else none
  | some (.pointer _) => some .ptr
  | some (.struct _) => if P.eqGuardType P.depth t then none else (leaves P 20 t).map .st
  | _ => none

def sameOpd : Operand → Operand → Bool
  | .tmp a, .tmp b => a == b
  | .const (.int .i64 a), .const (.int .i64 b) => a == b
  | _, _ => false

def cParts (P : Program) (fs : Array Field) (ps : List (Nat × Operand)) : Option (List (Nat × Nat × Opd)) :=
  ps.mapM fun p => do
    let f ← fs[p.1]?
    let sz ← cSize P f.type
    let x ← cOpd p.2
    some (f.offset, sz, x)

def cLits (ps : List (Nat × Operand)) : Option (List (Nat × Opd)) := ps.mapM fun p => do some (p.1, ← cOpd p.2)

def cOpt : Option Operand → Option (Option Opd)
  | none => some none
  | some x => (cOpd x).map some

def cOp (P : Program) (o : Op) : Option COp :=
  match o with
  | .move x | .assign x => do some (.mv (← cOpd x))
  | .pick c a b => do some (.pick (← cOpd c) (← cOpd a) (← cOpd b))
  | .alloc t => do some (.new t (← cZero P t))
  | .box t x => do some (.box t (← cOpd x))
  | .build t ps =>
    match P.underlying t with
    | some (.struct fs) => do
      let z ← cZero P t
      let ps ← cParts P fs ps.toList
      if fs.all (fun f => (cSize P f.type).isSome) = true then some (.build z ps) else none
    | _ => none
  | .buildSlice t n ps =>
    match P.underlying t with
    | some (.slice e) => do
      let sz ← cSize P e
      let z ← cZero P e
      let ps ← cLits ps.toList
      if 0 < sz ∧ n * sz ≤ 16777216 then some (.lit e sz z n ps) else none
    | _ => none
  | .load t a => do some (.load (← cAgg P t) (← cSize P t) (← cOpd a))
  | .store t a x => do some (.store (← cSize P t) (← cOpd a) (← cOpd x))
  | .nilCheck x => do some (.nilCheck (← cOpd x))
  | .binOp op t x y _ =>
    match P.underlying t with
    | some (.int _) => do some (.ibin op (← cOpd x) (← cOpd y))
    | some .string => do some (.sbin op (← cOpd x) (← cOpd y))
    | _ => match op with
      | .eql => do some (.beq false (← eqKind P t x y) (← cOpd x) (← cOpd y))
      | .neq => do some (.beq true (← eqKind P t x y) (← cOpd x) (← cOpd y))
      | _ => none
  | .unOp op _ x => do some (.un op (← cOpd x))
  | .convert s d x =>
    match P.underlying s, P.underlying d with
    | some (.int _), some (.int k) => do some (.conv k (← cOpd x))
    | some .string, some .string => do some (.same (← cOpd x))
    | some (.slice e), some .string => match P.underlying e with
      | some (.int .u8) => do some (.toStr (← cOpd x))
      | _ => none
    | some .string, some (.slice e) => match P.underlying e with
      | some (.int .u8) => do some (.toBytes e (← cOpd x))
      | _ => none
    | _, _ => none
  | .makeInterface t x =>
    match P.underlying t with
    | some (.interface _) | none => none
    | some _ => do some (.ifc t (← cOpd x))
  | .makeFunc (.func f) first caps => if first.size = 0 then do some (.fn f (← caps.toList.mapM cOpd)) else none
  | .makeSlice t l c =>
    match P.underlying t with
    | some (.slice e) => do
      let sz ← cSize P e
      let by_ ← cBytes P e
      let z ← cZero P e
      if sameOpd l c = true ∧ 0 < sz then some (.mkS e sz by_ z (← cOpd l)) else none
    | _ => none
  | .slice t x lo hi none =>
    match P.underlying t with
    | some .string => do some (.cutT (← cOpd x) (← cOpt lo) (← cOpt hi))
    | some (.slice e) => do some (.cutS (← cSize P e) (← cOpd x) (← cOpt lo) (← cOpt hi))
    | _ => none
  | .slice t x none (some hi) (some mx) =>
    match P.underlying t with
    | some (.slice e) => do
      let _ ← cSize P e
      some (.cut3 (← cOpd x) (← cOpd hi) (← cOpd mx))
    | _ => none
  | .fieldAddr t x f =>
    match P.underlying t with
    | some (.struct fs) => do
      let f ← fs[f]?
      let sz ← cSize P f.type
      if sz = 0 then none else some (.fieldAddr f.offset (← cOpd x))
    | _ => none
  | .field t x f =>
    match P.underlying t with
    | some (.struct fs) => do
      let f ← fs[f]?
      some (.field (← cAgg P f.type) f.offset (← cSize P f.type) (← cOpd x))
    | _ => none
  | .indexAddr t x i =>
    match P.underlying t with
    | some (.slice e) => do some (.at_ (← cSize P e) (← cOpd x) (← cOpd i))
    | some (.array n e) => do some (.atP (← cSize P e) n (← cOpd x) (← cOpd i))
    | _ => none
  | .index t x i =>
    match P.underlying t with
    | some .string => do some (.atT (← cOpd x) (← cOpd i))
    | some (.array n e) => do some (.ixA (← cAgg P e) (← cSize P e) n (← cOpd x) (← cOpd i))
    | _ => none
  | .extract x n => do some (.ext (← cOpd x) n)
  | .call { callee := .value f, args, .. } => do some (.call (← cOpd f) (← args.toList.mapM cOpd))
  | .call { callee := .builtin .len, args, argTypes } =>
    match args.toList, argTypes.toList with
    | [x], [t] => match P.underlying t with
      | some .string => do some (.len true (← cOpd x))
      | some (.slice _) => do some (.len false (← cOpd x))
      | _ => none
    | _, _ => none
  | .call { callee := .builtin .append, args, argTypes } =>
    match args.toList, argTypes.toList with
    | [x, y], [t, u] => match P.underlying t with
      | some (.slice e) => do
        let sz ← cSize P e
        let by_ ← cBytes P e
        let _ ← cZero P e
        if 0 < sz ∧ t = u then some (.app e sz by_ (← cOpd x) (← cOpd y)) else none
      | _ => none
    | _, _ => none
  | .call { callee := .builtin .max, args, .. } => do some (.mnmx true (← args.toList.mapM cOpd))
  | .call { callee := .builtin .min, args, .. } => do some (.mnmx false (← args.toList.mapM cOpd))
  | _ => none

def cGuard (ops : Array Oper) : Option (Nat × Bool) → Option (Option (Nat × Bool))
  | none => some none
  | some (j, b) => match (ops[j]?).bind (·.dst) with
    | some t => some (some (t, b))
    | none => none

def dstOk (n : Nat) : Option Nat → Bool
  | none => true
  | some d => Nat.blt d n

/-- What neither reads nor writes the memory. -/
def inertO : Op → Bool
  | .move _ | .assign _ | .pick .. | .build .. | .nilCheck _ | .binOp .. | .unOp .. | .makeInterface .. | .makeFunc .. | .slice .. | .fieldAddr .. | .field .. | .indexAddr .. | .index .. | .extract .. => true
  | .call { callee := .builtin .len, .. } | .call { callee := .builtin .max, .. } | .call { callee := .builtin .min, .. } => true
  | _ => false

/-- Operations that neither read nor write the memory. -/
def inertC : COp → Bool
  | .mv _ | .pick .. | .build .. | .nilCheck _ | .ibin .. | .beq .. | .sbin .. | .un .. | .ifc .. | .fn .. | .cutS .. | .cutT .. | .cut3 .. | .fieldAddr .. | .field .. | .at_ .. | .atT .. | .ixA .. | .atP .. | .ext .. | .len .. | .mnmx .. => true
  | _ => false

def cOper (P : Program) (n : Nat) (ops : Array Oper) (up : Bool × List Opd) (o : Oper) : Option COper := do
  let c ← cOp P o.op
  let g ← cGuard ops o.guard
  if dstOk n o.dst && (!inertO o.op || inertC c) then some { dst := o.dst, op := c, guard := g, up := up.1, hide := up.2 } else none

/-! The order of a region that draws. -/
def otmp : Opd → List Nat
  | .t n => [n]
  | .c _ => []
def otmp? : Option Opd → List Nat
  | some x => otmp x
  | none => []

/-- The temporaries that an operation reads. -/
def ctmps : COp → List Nat
  | .mv x | .box _ x | .nilCheck x | .un _ x | .conv _ x | .toStr x | .toBytes _ x | .same x | .ifc _ x | .fieldAddr _ x | .field _ _ _ x | .ext x _ | .len _ x | .load _ _ x | .mkS _ _ _ _ x => otmp x
  | .pick c a b => otmp c ++ otmp a ++ otmp b
  | .new .. => []
  | .build _ ps => ps.flatMap fun p => otmp p.2.2
  | .lit _ _ _ _ ps => ps.flatMap fun p => otmp p.2
  | .store _ a x | .ibin _ a x | .beq _ _ a x | .sbin _ a x | .at_ _ a x | .atT a x | .ixA _ _ _ a x | .atP _ _ a x | .app _ _ _ a x => otmp a ++ otmp x
  | .fn _ xs | .mnmx _ xs => xs.flatMap otmp
  | .cut3 x h m => otmp x ++ otmp h ++ otmp m
  | .cutS _ x l h | .cutT x l h => otmp x ++ otmp? l ++ otmp? h
  | .call f xs => otmp f ++ xs.flatMap otmp

def creads (c : COper) : List Nat := ctmps c.op ++ (match c.guard with | some (t, _) => [t] | none => [])

def inertAt (ops : Array Oper) (i : Nat) : Bool := match ops[i]? with
  | some o => inertO o.op
  | none => false

/-- i comes at its place whatever is drawn. -/
def total (ops : Array Oper) (bs : Array Nat) (n i : Nat) : Bool :=
  (List.range n).all fun j => inertAt ops j || (if j < i then (bs.getD i 0).testBit j else if i < j then (bs.getD j 0).testBit i else true)

/-- Reads, and what makes a row of its own: where they come behind a writer of other rows it is all the same. -/
def floatC : COp → Bool
  | .load .. | .new .. | .box .. => true
  | .lit _ _ _ len _ => Nat.blt 0 len
  | _ => false
/-- What tells the row that such an operation reads or makes. -/
def floatOpd (c : COper) : Option Opd := match c.op with
  | .load _ _ a => some a
  | _ => c.dst.map .t
/-- Its address is not written anew behind it. -/
def steady (ops : Array Oper) (j : Nat) (c : COp) : Bool := match c with
  | .load _ _ a => match a with
    | .c _ => true
    | .t t => (List.range ops.size).all fun k => Nat.blt k j || match ops[k]? with
      | some o => !(o.dst == some t)
      | none => true
  | _ => true
def isPtr (P : Program) (t : TypeId) : Bool := match P.underlying t with
  | some (.pointer _) => true
  | _ => false
/-- What writes rows that were there, as far as its form tells. -/
def writerO (P : Program) : Op → Bool
  | .store .. => true
  | .call { callee := .value _, argTypes, .. } => argTypes.toList.any (isPtr P)
  | _ => false
def lateOk (P : Program) (n : Nat) (ops : Array Oper) (j : Nat) : Option Opd := match ops[j]? with
  | some o => match cOper P n ops (true, []) o with
    | some c => if floatC c.op then match floatOpd c with
        | some x => if steady ops j c.op then some x else none
        | none => none
      else none
    | none => none
  | none => none
def lates (ops : Array Oper) (bs : Array Nat) (i : Nat) : List Nat := (List.range i).filter fun j => !inertAt ops j && !(bs.getD i 0).testBit j
/-- i comes at its place, but for such operations. -/
def totalL (P : Program) (n : Nat) (ops : Array Oper) (bs : Array Nat) (i : Nat) : Option (List Opd) :=
  if (List.range ops.size).all fun j => inertAt ops j || Nat.ble j i || (bs.getD j 0).testBit i then (lates ops bs i).mapM (lateOk P n ops) else none

def ups (P : Program) (n : Nat) (ops : Array Oper) (draw : Bool) : List (Bool × List Opd) :=
  if draw then
    let bs := Region.before ops
    (List.range ops.size).map fun i =>
      if inertAt ops i then (true, []) else if total ops bs ops.size i then (false, []) else
      match ops[i]? with
      | some o => if writerO P o.op then match totalL P n ops bs i with
          | some l => (false, l)
          | none => (true, [])
        else (true, [])
      | none => (true, [])
  else ops.toList.map fun _ => (false, [])

def edgesOk (ops : Array Oper) : Bool :=
  ops.toList.zipIdx.all fun p => p.1.after.toList.all fun e => !Region.binds .any e || Nat.blt e.on p.2

def readsOk (bs : Array Nat) (cs : List COper) : Bool :=
  cs.zipIdx.all fun p =>
    (creads p.1).all (fun t => cs.zipIdx.all fun q => if q.1.dst == some t then (bs.getD p.2 0).testBit q.2 || (Nat.blt p.2 q.2 && (bs.getD q.2 0).testBit p.2) else true) &&
    (match p.1.dst with | some d => cs.zipIdx.all fun q => if q.1.dst == some d then q.2 == p.2 else true | none => true)

def cRegion (P : Program) (n : Nat) (ops : Array Oper) (draw : Bool) : Option (List COper) := do
  let cs ← (ops.toList.zip (ups P n ops draw)).mapM fun p => cOper P n ops p.2 p.1
  if draw && !(P.follows .mixedOrders && edgesOk ops && readsOk (Region.before ops) cs) then none else some cs

def cCode (P : Program) (n : Nat) : Code → Option CCode
  | .skip => some .skip
  | .region _ ops draw => do some (.region draw (← cRegion P n ops draw))
  | .seq a b => do some (.seq (← cCode P n a) (← cCode P n b))
  | .cond c a b => do some (.cond (← cOpd c) (← cCode P n a) (← cCode P n b))
  | .block id b => do some (.block id (← cCode P n b))
  | .loop b => do some (.loop (← cCode P n b))
  | .exit id => some (.exit id)
  | .ret => some .ret
  | _ => none

def cRes (P : Program) : ResultVar → Option CRes
  | .tmp t => some (.tmp t)
  | .cell a t => do some (.cell a (← cAgg P t) (← cSize P t))

def cPlain (P : Program) (t : TypeId) : Bool := match P.underlying t with
  | some .bool | some (.int _) | some .string => true
  | _ => false

def cFunc (P : Program) (fn : Func) : Option CFunc := do
  let b ← fn.body
  let c ← cCode P fn.ntmps b
  let rs ← fn.results.toList.mapM (cRes P)
  if fn.name == "runtime.NumGoroutine" then none else some { ntmps := fn.ntmps, iso := Nat.beq fn.params.size 0 && fn.resultTypes.toList.all (cPlain P), prim := none, res := rs, body := c }

/-- The compact program. -/
def comp (P : Program) (f : Nat) : Option CFunc := (P.funcs[f]?).bind (cFunc P)
/-- .. with what is told apart. -/
def compX (P : Program) (X : Nat → Option CFunc) (f : Nat) : Option CFunc := match X f with
  | some cf => some cf
  | none => comp P f

end Go.VI
