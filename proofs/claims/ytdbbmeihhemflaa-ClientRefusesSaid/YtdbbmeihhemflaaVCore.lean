/- The abstract machine: values as trees (immutable slices) and rows of its own by number; a compact form of the code; its run. No statement of the seat is proved here. -/
import Derived.WalkKit
import Derived.KernelRfl
namespace Go.VI
open Go

/-! ## Values -/
inductive AV where
  | bool (b : Bool)
  | int (k : IntKind) (n : Int)
  | str (s : List UInt8)
  | nilS
  /-- not nil, no element, no room -/
  | emp
  | sl (xs : List (List AV))
  | own (r i n z : Nat)
  | nilP
  | ptr (r i o : Nat)
  | ref (cs : List AV)
  | fn (f : Nat) (caps : List AV)
  | nilF
  | ifc (t : Nat) (v : AV)
  | nilI
  | agg (cs : List AV)
  | tup (vs : List AV)
  deriving Inhabited

def und : AV := .tup []

/-- The cells of a value. -/
def cells : AV → List AV
  | .agg cs => cs
  | v => [v]

def isCell : AV → Bool
  | .agg _ | .tup _ => false
  | _ => true

/-! ## Finite maps from numbers -/
inductive Tr (α : Type) where
  | nil
  | node (l : Tr α) (v : Option α) (r : Tr α)

namespace Tr
variable {α : Type}
/-- Paths: 0 is the root; odd numbers to the left, even ones to the right. `fuel` bounds the depth. -/
def get : Tr α → Nat → Option α
  | .nil, _ => none
  | .node l v r, n => bif Nat.beq n 0 then v else bif Nat.beq (n % 2) 1 then l.get (n / 2) else r.get (n / 2 - 1)

def setF : Nat → Tr α → Nat → α → Tr α
  | 0, t, _, _ => t
  | k + 1, .nil, n, x => bif Nat.beq n 0 then .node .nil (some x) .nil else bif Nat.beq (n % 2) 1 then .node (setF k .nil (n / 2) x) none .nil else .node .nil none (setF k .nil (n / 2 - 1) x)
  | k + 1, .node l v r, n, x => bif Nat.beq n 0 then .node l (some x) r else bif Nat.beq (n % 2) 1 then .node (setF k l (n / 2) x) v r else .node l v (setF k r (n / 2 - 1) x)

def set (t : Tr α) (n : Nat) (x : α) : Tr α := setF (n + 1) t n x

theorem get_nil (n : Nat) : (Tr.nil : Tr α).get n = none := by simp [get]

theorem get_node (l : Tr α) (v : Option α) (r : Tr α) (n : Nat) : (Tr.node l v r).get n = if n = 0 then v else if n % 2 = 1 then l.get (n / 2) else r.get (n / 2 - 1) := by
  simp only [get, cond_eq_ite, Nat.beq_eq]

theorem get_setF (x : α) : ∀ (k : Nat) (t : Tr α) (n : Nat), n < k → ∀ j, (setF k t n x).get j = if j = n then some x else t.get j := by
  intro k
  induction k with
  | zero => intro t n h; omega
  | succ k ih =>
    intro t n hn j
    have key : ∀ (l : Tr α) (v : Option α) (r : Tr α),
        (bif Nat.beq n 0 then Tr.node l (some x) r else bif Nat.beq (n % 2) 1 then .node (setF k l (n / 2) x) v r else .node l v (setF k r (n / 2 - 1) x)).get j = if j = n then some x else (Tr.node l v r).get j := by
      intro l v r
      simp only [cond_eq_ite, Nat.beq_eq]
      by_cases h0 : n = 0
      · subst h0
        simp only [if_true, get_node]
        by_cases hj : j = 0 <;> simp [hj]
      · simp only [h0, if_false]
        by_cases h1 : n % 2 = 1
        · simp only [h1, if_true, get_node]
          by_cases hj : j = 0
          · simp [hj]; omega
          · simp only [hj, if_false]
            by_cases hj1 : j % 2 = 1
            · simp only [hj1, if_true]
              rw [ih _ _ (by omega)]
              by_cases e : j = n
              · subst e; simp
              · have : ¬ j / 2 = n / 2 := by omega
                simp [e, this]
            · have : ¬ j = n := by omega
              simp [hj1, this]
        · simp only [h1, if_false, get_node]
          by_cases hj : j = 0
          · simp [hj]; omega
          · simp only [hj, if_false]
            by_cases hj1 : j % 2 = 1
            · have : ¬ j = n := by omega
              simp [hj1, this]
            · simp only [hj1, if_false]
              rw [ih _ _ (by omega)]
              by_cases e : j = n
              · subst e; simp
              · have : ¬ j / 2 - 1 = n / 2 - 1 := by omega
                simp [e, this]
    cases t with
    | nil =>
      have := key .nil none .nil
      simp only [setF]
      rw [this, get_node, get_nil]
      split <;> simp [get_nil]
    | node l v r => simp only [setF]; exact key l v r

theorem get_set (t : Tr α) (n : Nat) (x : α) (j : Nat) : (t.set n x).get j = if j = n then some x else t.get j :=
  get_setF x (n + 1) t n (Nat.lt_succ_self n) j
end Tr

/-! ## Environments and memory -/
structure Env where
  t : Tr AV
def Env.get (e : Env) (n : Nat) : AV := (e.t.get n).getD und
def Env.set (e : Env) (n : Nat) (v : AV) : Env := ⟨e.t.set n v⟩
theorem Env.get_set (e : Env) (n : Nat) (v : AV) (j : Nat) : (e.set n v).get j = if j = n then v else e.get j := by
  simp only [Env.get, Env.set, Tr.get_set]
  split <;> rfl
def Env.ofList : Nat → List AV → Env → Env
  | _, [], e => e
  | i, v :: vs, e => Env.ofList (i + 1) vs (e.set i v)
def Env.start (args : List AV) : Env := Env.ofList 0 args ⟨.nil⟩

structure Row where
  ty : Nat
  sz : Nat
  els : List (List AV)
structure Mem where
  next : Nat
  floor : Nat
  t : Tr (Option Row)
def Mem.get (s : Mem) (r : Nat) : Option Row := (s.t.get r).getD none
/-- A new row. -/
def Mem.push (s : Mem) (x : Row) : Mem := { s with next := s.next + 1, t := s.t.set s.next (some x) }
/-- A row's new state; `none`: nobody may look at it any more. -/
def Mem.put (s : Mem) (r : Nat) (x : Option Row) : Mem := { s with t := s.t.set r x }

theorem Mem.get_push (s : Mem) (x : Row) (j : Nat) : (s.push x).get j = if j = s.next then some x else s.get j := by
  simp only [Mem.get, Mem.push, Tr.get_set]
  split <;> rfl
theorem Mem.get_put (s : Mem) (r : Nat) (x : Option Row) (j : Nat) : (s.put r x).get j = if j = r then x else s.get j := by
  simp only [Mem.get, Mem.put, Tr.get_set]
  split <;> rfl
theorem Mem.next_push (s : Mem) (x : Row) : (s.push x).next = s.next + 1 := rfl
theorem Mem.next_put (s : Mem) (r : Nat) (x : Option Row) : (s.put r x).next = s.next := rfl
theorem Mem.floor_push (s : Mem) (x : Row) : (s.push x).floor = s.floor := rfl
theorem Mem.floor_put (s : Mem) (r : Nat) (x : Option Row) : (s.put r x).floor = s.floor := rfl

/-! ## The compact code -/
inductive Opd where
  | t (n : Nat)
  | c (v : AV)
  deriving Inhabited

/-- The simple kinds of a struct's cells; the kinds that == is asked of. -/
inductive LK where
  | b | i | s
  deriving Inhabited, DecidableEq
inductive EK where
  | b | sl | fn | ifc | ptr
  | st (ls : List LK)
  deriving Inhabited

inductive COp where
  | mv (x : Opd)
  | pick (c a b : Opd)
  | new (ty : Nat) (cs : List AV)                         -- a new variable that holds these cells
  | box (ty : Nat) (x : Opd)
  | build (zero : List AV) (parts : List (Nat × Nat × Opd))          -- offset, size
  | lit (ty sz : Nat) (zero : List AV) (len : Nat) (parts : List (Nat × Opd))   -- a slice's literal
  | load (agg : Bool) (sz : Nat) (a : Opd)
  | store (sz : Nat) (a x : Opd)
  | nilCheck (x : Opd)
  | ibin (op : BinOp) (x y : Opd)              -- of whole numbers
  | beq (neg : Bool) (k : EK) (x y : Opd)       -- == and != of other values
  | sbin (op : BinOp) (x y : Opd)              -- of strings
  | un (op : UnOp) (x : Opd)
  | conv (k : IntKind) (x : Opd)
  | toStr (x : Opd)                            -- bytes to string
  | toBytes (ty : Nat) (x : Opd)               -- string to bytes
  | same (x : Opd)                             -- a conversion that turns nothing
  | ifc (t : Nat) (x : Opd)
  | fn (f : Nat) (caps : List Opd)
  | mkS (ty sz bytes : Nat) (zero : List AV) (n : Opd)        -- make([]T, n)
  | cutS (sz : Nat) (x : Opd) (lo hi : Option Opd)
  | cutT (x : Opd) (lo hi : Option Opd)         -- of a string
  | cut3 (x hi mx : Opd)                       -- x[:hi:mx]
  | fieldAddr (off : Nat) (x : Opd)
  | field (agg : Bool) (off sz : Nat) (x : Opd)
  | at_ (sz : Nat) (x i : Opd)                  -- an element's address
  | atT (x i : Opd)                             -- a string's byte
  | ixA (agg : Bool) (sz n : Nat) (x i : Opd)   -- an array's element
  | atP (sz n : Nat) (x i : Opd)                -- the address of an array's element
  | ext (x : Opd) (n : Nat)
  | call (f : Opd) (args : List Opd)
  | len (str : Bool) (x : Opd)
  | app (ty sz bytes : Nat) (x y : Opd)
  | mnmx (mx : Bool) (xs : List Opd)
  deriving Inhabited

structure COper where
  dst : Option Nat
  op : COp
  guard : Option (Nat × Bool)
  /-- an operation whose order is open: it may write nothing that was there -/
  up : Bool
  /-- rows that operations ahead of it in the text may see before or behind it: it may neither see nor write them -/
  hide : List Opd
  deriving Inhabited

inductive CCode where
  | skip
  | region (draw : Bool) (ops : List COper)
  | seq (a b : CCode)
  | cond (c : Opd) (a b : CCode)
  | block (id : Nat) (b : CCode)
  | loop (b : CCode)
  | exit (id : Nat)
  | ret
  deriving Inhabited

inductive CRes where
  | tmp (t : Nat)
  | cell (t : Nat) (agg : Bool) (sz : Nat)
  deriving Inhabited

structure CFunc where
  ntmps : Nat
  /-- no parameters, simple results: a call runs by itself, on no rows -/
  iso : Bool
  /-- told apart: it hands what it picks to this function -/
  prim : Option Nat
  res : List CRes
  body : CCode
  deriving Inhabited

inductive Ex where
  | normal
  | exit (id : Nat)
  | ret
  deriving DecidableEq

/-! ## Its run -/
def ev (e : Env) : Opd → AV
  | .t n => e.get n
  | .c v => v

def pickCells (agg : Bool) (cs : List AV) : Option AV :=
  if agg then some (.agg cs) else match cs with | [v] => some v | _ => none

/-- `sz` cells from `o` on. -/
def slice1 (cs : List AV) (o sz : Nat) : Option (List AV) := if o + sz ≤ cs.length then some ((cs.drop o).take sz) else none

def putCells (cs : List AV) (o : Nat) (xs : List AV) : List AV := cs.take o ++ xs ++ cs.drop (o + xs.length)

def loadA (s : Mem) (agg : Bool) (sz : Nat) : AV → Option AV
  | .ptr r i o => do
    let row ← s.get r
    let cs ← row.els[i]?
    pickCells agg (← slice1 cs o sz)
  | .ref cs => do pickCells agg (← slice1 cs 0 sz)
  | _ => none

def storeA (s : Mem) (sz : Nat) (a x : AV) : Option Mem :=
  match a with
  | .ptr r i o => do
    let row ← s.get r
    let cs ← row.els[i]?
    if (cells x).length = sz ∧ o + sz ≤ cs.length ∧ s.floor ≤ r ∧ (cells x).all isCell = true then some (s.put r (some { row with els := row.els.set i (putCells cs o (cells x)) })) else none
  | _ => none

def toNat? (n : Int) : Option Nat := if 0 ≤ n then some n.toNat else none

def intOp (op : BinOp) (k : IntKind) (a : Int) (j : IntKind) (b : Int) : Option AV :=
  match op with
  | .shl => if b < 0 then none else some (.int k (k.wrap (a * 2 ^ min b.toNat k.bits)))
  | .shr => if b < 0 then none else some (.int k (a.fdiv (2 ^ min b.toNat k.bits)))
  | _ => if k ≠ j then none else
    match op with
    | .add => some (.int k (k.wrap (a + b)))
    | .sub => some (.int k (k.wrap (a - b)))
    | .mul => some (.int k (k.wrap (a * b)))
    | .quo => if b = 0 then none else some (.int k (k.wrap (a.tdiv b)))
    | .rem => if b = 0 then none else some (.int k (a.tmod b))
    | .and => some (.int k (k.wrap (BitVec.ofInt k.bits a &&& BitVec.ofInt k.bits b).toNat))
    | .or => some (.int k (k.wrap (BitVec.ofInt k.bits a ||| BitVec.ofInt k.bits b).toNat))
    | .xor => some (.int k (k.wrap (BitVec.ofInt k.bits a ^^^ BitVec.ofInt k.bits b).toNat))
    | .andNot => some (.int k (k.wrap (BitVec.ofInt k.bits a &&& ~~~ BitVec.ofInt k.bits b).toNat))
    | .eql => some (.bool (a == b))
    | .neq => some (.bool (a != b))
    | .lss => some (.bool (a < b))
    | .leq => some (.bool (a ≤ b))
    | .gtr => some (.bool (a > b))
    | .geq => some (.bool (a ≥ b))
    | _ => none

def strOp (op : BinOp) (a b : List UInt8) : Option AV :=
  match op with
  | .add => if a.length + b.length ≤ 9223372036854775807 then some (.str (a ++ b)) else none
  | .eql => some (.bool (a == b))
  | .neq => some (.bool (!(a == b)))
  | .lss => some (.bool (Op.bytesLess a b))
  | .leq => some (.bool (Op.bytesLess a b || a == b))
  | .gtr => some (.bool (!(Op.bytesLess a b || a == b)))
  | .geq => some (.bool (!(Op.bytesLess a b)))
  | _ => none

/-- == of two cells of a simple kind. -/
def eqLf : LK → AV → AV → Option Bool
  | .b, .bool a, .bool b => some (a == b)
  | .i, .int k a, .int j b => if k = j then some (a == b) else none
  | .s, .str a, .str b => some (a == b)
  | _, _, _ => none

def eqL : List LK → List AV → List AV → Option Bool
  | [], [], [] => some true
  | k :: ks, a :: x, b :: y => match eqLf k a b with
    | some true => eqL ks x y
    | some false => some false
    | none => none
  | _, _, _ => none

def eqA : EK → AV → AV → Option Bool
  | .b, .bool a, .bool b => some (a == b)
  | .st ks, .agg x, .agg y => if x.length = ks.length ∧ y.length = ks.length then eqL ks x y else none
  | .sl, .nilS, .nilS => some true
  | .sl, .nilS, .sl _ => some false
  | .sl, .nilS, .own .. => some false
  | .sl, .nilS, .emp => some false
  | .sl, .emp, .nilS => some false
  | .sl, .sl _, .nilS => some false
  | .sl, .own .., .nilS => some false
  | .ptr, .nilP, .nilP => some true
  | .ptr, .nilP, .ptr .. => some false
  | .ptr, .ptr .., .nilP => some false
  | .fn, .nilF, .nilF => some true
  | .fn, .nilF, .fn .. => some false
  | .fn, .fn .., .nilF => some false
  | .ifc, .nilI, .nilI => some true
  | .ifc, .nilI, .ifc .. => some false
  | .ifc, .ifc .., .nilI => some false
  | _, _, _ => none

def byteOf : List AV → Option UInt8
  | [.int .u8 n] => some (UInt8.ofNat n.toNat)
  | _ => none

def readAll (s : Mem) : AV → Option (List (List AV))
  | .nilS => some []
  | .emp => some []
  | .sl xs => some xs
  | .own r i n _ => do
    let row ← s.get r
    if i + n ≤ row.els.length then some ((row.els.drop i).take n) else none
  | _ => none

def lenA : Bool → AV → Option Nat
  | false, .nilS => some 0
  | false, .emp => some 0
  | false, .sl xs => some xs.length
  | false, .own _ _ n _ => some n
  | true, .str s => some s.length
  | _, _ => none

def boundA (e : Env) : Option Opd → Option (Option Nat)
  | none => some none
  | some x => match ev e x with
    | .int _ n => (toNat? n).map some
    | _ => none

/-- All elements are of one size. -/
def uni (sz : Nat) (xs : List (List AV)) : Bool := xs.all fun c => c.length == sz

/-- x[:h:m]. -/
def cut3A (x hi mx : AV) : Option AV :=
  match hi, mx with
  | .int _ a, .int _ b => do
    let h ← toNat? a
    let m ← toNat? b
    match x with
    | .nilS => if h = 0 ∧ m = 0 then some .nilS else none
    | .emp => if h = 0 ∧ m = 0 then some .emp else none
    | .sl xs => if h = 0 ∧ m = 0 then some .emp else if h ≤ m ∧ m ≤ xs.length then some (.sl (xs.take h)) else none
    | .own r i n z => if h = 0 ∧ m = 0 then some .emp else if h ≤ m ∧ m ≤ n then some (.own r i h z) else none
    | _ => none
  | _, _ => none

def ixV (agg : Bool) (sz n : Nat) : AV → AV → Option AV
  | .agg cs, .int _ k => match toNat? k with
    | some j => if j < n then (slice1 cs (j * sz) sz).bind (pickCells agg) else none
    | none => none
  | _, _ => none
def atV (sz n : Nat) : AV → AV → Option AV
  | x, .int _ k => match toNat? k with
    | some j => if j < n then match x with
      | .ptr r i o => some (.ptr r i (o + j * sz))
      | .ref cs => some (.ref (cs.drop (j * sz)))
      | _ => none
      else none
    | none => none
  | _, _ => none

def fillParts (e : Env) : List (Nat × Nat × Opd) → List AV → Option (List AV)
  | [], cs => some cs
  | (o, sz, x) :: r, cs =>
    let v := cells (ev e x)
    if v.length = sz ∧ o + sz ≤ cs.length ∧ v.all isCell = true then fillParts e r (putCells cs o v) else none

def fillLit (sz : Nat) (e : Env) : List (Nat × Opd) → List (List AV) → Option (List (List AV))
  | [], es => some es
  | (i, x) :: r, es =>
    let v := cells (ev e x)
    if v.length = sz ∧ i < es.length ∧ v.all isCell = true then fillLit sz e r (es.set i v) else none

def best (mx : Bool) : AV → List AV → Option AV
  | x, [] => some x
  | .int k x, .int j y :: r => if k = j then best mx (.int k (if mx then (if y > x then y else x) else (if y < x then y else x))) r else none
  | _, _ => none

/-- Limits of a growing slice, in bytes. -/
def roomOk (n bytes : Nat) : Bool := Nat.ble n 9223372036854775807 && Nat.ble (n * bytes) 140737488355328

/-- A literal's value: one without elements has no room. -/
def litV (r len sz : Nat) : AV := if Nat.beq len 0 then .emp else .own r 0 len sz

def stepOp (call : Nat → List AV → Mem → Option (AV × Mem)) (o : COp) (e : Env) (s : Mem) : Option (AV × Mem) :=
  match o with
  | .mv x => some (ev e x, s)
  | .pick c a b => match ev e c with | .bool t => some (if t then ev e a else ev e b, s) | _ => none
  | .new ty cs => some (.ptr s.next 0 0, s.push ⟨ty, cs.length, [cs]⟩)
  | .box ty x =>
    let cs := cells (ev e x)
    if cs.all isCell = true then some (.ptr s.next 0 0, s.push ⟨ty, cs.length, [cs]⟩) else none
  | .build zero parts => (fillParts e parts zero).map fun cs => (.agg cs, s)
  | .lit ty sz zero len parts => (fillLit sz e parts (List.replicate len zero)).map fun es => (litV s.next len sz, s.push ⟨ty, sz, es⟩)
  | .load agg sz a => (loadA s agg sz (ev e a)).map fun v => (v, s)
  | .store sz a x => (storeA s sz (ev e a) (ev e x)).map fun s' => (und, s')
  | .nilCheck x => match ev e x with | .ptr r i o => some (.ptr r i o, s) | .ref cs => some (.ref cs, s) | .fn f cs => some (.fn f cs, s) | _ => none
  | .ibin op x y => match ev e x, ev e y with | .int k a, .int j b => (intOp op k a j b).map fun v => (v, s) | _, _ => none
  | .sbin op x y => match ev e x, ev e y with | .str a, .str b => (strOp op a b).map fun v => (v, s) | _, _ => none
  | .beq neg k x y => (eqA k (ev e x) (ev e y)).map fun b => (.bool (if neg then !b else b), s)
  | .un op x => match op, ev e x with
    | .neg, .int k n => some (.int k (k.wrap (0 - n)), s)
    | .xor, .int k n => some (.int k (k.wrap (BitVec.ofInt k.bits (if k.signed then -1 else k.max) ^^^ BitVec.ofInt k.bits n).toNat), s)
    | .not, .bool b => some (.bool (!b), s)
    | _, _ => none
  | .conv k x => match ev e x with | .int _ n => some (.int k (k.wrap n), s) | _ => none
  | .toStr x => do
    let es ← readAll s (ev e x)
    let bs ← es.mapM byteOf
    some (.str bs, s)
  | .toBytes ty x => match ev e x with
    | .str b => if Nat.ble b.length 140737488355328 then some (.own s.next 0 b.length 1, s.push ⟨ty, 1, b.map fun c => [.int .u8 c.toNat]⟩) else none
    | _ => none
  | .same x => match ev e x with | .str b => some (.str b, s) | _ => none
  | .ifc t x => some (.ifc t (ev e x), s)
  | .fn f caps => some (.fn f (caps.map (ev e)), s)
  | .mkS ty sz bytes zero n => match ev e n with
    | .int .i64 k => match toNat? k with
      | some n => if roomOk n bytes ∧ zero.length = sz then some (.own s.next 0 n sz, s.push ⟨ty, sz, List.replicate n zero⟩) else none
      | none => none
    | _ => none
  | .cutS sz x lo hi => do
    let l ← boundA e lo
    let h ← boundA e hi
    let l := l.getD 0
    match ev e x with
    | .nilS => if l = 0 ∧ h.getD 0 = 0 then some (.nilS, s) else none
    | .emp => if l = 0 ∧ h.getD 0 = 0 then some (.emp, s) else none
    | .sl xs =>
      let h := h.getD xs.length
      if l ≤ h ∧ h ≤ xs.length ∧ uni sz xs = true then some (.sl ((xs.take h).drop l), s) else none
    | .own r i n z =>
      let h := h.getD n
      if l ≤ h ∧ h ≤ n ∧ z = sz then some (.own r (i + l) (h - l) z, s) else none
    | _ => none
  | .cutT x lo hi => do
    let l ← boundA e lo
    let h ← boundA e hi
    let l := l.getD 0
    match ev e x with
    | .str b =>
      let h := h.getD b.length
      if l ≤ h ∧ h ≤ b.length then some (.str ((b.take h).drop l), s) else none
    | _ => none
  | .cut3 x hi mx => (cut3A (ev e x) (ev e hi) (ev e mx)).map fun v => (v, s)
  | .fieldAddr off x => match ev e x with
    | .ptr r i o => some (.ptr r i (o + off), s)
    | .ref cs => some (.ref (cs.drop off), s)
    | _ => none
  | .field agg off sz x => match ev e x with
    | .agg cs => do
      let v ← pickCells agg (← slice1 cs off sz)
      some (v, s)
    | _ => none
  | .at_ sz x i => match ev e i with
    | .int _ k => do
      let j ← toNat? k
      match ev e x with
      | .sl xs => do
        let cs ← xs[j]?
        if cs.length = sz then some (.ref cs, s) else none
      | .own r i n z => if j < n ∧ z = sz then some (.ptr r (i + j) 0, s) else none
      | _ => none
    | _ => none
  | .atT x i => match ev e x, ev e i with
    | .str b, .int _ k => do
      let j ← toNat? k
      let c ← b[j]?
      some (.int .u8 c.toNat, s)
    | _, _ => none
  | .ixA agg sz n x i => (ixV agg sz n (ev e x) (ev e i)).map fun v => (v, s)
  | .atP sz n x i => (atV sz n (ev e x) (ev e i)).map fun v => (v, s)
  | .ext x n => match ev e x with
    | .tup vs => (vs[n]?).map fun v => (v, s)
    | _ => none
  | .call f args => match ev e f with
    | .fn g caps => call g (args.map (ev e) ++ caps) s
    | _ => none
  | .len str x => (lenA str (ev e x)).map fun (n : Nat) => (AV.int .i64 (n : Int), s)
  | .app ty sz bytes x y => do
    let ys ← readAll s (ev e y)
    if uni sz ys then
    match ev e x with
    | .emp => if ys = [] then some (.emp, s) else if roomOk ys.length bytes then some (.own s.next 0 ys.length sz, s.push ⟨ty, sz, ys⟩) else none
    | .nilS => if ys = [] then some (.nilS, s) else if roomOk ys.length bytes then some (.own s.next 0 ys.length sz, s.push ⟨ty, sz, ys⟩) else none
    | .own r i n _ => do
      let row ← s.get r
      if i = 0 ∧ n ≤ row.els.length ∧ row.ty = ty ∧ row.sz = sz ∧ s.floor ≤ r ∧ roomOk (n + ys.length) bytes then
        some (.own s.next 0 (n + ys.length) sz, (s.put r none).push ⟨ty, sz, row.els.take n ++ ys⟩)
      else none
    | _ => none
    else none
  | .mnmx mx xs => match xs.map (ev e) with
    | x :: r => (best mx x r).map fun v => (v, s)
    | [] => none

def wantedA (o : COper) (e : Env) : Bool :=
  match o.guard with
  | none => true
  | some (t, b) => match e.get t with
    | .bool c => c == b
    | _ => false

def putO (e : Env) (d : Option Nat) (v : AV) : Env :=
  match d with
  | some d => e.set d v
  | none => e

def rowOf : AV → Option Nat
  | .ptr r _ _ => some r
  | .own r _ _ _ => some r
  | _ => none
def Mem.hide (s : Mem) : List Nat → Mem
  | [] => s
  | r :: rs => (s.put r none).hide rs
/-- .. and its rows again as they were. -/
def Mem.bring (s' s : Mem) : List Nat → Mem
  | [] => s'
  | r :: rs => (s'.bring s rs).put r (s.get r)
def hideRows (e : Env) : List Opd → List Nat
  | [] => []
  | x :: xs => match rowOf (ev e x) with
    | some r => r :: hideRows e xs
    | none => hideRows e xs

def stepO (call : Nat → List AV → Mem → Option (AV × Mem)) (o : COper) (e : Env) (s : Mem) : Option (Env × Mem) :=
  if wantedA o e then
    if o.up then (stepOp call o.op e { s with floor := s.next }).map fun p => (putO e o.dst p.1, { p.2 with floor := s.floor })
    else (stepOp call o.op e (s.hide (hideRows e o.hide))).map fun p => (putO e o.dst p.1, p.2.bring s (hideRows e o.hide))
  else some (putO e o.dst und, s)

def opsA (call : Nat → List AV → Mem → Option (AV × Mem)) : List COper → Env → Mem → Option (Env × Mem)
  | [], e, s => some (e, s)
  | o :: r, e, s => match stepO call o e s with
    | some p => opsA call r p.1 p.2
    | none => none

def resA (s : Mem) (e : Env) : CRes → Option AV
  | .tmp t => some (e.get t)
  | .cell t agg sz => loadA s agg sz (e.get t)

def resultsA (s : Mem) (e : Env) (rs : List CRes) : Option AV :=
  match rs.mapM (resA s e) with
  | some [v] => some v
  | some vs => some (.tup vs)
  | none => none

/-- The memory of rows at the beginning: there are none. -/
def Mem.zero : Mem := ⟨0, 0, .nil⟩

def plainA : AV → Bool
  | .bool _ | .int .. | .str _ => true
  | _ => false

def isoF (F : Nat → Option CFunc) (f : Nat) : Bool := match F f with
  | some cf => cf.iso
  | none => false

def sliceA : AV → Bool
  | .nilS | .emp | .sl _ | .own .. => true
  | _ => false

/-- The last element whose third cell is 2: its fourth cell. -/
def backFind (xs : List (List AV)) (d : AV) : Nat → Option AV
  | 0 => some d
  | k + 1 => match xs[k]? with
    | some [.int .u64 _, .int .u64 _, .int .i64 n, x] => if sliceA x = true then (if n = 2 then some x else backFind xs d k) else none
    | _ => none
def backSel (s : Mem) (args : List AV) : Option AV :=
  match args with
  | [.agg [_, _, _, d, l]] => (readAll s l).bind fun xs => if Nat.ble xs.length 17592186043904 = true then backFind xs d xs.length else none
  | _ => none

def callC (ex : CCode → Env → Mem → Option (Ex × Env × Mem)) (F : Nat → Option CFunc) (f : Nat) (args : List AV) (s : Mem) : Option (AV × Mem) :=
  match F f with
  | some cf =>
    if args.length ≤ cf.ntmps ∧ cf.prim = none then
    match ex cf.body (Env.start args) s with
    | some (.normal, e, s') | some (.ret, e, s') => (resultsA s' e cf.res).map fun v => (v, s')
    | _ => none
    else none
  | none => none

def primF (F : Nat → Option CFunc) (f : Nat) : Option Nat := (F f).bind (·.prim)

def callB (ex : CCode → Env → Mem → Option (Ex × Env × Mem)) (F : Nat → Option CFunc) (f : Nat) (args : List AV) (s : Mem) : Option (AV × Mem) :=
  match primF F f with
  | some g => match backSel s args with
    | some d => match callC ex F g [d] s with
      | some p => if sliceA p.1 = true then some p else none
      | none => none
    | none => none
  | none => callC ex F f args s

def callA (ex : CCode → Env → Mem → Option (Ex × Env × Mem)) (F : Nat → Option CFunc) (f : Nat) (args : List AV) (s : Mem) : Option (AV × Mem) :=
  if isoF F f && args.isEmpty then
    match callB ex F f args .zero with
    | some (v, _) => if plainA v then some (v, s) else none
    | none => none
  else callB ex F f args s

def exec (F : Nat → Option CFunc) : Nat → CCode → Env → Mem → Option (Ex × Env × Mem)
  | 0, _, _, _ => none
  | n + 1, c, e, s =>
    match c with
    | .skip => some (.normal, e, s)
    | .region _ ops => (opsA (callA (exec F n) F) ops e s).map fun p => (.normal, p.1, p.2)
    | .seq a b => match exec F n a e s with
      | some (.normal, e', s') => exec F n b e' s'
      | r => r
    | .cond x a b => match ev e x with
      | .bool true => exec F n a e s
      | .bool false => exec F n b e s
      | _ => none
    | .block id b => match exec F n b e s with
      | some (.exit j, e', s') => if j = id then some (.normal, e', s') else some (.exit j, e', s')
      | r => r
    | .loop b => match exec F n b e s with
      | some (.normal, e', s') => exec F n (.loop b) e' s'
      | r => r
    | .exit id => some (.exit id, e, s)
    | .ret => some (.ret, e, s)

def run (F : Nat → Option CFunc) (n : Nat) (f : Nat) (args : List AV) (s : Mem) : Option (AV × Mem) := callA (exec F n) F f args s

end Go.VI
