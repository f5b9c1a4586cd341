/- The abstract machine: values as trees (immutable slices) and rows of its own by number; a compact form of the code; its run. No statement of the seat is proved here. -/
import Derived.WalkKit
import Derived.KernelRfl
namespace Go.VI
open Go
inductive AV where
  | bool (b : Bool)
  | int (k : IntKind) (n : Int)
  | str (s : List UInt8)
  | nilS
  | emp
  | sl (xs : List (List AV))
  | own (r i n z : Nat)
  | nilP
  | ptr (r i o : Nat)
  | ref (cs : List AV)
  | fn (f : Nat) (caps : List AV)
  | nilF
  | ifc (t : Nat) (v : AV)
  | nilI
  | agg (cs : List AV)
  | tup (vs : List AV)
  | mapv (r : Nat)
  | nilM
  deriving Inhabited
def und : AV := .tup []
def cells : AV → List AV
  | .agg cs => cs
  | v => [v]
def isCell : AV → Bool
  | .agg _ | .tup _ => false
  | _ => true
inductive Tr (α : Type) where
  | nil
  | node (l : Tr α) (v : Option α) (r : Tr α)
namespace Tr
variable {α : Type}
def get : Tr α → Nat → Option α
  | .nil, _ => none
  | .node l v r, n => bif Nat.beq n 0 then v else bif Nat.beq (n % 2) 1 then l.get (n / 2) else r.get (n / 2 - 1)
def setF : Nat → Tr α → Nat → α → Tr α
  | 0, t, _, _ => t
  | k + 1, .nil, n, x => bif Nat.beq n 0 then .node .nil (some x) .nil else bif Nat.beq (n % 2) 1 then .node (setF k .nil (n / 2) x) none .nil else .node .nil none (setF k .nil (n / 2 - 1) x)
  | k + 1, .node l v r, n, x => bif Nat.beq n 0 then .node l (some x) r else bif Nat.beq (n % 2) 1 then .node (setF k l (n / 2) x) v r else .node l v (setF k r (n / 2 - 1) x)
def set (t : Tr α) (n : Nat) (x : α) : Tr α := setF (n + 1) t n x
theorem get_nil (n : Nat) : (Tr.nil : Tr α).get n = none := by simp [get]
theorem get_node (l : Tr α) (v : Option α) (r : Tr α) (n : Nat) : (Tr.node l v r).get n = if n = 0 then v else if n % 2 = 1 then l.get (n / 2) else r.get (n / 2 - 1) := by
  simp only [get, cond_eq_ite, Nat.beq_eq]
theorem get_setF (x : α) : ∀ (k : Nat) (t : Tr α) (n : Nat), n < k → ∀ j, (setF k t n x).get j = if j = n then some x else t.get j := by
  intro k
  induction k with
  | zero => intro t n h; omega
  | succ k ih =>
    intro t n hn j
    have key : ∀ (l : Tr α) (v : Option α) (r : Tr α),
        (bif Nat.beq n 0 then Tr.node l (some x) r else bif Nat.beq (n % 2) 1 then .node (setF k l (n / 2) x) v r else .node l v (setF k r (n / 2 - 1) x)).get j = if j = n then some x else (Tr.node l v r).get j := by
      intro l v r
      simp only [cond_eq_ite, Nat.beq_eq]
      by_cases h0 : n = 0
      · subst h0
        simp only [if_true, get_node]
        by_cases hj : j = 0 <;> simp [hj]
      · simp only [h0, if_false]
        by_cases h1 : n % 2 = 1
        · simp only [h1, if_true, get_node]
          by_cases hj : j = 0
          · simp [hj]; omega
          · simp only [hj, if_false]
            by_cases hj1 : j % 2 = 1
            · simp only [hj1, if_true]
              rw [ih _ _ (by omega)]
              by_cases e : j = n
              · subst e; simp
              · have : ¬ j / 2 = n / 2 := by omega
                simp [e, this]
            · have : ¬ j = n := by omega
              simp [hj1, this]
        · simp only [h1, if_false, get_node]
          by_cases hj : j = 0
          · simp [hj]; omega
          · simp only [hj, if_false]
            by_cases hj1 : j % 2 = 1
            · have : ¬ j = n := by omega
              simp [hj1, this]
            · simp only [hj1, if_false]
              rw [ih _ _ (by omega)]
              by_cases e : j = n
              · subst e; simp
              · have : ¬ j / 2 - 1 = n / 2 - 1 := by omega
                simp [e, this]
    cases t with
    | nil =>
      have := key .nil none .nil
      simp only [setF]
      rw [this, get_node, get_nil]
      split <;> simp [get_nil]
    | node l v r => simp only [setF]; exact key l v r
theorem get_set (t : Tr α) (n : Nat) (x : α) (j : Nat) : (t.set n x).get j = if j = n then some x else t.get j :=
  get_setF x (n + 1) t n (Nat.lt_succ_self n) j
end Tr
structure Env where
  t : Tr AV
def Env.get (e : Env) (n : Nat) : AV := (e.t.get n).getD und
def Env.set (e : Env) (n : Nat) (v : AV) : Env := ⟨e.t.set n v⟩
theorem Env.get_set (e : Env) (n : Nat) (v : AV) (j : Nat) : (e.set n v).get j = if j = n then v else e.get j := by
  simp only [Env.get, Env.set, Tr.get_set]
  split <;> rfl
def Env.ofList : Nat → List AV → Env → Env
  | _, [], e => e
  | i, v :: vs, e => Env.ofList (i + 1) vs (e.set i v)
def Env.start (args : List AV) : Env := Env.ofList 0 args ⟨.nil⟩
structure Row where
  ty : Nat
  sz : Nat
  els : List (List AV)
structure Mem where
  next : Nat
  floor : Nat
  t : Tr (Option Row)
def Mem.get (s : Mem) (r : Nat) : Option Row := (s.t.get r).getD none
def Mem.push (s : Mem) (x : Row) : Mem := { s with next := s.next + 1, t := s.t.set s.next (some x) }
def Mem.put (s : Mem) (r : Nat) (x : Option Row) : Mem := { s with t := s.t.set r x }
theorem Mem.get_push (s : Mem) (x : Row) (j : Nat) : (s.push x).get j = if j = s.next then some x else s.get j := by
  simp only [Mem.get, Mem.push, Tr.get_set]
  split <;> rfl
theorem Mem.get_put (s : Mem) (r : Nat) (x : Option Row) (j : Nat) : (s.put r x).get j = if j = r then x else s.get j := by
  simp only [Mem.get, Mem.put, Tr.get_set]
  split <;> rfl
theorem Mem.next_push (s : Mem) (x : Row) : (s.push x).next = s.next + 1 := rfl
theorem Mem.next_put (s : Mem) (r : Nat) (x : Option Row) : (s.put r x).next = s.next := rfl
theorem Mem.floor_push (s : Mem) (x : Row) : (s.push x).floor = s.floor := rfl
theorem Mem.floor_put (s : Mem) (r : Nat) (x : Option Row) : (s.put r x).floor = s.floor := rfl
inductive Opd where
  | t (n : Nat)
  | c (v : AV)
  deriving Inhabited
inductive LK where
  | b | i | s
  deriving Inhabited, DecidableEq
inductive EK where
  | b | sl | fn | ifc | ptr
  | st (ls : List LK)
  deriving Inhabited
inductive COp where
  | mv (x : Opd)
  | pick (c a b : Opd)
  | new (ty : Nat) (cs : List AV)                         -- a new variable that holds these cells
  | box (ty : Nat) (x : Opd)
  | build (zero : List AV) (parts : List (Nat × Nat × Opd))          -- offset, size
  | lit (ty sz : Nat) (zero : List AV) (len : Nat) (parts : List (Nat × Opd))   -- a slice's literal
  | load (agg : Bool) (sz : Nat) (a : Opd)
  | store (sz : Nat) (a x : Opd)
  | nilCheck (x : Opd)
  | ibin (op : BinOp) (x y : Opd)              -- of whole numbers
  | beq (neg : Bool) (k : EK) (x y : Opd)       -- == and != of other values
  | sbin (op : BinOp) (x y : Opd)              -- of strings
  | un (op : UnOp) (x : Opd)
  | conv (k : IntKind) (x : Opd)
  | toStr (x : Opd)                            -- bytes to string
  | toBytes (ty : Nat) (x : Opd)               -- string to bytes
  | same (x : Opd)                             -- a conversion that turns nothing
  | ifc (t : Nat) (x : Opd)
  | fn (f : Nat) (caps : List Opd)
  | mkS (ty sz bytes : Nat) (zero : List AV) (n : Opd)        -- make([]T, n)
  | cutS (sz : Nat) (x : Opd) (lo hi : Option Opd)
  | cutT (x : Opd) (lo hi : Option Opd)         -- of a string
  | cut3 (x hi mx : Opd)                       -- x[:hi:mx]
  | fieldAddr (off : Nat) (x : Opd)
  | field (agg : Bool) (off sz : Nat) (x : Opd)
  | at_ (sz : Nat) (x i : Opd)                  -- an element's address
  | atT (x i : Opd)                             -- a string's byte
  | ixA (agg : Bool) (sz n : Nat) (x i : Opd)   -- an array's element
  | atP (sz n : Nat) (x i : Opd)                -- the address of an array's element
  | ext (x : Opd) (n : Nat)
  | call (f : Opd) (args : List Opd)
  | len (str : Bool) (x : Opd)
  | mkMap (ty : Nat)
  | mapPut (ks : List LK) (agg : Bool) (m k v : Opd)
  | mapGet (ks : List LK) (agg : Bool) (zero : AV) (ok : Bool) (m k : Opd)
  | lenM (x : Opd)
  | cap (x : Opd)                              -- of nil
  | clr (sz : Nat) (zero : List AV) (x : Opd)       -- clear of a slice
  | app (ty sz bytes : Nat) (x y : Opd)
  | appT (ty bytes : Nat) (x y : Opd)           -- a string's bytes
  | appZ (ty sz bytes : Nat) (zero : List AV) (x n : Opd)   -- zeros behind nil
  | mnmx (mx : Bool) (xs : List Opd)
  deriving Inhabited
structure COper where
  dst : Option Nat
  op : COp
  guard : Option (Nat × Bool)
  up : Bool
  hide : List Opd
  deriving Inhabited
inductive CCode where
  | skip
  | region (draw : Bool) (ops : List COper)
  | seq (a b : CCode)
  | cond (c : Opd) (a b : CCode)
  | block (id : Nat) (b : CCode)
  | loop (b : CCode)
  | exit (id : Nat)
  | ret
  deriving Inhabited
inductive CRes where
  | tmp (t : Nat)
  | cell (t : Nat) (agg : Bool) (sz : Nat)
  deriving Inhabited
inductive Pk where
  | back (g : Nat)
  | ins (ty sz bytes : Nat)
  | cmp
  deriving Inhabited
structure CFunc where
  ntmps : Nat
  iso : Bool
  prim : Option Pk
  res : List CRes
  body : CCode
  deriving Inhabited
inductive Ex where
  | normal
  | exit (id : Nat)
  | ret
  deriving DecidableEq
def ev (e : Env) : Opd → AV
  | .t n => e.get n
  | .c v => v
def pickCells (agg : Bool) (cs : List AV) : Option AV :=
  if agg then some (.agg cs) else match cs with | [v] => some v | _ => none
def slice1 (cs : List AV) (o sz : Nat) : Option (List AV) := if o + sz ≤ cs.length then some ((cs.drop o).take sz) else none
def putCells (cs : List AV) (o : Nat) (xs : List AV) : List AV := cs.take o ++ xs ++ cs.drop (o + xs.length)
def loadA (s : Mem) (agg : Bool) (sz : Nat) : AV → Option AV
  | .ptr r i o => do
    let row ← s.get r
    let cs ← row.els[i]?
    pickCells agg (← slice1 cs o sz)
  | .ref cs => do pickCells agg (← slice1 cs 0 sz)
  | _ => none
def storeA (s : Mem) (sz : Nat) (a x : AV) : Option Mem :=
  match a with
  | .ptr r i o => do
    let row ← s.get r
    let cs ← row.els[i]?
    if (cells x).length = sz ∧ o + sz ≤ cs.length ∧ s.floor ≤ r ∧ (cells x).all isCell = true then some (s.put r (some { row with els := row.els.set i (putCells cs o (cells x)) })) else none
  | _ => none
def toNat? (n : Int) : Option Nat := if 0 ≤ n then some n.toNat else none
def intOp (op : BinOp) (k : IntKind) (a : Int) (j : IntKind) (b : Int) : Option AV :=
  match op with
  | .shl => if b < 0 then none else some (.int k (k.wrap (a * 2 ^ min b.toNat k.bits)))
  | .shr => if b < 0 then none else some (.int k (a.fdiv (2 ^ min b.toNat k.bits)))
  | _ => if k ≠ j then none else
    match op with
    | .add => some (.int k (k.wrap (a + b)))
    | .sub => some (.int k (k.wrap (a - b)))
    | .mul => some (.int k (k.wrap (a * b)))
    | .quo => if b = 0 then none else some (.int k (k.wrap (a.tdiv b)))
    | .rem => if b = 0 then none else some (.int k (a.tmod b))
    | .and => some (.int k (k.wrap (BitVec.ofInt k.bits a &&& BitVec.ofInt k.bits b).toNat))
    | .or => some (.int k (k.wrap (BitVec.ofInt k.bits a ||| BitVec.ofInt k.bits b).toNat))
    | .xor => some (.int k (k.wrap (BitVec.ofInt k.bits a ^^^ BitVec.ofInt k.bits b).toNat))
    | .andNot => some (.int k (k.wrap (BitVec.ofInt k.bits a &&& ~~~ BitVec.ofInt k.bits b).toNat))
    | .eql => some (.bool (a == b))
    | .neq => some (.bool (a != b))
    | .lss => some (.bool (a < b))
    | .leq => some (.bool (a ≤ b))
    | .gtr => some (.bool (a > b))
    | .geq => some (.bool (a ≥ b))
    | _ => none
def strOp (op : BinOp) (a b : List UInt8) : Option AV :=
  match op with
  | .add => if a.length + b.length ≤ 9223372036854775807 then some (.str (a ++ b)) else none
  | .eql => some (.bool (a == b))
  | .neq => some (.bool (!(a == b)))
  | .lss => some (.bool (Op.bytesLess a b))
  | .leq => some (.bool (Op.bytesLess a b || a == b))
  | .gtr => some (.bool (!(Op.bytesLess a b || a == b)))
  | .geq => some (.bool (!(Op.bytesLess a b)))
  | _ => none
def eqLf : LK → AV → AV → Option Bool
  | .b, .bool a, .bool b => some (a == b)
  | .i, .int k a, .int j b => if k = j then some (a == b) else none
  | .s, .str a, .str b => some (a == b)
  | _, _, _ => none
def eqL : List LK → List AV → List AV → Option Bool
  | [], [], [] => some true
  | k :: ks, a :: x, b :: y => match eqLf k a b with
    | some true => eqL ks x y
    | some false => some false
    | none => none
  | _, _, _ => none
def eqA : EK → AV → AV → Option Bool
  | .b, .bool a, .bool b => some (a == b)
  | .st ks, .agg x, .agg y => if x.length = ks.length ∧ y.length = ks.length then eqL ks x y else none
  | .sl, .nilS, .nilS => some true
  | .sl, .nilS, .sl _ => some false
  | .sl, .nilS, .own .. => some false
  | .sl, .nilS, .emp => some false
  | .sl, .emp, .nilS => some false
  | .sl, .sl _, .nilS => some false
  | .sl, .own .., .nilS => some false
  | .ptr, .nilP, .nilP => some true
  | .ptr, .nilP, .ptr .. => some false
  | .ptr, .ptr .., .nilP => some false
  | .fn, .nilF, .nilF => some true
  | .fn, .nilF, .fn .. => some false
  | .fn, .fn .., .nilF => some false
  | .ifc, .nilI, .nilI => some true
  | .ifc, .nilI, .ifc .. => some false
  | .ifc, .ifc .., .nilI => some false
  | _, _, _ => none
def byteOf : List AV → Option UInt8
  | [.int .u8 n] => some (UInt8.ofNat n.toNat)
  | _ => none
def readAll (s : Mem) : AV → Option (List (List AV))
  | .nilS => some []
  | .emp => some []
  | .sl xs => some xs
  | .own r i n _ => do
    let row ← s.get r
    if i + n ≤ row.els.length then some ((row.els.drop i).take n) else none
  | _ => none
def lenA : Bool → AV → Option Nat
  | false, .nilS => some 0
  | false, .emp => some 0
  | false, .sl xs => some xs.length
  | false, .own _ _ n _ => some n
  | true, .str s => some s.length
  | _, _ => none
def boundA (e : Env) : Option Opd → Option (Option Nat)
  | none => some none
  | some x => match ev e x with
    | .int _ n => (toNat? n).map some
    | _ => none
def uni (sz : Nat) (xs : List (List AV)) : Bool := xs.all fun c => c.length == sz
def cut3A (x hi mx : AV) : Option AV :=
  match hi, mx with
  | .int _ a, .int _ b => do
    let h ← toNat? a
    let m ← toNat? b
    match x with
    | .nilS => if h = 0 ∧ m = 0 then some .nilS else none
    | .emp => if h = 0 ∧ m = 0 then some .emp else none
    | .sl xs => if h = 0 ∧ m = 0 then some .emp else if h ≤ m ∧ m ≤ xs.length then some (.sl (xs.take h)) else none
    | .own r i n z => if h = 0 ∧ m = 0 then some .emp else if h ≤ m ∧ m ≤ n then some (.own r i h z) else none
    | _ => none
  | _, _ => none
def ixV (agg : Bool) (sz n : Nat) : AV → AV → Option AV
  | .agg cs, .int _ k => match toNat? k with
    | some j => if j < n then (slice1 cs (j * sz) sz).bind (pickCells agg) else none
    | none => none
  | _, _ => none
def atV (sz n : Nat) : AV → AV → Option AV
  | x, .int _ k => match toNat? k with
    | some j => if j < n then match x with
      | .ptr r i o => some (.ptr r i (o + j * sz))
      | .ref cs => some (.ref (cs.drop (j * sz)))
      | _ => none
      else none
    | none => none
  | _, _ => none
def fillParts (e : Env) : List (Nat × Nat × Opd) → List AV → Option (List AV)
  | [], cs => some cs
  | (o, sz, x) :: r, cs =>
    let v := cells (ev e x)
    if v.length = sz ∧ o + sz ≤ cs.length ∧ v.all isCell = true then fillParts e r (putCells cs o v) else none
def fillLit (sz : Nat) (e : Env) : List (Nat × Opd) → List (List AV) → Option (List (List AV))
  | [], es => some es
  | (i, x) :: r, es =>
    let v := cells (ev e x)
    if v.length = sz ∧ i < es.length ∧ v.all isCell = true then fillLit sz e r (es.set i v) else none
def best (mx : Bool) : AV → List AV → Option AV
  | x, [] => some x
  | .int k x, .int j y :: r => if k = j then best mx (.int k (if mx then (if y > x then y else x) else (if y < x then y else x))) r else none
  | .str x, .str y :: r => best mx (.str (if mx then (if Op.bytesLess x y then y else x) else (if Op.bytesLess x y || x == y then x else y))) r
  | _, _ => none
def roomOk (n bytes : Nat) : Bool := Nat.ble n 9223372036854775807 && Nat.ble (n * bytes) 140737488355328
def litV (r len sz : Nat) : AV := if Nat.beq len 0 then .emp else .own r 0 len sz
def appA (s : Mem) (ty sz bytes : Nat) (x : AV) (ys : List (List AV)) : Option (AV × Mem) :=
    if uni sz ys then
    match x with
    | .emp => if ys = [] then some (.emp, s) else if roomOk ys.length bytes then some (.own s.next 0 ys.length sz, s.push ⟨ty, sz, ys⟩) else none
    | .nilS => if ys = [] then some (.nilS, s) else if roomOk ys.length bytes then some (.own s.next 0 ys.length sz, s.push ⟨ty, sz, ys⟩) else none
    | .own r i n _ => do
      let row ← s.get r
      if i = 0 ∧ n ≤ row.els.length ∧ row.ty = ty ∧ row.sz = sz ∧ s.floor ≤ r ∧ roomOk (n + ys.length) bytes then
        some (.own s.next 0 (n + ys.length) sz, (s.put r none).push ⟨ty, sz, row.els.take n ++ ys⟩)
      else none
    | _ => none
    else none
def keyOk (ks : List LK) (agg : Bool) : AV → Bool
  | .agg cs => agg && Nat.beq cs.length ks.length
  | .tup _ => false
  | _ => !agg && Nat.beq ks.length 1
def findM (ks : List LK) (agg : Bool) (k : List AV) : Nat → List (List AV) → Option (Option (Nat × AV))
  | _, [] => some none
  | i, [x, v] :: r => if keyOk ks agg x then match eqL ks k (cells x) with
      | some true => some (some (i, v))
      | some false => findM ks agg k (i + 1) r
      | none => none
    else none
  | _, _ => none
def mapPutA (s : Mem) (ks : List LK) (agg : Bool) (m k v : AV) : Option Mem :=
  match m with
  | .mapv r => do
    let row ← s.get r
    if keyOk ks agg k = true ∧ s.floor ≤ r then match findM ks agg (cells k) 0 row.els with
      | some (some p) => some (s.put r (some { row with els := row.els.set p.1 [k, v] }))
      | some none => some (s.put r (some { row with els := row.els ++ [[k, v]] }))
      | none => none
    else none
  | _ => none
def mapGetA (s : Mem) (ks : List LK) (agg : Bool) (zero m k : AV) : Option (AV × Bool) :=
  match m with
  | .nilM => if keyOk ks agg k then some (zero, false) else none
  | .mapv r => do
    let row ← s.get r
    if keyOk ks agg k then match findM ks agg (cells k) 0 row.els with
      | some (some p) => some (p.2, true)
      | some none => some (zero, false)
      | none => none
    else none
  | _ => none
def lenMA (s : Mem) : AV → Option Nat
  | .nilM => some 0
  | .mapv r => (s.get r).map fun row => row.els.length
  | _ => none
def capA : AV → Option Nat
  | .nilS => some 0
  | _ => none
def clrA (s : Mem) (sz : Nat) (zero : List AV) : AV → Option Mem
  | .nilS => some s
  | .emp => some s
  | .sl [] => some s
  | .own r i n z => if n = 0 then some s else do
    let row ← s.get r
    if i + n ≤ row.els.length ∧ z = sz ∧ row.sz = sz ∧ zero.length = sz ∧ s.floor ≤ r then some (s.put r (some { row with els := row.els.take i ++ List.replicate n zero ++ row.els.drop (i + n) })) else none
  | _ => none
def stepOp (call : Nat → List AV → Mem → Option (AV × Mem)) (o : COp) (e : Env) (s : Mem) : Option (AV × Mem) :=
  match o with
  | .mv x => some (ev e x, s)
  | .pick c a b => match ev e c with | .bool t => some (if t then ev e a else ev e b, s) | _ => none
  | .new ty cs => some (.ptr s.next 0 0, s.push ⟨ty, cs.length, [cs]⟩)
  | .box ty x =>
    let cs := cells (ev e x)
    if cs.all isCell = true then some (.ptr s.next 0 0, s.push ⟨ty, cs.length, [cs]⟩) else none
  | .build zero parts => (fillParts e parts zero).map fun cs => (.agg cs, s)
  | .lit ty sz zero len parts => (fillLit sz e parts (List.replicate len zero)).map fun es => (litV s.next len sz, s.push ⟨ty, sz, es⟩)
  | .load agg sz a => (loadA s agg sz (ev e a)).map fun v => (v, s)
  | .store sz a x => (storeA s sz (ev e a) (ev e x)).map fun s' => (und, s')
  | .nilCheck x => match ev e x with | .ptr r i o => some (.ptr r i o, s) | .ref cs => some (.ref cs, s) | .fn f cs => some (.fn f cs, s) | _ => none
  | .ibin op x y => match ev e x, ev e y with | .int k a, .int j b => (intOp op k a j b).map fun v => (v, s) | _, _ => none
  | .sbin op x y => match ev e x, ev e y with | .str a, .str b => (strOp op a b).map fun v => (v, s) | _, _ => none
  | .beq neg k x y => (eqA k (ev e x) (ev e y)).map fun b => (.bool (if neg then !b else b), s)
  | .un op x => match op, ev e x with
    | .neg, .int k n => some (.int k (k.wrap (0 - n)), s)
    | .xor, .int k n => some (.int k (k.wrap (BitVec.ofInt k.bits (if k.signed then -1 else k.max) ^^^ BitVec.ofInt k.bits n).toNat), s)
    | .not, .bool b => some (.bool (!b), s)
    | _, _ => none
  | .conv k x => match ev e x with | .int _ n => some (.int k (k.wrap n), s) | _ => none
  | .toStr x => do
    let es ← readAll s (ev e x)
    let bs ← es.mapM byteOf
    some (.str bs, s)
  | .toBytes ty x => match ev e x with
    | .str b => if Nat.ble b.length 140737488355328 then some (.own s.next 0 b.length 1, s.push ⟨ty, 1, b.map fun c => [.int .u8 c.toNat]⟩) else none
    | _ => none
  | .same x => match ev e x with | .str b => some (.str b, s) | _ => none
  | .ifc t x => some (.ifc t (ev e x), s)
  | .fn f caps => some (.fn f (caps.map (ev e)), s)
  | .mkS ty sz bytes zero n => match ev e n with
    | .int .i64 k => match toNat? k with
      | some n => if roomOk n bytes ∧ zero.length = sz then some (.own s.next 0 n sz, s.push ⟨ty, sz, List.replicate n zero⟩) else none
      | none => none
    | _ => none
  | .cutS sz x lo hi => do
    let l ← boundA e lo
    let h ← boundA e hi
    let l := l.getD 0
    match ev e x with
    | .nilS => if l = 0 ∧ h.getD 0 = 0 then some (.nilS, s) else none
    | .emp => if l = 0 ∧ h.getD 0 = 0 then some (.emp, s) else none
    | .sl xs =>
      let h := h.getD xs.length
      if l ≤ h ∧ h ≤ xs.length ∧ uni sz xs = true then some (.sl ((xs.take h).drop l), s) else none
    | .own r i n z =>
      let h := h.getD n
      if l ≤ h ∧ h ≤ n ∧ z = sz then some (.own r (i + l) (h - l) z, s) else none
    | _ => none
  | .cutT x lo hi => do
    let l ← boundA e lo
    let h ← boundA e hi
    let l := l.getD 0
    match ev e x with
    | .str b =>
      let h := h.getD b.length
      if l ≤ h ∧ h ≤ b.length then some (.str ((b.take h).drop l), s) else none
    | _ => none
  | .cut3 x hi mx => (cut3A (ev e x) (ev e hi) (ev e mx)).map fun v => (v, s)
  | .fieldAddr off x => match ev e x with
    | .ptr r i o => some (.ptr r i (o + off), s)
    | .ref cs => some (.ref (cs.drop off), s)
    | _ => none
  | .field agg off sz x => match ev e x with
    | .agg cs => do
      let v ← pickCells agg (← slice1 cs off sz)
      some (v, s)
    | _ => none
  | .at_ sz x i => match ev e i with
    | .int _ k => do
      let j ← toNat? k
      match ev e x with
      | .sl xs => do
        let cs ← xs[j]?
        if cs.length = sz then some (.ref cs, s) else none
      | .own r i n z => if j < n ∧ z = sz then some (.ptr r (i + j) 0, s) else none
      | _ => none
    | _ => none
  | .atT x i => match ev e x, ev e i with
    | .str b, .int _ k => do
      let j ← toNat? k
      let c ← b[j]?
      some (.int .u8 c.toNat, s)
    | _, _ => none
  | .ixA agg sz n x i => (ixV agg sz n (ev e x) (ev e i)).map fun v => (v, s)
  | .atP sz n x i => (atV sz n (ev e x) (ev e i)).map fun v => (v, s)
  | .ext x n => match ev e x with
    | .tup vs => (vs[n]?).map fun v => (v, s)
    | _ => none
  | .call f args => match ev e f with
    | .fn g caps => call g (args.map (ev e) ++ caps) s
    | _ => none
  | .len str x => (lenA str (ev e x)).map fun (n : Nat) => (AV.int .i64 (n : Int), s)
  | .app ty sz bytes x y => do
    let ys ← readAll s (ev e y)
    appA s ty sz bytes (ev e x) ys
  | .appT ty bytes x y => match ev e y with
    | .str b => appA s ty 1 bytes (ev e x) (b.map fun c => [.int .u8 c.toNat])
    | _ => none
  | .appZ ty sz bytes zero x n => match ev e x, ev e n with
    | .nilS, .int .i64 k => match toNat? k with
      | some n => if 0 < n ∧ roomOk n bytes = true ∧ zero.length = sz then some (.own s.next 0 n sz, s.push ⟨ty, sz, List.replicate n zero⟩) else none
      | none => none
    | _, _ => none
  | .mkMap ty => some (.mapv s.next, s.push ⟨ty, 0, []⟩)
  | .mapPut ks agg m k v => (mapPutA s ks agg (ev e m) (ev e k) (ev e v)).map fun s' => (und, s')
  | .mapGet ks agg zero ok m k => (mapGetA s ks agg zero (ev e m) (ev e k)).map fun p => (if ok then .tup [p.1, .bool p.2] else p.1, s)
  | .lenM x => (lenMA s (ev e x)).map fun (n : Nat) => (AV.int .i64 (n : Int), s)
  | .cap x => (capA (ev e x)).map fun (n : Nat) => (AV.int .i64 (n : Int), s)
  | .clr sz zero x => (clrA s sz zero (ev e x)).map fun s' => (und, s')
  | .mnmx mx xs => match xs.map (ev e) with
    | x :: r => (best mx x r).map fun v => (v, s)
    | [] => none
def wantedA (o : COper) (e : Env) : Bool :=
  match o.guard with
  | none => true
  | some (t, b) => match e.get t with
    | .bool c => c == b
    | _ => false
def putO (e : Env) (d : Option Nat) (v : AV) : Env :=
  match d with
  | some d => e.set d v
  | none => e
def rowOf : AV → Option Nat
  | .ptr r _ _ => some r
  | .own r _ _ _ => some r
  | .mapv r => some r
  | _ => none
def Mem.hide (s : Mem) : List Nat → Mem
  | [] => s
  | r :: rs => (s.put r none).hide rs
def Mem.bring (s' s : Mem) : List Nat → Mem
  | [] => s'
  | r :: rs => (s'.bring s rs).put r (s.get r)
def hideRows (e : Env) : List Opd → List Nat
  | [] => []
  | x :: xs => match rowOf (ev e x) with
    | some r => r :: hideRows e xs
    | none => hideRows e xs
def stepO (call : Nat → List AV → Mem → Option (AV × Mem)) (o : COper) (e : Env) (s : Mem) : Option (Env × Mem) :=
  if wantedA o e then
    if o.up then (stepOp call o.op e { s with floor := s.next }).map fun p => (putO e o.dst p.1, { p.2 with floor := s.floor })
    else (stepOp call o.op e (s.hide (hideRows e o.hide))).map fun p => (putO e o.dst p.1, p.2.bring s (hideRows e o.hide))
  else some (putO e o.dst und, s)
def opsA (call : Nat → List AV → Mem → Option (AV × Mem)) : List COper → Env → Mem → Option (Env × Mem)
  | [], e, s => some (e, s)
  | o :: r, e, s => match stepO call o e s with
    | some p => opsA call r p.1 p.2
    | none => none
def resA (s : Mem) (e : Env) : CRes → Option AV
  | .tmp t => some (e.get t)
  | .cell t agg sz => loadA s agg sz (e.get t)
def resultsA (s : Mem) (e : Env) (rs : List CRes) : Option AV :=
  match rs.mapM (resA s e) with
  | some [v] => some v
  | some vs => some (.tup vs)
  | none => none
def Mem.zero : Mem := ⟨0, 0, .nil⟩
def plainA : AV → Bool
  | .bool _ | .int .. | .str _ => true
  | _ => false
def isoF (F : Nat → Option CFunc) (f : Nat) : Bool := match F f with
  | some cf => cf.iso
  | none => false
def sliceA : AV → Bool
  | .nilS | .emp | .sl _ | .own .. => true
  | _ => false
def backFind (xs : List (List AV)) (d : AV) : Nat → Option AV
  | 0 => some d
  | k + 1 => match xs[k]? with
    | some [.int .u64 _, .int .u64 _, .int .i64 n, x] => if sliceA x = true then (if n = 2 then some x else backFind xs d k) else none
    | _ => none
def backSel (s : Mem) (args : List AV) : Option AV :=
  match args with
  | [.agg [_, _, _, d, l]] => (readAll s l).bind fun xs => if Nat.ble xs.length 17592186043904 = true then backFind xs d xs.length else none
  | _ => none
def callC (ex : CCode → Env → Mem → Option (Ex × Env × Mem)) (F : Nat → Option CFunc) (f : Nat) (args : List AV) (s : Mem) : Option (AV × Mem) :=
  match F f with
  | some cf =>
    if args.length ≤ cf.ntmps ∧ cf.prim = none then
    match ex cf.body (Env.start args) s with
    | some (.normal, e, s') | some (.ret, e, s') => (resultsA s' e cf.res).map fun v => (v, s')
    | _ => none
    else none
  | none => none
def insA (ty sz bytes : Nat) (args : List AV) (s : Mem) : Option (AV × Mem) :=
  match args with
  | [x, .int .i64 i, .own q 0 m z] => do
    let k ← toNat? i
    let rq ← s.get q
    let ys := rq.els.take m
    if 0 < m ∧ m ≤ rq.els.length ∧ rq.ty = ty ∧ rq.sz = sz ∧ z = sz then
      match x with
      | .nilS => if k = 0 ∧ roomOk m bytes = true then some (.own s.next 0 m sz, s.push ⟨ty, sz, ys⟩) else none
      | .emp => if k = 0 ∧ roomOk m bytes = true then some (.own s.next 0 m sz, s.push ⟨ty, sz, ys⟩) else none
      | .own r 0 n _ => do
        let row ← s.get r
        if k ≤ n ∧ n ≤ row.els.length ∧ row.ty = ty ∧ row.sz = sz ∧ q ≠ r ∧ s.floor ≤ r ∧ roomOk (n + m) bytes = true then
          some (.own s.next 0 (n + m) sz, (s.put r none).push ⟨ty, sz, (row.els.take n).take k ++ ys ++ (row.els.take n).drop k⟩)
        else none
      | _ => none
    else none
  | _ => none
def cmpS (a b : List UInt8) : Int := if Op.bytesLess a b then -1 else if a == b then 0 else 1
def primA : Pk → List AV → Mem → Option (AV × Mem)
  | .ins ty sz bytes, a, s => insA ty sz bytes a s
  | .cmp, [.str a, .str b], s => some (.int .i64 (cmpS a b), s)
  | _, _, _ => none
def primF (F : Nat → Option CFunc) (f : Nat) : Option Pk := (F f).bind (·.prim)
def callB (ex : CCode → Env → Mem → Option (Ex × Env × Mem)) (F : Nat → Option CFunc) (f : Nat) (args : List AV) (s : Mem) : Option (AV × Mem) :=
  match primF F f with
  | some (.back g) => match backSel s args with
    | some d => match callC ex F g [d] s with
      | some p => if sliceA p.1 = true then some p else none
      | none => none
    | none => none
  | some p => primA p args s
  | none => callC ex F f args s
def callA (ex : CCode → Env → Mem → Option (Ex × Env × Mem)) (F : Nat → Option CFunc) (f : Nat) (args : List AV) (s : Mem) : Option (AV × Mem) :=
  if isoF F f && args.isEmpty then
    match callB ex F f args .zero with
    | some (v, _) => if plainA v then some (v, s) else none
    | none => none
  else callB ex F f args s
def exec (F : Nat → Option CFunc) : Nat → CCode → Env → Mem → Option (Ex × Env × Mem)
  | 0, _, _, _ => none
  | n + 1, c, e, s =>
    match c with
    | .skip => some (.normal, e, s)
    | .region _ ops => (opsA (callA (exec F n) F) ops e s).map fun p => (.normal, p.1, p.2)
    | .seq a b => match exec F n a e s with
      | some (.normal, e', s') => exec F n b e' s'
      | r => r
    | .cond x a b => match ev e x with
      | .bool true => exec F n a e s
      | .bool false => exec F n b e s
      | _ => none
    | .block id b => match exec F n b e s with
      | some (.exit j, e', s') => if j = id then some (.normal, e', s') else some (.exit j, e', s')
      | r => r
    | .loop b => match exec F n b e s with
      | some (.normal, e', s') => exec F n (.loop b) e' s'
      | r => r
    | .exit id => some (.exit id, e, s)
    | .ret => some (.ret, e, s)
def run (F : Nat → Option CFunc) (n : Nat) (f : Nat) (args : List AV) (s : Mem) : Option (AV × Mem) := callA (exec F n) F f args s
end Go.VI
/- From the model's code to the compact one. No statement of the seat is proved here. -/
namespace Go.VI
open Go
def leafAV : Value → Option AV
  | .bool b => some (.bool b)
  | .int k n => some (.int k n)
  | .string s => some (.str s.data.toList)
  | .slice none 0 0 => some .nilS
  | .pointer none => some .nilP
  | .nilFunc => some .nilF
  | .nilIface => some .nilI
  | .map none => some .nilM
  | _ => none
def constAV : Value → Option AV
  | .agg cs => (cs.toList.mapM leafAV).map .agg
  | .tuple vs => if vs.size = 0 then some und else none
  | v => leafAV v
def cOpd : Operand → Option Opd
  | .tmp t => some (.t t)
  | .const v => (constAV v).map .c
  | .func f => some (.c (.fn f []))
  | .global _ => none
def cSize (P : Program) (t : TypeId) : Option Nat := (P.info? t).map (·.size)
def cBytes (P : Program) (t : TypeId) : Option Nat := (P.info? t).map (·.bytes)
def cZero (P : Program) (t : TypeId) : Option (List AV) := do
  let i ← P.info? t
  let z ← i.zero
  let v ← constAV z
  let cs := cells v
  if cs.length = i.size ∧ cs.all isCell = true ∧ z.cells.size = i.size then some cs else none
def cZeroV (P : Program) (t : TypeId) : Option AV := do
  let i ← P.info? t
  let z ← i.zero
  constAV z
def cAgg (P : Program) (t : TypeId) : Option Bool :=
  match P.underlying t with
  | some (.struct _) | some (.array _ _) => some true
  | some _ => some false
  | none => none
def leavesF (P : Program) (lv : TypeId → Option (List LK)) : List Field → Nat → Option (List LK)
  | [], _ => some []
  | f :: r, off => do
    let k ← lv f.type
    if f.name ≠ "_" ∧ f.offset = off ∧ cSize P f.type = some k.length ∧ (cAgg P f.type).isSome = true then do
      let l ← leavesF P lv r (off + k.length)
      some (k ++ l)
    else none
def leaves (P : Program) : Nat → TypeId → Option (List LK)
  | 0, _ => none
  | d + 1, t => match P.underlying t with
    | some .bool => some [.b]
    | some (.int _) => some [.i]
    | some .string => some [.s]
    | some (.struct fs) => if P.stoodInHeld t then none else leavesF P (leaves P d) fs.toList 0
    | _ => none
def isConst : Operand → Bool
  | .const _ => true
  | _ => false
def eqKind (P : Program) (t : TypeId) (x y : Operand) : Option EK :=
  match P.underlying t with
  | some .bool => some .b
  | some (.slice _) => some .sl
  | some (.func ..) => some .fn
  | some (.interface _) => if isConst x || isConst y then some .ifc else none
  | some (.pointer _) => some .ptr
  | some (.struct _) => if P.eqGuardType P.depth t then none else (leaves P 20 t).map .st
  | _ => none
def sameOpd : Operand → Operand → Bool
  | .tmp a, .tmp b => a == b
  | .const (.int .i64 a), .const (.int .i64 b) => a == b
  | _, _ => false
def cParts (P : Program) (fs : Array Field) (ps : List (Nat × Operand)) : Option (List (Nat × Nat × Opd)) :=
  ps.mapM fun p => do
    let f ← fs[p.1]?
    let sz ← cSize P f.type
    let x ← cOpd p.2
    some (f.offset, sz, x)
def cLits (ps : List (Nat × Operand)) : Option (List (Nat × Opd)) := ps.mapM fun p => do some (p.1, ← cOpd p.2)
def cOpt : Option Operand → Option (Option Opd)
  | none => some none
  | some x => (cOpd x).map some
def cOp (P : Program) (o : Op) : Option COp :=
  match o with
  | .move x | .assign x => do some (.mv (← cOpd x))
  | .pick c a b => do some (.pick (← cOpd c) (← cOpd a) (← cOpd b))
  | .alloc t => do some (.new t (← cZero P t))
  | .box t x => do some (.box t (← cOpd x))
  | .build t ps =>
    match P.underlying t with
    | some (.struct fs) => do
      let z ← cZero P t
      let ps ← cParts P fs ps.toList
      if fs.all (fun f => (cSize P f.type).isSome) = true then some (.build z ps) else none
    | _ => none
  | .buildSlice t n ps =>
    match P.underlying t with
    | some (.slice e) => do
      let sz ← cSize P e
      let z ← cZero P e
      let ps ← cLits ps.toList
      if 0 < sz ∧ n * sz ≤ 16777216 then some (.lit e sz z n ps) else none
    | _ => none
  | .load t a => do some (.load (← cAgg P t) (← cSize P t) (← cOpd a))
  | .store t a x => do some (.store (← cSize P t) (← cOpd a) (← cOpd x))
  | .nilCheck x => do some (.nilCheck (← cOpd x))
  | .binOp op t x y _ =>
    match P.underlying t with
    | some (.int _) => do some (.ibin op (← cOpd x) (← cOpd y))
    | some .string => do some (.sbin op (← cOpd x) (← cOpd y))
    | _ => match op with
      | .eql => do some (.beq false (← eqKind P t x y) (← cOpd x) (← cOpd y))
      | .neq => do some (.beq true (← eqKind P t x y) (← cOpd x) (← cOpd y))
      | _ => none
  | .unOp op _ x => do some (.un op (← cOpd x))
  | .convert s d x =>
    match P.underlying s, P.underlying d with
    | some (.int _), some (.int k) => do some (.conv k (← cOpd x))
    | some .string, some .string => do some (.same (← cOpd x))
    | some (.slice e), some .string => match P.underlying e with
      | some (.int .u8) => do some (.toStr (← cOpd x))
      | _ => none
    | some .string, some (.slice e) => match P.underlying e with
      | some (.int .u8) => do some (.toBytes e (← cOpd x))
      | _ => none
    | _, _ => none
  | .makeInterface t x =>
    match P.underlying t with
    | some (.interface _) | none => none
    | some _ => do some (.ifc t (← cOpd x))
  | .makeFunc (.func f) first caps => if first.size = 0 then do some (.fn f (← caps.toList.mapM cOpd)) else none
  | .makeSlice t l c =>
    match P.underlying t with
    | some (.slice e) => do
      let sz ← cSize P e
      let by_ ← cBytes P e
      let z ← cZero P e
      if sameOpd l c = true ∧ 0 < sz then some (.mkS e sz by_ z (← cOpd l)) else none
    | _ => none
  | .slice t x lo hi none =>
    match P.underlying t with
    | some .string => do some (.cutT (← cOpd x) (← cOpt lo) (← cOpt hi))
    | some (.slice e) => do some (.cutS (← cSize P e) (← cOpd x) (← cOpt lo) (← cOpt hi))
    | _ => none
  | .slice t x none (some hi) (some mx) =>
    match P.underlying t with
    | some (.slice e) => do
      let _ ← cSize P e
      some (.cut3 (← cOpd x) (← cOpd hi) (← cOpd mx))
    | _ => none
  | .fieldAddr t x f =>
    match P.underlying t with
    | some (.struct fs) => do
      let f ← fs[f]?
      let sz ← cSize P f.type
      if sz = 0 then none else some (.fieldAddr f.offset (← cOpd x))
    | _ => none
  | .field t x f =>
    match P.underlying t with
    | some (.struct fs) => do
      let f ← fs[f]?
      some (.field (← cAgg P f.type) f.offset (← cSize P f.type) (← cOpd x))
    | _ => none
  | .indexAddr t x i =>
    match P.underlying t with
    | some (.slice e) => do some (.at_ (← cSize P e) (← cOpd x) (← cOpd i))
    | some (.array n e) => do some (.atP (← cSize P e) n (← cOpd x) (← cOpd i))
    | _ => none
  | .index t x i =>
    match P.underlying t with
    | some .string => do some (.atT (← cOpd x) (← cOpd i))
    | some (.array n e) => do some (.ixA (← cAgg P e) (← cSize P e) n (← cOpd x) (← cOpd i))
    | _ => none
  | .extract x n => do some (.ext (← cOpd x) n)
  | .call { callee := .value f, args, .. } => do some (.call (← cOpd f) (← args.toList.mapM cOpd))
  | .call { callee := .builtin .len, args, argTypes } =>
    match args.toList, argTypes.toList with
    | [x], [t] => match P.underlying t with
      | some .string => do some (.len true (← cOpd x))
      | some (.slice _) => do some (.len false (← cOpd x))
      | some (.map _ _) => do some (.lenM (← cOpd x))
      | _ => none
    | _, _ => none
  | .call { callee := .builtin .cap, args, argTypes } =>
    match args.toList, argTypes.toList with
    | [x], [t] => match P.underlying t with
      | some (.slice _) => do some (.cap (← cOpd x))
      | _ => none
    | _, _ => none
  | .panic _ => some (.ext (.c und) 0)
  | .call { callee := .builtin .clear, args, argTypes } =>
    match args.toList, argTypes.toList with
    | [x], [t] => match P.underlying t with
      | some (.slice e) => do some (.clr (← cSize P e) (← cZero P e) (← cOpd x))
      | _ => none
    | _, _ => none
  | .makeMap t r =>
    match r, P.underlying t with
    | none, some (.map _ _) => some (.mkMap t)
    | some (.const (.int _ _)), some (.map _ _) => some (.mkMap t)
    | _, _ => none
  | .mapUpdate t m k v | .insert t m k v =>
    match P.underlying t with
    | some (.map kt _) => do some (.mapPut (← leaves P 20 kt) (← cAgg P kt) (← cOpd m) (← cOpd k) (← cOpd v))
    | _ => none
  | .lookup t m k ok =>
    match P.underlying t with
    | some (.map kt et) => do some (.mapGet (← leaves P 20 kt) (← cAgg P kt) (← cZeroV P et) ok (← cOpd m) (← cOpd k))
    | _ => none
  | .call { callee := .builtin .append, args, argTypes } =>
    match args.toList, argTypes.toList with
    | [x, y], [t, u] => match P.underlying t with
      | some (.slice e) => do
        let sz ← cSize P e
        let by_ ← cBytes P e
        let z ← cZero P e
        if 0 < sz ∧ t = u then some (.app e sz by_ (← cOpd x) (← cOpd y)) else
        match sz, P.underlying u with
        | 1, some .string => do some (.appT e by_ (← cOpd x) (← cOpd y))
        | _, some (.int _) => if 0 < sz then do some (.appZ e sz by_ z (← cOpd x) (← cOpd y)) else none
        | _, _ => none
      | _ => none
    | _, _ => none
  | .call { callee := .builtin .max, args, .. } => do some (.mnmx true (← args.toList.mapM cOpd))
  | .call { callee := .builtin .min, args, .. } => do some (.mnmx false (← args.toList.mapM cOpd))
  | _ => none
def cGuard (ops : Array Oper) : Option (Nat × Bool) → Option (Option (Nat × Bool))
  | none => some none
  | some (j, b) => match (ops[j]?).bind (·.dst) with
    | some t => some (some (t, b))
    | none => none
def dstOk (n : Nat) : Option Nat → Bool
  | none => true
  | some d => Nat.blt d n
def inertO : Op → Bool
  | .move _ | .assign _ | .pick .. | .build .. | .nilCheck _ | .binOp .. | .unOp .. | .makeInterface .. | .makeFunc .. | .slice .. | .fieldAddr .. | .field .. | .indexAddr .. | .index .. | .extract .. => true
  | .call { callee := .builtin .len, .. } | .call { callee := .builtin .cap, .. } | .call { callee := .builtin .max, .. } | .call { callee := .builtin .min, .. } => true
  | _ => false
def inertC : COp → Bool
  | .mv _ | .pick .. | .build .. | .nilCheck _ | .ibin .. | .beq .. | .sbin .. | .un .. | .ifc .. | .fn .. | .cutS .. | .cutT .. | .cut3 .. | .fieldAddr .. | .field .. | .at_ .. | .atT .. | .ixA .. | .atP .. | .ext .. | .len .. | .cap .. | .mnmx .. => true
  | _ => false
def cOper (P : Program) (n : Nat) (ops : Array Oper) (up : Bool × List Opd) (o : Oper) : Option COper := do
  let c ← cOp P o.op
  let g ← cGuard ops o.guard
  if dstOk n o.dst && (!inertO o.op || inertC c || !up.1) then some { dst := o.dst, op := c, guard := g, up := up.1, hide := up.2 } else none
def otmp : Opd → List Nat
  | .t n => [n]
  | .c _ => []
def otmp? : Option Opd → List Nat
  | some x => otmp x
  | none => []
def ctmps : COp → List Nat
  | .mv x | .box _ x | .nilCheck x | .un _ x | .conv _ x | .toStr x | .toBytes _ x | .same x | .ifc _ x | .fieldAddr _ x | .field _ _ _ x | .ext x _ | .len _ x | .load _ _ x | .mkS _ _ _ _ x | .lenM x | .cap x | .clr _ _ x => otmp x
  | .pick c a b => otmp c ++ otmp a ++ otmp b
  | .new .. | .mkMap _ => []
  | .mapPut _ _ m k v => otmp m ++ otmp k ++ otmp v
  | .mapGet _ _ _ _ m k => otmp m ++ otmp k
  | .build _ ps => ps.flatMap fun p => otmp p.2.2
  | .lit _ _ _ _ ps => ps.flatMap fun p => otmp p.2
  | .store _ a x | .ibin _ a x | .beq _ _ a x | .sbin _ a x | .at_ _ a x | .atT a x | .ixA _ _ _ a x | .atP _ _ a x | .app _ _ _ a x | .appT _ _ a x | .appZ _ _ _ _ a x => otmp a ++ otmp x
  | .fn _ xs | .mnmx _ xs => xs.flatMap otmp
  | .cut3 x h m => otmp x ++ otmp h ++ otmp m
  | .cutS _ x l h | .cutT x l h => otmp x ++ otmp? l ++ otmp? h
  | .call f xs => otmp f ++ xs.flatMap otmp
def creads (c : COper) : List Nat := ctmps c.op ++ (match c.guard with | some (t, _) => [t] | none => [])
def inertAt (ops : Array Oper) (i : Nat) : Bool := match ops[i]? with
  | some o => inertO o.op
  | none => false
def total (ops : Array Oper) (bs : Array Nat) (n i : Nat) : Bool :=
  (List.range n).all fun j => inertAt ops j || (if j < i then (bs.getD i 0).testBit j else if i < j then (bs.getD j 0).testBit i else true)
def floatC : COp → Bool
  | .load .. | .new .. | .box .. => true
  | .lit _ _ _ len _ => Nat.blt 0 len
  | _ => false
def floatOpd (c : COper) : Option Opd := match c.op with
  | .load _ _ a => some a
  | _ => c.dst.map .t
def steady (ops : Array Oper) (j : Nat) (c : COp) : Bool := match c with
  | .load _ _ a => match a with
    | .c _ => true
    | .t t => (List.range ops.size).all fun k => Nat.blt k j || match ops[k]? with
      | some o => !(o.dst == some t)
      | none => true
  | _ => true
def isPtr (P : Program) (t : TypeId) : Bool := match P.underlying t with
  | some (.pointer _) => true
  | _ => false
def stillO (P : Program) : Op → Bool
  | .store .. | .mapUpdate .. | .insert .. | .mapEntry .. | .entryStore .. => false
  | .call { callee := .builtin .clear, .. } => false
  | .call { callee := .value (.func _), argTypes, .. } => !argTypes.toList.any (isPtr P)
  | .call { callee := .value _, .. } => false
  | _ => true
def stillC (P : Program) : Code → Bool
  | .region _ ops _ => ops.toList.all fun o => stillO P o.op
  | .seq a b | .cond _ a b => stillC P a && stillC P b
  | .block _ b | .loop b => stillC P b
  | _ => true
def still (P : Program) : Operand → Bool
  | .func f => match (P.funcs[f]?).bind (·.body) with
    | some b => stillC P b
    | none => false
  | _ => false
def writerO (P : Program) : Op → Bool
  | .store .. | .mapUpdate .. | .insert .. => true
  | .call { callee := .builtin .clear, .. } => true
  | .call { callee := .value f, argTypes, .. } => argTypes.toList.any (isPtr P) && !still P f
  | _ => false
def lateOk (P : Program) (n : Nat) (ops : Array Oper) (j : Nat) : Option Opd := match ops[j]? with
  | some o => match cOper P n ops (true, []) o with
    | some c => if floatC c.op then match floatOpd c with
        | some x => if steady ops j c.op then some x else none
        | none => none
      else none
    | none => none
  | none => none
def lates (ops : Array Oper) (bs : Array Nat) (i : Nat) : List Nat := (List.range i).filter fun j => !inertAt ops j && !(bs.getD i 0).testBit j
def totalL (P : Program) (n : Nat) (ops : Array Oper) (bs : Array Nat) (i : Nat) : Option (List Opd) :=
  if (List.range ops.size).all fun j => inertAt ops j || Nat.ble j i || (bs.getD j 0).testBit i then (lates ops bs i).mapM (lateOk P n ops) else none
def ups (P : Program) (n : Nat) (ops : Array Oper) (draw : Bool) : List (Bool × List Opd) :=
  if draw then
    let bs := Region.before ops
    (List.range ops.size).map fun i =>
      if inertAt ops i then (true, []) else if total ops bs ops.size i then (false, []) else
      match ops[i]? with
      | some o => if writerO P o.op then match totalL P n ops bs i with
          | some l => (false, l)
          | none => (true, [])
        else (true, [])
      | none => (true, [])
  else ops.toList.map fun _ => (false, [])
def edgesOk (ops : Array Oper) : Bool :=
  ops.toList.zipIdx.all fun p => p.1.after.toList.all fun e => !Region.binds .any e || Nat.blt e.on p.2
def readsOk (bs : Array Nat) (cs : List COper) : Bool :=
  cs.zipIdx.all fun p =>
    (creads p.1).all (fun t => cs.zipIdx.all fun q => if q.1.dst == some t then (bs.getD p.2 0).testBit q.2 || (Nat.blt p.2 q.2 && (bs.getD q.2 0).testBit p.2) else true) &&
    (match p.1.dst with | some d => cs.zipIdx.all fun q => if q.1.dst == some d then q.2 == p.2 else true | none => true)
def cRegion (P : Program) (n : Nat) (ops : Array Oper) (draw : Bool) : Option (List COper) := do
  let cs ← (ops.toList.zip (ups P n ops draw)).mapM fun p => cOper P n ops p.2 p.1
  if draw && !(P.follows .mixedOrders && edgesOk ops && readsOk (Region.before ops) cs) then none else some cs
def cCode (P : Program) (n : Nat) : Code → Option CCode
  | .skip => some .skip
  | .region _ ops draw => do some (.region draw (← cRegion P n ops draw))
  | .seq a b => do some (.seq (← cCode P n a) (← cCode P n b))
  | .cond c a b => do some (.cond (← cOpd c) (← cCode P n a) (← cCode P n b))
  | .block id b => do some (.block id (← cCode P n b))
  | .loop b => do some (.loop (← cCode P n b))
  | .exit id => some (.exit id)
  | .ret => some .ret
  | _ => none
def cRes (P : Program) : ResultVar → Option CRes
  | .tmp t => some (.tmp t)
  | .cell a t => do some (.cell a (← cAgg P t) (← cSize P t))
def cPlain (P : Program) (t : TypeId) : Bool := match P.underlying t with
  | some .bool | some (.int _) | some .string => true
  | _ => false
def cFunc (P : Program) (fn : Func) : Option CFunc := do
  let b ← fn.body
  let c ← cCode P fn.ntmps b
  let rs ← fn.results.toList.mapM (cRes P)
  if fn.name == "runtime.NumGoroutine" then none else some { ntmps := fn.ntmps, iso := Nat.beq fn.params.size 0 && fn.resultTypes.toList.all (cPlain P), prim := none, res := rs, body := c }
def comp (P : Program) (f : Nat) : Option CFunc := (P.funcs[f]?).bind (cFunc P)
def compX (P : Program) (X : Nat → Option CFunc) (f : Nat) : Option CFunc := match X f with
  | some cf => some cf
  | none => comp P f
end Go.VI
/- What a tree says of a value in memory; what a memory of rows says of the machine's. No statement of the seat is proved here. -/
namespace Go.VI
open Go Go.RowKit
structure Pl where
  ty : Nat
  blk : Nat
  cap : Nat
  e : Nat
  mp : Bool
abbrev PM := Nat → Option Pl
inductive V (W0 : World) (m : PM) : Value → AV → Prop
  | bool (b : Bool) : V W0 m (.bool b) (.bool b)
  | int (k : IntKind) (n : Int) : V W0 m (.int k n) (.int k n)
  | str (s : ByteArray) : V W0 m (.string s) (.str s.data.toList)
  | nilS : V W0 m (.slice none 0 0) .nilS
  | emp (a : Addr) : V W0 m (.slice (some a) 0 0) .emp
  | sl (a : Addr) (len cap e : Nat) (xs : List (List AV)) (hb : xs ≠ [] → a = ⟨a.block, a.off, none⟩ ∧ a.block < W0.heap.size) (hl : xs.length = len) (hc : len ≤ cap)
      (he : ∀ (i : Nat) (x : List AV), xs[i]? = some x → x.length = e)
      (hcell : ∀ (i : Nat) (x : List AV) (o : Nat) (c : AV), xs[i]? = some x → x[o]? = some c → isCell c = true ∧ (W0.cell? ⟨a.block, a.off + (i * e + o), none⟩).isSome)
      (hv : ∀ (i : Nat) (x : List AV) (o : Nat) (c : AV) (v : Value), xs[i]? = some x → x[o]? = some c → W0.cell? ⟨a.block, a.off + (i * e + o), none⟩ = some v → V W0 m v c) :
      V W0 m (.slice (some a) len cap) (.sl xs)
  | own (off n cp r i : Nat) (pl : Pl) (hm : m r = some pl) (hp : pl.mp = false) (hi : i + cp ≤ pl.cap) (hn : n ≤ cp) (ha : 0 < cp ∨ i = 0 → off = i * pl.e) :
      V W0 m (.slice (some ⟨pl.blk, off, none⟩) n cp) (.own r i n pl.e)
  | nilP : V W0 m (.pointer none) .nilP
  | mapv (r : Nat) (pl : Pl) (hm : m r = some pl) (hp : pl.mp = true) : V W0 m (.map (some pl.blk)) (.mapv r)
  | nilM : V W0 m (.map none) .nilM
  | ptr (r i o : Nat) (pl : Pl) (hm : m r = some pl) (hp : pl.mp = false) : V W0 m (.pointer (some ⟨pl.blk, i * pl.e + o, none⟩)) (.ptr r i o)
  | ref (b off : Nat) (cs : List AV) (hb : b < W0.heap.size)
      (hcell : ∀ (o : Nat) (c : AV), cs[o]? = some c → isCell c = true ∧ (W0.cell? ⟨b, off + o, none⟩).isSome)
      (hv : ∀ (o : Nat) (c : AV) (v : Value), cs[o]? = some c → W0.cell? ⟨b, off + o, none⟩ = some v → V W0 m v c) :
      V W0 m (.pointer (some ⟨b, off, none⟩)) (.ref cs)
  | fn (f : Nat) (caps : Array Value) (avs : List AV) (hl : caps.size = avs.length)
      (hv : ∀ (i : Nat) (v : Value) (c : AV), caps[i]? = some v → avs[i]? = some c → V W0 m v c) : V W0 m (.func (.func f) #[] caps) (.fn f avs)
  | nilF : V W0 m .nilFunc .nilF
  | ifc (t : Nat) (v : Value) (c : AV) (hv : V W0 m v c) : V W0 m (.iface t v) (.ifc t c)
  | nilI : V W0 m .nilIface .nilI
  | agg (cs : Array Value) (acs : List AV) (hl : cs.size = acs.length) (hc : ∀ (i : Nat) (c : AV), acs[i]? = some c → isCell c = true)
      (hv : ∀ (i : Nat) (v : Value) (c : AV), cs[i]? = some v → acs[i]? = some c → V W0 m v c) : V W0 m (.agg cs) (.agg acs)
  | tup (vs : Array Value) (avs : List AV) (hl : vs.size = avs.length)
      (hv : ∀ (i : Nat) (v : Value) (c : AV), vs[i]? = some v → avs[i]? = some c → V W0 m v c) : V W0 m (.tuple vs) (.tup avs)
theorem V.own' {W0 : World} {m : PM} {off n cp r i z : Nat} {pl : Pl} (hm : m r = some pl) (hp : pl.mp = false) (hi : i + cp ≤ pl.cap) (hn : n ≤ cp) (ha : 0 < cp ∨ i = 0 → off = i * pl.e) (hz : pl.e = z) :
    V W0 m (.slice (some ⟨pl.blk, off, none⟩) n cp) (.own r i n z) := by
  subst hz; exact .own _ _ _ _ _ pl hm hp hi hn ha
theorem V.mono {W0 : World} {m m' : PM} (h : ∀ r pl, m r = some pl → m' r = some pl) {v : Value} {c : AV} (hv : V W0 m v c) : V W0 m' v c := by
  induction hv with
  | bool b => exact .bool b
  | int k n => exact .int k n
  | str s => exact .str s
  | nilS => exact .nilS
  | emp a => exact .emp a
  | sl a len cap e xs hb hl hc he hcell _ ih => exact .sl a len cap e xs hb hl hc he hcell ih
  | own off n cp r i pl hm hp hi hn ha => exact .own off n cp r i pl (h _ _ hm) hp hi hn ha
  | mapv r pl hm hp => exact .mapv r pl (h _ _ hm) hp
  | nilM => exact .nilM
  | nilP => exact .nilP
  | ptr r i o pl hm hp => exact .ptr r i o pl (h _ _ hm) hp
  | ref b off cs hb hcell _ ih => exact .ref b off cs hb hcell ih
  | fn f caps avs hl _ ih => exact .fn f caps avs hl ih
  | nilF => exact .nilF
  | ifc t v c _ ih => exact .ifc t v c ih
  | nilI => exact .nilI
  | agg cs acs hl hc _ ih => exact .agg cs acs hl hc ih
  | tup vs avs hl _ ih => exact .tup vs avs hl ih
theorem V.und (W0 : World) (m : PM) : V W0 m undef VI.und := .tup #[] [] rfl (by intro i v c h; simp at h)
def VL (W0 : World) (m : PM) (vs : Array Value) (cs : List AV) : Prop := vs.size = cs.length ∧ ∀ (i : Nat) (v : Value) (c : AV), vs[i]? = some v → cs[i]? = some c → V W0 m v c
theorem VL.mono {W0 : World} {m m' : PM} (h : ∀ r pl, m r = some pl → m' r = some pl) {vs : Array Value} {cs : List AV} (hv : VL W0 m vs cs) : VL W0 m' vs cs :=
  ⟨hv.1, fun i v c h1 h2 => (hv.2 i v c h1 h2).mono h⟩
theorem V.cells {W0 : World} {m : PM} {v : Value} {c : AV} (h : V W0 m v c) : v.cells.size = (cells c).length ∧ ∀ (i : Nat) (x : Value) (y : AV), v.cells[i]? = some x → (VI.cells c)[i]? = some y → V W0 m x y := by
  have one : ∀ (v : Value) (c : AV), V W0 m v c → v.cells = #[v] → VI.cells c = [c] → v.cells.size = (VI.cells c).length ∧ ∀ (i : Nat) (x : Value) (y : AV), v.cells[i]? = some x → (VI.cells c)[i]? = some y → V W0 m x y := by
    intro v c h e1 e2
    rw [e1, e2]
    refine ⟨rfl, ?_⟩
    intro i x y hx hy
    match i with
    | 0 => simp at hx hy; subst hx; subst hy; exact h
    | i + 1 => simp at hx
  cases h with
  | agg cs acs hl hc hv => exact ⟨hl, hv⟩
  | bool b => exact one _ _ (.bool b) rfl rfl
  | int k n => exact one _ _ (.int k n) rfl rfl
  | str s => exact one _ _ (.str s) rfl rfl
  | nilS => exact one _ _ .nilS rfl rfl
  | emp a => exact one _ _ (.emp a) rfl rfl
  | sl a len cap e xs hb hl hc he hcell hv => exact one _ _ (.sl a len cap e xs hb hl hc he hcell hv) rfl rfl
  | own off n cp r i pl hm hp hi hn ha => exact one _ _ (.own off n cp r i pl hm hp hi hn ha) rfl rfl
  | mapv r pl hm hp => exact one _ _ (.mapv r pl hm hp) rfl rfl
  | nilM => exact one _ _ .nilM rfl rfl
  | nilP => exact one _ _ .nilP rfl rfl
  | ptr r i o pl hm hp => exact one _ _ (.ptr r i o pl hm hp) rfl rfl
  | ref b off cs hb hcell hv => exact one _ _ (.ref b off cs hb hcell hv) rfl rfl
  | fn f caps avs hl hv => exact one _ _ (.fn f caps avs hl hv) rfl rfl
  | nilF => exact one _ _ .nilF rfl rfl
  | ifc t v c hv => exact one _ _ (.ifc t v c hv) rfl rfl
  | nilI => exact one _ _ .nilI rfl rfl
  | tup vs avs hl hv => exact one _ _ (.tup vs avs hl hv) rfl rfl
theorem V.one {W0 : World} {m : PM} {v : Value} {c : AV} (h : V W0 m v c) (hc : isCell c = true) : v.oneCell' = true := by
  cases h <;> first | rfl | simp [isCell] at hc
structure WfM (s : Mem) : Prop where
  floor : s.floor ≤ s.next
  none : ∀ r, s.next ≤ r → s.get r = .none
def Cold (P : Program) (t : TypeId) (f : Nat × Nat) (n : Nat) : Prop := f = (0, 0) ∨ (n ≤ f.1 ∧ P.underlying t = some (.int .u8))
theorem Cold.at_ {P : Program} {t : TypeId} {f : Nat × Nat} {n o : Nat} (h : Cold P t f n) (ho : o < n) : (decide (f.1 ≤ o) && decide (o < f.2)) = false := by
  rcases h with rfl | ⟨h, _⟩
  · simp
  · have : ¬ f.1 ≤ o := by omega
    simp [this]
structure CellsOK (P : Program) (W0 : World) (m : PM) (w : World) (pl : Pl) (row : Row) : Prop where
  ex : ∃ c f, w.heap[pl.blk]? = some (.cells c pl.ty f) ∧ pl.cap * pl.e = c.size ∧ pl.cap ≤ maxLen ∧
    (∀ (i : Nat) (x : List AV) (o : Nat) (a : AV), row.els[i]? = some x → x[o]? = some a → ∃ v, c[i * pl.e + o]? = some v ∧ V W0 m v a) ∧ Cold P pl.ty f c.size
  ty : pl.ty = row.ty
  e : pl.e = row.sz
  len : row.els.length ≤ pl.cap
  szs : ∀ (i : Nat) (x : List AV), row.els[i]? = some x → x.length = row.sz ∧ ∀ (o : Nat) (a : AV), x[o]? = some a → isCell a = true
structure MapOK (W0 : World) (m : PM) (w : World) (pl : Pl) (row : Row) : Prop where
  ex : ∃ es clock, w.heap[pl.blk]? = some (.map es clock) ∧ es.size = row.els.length ∧
    (∀ (i : Nat) (en : MapEntry) (x : List AV), es[i]? = some en → row.els[i]? = some x → ∃ k v, x = [k, v] ∧ V W0 m en.key k ∧ V W0 m en.val v)
structure RowOK (P : Program) (W0 : World) (m : PM) (w : World) (pl : Pl) (row : Row) : Prop where
  cs : pl.mp = false → CellsOK P W0 m w pl row
  ms : pl.mp = true → MapOK W0 m w pl row
structure Rel (P : Program) (W0 : World) (m : PM) (s : Mem) (w : World) : Prop where
  below : Below W0.heap.size W0 w
  wf : WfM s
  row : ∀ r pl row, m r = some pl → s.get r = some row → RowOK P W0 m w pl row
  blk : ∀ r pl, m r = some pl → W0.heap.size ≤ pl.blk ∧ pl.blk < w.heap.size
  inj : ∀ r r' pl pl' row row', m r = some pl → m r' = some pl' → s.get r = some row → s.get r' = some row' → pl.blk = pl'.blk → r = r'
structure Step (s s' : Mem) : Prop where
  next : s.next ≤ s'.next
  floor : s'.floor = s.floor
  low : ∀ r, r < s.floor → s'.get r = s.get r
  wf : WfM s'
  dead : ∀ r, r < s.next → s.get r = .none → s'.get r = .none
theorem Step.refl {s : Mem} (h : WfM s) : Step s s := ⟨Nat.le_refl _, rfl, fun _ _ => rfl, h, fun _ _ h => h⟩
theorem Step.trans {a b c : Mem} (h : Step a b) (k : Step b c) : Step a c :=
  ⟨Nat.le_trans h.next k.next, k.floor.trans h.floor, fun r hr => (k.low r (h.floor ▸ hr)).trans (h.low r hr), k.wf, fun r hr hn => k.dead r (Nat.lt_of_lt_of_le hr h.next) (h.dead r hr hn)⟩
theorem Step.live {a b : Mem} (h : Step a b) {r : Nat} (hr : r < a.next) (hs : (b.get r).isSome = true) : (a.get r).isSome = true := by
  cases hx : a.get r with
  | none => rw [h.dead r hr hx] at hs; cases hs
  | some x => rfl
def Fresh (m : PM) (s s' : Mem) : Prop := ∀ r, s.next ≤ r → r < s'.next → m r = none
structure After (P : Program) (W0 : World) (m : PM) (s : Mem) (w : World) (m' : PM) (s' : Mem) (w' : World) : Prop where
  rel : Rel P W0 m' s' w'
  same : ∀ r, (r < s.next ∨ s'.next ≤ r) → m' r = m r
  frame : ∀ b, b < w.heap.size → w'.heap[b]? = w.heap[b]? ∨ ∃ r pl, m r = some pl ∧ pl.blk = b ∧ s.floor ≤ r ∧ r < s.next ∧ (s.get r).isSome = true
  fresh : ∀ r pl, s.next ≤ r → r < s'.next → m' r = some pl → w.heap.size ≤ pl.blk ∨ ∃ r0 pl0, m r0 = some pl0 ∧ pl0.blk = pl.blk ∧ s.floor ≤ r0 ∧ r0 < s.next ∧ (s.get r0).isSome = true
  size : w.heap.size ≤ w'.heap.size
variable {P : Program}
theorem After.refl {W0 : World} {m : PM} {s : Mem} {w : World} (h : Rel P W0 m s w) : After P W0 m s w m s w :=
  ⟨h, fun _ _ => rfl, fun _ _ => .inl rfl, fun r pl h1 h2 _ => by omega, Nat.le_refl _⟩
theorem After.sub {W0 : World} {m m' : PM} {s s' : Mem} {w w' : World} (h : After P W0 m s w m' s' w') (hf : Fresh m s s') : ∀ r pl, m r = some pl → m' r = some pl := by
  intro r pl hr
  by_cases h1 : r < s.next
  · rw [h.same r (.inl h1)]; exact hr
  · by_cases h2 : s'.next ≤ r
    · rw [h.same r (.inr h2)]; exact hr
    · have := hf r (by omega) (by omega); rw [this] at hr; cases hr
theorem Fresh.left {m : PM} {a b c : Mem} (h : Fresh m a c) (k : Step b c) : Fresh m a b := fun r h1 h2 => h r h1 (Nat.lt_of_lt_of_le h2 k.next)
theorem Fresh.right {W0 : World} {m m' : PM} {a b c : Mem} {w w' : World} (h : Fresh m a c) (hs : Step a b) (ha : After P W0 m a w m' b w') : Fresh m' b c := by
  intro r h1 h2
  rw [ha.same r (.inr h1)]
  exact h r (Nat.le_trans hs.next h1) h2
theorem After.trans {W0 : World} {m m1 m2 : PM} {s s1 s2 : Mem} {w w1 w2 : World} (hs : Step s s1) (hs2 : Step s1 s2)
    (h : After P W0 m s w m1 s1 w1) (k : After P W0 m1 s1 w1 m2 s2 w2) : After P W0 m s w m2 s2 w2 := by
  refine ⟨k.rel, ?_, ?_, ?_, Nat.le_trans h.size k.size⟩
  · intro r hr
    rcases hr with hr | hr
    · rw [k.same r (.inl (Nat.lt_of_lt_of_le hr hs.next)), h.same r (.inl hr)]
    · rw [k.same r (.inr hr), h.same r (.inr (Nat.le_trans hs2.next hr))]
  · intro b hb
    rcases k.frame b (Nat.lt_of_lt_of_le hb h.size) with hk | ⟨r, pl, hm, hpl, h1, h2, hl⟩
    · rw [hk]; exact h.frame b hb
    · right
      by_cases hr : r < s.next
      · exact ⟨r, pl, by rw [← h.same r (.inl hr)]; exact hm, hpl, hs.floor ▸ h1, hr, hs.live hr hl⟩
      · rcases h.fresh r pl (by omega) h2 hm with hh | ⟨r0, pl0, q1, q2, q3, q4⟩
        · omega
        · exact ⟨r0, pl0, q1, q2.trans hpl, q3, q4⟩
  · intro r pl h1 h2 hm
    by_cases hr : r < s1.next
    · rw [k.same r (.inl hr)] at hm; exact h.fresh r pl h1 hr hm
    · rcases k.fresh r pl (by omega) h2 hm with hh | ⟨r0, pl0, q1, q2, q3, q4, hl⟩
      · exact .inl (Nat.le_trans h.size hh)
      · by_cases hr0 : r0 < s.next
        · exact .inr ⟨r0, pl0, by rw [← h.same r0 (.inl hr0)]; exact q1, q2, hs.floor ▸ q3, hr0, hs.live hr0 hl⟩
        · rcases h.fresh r0 pl0 (by omega) q4 q1 with hh | ⟨r1, pl1, p1, p2, p3, p4⟩
          · exact .inl (q2 ▸ hh)
          · exact .inr ⟨r1, pl1, p1, p2.trans q2, p3, p4⟩
structure EnvOK (W0 : World) (m : PM) (n : Nat) (a : Act) (e : Env) : Prop where
  size : a.tmps.size = n
  defers : a.defers = []
  get : ∀ t, V W0 m (a.tmps.getD t undef) (e.get t)
theorem EnvOK.mono {W0 : World} {m m' : PM} {n : Nat} {a : Act} {e : Env} (h : ∀ r pl, m r = some pl → m' r = some pl) (he : EnvOK W0 m n a e) : EnvOK W0 m' n a e :=
  ⟨he.size, he.defers, fun t => (he.get t).mono h⟩
theorem getD_setIf (a : Array Value) (d t : Nat) (v u : Value) (hd : d < a.size) : (a.setIfInBounds d v).getD t u = if t = d then v else a.getD t u := by
  simp only [Array.getD_eq_getD_getElem?]
  by_cases h : t = d
  · subst h; simp [hd]
  · have h' : ¬ d = t := fun e => h e.symm
    simp [h, h']
theorem EnvOK.put {W0 : World} {m : PM} {n : Nat} {a : Act} {e : Env} (he : EnvOK W0 m n a e) {d : Option Nat} (hd : dstOk n d = true) {v : Value} {c : AV} (hv : V W0 m v c) :
    EnvOK W0 m n (a.put d v) (putO e d c) := by
  cases d with
  | none => exact he
  | some d =>
    have hlt : d < a.tmps.size := by rw [he.size]; simpa [dstOk, Nat.blt_eq] using hd
    refine ⟨by simp [Act.put, he.size], by simp [Act.put, he.defers], ?_⟩
    intro t
    simp only [Act.put, putO, Env.get_set]
    rw [getD_setIf _ _ _ _ _ hlt]
    split
    · exact hv
    · exact he.get t
theorem leafAV_V {W0 : World} {m : PM} {v : Value} {c : AV} (h : leafAV v = some c) : V W0 m v c ∧ isCell c = true := by
  unfold leafAV at h
  split at h <;> first | (obtain rfl := Option.some.inj h; exact ⟨by constructor, rfl⟩) | cases h
theorem mapM_some {α β : Type} {f : α → Option β} : ∀ {l : List α} {r : List β}, l.mapM f = some r → l.length = r.length ∧ ∀ (i : Nat) (x : α) (y : β), l[i]? = some x → r[i]? = some y → f x = some y := by
  intro l
  induction l with
  | nil => intro r h; simp at h; subst h; exact ⟨rfl, by simp⟩
  | cons a l ih =>
    intro r h
    simp only [List.mapM_cons, Option.pure_def, Option.bind_eq_bind] at h
    obtain ⟨b, hb, h⟩ := Option.bind_eq_some_iff.mp h
    obtain ⟨t, ht, h⟩ := Option.bind_eq_some_iff.mp h
    obtain rfl := Option.some.inj h
    obtain ⟨h1, h2⟩ := ih ht
    refine ⟨by simp [h1], ?_⟩
    intro i x y hx hy
    match i with
    | 0 => simp at hx hy; subst hx; subst hy; exact hb
    | i + 1 => simp at hx hy; exact h2 i x y hx hy
theorem constAV_V {W0 : World} {m : PM} {v : Value} {c : AV} (h : constAV v = some c) : V W0 m v c := by
  unfold constAV at h
  split at h
  · rename_i cs
    obtain ⟨l, hl, h⟩ := Option.map_eq_some_iff.mp h
    subst h
    obtain ⟨h1, h2⟩ := mapM_some hl
    refine .agg cs l (by simpa using h1) ?_ ?_
    · intro i c hc
      have hi : i < cs.size := by have := (List.getElem?_eq_some_iff.mp hc).1; simp at h1; omega
      have := h2 i cs[i] c (by simp) hc
      exact (leafAV_V (W0 := W0) (m := m) this).2
    · intro i v c hv hc
      exact (leafAV_V (h2 i v c (by simpa using hv) hc)).1
  · rename_i vs
    split at h
    · rename_i h0
      obtain rfl := Option.some.inj h
      obtain rfl : vs = #[] := Array.eq_empty_of_size_eq_zero h0
      exact V.und W0 m
    · cases h
  · exact (leafAV_V h).1
theorem opd_V {W0 : World} {m : PM} {n : Nat} {a : Act} {e : Env} (he : EnvOK W0 m n a e) {x : Operand} {cx : Opd} (h : cOpd x = some cx) : V W0 m (a.eval x) (ev e cx) := by
  cases x with
  | tmp t => obtain rfl := Option.some.inj h; exact he.get t
  | const v =>
    obtain ⟨c, hc, rfl⟩ := Option.map_eq_some_iff.mp h
    exact constAV_V hc
  | func f => obtain rfl := Option.some.inj h; exact .fn f #[] [] rfl (by intro i v c h; simp at h)
  | global g => cases h
end Go.VI
/- Steps of the memory of rows and what the machine's memory does beside them. No statement of the seat is proved here. -/
namespace Go.VI
open Go Go.RowKit
variable {P : Program}
def upd (m : PM) (r : Nat) (pl : Pl) : PM := fun j => if j = r then some pl else m j
theorem upd_same (m : PM) (r : Nat) (pl : Pl) : upd m r pl r = some pl := by simp [upd]
theorem upd_other (m : PM) {r j : Nat} (pl : Pl) (h : j ≠ r) : upd m r pl j = m j := by simp [upd, h]
theorem Step.push {s : Mem} (h : WfM s) (x : Row) : Step s (s.push x) := by
  refine ⟨Nat.le_succ _, rfl, ?_, ⟨Nat.le_succ_of_le h.floor, ?_⟩, fun r hr hn => by rw [Mem.get_push, if_neg (by omega)]; exact hn⟩
  · intro r hr
    rw [Mem.get_push, if_neg (by have := h.floor; omega)]
  · intro r hr
    rw [Mem.next_push] at hr
    rw [Mem.get_push, if_neg (by omega)]
    exact h.none r (by omega)
theorem Step.put {s : Mem} (h : WfM s) {r : Nat} (hr : r < s.next) (hf : s.floor ≤ r) (x : Option Row) (hx : s.get r = none → x = none) : Step s (s.put r x) := by
  refine ⟨Nat.le_refl _, rfl, ?_, ⟨h.floor, ?_⟩, fun j _ hn => ?_⟩
  · intro j hj
    rw [Mem.get_put, if_neg (by omega)]
  · intro j hj
    rw [Mem.next_put] at hj
    rw [Mem.get_put, if_neg (by omega)]
    exact h.none j hj
  · rw [Mem.get_put]
    split
    · rename_i e; subst e; exact hx hn
    · exact hn
theorem WfM.lt {s : Mem} (h : WfM s) {r : Nat} {row : Row} (hr : s.get r = some row) : r < s.next := by
  apply Nat.lt_of_not_le
  intro hle
  rw [h.none r hle] at hr
  cases hr
theorem CellsOK.mono {W0 : World} {m m' : PM} {w w' : World} {pl : Pl} {row : Row} (h : CellsOK P W0 m w pl row) (hm : ∀ r pl, m r = some pl → m' r = some pl) (hw : w'.heap[pl.blk]? = w.heap[pl.blk]?) : CellsOK P W0 m' w' pl row := by
  obtain ⟨c, f, h1, h2, h3, h4, h5⟩ := h.ex
  refine ⟨⟨c, f, by rw [hw]; exact h1, h2, h3, ?_, h5⟩, h.ty, h.e, h.len, h.szs⟩
  intro i x o a hi ho
  obtain ⟨v, hv, hV⟩ := h4 i x o a hi ho
  exact ⟨v, hv, hV.mono hm⟩
theorem MapOK.mono {W0 : World} {m m' : PM} {w w' : World} {pl : Pl} {row : Row} (h : MapOK W0 m w pl row) (hm : ∀ r pl, m r = some pl → m' r = some pl) (hw : w'.heap[pl.blk]? = w.heap[pl.blk]?) : MapOK W0 m' w' pl row := by
  obtain ⟨es, cl, h1, h2, h3⟩ := h.ex
  refine ⟨es, cl, by rw [hw]; exact h1, h2, ?_⟩
  intro i en x he hx
  obtain ⟨k, v, e1, e2, e3⟩ := h3 i en x he hx
  exact ⟨k, v, e1, e2.mono hm, e3.mono hm⟩
theorem RowOK.mono {W0 : World} {m m' : PM} {w w' : World} {pl : Pl} {row : Row} (h : RowOK P W0 m w pl row) (hm : ∀ r pl, m r = some pl → m' r = some pl) (hw : w'.heap[pl.blk]? = w.heap[pl.blk]?) : RowOK P W0 m' w' pl row :=
  ⟨fun hp => (h.cs hp).mono hm hw, fun hp => (h.ms hp).mono hm hw⟩
theorem CellsOK.row {W0 : World} {m : PM} {w : World} {pl : Pl} {row : Row} (hp : pl.mp = false) (h : CellsOK P W0 m w pl row) : RowOK P W0 m w pl row := ⟨fun _ => h, fun q => by rw [hp] at q; cases q⟩
theorem MapOK.row {W0 : World} {m : PM} {w : World} {pl : Pl} {row : Row} (hp : pl.mp = true) (h : MapOK W0 m w pl row) : RowOK P W0 m w pl row := ⟨fun q => absurd (hp.symm.trans q) (by simp), fun _ => h⟩
theorem setCell_heap (w : World) {g o : Nat} {v : Value} {cur : Array Value} {e : TypeId} {f : Nat × Nat} (hg : w.heap[g]? = some (.cells cur e f)) : (w.setCell ⟨g, o, none⟩ v).heap[g]? = some (.cells (cur.setIfInBounds o v) e f) := by
  have hlt : g < w.heap.size := (Array.getElem?_eq_some_iff.1 hg).1
  have hv : w.heap[g] = .cells cur e f := (Array.getElem?_eq_some_iff.1 hg).2
  unfold World.setCell
  rw [Array.getElem?_eq_getElem (by simpa using hlt), Array.getElem_modify]
  simp [hv]
theorem setCell_far (w : World) {g o k : Nat} {v : Value} (h : k ≠ g) : (w.setCell ⟨g, o, none⟩ v).heap[k]? = w.heap[k]? := by
  simp [World.setCell, Array.getElem?_modify, Ne.symm h]
theorem setCells_far (g : Nat) : ∀ (vs : List Value) (o : Nat) (w : World) (k : Nat), k ≠ g → (w.setCells g o vs).heap[k]? = w.heap[k]?
  | [], _, _, _, _ => rfl
  | v :: vs, o, w, k, h => by
    rw [World.setCells, setCells_far g vs (o + 1) _ k h, setCell_far w h]
theorem setCells_rest (g : Nat) : ∀ (vs : List Value) (o : Nat) (w : World), (w.setCells g o vs).os = w.os ∧ (w.setCells g o vs).tape = w.tape ∧ (w.setCells g o vs).output = w.output ∧ (w.setCells g o vs).heap.size = w.heap.size
  | [], _, _ => ⟨rfl, rfl, rfl, rfl⟩
  | v :: vs, o, w => by
    rw [World.setCells]
    obtain ⟨h1, h2, h3, h4⟩ := setCells_rest g vs (o + 1) (w.setCell ⟨g, o, none⟩ v)
    exact ⟨h1, h2, h3, by rw [h4]; simp [World.setCell]⟩
theorem setCells_row {g : Nat} {e : TypeId} {f : Nat × Nat} : ∀ (vs : List Value) (o : Nat) (w : World) (cur : Array Value), w.heap[g]? = some (.cells cur e f) → o + vs.length ≤ cur.size →
    (w.setCells g o vs).heap[g]? = some (.cells (cur.toList.take o ++ vs ++ cur.toList.drop (o + vs.length)).toArray e f)
  | [], o, w, cur, hg, _ => by simp [World.setCells, hg]
  | v :: vs, o, w, cur, hg, hl => by
    simp only [List.length_cons] at hl
    rw [World.setCells, setCells_row vs (o + 1) _ _ (setCell_heap w hg) (by simp; omega)]
    congr 2
    have h1 : (cur.toList.set o v).take (o + 1) = cur.toList.take o ++ [v] := by
      rw [List.take_add_one, List.take_set_of_le (Nat.le_refl _), List.getElem?_set_self (by simp; omega)]
      rfl
    have h2 : (cur.toList.set o v).drop (o + 1 + vs.length) = cur.toList.drop (o + 1 + vs.length) := List.drop_set_of_lt (by omega)
    rw [Array.toList_setIfInBounds, h1, h2]
    simp only [List.length_cons, List.append_assoc, List.cons_append, List.nil_append]
    rw [show o + 1 + vs.length = o + (vs.length + 1) by omega]
theorem After.push' {W0 : World} {m : PM} {s : Mem} {w w1 : World} (h : Rel P W0 m s w) (hf : m s.next = none) (row : Row) (pl : Pl) (hpl : pl.blk = w.heap.size)
    (hb : Below w.heap.size w w1) (hlt : w.heap.size < w1.heap.size)
    (hnew : ∀ m', (∀ r pl, m r = some pl → m' r = some pl) → RowOK P W0 m' w1 pl row) :
    After P W0 m s w (upd m s.next pl) (s.push row) w1 := by
  have hsub : ∀ r pl1, m r = some pl1 → upd m s.next pl r = some pl1 := by
    intro r pl1 hr
    by_cases e : r = s.next
    · subst e; rw [hf] at hr; cases hr
    · rw [upd_other _ _ e]; exact hr
  refine ⟨⟨?_, (Step.push h.wf row).wf, ?_, ?_, ?_⟩, ?_, ?_, ?_, hb.size⟩
  · exact h.below.trans (hb.mono h.below.size)
  · intro r pl1 rw' hr hget
    rw [Mem.get_push] at hget
    by_cases e : r = s.next
    · rw [if_pos e] at hget
      obtain rfl := Option.some.inj hget
      subst e
      rw [upd_same] at hr
      obtain rfl := Option.some.inj hr
      exact hnew _ hsub
    · rw [if_neg e] at hget
      rw [upd_other _ _ e] at hr
      exact (h.row r pl1 rw' hr hget).mono hsub (hb.block _ (h.blk r pl1 hr).2)
  · intro r pl1 hr
    by_cases e : r = s.next
    · subst e
      rw [upd_same] at hr
      obtain rfl := Option.some.inj hr
      rw [hpl]; exact ⟨h.below.size, hlt⟩
    · rw [upd_other _ _ e] at hr
      exact ⟨(h.blk r pl1 hr).1, Nat.lt_of_lt_of_le (h.blk r pl1 hr).2 hb.size⟩
  · intro r r' pl1 pl' ro ro' hr hr' hg1 hg2 hbb
    rw [Mem.get_push] at hg1 hg2
    by_cases e : r = s.next
    · by_cases e' : r' = s.next
      · rw [e, e']
      · exfalso
        rw [upd_other _ _ e'] at hr'
        subst e
        rw [upd_same] at hr
        obtain rfl := Option.some.inj hr
        have := (h.blk r' pl' hr').2
        omega
    · by_cases e' : r' = s.next
      · exfalso
        rw [upd_other _ _ e] at hr
        subst e'
        rw [upd_same] at hr'
        obtain rfl := Option.some.inj hr'
        have := (h.blk r pl1 hr).2
        omega
      · rw [if_neg e] at hg1
        rw [if_neg e'] at hg2
        rw [upd_other _ _ e] at hr
        rw [upd_other _ _ e'] at hr'
        exact h.inj r r' pl1 pl' ro ro' hr hr' hg1 hg2 hbb
  · intro r hr
    rw [Mem.next_push] at hr
    exact upd_other _ _ (by omega)
  · intro b hbk
    exact .inl (hb.block b hbk)
  · intro r pl1 h1 h2 hr
    rw [Mem.next_push] at h2
    obtain rfl : r = s.next := by omega
    rw [upd_same] at hr
    obtain rfl := Option.some.inj hr
    exact .inl (by rw [hpl]; exact Nat.le_refl _)
theorem After.push {W0 : World} {m : PM} {s : Mem} {w w1 : World} (h : Rel P W0 m s w) (hf : m s.next = none) (row : Row) (c : Array Value) (cap : Nat)
    (hb : Below w.heap.size w w1) {fz : Nat × Nat} (hg : w1.heap[w.heap.size]? = some (.cells c row.ty fz)) (hfz : Cold P row.ty fz c.size) (hc : cap * row.sz = c.size) (hcap : cap ≤ maxLen) (hl : row.els.length ≤ cap)
    (hsz : ∀ (i : Nat) (x : List AV), row.els[i]? = some x → x.length = row.sz ∧ ∀ (o : Nat) (a : AV), x[o]? = some a → isCell a = true)
    (hv : ∀ (i : Nat) (x : List AV) (o : Nat) (a : AV), row.els[i]? = some x → x[o]? = some a → ∃ v, c[i * row.sz + o]? = some v ∧ V W0 m v a) :
    After P W0 m s w (upd m s.next ⟨row.ty, w.heap.size, cap, row.sz, false⟩) (s.push row) w1 := by
  refine After.push' h hf row _ rfl hb (Array.getElem?_eq_some_iff.mp hg).1 ?_
  intro m' hsub
  refine CellsOK.row rfl ⟨⟨c, fz, hg, hc, hcap, ?_, hfz⟩, rfl, rfl, hl, hsz⟩
  intro i x o a hi ho
  obtain ⟨v, h1, h2⟩ := hv i x o a hi ho
  exact ⟨v, h1, h2.mono hsub⟩
theorem After.kill {W0 : World} {m : PM} {s : Mem} {w : World} (h : Rel P W0 m s w) {r : Nat} (hr : r < s.next) (hf : s.floor ≤ r) : After P W0 m s w m (s.put r none) w := by
  refine ⟨⟨h.below, (Step.put h.wf hr hf none (fun _ => rfl)).wf, ?_, h.blk, ?_⟩, fun _ _ => rfl, fun _ _ => .inl rfl, ?_, Nat.le_refl _⟩
  · intro j pl row hj hget
    rw [Mem.get_put] at hget
    by_cases e : j = r
    · rw [if_pos e] at hget; cases hget
    · rw [if_neg e] at hget; exact h.row j pl row hj hget
  · intro j j' pl pl' ro ro' h1 h2 h3 h4 h5
    rw [Mem.get_put] at h3 h4
    by_cases e : j = r
    · rw [if_pos e] at h3; cases h3
    · by_cases e' : j' = r
      · rw [if_pos e'] at h4; cases h4
      · rw [if_neg e] at h3
        rw [if_neg e'] at h4
        exact h.inj j j' pl pl' ro ro' h1 h2 h3 h4 h5
  · intro j pl h1 h2
    rw [Mem.next_put] at h2
    omega
theorem After.store' {W0 : World} {m : PM} {s : Mem} {w w1 : World} (h : Rel P W0 m s w) {r : Nat} {pl : Pl} {row row' : Row} (hm : m r = some pl) (hget : s.get r = some row) (hf : s.floor ≤ r)
    (hw : w1.os = w.os ∧ w1.tape = w.tape ∧ w1.output = w.output ∧ w1.heap.size = w.heap.size) (ho : ∀ k, k ≠ pl.blk → w1.heap[k]? = w.heap[k]?)
    (hnew : RowOK P W0 m w1 pl row') :
    After P W0 m s w m (s.put r (some row')) w1 := by
  have hr := h.wf.lt hget
  have hblk := h.blk r pl hm
  refine ⟨⟨?_, (Step.put h.wf hr hf _ (fun hn => by rw [hget] at hn; cases hn)).wf, ?_, ?_, ?_⟩, fun _ _ => rfl, ?_, ?_, by omega⟩
  · exact h.below.trans ⟨hw.1, hw.2.1, hw.2.2.1, by omega, fun k hk => ho k (by omega)⟩
  · intro j plj rj hj hgj
    rw [Mem.get_put] at hgj
    by_cases e : j = r
    · subst e
      rw [if_pos rfl] at hgj
      obtain rfl := Option.some.inj hgj
      rw [hm] at hj
      obtain rfl := Option.some.inj hj
      exact hnew
    · rw [if_neg e] at hgj
      refine (h.row j plj rj hj hgj).mono (fun _ _ h => h) (ho _ ?_)
      intro hbb
      exact e (h.inj j r plj pl rj row hj hm hgj hget hbb)
  · intro j plj hj
    have := h.blk j plj hj
    omega
  · intro j j' plj plj' ro ro' h1 h2 h3 h4 h5
    rw [Mem.get_put] at h3 h4
    have live : ∀ k x, (if k = r then some row' else s.get k) = some x → ∃ y, s.get k = some y := by
      intro k x hk
      by_cases e : k = r
      · subst e; exact ⟨row, hget⟩
      · rw [if_neg e] at hk; exact ⟨x, hk⟩
    obtain ⟨y, hy⟩ := live j ro h3
    obtain ⟨y', hy'⟩ := live j' ro' h4
    exact h.inj j j' plj plj' y y' h1 h2 hy hy' h5
  · intro b hb
    by_cases e : b = pl.blk
    · exact .inr ⟨r, pl, hm, e.symm, hf, hr, by rw [hget]; rfl⟩
    · exact .inl (ho b e)
  · intro j plj h1 h2
    rw [Mem.next_put] at h2
    omega
theorem After.store {W0 : World} {m : PM} {s : Mem} {w w1 : World} (h : Rel P W0 m s w) {r : Nat} {pl : Pl} {row row' : Row} (hm : m r = some pl) (hp : pl.mp = false) (hget : s.get r = some row) (hf : s.floor ≤ r)
    (hty : row'.ty = row.ty) (hsz' : row'.sz = row.sz) (hlen : row'.els.length = row.els.length) (c : Array Value)
    (hw : w1.os = w.os ∧ w1.tape = w.tape ∧ w1.output = w.output ∧ w1.heap.size = w.heap.size) (ho : ∀ k, k ≠ pl.blk → w1.heap[k]? = w.heap[k]?)
    {fz : Nat × Nat} (hg : w1.heap[pl.blk]? = some (.cells c pl.ty fz)) (hfz : Cold P pl.ty fz c.size) (hc : pl.cap * pl.e = c.size)
    (hsz : ∀ (i : Nat) (x : List AV), row'.els[i]? = some x → x.length = row.sz ∧ ∀ (o : Nat) (a : AV), x[o]? = some a → isCell a = true)
    (hv : ∀ (i : Nat) (x : List AV) (o : Nat) (a : AV), row'.els[i]? = some x → x[o]? = some a → ∃ v, c[i * row.sz + o]? = some v ∧ V W0 m v a) :
    After P W0 m s w m (s.put r (some row')) w1 := by
  have hrow := (h.row r pl row hm hget).cs hp
  refine After.store' h hm hget hf hw ho (CellsOK.row hp ⟨⟨c, fz, hg, hc, ?_, ?_, hfz⟩, hrow.ty.trans hty.symm, hrow.e.trans hsz'.symm, by rw [hlen]; exact hrow.len, ?_⟩)
  · obtain ⟨_, _, _, _, h3, _⟩ := hrow.ex; exact h3
  · rw [hrow.e]; exact hv
  · rw [hsz']; exact hsz
theorem After.rebind {W0 : World} {m : PM} {s : Mem} {w w1 : World} (h : Rel P W0 m s w) (hfr : m s.next = none) {r : Nat} {pl : Pl} {row row' : Row} (hm : m r = some pl) (hp : pl.mp = false) (hget : s.get r = some row) (hf : s.floor ≤ r)
    (hty : row'.ty = row.ty) (hsz' : row'.sz = row.sz) (hlen : row'.els.length ≤ pl.cap) (c : Array Value)
    (hw : w1.os = w.os ∧ w1.tape = w.tape ∧ w1.output = w.output ∧ w1.heap.size = w.heap.size) (ho : ∀ k, k ≠ pl.blk → w1.heap[k]? = w.heap[k]?)
    {fz : Nat × Nat} (hg : w1.heap[pl.blk]? = some (.cells c pl.ty fz)) (hfz : Cold P pl.ty fz c.size) (hc : pl.cap * pl.e = c.size)
    (hsz : ∀ (i : Nat) (x : List AV), row'.els[i]? = some x → x.length = row.sz ∧ ∀ (o : Nat) (a : AV), x[o]? = some a → isCell a = true)
    (hv : ∀ (i : Nat) (x : List AV) (o : Nat) (a : AV), row'.els[i]? = some x → x[o]? = some a → ∃ v, c[i * row.sz + o]? = some v ∧ V W0 m v a) :
    After P W0 m s w (upd m s.next pl) ((s.put r none).push row') w1 := by
  have hrow := (h.row r pl row hm hget).cs hp
  have hr := h.wf.lt hget
  have hblk := h.blk r pl hm
  have hsub : ∀ j plj, m j = some plj → upd m s.next pl j = some plj := by
    intro j plj hj
    by_cases e : j = s.next
    · subst e; rw [hfr] at hj; cases hj
    · rw [upd_other _ _ e]; exact hj
  have hgets : ∀ j, ((s.put r none).push row').get j = if j = s.next then some row' else if j = r then none else s.get j := by
    intro j
    rw [Mem.get_push, Mem.next_put, Mem.get_put]
  refine ⟨⟨?_, ?_, ?_, ?_, ?_⟩, ?_, ?_, ?_, by omega⟩
  · exact h.below.trans ⟨hw.1, hw.2.1, hw.2.2.1, by omega, fun k hk => ho k (by omega)⟩
  · exact (Step.push (Step.put h.wf hr hf none (fun _ => rfl)).wf row').wf
  · intro j plj rj hj hgj
    rw [hgets] at hgj
    by_cases e : j = s.next
    · subst e
      rw [if_pos rfl] at hgj
      obtain rfl := Option.some.inj hgj
      rw [upd_same] at hj
      obtain rfl := Option.some.inj hj
      refine CellsOK.row hp ⟨⟨c, fz, hg, hc, ?_, ?_, hfz⟩, hrow.ty.trans hty.symm, hrow.e.trans hsz'.symm, hlen, by rw [hsz']; exact hsz⟩
      · obtain ⟨_, _, _, _, h3, _⟩ := hrow.ex; exact h3
      · rw [hrow.e]
        intro i x o a hi hoo
        obtain ⟨v, h1, h2⟩ := hv i x o a hi hoo
        exact ⟨v, h1, h2.mono hsub⟩
    · rw [if_neg e] at hgj
      rw [upd_other _ _ e] at hj
      by_cases e2 : j = r
      · rw [if_pos e2] at hgj; cases hgj
      · rw [if_neg e2] at hgj
        refine (h.row j plj rj hj hgj).mono hsub (ho _ ?_)
        intro hbb
        exact e2 (h.inj j r plj pl rj row hj hm hgj hget hbb)
  · intro j plj hj
    by_cases e : j = s.next
    · subst e
      rw [upd_same] at hj
      obtain rfl := Option.some.inj hj
      omega
    · rw [upd_other _ _ e] at hj
      have := h.blk j plj hj
      omega
  · have old : ∀ j plj ro, j ≠ s.next → upd m s.next pl j = some plj → ((s.put r none).push row').get j = some ro → j ≠ r ∧ m j = some plj ∧ s.get j = some ro := by
      intro j plj ro e h1 h2
      rw [upd_other _ _ e] at h1
      rw [hgets, if_neg e] at h2
      by_cases e2 : j = r
      · rw [if_pos e2] at h2; cases h2
      · rw [if_neg e2] at h2; exact ⟨e2, h1, h2⟩
    intro j j' plj plj' ro ro' h1 h2 h3 h4 h5
    by_cases e : j = s.next
    · by_cases e' : j' = s.next
      · rw [e, e']
      · obtain ⟨q1, q2, q3⟩ := old j' plj' ro' e' h2 h4
        subst e
        rw [upd_same] at h1
        obtain rfl := Option.some.inj h1
        exact absurd (h.inj j' r plj' pl ro' row q2 hm q3 hget h5.symm) q1
    · obtain ⟨p1, p2, p3⟩ := old j plj ro e h1 h3
      by_cases e' : j' = s.next
      · subst e'
        rw [upd_same] at h2
        obtain rfl := Option.some.inj h2
        exact absurd (h.inj j r plj pl ro row p2 hm p3 hget h5) p1
      · obtain ⟨q1, q2, q3⟩ := old j' plj' ro' e' h2 h4
        exact h.inj j j' plj plj' ro ro' p2 q2 p3 q3 h5
  · intro j hj
    rw [Mem.next_push, Mem.next_put] at hj
    exact upd_other _ _ (by omega)
  · intro b hb
    by_cases e : b = pl.blk
    · exact .inr ⟨r, pl, hm, e.symm, hf, hr, by rw [hget]; rfl⟩
    · exact .inl (ho b e)
  · intro j plj h1 h2 hj
    rw [Mem.next_push, Mem.next_put] at h2
    obtain rfl : j = s.next := by omega
    rw [upd_same] at hj
    obtain rfl := Option.some.inj hj
    exact .inr ⟨r, pl, hm, rfl, hf, hr, by rw [hget]; rfl⟩
end Go.VI

