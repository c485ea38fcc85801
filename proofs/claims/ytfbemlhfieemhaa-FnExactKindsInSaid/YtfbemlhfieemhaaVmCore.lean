/-
  A machine over pure values for Go functions that neither share what they write nor keep it: the definitions alone.
  Values: integers, truth values, strings as lists of bytes, slices as lists of rows of cells. Local boxes and arrays bear the number of the slot that made them.
-/
import Derived.Orders
import Derived.KernelRfl
namespace Go.Vm
open Go

/-- Data of one cell. 'sl own s rows': a slice whose elements are rows of s cells each; own: its memory is its owner's alone. -/
inductive D where
  | int (k : IntKind) (n : Int)
  | bool (b : Bool)
  | str (s : List UInt8)
  | nilf
  | sl (own : Bool) (s : Nat) (rows : List (List D))
  deriving Inhabited

abbrev Row := List D

/-- What a slot holds. -/
inductive V where
  | d (x : D)
  | nil (s : Nat)
  | own (r ver : Nat)
  | ptr (r off : Nat)
  | eptr (r ver i off : Nat)
  | rptr (row : Row) (off : Nat)
  | clo (f : Nat) (first caps : List V)
  | agg (cs : List V)
  | tup (vs : List V)
  | undef
  deriving Inhabited

inductive Cell where
  | box (t : TypeId) (cs : List V)
  /-- an array of one's own. fz: it is only read any more; fl: slices in its rows are only read -/
  | arr (fz fl : Bool) (ver s : Nat) (rows : List Row)
  | dead
  deriving Inhabited

abbrev Mem := List (Nat × Cell)
abbrev Tmps := List (Nat × V)
structure St where
  tm : Tmps
  mem : Mem

def get {α : Type} (k : Nat) : List (Nat × α) → Option α
  | [] => none
  | (j, x) :: l => bif Nat.beq k j then some x else get k l
def put {α : Type} (k : Nat) (x : α) : List (Nat × α) → List (Nat × α)
  | [] => [(k, x)]
  | (j, y) :: l => bif Nat.beq k j then (k, x) :: l else bif Nat.blt k j then (k, x) :: (j, y) :: l else (j, y) :: put k x l
def del {α : Type} (k : Nat) : List (Nat × α) → List (Nat × α)
  | [] => []
  | (j, y) :: l => bif Nat.beq k j then del k l else (j, y) :: del k l
def getT (t : Nat) (tm : Tmps) : V := match get t tm with | some v => v | none => .undef
def putT (dst : Option Nat) (v : V) (tm : Tmps) : Tmps := match dst with | some t => put t v tm | none => tm
def delT (dst : Option Nat) (tm : Tmps) : Tmps := match dst with | some t => del t tm | none => tm

/-- Steps that read and write named cells; what may be stuck at an open value stands in a node of its own. -/
inductive Acc (α : Type) : Type 1 where
  | ret (a : α)
  | fail
  | get (k : Nat) (c : Option Cell → Acc α)
  | set (k : Nat) (x : Cell) (c : Acc α)
  | opt {β : Type} (o : Option β) (c : β → Acc α)
  | guard (b : Bool) (c : Acc α)

structure Log where
  r : List Nat
  w : List Nat
def Log.rd (l : Log) (k : Nat) : Log := { l with r := k :: l.r }
def Log.wr (l : Log) (k : Nat) : Log := { l with w := k :: l.w }
def Log.none : Log := ⟨[], []⟩

def Acc.bind {α β : Type} : Acc α → (α → Acc β) → Acc β
  | .ret a, f => f a
  | .fail, _ => .fail
  | .get k c, f => .get k fun x => (c x).bind f
  | .set k x c, f => .set k x (c.bind f)
  | .opt o c, f => .opt o fun b => (c b).bind f
  | .guard b c, f => .guard b (c.bind f)

def Acc.run {α : Type} : Acc α → Mem → Log → Option (α × Mem × Log)
  | .ret a, m, l => some (a, m, l)
  | .fail, _, _ => none
  | .get k c, m, l => (c (Vm.get k m)).run m (l.rd k)
  | .set k x c, m, l => c.run (put k x m) (l.wr k)
  | .opt o c, m, l => match o with | some b => (c b).run m l | none => none
  | .guard b c, m, l => match b with | true => c.run m l | false => none

/-! ### Cells' types -/
inductive CT where
  | int (k : IntKind) | bool | str | sl (s : Nat) | other
  deriving Inhabited

def ctsAll (f : TypeId → Option (List CT)) : List TypeId → Option (List CT)
  | [] => some []
  | t :: ts => match f t, ctsAll f ts with | some a, some b => some (a ++ b) | _, _ => none
def cts (P : Program) : Nat → TypeId → Option (List CT)
  | 0, _ => none
  | n + 1, t => match P.underlying t with
    | some (.int k) => some [.int k]
    | some .bool => some [.bool]
    | some .string => some [.str]
    | some (.slice e) => match P.info? e with | some i => some [.sl i.size] | none => none
    | some (.struct fs) => ctsAll (cts P n) (fs.toList.map (·.type))
    | some (.pointer _) | some (.func ..) => some [.other]
    | _ => none
def ctsOf (P : Program) (t : TypeId) : List CT := match cts P 8 t with | some l => l | none => [.other]
def aggT (P : Program) (t : TypeId) : Bool := match P.underlying t with | some (.struct _) => true | some (.array ..) => true | _ => false
def szT (P : Program) (t : TypeId) : Nat := match P.info? t with | some i => i.size | none => 0
/-- of a slice type: its elements' type -/
def elT (P : Program) (t : TypeId) : Option TypeId := match P.underlying t with | some (.slice e) => some e | _ => none

def cvCell : CT → Value → V
  | _, .bool b => .d (.bool b)
  | _, .int k n => .d (.int k n)
  | _, .string s => .d (.str s.data.toList)
  | _, .nilFunc => .d .nilf
  | .sl s, .slice none 0 0 => .nil s
  | _, _ => .undef
def cvCells : List CT → List Value → List V
  | c :: cs, v :: vs => cvCell c v :: cvCells cs vs
  | [], _ :: vs => .undef :: cvCells [] vs
  | _, [] => []
def cv (P : Program) (t : TypeId) : Value → V
  | .agg cs => .agg (cvCells (ctsOf P t) cs.toList)
  | v => match ctsOf P t with | c :: _ => cvCell c v | [] => .undef
/-- the zero value's cells -/
def zeroRow (P : Program) (t : TypeId) : Option (List V) :=
  match P.info? t with
  | some i => match i.zero with
    | some z => some (cvCells (ctsOf P t) z.cells.toList)
    | none => none
  | none => none
def V.cells : V → List V
  | .agg cs => cs
  | v => [v]
/-- cells as a value of type t -/
def ofCells (P : Program) (t : TypeId) (cs : List V) : Option V :=
  bif aggT P t then some (.agg cs) else match cs with | [v] => some v | _ => none

/-! ### Looks into data -/
def asInt (k : IntKind) : D → Option Int
  | .int k' n => bif decide (k' = k) then some n else none
  | _ => none
def asBool : D → Option Bool
  | .bool b => some b
  | _ => none
def asStr : D → Option (List UInt8)
  | .str s => some s
  | _ => none
def asSl (s : Nat) : D → Option (List Row)
  | .sl _ s' rows => bif Nat.beq s' s then some rows else none
  | _ => none
/-- a slice that nobody owns, or that is empty -/
def asRo (s : Nat) : D → Option (List Row)
  | .sl own s' rows => bif Nat.beq s' s then (match own with | false => some rows | true => match rows with | [] => some [] | _ :: _ => none) else none
  | _ => none
def asOwn (s : Nat) : D → Option (List Row)
  | .sl own s' rows => match own with | true => bif Nat.beq s' s then some rows else none | false => none
  | _ => none
def nth (row : Row) (j : Nat) : D := match row[j]? with | some x => x | none => .nilf
def cInt (k : IntKind) (row : Row) (j : Nat) : Option Int := asInt k (nth row j)
def cBool (row : Row) (j : Nat) : Option Bool := asBool (nth row j)
def cStr (row : Row) (j : Nat) : Option (List UInt8) := asStr (nth row j)
def cSl (s : Nat) (row : Row) (j : Nat) : Option (List Row) := asSl s (nth row j)
def cRo (s : Nat) (row : Row) (j : Nat) : Option (List Row) := asRo s (nth row j)
def cOwn (s : Nat) (row : Row) (j : Nat) : Option (List Row) := asOwn s (nth row j)

mutual
/-- whose memory nobody owns -/
def D.fz : D → D
  | .int k n => .int k n
  | .bool b => .bool b
  | .str s => .str s
  | .nilf => .nilf
  | .sl _ s rows => .sl false s (fzRows rows)
def fzRows : List Row → List Row
  | [] => []
  | r :: rs => fzRow r :: fzRows rs
def fzRow : Row → Row
  | [] => []
  | x :: r => x.fz :: fzRow r
end
/-- as it is seen by one who does not own it -/
def roD : D → D
  | .sl _ s rows => .sl false s rows
  | x => x
def D.flat : D → Bool
  | .sl .. => false
  | _ => true
def flatRows (rows : List Row) : Bool := rows.all fun r => r.all D.flat
/-- a value of one cell -/
def one : V → Bool
  | .d _ => true
  | .nil _ => true
  | .own _ _ => true
  | .ptr _ _ => true
  | .eptr .. => true
  | .rptr _ _ => true
  | .clo .. => true
  | _ => false
mutual
/-- does no slice in it look into memory that is not its own? -/
def D.pure : D → Bool
  | .sl own _ rows => match own with | true => pureRows rows | false => rows.isEmpty
  | _ => true
def pureRows : List Row → Bool
  | [] => true
  | r :: rs => pureRow r && pureRows rs
def pureRow : Row → Bool
  | [] => true
  | x :: r => x.pure && pureRow r
end

/-- 'c' at the cells from j on, each held to its type. 'strict': a slice that is owned is refused. -/
def nCells (strict : Bool) : List CT → Row → Nat → (List V → Acc V) → Acc V
  | [], _, _, c => c []
  | .int k :: ts, row, j, c => .opt (cInt k row j) fun n => nCells strict ts row (j + 1) fun vs => c (.d (.int k n) :: vs)
  | .bool :: ts, row, j, c => .opt (cBool row j) fun n => nCells strict ts row (j + 1) fun vs => c (.d (.bool n) :: vs)
  | .str :: ts, row, j, c => .opt (cStr row j) fun n => nCells strict ts row (j + 1) fun vs => c (.d (.str n) :: vs)
  | .sl s :: ts, row, j, c => .opt (bif strict then cRo s row j else cSl s row j) fun rs => nCells strict ts row (j + 1) fun vs => c (.d (.sl false s rs) :: vs)
  | .other :: _, _, _, _ => .fail

/-! ### What a program adds -/
structure Adv where
  /-- function, region: the slots that are read later -/
  keep : Nat → Nat → List Nat
  /-- function: the parameters that it takes over; those whose array it writes -/
  move : Nat → List Nat
  ref : Nat → List Nat
  /-- function, slot: the parts of a call's result (result * 20 + cell) that are kept as arrays of one's own -/
  att : Nat → Nat → List Nat
  /-- of boxes of a type: the cells whose slices the box owns -/
  bown : Nat → List Nat
  /-- function, region: where a slice in an array's row is handed on to be written: the place of the load, and one -/
  fuse : Nat → Nat → Nat
structure Ctx where
  P : Program
  adv : Adv
  prim : Nat → Option (List V → List Cell → Option (List Row × List Cell))
abbrev Kont := Nat → List V → List Cell → Option (List Row × List Cell)

def mem? (k : Nat) : List Nat → Bool
  | [] => false
  | j :: l => bif Nat.beq k j then true else mem? k l
def hasSl : List CT → Bool
  | [] => false
  | .sl _ :: _ => true
  | _ :: l => hasSl l
def flatT (P : Program) (e : TypeId) : Bool := !(hasSl (ctsOf P e))
/-- rows as they are seen by one who does not own them -/
def vw (fl : Bool) (rows : List Row) : List Row := bif fl then rows else fzRows rows

instance : Monad Acc where
  pure := .ret
  bind := .bind
def rd (k : Nat) : Acc (Option Cell) := .get k .ret
def wr (k : Nat) (x : Cell) : Acc Unit := .set k x (.ret ())
def ck (b : Bool) : Acc Unit := .guard b (.ret ())
def op' {β : Type} (o : Option β) : Acc β := .opt o .ret

def free (k : Nat) : Acc Unit := do
  match ← rd k with
  | none => pure ()
  | some _ => .fail
/-- a new cell -/
def new (k : Nat) (c : Cell) : Acc Unit := do
  free k
  wr k c

/-- a slice as it is read: stride, rows; its elements flat? -/
def seen (v : V) : Acc (Nat × List Row) :=
  match v with
  | .d (.sl _ s rows) => pure (s, rows)
  | .nil s => pure (s, [])
  | .own r ver => do
    match ← rd r with
    | some (.arr _ fl ver' s rows) => do ck (Nat.beq ver ver'); pure (s, vw fl rows)
    | _ => .fail
  | _ => .fail

/-- rows on their way out -/
def outOk (fl : Bool) (rows : List Row) : Bool := bif fl then flatRows rows else true
/-- what goes into memory of one's own -/
def toD (v : V) : Acc D :=
  match v with
  | .d x => pure (roD x)
  | .nil s => pure (.sl true s [])
  | .own r ver => do
    match ← rd r with
    | some (.arr fz fl ver' s rows) => do
      ck (Nat.beq ver ver')
      match fz with
      | true => pure (.sl false s (vw fl rows))
      | false => do
        ck (outOk fl rows)
        wr r .dead
        pure (.sl true s rows)
    | _ => .fail
  | _ => .fail
def toRow : List V → Acc Row
  | [] => pure []
  | v :: vs => do
    let x ← toD v
    let xs ← toRow vs
    pure (x :: xs)

def splice {α : Type} (l : List α) (off : Nat) (xs : List α) : List α := l.take off ++ xs ++ l.drop (off + xs.length)
def part {α : Type} (l : List α) (off n : Nat) : List α := (l.drop off).take n
def idx {α : Type} (l : List α) (i : Int) : Option α := bif decide (0 ≤ i) then l[i.toNat]? else none
def cut {α : Type} (l : List α) (a b : Int) : Option (List α) :=
  bif decide (0 ≤ a) && decide (a ≤ b) && decide (b ≤ l.length) then some ((l.drop a.toNat).take (b.toNat - a.toNat)) else none
def byteRow (b : UInt8) : Row := [.int .u8 b.toNat]
def asByte : Row → Option UInt8
  | [.int .u8 n] => some (UInt8.ofNat n.toNat)
  | _ => none
def bytesOf : List Row → Option (List UInt8)
  | [] => some []
  | r :: rs => match asByte r, bytesOf rs with | some b, some bs => some (b :: bs) | _, _ => none

/-! ### Operations -/
def ev (P : Program) (tm : Tmps) (t : TypeId) : Operand → V
  | .tmp i => getT i tm
  | .const v => cv P t v
  | .func f => .clo f [] []
  | .global _ => .undef

def binI (op : BinOp) (k : IntKind) (a b : Int) : Option V :=
  match op with
  | .add => some (.d (.int k (k.wrap (a + b))))
  | .sub => some (.d (.int k (k.wrap (a - b))))
  | .mul => some (.d (.int k (k.wrap (a * b))))
  | .quo => bif decide (b = 0) then none else some (.d (.int k (k.wrap (a.tdiv b))))
  | .rem => bif decide (b = 0) then none else some (.d (.int k (a.tmod b)))
  | .eql => some (.d (.bool (a == b)))
  | .neq => some (.d (.bool (a != b)))
  | .lss => some (.d (.bool (decide (a < b))))
  | .leq => some (.d (.bool (decide (a ≤ b))))
  | .gtr => some (.d (.bool (decide (a > b))))
  | .geq => some (.d (.bool (decide (a ≥ b))))
  | .and => some (.d (.int k (k.wrap (BitVec.ofInt k.bits a &&& BitVec.ofInt k.bits b).toNat)))
  | .or => some (.d (.int k (k.wrap (BitVec.ofInt k.bits a ||| BitVec.ofInt k.bits b).toNat)))
  | .xor => some (.d (.int k (k.wrap (BitVec.ofInt k.bits a ^^^ BitVec.ofInt k.bits b).toNat)))
  | _ => none
def binShift (op : BinOp) (k : IntKind) (a b : Int) : Option V :=
  bif decide (b < 0) then none else
  match op with
  | .shl => some (.d (.int k (k.wrap (a * 2 ^ (min b.toNat k.bits)))))
  | .shr => some (.d (.int k (a.fdiv (2 ^ (min b.toNat k.bits)))))
  | _ => none
def strMax : Nat := 9223372036854775807
def binS (op : BinOp) (a b : List UInt8) : Acc V :=
  match op with
  | .add => .guard (Nat.ble (a.length + b.length) strMax) (.ret (.d (.str (a ++ b))))
  | .eql => .ret (.d (.bool (a == b)))
  | .neq => .ret (.d (.bool !(a == b)))
  | .lss => .ret (.d (.bool (Op.bytesLess a b)))
  | .leq => .ret (.d (.bool (Op.bytesLess a b || a == b)))
  | .gtr => .ret (.d (.bool !(Op.bytesLess a b || a == b)))
  | .geq => .ret (.d (.bool !(Op.bytesLess a b)))
  | _ => .fail
def binB (op : BinOp) (a b : Bool) : Option V :=
  match op with
  | .eql => some (.d (.bool (a == b)))
  | .neq => some (.d (.bool !(a == b)))
  | _ => none
def shiftOp : BinOp → Bool
  | .shl | .shr => true
  | _ => false
def boolT (P : Program) (t : TypeId) : Bool := match P.underlying t with | some .bool => true | _ => false
def bin (bt : Bool) (op : BinOp) (x y : V) : Acc V :=
  match x, y with
  | .d (.int k a), .d (.int k' b) =>
    match shiftOp op with
    | true => .opt (binShift op k a b) .ret
    | false => match decide (k = k') with
      | true => .opt (binI op k a b) .ret
      | false => .fail
  | .d (.str a), .d (.str b) => binS op a b
  | .d (.bool a), .d (.bool b) => match bt with
    | true => .opt (binB op a b) .ret
    | false => .fail
  | _, _ => .fail
def un (op : UnOp) (x : V) : Acc V :=
  match op, x with
  | .neg, .d (.int k n) => .ret (.d (.int k (k.wrap (0 - n))))
  | .not, .d (.bool b) => .ret (.d (.bool !b))
  | _, _ => .fail

def pickV (c x y : V) : Acc V :=
  match c with
  | .d (.bool c) => match x, y with
    | .d (.bool a), .d (.bool b) => .ret (.d (.bool (bif c then a else b)))
    | x, y => match c with
      | true => .ret x
      | false => .ret y
  | _ => .fail

def okT (P : Program) (t : TypeId) : Bool := match P.underlying t with | some _ => true | none => false
def loadV (P : Program) (t : TypeId) (a : V) : Acc V := do
  ck (okT P t && Nat.beq (ctsOf P t).length (szT P t))
  match a with
  | .ptr r off => do
    match ← rd r with
    | some (.box _ cs) => do
      ck (Nat.ble (off + szT P t) cs.length)
      op' (ofCells P t (part cs off (szT P t)))
    | _ => .fail
  | .rptr row off => nCells false (ctsOf P t) row off fun vs => op' (ofCells P t vs)
  | .eptr r ver i off => do
    match ← rd r with
    | some (.arr _ _ ver' _ rows) => do
      ck (Nat.beq ver ver')
      let row ← op' rows[i]?
      nCells true (ctsOf P t) row off fun vs => op' (ofCells P t vs)
    | _ => .fail
  | _ => .fail

def storeV (P : Program) (t : TypeId) (a x : V) : Acc Unit := do
  ck (okT P t)
  ck (Nat.beq x.cells.length (szT P t))
  ck (x.cells.all one)
  match a with
  | .ptr r off => do
    match ← rd r with
    | some (.box T cs) => do
      ck (Nat.ble (off + szT P t) cs.length)
      wr r (.box T (splice cs off x.cells))
    | _ => .fail
  | .eptr r ver i off => do
    let xs ← toRow x.cells
    match ← rd r with
    | some (.arr false fl ver' s rows) => do
      ck (Nat.beq ver ver')
      ck (Nat.ble (off + szT P t) s)
      let row ← op' rows[i]?
      wr r (.arr false fl ver s (rows.set i (splice row off xs)))
    | _ => .fail
  | _ => .fail

def fieldOf (P : Program) (T : TypeId) (f : Nat) : Option (Nat × Nat × TypeId) :=
  match P.underlying T with
  | some (.struct fs) => match fs[f]? with
    | some fd => some (fd.offset, szT P fd.type, fd.type)
    | none => none
  | _ => none
def fieldAddrV (P : Program) (T : TypeId) (a : V) (f : Nat) : Acc V := do
  let (o, n, _) ← op' (fieldOf P T f)
  ck (Nat.ble 1 n)
  match a with
  | .ptr r off => pure (.ptr r (off + o))
  | .rptr row off => pure (.rptr row (off + o))
  | .eptr r ver i off => pure (.eptr r ver i (off + o))
  | _ => .fail
def fieldV (P : Program) (T : TypeId) (x : V) (f : Nat) : Acc V := do
  let (o, n, t) ← op' (fieldOf P T f)
  match x with
  | .agg cs => do
    ck (Nat.ble (o + n) cs.length)
    ck (okT P t)
    op' (ofCells P t (part cs o n))
  | _ => .fail

def indexAddrV (P : Program) (t : TypeId) (x i : V) : Acc V := do
  let e ← op' (elT P t)
  match i with
  | .d (.int _ i) =>
    match x with
    | .d (.sl _ s rows) => do
      ck (Nat.beq s (szT P e))
      ck (okT P e)
      let row ← op' (idx rows i)
      pure (.rptr row 0)
    | .own r ver => do
      match ← rd r with
      | some (.arr fz fl ver' s rows) => do
        ck (Nat.beq ver ver')
        ck (Nat.beq s (szT P e))
        ck (okT P e)
        match fz with
        | true => do
          let row ← op' (idx (vw fl rows) i)
          pure (.rptr row 0)
        | false => do
          let _ ← op' (idx rows i)
          pure (.eptr r ver i.toNat 0)
      | _ => .fail
    | _ => .fail
  | _ => .fail
def indexV (P : Program) (t : TypeId) (x i : V) : Acc V :=
  match P.underlying t, x, i with
  | some .string, .d (.str s), .d (.int _ i) => .opt (idx s i) fun b => .ret (.d (.int .u8 b.toNat))
  | _, _, _ => .fail

def lenV (x : V) : Acc V :=
  match x with
  | .d (.str s) => .ret (.d (.int .i64 s.length))
  | .own r ver => do
    match ← rd r with
    | some (.arr _ _ ver' _ rows) => do ck (Nat.beq ver ver'); pure (.d (.int .i64 rows.length))
    | _ => .fail
  | .d (.sl _ _ rows) => .ret (.d (.int .i64 rows.length))
  | .nil _ => .ret (.d (.int .i64 0))
  | _ => .fail

def roomB : Nat := 140737488355328
def bytesT (P : Program) (e : TypeId) : Nat := match P.info? e with | some i => i.bytes | none => roomB

/-- the rows that are appended -/
def tail (P : Program) (e : TypeId) (y : V) : Acc (List Row) :=
  match y with
  | .d (.str s) => do
    ck (Nat.beq (szT P e) 1)
    pure (s.map byteRow)
  | .d (.sl _ s rows) => do
    ck (Nat.beq s (szT P e))
    pure (vw (flatT P e) rows)
  | .nil _ => pure []
  | .own r ver => do
    match ← rd r with
    | some (.arr fz fl ver' s rows) => do
      ck (Nat.beq ver ver')
      ck (Nat.beq s (szT P e))
      match flatT P e with
      | true => do
        ck (fl || fz)
        pure rows
      | false => do
        ck (!fl)
        match fz with
        | true => pure (fzRows rows)
        | false => do
          wr r .dead
          pure rows
    | _ => .fail
  | _ => .fail
def appendV (P : Program) (dst : Nat) (t ty : TypeId) (x y : V) : Acc V := do
  let e ← op' (elT P t)
  ck (Nat.ble 1 (szT P e))
  ck (match P.underlying ty with | some (.slice _) => true | some .string => true | _ => false)
  let z ← op' (zeroRow P e)
  ck (Nat.beq z.length (szT P e))
  let ys ← tail P e y
  match x with
  | .nil _ => do
    ck (Nat.ble (ys.length * bytesT P e) roomB)
    ck (Nat.ble ys.length roomB)
    new dst (.arr false (flatT P e) 0 (szT P e) ys)
    pure (.own dst 0)
  | .own r ver => do
    match ← rd r with
    | some (.arr false fl ver' s rows) => do
      ck (Nat.beq ver ver')
      ck (Nat.beq s (szT P e))
      ck (match fl, flatT P e with | true, true => true | false, false => true | _, _ => false)
      ck (Nat.ble ((rows.length + ys.length) * bytesT P e) roomB)
      ck (Nat.ble (rows.length + ys.length) roomB)
      wr r (.arr false fl (ver + 1) s (rows ++ ys))
      pure (.own r (ver + 1))
    | _ => .fail
  | _ => .fail

def zeroRowD (P : Program) (e : TypeId) : Acc Row := do
  let z ← op' (zeroRow P e)
  toRow z
def makeSliceV (P : Program) (dst : Nat) (t : TypeId) (l c : V) : Acc V := do
  let e ← op' (elT P t)
  ck (Nat.ble 1 (szT P e))
  let z ← zeroRowD P e
  ck (Nat.beq z.length (szT P e))
  match l, c with
  | .d (.int _ l), .d (.int _ c) => do
    ck (decide (0 ≤ l) && decide (l ≤ c) && decide (c * bytesT P e ≤ roomB) && decide (c ≤ roomB))
    new dst (.arr false (flatT P e) 0 (szT P e) (List.replicate l.toNat z))
    pure (.own dst 0)
  | _, _ => .fail

def bound (o : Option V) (d : Int) : Acc Int := match o with
  | none => .ret d
  | some (.d (.int _ n)) => .ret n
  | some _ => .fail
def sliceV (P : Program) (t : TypeId) (x : V) (lo hi : Option V) : Acc V :=
  match x with
  | .d (.str s) => do
    ck (match P.underlying t with | some .string => true | _ => false)
    let l ← bound lo 0
    let h ← bound hi s.length
    let s' ← op' (cut s l h)
    pure (.d (.str s'))
  | _ => do
    let e ← op' (elT P t)
    ck (okT P e)
    let (s, rows) ← seen x
    ck (Nat.beq s (szT P e))
    let l ← bound lo 0
    let h ← bound hi rows.length
    let rows' ← op' (cut rows l h)
    match x with
    | .own r ver => do
      match ← rd r with
      | some (.arr _ fl ver' s rows) => do
        ck (Nat.beq ver ver')
        wr r (.arr true fl ver s rows)
        pure (.d (.sl false s rows'))
      | _ => .fail
    | _ => pure (.d (.sl false s rows'))

def buildParts (P : Program) (T : TypeId) (tm : Tmps) : List (Nat × Operand) → List V → Acc (List V)
  | [], cs => pure cs
  | (f, x) :: ps, cs => do
    let (o, n, t) ← op' (fieldOf P T f)
    let v := ev P tm t x
    ck (Nat.beq v.cells.length n)
    ck (v.cells.all one)
    ck (Nat.ble (o + n) cs.length)
    buildParts P T tm ps (splice cs o v.cells)
def fieldsOk (P : Program) (T : TypeId) : Bool := match P.underlying T with
  | some (.struct fs) => fs.toList.all fun f => match P.info? f.type with | some _ => true | none => false
  | _ => false
def buildV (P : Program) (T : TypeId) (tm : Tmps) (ps : List (Nat × Operand)) : Acc V := do
  ck (fieldsOk P T)
  let z ← op' (zeroRow P T)
  let cs ← buildParts P T tm ps z
  pure (.agg cs)
def sliceParts (P : Program) (e : TypeId) (tm : Tmps) : Nat → List (Nat × Operand) → Acc (List Row)
  | _, [] => pure []
  | k, (i, x) :: ps => do
    ck (Nat.beq i k)
    let v := ev P tm e x
    ck (Nat.beq v.cells.length (szT P e))
    let row ← toRow v.cells
    let rows ← sliceParts P e tm (k + 1) ps
    pure (row :: rows)
def buildSliceV (P : Program) (dst : Nat) (t : TypeId) (n : Nat) (tm : Tmps) (ps : List (Nat × Operand)) : Acc V := do
  let e ← op' (elT P t)
  ck (Nat.ble 1 (szT P e))
  ck (Nat.beq ps.length n)
  ck (Nat.ble (n * szT P e) 16777216)
  let _ ← op' (zeroRow P e)
  let rows ← sliceParts P e tm 0 ps
  new dst (.arr false (flatT P e) 0 (szT P e) rows)
  pure (.own dst 0)

def convertV (P : Program) (src dst : TypeId) (x : V) : Acc V :=
  match P.underlying src, P.underlying dst with
  | some (.int _), some (.int k) => match x with
    | .d (.int _ n) => .ret (.d (.int k (k.wrap n)))
    | _ => .fail
  | some .string, some .string => match x with
    | .d (.str s) => .ret (.d (.str s))
    | _ => .fail
  | some (.slice e), some .string => do
    ck (match P.underlying e with | some (.int .u8) => true | _ => false)
    let (s, rows) ← seen x
    ck (Nat.beq s 1)
    let b ← op' (bytesOf rows)
    pure (.d (.str b))
  | _, _ => .fail

/-! ### Calls -/
def impBase : Nat := 100000
def addNew (r : Nat) (l : List Nat) : List Nat := bif mem? r l then l else l ++ [r]
mutual
/-- the boxes that a value leads to -/
def impV (I : List Nat) : V → List Nat
  | .ptr r _ => addNew r I
  | .clo _ a b => impVs (impVs I a) b
  | .agg cs => impVs I cs
  | _ => I
def impVs (I : List Nat) : List V → List Nat
  | [] => I
  | v :: vs => impVs (impV I v) vs
end
/-- how a parameter is handed over: 0: to be read; 1: taken over; 2: written -/
def modeOf (A : Adv) (f i : Nat) : Nat := bif mem? i (A.move f) then 1 else bif mem? i (A.ref f) then 2 else 0
def impArgs (A : Adv) (f : Nat) : Nat → List Nat → List V → List Nat
  | _, I, [] => I
  | i, I, v :: vs => impArgs A f (i + 1) (match modeOf A f i, v with
    | 2, .own r _ => addNew r I
    | _, v => impV I v) vs
def idxOf (r : Nat) : Nat → List Nat → Option Nat
  | _, [] => none
  | i, j :: l => bif Nat.beq r j then some i else idxOf r (i + 1) l
/-- the arguments that are taken over -/
def moveArgs (A : Adv) (f : Nat) : Nat → List V → Acc (List V)
  | _, [] => pure []
  | i, v :: vs => do
    let v ← (match modeOf A f i with
      | 1 => do
        let x ← toD v
        pure (.d x)
      | _ => pure v : Acc V)
    let vs ← moveArgs A f (i + 1) vs
    pure (v :: vs)
mutual
/-- what is lent -/
def lend (imp : List Nat) : V → Acc (V × List Nat)
  | .d x => pure (.d (roD x), [])
  | .nil s => pure (.d (.sl false s []), [])
  | .own r ver => do
    match ← rd r with
    | some (.arr fz fl ver' s rows) => do
      ck (Nat.beq ver ver')
      ck (!(mem? r imp))
      pure (.d (.sl false s (vw fl rows)), bif fz then [] else [r])
    | _ => .fail
  | .ptr r off => do
    let i ← op' (idxOf r 0 imp)
    pure (.ptr (impBase + i) off, [])
  | .rptr row off => pure (.rptr row off, [])
  | .clo f a b => do
    let (a, l) ← lends imp a
    let (b, l') ← lends imp b
    pure (.clo f a b, l ++ l')
  | .agg cs => do
    let (a, l) ← lends imp cs
    pure (.agg a, l)
  | .eptr .. => .fail
  | .tup _ => .fail
  | .undef => .fail
def lends (imp : List Nat) : List V → Acc (List V × List Nat)
  | [] => pure ([], [])
  | v :: vs => do
    let (v, l) ← lend imp v
    let (vs, l') ← lends imp vs
    pure (v :: vs, l ++ l')
end
def lendArgs (A : Adv) (imp : List Nat) (f : Nat) : Nat → List V → Acc (List V × List Nat)
  | _, [] => pure ([], [])
  | i, v :: vs => do
    let (v, l) ← (match modeOf A f i with
      | 1 => pure (v, [])
      | 2 => match v with
        | .own r ver => do
          ck (Nat.beq ver 0)
          let i ← op' (idxOf r 0 imp)
          pure (.own (impBase + i) 0, [])
        | _ => .fail
      | _ => lend imp v : Acc (V × List Nat))
    let (vs, l') ← lendArgs A imp f (i + 1) vs
    pure (v :: vs, l ++ l')

/-- a box's cell on its way out of the frame -/
def expV (imp : List Nat) (own : Bool) (v : V) : Acc V :=
  match v with
  | .d x => pure (.d (roD x))
  | .nil s => pure (.d (.sl own s []))
  | .own r ver => do
    match ← rd r with
    | some (.arr fz fl ver' s rows) => do
      ck (Nat.beq ver ver')
      ck (!(mem? r imp))
      match own with
      | true => do
        ck (!fz)
        ck (outOk fl rows)
        wr r .dead
        pure (.d (.sl true s rows))
      | false => do
        wr r (.arr true fl ver s rows)
        pure (.d (.sl false s (vw fl rows)))
    | _ => .fail
  | _ => .fail
def expCells (imp own : List Nat) : Nat → List V → Acc (List V)
  | _, [] => pure []
  | j, v :: vs => do
    let v ← expV imp (mem? j own) v
    let vs ← expCells imp own (j + 1) vs
    pure (v :: vs)
def expCell (A : Adv) (imp : List Nat) (c : Option Cell) : Acc Cell :=
  match c with
  | some (.box t cs) => do
    let cs ← expCells imp (A.bown t) 0 cs
    pure (.box t cs)
  | some (.arr fz fl ver s rows) => do
    ck (!fz)
    ck (Nat.beq ver 0)
    pure (.arr fz fl 0 s rows)
  | _ => .fail
def expAll (A : Adv) (imp : List Nat) : List Nat → Acc (List Cell)
  | [] => pure []
  | r :: rs => do
    let c ← rd r
    let c ← expCell A imp c
    let cs ← expAll A imp rs
    pure (c :: cs)

def keyOf (r j dst : Nat) : Nat := 1000000 + (r * 100 + j) * 10000 + dst
/-- what a box holds behind a call -/
def vD : V → D
  | .d x => x
  | _ => .nilf
def bxRow (cs : List Cell) (i : Nat) : Row := match cs[i]? with | some (.box _ vs) => vs.map vD | _ => []
def arRows (s : Nat) (cs : List Cell) (i : Nat) : Option (List Row) := match cs[i]? with | some (.arr false _ 0 s' rows) => bif Nat.beq s s' then some rows else none | _ => none
def boxLen (cs : List Cell) (i n : Nat) : Bool := match cs[i]? with | some (.box _ vs) => Nat.beq vs.length n | _ => false
/-- for each cell of a type: a slice whose elements are flat? -/
def flsAll (f : TypeId → List Bool) : List TypeId → List Bool
  | [] => []
  | t :: ts => f t ++ flsAll f ts
def fls (P : Program) : Nat → TypeId → List Bool
  | 0, _ => []
  | n + 1, t => match P.underlying t with
    | some (.slice e) => [flatT P e]
    | some (.struct fs) => flsAll (fls P n) (fs.toList.map (·.type))
    | _ => [false]
/-- one cell that comes back, by its type: kept as an array of one's own, or read -/
def backCell (own fl : Bool) (key : Nat) (row : Row) (j : Nat) : CT → Acc V
  | .int k => .opt (cInt k row j) fun n => .ret (.d (.int k n))
  | .bool => .opt (cBool row j) fun n => .ret (.d (.bool n))
  | .str => .opt (cStr row j) fun n => .ret (.d (.str n))
  | .sl s => match own with
    | true => .opt (cOwn s row j) fun rows => do
      new key (.arr false fl 0 s rows)
      pure (.own key 0)
    | false => .opt (cSl s row j) fun rows => .ret (.d (.sl false s (vw fl rows)))
  | .other => .fail
def reCells (own : List Nat) (r dst : Nat) (row : Row) : Nat → List CT → List Bool → Acc (List V)
  | _, [], _ => pure []
  | j, ct :: l, fs => do
    let v ← backCell (mem? j own) (fs.headD false) (keyOf r j dst) row j ct
    let vs ← reCells own r dst row (j + 1) l fs.tail
    pure (v :: vs)
def reAll (X : Ctx) (dst : Nat) (out : List Cell) : Nat → List Nat → Acc Unit
  | _, [] => pure ()
  | i, r :: rs => do
    match ← rd r with
    | some (.box t _) => do
      ck (boxLen out i (ctsOf X.P t).length)
      let vs ← reCells (X.adv.bown t) r dst (bxRow out i) 0 (ctsOf X.P t) (fls X.P 8 t)
      wr r (.box t vs)
    | some (.arr _ fl ver s _) => do
      let rows ← op' (arRows s out i)
      wr r (.arr false fl ver s rows)
    | _ => .fail
    reAll X dst out (i + 1) rs

def resKey (dst c : Nat) : Nat := 1000000000000000 + dst * 1000 + c
def resCells (att : List Nat) (dst ri : Nat) (row : Row) : Nat → List CT → List Bool → Acc (List V)
  | _, [], _ => pure []
  | j, ct :: l, fs => do
    let v ← backCell (mem? (ri * 20 + j) att) (fs.headD false) (resKey dst (ri * 20 + j)) row j ct
    let vs ← resCells att dst ri row (j + 1) l fs.tail
    pure (v :: vs)
def resRowOf (res : List Row) (ri : Nat) : Row := match res[ri]? with | some r => r | none => []
def resAll (X : Ctx) (att : List Nat) (dst : Nat) (res : List Row) : Nat → List TypeId → Acc (List V)
  | _, [] => pure []
  | ri, t :: ts => do
    ck (Nat.beq (resRowOf res ri).length (ctsOf X.P t).length)
    let cs ← resCells att dst ri (resRowOf res ri) 0 (ctsOf X.P t) (fls X.P 8 t)
    let v ← op' (ofCells X.P t cs)
    let vs ← resAll X att dst res (ri + 1) ts
    pure (v :: vs)
/-- do all slices of the results become arrays of one's own? -/
def allAtt (att : List Nat) (ri : Nat) : Nat → List CT → Bool
  | _, [] => true
  | j, .sl _ :: l => mem? (ri * 20 + j) att && allAtt att ri (j + 1) l
  | j, _ :: l => allAtt att ri (j + 1) l
def allAtts (P : Program) (att : List Nat) : Nat → List TypeId → Bool
  | _, [] => true
  | ri, t :: ts => allAtt att ri 0 (ctsOf P t) && allAtts P att (ri + 1) ts
def freeze : List Nat → Acc Unit
  | [] => pure ()
  | r :: rs => do
    match ← rd r with
    | some (.arr _ fl ver s rows) => wr r (.arr true fl ver s rows)
    | _ => .fail
    freeze rs

def callV (X : Ctx) (K : Kont) (fn dst f : Nat) (args : List V) : Acc V := do
  let g ← op' X.P.funcs[f]?
  ck (g.body.isSome && !(g.name == "runtime.NumGoroutine"))
  let imp := impArgs X.adv f 0 [] args
  let args ← moveArgs X.adv f 0 args
  let cells ← expAll X.adv imp imp
  let (args, lent) ← lendArgs X.adv imp f 0 args
  ck (lent.all fun r => !(mem? r imp))
  let out ← op' (K f args cells)
  ck (Nat.beq out.1.length g.resultTypes.size)
  let need := !(lent.isEmpty) && (allAtts X.P (X.adv.att fn dst) 0 g.resultTypes.toList && imp.isEmpty)
  ck (bif need then out.1.all pureRow else true)
  freeze (bif need then [] else lent)
  reAll X dst out.2 0 imp
  let vs ← resAll X (X.adv.att fn dst) dst out.1 0 g.resultTypes.toList
  match vs with
  | [v] => pure v
  | vs => pure (.tup vs)

/-- does the length's argument fit its type? -/
def lenT (P : Program) (ts : List TypeId) (x : V) : Bool := match ts with
  | [t] => (match x with
    | .d (.str _) => (match P.underlying t with | some .string => true | _ => false)
    | _ => (match P.underlying t with | some (.slice _) => true | _ => false))
  | _ => false
def evArgs (P : Program) (tm : Tmps) : List Operand → List TypeId → List V
  | [], _ => []
  | x :: xs, ts => ev P tm (ts.headD 0) x :: evArgs P tm xs ts.tail

/-- one operation. fn: the function that runs -/
def vop (X : Ctx) (K : Kont) (fn : Nat) (tm : Tmps) (o : Oper) : Acc V :=
  let P := X.P
  let dst := o.dst.getD 0
  match o.op with
  | .move x => pure (ev P tm o.type x)
  | .assign x => pure (ev P tm o.type x)
  | .pick c x y => pickV (ev P tm o.type c) (ev P tm o.type x) (ev P tm o.type y)
  | .alloc T => do
    let z ← op' (zeroRow P T)
    new dst (.box T z)
    pure (.ptr dst 0)
  | .box T x => do
    let v := ev P tm T x
    ck (Nat.beq v.cells.length (szT P T))
    ck (v.cells.all one)
    new dst (.box T v.cells)
    pure (.ptr dst 0)
  | .build T ps => buildV P T tm ps.toList
  | .buildSlice t n ps => buildSliceV P dst t n tm ps.toList
  | .load t a => loadV P t (ev P tm 0 a)
  | .store t a x => do storeV P t (ev P tm 0 a) (ev P tm t x); pure .undef
  | .nilCheck x => match ev P tm o.type x with
    | .ptr r off => pure (.ptr r off)
    | .rptr row off => pure (.rptr row off)
    | .eptr r ver i off => pure (.eptr r ver i off)
    | _ => .fail
  | .binOp op t x y t' => bin (boolT P t) op (ev P tm t x) (ev P tm t' y)
  | .unOp op t x => un op (ev P tm t x)
  | .convert s d x => convertV P s d (ev P tm s x)
  | .makeFunc (.func f) first caps => pure (.clo f (evArgs P tm first.toList []) (evArgs P tm caps.toList []))
  | .makeSlice t l c => makeSliceV P dst t (ev P tm o.type l) (ev P tm o.type c)
  | .slice t x lo hi none => sliceV P t (ev P tm t x) (lo.map (ev P tm 3)) (hi.map (ev P tm 3))
  | .fieldAddr T x f => fieldAddrV P T (ev P tm 0 x) f
  | .field T x f => fieldV P T (ev P tm T x) f
  | .indexAddr t x i => indexAddrV P t (ev P tm t x) (ev P tm 3 i)
  | .index t x i => indexV P t (ev P tm t x) (ev P tm 3 i)
  | .extract x i => match ev P tm 0 x with
    | .tup vs => op' vs[i]?
    | _ => .fail
  | .call { callee := .value f, args, argTypes } => match ev P tm 0 f with
    | .clo g first caps => callV X K fn dst g (first ++ evArgs P tm args.toList argTypes.toList ++ caps)
    | _ => .fail
  | .call { callee := .builtin .len, args, argTypes } => match evArgs P tm args.toList argTypes.toList with
    | [x] => do
      ck (lenT P argTypes.toList x)
      lenV x
    | _ => .fail
  | .call { callee := .builtin .append, args, argTypes } => match evArgs P tm args.toList argTypes.toList, argTypes.toList with
    | [x, y], [t, t'] => appendV P dst t t' x y
    | _, _ => .fail
  | .call { callee := .builtin .max, args, argTypes } => match evArgs P tm args.toList argTypes.toList with
    | [.d (.int k x), .d (.int _ y)] => pure (.d (.int k (bif decide (x < y) then y else x)))
    | _ => .fail
  | .call { callee := .builtin .min, args, argTypes } => match evArgs P tm args.toList argTypes.toList with
    | [.d (.int k x), .d (.int _ y)] => pure (.d (.int k (bif decide (y < x) then y else x)))
    | _ => .fail
  | _ => .fail

end Go.Vm
