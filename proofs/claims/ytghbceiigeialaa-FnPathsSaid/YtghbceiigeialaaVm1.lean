import Derived.Orders
import Derived.KernelRfl
import Derived.RowKit3
import Derived.Laws.Cells
import Derived.Laws.Rows
import Derived.Laws.OwnMore
import Derived.Below
set_option linter.unusedVariables false
set_option linter.unusedSimpArgs false

namespace Go.Vm
open Go
inductive D where
  | int (k : IntKind) (n : Int)
  | bool (b : Bool)
  | str (s : List UInt8)
  | nilf
  | sl (own : Bool) (s : Nat) (rows : List (List D))
  deriving Inhabited
abbrev Row := List D
inductive V where
  | d (x : D)
  | nil (s : Nat)
  | own (r ver : Nat)
  | ptr (r off : Nat)
  | eptr (r ver i off : Nat)
  | rptr (row : Row) (off : Nat)
  | kptr (v : V)
  | clo (f : Nat) (first caps : List V)
  | agg (cs : List V)
  | tup (vs : List V)
  | undef
  deriving Inhabited
inductive Cell where
  | box (t : TypeId) (cs : List V)
  | arr (fz fl : Bool) (ver s : Nat) (rows : List Row)
  | dead
  | que (ver s : Nat) (rows : List Row)
  | kbox (t : TypeId) (v : V)
  | loan (ver s : Nat) (rows : List Row) (i off : Nat)
  deriving Inhabited
abbrev Mem := List (Nat × Cell)
abbrev Tmps := List (Nat × V)
structure St where
  tm : Tmps
  mem : Mem
def get {α : Type} (k : Nat) : List (Nat × α) → Option α
  | [] => none
  | (j, x) :: l => bif Nat.beq k j then some x else get k l
def put {α : Type} (k : Nat) (x : α) : List (Nat × α) → List (Nat × α)
  | [] => [(k, x)]
  | (j, y) :: l => bif Nat.beq k j then (k, x) :: l else bif Nat.blt k j then (k, x) :: (j, y) :: l else (j, y) :: put k x l
def del {α : Type} (k : Nat) : List (Nat × α) → List (Nat × α)
  | [] => []
  | (j, y) :: l => bif Nat.beq k j then del k l else (j, y) :: del k l
def getT (t : Nat) (tm : Tmps) : V := match get t tm with | some v => v | none => .undef
def putT (dst : Option Nat) (v : V) (tm : Tmps) : Tmps := match dst with | some t => put t v tm | none => tm
def delT (dst : Option Nat) (tm : Tmps) : Tmps := match dst with | some t => del t tm | none => tm
inductive Acc (α : Type) : Type 1 where
  | ret (a : α)
  | fail
  | get (k : Nat) (c : Option Cell → Acc α)
  | set (k : Nat) (x : Cell) (c : Acc α)
  | opt {β : Type} (o : Option β) (c : β → Acc α)
  | guard (b : Bool) (c : Acc α)
structure Log where
  r : List Nat
  w : List Nat
def Log.rd (l : Log) (k : Nat) : Log := { l with r := k :: l.r }
def Log.wr (l : Log) (k : Nat) : Log := { l with w := k :: l.w }
def Log.none : Log := ⟨[], []⟩
def Acc.bind {α β : Type} : Acc α → (α → Acc β) → Acc β
  | .ret a, f => f a
  | .fail, _ => .fail
  | .get k c, f => .get k fun x => (c x).bind f
  | .set k x c, f => .set k x (c.bind f)
  | .opt o c, f => .opt o fun b => (c b).bind f
  | .guard b c, f => .guard b (c.bind f)
def Acc.run {α : Type} : Acc α → Mem → Log → Option (α × Mem × Log)
  | .ret a, m, l => some (a, m, l)
  | .fail, _, _ => none
  | .get k c, m, l => (c (Vm.get k m)).run m (l.rd k)
  | .set k x c, m, l => c.run (put k x m) (l.wr k)
  | .opt o c, m, l => match o with | some b => (c b).run m l | none => none
  | .guard b c, m, l => match b with | true => c.run m l | false => none
inductive CT where
  | int (k : IntKind) | bool | str | sl (s : Nat) | other
  deriving Inhabited
def ctsAll (f : TypeId → Option (List CT)) : List TypeId → Option (List CT)
  | [] => some []
  | t :: ts => match f t, ctsAll f ts with | some a, some b => some (a ++ b) | _, _ => none
def cts (P : Program) : Nat → TypeId → Option (List CT)
  | 0, _ => none
  | n + 1, t => match P.underlying t with
    | some (.int k) => some [.int k]
    | some .bool => some [.bool]
    | some .string => some [.str]
    | some (.slice e) => match P.info? e with | some i => some [.sl i.size] | none => none
    | some (.struct fs) => ctsAll (cts P n) (fs.toList.map (·.type))
    | some (.array k e) => ctsAll (cts P n) (List.replicate k e)
    | some (.pointer _) | some (.func ..) => some [.other]
    | _ => none
def ctsOf (P : Program) (t : TypeId) : List CT := match cts P 8 t with | some l => l | none => [.other]
def aggT (P : Program) (t : TypeId) : Bool := match P.underlying t with | some (.struct _) => true | some (.array ..) => true | _ => false
def szT (P : Program) (t : TypeId) : Nat := match P.info? t with | some i => i.size | none => 0
def ptrT (P : Program) (t : TypeId) : Option TypeId := match P.underlying t with | some (.pointer T) => some T | _ => none
def elT (P : Program) (t : TypeId) : Option TypeId := match P.underlying t with | some (.slice e) => some e | _ => none
def cvCell : CT → Value → V
  | _, .bool b => .d (.bool b)
  | _, .int k n => .d (.int k n)
  | _, .string s => .d (.str s.data.toList)
  | _, .nilFunc => .d .nilf
  | .sl s, .slice none 0 0 => .nil s
  | _, _ => .undef
def cvCells : List CT → List Value → List V
  | c :: cs, v :: vs => cvCell c v :: cvCells cs vs
  | [], _ :: vs => .undef :: cvCells [] vs
  | _, [] => []
def cv (P : Program) (t : TypeId) : Value → V
  | .agg cs => .agg (cvCells (ctsOf P t) cs.toList)
  | v => match ctsOf P t with | c :: _ => cvCell c v | [] => .undef
def zeroRow (P : Program) (t : TypeId) : Option (List V) :=
  match P.info? t with
  | some i => match i.zero with
    | some z => some (cvCells (ctsOf P t) z.cells.toList)
    | none => none
  | none => none
def V.cells : V → List V
  | .agg cs => cs
  | v => [v]
def ofCells (P : Program) (t : TypeId) (cs : List V) : Option V :=
  bif aggT P t then some (.agg cs) else match cs with | [v] => some v | _ => none
def asInt (k : IntKind) : D → Option Int
  | .int k' n => bif decide (k' = k) then some n else none
  | _ => none
def asBool : D → Option Bool
  | .bool b => some b
  | _ => none
def asStr : D → Option (List UInt8)
  | .str s => some s
  | _ => none
def asSl (s : Nat) : D → Option (List Row)
  | .sl _ s' rows => bif Nat.beq s' s then some rows else none
  | _ => none
def asRo (s : Nat) : D → Option (List Row)
  | .sl own s' rows => bif Nat.beq s' s then (match own with | false => some rows | true => match rows with | [] => some [] | _ :: _ => none) else none
  | _ => none
def asOwn (s : Nat) : D → Option (List Row)
  | .sl own s' rows => match own with | true => bif Nat.beq s' s then some rows else none | false => none
  | _ => none
def nth (row : Row) (j : Nat) : D := match row[j]? with | some x => x | none => .nilf
def cInt (k : IntKind) (row : Row) (j : Nat) : Option Int := asInt k (nth row j)
def cBool (row : Row) (j : Nat) : Option Bool := asBool (nth row j)
def cStr (row : Row) (j : Nat) : Option (List UInt8) := asStr (nth row j)
def cSl (s : Nat) (row : Row) (j : Nat) : Option (List Row) := asSl s (nth row j)
def cRo (s : Nat) (row : Row) (j : Nat) : Option (List Row) := asRo s (nth row j)
def cOwn (s : Nat) (row : Row) (j : Nat) : Option (List Row) := asOwn s (nth row j)
mutual
def D.fz : D → D
  | .int k n => .int k n
  | .bool b => .bool b
  | .str s => .str s
  | .nilf => .nilf
  | .sl _ s rows => .sl false s (fzRows rows)
def fzRows : List Row → List Row
  | [] => []
  | r :: rs => fzRow r :: fzRows rs
def fzRow : Row → Row
  | [] => []
  | x :: r => x.fz :: fzRow r
end
def roD : D → D
  | .sl _ s rows => .sl false s rows
  | x => x
def D.flat : D → Bool
  | .sl .. => false
  | _ => true
def flatRows (rows : List Row) : Bool := rows.all fun r => r.all D.flat
def one : V → Bool
  | .d _ => true
  | .nil _ => true
  | .own _ _ => true
  | .ptr _ _ => true
  | .eptr .. => true
  | .rptr _ _ => true
  | .kptr _ => true
  | .clo .. => true
  | _ => false
mutual
def D.pure : D → Bool
  | .sl own _ rows => match own with | true => pureRows rows | false => rows.isEmpty
  | _ => true
def pureRows : List Row → Bool
  | [] => true
  | r :: rs => pureRow r && pureRows rs
def pureRow : Row → Bool
  | [] => true
  | x :: r => x.pure && pureRow r
end
def nCells (strict : Bool) : List CT → Row → Nat → (List V → Acc V) → Acc V
  | [], _, _, c => c []
  | .int k :: ts, row, j, c => .opt (cInt k row j) fun n => nCells strict ts row (j + 1) fun vs => c (.d (.int k n) :: vs)
  | .bool :: ts, row, j, c => .opt (cBool row j) fun n => nCells strict ts row (j + 1) fun vs => c (.d (.bool n) :: vs)
  | .str :: ts, row, j, c => .opt (cStr row j) fun n => nCells strict ts row (j + 1) fun vs => c (.d (.str n) :: vs)
  | .sl s :: ts, row, j, c => .opt (bif strict then cRo s row j else cSl s row j) fun rs => nCells strict ts row (j + 1) fun vs => c (.d (.sl false s rs) :: vs)
  | .other :: _, _, _, _ => .fail
structure Adv where
  keep : Nat → Nat → List Nat
  move : Nat → List Nat
  ref : Nat → List Nat
  att : Nat → Nat → List Nat
  bown : Nat → List Nat
  fuse : Nat → Nat → Nat
  trunc : Nat → Nat → Bool
  raw : Nat → List Nat
  look : Nat → List Nat
  loan : Nat → Nat → Bool
structure Ctx where
  P : Program
  adv : Adv
  prim : Nat → Option (List V → List Cell → Option (List Row × List Cell))
  glob : Nat → Option Row
  gint : Nat → Bool
  gtab : Nat → Bool := fun _ => false
abbrev Kont := Nat → List V → List Cell → Option (List Row × List Cell)
def mem? (k : Nat) : List Nat → Bool
  | [] => false
  | j :: l => bif Nat.beq k j then true else mem? k l
def hasSl : List CT → Bool
  | [] => false
  | .sl _ :: _ => true
  | _ :: l => hasSl l
def flatT (P : Program) (e : TypeId) : Bool := !(hasSl (ctsOf P e))
def vw (fl : Bool) (rows : List Row) : List Row := bif fl then rows else fzRows rows
instance : Monad Acc where
  pure := .ret
  bind := .bind
def rd (k : Nat) : Acc (Option Cell) := .get k .ret
def wr (k : Nat) (x : Cell) : Acc Unit := .set k x (.ret ())
def ck (b : Bool) : Acc Unit := .guard b (.ret ())
def op' {β : Type} (o : Option β) : Acc β := .opt o .ret
def free (k : Nat) : Acc Unit := do
  match ← rd k with
  | none => pure ()
  | some _ => .fail
def new (k : Nat) (c : Cell) : Acc Unit := do
  free k
  wr k c
def seen (v : V) : Acc (Nat × List Row) :=
  match v with
  | .d (.sl _ s rows) => pure (s, rows)
  | .nil s => pure (s, [])
  | .own r ver => do
    match ← rd r with
    | some (.arr _ fl ver' s rows) => do ck (Nat.beq ver ver'); pure (s, vw fl rows)
    | _ => .fail
  | _ => .fail
def outOk (fl : Bool) (rows : List Row) : Bool := bif fl then flatRows rows else true
def toD (v : V) : Acc D :=
  match v with
  | .d x => pure (roD x)
  | .nil s => pure (.sl true s [])
  | .own r ver => do
    match ← rd r with
    | some (.arr fz fl ver' s rows) => do
      ck (Nat.beq ver ver')
      match fz with
      | true => pure (.sl false s (vw fl rows))
      | false => do
        ck (outOk fl rows)
        wr r .dead
        pure (.sl true s rows)
    | _ => .fail
  | _ => .fail
def toRow : List V → Acc Row
  | [] => pure []
  | v :: vs => do
    let x ← toD v
    let xs ← toRow vs
    pure (x :: xs)
def splice {α : Type} (l : List α) (off : Nat) (xs : List α) : List α := l.take off ++ xs ++ l.drop (off + xs.length)
def part {α : Type} (l : List α) (off n : Nat) : List α := (l.drop off).take n
def idx {α : Type} (l : List α) (i : Int) : Option α := bif decide (0 ≤ i) then l[i.toNat]? else none
def cut {α : Type} (l : List α) (a b : Int) : Option (List α) :=
  bif decide (0 ≤ a) && decide (a ≤ b) && decide (b ≤ l.length) then some ((l.drop a.toNat).take (b.toNat - a.toNat)) else none
def byteRow (b : UInt8) : Row := [.int .u8 b.toNat]
def asByte : Row → Option UInt8
  | [.int .u8 n] => some (UInt8.ofNat n.toNat)
  | _ => none
def bytesOf : List Row → Option (List UInt8)
  | [] => some []
  | r :: rs => match asByte r, bytesOf rs with | some b, some bs => some (b :: bs) | _, _ => none
def ev (P : Program) (tm : Tmps) (t : TypeId) : Operand → V
  | .tmp i => getT i tm
  | .const v => cv P t v
  | .func f => .clo f [] []
  | .global _ => .undef
def evG (X : Ctx) (tm : Tmps) (t : TypeId) (x : Operand) : V := match x with
  | .global g => match X.glob g with
    | some row => .rptr row 0
    | none => .undef
  | x => ev X.P tm t x
def nz (op : BinOp) (b : Int) : Bool := match op with
  | .quo => !(decide (b = 0))
  | .rem => !(decide (b = 0))
  | _ => true
def binI (op : BinOp) (k : IntKind) (a b : Int) : Option V :=
  match op with
  | .add => some (.d (.int k (k.wrap (a + b))))
  | .sub => some (.d (.int k (k.wrap (a - b))))
  | .mul => some (.d (.int k (k.wrap (a * b))))
  | .quo => some (.d (.int k (k.wrap (a.tdiv b))))
  | .rem => some (.d (.int k (a.tmod b)))
  | .eql => some (.d (.bool (a == b)))
  | .neq => some (.d (.bool (a != b)))
  | .lss => some (.d (.bool (decide (a < b))))
  | .leq => some (.d (.bool (decide (a ≤ b))))
  | .gtr => some (.d (.bool (decide (a > b))))
  | .geq => some (.d (.bool (decide (a ≥ b))))
  | .and => some (.d (.int k (k.wrap (BitVec.ofInt k.bits a &&& BitVec.ofInt k.bits b).toNat)))
  | .or => some (.d (.int k (k.wrap (BitVec.ofInt k.bits a ||| BitVec.ofInt k.bits b).toNat)))
  | .xor => some (.d (.int k (k.wrap (BitVec.ofInt k.bits a ^^^ BitVec.ofInt k.bits b).toNat)))
  | _ => none
def binShift (op : BinOp) (k : IntKind) (a b : Int) : Option V :=
  bif decide (b < 0) then none else
  match op with
  | .shl => some (.d (.int k (k.wrap (a * 2 ^ (min b.toNat k.bits)))))
  | .shr => some (.d (.int k (a.fdiv (2 ^ (min b.toNat k.bits)))))
  | _ => none
def strMax : Nat := 9223372036854775807
def binS (op : BinOp) (a b : List UInt8) : Acc V :=
  match op with
  | .add => .guard (Nat.ble (a.length + b.length) strMax) (.ret (.d (.str (a ++ b))))
  | .eql => .ret (.d (.bool (a == b)))
  | .neq => .ret (.d (.bool !(a == b)))
  | .lss => .ret (.d (.bool (Op.bytesLess a b)))
  | .leq => .ret (.d (.bool (Op.bytesLess a b || a == b)))
  | .gtr => .ret (.d (.bool !(Op.bytesLess a b || a == b)))
  | .geq => .ret (.d (.bool !(Op.bytesLess a b)))
  | _ => .fail
def binB (op : BinOp) (a b : Bool) : Option V :=
  match op with
  | .eql => some (.d (.bool (a == b)))
  | .neq => some (.d (.bool !(a == b)))
  | _ => none
def shiftOp : BinOp → Bool
  | .shl | .shr => true
  | _ => false
def boolT (P : Program) (t : TypeId) : Bool := match P.underlying t with | some .bool => true | _ => false
def bin (bt : Bool) (op : BinOp) (x y : V) : Acc V :=
  match x, y with
  | .d (.int k a), .d (.int k' b) =>
    match shiftOp op with
    | true => .opt (binShift op k a b) .ret
    | false => match decide (k = k') with
      | true => .guard (nz op b) (.opt (binI op k a b) .ret)
      | false => .fail
  | .d (.str a), .d (.str b) => binS op a b
  | .d (.bool a), .d (.bool b) => match bt with
    | true => .opt (binB op a b) .ret
    | false => .fail
  | _, _ => .fail
def eqCell : V → V → Option Bool
  | .d (.int k a), .d (.int k' b) => bif decide (k = k') then some (a == b) else none
  | .d (.str a), .d (.str b) => some (a == b)
  | .d (.bool a), .d (.bool b) => some (a == b)
  | _, _ => none
def plainT (P : Program) (t : TypeId) (v : V) : Bool := match P.underlying t, v with
  | some (.int _), .d (.int _ _) => true
  | some .string, .d (.str _) => true
  | some .bool, .d (.bool _) => true
  | _, _ => false
def eqCells (P : Program) : List Field → List V → List V → Option Bool
  | [], _, _ => some true
  | f :: fs, xs, ys => match xs[f.offset]?, ys[f.offset]? with
    | some x, some y => bif plainT P f.type x && (f.name != "_") then
        (match eqCell x y, eqCells P fs xs ys with
        | some a, some b => some (bif a then b else false)
        | _, _ => none) else none
    | _, _ => none
def binE (P : Program) (t : TypeId) (op : BinOp) (cs ds : List V) : Acc V := do
  ck (!(P.stoodInHeld t) && !(P.eqGuardType P.depth t))
  let fs ← op' (match P.underlying t with | some (.struct fs) => some fs.toList | _ => none)
  let r ← op' (eqCells P fs cs ds)
  match op with
  | .eql => pure (.d (.bool r))
  | .neq => pure (.d (.bool !r))
  | _ => .fail
def isNilV (x : V) : Acc Bool :=
  match x with
  | .nil _ => pure true
  | .d (.sl _ _ rows) => do ck (Nat.ble 1 rows.length); pure false
  | .own r ver => do
    match ← rd r with
    | some (.arr _ _ ver' _ rows) => do ck (Nat.beq ver ver' && Nat.ble 1 rows.length); pure false
    | _ => .fail
  | _ => .fail
def sliceT (P : Program) (t : TypeId) : Bool := match P.underlying t with | some (.slice _) => true | _ => false
def binNil (P : Program) (t : TypeId) (op : BinOp) (x : V) : Acc V := do
  ck (sliceT P t)
  let b ← isNilV x
  match op with
  | .eql => pure (.d (.bool b))
  | .neq => pure (.d (.bool !b))
  | _ => .fail
def binV (P : Program) (t : TypeId) (op : BinOp) (x y : V) : Acc V := match x with
  | .agg cs => (match y with | .agg ds => binE P t op cs ds | _ => .fail)
  | x => (match y with | .nil _ => binNil P t op x | y => bin (boolT P t) op x y)
def un (op : UnOp) (x : V) : Acc V :=
  match op, x with
  | .neg, .d (.int k n) => .ret (.d (.int k (k.wrap (0 - n))))
  | .not, .d (.bool b) => .ret (.d (.bool !b))
  | _, _ => .fail
def pickV (c x y : V) : Acc V :=
  match c with
  | .d (.bool c) => match x, y with
    | .d (.bool a), .d (.bool b) => .ret (.d (.bool (bif c then a else b)))
    | x, y => match c with
      | true => .ret x
      | false => .ret y
  | _ => .fail
def okT (P : Program) (t : TypeId) : Bool := match P.underlying t with | some _ => true | none => false
def loadV (P : Program) (t : TypeId) (a : V) : Acc V := do
  ck (okT P t && Nat.beq (ctsOf P t).length (szT P t))
  match a with
  | .ptr r off => do
    match ← rd r with
    | some (.box _ cs) => do
      ck (Nat.ble (off + szT P t) cs.length)
      op' (ofCells P t (part cs off (szT P t)))
    | some (.kbox _ v) => do
      ck (Nat.beq off 0 && (Nat.beq (szT P t) 1 && !(aggT P t)))
      pure v
    | _ => .fail
  | .kptr v => do
    ck (Nat.beq (szT P t) 1 && !(aggT P t))
    pure v
  | .rptr row off => nCells false (ctsOf P t) row off fun vs => op' (ofCells P t vs)
  | .eptr r ver i off => do
    match ← rd r with
    | some (.arr _ _ ver' _ rows) => do
      ck (Nat.beq ver ver')
      let row ← op' rows[i]?
      nCells true (ctsOf P t) row off fun vs => op' (ofCells P t vs)
    | some (.que ver' _ rows) => do
      ck (Nat.beq ver ver')
      let row ← op' rows[i]?
      nCells true (ctsOf P t) row off fun vs => op' (ofCells P t vs)
    | _ => .fail
  | _ => .fail
def loanBase : Nat := 1000000000000000000000000
def loanKey (r : Nat) : Nat := loanBase + r
def isLoan (k : Nat) : Bool := Nat.ble loanBase k
def loanV (P : Program) (t : TypeId) (a : V) : Acc V := do
  ck (okT P t && (Nat.beq (szT P t) 1 && !(aggT P t)))
  let e ← op' (elT P t)
  match a with
  | .eptr r ver i off => do
    match ← rd r with
    | some (.arr false false ver' s rows) => do
      ck (Nat.beq ver ver' && Nat.ble (off + 1) s)
      let row ← op' rows[i]?
      let rs ← op' (cOwn (szT P e) row off)
      ck (flatRows rs)
      new (loanKey r) (.arr false true 0 (szT P e) rs)
      wr r (.loan ver s rows i off)
      pure (.own (loanKey r) 0)
    | _ => .fail
  | _ => .fail
def unloan (k : Nat) : Acc Unit := match isLoan k with
  | false => pure ()
  | true => do
    match ← rd (k - loanBase) with
    | some (.loan ver s rows i off) => do
      match ← rd k with
      | some (.arr false true 0 e rs) => do
        ck (flatRows rs)
        let row ← op' rows[i]?
        wr k .dead
        wr (k - loanBase) (.arr false false ver s (rows.set i (splice row off [.sl true e rs])))
      | _ => pure ()
    | _ => pure ()
def unloanV (a : V) : Acc Unit := match a with
  | .own k _ => unloan k
  | .eptr k _ _ _ => unloan k
  | _ => pure ()
def kept (off : Nat) (cs : List V) (x : V) : Bool := match off, cs, x with
  | 0, [.undef], .ptr _ _ => true
  | _, _, _ => false
def storeV (P : Program) (t : TypeId) (a x : V) : Acc Unit := do
  ck (okT P t)
  ck (Nat.beq x.cells.length (szT P t))
  ck (x.cells.all one)
  match a with
  | .ptr r off => do
    match ← rd r with
    | some (.box T cs) => do
      ck (Nat.ble (off + szT P t) cs.length)
      match kept off cs x with
      | true => wr r (.kbox T x)
      | false => wr r (.box T (splice cs off x.cells))
    | _ => .fail
  | .eptr r ver i off => do
    let xs ← toRow x.cells
    match ← rd r with
    | some (.arr false fl ver' s rows) => do
      ck (Nat.beq ver ver')
      ck (Nat.ble (off + szT P t) s)
      let row ← op' rows[i]?
      wr r (.arr false fl ver s (rows.set i (splice row off xs)))
    | some (.loan ver' s rows i' off') => do
      ck (Nat.beq ver ver' && (Nat.beq i i' && (Nat.beq off off' && Nat.beq xs.length 1)))
      let row ← op' rows[i']?
      wr r (.arr false false ver s (rows.set i' (splice row off' xs)))
    | _ => .fail
  | _ => .fail
def fieldOf (P : Program) (T : TypeId) (f : Nat) : Option (Nat × Nat × TypeId) :=
  match P.underlying T with
  | some (.struct fs) => match fs[f]? with
    | some fd => some (fd.offset, szT P fd.type, fd.type)
    | none => none
  | _ => none
def fieldAddrV (P : Program) (T : TypeId) (a : V) (f : Nat) : Acc V := do
  let (o, n, _) ← op' (fieldOf P T f)
  ck (Nat.ble 1 n)
  match a with
  | .ptr r off => pure (.ptr r (off + o))
  | .rptr row off => pure (.rptr row (off + o))
  | .eptr r ver i off => pure (.eptr r ver i (off + o))
  | _ => .fail
def fieldV (P : Program) (T : TypeId) (x : V) (f : Nat) : Acc V := do
  let (o, n, t) ← op' (fieldOf P T f)
  match x with
  | .agg cs => do
    ck (Nat.ble (o + n) cs.length)
    ck (okT P t)
    op' (ofCells P t (part cs o n))
  | _ => .fail
def indexAddrS (P : Program) (t : TypeId) (x i : V) : Acc V := do
  let e ← op' (elT P t)
  match i with
  | .d (.int _ i) =>
    match x with
    | .d (.sl _ s rows) => do
      ck (Nat.beq s (szT P e))
      ck (okT P e)
      let row ← op' (idx rows i)
      pure (.rptr row 0)
    | .own r ver => do
      match ← rd r with
      | some (.arr fz fl ver' s rows) => do
        ck (Nat.beq ver ver')
        ck (Nat.beq s (szT P e))
        ck (okT P e)
        match fz with
        | true => do
          let row ← op' (idx (vw fl rows) i)
          pure (.rptr row 0)
        | false => do
          let _ ← op' (idx rows i)
          pure (.eptr r ver i.toNat 0)
      | some (.que ver' s rows) => do
        ck (Nat.beq ver ver')
        ck (Nat.beq s (szT P e))
        ck (okT P e)
        let _ ← op' (idx rows i)
        pure (.eptr r ver i.toNat 0)
      | some (.loan ver' s rows _ _) => do
        ck (Nat.beq ver ver')
        ck (Nat.beq s (szT P e))
        ck (okT P e)
        let _ ← op' (idx rows i)
        pure (.eptr r ver i.toNat 0)
      | _ => .fail
    | _ => .fail
  | _ => .fail
def arT (P : Program) (t : TypeId) : Option (Nat × TypeId) := match P.underlying t with | some (.array n e) => some (n, e) | _ => none
def indexArr (P : Program) (n : Nat) (e : TypeId) (x i : V) : Acc V :=
  match i with
  | .d (.int _ i) => do
    ck (okT P e)
    ck (decide (0 ≤ i) && decide (i < (n : Int)))
    match x with
    | .rptr row off => pure (.rptr row (off + i.toNat * szT P e))
    | .ptr r off => pure (.ptr r (off + i.toNat * szT P e))
    | _ => .fail
  | _ => .fail
def indexAddrV (P : Program) (t : TypeId) (x i : V) : Acc V := match arT P t with
  | some (n, e) => indexArr P n e x i
  | none => indexAddrS P t x i
def asRow : List V → Option Row
  | [] => some []
  | .d x :: vs => match asRow vs with | some r => some (x :: r) | none => none
  | _ :: _ => none
def pickCell (c : CT) (row : Row) (i : Nat) : Acc V := match c with
  | .int k => .opt (cInt k row i) fun n => .ret (.d (.int k n))
  | .bool => .opt (cBool row i) fun b => .ret (.d (.bool b))
  | .str => .opt (cStr row i) fun s => .ret (.d (.str s))
  | _ => .fail
def indexV (P : Program) (t : TypeId) (x i : V) : Acc V :=
  match P.underlying t, x, i with
  | some .string, .d (.str s), .d (.int _ i) => .opt (idx s i) fun b => .ret (.d (.int .u8 b.toNat))
  | some (.array n e), .agg cs, .d (.int _ i) => do
    ck (Nat.beq (szT P e) 1 && (Nat.beq cs.length n && (okT P e && !(aggT P e))))
    ck (decide (0 ≤ i) && decide (i < (n : Int)))
    let row ← op' (asRow cs)
    pickCell (match ctsOf P e with | [c] => c | _ => .other) row i.toNat
  | _, _, _ => .fail
def lenV (x : V) : Acc V :=
  match x with
  | .d (.str s) => .ret (.d (.int .i64 s.length))
  | .own r ver => do
    match ← rd r with
    | some (.arr _ _ ver' _ rows) => do ck (Nat.beq ver ver'); pure (.d (.int .i64 rows.length))
    | some (.que ver' _ rows) => do ck (Nat.beq ver ver'); pure (.d (.int .i64 rows.length))
    | _ => .fail
  | .d (.sl _ _ rows) => .ret (.d (.int .i64 rows.length))
  | .nil _ => .ret (.d (.int .i64 0))
  | _ => .fail
def roomB : Nat := 140737488355328
def bytesT (P : Program) (e : TypeId) : Nat := match P.info? e with | some i => i.bytes | none => roomB
def tail (P : Program) (e : TypeId) (y : V) : Acc (List Row) :=
  match y with
  | .d (.str s) => do
    ck (Nat.beq (szT P e) 1)
    pure (s.map byteRow)
  | .d (.sl _ s rows) => do
    ck (Nat.beq s (szT P e))
    pure (vw (flatT P e) rows)
  | .nil _ => pure []
  | .own r ver => do
    match ← rd r with
    | some (.arr fz fl ver' s rows) => do
      ck (Nat.beq ver ver')
      ck (Nat.beq s (szT P e))
      match flatT P e with
      | true => do
        ck (fl || fz)
        pure rows
      | false => do
        ck (!fl)
        match fz with
        | true => pure (fzRows rows)
        | false => do
          wr r .dead
          pure rows
    | _ => .fail
  | _ => .fail
def appendV (P : Program) (dst : Nat) (t ty : TypeId) (x y : V) : Acc V := do
  let e ← op' (elT P t)
  ck (Nat.ble 1 (szT P e))
  ck (match P.underlying ty with | some (.slice _) => true | some .string => true | _ => false)
  let z ← op' (zeroRow P e)
  ck (Nat.beq z.length (szT P e))
  let ys ← tail P e y
  match x with
  | .nil _ => do
    ck (Nat.ble (ys.length * bytesT P e) roomB)
    ck (Nat.ble ys.length roomB)
    new dst (.arr false (flatT P e) 0 (szT P e) ys)
    pure (.own dst 0)
  | .own r ver => do
    match ← rd r with
    | some (.arr false fl ver' s rows) => do
      ck (Nat.beq ver ver')
      ck (Nat.beq s (szT P e))
      ck (match fl, flatT P e with | true, true => true | false, false => true | _, _ => false)
      ck (Nat.ble ((rows.length + ys.length) * bytesT P e) roomB)
      ck (Nat.ble (rows.length + ys.length) roomB)
      wr r (.arr false fl (ver + 1) s (rows ++ ys))
      pure (.own r (ver + 1))
    | some (.que ver' s rows) => do
      ck (Nat.beq ver ver')
      ck (Nat.beq s (szT P e))
      ck (flatT P e)
      ck (Nat.ble ((rows.length + ys.length) * bytesT P e) roomB)
      ck (Nat.ble (rows.length + ys.length) roomB)
      wr r (.que (ver + 1) s (rows ++ ys))
      pure (.own r (ver + 1))
    | _ => .fail
  | _ => .fail
def sameOwn : V → V → Bool
  | .own r v, .own r' v' => Nat.beq r r' && Nat.beq v v'
  | _, _ => false
def twiceV (P : Program) (dst : Nat) (t ty : TypeId) (x : V) : Acc V := do
  let e ← op' (elT P t)
  ck (Nat.ble 1 (szT P e))
  ck (sliceT P ty)
  let z ← op' (zeroRow P e)
  ck (Nat.beq z.length (szT P e))
  match x with
  | .own r ver => do
    match ← rd r with
    | some (.arr false false ver' s rows) => do
      ck (Nat.beq ver ver' && Nat.beq s (szT P e))
      ck (Nat.ble ((rows.length + rows.length) * bytesT P e) roomB && Nat.ble (rows.length + rows.length) roomB)
      free dst
      wr r .dead
      wr dst .dead
      pure (.d (.sl false s (fzRows rows ++ fzRows rows)))
    | _ => .fail
  | _ => .fail
def zeroRowD (P : Program) (e : TypeId) : Acc Row := do
  let z ← op' (zeroRow P e)
  toRow z
def makeSliceV (P : Program) (dst : Nat) (t : TypeId) (l c : V) : Acc V := do
  let e ← op' (elT P t)
  ck (Nat.ble 1 (szT P e))
  let z ← zeroRowD P e
  ck (Nat.beq z.length (szT P e))
  match l, c with
  | .d (.int _ l), .d (.int _ c) => do
    ck (decide (0 ≤ l) && decide (l ≤ c) && decide (c * bytesT P e ≤ roomB) && decide (c ≤ roomB))
    new dst (.arr false (flatT P e) 0 (szT P e) (List.replicate l.toNat z))
    pure (.own dst 0)
  | _, _ => .fail
def bound (o : Option V) (d : Int) : Acc Int := match o with
  | none => .ret d
  | some (.d (.int _ n)) => .ret n
  | some _ => .fail
def sliceS (P : Program) (t : TypeId) (x : V) (lo hi : Option V) : Acc V :=
  match x with
  | .d (.str s) => do
    ck (match P.underlying t with | some .string => true | _ => false)
    let l ← bound lo 0
    let h ← bound hi s.length
    let s' ← op' (cut s l h)
    pure (.d (.str s'))
  | _ => do
    let e ← op' (elT P t)
    ck (okT P e)
    let (s, rows) ← seen x
    ck (Nat.beq s (szT P e))
    let l ← bound lo 0
    let h ← bound hi rows.length
    let rows' ← op' (cut rows l h)
    match x with
    | .own r ver => do
      match ← rd r with
      | some (.arr _ fl ver' s rows) => do
        ck (Nat.beq ver ver')
        wr r (.arr true fl ver s rows)
        pure (.d (.sl false s rows'))
      | _ => .fail
    | _ => pure (.d (.sl false s rows'))
def sliceV (P : Program) (t : TypeId) (x : V) (lo hi : Option V) : Acc V :=
  match x with
  | .rptr row off => do
    let (n, e) ← op' (arT P t)
    ck (okT P e)
    ck (Nat.beq (szT P e) 1 && (Nat.beq off 0 && Nat.beq row.length n))
    match lo, hi with
    | none, none => pure (.d (.sl false 1 (row.map fun x => [x])))
    | _, _ => .fail
  | x => sliceS P t x lo hi
def truncV (P : Program) (t : TypeId) (x : V) (hi : Option V) : Acc V := do
  let e ← op' (elT P t)
  ck (okT P e)
  match x with
  | .own r ver => do
    match ← rd r with
    | some (.arr false fl ver' s rows) => do
      ck (Nat.beq ver ver')
      ck (Nat.beq s (szT P e))
      let h ← bound hi rows.length
      ck (decide (0 ≤ h) && decide (h ≤ (rows.length : Int)))
      wr r (.arr false fl (ver + 1) s (rows.take h.toNat))
      pure (.own r (ver + 1))
    | _ => .fail
  | _ => .fail
def dropV (P : Program) (t : TypeId) (x lo : V) : Acc V := do
  let e ← op' (elT P t)
  ck (okT P e)
  let l ← bound (some lo) 0
  match x with
  | .own r ver => do
    match ← rd r with
    | some (.arr false true ver' s rows) => do
      ck (Nat.beq ver ver')
      ck (Nat.beq s (szT P e))
      ck (decide (0 ≤ l) && decide (l ≤ (rows.length : Int)))
      wr r (.que (ver + 1) s (rows.drop l.toNat))
      pure (.own r (ver + 1))
    | some (.que ver' s rows) => do
      ck (Nat.beq ver ver')
      ck (Nat.beq s (szT P e))
      ck (decide (0 ≤ l) && decide (l ≤ (rows.length : Int)))
      wr r (.que (ver + 1) s (rows.drop l.toNat))
      pure (.own r (ver + 1))
    | _ => .fail
  | _ => .fail
def buildParts (P : Program) (T : TypeId) (tm : Tmps) : List (Nat × Operand) → List V → Acc (List V)
  | [], cs => pure cs
  | (f, x) :: ps, cs => do
    let (o, n, t) ← op' (fieldOf P T f)
    let v := ev P tm t x
    ck (Nat.beq v.cells.length n)
    ck (v.cells.all one)
    ck (Nat.ble (o + n) cs.length)
    buildParts P T tm ps (splice cs o v.cells)
def fieldsOk (P : Program) (T : TypeId) : Bool := match P.underlying T with
  | some (.struct fs) => fs.toList.all fun f => match P.info? f.type with | some _ => true | none => false
  | _ => false
def buildPartsA (P : Program) (e : TypeId) (tm : Tmps) : List (Nat × Operand) → List V → Acc (List V)
  | [], cs => pure cs
  | (i, x) :: ps, cs => do
    let v := ev P tm e x
    ck (Nat.beq v.cells.length (szT P e))
    ck (v.cells.all one)
    ck (Nat.ble (i * szT P e + szT P e) cs.length)
    buildPartsA P e tm ps (splice cs (i * szT P e) v.cells)
def buildS (P : Program) (T : TypeId) (tm : Tmps) (ps : List (Nat × Operand)) : Acc V := do
  ck (fieldsOk P T)
  let z ← op' (zeroRow P T)
  let cs ← buildParts P T tm ps z
  pure (.agg cs)
def buildA (P : Program) (T e : TypeId) (tm : Tmps) (ps : List (Nat × Operand)) : Acc V := do
  ck (okT P e)
  let z ← op' (zeroRow P T)
  let cs ← buildPartsA P e tm ps z
  pure (.agg cs)
def buildV (P : Program) (T : TypeId) (tm : Tmps) (ps : List (Nat × Operand)) : Acc V := match arT P T with
  | some (_, e) => buildA P T e tm ps
  | none => buildS P T tm ps
def sliceParts (P : Program) (e : TypeId) (tm : Tmps) : Nat → List (Nat × Operand) → Acc (List Row)
  | _, [] => pure []
  | k, (i, x) :: ps => do
    ck (Nat.beq i k)
    let v := ev P tm e x
    ck (Nat.beq v.cells.length (szT P e))
    let row ← toRow v.cells
    let rows ← sliceParts P e tm (k + 1) ps
    pure (row :: rows)
def buildSliceV (P : Program) (dst : Nat) (t : TypeId) (n : Nat) (tm : Tmps) (ps : List (Nat × Operand)) : Acc V := do
  let e ← op' (elT P t)
  ck (Nat.ble 1 (szT P e))
  ck (Nat.beq ps.length n)
  ck (Nat.ble (n * szT P e) 16777216)
  let _ ← op' (zeroRow P e)
  let rows ← sliceParts P e tm 0 ps
  new dst (.arr false (flatT P e) 0 (szT P e) rows)
  pure (.own dst 0)
def convertV (P : Program) (src dst : TypeId) (x : V) : Acc V :=
  match P.underlying src, P.underlying dst with
  | some (.int _), some (.int k) => match x with
    | .d (.int _ n) => .ret (.d (.int k (k.wrap n)))
    | _ => .fail
  | some .string, some .string => match x with
    | .d (.str s) => .ret (.d (.str s))
    | _ => .fail
  | some (.slice e), some .string => do
    ck (match P.underlying e with | some (.int .u8) => true | _ => false)
    let (s, rows) ← seen x
    ck (Nat.beq s 1)
    let b ← op' (bytesOf rows)
    pure (.d (.str b))
  | _, _ => .fail
def impBase : Nat := 100000
def addNew (r : Nat) (l : List Nat) : List Nat := bif mem? r l then l else l ++ [r]
mutual
def impV (I : List Nat) : V → List Nat
  | .ptr r _ => addNew r I
  | .clo _ a b => impVs (impVs I a) b
  | .agg cs => impVs I cs
  | .kptr v => impV I v
  | _ => I
def impVs (I : List Nat) : List V → List Nat
  | [] => I
  | v :: vs => impVs (impV I v) vs
end
def modeOf (A : Adv) (f i : Nat) : Nat := bif mem? i (A.move f) then 1 else bif mem? i (A.ref f) then 2 else bif mem? i (A.raw f) then 3 else bif mem? i (A.look f) then 4 else 0
def impArgs (A : Adv) (f : Nat) : Nat → List Nat → List V → List Nat
  | _, I, [] => I
  | i, I, v :: vs => impArgs A f (i + 1) (match modeOf A f i, v with
    | 2, .own r _ => addNew r I
    | 4, _ => I
    | _, v => impV I v) vs
def idxOf (r : Nat) : Nat → List Nat → Option Nat
  | _, [] => none
  | i, j :: l => bif Nat.beq r j then some i else idxOf r (i + 1) l
def moveArgs (A : Adv) (f : Nat) : Nat → List V → Acc (List V)
  | _, [] => pure []
  | i, v :: vs => do
    let v ← (match modeOf A f i with
      | 1 => do
        let x ← toD v
        pure (.d x)
      | _ => pure v : Acc V)
    let vs ← moveArgs A f (i + 1) vs
    pure (v :: vs)
mutual
def lend (imp : List Nat) : V → Acc (V × List Nat)
  | .d x => pure (.d (roD x), [])
  | .nil s => pure (.d (.sl false s []), [])
  | .own r ver => do
    match ← rd r with
    | some (.arr fz fl ver' s rows) => do
      ck (Nat.beq ver ver')
      ck (!(mem? r imp))
      pure (.d (.sl false s (vw fl rows)), bif fz then [] else [r])
    | _ => .fail
  | .ptr r off => do
    let i ← op' (idxOf r 0 imp)
    pure (.ptr (impBase + i) off, [])
  | .rptr row off => pure (.rptr row off, [])
  | .kptr v => do
    let (v, l) ← lend imp v
    pure (.kptr v, l)
  | .clo f a b => do
    let (a, l) ← lends imp a
    let (b, l') ← lends imp b
    pure (.clo f a b, l ++ l')
  | .agg cs => do
    let (a, l) ← lends imp cs
    pure (.agg a, l)
  | .eptr .. => .fail
  | .tup _ => .fail
  | .undef => .fail
def lends (imp : List Nat) : List V → Acc (List V × List Nat)
  | [] => pure ([], [])
  | v :: vs => do
    let (v, l) ← lend imp v
    let (vs, l') ← lends imp vs
    pure (v :: vs, l ++ l')
end
def lendCells (imp : List Nat) : List V → Acc (Row × List Nat)
  | [] => pure ([], [])
  | v :: vs => do
    let (v, l) ← lend imp v
    match v with
    | .d x => do
      let (r, l') ← lendCells imp vs
      pure (x :: r, l ++ l')
    | _ => .fail
def lendBox (imp : List Nat) (v : V) : Acc (V × List Nat) :=
  match v with
  | .ptr r off => do
    match ← rd r with
    | some (.box _ cs) => do
      ck (!(mem? r imp))
      let (row, l) ← lendCells imp cs
      pure (.rptr row off, r :: l)
    | _ => .fail
  | .rptr row off => pure (.rptr row off, [])
  | _ => .fail
def lendArgs (A : Adv) (imp : List Nat) (f : Nat) : Nat → List V → Acc (List V × List Nat)
  | _, [] => pure ([], [])
  | i, v :: vs => do
    let (v, l) ← (match modeOf A f i with
      | 1 => pure (v, [])
      | 2 => match v with
        | .own r ver => do
          ck (Nat.beq ver 0)
          let i ← op' (idxOf r 0 imp)
          pure (.own (impBase + i) 0, [])
        | _ => .fail
      | 3 => match v with
        | .nil s => pure (.nil s, [])
        | _ => .fail
      | 4 => lendBox imp v
      | _ => lend imp v : Acc (V × List Nat))
    let (vs, l') ← lendArgs A imp f (i + 1) vs
    pure (v :: vs, l ++ l')
def expV (imp : List Nat) (own : Bool) (v : V) : Acc V :=
  match v with
  | .d x => pure (.d (roD x))
  | .nil s => pure (.d (.sl own s []))
  | .own r ver => do
    match ← rd r with
    | some (.arr fz fl ver' s rows) => do
      ck (Nat.beq ver ver')
      ck (!(mem? r imp))
      match own with
      | true => do
        ck (!fz)
        ck (outOk fl rows)
        wr r .dead
        pure (.d (.sl true s rows))
      | false => do
        wr r (.arr true fl ver s rows)
        pure (.d (.sl false s (vw fl rows)))
    | _ => .fail
  | _ => .fail
def expCells (imp own : List Nat) : Nat → List V → Acc (List V)
  | _, [] => pure []
  | j, v :: vs => do
    let v ← expV imp (mem? j own) v
    let vs ← expCells imp own (j + 1) vs
    pure (v :: vs)
def expCell (A : Adv) (imp : List Nat) (c : Option Cell) : Acc Cell :=
  match c with
  | some (.box t cs) => do
    let cs ← expCells imp (A.bown t) 0 cs
    pure (.box t cs)
  | some (.arr fz fl ver s rows) => do
    ck (!fz)
    ck (Nat.beq ver 0)
    pure (.arr fz fl 0 s rows)
  | _ => .fail
def expAll (A : Adv) (imp : List Nat) : List Nat → Acc (List Cell)
  | [] => pure []
  | r :: rs => do
    let c ← rd r
    let c ← expCell A imp c
    let cs ← expAll A imp rs
    pure (c :: cs)
def keyOf (r j dst : Nat) : Nat := 1000000 + (r * 100 + j) * 10000 + dst
def vD : V → D
  | .d x => x
  | _ => .nilf
def bxRow (cs : List Cell) (i : Nat) : Row := match cs[i]? with | some (.box _ vs) => vs.map vD | _ => []
def arRows (s : Nat) (cs : List Cell) (i : Nat) : Option (List Row) := match cs[i]? with | some (.arr false _ 0 s' rows) => bif Nat.beq s s' then some rows else none | _ => none
def boxLen (cs : List Cell) (i n : Nat) : Bool := match cs[i]? with | some (.box _ vs) => Nat.beq vs.length n | _ => false
def flsAll (f : TypeId → List Bool) : List TypeId → List Bool
  | [] => []
  | t :: ts => f t ++ flsAll f ts
def fls (P : Program) : Nat → TypeId → List Bool
  | 0, _ => []
  | n + 1, t => match P.underlying t with
    | some (.slice e) => [flatT P e]
    | some (.struct fs) => flsAll (fls P n) (fs.toList.map (·.type))
    | _ => [false]
def backCell (own fl : Bool) (key : Nat) (row : Row) (j : Nat) : CT → Acc V
  | .int k => .opt (cInt k row j) fun n => .ret (.d (.int k n))
  | .bool => .opt (cBool row j) fun n => .ret (.d (.bool n))
  | .str => .opt (cStr row j) fun n => .ret (.d (.str n))
  | .sl s => match own with
    | true => .opt (cOwn s row j) fun rows => do
      new key (.arr false fl 0 s rows)
      pure (.own key 0)
    | false => .opt (cSl s row j) fun rows => .ret (.d (.sl false s (vw fl rows)))
  | .other => .fail
def reCells (own : List Nat) (r dst : Nat) (row : Row) : Nat → List CT → List Bool → Acc (List V)
  | _, [], _ => pure []
  | j, ct :: l, fs => do
    let v ← backCell (mem? j own) (fs.headD false) (keyOf r j dst) row j ct
    let vs ← reCells own r dst row (j + 1) l fs.tail
    pure (v :: vs)
def reAll (X : Ctx) (dst : Nat) (out : List Cell) : Nat → List Nat → Acc Unit
  | _, [] => pure ()
  | i, r :: rs => do
    match ← rd r with
    | some (.box t _) => do
      ck (boxLen out i (ctsOf X.P t).length)
      let vs ← reCells (X.adv.bown t) r dst (bxRow out i) 0 (ctsOf X.P t) (fls X.P 8 t)
      wr r (.box t vs)
    | some (.arr _ fl ver s _) => do
      let rows ← op' (arRows s out i)
      wr r (.arr false fl ver s rows)
    | _ => .fail
    reAll X dst out (i + 1) rs
def resKey (dst c : Nat) : Nat := 1000000000000000 + dst * 1000 + c
def resCells (att : List Nat) (dst ri : Nat) (row : Row) : Nat → List CT → List Bool → Acc (List V)
  | _, [], _ => pure []
  | j, ct :: l, fs => do
    let v ← backCell (mem? (ri * 20 + j) att) (fs.headD false) (resKey dst (ri * 20 + j)) row j ct
    let vs ← resCells att dst ri row (j + 1) l fs.tail
    pure (v :: vs)
def resOne (X : Ctx) (att : List Nat) (dst ri : Nat) (row : Row) (t : TypeId) : Acc V := match ptrT X.P t with
  | some T => do
    ck (Nat.beq row.length (ctsOf X.P T).length)
    let cs ← resCells [] dst ri row 0 (ctsOf X.P T) (fls X.P 8 T)
    new (resKey dst (ri * 20 + 19)) (.box T cs)
    pure (.ptr (resKey dst (ri * 20 + 19)) 0)
  | none => do
    ck (Nat.beq row.length (ctsOf X.P t).length)
    let cs ← resCells att dst ri row 0 (ctsOf X.P t) (fls X.P 8 t)
    op' (ofCells X.P t cs)
def resRowOf (res : List Row) (ri : Nat) : Row := match res[ri]? with | some r => r | none => []
def resAll (X : Ctx) (att : List Nat) (dst : Nat) (res : List Row) : Nat → List TypeId → Acc (List V)
  | _, [] => pure []
  | ri, t :: ts => do
    let v ← resOne X att dst ri (resRowOf res ri) t
    let vs ← resAll X att dst res (ri + 1) ts
    pure (v :: vs)
def allAtt (att : List Nat) (ri : Nat) : Nat → List CT → Bool
  | _, [] => true
  | j, .sl _ :: l => mem? (ri * 20 + j) att && allAtt att ri (j + 1) l
  | j, _ :: l => allAtt att ri (j + 1) l
def allAtts (P : Program) (att : List Nat) : Nat → List TypeId → Bool
  | _, [] => true
  | ri, t :: ts => allAtt att ri 0 (ctsOf P t) && allAtts P att (ri + 1) ts
def freeze : List Nat → Acc Unit
  | [] => pure ()
  | r :: rs => do
    match ← rd r with
    | some (.arr _ fl ver s rows) => wr r (.arr true fl ver s rows)
    | _ => .fail
    freeze rs
def callV (X : Ctx) (K : Kont) (fn dst f : Nat) (args : List V) : Acc V := do
  let g ← op' X.P.funcs[f]?
  ck (g.body.isSome && !(g.name == "runtime.NumGoroutine"))
  let imp := impArgs X.adv f 0 [] args
  let args ← moveArgs X.adv f 0 args
  let cells ← expAll X.adv imp imp
  let (args, lent) ← lendArgs X.adv imp f 0 args
  ck (lent.all fun r => !(mem? r imp))
  let out ← op' (K f args cells)
  ck (Nat.beq out.1.length g.resultTypes.size)
  let need := !(lent.isEmpty) && (allAtts X.P (X.adv.att fn dst) 0 g.resultTypes.toList && imp.isEmpty)
  ck (bif need then out.1.all pureRow else true)
  freeze (bif need then [] else lent)
  reAll X dst out.2 0 imp
  let vs ← resAll X (X.adv.att fn dst) dst out.1 0 g.resultTypes.toList
  match vs with
  | [v] => pure v
  | vs => pure (.tup vs)
def lenT (P : Program) (ts : List TypeId) (x : V) : Bool := match ts with
  | [t] => (match x with
    | .d (.str _) => (match P.underlying t with | some .string => true | _ => false)
    | _ => (match P.underlying t with | some (.slice _) => true | _ => false))
  | _ => false
def evArgs (P : Program) (tm : Tmps) : List Operand → List TypeId → List V
  | [], _ => []
  | x :: xs, ts => ev P tm (ts.headD 0) x :: evArgs P tm xs ts.tail
def capsV : List V → Acc (List V)
  | [] => pure []
  | v :: vs => do
    let v ← (match v with
      | .ptr r off => do
        match ← rd r with
        | some (.kbox _ x) => do
          ck (Nat.beq off 0)
          pure (.kptr x)
        | _ => pure (.ptr r off)
      | v => pure v : Acc V)
    let vs ← capsV vs
    pure (v :: vs)
def vop (X : Ctx) (K : Kont) (fn : Nat) (tm : Tmps) (o : Oper) : Acc V :=
  let P := X.P
  let dst := o.dst.getD 0
  match o.op with
  | .move x => pure (ev P tm o.type x)
  | .assign x => pure (ev P tm o.type x)
  | .pick c x y => pickV (ev P tm o.type c) (ev P tm o.type x) (ev P tm o.type y)
  | .alloc T => do
    let z ← op' (zeroRow P T)
    new dst (.box T z)
    pure (.ptr dst 0)
  | .box T x => do
    let v := ev P tm T x
    ck (Nat.beq v.cells.length (szT P T))
    ck (v.cells.all one)
    new dst (.box T v.cells)
    pure (.ptr dst 0)
  | .build T ps => buildV P T tm ps.toList
  | .buildSlice t n ps => buildSliceV P dst t n tm ps.toList
  | .load t a => match X.adv.loan fn dst with
    | true => loanV P t (evG X tm 0 a)
    | false => loadV P t (evG X tm 0 a)
  | .store t a x => do storeV P t (ev P tm 0 a) (ev P tm t x); unloanV (ev P tm 0 a); pure .undef
  | .nilCheck x => match evG X tm o.type x with
    | .ptr r off => pure (.ptr r off)
    | .rptr row off => pure (.rptr row off)
    | .eptr r ver i off => pure (.eptr r ver i off)
    | _ => .fail
  | .binOp op t x y t' => binV P t op (ev P tm t x) (ev P tm t' y)
  | .unOp op t x => un op (ev P tm t x)
  | .convert s d x => convertV P s d (ev P tm s x)
  | .makeFunc (.func f) first caps => do
    let cs ← capsV (evArgs P tm caps.toList [])
    pure (.clo f (evArgs P tm first.toList []) cs)
  | .makeSlice t l c => makeSliceV P dst t (ev P tm o.type l) (ev P tm o.type c)
  | .slice t x lo hi none => match X.adv.trunc fn dst, lo, hi with
    | true, none, hi => truncV P t (ev P tm t x) (hi.map (ev P tm 3))
    | true, some lo, none => dropV P t (ev P tm t x) (ev P tm 3 lo)
    | _, lo, hi => sliceV P t (evG X tm t x) (lo.map (ev P tm 3)) (hi.map (ev P tm 3))
  | .fieldAddr T x f => fieldAddrV P T (ev P tm 0 x) f
  | .field T x f => fieldV P T (ev P tm T x) f
  | .indexAddr t x i => indexAddrV P t (evG X tm t x) (ev P tm 3 i)
  | .index t x i => indexV P t (ev P tm t x) (ev P tm 3 i)
  | .extract x i => match ev P tm 0 x with
    | .tup vs => op' vs[i]?
    | _ => .fail
  | .call { callee := .value f, args, argTypes } => match ev P tm 0 f with
    | .clo g first caps => callV X K fn dst g (first ++ evArgs P tm args.toList argTypes.toList ++ caps)
    | _ => .fail
  | .call { callee := .builtin .len, args, argTypes } => match evArgs P tm args.toList argTypes.toList with
    | [x] => do
      ck (lenT P argTypes.toList x)
      let v ← lenV x
      unloanV x
      pure v
    | _ => .fail
  | .call { callee := .builtin .append, args, argTypes } => match evArgs P tm args.toList argTypes.toList, argTypes.toList with
    | [x, y], [t, t'] => match sameOwn x y with
      | true => twiceV P dst t t' x
      | false => appendV P dst t t' x y
    | _, _ => .fail
  | .call { callee := .builtin .max, args, argTypes } => match evArgs P tm args.toList argTypes.toList with
    | [.d (.int k x), .d (.int _ y)] => pure (.d (.int k (bif decide (x < y) then y else x)))
    | _ => .fail
  | .call { callee := .builtin .min, args, argTypes } => match evArgs P tm args.toList argTypes.toList with
    | [.d (.int k x), .d (.int _ y)] => pure (.d (.int k (bif decide (y < x) then y else x)))
    | _ => .fail
  | _ => .fail
end Go.Vm

namespace Go.Vm
open Go
mutual
def refs : V → List Nat
  | .own r _ => [r]
  | .ptr r _ => [r]
  | .eptr r _ _ _ => [r]
  | .clo _ a b => refsAll a ++ refsAll b
  | .agg cs => refsAll cs
  | .tup vs => refsAll vs
  | .kptr v => refs v
  | _ => []
def refsAll : List V → List Nat
  | [] => []
  | v :: vs => refs v ++ refsAll vs
end
def cellRefs (m : Mem) (r : Nat) : List Nat := match get r m with
  | some (.box _ cs) => refsAll cs
  | some (.kbox _ v) => refs v
  | _ => []
def impKey (k : Nat) : Bool := Nat.ble impBase k && Nat.blt k (2 * impBase)
def addEnds : List Nat → List Nat → List Nat
  | acc, [] => acc
  | acc, k :: ks => addEnds (bif mem? k acc then acc else acc ++ [k]) ks
def ordK (tm : Tmps) (m : Mem) : List Nat :=
  let l0 := addEnds [] (tm.flatMap fun x => refs x.2)
  let l1 := addEnds l0 (l0.flatMap (cellRefs m))
  let l2 := addEnds l1 (l1.flatMap (cellRefs m))
  (addEnds l2 (m.map (·.1))).filter fun k => !(impKey k)
def names : List Nat := [nat_lit 300000, nat_lit 300001, nat_lit 300002, nat_lit 300003, nat_lit 300004, nat_lit 300005, nat_lit 300006, nat_lit 300007, nat_lit 300008, nat_lit 300009, nat_lit 300010, nat_lit 300011, nat_lit 300012, nat_lit 300013, nat_lit 300014, nat_lit 300015, nat_lit 300016, nat_lit 300017, nat_lit 300018, nat_lit 300019, nat_lit 300020, nat_lit 300021, nat_lit 300022, nat_lit 300023, nat_lit 300024, nat_lit 300025, nat_lit 300026, nat_lit 300027, nat_lit 300028, nat_lit 300029, nat_lit 300030, nat_lit 300031, nat_lit 300032, nat_lit 300033, nat_lit 300034, nat_lit 300035, nat_lit 300036, nat_lit 300037, nat_lit 300038, nat_lit 300039, nat_lit 300040, nat_lit 300041, nat_lit 300042, nat_lit 300043, nat_lit 300044, nat_lit 300045, nat_lit 300046, nat_lit 300047, nat_lit 300048, nat_lit 300049, nat_lit 300050, nat_lit 300051, nat_lit 300052, nat_lit 300053, nat_lit 300054, nat_lit 300055, nat_lit 300056, nat_lit 300057, nat_lit 300058, nat_lit 300059, nat_lit 300060, nat_lit 300061, nat_lit 300062, nat_lit 300063]
def numb : List Nat → List Nat → List (Nat × Nat)
  | n :: ns, k :: l => (k, n) :: numb ns l
  | _, _ => []
def ren (L : List (Nat × Nat)) (k : Nat) : Nat := match get k L with
  | some j => j
  | none => k
mutual
def renV (L : List (Nat × Nat)) : V → V
  | .d x => .d x
  | .nil s => .nil s
  | .own r ver => .own (ren L r) ver
  | .ptr r off => .ptr (ren L r) off
  | .eptr r ver i off => .eptr (ren L r) ver i off
  | .rptr row off => .rptr row off
  | .kptr v => .kptr (renV L v)
  | .clo f a b => .clo f (renVs L a) (renVs L b)
  | .agg cs => .agg (renVs L cs)
  | .tup vs => .tup (renVs L vs)
  | .undef => .undef
def renVs (L : List (Nat × Nat)) : List V → List V
  | [] => []
  | v :: vs => renV L v :: renVs L vs
end
def renC (L : List (Nat × Nat)) : Cell → Cell
  | .box t cs => .box t (renVs L cs)
  | .arr fz fl ver s rows => .arr fz fl ver s rows
  | .dead => .dead
  | .que ver s rows => .que ver s rows
  | .kbox t v => .kbox t (renV L v)
  | .loan ver s rows i off => .loan ver s rows i off
def renMem (L : List (Nat × Nat)) : Mem → Mem
  | [] => []
  | (k, c) :: m => put (ren L k) (renC L c) (renMem L m)
def renTm (L : List (Nat × Nat)) : Tmps → Tmps
  | [] => []
  | (t, v) :: tm => (t, renV L v) :: renTm L tm
def nodupB : List Nat → Bool
  | [] => true
  | k :: l => !(mem? k l) && nodupB l
def loanless (m : Mem) : Bool := m.all fun x => match x.2 with | .loan .. => false | _ => true
def canonOk (L : List (Nat × Nat)) (m : Mem) : Bool := nodupB ((m.map (·.1)).map (ren L)) && ((m.map (·.1)).all fun k => bif impKey k then Nat.beq (ren L k) k else true) && loanless m
def canonL (L : List (Nat × Nat)) (S : St) : St := match canonOk L S.mem with
  | true => ⟨renTm L S.tm, renMem L S.mem⟩
  | false => S
def canon (S : St) : St := match ordK S.tm S.mem with
  | [] => S
  | k :: o => canonL (numb names (k :: o)) S
end Go.Vm

namespace Go.Vm
open Go
mutual
def fixV (m : Mem) : V → V
  | .d x => .d x
  | .nil s => .nil s
  | .own r ver => match get r m with
    | some (.arr _ _ ver' _ _) => bif Nat.beq ver ver' then .own r 0 else .undef
    | some (.que ver' _ _) => bif Nat.beq ver ver' then .own r 0 else .undef
    | _ => .undef
  | .ptr r off => match get r m with
    | some (.box _ _) => .ptr r off
    | some (.kbox _ _) => .ptr r off
    | _ => .undef
  | .eptr r ver i off => match get r m with
    | some (.arr _ _ ver' _ _) => bif Nat.beq ver ver' then .eptr r 0 i off else .undef
    | some (.que ver' _ _) => bif Nat.beq ver ver' then .eptr r 0 i off else .undef
    | _ => .undef
  | .rptr row off => .rptr row off
  | .kptr v => .kptr (fixV m v)
  | .clo f a b => .clo f (fixVs m a) (fixVs m b)
  | .agg cs => .agg (fixVs m cs)
  | .tup vs => .tup (fixVs m vs)
  | .undef => .undef
def fixVs (m : Mem) : List V → List V
  | [] => []
  | v :: vs => fixV m v :: fixVs m vs
end
def fixCell (m : Mem) : Cell → Cell
  | .box t cs => .box t (fixVs m cs)
  | .arr fz fl _ s rows => .arr fz fl 0 s rows
  | .dead => .dead
  | .que _ s rows => .que 0 s rows
  | .kbox t v => .kbox t (fixV m v)
  | .loan ver s rows i off => .loan ver s rows i off
def keepTm (m : Mem) (tm : Tmps) : List Nat → Tmps
  | [] => []
  | t :: ts => match get t tm with
    | some v => (t, fixV m v) :: keepTm m tm ts
    | none => keepTm m tm ts
def addAll : List Nat → List Nat → List Nat
  | [], l => l
  | a :: as, l => bif mem? a l then addAll as l else addAll as (a :: l)
def reach (m : Mem) : Nat → List Nat → List Nat
  | 0, l => l
  | n + 1, l => reach m n (addAll (l.flatMap (cellRefs m)) l)
def roots (tm : Tmps) (m : Mem) : List Nat :=
  addAll (tm.flatMap fun x => refs x.2) ((m.map (·.1)).filter impKey)
def keepMem (all : Mem) (R : List Nat) : Mem → Mem
  | [] => []
  | (k, c) :: m => match c with
    | .dead => keepMem all R m
    | .loan .. => keepMem all R m
    | c => bif mem? k R then (k, fixCell all c) :: keepMem all R m else keepMem all R m
def closed (R : List Nat) (m : Mem) : Bool := m.all fun x => match x.2 with
  | .box _ cs => (refsAll cs).all fun r => mem? r R
  | .kbox _ v => (refs v).all fun r => mem? r R
  | _ => true
def firm (m : Mem) : Bool := m.all fun x => match x.2 with
  | .arr _ _ ver _ _ => bif impKey x.1 then Nat.beq ver 0 else true
  | .dead => !(impKey x.1)
  | .que .. => !(impKey x.1)
  | .loan .. => !(impKey x.1)
  | _ => true
def sortedK : Mem → Bool
  | [] => true
  | (k, _) :: m => match m with
    | [] => true
    | (j, _) :: _ => Nat.blt k j && sortedK m
def prune0 (ts : List Nat) (S : St) : Option St :=
  let tm := keepTm S.mem S.tm ts
  let R := reach S.mem 3 (roots tm S.mem)
  let m := keepMem S.mem R S.mem
  bif closed R m && (firm S.mem && sortedK S.mem) then some ⟨tm, m⟩ else none
def prune (ts : List Nat) (S : St) : Option St := match prune0 ts S with
  | some S' => some (canon S')
  | none => none
def wantedV (ops : Array Oper) (tm : Tmps) (o : Oper) : Option (Bool × Tmps) :=
  match o.guard with
  | none => some (true, tm)
  | some (j, want) => match ops[j]? with
    | some oj => match oj.dst with
      | some d => match getT d tm with
        | .d (.bool b) => match b with
          | true => some (want, put d (.d (.bool true)) tm)
          | false => some (!want, put d (.d (.bool false)) tm)
        | .tup vs => match vs with
          | [] => some (false, put d (.tup []) tm)
          | _ :: _ => none
        | _ => none
      | none => none
    | none => none
def dstOk (nt : Nat) : Option Nat → Bool
  | some d => Nat.blt d nt
  | none => true
def ntOf (P : Program) (fn : Nat) : Nat := match P.funcs[fn]? with | some g => g.ntmps | none => 0
def skipT (nt : Nat) (dst : Option Nat) (tm : Tmps) : Tmps := bif dstOk nt dst then putT dst (.tup []) tm else delT dst tm
def runOp (X : Ctx) (K : Kont) (fn : Nat) (ops : Array Oper) (i : Nat) (S : St) : Option (St × Log) :=
  match ops[i]? with
  | none => none
  | some o => match wantedV ops S.tm o with
    | none => none
    | some (false, tm) => some (⟨skipT (ntOf X.P fn) o.dst tm, S.mem⟩, .none)
    | some (true, tm) => match (vop X K fn tm o).run S.mem .none with
      | none => none
      | some (v, m, l) => bif dstOk (ntOf X.P fn) o.dst then some (⟨putT o.dst v tm, m⟩, l) else none
def runOps (X : Ctx) (K : Kont) (fn : Nat) (ops : Array Oper) : List Nat → St → List (Nat × Log) → Option (St × List (Nat × Log))
  | [], S, L => some (S, L)
  | i :: is, S, L => match runOp X K fn ops i S with
    | none => none
    | some (S', l) => runOps X K fn ops is S' ((i, l) :: L)
def disj (a b : List Nat) : Bool := a.all fun k => !(mem? k b)
def Log.apart (a b : Log) : Bool := disj a.w b.r && disj a.w b.w && disj a.r b.w
def ordered (bef : Array Nat) (i j : Nat) : Bool := (bef.getD i 0).testBit j
def drawOk (ops : Array Oper) (bef : Array Nat) : List (Nat × Log) → Bool
  | [] => true
  | (i, l) :: L => (L.all fun (j, l') => ordered bef i j || (l.apart l' && (match ops[i]?, ops[j]? with
      | some a, some b => a.apart ops b
      | _, _ => false))) && drawOk ops bef L
def backFrom : Nat → List Oper → Bool
  | _, [] => true
  | i, o :: l => (o.after.toList.all fun e => !(Region.binds .any e) || Nat.blt e.on i) && backFrom (i + 1) l
def backOk (ops : Array Oper) : Bool := backFrom 0 ops.toList
def offT (d : Nat) : Operand → Bool
  | .tmp t => !(Nat.beq t d)
  | _ => true
def twoTs (args : Array Operand) (d1 d2 : Nat) : Bool := match args.toList with
  | [.tmp a, .tmp b] => Nat.beq a d1 && Nat.beq b d2
  | _ => false
def fuseOut : List Row × List Cell → Option (IntKind × Int × Bool × Nat × List Row)
  | ([[.int k n]], [.arr false fl' 0 s' rs']) => some (k, n, fl', s', rs')
  | _ => none
def fuseCk (e : Nat) (fl : Bool) (q : IntKind × Int × Bool × Nat × List Row) : Bool := Nat.beq q.2.2.2.1 e && ((fl == q.2.2.1) && (outOk fl q.2.2.2.2 && pureRows q.2.2.2.2))
def fuseF (X : Ctx) (f : Nat) : Bool := Nat.beq (modeOf X.adv f 0) 2 && Nat.beq (modeOf X.adv f 1) 0 && (match X.P.funcs[f]? with
  | some g => g.body.isSome && !(g.name == "runtime.NumGoroutine") && (match g.resultTypes.toList with | [t] => !(aggT X.P t) && (ptrT X.P t).isNone | _ => false)
  | none => false)
def fuseOp (X : Ctx) (K : Kont) (tm : Tmps) (o1 o2 o3 : Oper) : Acc (Nat × Nat × V × V) :=
  match o1, o2, o3 with
  | ⟨some d1, .load t (.tmp ta), _, _, _, none⟩, ⟨some d2, .move x, ty2, _, _, none⟩, ⟨_, .call ⟨.value (.func f), args, _⟩, _, _, _, none⟩ => do
    ck (!(Nat.beq d1 d2) && (twoTs args d1 d2 && (offT d1 x && (okT X.P t && (Nat.beq (szT X.P t) 1 && (!(aggT X.P t) && fuseF X f))))))
    let e ← op' (elT X.P t)
    match getT ta tm, ev X.P tm ty2 x with
    | .eptr r ver i off, .d (.int k n) => do
      match ← rd r with
      | some (.arr false false ver' s rows) => do
        ck (Nat.beq ver ver' && Nat.ble (off + 1) s)
        let row ← op' rows[i]?
        let rs ← op' (cOwn (szT X.P e) row off)
        ck (outOk (flatT X.P e) rs)
        let out ← op' (K f [.own impBase 0, .d (.int k n)] [.arr false (flatT X.P e) 0 (szT X.P e) rs])
        let q ← op' (fuseOut out)
        ck (fuseCk (szT X.P e) (flatT X.P e) q)
        wr r (.arr false false ver' s (rows.set i (splice row off [.sl true (szT X.P e) q.2.2.2.2])))
        pure (d1, d2, .d (.int k n), .d (.int q.1 q.2.1))
      | _ => .fail
    | _, _ => .fail
  | _, _, _ => .fail
def runFuse (X : Ctx) (K : Kont) (fn : Nat) (ops : Array Oper) (p : Nat) (S : St) : Option St :=
  match ops[p]?, ops[p + 1]?, ops[p + 2]? with
  | some o1, some o2, some o3 => match (fuseOp X K S.tm o1 o2 o3).run S.mem .none with
    | some ((d1, d2, kv, v), m, _) => bif Nat.blt d1 (ntOf X.P fn) && (Nat.blt d2 (ntOf X.P fn) && dstOk (ntOf X.P fn) o3.dst) then some ⟨putT o3.dst v (put d2 kv (put d1 .undef S.tm)), m⟩ else none
    | none => none
  | _, _, _ => none
def regionRun (X : Ctx) (K : Kont) (fn id : Nat) (ops : Array Oper) (draw : Bool) (S : St) : Option (St × List (Nat × Log)) :=
  match X.adv.fuse fn id with
  | 0 => runOps X K fn ops (List.range ops.size) S []
  | p + 1 => match draw with
    | true => none
    | false => match runOps X K fn ops (List.range p) S [] with
      | some (S1, _) => match runFuse X K fn ops p S1 with
        | some S2 => runOps X K fn ops ((List.range ops.size).drop (p + 3)) S2 []
        | none => none
      | none => none
def region (X : Ctx) (K : Kont) (fn id : Nat) (ops : Array Oper) (draw : Bool) (S : St) : Option St :=
  match regionRun X K fn id ops draw S with
  | none => none
  | some (S', L) => bif (match draw with | false => true | true => X.P.follows .mixedOrders && (backOk ops && drawOk ops (Region.before ops) L)) then prune (X.adv.keep fn id) S' else none
inductive Ex where
  | normal
  | exit (id : Nat)
  | ret
noncomputable def lim {α : Type} (f : Nat → Option α) : Option α :=
  open Classical in if h : ∃ a n, f n = some a then some (Classical.choose h) else none
def iter (b : St → Option (Ex × St)) : Nat → St → Option (Ex × St)
  | 0, _ => none
  | n + 1, S => match b S with
    | some (.normal, S') => iter b n S'
    | r => r
noncomputable def loopL (b : St → Option (Ex × St)) (S : St) : Option (Ex × St) := lim fun n => iter b n S
def condV (P : Program) (tm : Tmps) (c : Operand) : Option Bool := match ev P tm 0 c with
  | .d (.bool b) => some b
  | _ => none
noncomputable def den (X : Ctx) (K : Kont) (fn : Nat) : Code → St → Option (Ex × St)
  | .skip, S => some (.normal, S)
  | .region id ops draw, S => match region X K fn id ops draw S with
    | some S' => some (.normal, S')
    | none => none
  | .seq a b, S => match den X K fn a S with
    | some (.normal, S') => den X K fn b S'
    | r => r
  | .cond c a b, S => match condV X.P S.tm c with
    | some true => den X K fn a S
    | some false => den X K fn b S
    | none => none
  | .block id c, S => match den X K fn c S with
    | some (.exit j, S') => bif Nat.beq j id then some (.normal, S') else some (.exit j, S')
    | r => r
  | .loop c, S => loopL (den X K fn c) S
  | .exit id, S => some (.exit id, S)
  | .ret, S => some (.ret, S)
  | _, _ => none
def entArg (A : Adv) (f i : Nat) (fl : Bool) (v : V) : Acc V :=
  match modeOf A f i with
  | 1 => (match v with
    | .d (.sl true s rows) => do
      new i (.arr false fl 0 s rows)
      pure (.own i 0)
    | .d x => pure (.d (roD x))
    | _ => .fail)
  | _ => pure v
def entArgs (X : Ctx) (f : Nat) : Nat → List TypeId → List V → Acc Tmps
  | _, _, [] => pure []
  | i, ts, v :: vs => do
    let v ← entArg X.adv f i ((fls X.P 8 (ts.headD 0)).headD false) v
    let r ← entArgs X f (i + 1) ts.tail vs
    pure ((i, v) :: r)
def impMem : Nat → List Cell → Mem
  | _, [] => []
  | i, c :: cs => (impBase + i, c) :: impMem (i + 1) cs
def impKeys (n : Nat) : List Nat := (List.range n).map (impBase + ·)
def entry (X : Ctx) (f : Nat) (g : Func) (args : List V) (cells : List Cell) : Acc Tmps := do
  reAll X 9999 cells 0 (impKeys cells.length)
  entArgs X f 0 g.params.toList args
def leaveBox (T : TypeId) (v : V) : Acc Row := match v with
  | .ptr r off => do
    match ← rd r with
    | some (.box T' cs) => do
      ck (Nat.beq T T' && Nat.beq off 0)
      wr r .dead
      toRow cs
    | _ => .fail
  | _ => .fail
def resRow (P : Program) (tm : Tmps) (r : ResultVar) (t : TypeId) : Acc Row :=
  match r with
  | .tmp x => match ptrT P t with
    | some T => leaveBox T (getT x tm)
    | none => match aggT P t, getT x tm with
      | true, .agg cs => toRow cs
      | false, .agg _ => .fail
      | false, v => toRow [v]
      | true, _ => .fail
  | .cell a T => match getT a tm with
    | .ptr r 0 => do
      match ← rd r with
      | some (.box _ cs) => do
        ck (Nat.beq T t && Nat.beq cs.length (szT P T) && (okT P T && (aggT P T || Nat.beq cs.length 1)) && (ptrT P t).isNone)
        toRow cs
      | _ => .fail
    | _ => .fail
def resRows (P : Program) (tm : Tmps) : List ResultVar → List TypeId → Acc (List Row)
  | [], [] => pure []
  | r :: rs, t :: ts => do
    let row ← resRow P tm r t
    let rows ← resRows P tm rs ts
    pure (row :: rows)
  | _, _ => .fail
def leave (X : Ctx) (g : Func) (n : Nat) (S : St) : Option (List Row × List Cell) :=
  match (do
    let rows ← resRows X.P S.tm g.results.toList g.resultTypes.toList
    let cells ← expAll X.adv (impKeys n) (impKeys n)
    pure (rows, cells) : Acc (List Row × List Cell)).run S.mem .none with
  | some (r, _, _) => some r
  | none => none
noncomputable def body (X : Ctx) (K : Kont) (f : Nat) (args : List V) (cells : List Cell) : Option (List Row × List Cell) :=
  match X.P.funcs[f]? with
  | some g => match g.body with
    | some c => bif !(Nat.ble cells.length impBase && Nat.ble args.length g.ntmps) then none else match (entry X f g args cells).run (impMem 0 cells) .none with
      | some (tm, m, _) => (match den X K f c ⟨tm, m⟩ with
        | some (.normal, S) => leave X g cells.length S
        | some (.ret, S) => leave X g cells.length S
        | _ => none)
      | none => none
    | none => none
  | none => none
noncomputable def callN (X : Ctx) : Nat → Kont
  | 0, _, _, _ => none
  | n + 1, f, args, cells => match X.prim f with
    | some p => p args cells
    | none => body X (callN X n) f args cells
noncomputable def call (X : Ctx) : Kont := fun f args cells => lim fun n => callN X n f args cells
end Go.Vm

namespace Go.Vm
open Go
abbrev View := Nat → Nat → Option Value
abbrev Heap := Nat → Option Obj
def heapOf (w : World) : Heap := fun b => w.heap[b]?
mutual
def ro (h : View) : D → Value → Prop
  | .int k n, v => v = .int k n
  | .bool b, v => v = .bool b
  | .str s, v => v = .string ⟨⟨s⟩⟩
  | .nilf, v => v = .nilFunc
  | .sl _ s rows, v => ∃ a cap, v = .slice a rows.length cap ∧ rows.length ≤ cap ∧ (rows ≠ [] → ∃ b o, a = some ⟨b, o, none⟩ ∧ roRows h s rows b o)
def roRows (h : View) (s : Nat) : List Row → Nat → Nat → Prop
  | [], _, _ => True
  | r :: rs, b, o => r.length = s ∧ roRow h r b o ∧ roRows h s rs b (o + s)
def roRow (h : View) : Row → Nat → Nat → Prop
  | [], _, _ => True
  | x :: r, b, o => (∃ v, h b o = some v ∧ ro h x v) ∧ roRow h r b (o + 1)
end
mutual
def ow (H : Heap) (h : View) : D → Value → List Nat → Prop
  | .int k n, v, N => v = .int k n ∧ N = []
  | .bool b, v, N => v = .bool b ∧ N = []
  | .str s, v, N => v = .string ⟨⟨s⟩⟩ ∧ N = []
  | .nilf, v, N => v = .nilFunc ∧ N = []
  | .sl own s rows, v, N => match own with
    | false => N = [] ∧ ro h (.sl false s rows) v
    | true => (rows = [] ∧ v = .slice none 0 0 ∧ N = []) ∨
      ∃ b cap cs t N', v = .slice (some ⟨b, 0, none⟩) rows.length cap ∧ rows.length ≤ cap ∧ H b = some (.cells cs t (0, 0)) ∧ cs.size = cap * s ∧
        owRows H h s rows cs.toList N' ∧ N = b :: N'
def owRows (H : Heap) (h : View) (s : Nat) : List Row → List Value → List Nat → Prop
  | [], _, N => N = []
  | r :: rs, cs, N => r.length = s ∧ ∃ N1 N2, N = N1 ++ N2 ∧ owRow H h r cs N1 ∧ owRows H h s rs (cs.drop s) N2
def owRow (H : Heap) (h : View) : Row → List Value → List Nat → Prop
  | [], _, N => N = []
  | x :: r, cs, N => ∃ v cs' N1 N2, cs = v :: cs' ∧ N = N1 ++ N2 ∧ ow H h x v N1 ∧ owRow H h r cs' N2
end
def seenRow (h : View) : Row → List Value → Prop
  | [], _ => True
  | x :: r, cs => ∃ v cs', cs = v :: cs' ∧ ro h x v ∧ seenRow h r cs'
def seenRows (h : View) (s : Nat) : List Row → List Value → Prop
  | [], _ => True
  | r :: rs, cs => r.length = s ∧ seenRow h r cs ∧ seenRows h s rs (cs.drop s)
def arrS (H : Heap) (h : View) (fl : Bool) (s : Nat) (rows : List Row) (v : Value) (N : List Nat) : Prop :=
  (rows = [] ∧ v = .slice none 0 0 ∧ N = []) ∨
  ∃ b cap cs t N', v = .slice (some ⟨b, 0, none⟩) rows.length cap ∧ rows.length ≤ cap ∧ H b = some (.cells cs t (0, 0)) ∧ cs.size = cap * s ∧
    (match fl with
     | true => seenRows h s rows cs.toList ∧ N' = []
     | false => owRows H h s rows cs.toList N') ∧ N = b :: N'
def queS (H : Heap) (h : View) (s : Nat) (rows : List Row) (v : Value) (N : List Nat) : Prop :=
  (rows = [] ∧ v = .slice none 0 0 ∧ N = []) ∨
  ∃ b o cap cs t, v = .slice (some ⟨b, o, none⟩) rows.length cap ∧ rows.length ≤ cap ∧ H b = some (.cells cs t (0, 0)) ∧ o + cap * s ≤ cs.size ∧
    seenRows h s rows (cs.toList.drop o) ∧ N = [b]
def isSl (g : Value) : Prop := ∃ a n c, g = .slice a n c
def isPt (g : Value) : Prop := ∃ b o, g = .pointer (some ⟨b, o, none⟩)
mutual
def simV (μ : Nat → Value) (m : Mem) (h : View) : V → Value → Prop
  | .d x, g => ro h x g
  | .nil _, g => g = .slice none 0 0
  | .own r v0, g => isSl g ∧ match get r m with
    | some (.arr _ _ ver _ _) => v0 ≤ ver ∧ (v0 = ver → g = μ r)
    | some .dead => True
    | some (.que ver _ _) => v0 ≤ ver ∧ (v0 = ver → g = μ r)
    | some (.loan ver _ _ _ _) => v0 ≤ ver ∧ (v0 = ver → g = μ r)
    | _ => False
  | .ptr r off, g => isPt g ∧ match get r m with
    | some (.box _ _) => ∃ b, μ r = .pointer (some ⟨b, 0, none⟩) ∧ g = .pointer (some ⟨b, off, none⟩)
    | some (.kbox _ _) => ∃ b, μ r = .pointer (some ⟨b, 0, none⟩) ∧ g = .pointer (some ⟨b, off, none⟩)
    | some .dead => True
    | _ => False
  | .eptr r v0 i off, g => isPt g ∧ match get r m with
    | some (.arr _ _ ver s _) => v0 ≤ ver ∧ (v0 = ver → ∃ b n cap, μ r = .slice (some ⟨b, 0, none⟩) n cap ∧ g = .pointer (some ⟨b, i * s + off, none⟩))
    | some .dead => True
    | some (.que ver s _) => v0 ≤ ver ∧ (v0 = ver → ∃ b o n cap, μ r = .slice (some ⟨b, o, none⟩) n cap ∧ g = .pointer (some ⟨b, o + (i * s + off), none⟩))
    | some (.loan ver s _ _ _) => v0 ≤ ver ∧ (v0 = ver → ∃ b n cap, μ r = .slice (some ⟨b, 0, none⟩) n cap ∧ g = .pointer (some ⟨b, i * s + off, none⟩))
    | _ => False
  | .rptr row off, g => ∃ b o, g = .pointer (some ⟨b, o + off, none⟩) ∧ roRow h row b o
  | .kptr v, g => ∃ b x, g = .pointer (some ⟨b, 0, none⟩) ∧ h b 0 = some x ∧ simV μ m h v x
  | .clo f first caps, g => ∃ a c, g = .func (.func f) a c ∧ simVs μ m h first a.toList ∧ simVs μ m h caps c.toList
  | .agg cs, g => ∃ a, g = .agg a ∧ simVs μ m h cs a.toList
  | .tup vs, g => ∃ a, g = .tuple a ∧ simVs μ m h vs a.toList
  | .undef, _ => True
def simVs (μ : Nat → Value) (m : Mem) (h : View) : List V → List Value → Prop
  | [], gs => gs = []
  | v :: vs, gs => ∃ g gs', gs = g :: gs' ∧ simV μ m h v g ∧ simVs μ m h vs gs'
end
def hole (H : Heap) (h : View) (s : Nat) (rows : List Row) (row : Row) (i off : Nat) (cs : List Value) (Na Nb : List Nat) : Prop := ∀ (H' : Heap) (h' : View) (x : D) (g : Value) (N : List Nat),
  (∀ b o v, h b o = some v → h' b o = some v) → (∀ b, b ∈ Na ++ Nb → H' b = H b) → ow H' h' x g N → owRows H' h' s (rows.set i (splice row off [x])) (cs.set (i * s + off) g) (Na ++ N ++ Nb)
def lentS (μ : Nat → Value) (m : Mem) (r : Nat) (g : Value) : Prop := match get (loanKey r) m with
  | some (.arr _ _ 0 _ _) => μ (loanKey r) = g
  | some (.loan 0 _ _ _ _) => μ (loanKey r) = g
  | some _ => True
  | none => False
def simCell (μ : Nat → Value) (m : Mem) (H : Heap) (h : View) (r : Nat) : Cell → List Nat → Prop
  | .box t cs, N => ∃ b a, μ r = .pointer (some ⟨b, 0, none⟩) ∧ H b = some (.cells a t (0, 0)) ∧ simVs μ m h cs a.toList ∧ N = [b]
  | .arr fz fl _ s rows, N => match fz with
    | true => ro h (.sl true s rows) (μ r) ∧ N = []
    | false => arrS H h fl s rows (μ r) N
  | .dead, N => N = []
  | .que _ s rows, N => queS H h s rows (μ r) N
  | .kbox _ v, N => N = [] ∧ ∃ b x, μ r = .pointer (some ⟨b, 0, none⟩) ∧ h b 0 = some x ∧ simV μ m h v x
  | .loan _ s rows i off, N => ∃ b cap cs t g row Na Nb, μ r = .slice (some ⟨b, 0, none⟩) rows.length cap ∧ rows.length ≤ cap ∧ H b = some (.cells cs t (0, 0)) ∧ cs.size = cap * s ∧ cs.toList[i * s + off]? = some g ∧
      rows[i]? = some row ∧ off < s ∧ hole H h s rows row i off cs.toList Na Nb ∧ lentS μ m r g ∧ N = b :: (Na ++ Nb)
open Classical in
noncomputable def view (w : World) (U X : Nat → Prop) : View := fun b o => if U b ∧ ¬ X b then w.cell? ⟨b, o, none⟩ else none
def excl (F : Nat → List Nat) (E : List Nat) : Nat → Prop := fun b => b ∈ E ∨ ∃ r, b ∈ F r
structure Keep (M : List Nat) (w w' : World) : Prop where
  os : w'.os = w.os
  tape : w'.tape = w.tape
  output : w'.output = w.output
  size : w.heap.size ≤ w'.heap.size
  block : ∀ b, b < w.heap.size → b ∉ M → w'.heap[b]? = w.heap[b]?
theorem Keep.refl (M : List Nat) (w : World) : Keep M w w := ⟨rfl, rfl, rfl, Nat.le_refl _, fun _ _ _ => rfl⟩
theorem Keep.trans {M M' : List Nat} {a b c : World} (h : Keep M a b) (k : Keep M' b c) (hM : ∀ x, x ∈ M' → x ∈ M ∨ a.heap.size ≤ x) : Keep M a c :=
  ⟨k.os.trans h.os, k.tape.trans h.tape, k.output.trans h.output, Nat.le_trans h.size k.size, fun i hi hm =>
    (k.block i (Nat.lt_of_lt_of_le hi h.size) (fun hx => (hM i hx).elim hm (fun hl => absurd hi (Nat.not_lt.2 hl)))).trans (h.block i hi hm)⟩
structure MInv (base : Nat) (U : Nat → Prop) (m : Mem) (w : World) (μ : Nat → Value) (F : Nat → List Nat) (E : List Nat) (out : List Nat) : Prop where
  cell : ∀ r c, get r m = some c → r ∉ out → simCell μ m (heapOf w) (view w U (excl F E)) r c (F r)
  dj : ∀ r r', r ≠ r' → ∀ b, b ∈ F r → b ∉ F r'
  djE : ∀ r b, b ∈ F r → b ∉ E
  nd : ∀ r, (F r).Nodup
  ndE : E.Nodup
  lt : ∀ b, excl F E b → b < w.heap.size ∧ base ≤ b ∧ U b
  up : ∀ b, w.heap.size ≤ b → U b
  bs : base ≤ w.heap.size
  none_ : ∀ r, get r m = none → F r = []
  out_ : ∀ r, r ∈ out → F r = []
def View.le (h h' : View) : Prop := ∀ b o v, h b o = some v → h' b o = some v
theorem View.le_refl (h : View) : h.le h := fun _ _ _ x => x
theorem View.le.trans' {a b c : View} (h : a.le b) (k : b.le c) : a.le c := fun x y v q => k x y v (h x y v q)
mutual
theorem ro_mono {h h' : View} (hl : h.le h') : ∀ (x : D) (v : Value), ro h x v → ro h' x v
  | .int _ _, _, q => by simpa [ro] using q
  | .bool _, _, q => by simpa [ro] using q
  | .str _, _, q => by simpa [ro] using q
  | .nilf, _, q => by simpa [ro] using q
  | .sl _ s rows, v, q => by
    simp only [ro] at q ⊢
    obtain ⟨a, cap, h1, h2, h3⟩ := q
    refine ⟨a, cap, h1, h2, fun hn => ?_⟩
    obtain ⟨b, o, h4, h5⟩ := h3 hn
    exact ⟨b, o, h4, roRows_mono hl s rows b o h5⟩
theorem roRows_mono {h h' : View} (hl : h.le h') (s : Nat) : ∀ (rows : List Row) (b o : Nat), roRows h s rows b o → roRows h' s rows b o
  | [], _, _, _ => by simp [roRows]
  | r :: rs, b, o, q => by
    simp only [roRows] at q ⊢
    exact ⟨q.1, roRow_mono hl r b o q.2.1, roRows_mono hl s rs b (o + s) q.2.2⟩
theorem roRow_mono {h h' : View} (hl : h.le h') : ∀ (r : Row) (b o : Nat), roRow h r b o → roRow h' r b o
  | [], _, _, _ => by simp [roRow]
  | x :: r, b, o, q => by
    simp only [roRow] at q ⊢
    obtain ⟨⟨v, h1, h2⟩, h3⟩ := q
    exact ⟨⟨v, hl _ _ _ h1, ro_mono hl x v h2⟩, roRow_mono hl r b (o + 1) h3⟩
end
mutual
theorem ow_mono {H H' : Heap} {h h' : View} (hl : h.le h') : ∀ (x : D) (v : Value) (N : List Nat), (∀ b, b ∈ N → H' b = H b) → ow H h x v N → ow H' h' x v N
  | .int _ _, _, _, _, q => by simpa [ow] using q
  | .bool _, _, _, _, q => by simpa [ow] using q
  | .str _, _, _, _, q => by simpa [ow] using q
  | .nilf, _, _, _, q => by simpa [ow] using q
  | .sl false s rows, v, N, _, q => by
    simp only [ow] at q ⊢
    exact ⟨q.1, ro_mono hl _ _ q.2⟩
  | .sl true s rows, v, N, hb, q => by
    simp only [ow] at q ⊢
    rcases q with q | ⟨b, cap, cs, t, N', h1, h2, h3, h4, h5, rfl⟩
    · exact .inl q
    · exact .inr ⟨b, cap, cs, t, N', h1, h2, by rw [hb b (by simp)]; exact h3, h4, owRows_mono hl s rows cs.toList N' (fun b' hb' => hb b' (by simp [hb'])) h5, rfl⟩
theorem owRows_mono {H H' : Heap} {h h' : View} (hl : h.le h') (s : Nat) : ∀ (rows : List Row) (cs : List Value) (N : List Nat), (∀ b, b ∈ N → H' b = H b) → owRows H h s rows cs N → owRows H' h' s rows cs N
  | [], _, _, _, q => by simpa [owRows] using q
  | r :: rs, cs, N, hb, q => by
    simp only [owRows] at q ⊢
    obtain ⟨h1, N1, N2, rfl, h2, h3⟩ := q
    exact ⟨h1, N1, N2, rfl, owRow_mono hl r cs N1 (fun b hx => hb b (by simp [hx])) h2, owRows_mono hl s rs _ N2 (fun b hx => hb b (by simp [hx])) h3⟩
theorem owRow_mono {H H' : Heap} {h h' : View} (hl : h.le h') : ∀ (r : Row) (cs : List Value) (N : List Nat), (∀ b, b ∈ N → H' b = H b) → owRow H h r cs N → owRow H' h' r cs N
  | [], _, _, _, q => by simpa [owRow] using q
  | x :: r, cs, N, hb, q => by
    simp only [owRow] at q ⊢
    obtain ⟨v, cs', N1, N2, rfl, rfl, h2, h3⟩ := q
    exact ⟨v, cs', N1, N2, rfl, rfl, ow_mono hl x v N1 (fun b hx => hb b (by simp [hx])) h2, owRow_mono hl r cs' N2 (fun b hx => hb b (by simp [hx])) h3⟩
end
theorem seenRow_mono {h h' : View} (hl : h.le h') : ∀ (r : Row) (cs : List Value), seenRow h r cs → seenRow h' r cs
  | [], _, _ => trivial
  | x :: r, cs, ⟨v, cs', h1, h2, h3⟩ => ⟨v, cs', h1, ro_mono hl x v h2, seenRow_mono hl r cs' h3⟩
theorem seenRows_mono {h h' : View} (hl : h.le h') (s : Nat) : ∀ (rows : List Row) (cs : List Value), seenRows h s rows cs → seenRows h' s rows cs
  | [], _, _ => trivial
  | r :: rs, cs, ⟨h1, h2, h3⟩ => ⟨h1, seenRow_mono hl r cs h2, seenRows_mono hl s rs _ h3⟩
theorem arrS_mono {H H' : Heap} {h h' : View} (hl : h.le h') {fl : Bool} {s : Nat} {rows : List Row} {v : Value} {N : List Nat} (hb : ∀ b, b ∈ N → H' b = H b) (q : arrS H h fl s rows v N) : arrS H' h' fl s rows v N := by
  rcases q with q | ⟨b, cap, cs, t, N', h1, h2, h3, h4, h5, rfl⟩
  · exact .inl q
  · refine .inr ⟨b, cap, cs, t, N', h1, h2, by rw [hb b (by simp)]; exact h3, h4, ?_, rfl⟩
    cases fl with
    | true => exact ⟨seenRows_mono hl s rows _ h5.1, h5.2⟩
    | false => exact owRows_mono hl s rows _ N' (fun b' hb' => hb b' (by simp [hb'])) h5
theorem queS_mono {H H' : Heap} {h h' : View} (hl : h.le h') {s : Nat} {rows : List Row} {v : Value} {N : List Nat} (hb : ∀ b, b ∈ N → H' b = H b) (q : queS H h s rows v N) : queS H' h' s rows v N := by
  rcases q with q | ⟨b, o, cap, cs, t, h1, h2, h3, h4, h5, rfl⟩
  · exact .inl q
  · exact .inr ⟨b, o, cap, cs, t, h1, h2, by rw [hb b (by simp)]; exact h3, h4, seenRows_mono hl s rows _ h5, rfl⟩
def cellLe (μ μ' : Nat → Value) (r : Nat) : Cell → Cell → Prop
  | .box t _, .box t' _ => t' = t ∧ μ' r = μ r
  | .arr _ fl ver s _, .arr _ fl' ver' s' _ => ver ≤ ver' ∧ fl' = fl ∧ (ver = ver' → μ' r = μ r ∧ s' = s)
  | _, .dead => True
  | .arr _ _ ver _ _, .que ver' _ _ => ver < ver'
  | .que ver s _, .que ver' s' _ => ver ≤ ver' ∧ (ver = ver' → μ' r = μ r ∧ s' = s)
  | .box _ _, .kbox _ _ => μ' r = μ r
  | .kbox _ _, .kbox _ _ => μ' r = μ r
  | .arr _ fl ver s _, .loan ver' s' _ _ _ => fl = false ∧ ver ≤ ver' ∧ (ver = ver' → μ' r = μ r ∧ s' = s)
  | .loan ver s _ _ _, .arr _ fl ver' s' _ => fl = false ∧ ver ≤ ver' ∧ (ver = ver' → μ' r = μ r ∧ s' = s)
  | .loan ver s _ _ _, .loan ver' s' _ _ _ => ver ≤ ver' ∧ (ver = ver' → μ' r = μ r ∧ s' = s)
  | .loan ver _ _ _ _, .que ver' _ _ => ver < ver'
  | _, _ => False
def memLe (μ : Nat → Value) (m : Mem) (μ' : Nat → Value) (m' : Mem) : Prop := ∀ r c, get r m = some c → ∃ c', get r m' = some c' ∧ cellLe μ μ' r c c'
theorem cellLe_refl (μ : Nat → Value) (r : Nat) (c : Cell) : cellLe μ μ r c c := by cases c <;> simp [cellLe]
theorem memLe_refl (μ : Nat → Value) (m : Mem) : memLe μ m μ m := fun r c h => ⟨c, h, cellLe_refl μ r c⟩
theorem cellLe_trans {μ1 μ2 μ3 : Nat → Value} {r : Nat} {c c' c'' : Cell} (h : cellLe μ1 μ2 r c c') (k : cellLe μ2 μ3 r c' c'') : cellLe μ1 μ3 r c c'' := by
  have key : ∀ {a b d s s' s'' : Nat}, a ≤ b → (a = b → μ2 r = μ1 r ∧ s' = s) → b ≤ d → (b = d → μ3 r = μ2 r ∧ s'' = s') → a ≤ d ∧ (a = d → μ3 r = μ1 r ∧ s'' = s) := by
    intro a b d s s' s'' h1 h2 h3 h4
    refine ⟨by omega, fun e => ?_⟩
    have e1 : a = b := by omega
    have e2 : b = d := by omega
    exact ⟨(h4 e2).1.trans (h2 e1).1, (h4 e2).2.trans (h2 e1).2⟩
  cases c <;> cases c' <;> cases c'' <;> simp only [cellLe] at h k ⊢
  all_goals first
    | trivial
    | exact ⟨k.1.trans h.1, k.2.trans h.2⟩
    | exact k.trans h
    | exact k.trans h.2
    | omega
    | exact key h.1 h.2 k.1 k.2
    | exact ⟨(key h.1 h.2.2 k.1 k.2.2).1, k.2.1.trans h.2.1, (key h.1 h.2.2 k.1 k.2.2).2⟩
    | exact ⟨h.2.1.symm.trans k.1, key h.1 h.2.2 k.2.1 k.2.2⟩
    | exact ⟨(key h.1 h.2.2 k.2.1 k.2.2).1, (key h.1 h.2.2 k.2.1 k.2.2).2⟩
    | exact ⟨h.1, key h.2.1 h.2.2 k.1 k.2⟩
    | exact ⟨k.1, key h.1 h.2 k.2.1 k.2.2⟩
    | exact ⟨k.2.1.trans h.1, key h.2.1 h.2.2 k.1 k.2.2⟩
    | exact ⟨(key h.2.1 h.2.2 k.2.1 k.2.2).1, k.1.trans h.1.symm, (key h.2.1 h.2.2 k.2.1 k.2.2).2⟩
    | exact key h.2.1 h.2.2 k.2.1 k.2.2
theorem memLe_trans {μ1 μ2 μ3 : Nat → Value} {m1 m2 m3 : Mem} (h : memLe μ1 m1 μ2 m2) (k : memLe μ2 m2 μ3 m3) : memLe μ1 m1 μ3 m3 := by
  intro r c hc
  obtain ⟨c', h1, h2⟩ := h r c hc
  obtain ⟨c'', k1, k2⟩ := k r c' h1
  exact ⟨c'', k1, cellLe_trans h2 k2⟩
mutual
theorem simV_mono {μ μ' : Nat → Value} {m m' : Mem} {h h' : View} (hm : memLe μ m μ' m') (hl : h.le h') : ∀ (v : V) (g : Value), simV μ m h v g → simV μ' m' h' v g
  | .d x, g, q => by simp only [simV] at q ⊢; exact ro_mono hl x g q
  | .nil _, _, q => by simpa [simV] using q
  | .own r v0, g, q => by
    simp only [simV] at q ⊢
    refine ⟨q.1, ?_⟩
    replace q := q.2
    cases hc : get r m with
    | none => simp [hc] at q
    | some c =>
      obtain ⟨c', h1, h2⟩ := hm r c hc
      rw [h1]
      rw [hc] at q
      cases c <;> cases c' <;> simp only [cellLe] at h2 <;> first
        | trivial
        | exact q.elim
        | exact ⟨by omega, fun e => by omega⟩
        | exact ⟨by omega, fun e => by rw [(h2.2 (by omega)).1]; exact q.2 (by omega)⟩
        | exact ⟨by omega, fun e => by rw [(h2.2.2 (by omega)).1]; exact q.2 (by omega)⟩
  | .ptr r off, g, q => by
    simp only [simV] at q ⊢
    refine ⟨q.1, ?_⟩
    replace q := q.2
    cases hc : get r m with
    | none => simp [hc] at q
    | some c =>
      obtain ⟨c', h1, h2⟩ := hm r c hc
      rw [h1]
      cases c <;> cases c' <;> simp_all [cellLe]
  | .eptr r v0 i off, g, q => by
    simp only [simV] at q ⊢
    refine ⟨q.1, ?_⟩
    replace q := q.2
    cases hc : get r m with
    | none => simp [hc] at q
    | some c =>
      obtain ⟨c', h1, h2⟩ := hm r c hc
      rw [h1]
      rw [hc] at q
      cases c <;> cases c' <;> simp only [cellLe] at h2 <;> first
        | trivial
        | exact q.elim
        | exact ⟨by omega, fun e => by omega⟩
        | exact ⟨by omega, fun e => by rw [(h2.2 (by omega)).1, (h2.2 (by omega)).2]; exact q.2 (by omega)⟩
        | exact ⟨by omega, fun e => by rw [(h2.2.2 (by omega)).1, (h2.2.2 (by omega)).2]; exact q.2 (by omega)⟩
  | .rptr row off, g, q => by
    simp only [simV] at q ⊢
    obtain ⟨b, o, h1, h2⟩ := q
    exact ⟨b, o, h1, roRow_mono hl row b o h2⟩
  | .kptr v, g, q => by
    simp only [simV] at q ⊢
    obtain ⟨b, x, h1, h2, h3⟩ := q
    exact ⟨b, x, h1, hl _ _ _ h2, simV_mono hm hl v x h3⟩
  | .clo f first caps, g, q => by
    simp only [simV] at q ⊢
    obtain ⟨a, c, h1, h2, h3⟩ := q
    exact ⟨a, c, h1, simVs_mono hm hl first _ h2, simVs_mono hm hl caps _ h3⟩
  | .agg cs, g, q => by
    simp only [simV] at q ⊢
    obtain ⟨a, h1, h2⟩ := q
    exact ⟨a, h1, simVs_mono hm hl cs _ h2⟩
  | .tup vs, g, q => by
    simp only [simV] at q ⊢
    obtain ⟨a, h1, h2⟩ := q
    exact ⟨a, h1, simVs_mono hm hl vs _ h2⟩
  | .undef, _, _ => by simp [simV]
theorem simVs_mono {μ μ' : Nat → Value} {m m' : Mem} {h h' : View} (hm : memLe μ m μ' m') (hl : h.le h') : ∀ (vs : List V) (gs : List Value), simVs μ m h vs gs → simVs μ' m' h' vs gs
  | [], _, q => by simpa [simVs] using q
  | v :: vs, gs, q => by
    simp only [simVs] at q ⊢
    obtain ⟨g, gs', h1, h2, h3⟩ := q
    exact ⟨g, gs', h1, simV_mono hm hl v g h2, simVs_mono hm hl vs gs' h3⟩
end
theorem hole_mono {H H' : Heap} {h h' : View} (hl : h.le h') {s : Nat} {rows : List Row} {row : Row} {i off : Nat} {cs : List Value} {Na Nb : List Nat} (hb : ∀ b, b ∈ Na ++ Nb → H' b = H b) (q : hole H h s rows row i off cs Na Nb) : hole H' h' s rows row i off cs Na Nb :=
  fun H'' h'' x g N h1 h2 h3 => q H'' h'' x g N (hl.trans' h1) (fun b hb' => (h2 b hb').trans (hb b hb')) h3
theorem lentS_mono {μ μ' : Nat → Value} {m m' : Mem} (hm : memLe μ m μ' m') {r : Nat} {g : Value} (q : lentS μ m r g) : lentS μ' m' r g := by
  unfold lentS at q ⊢
  cases hc : get (loanKey r) m with
  | none => simp [hc] at q
  | some c =>
    obtain ⟨c', h1, h2⟩ := hm _ c hc
    rw [hc] at q
    rw [h1]
    have key : ∀ ver', ver' ≤ 0 → (match ver' with | 0 => μ (loanKey r) = g | _ => True) → μ (loanKey r) = g := fun ver' e => by
      have e : ver' = 0 := by omega
      subst e
      exact id
    cases c' with
    | arr fz fl ver s rows =>
      cases ver with
      | succ n => trivial
      | zero =>
        cases c <;> simp only [cellLe] at h2
        · obtain rfl := Nat.le_zero.1 h2.1
          exact (h2.2.2 rfl).1.trans q
        · obtain rfl := Nat.le_zero.1 h2.2.1
          exact (h2.2.2 rfl).1.trans q
    | loan ver s rows i off =>
      cases ver with
      | succ n => trivial
      | zero =>
        cases c <;> simp only [cellLe] at h2
        · obtain rfl := Nat.le_zero.1 h2.2.1
          exact (h2.2.2 rfl).1.trans q
        · obtain rfl := Nat.le_zero.1 h2.1
          exact (h2.2 rfl).1.trans q
    | _ => trivial
theorem simCell_mono {μ μ' : Nat → Value} {m m' : Mem} {H H' : Heap} {h h' : View} (hm : memLe μ m μ' m') (hl : h.le h') {r : Nat} (hr : μ' r = μ r) {c : Cell} {N : List Nat} (hb : ∀ b, b ∈ N → H' b = H b)
    (q : simCell μ m H h r c N) : simCell μ' m' H' h' r c N := by
  cases c with
  | box t cs =>
    obtain ⟨b, a, h1, h2, h3, rfl⟩ := q
    exact ⟨b, a, by rw [hr]; exact h1, by rw [hb b (by simp)]; exact h2, simVs_mono hm hl cs _ h3, rfl⟩
  | arr fz fl ver s rows =>
    cases fz with
    | true => exact ⟨by rw [hr]; exact ro_mono hl _ _ q.1, q.2⟩
    | false => simp only [simCell] at q ⊢; rw [hr]; exact arrS_mono hl hb q
  | dead => exact q
  | que ver s rows => simp only [simCell] at q ⊢; rw [hr]; exact queS_mono hl hb q
  | kbox t v =>
    obtain ⟨h1, b, x, h2, h3, h4⟩ := q
    exact ⟨h1, b, x, by rw [hr]; exact h2, hl _ _ _ h3, simV_mono hm hl v x h4⟩
  | loan ver s rows i off =>
    obtain ⟨b, cap, cs, t, g, row, Na, Nb, h1, h2, h3, h4, h5, h6, h7, h8, h9, rfl⟩ := q
    exact ⟨b, cap, cs, t, g, row, Na, Nb, by rw [hr]; exact h1, h2, by rw [hb b (by simp)]; exact h3, h4, h5, h6, h7, hole_mono hl (fun b' hb' => hb b' (by simp only [List.mem_cons]; exact .inr hb')) h8, lentS_mono hm h9, rfl⟩
theorem beq_no {k j : Nat} (h : k ≠ j) : Nat.beq k j = false := by
  cases hb : Nat.beq k j with
  | false => rfl
  | true => exact absurd (Nat.eq_of_beq_eq_true hb) h
theorem get_put_same {α : Type} (k : Nat) (x : α) : ∀ l : List (Nat × α), get k (put k x l) = some x
  | [] => by simp [put, get]
  | (j, y) :: l => by
    simp only [put]
    by_cases h : k = j
    · subst h; simp [get]
    · have hb : Nat.beq k j = false := beq_no h
      rw [hb]
      cases hl : Nat.blt k j with
      | true => simp [get]
      | false => simp [get, hb, get_put_same k x l]
theorem get_put_other {α : Type} {k k' : Nat} (hk : k ≠ k') (x : α) : ∀ l : List (Nat × α), get k (put k' x l) = get k l
  | [] => by
    have hb : Nat.beq k k' = false := beq_no hk
    simp [put, get, hb]
  | (j, y) :: l => by
    have hb : Nat.beq k k' = false := beq_no hk
    simp only [put]
    by_cases h : k' = j
    · subst h; simp [get, hb]
    · have hb' : Nat.beq k' j = false := beq_no h
      rw [hb']
      cases hl : Nat.blt k' j with
      | true => simp [get, hb]
      | false => simp [get, get_put_other hk x l]
theorem get_del_same {α : Type} (k : Nat) : ∀ l : List (Nat × α), get k (del k l) = none
  | [] => rfl
  | (j, y) :: l => by
    simp only [del]
    cases hb : Nat.beq k j with
    | true => simpa using get_del_same k l
    | false => simp [get, hb, get_del_same k l]
theorem get_del_other {α : Type} {k k' : Nat} (hk : k ≠ k') : ∀ l : List (Nat × α), get k (del k' l) = get k l
  | [] => rfl
  | (j, y) :: l => by
    simp only [del]
    cases hb : Nat.beq k' j with
    | true =>
      have : k' = j := Nat.eq_of_beq_eq_true hb
      subst this
      have hb : Nat.beq k k' = false := beq_no hk
      simp [get, hb, get_del_other hk l]
    | false => simp [get, get_del_other hk l]
theorem get_put {α : Type} (k k' : Nat) (x : α) (l : List (Nat × α)) : get k (put k' x l) = if k = k' then some x else get k l := by
  by_cases h : k = k'
  · subst h; rw [get_put_same, if_pos rfl]
  · rw [get_put_other h, if_neg h]
theorem get_del {α : Type} (k k' : Nat) (l : List (Nat × α)) : get k (del k' l) = if k = k' then none else get k l := by
  by_cases h : k = k'
  · subst h; rw [get_del_same, if_pos rfl]
  · rw [get_del_other h, if_neg h]
theorem Acc.run_bind {α β : Type} (a : Acc α) (f : α → Acc β) : ∀ (m : Mem) (l : Log), (a.bind f).run m l = match a.run m l with | some (x, m', l') => (f x).run m' l' | none => none := by
  induction a with
  | ret a => intro m l; rfl
  | fail => intro m l; rfl
  | get k c ih => intro m l; simp only [Acc.bind, Acc.run]; exact ih _ _ _
  | set k x c ih => intro m l; simp only [Acc.bind, Acc.run]; exact ih _ _
  | opt o c ih => intro m l; simp only [Acc.bind, Acc.run]; cases o with | none => rfl | some b => exact ih b _ _
  | guard b c ih => intro m l; simp only [Acc.bind, Acc.run]; cases b with | true => exact ih _ _ | false => rfl
theorem run_bind {α β : Type} (a : Acc α) (f : α → Acc β) (m : Mem) (l : Log) : (a >>= f).run m l = match a.run m l with | some (x, m', l') => (f x).run m' l' | none => none := Acc.run_bind a f m l
theorem run_bind_some {α β : Type} {a : Acc α} {f : α → Acc β} {m : Mem} {l : Log} {y : β} {m' : Mem} {l' : Log} (h : (a >>= f).run m l = some (y, m', l')) :
    ∃ x m1 l1, a.run m l = some (x, m1, l1) ∧ (f x).run m1 l1 = some (y, m', l') := by
  rw [run_bind] at h
  cases ha : a.run m l with
  | none => simp [ha] at h
  | some x => obtain ⟨x, m1, l1⟩ := x; rw [ha] at h; exact ⟨x, m1, l1, rfl, h⟩
theorem run_pure {α : Type} (a : α) (m : Mem) (l : Log) : (Pure.pure a : Acc α).run m l = some (a, m, l) := rfl
theorem run_rd (k : Nat) (m : Mem) (l : Log) : (rd k).run m l = some (get k m, m, l.rd k) := rfl
theorem run_wr (k : Nat) (c : Cell) (m : Mem) (l : Log) : (wr k c).run m l = some ((), put k c m, l.wr k) := rfl
theorem run_ck {b : Bool} {m : Mem} {l : Log} {x : Unit} {m' : Mem} {l' : Log} (h : (ck b).run m l = some (x, m', l')) : b = true ∧ m' = m ∧ l' = l := by
  cases b <;> simp [ck, Acc.run] at h
  exact ⟨rfl, h.1.symm, h.2.symm⟩
theorem run_op' {β : Type} {o : Option β} {m : Mem} {l : Log} {x : β} {m' : Mem} {l' : Log} (h : (op' o).run m l = some (x, m', l')) : o = some x ∧ m' = m ∧ l' = l := by
  cases o <;> simp [op', Acc.run] at h
  obtain ⟨rfl, rfl, rfl⟩ := h
  exact ⟨rfl, rfl, rfl⟩
theorem run_fail {α : Type} {m : Mem} {l : Log} {r : α × Mem × Log} (h : (Acc.fail : Acc α).run m l = some r) : False := by simp [Acc.run] at h
structure globS (X : Ctx) (h : View) : Prop where
  row : ∀ g row, X.glob g = some row → roRow h row g 0
  int : ∀ g, X.gint g = true → ∃ n, h g 0 = some (.int .i64 n)
theorem globS_mono {X : Ctx} {h h' : View} (hl : h.le h') (q : globS X h) : globS X h' := ⟨fun g row hg => roRow_mono hl row g 0 (q.row g row hg), fun g hg => by
  obtain ⟨n, hn⟩ := q.int g hg
  exact ⟨n, hl _ _ _ hn⟩⟩
theorem globS_none {X : Ctx} {h : View} (h1 : ∀ g, X.glob g = none) (h2 : ∀ g, X.gint g = false) : globS X h := ⟨fun g row hg => (by rw [h1 g] at hg; cases hg), fun g hg => (by rw [h2 g] at hg; cases hg)⟩
def tabS (X : Ctx) (w : World) : Prop := ∀ g, X.gtab g = true → ∃ x row cs T fr, X.glob g = some (x :: row) ∧ w.heap[g]? = some (.cells cs T fr) ∧ cs.size = row.length + 1
theorem tabS_none {X : Ctx} {w : World} (h : ∀ g, X.gtab g = false) : tabS X w := fun g hg => by rw [h g] at hg; cases hg
theorem roRows_one {h : View} : ∀ (row : Row) (b o : Nat), roRow h row b o → roRows h 1 (row.map fun x => [x]) b o
  | [], _, _, _ => trivial
  | x :: r, b, o, ⟨h1, h2⟩ => ⟨rfl, ⟨h1, trivial⟩, roRows_one r b (o + 1) h2⟩
end Go.Vm

namespace Go.Vm
open Go
def upF (F : Nat → List Nat) (r : Nat) (N : List Nat) : Nat → List Nat := fun k => if k = r then N else F k
def upM (μ : Nat → Value) (r : Nat) (g : Value) : Nat → Value := fun k => if k = r then g else μ k
@[simp] theorem upF_same (F : Nat → List Nat) (r : Nat) (N : List Nat) : upF F r N r = N := by simp [upF]
theorem upF_other {F : Nat → List Nat} {r k : Nat} (N : List Nat) (h : k ≠ r) : upF F r N k = F k := by simp [upF, h]
@[simp] theorem upM_same (μ : Nat → Value) (r : Nat) (g : Value) : upM μ r g r = g := by simp [upM]
theorem upM_other {μ : Nat → Value} {r k : Nat} (g : Value) (h : k ≠ r) : upM μ r g k = μ k := by simp [upM, h]
def full (w : World) : View := fun b o => w.cell? ⟨b, o, none⟩
theorem view_le_full (w : World) (U X : Nat → Prop) : (view w U X).le (full w) := by
  intro b o v h
  unfold view at h
  split at h
  · exact h
  · cases h
theorem view_le {w : World} {U U' X X' : Nat → Prop} (hU : ∀ b, U b → U' b) (h : ∀ b, X' b → X b) : (view w U X).le (view w U' X') := by
  intro b o v hv
  unfold view at hv ⊢
  split at hv
  · rename_i hc
    rw [if_pos ⟨hU b hc.1, fun hx => hc.2 (h b hx)⟩]
    exact hv
  · cases hv
structure GS where
  μ : Nat → Value
  F : Nat → List Nat
  E : List Nat
  out : List Nat
section
variable (base : Nat) (U : Nat → Prop) (w : World)
def Gok (m : Mem) (G : GS) : Prop := MInv base U m w G.μ G.F G.E G.out
noncomputable def Gh (G : GS) : View := view w U (excl G.F G.E)
end
structure GLe (m : Mem) (G : GS) (m' : Mem) (G' : GS) : Prop where
  mem : memLe G.μ m G'.μ m'
  ex : ∀ b, excl G'.F G'.E b → excl G.F G.E b
theorem GLe.refl (m : Mem) (G : GS) : GLe m G m G := ⟨memLe_refl _ _, fun _ h => h⟩
theorem GLe.trans {m1 m2 m3 : Mem} {G1 G2 G3 : GS} (h : GLe m1 G1 m2 G2) (k : GLe m2 G2 m3 G3) : GLe m1 G1 m3 G3 :=
  ⟨memLe_trans h.mem k.mem, fun b hb => h.ex b (k.ex b hb)⟩
theorem GLe.view {U : Nat → Prop} {w : World} {m m' : Mem} {G G' : GS} (h : GLe m G m' G') : (Gh U w G).le (Gh U w G') := view_le (fun _ x => x) h.ex
theorem GLe.simV {U : Nat → Prop} {w : World} {m m' : Mem} {G G' : GS} (h : GLe m G m' G') {v : V} {g : Value} (q : simV G.μ m (Gh U w G) v g) : simV G'.μ m' (Gh U w G') v g :=
  simV_mono h.mem h.view v g q
theorem GLe.simVs {U : Nat → Prop} {w : World} {m m' : Mem} {G G' : GS} (h : GLe m G m' G') {v : List V} {g : List Value} (q : simVs G.μ m (Gh U w G) v g) : simVs G'.μ m' (Gh U w G') v g :=
  simVs_mono h.mem h.view v g q
section
variable {base : Nat} {U : Nat → Prop} {w : World} {m : Mem} {G : GS}
theorem Gok.set (hg : Gok base U w m G) (r : Nat) (c' : Cell) (μ' : Nat → Value) (N E' out' : List Nat)
    (hs : (N ++ E').Nodup) (hsub : ∀ b, b ∈ N ++ E' → b ∈ G.F r ∨ b ∈ G.E) (hle : memLe G.μ m μ' (put r c' m)) (hμ : ∀ k, k ≠ r → μ' k = G.μ k)
    (ho : ∀ k, k ≠ r → (k ∈ out' ↔ k ∈ G.out)) (hr : r ∈ out' → N = [])
    (hc : (view w U (excl G.F G.E)).le (view w U (excl (upF G.F r N) E')) → r ∉ out' → simCell μ' (put r c' m) (heapOf w) (view w U (excl (upF G.F r N) E')) r c' N) :
    Gok base U w (put r c' m) ⟨μ', upF G.F r N, E', out'⟩ ∧ GLe m G (put r c' m) ⟨μ', upF G.F r N, E', out'⟩ := by
  have hex : ∀ b, excl (upF G.F r N) E' b → excl G.F G.E b := by
    rintro b (hb | ⟨k, hb⟩)
    · rcases hsub b (by simp [hb]) with h | h
      · exact .inr ⟨r, h⟩
      · exact .inl h
    · by_cases hk : k = r
      · subst hk
        rw [upF_same] at hb
        rcases hsub b (by simp [hb]) with h | h
        · exact .inr ⟨_, h⟩
        · exact .inl h
      · rw [upF_other N hk] at hb
        exact .inr ⟨k, hb⟩
  have hv : (view w U (excl G.F G.E)).le (view w U (excl (upF G.F r N) E')) := view_le (fun _ x => x) hex
  have hN := List.nodup_append.1 hs
  refine ⟨show MInv base U (put r c' m) w μ' (upF G.F r N) E' out' from ?_, ⟨hle, hex⟩⟩
  refine ⟨?_, ?_, ?_, ?_, hN.2.1, fun b hb => hg.lt b (hex b hb), hg.up, hg.bs, ?_, ?_⟩
  · intro k c hk hko
    rw [get_put] at hk
    by_cases e : k = r
    · subst e
      rw [if_pos rfl] at hk
      cases hk
      rw [upF_same]
      exact hc hv hko
    · rw [if_neg e] at hk
      rw [upF_other N e]
      exact simCell_mono hle hv (hμ k e) (fun b _ => rfl) (hg.cell k c hk (fun h => hko ((ho k e).2 h)))
  · intro k k' hne b hb hb'
    by_cases e : k = r
    · subst e
      rw [upF_same] at hb
      rw [upF_other N (Ne.symm hne)] at hb'
      rcases hsub b (by simp [hb]) with h | h
      · exact hg.dj _ _ hne b h hb'
      · exact hg.djE _ b hb' h
    · rw [upF_other N e] at hb
      by_cases e' : k' = r
      · subst e'
        rw [upF_same] at hb'
        rcases hsub b (by simp [hb']) with h | h
        · exact hg.dj _ _ hne b hb h
        · exact hg.djE _ b hb h
      · rw [upF_other N e'] at hb'
        exact hg.dj _ _ hne b hb hb'
  · intro k b hb hE
    by_cases e : k = r
    · subst e
      rw [upF_same] at hb
      exact hN.2.2 b hb b hE rfl
    · rw [upF_other N e] at hb
      rcases hsub b (by simp [hE]) with h | h
      · exact hg.dj _ _ e b hb h
      · exact hg.djE _ b hb h
  · intro k
    by_cases e : k = r
    · subst e
      rw [upF_same]
      exact hN.1
    · rw [upF_other N e]
      exact hg.nd k
  · intro k hk
    rw [get_put] at hk
    by_cases e : k = r
    · rw [if_pos e] at hk; cases hk
    · rw [if_neg e] at hk
      rw [upF_other N e]
      exact hg.none_ k hk
  · intro k hk
    by_cases e : k = r
    · subst e
      rw [upF_same]
      exact hr hk
    · rw [upF_other N e]
      exact hg.out_ k ((ho k e).1 hk)
theorem Gok.less (hg : Gok base U w m G) (E' : List Nat) (hn : E'.Nodup) (hs : ∀ b, b ∈ E' → b ∈ G.E) :
    Gok base U w m { G with E := E' } ∧ GLe m G m { G with E := E' } := by
  have hex : ∀ b, excl G.F E' b → excl G.F G.E b := by
    rintro b (hb | hb)
    · exact .inl (hs b hb)
    · exact .inr hb
  have hv : (view w U (excl G.F G.E)).le (view w U (excl G.F E')) := view_le (fun _ x => x) hex
  refine ⟨⟨?_, hg.dj, fun r b hb hE => hg.djE r b hb (hs b hE), hg.nd, hn, fun b hb => hg.lt b (hex b hb), hg.up, hg.bs, hg.none_, hg.out_⟩, ⟨memLe_refl _ _, hex⟩⟩
  intro r c hc ho
  exact simCell_mono (memLe_refl _ _) hv rfl (fun _ _ => rfl) (hg.cell r c hc ho)
theorem memLe_put {μ μ' : Nat → Value} {r : Nat} {c' : Cell} (hμ : ∀ k, k ≠ r → μ' k = μ k) (h : ∀ c, get r m = some c → cellLe μ μ' r c c') : memLe μ m μ' (put r c' m) := by
  intro k c hk
  by_cases e : k = r
  · subst e
    exact ⟨c', get_put_same _ _ _, h c hk⟩
  · refine ⟨c, by rw [get_put_other e]; exact hk, ?_⟩
    cases c <;> simp [cellLe, hμ k e]
theorem full_cell {b : Nat} {cs : Array Value} {t : TypeId} {fr : Nat × Nat} (h : heapOf w b = some (.cells cs t fr)) (o : Nat) : full w b o = cs.toList[o]? := by
  simp only [full, World.cell?]
  unfold heapOf at h
  simp [h]
end
theorem seenRow_at {h : View} {b : Nat} : ∀ (r : Row) (o : Nat) (cs : List Value), (∀ j v, cs[j]? = some v → h b (o + j) = some v) → seenRow h r cs → roRow h r b o
  | [], _, _, _, _ => by simp [roRow]
  | x :: r, o, cs, hc, ⟨v, cs', e, h1, h2⟩ => by
    subst e
    simp only [roRow]
    refine ⟨⟨v, hc 0 v rfl, h1⟩, seenRow_at r (o + 1) cs' (fun j u hj => ?_) h2⟩
    have := hc (j + 1) u (by simpa using hj)
    rw [show o + 1 + j = o + (j + 1) from by omega]
    exact this
theorem seenRows_at {h : View} {b s : Nat} : ∀ (rs : List Row) (o : Nat) (cs : List Value), (∀ j v, cs[j]? = some v → h b (o + j) = some v) → seenRows h s rs cs → roRows h s rs b o
  | [], _, _, _, _ => by simp [roRows]
  | r :: rs, o, cs, hc, ⟨h1, h2, h3⟩ => by
    simp only [roRows]
    refine ⟨h1, seenRow_at r o cs hc h2, seenRows_at rs (o + s) (cs.drop s) (fun j u hj => ?_) h3⟩
    rw [List.getElem?_drop] at hj
    rw [show o + s + j = o + (s + j) from by omega]
    exact hc _ _ hj
def Sees (h : View) (H : Heap) (N : List Nat) : Prop := ∀ b, b ∈ N → ∀ cs t fr, H b = some (.cells cs t fr) → ∀ (o : Nat) v, cs.toList[o]? = some v → h b o = some v
theorem Sees.sub {h : View} {H : Heap} {N N' : List Nat} (q : Sees h H N) (hs : ∀ b, b ∈ N' → b ∈ N) : Sees h H N' := fun b hb => q b (hs b hb)
mutual
theorem ow_ro {H : Heap} {h h' : View} (hl : h.le h') : ∀ (x : D) (v : Value) (N : List Nat), Sees h' H N → ow H h x v N → ro h' x v
  | .int _ _, _, _, _, q => by simp only [ow] at q; simpa [ro] using q.1
  | .bool _, _, _, _, q => by simp only [ow] at q; simpa [ro] using q.1
  | .str _, _, _, _, q => by simp only [ow] at q; simpa [ro] using q.1
  | .nilf, _, _, _, q => by simp only [ow] at q; simpa [ro] using q.1
  | .sl false s rows, v, N, _, q => by
    simp only [ow] at q
    have := ro_mono hl _ _ q.2
    simpa [ro] using this
  | .sl true s rows, v, N, hs, q => by
    simp only [ow] at q
    simp only [ro]
    rcases q with ⟨rfl, rfl, rfl⟩ | ⟨b, cap, cs, t, N', h1, h2, h3, h4, h5, rfl⟩
    · exact ⟨none, 0, by simp, by simp, fun e => absurd rfl e⟩
    · refine ⟨_, cap, h1, h2, fun _ => ⟨b, 0, rfl, ?_⟩⟩
      refine seenRows_at rows 0 cs.toList (fun j v hj => by rw [Nat.zero_add]; exact hs b (by simp) cs t _ h3 j v hj) ?_
      exact owRows_seen hl s rows cs.toList N' (hs.sub (by simp; exact fun _ hb => .inr hb)) h5
theorem owRows_seen {H : Heap} {h h' : View} (hl : h.le h') (s : Nat) : ∀ (rows : List Row) (cs : List Value) (N : List Nat), Sees h' H N → owRows H h s rows cs N → seenRows h' s rows cs
  | [], _, _, _, _ => by simp [seenRows]
  | r :: rs, cs, N, hs, q => by
    simp only [owRows] at q
    obtain ⟨h1, N1, N2, rfl, h2, h3⟩ := q
    simp only [seenRows]
    exact ⟨h1, owRow_seen hl r cs N1 (hs.sub (by simp; exact fun _ hb => .inl hb)) h2, owRows_seen hl s rs _ N2 (hs.sub (by simp; exact fun _ hb => .inr hb)) h3⟩
theorem owRow_seen {H : Heap} {h h' : View} (hl : h.le h') : ∀ (r : Row) (cs : List Value) (N : List Nat), Sees h' H N → owRow H h r cs N → seenRow h' r cs
  | [], _, _, _, _ => by simp [seenRow]
  | x :: r, cs, N, hs, q => by
    simp only [owRow] at q
    obtain ⟨v, cs', N1, N2, rfl, rfl, h1, h2⟩ := q
    simp only [seenRow]
    exact ⟨v, cs', rfl, ow_ro hl x v N1 (hs.sub (by simp; exact fun _ hb => .inl hb)) h1, owRow_seen hl r cs' N2 (hs.sub (by simp; exact fun _ hb => .inr hb)) h2⟩
end
theorem arrS_ro {H : Heap} {h h' : View} (hl : h.le h') {fl : Bool} {s : Nat} {rows : List Row} {v : Value} {N : List Nat} (hs : Sees h' H N) (q : arrS H h fl s rows v N) (o : Bool) : ro h' (.sl o s rows) v := by
  simp only [ro]
  rcases q with ⟨rfl, rfl, rfl⟩ | ⟨b, cap, cs, t, N', h1, h2, h3, h4, h5, rfl⟩
  · exact ⟨none, 0, by simp, by simp, fun e => absurd rfl e⟩
  · refine ⟨_, cap, h1, h2, fun _ => ⟨b, 0, rfl, ?_⟩⟩
    refine seenRows_at rows 0 cs.toList (fun j v hj => by rw [Nat.zero_add]; exact hs b (by simp) cs t _ h3 j v hj) ?_
    cases fl with
    | true => exact seenRows_mono hl s rows _ h5.1
    | false => exact owRows_seen hl s rows cs.toList N' (hs.sub (by simp; exact fun _ hb => .inr hb)) h5
theorem ro_own {h : View} {o o' : Bool} {s : Nat} {rows : List Row} {v : Value} (q : ro h (.sl o s rows) v) : ro h (.sl o' s rows) v := by simpa [ro] using q
theorem sees_full {w : World} {N : List Nat} : Sees (full w) (heapOf w) N := by
  intro b _ cs t fr hb o v hv
  rw [full_cell hb, hv]
theorem sees_view {w : World} {U X : Nat → Prop} {N : List Nat} (hU : ∀ b, b ∈ N → U b ∧ ¬ X b) : Sees (view w U X) (heapOf w) N := by
  intro b hm cs t fr hb o v hv
  unfold view
  rw [if_pos (hU b hm)]
  have := full_cell hb o
  rw [hv] at this
  exact this
mutual
theorem ro_fz {h : View} : ∀ (x : D) (v : Value), ro h x v → ro h x.fz v
  | .int _ _, _, q => by simpa [D.fz] using q
  | .bool _, _, q => by simpa [D.fz] using q
  | .str _, _, q => by simpa [D.fz] using q
  | .nilf, _, q => by simpa [D.fz] using q
  | .sl own s rows, v, q => by
    simp only [D.fz, ro] at q ⊢
    obtain ⟨a, cap, h1, h2, h3⟩ := q
    have hlen : (fzRows rows).length = rows.length := fzRows_length rows
    refine ⟨a, cap, by rw [hlen]; exact h1, by rw [hlen]; exact h2, fun hn => ?_⟩
    have hn' : rows ≠ [] := by intro e; subst e; exact hn rfl
    obtain ⟨b, o, h4, h5⟩ := h3 hn'
    exact ⟨b, o, h4, roRows_fz s rows b o h5⟩
theorem fzRows_length : ∀ rows : List Row, (fzRows rows).length = rows.length
  | [] => rfl
  | r :: rs => by simp [fzRows, fzRows_length rs]
theorem fzRow_length : ∀ r : Row, (fzRow r).length = r.length
  | [] => rfl
  | x :: r => by simp [fzRow, fzRow_length r]
theorem roRows_fz {h : View} (s : Nat) : ∀ (rows : List Row) (b o : Nat), roRows h s rows b o → roRows h s (fzRows rows) b o
  | [], _, _, _ => by simp [fzRows, roRows]
  | r :: rs, b, o, q => by
    simp only [fzRows, roRows] at q ⊢
    exact ⟨by rw [fzRow_length]; exact q.1, roRow_fz r b o q.2.1, roRows_fz s rs b (o + s) q.2.2⟩
theorem roRow_fz {h : View} : ∀ (r : Row) (b o : Nat), roRow h r b o → roRow h (fzRow r) b o
  | [], _, _, _ => by simp [fzRow, roRow]
  | x :: r, b, o, q => by
    simp only [fzRow, roRow] at q ⊢
    obtain ⟨⟨v, h1, h2⟩, h3⟩ := q
    exact ⟨⟨v, h1, ro_fz x v h2⟩, roRow_fz r b (o + 1) h3⟩
end
theorem ro_vw {h : View} {fl : Bool} {o : Bool} {s : Nat} {rows : List Row} {v : Value} (q : ro h (.sl o s rows) v) : ro h (.sl false s (vw fl rows)) v := by
  unfold vw
  cases fl with
  | true => exact ro_own q
  | false => simpa [D.fz] using ro_fz _ _ q
theorem ro_roD {h : View} {x : D} {v : Value} (q : ro h x v) : ro h (roD x) v := by
  cases x <;> simpa [roD, ro] using q
theorem ow_roD {H : Heap} {h : View} {x : D} {v : Value} (q : ro h x v) : ow H h (roD x) v [] := by
  cases x <;> simp [roD, ow, ro] at q ⊢ <;> exact q
theorem ow_flat {H : Heap} {h : View} {x : D} {v : Value} (hf : x.flat = true) (q : ro h x v) : ow H h x v [] := by
  cases x <;> simp [D.flat, ow, ro] at hf q ⊢ <;> exact q
theorem owRow_flat {H : Heap} {h : View} : ∀ (r : Row) (cs : List Value), (r.all D.flat) = true → seenRow h r cs → owRow H h r cs []
  | [], _, _, _ => by simp [owRow]
  | x :: r, cs, hf, ⟨v, cs', e, h1, h2⟩ => by
    simp only [List.all_cons, Bool.and_eq_true] at hf
    simp only [owRow]
    exact ⟨v, cs', [], [], e, rfl, ow_flat hf.1 h1, owRow_flat r cs' hf.2 h2⟩
theorem owRows_flat {H : Heap} {h : View} (s : Nat) : ∀ (rs : List Row) (cs : List Value), flatRows rs = true → seenRows h s rs cs → owRows H h s rs cs []
  | [], _, _, _ => by simp [owRows]
  | r :: rs, cs, hf, ⟨h1, h2, h3⟩ => by
    simp only [flatRows, List.all_cons, Bool.and_eq_true] at hf
    simp only [owRows]
    exact ⟨h1, [], [], rfl, owRow_flat r cs hf.1 h2, owRows_flat s rs _ hf.2 h3⟩
theorem arrS_ow {H : Heap} {h : View} {fl : Bool} {s : Nat} {rows : List Row} {v : Value} {N : List Nat} (ho : outOk fl rows = true) (q : arrS H h fl s rows v N) : ow H h (.sl true s rows) v N := by
  simp only [ow]
  rcases q with q | ⟨b, cap, cs, t, N', h1, h2, h3, h4, h5, rfl⟩
  · exact .inl q
  · refine .inr ⟨b, cap, cs, t, N', h1, h2, h3, h4, ?_, rfl⟩
    cases fl with
    | true =>
      obtain ⟨h5, rfl⟩ := h5
      exact owRows_flat s rows _ (by simpa [outOk] using ho) h5
    | false => exact h5
theorem ow_arrS {H : Heap} {h : View} {s : Nat} {rows : List Row} {v : Value} {N : List Nat} (q : ow H h (.sl true s rows) v N) : arrS H h false s rows v N := by
  simpa [ow, arrS] using q
theorem ow_arrS_fl {H : Heap} {h : View} {s : Nat} {rows : List Row} {v : Value} {N : List Nat} (q : ow H h (.sl true s rows) v N) :
    ∃ N1 N2, N = N1 ++ N2 ∧ ∀ h', h.le h' → Sees h' H N2 → arrS H h' true s rows v N1 := by
  simp only [ow] at q
  rcases q with ⟨rfl, rfl, rfl⟩ | ⟨b, cap, cs, t, N', h1, h2, h3, h4, h5, rfl⟩
  · exact ⟨[], [], rfl, fun _ _ _ => .inl ⟨rfl, rfl, rfl⟩⟩
  · exact ⟨[b], N', rfl, fun h' hl hs => .inr ⟨b, cap, cs, t, [], h1, h2, h3, h4, ⟨owRows_seen hl s rows _ N' hs h5, rfl⟩, rfl⟩⟩
end Go.Vm

namespace Go.Vm
open Go
section
variable {base : Nat} {U : Nat → Prop} {w : World} {m : Mem} {G : GS}
theorem Gok.kill (hg : Gok base U w m G) {r : Nat} {fl : Bool} {ver s : Nat} {rows : List Row} (hc : get r m = some (.arr false fl ver s rows)) (hro : r ∉ G.out) :
    Gok base U w (put r .dead m) ⟨G.μ, upF G.F r [], G.E ++ G.F r, G.out⟩ ∧ GLe m G (put r .dead m) ⟨G.μ, upF G.F r [], G.E ++ G.F r, G.out⟩ ∧
      arrS (heapOf w) (Gh U w G) fl s rows (G.μ r) (G.F r) := by
  have h1 := hg.set r .dead G.μ [] (G.E ++ G.F r) G.out
    (by simpa using List.nodup_append.2 ⟨hg.ndE, hg.nd r, fun a ha b hb e => hg.djE r b hb (e ▸ ha)⟩)
    (by simp; exact fun b hb => hb.symm) (memLe_put (fun _ _ => rfl) (fun c h => by rw [hc] at h; cases h; trivial)) (fun _ _ => rfl) (fun _ _ => Iff.rfl) (fun _ => rfl) (fun _ _ => rfl)
  exact ⟨h1.1, h1.2, hg.cell r _ hc hro⟩
theorem Gok.freeze (hg : Gok base U w m G) {r : Nat} {fz fl : Bool} {ver s : Nat} {rows : List Row} (hc : get r m = some (.arr fz fl ver s rows)) (hro : r ∉ G.out) :
    Gok base U w (put r (.arr true fl ver s rows) m) ⟨G.μ, upF G.F r [], G.E, G.out⟩ ∧ GLe m G (put r (.arr true fl ver s rows) m) ⟨G.μ, upF G.F r [], G.E, G.out⟩ ∧
      ro (Gh U w ⟨G.μ, upF G.F r [], G.E, G.out⟩) (.sl true s rows) (G.μ r) := by
  have hle : memLe G.μ m G.μ (put r (.arr true fl ver s rows) m) := memLe_put (fun _ _ => rfl) (fun c h => by rw [hc] at h; cases h; exact ⟨Nat.le_refl _, rfl, fun _ => ⟨rfl, rfl⟩⟩)
  have hro' : (view w U (excl G.F G.E)).le (view w U (excl (upF G.F r []) G.E)) → ro (view w U (excl (upF G.F r []) G.E)) (.sl true s rows) (G.μ r) := by
    intro hv
    have hq := hg.cell r _ hc hro
    cases fz with
    | true => exact ro_mono hv _ _ hq.1
    | false =>
      refine arrS_ro hv (sees_view fun b hb => ⟨(hg.lt b (.inr ⟨r, hb⟩)).2.2, ?_⟩) hq true
      rintro (hE | ⟨k, hk⟩)
      · exact hg.djE r b hb hE
      · by_cases e : k = r
        · subst e; simp at hk
        · rw [upF_other _ e] at hk; exact hg.dj r k (Ne.symm e) b hb hk
  have h1 := hg.set r (.arr true fl ver s rows) G.μ [] G.E G.out (by simpa using hg.ndE) (by simp; exact fun b hb => .inr hb) hle (fun _ _ => rfl) (fun _ _ => Iff.rfl) (fun _ => rfl)
    (fun hv _ => ⟨hro' hv, rfl⟩)
  exact ⟨h1.1, h1.2, hro' h1.2.view⟩
theorem Gok.newArr (hg : Gok base U w m G) {k : Nat} (fl : Bool) {s : Nat} {rows : List Row} {g : Value} {N E : List Nat} (hn : get k m = none) (hk : k ∉ G.out) (hE : (N ++ E).Perm G.E)
    (hq : ow (heapOf w) (Gh U w G) (.sl true s rows) g N) :
    ∃ F', Gok base U w (put k (.arr false fl 0 s rows) m) ⟨upM G.μ k g, F', E, G.out⟩ ∧ GLe m G (put k (.arr false fl 0 s rows) m) ⟨upM G.μ k g, F', E, G.out⟩ := by
  have hnd := hE.nodup_iff.2 hg.ndE
  have hmem : ∀ b, b ∈ N ++ E → b ∈ G.E := fun b hb => hE.mem_iff.1 hb
  have hμ : ∀ j, j ≠ k → upM G.μ k g j = G.μ j := fun j e => upM_other g e
  have hle : ∀ c', memLe G.μ m (upM G.μ k g) (put k c' m) := fun c' => memLe_put hμ (fun c h => by rw [hn] at h; cases h)
  cases fl with
  | false =>
    refine ⟨_, hg.set k (.arr false false 0 s rows) (upM G.μ k g) N E G.out hnd (fun b hb => .inr (hmem b hb)) (hle _) hμ (fun _ _ => Iff.rfl) (fun h => absurd h hk) (fun hv _ => ?_)⟩
    simp only [simCell, upM_same]
    exact arrS_mono hv (fun _ _ => rfl) (ow_arrS hq)
  | true =>
    obtain ⟨N1, N2, rfl, h2⟩ := ow_arrS_fl hq
    have hnd' : (N1 ++ E).Nodup := by
      rw [List.append_assoc] at hnd
      have := List.nodup_append.1 hnd
      exact List.nodup_append.2 ⟨this.1, (List.nodup_append.1 this.2.1).2.1, fun a ha b hb => this.2.2 a ha b (by simp [hb])⟩
    refine ⟨_, hg.set k (.arr false true 0 s rows) (upM G.μ k g) N1 E G.out hnd' (fun b hb => .inr (hmem b (by simp at hb ⊢; rcases hb with h | h <;> simp [h]))) (hle _) hμ (fun _ _ => Iff.rfl) (fun h => absurd h hk) (fun hv _ => ?_)⟩
    simp only [simCell, upM_same]
    refine h2 _ hv (sees_view fun b hb => ⟨(hg.lt b (.inl (hmem b (by simp [hb])))).2.2, ?_⟩)
    rw [List.append_assoc] at hnd
    have hd := List.nodup_append.1 hnd
    have hd2 := List.nodup_append.1 hd.2.1
    rintro (hE' | ⟨j, hj⟩)
    · exact hd2.2.2 b hb b hE' rfl
    · by_cases e : j = k
      · subst e; rw [upF_same] at hj; exact hd.2.2 b hj b (by simp [hb]) rfl
      · rw [upF_other _ e] at hj; exact hg.djE j b hj (hmem b (by simp [hb]))
structure Took (base : Nat) (U : Nat → Prop) (w : World) (m : Mem) (G : GS) (m' : Mem) (G' : GS) (N : List Nat) : Prop where
  ok : Gok base U w m' G'
  le : GLe m G m' G'
  E : G'.E = G.E ++ N
  out : G'.out = G.out
  μ : G'.μ = G.μ
theorem Took.same (hg : Gok base U w m G) : Took base U w m G m G [] := ⟨hg, GLe.refl _ _, by simp, rfl, rfl⟩
theorem Took.trans {m1 m2 m3 : Mem} {G1 G2 G3 : GS} {N N' : List Nat} (a : Took base U w m1 G1 m2 G2 N) (b : Took base U w m2 G2 m3 G3 N') : Took base U w m1 G1 m3 G3 (N ++ N') :=
  ⟨b.ok, a.le.trans b.le, by rw [b.E, a.E, List.append_assoc], b.out.trans a.out, b.μ.trans a.μ⟩
theorem ow_keep {H : Heap} {h h' : View} (hl : h.le h') {x : D} {v : Value} {N : List Nat} (q : ow H h x v N) : ow H h' x v N := ow_mono hl x v N (fun _ _ => rfl) q
theorem toD_ok (hg : Gok base U w m G) {v : V} {g : Value} (hv : simV G.μ m (Gh U w G) v g) (ho : G.out = []) {x : D} {m' : Mem} {l l' : Log} (h : (toD v).run m l = some (x, m', l')) :
    ∃ G' N, Took base U w m G m' G' N ∧ ow (heapOf w) (Gh U w G') x g N := by
  cases v with
  | d y =>
    simp only [toD, run_pure, Option.some.injEq, Prod.mk.injEq] at h
    obtain ⟨rfl, rfl, rfl⟩ := h
    exact ⟨G, [], Took.same hg, ow_roD (by simpa [simV] using hv)⟩
  | nil s =>
    simp only [toD, run_pure, Option.some.injEq, Prod.mk.injEq] at h
    obtain ⟨rfl, rfl, rfl⟩ := h
    refine ⟨G, [], Took.same hg, ?_⟩
    simp only [simV] at hv
    simp [ow, hv]
  | own r ver =>
    simp only [toD] at h
    replace h := run_bind_some h; obtain ⟨c, m1, l1, h1, h⟩ := h
    rw [run_rd] at h1
    cases h1
    cases hc : get r m with
    | none => rw [hc] at h; exact (run_fail h).elim
    | some c =>
      rw [hc] at h
      cases c with
      | box _ _ => exact (run_fail h).elim
      | dead => exact (run_fail h).elim
      | que _ _ _ => exact (run_fail h).elim
      | kbox _ _ => exact (run_fail h).elim
      | loan _ _ _ _ _ => exact (run_fail h).elim
      | arr fz fl ver' s rows =>
        simp only at h
        replace h := run_bind_some h; obtain ⟨_, m2, l2, h1, h⟩ := h
        obtain ⟨hb, rfl, rfl⟩ := run_ck h1
        have hb := Nat.eq_of_beq_eq_true hb
        subst hb
        simp only [simV, hc] at hv
        have hv := hv.2.2 trivial
        subst hv
        have hro : r ∉ G.out := by simp [ho]
        cases fz with
        | true =>
          simp only [run_pure, Option.some.injEq, Prod.mk.injEq] at h
          obtain ⟨rfl, rfl, rfl⟩ := h
          refine ⟨G, [], Took.same hg, ?_⟩
          have hq := (hg.cell r _ hc hro).1
          simp only [ow, true_and]
          exact ro_vw hq
        | false =>
          simp only at h
          replace h := run_bind_some h; obtain ⟨_, m2, l2, h1, h⟩ := h
          obtain ⟨hok, rfl, rfl⟩ := run_ck h1
          replace h := run_bind_some h; obtain ⟨_, m3, l3, h1, h⟩ := h
          rw [run_wr] at h1
          cases h1
          simp only [run_pure, Option.some.injEq, Prod.mk.injEq] at h
          obtain ⟨rfl, rfl, rfl⟩ := h
          obtain ⟨k1, k2, k3⟩ := hg.kill hc hro
          exact ⟨_, G.F r, ⟨k1, k2, rfl, rfl, rfl⟩, ow_keep k2.view (arrS_ow hok k3)⟩
  | ptr _ _ => exact (run_fail h).elim
  | eptr _ _ _ _ => exact (run_fail h).elim
  | rptr _ _ => exact (run_fail h).elim
  | kptr _ => exact (run_fail h).elim
  | clo _ _ _ => exact (run_fail h).elim
  | agg _ => exact (run_fail h).elim
  | tup _ => exact (run_fail h).elim
  | undef => exact (run_fail h).elim
theorem simVs_cons {μ : Nat → Value} {h : View} {v : V} {vs : List V} {gs : List Value} (q : simVs μ m h (v :: vs) gs) : ∃ g gs', gs = g :: gs' ∧ simV μ m h v g ∧ simVs μ m h vs gs' := by
  simpa [simVs] using q
theorem simVs_length {μ : Nat → Value} {h : View} : ∀ {vs : List V} {gs : List Value}, simVs μ m h vs gs → gs.length = vs.length
  | [], gs, q => by simp [simVs] at q; simp [q]
  | v :: vs, gs, q => by
    obtain ⟨g, gs', rfl, _, h3⟩ := simVs_cons q
    simp [simVs_length h3]
theorem owRow_keep {H : Heap} {h h' : View} (hl : h.le h') {x : Row} {v : List Value} {N : List Nat} (q : owRow H h x v N) : owRow H h' x v N := owRow_mono hl x v N (fun _ _ => rfl) q
theorem owRows_keep {H : Heap} {h h' : View} (hl : h.le h') {s : Nat} {x : List Row} {v : List Value} {N : List Nat} (q : owRows H h s x v N) : owRows H h' s x v N := owRows_mono hl s x v N (fun _ _ => rfl) q
theorem toRow_ok : ∀ {vs : List V} {gs : List Value} {m : Mem} {G : GS} (_ : Gok base U w m G) (_ : simVs G.μ m (Gh U w G) vs gs) (_ : G.out = []) {xs : Row} {m' : Mem} {l l' : Log} (_ : (toRow vs).run m l = some (xs, m', l')),
    ∃ G' N, Took base U w m G m' G' N ∧ owRow (heapOf w) (Gh U w G') xs gs N ∧ xs.length = vs.length
  | [], gs, m, G, hg, hv, ho, xs, m', l, l', h => by
    simp only [toRow, run_pure, Option.some.injEq, Prod.mk.injEq] at h
    obtain ⟨rfl, rfl, rfl⟩ := h
    exact ⟨G, [], Took.same hg, by simp [owRow], rfl⟩
  | v :: vs, gs, m, G, hg, hv, ho, xs, m', l, l', h => by
    obtain ⟨g, gs', rfl, hv1, hv2⟩ := simVs_cons hv
    simp only [toRow] at h
    replace h := run_bind_some h; obtain ⟨x, m1, l1, h1, h⟩ := h
    replace h := run_bind_some h; obtain ⟨ys, m2, l2, h2, h⟩ := h
    simp only [run_pure, Option.some.injEq, Prod.mk.injEq] at h
    obtain ⟨rfl, rfl, rfl⟩ := h
    obtain ⟨G1, N1, t1, q1⟩ := toD_ok hg hv1 ho h1
    obtain ⟨G2, N2, t2, q2, hlen⟩ := toRow_ok t1.ok (t1.le.simVs hv2) (t1.out.trans ho) h2
    refine ⟨G2, N1 ++ N2, t1.trans t2, ?_, by simp [hlen]⟩
    simp only [owRow]
    exact ⟨g, gs', N1, N2, rfl, rfl, ow_keep t2.le.view q1, q2⟩
end
end Go.Vm

namespace Go.Vm
open Go
section
variable {base : Nat} {U : Nat → Prop} {w : World} {m : Mem} {G : GS}
theorem Gok.look (hg : Gok base U w m G) {r : Nat} {fz fl : Bool} {ver s : Nat} {rows : List Row} (hc : get r m = some (.arr fz fl ver s rows)) (hro : r ∉ G.out) (o : Bool) : ro (full w) (.sl o s rows) (G.μ r) := by
  have hq := hg.cell r _ hc hro
  cases fz with
  | true => exact ro_own (ro_mono (view_le_full _ _ _) _ _ hq.1)
  | false => exact arrS_ro (view_le_full _ _ _) sees_full hq o
theorem seen_ok (hg : Gok base U w m G) {v : V} {g : Value} (hv : simV G.μ m (Gh U w G) v g) (ho : G.out = []) {s : Nat} {rows : List Row} {m' : Mem} {l l' : Log} (h : (seen v).run m l = some ((s, rows), m', l')) :
    m' = m ∧ ro (full w) (.sl false s rows) g := by
  cases v with
  | d y =>
    cases y with
    | sl own s' rows' =>
      simp only [seen, run_pure, Option.some.injEq, Prod.mk.injEq] at h
      obtain ⟨⟨rfl, rfl⟩, rfl, rfl⟩ := h
      simp only [simV] at hv
      exact ⟨rfl, ro_own (ro_mono (view_le_full _ _ _) _ _ hv)⟩
    | int _ _ => exact (run_fail h).elim
    | bool _ => exact (run_fail h).elim
    | str _ => exact (run_fail h).elim
    | nilf => exact (run_fail h).elim
  | nil s' =>
    simp only [seen, run_pure, Option.some.injEq, Prod.mk.injEq] at h
    obtain ⟨⟨rfl, rfl⟩, rfl, rfl⟩ := h
    simp only [simV] at hv
    exact ⟨rfl, by simp [ro, hv]⟩
  | own r ver =>
    simp only [seen] at h
    replace h := run_bind_some h; obtain ⟨c, m1, l1, h1, h⟩ := h
    rw [run_rd] at h1
    cases h1
    cases hc : get r m with
    | none => rw [hc] at h; exact (run_fail h).elim
    | some c =>
      rw [hc] at h
      cases c with
      | box _ _ => exact (run_fail h).elim
      | dead => exact (run_fail h).elim
      | que _ _ _ => exact (run_fail h).elim
      | kbox _ _ => exact (run_fail h).elim
      | loan _ _ _ _ _ => exact (run_fail h).elim
      | arr fz fl ver' s' rows' =>
        simp only at h
        replace h := run_bind_some h; obtain ⟨_, m2, l2, h1, h⟩ := h
        obtain ⟨hb, rfl, rfl⟩ := run_ck h1
        have hb := Nat.eq_of_beq_eq_true hb
        subst hb
        simp only [run_pure, Option.some.injEq, Prod.mk.injEq] at h
        obtain ⟨⟨rfl, rfl⟩, rfl, rfl⟩ := h
        simp only [simV, hc] at hv
        have hv := hv.2.2 trivial
        subst hv
        exact ⟨rfl, ro_vw (hg.look hc (by simp [ho]) true)⟩
  | ptr _ _ => exact (run_fail h).elim
  | eptr _ _ _ _ => exact (run_fail h).elim
  | rptr _ _ => exact (run_fail h).elim
  | kptr _ => exact (run_fail h).elim
  | clo _ _ _ => exact (run_fail h).elim
  | agg _ => exact (run_fail h).elim
  | tup _ => exact (run_fail h).elim
  | undef => exact (run_fail h).elim
theorem mem?_iff (k : Nat) : ∀ l : List Nat, mem? k l = true ↔ k ∈ l
  | [] => by simp [mem?]
  | j :: l => by
    simp only [mem?, List.mem_cons]
    by_cases e : k = j
    · subst e; simp
    · rw [beq_no e]; simp [e, mem?_iff k l]
theorem mem?_not {k : Nat} {l : List Nat} (h : (!(mem? k l)) = true) : k ∉ l := by
  intro hk
  rw [(mem?_iff k l).2 hk] at h
  cases h
theorem expV_ok (hg : Gok base U w m G) {v : V} {g : Value} (hv : simV G.μ m (Gh U w G) v g) {imp : List Nat} (ho : ∀ r, r ∈ G.out → r ∈ imp) {own : Bool} {v' : V} {m' : Mem} {l l' : Log} (h : (expV imp own v).run m l = some (v', m', l')) :
    ∃ G' N x, v' = .d x ∧ Took base U w m G m' G' N ∧ ow (heapOf w) (Gh U w G') x g N ∧ ∀ k, k ∈ imp → get k m' = get k m := by
  cases v with
  | d y =>
    simp only [expV, run_pure, Option.some.injEq, Prod.mk.injEq] at h
    obtain ⟨rfl, rfl, rfl⟩ := h
    exact ⟨G, [], _, rfl, Took.same hg, ow_roD (by simpa [simV] using hv), fun _ _ => rfl⟩
  | nil s =>
    simp only [expV, run_pure, Option.some.injEq, Prod.mk.injEq] at h
    obtain ⟨rfl, rfl, rfl⟩ := h
    refine ⟨G, [], _, rfl, Took.same hg, ?_, fun _ _ => rfl⟩
    simp only [simV] at hv
    cases own <;> simp [ow, ro, hv]
  | own r ver =>
    simp only [expV] at h
    replace h := run_bind_some h; obtain ⟨c, m1, l1, h1, h⟩ := h
    rw [run_rd] at h1
    cases h1
    cases hc : get r m with
    | none => rw [hc] at h; exact (run_fail h).elim
    | some c =>
      rw [hc] at h
      cases c with
      | box _ _ => exact (run_fail h).elim
      | dead => exact (run_fail h).elim
      | que _ _ _ => exact (run_fail h).elim
      | kbox _ _ => exact (run_fail h).elim
      | loan _ _ _ _ _ => exact (run_fail h).elim
      | arr fz fl ver' s rows =>
        simp only at h
        replace h := run_bind_some h; obtain ⟨_, m2, l2, h1, h⟩ := h
        obtain ⟨hb, rfl, rfl⟩ := run_ck h1
        have hb := Nat.eq_of_beq_eq_true hb
        subst hb
        replace h := run_bind_some h; obtain ⟨_, m2, l2, h1, h⟩ := h
        obtain ⟨hi, rfl, rfl⟩ := run_ck h1
        simp only [simV, hc] at hv
        have hv := hv.2.2 trivial
        subst hv
        have hro : r ∉ G.out := fun hr => mem?_not hi (ho r hr)
        have hni : ∀ k, k ∈ imp → k ≠ r := fun k hk e => mem?_not hi (e ▸ hk)
        cases own with
        | false =>
          simp only at h
          replace h := run_bind_some h; obtain ⟨_, m3, l3, h1, h⟩ := h
          rw [run_wr] at h1
          cases h1
          simp only [run_pure, Option.some.injEq, Prod.mk.injEq] at h
          obtain ⟨rfl, rfl, rfl⟩ := h
          obtain ⟨k1, k2, k3⟩ := hg.freeze hc hro
          refine ⟨_, [], _, rfl, ⟨k1, k2, by simp, rfl, rfl⟩, ?_, fun k hk => get_put_other (hni k hk) _ _⟩
          simp only [ow, true_and]
          exact ro_vw k3
        | true =>
          simp only at h
          replace h := run_bind_some h; obtain ⟨_, m2, l2, h1, h⟩ := h
          obtain ⟨hfz, rfl, rfl⟩ := run_ck h1
          replace h := run_bind_some h; obtain ⟨_, m2, l2, h1, h⟩ := h
          obtain ⟨hok, rfl, rfl⟩ := run_ck h1
          have hfz : fz = false := by simpa using hfz
          subst hfz
          replace h := run_bind_some h; obtain ⟨_, m3, l3, h1, h⟩ := h
          rw [run_wr] at h1
          cases h1
          simp only [run_pure, Option.some.injEq, Prod.mk.injEq] at h
          obtain ⟨rfl, rfl, rfl⟩ := h
          obtain ⟨k1, k2, k3⟩ := hg.kill hc hro
          exact ⟨_, G.F r, _, rfl, ⟨k1, k2, rfl, rfl, rfl⟩, ow_keep k2.view (arrS_ow hok k3), fun k hk => get_put_other (hni k hk) _ _⟩
  | ptr _ _ => exact (run_fail h).elim
  | eptr _ _ _ _ => exact (run_fail h).elim
  | rptr _ _ => exact (run_fail h).elim
  | kptr _ => exact (run_fail h).elim
  | clo _ _ _ => exact (run_fail h).elim
  | agg _ => exact (run_fail h).elim
  | tup _ => exact (run_fail h).elim
  | undef => exact (run_fail h).elim
theorem expCells_ok {imp own : List Nat} : ∀ {vs : List V} {gs : List Value} {m : Mem} {G : GS} {j : Nat} (_ : Gok base U w m G) (_ : simVs G.μ m (Gh U w G) vs gs) (_ : ∀ r, r ∈ G.out → r ∈ imp) {vs' : List V} {m' : Mem} {l l' : Log}
    (_ : (expCells imp own j vs).run m l = some (vs', m', l')), ∃ G' N xs, vs' = xs.map V.d ∧ xs.length = gs.length ∧ Took base U w m G m' G' N ∧ owRow (heapOf w) (Gh U w G') xs gs N ∧ ∀ k, k ∈ imp → get k m' = get k m
  | [], gs, m, G, j, hg, hv, ho, vs', m', l, l', h => by
    simp only [expCells, run_pure, Option.some.injEq, Prod.mk.injEq] at h
    obtain ⟨rfl, rfl, rfl⟩ := h
    simp only [simVs] at hv
    subst hv
    exact ⟨G, [], [], rfl, rfl, Took.same hg, by simp [owRow], fun _ _ => rfl⟩
  | v :: vs, gs, m, G, j, hg, hv, ho, vs', m', l, l', h => by
    obtain ⟨g, gs', rfl, hv1, hv2⟩ := simVs_cons hv
    simp only [expCells] at h
    replace h := run_bind_some h; obtain ⟨x, m1, l1, h1, h⟩ := h
    replace h := run_bind_some h; obtain ⟨ys, m2, l2, h2, h⟩ := h
    simp only [run_pure, Option.some.injEq, Prod.mk.injEq] at h
    obtain ⟨rfl, rfl, rfl⟩ := h
    obtain ⟨G1, N1, x1, rfl, t1, q1, i1⟩ := expV_ok hg hv1 ho h1
    obtain ⟨G2, N2, xs, rfl, hlen, t2, q2, i2⟩ := expCells_ok t1.ok (t1.le.simVs hv2) (fun r hr => ho r (t1.out ▸ hr)) h2
    refine ⟨G2, N1 ++ N2, x1 :: xs, rfl, by simp [hlen], t1.trans t2, ?_, fun k hk => (i2 k hk).trans (i1 k hk)⟩
    simp only [owRow]
    exact ⟨g, gs', N1, N2, rfl, rfl, ow_keep t2.le.view q1, q2⟩
def cellB (H : Heap) (h : View) : Cell → Value → List Nat → Prop
  | .box t vs, g, N => ∃ b a xs N', g = .pointer (some ⟨b, 0, none⟩) ∧ H b = some (.cells a t (0, 0)) ∧ vs = xs.map V.d ∧ xs.length = a.toList.length ∧ owRow H h xs a.toList N' ∧ N = b :: N'
  | .arr fz fl ver s rows, g, N => fz = false ∧ ver = 0 ∧ arrS H h fl s rows g N
  | .dead, _, _ => False
  | .que .., _, _ => False
  | .kbox .., _, _ => False
  | .loan .., _, _ => False
def cellsB (H : Heap) (h : View) : List Cell → List Value → List Nat → Prop
  | [], gs, N => gs = [] ∧ N = []
  | c :: cs, gs, N => ∃ g gs' N1 N2, gs = g :: gs' ∧ N = N1 ++ N2 ∧ cellB H h c g N1 ∧ cellsB H h cs gs' N2
theorem cellB_mono {H H' : Heap} {h h' : View} (hl : h.le h') {c : Cell} {g : Value} {N : List Nat} (hb : ∀ b, b ∈ N → H' b = H b) (q : cellB H h c g N) : cellB H' h' c g N := by
  cases c with
  | box t vs =>
    obtain ⟨b, a, xs, N', h1, h2, h3, h4, h5, rfl⟩ := q
    exact ⟨b, a, xs, N', h1, by rw [hb b (by simp)]; exact h2, h3, h4, owRow_mono hl _ _ _ (fun b' hb' => hb b' (by simp [hb'])) h5, rfl⟩
  | arr fz fl ver s rows => exact ⟨q.1, q.2.1, arrS_mono hl hb q.2.2⟩
  | dead => exact q
  | que _ _ _ => exact q
  | kbox _ _ => exact q
  | loan _ _ _ _ _ => exact q
theorem cellsB_mono {H H' : Heap} {h h' : View} (hl : h.le h') : ∀ {cs : List Cell} {gs : List Value} {N : List Nat}, (∀ b, b ∈ N → H' b = H b) → cellsB H h cs gs N → cellsB H' h' cs gs N
  | [], _, _, _, q => q
  | c :: cs, _, _, hb, ⟨g, gs', N1, N2, h1, h2, h3, h4⟩ => by
    subst h2
    exact ⟨g, gs', N1, N2, h1, rfl, cellB_mono hl (fun b hx => hb b (by simp [hx])) h3, cellsB_mono hl (fun b hx => hb b (by simp [hx])) h4⟩
theorem Gok.goOut (hg : Gok base U w m G) {r : Nat} {c : Cell} (hc : get r m = some c) (hro : r ∉ G.out) :
    Gok base U w m ⟨G.μ, upF G.F r [], G.E ++ G.F r, r :: G.out⟩ ∧ GLe m G m ⟨G.μ, upF G.F r [], G.E ++ G.F r, r :: G.out⟩ := by
  have hex : ∀ b, excl (upF G.F r []) (G.E ++ G.F r) b → excl G.F G.E b := by
    rintro b (hb | ⟨k, hb⟩)
    · simp only [List.mem_append] at hb
      rcases hb with h | h
      · exact .inl h
      · exact .inr ⟨r, h⟩
    · by_cases e : k = r
      · subst e; simp at hb
      · rw [upF_other _ e] at hb; exact .inr ⟨k, hb⟩
  have hv : (view w U (excl G.F G.E)).le (view w U (excl (upF G.F r []) (G.E ++ G.F r))) := view_le (fun _ x => x) hex
  refine ⟨show MInv base U m w G.μ (upF G.F r []) (G.E ++ G.F r) (r :: G.out) from ?_, ⟨memLe_refl _ _, hex⟩⟩
  refine ⟨?_, ?_, ?_, ?_, List.nodup_append.2 ⟨hg.ndE, hg.nd r, fun a ha b hb e => hg.djE r b hb (e ▸ ha)⟩, fun b hb => hg.lt b (hex b hb), hg.up, hg.bs, ?_, ?_⟩
  · intro k c hk hko
    simp only [List.mem_cons, not_or] at hko
    rw [upF_other _ hko.1]
    exact simCell_mono (memLe_refl _ _) hv rfl (fun _ _ => rfl) (hg.cell k c hk hko.2)
  · intro k k' hne b hb hb'
    by_cases e : k = r
    · subst e; simp at hb
    · rw [upF_other _ e] at hb
      by_cases e' : k' = r
      · subst e'; simp at hb'
      · rw [upF_other _ e'] at hb'; exact hg.dj _ _ hne b hb hb'
  · intro k b hb hE
    by_cases e : k = r
    · subst e; simp at hb
    · rw [upF_other _ e] at hb
      simp only [List.mem_append] at hE
      rcases hE with h | h
      · exact hg.djE _ b hb h
      · exact hg.dj _ _ e b hb h
  · intro k
    by_cases e : k = r
    · subst e; simp
    · rw [upF_other _ e]; exact hg.nd k
  · intro k hk
    by_cases e : k = r
    · subst e; simp
    · rw [upF_other _ e]; exact hg.none_ k hk
  · intro k hk
    by_cases e : k = r
    · subst e; simp
    · rw [upF_other _ e]; exact hg.out_ k (by simpa [e] using hk)
structure Out (base : Nat) (U : Nat → Prop) (w : World) (m : Mem) (G : GS) (m' : Mem) (G' : GS) (imp rs : List Nat) (N : List Nat) : Prop where
  ok : Gok base U w m' G'
  le : GLe m G m' G'
  E : G'.E = G.E ++ N
  out : ∀ r, r ∈ G'.out ↔ r ∈ G.out ∨ r ∈ rs
  μ : G'.μ = G.μ
  here : ∀ k, k ∈ imp → get k m' = get k m
def sameKind : Cell → Cell → Prop
  | .box t _, .box t' _ => t = t'
  | .arr _ fl ver s _, .arr _ fl' ver' s' _ => ver = 0 ∧ ver' = 0 ∧ fl = fl' ∧ s = s'
  | _, _ => False
def kinds (m : Mem) : List Nat → List Cell → Prop
  | [], cs => cs = []
  | r :: rs, cs => ∃ c c' cs', cs = c' :: cs' ∧ get r m = some c ∧ sameKind c c' ∧ kinds m rs cs'
theorem kinds_of {m m' : Mem} : ∀ {rs : List Nat} {cs : List Cell}, (∀ r, r ∈ rs → get r m' = get r m) → kinds m rs cs → kinds m' rs cs
  | [], _, _, q => q
  | r :: rs, _, h, ⟨c, c', cs', h1, h2, h3, h4⟩ => ⟨c, c', cs', h1, (h r (by simp)).trans h2, h3, kinds_of (fun k hk => h k (by simp [hk])) h4⟩
theorem expAll_ok {A : Adv} {imp : List Nat} : ∀ {rs : List Nat} {m : Mem} {G : GS} (_ : Gok base U w m G) (_ : rs.Nodup) (_ : ∀ r, r ∈ rs → r ∈ imp ∧ r ∉ G.out) (_ : ∀ r, r ∈ G.out → r ∈ imp) {cs : List Cell} {m' : Mem} {l l' : Log}
    (_ : (expAll A imp rs).run m l = some (cs, m', l')), ∃ G' N, Out base U w m G m' G' imp rs N ∧ cellsB (heapOf w) (Gh U w G') cs (rs.map G.μ) N ∧ kinds m rs cs
  | [], m, G, hg, hn, hr, ho, cs, m', l, l', h => by
    simp only [expAll, run_pure, Option.some.injEq, Prod.mk.injEq] at h
    obtain ⟨rfl, rfl, rfl⟩ := h
    exact ⟨G, [], ⟨hg, GLe.refl _ _, by simp, fun r => by simp, rfl, fun _ _ => rfl⟩, ⟨rfl, rfl⟩, rfl⟩
  | r :: rs, m, G, hg, hn, hr, ho, cs, m', l, l', h => by
    simp only [expAll] at h
    replace h := run_bind_some h; obtain ⟨c, m1, l1, h1, h⟩ := h
    rw [run_rd] at h1
    cases h1
    replace h := run_bind_some h; obtain ⟨c1, m1, l1, h1, h⟩ := h
    replace h := run_bind_some h; obtain ⟨cs1, m2, l2, h2, h⟩ := h
    simp only [run_pure, Option.some.injEq, Prod.mk.injEq] at h
    obtain ⟨rfl, rfl, rfl⟩ := h
    have hri := hr r (by simp)
    have hnr := List.nodup_cons.1 hn
    have step : ∃ G' N, Out base U w m G m1 G' imp [r] N ∧ cellB (heapOf w) (Gh U w G') c1 (G.μ r) N ∧ ∃ c, get r m = some c ∧ sameKind c c1 := by
      cases hc : get r m with
      | none => rw [hc] at h1; exact (run_fail h1).elim
      | some c =>
        rw [hc] at h1
        have hq := hg.cell r c hc hri.2
        obtain ⟨k1, k2⟩ := hg.goOut hc hri.2
        cases c with
        | dead => exact (run_fail h1).elim
        | que _ _ _ => exact (run_fail h1).elim
        | kbox _ _ => exact (run_fail h1).elim
        | loan _ _ _ _ _ => exact (run_fail h1).elim
        | box t vs =>
          simp only [expCell] at h1
          replace h1 := run_bind_some h1; obtain ⟨vs', m3, l3, h3, h1⟩ := h1
          simp only [run_pure, Option.some.injEq, Prod.mk.injEq] at h1
          obtain ⟨rfl, rfl, rfl⟩ := h1
          obtain ⟨b, a, e1, e2, e3, e4⟩ := hq
          obtain ⟨G2, N2, xs, rfl, hlen, t2, q2, i2⟩ := expCells_ok k1 (k2.simVs e3) (fun k hk => by
            simp only [List.mem_cons] at hk
            rcases hk with rfl | hk
            · exact hri.1
            · exact ho k hk) h3
          refine ⟨G2, b :: N2, ⟨t2.ok, k2.trans t2.le, by rw [t2.E, e4]; simp, fun k => by rw [t2.out]; simp [or_comm], t2.μ, i2⟩, ⟨b, a, xs, N2, e1, e2, rfl, hlen, q2, rfl⟩, _, rfl, rfl⟩
        | arr fz fl ver s rows =>
          simp only [expCell] at h1
          replace h1 := run_bind_some h1; obtain ⟨_, m3, l3, h3, h1⟩ := h1
          obtain ⟨hfz, rfl, rfl⟩ := run_ck h3
          replace h1 := run_bind_some h1; obtain ⟨_, m3, l3, h3, h1⟩ := h1
          obtain ⟨hv0, rfl, rfl⟩ := run_ck h3
          simp only [run_pure, Option.some.injEq, Prod.mk.injEq] at h1
          obtain ⟨rfl, rfl, rfl⟩ := h1
          have hfz : fz = false := by simpa using hfz
          subst hfz
          have hv0 := Nat.eq_of_beq_eq_true hv0
          subst hv0
          refine ⟨_, G.F r, ⟨k1, k2, rfl, fun k => by simp [or_comm], rfl, fun _ _ => rfl⟩, ⟨rfl, rfl, arrS_mono k2.view (fun _ _ => rfl) hq⟩, _, rfl, rfl, rfl, rfl, rfl⟩
    obtain ⟨G1, N1, o1, q1, c0, hc0, hk0⟩ := step
    obtain ⟨G2, N2, o2, q2, kd2⟩ := expAll_ok o1.ok hnr.2 (fun k hk => ⟨(hr k (by simp [hk])).1, fun hko => by
      rcases (o1.out k).1 hko with h | h
      · exact (hr k (by simp [hk])).2 h
      · simp at h; subst h; exact hnr.1 hk⟩) (fun k hk => by
      rcases (o1.out k).1 hk with h | h
      · exact ho k h
      · simp at h; subst h; exact hri.1) h2
    refine ⟨G2, N1 ++ N2, ⟨o2.ok, o1.le.trans o2.le, by rw [o2.E, o1.E, List.append_assoc], fun k => ?_, o2.μ.trans o1.μ, fun k hk => (o2.here k hk).trans (o1.here k hk)⟩, ⟨G.μ r, rs.map G.μ, N1, N2, rfl, rfl, cellB_mono o2.le.view (fun _ _ => rfl) q1, by rw [← o1.μ]; exact q2⟩, c0, c1, cs1, rfl, hc0, hk0, kinds_of (fun k hk => (o1.here k (hr k (by simp [hk])).1).symm) kd2⟩
    rw [o2.out, o1.out]; simp [or_assoc]
end
end Go.Vm

namespace Go.Vm
open Go
section
variable {base : Nat} {U : Nat → Prop} {w : World} {m : Mem} {G : GS}
theorem addNew_nodup {r : Nat} {l : List Nat} (h : l.Nodup) : (addNew r l).Nodup := by
  unfold addNew
  cases hm : mem? r l with
  | true => exact h
  | false =>
    have : r ∉ l := fun hr => by rw [(mem?_iff r l).2 hr] at hm; cases hm
    exact List.nodup_append.2 ⟨h, by simp, fun a ha b hb e => by simp at hb; subst hb; subst e; exact this ha⟩
mutual
theorem impV_nodup : ∀ (v : V) (I : List Nat), I.Nodup → (impV I v).Nodup
  | .ptr r _, I, h => by simp only [impV]; exact addNew_nodup h
  | .clo _ a b, I, h => by simp only [impV]; exact impVs_nodup b _ (impVs_nodup a _ h)
  | .agg cs, I, h => by simp only [impV]; exact impVs_nodup cs _ h
  | .d _, I, h => h
  | .nil _, I, h => h
  | .own _ _, I, h => h
  | .eptr _ _ _ _, I, h => h
  | .rptr _ _, I, h => h
  | .kptr v, I, h => by simp only [impV]; exact impV_nodup v I h
  | .tup _, I, h => h
  | .undef, I, h => h
theorem impVs_nodup : ∀ (vs : List V) (I : List Nat), I.Nodup → (impVs I vs).Nodup
  | [], I, h => h
  | v :: vs, I, h => by simp only [impVs]; exact impVs_nodup vs _ (impV_nodup v I h)
end
theorem impArgs_nodup (A : Adv) (f : Nat) : ∀ (vs : List V) (i : Nat) (I : List Nat), I.Nodup → (impArgs A f i I vs).Nodup
  | [], _, I, h => h
  | v :: vs, i, I, h => by
    simp only [impArgs]
    refine impArgs_nodup A f vs _ _ ?_
    split
    · exact addNew_nodup h
    · exact h
    · exact impV_nodup _ _ h
def mixS (A : Adv) (f : Nat) (μ : Nat → Value) (m : Mem) (H : Heap) (h : View) : Nat → List V → List Value → List Nat → Prop
  | _, [], gs, N => gs = [] ∧ N = []
  | i, v :: vs, gs, N => ∃ g gs' N1 N2, gs = g :: gs' ∧ N = N1 ++ N2 ∧ (match modeOf A f i with
      | 1 => ∃ x, v = .d x ∧ ow H h x g N1
      | _ => N1 = [] ∧ simV μ m h v g) ∧ mixS A f μ m H h (i + 1) vs gs' N2
theorem mixS_mono {A : Adv} {f : Nat} {μ μ' : Nat → Value} {m m' : Mem} {H H' : Heap} {h h' : View} (hm : memLe μ m μ' m') (hl : h.le h') : ∀ {vs : List V} {i : Nat} {gs : List Value} {N : List Nat}, (∀ b, b ∈ N → H' b = H b) →
    mixS A f μ m H h i vs gs N → mixS A f μ' m' H' h' i vs gs N
  | [], _, _, _, _, q => q
  | v :: vs, i, gs, N, hb, q => by
    simp only [mixS] at q ⊢
    obtain ⟨g, gs', N1, N2, rfl, rfl, h3, h4⟩ := q
    refine ⟨g, gs', N1, N2, rfl, rfl, ?_, mixS_mono hm hl (fun b hx => hb b (by simp [hx])) h4⟩
    split at h3
    · rename_i hmo
      obtain ⟨x, hx, hq⟩ := h3
      exact ⟨x, hx, ow_mono hl x g N1 (fun b hx => hb b (by simp [hx])) hq⟩
    · exact ⟨h3.1, simV_mono hm hl v g h3.2⟩
theorem moveArgs_ok {A : Adv} {f : Nat} : ∀ {vs : List V} {gs : List Value} {m : Mem} {G : GS} {i : Nat} (_ : Gok base U w m G) (_ : simVs G.μ m (Gh U w G) vs gs) (_ : G.out = []) {vs' : List V} {m' : Mem} {l l' : Log}
    (_ : (moveArgs A f i vs).run m l = some (vs', m', l')), ∃ G' N, Took base U w m G m' G' N ∧ mixS A f G'.μ m' (heapOf w) (Gh U w G') i vs' gs N
  | [], gs, m, G, i, hg, hv, ho, vs', m', l, l', h => by
    simp only [moveArgs, run_pure, Option.some.injEq, Prod.mk.injEq] at h
    obtain ⟨rfl, rfl, rfl⟩ := h
    simp only [simVs] at hv
    exact ⟨G, [], Took.same hg, hv, rfl⟩
  | v :: vs, gs, m, G, i, hg, hv, ho, vs', m', l, l', h => by
    obtain ⟨g, gs', rfl, hv1, hv2⟩ := simVs_cons hv
    simp only [moveArgs] at h
    replace h := run_bind_some h; obtain ⟨x, m1, l1, h1, h⟩ := h
    replace h := run_bind_some h; obtain ⟨ys, m2, l2, h2, h⟩ := h
    simp only [run_pure, Option.some.injEq, Prod.mk.injEq] at h
    obtain ⟨rfl, rfl, rfl⟩ := h
    have step : ∃ G1 N1, Took base U w m G m1 G1 N1 ∧ (match modeOf A f i with
      | 1 => ∃ y, x = .d y ∧ ow (heapOf w) (Gh U w G1) y g N1
      | _ => N1 = [] ∧ simV G1.μ m1 (Gh U w G1) x g) := by
      split at h1
      · rename_i hmo
        replace h1 := run_bind_some h1; obtain ⟨y, m3, l3, h3, h1⟩ := h1
        simp only [run_pure, Option.some.injEq, Prod.mk.injEq] at h1
        obtain ⟨rfl, rfl, rfl⟩ := h1
        obtain ⟨G1, N1, t1, q1⟩ := toD_ok hg hv1 ho h3
        refine ⟨G1, N1, t1, ?_⟩
        try rw [hmo]
        exact ⟨y, rfl, q1⟩
      · rename_i hmo
        simp only [run_pure, Option.some.injEq, Prod.mk.injEq] at h1
        obtain ⟨rfl, rfl, rfl⟩ := h1
        refine ⟨G, [], Took.same hg, ?_⟩
        first
          | exact ⟨rfl, hv1⟩
          | split
            · rename_i e; exact absurd e hmo
            · exact ⟨rfl, hv1⟩
    obtain ⟨G1, N1, t1, q1⟩ := step
    obtain ⟨G2, N2, t2, q2⟩ := moveArgs_ok t1.ok (t1.le.simVs hv2) (t1.out.trans ho) h2
    refine ⟨G2, N1 ++ N2, t1.trans t2, ?_⟩
    simp only [mixS]
    refine ⟨g, gs', N1, N2, rfl, rfl, ?_, q2⟩
    split at q1
    · obtain ⟨y, hy, hq⟩ := q1
      exact ⟨y, hy, ow_keep t2.le.view hq⟩
    · exact ⟨q1.1, t2.le.simV q1.2⟩
theorem get_impMem : ∀ (cs : List Cell) (k i : Nat), get (impBase + (k + i)) (impMem k cs) = cs[i]?
  | [], _, _ => by simp [impMem, get]
  | c :: cs, k, 0 => by simp [impMem, get]
  | c :: cs, k, i + 1 => by
    simp only [impMem, get]
    rw [beq_no (by omega)]
    simp only [cond_false, List.getElem?_cons_succ]
    rw [← get_impMem cs (k + 1) i, show k + 1 + i = k + (i + 1) from by omega]
theorem get_impMem0 (cs : List Cell) (i : Nat) : get (impBase + i) (impMem 0 cs) = cs[i]? := by
  have := get_impMem cs 0 i
  rwa [Nat.zero_add] at this
def impμ (hs : List Value) : Nat → Value := fun k => hs.getD (k - impBase) undef
theorem idxOf_some {r : Nat} : ∀ {l : List Nat} {k i : Nat}, idxOf r k l = some i → k ≤ i ∧ l[i - k]? = some r
  | [], _, _, h => by simp [idxOf] at h
  | j :: l, k, i, h => by
    simp only [idxOf] at h
    by_cases e : r = j
    · subst e
      simp at h
      subst h
      simp
    · rw [beq_no e] at h
      simp only [cond_false] at h
      obtain ⟨h1, h2⟩ := idxOf_some h
      refine ⟨by omega, ?_⟩
      rw [show i - k = (i - (k + 1)) + 1 from by omega, List.getElem?_cons_succ]
      exact h2
theorem kinds_at {m : Mem} : ∀ {rs : List Nat} {cs : List Cell} {i r : Nat}, kinds m rs cs → rs[i]? = some r → ∃ c c', get r m = some c ∧ cs[i]? = some c' ∧ sameKind c c'
  | [], _, _, _, _, h => by simp at h
  | r :: rs, _, 0, r', ⟨c, c', cs', h1, h2, h3, _⟩, h => by
    simp at h
    subst h; subst h1
    exact ⟨c, c', h2, rfl, h3⟩
  | r :: rs, _, i + 1, r', ⟨c, c', cs', h1, h2, h3, h4⟩, h => by
    subst h1
    simp only [List.getElem?_cons_succ] at h ⊢
    exact kinds_at h4 h
def lendU (U : Nat → Prop) (G : GS) (L : List Nat) : Nat → Prop := fun b => U b ∧ ∀ r, b ∈ G.F r → r ∈ L
theorem lend_le {L : List Nat} : (Gh U w G).le (view w (lendU U G L) (· ∈ G.E)) := by
  intro b o v hv
  unfold Gh view at hv
  split at hv
  · rename_i hc
    unfold view
    rw [if_pos ⟨⟨hc.1, fun r hr => absurd (.inr ⟨r, hr⟩) hc.2⟩, fun hE => hc.2 (.inl hE)⟩]
    exact hv
  · cases hv
structure LendC (base : Nat) (U : Nat → Prop) (w : World) (m : Mem) (G : GS) (imp : List Nat) (cells : List Cell) : Prop where
  ok : Gok base U w m G
  out : ∀ r, r ∈ G.out ↔ r ∈ imp
  kd : kinds m imp cells
theorem lent_ro (hg : Gok base U w m G) {r : Nat} {fz fl : Bool} {ver s : Nat} {rows : List Row} (hc : get r m = some (.arr fz fl ver s rows)) (hro : r ∉ G.out) {L : List Nat} (hL : fz = false → r ∈ L) (o : Bool) :
    ro (view w (lendU U G L) (· ∈ G.E)) (.sl o s rows) (G.μ r) := by
  have hq := hg.cell r _ hc hro
  cases fz with
  | true => exact ro_own (ro_mono lend_le _ _ hq.1)
  | false =>
    refine arrS_ro lend_le (sees_view fun b hb => ⟨⟨(hg.lt b (.inr ⟨r, hb⟩)).2.2, fun k hk => ?_⟩, hg.djE r b hb⟩) hq o
    by_cases e : k = r
    · rw [e]; exact hL rfl
    · exact absurd hk (hg.dj r k (Ne.symm e) b hb)
mutual
theorem lend_ok {imp : List Nat} {cells : List Cell} (C : LendC base U w m G imp cells) : ∀ {v : V} {g : Value} (_ : simV G.μ m (Gh U w G) v g) {v' : V} {lt : List Nat} {m' : Mem} {l l' : Log}
    (_ : (lend imp v).run m l = some ((v', lt), m', l')), m' = m ∧ ∀ L : List Nat, (∀ r, r ∈ lt → r ∈ L) → simV (impμ (imp.map G.μ)) (impMem 0 cells) (view w (lendU U G L) (· ∈ G.E)) v' g
  | .d x, g, hv, v', lt, m', l, l', h => by
    simp only [lend, run_pure, Option.some.injEq, Prod.mk.injEq] at h
    obtain ⟨⟨rfl, rfl⟩, rfl, rfl⟩ := h
    refine ⟨rfl, fun L hL => ?_⟩
    simp only [simV] at hv ⊢
    exact ro_mono lend_le _ _ (ro_roD hv)
  | .nil s, g, hv, v', lt, m', l, l', h => by
    simp only [lend, run_pure, Option.some.injEq, Prod.mk.injEq] at h
    obtain ⟨⟨rfl, rfl⟩, rfl, rfl⟩ := h
    refine ⟨rfl, fun L hL => ?_⟩
    simp only [simV] at hv ⊢
    simp [ro, hv]
  | .own r ver, g, hv, v', lt, m', l, l', h => by
    simp only [lend] at h
    replace h := run_bind_some h; obtain ⟨c, m1, l1, h1, h⟩ := h
    rw [run_rd] at h1
    cases h1
    cases hc : get r m with
    | none => rw [hc] at h; exact (run_fail h).elim
    | some c =>
      rw [hc] at h
      cases c with
      | box _ _ => exact (run_fail h).elim
      | dead => exact (run_fail h).elim
      | que _ _ _ => exact (run_fail h).elim
      | kbox _ _ => exact (run_fail h).elim
      | loan _ _ _ _ _ => exact (run_fail h).elim
      | arr fz fl ver' s rows =>
        simp only at h
        replace h := run_bind_some h; obtain ⟨_, m2, l2, h1, h⟩ := h
        obtain ⟨hb, rfl, rfl⟩ := run_ck h1
        have hb := Nat.eq_of_beq_eq_true hb
        subst hb
        replace h := run_bind_some h; obtain ⟨_, m2, l2, h1, h⟩ := h
        obtain ⟨hi, rfl, rfl⟩ := run_ck h1
        simp only [run_pure, Option.some.injEq, Prod.mk.injEq] at h
        obtain ⟨⟨rfl, rfl⟩, rfl, rfl⟩ := h
        simp only [simV, hc] at hv
        have hv := hv.2.2 trivial
        subst hv
        refine ⟨rfl, fun L hL => ?_⟩
        have hro : r ∉ G.out := fun hr => mem?_not hi ((C.out r).1 hr)
        simp only [simV]
        exact ro_vw (lent_ro C.ok hc hro (fun hf => hL r (by subst hf; simp)) true)
  | .ptr r off, g, hv, v', lt, m', l, l', h => by
    simp only [lend] at h
    replace h := run_bind_some h; obtain ⟨i, m1, l1, h1, h⟩ := h
    obtain ⟨hi, rfl, rfl⟩ := run_op' h1
    simp only [run_pure, Option.some.injEq, Prod.mk.injEq] at h
    obtain ⟨⟨rfl, rfl⟩, rfl, rfl⟩ := h
    refine ⟨rfl, fun L hL => ?_⟩
    obtain ⟨_, h2⟩ := idxOf_some hi
    rw [Nat.sub_zero] at h2
    obtain ⟨c, c', k1, k2, k3⟩ := kinds_at C.kd h2
    simp only [simV, k1] at hv
    simp only [simV, get_impMem0, k2]
    refine ⟨hv.1, ?_⟩
    replace hv := hv.2
    cases c <;> cases c' <;> simp only [sameKind] at k3 hv ⊢
    obtain ⟨b, e1, e2⟩ := hv
    refine ⟨b, ?_, e2⟩
    simp only [impμ, Nat.add_sub_cancel_left, List.getD_eq_getElem?_getD, List.getElem?_map, h2, Option.map_some, Option.getD_some, e1]
  | .rptr row off, g, hv, v', lt, m', l, l', h => by
    simp only [lend, run_pure, Option.some.injEq, Prod.mk.injEq] at h
    obtain ⟨⟨rfl, rfl⟩, rfl, rfl⟩ := h
    refine ⟨rfl, fun L hL => ?_⟩
    simp only [simV] at hv ⊢
    obtain ⟨b, o, e1, e2⟩ := hv
    exact ⟨b, o, e1, roRow_mono lend_le row b o e2⟩
  | .kptr v, g, hv, v', lt, m', l, l', h => by
    simp only [lend] at h
    replace h := run_bind_some h; obtain ⟨⟨a', la⟩, m1, l1, h1, h⟩ := h
    simp only [run_pure, Option.some.injEq, Prod.mk.injEq] at h
    obtain ⟨⟨rfl, rfl⟩, rfl, rfl⟩ := h
    simp only [simV] at hv
    obtain ⟨b, x, rfl, e2, e3⟩ := hv
    obtain ⟨hm1, q1⟩ := lend_ok C e3 h1
    refine ⟨hm1, fun L hL => ?_⟩
    simp only [simV]
    exact ⟨b, x, rfl, lend_le _ _ _ e2, q1 L hL⟩
  | .clo f a b, g, hv, v', lt, m', l, l', h => by
    simp only [lend] at h
    replace h := run_bind_some h; obtain ⟨⟨a', la⟩, m1, l1, h1, h⟩ := h
    simp only at h
    replace h := run_bind_some h; obtain ⟨⟨b', lb⟩, m2, l2, h2, h⟩ := h
    simp only [run_pure, Option.some.injEq, Prod.mk.injEq] at h
    obtain ⟨⟨rfl, rfl⟩, rfl, rfl⟩ := h
    simp only [simV] at hv
    obtain ⟨x, y, rfl, e2, e3⟩ := hv
    obtain ⟨hm1, q1⟩ := lends_ok C e2 h1
    rw [hm1] at h2
    obtain ⟨hm2, q2⟩ := lends_ok C e3 h2
    refine ⟨hm2, fun L hL => ?_⟩
    simp only [simV]
    exact ⟨x, y, rfl, q1 L (fun r hr => hL r (by simp [hr])), q2 L (fun r hr => hL r (by simp [hr]))⟩
  | .agg cs, g, hv, v', lt, m', l, l', h => by
    simp only [lend] at h
    replace h := run_bind_some h; obtain ⟨⟨a', la⟩, m1, l1, h1, h⟩ := h
    simp only [run_pure, Option.some.injEq, Prod.mk.injEq] at h
    obtain ⟨⟨rfl, rfl⟩, rfl, rfl⟩ := h
    simp only [simV] at hv
    obtain ⟨x, rfl, e2⟩ := hv
    obtain ⟨hm1, q1⟩ := lends_ok C e2 h1
    refine ⟨hm1, fun L hL => ?_⟩
    simp only [simV]
    exact ⟨x, rfl, q1 L hL⟩
  | .eptr _ _ _ _, g, hv, v', lt, m', l, l', h => (run_fail h).elim
  | .tup _, g, hv, v', lt, m', l, l', h => (run_fail h).elim
  | .undef, g, hv, v', lt, m', l, l', h => (run_fail h).elim
theorem lends_ok {imp : List Nat} {cells : List Cell} (C : LendC base U w m G imp cells) : ∀ {vs : List V} {gs : List Value} (_ : simVs G.μ m (Gh U w G) vs gs) {vs' : List V} {lt : List Nat} {m' : Mem} {l l' : Log}
    (_ : (lends imp vs).run m l = some ((vs', lt), m', l')), m' = m ∧ ∀ L : List Nat, (∀ r, r ∈ lt → r ∈ L) → simVs (impμ (imp.map G.μ)) (impMem 0 cells) (view w (lendU U G L) (· ∈ G.E)) vs' gs
  | [], gs, hv, v', lt, m', l, l', h => by
    simp only [lends, run_pure, Option.some.injEq, Prod.mk.injEq] at h
    obtain ⟨⟨rfl, rfl⟩, rfl, rfl⟩ := h
    simp only [simVs] at hv
    subst hv
    exact ⟨rfl, fun _ _ => by simp [simVs]⟩
  | v :: vs, gs, hv, v', lt, m', l, l', h => by
    obtain ⟨g, gs', rfl, hv1, hv2⟩ := simVs_cons hv
    simp only [lends] at h
    replace h := run_bind_some h; obtain ⟨⟨a', la⟩, m1, l1, h1, h⟩ := h
    simp only at h
    replace h := run_bind_some h; obtain ⟨⟨b', lb⟩, m2, l2, h2, h⟩ := h
    simp only [run_pure, Option.some.injEq, Prod.mk.injEq] at h
    obtain ⟨⟨rfl, rfl⟩, rfl, rfl⟩ := h
    obtain ⟨hm1, q1⟩ := lend_ok C hv1 h1
    rw [hm1] at h2
    obtain ⟨hm2, q2⟩ := lends_ok C hv2 h2
    refine ⟨hm2, fun L hL => ?_⟩
    simp only [simVs]
    exact ⟨g, gs', rfl, q1 L (fun r hr => hL r (by simp [hr])), q2 L (fun r hr => hL r (by simp [hr]))⟩
end
theorem lendCells_ok {imp : List Nat} {cells : List Cell} (C : LendC base U w m G imp cells) : ∀ {vs : List V} {gs : List Value} (_ : simVs G.μ m (Gh U w G) vs gs) {row : Row} {lt : List Nat} {m' : Mem} {l l' : Log}
    (_ : (lendCells imp vs).run m l = some ((row, lt), m', l')), m' = m ∧ ∀ L : List Nat, (∀ r, r ∈ lt → r ∈ L) → seenRow (view w (lendU U G L) (· ∈ G.E)) row gs
  | [], gs, hv, row, lt, m', l, l', h => by
    simp only [lendCells, run_pure, Option.some.injEq, Prod.mk.injEq] at h
    obtain ⟨⟨rfl, rfl⟩, rfl, rfl⟩ := h
    exact ⟨rfl, fun _ _ => by simp [seenRow]⟩
  | v :: vs, gs, hv, row, lt, m', l, l', h => by
    obtain ⟨g, gs', rfl, hv1, hv2⟩ := simVs_cons hv
    simp only [lendCells] at h
    replace h := run_bind_some h; obtain ⟨⟨a', la⟩, m1, l1, h1, h⟩ := h
    obtain ⟨hm1, q1⟩ := lend_ok C hv1 h1
    cases a' with
    | d x =>
      simp only at h
      replace h := run_bind_some h; obtain ⟨⟨b', lb⟩, m2, l2, h2, h⟩ := h
      simp only [run_pure, Option.some.injEq, Prod.mk.injEq] at h
      obtain ⟨⟨rfl, rfl⟩, rfl, rfl⟩ := h
      rw [hm1] at h2
      obtain ⟨hm2, q2⟩ := lendCells_ok C hv2 h2
      refine ⟨hm2, fun L hL => ?_⟩
      have := q1 L (fun r hr => hL r (by simp [hr]))
      simp only [simV] at this
      exact ⟨g, gs', rfl, this, q2 L (fun r hr => hL r (by simp [hr]))⟩
    | _ => exact (run_fail h).elim
theorem lendBox_ok {imp : List Nat} {cells : List Cell} (C : LendC base U w m G imp cells) {v : V} {g : Value} (hv : simV G.μ m (Gh U w G) v g) {v' : V} {lt : List Nat} {m' : Mem} {l l' : Log}
    (h : (lendBox imp v).run m l = some ((v', lt), m', l')) : m' = m ∧ ∀ L : List Nat, (∀ r, r ∈ lt → r ∈ L) → simV (impμ (imp.map G.μ)) (impMem 0 cells) (view w (lendU U G L) (· ∈ G.E)) v' g := by
  cases v with
  | ptr r off =>
    simp only [lendBox] at h
    replace h := run_bind_some h; obtain ⟨c, m1, l1, h1, h⟩ := h
    rw [run_rd] at h1
    cases h1
    cases hc : get r m with
    | none => rw [hc] at h; exact (run_fail h).elim
    | some c =>
      rw [hc] at h
      cases c with
      | box t cs =>
        simp only at h
        replace h := run_bind_some h; obtain ⟨_, m2, l2, h1, h⟩ := h
        obtain ⟨hi, rfl, rfl⟩ := run_ck h1
        replace h := run_bind_some h; obtain ⟨⟨row, la⟩, m2, l2, h1, h⟩ := h
        simp only [run_pure, Option.some.injEq, Prod.mk.injEq] at h
        obtain ⟨⟨rfl, rfl⟩, rfl, rfl⟩ := h
        have hro : r ∉ G.out := fun hr => mem?_not hi ((C.out r).1 hr)
        obtain ⟨b, a, e1, e2, e3, e4⟩ := C.ok.cell r _ hc hro
        obtain ⟨hm, q⟩ := lendCells_ok C e3 h1
        refine ⟨hm, fun L hL => ?_⟩
        simp only [simV, hc] at hv ⊢
        obtain ⟨b', e5, e6⟩ := hv.2
        rw [e1] at e5
        cases e5
        refine ⟨b, 0, by rw [Nat.zero_add]; exact e6, seenRow_at row 0 a.toList (fun j u hj => ?_) (q L (fun k hk => hL k (by simp [hk])))⟩
        rw [Nat.zero_add]
        have hb : b ∈ G.F r := by rw [e4]; simp
        refine sees_view (N := [b]) (fun b' hb' => ?_) b (by simp) a t _ e2 j u hj
        simp only [List.mem_singleton] at hb'
        subst hb'
        refine ⟨⟨(C.ok.lt _ (.inr ⟨r, hb⟩)).2.2, fun k hk => ?_⟩, C.ok.djE r _ hb⟩
        by_cases e : k = r
        · rw [e]; exact hL r (by simp)
        · exact absurd hk (C.ok.dj r k (Ne.symm e) _ hb)
      | _ => exact (run_fail h).elim
  | rptr row off =>
    simp only [lendBox, run_pure, Option.some.injEq, Prod.mk.injEq] at h
    obtain ⟨⟨rfl, rfl⟩, rfl, rfl⟩ := h
    refine ⟨rfl, fun L hL => ?_⟩
    simp only [simV] at hv ⊢
    obtain ⟨b, o, e1, e2⟩ := hv
    exact ⟨b, o, e1, roRow_mono lend_le row b o e2⟩
  | _ => exact (run_fail h).elim
theorem lendArgs_ok {A : Adv} {f : Nat} {imp : List Nat} {cells : List Cell} (C : LendC base U w m G imp cells) :
    ∀ {vs : List V} {gs : List Value} {i : Nat} {N : List Nat} (_ : mixS A f G.μ m (heapOf w) (Gh U w G) i vs gs N) {vs' : List V} {lt : List Nat} {m' : Mem} {l l' : Log}
    (_ : (lendArgs A imp f i vs).run m l = some ((vs', lt), m', l')), m' = m ∧ ∀ L : List Nat, (∀ r, r ∈ lt → r ∈ L) → mixS A f (impμ (imp.map G.μ)) (impMem 0 cells) (heapOf w) (view w (lendU U G L) (· ∈ G.E)) i vs' gs N
  | [], gs, i, N, hv, v', lt, m', l, l', h => by
    simp only [lendArgs, run_pure, Option.some.injEq, Prod.mk.injEq] at h
    obtain ⟨⟨rfl, rfl⟩, rfl, rfl⟩ := h
    exact ⟨rfl, fun _ _ => hv⟩
  | v :: vs, gs, i, N, hv, v', lt, m', l, l', h => by
    simp only [mixS] at hv
    obtain ⟨g, gs', N1, N2, rfl, rfl, hv1, hv2⟩ := hv
    simp only [lendArgs] at h
    replace h := run_bind_some h; obtain ⟨⟨a', la⟩, m1, l1, h1, h⟩ := h
    simp only at h
    replace h := run_bind_some h; obtain ⟨⟨b', lb⟩, m2, l2, h2, h⟩ := h
    simp only [run_pure, Option.some.injEq, Prod.mk.injEq] at h
    obtain ⟨⟨rfl, rfl⟩, rfl, rfl⟩ := h
    have step : m1 = m ∧ ∀ L : List Nat, (∀ r, r ∈ la → r ∈ L) → (match modeOf A f i with
      | 1 => ∃ x, a' = .d x ∧ ow (heapOf w) (view w (lendU U G L) (· ∈ G.E)) x g N1
      | _ => N1 = [] ∧ simV (impμ (imp.map G.μ)) (impMem 0 cells) (view w (lendU U G L) (· ∈ G.E)) a' g) := by
      split at h1
      · rename_i hmo
        rw [hmo] at hv1 ⊢
        simp only [run_pure, Option.some.injEq, Prod.mk.injEq] at h1
        obtain ⟨⟨rfl, rfl⟩, rfl, rfl⟩ := h1
        refine ⟨rfl, fun L hL => ?_⟩
        obtain ⟨x, hx, hq⟩ := hv1
        exact ⟨x, hx, ow_keep lend_le hq⟩
      · rename_i hmo
        rw [hmo] at hv1 ⊢
        obtain ⟨hN, hv1⟩ := hv1
        cases v with
        | own r ver =>
          simp only at h1
          replace h1 := run_bind_some h1; obtain ⟨_, m3, l3, h3, h1⟩ := h1
          obtain ⟨hb, rfl, rfl⟩ := run_ck h3
          have hb := Nat.eq_of_beq_eq_true hb
          subst hb
          replace h1 := run_bind_some h1; obtain ⟨j, m3, l3, h3, h1⟩ := h1
          obtain ⟨hj, rfl, rfl⟩ := run_op' h3
          simp only [run_pure, Option.some.injEq, Prod.mk.injEq] at h1
          obtain ⟨⟨rfl, rfl⟩, rfl, rfl⟩ := h1
          refine ⟨rfl, fun L hL => ⟨hN, ?_⟩⟩
          obtain ⟨_, h2⟩ := idxOf_some hj
          rw [Nat.sub_zero] at h2
          obtain ⟨c, c', k1, k2, k3⟩ := kinds_at C.kd h2
          simp only [simV, k1] at hv1
          simp only [simV, get_impMem0, k2]
          refine ⟨hv1.1, ?_⟩
          replace hv1 := hv1.2
          cases c <;> cases c' <;> simp only [sameKind] at k3 hv1 ⊢
          refine ⟨by omega, fun _ => ?_⟩
          simp only [impμ, Nat.add_sub_cancel_left, List.getD_eq_getElem?_getD, List.getElem?_map, h2, Option.map_some, Option.getD_some]
          exact hv1.2 k3.1.symm
        | d _ => exact (run_fail h1).elim
        | nil _ => exact (run_fail h1).elim
        | ptr _ _ => exact (run_fail h1).elim
        | eptr _ _ _ _ => exact (run_fail h1).elim
        | rptr _ _ => exact (run_fail h1).elim
        | kptr _ => exact (run_fail h1).elim
        | clo _ _ _ => exact (run_fail h1).elim
        | agg _ => exact (run_fail h1).elim
        | tup _ => exact (run_fail h1).elim
        | undef => exact (run_fail h1).elim
      · rename_i hmo
        rw [hmo] at hv1 ⊢
        obtain ⟨hN, hv1⟩ := hv1
        cases v with
        | nil s =>
          simp only [run_pure, Option.some.injEq, Prod.mk.injEq] at h1
          obtain ⟨⟨rfl, rfl⟩, rfl, rfl⟩ := h1
          exact ⟨rfl, fun L hL => ⟨hN, hv1⟩⟩
        | d _ => exact (run_fail h1).elim
        | own _ _ => exact (run_fail h1).elim
        | ptr _ _ => exact (run_fail h1).elim
        | eptr _ _ _ _ => exact (run_fail h1).elim
        | rptr _ _ => exact (run_fail h1).elim
        | kptr _ => exact (run_fail h1).elim
        | clo _ _ _ => exact (run_fail h1).elim
        | agg _ => exact (run_fail h1).elim
        | tup _ => exact (run_fail h1).elim
        | undef => exact (run_fail h1).elim
      · rename_i hmo
        rw [hmo] at hv1 ⊢
        obtain ⟨hN, hv1⟩ := hv1
        obtain ⟨rfl, q⟩ := lendBox_ok C hv1 h1
        exact ⟨rfl, fun L hL => ⟨hN, q L hL⟩⟩
      · rename_i hmo1 hmo2 hmo3 hmo4
        have hm1 : ∀ (α : Prop) (β : Prop), (match modeOf A f i with | 1 => α | _ => β) = β := by
          intro α β
          split
          · rename_i e; exact absurd e hmo1
          · rfl
        rw [hm1] at hv1
        obtain ⟨hN, hv1⟩ := hv1
        obtain ⟨rfl, q⟩ := lend_ok C hv1 h1
        refine ⟨rfl, fun L hL => ?_⟩
        rw [hm1]
        exact ⟨hN, q L hL⟩
    obtain ⟨hm1, q1⟩ := step
    rw [hm1] at h2
    obtain ⟨hm2, q2⟩ := lendArgs_ok C hv2 h2
    refine ⟨hm2, fun L hL => ?_⟩
    simp only [mixS]
    exact ⟨g, gs', N1, N2, rfl, rfl, q1 L (fun r hr => hL r (by simp [hr])), q2 L (fun r hr => hL r (by simp [hr]))⟩
end
end Go.Vm

namespace Go.Vm
open Go
theorem view_some {w : World} {U X : Nat → Prop} {b o : Nat} {v : Value} (h : view w U X b o = some v) : U b ∧ ¬ X b ∧ w.cell? ⟨b, o, none⟩ = some v := by
  unfold view at h
  split at h
  · rename_i hc; exact ⟨hc.1, hc.2, h⟩
  · cases h
theorem view_mk {w : World} {U X : Nat → Prop} {b o : Nat} {v : Value} (h1 : U b) (h2 : ¬ X b) (h3 : w.cell? ⟨b, o, none⟩ = some v) : view w U X b o = some v := by
  unfold view
  rw [if_pos ⟨h1, h2⟩]
  exact h3
theorem cell_of_heap {w w' : World} {b : Nat} (h : w'.heap[b]? = w.heap[b]?) (o : Nat) : w'.cell? ⟨b, o, none⟩ = w.cell? ⟨b, o, none⟩ := by simp [World.cell?, h]
theorem lt_of_cell {w : World} {b o : Nat} {v : Value} (h : w.cell? ⟨b, o, none⟩ = some v) : b < w.heap.size := by
  have := block_lt_of_cell h
  simpa using this
section
variable {base : Nat} {U : Nat → Prop} {w w' : World} {m : Mem} {G : GS}
theorem Gok.world (hg : Gok base U w m G) (hk : Keep G.E w w') {E' : List Nat} (hn : E'.Nodup) (hE : ∀ b, b ∈ E' → (b ∈ G.E ∨ w.heap.size ≤ b) ∧ b < w'.heap.size) :
    Gok base U w' m { G with E := E' } ∧ (Gh U w G).le (Gh U w' { G with E := E' }) := by
  have hnE : ∀ b, b < w.heap.size → b ∉ G.E → b ∉ E' := fun b hb hx he => by
    rcases (hE b he).1 with h | h
    · exact hx h
    · omega
  have hF : ∀ r b, b ∈ G.F r → w'.heap[b]? = w.heap[b]? := fun r b hb => hk.block b (hg.lt b (.inr ⟨r, hb⟩)).1 (hg.djE r b hb)
  have hle : (Gh U w G).le (Gh U w' { G with E := E' }) := by
    intro b o v hv
    obtain ⟨h1, h2, h3⟩ := view_some hv
    have hlt := lt_of_cell h3
    have hbE : b ∉ G.E := fun h => h2 (.inl h)
    refine view_mk h1 ?_ ((cell_of_heap (hk.block b hlt hbE) o).trans h3)
    rintro (h | h)
    · exact hnE b hlt hbE h
    · exact h2 (.inr h)
  refine ⟨⟨?_, hg.dj, fun r b hb => hnE b (hg.lt b (.inr ⟨r, hb⟩)).1 (hg.djE r b hb), hg.nd, hn, ?_, fun b hb => hg.up b (Nat.le_trans hk.size hb), Nat.le_trans hg.bs hk.size, hg.none_, hg.out_⟩, hle⟩
  · intro r c hc ho
    exact simCell_mono (memLe_refl _ _) hle rfl (fun b hb => hF r b hb) (hg.cell r c hc ho)
  · rintro b (h | ⟨r, h⟩)
    · refine ⟨(hE b h).2, ?_⟩
      rcases (hE b h).1 with h' | h'
      · exact (hg.lt b (.inl h')).2
      · exact ⟨Nat.le_trans hg.bs h', hg.up b h'⟩
    · have := hg.lt b (.inr ⟨r, h⟩)
      exact ⟨Nat.lt_of_lt_of_le this.1 hk.size, this.2⟩
theorem freeze_ok : ∀ {L : List Nat} {m : Mem} {G : GS} (_ : Gok base U w m G) (_ : ∀ r, r ∈ L → r ∉ G.out) {x : Unit} {m' : Mem} {l l' : Log} (_ : (freeze L).run m l = some (x, m', l')),
    ∃ F', Gok base U w m' ⟨G.μ, F', G.E, G.out⟩ ∧ GLe m G m' ⟨G.μ, F', G.E, G.out⟩ ∧ (∀ r, r ∈ L → F' r = []) ∧ (∀ r, F' r = [] ∨ F' r = G.F r) ∧ (∀ k, k ∉ L → get k m' = get k m)
  | [], m, G, hg, ho, x, m', l, l', h => by
    simp only [Vm.freeze, run_pure, Option.some.injEq, Prod.mk.injEq] at h
    obtain ⟨_, rfl, rfl⟩ := h
    exact ⟨G.F, hg, GLe.refl _ _, by simp, fun r => .inr rfl, fun _ _ => rfl⟩
  | r :: L, m, G, hg, ho, x, m', l, l', h => by
    simp only [Vm.freeze] at h
    replace h := run_bind_some h; obtain ⟨c, m1, l1, h1, h⟩ := h
    rw [run_rd] at h1
    cases h1
    cases hc : get r m with
    | none => rw [hc] at h; exact (run_fail h).elim
    | some c =>
      rw [hc] at h
      cases c with
      | box _ _ => exact (run_fail h).elim
      | dead => exact (run_fail h).elim
      | que _ _ _ => exact (run_fail h).elim
      | kbox _ _ => exact (run_fail h).elim
      | loan _ _ _ _ _ => exact (run_fail h).elim
      | arr fz fl ver s rows =>
        replace h := run_bind_some h; obtain ⟨_, m1, l1, h1, h⟩ := h
        simp only [run_wr, Option.some.injEq, Prod.mk.injEq] at h1
        obtain ⟨_, rfl, rfl⟩ := h1
        obtain ⟨k1, k2, _⟩ := hg.freeze hc (ho r (by simp))
        obtain ⟨F', q1, q2, q3, q4, q5⟩ := freeze_ok k1 (fun k hk => ho k (by simp [hk])) h
        refine ⟨F', q1, k2.trans q2, ?_, ?_, ?_⟩
        · intro k hk
          simp only [List.mem_cons] at hk
          rcases hk with rfl | hk
          · rcases q4 k with e | e
            · exact e
            · rw [e]; simp
          · exact q3 k hk
        · intro k
          rcases q4 k with e | e
          · exact .inl e
          · by_cases ek : k = r
            · subst ek; rw [e]; left; simp
            · have e' : F' k = upF G.F r [] k := e
              rw [e', upF_other _ ek]; exact .inr rfl
        · intro k hk
          simp only [List.mem_cons, not_or] at hk
          rw [q5 k hk.2, get_put_other hk.1]
theorem asInt_some {k : IntKind} {x : D} {n : Int} (h : asInt k x = some n) : x = .int k n := by
  cases x <;> simp [asInt] at h
  rename_i k' n'
  by_cases e : k' = k
  · subst e; simp at h; subst h; rfl
  · simp [e] at h
theorem asBool_some {x : D} {b : Bool} (h : asBool x = some b) : x = .bool b := by
  cases x <;> simp [asBool] at h; subst h; rfl
theorem asStr_some {x : D} {b : List UInt8} (h : asStr x = some b) : x = .str b := by
  cases x <;> simp [asStr] at h; subst h; rfl
theorem asSl_some {s : Nat} {x : D} {rows : List Row} (h : asSl s x = some rows) : ∃ o, x = .sl o s rows := by
  cases x <;> simp [asSl] at h
  rename_i o s' rows'
  by_cases e : s' = s
  · subst e; simp at h; subst h; exact ⟨o, rfl⟩
  · rw [beq_no e] at h; simp at h
theorem asOwn_some {s : Nat} {x : D} {rows : List Row} (h : asOwn s x = some rows) : x = .sl true s rows := by
  cases x <;> simp [asOwn] at h
  rename_i o s' rows'
  cases o <;> simp at h
  by_cases e : s' = s
  · subst e; simp at h; subst h; rfl
  · rw [beq_no e] at h; simp at h
theorem nth_drop {row : Row} {j : Nat} {x : D} {r : Row} (h : row.drop j = x :: r) : nth row j = x ∧ row.drop (j + 1) = r := by
  have h1 : row[j]? = some x := by
    have : (row.drop j)[0]? = some x := by rw [h]; rfl
    rwa [List.getElem?_drop, Nat.add_zero] at this
  refine ⟨by simp [nth, h1], ?_⟩
  rw [← List.drop_drop, h]
  rfl
theorem Gok.dropN (hg : Gok base U w m G) {N E : List Nat} (hE : (N ++ E).Perm G.E) : Gok base U w m { G with E := E } ∧ GLe m G m { G with E := E } ∧ ∀ {x : D} {g : Value}, ow (heapOf w) (Gh U w G) x g N → ro (Gh U w { G with E := E }) x g := by
  have hnd := hE.nodup_iff.2 hg.ndE
  have hmem : ∀ b, b ∈ N ++ E → b ∈ G.E := fun b hb => hE.mem_iff.1 hb
  obtain ⟨h1, h2⟩ := hg.less E (List.nodup_append.1 hnd).2.1 (fun b hb => hmem b (by simp [hb]))
  refine ⟨h1, h2, fun {x g} q => ow_ro h2.view x g N (sees_view fun b hb => ⟨(hg.lt b (.inl (hmem b (by simp [hb])))).2.2, ?_⟩) q⟩
  rintro (h | ⟨r, h⟩)
  · exact (List.nodup_append.1 hnd).2.2 b hb b h rfl
  · exact hg.djE r b h (hmem b (by simp [hb]))
structure Grew (base : Nat) (U : Nat → Prop) (w : World) (m : Mem) (G : GS) (m' : Mem) (G' : GS) (E : List Nat) : Prop where
  ok : Gok base U w m' G'
  le : GLe m G m' G'
  E : G'.E = E
  out : G'.out = G.out
  old : ∀ k c, get k m = some c → get k m' = some c
  μ : ∀ k c, get k m = some c → G'.μ k = G.μ k
theorem Grew.trans {m1 m2 m3 : Mem} {G1 G2 G3 : GS} {E E' : List Nat} (a : Grew base U w m1 G1 m2 G2 E) (b : Grew base U w m2 G2 m3 G3 E') : Grew base U w m1 G1 m3 G3 E' :=
  ⟨b.ok, a.le.trans b.le, b.E, b.out.trans a.out, fun k c h => b.old k c (a.old k c h), fun k c h => (b.μ k c (a.old k c h)).trans (a.μ k c h)⟩
theorem run_new {k : Nat} {c : Cell} {x : Unit} {m' : Mem} {l l' : Log} (h : (new k c).run m l = some (x, m', l')) : get k m = none ∧ m' = put k c m := by
  simp only [new] at h
  replace h := run_bind_some h; obtain ⟨_, m1, l1, h1, h⟩ := h
  simp only [free] at h1
  replace h1 := run_bind_some h1; obtain ⟨c', m2, l2, h2, h1⟩ := h1
  rw [run_rd] at h2
  cases h2
  cases hc : get k m with
  | some c => rw [hc] at h1; exact (run_fail h1).elim
  | none =>
    rw [hc] at h1
    simp only [run_pure, Option.some.injEq, Prod.mk.injEq] at h1
    obtain ⟨_, rfl, rfl⟩ := h1
    simp only [run_wr, Option.some.injEq, Prod.mk.injEq] at h
    exact ⟨rfl, h.2.1.symm⟩
theorem newArr_ok (hg : Gok base U w m G) (ho : ∀ r, r ∈ G.out → ∃ c, get r m = some c) {k : Nat} {fl : Bool} {s : Nat} {rows : List Row} {g : Value} {N E : List Nat} (hE : (N ++ E).Perm G.E)
    (hq : ow (heapOf w) (Gh U w G) (.sl true s rows) g N) {x : Unit} {m' : Mem} {l l' : Log} (h : (new k (.arr false fl 0 s rows)).run m l = some (x, m', l')) :
    ∃ G', Grew base U w m G m' G' E ∧ simV G'.μ m' (Gh U w G') (.own k 0) g := by
  obtain ⟨hn, rfl⟩ := run_new h
  have hk : k ∉ G.out := fun hx => by obtain ⟨c, hc⟩ := ho k hx; rw [hn] at hc; cases hc
  obtain ⟨F', h1, h2⟩ := hg.newArr fl hn hk hE hq
  refine ⟨_, ⟨h1, h2, rfl, rfl, fun j c hj => ?_, fun j c hj => ?_⟩, ?_⟩
  · have hne : j ≠ k := fun e => by subst e; rw [hn] at hj; cases hj
    rw [get_put_other hne]; exact hj
  · exact upM_other _ (fun e => by subst e; rw [hn] at hj; cases hj)
  · have : isSl g := by
      simp only [ow] at hq
      rcases hq with ⟨_, rfl, _⟩ | ⟨b, cap, cs, t, N', rfl, _⟩ <;> exact ⟨_, _, _, rfl⟩
    simp [simV, get_put_same, this]
theorem backBox_ok (hg : Gok base U w m G) (ho : ∀ r, r ∈ G.out → ∃ c, get r m = some c) {k b : Nat} {T : TypeId} {vs : List V} {a : Array Value} {E : List Nat} (hE : (b :: E).Perm G.E)
    (hH : heapOf w b = some (.cells a T (0, 0))) (hq : simVs G.μ m (Gh U w G) vs a.toList) {x : Unit} {m' : Mem} {l l' : Log} (h : (new k (.box T vs)).run m l = some (x, m', l')) :
    ∃ G', Grew base U w m G m' G' E ∧ simV G'.μ m' (Gh U w G') (.ptr k 0) (.pointer (some ⟨b, 0, none⟩)) := by
  obtain ⟨hn, rfl⟩ := run_new h
  have hk : k ∉ G.out := fun hx => by obtain ⟨c, hc⟩ := ho k hx; rw [hn] at hc; cases hc
  have hnd := hE.nodup_iff.2 hg.ndE
  have hμ : ∀ j, j ≠ k → upM G.μ k (.pointer (some ⟨b, 0, none⟩)) j = G.μ j := fun j e => upM_other _ e
  have hle : memLe G.μ m (upM G.μ k (.pointer (some ⟨b, 0, none⟩))) (put k (.box T vs) m) := memLe_put hμ (fun c h => by rw [hn] at h; cases h)
  obtain ⟨h1, h2⟩ := hg.set k (.box T vs) (upM G.μ k (.pointer (some ⟨b, 0, none⟩))) [b] E G.out (by simpa using hnd) (fun x hx => .inr (hE.mem_iff.1 (by simpa using hx))) hle hμ (fun _ _ => Iff.rfl) (fun h => absurd h hk)
    (fun hv _ => ⟨b, a, upM_same _ _ _, hH, simVs_mono hle hv _ _ hq, rfl⟩)
  refine ⟨_, ⟨h1, h2, rfl, rfl, fun j c hj => ?_, fun j c hj => ?_⟩, ?_⟩
  · rw [get_put_other (fun e => by subst e; rw [hn] at hj; cases hj)]; exact hj
  · exact upM_other _ (fun e => by subst e; rw [hn] at hj; cases hj)
  · simp [simV, get_put_same, isPt]
theorem backCell_ok (hg : Gok base U w m G) (ho : ∀ r, r ∈ G.out → ∃ c, get r m = some c) {row : Row} {j : Nat} {x : D} {g : Value} {N E : List Nat} (hE : (N ++ E).Perm G.E) (hx : nth row j = x)
    (hq : ow (heapOf w) (Gh U w G) x g N) {ct : CT} {own fl : Bool} {key : Nat} {v : V} {m' : Mem} {l l' : Log}
    (h : (backCell own fl key row j ct).run m l = some (v, m', l')) :
    ∃ G', Grew base U w m G m' G' E ∧ simV G'.μ m' (Gh U w G') v g := by
  obtain ⟨d1, d2, d3⟩ := hg.dropN hE
  have plain : Grew base U w m G m { G with E := E } E := ⟨d1, d2, rfl, rfl, fun _ _ h => h, fun _ _ _ => rfl⟩
  have hro := d3 hq
  cases ct with
  | int k =>
    simp only [backCell, cInt, hx, Acc.run] at h
    cases ha : asInt k x with
    | none => simp [ha, Acc.run] at h
    | some n =>
      simp only [ha, Acc.run, Option.some.injEq, Prod.mk.injEq] at h
      obtain ⟨rfl, rfl, rfl⟩ := h
      refine ⟨_, plain, ?_⟩
      rw [asInt_some ha] at hro
      simpa [simV] using hro
  | bool =>
    simp only [backCell, cBool, hx, Acc.run] at h
    cases ha : asBool x with
    | none => simp [ha, Acc.run] at h
    | some n =>
      simp only [ha, Acc.run, Option.some.injEq, Prod.mk.injEq] at h
      obtain ⟨rfl, rfl, rfl⟩ := h
      refine ⟨_, plain, ?_⟩
      rw [asBool_some ha] at hro
      simpa [simV] using hro
  | str =>
    simp only [backCell, cStr, hx, Acc.run] at h
    cases ha : asStr x with
    | none => simp [ha, Acc.run] at h
    | some n =>
      simp only [ha, Acc.run, Option.some.injEq, Prod.mk.injEq] at h
      obtain ⟨rfl, rfl, rfl⟩ := h
      refine ⟨_, plain, ?_⟩
      rw [asStr_some ha] at hro
      simpa [simV] using hro
  | other => exact (run_fail h).elim
  | sl s =>
    cases own with
    | false =>
      simp only [backCell, cSl, hx, Acc.run] at h
      cases ha : asSl s x with
      | none => simp [ha, Acc.run] at h
      | some n =>
        simp only [ha, Acc.run, Option.some.injEq, Prod.mk.injEq] at h
        obtain ⟨rfl, rfl, rfl⟩ := h
        refine ⟨_, plain, ?_⟩
        obtain ⟨o, rfl⟩ := asSl_some ha
        simp only [simV]
        exact ro_vw hro
    | true =>
      simp only [backCell, cOwn, hx, Acc.run] at h
      cases ha : asOwn s x with
      | none => simp [ha, Acc.run] at h
      | some n =>
        simp only [ha, Acc.run] at h
        have := asOwn_some ha
        subst this
        replace h := run_bind_some h; obtain ⟨_, m1, l1, h1, h⟩ := h
        simp only [run_pure, Option.some.injEq, Prod.mk.injEq] at h
        obtain ⟨rfl, rfl, rfl⟩ := h
        exact newArr_ok hg ho hE hq h1
theorem owRow_cons {H : Heap} {h : View} {x : D} {r : Row} {cs : List Value} {N : List Nat} (q : owRow H h (x :: r) cs N) : ∃ v cs' N1 N2, cs = v :: cs' ∧ N = N1 ++ N2 ∧ ow H h x v N1 ∧ owRow H h r cs' N2 := by simpa [owRow] using q
theorem perm_next {N1 N2 E E0 : List Nat} (h : (N1 ++ N2 ++ E).Perm E0) : (N1 ++ (N2 ++ E)).Perm E0 := by rwa [List.append_assoc] at h
theorem reCells_ok {own : List Nat} {r dst : Nat} {row : Row} : ∀ {cts : List CT} {fs : List Bool} {j : Nat} {m : Mem} {G : GS} {gs : List Value} {N E : List Nat} (_ : Gok base U w m G) (_ : ∀ r, r ∈ G.out → ∃ c, get r m = some c)
    (_ : (N ++ E).Perm G.E) (_ : owRow (heapOf w) (Gh U w G) (row.drop j) gs N) (_ : row.length = j + cts.length) (_ : gs.length = cts.length) {vs : List V} {m' : Mem} {l l' : Log}
    (_ : (reCells own r dst row j cts fs).run m l = some (vs, m', l')), ∃ G', Grew base U w m G m' G' E ∧ simVs G'.μ m' (Gh U w G') vs gs
  | [], fs, j, m, G, gs, N, E, hg, ho, hE, hq, hlen, hgl, vs, m', l, l', h => by
    simp only [reCells, run_pure, Option.some.injEq, Prod.mk.injEq] at h
    obtain ⟨rfl, rfl, rfl⟩ := h
    rw [List.drop_eq_nil_of_le (by simp at hlen; omega)] at hq
    simp only [owRow] at hq
    subst hq
    simp at hgl
    subst hgl
    obtain ⟨d1, d2, _⟩ := hg.dropN hE
    exact ⟨_, ⟨d1, d2, rfl, rfl, fun _ _ h => h, fun _ _ _ => rfl⟩, by simp [simVs]⟩
  | ct :: cts, fs, j, m, G, gs, N, E, hg, ho, hE, hq, hlen, hgl, vs, m', l, l', h => by
    cases hd : row.drop j with
    | nil =>
      have := congrArg List.length hd
      simp at this hlen
      omega
    | cons x rest =>
      obtain ⟨hx, hrest⟩ := nth_drop hd
      rw [hd] at hq
      obtain ⟨g, gs', N1, N2, rfl, rfl, q1, q2⟩ := owRow_cons hq
      simp only [reCells] at h
      replace h := run_bind_some h; obtain ⟨v, m1, l1, h1, h⟩ := h
      replace h := run_bind_some h; obtain ⟨vs', m2, l2, h2, h⟩ := h
      simp only [run_pure, Option.some.injEq, Prod.mk.injEq] at h
      obtain ⟨rfl, rfl, rfl⟩ := h
      obtain ⟨G1, t1, s1⟩ := backCell_ok hg ho (perm_next hE) hx q1 h1
      obtain ⟨G2, t2, s2⟩ := reCells_ok t1.ok (fun k hk => by
        rw [t1.out] at hk
        obtain ⟨c, hc⟩ := ho k hk
        exact ⟨c, t1.old k c hc⟩) (by rw [t1.E]) (by rw [hrest]; exact owRow_keep t1.le.view q2) (by simp at hlen; omega) (by simpa using hgl) h2
      refine ⟨G2, t1.trans t2, ?_⟩
      simp only [simVs]
      exact ⟨g, gs', rfl, t2.le.simV s1, s2⟩
theorem resCells_ok {att : List Nat} {dst ri : Nat} {row : Row} : ∀ {cts : List CT} {fs : List Bool} {j : Nat} {m : Mem} {G : GS} {gs : List Value} {N E : List Nat} (_ : Gok base U w m G) (_ : ∀ r, r ∈ G.out → ∃ c, get r m = some c)
    (_ : (N ++ E).Perm G.E) (_ : owRow (heapOf w) (Gh U w G) (row.drop j) gs N) (_ : row.length = j + cts.length) (_ : gs.length = cts.length) {vs : List V} {m' : Mem} {l l' : Log}
    (_ : (resCells att dst ri row j cts fs).run m l = some (vs, m', l')), ∃ G', Grew base U w m G m' G' E ∧ simVs G'.μ m' (Gh U w G') vs gs
  | [], fs, j, m, G, gs, N, E, hg, ho, hE, hq, hlen, hgl, vs, m', l, l', h => by
    simp only [resCells, run_pure, Option.some.injEq, Prod.mk.injEq] at h
    obtain ⟨rfl, rfl, rfl⟩ := h
    rw [List.drop_eq_nil_of_le (by simp at hlen; omega)] at hq
    simp only [owRow] at hq
    subst hq
    simp at hgl
    subst hgl
    obtain ⟨d1, d2, _⟩ := hg.dropN hE
    exact ⟨_, ⟨d1, d2, rfl, rfl, fun _ _ h => h, fun _ _ _ => rfl⟩, by simp [simVs]⟩
  | ct :: cts, fs, j, m, G, gs, N, E, hg, ho, hE, hq, hlen, hgl, vs, m', l, l', h => by
    cases hd : row.drop j with
    | nil =>
      have := congrArg List.length hd
      simp at this hlen
      omega
    | cons x rest =>
      obtain ⟨hx, hrest⟩ := nth_drop hd
      rw [hd] at hq
      obtain ⟨g, gs', N1, N2, rfl, rfl, q1, q2⟩ := owRow_cons hq
      simp only [resCells] at h
      replace h := run_bind_some h; obtain ⟨v, m1, l1, h1, h⟩ := h
      replace h := run_bind_some h; obtain ⟨vs', m2, l2, h2, h⟩ := h
      simp only [run_pure, Option.some.injEq, Prod.mk.injEq] at h
      obtain ⟨rfl, rfl, rfl⟩ := h
      obtain ⟨G1, t1, s1⟩ := backCell_ok hg ho (perm_next hE) hx q1 h1
      obtain ⟨G2, t2, s2⟩ := resCells_ok t1.ok (fun k hk => by
        rw [t1.out] at hk
        obtain ⟨c, hc⟩ := ho k hk
        exact ⟨c, t1.old k c hc⟩) (by rw [t1.E]) (by rw [hrest]; exact owRow_keep t1.le.view q2) (by simp at hlen; omega) (by simpa using hgl) h2
      refine ⟨G2, t1.trans t2, ?_⟩
      simp only [simVs]
      exact ⟨g, gs', rfl, t2.le.simV s1, s2⟩
def valOf (P : Program) (t : TypeId) (cs : List Value) (g : Value) : Prop := if aggT P t = true then g = .agg cs.toArray else cs = [g]
def retS (P : Program) (H : Heap) (h : View) (t : TypeId) (row : Row) (g : Value) (N : List Nat) : Prop := match ptrT P t with
  | some T => ∃ b a N1, g = .pointer (some ⟨b, 0, none⟩) ∧ H b = some (.cells a T (0, 0)) ∧ owRow H h row a.toList N1 ∧ row.length = a.size ∧ N = b :: N1
  | none => ∃ cs, valOf P t cs g ∧ owRow H h row cs N ∧ row.length = cs.length
theorem retS_mono {P : Program} {H H' : Heap} {h h' : View} (hl : h.le h') {t : TypeId} {row : Row} {g : Value} {N : List Nat} (hb : ∀ b, b ∈ N → H' b = H b) (q : retS P H h t row g N) : retS P H' h' t row g N := by
  unfold retS at q ⊢
  split at q
  · obtain ⟨b, a, N1, h1, h2, h3, h4, rfl⟩ := q
    exact ⟨b, a, N1, h1, (hb b (by simp)).trans h2, owRow_mono hl _ _ _ (fun b hx => hb b (by simp [hx])) h3, h4, rfl⟩
  · obtain ⟨cs, h1, h2, h3⟩ := q
    exact ⟨cs, h1, owRow_mono hl _ _ _ hb h2, h3⟩
theorem retS_val {P : Program} {H : Heap} {h : View} {t : TypeId} {row : Row} {g : Value} {N : List Nat} (hp : ptrT P t = none) : retS P H h t row g N ↔ ∃ cs, valOf P t cs g ∧ owRow H h row cs N ∧ row.length = cs.length := by
  simp only [retS, hp]
def retsS (P : Program) (H : Heap) (h : View) : List TypeId → List Row → List Value → List Nat → Prop
  | [], rows, gs, N => rows = [] ∧ gs = [] ∧ N = []
  | t :: ts, rows, gs, N => ∃ row rows' g gs' N1 N2, rows = row :: rows' ∧ gs = g :: gs' ∧ N = N1 ++ N2 ∧ retS P H h t row g N1 ∧ retsS P H h ts rows' gs' N2
theorem retsS_mono {P : Program} {H H' : Heap} {h h' : View} (hl : h.le h') : ∀ {ts : List TypeId} {rows : List Row} {gs : List Value} {N : List Nat}, (∀ b, b ∈ N → H' b = H b) → retsS P H h ts rows gs N → retsS P H' h' ts rows gs N
  | [], _, _, _, _, q => q
  | t :: ts, _, _, _, hb, ⟨row, rows', g, gs', N1, N2, e1, e2, e3, h1, h4⟩ => by
    subst e3
    exact ⟨row, rows', g, gs', N1, N2, e1, e2, rfl, retS_mono hl (fun b hx => hb b (by simp [hx])) h1, retsS_mono hl (fun b hx => hb b (by simp [hx])) h4⟩
theorem ofCells_ok {P : Program} {t : TypeId} {vs : List V} {v : V} (h : ofCells P t vs = some v) {μ : Nat → Value} {hh : View} {cs : List Value} {g : Value} (hq : simVs μ m hh vs cs) (hg : valOf P t cs g) : simV μ m hh v g := by
  unfold ofCells at h
  unfold valOf at hg
  cases ha : aggT P t with
  | true =>
    simp only [ha, cond_true, if_true, Option.some.injEq] at h hg
    subst h
    simp only [simV]
    exact ⟨_, hg, by simpa using hq⟩
  | false =>
    simp only [ha, cond_false, Bool.false_eq_true, if_false] at h hg
    split at h
    · cases h
      obtain ⟨g', gs', e, q1, q2⟩ := simVs_cons hq
      rw [hg] at e
      cases e
      exact q1
    · cases h
theorem resRowOf_drop {res : List Row} {ri : Nat} {row : Row} {rows : List Row} (h : res.drop ri = row :: rows) : resRowOf res ri = row ∧ res.drop (ri + 1) = rows := by
  have h1 : res[ri]? = some row := by
    have : (res.drop ri)[0]? = some row := by rw [h]; rfl
    rwa [List.getElem?_drop, Nat.add_zero] at this
  refine ⟨by simp [resRowOf, h1], ?_⟩
  rw [← List.drop_drop, h]
  rfl
theorem resOne_ok {X : Ctx} {att : List Nat} {dst ri : Nat} {row : Row} {t : TypeId} {g : Value} {N E : List Nat} (hg : Gok base U w m G) (ho : ∀ r, r ∈ G.out → ∃ c, get r m = some c)
    (hE : (N ++ E).Perm G.E) (hq : retS X.P (heapOf w) (Gh U w G) t row g N) {v : V} {m' : Mem} {l l' : Log}
    (h : (resOne X att dst ri row t).run m l = some (v, m', l')) : ∃ G', Grew base U w m G m' G' E ∧ simV G'.μ m' (Gh U w G') v g := by
  unfold retS at hq
  unfold resOne at h
  split at hq
  · rename_i T hT
    simp only [hT] at h
    obtain ⟨b, a, N1, rfl, h1, h2, h3, rfl⟩ := hq
    replace h := run_bind_some h; obtain ⟨_, m1, l1, k1, h⟩ := h
    obtain ⟨hlen, rfl, rfl⟩ := run_ck k1
    replace h := run_bind_some h; obtain ⟨vc, m2, l2, k2, h⟩ := h
    replace h := run_bind_some h; obtain ⟨_, m3, l3, k3, h⟩ := h
    simp only [run_pure, Option.some.injEq, Prod.mk.injEq] at h
    obtain ⟨rfl, rfl, rfl⟩ := h
    have hlen := Nat.eq_of_beq_eq_true hlen
    obtain ⟨G1, t1, s1⟩ := resCells_ok (N := N1) (E := b :: E) hg ho (by
      refine List.Perm.trans List.perm_middle ?_
      exact hE) (by simpa using h2) (by simpa using hlen) (by rw [Array.length_toList, ← h3]; exact hlen) k2
    obtain ⟨G2, t2, s2⟩ := backBox_ok t1.ok (fun k hk => by
      rw [t1.out] at hk
      obtain ⟨c, hc⟩ := ho k hk
      exact ⟨c, t1.old k c hc⟩) (by rw [t1.E]) h1 s1 k3
    exact ⟨G2, t1.trans t2, s2⟩
  · rename_i hT
    simp only [hT] at h
    obtain ⟨cs, h1, h2, h3⟩ := hq
    replace h := run_bind_some h; obtain ⟨_, m1, l1, k1, h⟩ := h
    obtain ⟨hlen, rfl, rfl⟩ := run_ck k1
    replace h := run_bind_some h; obtain ⟨vc, m2, l2, k2, h⟩ := h
    obtain ⟨hv, rfl, rfl⟩ := run_op' h
    have hlen := Nat.eq_of_beq_eq_true hlen
    obtain ⟨G1, t1, s1⟩ := resCells_ok hg ho hE (by simpa using h2) (by simpa using hlen) (by rw [← h3]; exact hlen) k2
    exact ⟨G1, t1, ofCells_ok hv s1 h1⟩
theorem resAll_ok {X : Ctx} {att : List Nat} {dst : Nat} {res : List Row} : ∀ {ts : List TypeId} {ri : Nat} {m : Mem} {G : GS} {gs : List Value} {N E : List Nat} (_ : Gok base U w m G) (_ : ∀ r, r ∈ G.out → ∃ c, get r m = some c)
    (_ : (N ++ E).Perm G.E) (_ : retsS X.P (heapOf w) (Gh U w G) ts (res.drop ri) gs N) {vs : List V} {m' : Mem} {l l' : Log}
    (_ : (resAll X att dst res ri ts).run m l = some (vs, m', l')), ∃ G', Grew base U w m G m' G' E ∧ simVs G'.μ m' (Gh U w G') vs gs
  | [], ri, m, G, gs, N, E, hg, ho, hE, hq, vs, m', l, l', h => by
    simp only [resAll, run_pure, Option.some.injEq, Prod.mk.injEq] at h
    obtain ⟨rfl, rfl, rfl⟩ := h
    obtain ⟨_, rfl, rfl⟩ := hq
    obtain ⟨d1, d2, _⟩ := hg.dropN hE
    exact ⟨_, ⟨d1, d2, rfl, rfl, fun _ _ h => h, fun _ _ _ => rfl⟩, by simp [simVs]⟩
  | t :: ts, ri, m, G, gs, N, E, hg, ho, hE, hq, vs, m', l, l', h => by
    obtain ⟨row, rows', g, gs', N1, N2, e1, rfl, rfl, h1, h4⟩ := hq
    obtain ⟨hrow, hrest⟩ := resRowOf_drop e1
    simp only [resAll] at h
    replace h := run_bind_some h; obtain ⟨v, m3, l3, k3, h⟩ := h
    replace h := run_bind_some h; obtain ⟨vs', m4, l4, k4, h⟩ := h
    simp only [run_pure, Option.some.injEq, Prod.mk.injEq] at h
    obtain ⟨rfl, rfl, rfl⟩ := h
    rw [hrow] at k3
    obtain ⟨G1, t1, s1⟩ := resOne_ok hg ho (perm_next hE) h1 k3
    obtain ⟨G2, t2, s2⟩ := resAll_ok t1.ok (fun k hk => by
      rw [t1.out] at hk
      obtain ⟨c, hc⟩ := ho k hk
      exact ⟨c, t1.old k c hc⟩) (by rw [t1.E]) (by rw [hrest]; exact retsS_mono t1.le.view (fun _ _ => rfl) h4) k4
    refine ⟨G2, t1.trans t2, ?_⟩
    simp only [simVs]
    exact ⟨g, gs', rfl, t2.le.simV s1, s2⟩
mutual
theorem pure_ow {H : Heap} {h h' : View} : ∀ (x : D) (v : Value) (N : List Nat), x.pure = true → ow H h x v N → ow H h' x v N
  | .int _ _, _, _, _, q => by simpa [ow] using q
  | .bool _, _, _, _, q => by simpa [ow] using q
  | .str _, _, _, _, q => by simpa [ow] using q
  | .nilf, _, _, _, q => by simpa [ow] using q
  | .sl false s rows, v, N, hp, q => by
    simp only [D.pure, List.isEmpty_iff] at hp
    subst hp
    simp only [ow, ro] at q ⊢
    exact ⟨q.1, by obtain ⟨a, cap, h1, h2, _⟩ := q.2; exact ⟨a, cap, h1, h2, fun e => absurd rfl e⟩⟩
  | .sl true s rows, v, N, hp, q => by
    simp only [D.pure] at hp
    simp only [ow] at q ⊢
    rcases q with q | ⟨b, cap, cs, t, N', h1, h2, h3, h4, h5, rfl⟩
    · exact .inl q
    · exact .inr ⟨b, cap, cs, t, N', h1, h2, h3, h4, pure_owRows s rows _ N' hp h5, rfl⟩
theorem pure_owRows {H : Heap} {h h' : View} (s : Nat) : ∀ (rows : List Row) (cs : List Value) (N : List Nat), pureRows rows = true → owRows H h s rows cs N → owRows H h' s rows cs N
  | [], _, _, _, q => by simpa [owRows] using q
  | r :: rs, cs, N, hp, q => by
    simp only [pureRows, Bool.and_eq_true] at hp
    simp only [owRows] at q ⊢
    obtain ⟨h1, N1, N2, rfl, h2, h3⟩ := q
    exact ⟨h1, N1, N2, rfl, pure_owRow r _ N1 hp.1 h2, pure_owRows s rs _ N2 hp.2 h3⟩
theorem pure_owRow {H : Heap} {h h' : View} : ∀ (r : Row) (cs : List Value) (N : List Nat), pureRow r = true → owRow H h r cs N → owRow H h' r cs N
  | [], _, _, _, q => by simpa [owRow] using q
  | x :: r, cs, N, hp, q => by
    simp only [pureRow, Bool.and_eq_true] at hp
    simp only [owRow] at q ⊢
    obtain ⟨v, cs', N1, N2, rfl, rfl, h2, h3⟩ := q
    exact ⟨v, cs', N1, N2, rfl, rfl, pure_ow x v N1 hp.1 h2, pure_owRow r cs' N2 hp.2 h3⟩
end
theorem pure_retsS {P : Program} {H : Heap} {h h' : View} : ∀ {ts : List TypeId} {rows : List Row} {gs : List Value} {N : List Nat}, rows.all pureRow = true → retsS P H h ts rows gs N → retsS P H h' ts rows gs N
  | [], _, _, _, _, q => q
  | t :: ts, _, _, _, hp, ⟨row, rows', g, gs', N1, N2, e1, e2, e3, h1, h4⟩ => by
    subst e1
    simp only [List.all_cons, Bool.and_eq_true] at hp
    refine ⟨row, rows', g, gs', N1, N2, rfl, e2, e3, ?_, pure_retsS hp.2 h4⟩
    unfold retS at h1 ⊢
    split at h1
    · obtain ⟨b, a, M, k1, k2, k3, k4, k5⟩ := h1
      exact ⟨b, a, M, k1, k2, pure_owRow _ _ _ hp.1 k3, k4, k5⟩
    · obtain ⟨cs, k1, k2, k3⟩ := h1
      exact ⟨cs, k1, pure_owRow _ _ _ hp.1 k2, k3⟩
end
end Go.Vm
