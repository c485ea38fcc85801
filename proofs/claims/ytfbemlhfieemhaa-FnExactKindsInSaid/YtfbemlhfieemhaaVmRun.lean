/-
  The machine over pure values: regions, code, calls. A loop's and a call's meaning is the limit of its finite runs.
-/
import Derived.Test.YtfbemlhfieemhaaVmCore
namespace Go.Vm
open Go

/-! ### A region's end: what is read later is kept -/
mutual
def fixV (m : Mem) : V → V
  | .d x => .d x
  | .nil s => .nil s
  | .own r ver => match get r m with
    | some (.arr _ _ ver' _ _) => bif Nat.beq ver ver' then .own r 0 else .undef
    | _ => .undef
  | .ptr r off => match get r m with
    | some (.box _ _) => .ptr r off
    | _ => .undef
  | .eptr r ver i off => match get r m with
    | some (.arr _ _ ver' _ _) => bif Nat.beq ver ver' then .eptr r 0 i off else .undef
    | _ => .undef
  | .rptr row off => .rptr row off
  | .clo f a b => .clo f (fixVs m a) (fixVs m b)
  | .agg cs => .agg (fixVs m cs)
  | .tup vs => .tup (fixVs m vs)
  | .undef => .undef
def fixVs (m : Mem) : List V → List V
  | [] => []
  | v :: vs => fixV m v :: fixVs m vs
end
mutual
def refs : V → List Nat
  | .own r _ => [r]
  | .ptr r _ => [r]
  | .eptr r _ _ _ => [r]
  | .clo _ a b => refsAll a ++ refsAll b
  | .agg cs => refsAll cs
  | .tup vs => refsAll vs
  | _ => []
def refsAll : List V → List Nat
  | [] => []
  | v :: vs => refs v ++ refsAll vs
end
def fixCell (m : Mem) : Cell → Cell
  | .box t cs => .box t (fixVs m cs)
  | .arr fz fl _ s rows => .arr fz fl 0 s rows
  | .dead => .dead
def keepTm (m : Mem) (tm : Tmps) : List Nat → Tmps
  | [] => []
  | t :: ts => match get t tm with
    | some v => (t, fixV m v) :: keepTm m tm ts
    | none => keepTm m tm ts
def cellRefs (m : Mem) (r : Nat) : List Nat := match get r m with
  | some (.box _ cs) => refsAll cs
  | _ => []
def addAll : List Nat → List Nat → List Nat
  | [], l => l
  | a :: as, l => bif mem? a l then addAll as l else addAll as (a :: l)
def reach (m : Mem) : Nat → List Nat → List Nat
  | 0, l => l
  | n + 1, l => reach m n (addAll (l.flatMap (cellRefs m)) l)
def impKey (k : Nat) : Bool := Nat.ble impBase k && Nat.blt k (2 * impBase)
def roots (tm : Tmps) (m : Mem) : List Nat :=
  addAll (tm.flatMap fun x => refs x.2) ((m.map (·.1)).filter impKey)
def keepMem (all : Mem) (R : List Nat) : Mem → Mem
  | [] => []
  | (k, c) :: m => match c with
    | .dead => keepMem all R m
    | c => bif mem? k R then (k, fixCell all c) :: keepMem all R m else keepMem all R m
def closed (R : List Nat) (m : Mem) : Bool := m.all fun x => match x.2 with
  | .box _ cs => (refsAll cs).all fun r => mem? r R
  | _ => true
/-- the arrays that were handed in stand where they stood -/
def firm (m : Mem) : Bool := m.all fun x => match x.2 with
  | .arr _ _ ver _ _ => bif impKey x.1 then Nat.beq ver 0 else true
  | .dead => !(impKey x.1)
  | _ => true
def sortedK : Mem → Bool
  | [] => true
  | (k, _) :: m => match m with
    | [] => true
    | (j, _) :: _ => Nat.blt k j && sortedK m
def prune (ts : List Nat) (S : St) : Option St :=
  let tm := keepTm S.mem S.tm ts
  let R := reach S.mem 3 (roots tm S.mem)
  let m := keepMem S.mem R S.mem
  bif closed R m && (firm S.mem && sortedK S.mem) then some ⟨tm, m⟩ else none

/-! ### Regions -/
/-- is the operation wanted? The slot that it asks is known behind the question. -/
def wantedV (ops : Array Oper) (tm : Tmps) (o : Oper) : Option (Bool × Tmps) :=
  match o.guard with
  | none => some (true, tm)
  | some (j, want) => match ops[j]? with
    | some oj => match oj.dst with
      | some d => match getT d tm with
        | .d (.bool b) => match b with
          | true => some (want, put d (.d (.bool true)) tm)
          | false => some (!want, put d (.d (.bool false)) tm)
        | .tup vs => match vs with
          | [] => some (false, put d (.tup []) tm)
          | _ :: _ => none
        | _ => none
      | none => none
    | none => none

def dstOk (nt : Nat) : Option Nat → Bool
  | some d => Nat.blt d nt
  | none => true
def ntOf (P : Program) (fn : Nat) : Nat := match P.funcs[fn]? with | some g => g.ntmps | none => 0
def skipT (nt : Nat) (dst : Option Nat) (tm : Tmps) : Tmps := bif dstOk nt dst then putT dst (.tup []) tm else delT dst tm
def runOp (X : Ctx) (K : Kont) (fn : Nat) (ops : Array Oper) (i : Nat) (S : St) : Option (St × Log) :=
  match ops[i]? with
  | none => none
  | some o => match wantedV ops S.tm o with
    | none => none
    | some (false, tm) => some (⟨skipT (ntOf X.P fn) o.dst tm, S.mem⟩, .none)
    | some (true, tm) => match (vop X K fn tm o).run S.mem .none with
      | none => none
      | some (v, m, l) => bif dstOk (ntOf X.P fn) o.dst then some (⟨putT o.dst v tm, m⟩, l) else none
def runOps (X : Ctx) (K : Kont) (fn : Nat) (ops : Array Oper) : List Nat → St → List (Nat × Log) → Option (St × List (Nat × Log))
  | [], S, L => some (S, L)
  | i :: is, S, L => match runOp X K fn ops i S with
    | none => none
    | some (S', l) => runOps X K fn ops is S' ((i, l) :: L)

def disj (a b : List Nat) : Bool := a.all fun k => !(mem? k b)
def Log.apart (a b : Log) : Bool := disj a.w b.r && disj a.w b.w && disj a.r b.w
/-- does operation i come behind j? -/
def ordered (bef : Array Nat) (i j : Nat) : Bool := (bef.getD i 0).testBit j
/-- operations that Go leaves unordered look at, and write, different things -/
def drawOk (ops : Array Oper) (bef : Array Nat) : List (Nat × Log) → Bool
  | [] => true
  | (i, l) :: L => (L.all fun (j, l') => ordered bef i j || (l.apart l' && (match ops[i]?, ops[j]? with
      | some a, some b => a.apart ops b
      | _, _ => false))) && drawOk ops bef L
/-- operations wait for earlier ones alone -/
def backFrom : Nat → List Oper → Bool
  | _, [] => true
  | i, o :: l => (o.after.toList.all fun e => Nat.blt e.on i) && backFrom (i + 1) l
def backOk (ops : Array Oper) : Bool := backFrom 0 ops.toList
/-- an operand that is not this slot -/
def offT (d : Nat) : Operand → Bool
  | .tmp t => !(Nat.beq t d)
  | _ => true
def twoTs (args : Array Operand) (d1 d2 : Nat) : Bool := match args.toList with
  | [.tmp a, .tmp b] => Nat.beq a d1 && Nat.beq b d2
  | _ => false
/-- what comes back of it -/
def fuseOut : List Row × List Cell → Option (IntKind × Int × Bool × Nat × List Row)
  | ([[.int k n]], [.arr false fl' 0 s' rs']) => some (k, n, fl', s', rs')
  | _ => none
def fuseCk (e : Nat) (fl : Bool) (q : IntKind × Int × Bool × Nat × List Row) : Bool := Nat.beq q.2.2.2.1 e && ((fl == q.2.2.1) && (outOk fl q.2.2.2.2 && pureRows q.2.2.2.2))
def fuseF (X : Ctx) (f : Nat) : Bool := Nat.beq (modeOf X.adv f 0) 2 && Nat.beq (modeOf X.adv f 1) 0 && (match X.P.funcs[f]? with
  | some g => g.body.isSome && !(g.name == "runtime.NumGoroutine") && (match g.resultTypes.toList with | [t] => !(aggT X.P t) | _ => false)
  | none => false)
/-- load, move, call: a slice in an array's row is handed on, to be written -/
def fuseOp (X : Ctx) (K : Kont) (tm : Tmps) (o1 o2 o3 : Oper) : Acc (Nat × Nat × V × V) :=
  match o1, o2, o3 with
  | ⟨some d1, .load t (.tmp ta), _, _, _, none⟩, ⟨some d2, .move x, ty2, _, _, none⟩, ⟨_, .call ⟨.value (.func f), args, _⟩, _, _, _, none⟩ => do
    ck (!(Nat.beq d1 d2) && (twoTs args d1 d2 && (offT d1 x && (okT X.P t && (Nat.beq (szT X.P t) 1 && (!(aggT X.P t) && fuseF X f))))))
    let e ← op' (elT X.P t)
    match getT ta tm, ev X.P tm ty2 x with
    | .eptr r ver i off, .d (.int k n) => do
      match ← rd r with
      | some (.arr false false ver' s rows) => do
        ck (Nat.beq ver ver' && Nat.ble (off + 1) s)
        let row ← op' rows[i]?
        let rs ← op' (cOwn (szT X.P e) row off)
        ck (outOk (flatT X.P e) rs)
        let out ← op' (K f [.own impBase 0, .d (.int k n)] [.arr false (flatT X.P e) 0 (szT X.P e) rs])
        let q ← op' (fuseOut out)
        ck (fuseCk (szT X.P e) (flatT X.P e) q)
        wr r (.arr false false ver' s (rows.set i (splice row off [.sl true (szT X.P e) q.2.2.2.2])))
        pure (d1, d2, .d (.int k n), .d (.int q.1 q.2.1))
      | _ => .fail
    | _, _ => .fail
  | _, _, _ => .fail
def runFuse (X : Ctx) (K : Kont) (fn : Nat) (ops : Array Oper) (p : Nat) (S : St) : Option St :=
  match ops[p]?, ops[p + 1]?, ops[p + 2]? with
  | some o1, some o2, some o3 => match (fuseOp X K S.tm o1 o2 o3).run S.mem .none with
    | some ((d1, d2, kv, v), m, _) => bif Nat.blt d1 (ntOf X.P fn) && (Nat.blt d2 (ntOf X.P fn) && dstOk (ntOf X.P fn) o3.dst) then some ⟨putT o3.dst v (put d2 kv (put d1 .undef S.tm)), m⟩ else none
    | none => none
  | _, _, _ => none
def regionRun (X : Ctx) (K : Kont) (fn id : Nat) (ops : Array Oper) (draw : Bool) (S : St) : Option (St × List (Nat × Log)) :=
  match X.adv.fuse fn id with
  | 0 => runOps X K fn ops (List.range ops.size) S []
  | p + 1 => match draw with
    | true => none
    | false => match runOps X K fn ops (List.range p) S [] with
      | some (S1, _) => match runFuse X K fn ops p S1 with
        | some S2 => runOps X K fn ops ((List.range ops.size).drop (p + 3)) S2 []
        | none => none
      | none => none
def region (X : Ctx) (K : Kont) (fn id : Nat) (ops : Array Oper) (draw : Bool) (S : St) : Option St :=
  match regionRun X K fn id ops draw S with
  | none => none
  | some (S', L) => bif (match draw with | false => true | true => X.P.follows .mixedOrders && (backOk ops && drawOk ops (Region.before ops) L)) then prune (X.adv.keep fn id) S' else none

/-! ### Code -/
inductive Ex where
  | normal
  | exit (id : Nat)
  | ret

/-- the value that a rising row of values comes to -/
noncomputable def lim {α : Type} (f : Nat → Option α) : Option α :=
  open Classical in if h : ∃ a n, f n = some a then some (Classical.choose h) else none
def iter (b : St → Option (Ex × St)) : Nat → St → Option (Ex × St)
  | 0, _ => none
  | n + 1, S => match b S with
    | some (.normal, S') => iter b n S'
    | r => r
noncomputable def loopL (b : St → Option (Ex × St)) (S : St) : Option (Ex × St) := lim fun n => iter b n S

def condV (P : Program) (tm : Tmps) (c : Operand) : Option Bool := match ev P tm 0 c with
  | .d (.bool b) => some b
  | _ => none
noncomputable def den (X : Ctx) (K : Kont) (fn : Nat) : Code → St → Option (Ex × St)
  | .skip, S => some (.normal, S)
  | .region id ops draw, S => match region X K fn id ops draw S with
    | some S' => some (.normal, S')
    | none => none
  | .seq a b, S => match den X K fn a S with
    | some (.normal, S') => den X K fn b S'
    | r => r
  | .cond c a b, S => match condV X.P S.tm c with
    | some true => den X K fn a S
    | some false => den X K fn b S
    | none => none
  | .block id c, S => match den X K fn c S with
    | some (.exit j, S') => bif Nat.beq j id then some (.normal, S') else some (.exit j, S')
    | r => r
  | .loop c, S => loopL (den X K fn c) S
  | .exit id, S => some (.exit id, S)
  | .ret, S => some (.ret, S)
  | _, _ => none

/-! ### Calls -/
def entArg (A : Adv) (f i : Nat) (fl : Bool) (v : V) : Acc V :=
  match modeOf A f i with
  | 1 => (match v with
    | .d (.sl true s rows) => do
      new i (.arr false fl 0 s rows)
      pure (.own i 0)
    | .d x => pure (.d (roD x))
    | _ => .fail)
  | _ => pure v
def entArgs (X : Ctx) (f : Nat) : Nat → List TypeId → List V → Acc Tmps
  | _, _, [] => pure []
  | i, ts, v :: vs => do
    let v ← entArg X.adv f i ((fls X.P 8 (ts.headD 0)).headD false) v
    let r ← entArgs X f (i + 1) ts.tail vs
    pure ((i, v) :: r)
def impMem : Nat → List Cell → Mem
  | _, [] => []
  | i, c :: cs => (impBase + i, c) :: impMem (i + 1) cs
def impKeys (n : Nat) : List Nat := (List.range n).map (impBase + ·)
def entry (X : Ctx) (f : Nat) (g : Func) (args : List V) (cells : List Cell) : Acc Tmps := do
  reAll X 9999 cells 0 (impKeys cells.length)
  entArgs X f 0 g.params.toList args

def resRow (P : Program) (tm : Tmps) (r : ResultVar) (t : TypeId) : Acc Row :=
  match r with
  | .tmp x => match aggT P t, getT x tm with
    | true, .agg cs => toRow cs
    | false, .agg _ => .fail
    | false, v => toRow [v]
    | true, _ => .fail
  | .cell a T => match getT a tm with
    | .ptr r 0 => do
      match ← rd r with
      | some (.box _ cs) => do
        ck (Nat.beq T t && Nat.beq cs.length (szT P T) && (okT P T && (aggT P T || Nat.beq cs.length 1)))
        toRow cs
      | _ => .fail
    | _ => .fail
def resRows (P : Program) (tm : Tmps) : List ResultVar → List TypeId → Acc (List Row)
  | [], [] => pure []
  | r :: rs, t :: ts => do
    let row ← resRow P tm r t
    let rows ← resRows P tm rs ts
    pure (row :: rows)
  | _, _ => .fail
def leave (X : Ctx) (g : Func) (n : Nat) (S : St) : Option (List Row × List Cell) :=
  match (do
    let rows ← resRows X.P S.tm g.results.toList g.resultTypes.toList
    let cells ← expAll X.adv (impKeys n) (impKeys n)
    pure (rows, cells) : Acc (List Row × List Cell)).run S.mem .none with
  | some (r, _, _) => some r
  | none => none
noncomputable def body (X : Ctx) (K : Kont) (f : Nat) (args : List V) (cells : List Cell) : Option (List Row × List Cell) :=
  match X.P.funcs[f]? with
  | some g => match g.body with
    | some c => bif !(Nat.ble cells.length impBase && Nat.ble args.length g.ntmps) then none else match (entry X f g args cells).run (impMem 0 cells) .none with
      | some (tm, m, _) => (match den X K f c ⟨tm, m⟩ with
        | some (.normal, S) => leave X g cells.length S
        | some (.ret, S) => leave X g cells.length S
        | _ => none)
      | none => none
    | none => none
  | none => none
noncomputable def callN (X : Ctx) : Nat → Kont
  | 0, _, _, _ => none
  | n + 1, f, args, cells => match X.prim f with
    | some p => p args cells
    | none => body X (callN X n) f args cells
noncomputable def call (X : Ctx) : Kont := fun f args cells => lim fun n => callN X n f args cells

end Go.Vm
