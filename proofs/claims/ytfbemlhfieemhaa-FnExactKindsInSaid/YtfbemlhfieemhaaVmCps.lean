/-
  The machine with its rest handed on: an open test parts the whole rest.
-/
import Derived.Test.YtfbemlhfieemhaaVmDenL
namespace Go.Vm
open Go

/-- what a call, or a loop, comes to: something open, and how it is read -/
structure Res (α : Type) where
  β : Type
  o : Option β
  enc : β → α
def Res.val {α : Type} (r : Res α) : Option α := r.o.map r.enc
abbrev KonC := Nat → List V → List Cell → Res (List Row × List Cell)
/-- the ways in which a loop ends -/
inductive Alt (α : Type) : Type 1 where
  | leaf (β : Type) (enc : β → α)
  | sum (a b : Alt α)
def Alt.T {α : Type} : Alt α → Type
  | .leaf β _ => β
  | .sum a b => a.T ⊕ b.T
def Alt.enc {α : Type} : (a : Alt α) → a.T → α
  | .leaf _ enc, x => enc x
  | .sum a _, .inl x => a.enc x
  | .sum _ b, .inr x => b.enc x
structure ResA (α : Type) where
  alt : Alt α
  o : Option alt.T
def ResA.val {α : Type} (r : ResA α) : Option α := r.o.map r.alt.enc
def ResA.none {α : Type} : ResA α := ⟨.leaf Empty Empty.elim, .none⟩
abbrev LoopC := Nat → St → ResA (Ex × St)
def KonC.to (K : KonC) : Kont := fun f a c => (K f a c).val
def LoopC.to (L : LoopC) : Loops := fun n S => (L n S).val
def Res.none {α : Type} : Res α := ⟨Empty, .none, Empty.elim⟩

section
variable {R : Type}
def sumE {α β γ : Type} (r : α ⊕ β) (f : α → Option γ) (g : β → Option γ) : Option γ := match r with
  | .inl x => f x
  | .inr y => g y
def Alt.go {α : Type} : (a : Alt α) → a.T → (α → Option R) → Option R
  | .leaf _ enc => fun x k => k (enc x)
  | .sum a b => fun x k => sumE x (fun x => a.go x k) (fun y => b.go y k)
theorem Alt.go_eq {α : Type} (k : α → Option R) : ∀ (a : Alt α) (x : a.T), a.go x k = k (a.enc x)
  | .leaf _ enc, x => rfl
  | .sum a _, .inl x => Alt.go_eq k a x
  | .sum _ b, .inr x => Alt.go_eq k b x
theorem ResA.val_some {α : Type} {r : ResA α} {x : α} (h : r.val = some x) : ∃ y, r.o = some y ∧ r.alt.enc y = x := by
  simpa [ResA.val, Option.map_eq_some_iff] using h
theorem Res.val_some {α : Type} {r : Res α} {x : α} (h : r.val = some x) : ∃ y, r.o = some y ∧ r.enc y = x := by
  simpa [Res.val, Option.map_eq_some_iff] using h
def Acc.runC {α : Type} : Acc α → Mem → Log → (α → Mem → Log → Option R) → Option R
  | .ret a, m, l, k => k a m l
  | .fail, _, _, _ => none
  | .get i c, m, l, k => (c (Vm.get i m)).runC m (l.rd i) k
  | .set i x c, m, l, k => c.runC (put i x m) (l.wr i) k
  | .opt o c, m, l, k => match o with | some b => (c b).runC m l k | none => none
  | .guard b c, m, l, k => match b with | true => c.runC m l k | false => none

def callVC (X : Ctx) (K : KonC) (fn dst f : Nat) (args : List V) : Acc V := do
  let g ← op' X.P.funcs[f]?
  ck (g.body.isSome && !(g.name == "runtime.NumGoroutine"))
  let imp := impArgs X.adv f 0 [] args
  let args ← moveArgs X.adv f 0 args
  let cells ← expAll X.adv imp imp
  let (args, lent) ← lendArgs X.adv imp f 0 args
  ck (lent.all fun r => !(mem? r imp))
  let b ← op' (K f args cells).o
  let out := (K f args cells).enc b
  ck (Nat.beq out.1.length g.resultTypes.size)
  let need := !(lent.isEmpty) && (allAtts X.P (X.adv.att fn dst) 0 g.resultTypes.toList && imp.isEmpty)
  ck (bif need then out.1.all pureRow else true)
  freeze (bif need then [] else lent)
  reAll X dst out.2 0 imp
  let vs ← resAll X (X.adv.att fn dst) dst out.1 0 g.resultTypes.toList
  match vs with
  | [v] => pure v
  | vs => pure (.tup vs)
def vopC (X : Ctx) (K : KonC) (fn : Nat) (tm : Tmps) (o : Oper) : Acc V :=
  match o.op with
  | .call { callee := .value f, args, argTypes } => match ev X.P tm 0 f with
    | .clo g first caps => callVC X K fn (o.dst.getD 0) g (first ++ evArgs X.P tm args.toList argTypes.toList ++ caps)
    | _ => .fail
  | _ => vop X (fun _ _ _ => none) fn tm o

/-- values written out -/
def forceD (x : D) (k : D → Option R) : Option R := match x with
  | .int j n => k (.int j n)
  | .bool b => k (.bool b)
  | .str s => k (.str s)
  | .nilf => k .nilf
  | .sl o s rows => match o with
    | true => k (.sl true s rows)
    | false => k (.sl false s rows)
mutual
def forceV (v : V) (k : V → Option R) : Option R := match v with
  | .d x => forceD x fun x => k (.d x)
  | .nil s => k (.nil s)
  | .own r v => k (.own r v)
  | .ptr r o => k (.ptr r o)
  | .eptr r v i o => k (.eptr r v i o)
  | .rptr row o => k (.rptr row o)
  | .clo f a b => forceVs a fun a => forceVs b fun b => k (.clo f a b)
  | .agg cs => forceVs cs fun cs => k (.agg cs)
  | .tup cs => forceVs cs fun cs => k (.tup cs)
  | .undef => k .undef
def forceVs (vs : List V) (k : List V → Option R) : Option R := match vs with
  | [] => k []
  | v :: vs => forceV v fun v => forceVs vs fun vs => k (v :: vs)
end
def forceTm (tm : Tmps) (k : Tmps → Option R) : Option R := match tm with
  | [] => k []
  | (t, v) :: tm => forceV v fun v => forceTm tm fun tm => k ((t, v) :: tm)
def forceCell (c : Cell) (k : Cell → Option R) : Option R := match c with
  | .box t cs => forceVs cs fun cs => k (.box t cs)
  | .arr fz fl ver s rows => k (.arr fz fl ver s rows)
  | .dead => k .dead
def forceMem (m : Mem) (k : Mem → Option R) : Option R := match m with
  | [] => k []
  | (r, c) :: m => forceCell c fun c => forceMem m fun m => k ((r, c) :: m)

def wantedC (ops : Array Oper) (tm : Tmps) (o : Oper) (k : Bool → Tmps → Option R) : Option R :=
  match o.guard with
  | none => k true tm
  | some (j, want) => match ops[j]? with
    | some oj => match oj.dst with
      | some d => match getT d tm with
        | .d (.bool b) => match b with
          | true => k want (put d (.d (.bool true)) tm)
          | false => k (!want) (put d (.d (.bool false)) tm)
        | .tup vs => match vs with
          | [] => k false (put d (.tup []) tm)
          | _ :: _ => none
        | _ => none
      | none => none
    | none => none
def runOpC (X : Ctx) (K : KonC) (fn : Nat) (ops : Array Oper) (i : Nat) (S : St) (k : St → Log → Option R) : Option R :=
  match ops[i]? with
  | none => none
  | some o => wantedC ops S.tm o fun b tm => match b with
    | false => k ⟨skipT (ntOf X.P fn) o.dst tm, S.mem⟩ .none
    | true => (vopC X K fn tm o).runC S.mem .none fun v m l => bif dstOk (ntOf X.P fn) o.dst then forceV v fun v => k ⟨putT o.dst v tm, m⟩ l else none
def runOpsC (X : Ctx) (K : KonC) (fn : Nat) (ops : Array Oper) : List Nat → St → List (Nat × Log) → (St → List (Nat × Log) → Option R) → Option R
  | [], S, L, k => k S L
  | i :: is, S, L, k => runOpC X K fn ops i S fun S' l => runOpsC X K fn ops is S' ((i, l) :: L) k
def drawB (X : Ctx) (ops : Array Oper) (L : List (Nat × Log)) : Bool → Bool
  | false => true
  | true => X.P.follows .mixedOrders && (backOk ops && drawOk ops (Region.before ops) L)
def fuseOpC (X : Ctx) (K : KonC) (tm : Tmps) (o1 o2 o3 : Oper) : Acc (Nat × Nat × V × V) :=
  match o1, o2, o3 with
  | ⟨some d1, .load t (.tmp ta), _, _, _, none⟩, ⟨some d2, .move x, ty2, _, _, none⟩, ⟨_, .call ⟨.value (.func f), args, _⟩, _, _, _, none⟩ => do
    ck (!(Nat.beq d1 d2) && (twoTs args d1 d2 && (offT d1 x && (okT X.P t && (Nat.beq (szT X.P t) 1 && (!(aggT X.P t) && fuseF X f))))))
    let e ← op' (elT X.P t)
    match getT ta tm, ev X.P tm ty2 x with
    | .eptr r ver i off, .d (.int k n) => do
      match ← rd r with
      | some (.arr false false ver' s rows) => do
        ck (Nat.beq ver ver' && Nat.ble (off + 1) s)
        let row ← op' rows[i]?
        let rs ← op' (cOwn (szT X.P e) row off)
        ck (outOk (flatT X.P e) rs)
        let b ← op' (K f [.own impBase 0, .d (.int k n)] [.arr false (flatT X.P e) 0 (szT X.P e) rs]).o
        let out := (K f [.own impBase 0, .d (.int k n)] [.arr false (flatT X.P e) 0 (szT X.P e) rs]).enc b
        let q ← op' (fuseOut out)
        ck (fuseCk (szT X.P e) (flatT X.P e) q)
        wr r (.arr false false ver' s (rows.set i (splice row off [.sl true (szT X.P e) q.2.2.2.2])))
        pure (d1, d2, .d (.int k n), .d (.int q.1 q.2.1))
      | _ => .fail
    | _, _ => .fail
  | _, _, _ => .fail
def runFuseC (X : Ctx) (K : KonC) (fn : Nat) (ops : Array Oper) (p : Nat) (S : St) (k : St → Option R) : Option R :=
  match ops[p]?, ops[p + 1]?, ops[p + 2]? with
  | some o1, some o2, some o3 => (fuseOpC X K S.tm o1 o2 o3).runC S.mem .none fun r m _ =>
    bif Nat.blt r.1 (ntOf X.P fn) && (Nat.blt r.2.1 (ntOf X.P fn) && dstOk (ntOf X.P fn) o3.dst) then k ⟨putT o3.dst r.2.2.2 (put r.2.1 r.2.2.1 (put r.1 .undef S.tm)), m⟩ else none
  | _, _, _ => none
def regionRunC (X : Ctx) (K : KonC) (fn id : Nat) (ops : Array Oper) (draw : Bool) (S : St) (k : St → List (Nat × Log) → Option R) : Option R :=
  match X.adv.fuse fn id with
  | 0 => runOpsC X K fn ops (List.range ops.size) S [] k
  | p + 1 => match draw with
    | true => none
    | false => runOpsC X K fn ops (List.range p) S [] fun S1 _ => runFuseC X K fn ops p S1 fun S2 => runOpsC X K fn ops ((List.range ops.size).drop (p + 3)) S2 [] k
def regionC (X : Ctx) (K : KonC) (fn id : Nat) (ops : Array Oper) (draw : Bool) (S : St) (k : St → Option R) : Option R :=
  regionRunC X K fn id ops draw S fun S' L =>
    bif drawB X ops L draw then (match prune (X.adv.keep fn id) S' with
      | some S'' => forceTm S''.tm fun tm => forceMem S''.mem fun m => k ⟨tm, m⟩
      | none => none) else none
def denC (X : Ctx) (K : KonC) (L : LoopC) (fn : Nat) : Code → St → (Ex → St → Option R) → Option R
  | .skip, S, k => k .normal S
  | .region id ops draw, S, k => regionC X K fn id ops draw S fun S' => k .normal S'
  | .seq a b, S, k => denC X K L fn a S fun e S' => match e with
    | .normal => denC X K L fn b S' k
    | e => k e S'
  | .cond c a b, S, k => match ev X.P S.tm 0 c with
    | .d (.bool t) => (match t with
      | true => denC X K L fn a S k
      | false => denC X K L fn b S k)
    | _ => none
  | .block id c, S, k => denC X K L fn c S fun e S' => match e with
    | .exit j => bif Nat.beq j id then k .normal S' else k (.exit j) S'
    | e => k e S'
  | .loop c, S, k => match (L (lid c) S).o with
    | some b => (L (lid c) S).alt.go b fun r => k r.1 r.2
    | none => none
  | .exit id, S, k => k (.exit id) S
  | .ret, S, k => k .ret S
  | _, _, _ => none
def leaveC (X : Ctx) (g : Func) (n : Nat) (S : St) (k : List Row → List Cell → Option R) : Option R :=
  (do
    let rows ← resRows X.P S.tm g.results.toList g.resultTypes.toList
    let cells ← expAll X.adv (impKeys n) (impKeys n)
    pure (rows, cells) : Acc (List Row × List Cell)).runC S.mem .none fun r _ _ => k r.1 r.2
def bodyC (X : Ctx) (K : KonC) (L : LoopC) (f : Nat) (args : List V) (cells : List Cell) (k : List Row → List Cell → Option R) : Option R :=
  match X.P.funcs[f]? with
  | some g => match g.body with
    | some c => bif !(Nat.ble cells.length impBase && Nat.ble args.length g.ntmps) then none else (entry X f g args cells).runC (impMem 0 cells) .none fun tm m _ =>
      forceTm tm fun tm => forceMem m fun m => denC X K L f c ⟨tm, m⟩ fun e S => match e with
        | .normal => leaveC X g cells.length S k
        | .ret => leaveC X g cells.length S k
        | .exit _ => none
    | none => none
  | none => none

/-! ### it comes to the same -/
theorem runC_eq {α : Type} (A : Acc α) : ∀ (m : Mem) (l : Log) (k : α → Mem → Log → Option R), A.runC m l k = (A.run m l).bind fun r => k r.1 r.2.1 r.2.2 := by
  induction A with
  | ret a => intro m l k; rfl
  | fail => intro m l k; rfl
  | get i c ih => intro m l k; exact ih _ _ _ _
  | set i x c ih => intro m l k; exact ih _ _ _
  | opt o c ih => intro m l k; cases o with
    | none => rfl
    | some b => exact ih b _ _ _
  | guard b c ih => intro m l k; cases b with
    | false => rfl
    | true => exact ih _ _ _
theorem forceD_eq (x : D) (k : D → Option R) : forceD x k = k x := by
  cases x with
  | sl o s rows => cases o <;> rfl
  | _ => rfl
mutual
theorem forceV_eq : ∀ (v : V) (k : V → Option R), forceV v k = k v
  | .d x, k => by simp only [forceV, forceD_eq]
  | .nil s, k => by simp only [forceV]
  | .own r v, k => by simp only [forceV]
  | .ptr r o, k => by simp only [forceV]
  | .eptr r v i o, k => by simp only [forceV]
  | .rptr row o, k => by simp only [forceV]
  | .clo f a b, k => by simp only [forceV]; rw [forceVs_eq a, forceVs_eq b]
  | .agg cs, k => by simp only [forceV]; rw [forceVs_eq cs]
  | .tup cs, k => by simp only [forceV]; rw [forceVs_eq cs]
  | .undef, k => by simp only [forceV]
theorem forceVs_eq : ∀ (vs : List V) (k : List V → Option R), forceVs vs k = k vs
  | [], k => by simp only [forceVs]
  | v :: vs, k => by simp only [forceVs]; rw [forceV_eq v, forceVs_eq vs]
end
theorem forceTm_eq : ∀ (tm : Tmps) (k : Tmps → Option R), forceTm tm k = k tm
  | [], k => rfl
  | (t, v) :: tm, k => by simp only [forceTm]; rw [forceV_eq v, forceTm_eq tm]
theorem forceCell_eq (c : Cell) (k : Cell → Option R) : forceCell c k = k c := by
  cases c with
  | box t cs => simp only [forceCell, forceVs_eq]
  | _ => rfl
theorem forceMem_eq : ∀ (m : Mem) (k : Mem → Option R), forceMem m k = k m
  | [], k => rfl
  | (t, v) :: m, k => by simp only [forceMem]; rw [forceCell_eq v, forceMem_eq m]

def ARun {α : Type} (a b : Acc α) : Prop := ∀ m l, a.run m l = b.run m l
theorem ARun.refl {α : Type} (a : Acc α) : ARun a a := fun _ _ => rfl
theorem ARun.bind {α β : Type} {a : Acc α} {f g : α → Acc β} (h : ∀ x, ARun (f x) (g x)) : ARun (a >>= f) (a >>= g) := by
  intro m l
  rw [run_bind, run_bind]
  cases a.run m l with
  | none => rfl
  | some r => obtain ⟨x, m, l⟩ := r; exact h x m l
theorem ARun.enc {α β γ : Type} {o : Option β} {enc : β → α} {f : α → Acc γ} : ARun (op' o >>= fun b => f (enc b)) (op' (o.map enc) >>= f) := by
  intro m l
  rw [run_bind, run_bind]
  cases o <;> rfl
theorem callVC_run {X : Ctx} {K : KonC} {fn dst f : Nat} {args : List V} {m : Mem} {l : Log} : (callVC X K fn dst f args).run m l = (callV X K.to fn dst f args).run m l := by
  revert m l
  show ARun _ _
  unfold callVC callV
  refine ARun.bind fun g => ARun.bind fun _ => ARun.bind fun args => ARun.bind fun cells => ARun.bind fun ⟨args, lent⟩ => ARun.bind fun _ => ?_
  exact ARun.enc (o := (K f args cells).o) (enc := (K f args cells).enc) (f := fun out => do
    ck (Nat.beq out.1.length g.resultTypes.size)
    ck (bif (!(lent.isEmpty) && (allAtts X.P (X.adv.att fn dst) 0 g.resultTypes.toList && (impArgs X.adv _ 0 [] _).isEmpty)) then out.1.all pureRow else true)
    freeze (bif (!(lent.isEmpty) && (allAtts X.P (X.adv.att fn dst) 0 g.resultTypes.toList && (impArgs X.adv _ 0 [] _).isEmpty)) then [] else lent)
    reAll X dst out.2 0 (impArgs X.adv _ 0 [] _)
    let vs ← resAll X (X.adv.att fn dst) dst out.1 0 g.resultTypes.toList
    match vs with
    | [v] => pure v
    | vs => pure (.tup vs))
theorem vopC_run {X : Ctx} {K : KonC} {fn : Nat} {tm : Tmps} {o : Oper} {m : Mem} {l : Log} : (vopC X K fn tm o).run m l = (vop X K.to fn tm o).run m l := by
  obtain ⟨dst, op, type, pos, after, guard⟩ := o
  cases op <;> try rfl
  case call c =>
    obtain ⟨callee, args, tys⟩ := c
    cases callee with
    | value f =>
      simp only [vopC, vop]
      cases ev X.P tm 0 f with
      | clo g a b => exact callVC_run
      | _ => rfl
    | invoke r m => rfl
    | builtin b => cases b <;> rfl
  case makeFunc f a b => cases f <;> rfl
  case slice a b c d e => cases e <;> rfl
theorem wantedC_eq (ops : Array Oper) (tm : Tmps) (o : Oper) (k : Bool → Tmps → Option R) : wantedC ops tm o k = (wantedV ops tm o).bind fun r => k r.1 r.2 := by
  unfold wantedC wantedV
  cases o.guard with
  | none => rfl
  | some jw =>
    obtain ⟨j, want⟩ := jw
    simp only
    cases ops[j]? with
    | none => rfl
    | some oj =>
      simp only
      cases oj.dst with
      | none => rfl
      | some d =>
        simp only
        cases getT d tm with
        | d x => cases x with
          | bool b => cases b <;> rfl
          | _ => rfl
        | tup vs => cases vs <;> rfl
        | _ => rfl
theorem runOpC_eq (X : Ctx) (K : KonC) (fn : Nat) (ops : Array Oper) (i : Nat) (S : St) (k : St → Log → Option R) : runOpC X K fn ops i S k = (runOp X K.to fn ops i S).bind fun r => k r.1 r.2 := by
  unfold runOpC runOp
  cases ops[i]? with
  | none => rfl
  | some o =>
    simp only [wantedC_eq]
    cases wantedV ops S.tm o with
    | none => rfl
    | some r =>
      obtain ⟨b, tm⟩ := r
      cases b with
      | false => rfl
      | true =>
        simp only [Option.bind_some, runC_eq, vopC_run]
        cases (vop X K.to fn tm o).run S.mem .none with
        | none => rfl
        | some r =>
          obtain ⟨v, m, l⟩ := r
          simp only [Option.bind_some]
          cases dstOk (ntOf X.P fn) o.dst with
          | false => rfl
          | true => simp only [cond_true, forceV_eq]; rfl
theorem runOpsC_eq (X : Ctx) (K : KonC) (fn : Nat) (ops : Array Oper) : ∀ (is : List Nat) (S : St) (L : List (Nat × Log)) (k : St → List (Nat × Log) → Option R), runOpsC X K fn ops is S L k = (runOps X K.to fn ops is S L).bind fun r => k r.1 r.2
  | [], S, L, k => rfl
  | i :: is, S, L, k => by
    simp only [runOpsC, runOps_eq, runOpC_eq]
    cases runOp X K.to fn ops i S with
    | none => rfl
    | some r => simp only [Option.bind_some]; exact runOpsC_eq X K fn ops is _ _ k
theorem fuseOpC_run {X : Ctx} {K : KonC} {tm : Tmps} {o1 o2 o3 : Oper} {m : Mem} {l : Log} : (fuseOpC X K tm o1 o2 o3).run m l = (fuseOp X K.to tm o1 o2 o3).run m l := by
  revert m l
  show ARun _ _
  unfold fuseOpC fuseOp
  split
  · rename_i d1 t ta _ _ _ d2 x ty2 _ _ _ f args _ _ _ _
    refine ARun.bind fun _ => ARun.bind fun e => ?_
    generalize getT ta tm = ga
    generalize ev X.P tm ty2 x = kv
    cases ga with
    | eptr r ver i off =>
      cases kv with
      | d y =>
        cases y with
        | int k n =>
          refine ARun.bind fun c => ?_
          cases c with
          | none => exact ARun.refl _
          | some c => cases c with
            | arr fz fl ver' s rows => cases fz with
              | true => exact ARun.refl _
              | false => cases fl with
                | true => exact ARun.refl _
                | false =>
                  refine ARun.bind fun _ => ARun.bind fun row => ARun.bind fun rs => ARun.bind fun _ => ?_
                  exact ARun.enc (o := (K f [.own impBase 0, .d (.int k n)] [.arr false (flatT X.P e) 0 (szT X.P e) rs]).o) (enc := (K f [.own impBase 0, .d (.int k n)] [.arr false (flatT X.P e) 0 (szT X.P e) rs]).enc) (f := fun out => do
                    let q ← op' (fuseOut out)
                    ck (fuseCk (szT X.P e) (flatT X.P e) q)
                    wr r (.arr false false ver' s (rows.set i (splice row off [.sl true (szT X.P e) q.2.2.2.2])))
                    pure (d1, d2, V.d (.int k n), V.d (.int q.1 q.2.1)))
            | _ => exact ARun.refl _
        | _ => exact ARun.refl _
      | _ => exact ARun.refl _
    | _ => exact ARun.refl _
  · rename_i hno
    split
    · exfalso
      apply hno <;> rfl
    · exact ARun.refl _
theorem runFuseC_eq (X : Ctx) (K : KonC) (fn : Nat) (ops : Array Oper) (p : Nat) (S : St) (k : St → Option R) : runFuseC X K fn ops p S k = (runFuse X K.to fn ops p S).bind k := by
  simp only [runFuseC, runFuse_eq]
  cases ops[p]? with
  | none => rfl
  | some o1 => cases ops[p + 1]? with
    | none => rfl
    | some o2 => cases ops[p + 2]? with
      | none => rfl
      | some o3 =>
        simp only [runC_eq, fuseOpC_run]
        cases (fuseOp X K.to S.tm o1 o2 o3).run S.mem .none with
        | none => rfl
        | some r =>
          simp only [Option.bind_some]
          cases (Nat.blt r.1.1 (ntOf X.P fn) && (Nat.blt r.1.2.1 (ntOf X.P fn) && dstOk (ntOf X.P fn) o3.dst)) <;> rfl
theorem regionRunC_eq (X : Ctx) (K : KonC) (fn id : Nat) (ops : Array Oper) (draw : Bool) (S : St) (k : St → List (Nat × Log) → Option R) : regionRunC X K fn id ops draw S k = (regionRun X K.to fn id ops draw S).bind fun r => k r.1 r.2 := by
  simp only [regionRunC, regionRun_eq]
  cases X.adv.fuse fn id with
  | zero => simp only [runOpsC_eq]
  | succ p =>
    cases draw with
    | true => rfl
    | false =>
      simp only [runOpsC_eq, runFuseC_eq]
      cases runOps X K.to fn ops (List.range p) S [] with
      | none => rfl
      | some r =>
        simp only [Option.bind_some]
        cases runFuse X K.to fn ops p r.1 <;> rfl
theorem regionC_eq (X : Ctx) (K : KonC) (fn id : Nat) (ops : Array Oper) (draw : Bool) (S : St) (k : St → Option R) : regionC X K fn id ops draw S k = (region X K.to fn id ops draw S).bind k := by
  simp only [regionC, region_eq, regionRunC_eq]
  cases regionRun X K.to fn id ops draw S with
  | none => rfl
  | some r =>
    simp only [Option.bind_some]
    have hp : (match prune (X.adv.keep fn id) r.1 with
      | some S'' => forceTm S''.tm fun tm => forceMem S''.mem fun m => k ⟨tm, m⟩
      | none => none) = (prune (X.adv.keep fn id) r.1).bind k := by
      cases prune (X.adv.keep fn id) r.1 with
      | none => rfl
      | some S'' => simp only [forceTm_eq, forceMem_eq]; rfl
    rw [hp]
    cases draw with
    | false => rfl
    | true =>
      simp only [drawB]
      cases (X.P.follows .mixedOrders && (backOk ops && drawOk ops (Region.before ops) r.2)) <;> rfl
theorem denC_eq (X : Ctx) (K : KonC) (L : LoopC) (fn : Nat) (c : Code) : ∀ (S : St) (k : Ex → St → Option R), denC X K L fn c S k = (denL X K.to L.to fn c S).bind fun r => k r.1 r.2 := by
  induction c with
  | skip => intro S k; rfl
  | region id ops draw =>
    intro S k
    simp only [denC, denL, regionC_eq]
    cases region X K.to fn id ops draw S <;> rfl
  | seq a b iha ihb =>
    intro S k
    simp only [denC, denL, iha]
    cases denL X K.to L.to fn a S with
    | none => rfl
    | some r =>
      obtain ⟨e, S'⟩ := r
      cases e with
      | normal => exact ihb S' k
      | exit id => rfl
      | ret => rfl
  | cond c a b iha ihb =>
    intro S k
    simp only [denC, denL, condV]
    cases ev X.P S.tm 0 c with
    | d x => cases x with
      | bool t => cases t with
        | true => exact iha S k
        | false => exact ihb S k
      | _ => rfl
    | _ => rfl
  | block id c ih =>
    intro S k
    simp only [denC, denL, ih]
    cases denL X K.to L.to fn c S with
    | none => rfl
    | some r =>
      obtain ⟨e, S'⟩ := r
      cases e with
      | normal => rfl
      | ret => rfl
      | exit j =>
        simp only [Option.bind_some]
        cases Nat.beq j id <;> rfl
  | loop c ih =>
    intro S k
    simp only [denC, denL, LoopC.to, ResA.val, Alt.go_eq]
    cases (L (lid c) S).o <;> rfl
  | exit id => intro S k; rfl
  | ret => intro S k; rfl
  | _ => intro S k; rfl
theorem leaveC_eq (X : Ctx) (g : Func) (n : Nat) (S : St) (k : List Row → List Cell → Option R) : leaveC X g n S k = (leave X g n S).bind fun r => k r.1 r.2 := by
  simp only [leaveC, leave, runC_eq]
  split
  · rename_i r m l he; simp only [he]; rfl
  · rename_i he; simp only [he]; rfl
theorem bodyC_eq (X : Ctx) (K : KonC) (L : LoopC) (f : Nat) (args : List V) (cells : List Cell) (k : List Row → List Cell → Option R) : bodyC X K L f args cells k = (bodyL X K.to L.to f args cells).bind fun r => k r.1 r.2 := by
  simp only [bodyC, bodyL]
  cases X.P.funcs[f]? with
  | none => rfl
  | some g =>
    simp only
    cases g.body with
    | none => rfl
    | some c =>
      simp only
      generalize (!(Nat.ble cells.length impBase && Nat.ble args.length g.ntmps)) = q
      cases q with
      | true => rfl
      | false =>
        simp only [cond_false, runC_eq]
        cases (entry X f g args cells).run (impMem 0 cells) .none with
        | none => rfl
        | some r =>
          obtain ⟨tm, m, l⟩ := r
          simp only [Option.bind_some, forceTm_eq, forceMem_eq, denC_eq]
          cases denL X K.to L.to f c ⟨tm, m⟩ with
          | none => rfl
          | some r =>
            obtain ⟨e, S⟩ := r
            cases e with
            | normal => simp only [Option.bind_some, leaveC_eq]
            | ret => simp only [Option.bind_some, leaveC_eq]
            | exit j => rfl
end

/-- a call by its body's equation -/
theorem call_ofC {X : Ctx} {K : KonC} {L : LoopC} {f : Nat} {args : List V} {cells : List Cell} {r : List Row × List Cell} (hp : X.prim f = none) (hK : KLe K.to (call X)) (hL : LOk X (call X) f L.to (loops (codeOf X.P f)))
    (h : bodyC X K L f args cells (fun a b => some (a, b)) = some r) : call X f args cells = some r := by
  refine call_ofL hp hK hL ?_
  rw [bodyC_eq] at h
  cases hb : bodyL X K.to L.to f args cells with
  | none => rw [hb] at h; cases h
  | some q => rw [hb] at h; exact h
theorem den_ofC {X : Ctx} {K : KonC} {L : LoopC} {fn : Nat} {c : Code} {S : St} {r : Ex × St} (hK : KLe K.to (call X)) (hL : LOk X (call X) fn L.to (loops c)) (h : denC X K L fn c S (fun a b => some (a, b)) = some r) : den X (call X) fn c S = some r := by
  refine den_ofL hK hL ?_
  rw [denC_eq] at h
  cases hb : denL X K.to L.to fn c S with
  | none => rw [hb] at h; cases h
  | some q => rw [hb] at h; exact h
end Go.Vm
