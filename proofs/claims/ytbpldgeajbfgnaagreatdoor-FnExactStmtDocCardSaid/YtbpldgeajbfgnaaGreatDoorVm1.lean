import Derived.Orders
import Derived.KernelRfl
import Derived.RowKit3
import Derived.Laws.Cells
import Derived.Laws.Rows
import Derived.Laws.OwnMore
import Derived.Below
import Derived.Laws.Append
import Derived.Laws.AppendOwn
import Derived.Laws.CopyRow
import Derived.Laws.Slices
import Derived.Laws.MakeOwn
import Derived.Laws.BytesString
set_option linter.unusedVariables false
set_option linter.unusedSimpArgs false
namespace Go.Vm
open Go
inductive D where
 |int (k:IntKind) (n:Int)
 |bool (b:Bool)
 |str (s:List UInt8)
 |MG
 |sl (own:Bool) (s:Nat) (rows:List (List D))
 deriving Inhabited
abbrev Row:=List D
abbrev aF:=List UInt8
abbrev ak:=List Row
inductive V where
 |d (x:D)
 |nil (s:Nat)
 |own (r ver:Nat)
 |ptr (r off:Nat)
 |sS (r ver i off:Nat)
 |sJ (row:Row) (off:Nat)
 |clo (f:Nat) (first caps:List V)
 |agg (cs:List V)
 |yE (vs:List V)
 |undef
 deriving Inhabited
inductive Cell where
 |box (t:TypeId) (cs:List V)
 |arr (fz fl:Bool) (ver s:Nat) (rows:List Row)
 |dead
 |DJ (ver s:Nat) (rows:List Row)
 deriving Inhabited
abbrev Mem:=List (Nat×Cell)
abbrev jP:=List (Nat×V)
structure St where
 tm:jP
 mem:Mem
def get{α:Type}(k:Nat):List (Nat×α)→Option α
 |[]=>none
 |(j,x)::l=>bif Nat.beq k j then some x else get k l
def put{α:Type}(k:Nat)(x:α):List (Nat×α)→List (Nat×α)
 |[]=>[(k,x)]
 |(j,y)::l=>bif Nat.beq k j then(k,x)::l else bif Nat.blt k j then(k,x)::(j,y)::l else(j,y)::put k x l
def del{α:Type}(k:Nat):List (Nat×α)→List (Nat×α)
 |[]=>[]
 |(j,y)::l=>bif Nat.beq k j then del k l else(j,y)::del k l
def Px(t:Nat)(tm:jP):V:=match get t tm with|some v=>v|none=> .undef
def Um(dst:Option Nat)(v:V)(tm:jP):jP:=match dst with|some t=>put t v tm|none=>tm
def as3(dst:Option Nat)(tm:jP):jP:=match dst with|some t=>del t tm|none=>tm
inductive Acc(α:Type):Type 1 where
 |ret (a:α)
 |fail
 |get (k:Nat) (c:Option Cell→Acc α)
 |set (k:Nat) (x:Cell) (c:Acc α)
 |opt {β:Type} (o:Option β) (c:β→Acc α)
 |guard (b:Bool) (c:Acc α)
structure Log where
 r:List Nat
 w:List Nat
def Log.rd(l:Log)(k:Nat):Log:={l with r:=k::l.r}
def Log.wr(l:Log)(k:Nat):Log:={l with w:=k::l.w}
def Log.none:Log:=⟨[],[]⟩
def Acc.bind{α β:Type}:Acc α→(α→Acc β)→Acc β
 | .ret a,f=>f a
 | .fail,_=> .fail
 | .get k c,f=> .get k fun x=>(c x).bind f
 | .set k x c,f=> .set k x (c.bind f)
 | .opt o c,f=> .opt o fun b=>(c b).bind f
 | .guard b c,f=> .guard b (c.bind f)
def Acc.run{α:Type}:Acc α→Mem→Log→Option (α×Mem×Log)
 | .ret a,m,l=>some (a,m,l)
 | .fail,_,_=>none
 | .get k c,m,l=>(c (Vm.get k m)).run m (l.rd k)
 | .set k x c,m,l=>c.run (put k x m) (l.wr k)
 | .opt o c,m,l=>match o with|some b=>(c b).run m l|none=>none
 | .guard b c,m,l=>match b with|true=>c.run m l|false=>none
inductive CT where
 |int (k:IntKind)|bool|str|sl (s:Nat)|other
 deriving Inhabited
def alK(f:TypeId→Option (List CT)):List TypeId→Option (List CT)
 |[]=>some []
 |t::ts=>match f t,alK f ts with|some a,some b=>some (a++b)|_,_=>none
def cts(P:Program):Nat→TypeId→Option (List CT)
 |0,_=>none
 |n+1,t=>match P.underlying t with
  |some (.int k)=>some [.int k]
  |some .bool=>some [.bool]
  |some .string=>some [.str]
  |some (.slice e)=>match P.info? e with|some i=>some [.sl i.size]|none=>none
  |some (.struct fs)=>alK (cts P n) (fs.toList.map (·.type))
  |some (.array k e)=>alK (cts P n) (List.replicate k e)
  |some (.pointer _)|some (.func ..)=>some [.other]
  |_=>none
def KI(P:Program)(t:TypeId):List CT:=match cts P 8 t with|some l=>l|none=>[.other]
def Jk(P:Program)(t:TypeId):Bool:=match P.underlying t with|some (.struct _)=>true|some (.array ..)=>true|_=>false
def lC(P:Program)(t:TypeId):Nat:=match P.info? t with|some i=>i.size|none=>0
def elT(P:Program)(t:TypeId):Option TypeId:=match P.underlying t with|some (.slice e)=>some e|_=>none
def Xr:CT→Value→V
 |_,.bool b=> .d (.bool b)
 |_,.int k n=> .d (.int k n)
 |_,.string s=> .d (.str s.data.toList)
 |_,.nilFunc=> .d .MG
 | .sl s,.slice none 0 0=> .nil s
 |_,_=> .undef
def BJ:List CT→List Value→List V
 |c::cs,v::vs=>Xr c v::BJ cs vs
 |[],_::vs=> .undef::BJ [] vs
 |_,[]=>[]
def cv(P:Program)(t:TypeId):Value→V
 | .agg cs=> .agg (BJ (KI P t) cs.toList)
 |v=>match KI P t with|c::_=>Xr c v|[]=> .undef
def JM(P:Program)(t:TypeId):Option (List V):=
 match P.info? t with
 |some i=>match i.zero with
  |some z=>some (BJ (KI P t) z.cells.toList)
  |none=>none
 |none=>none
def V.cells:V→List V
 | .agg cs=>cs
 |v=>[v]
def JO(P:Program)(t:TypeId)(cs:List V):Option V:=
 bif Jk P t then some (.agg cs) else match cs with|[v]=>some v|_=>none
def asInt(k:IntKind):D→Option Int
 | .int k' n=>bif decide (k'=k) then some n else none
 |_=>none
def asBool:D→Option Bool
 | .bool b=>some b
 |_=>none
def adx:D→Option (List UInt8)
 | .str s=>some s
 |_=>none
def apb(s:Nat):D→Option (List Row)
 | .sl _ s' rows=>bif Nat.beq s' s then some rows else none
 |_=>none
def as4(s:Nat):D→Option (List Row)
 | .sl own s' rows=>bif Nat.beq s' s then(match own with|false=>some rows|true=>match rows with|[]=>some []|_::_=>none) else none
 |_=>none
def amS(s:Nat):D→Option (List Row)
 | .sl own s' rows=>match own with|true=>bif Nat.beq s' s then some rows else none|false=>none
 |_=>none
def nth(row:Row)(j:Nat):D:=match row[j]? with|some x=>x|none=> .MG
def dn(k:IntKind)(row:Row)(j:Nat):Option Int:=asInt k (nth row j)
def ady(row:Row)(j:Nat):Option Bool:=asBool (nth row j)
def cStr(row:Row)(j:Nat):Option (List UInt8):=adx (nth row j)
def BK(s:Nat)(row:Row)(j:Nat):Option (List Row):=apb s (nth row j)
def cRo(s:Nat)(row:Row)(j:Nat):Option (List Row):=as4 s (nth row j)
def aeC(s:Nat)(row:Row)(j:Nat):Option (List Row):=amS s (nth row j)
mutual
def D.fz:D→D
 | .int k n=> .int k n
 | .bool b=> .bool b
 | .str s=> .str s
 | .MG=> .MG
 | .sl _ s rows=> .sl false s (aA rows)
def aA:List Row→List Row
 |[]=>[]
 |r::rs=>qZ r::aA rs
def qZ:Row→Row
 |[]=>[]
 |x::r=>x.fz::qZ r
end
def roD:D→D
 | .sl _ s rows=> .sl false s rows
 |x=>x
def D.flat:D→Bool
 | .sl ..=>false
 |_=>true
def aB(rows:List Row):Bool:=rows.all fun r=>r.all D.flat
def one:V→Bool
 | .d _=>true
 | .nil _=>true
 | .own _ _=>true
 | .ptr _ _=>true
 | .sS ..=>true
 | .sJ _ _=>true
 | .clo ..=>true
 |_=>false
mutual
def D.pure:D→Bool
 | .sl own _ rows=>match own with|true=>AQ rows|false=>rows.isEmpty
 |_=>true
def AQ:List Row→Bool
 |[]=>true
 |r::rs=>dM r && AQ rs
def dM:Row→Bool
 |[]=>true
 |x::r=>x.pure && dM r
end
def He(strict:Bool):List CT→Row→Nat→(List V→Acc V)→Acc V
 |[],_,_,c=>c []
 | .int k::ts,row,j,c=> .opt (dn k row j) fun n=>He strict ts row (j+1) fun vs=>c (.d (.int k n)::vs)
 | .bool::ts,row,j,c=> .opt (ady row j) fun n=>He strict ts row (j+1) fun vs=>c (.d (.bool n)::vs)
 | .str::ts,row,j,c=> .opt (cStr row j) fun n=>He strict ts row (j+1) fun vs=>c (.d (.str n)::vs)
 | .sl s::ts,row,j,c=> .opt (bif strict then cRo s row j else BK s row j) fun rs=>He strict ts row (j+1) fun vs=>c (.d (.sl false s rs)::vs)
 | .other::_,_,_,_=> .fail
structure Adv where
 keep:Nat→Nat→List Nat
 move:Nat→List Nat
 ref:Nat→List Nat
 Zd:Nat→Nat→List Nat
 azG:Nat→List Nat
 fuse:Nat→Nat→Nat
 trunc:Nat→Nat→Bool
 raw:Nat→List Nat
structure Ctx where
 P:Program
 Jd:Adv
 Vt:Nat→Option (List V→List Cell→Option (List Row×List Cell))
 glob:Nat→Option Row
 aKh:Nat→Bool
abbrev jo:=Nat→List V→List Cell→Option (List Row×List Cell)
def mem?(k:Nat):List Nat→Bool
 |[]=>false
 |j::l=>bif Nat.beq k j then true else mem? k l
def auK:List CT→Bool
 |[]=>false
 | .sl _::_=>true
 |_::l=>auK l
def qm(P:Program)(e:TypeId):Bool:= !(auK (KI P e))
def vw(fl:Bool)(rows:List Row):List Row:=bif fl then rows else aA rows
instance:Monad Acc where
 pure:=.ret
 bind:=.bind
def rd(k:Nat):Acc (Option Cell):=.get k .ret
def wr(k:Nat)(x:Cell):Acc Unit:=.set k x (.ret ())
def ck(b:Bool):Acc Unit:=.guard b (.ret ())
def op'{β:Type}(o:Option β):Acc β:=.opt o .ret
def free(k:Nat):Acc Unit:=do
 match←rd k with
 |none=>pure ()
 |some _=> .fail
def new(k:Nat)(c:Cell):Acc Unit:=do
 free k
 wr k c
def seen(v:V):Acc (Nat×List Row):=
 match v with
 | .d (.sl _ s rows)=>pure (s,rows)
 | .nil s=>pure (s,[])
 | .own r ver=>do
  match←rd r with
  |some (.arr _ fl iU s rows)=>do ck (Nat.beq ver iU);pure (s,vw fl rows)
  |_=> .fail
 |_=> .fail
def TF(fl:Bool)(rows:List Row):Bool:=bif fl then aB rows else true
def toD(v:V):Acc D:=
 match v with
 | .d x=>pure (roD x)
 | .nil s=>pure (.sl true s [])
 | .own r ver=>do
  match←rd r with
  |some (.arr fz fl iU s rows)=>do
   ck (Nat.beq ver iU)
   match fz with
   |true=>pure (.sl false s (vw fl rows))
   |false=>do
    ck (TF fl rows)
    wr r .dead
    pure (.sl true s rows)
  |_=> .fail
 |_=> .fail
def Jo:List V→Acc Row
 |[]=>pure []
 |v::vs=>do
  let x←toD v
  let xs←Jo vs
  pure (x::xs)
def splice{α:Type}(l:List α)(off:Nat)(xs:List α):List α:=l.take off++xs++l.drop (off+xs.length)
def part{α:Type}(l:List α)(off n:Nat):List α:=(l.drop off).take n
def idx{α:Type}(l:List α)(i:Int):Option α:=bif decide (0≤i) then l[i.toNat]? else none
def cut{α:Type}(l:List α)(a b:Int):Option (List α):=
 bif decide (0≤a) && decide (a≤b) && decide (b≤l.length) then some ((l.drop a.toNat).take (b.toNat - a.toNat)) else none
def byteRow(b:UInt8):Row:=[.int .u8 b.toNat]
def asByte:Row→Option UInt8
 |[.int .u8 n]=>some (UInt8.ofNat n.toNat)
 |_=>none
def bytesOf:List Row→Option (List UInt8)
 |[]=>some []
 |r::rs=>match asByte r,bytesOf rs with|some b,some bs=>some (b::bs)|_,_=>none
def ev(P:Program)(tm:jP)(t:TypeId):Operand→V
 | .tmp i=>Px i tm
 | .const v=>cv P t v
 | .func f=> .clo f [] []
 | .global _=> .undef
def evG(X:Ctx)(tm:jP)(t:TypeId)(x:Operand):V:=match x with
 | .global g=>match X.glob g with
  |some row=> .sJ row 0
  |none=> .undef
 |x=>ev X.P tm t x
def apc(op:BinOp)(k:IntKind)(a b:Int):Option V:=
 match op with
 | .add=>some (.d (.int k (k.wrap (a+b))))
 | .sub=>some (.d (.int k (k.wrap (a - b))))
 | .mul=>some (.d (.int k (k.wrap (a * b))))
 | .quo=>bif decide (b=0) then none else some (.d (.int k (k.wrap (a.tdiv b))))
 | .rem=>bif decide (b=0) then none else some (.d (.int k (a.tmod b)))
 | .eql=>some (.d (.bool (a==b)))
 | .neq=>some (.d (.bool (a !=b)))
 | .lss=>some (.d (.bool (decide (a<b))))
 | .leq=>some (.d (.bool (decide (a≤b))))
 | .gtr=>some (.d (.bool (decide (a>b))))
 | .geq=>some (.d (.bool (decide (a≥b))))
 | .and=>some (.d (.int k (k.wrap (BitVec.ofInt k.bits a &&& BitVec.ofInt k.bits b).toNat)))
 | .or=>some (.d (.int k (k.wrap (BitVec.ofInt k.bits a|||BitVec.ofInt k.bits b).toNat)))
 | .xor=>some (.d (.int k (k.wrap (BitVec.ofInt k.bits a ^^^ BitVec.ofInt k.bits b).toNat)))
 |_=>none
def Vu(op:BinOp)(k:IntKind)(a b:Int):Option V:=
 bif decide (b<0) then none else
 match op with
 | .shl=>some (.d (.int k (k.wrap (a * 2 ^(min b.toNat k.bits)))))
 | .shr=>some (.d (.int k (a.fdiv (2 ^(min b.toNat k.bits)))))
 |_=>none
def alL:Nat:=9223372036854775807
def avx(op:BinOp)(a b:List UInt8):Acc V:=
 match op with
 | .add=> .guard (Nat.ble (a.length+b.length) alL) (.ret (.d (.str (a++b))))
 | .eql=> .ret (.d (.bool (a==b)))
 | .neq=> .ret (.d (.bool !(a==b)))
 | .lss=> .ret (.d (.bool (Op.bytesLess a b)))
 | .leq=> .ret (.d (.bool (Op.bytesLess a b||a==b)))
 | .gtr=> .ret (.d (.bool !(Op.bytesLess a b||a==b)))
 | .geq=> .ret (.d (.bool !(Op.bytesLess a b)))
 |_=> .fail
def azH(op:BinOp)(a b:Bool):Option V:=
 match op with
 | .eql=>some (.d (.bool (a==b)))
 | .neq=>some (.d (.bool !(a==b)))
 |_=>none
def shiftOp:BinOp→Bool
 | .shl| .shr=>true
 |_=>false
def boolT(P:Program)(t:TypeId):Bool:=match P.underlying t with|some .bool=>true|_=>false
def bin(bt:Bool)(op:BinOp)(x y:V):Acc V:=
 match x,y with
 | .d (.int k a),.d (.int k' b)=>
  match shiftOp op with
  |true=> .opt (Vu op k a b) .ret
  |false=>match decide (k=k') with
   |true=> .opt (apc op k a b) .ret
   |false=> .fail
 | .d (.str a),.d (.str b)=>avx op a b
 | .d (.bool a),.d (.bool b)=>match bt with
  |true=> .opt (azH op a b) .ret
  |false=> .fail
 |_,_=> .fail
def alM:V→V→Option Bool
 | .d (.int k a),.d (.int k' b)=>bif decide (k=k') then some (a==b) else none
 | .d (.str a),.d (.str b)=>some (a==b)
 | .d (.bool a),.d (.bool b)=>some (a==b)
 |_,_=>none
def Xt(P:Program)(t:TypeId)(v:V):Bool:=match P.underlying t,v with
 |some (.int _),.d (.int _ _)=>true
 |some .string,.d (.str _)=>true
 |some .bool,.d (.bool _)=>true
 |_,_=>false
def aae(P:Program):List Field→List V→List V→Option Bool
 |[],_,_=>some true
 |f::fs,xs,ys=>match xs[f.offset]?,ys[f.offset]? with
  | some x, some y => bif Xt P f.type x && (f.name != "_") then
    (match alM x y,aae P fs xs ys with
    |some a,some b=>some (bif a then b else false)
    |_,_=>none) else none
  |_,_=>none
def azI(P:Program)(t:TypeId)(op:BinOp)(cs ds:List V):Acc V:=do
 ck (!(P.stoodInHeld t) && !(P.eqGuardType P.depth t))
 let fs←op' (match P.underlying t with|some (.struct fs)=>some fs.toList|_=>none)
 let r←op' (aae P fs cs ds)
 match op with
 | .eql=>pure (.d (.bool r))
 | .neq=>pure (.d (.bool !r))
 |_=> .fail
def alN(x:V):Acc Bool:=
 match x with
 | .nil _=>pure true
 | .d (.sl _ _ rows)=>do ck (Nat.ble 1 rows.length);pure false
 | .own r ver=>do
  match←rd r with
  |some (.arr _ _ iU _ rows)=>do ck (Nat.beq ver iU && Nat.ble 1 rows.length);pure false
  |_=> .fail
 |_=> .fail
def sliceT(P:Program)(t:TypeId):Bool:=match P.underlying t with|some (.slice _)=>true|_=>false
def alO(P:Program)(t:TypeId)(op:BinOp)(x:V):Acc V:=do
 ck (sliceT P t)
 let b←alN x
 match op with
 | .eql=>pure (.d (.bool b))
 | .neq=>pure (.d (.bool !b))
 |_=> .fail
def avy(P:Program)(t:TypeId)(op:BinOp)(x y:V):Acc V:=match x with
 | .agg cs=>(match y with| .agg ds=>azI P t op cs ds|_=> .fail)
 |x=>(match y with| .nil _=>alO P t op x|y=>bin (boolT P t) op x y)
def un(op:UnOp)(x:V):Acc V:=
 match op,x with
 | .neg,.d (.int k n)=> .ret (.d (.int k (k.wrap (0 - n))))
 | .not,.d (.bool b)=> .ret (.d (.bool !b))
 |_,_=> .fail
def apd(c x y:V):Acc V:=
 match c with
 | .d (.bool c)=>match x,y with
  | .d (.bool a),.d (.bool b)=> .ret (.d (.bool (bif c then a else b)))
  |x,y=>match c with
   |true=> .ret x
   |false=> .ret y
 |_=> .fail
def ED(P:Program)(t:TypeId):Bool:=match P.underlying t with|some _=>true|none=>false
def ape(P:Program)(t:TypeId)(a:V):Acc V:=do
 ck (ED P t && Nat.beq (KI P t).length (lC P t))
 match a with
 | .ptr r off=>do
  match←rd r with
  |some (.box _ cs)=>do
   ck (Nat.ble (off+lC P t) cs.length)
   op' (JO P t (part cs off (lC P t)))
  |_=> .fail
 | .sJ row off=>He false (KI P t) row off fun vs=>op' (JO P t vs)
 | .sS r ver i off=>do
  match←rd r with
  |some (.arr _ _ iU _ rows)=>do
   ck (Nat.beq ver iU)
   let row←op' rows[i]?
   He true (KI P t) row off fun vs=>op' (JO P t vs)
  |some (.DJ iU _ rows)=>do
   ck (Nat.beq ver iU)
   let row←op' rows[i]?
   He true (KI P t) row off fun vs=>op' (JO P t vs)
  |_=> .fail
 |_=> .fail
def alP(P:Program)(t:TypeId)(a x:V):Acc Unit:=do
 ck (ED P t)
 ck (Nat.beq x.cells.length (lC P t))
 ck (x.cells.all one)
 match a with
 | .ptr r off=>do
  match←rd r with
  |some (.box T cs)=>do
   ck (Nat.ble (off+lC P t) cs.length)
   wr r (.box T (splice cs off x.cells))
  |_=> .fail
 | .sS r ver i off=>do
  let xs←Jo x.cells
  match←rd r with
  |some (.arr false fl iU s rows)=>do
   ck (Nat.beq ver iU)
   ck (Nat.ble (off+lC P t) s)
   let row←op' rows[i]?
   wr r (.arr false fl ver s (rows.set i (splice row off xs)))
  |_=> .fail
 |_=> .fail
def Py(P:Program)(T:TypeId)(f:Nat):Option (Nat×Nat×TypeId):=
 match P.underlying T with
 |some (.struct fs)=>match fs[f]? with
  |some fd=>some (fd.offset,lC P fd.type,fd.type)
  |none=>none
 |_=>none
def Un(P:Program)(T:TypeId)(a:V)(f:Nat):Acc V:=do
 let(o,n,_)←op' (Py P T f)
 ck (Nat.ble 1 n)
 match a with
 | .ptr r off=>pure (.ptr r (off+o))
 | .sJ row off=>pure (.sJ row (off+o))
 | .sS r ver i off=>pure (.sS r ver i (off+o))
 |_=> .fail
def alQ(P:Program)(T:TypeId)(x:V)(f:Nat):Acc V:=do
 let(o,n,t)←op' (Py P T f)
 match x with
 | .agg cs=>do
  ck (Nat.ble (o+n) cs.length)
  ck (ED P t)
  op' (JO P t (part cs o n))
 |_=> .fail
def Uo(P:Program)(t:TypeId)(x i:V):Acc V:=do
 let e←op' (elT P t)
 match i with
 | .d (.int _ i)=>
  match x with
  | .d (.sl _ s rows)=>do
   ck (Nat.beq s (lC P e))
   ck (ED P e)
   let row←op' (idx rows i)
   pure (.sJ row 0)
  | .own r ver=>do
   match←rd r with
   |some (.arr fz fl iU s rows)=>do
    ck (Nat.beq ver iU)
    ck (Nat.beq s (lC P e))
    ck (ED P e)
    match fz with
    |true=>do
     let row←op' (idx (vw fl rows) i)
     pure (.sJ row 0)
    |false=>do
     let _←op' (idx rows i)
     pure (.sS r ver i.toNat 0)
   |some (.DJ iU s rows)=>do
    ck (Nat.beq ver iU)
    ck (Nat.beq s (lC P e))
    ck (ED P e)
    let _←op' (idx rows i)
    pure (.sS r ver i.toNat 0)
   |_=> .fail
  |_=> .fail
 |_=> .fail
def arT(P:Program)(t:TypeId):Option (Nat×TypeId):=match P.underlying t with|some (.array n e)=>some (n,e)|_=>none
def afQ(P:Program)(n:Nat)(e:TypeId)(x i:V):Acc V:=
 match i with
 | .d (.int _ i)=>do
  ck (ED P e)
  ck (decide (0≤i) && decide (i<(n:Int)))
  match x with
  | .sJ row off=>pure (.sJ row (off+i.toNat * lC P e))
  | .ptr r off=>pure (.ptr r (off+i.toNat * lC P e))
  |_=> .fail
 |_=> .fail
def Ur(P:Program)(t:TypeId)(x i:V):Acc V:=match arT P t with
 |some (n,e)=>afQ P n e x i
 |none=>Uo P t x i
def adz:List V→Option Row
 |[]=>some []
 | .d x::vs=>match adz vs with|some r=>some (x::r)|none=>none
 |_::_=>none
def aaw(c:CT)(row:Row)(i:Nat):Acc V:=match c with
 | .int k=> .opt (dn k row i) fun n=> .ret (.d (.int k n))
 | .bool=> .opt (ady row i) fun b=> .ret (.d (.bool b))
 | .str=> .opt (cStr row i) fun s=> .ret (.d (.str s))
 |_=> .fail
def alR(P:Program)(t:TypeId)(x i:V):Acc V:=
 match P.underlying t,x,i with
 |some .string,.d (.str s),.d (.int _ i)=> .opt (idx s i) fun b=> .ret (.d (.int .u8 b.toNat))
 |some (.array n e),.agg cs,.d (.int _ i)=>do
  ck (Nat.beq (lC P e) 1 &&(Nat.beq cs.length n &&(ED P e && !(Jk P e))))
  ck (decide (0≤i) && decide (i<(n:Int)))
  let row←op' (adz cs)
  aaw (match KI P e with|[c]=>c|_=> .other) row i.toNat
 |_,_,_=> .fail
def lenV(x:V):Acc V:=
 match x with
 | .d (.str s)=> .ret (.d (.int .i64 s.length))
 | .own r ver=>do
  match←rd r with
  |some (.arr _ _ iU _ rows)=>do ck (Nat.beq ver iU);pure (.d (.int .i64 rows.length))
  |some (.DJ iU _ rows)=>do ck (Nat.beq ver iU);pure (.d (.int .i64 rows.length))
  |_=> .fail
 | .d (.sl _ _ rows)=> .ret (.d (.int .i64 rows.length))
 | .nil _=> .ret (.d (.int .i64 0))
 |_=> .fail
def QD:Nat:=140737488355328
def QE(P:Program)(e:TypeId):Nat:=match P.info? e with|some i=>i.bytes|none=>QD
def tail(P:Program)(e:TypeId)(y:V):Acc (List Row):=
 match y with
 | .d (.str s)=>do
  ck (Nat.beq (lC P e) 1)
  pure (s.map byteRow)
 | .d (.sl _ s rows)=>do
  ck (Nat.beq s (lC P e))
  pure (vw (qm P e) rows)
 | .nil _=>pure []
 | .own r ver=>do
  match←rd r with
  |some (.arr fz fl iU s rows)=>do
   ck (Nat.beq ver iU)
   ck (Nat.beq s (lC P e))
   match qm P e with
   |true=>do
    ck (fl||fz)
    pure rows
   |false=>do
    ck (!fl)
    match fz with
    |true=>pure (aA rows)
    |false=>do
     wr r .dead
     pure rows
  |_=> .fail
 |_=> .fail
def aeD(P:Program)(dst:Nat)(t ty:TypeId)(x y:V):Acc V:=do
 let e←op' (elT P t)
 ck (Nat.ble 1 (lC P e))
 ck (match P.underlying ty with|some (.slice _)=>true|some .string=>true|_=>false)
 let z←op' (JM P e)
 ck (Nat.beq z.length (lC P e))
 let ys←tail P e y
 match x with
 | .nil _=>do
  ck (Nat.ble (ys.length * QE P e) QD)
  ck (Nat.ble ys.length QD)
  new dst (.arr false (qm P e) 0 (lC P e) ys)
  pure (.own dst 0)
 | .own r ver=>do
  match←rd r with
  |some (.arr false fl iU s rows)=>do
   ck (Nat.beq ver iU)
   ck (Nat.beq s (lC P e))
   ck (match fl,qm P e with|true,true=>true|false,false=>true|_,_=>false)
   ck (Nat.ble ((rows.length+ys.length) * QE P e) QD)
   ck (Nat.ble (rows.length+ys.length) QD)
   wr r (.arr false fl (ver+1) s (rows++ys))
   pure (.own r (ver+1))
  |some (.DJ iU s rows)=>do
   ck (Nat.beq ver iU)
   ck (Nat.beq s (lC P e))
   ck (qm P e)
   ck (Nat.ble ((rows.length+ys.length) * QE P e) QD)
   ck (Nat.ble (rows.length+ys.length) QD)
   wr r (.DJ (ver+1) s (rows++ys))
   pure (.own r (ver+1))
  |_=> .fail
 |_=> .fail
def afR(P:Program)(e:TypeId):Acc Row:=do
 let z←op' (JM P e)
 Jo z
def Us(P:Program)(dst:Nat)(t:TypeId)(l c:V):Acc V:=do
 let e←op' (elT P t)
 ck (Nat.ble 1 (lC P e))
 let z←afR P e
 ck (Nat.beq z.length (lC P e))
 match l,c with
 | .d (.int _ l),.d (.int _ c)=>do
  ck (decide (0≤l) && decide (l≤c) && decide (c * QE P e≤QD) && decide (c≤QD))
  new dst (.arr false (qm P e) 0 (lC P e) (List.replicate l.toNat z))
  pure (.own dst 0)
 |_,_=> .fail
def bound(o:Option V)(d:Int):Acc Int:=match o with
 |none=> .ret d
 |some (.d (.int _ n))=> .ret n
 |some _=> .fail
def alS(P:Program)(t:TypeId)(x:V)(lo hi:Option V):Acc V:=
 match x with
 | .d (.str s)=>do
  ck (match P.underlying t with|some .string=>true|_=>false)
  let l←bound lo 0
  let h←bound hi s.length
  let s'←op' (cut s l h)
  pure (.d (.str s'))
 |_=>do
  let e←op' (elT P t)
  ck (ED P e)
  let(s,rows)←seen x
  ck (Nat.beq s (lC P e))
  let l←bound lo 0
  let h←bound hi rows.length
  let rows'←op' (cut rows l h)
  match x with
  | .own r ver=>do
   match←rd r with
   |some (.arr _ fl iU s rows)=>do
    ck (Nat.beq ver iU)
    wr r (.arr true fl ver s rows)
    pure (.d (.sl false s rows'))
   |_=> .fail
  |_=>pure (.d (.sl false s rows'))
def aeE(P:Program)(t:TypeId)(x:V)(lo hi:Option V):Acc V:=
 match x with
 | .sJ row off=>do
  let(n,e)←op' (arT P t)
  ck (ED P e)
  ck (Nat.beq (lC P e) 1 &&(Nat.beq off 0 && Nat.beq row.length n))
  match lo,hi with
  |none,none=>pure (.d (.sl false 1 (row.map fun x=>[x])))
  |_,_=> .fail
 |x=>alS P t x lo hi
def alT(P:Program)(t:TypeId)(x:V)(hi:Option V):Acc V:=do
 let e←op' (elT P t)
 ck (ED P e)
 match x with
 | .own r ver=>do
  match←rd r with
  |some (.arr false fl iU s rows)=>do
   ck (Nat.beq ver iU)
   ck (Nat.beq s (lC P e))
   let h←bound hi rows.length
   ck (decide (0≤h) && decide (h≤(rows.length:Int)))
   wr r (.arr false fl (ver+1) s (rows.take h.toNat))
   pure (.own r (ver+1))
  |_=> .fail
 |_=> .fail
def apf(P:Program)(t:TypeId)(x lo:V):Acc V:=do
 let e←op' (elT P t)
 ck (ED P e)
 let l←bound (some lo) 0
 match x with
 | .own r ver=>do
  match←rd r with
  |some (.arr false true iU s rows)=>do
   ck (Nat.beq ver iU)
   ck (Nat.beq s (lC P e))
   ck (decide (0≤l) && decide (l≤(rows.length:Int)))
   wr r (.DJ (ver+1) s (rows.drop l.toNat))
   pure (.own r (ver+1))
  |some (.DJ iU s rows)=>do
   ck (Nat.beq ver iU)
   ck (Nat.beq s (lC P e))
   ck (decide (0≤l) && decide (l≤(rows.length:Int)))
   wr r (.DJ (ver+1) s (rows.drop l.toNat))
   pure (.own r (ver+1))
  |_=> .fail
 |_=> .fail
def sK(P:Program)(T:TypeId)(tm:jP):List (Nat×Operand)→List V→Acc (List V)
 |[],cs=>pure cs
 |(f,x)::ps,cs=>do
  let(o,n,t)←op' (Py P T f)
  let v:=ev P tm t x
  ck (Nat.beq v.cells.length n)
  ck (v.cells.all one)
  ck (Nat.ble (o+n) cs.length)
  sK P T tm ps (splice cs o v.cells)
def afS(P:Program)(T:TypeId):Bool:=match P.underlying T with
 |some (.struct fs)=>fs.toList.all fun f=>match P.info? f.type with|some _=>true|none=>false
 |_=>false
def pV(P:Program)(e:TypeId)(tm:jP):List (Nat×Operand)→List V→Acc (List V)
 |[],cs=>pure cs
 |(i,x)::ps,cs=>do
  let v:=ev P tm e x
  ck (Nat.beq v.cells.length (lC P e))
  ck (v.cells.all one)
  ck (Nat.ble (i * lC P e+lC P e) cs.length)
  pV P e tm ps (splice cs (i * lC P e) v.cells)
def aeF(P:Program)(T:TypeId)(tm:jP)(ps:List (Nat×Operand)):Acc V:=do
 ck (afS P T)
 let z←op' (JM P T)
 let cs←sK P T tm ps z
 pure (.agg cs)
def alU(P:Program)(T e:TypeId)(tm:jP)(ps:List (Nat×Operand)):Acc V:=do
 ck (ED P e)
 let z←op' (JM P T)
 let cs←pV P e tm ps z
 pure (.agg cs)
def aeG(P:Program)(T:TypeId)(tm:jP)(ps:List (Nat×Operand)):Acc V:=match arT P T with
 |some (_,e)=>alU P T e tm ps
 |none=>aeF P T tm ps
def sN(P:Program)(e:TypeId)(tm:jP):Nat→List (Nat×Operand)→Acc (List Row)
 |_,[]=>pure []
 |k,(i,x)::ps=>do
  ck (Nat.beq i k)
  let v:=ev P tm e x
  ck (Nat.beq v.cells.length (lC P e))
  let row←Jo v.cells
  let rows←sN P e tm (k+1) ps
  pure (row::rows)
def NP(P:Program)(dst:Nat)(t:TypeId)(n:Nat)(tm:jP)(ps:List (Nat×Operand)):Acc V:=do
 let e←op' (elT P t)
 ck (Nat.ble 1 (lC P e))
 ck (Nat.beq ps.length n)
 ck (Nat.ble (n * lC P e) 16777216)
 let _←op' (JM P e)
 let rows←sN P e tm 0 ps
 new dst (.arr false (qm P e) 0 (lC P e) rows)
 pure (.own dst 0)
def aax(P:Program)(src dst:TypeId)(x:V):Acc V:=
 match P.underlying src,P.underlying dst with
 |some (.int _),some (.int k)=>match x with
  | .d (.int _ n)=> .ret (.d (.int k (k.wrap n)))
  |_=> .fail
 |some .string,some .string=>match x with
  | .d (.str s)=> .ret (.d (.str s))
  |_=> .fail
 |some (.slice e),some .string=>do
  ck (match P.underlying e with|some (.int .u8)=>true|_=>false)
  let(s,rows)←seen x
  ck (Nat.beq s 1)
  let b←op' (bytesOf rows)
  pure (.d (.str b))
 |_,_=> .fail
def lD:Nat:=100000
def aeH(r:Nat)(l:List Nat):List Nat:=bif mem? r l then l else l++[r]
mutual
def anV(I:List Nat):V→List Nat
 | .ptr r _=>aeH r I
 | .clo _ a b=>adA (adA I a) b
 | .agg cs=>adA I cs
 |_=>I
def adA(I:List Nat):List V→List Nat
 |[]=>I
 |v::vs=>adA (anV I v) vs
end
def EH(A:Adv)(f i:Nat):Nat:=bif mem? i (A.move f) then 1 else bif mem? i (A.ref f) then 2 else bif mem? i (A.raw f) then 3 else 0
def LH(A:Adv)(f:Nat):Nat→List Nat→List V→List Nat
 |_,I,[]=>I
 |i,I,v::vs=>LH A f (i+1) (match EH A f i,v with
  |2,.own r _=>aeH r I
  |_,v=>anV I v) vs
def idxOf(r:Nat):Nat→List Nat→Option Nat
 |_,[]=>none
 |i,j::l=>bif Nat.beq r j then some i else idxOf r (i+1) l
def OA(A:Adv)(f:Nat):Nat→List V→Acc (List V)
 |_,[]=>pure []
 |i,v::vs=>do
  let v←(match EH A f i with
   |1=>do
    let x←toD v
    pure (.d x)
   |_=>pure v:Acc V)
  let vs←OA A f (i+1) vs
  pure (v::vs)
mutual
def lend(imp:List Nat):V→Acc (V×List Nat)
 | .d x=>pure (.d (roD x),[])
 | .nil s=>pure (.d (.sl false s []),[])
 | .own r ver=>do
  match←rd r with
  |some (.arr fz fl iU s rows)=>do
   ck (Nat.beq ver iU)
   ck (!(mem? r imp))
   pure (.d (.sl false s (vw fl rows)),bif fz then[] else[r])
  |_=> .fail
 | .ptr r off=>do
  let i←op' (idxOf r 0 imp)
  pure (.ptr (lD+i) off,[])
 | .sJ row off=>pure (.sJ row off,[])
 | .clo f a b=>do
  let(a,l)←aay imp a
  let(b,l')←aay imp b
  pure (.clo f a b,l++l')
 | .agg cs=>do
  let(a,l)←aay imp cs
  pure (.agg a,l)
 | .sS ..=> .fail
 | .yE _=> .fail
 | .undef=> .fail
def aay(imp:List Nat):List V→Acc (List V×List Nat)
 |[]=>pure ([],[])
 |v::vs=>do
  let(v,l)←lend imp v
  let(vs,l')←aay imp vs
  pure (v::vs,l++l')
end
def OB(A:Adv)(imp:List Nat)(f:Nat):Nat→List V→Acc (List V×List Nat)
 |_,[]=>pure ([],[])
 |i,v::vs=>do
  let(v,l)←(match EH A f i with
   |1=>pure (v,[])
   |2=>match v with
    | .own r ver=>do
     ck (Nat.beq ver 0)
     let i←op' (idxOf r 0 imp)
     pure (.own (lD+i) 0,[])
    |_=> .fail
   |3=>match v with
    | .nil s=>pure (.nil s,[])
    |_=> .fail
   |_=>lend imp v:Acc (V×List Nat))
  let(vs,l')←OB A imp f (i+1) vs
  pure (v::vs,l++l')
def apg(imp:List Nat)(own:Bool)(v:V):Acc V:=
 match v with
 | .d x=>pure (.d (roD x))
 | .nil s=>pure (.d (.sl own s []))
 | .own r ver=>do
  match←rd r with
  |some (.arr fz fl iU s rows)=>do
   ck (Nat.beq ver iU)
   ck (!(mem? r imp))
   match own with
   |true=>do
    ck (!fz)
    ck (TF fl rows)
    wr r .dead
    pure (.d (.sl true s rows))
   |false=>do
    wr r (.arr true fl ver s rows)
    pure (.d (.sl false s (vw fl rows)))
  |_=> .fail
 |_=> .fail
def QF(imp own:List Nat):Nat→List V→Acc (List V)
 |_,[]=>pure []
 |j,v::vs=>do
  let v←apg imp (mem? j own) v
  let vs←QF imp own (j+1) vs
  pure (v::vs)
def aeI(A:Adv)(imp:List Nat)(c:Option Cell):Acc Cell:=
 match c with
 |some (.box t cs)=>do
  let cs←QF imp (A.azG t) 0 cs
  pure (.box t cs)
 |some (.arr fz fl ver s rows)=>do
  ck (!fz)
  ck (Nat.beq ver 0)
  pure (.arr fz fl 0 s rows)
 |_=> .fail
def QG(A:Adv)(imp:List Nat):List Nat→Acc (List Cell)
 |[]=>pure []
 |r::rs=>do
  let c←rd r
  let c←aeI A imp c
  let cs←QG A imp rs
  pure (c::cs)
def keyOf(r j dst:Nat):Nat:=1000000+(r * 100+j) * 10000+dst
def vD:V→D
 | .d x=>x
 |_=> .MG
def aph(cs:List Cell)(i:Nat):Row:=match cs[i]? with|some (.box _ vs)=>vs.map vD|_=>[]
def apj(s:Nat)(cs:List Cell)(i:Nat):Option (List Row):=match cs[i]? with|some (.arr false _ 0 s' rows)=>bif Nat.beq s s' then some rows else none|_=>none
def apk(cs:List Cell)(i n:Nat):Bool:=match cs[i]? with|some (.box _ vs)=>Nat.beq vs.length n|_=>false
def apl(f:TypeId→List Bool):List TypeId→List Bool
 |[]=>[]
 |t::ts=>f t++apl f ts
def fls(P:Program):Nat→TypeId→List Bool
 |0,_=>[]
 |n+1,t=>match P.underlying t with
  |some (.slice e)=>[qm P e]
  |some (.struct fs)=>apl (fls P n) (fs.toList.map (·.type))
  |_=>[false]
def KJ(own fl:Bool)(key:Nat)(row:Row)(j:Nat):CT→Acc V
 | .int k=> .opt (dn k row j) fun n=> .ret (.d (.int k n))
 | .bool=> .opt (ady row j) fun n=> .ret (.d (.bool n))
 | .str=> .opt (cStr row j) fun n=> .ret (.d (.str n))
 | .sl s=>match own with
  |true=> .opt (aeC s row j) fun rows=>do
   new key (.arr false fl 0 s rows)
   pure (.own key 0)
  |false=> .opt (BK s row j) fun rows=> .ret (.d (.sl false s (vw fl rows)))
 | .other=> .fail
def Vw(own:List Nat)(r dst:Nat)(row:Row):Nat→List CT→List Bool→Acc (List V)
 |_,[],_=>pure []
 |j,ct::l,fs=>do
  let v←KJ (mem? j own) (fs.headD false) (keyOf r j dst) row j ct
  let vs←Vw own r dst row (j+1) l fs.tail
  pure (v::vs)
def Yl(X:Ctx)(dst:Nat)(out:List Cell):Nat→List Nat→Acc Unit
 |_,[]=>pure ()
 |i,r::rs=>do
  match←rd r with
  |some (.box t _)=>do
   ck (apk out i (KI X.P t).length)
   let vs←Vw (X.Jd.azG t) r dst (aph out i) 0 (KI X.P t) (fls X.P 8 t)
   wr r (.box t vs)
  |some (.arr _ fl ver s _)=>do
   let rows←op' (apj s out i)
   wr r (.arr false fl ver s rows)
  |_=> .fail
  Yl X dst out (i+1) rs
def avz(dst c:Nat):Nat:=1000000000000000+dst * 1000+c
def QH(Zd:List Nat)(dst ri:Nat)(row:Row):Nat→List CT→List Bool→Acc (List V)
 |_,[],_=>pure []
 |j,ct::l,fs=>do
  let v←KJ (mem? (ri * 20+j) Zd) (fs.headD false) (avz dst (ri * 20+j)) row j ct
  let vs←QH Zd dst ri row (j+1) l fs.tail
  pure (v::vs)
def Vx(res:List Row)(ri:Nat):Row:=match res[ri]? with|some r=>r|none=>[]
def Ut(X:Ctx)(Zd:List Nat)(dst:Nat)(res:List Row):Nat→List TypeId→Acc (List V)
 |_,[]=>pure []
 |ri,t::ts=>do
  ck (Nat.beq (Vx res ri).length (KI X.P t).length)
  let cs←QH Zd dst ri (Vx res ri) 0 (KI X.P t) (fls X.P 8 t)
  let v←op' (JO X.P t cs)
  let vs←Ut X Zd dst res (ri+1) ts
  pure (v::vs)
def alV(Zd:List Nat)(ri:Nat):Nat→List CT→Bool
 |_,[]=>true
 |j,.sl _::l=>mem? (ri * 20+j) Zd && alV Zd ri (j+1) l
 |j,_::l=>alV Zd ri (j+1) l
def SC(P:Program)(Zd:List Nat):Nat→List TypeId→Bool
 |_,[]=>true
 |ri,t::ts=>alV Zd ri 0 (KI P t) && SC P Zd (ri+1) ts
def freeze:List Nat→Acc Unit
 |[]=>pure ()
 |r::rs=>do
  match←rd r with
  |some (.arr _ fl ver s rows)=>wr r (.arr true fl ver s rows)
  |_=> .fail
  freeze rs
def Vy(X:Ctx)(K:jo)(fn dst f:Nat)(args:List V):Acc V:=do
 let g←op' X.P.funcs[f]?
 ck (g.body.isSome && !(g.name == "runtime.NumGoroutine"))
 let imp:=LH X.Jd f 0 [] args
 let args←OA X.Jd f 0 args
 let cells←QG X.Jd imp imp
 let(args,KL)←OB X.Jd imp f 0 args
 ck (KL.all fun r=> !(mem? r imp))
 let out←op' (K f args cells)
 ck (Nat.beq out.1.length g.resultTypes.size)
 let need:= !(KL.isEmpty) &&(SC X.P (X.Jd.Zd fn dst) 0 g.resultTypes.toList && imp.isEmpty)
 ck (bif need then out.1.all dM else true)
 freeze (bif need then[] else KL)
 Yl X dst out.2 0 imp
 let vs←Ut X (X.Jd.Zd fn dst) dst out.1 0 g.resultTypes.toList
 match vs with
 |[v]=>pure v
 |vs=>pure (.yE vs)
def azJ(P:Program)(ts:List TypeId)(x:V):Bool:=match ts with
 |[t]=>(match x with
  | .d (.str _)=>(match P.underlying t with|some .string=>true|_=>false)
  |_=>(match P.underlying t with|some (.slice _)=>true|_=>false))
 |_=>false
def ru(P:Program)(tm:jP):List Operand→List TypeId→List V
 |[],_=>[]
 |x::xs,ts=>ev P tm (ts.headD 0) x::ru P tm xs ts.tail
def vop(X:Ctx)(K:jo)(fn:Nat)(tm:jP)(o:Oper):Acc V:=
 let P:=X.P
 let dst:=o.dst.getD 0
 match o.op with
 | .move x=>pure (ev P tm o.type x)
 | .assign x=>pure (ev P tm o.type x)
 | .pick c x y=>apd (ev P tm o.type c) (ev P tm o.type x) (ev P tm o.type y)
 | .alloc T=>do
  let z←op' (JM P T)
  new dst (.box T z)
  pure (.ptr dst 0)
 | .box T x=>do
  let v:=ev P tm T x
  ck (Nat.beq v.cells.length (lC P T))
  ck (v.cells.all one)
  new dst (.box T v.cells)
  pure (.ptr dst 0)
 | .build T ps=>aeG P T tm ps.toList
 | .buildSlice t n ps=>NP P dst t n tm ps.toList
 | .load t a=>ape P t (evG X tm 0 a)
 | .store t a x=>do alP P t (ev P tm 0 a) (ev P tm t x);pure .undef
 | .nilCheck x=>match evG X tm o.type x with
  | .ptr r off=>pure (.ptr r off)
  | .sJ row off=>pure (.sJ row off)
  | .sS r ver i off=>pure (.sS r ver i off)
  |_=> .fail
 | .binOp op t x y t'=>avy P t op (ev P tm t x) (ev P tm t' y)
 | .unOp op t x=>un op (ev P tm t x)
 | .convert s d x=>aax P s d (ev P tm s x)
 | .makeFunc (.func f) first caps=>pure (.clo f (ru P tm first.toList []) (ru P tm caps.toList []))
 | .makeSlice t l c=>Us P dst t (ev P tm o.type l) (ev P tm o.type c)
 | .slice t x lo hi none=>match X.Jd.trunc fn dst,lo,hi with
  |true,none,hi=>alT P t (ev P tm t x) (hi.map (ev P tm 3))
  |true,some lo,none=>apf P t (ev P tm t x) (ev P tm 3 lo)
  |_,lo,hi=>aeE P t (evG X tm t x) (lo.map (ev P tm 3)) (hi.map (ev P tm 3))
 | .fieldAddr T x f=>Un P T (ev P tm 0 x) f
 | .field T x f=>alQ P T (ev P tm T x) f
 | .indexAddr t x i=>Ur P t (evG X tm t x) (ev P tm 3 i)
 | .index t x i=>alR P t (ev P tm t x) (ev P tm 3 i)
 | .extract x i=>match ev P tm 0 x with
  | .yE vs=>op' vs[i]?
  |_=> .fail
 | .call {callee:=.value f,args,argTypes}=>match ev P tm 0 f with
  | .clo g first caps=>Vy X K fn dst g (first++ru P tm args.toList argTypes.toList++caps)
  |_=> .fail
 | .call {callee:=.builtin .len,args,argTypes}=>match ru P tm args.toList argTypes.toList with
  |[x]=>do
   ck (azJ P argTypes.toList x)
   lenV x
  |_=> .fail
 | .call {callee:=.builtin .append,args,argTypes}=>match ru P tm args.toList argTypes.toList,argTypes.toList with
  |[x,y],[t,t']=>aeD P dst t t' x y
  |_,_=> .fail
 | .call {callee:=.builtin .max,args,argTypes}=>match ru P tm args.toList argTypes.toList with
  |[.d (.int k x),.d (.int _ y)]=>pure (.d (.int k (bif decide (x<y) then y else x)))
  |_=> .fail
 | .call {callee:=.builtin .min,args,argTypes}=>match ru P tm args.toList argTypes.toList with
  |[.d (.int k x),.d (.int _ y)]=>pure (.d (.int k (bif decide (y<x) then y else x)))
  |_=> .fail
 |_=> .fail
end Go.Vm
namespace Go.Vm
open Go
mutual
def refs:V→List Nat
 | .own r _=>[r]
 | .ptr r _=>[r]
 | .sS r _ _ _=>[r]
 | .clo _ a b=>JQ a++JQ b
 | .agg cs=>JQ cs
 | .yE vs=>JQ vs
 |_=>[]
def JQ:List V→List Nat
 |[]=>[]
 |v::vs=>refs v++JQ vs
end
def aaz(m:Mem)(r:Nat):List Nat:=match get r m with
 |some (.box _ cs)=>JQ cs
 |_=>[]
def Jr(k:Nat):Bool:=Nat.ble lD k && Nat.blt k (2 * lD)
def Vz:List Nat→List Nat→List Nat
 |acc,[]=>acc
 |acc,k::ks=>Vz (bif mem? k acc then acc else acc++[k]) ks
def as5(tm:jP)(m:Mem):List Nat:=
 let l0:=Vz [] (tm.flatMap fun x=>refs x.2)
 let l1:=Vz l0 (l0.flatMap (aaz m))
 let l2:=Vz l1 (l1.flatMap (aaz m))
 (Vz l2 (m.map (·.1))).filter fun k=> !(Jr k)
def names:List Nat:=[nat_lit 300000,nat_lit 300001,nat_lit 300002,nat_lit 300003,nat_lit 300004,nat_lit 300005,nat_lit 300006,nat_lit 300007,nat_lit 300008,nat_lit 300009,nat_lit 300010,nat_lit 300011,nat_lit 300012,nat_lit 300013,nat_lit 300014,nat_lit 300015,nat_lit 300016,nat_lit 300017,nat_lit 300018,nat_lit 300019,nat_lit 300020,nat_lit 300021,nat_lit 300022,nat_lit 300023,nat_lit 300024,nat_lit 300025,nat_lit 300026,nat_lit 300027,nat_lit 300028,nat_lit 300029,nat_lit 300030,nat_lit 300031,nat_lit 300032,nat_lit 300033,nat_lit 300034,nat_lit 300035,nat_lit 300036,nat_lit 300037,nat_lit 300038,nat_lit 300039,nat_lit 300040,nat_lit 300041,nat_lit 300042,nat_lit 300043,nat_lit 300044,nat_lit 300045,nat_lit 300046,nat_lit 300047,nat_lit 300048,nat_lit 300049,nat_lit 300050,nat_lit 300051,nat_lit 300052,nat_lit 300053,nat_lit 300054,nat_lit 300055,nat_lit 300056,nat_lit 300057,nat_lit 300058,nat_lit 300059,nat_lit 300060,nat_lit 300061,nat_lit 300062,nat_lit 300063]
def as6:List Nat→List Nat→List (Nat×Nat)
 |n::ns,k::l=>(k,n)::as6 ns l
 |_,_=>[]
def ren(L:List (Nat×Nat))(k:Nat):Nat:=match get k L with
 |some j=>j
 |none=>k
mutual
def Oi(L:List (Nat×Nat)):V→V
 | .d x=> .d x
 | .nil s=> .nil s
 | .own r ver=> .own (ren L r) ver
 | .ptr r off=> .ptr (ren L r) off
 | .sS r ver i off=> .sS (ren L r) ver i off
 | .sJ row off=> .sJ row off
 | .clo f a b=> .clo f (QI L a) (QI L b)
 | .agg cs=> .agg (QI L cs)
 | .yE vs=> .yE (QI L vs)
 | .undef=> .undef
def QI(L:List (Nat×Nat)):List V→List V
 |[]=>[]
 |v::vs=>Oi L v::QI L vs
end
def ac0(L:List (Nat×Nat)):Cell→Cell
 | .box t cs=> .box t (QI L cs)
 | .arr fz fl ver s rows=> .arr fz fl ver s rows
 | .dead=> .dead
 | .DJ ver s rows=> .DJ ver s rows
def MH(L:List (Nat×Nat)):Mem→Mem
 |[]=>[]
 |(k,c)::m=>put (ren L k) (ac0 L c) (MH L m)
def aaA(L:List (Nat×Nat)):jP→jP
 |[]=>[]
 |(t,v)::tm=>(t,Oi L v)::aaA L tm
def nodupB:List Nat→Bool
 |[]=>true
 |k::l=> !(mem? k l) && nodupB l
def VA(L:List (Nat×Nat))(ks:List Nat):Bool:=nodupB (ks.map (ren L)) && ks.all fun k=>bif Jr k then Nat.beq (ren L k) k else true
def aeJ(L:List (Nat×Nat))(S:St):St:=match VA L (S.mem.map (·.1)) with
 |true=>⟨aaA L S.tm,MH L S.mem⟩
 |false=>S
def canon(S:St):St:=match as5 S.tm S.mem with
 |[]=>S
 |k::o=>aeJ (as6 names (k::o)) S
end Go.Vm
namespace Go.Vm
open Go
mutual
def Uu(m:Mem):V→V
 | .d x=> .d x
 | .nil s=> .nil s
 | .own r ver=>match get r m with
  |some (.arr _ _ iU _ _)=>bif Nat.beq ver iU then .own r 0 else .undef
  |some (.DJ iU _ _)=>bif Nat.beq ver iU then .own r 0 else .undef
  |_=> .undef
 | .ptr r off=>match get r m with
  |some (.box _ _)=> .ptr r off
  |_=> .undef
 | .sS r ver i off=>match get r m with
  |some (.arr _ _ iU _ _)=>bif Nat.beq ver iU then .sS r 0 i off else .undef
  |some (.DJ iU _ _)=>bif Nat.beq ver iU then .sS r 0 i off else .undef
  |_=> .undef
 | .sJ row off=> .sJ row off
 | .clo f a b=> .clo f (TG m a) (TG m b)
 | .agg cs=> .agg (TG m cs)
 | .yE vs=> .yE (TG m vs)
 | .undef=> .undef
def TG(m:Mem):List V→List V
 |[]=>[]
 |v::vs=>Uu m v::TG m vs
end
def DL(m:Mem):Cell→Cell
 | .box t cs=> .box t (TG m cs)
 | .arr fz fl _ s rows=> .arr fz fl 0 s rows
 | .dead=> .dead
 | .DJ _ s rows=> .DJ 0 s rows
def Uw(m:Mem)(tm:jP):List Nat→jP
 |[]=>[]
 |t::ts=>match get t tm with
  |some v=>(t,Uu m v)::Uw m tm ts
  |none=>Uw m tm ts
def Ux:List Nat→List Nat→List Nat
 |[],l=>l
 |a::as,l=>bif mem? a l then Ux as l else Ux as (a::l)
def reach(m:Mem):Nat→List Nat→List Nat
 |0,l=>l
 |n+1,l=>reach m n (Ux (l.flatMap (aaz m)) l)
def roots(tm:jP)(m:Mem):List Nat:=
 Ux (tm.flatMap fun x=>refs x.2) ((m.map (·.1)).filter Jr)
def rW(all:Mem)(R:List Nat):Mem→Mem
 |[]=>[]
 |(k,c)::m=>match c with
  | .dead=>rW all R m
  |c=>bif mem? k R then(k,DL all c)::rW all R m else rW all R m
def closed(R:List Nat)(m:Mem):Bool:=m.all fun x=>match x.2 with
 | .box _ cs=>(JQ cs).all fun r=>mem? r R
 |_=>true
def azK(m:Mem):Bool:=m.all fun x=>match x.2 with
 | .arr _ _ ver _ _=>bif Jr x.1 then Nat.beq ver 0 else true
 | .dead=> !(Jr x.1)
 | .DJ ..=> !(Jr x.1)
 |_=>true
def sortedK:Mem→Bool
 |[]=>true
 |(k,_)::m=>match m with
  |[]=>true
  |(j,_)::_=>Nat.blt k j && sortedK m
def Uy(ts:List Nat)(S:St):Option St:=
 let tm:=Uw S.mem S.tm ts
 let R:=reach S.mem 3 (roots tm S.mem)
 let m:=rW S.mem R S.mem
 bif closed R m &&(azK S.mem && sortedK S.mem) then some ⟨tm,m⟩ else none
def prune(ts:List Nat)(S:St):Option St:=match Uy ts S with
 |some S'=>some (canon S')
 |none=>none
def zY(ops:Array Oper)(tm:jP)(o:Oper):Option (Bool×jP):=
 match o.guard with
 |none=>some (true,tm)
 |some (j,want)=>match ops[j]? with
  |some oj=>match oj.dst with
   |some d=>match Px d tm with
    | .d (.bool b)=>match b with
     |true=>some (want,put d (.d (.bool true)) tm)
     |false=>some (!want,put d (.d (.bool false)) tm)
    | .yE vs=>match vs with
     |[]=>some (false,put d (.yE []) tm)
     |_::_=>none
    |_=>none
   |none=>none
  |none=>none
def Jp(nt:Nat):Option Nat→Bool
 |some d=>Nat.blt d nt
 |none=>true
def DN(P:Program)(fn:Nat):Nat:=match P.funcs[fn]? with|some g=>g.ntmps|none=>0
def Ym(nt:Nat)(dst:Option Nat)(tm:jP):jP:=bif Jp nt dst then Um dst (.yE []) tm else as3 dst tm
def yC(X:Ctx)(K:jo)(fn:Nat)(ops:Array Oper)(i:Nat)(S:St):Option (St×Log):=
 match ops[i]? with
 |none=>none
 |some o=>match zY ops S.tm o with
  |none=>none
  |some (false,tm)=>some (⟨Ym (DN X.P fn) o.dst tm,S.mem⟩,.none)
  |some (true,tm)=>match(vop X K fn tm o).run S.mem .none with
   |none=>none
   |some (v,m,l)=>bif Jp (DN X.P fn) o.dst then some (⟨Um o.dst v tm,m⟩,l) else none
def uK(X:Ctx)(K:jo)(fn:Nat)(ops:Array Oper):List Nat→St→List (Nat×Log)→Option (St×List (Nat×Log))
 |[],S,L=>some (S,L)
 |i::is,S,L=>match yC X K fn ops i S with
  |none=>none
  |some (S',l)=>uK X K fn ops is S' ((i,l)::L)
def as7(a b:List Nat):Bool:=a.all fun k=> !(mem? k b)
def Log.apart(a b:Log):Bool:=as7 a.w b.r && as7 a.w b.w && as7 a.r b.w
def ordered(bef:Array Nat)(i j:Nat):Bool:=(bef.getD i 0).testBit j
def QJ(ops:Array Oper)(bef:Array Nat):List (Nat×Log)→Bool
 |[]=>true
 |(i,l)::L=>(L.all fun(j,l')=>ordered bef i j||(l.apart l' &&(match ops[i]?,ops[j]? with
   |some a,some b=>a.apart ops b
   |_,_=>false))) && QJ ops bef L
def QK:Nat→List Oper→Bool
 |_,[]=>true
 |i,o::l=>(o.after.toList.all fun e=> !(Region.binds .any e)||Nat.blt e.on i) && QK (i+1) l
def backOk(ops:Array Oper):Bool:=QK 0 ops.toList
def avA(d:Nat):Operand→Bool
 | .tmp t=> !(Nat.beq t d)
 |_=>true
def amT(args:Array Operand)(d1 d2:Nat):Bool:=match args.toList with
 |[.tmp a,.tmp b]=>Nat.beq a d1 && Nat.beq b d2
 |_=>false
def VB:List Row×List Cell→Option (IntKind×Int×Bool×Nat×List Row)
 |([[.int k n]],[.arr false fl' 0 s' rs'])=>some (k,n,fl',s',rs')
 |_=>none
def aaB(e:Nat)(fl:Bool)(q:IntKind×Int×Bool×Nat×List Row):Bool:=Nat.beq q.2.2.2.1 e &&((fl==q.2.2.1) &&(TF fl q.2.2.2.2 && AQ q.2.2.2.2))
def apm(X:Ctx)(f:Nat):Bool:=Nat.beq (EH X.Jd f 0) 2 && Nat.beq (EH X.Jd f 1) 0 &&(match X.P.funcs[f]? with
 | some g => g.body.isSome && !(g.name == "runtime.NumGoroutine") && (match g.resultTypes.toList with | [t] => !(Jk X.P t) | _ => false)
 |none=>false)
def Lc(X:Ctx)(K:jo)(tm:jP)(o1 o2 o3:Oper):Acc (Nat×Nat×V×V):=
 match o1,o2,o3 with
 |⟨some d1,.load t (.tmp ta),_,_,_,none⟩,⟨some d2,.move x,ty2,_,_,none⟩,⟨_,.call ⟨.value (.func f),args,_⟩,_,_,_,none⟩=>do
  ck (!(Nat.beq d1 d2) &&(amT args d1 d2 &&(avA d1 x &&(ED X.P t &&(Nat.beq (lC X.P t) 1 &&(!(Jk X.P t) && apm X f))))))
  let e←op' (elT X.P t)
  match Px ta tm,ev X.P tm ty2 x with
  | .sS r ver i off,.d (.int k n)=>do
   match←rd r with
   |some (.arr false false iU s rows)=>do
    ck (Nat.beq ver iU && Nat.ble (off+1) s)
    let row←op' rows[i]?
    let rs←op' (aeC (lC X.P e) row off)
    ck (TF (qm X.P e) rs)
    let out←op' (K f [.own lD 0,.d (.int k n)] [.arr false (qm X.P e) 0 (lC X.P e) rs])
    let q←op' (VB out)
    ck (aaB (lC X.P e) (qm X.P e) q)
    wr r (.arr false false iU s (rows.set i (splice row off [.sl true (lC X.P e) q.2.2.2.2])))
    pure (d1,d2,.d (.int k n),.d (.int q.1 q.2.1))
   |_=> .fail
  |_,_=> .fail
 |_,_,_=> .fail
def DR(X:Ctx)(K:jo)(fn:Nat)(ops:Array Oper)(p:Nat)(S:St):Option St:=
 match ops[p]?,ops[p+1]?,ops[p+2]? with
 |some o1,some o2,some o3=>match(Lc X K S.tm o1 o2 o3).run S.mem .none with
  |some ((d1,d2,kv,v),m,_)=>bif Nat.blt d1 (DN X.P fn) &&(Nat.blt d2 (DN X.P fn) && Jp (DN X.P fn) o3.dst) then some ⟨Um o3.dst v (put d2 kv (put d1 .undef S.tm)),m⟩ else none
  |none=>none
 |_,_,_=>none
def yK(X:Ctx)(K:jo)(fn id:Nat)(ops:Array Oper)(draw:Bool)(S:St):Option (St×List (Nat×Log)):=
 match X.Jd.fuse fn id with
 |0=>uK X K fn ops (List.range ops.size) S []
 |p+1=>match draw with
  |true=>none
  |false=>match uK X K fn ops (List.range p) S [] with
   |some (S1,_)=>match DR X K fn ops p S1 with
    |some S2=>uK X K fn ops ((List.range ops.size).drop (p+3)) S2 []
    |none=>none
   |none=>none
def region(X:Ctx)(K:jo)(fn id:Nat)(ops:Array Oper)(draw:Bool)(S:St):Option St:=
 match yK X K fn id ops draw S with
 |none=>none
 |some (S',L)=>bif(match draw with|false=>true|true=>X.P.follows .mixedOrders &&(backOk ops && QJ ops (Region.before ops) L)) then prune (X.Jd.keep fn id) S' else none
inductive Ex where
 |normal
 |exit (id:Nat)
 |ret
noncomputable def lim{α:Type}(f:Nat→Option α):Option α:=
 open Classical in if h:∃a n,f n=some a then some (Classical.choose h) else none
def iter(b:St→Option (Ex×St)):Nat→St→Option (Ex×St)
 |0,_=>none
 |n+1,S=>match b S with
  |some (.normal,S')=>iter b n S'
  |r=>r
noncomputable def NQ(b:St→Option (Ex×St))(S:St):Option (Ex×St):=lim fun n=>iter b n S
def TI(P:Program)(tm:jP)(c:Operand):Option Bool:=match ev P tm 0 c with
 | .d (.bool b)=>some b
 |_=>none
noncomputable def den(X:Ctx)(K:jo)(fn:Nat):Code→St→Option (Ex×St)
 | .skip,S=>some (.normal,S)
 | .region id ops draw,S=>match region X K fn id ops draw S with
  |some S'=>some (.normal,S')
  |none=>none
 | .seq a b,S=>match den X K fn a S with
  |some (.normal,S')=>den X K fn b S'
  |r=>r
 | .cond c a b,S=>match TI X.P S.tm c with
  |some true=>den X K fn a S
  |some false=>den X K fn b S
  |none=>none
 | .block id c,S=>match den X K fn c S with
  |some (.exit j,S')=>bif Nat.beq j id then some (.normal,S') else some (.exit j,S')
  |r=>r
 | .loop c,S=>NQ (den X K fn c) S
 | .exit id,S=>some (.exit id,S)
 | .ret,S=>some (.ret,S)
 |_,_=>none
def alW(A:Adv)(f i:Nat)(fl:Bool)(v:V):Acc V:=
 match EH A f i with
 |1=>(match v with
  | .d (.sl true s rows)=>do
   new i (.arr false fl 0 s rows)
   pure (.own i 0)
  | .d x=>pure (.d (roD x))
  |_=> .fail)
 |_=>pure v
def VD(X:Ctx)(f:Nat):Nat→List TypeId→List V→Acc jP
 |_,_,[]=>pure []
 |i,ts,v::vs=>do
  let v←alW X.Jd f i ((fls X.P 8 (ts.headD 0)).headD false) v
  let r←VD X f (i+1) ts.tail vs
  pure ((i,v)::r)
def qj:Nat→List Cell→Mem
 |_,[]=>[]
 |i,c::cs=>(lD+i,c)::qj (i+1) cs
def rX(n:Nat):List Nat:=(List.range n).map (lD+ ·)
def entry(X:Ctx)(f:Nat)(g:Func)(args:List V)(cells:List Cell):Acc jP:=do
 Yl X 9999 cells 0 (rX cells.length)
 VD X f 0 g.params.toList args
def aeK(P:Program)(tm:jP)(r:ResultVar)(t:TypeId):Acc Row:=
 match r with
 | .tmp x=>match Jk P t,Px x tm with
  |true,.agg cs=>Jo cs
  |false,.agg _=> .fail
  |false,v=>Jo [v]
  |true,_=> .fail
 | .cell a T=>match Px a tm with
  | .ptr r 0=>do
   match←rd r with
   |some (.box _ cs)=>do
    ck (Nat.beq T t && Nat.beq cs.length (lC P T) &&(ED P T &&(Jk P T||Nat.beq cs.length 1)))
    Jo cs
   |_=> .fail
  |_=> .fail
def SE(P:Program)(tm:jP):List ResultVar→List TypeId→Acc (List Row)
 |[],[]=>pure []
 |r::rs,t::ts=>do
  let row←aeK P tm r t
  let rows←SE P tm rs ts
  pure (row::rows)
 |_,_=> .fail
def leave(X:Ctx)(g:Func)(n:Nat)(S:St):Option (List Row×List Cell):=
 match(do
  let rows←SE X.P S.tm g.results.toList g.resultTypes.toList
  let cells←QG X.Jd (rX n) (rX n)
  pure (rows,cells):Acc (List Row×List Cell)).run S.mem .none with
 |some (r,_,_)=>some r
 |none=>none
noncomputable def body(X:Ctx)(K:jo)(f:Nat)(args:List V)(cells:List Cell):Option (List Row×List Cell):=
 match X.P.funcs[f]? with
 |some g=>match g.body with
  |some c=>bif !(Nat.ble cells.length lD && Nat.ble args.length g.ntmps) then none else match(entry X f g args cells).run (qj 0 cells) .none with
   |some (tm,m,_)=>(match den X K f c ⟨tm,m⟩ with
    |some (.normal,S)=>leave X g cells.length S
    |some (.ret,S)=>leave X g cells.length S
    |_=>none)
   |none=>none
  |none=>none
 |none=>none
noncomputable def QL(X:Ctx):Nat→jo
 |0,_,_,_=>none
 |n+1,f,args,cells=>match X.Vt f with
  |some p=>p args cells
  |none=>body X (QL X n) f args cells
noncomputable def call(X:Ctx):jo:=fun f args cells=>lim fun n=>QL X n f args cells
end Go.Vm
namespace Go.Vm
open Go
abbrev View:=Nat→Nat→Option Value
abbrev Heap:=Nat→Option Obj
def dR(w:World):Heap:=fun b=>w.heap[b]?
mutual
def ro(h:View):D→Value→Prop
 | .int k n,v=>v=.int k n
 | .bool b,v=>v=.bool b
 | .str s,v=>v=.string ⟨⟨s⟩⟩
 | .MG,v=>v=.nilFunc
 | .sl _ s rows,v=>∃a cap,v=.slice a rows.length cap∧rows.length≤cap∧(rows≠[]→∃b o,a=some ⟨b,o,none⟩∧mW h s rows b o)
def mW(h:View)(s:Nat):List Row→Nat→Nat→Prop
 |[],_,_=>True
 |r::rs,b,o=>r.length=s∧uM h r b o∧mW h s rs b (o+s)
def uM(h:View):Row→Nat→Nat→Prop
 |[],_,_=>True
 |x::r,b,o=>(∃v,h b o=some v∧ro h x v)∧uM h r b (o+1)
end
mutual
def ow(H:Heap)(h:View):D→Value→List Nat→Prop
 | .int k n,v,N=>v=.int k n∧N=[]
 | .bool b,v,N=>v=.bool b∧N=[]
 | .str s,v,N=>v=.string ⟨⟨s⟩⟩∧N=[]
 | .MG,v,N=>v=.nilFunc∧N=[]
 | .sl own s rows,v,N=>match own with
  |false=>N=[]∧ro h (.sl false s rows) v
  |true=>(rows=[]∧v=.slice none 0 0∧N=[])∨
   ∃b cap cs t N',v=.slice (some ⟨b,0,none⟩) rows.length cap∧rows.length≤cap∧H b=some (.cells cs t (0,0))∧cs.size=cap * s∧
    fO H h s rows cs.toList N'∧N=b::N'
def fO(H:Heap)(h:View)(s:Nat):List Row→List Value→List Nat→Prop
 |[],_,N=>N=[]
 |r::rs,cs,N=>r.length=s∧∃N1 N2,N=N1++N2∧iI H h r cs N1∧fO H h s rs (cs.drop s) N2
def iI(H:Heap)(h:View):Row→List Value→List Nat→Prop
 |[],_,N=>N=[]
 |x::r,cs,N=>∃v cs' N1 N2,cs=v::cs'∧N=N1++N2∧ow H h x v N1∧iI H h r cs' N2
end
def jc(h:View):Row→List Value→Prop
 |[],_=>True
 |x::r,cs=>∃v cs',cs=v::cs'∧ro h x v∧jc h r cs'
def fQ(h:View)(s:Nat):List Row→List Value→Prop
 |[],_=>True
 |r::rs,cs=>r.length=s∧jc h r cs∧fQ h s rs (cs.drop s)
def Qo(H:Heap)(h:View)(fl:Bool)(s:Nat)(rows:List Row)(v:Value)(N:List Nat):Prop:=
 (rows=[]∧v=.slice none 0 0∧N=[])∨
 ∃b cap cs t N',v=.slice (some ⟨b,0,none⟩) rows.length cap∧rows.length≤cap∧H b=some (.cells cs t (0,0))∧cs.size=cap * s∧
  (match fl with
   |true=>fQ h s rows cs.toList∧N'=[]
   |false=>fO H h s rows cs.toList N')∧N=b::N'
def ac1(H:Heap)(h:View)(s:Nat)(rows:List Row)(v:Value)(N:List Nat):Prop:=
 (rows=[]∧v=.slice none 0 0∧N=[])∨
 ∃b o cap cs t,v=.slice (some ⟨b,o,none⟩) rows.length cap∧rows.length≤cap∧H b=some (.cells cs t (0,0))∧o+cap * s≤cs.size∧
  fQ h s rows (cs.toList.drop o)∧N=[b]
def OC(g:Value):Prop:=∃a n c,g=.slice a n c
def as8(g:Value):Prop:=∃b o,g=.pointer (some ⟨b,o,none⟩)
mutual
def bJ(μ:Nat→Value)(m:Mem)(h:View):V→Value→Prop
 | .d x,g=>ro h x g
 | .nil _,g=>g=.slice none 0 0
 | .own r v0,g=>OC g∧match get r m with
  |some (.arr _ _ ver _ _)=>v0≤ver∧(v0=ver→g=μ r)
  |some .dead=>True
  |some (.DJ ver _ _)=>v0≤ver∧(v0=ver→g=μ r)
  |_=>False
 | .ptr r off,g=>as8 g∧match get r m with
  |some (.box _ _)=>∃b,μ r=.pointer (some ⟨b,0,none⟩)∧g=.pointer (some ⟨b,off,none⟩)
  |some .dead=>True
  |_=>False
 | .sS r v0 i off,g=>as8 g∧match get r m with
  |some (.arr _ _ ver s _)=>v0≤ver∧(v0=ver→∃b n cap,μ r=.slice (some ⟨b,0,none⟩) n cap∧g=.pointer (some ⟨b,i * s+off,none⟩))
  |some .dead=>True
  |some (.DJ ver s _)=>v0≤ver∧(v0=ver→∃b o n cap,μ r=.slice (some ⟨b,o,none⟩) n cap∧g=.pointer (some ⟨b,o+(i * s+off),none⟩))
  |_=>False
 | .sJ row off,g=>∃b o,g=.pointer (some ⟨b,o+off,none⟩)∧uM h row b o
 | .clo f first caps,g=>∃a c,g=.func (.func f) a c∧dO μ m h first a.toList∧dO μ m h caps c.toList
 | .agg cs,g=>∃a,g=.agg a∧dO μ m h cs a.toList
 | .yE vs,g=>∃a,g=.tuple a∧dO μ m h vs a.toList
 | .undef,_=>True
def dO(μ:Nat→Value)(m:Mem)(h:View):List V→List Value→Prop
 |[],gs=>gs=[]
 |v::vs,gs=>∃g gs',gs=g::gs'∧bJ μ m h v g∧dO μ m h vs gs'
end
def lW(μ:Nat→Value)(m:Mem)(H:Heap)(h:View)(r:Nat):Cell→List Nat→Prop
 | .box t cs,N=>∃b a,μ r=.pointer (some ⟨b,0,none⟩)∧H b=some (.cells a t (0,0))∧dO μ m h cs a.toList∧N=[b]
 | .arr fz fl _ s rows,N=>match fz with
  |true=>ro h (.sl true s rows) (μ r)∧N=[]
  |false=>Qo H h fl s rows (μ r) N
 | .dead,N=>N=[]
 | .DJ _ s rows,N=>ac1 H h s rows (μ r) N
open Classical in
noncomputable def view(w:World)(U X:Nat→Prop):View:=fun b o=>if U b∧¬X b then w.cell? ⟨b,o,none⟩ else none
def excl(F:Nat→List Nat)(E:List Nat):Nat→Prop:=fun b=>b∈E∨∃r,b∈F r
structure Keep(M:List Nat)(w w':World):Prop where
 os:w'.os=w.os
 tape:w'.tape=w.tape
 output:w'.output=w.output
 size:w.heap.size≤w'.heap.size
 block:∀b,b<w.heap.size→b ∉ M→w'.heap[b]? =w.heap[b]?
theorem Keep.refl(M:List Nat)(w:World):Keep M w w:=⟨rfl,rfl,rfl,Nat.le_refl _,fun _ _ _=>rfl⟩
theorem Keep.trans{M M':List Nat}{a b c:World}(h:Keep M a b)(k:Keep M' b c)(hM:∀x,x∈M'→x∈M∨a.heap.size≤x):Keep M a c:=
 ⟨k.os.trans h.os,k.tape.trans h.tape,k.output.trans h.output,Nat.le_trans h.size k.size,fun i hi hm=>
  (k.block i (Nat.lt_of_lt_of_le hi h.size) (fun hx=>(hM i hx).elim hm (fun hl=>absurd hi (Nat.not_lt.2 hl)))).trans (h.block i hi hm)⟩
structure MInv(base:Nat)(U:Nat→Prop)(m:Mem)(w:World)(μ:Nat→Value)(F:Nat→List Nat)(E:List Nat)(out:List Nat):Prop where
 cell:∀r c,get r m=some c→r ∉ out→lW μ m (dR w) (view w U (excl F E)) r c (F r)
 dj:∀r r',r≠r'→∀b,b∈F r→b ∉ F r'
 djE:∀r b,b∈F r→b ∉ E
 nd:∀r,(F r).Nodup
 ndE:E.Nodup
 lt:∀b,excl F E b→b<w.heap.size∧base≤b∧U b
 up:∀b,w.heap.size≤b→U b
 bs:base≤w.heap.size
 none_:∀r,get r m=none→F r=[]
 out_:∀r,r∈out→F r=[]
def View.le(h h':View):Prop:=∀b o v,h b o=some v→h' b o=some v
theorem View.le_refl(h:View):h.le h:=fun _ _ _ x=>x
theorem View.le.trans'{a b c:View}(h:a.le b)(k:b.le c):a.le c:=fun x y v q=>k x y v (h x y v q)
mutual
theorem DU{h h':View}(hl:h.le h'):∀(x:D) (v:Value),ro h x v→ro h' x v
 | .int _ _,_,q=>by simpa[ro] using q
 | .bool _,_,q=>by simpa[ro] using q
 | .str _,_,q=>by simpa[ro] using q
 | .MG,_,q=>by simpa[ro] using q
 | .sl _ s rows,v,q=>by
  simp only[ro] at q⊢
  obtain⟨a,cap,h1,h2,h3⟩:=q
  refine⟨a,cap,h1,h2,fun hn=> ?_⟩
  obtain⟨b,o,h4,h5⟩:=h3 hn
  exact⟨b,o,h4,Yn hl s rows b o h5⟩
theorem Yn{h h':View}(hl:h.le h')(s:Nat):∀(rows:List Row) (b o:Nat),mW h s rows b o→mW h' s rows b o
 |[],_,_,_=>by simp[mW]
 |r::rs,b,o,q=>by
  simp only[mW] at q⊢
  exact⟨q.1,MI hl r b o q.2.1,Yn hl s rs b (o+s) q.2.2⟩
theorem MI{h h':View}(hl:h.le h'):∀(r:Row) (b o:Nat),uM h r b o→uM h' r b o
 |[],_,_,_=>by simp[uM]
 |x::r,b,o,q=>by
  simp only[uM] at q⊢
  obtain⟨⟨v,h1,h2⟩,h3⟩:=q
  exact⟨⟨v,hl _ _ _ h1,DU hl x v h2⟩,MI hl r b (o+1) h3⟩
end
mutual
theorem aeL{H H':Heap}{h h':View}(hl:h.le h'):∀(x:D) (v:Value) (N:List Nat),(∀b,b∈N→H' b=H b)→ow H h x v N→ow H' h' x v N
 | .int _ _,_,_,_,q=>by simpa[ow] using q
 | .bool _,_,_,_,q=>by simpa[ow] using q
 | .str _,_,_,_,q=>by simpa[ow] using q
 | .MG,_,_,_,q=>by simpa[ow] using q
 | .sl false s rows,v,N,_,q=>by
  simp only[ow] at q⊢
  exact⟨q.1,DU hl _ _ q.2⟩
 | .sl true s rows,v,N,hb,q=>by
  simp only[ow] at q⊢
  rcases q with q|⟨b,cap,cs,t,N',h1,h2,h3,h4,h5,rfl⟩
  ·exact .inl q
  ·exact .inr ⟨b,cap,cs,t,N',h1,h2,by rw[hb b (by simp)];exact h3,h4,wu hl s rows cs.toList N' (fun b' hb'=>hb b' (by simp[hb'])) h5,rfl⟩
theorem wu{H H':Heap}{h h':View}(hl:h.le h')(s:Nat):∀(rows:List Row) (cs:List Value) (N:List Nat),(∀b,b∈N→H' b=H b)→fO H h s rows cs N→fO H' h' s rows cs N
 |[],_,_,_,q=>by simpa[fO] using q
 |r::rs,cs,N,hb,q=>by
  simp only[fO] at q⊢
  obtain⟨h1,N1,N2,rfl,h2,h3⟩:=q
  exact⟨h1,N1,N2,rfl,Gg hl r cs N1 (fun b hx=>hb b (by simp[hx])) h2,wu hl s rs _ N2 (fun b hx=>hb b (by simp[hx])) h3⟩
theorem Gg{H H':Heap}{h h':View}(hl:h.le h'):∀(r:Row) (cs:List Value) (N:List Nat),(∀b,b∈N→H' b=H b)→iI H h r cs N→iI H' h' r cs N
 |[],_,_,_,q=>by simpa[iI] using q
 |x::r,cs,N,hb,q=>by
  simp only[iI] at q⊢
  obtain⟨v,cs',N1,N2,rfl,rfl,h2,h3⟩:=q
  exact⟨v,cs',N1,N2,rfl,rfl,aeL hl x v N1 (fun b hx=>hb b (by simp[hx])) h2,Gg hl r cs' N2 (fun b hx=>hb b (by simp[hx])) h3⟩
end
theorem VE{h h':View}(hl:h.le h'):∀(r:Row) (cs:List Value),jc h r cs→jc h' r cs
 |[],_,_=>trivial
 |x::r,cs,⟨v,cs',h1,h2,h3⟩=>⟨v,cs',h1,DU hl x v h2,VE hl r cs' h3⟩
theorem mX{h h':View}(hl:h.le h')(s:Nat):∀(rows:List Row) (cs:List Value),fQ h s rows cs→fQ h' s rows cs
 |[],_,_=>trivial
 |r::rs,cs,⟨h1,h2,h3⟩=>⟨h1,VE hl r cs h2,mX hl s rs _ h3⟩
theorem GI{H H':Heap}{h h':View}(hl:h.le h'){fl:Bool}{s:Nat}{rows:List Row}{v:Value}{N:List Nat}(hb:∀b,b∈N→H' b=H b)(q:Qo H h fl s rows v N):Qo H' h' fl s rows v N:=by
 rcases q with q|⟨b,cap,cs,t,N',h1,h2,h3,h4,h5,rfl⟩
 ·exact .inl q
 ·refine .inr ⟨b,cap,cs,t,N',h1,h2,by rw[hb b (by simp)];exact h3,h4, ?_,rfl⟩
  cases fl with
  |true=>exact⟨mX hl s rows _ h5.1,h5.2⟩
  |false=>exact wu hl s rows _ N' (fun b' hb'=>hb b' (by simp[hb'])) h5
theorem Xu{H H':Heap}{h h':View}(hl:h.le h'){s:Nat}{rows:List Row}{v:Value}{N:List Nat}(hb:∀b,b∈N→H' b=H b)(q:ac1 H h s rows v N):ac1 H' h' s rows v N:=by
 rcases q with q|⟨b,o,cap,cs,t,h1,h2,h3,h4,h5,rfl⟩
 ·exact .inl q
 ·exact .inr ⟨b,o,cap,cs,t,h1,h2,by rw[hb b (by simp)];exact h3,h4,mX hl s rows _ h5,rfl⟩
def Gi(μ μ':Nat→Value)(r:Nat):Cell→Cell→Prop
 | .box t _,.box t' _=>t'=t∧μ' r=μ r
 | .arr _ fl ver s _,.arr _ fl' iU s' _=>ver≤iU∧fl'=fl∧(ver=iU→μ' r=μ r∧s'=s)
 |_,.dead=>True
 | .arr _ _ ver _ _,.DJ iU _ _=>ver<iU
 | .DJ ver s _,.DJ iU s' _=>ver≤iU∧(ver=iU→μ' r=μ r∧s'=s)
 |_,_=>False
def EF(μ:Nat→Value)(m:Mem)(μ':Nat→Value)(m':Mem):Prop:=∀r c,get r m=some c→∃c',get r m'=some c'∧Gi μ μ' r c c'
theorem Yo(μ:Nat→Value)(r:Nat)(c:Cell):Gi μ μ r c c:=by cases c<;>simp[Gi]
theorem sO(μ:Nat→Value)(m:Mem):EF μ m μ m:=fun r c h=>⟨c,h,Yo μ r c⟩
theorem rC{μ1 μ2 μ3:Nat→Value}{m1 m2 m3:Mem}(h:EF μ1 m1 μ2 m2)(k:EF μ2 m2 μ3 m3):EF μ1 m1 μ3 m3:=by
 intro r c hc
 obtain⟨c',h1,h2⟩:=h r c hc
 obtain⟨c'',k1,k2⟩:=k r c' h1
 refine⟨c'',k1, ?_⟩
 cases c<;>cases c'<;>cases c''<;>simp_all [Gi]
 ·rename_i ver s _ _ _ iU s' _ _ _ apn s'' _
  refine⟨by omega,fun e=> ?_⟩
  have e1:ver=iU:=by omega
  have e2:iU=apn:=by omega
  exact⟨(k2.2.2 e2).1.trans (h2.2.2 e1).1,(k2.2.2 e2).2.trans (h2.2.2 e1).2⟩
 ·omega
 ·omega
 ·rename_i ver s _ iU s' _ apn s'' _
  refine⟨by omega,fun e=> ?_⟩
  have e1:ver=iU:=by omega
  have e2:iU=apn:=by omega
  exact⟨(k2.2 e2).1.trans (h2.2 e1).1,(k2.2 e2).2.trans (h2.2 e1).2⟩
mutual
theorem Js{μ μ':Nat→Value}{m m':Mem}{h h':View}(hm:EF μ m μ' m')(hl:h.le h'):∀(v:V) (g:Value),bJ μ m h v g→bJ μ' m' h' v g
 | .d x,g,q=>by simp only[bJ] at q⊢;exact DU hl x g q
 | .nil _,_,q=>by simpa[bJ] using q
 | .own r v0,g,q=>by
  simp only[bJ] at q⊢
  refine⟨q.1, ?_⟩
  replace q:=q.2
  cases hc:get r m with
  |none=>simp[hc] at q
  |some c=>
   obtain⟨c',h1,h2⟩:=hm r c hc
   rw[h1]
   cases c<;>cases c'<;>simp_all [Gi]
   ·rename_i ver s _ _ _ iU s' _
    refine⟨by omega,fun e=> ?_⟩
    have e1:ver=iU:=by omega
    rw[(h2.2.2 e1).1]
    exact q.2 (by omega)
   ·exact⟨by omega,fun e=>by omega⟩
   ·rename_i ver s _ iU s' _
    refine⟨by omega,fun e=> ?_⟩
    have e1:ver=iU:=by omega
    rw[(h2.2 e1).1]
    exact q.2 (by omega)
 | .ptr r off,g,q=>by
  simp only[bJ] at q⊢
  refine⟨q.1, ?_⟩
  replace q:=q.2
  cases hc:get r m with
  |none=>simp[hc] at q
  |some c=>
   obtain⟨c',h1,h2⟩:=hm r c hc
   rw[h1]
   cases c<;>cases c'<;>simp_all [Gi]
 | .sS r v0 i off,g,q=>by
  simp only[bJ] at q⊢
  refine⟨q.1, ?_⟩
  replace q:=q.2
  cases hc:get r m with
  |none=>simp[hc] at q
  |some c=>
   obtain⟨c',h1,h2⟩:=hm r c hc
   rw[h1]
   cases c<;>cases c'<;>simp_all [Gi]
   ·rename_i ver s _ _ _ iU s' _
    refine⟨by omega,fun e=> ?_⟩
    have e1:ver=iU:=by omega
    rw[(h2.2.2 e1).1,(h2.2.2 e1).2]
    exact q.2 (by omega)
   ·exact⟨by omega,fun e=>by omega⟩
   ·rename_i ver s _ iU s' _
    refine⟨by omega,fun e=> ?_⟩
    have e1:ver=iU:=by omega
    rw[(h2.2 e1).1,(h2.2 e1).2]
    exact q.2 (by omega)
 | .sJ row off,g,q=>by
  simp only[bJ] at q⊢
  obtain⟨b,o,h1,h2⟩:=q
  exact⟨b,o,h1,MI hl row b o h2⟩
 | .clo f first caps,g,q=>by
  simp only[bJ] at q⊢
  obtain⟨a,c,h1,h2,h3⟩:=q
  exact⟨a,c,h1,qw hm hl first _ h2,qw hm hl caps _ h3⟩
 | .agg cs,g,q=>by
  simp only[bJ] at q⊢
  obtain⟨a,h1,h2⟩:=q
  exact⟨a,h1,qw hm hl cs _ h2⟩
 | .yE vs,g,q=>by
  simp only[bJ] at q⊢
  obtain⟨a,h1,h2⟩:=q
  exact⟨a,h1,qw hm hl vs _ h2⟩
 | .undef,_,_=>by simp[bJ]
theorem qw{μ μ':Nat→Value}{m m':Mem}{h h':View}(hm:EF μ m μ' m')(hl:h.le h'):∀(vs:List V) (gs:List Value),dO μ m h vs gs→dO μ' m' h' vs gs
 |[],_,q=>by simpa[dO] using q
 |v::vs,gs,q=>by
  simp only[dO] at q⊢
  obtain⟨g,gs',h1,h2,h3⟩:=q
  exact⟨g,gs',h1,Js hm hl v g h2,qw hm hl vs gs' h3⟩
end
theorem Hf{μ μ':Nat→Value}{m m':Mem}{H H':Heap}{h h':View}(hm:EF μ m μ' m')(hl:h.le h'){r:Nat}(hr:μ' r=μ r){c:Cell}{N:List Nat}(hb:∀b,b∈N→H' b=H b)
  (q:lW μ m H h r c N):lW μ' m' H' h' r c N:=by
 cases c with
 |box t cs=>
  obtain⟨b,a,h1,h2,h3,rfl⟩:=q
  exact⟨b,a,by rw[hr];exact h1,by rw[hb b (by simp)];exact h2,qw hm hl cs _ h3,rfl⟩
 |arr fz fl ver s rows=>
  cases fz with
  |true=>exact⟨by rw[hr];exact DU hl _ _ q.1,q.2⟩
  |false=>simp only[lW] at q⊢;rw[hr];exact GI hl hb q
 |dead=>exact q
 |DJ ver s rows=>simp only[lW] at q⊢;rw[hr];exact Xu hl hb q
theorem uN{k j:Nat}(h:k≠j):Nat.beq k j=false:=by
 cases hb:Nat.beq k j with
 |false=>rfl
 |true=>exact absurd (Nat.eq_of_beq_eq_true hb) h
theorem jk{α:Type}(k:Nat)(x:α):∀l:List (Nat×α),get k (put k x l)=some x
 |[]=>by simp[put,get]
 |(j,y)::l=>by
  simp only[put]
  by_cases h:k=j
  ·subst h;simp[get]
  ·have hb:Nat.beq k j=false:=uN h
   rw[hb]
   cases hl:Nat.blt k j with
   |true=>simp[get]
   |false=>simp[get,hb,jk k x l]
theorem kN{α:Type}{k k':Nat}(hk:k≠k')(x:α):∀l:List (Nat×α),get k (put k' x l)=get k l
 |[]=>by
  have hb:Nat.beq k k'=false:=uN hk
  simp[put,get,hb]
 |(j,y)::l=>by
  have hb:Nat.beq k k'=false:=uN hk
  simp only[put]
  by_cases h:k'=j
  ·subst h;simp[get,hb]
  ·have hb':Nat.beq k' j=false:=uN h
   rw[hb']
   cases hl:Nat.blt k' j with
   |true=>simp[get,hb]
   |false=>simp[get,kN hk x l]
theorem Hg{α:Type}(k:Nat):∀l:List (Nat×α),get k (del k l)=none
 |[]=>rfl
 |(j,y)::l=>by
  simp only[del]
  cases hb:Nat.beq k j with
  |true=>simpa using Hg k l
  |false=>simp[get,hb,Hg k l]
theorem JR{α:Type}{k k':Nat}(hk:k≠k'):∀l:List (Nat×α),get k (del k' l)=get k l
 |[]=>rfl
 |(j,y)::l=>by
  simp only[del]
  cases hb:Nat.beq k' j with
  |true=>
   have:k'=j:=Nat.eq_of_beq_eq_true hb
   subst this
   have hb:Nat.beq k k'=false:=uN hk
   simp[get,hb,JR hk l]
  |false=>simp[get,JR hk l]
theorem get_put{α:Type}(k k':Nat)(x:α)(l:List (Nat×α)):get k (put k' x l)=if k=k' then some x else get k l:=by
 by_cases h:k=k'
 ·subst h;rw[jk,if_pos rfl]
 ·rw[kN h,if_neg h]
theorem as9{α:Type}(k k':Nat)(l:List (Nat×α)):get k (del k' l)=if k=k' then none else get k l:=by
 by_cases h:k=k'
 ·subst h;rw[Hg,if_pos rfl]
 ·rw[JR h,if_neg h]
theorem Acc.run_bind{α β:Type}(a:Acc α)(f:α→Acc β):∀(m:Mem) (l:Log),(a.bind f).run m l=match a.run m l with|some (x,m',l')=>(f x).run m' l'|none=>none:=by
 induction a with
 |ret a=>intro m l;rfl
 |fail=>intro m l;rfl
 |get k c ih=>intro m l;simp only[Acc.bind,Acc.run];exact ih _ _ _
 |set k x c ih=>intro m l;simp only[Acc.bind,Acc.run];exact ih _ _
 |opt o c ih=>intro m l;simp only[Acc.bind,Acc.run];cases o with|none=>rfl|some b=>exact ih b _ _
 |guard b c ih=>intro m l;simp only[Acc.bind,Acc.run];cases b with|true=>exact ih _ _|false=>rfl
theorem run_bind{α β:Type}(a:Acc α)(f:α→Acc β)(m:Mem)(l:Log):(a>>=f).run m l=match a.run m l with|some (x,m',l')=>(f x).run m' l'|none=>none:=Acc.run_bind a f m l
theorem aj{α β:Type}{a:Acc α}{f:α→Acc β}{m:Mem}{l:Log}{y:β}{m':Mem}{l':Log}(h:(a>>=f).run m l=some (y,m',l')):
  ∃x m1 l1,a.run m l=some (x,m1,l1)∧(f x).run m1 l1=some (y,m',l'):=by
 rw[run_bind] at h
 cases ha:a.run m l with
 |none=>simp[ha] at h
 |some x=>obtain⟨x,m1,l1⟩:=x;rw[ha] at h;exact⟨x,m1,l1,rfl,h⟩
theorem run_pure{α:Type}(a:α)(m:Mem)(l:Log):(Pure.pure a:Acc α).run m l=some (a,m,l):=rfl
theorem uO(k:Nat)(m:Mem)(l:Log):(rd k).run m l=some (get k m,m,l.rd k):=rfl
theorem CZ(k:Nat)(c:Cell)(m:Mem)(l:Log):(wr k c).run m l=some ((),put k c m,l.wr k):=rfl
theorem eF{b:Bool}{m:Mem}{l:Log}{x:Unit}{m':Mem}{l':Log}(h:(ck b).run m l=some (x,m',l')):b=true∧m'=m∧l'=l:=by
 cases b<;>simp[ck,Acc.run] at h
 exact⟨rfl,h.1.symm,h.2.symm⟩
theorem gU{β:Type}{o:Option β}{m:Mem}{l:Log}{x:β}{m':Mem}{l':Log}(h:(op' o).run m l=some (x,m',l')):o=some x∧m'=m∧l'=l:=by
 cases o<;>simp[op',Acc.run] at h
 obtain⟨rfl,rfl,rfl⟩:=h
 exact⟨rfl,rfl,rfl⟩
theorem au{α:Type}{m:Mem}{l:Log}{r:α×Mem×Log}(h:(Acc.fail:Acc α).run m l=some r):False:=by simp[Acc.run] at h
structure aaC(X:Ctx)(h:View):Prop where
 row:∀g row,X.glob g=some row→uM h row g 0
 int:∀g,X.aKh g=true→∃n,h g 0=some (.int .i64 n)
theorem C9{X:Ctx}{h h':View}(hl:h.le h')(q:aaC X h):aaC X h':=⟨fun g row hg=>MI hl row g 0 (q.row g row hg),fun g hg=>by
 obtain⟨n,hn⟩:=q.int g hg
 exact⟨n,hl _ _ _ hn⟩⟩
theorem aaD{h:View}:∀(row:Row) (b o:Nat),uM h row b o→mW h 1 (row.map fun x=>[x]) b o
 |[],_,_,_=>trivial
 |x::r,b,o,⟨h1,h2⟩=>⟨rfl,⟨h1,trivial⟩,aaD r b (o+1) h2⟩
end Go.Vm
namespace Go.Vm
open Go
def Vr(F:Nat→List Nat)(r:Nat)(N:List Nat):Nat→List Nat:=fun k=>if k=r then N else F k
def upM(μ:Nat→Value)(r:Nat)(g:Value):Nat→Value:=fun k=>if k=r then g else μ k
@[simp] theorem AU(F:Nat→List Nat)(r:Nat)(N:List Nat):Vr F r N r=N:=by simp[Vr]
theorem jJ{F:Nat→List Nat}{r k:Nat}(N:List Nat)(h:k≠r):Vr F r N k=F k:=by simp[Vr,h]
@[simp] theorem Hl(μ:Nat→Value)(r:Nat)(g:Value):upM μ r g r=g:=by simp[upM]
theorem Jt{μ:Nat→Value}{r k:Nat}(g:Value)(h:k≠r):upM μ r g k=μ k:=by simp[upM,h]
def full(w:World):View:=fun b o=>w.cell? ⟨b,o,none⟩
theorem wz(w:World)(U X:Nat→Prop):(view w U X).le (full w):=by
 intro b o v h
 unfold view at h
 split at h
 ·exact h
 ·cases h
theorem LJ{w:World}{U U' X X':Nat→Prop}(hU:∀b,U b→U' b)(h:∀b,X' b→X b):(view w U X).le (view w U' X'):=by
 intro b o v hv
 unfold view at hv⊢
 split at hv
 ·rename_i hc
  rw[if_pos ⟨hU b hc.1,fun hx=>hc.2 (h b hx)⟩]
  exact hv
 ·cases hv
structure GS where
 μ:Nat→Value
 F:Nat→List Nat
 E:List Nat
 out:List Nat
section
variable (base:Nat) (U:Nat→Prop) (w:World)
def BL(m:Mem)(G:GS):Prop:=MInv base U m w G.μ G.F G.E G.out
noncomputable def Gh(G:GS):View:=view w U (excl G.F G.E)
end
structure QM(m:Mem)(G:GS)(m':Mem)(G':GS):Prop where
 mem:EF G.μ m G'.μ m'
 ex:∀b,excl G'.F G'.E b→excl G.F G.E b
theorem QM.refl(m:Mem)(G:GS):QM m G m G:=⟨sO _ _,fun _ h=>h⟩
theorem QM.trans{m1 m2 m3:Mem}{G1 G2 G3:GS}(h:QM m1 G1 m2 G2)(k:QM m2 G2 m3 G3):QM m1 G1 m3 G3:=
 ⟨rC h.mem k.mem,fun b hb=>h.ex b (k.ex b hb)⟩
theorem QM.view{U:Nat→Prop}{w:World}{m m':Mem}{G G':GS}(h:QM m G m' G'):(Gh U w G).le (Gh U w G'):=LJ (fun _ x=>x) h.ex
theorem QM.bJ{U:Nat→Prop}{w:World}{m m':Mem}{G G':GS}(h:QM m G m' G'){v:V}{g:Value}(q:bJ G.μ m (Gh U w G) v g):bJ G'.μ m' (Gh U w G') v g:=
 Js h.mem h.view v g q
theorem QM.dO{U:Nat→Prop}{w:World}{m m':Mem}{G G':GS}(h:QM m G m' G'){v:List V}{g:List Value}(q:dO G.μ m (Gh U w G) v g):dO G'.μ m' (Gh U w G') v g:=
 qw h.mem h.view v g q
section
variable {base:Nat} {U:Nat→Prop} {w:World} {m:Mem} {G:GS}
theorem BL.set(hg:BL base U w m G)(r:Nat)(c':Cell)(μ':Nat→Value)(N E' out':List Nat)
  (hs:(N++E').Nodup) (hsub:∀b,b∈N++E'→b∈G.F r∨b∈G.E) (hle:EF G.μ m μ' (put r c' m)) (hμ:∀k,k≠r→μ' k=G.μ k)
  (ho:∀k,k≠r→(k∈out'↔k∈G.out)) (hr:r∈out'→N=[])
  (hc:(view w U (excl G.F G.E)).le (view w U (excl (Vr G.F r N) E'))→r ∉ out'→lW μ' (put r c' m) (dR w) (view w U (excl (Vr G.F r N) E')) r c' N):
  BL base U w (put r c' m) ⟨μ',Vr G.F r N,E',out'⟩∧QM m G (put r c' m) ⟨μ',Vr G.F r N,E',out'⟩:=by
 have hex:∀b,excl (Vr G.F r N) E' b→excl G.F G.E b:=by
  rintro b (hb|⟨k,hb⟩)
  ·rcases hsub b (by simp[hb]) with h|h
   ·exact .inr ⟨r,h⟩
   ·exact .inl h
  ·by_cases hk:k=r
   ·subst hk
    rw[AU] at hb
    rcases hsub b (by simp[hb]) with h|h
    ·exact .inr ⟨_,h⟩
    ·exact .inl h
   ·rw[jJ N hk] at hb
    exact .inr ⟨k,hb⟩
 have hv:(view w U (excl G.F G.E)).le (view w U (excl (Vr G.F r N) E')):=LJ (fun _ x=>x) hex
 have hN:=List.nodup_append.1 hs
 refine⟨show MInv base U (put r c' m) w μ' (Vr G.F r N) E' out' from ?_,⟨hle,hex⟩⟩
 refine⟨?_, ?_, ?_, ?_,hN.2.1,fun b hb=>hg.lt b (hex b hb),hg.up,hg.bs, ?_, ?_⟩
 ·intro k c hk hko
  rw[get_put] at hk
  by_cases e:k=r
  ·subst e
   rw[if_pos rfl] at hk
   cases hk
   rw[AU]
   exact hc hv hko
  ·rw[if_neg e] at hk
   rw[jJ N e]
   exact Hf hle hv (hμ k e) (fun b _=>rfl) (hg.cell k c hk (fun h=>hko ((ho k e).2 h)))
 ·intro k k' hne b hb hb'
  by_cases e:k=r
  ·subst e
   rw[AU] at hb
   rw[jJ N (Ne.symm hne)] at hb'
   rcases hsub b (by simp[hb]) with h|h
   ·exact hg.dj _ _ hne b h hb'
   ·exact hg.djE _ b hb' h
  ·rw[jJ N e] at hb
   by_cases e':k'=r
   ·subst e'
    rw[AU] at hb'
    rcases hsub b (by simp[hb']) with h|h
    ·exact hg.dj _ _ hne b hb h
    ·exact hg.djE _ b hb h
   ·rw[jJ N e'] at hb'
    exact hg.dj _ _ hne b hb hb'
 ·intro k b hb hE
  by_cases e:k=r
  ·subst e
   rw[AU] at hb
   exact hN.2.2 b hb b hE rfl
  ·rw[jJ N e] at hb
   rcases hsub b (by simp[hE]) with h|h
   ·exact hg.dj _ _ e b hb h
   ·exact hg.djE _ b hb h
 ·intro k
  by_cases e:k=r
  ·subst e
   rw[AU]
   exact hN.1
  ·rw[jJ N e]
   exact hg.nd k
 ·intro k hk
  rw[get_put] at hk
  by_cases e:k=r
  ·rw[if_pos e] at hk;cases hk
  ·rw[if_neg e] at hk
   rw[jJ N e]
   exact hg.none_ k hk
 ·intro k hk
  by_cases e:k=r
  ·subst e
   rw[AU]
   exact hr hk
  ·rw[jJ N e]
   exact hg.out_ k ((ho k e).1 hk)
theorem BL.less(hg:BL base U w m G)(E':List Nat)(hn:E'.Nodup)(hs:∀b,b∈E'→b∈G.E):
  BL base U w m {G with E:=E'}∧QM m G m {G with E:=E'}:=by
 have hex:∀b,excl G.F E' b→excl G.F G.E b:=by
  rintro b (hb|hb)
  ·exact .inl (hs b hb)
  ·exact .inr hb
 have hv:(view w U (excl G.F G.E)).le (view w U (excl G.F E')):=LJ (fun _ x=>x) hex
 refine⟨⟨?_,hg.dj,fun r b hb hE=>hg.djE r b hb (hs b hE),hg.nd,hn,fun b hb=>hg.lt b (hex b hb),hg.up,hg.bs,hg.none_,hg.out_⟩,⟨sO _ _,hex⟩⟩
 intro r c hc ho
 exact Hf (sO _ _) hv rfl (fun _ _=>rfl) (hg.cell r c hc ho)
theorem GK{μ μ':Nat→Value}{r:Nat}{c':Cell}(hμ:∀k,k≠r→μ' k=μ k)(h:∀c,get r m=some c→Gi μ μ' r c c'):EF μ m μ' (put r c' m):=by
 intro k c hk
 by_cases e:k=r
 ·subst e
  exact⟨c',jk _ _ _,h c hk⟩
 ·refine⟨c,by rw[kN e];exact hk, ?_⟩
  cases c<;>simp[Gi,hμ k e]
theorem full_cell{b:Nat}{cs:Array Value}{t:TypeId}{fr:Nat×Nat}(h:dR w b=some (.cells cs t fr))(o:Nat):full w b o=cs.toList[o]? :=by
 simp only[full,World.cell?]
 unfold dR at h
 simp[h]
end
theorem aaE{h:View}{b:Nat}:∀(r:Row) (o:Nat) (cs:List Value),(∀j v,cs[j]? =some v→h b (o+j)=some v)→jc h r cs→uM h r b o
 |[],_,_,_,_=>by simp[uM]
 |x::r,o,cs,hc,⟨v,cs',e,h1,h2⟩=>by
  subst e
  simp only[uM]
  refine⟨⟨v,hc 0 v rfl,h1⟩,aaE r (o+1) cs' (fun j u hj=> ?_) h2⟩
  have:=hc (j+1) u (by simpa using hj)
  rw[show o+1+j=o+(j+1) from by omega]
  exact this
theorem QN{h:View}{b s:Nat}:∀(rs:List Row) (o:Nat) (cs:List Value),(∀j v,cs[j]? =some v→h b (o+j)=some v)→fQ h s rs cs→mW h s rs b o
 |[],_,_,_,_=>by simp[mW]
 |r::rs,o,cs,hc,⟨h1,h2,h3⟩=>by
  simp only[mW]
  refine⟨h1,aaE r o cs hc h2,QN rs (o+s) (cs.drop s) (fun j u hj=> ?_) h3⟩
  rw[List.getElem?_drop] at hj
  rw[show o+s+j=o+(s+j) from by omega]
  exact hc _ _ hj
def Xv(h:View)(H:Heap)(N:List Nat):Prop:=∀b,b∈N→∀cs t fr,H b=some (.cells cs t fr)→∀(o:Nat) v,cs.toList[o]? =some v→h b o=some v
theorem Xv.sub{h:View}{H:Heap}{N N':List Nat}(q:Xv h H N)(hs:∀b,b∈N'→b∈N):Xv h H N':=fun b hb=>q b (hs b hb)
mutual
theorem auL{H:Heap}{h h':View}(hl:h.le h'):∀(x:D) (v:Value) (N:List Nat),Xv h' H N→ow H h x v N→ro h' x v
 | .int _ _,_,_,_,q=>by simp only[ow] at q;simpa[ro] using q.1
 | .bool _,_,_,_,q=>by simp only[ow] at q;simpa[ro] using q.1
 | .str _,_,_,_,q=>by simp only[ow] at q;simpa[ro] using q.1
 | .MG,_,_,_,q=>by simp only[ow] at q;simpa[ro] using q.1
 | .sl false s rows,v,N,_,q=>by
  simp only[ow] at q
  have:=DU hl _ _ q.2
  simpa[ro] using this
 | .sl true s rows,v,N,hs,q=>by
  simp only[ow] at q
  simp only[ro]
  rcases q with⟨rfl,rfl,rfl⟩|⟨b,cap,cs,t,N',h1,h2,h3,h4,h5,rfl⟩
  ·exact⟨none,0,by simp,by simp,fun e=>absurd rfl e⟩
  ·refine⟨_,cap,h1,h2,fun _=>⟨b,0,rfl, ?_⟩⟩
   refine QN rows 0 cs.toList (fun j v hj=>by rw[Nat.zero_add];exact hs b (by simp) cs t _ h3 j v hj) ?_
   exact GL hl s rows cs.toList N' (hs.sub (by simp;exact fun _ hb=> .inr hb)) h5
theorem GL{H:Heap}{h h':View}(hl:h.le h')(s:Nat):∀(rows:List Row) (cs:List Value) (N:List Nat),Xv h' H N→fO H h s rows cs N→fQ h' s rows cs
 |[],_,_,_,_=>by simp[fQ]
 |r::rs,cs,N,hs,q=>by
  simp only[fO] at q
  obtain⟨h1,N1,N2,rfl,h2,h3⟩:=q
  simp only[fQ]
  exact⟨h1,Uz hl r cs N1 (hs.sub (by simp;exact fun _ hb=> .inl hb)) h2,GL hl s rs _ N2 (hs.sub (by simp;exact fun _ hb=> .inr hb)) h3⟩
theorem Uz{H:Heap}{h h':View}(hl:h.le h'):∀(r:Row) (cs:List Value) (N:List Nat),Xv h' H N→iI H h r cs N→jc h' r cs
 |[],_,_,_,_=>by simp[jc]
 |x::r,cs,N,hs,q=>by
  simp only[iI] at q
  obtain⟨v,cs',N1,N2,rfl,rfl,h1,h2⟩:=q
  simp only[jc]
  exact⟨v,cs',rfl,auL hl x v N1 (hs.sub (by simp;exact fun _ hb=> .inl hb)) h1,Uz hl r cs' N2 (hs.sub (by simp;exact fun _ hb=> .inr hb)) h2⟩
end
theorem aeM{H:Heap}{h h':View}(hl:h.le h'){fl:Bool}{s:Nat}{rows:List Row}{v:Value}{N:List Nat}(hs:Xv h' H N)(q:Qo H h fl s rows v N)(o:Bool):ro h' (.sl o s rows) v:=by
 simp only[ro]
 rcases q with⟨rfl,rfl,rfl⟩|⟨b,cap,cs,t,N',h1,h2,h3,h4,h5,rfl⟩
 ·exact⟨none,0,by simp,by simp,fun e=>absurd rfl e⟩
 ·refine⟨_,cap,h1,h2,fun _=>⟨b,0,rfl, ?_⟩⟩
  refine QN rows 0 cs.toList (fun j v hj=>by rw[Nat.zero_add];exact hs b (by simp) cs t _ h3 j v hj) ?_
  cases fl with
  |true=>exact mX hl s rows _ h5.1
  |false=>exact GL hl s rows cs.toList N' (hs.sub (by simp;exact fun _ hb=> .inr hb)) h5
theorem QO{h:View}{o o':Bool}{s:Nat}{rows:List Row}{v:Value}(q:ro h (.sl o s rows) v):ro h (.sl o' s rows) v:=by simpa[ro] using q
theorem adB{w:World}{N:List Nat}:Xv (full w) (dR w) N:=by
 intro b _ cs t fr hb o v hv
 rw[full_cell hb,hv]
theorem Me{w:World}{U X:Nat→Prop}{N:List Nat}(hU:∀b,b∈N→U b∧¬X b):Xv (view w U X) (dR w) N:=by
 intro b hm cs t fr hb o v hv
 unfold view
 rw[if_pos (hU b hm)]
 have:=full_cell hb o
 rw[hv] at this
 exact this
mutual
theorem apo{h:View}:∀(x:D) (v:Value),ro h x v→ro h x.fz v
 | .int _ _,_,q=>by simpa[D.fz] using q
 | .bool _,_,q=>by simpa[D.fz] using q
 | .str _,_,q=>by simpa[D.fz] using q
 | .MG,_,q=>by simpa[D.fz] using q
 | .sl own s rows,v,q=>by
  simp only[D.fz,ro] at q⊢
  obtain⟨a,cap,h1,h2,h3⟩:=q
  have hlen:(aA rows).length=rows.length:=Oj rows
  refine⟨a,cap,by rw[hlen];exact h1,by rw[hlen];exact h2,fun hn=> ?_⟩
  have hn':rows≠[]:=by intro e;subst e;exact hn rfl
  obtain⟨b,o,h4,h5⟩:=h3 hn'
  exact⟨b,o,h4,adC s rows b o h5⟩
theorem Oj:∀rows:List Row,(aA rows).length=rows.length
 |[]=>rfl
 |r::rs=>by simp[aA,Oj rs]
theorem Pz:∀r:Row,(qZ r).length=r.length
 |[]=>rfl
 |x::r=>by simp[qZ,Pz r]
theorem adC{h:View}(s:Nat):∀(rows:List Row) (b o:Nat),mW h s rows b o→mW h s (aA rows) b o
 |[],_,_,_=>by simp[aA,mW]
 |r::rs,b,o,q=>by
  simp only[aA,mW] at q⊢
  exact⟨by rw[Pz];exact q.1,afT r b o q.2.1,adC s rs b (o+s) q.2.2⟩
theorem afT{h:View}:∀(r:Row) (b o:Nat),uM h r b o→uM h (qZ r) b o
 |[],_,_,_=>by simp[qZ,uM]
 |x::r,b,o,q=>by
  simp only[qZ,uM] at q⊢
  obtain⟨⟨v,h1,h2⟩,h3⟩:=q
  exact⟨⟨v,h1,apo x v h2⟩,afT r b (o+1) h3⟩
end
theorem aaF{h:View}{fl:Bool}{o:Bool}{s:Nat}{rows:List Row}{v:Value}(q:ro h (.sl o s rows) v):ro h (.sl false s (vw fl rows)) v:=by
 unfold vw
 cases fl with
 |true=>exact QO q
 |false=>simpa[D.fz] using apo _ _ q
theorem apq{h:View}{x:D}{v:Value}(q:ro h x v):ro h (roD x) v:=by
 cases x<;>simpa[roD,ro] using q
theorem apr{H:Heap}{h:View}{x:D}{v:Value}(q:ro h x v):ow H h (roD x) v []:=by
 cases x<;>simp[roD,ow,ro] at q⊢<;>exact q
theorem ata{H:Heap}{h:View}{x:D}{v:Value}(hf:x.flat=true)(q:ro h x v):ow H h x v []:=by
 cases x<;>simp[D.flat,ow,ro] at hf q⊢<;>exact q
theorem aaG{H:Heap}{h:View}:∀(r:Row) (cs:List Value),(r.all D.flat)=true→jc h r cs→iI H h r cs []
 |[],_,_,_=>by simp[iI]
 |x::r,cs,hf,⟨v,cs',e,h1,h2⟩=>by
  simp only[List.all_cons,Bool.and_eq_true] at hf
  simp only[iI]
  exact⟨v,cs',[],[],e,rfl,ata hf.1 h1,aaG r cs' hf.2 h2⟩
theorem QS{H:Heap}{h:View}(s:Nat):∀(rs:List Row) (cs:List Value),aB rs=true→fQ h s rs cs→fO H h s rs cs []
 |[],_,_,_=>by simp[fO]
 |r::rs,cs,hf,⟨h1,h2,h3⟩=>by
  simp only[aB,List.all_cons,Bool.and_eq_true] at hf
  simp only[fO]
  exact⟨h1,[],[],rfl,aaG r cs hf.1 h2,QS s rs _ hf.2 h3⟩
theorem aeN{H:Heap}{h:View}{fl:Bool}{s:Nat}{rows:List Row}{v:Value}{N:List Nat}(ho:TF fl rows=true)(q:Qo H h fl s rows v N):ow H h (.sl true s rows) v N:=by
 simp only[ow]
 rcases q with q|⟨b,cap,cs,t,N',h1,h2,h3,h4,h5,rfl⟩
 ·exact .inl q
 ·refine .inr ⟨b,cap,cs,t,N',h1,h2,h3,h4, ?_,rfl⟩
  cases fl with
  |true=>
   obtain⟨h5,rfl⟩:=h5
   exact QS s rows _ (by simpa[TF] using ho) h5
  |false=>exact h5
theorem amU{H:Heap}{h:View}{s:Nat}{rows:List Row}{v:Value}{N:List Nat}(q:ow H h (.sl true s rows) v N):Qo H h false s rows v N:=by
 simpa[ow,Qo] using q
theorem alX{H:Heap}{h:View}{s:Nat}{rows:List Row}{v:Value}{N:List Nat}(q:ow H h (.sl true s rows) v N):
  ∃N1 N2,N=N1++N2∧∀h',h.le h'→Xv h' H N2→Qo H h' true s rows v N1:=by
 simp only[ow] at q
 rcases q with⟨rfl,rfl,rfl⟩|⟨b,cap,cs,t,N',h1,h2,h3,h4,h5,rfl⟩
 ·exact⟨[],[],rfl,fun _ _ _=> .inl ⟨rfl,rfl,rfl⟩⟩
 ·exact⟨[b],N',rfl,fun h' hl hs=> .inr ⟨b,cap,cs,t,[],h1,h2,h3,h4,⟨GL hl s rows _ N' hs h5,rfl⟩,rfl⟩⟩
end Go.Vm
namespace Go.Vm
open Go
section
variable {base:Nat} {U:Nat→Prop} {w:World} {m:Mem} {G:GS}
theorem BL.kill(hg:BL base U w m G){r:Nat}{fl:Bool}{ver s:Nat}{rows:List Row}(hc:get r m=some (.arr false fl ver s rows))(hro:r ∉ G.out):
  BL base U w (put r .dead m) ⟨G.μ,Vr G.F r [],G.E++G.F r,G.out⟩∧QM m G (put r .dead m) ⟨G.μ,Vr G.F r [],G.E++G.F r,G.out⟩∧
   Qo (dR w) (Gh U w G) fl s rows (G.μ r) (G.F r):=by
 have h1:=hg.set r .dead G.μ [] (G.E++G.F r) G.out
  (by simpa using List.nodup_append.2 ⟨hg.ndE,hg.nd r,fun a ha b hb e=>hg.djE r b hb (e ▸ ha)⟩)
  (by simp;exact fun b hb=>hb.symm) (GK (fun _ _=>rfl) (fun c h=>by rw[hc] at h;cases h;trivial)) (fun _ _=>rfl) (fun _ _=>Iff.rfl) (fun _=>rfl) (fun _ _=>rfl)
 exact⟨h1.1,h1.2,hg.cell r _ hc hro⟩
theorem BL.freeze(hg:BL base U w m G){r:Nat}{fz fl:Bool}{ver s:Nat}{rows:List Row}(hc:get r m=some (.arr fz fl ver s rows))(hro:r ∉ G.out):
  BL base U w (put r (.arr true fl ver s rows) m) ⟨G.μ,Vr G.F r [],G.E,G.out⟩∧QM m G (put r (.arr true fl ver s rows) m) ⟨G.μ,Vr G.F r [],G.E,G.out⟩∧
   ro (Gh U w ⟨G.μ,Vr G.F r [],G.E,G.out⟩) (.sl true s rows) (G.μ r):=by
 have hle:EF G.μ m G.μ (put r (.arr true fl ver s rows) m):=GK (fun _ _=>rfl) (fun c h=>by rw[hc] at h;cases h;exact⟨Nat.le_refl _,rfl,fun _=>⟨rfl,rfl⟩⟩)
 have azL:(view w U (excl G.F G.E)).le (view w U (excl (Vr G.F r []) G.E))→ro (view w U (excl (Vr G.F r []) G.E)) (.sl true s rows) (G.μ r):=by
  intro hv
  have hq:=hg.cell r _ hc hro
  cases fz with
  |true=>exact DU hv _ _ hq.1
  |false=>
   refine aeM hv (Me fun b hb=>⟨(hg.lt b (.inr ⟨r,hb⟩)).2.2, ?_⟩) hq true
   rintro(hE|⟨k,hk⟩)
   ·exact hg.djE r b hb hE
   ·by_cases e:k=r
    ·subst e;simp at hk
    ·rw[jJ _ e] at hk;exact hg.dj r k (Ne.symm e) b hb hk
 have h1:=hg.set r (.arr true fl ver s rows) G.μ [] G.E G.out (by simpa using hg.ndE) (by simp;exact fun b hb=> .inr hb) hle (fun _ _=>rfl) (fun _ _=>Iff.rfl) (fun _=>rfl)
  (fun hv _=>⟨azL hv,rfl⟩)
 exact⟨h1.1,h1.2,azL h1.2.view⟩
theorem BL.avC(hg:BL base U w m G){k:Nat}(fl:Bool){s:Nat}{rows:List Row}{g:Value}{N E:List Nat}(hn:get k m=none)(hk:k ∉ G.out)(hE:(N++E).Perm G.E)
  (hq:ow (dR w) (Gh U w G) (.sl true s rows) g N):
  ∃F',BL base U w (put k (.arr false fl 0 s rows) m) ⟨upM G.μ k g,F',E,G.out⟩∧QM m G (put k (.arr false fl 0 s rows) m) ⟨upM G.μ k g,F',E,G.out⟩:=by
 have hnd:=hE.nodup_iff.2 hg.ndE
 have hmem:∀b,b∈N++E→b∈G.E:=fun b hb=>hE.mem_iff.1 hb
 have hμ:∀j,j≠k→upM G.μ k g j=G.μ j:=fun j e=>Jt g e
 have hle:∀c',EF G.μ m (upM G.μ k g) (put k c' m):=fun c'=>GK hμ (fun c h=>by rw[hn] at h;cases h)
 cases fl with
 |false=>
  refine⟨_,hg.set k (.arr false false 0 s rows) (upM G.μ k g) N E G.out hnd (fun b hb=> .inr (hmem b hb)) (hle _) hμ (fun _ _=>Iff.rfl) (fun h=>absurd h hk) (fun hv _=> ?_)⟩
  simp only[lW,Hl]
  exact GI hv (fun _ _=>rfl) (amU hq)
 |true=>
  obtain⟨N1,N2,rfl,h2⟩:=alX hq
  have hnd':(N1++E).Nodup:=by
   rw[List.append_assoc] at hnd
   have:=List.nodup_append.1 hnd
   exact List.nodup_append.2 ⟨this.1,(List.nodup_append.1 this.2.1).2.1,fun a ha b hb=>this.2.2 a ha b (by simp[hb])⟩
  refine⟨_,hg.set k (.arr false true 0 s rows) (upM G.μ k g) N1 E G.out hnd' (fun b hb=> .inr (hmem b (by simp at hb⊢;rcases hb with h|h<;>simp[h]))) (hle _) hμ (fun _ _=>Iff.rfl) (fun h=>absurd h hk) (fun hv _=> ?_)⟩
  simp only[lW,Hl]
  refine h2 _ hv (Me fun b hb=>⟨(hg.lt b (.inl (hmem b (by simp[hb])))).2.2, ?_⟩)
  rw[List.append_assoc] at hnd
  have hd:=List.nodup_append.1 hnd
  have hd2:=List.nodup_append.1 hd.2.1
  rintro(hE'|⟨j,hj⟩)
  ·exact hd2.2.2 b hb b hE' rfl
  ·by_cases e:j=k
   ·subst e;rw[AU] at hj;exact hd.2.2 b hj b (by simp[hb]) rfl
   ·rw[jJ _ e] at hj;exact hg.djE j b hj (hmem b (by simp[hb]))
structure Jl(base:Nat)(U:Nat→Prop)(w:World)(m:Mem)(G:GS)(m':Mem)(G':GS)(N:List Nat):Prop where
 ok:BL base U w m' G'
 le:QM m G m' G'
 E:G'.E=G.E++N
 out:G'.out=G.out
 μ:G'.μ=G.μ
theorem Jl.same(hg:BL base U w m G):Jl base U w m G m G []:=⟨hg,QM.refl _ _,by simp,rfl,rfl⟩
theorem Jl.trans{m1 m2 m3:Mem}{G1 G2 G3:GS}{N N':List Nat}(a:Jl base U w m1 G1 m2 G2 N)(b:Jl base U w m2 G2 m3 G3 N'):Jl base U w m1 G1 m3 G3 (N++N'):=
 ⟨b.ok,a.le.trans b.le,by rw[b.E,a.E,List.append_assoc],b.out.trans a.out,b.μ.trans a.μ⟩
theorem SG{H:Heap}{h h':View}(hl:h.le h'){x:D}{v:Value}{N:List Nat}(q:ow H h x v N):ow H h' x v N:=aeL hl x v N (fun _ _=>rfl) q
theorem aps(hg:BL base U w m G){v:V}{g:Value}(hv:bJ G.μ m (Gh U w G) v g)(ho:G.out=[]){x:D}{m':Mem}{l l':Log}(h:(toD v).run m l=some (x,m',l')):
  ∃G' N,Jl base U w m G m' G' N∧ow (dR w) (Gh U w G') x g N:=by
 cases v with
 |d y=>
  simp only[toD,run_pure,Option.some.injEq,Prod.mk.injEq] at h
  obtain⟨rfl,rfl,rfl⟩:=h
  exact⟨G,[],Jl.same hg,apr (by simpa[bJ] using hv)⟩
 |nil s=>
  simp only[toD,run_pure,Option.some.injEq,Prod.mk.injEq] at h
  obtain⟨rfl,rfl,rfl⟩:=h
  refine⟨G,[],Jl.same hg, ?_⟩
  simp only[bJ] at hv
  simp[ow,hv]
 |own r ver=>
  simp only[toD] at h
  replace h:=aj h;obtain⟨c,m1,l1,h1,h⟩:=h
  rw[uO] at h1
  cases h1
  cases hc:get r m with
  |none=>rw[hc] at h;exact(au h).elim
  |some c=>
   rw[hc] at h
   cases c with
   |box _ _=>exact(au h).elim
   |dead=>exact(au h).elim
   |DJ _ _ _=>exact(au h).elim
   |arr fz fl iU s rows=>
    simp only at h
    replace h:=aj h;obtain⟨_,m2,l2,h1,h⟩:=h
    obtain⟨hb,rfl,rfl⟩:=eF h1
    have hb:=Nat.eq_of_beq_eq_true hb
    subst hb
    simp only[bJ,hc] at hv
    have hv:=hv.2.2 trivial
    subst hv
    have hro:r ∉ G.out:=by simp[ho]
    cases fz with
    |true=>
     simp only[run_pure,Option.some.injEq,Prod.mk.injEq] at h
     obtain⟨rfl,rfl,rfl⟩:=h
     refine⟨G,[],Jl.same hg, ?_⟩
     have hq:=(hg.cell r _ hc hro).1
     simp only[ow,true_and]
     exact aaF hq
    |false=>
     simp only at h
     replace h:=aj h;obtain⟨_,m2,l2,h1,h⟩:=h
     obtain⟨hok,rfl,rfl⟩:=eF h1
     replace h:=aj h;obtain⟨_,m3,l3,h1,h⟩:=h
     rw[CZ] at h1
     cases h1
     simp only[run_pure,Option.some.injEq,Prod.mk.injEq] at h
     obtain⟨rfl,rfl,rfl⟩:=h
     obtain⟨k1,k2,k3⟩:=hg.kill hc hro
     exact⟨_,G.F r,⟨k1,k2,rfl,rfl,rfl⟩,SG k2.view (aeN hok k3)⟩
 |ptr _ _=>exact(au h).elim
 |sS _ _ _ _=>exact(au h).elim
 |sJ _ _=>exact(au h).elim
 |clo _ _ _=>exact(au h).elim
 |agg _=>exact(au h).elim
 |yE _=>exact(au h).elim
 |undef=>exact(au h).elim
theorem oG{μ:Nat→Value}{h:View}{v:V}{vs:List V}{gs:List Value}(q:dO μ m h (v::vs) gs):∃g gs',gs=g::gs'∧bJ μ m h v g∧dO μ m h vs gs':=by
 simpa[dO] using q
theorem jQ{μ:Nat→Value}{h:View}:∀{vs:List V} {gs:List Value},dO μ m h vs gs→gs.length=vs.length
 |[],gs,q=>by simp[dO] at q;simp[q]
 |v::vs,gs,q=>by
  obtain⟨g,gs',rfl,_,h3⟩:=oG q
  simp[jQ h3]
theorem PD{H:Heap}{h h':View}(hl:h.le h'){x:Row}{v:List Value}{N:List Nat}(q:iI H h x v N):iI H h' x v N:=Gg hl x v N (fun _ _=>rfl) q
theorem afU{H:Heap}{h h':View}(hl:h.le h'){s:Nat}{x:List Row}{v:List Value}{N:List Nat}(q:fO H h s x v N):fO H h' s x v N:=wu hl s x v N (fun _ _=>rfl) q
theorem OD:∀{vs:List V} {gs:List Value} {m:Mem} {G:GS} (_:BL base U w m G) (_:dO G.μ m (Gh U w G) vs gs) (_:G.out=[]) {xs:Row} {m':Mem} {l l':Log} (_:(Jo vs).run m l=some (xs,m',l')),
  ∃G' N,Jl base U w m G m' G' N∧iI (dR w) (Gh U w G') xs gs N∧xs.length=vs.length
 |[],gs,m,G,hg,hv,ho,xs,m',l,l',h=>by
  simp only[Jo,run_pure,Option.some.injEq,Prod.mk.injEq] at h
  obtain⟨rfl,rfl,rfl⟩:=h
  exact⟨G,[],Jl.same hg,by simp[iI],rfl⟩
 |v::vs,gs,m,G,hg,hv,ho,xs,m',l,l',h=>by
  obtain⟨g,gs',rfl,hv1,hv2⟩:=oG hv
  simp only[Jo] at h
  replace h:=aj h;obtain⟨x,m1,l1,h1,h⟩:=h
  replace h:=aj h;obtain⟨ys,m2,l2,h2,h⟩:=h
  simp only[run_pure,Option.some.injEq,Prod.mk.injEq] at h
  obtain⟨rfl,rfl,rfl⟩:=h
  obtain⟨G1,N1,t1,q1⟩:=aps hg hv1 ho h1
  obtain⟨G2,N2,t2,q2,hlen⟩:=OD t1.ok (t1.le.dO hv2) (t1.out.trans ho) h2
  refine⟨G2,N1++N2,t1.trans t2, ?_,by simp[hlen]⟩
  simp only[iI]
  exact⟨g,gs',N1,N2,rfl,rfl,SG t2.le.view q1,q2⟩
end
end Go.Vm
namespace Go.Vm
open Go
section
variable {base:Nat} {U:Nat→Prop} {w:World} {m:Mem} {G:GS}
theorem BL.look(hg:BL base U w m G){r:Nat}{fz fl:Bool}{ver s:Nat}{rows:List Row}(hc:get r m=some (.arr fz fl ver s rows))(hro:r ∉ G.out)(o:Bool):ro (full w) (.sl o s rows) (G.μ r):=by
 have hq:=hg.cell r _ hc hro
 cases fz with
 |true=>exact QO (DU (wz _ _ _) _ _ hq.1)
 |false=>exact aeM (wz _ _ _) adB hq o
theorem amV(hg:BL base U w m G){v:V}{g:Value}(hv:bJ G.μ m (Gh U w G) v g)(ho:G.out=[]){s:Nat}{rows:List Row}{m':Mem}{l l':Log}(h:(seen v).run m l=some ((s,rows),m',l')):
  m'=m∧ro (full w) (.sl false s rows) g:=by
 cases v with
 |d y=>
  cases y with
  |sl own s' rows'=>
   simp only[seen,run_pure,Option.some.injEq,Prod.mk.injEq] at h
   obtain⟨⟨rfl,rfl⟩,rfl,rfl⟩:=h
   simp only[bJ] at hv
   exact⟨rfl,QO (DU (wz _ _ _) _ _ hv)⟩
  |int _ _=>exact(au h).elim
  |bool _=>exact(au h).elim
  |str _=>exact(au h).elim
  |MG=>exact(au h).elim
 |nil s'=>
  simp only[seen,run_pure,Option.some.injEq,Prod.mk.injEq] at h
  obtain⟨⟨rfl,rfl⟩,rfl,rfl⟩:=h
  simp only[bJ] at hv
  exact⟨rfl,by simp[ro,hv]⟩
 |own r ver=>
  simp only[seen] at h
  replace h:=aj h;obtain⟨c,m1,l1,h1,h⟩:=h
  rw[uO] at h1
  cases h1
  cases hc:get r m with
  |none=>rw[hc] at h;exact(au h).elim
  |some c=>
   rw[hc] at h
   cases c with
   |box _ _=>exact(au h).elim
   |dead=>exact(au h).elim
   |DJ _ _ _=>exact(au h).elim
   |arr fz fl iU s' rows'=>
    simp only at h
    replace h:=aj h;obtain⟨_,m2,l2,h1,h⟩:=h
    obtain⟨hb,rfl,rfl⟩:=eF h1
    have hb:=Nat.eq_of_beq_eq_true hb
    subst hb
    simp only[run_pure,Option.some.injEq,Prod.mk.injEq] at h
    obtain⟨⟨rfl,rfl⟩,rfl,rfl⟩:=h
    simp only[bJ,hc] at hv
    have hv:=hv.2.2 trivial
    subst hv
    exact⟨rfl,aaF (hg.look hc (by simp[ho]) true)⟩
 |ptr _ _=>exact(au h).elim
 |sS _ _ _ _=>exact(au h).elim
 |sJ _ _=>exact(au h).elim
 |clo _ _ _=>exact(au h).elim
 |agg _=>exact(au h).elim
 |yE _=>exact(au h).elim
 |undef=>exact(au h).elim
theorem Dc(k:Nat):∀l:List Nat,mem? k l=true↔k∈l
 |[]=>by simp[mem?]
 |j::l=>by
  simp only[mem?,List.mem_cons]
  by_cases e:k=j
  ·subst e;simp
  ·rw[uN e];simp[e,Dc k l]
theorem OE{k:Nat}{l:List Nat}(h:(!(mem? k l))=true):k ∉ l:=by
 intro hk
 rw[(Dc k l).2 hk] at h
 cases h
theorem atb(hg:BL base U w m G){v:V}{g:Value}(hv:bJ G.μ m (Gh U w G) v g){imp:List Nat}(ho:∀r,r∈G.out→r∈imp){own:Bool}{v':V}{m':Mem}{l l':Log}(h:(apg imp own v).run m l=some (v',m',l')):
  ∃G' N x,v'=.d x∧Jl base U w m G m' G' N∧ow (dR w) (Gh U w G') x g N∧∀k,k∈imp→get k m'=get k m:=by
 cases v with
 |d y=>
  simp only[apg,run_pure,Option.some.injEq,Prod.mk.injEq] at h
  obtain⟨rfl,rfl,rfl⟩:=h
  exact⟨G,[],_,rfl,Jl.same hg,apr (by simpa[bJ] using hv),fun _ _=>rfl⟩
 |nil s=>
  simp only[apg,run_pure,Option.some.injEq,Prod.mk.injEq] at h
  obtain⟨rfl,rfl,rfl⟩:=h
  refine⟨G,[],_,rfl,Jl.same hg, ?_,fun _ _=>rfl⟩
  simp only[bJ] at hv
  cases own<;>simp[ow,ro,hv]
 |own r ver=>
  simp only[apg] at h
  replace h:=aj h;obtain⟨c,m1,l1,h1,h⟩:=h
  rw[uO] at h1
  cases h1
  cases hc:get r m with
  |none=>rw[hc] at h;exact(au h).elim
  |some c=>
   rw[hc] at h
   cases c with
   |box _ _=>exact(au h).elim
   |dead=>exact(au h).elim
   |DJ _ _ _=>exact(au h).elim
   |arr fz fl iU s rows=>
    simp only at h
    replace h:=aj h;obtain⟨_,m2,l2,h1,h⟩:=h
    obtain⟨hb,rfl,rfl⟩:=eF h1
    have hb:=Nat.eq_of_beq_eq_true hb
    subst hb
    replace h:=aj h;obtain⟨_,m2,l2,h1,h⟩:=h
    obtain⟨hi,rfl,rfl⟩:=eF h1
    simp only[bJ,hc] at hv
    have hv:=hv.2.2 trivial
    subst hv
    have hro:r ∉ G.out:=fun hr=>OE hi (ho r hr)
    have hni:∀k,k∈imp→k≠r:=fun k hk e=>OE hi (e ▸ hk)
    cases own with
    |false=>
     simp only at h
     replace h:=aj h;obtain⟨_,m3,l3,h1,h⟩:=h
     rw[CZ] at h1
     cases h1
     simp only[run_pure,Option.some.injEq,Prod.mk.injEq] at h
     obtain⟨rfl,rfl,rfl⟩:=h
     obtain⟨k1,k2,k3⟩:=hg.freeze hc hro
     refine⟨_,[],_,rfl,⟨k1,k2,by simp,rfl,rfl⟩, ?_,fun k hk=>kN (hni k hk) _ _⟩
     simp only[ow,true_and]
     exact aaF k3
    |true=>
     simp only at h
     replace h:=aj h;obtain⟨_,m2,l2,h1,h⟩:=h
     obtain⟨hfz,rfl,rfl⟩:=eF h1
     replace h:=aj h;obtain⟨_,m2,l2,h1,h⟩:=h
     obtain⟨hok,rfl,rfl⟩:=eF h1
     have hfz:fz=false:=by simpa using hfz
     subst hfz
     replace h:=aj h;obtain⟨_,m3,l3,h1,h⟩:=h
     rw[CZ] at h1
     cases h1
     simp only[run_pure,Option.some.injEq,Prod.mk.injEq] at h
     obtain⟨rfl,rfl,rfl⟩:=h
     obtain⟨k1,k2,k3⟩:=hg.kill hc hro
     exact⟨_,G.F r,_,rfl,⟨k1,k2,rfl,rfl,rfl⟩,SG k2.view (aeN hok k3),fun k hk=>kN (hni k hk) _ _⟩
 |ptr _ _=>exact(au h).elim
 |sS _ _ _ _=>exact(au h).elim
 |sJ _ _=>exact(au h).elim
 |clo _ _ _=>exact(au h).elim
 |agg _=>exact(au h).elim
 |yE _=>exact(au h).elim
 |undef=>exact(au h).elim
theorem Yp{imp own:List Nat}:∀{vs:List V} {gs:List Value} {m:Mem} {G:GS} {j:Nat} (_:BL base U w m G) (_:dO G.μ m (Gh U w G) vs gs) (_:∀r,r∈G.out→r∈imp) {vs':List V} {m':Mem} {l l':Log}
  (_:(QF imp own j vs).run m l=some (vs',m',l')),∃G' N xs,vs'=xs.map V.d∧xs.length=gs.length∧Jl base U w m G m' G' N∧iI (dR w) (Gh U w G') xs gs N∧∀k,k∈imp→get k m'=get k m
 |[],gs,m,G,j,hg,hv,ho,vs',m',l,l',h=>by
  simp only[QF,run_pure,Option.some.injEq,Prod.mk.injEq] at h
  obtain⟨rfl,rfl,rfl⟩:=h
  simp only[dO] at hv
  subst hv
  exact⟨G,[],[],rfl,rfl,Jl.same hg,by simp[iI],fun _ _=>rfl⟩
 |v::vs,gs,m,G,j,hg,hv,ho,vs',m',l,l',h=>by
  obtain⟨g,gs',rfl,hv1,hv2⟩:=oG hv
  simp only[QF] at h
  replace h:=aj h;obtain⟨x,m1,l1,h1,h⟩:=h
  replace h:=aj h;obtain⟨ys,m2,l2,h2,h⟩:=h
  simp only[run_pure,Option.some.injEq,Prod.mk.injEq] at h
  obtain⟨rfl,rfl,rfl⟩:=h
  obtain⟨G1,N1,x1,rfl,t1,q1,i1⟩:=atb hg hv1 ho h1
  obtain⟨G2,N2,xs,rfl,hlen,t2,q2,i2⟩:=Yp t1.ok (t1.le.dO hv2) (fun r hr=>ho r (t1.out ▸ hr)) h2
  refine⟨G2,N1++N2,x1::xs,rfl,by simp[hlen],t1.trans t2, ?_,fun k hk=>(i2 k hk).trans (i1 k hk)⟩
  simp only[iI]
  exact⟨g,gs',N1,N2,rfl,rfl,SG t2.le.view q1,q2⟩
def afV(H:Heap)(h:View):Cell→Value→List Nat→Prop
 | .box t vs,g,N=>∃b a xs N',g=.pointer (some ⟨b,0,none⟩)∧H b=some (.cells a t (0,0))∧vs=xs.map V.d∧xs.length=a.toList.length∧iI H h xs a.toList N'∧N=b::N'
 | .arr fz fl ver s rows,g,N=>fz=false∧ver=0∧Qo H h fl s rows g N
 | .dead,_,_=>False
 | .DJ ..,_,_=>False
def cellsB(H:Heap)(h:View):List Cell→List Value→List Nat→Prop
 |[],gs,N=>gs=[]∧N=[]
 |c::cs,gs,N=>∃g gs' N1 N2,gs=g::gs'∧N=N1++N2∧afV H h c g N1∧cellsB H h cs gs' N2
theorem aaH{H H':Heap}{h h':View}(hl:h.le h'){c:Cell}{g:Value}{N:List Nat}(hb:∀b,b∈N→H' b=H b)(q:afV H h c g N):afV H' h' c g N:=by
 cases c with
 |box t vs=>
  obtain⟨b,a,xs,N',h1,h2,h3,h4,h5,rfl⟩:=q
  exact⟨b,a,xs,N',h1,by rw[hb b (by simp)];exact h2,h3,h4,Gg hl _ _ _ (fun b' hb'=>hb b' (by simp[hb'])) h5,rfl⟩
 |arr fz fl ver s rows=>exact⟨q.1,q.2.1,GI hl hb q.2.2⟩
 |dead=>exact q
 |DJ _ _ _=>exact q
theorem Yq{H H':Heap}{h h':View}(hl:h.le h'):∀{cs:List Cell} {gs:List Value} {N:List Nat},(∀b,b∈N→H' b=H b)→cellsB H h cs gs N→cellsB H' h' cs gs N
 |[],_,_,_,q=>q
 |c::cs,_,_,hb,⟨g,gs',N1,N2,h1,h2,h3,h4⟩=>by
  subst h2
  exact⟨g,gs',N1,N2,h1,rfl,aaH hl (fun b hx=>hb b (by simp[hx])) h3,Yq hl (fun b hx=>hb b (by simp[hx])) h4⟩
theorem BL.auM(hg:BL base U w m G){r:Nat}{c:Cell}(hc:get r m=some c)(hro:r ∉ G.out):
  BL base U w m ⟨G.μ,Vr G.F r [],G.E++G.F r,r::G.out⟩∧QM m G m ⟨G.μ,Vr G.F r [],G.E++G.F r,r::G.out⟩:=by
 have hex:∀b,excl (Vr G.F r []) (G.E++G.F r) b→excl G.F G.E b:=by
  rintro b (hb|⟨k,hb⟩)
  ·simp only[List.mem_append] at hb
   rcases hb with h|h
   ·exact .inl h
   ·exact .inr ⟨r,h⟩
  ·by_cases e:k=r
   ·subst e;simp at hb
   ·rw[jJ _ e] at hb;exact .inr ⟨k,hb⟩
 have hv:(view w U (excl G.F G.E)).le (view w U (excl (Vr G.F r []) (G.E++G.F r))):=LJ (fun _ x=>x) hex
 refine⟨show MInv base U m w G.μ (Vr G.F r []) (G.E++G.F r) (r::G.out) from ?_,⟨sO _ _,hex⟩⟩
 refine⟨?_, ?_, ?_, ?_,List.nodup_append.2 ⟨hg.ndE,hg.nd r,fun a ha b hb e=>hg.djE r b hb (e ▸ ha)⟩,fun b hb=>hg.lt b (hex b hb),hg.up,hg.bs, ?_, ?_⟩
 ·intro k c hk hko
  simp only[List.mem_cons,not_or] at hko
  rw[jJ _ hko.1]
  exact Hf (sO _ _) hv rfl (fun _ _=>rfl) (hg.cell k c hk hko.2)
 ·intro k k' hne b hb hb'
  by_cases e:k=r
  ·subst e;simp at hb
  ·rw[jJ _ e] at hb
   by_cases e':k'=r
   ·subst e';simp at hb'
   ·rw[jJ _ e'] at hb';exact hg.dj _ _ hne b hb hb'
 ·intro k b hb hE
  by_cases e:k=r
  ·subst e;simp at hb
  ·rw[jJ _ e] at hb
   simp only[List.mem_append] at hE
   rcases hE with h|h
   ·exact hg.djE _ b hb h
   ·exact hg.dj _ _ e b hb h
 ·intro k
  by_cases e:k=r
  ·subst e;simp
  ·rw[jJ _ e];exact hg.nd k
 ·intro k hk
  by_cases e:k=r
  ·subst e;simp
  ·rw[jJ _ e];exact hg.none_ k hk
 ·intro k hk
  by_cases e:k=r
  ·subst e;simp
  ·rw[jJ _ e];exact hg.out_ k (by simpa[e] using hk)
structure Out(base:Nat)(U:Nat→Prop)(w:World)(m:Mem)(G:GS)(m':Mem)(G':GS)(imp rs:List Nat)(N:List Nat):Prop where
 ok:BL base U w m' G'
 le:QM m G m' G'
 E:G'.E=G.E++N
 out:∀r,r∈G'.out↔r∈G.out∨r∈rs
 μ:G'.μ=G.μ
 here:∀k,k∈imp→get k m'=get k m
def sameKind:Cell→Cell→Prop
 | .box t _,.box t' _=>t=t'
 | .arr _ fl ver s _,.arr _ fl' iU s' _=>ver=0∧iU=0∧fl=fl'∧s=s'
 |_,_=>False
def kinds(m:Mem):List Nat→List Cell→Prop
 |[],cs=>cs=[]
 |r::rs,cs=>∃c c' cs',cs=c'::cs'∧get r m=some c∧sameKind c c'∧kinds m rs cs'
theorem VF{m m':Mem}:∀{rs:List Nat} {cs:List Cell},(∀r,r∈rs→get r m'=get r m)→kinds m rs cs→kinds m' rs cs
 |[],_,_,q=>q
 |r::rs,_,h,⟨c,c',cs',h1,h2,h3,h4⟩=>⟨c,c',cs',h1,(h r (by simp)).trans h2,h3,VF (fun k hk=>h k (by simp[hk])) h4⟩
theorem Xw{A:Adv}{imp:List Nat}:∀{rs:List Nat} {m:Mem} {G:GS} (_:BL base U w m G) (_:rs.Nodup) (_:∀r,r∈rs→r∈imp∧r ∉ G.out) (_:∀r,r∈G.out→r∈imp) {cs:List Cell} {m':Mem} {l l':Log}
  (_:(QG A imp rs).run m l=some (cs,m',l')),∃G' N,Out base U w m G m' G' imp rs N∧cellsB (dR w) (Gh U w G') cs (rs.map G.μ) N∧kinds m rs cs
 |[],m,G,hg,hn,hr,ho,cs,m',l,l',h=>by
  simp only[QG,run_pure,Option.some.injEq,Prod.mk.injEq] at h
  obtain⟨rfl,rfl,rfl⟩:=h
  exact⟨G,[],⟨hg,QM.refl _ _,by simp,fun r=>by simp,rfl,fun _ _=>rfl⟩,⟨rfl,rfl⟩,rfl⟩
 |r::rs,m,G,hg,hn,hr,ho,cs,m',l,l',h=>by
  simp only[QG] at h
  replace h:=aj h;obtain⟨c,m1,l1,h1,h⟩:=h
  rw[uO] at h1
  cases h1
  replace h:=aj h;obtain⟨c1,m1,l1,h1,h⟩:=h
  replace h:=aj h;obtain⟨cs1,m2,l2,h2,h⟩:=h
  simp only[run_pure,Option.some.injEq,Prod.mk.injEq] at h
  obtain⟨rfl,rfl,rfl⟩:=h
  have hri:=hr r (by simp)
  have hnr:=List.nodup_cons.1 hn
  have step:∃G' N,Out base U w m G m1 G' imp [r] N∧afV (dR w) (Gh U w G') c1 (G.μ r) N∧∃c,get r m=some c∧sameKind c c1:=by
   cases hc:get r m with
   |none=>rw[hc] at h1;exact(au h1).elim
   |some c=>
    rw[hc] at h1
    have hq:=hg.cell r c hc hri.2
    obtain⟨k1,k2⟩:=hg.auM hc hri.2
    cases c with
    |dead=>exact(au h1).elim
    |DJ _ _ _=>exact(au h1).elim
    |box t vs=>
     simp only[aeI] at h1
     replace h1:=aj h1;obtain⟨vs',m3,l3,h3,h1⟩:=h1
     simp only[run_pure,Option.some.injEq,Prod.mk.injEq] at h1
     obtain⟨rfl,rfl,rfl⟩:=h1
     obtain⟨b,a,e1,e2,e3,e4⟩:=hq
     obtain⟨G2,N2,xs,rfl,hlen,t2,q2,i2⟩:=Yp k1 (k2.dO e3) (fun k hk=>by
      simp only[List.mem_cons] at hk
      rcases hk with rfl|hk
      ·exact hri.1
      ·exact ho k hk) h3
     refine⟨G2,b::N2,⟨t2.ok,k2.trans t2.le,by rw[t2.E,e4];simp,fun k=>by rw[t2.out];simp[or_comm],t2.μ,i2⟩,⟨b,a,xs,N2,e1,e2,rfl,hlen,q2,rfl⟩,_,rfl,rfl⟩
    |arr fz fl ver s rows=>
     simp only[aeI] at h1
     replace h1:=aj h1;obtain⟨_,m3,l3,h3,h1⟩:=h1
     obtain⟨hfz,rfl,rfl⟩:=eF h3
     replace h1:=aj h1;obtain⟨_,m3,l3,h3,h1⟩:=h1
     obtain⟨hv0,rfl,rfl⟩:=eF h3
     simp only[run_pure,Option.some.injEq,Prod.mk.injEq] at h1
     obtain⟨rfl,rfl,rfl⟩:=h1
     have hfz:fz=false:=by simpa using hfz
     subst hfz
     have hv0:=Nat.eq_of_beq_eq_true hv0
     subst hv0
     refine⟨_,G.F r,⟨k1,k2,rfl,fun k=>by simp[or_comm],rfl,fun _ _=>rfl⟩,⟨rfl,rfl,GI k2.view (fun _ _=>rfl) hq⟩,_,rfl,rfl,rfl,rfl,rfl⟩
  obtain⟨G1,N1,o1,q1,c0,hc0,hk0⟩:=step
  obtain⟨G2,N2,o2,q2,kd2⟩:=Xw o1.ok hnr.2 (fun k hk=>⟨(hr k (by simp[hk])).1,fun hko=>by
   rcases(o1.out k).1 hko with h|h
   ·exact(hr k (by simp[hk])).2 h
   ·simp at h;subst h;exact hnr.1 hk⟩) (fun k hk=>by
   rcases(o1.out k).1 hk with h|h
   ·exact ho k h
   ·simp at h;subst h;exact hri.1) h2
  refine⟨G2,N1++N2,⟨o2.ok,o1.le.trans o2.le,by rw[o2.E,o1.E,List.append_assoc],fun k=> ?_,o2.μ.trans o1.μ,fun k hk=>(o2.here k hk).trans (o1.here k hk)⟩,⟨G.μ r,rs.map G.μ,N1,N2,rfl,rfl,aaH o2.le.view (fun _ _=>rfl) q1,by rw[←o1.μ];exact q2⟩,c0,c1,cs1,rfl,hc0,hk0,VF (fun k hk=>(o1.here k (hr k (by simp[hk])).1).symm) kd2⟩
  rw[o2.out,o1.out];simp[or_assoc]
end
end Go.Vm
namespace Go.Vm
open Go
section
variable {base:Nat} {U:Nat→Prop} {w:World} {m:Mem} {G:GS}
theorem VG{r:Nat}{l:List Nat}(h:l.Nodup):(aeH r l).Nodup:=by
 unfold aeH
 cases hm:mem? r l with
 |true=>exact h
 |false=>
  have:r ∉ l:=fun hr=>by rw[(Dc r l).2 hr] at hm;cases hm
  exact List.nodup_append.2 ⟨h,by simp,fun a ha b hb e=>by simp at hb;subst hb;subst e;exact this ha⟩
mutual
theorem aaI:∀(v:V) (I:List Nat),I.Nodup→(anV I v).Nodup
 | .ptr r _,I,h=>by simp only[anV];exact VG h
 | .clo _ a b,I,h=>by simp only[anV];exact NR b _ (NR a _ h)
 | .agg cs,I,h=>by simp only[anV];exact NR cs _ h
 | .d _,I,h=>h
 | .nil _,I,h=>h
 | .own _ _,I,h=>h
 | .sS _ _ _ _,I,h=>h
 | .sJ _ _,I,h=>h
 | .yE _,I,h=>h
 | .undef,I,h=>h
theorem NR:∀(vs:List V) (I:List Nat),I.Nodup→(adA I vs).Nodup
 |[],I,h=>h
 |v::vs,I,h=>by simp only[adA];exact NR vs _ (aaI v I h)
end
theorem TJ(A:Adv)(f:Nat):∀(vs:List V) (i:Nat) (I:List Nat),I.Nodup→(LH A f i I vs).Nodup
 |[],_,I,h=>h
 |v::vs,i,I,h=>by
  simp only[LH]
  refine TJ A f vs _ _ ?_
  split
  ·exact VG h
  ·exact aaI _ _ h
def LK(A:Adv)(f:Nat)(μ:Nat→Value)(m:Mem)(H:Heap)(h:View):Nat→List V→List Value→List Nat→Prop
 |_,[],gs,N=>gs=[]∧N=[]
 |i,v::vs,gs,N=>∃g gs' N1 N2,gs=g::gs'∧N=N1++N2∧(match EH A f i with
   |1=>∃x,v=.d x∧ow H h x g N1
   |_=>N1=[]∧bJ μ m h v g)∧LK A f μ m H h (i+1) vs gs' N2
theorem OG{A:Adv}{f:Nat}{μ μ':Nat→Value}{m m':Mem}{H H':Heap}{h h':View}(hm:EF μ m μ' m')(hl:h.le h'):∀{vs:List V} {i:Nat} {gs:List Value} {N:List Nat},(∀b,b∈N→H' b=H b)→
  LK A f μ m H h i vs gs N→LK A f μ' m' H' h' i vs gs N
 |[],_,_,_,_,q=>q
 |v::vs,i,gs,N,hb,q=>by
  simp only[LK] at q⊢
  obtain⟨g,gs',N1,N2,rfl,rfl,h3,h4⟩:=q
  refine⟨g,gs',N1,N2,rfl,rfl, ?_,OG hm hl (fun b hx=>hb b (by simp[hx])) h4⟩
  split at h3
  ·rename_i hmo
   obtain⟨x,hx,hq⟩:=h3
   exact⟨x,hx,aeL hl x g N1 (fun b hx=>hb b (by simp[hx])) hq⟩
  ·exact⟨h3.1,Js hm hl v g h3.2⟩
theorem Yr{A:Adv}{f:Nat}:∀{vs:List V} {gs:List Value} {m:Mem} {G:GS} {i:Nat} (_:BL base U w m G) (_:dO G.μ m (Gh U w G) vs gs) (_:G.out=[]) {vs':List V} {m':Mem} {l l':Log}
  (_:(OA A f i vs).run m l=some (vs',m',l')),∃G' N,Jl base U w m G m' G' N∧LK A f G'.μ m' (dR w) (Gh U w G') i vs' gs N
 |[],gs,m,G,i,hg,hv,ho,vs',m',l,l',h=>by
  simp only[OA,run_pure,Option.some.injEq,Prod.mk.injEq] at h
  obtain⟨rfl,rfl,rfl⟩:=h
  simp only[dO] at hv
  exact⟨G,[],Jl.same hg,hv,rfl⟩
 |v::vs,gs,m,G,i,hg,hv,ho,vs',m',l,l',h=>by
  obtain⟨g,gs',rfl,hv1,hv2⟩:=oG hv
  simp only[OA] at h
  replace h:=aj h;obtain⟨x,m1,l1,h1,h⟩:=h
  replace h:=aj h;obtain⟨ys,m2,l2,h2,h⟩:=h
  simp only[run_pure,Option.some.injEq,Prod.mk.injEq] at h
  obtain⟨rfl,rfl,rfl⟩:=h
  have step:∃G1 N1,Jl base U w m G m1 G1 N1∧(match EH A f i with
   |1=>∃y,x=.d y∧ow (dR w) (Gh U w G1) y g N1
   |_=>N1=[]∧bJ G1.μ m1 (Gh U w G1) x g):=by
   split at h1
   ·rename_i hmo
    replace h1:=aj h1;obtain⟨y,m3,l3,h3,h1⟩:=h1
    simp only[run_pure,Option.some.injEq,Prod.mk.injEq] at h1
    obtain⟨rfl,rfl,rfl⟩:=h1
    obtain⟨G1,N1,t1,q1⟩:=aps hg hv1 ho h3
    refine⟨G1,N1,t1, ?_⟩
    try rw[hmo]
    exact⟨y,rfl,q1⟩
   ·rename_i hmo
    simp only[run_pure,Option.some.injEq,Prod.mk.injEq] at h1
    obtain⟨rfl,rfl,rfl⟩:=h1
    refine⟨G,[],Jl.same hg, ?_⟩
    first
     |exact⟨rfl,hv1⟩
     |split
      ·rename_i e;exact absurd e hmo
      ·exact⟨rfl,hv1⟩
  obtain⟨G1,N1,t1,q1⟩:=step
  obtain⟨G2,N2,t2,q2⟩:=Yr t1.ok (t1.le.dO hv2) (t1.out.trans ho) h2
  refine⟨G2,N1++N2,t1.trans t2, ?_⟩
  simp only[LK]
  refine⟨g,gs',N1,N2,rfl,rfl, ?_,q2⟩
  split at q1
  ·obtain⟨y,hy,hq⟩:=q1
   exact⟨y,hy,SG t2.le.view hq⟩
  ·exact⟨q1.1,t2.le.bJ q1.2⟩
theorem aaJ:∀(cs:List Cell) (k i:Nat),get (lD+(k+i)) (qj k cs)=cs[i]?
 |[],_,_=>by simp[qj,get]
 |c::cs,k,0=>by simp[qj,get]
 |c::cs,k,i+1=>by
  simp only[qj,get]
  rw[uN (by omega)]
  simp only[cond_false,List.getElem?_cons_succ]
  rw[←aaJ cs (k+1) i,show k+1+i=k+(i+1) from by omega]
theorem KN(cs:List Cell)(i:Nat):get (lD+i) (qj 0 cs)=cs[i]? :=by
 have:=aaJ cs 0 i
 rwa [Nat.zero_add] at this
def impμ(hs:List Value):Nat→Value:=fun k=>hs.getD (k - lD) undef
theorem UA{r:Nat}:∀{l:List Nat} {k i:Nat},idxOf r k l=some i→k≤i∧l[i - k]? =some r
 |[],_,_,h=>by simp[idxOf] at h
 |j::l,k,i,h=>by
  simp only[idxOf] at h
  by_cases e:r=j
  ·subst e
   simp at h
   subst h
   simp
  ·rw[uN e] at h
   simp only[cond_false] at h
   obtain⟨h1,h2⟩:=UA h
   refine⟨by omega, ?_⟩
   rw[show i - k=(i - (k+1))+1 from by omega,List.getElem?_cons_succ]
   exact h2
theorem VH{m:Mem}:∀{rs:List Nat} {cs:List Cell} {i r:Nat},kinds m rs cs→rs[i]? =some r→∃c c',get r m=some c∧cs[i]? =some c'∧sameKind c c'
 |[],_,_,_,_,h=>by simp at h
 |r::rs,_,0,r',⟨c,c',cs',h1,h2,h3,_⟩,h=>by
  simp at h
  subst h;subst h1
  exact⟨c,c',h2,rfl,h3⟩
 |r::rs,_,i+1,r',⟨c,c',cs',h1,h2,h3,h4⟩,h=>by
  subst h1
  simp only[List.getElem?_cons_succ] at h⊢
  exact VH h4 h
def VI(U:Nat→Prop)(G:GS)(L:List Nat):Nat→Prop:=fun b=>U b∧∀r,b∈G.F r→r∈L
theorem PE{L:List Nat}:(Gh U w G).le (view w (VI U G L) (· ∈G.E)):=by
 intro b o v hv
 unfold Gh view at hv
 split at hv
 ·rename_i hc
  unfold view
  rw[if_pos ⟨⟨hc.1,fun r hr=>absurd (.inr ⟨r,hr⟩) hc.2⟩,fun hE=>hc.2 (.inl hE)⟩]
  exact hv
 ·cases hv
structure amW(base:Nat)(U:Nat→Prop)(w:World)(m:Mem)(G:GS)(imp:List Nat)(cells:List Cell):Prop where
 ok:BL base U w m G
 out:∀r,r∈G.out↔r∈imp
 kd:kinds m imp cells
theorem atc(hg:BL base U w m G){r:Nat}{fz fl:Bool}{ver s:Nat}{rows:List Row}(hc:get r m=some (.arr fz fl ver s rows))(hro:r ∉ G.out){L:List Nat}(hL:fz=false→r∈L)(o:Bool):
  ro (view w (VI U G L) (· ∈G.E)) (.sl o s rows) (G.μ r):=by
 have hq:=hg.cell r _ hc hro
 cases fz with
 |true=>exact QO (DU PE _ _ hq.1)
 |false=>
  refine aeM PE (Me fun b hb=>⟨⟨(hg.lt b (.inr ⟨r,hb⟩)).2.2,fun k hk=> ?_⟩,hg.djE r b hb⟩) hq o
  by_cases e:k=r
  ·rw[e];exact hL rfl
  ·exact absurd hk (hg.dj r k (Ne.symm e) b hb)
mutual
theorem amX{imp:List Nat}{cells:List Cell}(C:amW base U w m G imp cells):∀{v:V} {g:Value} (_:bJ G.μ m (Gh U w G) v g) {v':V} {lt:List Nat} {m':Mem} {l l':Log}
  (_:(lend imp v).run m l=some ((v',lt),m',l')),m'=m∧∀L:List Nat,(∀r,r∈lt→r∈L)→bJ (impμ (imp.map G.μ)) (qj 0 cells) (view w (VI U G L) (· ∈G.E)) v' g
 | .d x,g,hv,v',lt,m',l,l',h=>by
  simp only[lend,run_pure,Option.some.injEq,Prod.mk.injEq] at h
  obtain⟨⟨rfl,rfl⟩,rfl,rfl⟩:=h
  refine⟨rfl,fun L hL=> ?_⟩
  simp only[bJ] at hv⊢
  exact DU PE _ _ (apq hv)
 | .nil s,g,hv,v',lt,m',l,l',h=>by
  simp only[lend,run_pure,Option.some.injEq,Prod.mk.injEq] at h
  obtain⟨⟨rfl,rfl⟩,rfl,rfl⟩:=h
  refine⟨rfl,fun L hL=> ?_⟩
  simp only[bJ] at hv⊢
  simp[ro,hv]
 | .own r ver,g,hv,v',lt,m',l,l',h=>by
  simp only[lend] at h
  replace h:=aj h;obtain⟨c,m1,l1,h1,h⟩:=h
  rw[uO] at h1
  cases h1
  cases hc:get r m with
  |none=>rw[hc] at h;exact(au h).elim
  |some c=>
   rw[hc] at h
   cases c with
   |box _ _=>exact(au h).elim
   |dead=>exact(au h).elim
   |DJ _ _ _=>exact(au h).elim
   |arr fz fl iU s rows=>
    simp only at h
    replace h:=aj h;obtain⟨_,m2,l2,h1,h⟩:=h
    obtain⟨hb,rfl,rfl⟩:=eF h1
    have hb:=Nat.eq_of_beq_eq_true hb
    subst hb
    replace h:=aj h;obtain⟨_,m2,l2,h1,h⟩:=h
    obtain⟨hi,rfl,rfl⟩:=eF h1
    simp only[run_pure,Option.some.injEq,Prod.mk.injEq] at h
    obtain⟨⟨rfl,rfl⟩,rfl,rfl⟩:=h
    simp only[bJ,hc] at hv
    have hv:=hv.2.2 trivial
    subst hv
    refine⟨rfl,fun L hL=> ?_⟩
    have hro:r ∉ G.out:=fun hr=>OE hi ((C.out r).1 hr)
    simp only[bJ]
    exact aaF (atc C.ok hc hro (fun hf=>hL r (by subst hf;simp)) true)
 | .ptr r off,g,hv,v',lt,m',l,l',h=>by
  simp only[lend] at h
  replace h:=aj h;obtain⟨i,m1,l1,h1,h⟩:=h
  obtain⟨hi,rfl,rfl⟩:=gU h1
  simp only[run_pure,Option.some.injEq,Prod.mk.injEq] at h
  obtain⟨⟨rfl,rfl⟩,rfl,rfl⟩:=h
  refine⟨rfl,fun L hL=> ?_⟩
  obtain⟨_,h2⟩:=UA hi
  rw[Nat.sub_zero] at h2
  obtain⟨c,c',k1,k2,k3⟩:=VH C.kd h2
  simp only[bJ,k1] at hv
  simp only[bJ,KN,k2]
  refine⟨hv.1, ?_⟩
  replace hv:=hv.2
  cases c<;>cases c'<;>simp only[sameKind] at k3 hv⊢
  obtain⟨b,e1,e2⟩:=hv
  refine⟨b, ?_,e2⟩
  simp only[impμ,Nat.add_sub_cancel_left,List.getD_eq_getElem?_getD,List.getElem?_map,h2,Option.map_some,Option.getD_some,e1]
 | .sJ row off,g,hv,v',lt,m',l,l',h=>by
  simp only[lend,run_pure,Option.some.injEq,Prod.mk.injEq] at h
  obtain⟨⟨rfl,rfl⟩,rfl,rfl⟩:=h
  refine⟨rfl,fun L hL=> ?_⟩
  simp only[bJ] at hv⊢
  obtain⟨b,o,e1,e2⟩:=hv
  exact⟨b,o,e1,MI PE row b o e2⟩
 | .clo f a b,g,hv,v',lt,m',l,l',h=>by
  simp only[lend] at h
  replace h:=aj h;obtain⟨⟨a',la⟩,m1,l1,h1,h⟩:=h
  simp only at h
  replace h:=aj h;obtain⟨⟨b',lb⟩,m2,l2,h2,h⟩:=h
  simp only[run_pure,Option.some.injEq,Prod.mk.injEq] at h
  obtain⟨⟨rfl,rfl⟩,rfl,rfl⟩:=h
  simp only[bJ] at hv
  obtain⟨x,y,rfl,e2,e3⟩:=hv
  obtain⟨hm1,q1⟩:=VJ C e2 h1
  rw[hm1] at h2
  obtain⟨hm2,q2⟩:=VJ C e3 h2
  refine⟨hm2,fun L hL=> ?_⟩
  simp only[bJ]
  exact⟨x,y,rfl,q1 L (fun r hr=>hL r (by simp[hr])),q2 L (fun r hr=>hL r (by simp[hr]))⟩
 | .agg cs,g,hv,v',lt,m',l,l',h=>by
  simp only[lend] at h
  replace h:=aj h;obtain⟨⟨a',la⟩,m1,l1,h1,h⟩:=h
  simp only[run_pure,Option.some.injEq,Prod.mk.injEq] at h
  obtain⟨⟨rfl,rfl⟩,rfl,rfl⟩:=h
  simp only[bJ] at hv
  obtain⟨x,rfl,e2⟩:=hv
  obtain⟨hm1,q1⟩:=VJ C e2 h1
  refine⟨hm1,fun L hL=> ?_⟩
  simp only[bJ]
  exact⟨x,rfl,q1 L hL⟩
 | .sS _ _ _ _,g,hv,v',lt,m',l,l',h=>(au h).elim
 | .yE _,g,hv,v',lt,m',l,l',h=>(au h).elim
 | .undef,g,hv,v',lt,m',l,l',h=>(au h).elim
theorem VJ{imp:List Nat}{cells:List Cell}(C:amW base U w m G imp cells):∀{vs:List V} {gs:List Value} (_:dO G.μ m (Gh U w G) vs gs) {vs':List V} {lt:List Nat} {m':Mem} {l l':Log}
  (_:(aay imp vs).run m l=some ((vs',lt),m',l')),m'=m∧∀L:List Nat,(∀r,r∈lt→r∈L)→dO (impμ (imp.map G.μ)) (qj 0 cells) (view w (VI U G L) (· ∈G.E)) vs' gs
 |[],gs,hv,v',lt,m',l,l',h=>by
  simp only[aay,run_pure,Option.some.injEq,Prod.mk.injEq] at h
  obtain⟨⟨rfl,rfl⟩,rfl,rfl⟩:=h
  simp only[dO] at hv
  subst hv
  exact⟨rfl,fun _ _=>by simp[dO]⟩
 |v::vs,gs,hv,v',lt,m',l,l',h=>by
  obtain⟨g,gs',rfl,hv1,hv2⟩:=oG hv
  simp only[aay] at h
  replace h:=aj h;obtain⟨⟨a',la⟩,m1,l1,h1,h⟩:=h
  simp only at h
  replace h:=aj h;obtain⟨⟨b',lb⟩,m2,l2,h2,h⟩:=h
  simp only[run_pure,Option.some.injEq,Prod.mk.injEq] at h
  obtain⟨⟨rfl,rfl⟩,rfl,rfl⟩:=h
  obtain⟨hm1,q1⟩:=amX C hv1 h1
  rw[hm1] at h2
  obtain⟨hm2,q2⟩:=VJ C hv2 h2
  refine⟨hm2,fun L hL=> ?_⟩
  simp only[dO]
  exact⟨g,gs',rfl,q1 L (fun r hr=>hL r (by simp[hr])),q2 L (fun r hr=>hL r (by simp[hr]))⟩
end
theorem Yt{A:Adv}{f:Nat}{imp:List Nat}{cells:List Cell}(C:amW base U w m G imp cells):
  ∀{vs:List V} {gs:List Value} {i:Nat} {N:List Nat} (_:LK A f G.μ m (dR w) (Gh U w G) i vs gs N) {vs':List V} {lt:List Nat} {m':Mem} {l l':Log}
  (_:(OB A imp f i vs).run m l=some ((vs',lt),m',l')),m'=m∧∀L:List Nat,(∀r,r∈lt→r∈L)→LK A f (impμ (imp.map G.μ)) (qj 0 cells) (dR w) (view w (VI U G L) (· ∈G.E)) i vs' gs N
 |[],gs,i,N,hv,v',lt,m',l,l',h=>by
  simp only[OB,run_pure,Option.some.injEq,Prod.mk.injEq] at h
  obtain⟨⟨rfl,rfl⟩,rfl,rfl⟩:=h
  exact⟨rfl,fun _ _=>hv⟩
 |v::vs,gs,i,N,hv,v',lt,m',l,l',h=>by
  simp only[LK] at hv
  obtain⟨g,gs',N1,N2,rfl,rfl,hv1,hv2⟩:=hv
  simp only[OB] at h
  replace h:=aj h;obtain⟨⟨a',la⟩,m1,l1,h1,h⟩:=h
  simp only at h
  replace h:=aj h;obtain⟨⟨b',lb⟩,m2,l2,h2,h⟩:=h
  simp only[run_pure,Option.some.injEq,Prod.mk.injEq] at h
  obtain⟨⟨rfl,rfl⟩,rfl,rfl⟩:=h
  have step:m1=m∧∀L:List Nat,(∀r,r∈la→r∈L)→(match EH A f i with
   |1=>∃x,a'=.d x∧ow (dR w) (view w (VI U G L) (· ∈G.E)) x g N1
   |_=>N1=[]∧bJ (impμ (imp.map G.μ)) (qj 0 cells) (view w (VI U G L) (· ∈G.E)) a' g):=by
   split at h1
   ·rename_i hmo
    rw[hmo] at hv1⊢
    simp only[run_pure,Option.some.injEq,Prod.mk.injEq] at h1
    obtain⟨⟨rfl,rfl⟩,rfl,rfl⟩:=h1
    refine⟨rfl,fun L hL=> ?_⟩
    obtain⟨x,hx,hq⟩:=hv1
    exact⟨x,hx,SG PE hq⟩
   ·rename_i hmo
    rw[hmo] at hv1⊢
    obtain⟨hN,hv1⟩:=hv1
    cases v with
    |own r ver=>
     simp only at h1
     replace h1:=aj h1;obtain⟨_,m3,l3,h3,h1⟩:=h1
     obtain⟨hb,rfl,rfl⟩:=eF h3
     have hb:=Nat.eq_of_beq_eq_true hb
     subst hb
     replace h1:=aj h1;obtain⟨j,m3,l3,h3,h1⟩:=h1
     obtain⟨hj,rfl,rfl⟩:=gU h3
     simp only[run_pure,Option.some.injEq,Prod.mk.injEq] at h1
     obtain⟨⟨rfl,rfl⟩,rfl,rfl⟩:=h1
     refine⟨rfl,fun L hL=>⟨hN, ?_⟩⟩
     obtain⟨_,h2⟩:=UA hj
     rw[Nat.sub_zero] at h2
     obtain⟨c,c',k1,k2,k3⟩:=VH C.kd h2
     simp only[bJ,k1] at hv1
     simp only[bJ,KN,k2]
     refine⟨hv1.1, ?_⟩
     replace hv1:=hv1.2
     cases c<;>cases c'<;>simp only[sameKind] at k3 hv1⊢
     refine⟨by omega,fun _=> ?_⟩
     simp only[impμ,Nat.add_sub_cancel_left,List.getD_eq_getElem?_getD,List.getElem?_map,h2,Option.map_some,Option.getD_some]
     exact hv1.2 k3.1.symm
    |d _=>exact(au h1).elim
    |nil _=>exact(au h1).elim
    |ptr _ _=>exact(au h1).elim
    |sS _ _ _ _=>exact(au h1).elim
    |sJ _ _=>exact(au h1).elim
    |clo _ _ _=>exact(au h1).elim
    |agg _=>exact(au h1).elim
    |yE _=>exact(au h1).elim
    |undef=>exact(au h1).elim
   ·rename_i hmo
    rw[hmo] at hv1⊢
    obtain⟨hN,hv1⟩:=hv1
    cases v with
    |nil s=>
     simp only[run_pure,Option.some.injEq,Prod.mk.injEq] at h1
     obtain⟨⟨rfl,rfl⟩,rfl,rfl⟩:=h1
     exact⟨rfl,fun L hL=>⟨hN,hv1⟩⟩
    |d _=>exact(au h1).elim
    |own _ _=>exact(au h1).elim
    |ptr _ _=>exact(au h1).elim
    |sS _ _ _ _=>exact(au h1).elim
    |sJ _ _=>exact(au h1).elim
    |clo _ _ _=>exact(au h1).elim
    |agg _=>exact(au h1).elim
    |yE _=>exact(au h1).elim
    |undef=>exact(au h1).elim
   ·rename_i apt aT2 aT3
    have hm1:∀(α:Prop) (β:Prop),(match EH A f i with|1=>α|_=>β)=β:=by
     intro α β
     split
     ·rename_i e;exact absurd e apt
     ·rfl
    rw[hm1] at hv1
    obtain⟨hN,hv1⟩:=hv1
    obtain⟨rfl,q⟩:=amX C hv1 h1
    refine⟨rfl,fun L hL=> ?_⟩
    rw[hm1]
    exact⟨hN,q L hL⟩
  obtain⟨hm1,q1⟩:=step
  rw[hm1] at h2
  obtain⟨hm2,q2⟩:=Yt C hv2 h2
  refine⟨hm2,fun L hL=> ?_⟩
  simp only[LK]
  exact⟨g,gs',N1,N2,rfl,rfl,q1 L (fun r hr=>hL r (by simp[hr])),q2 L (fun r hr=>hL r (by simp[hr]))⟩
end
end Go.Vm
namespace Go.Vm
open Go
theorem Xx{w:World}{U X:Nat→Prop}{b o:Nat}{v:Value}(h:view w U X b o=some v):U b∧¬X b∧w.cell? ⟨b,o,none⟩=some v:=by
 unfold view at h
 split at h
 ·rename_i hc;exact⟨hc.1,hc.2,h⟩
 ·cases h
theorem aaf{w:World}{U X:Nat→Prop}{b o:Nat}{v:Value}(h1:U b)(h2:¬X b)(h3:w.cell? ⟨b,o,none⟩=some v):view w U X b o=some v:=by
 unfold view
 rw[if_pos ⟨h1,h2⟩]
 exact h3
theorem cell_of_heap{w w':World}{b:Nat}(h:w'.heap[b]? =w.heap[b]?)(o:Nat):w'.cell? ⟨b,o,none⟩=w.cell? ⟨b,o,none⟩:=by simp[World.cell?,h]
theorem lt_of_cell{w:World}{b o:Nat}{v:Value}(h:w.cell? ⟨b,o,none⟩=some v):b<w.heap.size:=by
 have:=block_lt_of_cell h
 simpa using this
section
variable {base:Nat} {U:Nat→Prop} {w w':World} {m:Mem} {G:GS}
theorem BL.world(hg:BL base U w m G)(hk:Keep G.E w w'){E':List Nat}(hn:E'.Nodup)(hE:∀b,b∈E'→(b∈G.E∨w.heap.size≤b)∧b<w'.heap.size):
  BL base U w' m {G with E:=E'}∧(Gh U w G).le (Gh U w' {G with E:=E'}):=by
 have hnE:∀b,b<w.heap.size→b ∉ G.E→b ∉ E':=fun b hb hx he=>by
  rcases(hE b he).1 with h|h
  ·exact hx h
  ·omega
 have hF:∀r b,b∈G.F r→w'.heap[b]? =w.heap[b]? :=fun r b hb=>hk.block b (hg.lt b (.inr ⟨r,hb⟩)).1 (hg.djE r b hb)
 have hle:(Gh U w G).le (Gh U w' {G with E:=E'}):=by
  intro b o v hv
  obtain⟨h1,h2,h3⟩:=Xx hv
  have hlt:=lt_of_cell h3
  have hbE:b ∉ G.E:=fun h=>h2 (.inl h)
  refine aaf h1 ?_ ((cell_of_heap (hk.block b hlt hbE) o).trans h3)
  rintro(h|h)
  ·exact hnE b hlt hbE h
  ·exact h2 (.inr h)
 refine⟨⟨?_,hg.dj,fun r b hb=>hnE b (hg.lt b (.inr ⟨r,hb⟩)).1 (hg.djE r b hb),hg.nd,hn, ?_,fun b hb=>hg.up b (Nat.le_trans hk.size hb),Nat.le_trans hg.bs hk.size,hg.none_,hg.out_⟩,hle⟩
 ·intro r c hc ho
  exact Hf (sO _ _) hle rfl (fun b hb=>hF r b hb) (hg.cell r c hc ho)
 ·rintro b (h|⟨r,h⟩)
  ·refine⟨(hE b h).2, ?_⟩
   rcases(hE b h).1 with h'|h'
   ·exact(hg.lt b (.inl h')).2
   ·exact⟨Nat.le_trans hg.bs h',hg.up b h'⟩
  ·have:=hg.lt b (.inr ⟨r,h⟩)
   exact⟨Nat.lt_of_lt_of_le this.1 hk.size,this.2⟩
theorem adD:∀{L:List Nat} {m:Mem} {G:GS} (_:BL base U w m G) (_:∀r,r∈L→r ∉ G.out) {x:Unit} {m':Mem} {l l':Log} (_:(freeze L).run m l=some (x,m',l')),
  ∃F',BL base U w m' ⟨G.μ,F',G.E,G.out⟩∧QM m G m' ⟨G.μ,F',G.E,G.out⟩∧(∀r,r∈L→F' r=[])∧(∀r,F' r=[]∨F' r=G.F r)∧(∀k,k ∉ L→get k m'=get k m)
 |[],m,G,hg,ho,x,m',l,l',h=>by
  simp only[Vm.freeze,run_pure,Option.some.injEq,Prod.mk.injEq] at h
  obtain⟨_,rfl,rfl⟩:=h
  exact⟨G.F,hg,QM.refl _ _,by simp,fun r=> .inr rfl,fun _ _=>rfl⟩
 |r::L,m,G,hg,ho,x,m',l,l',h=>by
  simp only[Vm.freeze] at h
  replace h:=aj h;obtain⟨c,m1,l1,h1,h⟩:=h
  rw[uO] at h1
  cases h1
  cases hc:get r m with
  |none=>rw[hc] at h;exact(au h).elim
  |some c=>
   rw[hc] at h
   cases c with
   |box _ _=>exact(au h).elim
   |dead=>exact(au h).elim
   |DJ _ _ _=>exact(au h).elim
   |arr fz fl ver s rows=>
    replace h:=aj h;obtain⟨_,m1,l1,h1,h⟩:=h
    simp only[CZ,Option.some.injEq,Prod.mk.injEq] at h1
    obtain⟨_,rfl,rfl⟩:=h1
    obtain⟨k1,k2,_⟩:=hg.freeze hc (ho r (by simp))
    obtain⟨F',q1,q2,q3,q4,q5⟩:=adD k1 (fun k hk=>ho k (by simp[hk])) h
    refine⟨F',q1,k2.trans q2, ?_, ?_, ?_⟩
    ·intro k hk
     simp only[List.mem_cons] at hk
     rcases hk with rfl|hk
     ·rcases q4 k with e|e
      ·exact e
      ·rw[e];simp
     ·exact q3 k hk
    ·intro k
     rcases q4 k with e|e
     ·exact .inl e
     ·by_cases ek:k=r
      ·subst ek;rw[e];left;simp
      ·have e':F' k=Vr G.F r [] k:=e
       rw[e',jJ _ ek];exact .inr rfl
    ·intro k hk
     simp only[List.mem_cons,not_or] at hk
     rw[q5 k hk.2,kN hk.1]
theorem aaK{k:IntKind}{x:D}{n:Int}(h:asInt k x=some n):x=.int k n:=by
 cases x<;>simp[asInt] at h
 rename_i k' n'
 by_cases e:k'=k
 ·subst e;simp at h;subst h;rfl
 ·simp[e] at h
theorem Yu{x:D}{b:Bool}(h:asBool x=some b):x=.bool b:=by
 cases x<;>simp[asBool] at h;subst h;rfl
theorem aaL{x:D}{b:List UInt8}(h:adx x=some b):x=.str b:=by
 cases x<;>simp[adx] at h;subst h;rfl
theorem adE{s:Nat}{x:D}{rows:List Row}(h:apb s x=some rows):∃o,x=.sl o s rows:=by
 cases x<;>simp[apb] at h
 rename_i o s' rows'
 by_cases e:s'=s
 ·subst e;simp at h;subst h;exact⟨o,rfl⟩
 ·rw[uN e] at h;simp at h
theorem aaM{s:Nat}{x:D}{rows:List Row}(h:amS s x=some rows):x=.sl true s rows:=by
 cases x<;>simp[amS] at h
 rename_i o s' rows'
 cases o<;>simp at h
 by_cases e:s'=s
 ·subst e;simp at h;subst h;rfl
 ·rw[uN e] at h;simp at h
theorem afW{row:Row}{j:Nat}{x:D}{r:Row}(h:row.drop j=x::r):nth row j=x∧row.drop (j+1)=r:=by
 have h1:row[j]? =some x:=by
  have:(row.drop j)[0]? =some x:=by rw[h];rfl
  rwa [List.getElem?_drop,Nat.add_zero] at this
 refine⟨by simp[nth,h1], ?_⟩
 rw[←List.drop_drop,h]
 rfl
theorem BL.aaN(hg:BL base U w m G){N E:List Nat}(hE:(N++E).Perm G.E):BL base U w m {G with E:=E}∧QM m G m {G with E:=E}∧∀{x:D} {g:Value},ow (dR w) (Gh U w G) x g N→ro (Gh U w {G with E:=E}) x g:=by
 have hnd:=hE.nodup_iff.2 hg.ndE
 have hmem:∀b,b∈N++E→b∈G.E:=fun b hb=>hE.mem_iff.1 hb
 obtain⟨h1,h2⟩:=hg.less E (List.nodup_append.1 hnd).2.1 (fun b hb=>hmem b (by simp[hb]))
 refine⟨h1,h2,fun{x g} q=>auL h2.view x g N (Me fun b hb=>⟨(hg.lt b (.inl (hmem b (by simp[hb])))).2.2, ?_⟩) q⟩
 rintro(h|⟨r,h⟩)
 ·exact(List.nodup_append.1 hnd).2.2 b hb b h rfl
 ·exact hg.djE r b h (hmem b (by simp[hb]))
structure Grew(base:Nat)(U:Nat→Prop)(w:World)(m:Mem)(G:GS)(m':Mem)(G':GS)(E:List Nat):Prop where
 ok:BL base U w m' G'
 le:QM m G m' G'
 E:G'.E=E
 out:G'.out=G.out
 old:∀k c,get k m=some c→get k m'=some c
 μ:∀k c,get k m=some c→G'.μ k=G.μ k
theorem Grew.trans{m1 m2 m3:Mem}{G1 G2 G3:GS}{E E':List Nat}(a:Grew base U w m1 G1 m2 G2 E)(b:Grew base U w m2 G2 m3 G3 E'):Grew base U w m1 G1 m3 G3 E':=
 ⟨b.ok,a.le.trans b.le,b.E,b.out.trans a.out,fun k c h=>b.old k c (a.old k c h),fun k c h=>(b.μ k c (a.old k c h)).trans (a.μ k c h)⟩
theorem VK{k:Nat}{c:Cell}{x:Unit}{m':Mem}{l l':Log}(h:(new k c).run m l=some (x,m',l')):get k m=none∧m'=put k c m:=by
 simp only[new] at h
 replace h:=aj h;obtain⟨_,m1,l1,h1,h⟩:=h
 simp only[free] at h1
 replace h1:=aj h1;obtain⟨c',m2,l2,h2,h1⟩:=h1
 rw[uO] at h2
 cases h2
 cases hc:get k m with
 |some c=>rw[hc] at h1;exact(au h1).elim
 |none=>
  rw[hc] at h1
  simp only[run_pure,Option.some.injEq,Prod.mk.injEq] at h1
  obtain⟨_,rfl,rfl⟩:=h1
  simp only[CZ,Option.some.injEq,Prod.mk.injEq] at h
  exact⟨rfl,h.2.1.symm⟩
theorem adF(hg:BL base U w m G)(ho:∀r,r∈G.out→∃c,get r m=some c){k:Nat}{fl:Bool}{s:Nat}{rows:List Row}{g:Value}{N E:List Nat}(hE:(N++E).Perm G.E)
  (hq:ow (dR w) (Gh U w G) (.sl true s rows) g N) {x:Unit} {m':Mem} {l l':Log} (h:(new k (.arr false fl 0 s rows)).run m l=some (x,m',l')):
  ∃G',Grew base U w m G m' G' E∧bJ G'.μ m' (Gh U w G') (.own k 0) g:=by
 obtain⟨hn,rfl⟩:=VK h
 have hk:k ∉ G.out:=fun hx=>by obtain⟨c,hc⟩:=ho k hx;rw[hn] at hc;cases hc
 obtain⟨F',h1,h2⟩:=hg.avC fl hn hk hE hq
 refine⟨_,⟨h1,h2,rfl,rfl,fun j c hj=> ?_,fun j c hj=> ?_⟩, ?_⟩
 ·have hne:j≠k:=fun e=>by subst e;rw[hn] at hj;cases hj
  rw[kN hne];exact hj
 ·exact Jt _ (fun e=>by subst e;rw[hn] at hj;cases hj)
 ·have:OC g:=by
   simp only[ow] at hq
   rcases hq with⟨_,rfl,_⟩|⟨b,cap,cs,t,N',rfl,_⟩<;>exact⟨_,_,_,rfl⟩
  simp[bJ,jk,this]
theorem Yv(hg:BL base U w m G)(ho:∀r,r∈G.out→∃c,get r m=some c){row:Row}{j:Nat}{x:D}{g:Value}{N E:List Nat}(hE:(N++E).Perm G.E)(hx:nth row j=x)
  (hq:ow (dR w) (Gh U w G) x g N) {ct:CT} {own fl:Bool} {key:Nat} {v:V} {m':Mem} {l l':Log}
  (h:(KJ own fl key row j ct).run m l=some (v,m',l')):
  ∃G',Grew base U w m G m' G' E∧bJ G'.μ m' (Gh U w G') v g:=by
 obtain⟨d1,d2,d3⟩:=hg.aaN hE
 have plain:Grew base U w m G m {G with E:=E} E:=⟨d1,d2,rfl,rfl,fun _ _ h=>h,fun _ _ _=>rfl⟩
 have hro:=d3 hq
 cases ct with
 |int k=>
  simp only[KJ,dn,hx,Acc.run] at h
  cases ha:asInt k x with
  |none=>simp[ha,Acc.run] at h
  |some n=>
   simp only[ha,Acc.run,Option.some.injEq,Prod.mk.injEq] at h
   obtain⟨rfl,rfl,rfl⟩:=h
   refine⟨_,plain, ?_⟩
   rw[aaK ha] at hro
   simpa[bJ] using hro
 |bool=>
  simp only[KJ,ady,hx,Acc.run] at h
  cases ha:asBool x with
  |none=>simp[ha,Acc.run] at h
  |some n=>
   simp only[ha,Acc.run,Option.some.injEq,Prod.mk.injEq] at h
   obtain⟨rfl,rfl,rfl⟩:=h
   refine⟨_,plain, ?_⟩
   rw[Yu ha] at hro
   simpa[bJ] using hro
 |str=>
  simp only[KJ,cStr,hx,Acc.run] at h
  cases ha:adx x with
  |none=>simp[ha,Acc.run] at h
  |some n=>
   simp only[ha,Acc.run,Option.some.injEq,Prod.mk.injEq] at h
   obtain⟨rfl,rfl,rfl⟩:=h
   refine⟨_,plain, ?_⟩
   rw[aaL ha] at hro
   simpa[bJ] using hro
 |other=>exact(au h).elim
 |sl s=>
  cases own with
  |false=>
   simp only[KJ,BK,hx,Acc.run] at h
   cases ha:apb s x with
   |none=>simp[ha,Acc.run] at h
   |some n=>
    simp only[ha,Acc.run,Option.some.injEq,Prod.mk.injEq] at h
    obtain⟨rfl,rfl,rfl⟩:=h
    refine⟨_,plain, ?_⟩
    obtain⟨o,rfl⟩:=adE ha
    simp only[bJ]
    exact aaF hro
  |true=>
   simp only[KJ,aeC,hx,Acc.run] at h
   cases ha:amS s x with
   |none=>simp[ha,Acc.run] at h
   |some n=>
    simp only[ha,Acc.run] at h
    have:=aaM ha
    subst this
    replace h:=aj h;obtain⟨_,m1,l1,h1,h⟩:=h
    simp only[run_pure,Option.some.injEq,Prod.mk.injEq] at h
    obtain⟨rfl,rfl,rfl⟩:=h
    exact adF hg ho hE hq h1
theorem Gj{H:Heap}{h:View}{x:D}{r:Row}{cs:List Value}{N:List Nat}(q:iI H h (x::r) cs N):∃v cs' N1 N2,cs=v::cs'∧N=N1++N2∧ow H h x v N1∧iI H h r cs' N2:=by simpa[iI] using q
theorem Xy{N1 N2 E E0:List Nat}(h:(N1++N2++E).Perm E0):(N1++(N2++E)).Perm E0:=by rwa [List.append_assoc] at h
theorem aaO{own:List Nat}{r dst:Nat}{row:Row}:∀{cts:List CT} {fs:List Bool} {j:Nat} {m:Mem} {G:GS} {gs:List Value} {N E:List Nat} (_:BL base U w m G) (_:∀r,r∈G.out→∃c,get r m=some c)
  (_:(N++E).Perm G.E) (_:iI (dR w) (Gh U w G) (row.drop j) gs N) (_:row.length=j+cts.length) (_:gs.length=cts.length) {vs:List V} {m':Mem} {l l':Log}
  (_:(Vw own r dst row j cts fs).run m l=some (vs,m',l')),∃G',Grew base U w m G m' G' E∧dO G'.μ m' (Gh U w G') vs gs
 |[],fs,j,m,G,gs,N,E,hg,ho,hE,hq,hlen,hgl,vs,m',l,l',h=>by
  simp only[Vw,run_pure,Option.some.injEq,Prod.mk.injEq] at h
  obtain⟨rfl,rfl,rfl⟩:=h
  rw[List.drop_eq_nil_of_le (by simp at hlen;omega)] at hq
  simp only[iI] at hq
  subst hq
  simp at hgl
  subst hgl
  obtain⟨d1,d2,_⟩:=hg.aaN hE
  exact⟨_,⟨d1,d2,rfl,rfl,fun _ _ h=>h,fun _ _ _=>rfl⟩,by simp[dO]⟩
 |ct::cts,fs,j,m,G,gs,N,E,hg,ho,hE,hq,hlen,hgl,vs,m',l,l',h=>by
  cases hd:row.drop j with
  |nil=>
   have:=congrArg List.length hd
   simp at this hlen
   omega
  |cons x rest=>
   obtain⟨hx,hrest⟩:=afW hd
   rw[hd] at hq
   obtain⟨g,gs',N1,N2,rfl,rfl,q1,q2⟩:=Gj hq
   simp only[Vw] at h
   replace h:=aj h;obtain⟨v,m1,l1,h1,h⟩:=h
   replace h:=aj h;obtain⟨vs',m2,l2,h2,h⟩:=h
   simp only[run_pure,Option.some.injEq,Prod.mk.injEq] at h
   obtain⟨rfl,rfl,rfl⟩:=h
   obtain⟨G1,t1,s1⟩:=Yv hg ho (Xy hE) hx q1 h1
   obtain⟨G2,t2,s2⟩:=aaO t1.ok (fun k hk=>by
    rw[t1.out] at hk
    obtain⟨c,hc⟩:=ho k hk
    exact⟨c,t1.old k c hc⟩) (by rw[t1.E]) (by rw[hrest];exact PD t1.le.view q2) (by simp at hlen;omega) (by simpa using hgl) h2
   refine⟨G2,t1.trans t2, ?_⟩
   simp only[dO]
   exact⟨g,gs',rfl,t2.le.bJ s1,s2⟩
theorem Yw{Zd:List Nat}{dst ri:Nat}{row:Row}:∀{cts:List CT} {fs:List Bool} {j:Nat} {m:Mem} {G:GS} {gs:List Value} {N E:List Nat} (_:BL base U w m G) (_:∀r,r∈G.out→∃c,get r m=some c)
  (_:(N++E).Perm G.E) (_:iI (dR w) (Gh U w G) (row.drop j) gs N) (_:row.length=j+cts.length) (_:gs.length=cts.length) {vs:List V} {m':Mem} {l l':Log}
  (_:(QH Zd dst ri row j cts fs).run m l=some (vs,m',l')),∃G',Grew base U w m G m' G' E∧dO G'.μ m' (Gh U w G') vs gs
 |[],fs,j,m,G,gs,N,E,hg,ho,hE,hq,hlen,hgl,vs,m',l,l',h=>by
  simp only[QH,run_pure,Option.some.injEq,Prod.mk.injEq] at h
  obtain⟨rfl,rfl,rfl⟩:=h
  rw[List.drop_eq_nil_of_le (by simp at hlen;omega)] at hq
  simp only[iI] at hq
  subst hq
  simp at hgl
  subst hgl
  obtain⟨d1,d2,_⟩:=hg.aaN hE
  exact⟨_,⟨d1,d2,rfl,rfl,fun _ _ h=>h,fun _ _ _=>rfl⟩,by simp[dO]⟩
 |ct::cts,fs,j,m,G,gs,N,E,hg,ho,hE,hq,hlen,hgl,vs,m',l,l',h=>by
  cases hd:row.drop j with
  |nil=>
   have:=congrArg List.length hd
   simp at this hlen
   omega
  |cons x rest=>
   obtain⟨hx,hrest⟩:=afW hd
   rw[hd] at hq
   obtain⟨g,gs',N1,N2,rfl,rfl,q1,q2⟩:=Gj hq
   simp only[QH] at h
   replace h:=aj h;obtain⟨v,m1,l1,h1,h⟩:=h
   replace h:=aj h;obtain⟨vs',m2,l2,h2,h⟩:=h
   simp only[run_pure,Option.some.injEq,Prod.mk.injEq] at h
   obtain⟨rfl,rfl,rfl⟩:=h
   obtain⟨G1,t1,s1⟩:=Yv hg ho (Xy hE) hx q1 h1
   obtain⟨G2,t2,s2⟩:=Yw t1.ok (fun k hk=>by
    rw[t1.out] at hk
    obtain⟨c,hc⟩:=ho k hk
    exact⟨c,t1.old k c hc⟩) (by rw[t1.E]) (by rw[hrest];exact PD t1.le.view q2) (by simp at hlen;omega) (by simpa using hgl) h2
   refine⟨G2,t1.trans t2, ?_⟩
   simp only[dO]
   exact⟨g,gs',rfl,t2.le.bJ s1,s2⟩
def valOf(P:Program)(t:TypeId)(cs:List Value)(g:Value):Prop:=if Jk P t=true then g=.agg cs.toArray else cs=[g]
def NS(P:Program)(H:Heap)(h:View):List TypeId→List Row→List Value→List Nat→Prop
 |[],rows,gs,N=>rows=[]∧gs=[]∧N=[]
 |t::ts,rows,gs,N=>∃row rows' g gs' cs N1 N2,rows=row::rows'∧gs=g::gs'∧N=N1++N2∧valOf P t cs g∧iI H h row cs N1∧row.length=cs.length∧NS P H h ts rows' gs' N2
theorem MJ{P:Program}{H H':Heap}{h h':View}(hl:h.le h'):∀{ts:List TypeId} {rows:List Row} {gs:List Value} {N:List Nat},(∀b,b∈N→H' b=H b)→NS P H h ts rows gs N→NS P H' h' ts rows gs N
 |[],_,_,_,_,q=>q
 |t::ts,_,_,_,hb,⟨row,rows',g,gs',cs,N1,N2,e1,e2,e3,h1,h2,h3,h4⟩=>by
  subst e3
  exact⟨row,rows',g,gs',cs,N1,N2,e1,e2,rfl,h1,Gg hl _ _ _ (fun b hx=>hb b (by simp[hx])) h2,h3,MJ hl (fun b hx=>hb b (by simp[hx])) h4⟩
theorem Ju{P:Program}{t:TypeId}{vs:List V}{v:V}(h:JO P t vs=some v){μ:Nat→Value}{hh:View}{cs:List Value}{g:Value}(hq:dO μ m hh vs cs)(hg:valOf P t cs g):bJ μ m hh v g:=by
 unfold JO at h
 unfold valOf at hg
 cases ha:Jk P t with
 |true=>
  simp only[ha,cond_true,if_true,Option.some.injEq] at h hg
  subst h
  simp only[bJ]
  exact⟨_,hg,by simpa using hq⟩
 |false=>
  simp only[ha,cond_false,Bool.false_eq_true,if_false] at h hg
  split at h
  ·cases h
   obtain⟨g',gs',e,q1,q2⟩:=oG hq
   rw[hg] at e
   cases e
   exact q1
  ·cases h
theorem ac2{res:List Row}{ri:Nat}{row:Row}{rows:List Row}(h:res.drop ri=row::rows):Vx res ri=row∧res.drop (ri+1)=rows:=by
 have h1:res[ri]? =some row:=by
  have:(res.drop ri)[0]? =some row:=by rw[h];rfl
  rwa [List.getElem?_drop,Nat.add_zero] at this
 refine⟨by simp[Vx,h1], ?_⟩
 rw[←List.drop_drop,h]
 rfl
theorem adG{X:Ctx}{Zd:List Nat}{dst:Nat}{res:List Row}:∀{ts:List TypeId} {ri:Nat} {m:Mem} {G:GS} {gs:List Value} {N E:List Nat} (_:BL base U w m G) (_:∀r,r∈G.out→∃c,get r m=some c)
  (_:(N++E).Perm G.E) (_:NS X.P (dR w) (Gh U w G) ts (res.drop ri) gs N) {vs:List V} {m':Mem} {l l':Log}
  (_:(Ut X Zd dst res ri ts).run m l=some (vs,m',l')),∃G',Grew base U w m G m' G' E∧dO G'.μ m' (Gh U w G') vs gs
 |[],ri,m,G,gs,N,E,hg,ho,hE,hq,vs,m',l,l',h=>by
  simp only[Ut,run_pure,Option.some.injEq,Prod.mk.injEq] at h
  obtain⟨rfl,rfl,rfl⟩:=h
  obtain⟨_,rfl,rfl⟩:=hq
  obtain⟨d1,d2,_⟩:=hg.aaN hE
  exact⟨_,⟨d1,d2,rfl,rfl,fun _ _ h=>h,fun _ _ _=>rfl⟩,by simp[dO]⟩
 |t::ts,ri,m,G,gs,N,E,hg,ho,hE,hq,vs,m',l,l',h=>by
  obtain⟨row,rows',g,gs',cs,N1,N2,e1,rfl,rfl,h1,h2,h3,h4⟩:=hq
  obtain⟨hrow,hrest⟩:=ac2 e1
  simp only[Ut] at h
  replace h:=aj h;obtain⟨_,m1,l1,k1,h⟩:=h
  obtain⟨hlen,rfl,rfl⟩:=eF k1
  replace h:=aj h;obtain⟨vc,m2,l2,k2,h⟩:=h
  replace h:=aj h;obtain⟨v,m3,l3,k3,h⟩:=h
  obtain⟨hv,rfl,rfl⟩:=gU k3
  replace h:=aj h;obtain⟨vs',m4,l4,k4,h⟩:=h
  simp only[run_pure,Option.some.injEq,Prod.mk.injEq] at h
  obtain⟨rfl,rfl,rfl⟩:=h
  have hlen:=Nat.eq_of_beq_eq_true hlen
  rw[hrow] at hlen k2
  obtain⟨G1,t1,s1⟩:=Yw hg ho (Xy hE) (by simpa using h2) (by simpa using hlen) (by rw[←h3];exact hlen) k2
  obtain⟨G2,t2,s2⟩:=adG t1.ok (fun k hk=>by
   rw[t1.out] at hk
   obtain⟨c,hc⟩:=ho k hk
   exact⟨c,t1.old k c hc⟩) (by rw[t1.E]) (by rw[hrest];exact MJ t1.le.view (fun _ _=>rfl) h4) k4
  refine⟨G2,t1.trans t2, ?_⟩
  simp only[dO]
  exact⟨g,gs',rfl,t2.le.bJ (Ju hv s1 h1),s2⟩
mutual
theorem amY{H:Heap}{h h':View}:∀(x:D) (v:Value) (N:List Nat),x.pure=true→ow H h x v N→ow H h' x v N
 | .int _ _,_,_,_,q=>by simpa[ow] using q
 | .bool _,_,_,_,q=>by simpa[ow] using q
 | .str _,_,_,_,q=>by simpa[ow] using q
 | .MG,_,_,_,q=>by simpa[ow] using q
 | .sl false s rows,v,N,hp,q=>by
  simp only[D.pure,List.isEmpty_iff] at hp
  subst hp
  simp only[ow,ro] at q⊢
  exact⟨q.1,by obtain⟨a,cap,h1,h2,_⟩:=q.2;exact⟨a,cap,h1,h2,fun e=>absurd rfl e⟩⟩
 | .sl true s rows,v,N,hp,q=>by
  simp only[D.pure] at hp
  simp only[ow] at q⊢
  rcases q with q|⟨b,cap,cs,t,N',h1,h2,h3,h4,h5,rfl⟩
  ·exact .inl q
  ·exact .inr ⟨b,cap,cs,t,N',h1,h2,h3,h4,Yx s rows _ N' hp h5,rfl⟩
theorem Yx{H:Heap}{h h':View}(s:Nat):∀(rows:List Row) (cs:List Value) (N:List Nat),AQ rows=true→fO H h s rows cs N→fO H h' s rows cs N
 |[],_,_,_,q=>by simpa[fO] using q
 |r::rs,cs,N,hp,q=>by
  simp only[AQ,Bool.and_eq_true] at hp
  simp only[fO] at q⊢
  obtain⟨h1,N1,N2,rfl,h2,h3⟩:=q
  exact⟨h1,N1,N2,rfl,UC r _ N1 hp.1 h2,Yx s rs _ N2 hp.2 h3⟩
theorem UC{H:Heap}{h h':View}:∀(r:Row) (cs:List Value) (N:List Nat),dM r=true→iI H h r cs N→iI H h' r cs N
 |[],_,_,_,q=>by simpa[iI] using q
 |x::r,cs,N,hp,q=>by
  simp only[dM,Bool.and_eq_true] at hp
  simp only[iI] at q⊢
  obtain⟨v,cs',N1,N2,rfl,rfl,h2,h3⟩:=q
  exact⟨v,cs',N1,N2,rfl,rfl,amY x v N1 hp.1 h2,UC r cs' N2 hp.2 h3⟩
end
theorem aaP{P:Program}{H:Heap}{h h':View}:∀{ts:List TypeId} {rows:List Row} {gs:List Value} {N:List Nat},rows.all dM=true→NS P H h ts rows gs N→NS P H h' ts rows gs N
 |[],_,_,_,_,q=>q
 |t::ts,_,_,_,hp,⟨row,rows',g,gs',cs,N1,N2,e1,e2,e3,h1,h2,h3,h4⟩=>by
  subst e1
  simp only[List.all_cons,Bool.and_eq_true] at hp
  exact⟨row,rows',g,gs',cs,N1,N2,rfl,e2,e3,h1,UC _ _ _ hp.1 h2,h3,aaP hp.2 h4⟩
end
end Go.Vm
namespace Go.Vm
open Go
section
variable {base:Nat} {U:Nat→Prop} {w w':World} {m:Mem} {G:GS}
theorem drop_cons{α:Type}{l:List α}{i:Nat}{a:α}{r:List α}(h:l.drop i=a::r):l[i]? =some a∧l.drop (i+1)=r:=by
 refine⟨?_,by rw[←List.drop_drop,h];rfl⟩
 have:(l.drop i)[0]? =some a:=by rw[h];rfl
 rwa [List.getElem?_drop,Nat.add_zero] at this
theorem avD(xs:List D):(xs.map V.d).map vD=xs:=by
 induction xs with
 |nil=>rfl
 |cons x xs ih=>simp[vD,ih]
theorem aaQ{m m':Mem}(h:∀k c,get k m=some c→get k m'=some c):∀{rs:List Nat} {cs:List Cell},kinds m rs cs→kinds m' rs cs
 |[],_,q=>q
 |r::rs,_,⟨c,c',cs',h1,h2,h3,h4⟩=>⟨c,c',cs',h1,h r c h2,h3,aaQ h h4⟩
theorem Xz{m:Mem}{r:Nat}{c0:Cell}:∀{rs:List Nat} {cs:List Cell},r ∉ rs→kinds m rs cs→kinds (put r c0 m) rs cs
 |[],_,_,q=>q
 |k::rs,_,hr,⟨c,c',cs',h1,h2,h3,h4⟩=>by
  simp only[List.mem_cons,not_or] at hr
  exact⟨c,c',cs',h1,by rw[kN (Ne.symm hr.1)];exact h2,h3,Xz hr.2 h4⟩
structure Came(base:Nat)(U:Nat→Prop)(w:World)(m:Mem)(G:GS)(m':Mem)(G':GS)(E:List Nat):Prop where
 ok:BL base U w m' G'
 le:QM m G m' G'
 E:G'.E=E
 out:G'.out=[]
theorem GN{H:Heap}{h h':View}(hl:h.le h'){cs:List Cell}{gs:List Value}{N:List Nat}(q:cellsB H h cs gs N):cellsB H h' cs gs N:=Yq hl (fun _ _=>rfl) q
theorem VL{X:Ctx}{dst:Nat}{outs:List Cell}:∀{rs:List Nat} {i:Nat} {m:Mem} {G:GS} {N E:List Nat} (_:BL base U w m G) (_:rs.Nodup) (_:G.out=rs) (_:kinds m rs (outs.drop i))
  (_:(N++E).Perm G.E) (_:cellsB (dR w) (Gh U w G) (outs.drop i) (rs.map G.μ) N) {x:Unit} {m':Mem} {l l':Log} (_:(Yl X dst outs i rs).run m l=some (x,m',l')),
  ∃G',Came base U w m G m' G' E
 |[],i,m,G,N,E,hg,hn,ho,hk,hE,hq,x,m',l,l',h=>by
  simp only[Yl,run_pure,Option.some.injEq,Prod.mk.injEq] at h
  obtain⟨_,rfl,rfl⟩:=h
  obtain⟨d1,d2,_⟩:=hg.aaN hE
  exact⟨_,d1,d2,rfl,ho⟩
 |r::rs,i,m,G,N,E,hg,hn,ho,hk,hE,hq,x,m',l,l',h=>by
  obtain⟨c,c',cs',e1,hc,hsk,hk'⟩:=hk
  have hnr:=List.nodup_cons.1 hn
  obtain⟨hi,hdrop⟩:=drop_cons e1
  rw[e1] at hq
  obtain⟨g,gs',N1,N2,eg,rfl,q1,q2⟩:=hq
  simp only[List.map_cons,List.cons.injEq] at eg
  obtain⟨rfl,rfl⟩:=eg
  have hout:∀k,k∈G.out→∃c,get k m=some c:=by
   intro k hkm
   rw[ho] at hkm
   simp only[List.mem_cons] at hkm
   rcases hkm with rfl|hkm
   ·exact⟨c,hc⟩
   ·obtain⟨j,hj⟩:=List.getElem?_of_mem hkm
    obtain⟨c2,_,h2,_⟩:=VH hk' hj
    exact⟨c2,h2⟩
  simp only[Yl] at h
  replace h:=aj h;obtain⟨c0,m1,l1,h1,h⟩:=h
  rw[uO] at h1
  cases h1
  rw[hc] at h
  cases c with
  |dead=>exact hsk.elim
  |DJ _ _ _=>exact hsk.elim
  |box t cs=>
   cases c' with
   |dead=>exact hsk.elim
   |DJ _ _ _=>exact hsk.elim
   |arr _ _ _ _ _=>exact hsk.elim
   |box t' vs=>
    obtain rfl:t=t':=hsk
    obtain⟨b,a,xs,N',hμ,hH,hvs,hxl,hrow,rfl⟩:=q1
    simp only at h
    replace h:=aj h;obtain⟨_,m2,l2,h2,h⟩:=h
    obtain⟨hbl,rfl,rfl⟩:=eF h2
    replace h:=aj h;obtain⟨vs',m3,l3,h3,h⟩:=h
    replace h:=aj h;obtain⟨_,m4,l4,h4,h⟩:=h
    rw[CZ] at h4
    cases h4
    have hbx:aph outs i=xs:=by simp only[aph,hi,hvs];exact avD xs
    have hbl:xs.length=(KI X.P t).length:=by
     simp only[apk,hi] at hbl
     have:=Nat.eq_of_beq_eq_true hbl
     rw[hvs,List.length_map] at this
     exact this
    rw[hbx] at h3
    obtain⟨G1,t1,s1⟩:=aaO hg hout (N:=N') (E:=b::(N2++E)) (List.Perm.trans (by
     have:(N'++b::(N2++E)).Perm (b::(N'++(N2++E))):=List.perm_middle
     refine this.trans ?_
     simp[List.append_assoc]) hE) (by simpa using hrow) (by simpa using hbl) (by rw[←hxl];exact hbl) h3
    have hc1:=t1.old r _ hc
    have atd:=t1.ok.ndE
    rw[t1.E] at atd
    have hset:=t1.ok.set r (.box t vs') G1.μ [b] (N2++E) rs (by simpa using atd) (fun k hk=> .inr (by rw[t1.E];simpa using hk))
     (GK (fun _ _=>rfl) (fun c h=>by rw[hc1] at h;cases h;exact⟨rfl,rfl⟩)) (fun _ _=>rfl)
     (fun k hne=>by rw[t1.out,ho];simp[hne]) (fun hr=>absurd hr hnr.1)
     (fun hv _=>⟨b,a,by rw[t1.μ r _ hc];exact hμ,hH,qw (GK (fun _ _=>rfl) (fun c h=>by rw[hc1] at h;cases h;exact⟨rfl,rfl⟩)) hv _ _ s1,rfl⟩)
    obtain⟨k1,k2⟩:=hset
    obtain⟨G2,f1,f2,f3,f4⟩:=VL k1 hnr.2 rfl (Xz hnr.1 (aaQ t1.old (by rw[hdrop];exact hk'))) (N:=N2) (E:=E) (List.Perm.refl _)
     (by
      rw[hdrop]
      have hmap:rs.map G1.μ=rs.map G.μ:=List.map_congr_left fun k hk=>by
       obtain⟨c2,h2⟩:=hout k (by rw[ho];simp[hk])
       exact t1.μ k c2 h2
      simp only[hmap]
      exact GN (t1.le.view.trans' k2.view) q2) h
    exact⟨G2,f1,(t1.le.trans k2).trans f2,f3,f4⟩
  |arr fz fl ver s rows=>
   cases c' with
   |dead=>exact hsk.elim
   |DJ _ _ _=>exact hsk.elim
   |box _ _=>exact hsk.elim
   |arr fz' fl' iU s' rows'=>
    obtain⟨rfl,rfl,rfl,rfl⟩:=hsk
    obtain⟨rfl,_,hrow⟩:=q1
    simp only at h
    replace h:=aj h;obtain⟨amZ,m2,l2,h2,h⟩:=h
    obtain⟨har,rfl,rfl⟩:=gU h2
    replace h:=aj h;obtain⟨_,m4,l4,h4,h⟩:=h
    rw[CZ] at h4
    cases h4
    have hrr:amZ=rows':=by
     simp[apj,hi] at har
     exact har.symm
    subst hrr
    have atd:=hE.nodup_iff.2 hg.ndE
    have hset:=hg.set r (.arr false fl 0 s amZ) G.μ N1 (N2++E) rs (by rwa [List.append_assoc] at atd) (fun k hk=> .inr (hE.mem_iff.1 (by rw[List.append_assoc];exact hk)))
     (GK (fun _ _=>rfl) (fun c h=>by rw[hc] at h;cases h;exact⟨Nat.le_refl _,rfl,fun _=>⟨rfl,rfl⟩⟩)) (fun _ _=>rfl)
     (fun k hne=>by rw[ho];simp[hne]) (fun hr=>absurd hr hnr.1)
     (fun hv _=>GI hv (fun _ _=>rfl) hrow)
    obtain⟨k1,k2⟩:=hset
    obtain⟨G2,f1,f2,f3,f4⟩:=VL k1 hnr.2 rfl (Xz hnr.1 (by rw[hdrop];exact hk')) (N:=N2) (E:=E) (List.Perm.refl _)
     (by rw[hdrop];exact GN k2.view q2) h
    exact⟨G2,f1,k2.trans f2,f3,f4⟩
theorem apu{h:View}(s:List UInt8):∀(cs:List Value),cs=s.map (fun b=>Value.int .u8 b.toNat)→fQ h 1 (s.map byteRow) cs:=by
 induction s with
 |nil=>intro cs _;simp[fQ]
 |cons b s ih=>
  intro cs e
  subst e
  simp only[List.map_cons,fQ,byteRow]
  exact⟨rfl,by simp[jc,ro],ih _ rfl⟩
end
end Go.Vm
namespace Go.Vm
open Go
theorem Ho(b o j:Nat):(⟨b,o,none⟩:Addr).add j=⟨b,o+j,none⟩:=by
 unfold Addr.add
 split
 ·rename_i h;subst h;rfl
 ·rfl
theorem yL{P:Program}{t:TypeId}(h:ED P t=true):∃d,P.underlying t=some d:=by
 unfold ED at h
 cases hu:P.underlying t with
 |none=>simp[hu] at h
 |some d=>exact⟨d,rfl⟩
theorem uF{P:Program}{t:TypeId}{d:TypeDesc}(h:P.underlying t=some d):∃i,P.info? t=some i:=by
 unfold Program.underlying at h
 cases hi:P.info? t with
 |none=>simp[hi] at h
 |some i=>exact⟨i,rfl⟩
theorem EI{P:Program}{t:TypeId}{i:TypeInfo}(h:P.info? t=some i):lC P t=i.size:=by simp[lC,h]
section
variable {P:Program} {w:World}
theorem OH{t:TypeId}{d:TypeDesc}(h:P.underlying t=some d)(w:World):(isAgg t).run P w=.ok (Jk P t) w:=by
 unfold isAgg Jk
 rw[Sem.run_bind,run_underlying h w,h]
 cases d<;>rfl
theorem Jv{t:TypeId}{b off:Nat}{cs:List Value}{g:Value}(hok:ED P t=true)(hlen:cs.length=lC P t)(hc:∀j v,cs[j]? =some v→w.cell? ⟨b,off+j,none⟩=some v)(hg:valOf P t cs g):
  (Instr.loadAt t (.pointer (some ⟨b,off,none⟩))).run P w=.ok g w:=by
 obtain⟨d,hd⟩:=yL hok
 obtain⟨i,hi⟩:=uF hd
 have hsz:i.size=cs.length:=by rw[hlen,EI hi]
 unfold Instr.loadAt Instr.sureAddr
 simp only[Sem.run_bind,Sem.run_pure,Result.andThen_ok,loadVar,OH hd]
 unfold valOf at hg
 cases ha:Jk P t with
 |true=>
  simp only[ha,if_true] at hg
  subst hg
  have hl:=run_loadCells_list (P:=P) w ⟨b,off,none⟩ cs (fun j v hv=>by rw[Ho];exact hc j v hv)
  simp[sizeOf,typeInfo,hi,hsz,hl]
 |false=>
  simp only[ha,Bool.false_eq_true,if_false] at hg
  subst hg
  have:=hc 0 g rfl
  simp only[Nat.add_zero] at this
  simp[this]
theorem Yy{t T:TypeId}{b off:Nat}{cur:Array Value}{g:Value}(hok:ED P t=true)(hH:w.heap[b]? =some (.cells cur T (0,0)))(hlen:g.cells.size=lC P t)(hfit:off+g.cells.size≤cur.size)(h1:∀v∈g.cells.toList,v.oneCell'=true):
  (Instr.storeAt t (.pointer (some ⟨b,off,none⟩)) g).run P w=.ok () (w.setRow b (splice cur.toList off g.cells.toList).toArray):=by
 obtain⟨d,hd⟩:=yL hok
 obtain⟨i,hi⟩:=uF hd
 have hsz:g.cells.size=i.size:=by rw[hlen,EI hi]
 have hst:=run_storeCells_at P b off T g.cells.toList 0 cur w hH (by simpa using hfit) h1
 simp only[Nat.add_zero] at hst
 unfold Instr.storeAt Instr.sureAddr
 simp only[Sem.run_bind,Sem.run_pure,Result.andThen_ok,storeVar,sizeOf,typeInfo,run_program,hi]
 simp[hsz,hst,splice]
theorem QT{T:TypeId}{f b off o n:Nat}{t:TypeId}(hf:Py P T f=some (o,n,t))(hn:1≤n):
  (Instr.fieldAt T (.pointer (some ⟨b,off,none⟩)) f).run P w=.ok (.pointer (some ⟨b,off+o,none⟩)) w:=by
 unfold Py at hf
 cases hu:P.underlying T with
 |none=>simp[hu] at hf
 |some d=>
  rw[hu] at hf
  cases d with
  |struct fs=>
   simp only at hf
   cases hfd:fs[f]? with
   |none=>simp[hfd] at hf
   |some fd=>
    simp only[hfd,Option.some.injEq,Prod.mk.injEq] at hf
    obtain⟨rfl,rfl,rfl⟩:=hf
    cases hi:P.info? fd.type with
    |none=>simp[lC,hi] at hn
    |some i=>
     have hne:i.size≠0:=by rw[EI hi] at hn;omega
     unfold Instr.fieldAt
     simp[run_underlying hu,hfd,Instr.sureAddr,fieldPlace,sizeOf,typeInfo,hi,hne,Ho]
  |_=>simp at hf
theorem MK{t e:TypeId}(h:elT P t=some e):P.underlying t=some (.slice e):=by
 unfold elT at h
 cases hu:P.underlying t with
 |none=>simp[hu] at h
 |some d=>rw[hu] at h;cases d<;>simp at h;rw[h]
theorem run_indexAt{t e:TypeId}{k:IntKind}{i:Int}{b o n cap:Nat}(he:elT P t=some e){inf:TypeInfo}(hi:P.info? e=some inf)(h0:0≤i)(hn:i<n):
  (Instr.indexAt t (.slice (some ⟨b,o,none⟩) n cap) (.int k i)).run P w=.ok (.pointer (some ⟨b,o+i.toNat * inf.size,none⟩)) w:=by
 have hu:=MK he
 have hc:0≤i∧i<(n:Int):=⟨h0,hn⟩
 unfold Instr.indexAt
 simp[asIntOf,run_underlying hu,hc,sizeOf,typeInfo,hi,Ho]
structure Src(P:Program)(size:Nat)(w:World)(y:Value)(m:Nat)(news:List Value):Prop where
 len:(Builtin.lenOf y).run P w=.ok m w
 get:(Builtin.firstCells size m y).run P w=.ok news.toArray w
 lend:(Builtin.lenOf y).run P w.drew=.ok m w.drew
 avE:(Builtin.firstCells size m y).run P w.drew=.ok news.toArray w.drew
 n:news.length=m * size
 one:∀u∈news,u.oneCell'=true
theorem Src.slice{size:Nat}{a:Option Addr}{m c:Nat}{news:List Value}(hl:news.length=m * size)(h1:∀u∈news,u.oneCell'=true)
  (h:m≠0→∃b o,a=some ⟨b,o,none⟩∧∀j v,news[j]? =some v→w.cell? ⟨b,o+j,none⟩=some v):Src P size w (.slice a m c) m news:=by
 have key:∀w':World,(∀x,w'.cell? x=w.cell? x)→(Builtin.firstCells size m (.slice a m c)).run P w'=.ok news.toArray w':=by
  intro w' hw
  by_cases hm:m=0
  ·subst hm
   have:news=[]:=List.eq_nil_of_length_eq_zero (by simpa using hl)
   subst this
   cases a with
   |none=>simp[Builtin.firstCells]
   |some a=>simp[Builtin.firstCells,loadCells,loadCellsFrom]
  ·obtain⟨b,o,rfl,hc⟩:=h hm
   exact run_firstCells_some (P:=P) w' size m ⟨b,o,none⟩ m c news hl (fun j v hv=>by rw[Ho,hw];exact hc j v hv)
 exact⟨by simp[Builtin.lenOf],key w (fun _=>rfl),by simp[Builtin.lenOf],key w.drew (fun x=>rfl),hl,h1⟩
theorem Src.string{s:List UInt8}:Src P 1 w (.string ⟨⟨s⟩⟩) s.length (s.map fun b=>Value.int .u8 b.toNat):=by
 have hsz:(⟨⟨s⟩⟩:ByteArray).size=s.length:=rfl
 have hex:((⟨⟨s⟩⟩:ByteArray).extract 0 s.length)=⟨⟨s⟩⟩:=by
  rw[←hsz]
  apply ByteArray.ext
  simp[ByteArray.data_extract]
 have hm:(Array.map (fun b:UInt8=>Value.int .u8 (b.toNat:Int)) ⟨s⟩)=(s.map fun b=>Value.int .u8 (b.toNat:Int)).toArray:=by
  apply Array.ext'
  simp
 refine⟨by simp[Builtin.lenOf,hsz],by simp[Builtin.firstCells,hex,hm],by simp[Builtin.lenOf,hsz],by simp[Builtin.firstCells,hex,hm],by simp, ?_⟩
 intro u hu
 simp only[List.mem_map] at hu
 obtain⟨b,_,rfl⟩:=hu
 rfl
theorem Ld{t ty y e:TypeId}{inf:TypeInfo}{z gy:Value}{m:Nat}{news:List Value}(he:P.underlying t=some (.slice e))(hty:(∃e',P.underlying y=some (.slice e'))∨P.underlying y=some .string)
  (hi:P.info? e=some inf) (hz:inf.zero=some z) (hs:Src P inf.size w gy m news) (hm:m≠0) (h63:m≤140737488355328) (hb:m * inf.bytes≤140737488355328):
  ∃cap,m≤cap∧(Builtin.append_ #[t,y] ty #[.slice none 0 0,gy]).run P w=.ok (.slice (some ⟨w.heap.size,0,none⟩) m cap) (w.drew.alloc (.cells (news.toArray++Builtin.zeroCells z.cells (cap - m)) e)):=by
 have h63':¬(9223372036854775807<(m:Int)):=by omega
 have h48':¬(281474976710656<Builtin.nextslicecap m 0 * inf.bytes):=by rw[nextslicecap_zero (by omega)];omega
 refine⟨grownCap w m 0 e,grownCap_ge w m 0 e, ?_⟩
 rcases hty with⟨e',hd⟩|hd<;>simp[Builtin.append_,run_underlying he,run_underlying hd,sizeOf,typeInfo,zeroValue,hi,hz,hs.len,hm,h63',h48',Question.forced,run_firstCells_none,hs.avE,newRow,grownCap]
theorem Le{t ty y e:TypeId}{inf:TypeInfo}{gy:Value}{news:List Value}(he:P.underlying t=some (.slice e))(hty:(∃e',P.underlying y=some (.slice e'))∨P.underlying y=some .string)
  (hi:P.info? e=some inf) (hs:Src P inf.size w gy 0 news):
  (Builtin.append_ #[t,y] ty #[.slice none 0 0,gy]).run P w=.ok (.slice none 0 0) w:=by
 rcases hty with⟨e',hd⟩|hd<;>simp[Builtin.append_,run_underlying he,run_underlying hd,sizeOf,typeInfo,hi,hs.len,hs.get]
theorem run_append_fits{t ty y e T:TypeId}{inf:TypeInfo}{gy:Value}{b n m cap:Nat}{cur:Array Value}{news:List Value}(he:P.underlying t=some (.slice e))(hty:(∃e',P.underlying y=some (.slice e'))∨P.underlying y=some .string)
  (hi:P.info? e=some inf) (hs:Src P inf.size w gy m news) (hH:w.heap[b]? =some (.cells cur T (0,0))) (hroom:n+m≤cap) (hc:cur.size=cap * inf.size):
  (Builtin.append_ #[t,y] ty #[.slice (some ⟨b,0,none⟩) n cap,gy]).run P w=.ok (.slice (some ⟨b,0,none⟩) (n+m) cap) (w.setRow b (splice cur.toList (n * inf.size) news).toArray):=by
 have hfit:n * inf.size+0+news.length≤cur.size:=by
  rw[hs.n,hc,Nat.add_zero,←Nat.add_mul]
  exact Nat.mul_le_mul_right _ hroom
 have hst:=run_storeCells_at P b (n * inf.size) T news 0 cur w hH hfit hs.one
 simp only[Nat.add_zero] at hst
 rcases hty with⟨e',hd⟩|hd<;>simp[Builtin.append_,run_underlying he,run_underlying hd,sizeOf,typeInfo,hi,hs.len,hroom,hs.get,Ho,hst,splice]
theorem Ze{t ty y e:TypeId}{inf:TypeInfo}{z gy:Value}{b n m cap:Nat}{olds news:List Value}(he:P.underlying t=some (.slice e))(hty:(∃e',P.underlying y=some (.slice e'))∨P.underlying y=some .string)
  (hi:P.info? e=some inf) (hz:inf.zero=some z) (hs:Src P inf.size w gy m news) (hl:olds.length=n * inf.size) (ho:∀j v,olds[j]? =some v→w.cell? ⟨b,0+j,none⟩=some v) (hroom:cap<n+m) (h63:n+m≤140737488355328) (hb:(n+m) * inf.bytes≤140737488355328):
  ∃cap',n+m≤cap'∧(Builtin.append_ #[t,y] ty #[.slice (some ⟨b,0,none⟩) n cap,gy]).run P w=.ok (.slice (some ⟨w.heap.size,0,none⟩) (n+m) cap') (w.drew.alloc (.cells ((olds++news).toArray++Builtin.zeroCells z.cells (cap' - (n+m))) e)):=by
 have hn:¬(n+m≤cap):=by omega
 have h63':¬(9223372036854775807<((n:Int)+(m:Int))):=by omega
 have h48':¬(281474976710656<Builtin.nextslicecap (n+m) cap * inf.bytes):=by
  have:=growslice_fits hroom hb
  omega
 have hfo:=run_firstCells_some (P:=P) w.drew inf.size n ⟨b,0,none⟩ n cap olds hl (fun j v hv=>by rw[Ho];exact ho j v hv)
 refine⟨grownCap w (n+m) cap e,grownCap_ge w (n+m) cap e, ?_⟩
 rcases hty with⟨e',hd⟩|hd<;>simp[Builtin.append_,run_underlying he,run_underlying hd,sizeOf,typeInfo,zeroValue,hi,hz,hs.len,hn,h63',h48',Question.forced,hfo,hs.avE,newRow,grownCap]<;>
  (congr 2;apply Array.ext';simp[List.append_assoc])
theorem UD{t ty y e T:TypeId}{inf:TypeInfo}{gy:Value}{b o n m cap:Nat}{cur:Array Value}{news:List Value}(he:P.underlying t=some (.slice e))(hty:(∃e',P.underlying y=some (.slice e'))∨P.underlying y=some .string)
  (hi:P.info? e=some inf) (hs:Src P inf.size w gy m news) (hH:w.heap[b]? =some (.cells cur T (0,0))) (hroom:n+m≤cap) (hc:o+cap * inf.size≤cur.size):
  (Builtin.append_ #[t,y] ty #[.slice (some ⟨b,o,none⟩) n cap,gy]).run P w=.ok (.slice (some ⟨b,o,none⟩) (n+m) cap) (w.setRow b (splice cur.toList (o+n * inf.size) news).toArray):=by
 have hfit:(o+n * inf.size)+0+news.length≤cur.size:=by
  have:=Nat.mul_le_mul_right inf.size hroom
  rw[Nat.add_mul] at this
  rw[hs.n]
  omega
 have hst:=run_storeCells_at P b (o+n * inf.size) T news 0 cur w hH hfit hs.one
 simp only[Nat.add_zero] at hst
 rcases hty with⟨e',hd⟩|hd<;>simp[Builtin.append_,run_underlying he,run_underlying hd,sizeOf,typeInfo,hi,hs.len,hroom,hs.get,Ho,hst,splice]
theorem UE{t ty y e:TypeId}{inf:TypeInfo}{z gy:Value}{b o n m cap:Nat}{olds news:List Value}(he:P.underlying t=some (.slice e))(hty:(∃e',P.underlying y=some (.slice e'))∨P.underlying y=some .string)
  (hi:P.info? e=some inf) (hz:inf.zero=some z) (hs:Src P inf.size w gy m news) (hl:olds.length=n * inf.size) (ho:∀j v,olds[j]? =some v→w.cell? ⟨b,o+j,none⟩=some v) (hroom:cap<n+m) (h63:n+m≤140737488355328) (hb:(n+m) * inf.bytes≤140737488355328):
  ∃cap',n+m≤cap'∧(Builtin.append_ #[t,y] ty #[.slice (some ⟨b,o,none⟩) n cap,gy]).run P w=.ok (.slice (some ⟨w.heap.size,0,none⟩) (n+m) cap') (w.drew.alloc (.cells ((olds++news).toArray++Builtin.zeroCells z.cells (cap' - (n+m))) e)):=by
 have hn:¬(n+m≤cap):=by omega
 have h63':¬(9223372036854775807<((n:Int)+(m:Int))):=by omega
 have h48':¬(281474976710656<Builtin.nextslicecap (n+m) cap * inf.bytes):=by
  have:=growslice_fits hroom hb
  omega
 have hfo:=run_firstCells_some (P:=P) w.drew inf.size n ⟨b,o,none⟩ n cap olds hl (fun j v hv=>by rw[Ho];exact ho j v hv)
 refine⟨grownCap w (n+m) cap e,grownCap_ge w (n+m) cap e, ?_⟩
 rcases hty with⟨e',hd⟩|hd<;>simp[Builtin.append_,run_underlying he,run_underlying hd,sizeOf,typeInfo,zeroValue,hi,hz,hs.len,hn,h63',h48',Question.forced,hfo,hs.avE,newRow,grownCap]<;>
  (congr 2;apply Array.ext';simp[List.append_assoc])
end
end Go.Vm
