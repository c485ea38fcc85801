import Derived.Orders
import Derived.KernelRfl
import Derived.RowKit3
import Derived.Laws.Cells
import Derived.Laws.Rows
import Derived.Laws.OwnMore
import Derived.Below
import Derived.Laws.Append
import Derived.Laws.AppendOwn
import Derived.Laws.CopyRow
import Derived.Laws.Slices
import Derived.Laws.MakeOwn
import Derived.Laws.BytesString
set_option linter.defProp false
set_option linter.unusedVariables false
set_option linter.unusedSimpArgs false
namespace Go.Vm
def aC{p:Prop}(h:p:=by omega):p:=h
def aJ{α:Sort _}(a b:α):cond true a b=a:=cond_true ..
def aX{α:Sort _}(a b:α):cond false a b=b:=cond_false ..
def oL{α:Type _}(a b:α):(some a=some b)=(a=b):=Option.some.injEq ..
def uI{α:Type _}{β:Type _}(a:α)(b:β)(c:α)(d:β):((a,b)=(c,d))=(a=c/\b=d):=Prod.mk.injEq ..
def zdt{p:Prop}[Decidable p](h:p):decide p=true:=decide_eq_true h
def Ac{p:Prop}[Decidable p](h:¬p):decide p=false:=decide_eq_false h
def MB{n m:Nat}(h:Nat.beq n m=true):n=m:=Nat.eq_of_beq_eq_true h
def DJ{α:Type _}{a b:List α}:(a++b).length=a.length+b.length:=List.length_append ..
def UN{α:Type _}{i:Nat}{a:α}{l:List α}:l[i]? =some a↔∃h:i<l.length,l[i]=a:=List.getElem?_eq_some_iff ..
def Zr{α:Type _}{a:α}{s:List α}:(a::s).length=s.length+1:=List.length_cons ..
def XG{α:Type _}(a b c:List α):a++b++c=a++(b++c):=List.append_assoc ..
def Bd{α:Type _}{a:α}:[a].length=1:=List.length_singleton ..
def zln{α:Type _}:([]:List α).length=0:=List.length_nil ..
def zmg{α:Type _}{l:List α}{i:Nat}{a:α}(h:l[i]? =some a):a∈l:=List.mem_of_getElem? h
def PO(a b:Bool):((a&&b)=true)=(a=true/\b=true):=Bool.and_eq_true ..
def Ir{α:Type _}{β:Type _}(a:α)(f:α->β):Option.map f (some a)=some (f a):=Option.map_some ..
def zmc{α:Type _}{β:Type _}{f:α->β}{a:α}{l:List α}:List.map f (a::l)=f a::List.map f l:=List.map_cons ..
def ztn(n:Nat):((n:Int)).toNat=n:=Int.toNat_natCast ..
def zca{α:Type _}{a:α}{s t:List α}:a::s++t=a::(s++t):=List.cons_append ..
def zmm{α:Type _}(y:α){a:α}{l:List α}(h:a∈l):a∈y::l:=List.mem_cons_of_mem _ h
def zmf{α:Type _}{a:α}{l:List α}:a∈a::l:=List.mem_cons_self ..
def Y6{α:Type _}[BEq α][LawfulBEq α]{a b:α}:(a==b)=false↔a≠b:=beq_eq_false_iff_ne ..
def zlt{α:Type _}{i:Nat}{l:List α}:(l.take i).length=min i l.length:=List.length_take ..
end Go.Vm
namespace Go.Vm
open Go
inductive D where
 |int (k:IntKind) (n:Int)
 |bool (b:Bool)
 |str (s:List UInt8)
 |Zt
 |sl (own:Bool) (s:Nat) (rows:List (List D))
 deriving Inhabited
abbrev Row:=List D
abbrev aK:=List UInt8
abbrev ak:=List Row
inductive V where
 |d (x:D)
 |nil (s:Nat)
 |own (r ver:Nat)
 |ptr (r off:Nat)
 |MC (r ver i off:Nat)
 |IW (row:Row) (off:Nat)
 |clo (f:Nat) (first caps:List V)
 |agg (cs:List V)
 |ZH (vs:List V)
 |undef
 deriving Inhabited
inductive Cell where
 |box (t:TypeId) (cs:List V)
 |arr (fz fl:Bool) (ver s:Nat) (rows:List Row)
 |dead
 deriving Inhabited
abbrev Mem:=List (Nat×Cell)
abbrev oz:=List (Nat×V)
structure St where
 tm:oz
 mem:Mem
def get{α:Type}(k:Nat):List (Nat×α)->Option α
 |[]=>none
 |(j,x)::l=>bif Nat.beq k j then some x else get k l
def put{α:Type}(k:Nat)(x:α):List (Nat×α)->List (Nat×α)
 |[]=>[(k,x)]
 |(j,y)::l=>bif Nat.beq k j then(k,x)::l else bif Nat.blt k j then(k,x)::(j,y)::l else(j,y)::put k x l
def del{α:Type}(k:Nat):List (Nat×α)->List (Nat×α)
 |[]=>[]
 |(j,y)::l=>bif Nat.beq k j then del k l else(j,y)::del k l
def adU(t:Nat)(tm:oz):V:=match get t tm with|some v=>v|none=> .undef
def ak4(dst:Option Nat)(v:V)(tm:oz):oz:=match dst with|some t=>put t v tm|none=>tm
def aA4(dst:Option Nat)(tm:oz):oz:=match dst with|some t=>del t tm|none=>tm
inductive Acc(α:Type):Type 1 where
 |ret (a:α)
 |fail
 |get (k:Nat) (c:Option Cell->Acc α)
 |set (k:Nat) (x:Cell) (c:Acc α)
 |opt {β:Type} (o:Option β) (c:β->Acc α)
 |guard (b:Bool) (c:Acc α)
structure Log where
 r:List Nat
 w:List Nat
def Log.rd(l:Log)(k:Nat):Log:={l with r:=k::l.r}
def Log.wr(l:Log)(k:Nat):Log:={l with w:=k::l.w}
def Log.none:Log:=⟨[],[]⟩
def Acc.bind{α β:Type}:Acc α->(α->Acc β)->Acc β
 | .ret a,f=>f a
 | .fail,_=> .fail
 | .get k c,f=> .get k λx=>(c x).bind f
 | .set k x c,f=> .set k x (c.bind f)
 | .opt o c,f=> .opt o λb=>(c b).bind f
 | .guard b c,f=> .guard b (c.bind f)
def Acc.run{α:Type}:Acc α->Mem->Log->Option (α×Mem×Log)
 | .ret a,m,l=>some (a,m,l)
 | .fail,_,_=>none
 | .get k c,m,l=>(c (Vm.get k m)).run m (l.rd k)
 | .set k x c,m,l=>c.run (put k x m) (l.wr k)
 | .opt o c,m,l=>match o with|some b=>(c b).run m l|none=>none
 | .guard b c,m,l=>match b with|true=>c.run m l|false=>none
inductive CT where
 |int (k:IntKind)|bool|str|sl (s:Nat)|other
 deriving Inhabited
def ars(f:TypeId->Option (List CT)):List TypeId->Option (List CT)
 |[]=>some []
 |t::ts=>match f t,ars f ts with|some a,some b=>some (a++b)|_,_=>none
def cts(P:Program):Nat->TypeId->Option (List CT)
 |0,_=>none
 |n+1,t=>match P.underlying t with
  |some (.int k)=>some [.int k]
  |some .bool=>some [.bool]
  |some .string=>some [.str]
  |some (.slice e)=>match P.info? e with|some i=>some [.sl i.size]|none=>none
  |some (.struct fs)=>ars (cts P n) (fs.toList.map (·.type))
  |some (.array k e)=>ars (cts P n) (List.replicate k e)
  |some (.pointer _)|some (.func ..)=>some [.other]
  |_=>none
def UO(P:Program)(t:TypeId):List CT:=match cts P 8 t with|some l=>l|none=>[.other]
def UA(P:Program)(t:TypeId):Bool:=match P.underlying t with|some (.struct _)=>true|some (.array ..)=>true|_=>false
def yF(P:Program)(t:TypeId):Nat:=match P.info? t with|some i=>i.size|none=>0
def elT(P:Program)(t:TypeId):Option TypeId:=match P.underlying t with|some (.slice e)=>some e|_=>none
def anf:CT->Value->V
 |_,.bool b=> .d (.bool b)
 |_,.int k n=> .d (.int k n)
 |_,.string s=> .d (.str s.data.toList)
 |_,.nilFunc=> .d .Zt
 | .sl s,.slice none 0 0=> .nil s
 |_,_=> .undef
def U6:List CT->List Value->List V
 |c::cs,v::vs=>anf c v::U6 cs vs
 |[],_::vs=> .undef::U6 [] vs
 |_,[]=>[]
def cv(P:Program)(t:TypeId):Value->V
 | .agg cs=> .agg (U6 (UO P t) cs.toList)
 |v=>match UO P t with|c::_=>anf c v|[]=> .undef
def WA(P:Program)(t:TypeId):Option (List V):=
 match P.info? t with
 |some i=>match i.zero with
  |some z=>some (U6 (UO P t) z.cells.toList)
  |none=>none
 |none=>none
def V.cells:V->List V
 | .agg cs=>cs
 |v=>[v]
def U7(P:Program)(t:TypeId)(cs:List V):Option V:=
 bif UA P t then some (.agg cs) else match cs with|[v]=>some v|_=>none
def asInt(k:IntKind):D->Option Int
 | .int k' n=>bif decide (k'=k) then some n else none
 |_=>none
def asBool:D->Option Bool
 | .bool b=>some b
 |_=>none
def alL:D->Option (List UInt8)
 | .str s=>some s
 |_=>none
def awN(s:Nat):D->Option (List Row)
 | .sl _ s' rows=>bif Nat.beq s' s then some rows else none
 |_=>none
def aA5(s:Nat):D->Option (List Row)
 | .sl own s' rows=>bif Nat.beq s' s then(match own with|false=>some rows|true=>match rows with|[]=>some []|_::_=>none) else none
 |_=>none
def ate(s:Nat):D->Option (List Row)
 | .sl own s' rows=>match own with|true=>bif Nat.beq s' s then some rows else none|false=>none
 |_=>none
def nth(row:Row)(j:Nat):D:=match row[j]? with|some x=>x|none=> .Zt
def kP(k:IntKind)(row:Row)(j:Nat):Option Int:=asInt k (nth row j)
def alM(row:Row)(j:Nat):Option Bool:=asBool (nth row j)
def cStr(row:Row)(j:Nat):Option (List UInt8):=alL (nth row j)
def cSl(s:Nat)(row:Row)(j:Nat):Option (List Row):=awN s (nth row j)
def cRo(s:Nat)(row:Row)(j:Nat):Option (List Row):=aA5 s (nth row j)
def aoC(s:Nat)(row:Row)(j:Nat):Option (List Row):=ate s (nth row j)
mutual
def D.fz:D->D
 | .int k n=> .int k n
 | .bool b=> .bool b
 | .str s=> .str s
 | .Zt=> .Zt
 | .sl _ s rows=> .sl false s (au rows)
def au:List Row->List Row
 |[]=>[]
 |r::rs=>EK r::au rs
def EK:Row->Row
 |[]=>[]
 |x::r=>x.fz::EK r
end
def roD:D->D
 | .sl _ s rows=> .sl false s rows
 |x=>x
def D.flat:D->Bool
 | .sl ..=>false
 |_=>true
def ah(rows:List Row):Bool:=rows.all λr=>r.all D.flat
def one:V->Bool
 | .d _=>true
 | .nil _=>true
 | .own _ _=>true
 | .ptr _ _=>true
 | .MC ..=>true
 | .IW _ _=>true
 | .clo ..=>true
 |_=>false
mutual
def D.pure:D->Bool
 | .sl own _ rows=>match own with|true=>Ub rows|false=>rows.isEmpty
 |_=>true
def Ub:List Row->Bool
 |[]=>true
 |r::rs=>xw r && Ub rs
def xw:Row->Bool
 |[]=>true
 |x::r=>x.pure && xw r
end
def RG(strict:Bool):List CT->Row->Nat->(List V->Acc V)->Acc V
 |[],_,_,c=>c []
 | .int k::ts,row,j,c=> .opt (kP k row j) λn=>RG strict ts row (j+1) λvs=>c (.d (.int k n)::vs)
 | .bool::ts,row,j,c=> .opt (alM row j) λn=>RG strict ts row (j+1) λvs=>c (.d (.bool n)::vs)
 | .str::ts,row,j,c=> .opt (cStr row j) λn=>RG strict ts row (j+1) λvs=>c (.d (.str n)::vs)
 | .sl s::ts,row,j,c=> .opt (bif strict then cRo s row j else cSl s row j) λrs=>RG strict ts row (j+1) λvs=>c (.d (.sl false s rs)::vs)
 | .other::_,_,_,_=> .fail
structure Adv where
 keep:Nat->Nat->List Nat
 move:Nat->List Nat
 att:Nat->Nat->List Nat
 aHt:Nat->List Nat
 trunc:Nat->Nat->Bool
structure Ctx where
 P:Program
 U8:Adv
 adV:Nat->Option (List V->List Cell->Option (List Row×List Cell))
 glob:Nat->Option Row
 aRO:Nat->Bool
abbrev nC:=Nat->List V->List Cell->Option (List Row×List Cell)
def mem?(k:Nat):List Nat->Bool
 |[]=>false
 |j::l=>bif Nat.beq k j then true else mem? k l
def aDH:List CT->Bool
 |[]=>false
 | .sl _::_=>true
 |_::l=>aDH l
def KX(P:Program)(e:TypeId):Bool:= !(aDH (UO P e))
def vw(fl:Bool)(rows:List Row):List Row:=bif fl then rows else au rows
instance:Monad Acc where
 pure:=.ret
 bind:=.bind
def rd(k:Nat):Acc (Option Cell):=.get k .ret
def wr(k:Nat)(x:Cell):Acc Unit:=.set k x (.ret ())
def ck(b:Bool):Acc Unit:=.guard b (.ret ())
def op'{β:Type}(o:Option β):Acc β:=.opt o .ret
def free(k:Nat):Acc Unit:=do
 match<-rd k with
 |none=>pure ()
 |some _=> .fail
def new(k:Nat)(c:Cell):Acc Unit:=do
 free k
 wr k c
def seen(v:V):Acc (Nat×List Row):=
 match v with
 | .d (.sl _ s rows)=>pure (s,rows)
 | .nil s=>pure (s,[])
 | .own r ver=>do
  match<-rd r with
  |some (.arr _ fl wZ s rows)=>do ck (Nat.beq ver wZ);pure (s,vw fl rows)
  |_=> .fail
 |_=> .fail
def atf(fl:Bool)(rows:List Row):Bool:=bif fl then ah rows else true
def toD(v:V):Acc D:=
 match v with
 | .d x=>pure (roD x)
 | .nil s=>pure (.sl true s [])
 | .own r ver=>do
  match<-rd r with
  |some (.arr fz fl wZ s rows)=>do
   ck (Nat.beq ver wZ)
   match fz with
   |true=>pure (.sl false s (vw fl rows))
   |false=>do
    ck (atf fl rows)
    wr r .dead
    pure (.sl true s rows)
  |_=> .fail
 |_=> .fail
def Y7:List V->Acc Row
 |[]=>pure []
 |v::vs=>do
  let x<-toD v
  let xs<-Y7 vs
  pure (x::xs)
def splice{α:Type}(l:List α)(off:Nat)(xs:List α):List α:=l.take off++xs++l.drop (off+xs.length)
def part{α:Type}(l:List α)(off n:Nat):List α:=(l.drop off).take n
def idx{α:Type}(l:List α)(i:Int):Option α:=bif decide (0<=i) then l[i.toNat]? else none
def cut{α:Type}(l:List α)(a b:Int):Option (List α):=
 bif decide (0<=a) && decide (a<=b) && decide (b<=l.length) then some ((l.drop a.toNat).take (b.toNat - a.toNat)) else none
def ev(P:Program)(tm:oz)(t:TypeId):Operand->V
 | .tmp i=>adU i tm
 | .const v=>cv P t v
 | .func f=> .clo f [] []
 | .global _=> .undef
def evG(X:Ctx)(tm:oz)(t:TypeId)(x:Operand):V:=match x with
 | .global g=>match X.glob g with
  |some row=> .IW row 0
  |none=> .undef
 |x=>ev X.P tm t x
def awO(op:BinOp)(k:IntKind)(a b:Int):Option V:=
 match op with
 | .add=>some (.d (.int k (k.wrap (a+b))))
 | .sub=>some (.d (.int k (k.wrap (a - b))))
 | .mul=>some (.d (.int k (k.wrap (a * b))))
 | .quo=>bif decide (b=0) then none else some (.d (.int k (k.wrap (a.tdiv b))))
 | .rem=>bif decide (b=0) then none else some (.d (.int k (a.tmod b)))
 | .eql=>some (.d (.bool (a==b)))
 | .neq=>some (.d (.bool (a !=b)))
 | .lss=>some (.d (.bool (decide (a<b))))
 | .leq=>some (.d (.bool (decide (a<=b))))
 | .gtr=>some (.d (.bool (decide (a>b))))
 | .geq=>some (.d (.bool (decide (a>=b))))
 | .and=>some (.d (.int k (k.wrap (BitVec.ofInt k.bits a &&& BitVec.ofInt k.bits b).toNat)))
 | .or=>some (.d (.int k (k.wrap (BitVec.ofInt k.bits a|||BitVec.ofInt k.bits b).toNat)))
 | .xor=>some (.d (.int k (k.wrap (BitVec.ofInt k.bits a ^^^ BitVec.ofInt k.bits b).toNat)))
 |_=>none
def aeU(op:BinOp)(k:IntKind)(a b:Int):Option V:=
 bif decide (b<0) then none else
 match op with
 | .shl=>some (.d (.int k (k.wrap (a * 2 ^(min b.toNat k.bits)))))
 | .shr=>some (.d (.int k (a.fdiv (2 ^(min b.toNat k.bits)))))
 |_=>none
def aru:Nat:=9223372036854775807
def aEH(op:BinOp)(a b:List UInt8):Acc V:=
 match op with
 | .add=> .guard (Nat.ble (a.length+b.length) aru) (.ret (.d (.str (a++b))))
 | .eql=> .ret (.d (.bool (a==b)))
 | .neq=> .ret (.d (.bool !(a==b)))
 | .lss=> .ret (.d (.bool (Op.bytesLess a b)))
 | .leq=> .ret (.d (.bool (Op.bytesLess a b||a==b)))
 | .gtr=> .ret (.d (.bool !(Op.bytesLess a b||a==b)))
 | .geq=> .ret (.d (.bool !(Op.bytesLess a b)))
 |_=> .fail
def aHu(op:BinOp)(a b:Bool):Option V:=
 match op with
 | .eql=>some (.d (.bool (a==b)))
 | .neq=>some (.d (.bool !(a==b)))
 |_=>none
def shiftOp:BinOp->Bool
 | .shl| .shr=>true
 |_=>false
def boolT(P:Program)(t:TypeId):Bool:=match P.underlying t with|some .bool=>true|_=>false
def bin(bt:Bool)(op:BinOp)(x y:V):Acc V:=
 match x,y with
 | .d (.int k a),.d (.int k' b)=>
  match shiftOp op with
  |true=> .opt (aeU op k a b) .ret
  |false=>match decide (k=k') with
   |true=> .opt (awO op k a b) .ret
   |false=> .fail
 | .d (.str a),.d (.str b)=>aEH op a b
 | .d (.bool a),.d (.bool b)=>match bt with
  |true=> .opt (aHu op a b) .ret
  |false=> .fail
 |_,_=> .fail
def arv:V->V->Option Bool
 | .d (.int k a),.d (.int k' b)=>bif decide (k=k') then some (a==b) else none
 | .d (.str a),.d (.str b)=>some (a==b)
 | .d (.bool a),.d (.bool b)=>some (a==b)
 |_,_=>none
def afX(P:Program)(t:TypeId)(v:V):Bool:=match P.underlying t,v with
 |some (.int _),.d (.int _ _)=>true
 |some .string,.d (.str _)=>true
 |some .bool,.d (.bool _)=>true
 |_,_=>false
def aiv(P:Program):List Field->List V->List V->Option Bool
 |[],_,_=>some true
 |f::fs,xs,ys=>match xs[f.offset]?,ys[f.offset]? with
  | some x, some y => bif afX P f.type x && (f.name != "_") then
    (match arv x y,aiv P fs xs ys with
    |some a,some b=>some (bif a then b else false)
    |_,_=>none) else none
  |_,_=>none
def aHv(P:Program)(t:TypeId)(op:BinOp)(cs ds:List V):Acc V:=do
 ck (!(P.stoodInHeld t) && !(P.eqGuardType P.depth t))
 let fs<-op' (match P.underlying t with|some (.struct fs)=>some fs.toList|_=>none)
 let r<-op' (aiv P fs cs ds)
 match op with
 | .eql=>pure (.d (.bool r))
 | .neq=>pure (.d (.bool !r))
 |_=> .fail
def arw(x:V):Acc Bool:=
 match x with
 | .nil _=>pure true
 | .d (.sl _ _ rows)=>do ck (Nat.ble 1 rows.length);pure false
 | .own r ver=>do
  match<-rd r with
  |some (.arr _ _ wZ _ rows)=>do ck (Nat.beq ver wZ && Nat.ble 1 rows.length);pure false
  |_=> .fail
 |_=> .fail
def sliceT(P:Program)(t:TypeId):Bool:=match P.underlying t with|some (.slice _)=>true|_=>false
def arx(P:Program)(t:TypeId)(op:BinOp)(x:V):Acc V:=do
 ck (sliceT P t)
 let b<-arw x
 match op with
 | .eql=>pure (.d (.bool b))
 | .neq=>pure (.d (.bool !b))
 |_=> .fail
def aEI(P:Program)(t:TypeId)(op:BinOp)(x y:V):Acc V:=match x with
 | .agg cs=>(match y with| .agg ds=>aHv P t op cs ds|_=> .fail)
 |x=>(match y with| .nil _=>arx P t op x|y=>bin (boolT P t) op x y)
def un(op:UnOp)(x:V):Acc V:=
 match op,x with
 | .neg,.d (.int k n)=> .ret (.d (.int k (k.wrap (0 - n))))
 | .not,.d (.bool b)=> .ret (.d (.bool !b))
 |_,_=> .fail
def awP(c x y:V):Acc V:=
 match c with
 | .d (.bool c)=>match x,y with
  | .d (.bool a),.d (.bool b)=> .ret (.d (.bool (bif c then a else b)))
  |x,y=>match c with
   |true=> .ret x
   |false=> .ret y
 |_=> .fail
def okT(P:Program)(t:TypeId):Bool:=match P.underlying t with|some _=>true|none=>false
def awQ(P:Program)(t:TypeId)(a:V):Acc V:=do
 ck (okT P t && Nat.beq (UO P t).length (yF P t))
 match a with
 | .ptr r off=>do
  match<-rd r with
  |some (.box _ cs)=>do
   ck (Nat.ble (off+yF P t) cs.length)
   op' (U7 P t (part cs off (yF P t)))
  |_=> .fail
 | .IW row off=>RG false (UO P t) row off λvs=>op' (U7 P t vs)
 | .MC r ver i off=>do
  match<-rd r with
  |some (.arr _ _ wZ _ rows)=>do
   ck (Nat.beq ver wZ)
   let row<-op' rows[i]?
   RG true (UO P t) row off λvs=>op' (U7 P t vs)
  |_=> .fail
 |_=> .fail
def arz(P:Program)(t:TypeId)(a x:V):Acc Unit:=do
 ck (okT P t)
 ck (Nat.beq x.cells.length (yF P t))
 ck (x.cells.all one)
 match a with
 | .ptr r off=>do
  match<-rd r with
  |some (.box T cs)=>do
   ck (Nat.ble (off+yF P t) cs.length)
   wr r (.box T (splice cs off x.cells))
  |_=> .fail
 | .MC r ver i off=>do
  let xs<-Y7 x.cells
  match<-rd r with
  |some (.arr false fl wZ s rows)=>do
   ck (Nat.beq ver wZ)
   ck (Nat.ble (off+yF P t) s)
   let row<-op' rows[i]?
   wr r (.arr false fl ver s (rows.set i (splice row off xs)))
  |_=> .fail
 |_=> .fail
def Yw(P:Program)(T:TypeId)(f:Nat):Option (Nat×Nat×TypeId):=
 match P.underlying T with
 |some (.struct fs)=>match fs[f]? with
  |some fd=>some (fd.offset,yF P fd.type,fd.type)
  |none=>none
 |_=>none
def adW(P:Program)(T:TypeId)(a:V)(f:Nat):Acc V:=do
 let(o,n,_)<-op' (Yw P T f)
 ck (Nat.ble 1 n)
 match a with
 | .ptr r off=>pure (.ptr r (off+o))
 | .IW row off=>pure (.IW row (off+o))
 | .MC r ver i off=>pure (.MC r ver i (off+o))
 |_=> .fail
def arA(P:Program)(T:TypeId)(x:V)(f:Nat):Acc V:=do
 let(o,n,t)<-op' (Yw P T f)
 match x with
 | .agg cs=>do
  ck (Nat.ble (o+n) cs.length)
  ck (okT P t)
  op' (U7 P t (part cs o n))
 |_=> .fail
def adX(P:Program)(t:TypeId)(x i:V):Acc V:=do
 let e<-op' (elT P t)
 match i with
 | .d (.int _ i)=>
  match x with
  | .d (.sl _ s rows)=>do
   ck (Nat.beq s (yF P e))
   ck (okT P e)
   let row<-op' (idx rows i)
   pure (.IW row 0)
  | .own r ver=>do
   match<-rd r with
   |some (.arr fz fl wZ s rows)=>do
    ck (Nat.beq ver wZ)
    ck (Nat.beq s (yF P e))
    ck (okT P e)
    match fz with
    |true=>do
     let row<-op' (idx (vw fl rows) i)
     pure (.IW row 0)
    |false=>do
     let _<-op' (idx rows i)
     pure (.MC r ver i.toNat 0)
   |_=> .fail
  |_=> .fail
 |_=> .fail
def arT(P:Program)(t:TypeId):Option (Nat×TypeId):=match P.underlying t with|some (.array n e)=>some (n,e)|_=>none
def aoD(P:Program)(n:Nat)(e:TypeId)(x i:V):Acc V:=
 match i with
 | .d (.int _ i)=>do
  ck (okT P e)
  ck (decide (0<=i) && decide (i<(n:Int)))
  match x with
  | .IW row off=>pure (.IW row (off+i.toNat * yF P e))
  | .ptr r off=>pure (.ptr r (off+i.toNat * yF P e))
  |_=> .fail
 |_=> .fail
def adY(P:Program)(t:TypeId)(x i:V):Acc V:=match arT P t with
 |some (n,e)=>aoD P n e x i
 |none=>adX P t x i
def alN:List V->Option Row
 |[]=>some []
 | .d x::vs=>match alN vs with|some r=>some (x::r)|none=>none
 |_::_=>none
def aiN(c:CT)(row:Row)(i:Nat):Acc V:=match c with
 | .int k=> .opt (kP k row i) λn=> .ret (.d (.int k n))
 | .bool=> .opt (alM row i) λb=> .ret (.d (.bool b))
 | .str=> .opt (cStr row i) λs=> .ret (.d (.str s))
 |_=> .fail
def arB(P:Program)(t:TypeId)(x i:V):Acc V:=
 match P.underlying t,x,i with
 |some .string,.d (.str s),.d (.int _ i)=> .opt (idx s i) λb=> .ret (.d (.int .u8 b.toNat))
 |some (.array n e),.agg cs,.d (.int _ i)=>do
  ck (Nat.beq (yF P e) 1 &&(Nat.beq cs.length n &&(okT P e && !(UA P e))))
  ck (decide (0<=i) && decide (i<(n:Int)))
  let row<-op' (alN cs)
  aiN (match UO P e with|[c]=>c|_=> .other) row i.toNat
 |_,_,_=> .fail
def lenV(x:V):Acc V:=
 match x with
 | .d (.str s)=> .ret (.d (.int .i64 s.length))
 | .own r ver=>do
  match<-rd r with
  |some (.arr _ _ wZ _ rows)=>do ck (Nat.beq ver wZ);pure (.d (.int .i64 rows.length))
  |_=> .fail
 | .d (.sl _ _ rows)=> .ret (.d (.int .i64 rows.length))
 | .nil _=> .ret (.d (.int .i64 0))
 |_=> .fail
def alO:Nat:=140737488355328
def ang(P:Program)(e:TypeId):Nat:=match P.info? e with|some i=>i.bytes|none=>alO
def tail(P:Program)(e:TypeId)(y:V):Acc (List Row):=
 match y with
 | .d (.sl _ s rows)=>do
  ck (Nat.beq s (yF P e))
  pure (vw (KX P e) rows)
 | .nil _=>pure []
 | .own r ver=>do
  match<-rd r with
  |some (.arr fz fl wZ s rows)=>do
   ck (Nat.beq ver wZ)
   ck (Nat.beq s (yF P e))
   match KX P e with
   |true=>do
    ck (fl||fz)
    pure rows
   |false=>do
    ck (!fl)
    match fz with
    |true=>pure (au rows)
    |false=>do
     wr r .dead
     pure rows
  |_=> .fail
 |_=> .fail
def anh(P:Program)(dst:Nat)(t ty:TypeId)(x y:V):Acc V:=do
 let e<-op' (elT P t)
 ck (Nat.ble 1 (yF P e))
 ck (match P.underlying ty with|some (.slice _)=>true|some .string=>true|_=>false)
 let z<-op' (WA P e)
 ck (Nat.beq z.length (yF P e))
 let ys<-tail P e y
 match x with
 | .nil _=>do
  ck (Nat.ble (ys.length * ang P e) alO)
  ck (Nat.ble ys.length alO)
  new dst (.arr false (KX P e) 0 (yF P e) ys)
  pure (.own dst 0)
 | .own r ver=>do
  match<-rd r with
  |some (.arr false fl wZ s rows)=>do
   ck (Nat.beq ver wZ)
   ck (Nat.beq s (yF P e))
   ck (match fl,KX P e with|true,true=>true|false,false=>true|_,_=>false)
   ck (Nat.ble ((rows.length+ys.length) * ang P e) alO)
   ck (Nat.ble (rows.length+ys.length) alO)
   wr r (.arr false fl (ver+1) s (rows++ys))
   pure (.own r (ver+1))
  |_=> .fail
 |_=> .fail
def aiO(P:Program)(dst:Nat)(t:TypeId)(l c:V):Acc V:=.fail
def bound(o:Option V)(d:Int):Acc Int:=match o with
 |none=> .ret d
 |some (.d (.int _ n))=> .ret n
 |some _=> .fail
def arC(P:Program)(t:TypeId)(x:V)(lo hi:Option V):Acc V:=
 match x with
 | .d (.str s)=>do
  ck (match P.underlying t with|some .string=>true|_=>false)
  let l<-bound lo 0
  let h<-bound hi s.length
  let s'<-op' (cut s l h)
  pure (.d (.str s'))
 |_=>do
  let e<-op' (elT P t)
  ck (okT P e)
  let(s,rows)<-seen x
  ck (Nat.beq s (yF P e))
  let l<-bound lo 0
  let h<-bound hi rows.length
  let rows'<-op' (cut rows l h)
  match x with
  | .own r ver=>do
   match<-rd r with
   |some (.arr _ fl wZ s rows)=>do
    ck (Nat.beq ver wZ)
    wr r (.arr true fl ver s rows)
    pure (.d (.sl false s rows'))
   |_=> .fail
  |_=>pure (.d (.sl false s rows'))
def ani(P:Program)(t:TypeId)(x:V)(lo hi:Option V):Acc V:=
 match x with
 | .IW row off=>do
  let(n,e)<-op' (arT P t)
  ck (okT P e)
  ck (Nat.beq (yF P e) 1 &&(Nat.beq off 0 && Nat.beq row.length n))
  match lo,hi with
  |none,none=>pure (.d (.sl false 1 (row.map λx=>[x])))
  |_,_=> .fail
 |x=>arC P t x lo hi
def arD(P:Program)(t:TypeId)(x:V)(hi:Option V):Acc V:=do
 let e<-op' (elT P t)
 ck (okT P e)
 match x with
 | .own r ver=>do
  match<-rd r with
  |some (.arr false fl wZ s rows)=>do
   ck (Nat.beq ver wZ)
   ck (Nat.beq s (yF P e))
   let h<-bound hi rows.length
   ck (decide (0<=h) && decide (h<=(rows.length:Int)))
   wr r (.arr false fl (ver+1) s (rows.take h.toNat))
   pure (.own r (ver+1))
  |_=> .fail
 |_=> .fail
def aDI(P:Program)(t:TypeId)(x lo:V):Acc V:=.fail
def BA(P:Program)(T:TypeId)(tm:oz):List (Nat×Operand)->List V->Acc (List V)
 |[],cs=>pure cs
 |(f,x)::ps,cs=>do
  let(o,n,t)<-op' (Yw P T f)
  let v:=ev P tm t x
  ck (Nat.beq v.cells.length n)
  ck (v.cells.all one)
  ck (Nat.ble (o+n) cs.length)
  BA P T tm ps (splice cs o v.cells)
def aoE(P:Program)(T:TypeId):Bool:=match P.underlying T with
 |some (.struct fs)=>fs.toList.all λf=>match P.info? f.type with|some _=>true|none=>false
 |_=>false
def anj(P:Program)(T:TypeId)(tm:oz)(ps:List (Nat×Operand)):Acc V:=do
 ck (aoE P T)
 let z<-op' (WA P T)
 let cs<-BA P T tm ps z
 pure (.agg cs)
def yG(P:Program)(e:TypeId)(tm:oz):List (Nat×Operand)->List V->Acc (List V)
 |[],cs=>pure cs
 |(i,x)::ps,cs=>do
  let v:=ev P tm e x
  ck (Nat.beq v.cells.length (yF P e))
  ck (v.cells.all one)
  ck (Nat.ble (i * yF P e+yF P e) cs.length)
  yG P e tm ps (splice cs (i * yF P e) v.cells)
def arE(P:Program)(T e:TypeId)(tm:oz)(ps:List (Nat×Operand)):Acc V:=do
 ck (okT P e)
 let z<-op' (WA P T)
 let cs<-yG P e tm ps z
 pure (.agg cs)
def ank(P:Program)(T:TypeId)(tm:oz)(ps:List (Nat×Operand)):Acc V:=match arT P T with
 |some (_,e)=>arE P T e tm ps
 |none=>anj P T tm ps
def BD(P:Program)(e:TypeId)(tm:oz):Nat->List (Nat×Operand)->Acc (List Row)
 |_,[]=>pure []
 |k,(i,x)::ps=>do
  ck (Nat.beq i k)
  let v:=ev P tm e x
  ck (Nat.beq v.cells.length (yF P e))
  let row<-Y7 v.cells
  let rows<-BD P e tm (k+1) ps
  pure (row::rows)
def WB(P:Program)(dst:Nat)(t:TypeId)(n:Nat)(tm:oz)(ps:List (Nat×Operand)):Acc V:=do
 let e<-op' (elT P t)
 ck (Nat.ble 1 (yF P e))
 ck (Nat.beq ps.length n)
 ck (Nat.ble (n * yF P e) 16777216)
 let _<-op' (WA P e)
 let rows<-BD P e tm 0 ps
 new dst (.arr false (KX P e) 0 (yF P e) rows)
 pure (.own dst 0)
def aiP(P:Program)(src dst:TypeId)(x:V):Acc V:=
 match P.underlying src,P.underlying dst with
 |some (.int _),some (.int k)=>match x with
  | .d (.int _ n)=> .ret (.d (.int k (k.wrap n)))
  |_=> .fail
 |_,_=> .fail
def xA:Nat:=100000
def arF(r:Nat)(l:List Nat):List Nat:=bif mem? r l then l else l++[r]
mutual
def auF(I:List Nat):V->List Nat
 | .ptr r _=>arF r I
 | .clo _ a b=>alP (alP I a) b
 | .agg cs=>alP I cs
 |_=>I
def alP(I:List Nat):List V->List Nat
 |[]=>I
 |v::vs=>alP (auF I v) vs
end
def PS(A:Adv)(f i:Nat):Nat:=bif mem? i (A.move f) then 1 else 0
def U9(A:Adv)(f:Nat):Nat->List Nat->List V->List Nat
 |_,I,[]=>I
 |i,I,v::vs=>U9 A f (i+1) (auF I v) vs
def idxOf(r:Nat):Nat->List Nat->Option Nat
 |_,[]=>none
 |i,j::l=>bif Nat.beq r j then some i else idxOf r (i+1) l
def XH(A:Adv)(f:Nat):Nat->List V->Acc (List V)
 |_,[]=>pure []
 |i,v::vs=>do
  let v<-(match PS A f i with
   |1=>do
    let x<-toD v
    pure (.d x)
   |_=>pure v:Acc V)
  let vs<-XH A f (i+1) vs
  pure (v::vs)
mutual
def lend(imp:List Nat):V->Acc (V×List Nat)
 | .d x=>pure (.d (roD x),[])
 | .nil s=>pure (.d (.sl false s []),[])
 | .own r ver=>do
  match<-rd r with
  |some (.arr fz fl wZ s rows)=>do
   ck (Nat.beq ver wZ)
   ck (!(mem? r imp))
   pure (.d (.sl false s (vw fl rows)),bif fz then[] else[r])
  |_=> .fail
 | .ptr r off=>do
  let i<-op' (idxOf r 0 imp)
  pure (.ptr (xA+i) off,[])
 | .IW row off=>pure (.IW row off,[])
 | .clo f a b=>do
  let(a,l)<-aiQ imp a
  let(b,l')<-aiQ imp b
  pure (.clo f a b,l++l')
 | .agg cs=>do
  let(a,l)<-aiQ imp cs
  pure (.agg a,l)
 | .MC ..=> .fail
 | .ZH _=> .fail
 | .undef=> .fail
def aiQ(imp:List Nat):List V->Acc (List V×List Nat)
 |[]=>pure ([],[])
 |v::vs=>do
  let(v,l)<-lend imp v
  let(vs,l')<-aiQ imp vs
  pure (v::vs,l++l')
end
def XI(A:Adv)(imp:List Nat)(f:Nat):Nat->List V->Acc (List V×List Nat)
 |_,[]=>pure ([],[])
 |i,v::vs=>do
  let(v,l)<-(match PS A f i with
   |1=>pure (v,[])
   |_=>lend imp v:Acc (V×List Nat))
  let(vs,l')<-XI A imp f (i+1) vs
  pure (v::vs,l++l')
def awR(imp:List Nat)(own:Bool)(v:V):Acc V:=
 match v with
 | .d x=>pure (.d (roD x))
 | .nil s=>pure (.d (.sl own s []))
 | .own r ver=>do
  match<-rd r with
  |some (.arr fz fl wZ s rows)=>do
   ck (Nat.beq ver wZ)
   ck (!(mem? r imp))
   match own with
   |true=>do
    ck (!fz)
    ck (atf fl rows)
    wr r .dead
    pure (.d (.sl true s rows))
   |false=>do
    wr r (.arr true fl ver s rows)
    pure (.d (.sl false s (vw fl rows)))
  |_=> .fail
 |_=> .fail
def ZI(imp own:List Nat):Nat->List V->Acc (List V)
 |_,[]=>pure []
 |j,v::vs=>do
  let v<-awR imp (mem? j own) v
  let vs<-ZI imp own (j+1) vs
  pure (v::vs)
def atg(A:Adv)(imp:List Nat)(c:Option Cell):Acc Cell:=
 match c with
 |some (.box t cs)=>do
  let cs<-ZI imp (A.aHt t) 0 cs
  pure (.box t cs)
 |_=> .fail
def ZJ(A:Adv)(imp:List Nat):List Nat->Acc (List Cell)
 |[]=>pure []
 |r::rs=>do
  let c<-rd r
  let c<-atg A imp c
  let cs<-ZJ A imp rs
  pure (c::cs)
def keyOf(r j dst:Nat):Nat:=1000000+(r * 100+j) * 10000+dst
def vD:V->D
 | .d x=>x
 |_=> .Zt
def awS(cs:List Cell)(i:Nat):Row:=match cs[i]? with|some (.box _ vs)=>vs.map vD|_=>[]
def awT(cs:List Cell)(i n:Nat):Bool:=match cs[i]? with|some (.box _ vs)=>Nat.beq vs.length n|_=>false
def awU(f:TypeId->List Bool):List TypeId->List Bool
 |[]=>[]
 |t::ts=>f t++awU f ts
def fls(P:Program):Nat->TypeId->List Bool
 |0,_=>[]
 |n+1,t=>match P.underlying t with
  |some (.slice e)=>[KX P e]
  |some (.struct fs)=>awU (fls P n) (fs.toList.map (·.type))
  |_=>[false]
def Uc(own fl:Bool)(key:Nat)(row:Row)(j:Nat):CT->Acc V
 | .int k=> .opt (kP k row j) λn=> .ret (.d (.int k n))
 | .bool=> .opt (alM row j) λn=> .ret (.d (.bool n))
 | .str=> .opt (cStr row j) λn=> .ret (.d (.str n))
 | .sl s=>match own with
  |true=> .opt (aoC s row j) λrows=>do
   new key (.arr false fl 0 s rows)
   pure (.own key 0)
  |false=> .opt (cSl s row j) λrows=> .ret (.d (.sl false s (vw fl rows)))
 | .other=> .fail
def aeV(own:List Nat)(r dst:Nat)(row:Row):Nat->List CT->List Bool->Acc (List V)
 |_,[],_=>pure []
 |j,ct::l,fs=>do
  let v<-Uc (mem? j own) (fs.headD false) (keyOf r j dst) row j ct
  let vs<-aeV own r dst row (j+1) l fs.tail
  pure (v::vs)
def ag3(X:Ctx)(dst:Nat)(out:List Cell):Nat->List Nat->Acc Unit
 |_,[]=>pure ()
 |i,r::rs=>do
  match<-rd r with
  |some (.box t _)=>do
   ck (awT out i (UO X.P t).length)
   let vs<-aeV (X.U8.aHt t) r dst (awS out i) 0 (UO X.P t) (fls X.P 8 t)
   wr r (.box t vs)
  |_=> .fail
  ag3 X dst out (i+1) rs
def aEJ(dst c:Nat):Nat:=1000000000000000+dst * 1000+c
def ZK(att:List Nat)(dst ri:Nat)(row:Row):Nat->List CT->List Bool->Acc (List V)
 |_,[],_=>pure []
 |j,ct::l,fs=>do
  let v<-Uc (mem? (ri * 20+j) att) (fs.headD false) (aEJ dst (ri * 20+j)) row j ct
  let vs<-ZK att dst ri row (j+1) l fs.tail
  pure (v::vs)
def aeW(res:List Row)(ri:Nat):Row:=match res[ri]? with|some r=>r|none=>[]
def adZ(X:Ctx)(att:List Nat)(dst:Nat)(res:List Row):Nat->List TypeId->Acc (List V)
 |_,[]=>pure []
 |ri,t::ts=>do
  ck (Nat.beq (aeW res ri).length (UO X.P t).length)
  let cs<-ZK att dst ri (aeW res ri) 0 (UO X.P t) (fls X.P 8 t)
  let v<-op' (U7 X.P t cs)
  let vs<-adZ X att dst res (ri+1) ts
  pure (v::vs)
def arG(att:List Nat)(ri:Nat):Nat->List CT->Bool
 |_,[]=>true
 |j,.sl _::l=>mem? (ri * 20+j) att && arG att ri (j+1) l
 |j,_::l=>arG att ri (j+1) l
def abQ(P:Program)(att:List Nat):Nat->List TypeId->Bool
 |_,[]=>true
 |ri,t::ts=>arG att ri 0 (UO P t) && abQ P att (ri+1) ts
def freeze:List Nat->Acc Unit
 |[]=>pure ()
 |r::rs=>do
  match<-rd r with
  |some (.arr _ fl ver s rows)=>wr r (.arr true fl ver s rows)
  |_=> .fail
  freeze rs
def aeX(X:Ctx)(K:nC)(fn dst f:Nat)(args:List V):Acc V:=do
 let g<-op' X.P.funcs[f]?
 ck (g.body.isSome && !(g.name == "runtime.NumGoroutine"))
 let imp:=U9 X.U8 f 0 [] args
 let args<-XH X.U8 f 0 args
 let cells<-ZJ X.U8 imp imp
 let(args,Ud)<-XI X.U8 imp f 0 args
 ck (Ud.all λr=> !(mem? r imp))
 let out<-op' (K f args cells)
 ck (Nat.beq out.1.length g.resultTypes.size)
 let need:= !(Ud.isEmpty) &&(abQ X.P (X.U8.att fn dst) 0 g.resultTypes.toList && imp.isEmpty)
 ck (bif need then out.1.all xw else true)
 freeze (bif need then[] else Ud)
 ag3 X dst out.2 0 imp
 let vs<-adZ X (X.U8.att fn dst) dst out.1 0 g.resultTypes.toList
 match vs with
 |[v]=>pure v
 |vs=>pure (.ZH vs)
def aHw(P:Program)(ts:List TypeId)(x:V):Bool:=match ts with
 |[t]=>(match x with
  | .d (.str _)=>(match P.underlying t with|some .string=>true|_=>false)
  |_=>(match P.underlying t with|some (.slice _)=>true|_=>false))
 |_=>false
def CO(P:Program)(tm:oz):List Operand->List TypeId->List V
 |[],_=>[]
 |x::xs,ts=>ev P tm (ts.headD 0) x::CO P tm xs ts.tail
def vop(X:Ctx)(K:nC)(fn:Nat)(tm:oz)(o:Oper):Acc V:=
 let P:=X.P
 let dst:=o.dst.getD 0
 match o.op with
 | .move x=>pure (ev P tm o.type x)
 | .assign x=>pure (ev P tm o.type x)
 | .pick c x y=>awP (ev P tm o.type c) (ev P tm o.type x) (ev P tm o.type y)
 | .alloc T=>do
  let z<-op' (WA P T)
  new dst (.box T z)
  pure (.ptr dst 0)
 | .box T x=>do
  let v:=ev P tm T x
  ck (Nat.beq v.cells.length (yF P T))
  ck (v.cells.all one)
  new dst (.box T v.cells)
  pure (.ptr dst 0)
 | .build T ps=>ank P T tm ps.toList
 | .buildSlice t n ps=>WB P dst t n tm ps.toList
 | .load t a=>awQ P t (evG X tm 0 a)
 | .store t a x=>do arz P t (ev P tm 0 a) (ev P tm t x);pure .undef
 | .nilCheck x=>match evG X tm o.type x with
  | .ptr r off=>pure (.ptr r off)
  | .IW row off=>pure (.IW row off)
  | .MC r ver i off=>pure (.MC r ver i off)
  |_=> .fail
 | .binOp op t x y t'=>aEI P t op (ev P tm t x) (ev P tm t' y)
 | .unOp op t x=>un op (ev P tm t x)
 | .convert s d x=>aiP P s d (ev P tm s x)
 | .makeSlice t l c=>aiO P dst t (ev P tm o.type l) (ev P tm o.type c)
 | .slice t x lo hi none=>match X.U8.trunc fn dst,lo,hi with
  |true,none,hi=>arD P t (ev P tm t x) (hi.map (ev P tm 3))
  |true,some lo,none=>aDI P t (ev P tm t x) (ev P tm 3 lo)
  |_,lo,hi=>ani P t (evG X tm t x) (lo.map (ev P tm 3)) (hi.map (ev P tm 3))
 | .fieldAddr T x f=>adW P T (ev P tm 0 x) f
 | .field T x f=>arA P T (ev P tm T x) f
 | .indexAddr t x i=>adY P t (evG X tm t x) (ev P tm 3 i)
 | .index t x i=>arB P t (ev P tm t x) (ev P tm 3 i)
 | .extract x i=>match ev P tm 0 x with
  | .ZH vs=>op' vs[i]?
  |_=> .fail
 | .call {callee:=.value f,args,argTypes}=>match ev P tm 0 f with
  | .clo g first caps=>aeX X K fn dst g (first++CO P tm args.toList argTypes.toList++caps)
  |_=> .fail
 | .call {callee:=.builtin .len,args,argTypes}=>match CO P tm args.toList argTypes.toList with
  |[x]=>do
   ck (aHw P argTypes.toList x)
   lenV x
  |_=> .fail
 | .call {callee:=.builtin .append,args,argTypes}=>match CO P tm args.toList argTypes.toList,argTypes.toList with
  |[x,y],[t,t']=>anh P dst t t' x y
  |_,_=> .fail
 | .call {callee:=.builtin .max,args,argTypes}=>match CO P tm args.toList argTypes.toList with
  |[.d (.int k x),.d (.int _ y)]=>pure (.d (.int k (bif decide (x<y) then y else x)))
  |_=> .fail
 | .call {callee:=.builtin .min,args,argTypes}=>match CO P tm args.toList argTypes.toList with
  |[.d (.int k x),.d (.int _ y)]=>pure (.d (.int k (bif decide (y<x) then y else x)))
  |_=> .fail
 |_=> .fail
end Go.Vm
namespace Go.Vm
open Go
mutual
def refs:V->List Nat
 | .own r _=>[r]
 | .ptr r _=>[r]
 | .MC r _ _ _=>[r]
 | .clo _ a b=>SV a++SV b
 | .agg cs=>SV cs
 | .ZH vs=>SV vs
 |_=>[]
def SV:List V->List Nat
 |[]=>[]
 |v::vs=>refs v++SV vs
end
def aiR(m:Mem)(r:Nat):List Nat:=match get r m with
 |some (.box _ cs)=>SV cs
 |_=>[]
def UC(k:Nat):Bool:=Nat.ble xA k && Nat.blt k (2 * xA)
def aeY:List Nat->List Nat->List Nat
 |acc,[]=>acc
 |acc,k::ks=>aeY (bif mem? k acc then acc else acc++[k]) ks
def aA6(tm:oz)(m:Mem):List Nat:=
 let l0:=aeY [] (tm.flatMap λx=>refs x.2)
 let l1:=aeY l0 (l0.flatMap (aiR m))
 let l2:=aeY l1 (l1.flatMap (aiR m))
 (aeY l2 (m.map (·.1))).filter λk=> !(UC k)
def names:List Nat:=[nat_lit 300000,nat_lit 300001,nat_lit 300002,nat_lit 300003,nat_lit 300004,nat_lit 300005,nat_lit 300006,nat_lit 300007,nat_lit 300008,nat_lit 300009,nat_lit 300010,nat_lit 300011,nat_lit 300012,nat_lit 300013,nat_lit 300014,nat_lit 300015,nat_lit 300016,nat_lit 300017,nat_lit 300018,nat_lit 300019,nat_lit 300020,nat_lit 300021,nat_lit 300022,nat_lit 300023,nat_lit 300024,nat_lit 300025,nat_lit 300026,nat_lit 300027,nat_lit 300028,nat_lit 300029,nat_lit 300030,nat_lit 300031,nat_lit 300032,nat_lit 300033,nat_lit 300034,nat_lit 300035,nat_lit 300036,nat_lit 300037,nat_lit 300038,nat_lit 300039,nat_lit 300040,nat_lit 300041,nat_lit 300042,nat_lit 300043,nat_lit 300044,nat_lit 300045,nat_lit 300046,nat_lit 300047,nat_lit 300048,nat_lit 300049,nat_lit 300050,nat_lit 300051,nat_lit 300052,nat_lit 300053,nat_lit 300054,nat_lit 300055,nat_lit 300056,nat_lit 300057,nat_lit 300058,nat_lit 300059,nat_lit 300060,nat_lit 300061,nat_lit 300062,nat_lit 300063]
def aA7:List Nat->List Nat->List (Nat×Nat)
 |n::ns,k::l=>(k,n)::aA7 ns l
 |_,_=>[]
def ren(L:List (Nat×Nat))(k:Nat):Nat:=match get k L with
 |some j=>j
 |none=>k
mutual
def Xk(L:List (Nat×Nat)):V->V
 | .d x=> .d x
 | .nil s=> .nil s
 | .own r ver=> .own (ren L r) ver
 | .ptr r off=> .ptr (ren L r) off
 | .MC r ver i off=> .MC (ren L r) ver i off
 | .IW row off=> .IW row off
 | .clo f a b=> .clo f (ZL L a) (ZL L b)
 | .agg cs=> .agg (ZL L cs)
 | .ZH vs=> .ZH (ZL L vs)
 | .undef=> .undef
def ZL(L:List (Nat×Nat)):List V->List V
 |[]=>[]
 |v::vs=>Xk L v::ZL L vs
end
def ak5(L:List (Nat×Nat)):Cell->Cell
 | .box t cs=> .box t (ZL L cs)
 | .arr fz fl ver s rows=> .arr fz fl ver s rows
 | .dead=> .dead
def Vw(L:List (Nat×Nat)):Mem->Mem
 |[]=>[]
 |(k,c)::m=>put (ren L k) (ak5 L c) (Vw L m)
def aiS(L:List (Nat×Nat)):oz->oz
 |[]=>[]
 |(t,v)::tm=>(t,Xk L v)::aiS L tm
def nodupB:List Nat->Bool
 |[]=>true
 |k::l=> !(mem? k l) && nodupB l
def aeZ(L:List (Nat×Nat))(ks:List Nat):Bool:=nodupB (ks.map (ren L)) && ks.all λk=>bif UC k then Nat.beq (ren L k) k else true
def anl(L:List (Nat×Nat))(S:St):St:=match aeZ L (S.mem.map (·.1)) with
 |true=>⟨aiS L S.tm,Vw L S.mem⟩
 |false=>S
def canon(S:St):St:=match aA6 S.tm S.mem with
 |[]=>S
 |k::o=>anl (aA7 names (k::o)) S
end Go.Vm
namespace Go.Vm
open Go
mutual
def ad1(m:Mem):V->V
 | .d x=> .d x
 | .nil s=> .nil s
 | .own r ver=>match get r m with
  |some (.arr _ _ wZ _ _)=>bif Nat.beq ver wZ then .own r 0 else .undef
  |_=> .undef
 | .ptr r off=>match get r m with
  |some (.box _ _)=> .ptr r off
  |_=> .undef
 | .MC r ver i off=>match get r m with
  |some (.arr _ _ wZ _ _)=>bif Nat.beq ver wZ then .MC r 0 i off else .undef
  |_=> .undef
 | .IW row off=> .IW row off
 | .clo f a b=> .clo f (acr m a) (acr m b)
 | .agg cs=> .agg (acr m cs)
 | .ZH vs=> .ZH (acr m vs)
 | .undef=> .undef
def acr(m:Mem):List V->List V
 |[]=>[]
 |v::vs=>ad1 m v::acr m vs
end
def PU(m:Mem):Cell->Cell
 | .box t cs=> .box t (acr m cs)
 | .arr fz fl _ s rows=> .arr fz fl 0 s rows
 | .dead=> .dead
def ad2(m:Mem)(tm:oz):List Nat->oz
 |[]=>[]
 |t::ts=>match get t tm with
  |some v=>(t,ad1 m v)::ad2 m tm ts
  |none=>ad2 m tm ts
def ad3:List Nat->List Nat->List Nat
 |[],l=>l
 |a::as,l=>bif mem? a l then ad3 as l else ad3 as (a::l)
def reach(m:Mem):Nat->List Nat->List Nat
 |0,l=>l
 |n+1,l=>reach m n (ad3 (l.flatMap (aiR m)) l)
def roots(tm:oz)(m:Mem):List Nat:=
 ad3 (tm.flatMap λx=>refs x.2) ((m.map (·.1)).filter UC)
def EW(all:Mem)(R:List Nat):Mem->Mem
 |[]=>[]
 |(k,c)::m=>match c with
  | .dead=>EW all R m
  |c=>bif mem? k R then(k,PU all c)::EW all R m else EW all R m
def closed(R:List Nat)(m:Mem):Bool:=m.all λx=>match x.2 with
 | .box _ cs=>(SV cs).all λr=>mem? r R
 |_=>true
def aHx(m:Mem):Bool:=m.all λx=>match x.2 with
 | .arr _ _ ver _ _=>bif UC x.1 then Nat.beq ver 0 else true
 | .dead=> !(UC x.1)
 |_=>true
def sortedK:Mem->Bool
 |[]=>true
 |(k,_)::m=>match m with
  |[]=>true
  |(j,_)::_=>Nat.blt k j && sortedK m
def ad4(ts:List Nat)(S:St):Option St:=
 let tm:=ad2 S.mem S.tm ts
 let R:=reach S.mem 3 (roots tm S.mem)
 let m:=EW S.mem R S.mem
 bif closed R m &&(aHx S.mem && sortedK S.mem) then some ⟨tm,m⟩ else none
def prune(ts:List Nat)(S:St):Option St:=match ad4 ts S with
 |some S'=>some (canon S')
 |none=>none
def IX(ops:Array Oper)(tm:oz)(o:Oper):Option (Bool×oz):=
 match o.guard with
 |none=>some (true,tm)
 |some (j,want)=>match ops[j]? with
  |some oj=>match oj.dst with
   |some d=>match adU d tm with
    | .d (.bool b)=>match b with
     |true=>some (want,put d (.d (.bool true)) tm)
     |false=>some (!want,put d (.d (.bool false)) tm)
    | .ZH vs=>match vs with
     |[]=>some (false,put d (.ZH []) tm)
     |_::_=>none
    |_=>none
   |none=>none
  |none=>none
def ZM(nt:Nat):Option Nat->Bool
 |some d=>Nat.blt d nt
 |none=>true
def Zu(P:Program)(fn:Nat):Nat:=match P.funcs[fn]? with|some g=>g.ntmps|none=>0
def ag4(nt:Nat)(dst:Option Nat)(tm:oz):oz:=bif ZM nt dst then ak4 dst (.ZH []) tm else aA4 dst tm
def GI(X:Ctx)(K:nC)(fn:Nat)(ops:Array Oper)(i:Nat)(S:St):Option (St×Log):=
 match ops[i]? with
 |none=>none
 |some o=>match IX ops S.tm o with
  |none=>none
  |some (false,tm)=>some (⟨ag4 (Zu X.P fn) o.dst tm,S.mem⟩,.none)
  |some (true,tm)=>match(vop X K fn tm o).run S.mem .none with
   |none=>none
   |some (v,m,l)=>bif ZM (Zu X.P fn) o.dst then some (⟨ak4 o.dst v tm,m⟩,l) else none
def OY(X:Ctx)(K:nC)(fn:Nat)(ops:Array Oper):List Nat->St->List (Nat×Log)->Option (St×List (Nat×Log))
 |[],S,L=>some (S,L)
 |i::is,S,L=>match GI X K fn ops i S with
  |none=>none
  |some (S',l)=>OY X K fn ops is S' ((i,l)::L)
def aA8(a b:List Nat):Bool:=a.all λk=> !(mem? k b)
def Log.apart(a b:Log):Bool:=aA8 a.w b.r && aA8 a.w b.w && aA8 a.r b.w
def ordered(bef:Array Nat)(i j:Nat):Bool:=(bef.getD i 0).testBit j
def ZN(ops:Array Oper)(bef:Array Nat):List (Nat×Log)->Bool
 |[]=>true
 |(i,l)::L=>(L.all fun(j,l')=>ordered bef i j||(l.apart l' &&(match ops[i]?,ops[j]? with
   |some a,some b=>a.apart ops b
   |_,_=>false))) && ZN ops bef L
def ZO:Nat->List Oper->Bool
 |_,[]=>true
 |i,o::l=>(o.after.toList.all λe=> !(Region.binds .any e)||Nat.blt e.on i) && ZO (i+1) l
def backOk(ops:Array Oper):Bool:=ZO 0 ops.toList
def MF(X:Ctx)(K:nC)(fn id:Nat)(ops:Array Oper)(draw:Bool)(S:St):Option (St×List (Nat×Log)):=OY X K fn ops (List.range ops.size) S []
def region(X:Ctx)(K:nC)(fn id:Nat)(ops:Array Oper)(draw:Bool)(S:St):Option St:=
 match MF X K fn id ops draw S with
 |none=>none
 |some (S',L)=>bif(match draw with|false=>true|true=>X.P.follows .mixedOrders &&(backOk ops && ZN ops (Region.before ops) L)) then prune (X.U8.keep fn id) S' else none
inductive Ex where
 |normal
 |exit (id:Nat)
 |ret
noncomputable def lim{α:Type}(f:Nat->Option α):Option α:=
 open Classical in if h:∃a n,f n=some a then some (Classical.choose h) else none
def iter(b:St->Option (Ex×St)):Nat->St->Option (Ex×St)
 |0,_=>none
 |n+1,S=>match b S with
  |some (.normal,S')=>iter b n S'
  |r=>r
noncomputable def WC(b:St->Option (Ex×St))(S:St):Option (Ex×St):=lim λn=>iter b n S
def acs(P:Program)(tm:oz)(c:Operand):Option Bool:=match ev P tm 0 c with
 | .d (.bool b)=>some b
 |_=>none
noncomputable def den(X:Ctx)(K:nC)(fn:Nat):Code->St->Option (Ex×St)
 | .skip,S=>some (.normal,S)
 | .region id ops draw,S=>match region X K fn id ops draw S with
  |some S'=>some (.normal,S')
  |none=>none
 | .seq a b,S=>match den X K fn a S with
  |some (.normal,S')=>den X K fn b S'
  |r=>r
 | .cond c a b,S=>match acs X.P S.tm c with
  |some true=>den X K fn a S
  |some false=>den X K fn b S
  |none=>none
 | .block id c,S=>match den X K fn c S with
  |some (.exit j,S')=>bif Nat.beq j id then some (.normal,S') else some (.exit j,S')
  |r=>r
 | .loop c,S=>WC (den X K fn c) S
 | .exit id,S=>some (.exit id,S)
 | .ret,S=>some (.ret,S)
 |_,_=>none
def arH(A:Adv)(f i:Nat)(fl:Bool)(v:V):Acc V:=
 match PS A f i with
 |1=>(match v with
  | .d (.sl true s rows)=>do
   new i (.arr false fl 0 s rows)
   pure (.own i 0)
  | .d x=>pure (.d (roD x))
  |_=> .fail)
 |_=>pure v
def ae0(X:Ctx)(f:Nat):Nat->List TypeId->List V->Acc oz
 |_,_,[]=>pure []
 |i,ts,v::vs=>do
  let v<-arH X.U8 f i ((fls X.P 8 (ts.headD 0)).headD false) v
  let r<-ae0 X f (i+1) ts.tail vs
  pure ((i,v)::r)
def y7:Nat->List Cell->Mem
 |_,[]=>[]
 |i,c::cs=>(xA+i,c)::y7 (i+1) cs
def Bf(n:Nat):List Nat:=(List.range n).map (xA+ ·)
def entry(X:Ctx)(f:Nat)(g:Func)(args:List V)(cells:List Cell):Acc oz:=do
 ag3 X 9999 cells 0 (Bf cells.length)
 ae0 X f 0 g.params.toList args
def anm(P:Program)(tm:oz)(r:ResultVar)(t:TypeId):Acc Row:=
 match r with
 | .tmp x=>match UA P t,adU x tm with
  |true,.agg cs=>Y7 cs
  |false,.agg _=> .fail
  |false,v=>Y7 [v]
  |true,_=> .fail
 | .cell a T=>match adU a tm with
  | .ptr r 0=>do
   match<-rd r with
   |some (.box _ cs)=>do
    ck (Nat.beq T t && Nat.beq cs.length (yF P T) &&(okT P T &&(UA P T||Nat.beq cs.length 1)))
    Y7 cs
   |_=> .fail
  |_=> .fail
def abR(P:Program)(tm:oz):List ResultVar->List TypeId->Acc (List Row)
 |[],[]=>pure []
 |r::rs,t::ts=>do
  let row<-anm P tm r t
  let rows<-abR P tm rs ts
  pure (row::rows)
 |_,_=> .fail
def leave(X:Ctx)(g:Func)(n:Nat)(S:St):Option (List Row×List Cell):=
 match(do
  let rows<-abR X.P S.tm g.results.toList g.resultTypes.toList
  let cells<-ZJ X.U8 (Bf n) (Bf n)
  pure (rows,cells):Acc (List Row×List Cell)).run S.mem .none with
 |some (r,_,_)=>some r
 |none=>none
noncomputable def body(X:Ctx)(K:nC)(f:Nat)(args:List V)(cells:List Cell):Option (List Row×List Cell):=
 match X.P.funcs[f]? with
 |some g=>match g.body with
  |some c=>bif !(Nat.ble cells.length xA && Nat.ble args.length g.ntmps) then none else match(entry X f g args cells).run (y7 0 cells) .none with
   |some (tm,m,_)=>(match den X K f c ⟨tm,m⟩ with
    |some (.normal,S)=>leave X g cells.length S
    |some (.ret,S)=>leave X g cells.length S
    |_=>none)
   |none=>none
  |none=>none
 |none=>none
noncomputable def ZP(X:Ctx):Nat->nC
 |0,_,_,_=>none
 |n+1,f,args,cells=>match X.adV f with
  |some p=>p args cells
  |none=>body X (ZP X n) f args cells
noncomputable def call(X:Ctx):nC:=λf args cells=>lim λn=>ZP X n f args cells
end Go.Vm
namespace Go.Vm
open Go
abbrev View:=Nat->Nat->Option Value
abbrev Heap:=Nat->Option Obj
def fZ(w:World):Heap:=λb=>w.heap[b]?
mutual
def ro(h:View):D->Value->Prop
 | .int k n,v=>v=.int k n
 | .bool b,v=>v=.bool b
 | .str s,v=>v=.string ⟨⟨s⟩⟩
 | .Zt,v=>v=.nilFunc
 | .sl _ s rows,v=>∃a cap,v=.slice a rows.length cap/\rows.length<=cap/\(rows≠[]->∃b o,a=some ⟨b,o,none⟩/\uJ h s rows b o)
def uJ(h:View)(s:Nat):List Row->Nat->Nat->Prop
 |[],_,_=>True
 |r::rs,b,o=>r.length=s/\DK h r b o/\uJ h s rs b (o+s)
def DK(h:View):Row->Nat->Nat->Prop
 |[],_,_=>True
 |x::r,b,o=>(∃v,h b o=some v/\ro h x v)/\DK h r b (o+1)
end
mutual
def ow(H:Heap)(h:View):D->Value->List Nat->Prop
 | .int k n,v,N=>v=.int k n/\N=[]
 | .bool b,v,N=>v=.bool b/\N=[]
 | .str s,v,N=>v=.string ⟨⟨s⟩⟩/\N=[]
 | .Zt,v,N=>v=.nilFunc/\N=[]
 | .sl own s rows,v,N=>match own with
  |false=>N=[]/\ro h (.sl false s rows) v
  |true=>(rows=[]/\v=.slice none 0 0/\N=[])\/
   ∃b cap cs t N',v=.slice (some ⟨b,0,none⟩) rows.length cap/\rows.length<=cap/\H b=some (.cells cs t (0,0))/\cs.size=cap * s/\
    jO H h s rows cs.toList N'/\N=b::N'
def jO(H:Heap)(h:View)(s:Nat):List Row->List Value->List Nat->Prop
 |[],_,N=>N=[]
 |r::rs,cs,N=>r.length=s/\∃N1 N2,N=N1++N2/\mQ H h r cs N1/\jO H h s rs (cs.drop s) N2
def mQ(H:Heap)(h:View):Row->List Value->List Nat->Prop
 |[],_,N=>N=[]
 |x::r,cs,N=>∃v cs' N1 N2,cs=v::cs'/\N=N1++N2/\ow H h x v N1/\mQ H h r cs' N2
end
def kV(h:View):Row->List Value->Prop
 |[],_=>True
 |x::r,cs=>∃v cs',cs=v::cs'/\ro h x v/\kV h r cs'
def lQ(h:View)(s:Nat):List Row->List Value->Prop
 |[],_=>True
 |r::rs,cs=>r.length=s/\kV h r cs/\lQ h s rs (cs.drop s)
def ad5(H:Heap)(h:View)(fl:Bool)(s:Nat)(rows:List Row)(v:Value)(N:List Nat):Prop:=
 (rows=[]/\v=.slice none 0 0/\N=[])\/
 ∃b cap cs t N',v=.slice (some ⟨b,0,none⟩) rows.length cap/\rows.length<=cap/\H b=some (.cells cs t (0,0))/\cs.size=cap * s/\
  (match fl with
   |true=>lQ h s rows cs.toList/\N'=[]
   |false=>jO H h s rows cs.toList N')/\N=b::N'
def ad6(g:Value):Prop:=∃a n c,g=.slice a n c
def aA9(g:Value):Prop:=∃b o,g=.pointer (some ⟨b,o,none⟩)
mutual
def bQ(μ:Nat->Value)(m:Mem)(h:View):V->Value->Prop
 | .d x,g=>ro h x g
 | .nil _,g=>g=.slice none 0 0
 | .own r v0,g=>ad6 g/\match get r m with
  |some (.arr _ _ ver _ _)=>v0<=ver/\(v0=ver->g=μ r)
  |some .dead=>True
  |_=>False
 | .ptr r off,g=>aA9 g/\match get r m with
  |some (.box _ _)=>∃b,μ r=.pointer (some ⟨b,0,none⟩)/\g=.pointer (some ⟨b,off,none⟩)
  |some .dead=>True
  |_=>False
 | .MC r v0 i off,g=>aA9 g/\match get r m with
  |some (.arr _ _ ver s _)=>v0<=ver/\(v0=ver->∃b n cap,μ r=.slice (some ⟨b,0,none⟩) n cap/\g=.pointer (some ⟨b,i * s+off,none⟩))
  |some .dead=>True
  |_=>False
 | .IW row off,g=>∃b o,g=.pointer (some ⟨b,o+off,none⟩)/\DK h row b o
 | .clo f first caps,g=>∃a c,g=.func (.func f) a c/\dX μ m h first a.toList/\dX μ m h caps c.toList
 | .agg cs,g=>∃a,g=.agg a/\dX μ m h cs a.toList
 | .ZH vs,g=>∃a,g=.tuple a/\dX μ m h vs a.toList
 | .undef,_=>True
def dX(μ:Nat->Value)(m:Mem)(h:View):List V->List Value->Prop
 |[],gs=>gs=[]
 |v::vs,gs=>∃g gs',gs=g::gs'/\bQ μ m h v g/\dX μ m h vs gs'
end
def xB(μ:Nat->Value)(m:Mem)(H:Heap)(h:View)(r:Nat):Cell->List Nat->Prop
 | .box t cs,N=>∃b a,μ r=.pointer (some ⟨b,0,none⟩)/\H b=some (.cells a t (0,0))/\dX μ m h cs a.toList/\N=[b]
 | .arr fz fl _ s rows,N=>match fz with
  |true=>ro h (.sl true s rows) (μ r)/\N=[]
  |false=>ad5 H h fl s rows (μ r) N
 | .dead,N=>N=[]
open Classical in
noncomputable def view(w:World)(U X:Nat->Prop):View:=λb o=>if U b/\¬X b then w.cell? ⟨b,o,none⟩ else none
def excl(F:Nat->List Nat)(E:List Nat):Nat->Prop:=λb=>b∈E\/∃r,b∈F r
structure Keep(M:List Nat)(w w':World):Prop where
 os:w'.os=w.os
 tape:w'.tape=w.tape
 output:w'.output=w.output
 size:w.heap.size<=w'.heap.size
 block:∀b,b<w.heap.size->b ∉ M->w'.heap[b]? =w.heap[b]?
def Keep.refl(M:List Nat)(w:World):Keep M w w:=⟨rfl,rfl,rfl,Nat.le_refl _,λ_ _ _=>rfl⟩
def Keep.trans{M M':List Nat}{a b c:World}(h:Keep M a b)(k:Keep M' b c)(hM:∀x,x∈M'->x∈M\/a.heap.size<=x):Keep M a c:=
 ⟨k.os.trans h.os,k.tape.trans h.tape,k.output.trans h.output,Nat.le_trans h.size k.size,λi hi hm=>(k.block i (Nat.lt_of_lt_of_le hi h.size) (λhx=>(hM i hx).elim hm (λhl=>absurd hi (Nat.not_lt.2 hl)))).trans (h.block i hi hm)⟩
structure MInv(base:Nat)(U:Nat->Prop)(m:Mem)(w:World)(μ:Nat->Value)(F:Nat->List Nat)(E:List Nat)(out:List Nat):Prop where
 cell:∀r c,get r m=some c->r ∉ out->xB μ m (fZ w) (view w U (excl F E)) r c (F r)
 dj:∀r r',r≠r'->∀b,b∈F r->b ∉ F r'
 djE:∀r b,b∈F r->b ∉ E
 nd:∀r,(F r).Nodup
 ndE:E.Nodup
 lt:∀b,excl F E b->b<w.heap.size/\base<=b/\U b
 up:∀b,w.heap.size<=b->U b
 bs:base<=w.heap.size
 none_:∀r,get r m=none->F r=[]
 out_:∀r,r∈out->F r=[]
def View.le(h h':View):Prop:=∀b o v,h b o=some v->h' b o=some v
def View.le_refl(h:View):h.le h:=λ_ _ _ x=>x
def View.le.trans'{a b c:View}(h:a.le b)(k:b.le c):a.le c:=λx y v q=>k x y v (h x y v q)
mutual
def MG{h h':View}(hl:h.le h'):∀(x:D) (v:Value),ro h x v->ro h' x v
 | .int _ _,_,q=>by simpa[ro] using q
 | .bool _,_,q=>by simpa[ro] using q
 | .str _,_,q=>by simpa[ro] using q
 | .Zt,_,q=>by simpa[ro] using q
 | .sl _ s rows,v,q=>by simp only[ro] at q|-;obtain⟨a,cap,h1,h2,h3⟩:=q;refine⟨a,cap,h1,h2,λhn=> ?_⟩;obtain⟨b,o,h4,h5⟩:=h3 hn;exact⟨b,o,h4,ag5 hl s rows b o h5⟩
def ag5{h h':View}(hl:h.le h')(s:Nat):∀(rows:List Row) (b o:Nat),uJ h s rows b o->uJ h' s rows b o
 |[],_,_,_=>by simp[uJ]
 |r::rs,b,o,q=>by simp only[uJ] at q|-;exact⟨q.1,Vx hl r b o q.2.1,ag5 hl s rs b (o+s) q.2.2⟩
def Vx{h h':View}(hl:h.le h'):∀(r:Row) (b o:Nat),DK h r b o->DK h' r b o
 |[],_,_,_=>by simp[DK]
 |x::r,b,o,q=>by simp only[DK] at q|-;obtain⟨⟨v,h1,h2⟩,h3⟩:=q;exact⟨⟨v,hl _ _ _ h1,MG hl x v h2⟩,Vx hl r b (o+1) h3⟩
end
mutual
def ano{H H':Heap}{h h':View}(hl:h.le h'):∀(x:D) (v:Value) (N:List Nat),(∀b,b∈N->H' b=H b)->ow H h x v N->ow H' h' x v N
 | .int _ _,_,_,_,q=>by simpa[ow] using q
 | .bool _,_,_,_,q=>by simpa[ow] using q
 | .str _,_,_,_,q=>by simpa[ow] using q
 | .Zt,_,_,_,q=>by simpa[ow] using q
 | .sl false s rows,v,N,_,q=>by simp only[ow] at q|-;exact⟨q.1,MG hl _ _ q.2⟩
 | .sl true s rows,v,N,hb,q=>by
  simp only[ow] at q|-;rcases q with q|⟨b,cap,cs,t,N',h1,h2,h3,h4,h5,rfl⟩
  ·exact .inl q
  ·exact .inr ⟨b,cap,cs,t,N',h1,h2,by rw[hb b (by simp)];exact h3,h4,KY hl s rows cs.toList N' (λb' hb'=>hb b' (by simp[hb'])) h5,rfl⟩
def KY{H H':Heap}{h h':View}(hl:h.le h')(s:Nat):∀(rows:List Row) (cs:List Value) (N:List Nat),(∀b,b∈N->H' b=H b)->jO H h s rows cs N->jO H' h' s rows cs N
 |[],_,_,_,q=>by simpa[jO] using q
 |r::rs,cs,N,hb,q=>by simp only[jO] at q|-;obtain⟨h1,N1,N2,rfl,h2,h3⟩:=q;exact⟨h1,N1,N2,rfl,Vy hl r cs N1 (λb hx=>hb b (by simp[hx])) h2,KY hl s rs _ N2 (λb hx=>hb b (by simp[hx])) h3⟩
def Vy{H H':Heap}{h h':View}(hl:h.le h'):∀(r:Row) (cs:List Value) (N:List Nat),(∀b,b∈N->H' b=H b)->mQ H h r cs N->mQ H' h' r cs N
 |[],_,_,_,q=>by simpa[mQ] using q
 |x::r,cs,N,hb,q=>by simp only[mQ] at q|-;obtain⟨v,cs',N1,N2,rfl,rfl,h2,h3⟩:=q;exact⟨v,cs',N1,N2,rfl,rfl,ano hl x v N1 (λb hx=>hb b (by simp[hx])) h2,Vy hl r cs' N2 (λb hx=>hb b (by simp[hx])) h3⟩
end
def ae1{h h':View}(hl:h.le h'):∀(r:Row) (cs:List Value),kV h r cs->kV h' r cs
 |[],_,_=>trivial
 |x::r,cs,⟨v,cs',h1,h2,h3⟩=>⟨v,cs',h1,MG hl x v h2,ae1 hl r cs' h3⟩
def NY{h h':View}(hl:h.le h')(s:Nat):∀(rows:List Row) (cs:List Value),lQ h s rows cs->lQ h' s rows cs
 |[],_,_=>trivial
 |r::rs,cs,⟨h1,h2,h3⟩=>⟨h1,ae1 hl r cs h2,NY hl s rs _ h3⟩
def XJ{H H':Heap}{h h':View}(hl:h.le h'){fl:Bool}{s:Nat}{rows:List Row}{v:Value}{N:List Nat}(hb:∀b,b∈N->H' b=H b)(q:ad5 H h fl s rows v N):ad5 H' h' fl s rows v N:=by
 rcases q with q|⟨b,cap,cs,t,N',h1,h2,h3,h4,h5,rfl⟩
 ·exact .inl q
 ·refine .inr ⟨b,cap,cs,t,N',h1,h2,by rw[hb b (by simp)];exact h3,h4, ?_,rfl⟩;cases fl with
  |true=>exact⟨NY hl s rows _ h5.1,h5.2⟩
  |false=>exact KY hl s rows _ N' (λb' hb'=>hb b' (by simp[hb'])) h5
def OZ(μ μ':Nat->Value)(r:Nat):Cell->Cell->Prop
 | .box t _,.box t' _=>t'=t/\μ' r=μ r
 | .arr _ fl ver s _,.arr _ fl' wZ s' _=>ver<=wZ/\fl'=fl/\(ver=wZ->μ' r=μ r/\s'=s)
 |_,.dead=>True
 |_,_=>False
def NI(μ:Nat->Value)(m:Mem)(μ':Nat->Value)(m':Mem):Prop:=∀r c,get r m=some c->∃c',get r m'=some c'/\OZ μ μ' r c c'
def ag6(μ:Nat->Value)(r:Nat)(c:Cell):OZ μ μ r c c:=by cases c<;>simp[OZ]
def BF(μ:Nat->Value)(m:Mem):NI μ m μ m:=λr c h=>⟨c,h,ag6 μ r c⟩
def Ad{μ1 μ2 μ3:Nat->Value}{m1 m2 m3:Mem}(h:NI μ1 m1 μ2 m2)(k:NI μ2 m2 μ3 m3):NI μ1 m1 μ3 m3:=by
 intro r c hc;obtain⟨c',h1,h2⟩:=h r c hc;obtain⟨c'',k1,k2⟩:=k r c' h1;refine⟨c'',k1, ?_⟩;cases c<;>cases c'<;>cases c''<;>simp_all [OZ]
 ·rename_i ver s _ _ _ wZ s' _ _ _ aHy s'' _;refine⟨aC,λe=> ?_⟩;have e1:ver=wZ:=aC;have e2:wZ=aHy:=aC;exact⟨(k2.2.2 e2).1.trans (h2.2.2 e1).1,(k2.2.2 e2).2.trans (h2.2.2 e1).2⟩
mutual
def RH{μ μ':Nat->Value}{m m':Mem}{h h':View}(hm:NI μ m μ' m')(hl:h.le h'):∀(v:V) (g:Value),bQ μ m h v g->bQ μ' m' h' v g
 | .d x,g,q=>by simp only[bQ] at q|-;exact MG hl x g q
 | .nil _,_,q=>by simpa[bQ] using q
 | .own r v0,g,q=>by
  simp only[bQ] at q|-;refine⟨q.1, ?_⟩;replace q:=q.2;cases hc:get r m with
  |none=>simp[hc] at q
  |some c=>
   obtain⟨c',h1,h2⟩:=hm r c hc;rw[h1];cases c<;>cases c'<;>simp_all [OZ]
   ·rename_i ver s _ _ _ wZ s' _;refine⟨aC,λe=> ?_⟩;have e1:ver=wZ:=aC;rw[(h2.2.2 e1).1];exact q.2 aC
 | .ptr r off,g,q=>by
  simp only[bQ] at q|-;refine⟨q.1, ?_⟩;replace q:=q.2;cases hc:get r m with
  |none=>simp[hc] at q
  |some c=>obtain⟨c',h1,h2⟩:=hm r c hc;rw[h1];cases c<;>cases c'<;>simp_all [OZ]
 | .MC r v0 i off,g,q=>by
  simp only[bQ] at q|-;refine⟨q.1, ?_⟩;replace q:=q.2;cases hc:get r m with
  |none=>simp[hc] at q
  |some c=>
   obtain⟨c',h1,h2⟩:=hm r c hc;rw[h1];cases c<;>cases c'<;>simp_all [OZ]
   ·rename_i ver s _ _ _ wZ s' _;refine⟨aC,λe=> ?_⟩;have e1:ver=wZ:=aC;rw[(h2.2.2 e1).1,(h2.2.2 e1).2];exact q.2 aC
 | .IW row off,g,q=>by simp only[bQ] at q|-;obtain⟨b,o,h1,h2⟩:=q;exact⟨b,o,h1,Vx hl row b o h2⟩
 | .clo f first caps,g,q=>by simp only[bQ] at q|-;obtain⟨a,c,h1,h2,h3⟩:=q;exact⟨a,c,h1,y8 hm hl first _ h2,y8 hm hl caps _ h3⟩
 | .agg cs,g,q=>by simp only[bQ] at q|-;obtain⟨a,h1,h2⟩:=q;exact⟨a,h1,y8 hm hl cs _ h2⟩
 | .ZH vs,g,q=>by simp only[bQ] at q|-;obtain⟨a,h1,h2⟩:=q;exact⟨a,h1,y8 hm hl vs _ h2⟩
 | .undef,_,_=>by simp[bQ]
def y8{μ μ':Nat->Value}{m m':Mem}{h h':View}(hm:NI μ m μ' m')(hl:h.le h'):∀(vs:List V) (gs:List Value),dX μ m h vs gs->dX μ' m' h' vs gs
 |[],_,q=>by simpa[dX] using q
 |v::vs,gs,q=>by simp only[dX] at q|-;obtain⟨g,gs',h1,h2,h3⟩:=q;exact⟨g,gs',h1,RH hm hl v g h2,y8 hm hl vs gs' h3⟩
end
def PV{μ μ':Nat->Value}{m m':Mem}{H H':Heap}{h h':View}(hm:NI μ m μ' m')(hl:h.le h'){r:Nat}(hr:μ' r=μ r){c:Cell}{N:List Nat}(hb:∀b,b∈N->H' b=H b)
  (q:xB μ m H h r c N):xB μ' m' H' h' r c N:=by
 cases c with
 |box t cs=>obtain⟨b,a,h1,h2,h3,rfl⟩:=q;exact⟨b,a,by rw[hr];exact h1,by rw[hb b (by simp)];exact h2,y8 hm hl cs _ h3,rfl⟩
 |arr fz fl ver s rows=>
  cases fz with
  |true=>exact⟨by rw[hr];exact MG hl _ _ q.1,q.2⟩
  |false=>simp only[xB] at q|-;rw[hr];exact XJ hl hb q
 |dead=>exact q
def EM{k j:Nat}(h:k≠j):Nat.beq k j=false:=by
 cases hb:Nat.beq k j with
 |false=>rfl
 |true=>exact absurd (MB hb) h
def nD{α:Type}(k:Nat)(x:α):∀l:List (Nat×α),get k (put k x l)=some x
 |[]=>by simp[put,get]
 |(j,y)::l=>by
  simp only[put]
  by_cases h:k=j
  ·subst h;simp[get]
  ·have hb:Nat.beq k j=false:=EM h;rw[hb];cases hl:Nat.blt k j with
   |true=>simp[get]
   |false=>simp[get,hb,nD k x l]
def qF{α:Type}{k k':Nat}(hk:k≠k')(x:α):∀l:List (Nat×α),get k (put k' x l)=get k l
 |[]=>by have hb:Nat.beq k k'=false:=EM hk;simp[put,get,hb]
 |(j,y)::l=>by
  have hb:Nat.beq k k'=false:=EM hk;simp only[put]
  by_cases h:k'=j
  ·subst h;simp[get,hb]
  ·have hb':Nat.beq k' j=false:=EM h;rw[hb'];cases hl:Nat.blt k' j with
   |true=>simp[get,hb]
   |false=>simp[get,qF hk x l]
def PW{α:Type}(k:Nat):∀l:List (Nat×α),get k (del k l)=none
 |[]=>rfl
 |(j,y)::l=>by
  simp only[del];cases hb:Nat.beq k j with
  |true=>simpa using PW k l
  |false=>simp[get,hb,PW k l]
def SY{α:Type}{k k':Nat}(hk:k≠k'):∀l:List (Nat×α),get k (del k' l)=get k l
 |[]=>rfl
 |(j,y)::l=>by
  simp only[del];cases hb:Nat.beq k' j with
  |true=>have:k'=j:=MB hb;subst this;have hb:Nat.beq k k'=false:=EM hk;simp[get,hb,SY hk l]
  |false=>simp[get,SY hk l]
def get_put{α:Type}(k k':Nat)(x:α)(l:List (Nat×α)):get k (put k' x l)=if k=k' then some x else get k l:=by
 by_cases h:k=k'
 ·subst h;rw[nD,if_pos rfl]
 ·rw[qF h,if_neg h]
def aBa{α:Type}(k k':Nat)(l:List (Nat×α)):get k (del k' l)=if k=k' then none else get k l:=by
 by_cases h:k=k'
 ·subst h;rw[PW,if_pos rfl]
 ·rw[SY h,if_neg h]
def Acc.run_bind{α β:Type}(a:Acc α)(f:α->Acc β):∀(m:Mem) (l:Log),(a.bind f).run m l=match a.run m l with|some (x,m',l')=>(f x).run m' l'|none=>none:=by
 induction a with
 |ret a=>intro m l;rfl
 |fail=>intro m l;rfl
 |get k c ih=>intro m l;simp only[Acc.bind,Acc.run];exact ih _ _ _
 |set k x c ih=>intro m l;simp only[Acc.bind,Acc.run];exact ih _ _
 |opt o c ih=>intro m l;simp only[Acc.bind,Acc.run];cases o with|none=>rfl|some b=>exact ih b _ _
 |guard b c ih=>intro m l;simp only[Acc.bind,Acc.run];cases b with|true=>exact ih _ _|false=>rfl
def run_bind{α β:Type}(a:Acc α)(f:α->Acc β)(m:Mem)(l:Log):(a>>=f).run m l=match a.run m l with|some (x,m',l')=>(f x).run m' l'|none=>none:=Acc.run_bind a f m l
def aF{α β:Type}{a:Acc α}{f:α->Acc β}{m:Mem}{l:Log}{y:β}{m':Mem}{l':Log}(h:(a>>=f).run m l=some (y,m',l')):
  ∃x m1 l1,a.run m l=some (x,m1,l1)/\(f x).run m1 l1=some (y,m',l'):=by
 rw[run_bind] at h;cases ha:a.run m l with
 |none=>simp[ha] at h
 |some x=>obtain⟨x,m1,l1⟩:=x;rw[ha] at h;exact⟨x,m1,l1,rfl,h⟩
def run_pure{α:Type}(a:α)(m:Mem)(l:Log):(Pure.pure a:Acc α).run m l=some (a,m,l):=rfl
def Gs(k:Nat)(m:Mem)(l:Log):(rd k).run m l=some (get k m,m,l.rd k):=rfl
def UD(k:Nat)(c:Cell)(m:Mem)(l:Log):(wr k c).run m l=some ((),put k c m,l.wr k):=rfl
def jE{b:Bool}{m:Mem}{l:Log}{x:Unit}{m':Mem}{l':Log}(h:(ck b).run m l=some (x,m',l')):b=true/\m'=m/\l'=l:=by cases b<;>simp[ck,Acc.run] at h;exact⟨rfl,h.1.symm,h.2.symm⟩
def nV{β:Type}{o:Option β}{m:Mem}{l:Log}{x:β}{m':Mem}{l':Log}(h:(op' o).run m l=some (x,m',l')):o=some x/\m'=m/\l'=l:=by cases o<;>simp[op',Acc.run] at h;obtain⟨rfl,rfl,rfl⟩:=h;exact⟨rfl,rfl,rfl⟩
def aoF{α:Type}{m:Mem}{l:Log}{r:α×Mem×Log}(h:(Acc.fail:Acc α).run m l=some r):False:=by simp[Acc.run] at h
def aQ{α:Type}{m:Mem}{l:Log}{r:α×Mem×Log}{C:Prop}(h:(Acc.fail:Acc α).run m l=some r):C:=(aoF h).elim
def bck{β:Type}{b:Bool}{f:Unit->Acc β}{m:Mem}{l:Log}{r:β×Mem×Log}(h:(ck b>>=f).run m l=some r):b=true/\(f ()).run m l=some r:=by obtain⟨_,_,_,h1,h2⟩:=aF h;obtain⟨h0,rfl,rfl⟩:=jE h1;exact⟨h0,h2⟩
def bop{α β:Type}{o:Option α}{f:α->Acc β}{m:Mem}{l:Log}{r:β×Mem×Log}(h:(op' o>>=f).run m l=some r):∃x,o=some x/\(f x).run m l=some r:=by obtain⟨x,_,_,h1,h2⟩:=aF h;obtain⟨h0,rfl,rfl⟩:=nV h1;exact⟨x,h0,h2⟩
def rpu{α:Type}{a b:α}{m m':Mem}{l l':Log}(h:(Pure.pure a:Acc α).run m l=some (b,m',l')):a=b/\m=m'/\l=l':=by rw[run_pure] at h;cases h;exact⟨rfl,rfl,rfl⟩
structure aiT(X:Ctx)(h:View):Prop where
 row:∀g row,X.glob g=some row->DK h row g 0
 int:∀g,X.aRO g=true->∃n,h g 0=some (.int .i64 n)
def RJ{X:Ctx}{h h':View}(hl:h.le h')(q:aiT X h):aiT X h':=⟨λg row hg=>Vx hl row g 0 (q.row g row hg),λg hg=>by obtain⟨n,hn⟩:=q.int g hg;exact⟨n,hl _ _ _ hn⟩⟩
def aiU{h:View}:∀(row:Row) (b o:Nat),DK h row b o->uJ h 1 (row.map λx=>[x]) b o
 |[],_,_,_=>trivial
 |x::r,b,o,⟨h1,h2⟩=>⟨rfl,⟨h1,trivial⟩,aiU r b (o+1) h2⟩
end Go.Vm
namespace Go.Vm
open Go
def upF(F:Nat->List Nat)(r:Nat)(N:List Nat):Nat->List Nat:=λk=>if k=r then N else F k
def upM(μ:Nat->Value)(r:Nat)(g:Value):Nat->Value:=λk=>if k=r then g else μ k
@[simp] theorem JG(F:Nat->List Nat)(r:Nat)(N:List Nat):upF F r N r=N:=by simp[upF]
def mZ{F:Nat->List Nat}{r k:Nat}(N:List Nat)(h:k≠r):upF F r N k=F k:=by simp[upF,h]
@[simp] theorem Vz(μ:Nat->Value)(r:Nat)(g:Value):upM μ r g r=g:=by simp[upM]
def XK{μ:Nat->Value}{r k:Nat}(g:Value)(h:k≠r):upM μ r g k=μ k:=by simp[upM,h]
def full(w:World):View:=λb o=>w.cell? ⟨b,o,none⟩
def EX(w:World)(U X:Nat->Prop):(view w U X).le (full w):=by
 intro b o v h;unfold view at h;split at h
 ·exact h
 ·cases h
def WE{w:World}{U U' X X':Nat->Prop}(hU:∀b,U b->U' b)(h:∀b,X' b->X b):(view w U X).le (view w U' X'):=by
 intro b o v hv;unfold view at hv|-;split at hv
 ·rename_i hc;rw[if_pos ⟨hU b hc.1,λhx=>hc.2 (h b hx)⟩];exact hv
 ·cases hv
structure GS where
 μ:Nat->Value
 F:Nat->List Nat
 E:List Nat
 out:List Nat
section
variable (base:Nat) (U:Nat->Prop) (w:World)
def KW(m:Mem)(G:GS):Prop:=MInv base U m w G.μ G.F G.E G.out
noncomputable def Gh(G:GS):View:=view w U (excl G.F G.E)
end
structure GLe(m:Mem)(G:GS)(m':Mem)(G':GS):Prop where
 mem:NI G.μ m G'.μ m'
 ex:∀b,excl G'.F G'.E b->excl G.F G.E b
def GLe.refl(m:Mem)(G:GS):GLe m G m G:=⟨BF _ _,λ_ h=>h⟩
def GLe.trans{m1 m2 m3:Mem}{G1 G2 G3:GS}(h:GLe m1 G1 m2 G2)(k:GLe m2 G2 m3 G3):GLe m1 G1 m3 G3:=
 ⟨Ad h.mem k.mem,λb hb=>h.ex b (k.ex b hb)⟩
def GLe.view{U:Nat->Prop}{w:World}{m m':Mem}{G G':GS}(h:GLe m G m' G'):(Gh U w G).le (Gh U w G'):=WE (λ_ x=>x) h.ex
def GLe.bQ{U:Nat->Prop}{w:World}{m m':Mem}{G G':GS}(h:GLe m G m' G'){v:V}{g:Value}(q:bQ G.μ m (Gh U w G) v g):bQ G'.μ m' (Gh U w G') v g:=
 RH h.mem h.view v g q
def GLe.dX{U:Nat->Prop}{w:World}{m m':Mem}{G G':GS}(h:GLe m G m' G'){v:List V}{g:List Value}(q:dX G.μ m (Gh U w G) v g):dX G'.μ m' (Gh U w G') v g:=
 y8 h.mem h.view v g q
section
variable {base:Nat} {U:Nat->Prop} {w:World} {m:Mem} {G:GS}
def KW.set(hg:KW base U w m G)(r:Nat)(c':Cell)(μ':Nat->Value)(N E' out':List Nat)
  (hs:(N++E').Nodup) (hsub:∀b,b∈N++E'->b∈G.F r\/b∈G.E) (hle:NI G.μ m μ' (put r c' m)) (hμ:∀k,k≠r->μ' k=G.μ k)
  (ho:∀k,k≠r->(k∈out'↔k∈G.out)) (hr:r∈out'->N=[])
  (hc:(view w U (excl G.F G.E)).le (view w U (excl (upF G.F r N) E'))->r ∉ out'->xB μ' (put r c' m) (fZ w) (view w U (excl (upF G.F r N) E')) r c' N):
  KW base U w (put r c' m) ⟨μ',upF G.F r N,E',out'⟩/\GLe m G (put r c' m) ⟨μ',upF G.F r N,E',out'⟩:=by
 have hex:∀b,excl (upF G.F r N) E' b->excl G.F G.E b:=by
  rintro b (hb|⟨k,hb⟩)
  ·rcases hsub b (by simp[hb]) with h|h
   ·exact .inr ⟨r,h⟩
   ·exact .inl h
  ·by_cases hk:k=r
   ·subst hk;rw[JG] at hb;rcases hsub b (by simp[hb]) with h|h
    ·exact .inr ⟨_,h⟩
    ·exact .inl h
   ·rw[mZ N hk] at hb;exact .inr ⟨k,hb⟩
 have hv:(view w U (excl G.F G.E)).le (view w U (excl (upF G.F r N) E')):=WE (λ_ x=>x) hex;have hN:=List.nodup_append.1 hs;refine⟨show MInv base U (put r c' m) w μ' (upF G.F r N) E' out' from ?_,⟨hle,hex⟩⟩;refine⟨?_, ?_, ?_, ?_,hN.2.1,λb hb=>hg.lt b (hex b hb),hg.up,hg.bs, ?_, ?_⟩
 ·intro k c hk hko;rw[get_put] at hk
  by_cases e:k=r
  ·subst e;rw[if_pos rfl] at hk;cases hk;rw[JG];exact hc hv hko
  ·rw[if_neg e] at hk;rw[mZ N e];exact PV hle hv (hμ k e) (λb _=>rfl) (hg.cell k c hk (λh=>hko ((ho k e).2 h)))
 ·intro k k' hne b hb hb'
  by_cases e:k=r
  ·subst e;rw[JG] at hb;rw[mZ N (Ne.symm hne)] at hb';rcases hsub b (by simp[hb]) with h|h
   ·exact hg.dj _ _ hne b h hb'
   ·exact hg.djE _ b hb' h
  ·rw[mZ N e] at hb
   by_cases e':k'=r
   ·subst e';rw[JG] at hb';rcases hsub b (by simp[hb']) with h|h
    ·exact hg.dj _ _ hne b hb h
    ·exact hg.djE _ b hb h
   ·rw[mZ N e'] at hb';exact hg.dj _ _ hne b hb hb'
 ·intro k b hb hE
  by_cases e:k=r
  ·subst e;rw[JG] at hb;exact hN.2.2 b hb b hE rfl
  ·rw[mZ N e] at hb;rcases hsub b (by simp[hE]) with h|h
   ·exact hg.dj _ _ e b hb h
   ·exact hg.djE _ b hb h
 ·intro k
  by_cases e:k=r
  ·subst e;rw[JG];exact hN.1
  ·rw[mZ N e];exact hg.nd k
 ·intro k hk;rw[get_put] at hk
  by_cases e:k=r
  ·rw[if_pos e] at hk;cases hk
  ·rw[if_neg e] at hk;rw[mZ N e];exact hg.none_ k hk
 ·intro k hk
  by_cases e:k=r
  ·subst e;rw[JG];exact hr hk
  ·rw[mZ N e];exact hg.out_ k ((ho k e).1 hk)
def KW.less(hg:KW base U w m G)(E':List Nat)(hn:E'.Nodup)(hs:∀b,b∈E'->b∈G.E):
  KW base U w m {G with E:=E'}/\GLe m G m {G with E:=E'}:=by
 have hex:∀b,excl G.F E' b->excl G.F G.E b:=by
  rintro b (hb|hb)
  ·exact .inl (hs b hb)
  ·exact .inr hb
 have hv:(view w U (excl G.F G.E)).le (view w U (excl G.F E')):=WE (λ_ x=>x) hex;refine⟨⟨?_,hg.dj,λr b hb hE=>hg.djE r b hb (hs b hE),hg.nd,hn,λb hb=>hg.lt b (hex b hb),hg.up,hg.bs,hg.none_,hg.out_⟩,⟨BF _ _,hex⟩⟩;intro r c hc ho;exact PV (BF _ _) hv rfl (λ_ _=>rfl) (hg.cell r c hc ho)
def RN{μ μ':Nat->Value}{r:Nat}{c':Cell}(hμ:∀k,k≠r->μ' k=μ k)(h:∀c,get r m=some c->OZ μ μ' r c c'):NI μ m μ' (put r c' m):=by
 intro k c hk
 by_cases e:k=r
 ·subst e;exact⟨c',nD _ _ _,h c hk⟩
 ·refine⟨c,by rw[qF e];exact hk, ?_⟩;cases c<;>simp[OZ,hμ k e]
def full_cell{b:Nat}{cs:Array Value}{t:TypeId}{fr:Nat×Nat}(h:fZ w b=some (.cells cs t fr))(o:Nat):full w b o=cs.toList[o]? :=by simp only[full,World.cell?];unfold fZ at h;simp[h]
end
def aiV{h:View}{b:Nat}:∀(r:Row) (o:Nat) (cs:List Value),(∀j v,cs[j]? =some v->h b (o+j)=some v)->kV h r cs->DK h r b o
 |[],_,_,_,_=>by simp[DK]
 |x::r,o,cs,hc,⟨v,cs',e,h1,h2⟩=>by subst e;simp only[DK];refine⟨⟨v,hc 0 v rfl,h1⟩,aiV r (o+1) cs' (λj u hj=> ?_) h2⟩;have:=hc (j+1) u (by simpa using hj);rw[show o+1+j=o+(j+1) from by omega];exact this
def ZQ{h:View}{b s:Nat}:∀(rs:List Row) (o:Nat) (cs:List Value),(∀j v,cs[j]? =some v->h b (o+j)=some v)->lQ h s rs cs->uJ h s rs b o
 |[],_,_,_,_=>by simp[uJ]
 |r::rs,o,cs,hc,⟨h1,h2,h3⟩=>by simp only[uJ];refine⟨h1,aiV r o cs hc h2,ZQ rs (o+s) (cs.drop s) (λj u hj=> ?_) h3⟩;rw[List.getElem?_drop] at hj;rw[show o+s+j=o+(s+j) from by omega];exact hc _ _ hj
def afY(h:View)(H:Heap)(N:List Nat):Prop:=∀b,b∈N->∀cs t fr,H b=some (.cells cs t fr)->∀(o:Nat) v,cs.toList[o]? =some v->h b o=some v
def afY.sub{h:View}{H:Heap}{N N':List Nat}(q:afY h H N)(hs:∀b,b∈N'->b∈N):afY h H N':=λb hb=>q b (hs b hb)
mutual
def aDJ{H:Heap}{h h':View}(hl:h.le h'):∀(x:D) (v:Value) (N:List Nat),afY h' H N->ow H h x v N->ro h' x v
 | .int _ _,_,_,_,q=>by simp only[ow] at q;simpa[ro] using q.1
 | .bool _,_,_,_,q=>by simp only[ow] at q;simpa[ro] using q.1
 | .str _,_,_,_,q=>by simp only[ow] at q;simpa[ro] using q.1
 | .Zt,_,_,_,q=>by simp only[ow] at q;simpa[ro] using q.1
 | .sl false s rows,v,N,_,q=>by simp only[ow] at q;have:=MG hl _ _ q.2;simpa[ro] using this
 | .sl true s rows,v,N,hs,q=>by
  simp only[ow] at q;simp only[ro];rcases q with⟨rfl,rfl,rfl⟩|⟨b,cap,cs,t,N',h1,h2,h3,h4,h5,rfl⟩
  ·exact⟨none,0,by simp,by simp,λe=>absurd rfl e⟩
  ·refine⟨_,cap,h1,h2,λ_=>⟨b,0,rfl, ?_⟩⟩;refine ZQ rows 0 cs.toList (λj v hj=>by rw[Nat.zero_add];exact hs b (by simp) cs t _ h3 j v hj) ?_;exact Ue hl s rows cs.toList N' (hs.sub (by simp;exact λ_ hb=> .inr hb)) h5
def Ue{H:Heap}{h h':View}(hl:h.le h')(s:Nat):∀(rows:List Row) (cs:List Value) (N:List Nat),afY h' H N->jO H h s rows cs N->lQ h' s rows cs
 |[],_,_,_,_=>by simp[lQ]
 |r::rs,cs,N,hs,q=>by simp only[jO] at q;obtain⟨h1,N1,N2,rfl,h2,h3⟩:=q;simp only[lQ];exact⟨h1,ad7 hl r cs N1 (hs.sub (by simp;exact λ_ hb=> .inl hb)) h2,Ue hl s rs _ N2 (hs.sub (by simp;exact λ_ hb=> .inr hb)) h3⟩
def ad7{H:Heap}{h h':View}(hl:h.le h'):∀(r:Row) (cs:List Value) (N:List Nat),afY h' H N->mQ H h r cs N->kV h' r cs
 |[],_,_,_,_=>by simp[kV]
 |x::r,cs,N,hs,q=>by simp only[mQ] at q;obtain⟨v,cs',N1,N2,rfl,rfl,h1,h2⟩:=q;simp only[kV];exact⟨v,cs',rfl,aDJ hl x v N1 (hs.sub (by simp;exact λ_ hb=> .inl hb)) h1,ad7 hl r cs' N2 (hs.sub (by simp;exact λ_ hb=> .inr hb)) h2⟩
end
def anp{H:Heap}{h h':View}(hl:h.le h'){fl:Bool}{s:Nat}{rows:List Row}{v:Value}{N:List Nat}(hs:afY h' H N)(q:ad5 H h fl s rows v N)(o:Bool):ro h' (.sl o s rows) v:=by
 simp only[ro];rcases q with⟨rfl,rfl,rfl⟩|⟨b,cap,cs,t,N',h1,h2,h3,h4,h5,rfl⟩
 ·exact⟨none,0,by simp,by simp,λe=>absurd rfl e⟩
 ·refine⟨_,cap,h1,h2,λ_=>⟨b,0,rfl, ?_⟩⟩;refine ZQ rows 0 cs.toList (λj v hj=>by rw[Nat.zero_add];exact hs b (by simp) cs t _ h3 j v hj) ?_;cases fl with
  |true=>exact NY hl s rows _ h5.1
  |false=>exact Ue hl s rows cs.toList N' (hs.sub (by simp;exact λ_ hb=> .inr hb)) h5
def ad8{h:View}{o o':Bool}{s:Nat}{rows:List Row}{v:Value}(q:ro h (.sl o s rows) v):ro h (.sl o' s rows) v:=by simpa[ro] using q
def alQ{w:World}{N:List Nat}:afY (full w) (fZ w) N:=by intro b _ cs t fr hb o v hv;rw[full_cell hb,hv]
def Vs{w:World}{U X:Nat->Prop}{N:List Nat}(hU:∀b,b∈N->U b/\¬X b):afY (view w U X) (fZ w) N:=by intro b hm cs t fr hb o v hv;unfold view;rw[if_pos (hU b hm)];have:=full_cell hb o;rw[hv] at this;exact this
mutual
def awV{h:View}:∀(x:D) (v:Value),ro h x v->ro h x.fz v
 | .int _ _,_,q=>by simpa[D.fz] using q
 | .bool _,_,q=>by simpa[D.fz] using q
 | .str _,_,q=>by simpa[D.fz] using q
 | .Zt,_,q=>by simpa[D.fz] using q
 | .sl own s rows,v,q=>by
  simp only[D.fz,ro] at q|-;obtain⟨a,cap,h1,h2,h3⟩:=q;have hlen:(au rows).length=rows.length:=Xl rows;refine⟨a,cap,by rw[hlen];exact h1,by rw[hlen];exact h2,λhn=> ?_⟩;have hn':rows≠[]:=by intro e;subst e;exact hn rfl
  obtain⟨b,o,h4,h5⟩:=h3 hn';exact⟨b,o,h4,alR s rows b o h5⟩
def Xl:∀rows:List Row,(au rows).length=rows.length
 |[]=>rfl
 |r::rs=>by simp[au,Xl rs]
def Yx:∀r:Row,(EK r).length=r.length
 |[]=>rfl
 |x::r=>by simp[EK,Yx r]
def alR{h:View}(s:Nat):∀(rows:List Row) (b o:Nat),uJ h s rows b o->uJ h s (au rows) b o
 |[],_,_,_=>by simp[au,uJ]
 |r::rs,b,o,q=>by simp only[au,uJ] at q|-;exact⟨by rw[Yx];exact q.1,aoG r b o q.2.1,alR s rs b (o+s) q.2.2⟩
def aoG{h:View}:∀(r:Row) (b o:Nat),DK h r b o->DK h (EK r) b o
 |[],_,_,_=>by simp[EK,DK]
 |x::r,b,o,q=>by simp only[EK,DK] at q|-;obtain⟨⟨v,h1,h2⟩,h3⟩:=q;exact⟨⟨v,h1,awV x v h2⟩,aoG r b (o+1) h3⟩
end
def aiW{h:View}{fl:Bool}{o:Bool}{s:Nat}{rows:List Row}{v:Value}(q:ro h (.sl o s rows) v):ro h (.sl false s (vw fl rows)) v:=by
 unfold vw;cases fl with
 |true=>exact ad8 q
 |false=>simpa[D.fz] using awV _ _ q
def awW{h:View}{x:D}{v:Value}(q:ro h x v):ro h (roD x) v:=by cases x<;>simpa[roD,ro] using q
def awX{H:Heap}{h:View}{x:D}{v:Value}(q:ro h x v):ow H h (roD x) v []:=by cases x<;>simp[roD,ow,ro] at q|-<;>exact q
def aBb{H:Heap}{h:View}{x:D}{v:Value}(hf:x.flat=true)(q:ro h x v):ow H h x v []:=by cases x<;>simp[D.flat,ow,ro] at hf q|-<;>exact q
def aiX{H:Heap}{h:View}:∀(r:Row) (cs:List Value),(r.all D.flat)=true->kV h r cs->mQ H h r cs []
 |[],_,_,_=>by simp[mQ]
 |x::r,cs,hf,⟨v,cs',e,h1,h2⟩=>by simp only[List.all_cons,PO] at hf;simp only[mQ];exact⟨v,cs',[],[],e,rfl,aBb hf.1 h1,aiX r cs' hf.2 h2⟩
def ag7{H:Heap}{h:View}(s:Nat):∀(rs:List Row) (cs:List Value),ah rs=true->lQ h s rs cs->jO H h s rs cs []
 |[],_,_,_=>by simp[jO]
 |r::rs,cs,hf,⟨h1,h2,h3⟩=>by simp only[ah,List.all_cons,PO] at hf;simp only[jO];exact⟨h1,[],[],rfl,aiX r cs hf.1 h2,ag7 s rs _ hf.2 h3⟩
def ath{H:Heap}{h:View}{fl:Bool}{s:Nat}{rows:List Row}{v:Value}{N:List Nat}(ho:atf fl rows=true)(q:ad5 H h fl s rows v N):ow H h (.sl true s rows) v N:=by
 simp only[ow];rcases q with q|⟨b,cap,cs,t,N',h1,h2,h3,h4,h5,rfl⟩
 ·exact .inl q
 ·refine .inr ⟨b,cap,cs,t,N',h1,h2,h3,h4, ?_,rfl⟩;cases fl with
  |true=>obtain⟨h5,rfl⟩:=h5;exact ag7 s rows _ (by simpa[atf] using ho) h5
  |false=>exact h5
def aBd{H:Heap}{h:View}{s:Nat}{rows:List Row}{v:Value}{N:List Nat}(q:ow H h (.sl true s rows) v N):ad5 H h false s rows v N:=by simpa[ow,ad5] using q
def arI{H:Heap}{h:View}{s:Nat}{rows:List Row}{v:Value}{N:List Nat}(q:ow H h (.sl true s rows) v N):
  ∃N1 N2,N=N1++N2/\∀h',h.le h'->afY h' H N2->ad5 H h' true s rows v N1:=by
 simp only[ow] at q;rcases q with⟨rfl,rfl,rfl⟩|⟨b,cap,cs,t,N',h1,h2,h3,h4,h5,rfl⟩
 ·exact⟨[],[],rfl,λ_ _ _=> .inl ⟨rfl,rfl,rfl⟩⟩
 ·exact⟨[b],N',rfl,λh' hl hs=> .inr ⟨b,cap,cs,t,[],h1,h2,h3,h4,⟨Ue hl s rows _ N' hs h5,rfl⟩,rfl⟩⟩
end Go.Vm
namespace Go.Vm
open Go
section
variable {base:Nat} {U:Nat->Prop} {w:World} {m:Mem} {G:GS}
def KW.kill(hg:KW base U w m G){r:Nat}{fl:Bool}{ver s:Nat}{rows:List Row}(hc:get r m=some (.arr false fl ver s rows))(hro:r ∉ G.out):
  KW base U w (put r .dead m) ⟨G.μ,upF G.F r [],G.E++G.F r,G.out⟩/\GLe m G (put r .dead m) ⟨G.μ,upF G.F r [],G.E++G.F r,G.out⟩/\
   ad5 (fZ w) (Gh U w G) fl s rows (G.μ r) (G.F r):=by
 have h1:=hg.set r .dead G.μ [] (G.E++G.F r) G.out
  (by simpa using List.nodup_append.2 ⟨hg.ndE,hg.nd r,λa ha b hb e=>hg.djE r b hb (e ▸ ha)⟩)
  (by simp;exact λb hb=>hb.symm) (RN (λ_ _=>rfl) (λc h=>by rw[hc] at h;cases h;trivial)) (λ_ _=>rfl) (λ_ _=>Iff.rfl) (λ_=>rfl) (λ_ _=>rfl)
 exact⟨h1.1,h1.2,hg.cell r _ hc hro⟩
def KW.freeze(hg:KW base U w m G){r:Nat}{fz fl:Bool}{ver s:Nat}{rows:List Row}(hc:get r m=some (.arr fz fl ver s rows))(hro:r ∉ G.out):
  KW base U w (put r (.arr true fl ver s rows) m) ⟨G.μ,upF G.F r [],G.E,G.out⟩/\GLe m G (put r (.arr true fl ver s rows) m) ⟨G.μ,upF G.F r [],G.E,G.out⟩/\
   ro (Gh U w ⟨G.μ,upF G.F r [],G.E,G.out⟩) (.sl true s rows) (G.μ r):=by
 have hle:NI G.μ m G.μ (put r (.arr true fl ver s rows) m):=RN (λ_ _=>rfl) (λc h=>by rw[hc] at h;cases h;exact⟨Nat.le_refl _,rfl,λ_=>⟨rfl,rfl⟩⟩);have aHz:(view w U (excl G.F G.E)).le (view w U (excl (upF G.F r []) G.E))->ro (view w U (excl (upF G.F r []) G.E)) (.sl true s rows) (G.μ r):=by
  intro hv;have hq:=hg.cell r _ hc hro;cases fz with
  |true=>exact MG hv _ _ hq.1
  |false=>
   refine anp hv (Vs λb hb=>⟨(hg.lt b (.inr ⟨r,hb⟩)).2.2, ?_⟩) hq true;rintro(hE|⟨k,hk⟩)
   ·exact hg.djE r b hb hE
   ·by_cases e:k=r
    ·subst e;simp at hk
    ·rw[mZ _ e] at hk;exact hg.dj r k (Ne.symm e) b hb hk
 have h1:=hg.set r (.arr true fl ver s rows) G.μ [] G.E G.out (by simpa using hg.ndE) (by simp;exact λb hb=> .inr hb) hle (λ_ _=>rfl) (λ_ _=>Iff.rfl) (λ_=>rfl)
  (λhv _=>⟨aHz hv,rfl⟩)
 exact⟨h1.1,h1.2,aHz h1.2.view⟩
def KW.aEK(hg:KW base U w m G){k:Nat}(fl:Bool){s:Nat}{rows:List Row}{g:Value}{N E:List Nat}(hn:get k m=none)(hk:k ∉ G.out)(hE:(N++E).Perm G.E)
  (hq:ow (fZ w) (Gh U w G) (.sl true s rows) g N):
  ∃F',KW base U w (put k (.arr false fl 0 s rows) m) ⟨upM G.μ k g,F',E,G.out⟩/\GLe m G (put k (.arr false fl 0 s rows) m) ⟨upM G.μ k g,F',E,G.out⟩:=by
 have hnd:=hE.nodup_iff.2 hg.ndE;have hmem:∀b,b∈N++E->b∈G.E:=λb hb=>hE.mem_iff.1 hb
 have hμ:∀j,j≠k->upM G.μ k g j=G.μ j:=λj e=>XK g e
 have hle:∀c',NI G.μ m (upM G.μ k g) (put k c' m):=λc'=>RN hμ (λc h=>by rw[hn] at h;cases h)
 cases fl with
 |false=>refine⟨_,hg.set k (.arr false false 0 s rows) (upM G.μ k g) N E G.out hnd (λb hb=> .inr (hmem b hb)) (hle _) hμ (λ_ _=>Iff.rfl) (λh=>absurd h hk) (λhv _=> ?_)⟩;simp only[xB,Vz];exact XJ hv (λ_ _=>rfl) (aBd hq)
 |true=>
  obtain⟨N1,N2,rfl,h2⟩:=arI hq;have hnd':(N1++E).Nodup:=by rw[XG] at hnd;have:=List.nodup_append.1 hnd;exact List.nodup_append.2 ⟨this.1,(List.nodup_append.1 this.2.1).2.1,λa ha b hb=>this.2.2 a ha b (by simp[hb])⟩
  refine⟨_,hg.set k (.arr false true 0 s rows) (upM G.μ k g) N1 E G.out hnd' (λb hb=> .inr (hmem b (by simp at hb|-;rcases hb with h|h<;>simp[h]))) (hle _) hμ (λ_ _=>Iff.rfl) (λh=>absurd h hk) (λhv _=> ?_)⟩;simp only[xB,Vz];refine h2 _ hv (Vs λb hb=>⟨(hg.lt b (.inl (hmem b (by simp[hb])))).2.2, ?_⟩);rw[XG] at hnd;have hd:=List.nodup_append.1 hnd;have hd2:=List.nodup_append.1 hd.2.1;rintro(hE'|⟨j,hj⟩)
  ·exact hd2.2.2 b hb b hE' rfl
  ·by_cases e:j=k
   ·subst e;rw[JG] at hj;exact hd.2.2 b hj b (by simp[hb]) rfl
   ·rw[mZ _ e] at hj;exact hg.djE j b hj (hmem b (by simp[hb]))
structure Rk(base:Nat)(U:Nat->Prop)(w:World)(m:Mem)(G:GS)(m':Mem)(G':GS)(N:List Nat):Prop where
 ok:KW base U w m' G'
 le:GLe m G m' G'
 E:G'.E=G.E++N
 out:G'.out=G.out
 μ:G'.μ=G.μ
def Rk.same(hg:KW base U w m G):Rk base U w m G m G []:=⟨hg,GLe.refl _ _,by simp,rfl,rfl⟩
def Rk.trans{m1 m2 m3:Mem}{G1 G2 G3:GS}{N N':List Nat}(a:Rk base U w m1 G1 m2 G2 N)(b:Rk base U w m2 G2 m3 G3 N'):Rk base U w m1 G1 m3 G3 (N++N'):=
 ⟨b.ok,a.le.trans b.le,by rw[b.E,a.E,XG],b.out.trans a.out,b.μ.trans a.μ⟩
def abS{H:Heap}{h h':View}(hl:h.le h'){x:D}{v:Value}{N:List Nat}(q:ow H h x v N):ow H h' x v N:=ano hl x v N (λ_ _=>rfl) q
def awY(hg:KW base U w m G){v:V}{g:Value}(hv:bQ G.μ m (Gh U w G) v g)(ho:G.out=[]){x:D}{m':Mem}{l l':Log}(h:(toD v).run m l=some (x,m',l')):
  ∃G' N,Rk base U w m G m' G' N/\ow (fZ w) (Gh U w G') x g N:=by
 cases v with
 |d y=>simp only[toD,run_pure,oL,uI] at h;obtain⟨rfl,rfl,rfl⟩:=h;exact⟨G,[],Rk.same hg,awX (by simpa[bQ] using hv)⟩
 |nil s=>simp only[toD,run_pure,oL,uI] at h;obtain⟨rfl,rfl,rfl⟩:=h;refine⟨G,[],Rk.same hg, ?_⟩;simp only[bQ] at hv;simp[ow,hv]
 |own r ver=>
  simp only[toD] at h;replace h:=aF h;obtain⟨c,m1,l1,h1,h⟩:=h;rw[Gs] at h1;cases h1;cases hc:get r m with
  |none=>rw[hc] at h;exact aQ h
  |some c=>
   rw[hc] at h;cases c with
   |arr fz fl wZ s rows=>
    simp only at h;replace h:=aF h;obtain⟨_,m2,l2,h1,h⟩:=h;obtain⟨hb,rfl,rfl⟩:=jE h1;have hb:=MB hb;subst hb;simp only[bQ,hc] at hv;have hv:=hv.2.2 trivial;subst hv;have hro:r ∉ G.out:=by simp[ho]
    cases fz with
    |true=>simp only[run_pure,oL,uI] at h;obtain⟨rfl,rfl,rfl⟩:=h;refine⟨G,[],Rk.same hg, ?_⟩;have hq:=(hg.cell r _ hc hro).1;simp only[ow,true_and];exact aiW hq
    |false=>simp only at h;replace h:=aF h;obtain⟨_,m2,l2,h1,h⟩:=h;obtain⟨hok,rfl,rfl⟩:=jE h1;replace h:=aF h;obtain⟨_,m3,l3,h1,h⟩:=h;rw[UD] at h1;cases h1;simp only[run_pure,oL,uI] at h;obtain⟨rfl,rfl,rfl⟩:=h;obtain⟨k1,k2,k3⟩:=hg.kill hc hro;exact⟨_,G.F r,⟨k1,k2,rfl,rfl,rfl⟩,abS k2.view (ath hok k3)⟩
   |_=>exact aQ h
 |_=>exact aQ h
def xC{μ:Nat->Value}{h:View}{v:V}{vs:List V}{gs:List Value}(q:dX μ m h (v::vs) gs):∃g gs',gs=g::gs'/\bQ μ m h v g/\dX μ m h vs gs':=by simpa[dX] using q
def nG{μ:Nat->Value}{h:View}:∀{vs:List V} {gs:List Value},dX μ m h vs gs->gs.length=vs.length
 |[],gs,q=>by simp[dX] at q;simp[q]
 |v::vs,gs,q=>by obtain⟨g,gs',rfl,_,h3⟩:=xC q;simp[nG h3]
def Yy{H:Heap}{h h':View}(hl:h.le h'){x:Row}{v:List Value}{N:List Nat}(q:mQ H h x v N):mQ H h' x v N:=Vy hl x v N (λ_ _=>rfl) q
def aoH{H:Heap}{h h':View}(hl:h.le h'){s:Nat}{x:List Row}{v:List Value}{N:List Nat}(q:jO H h s x v N):jO H h' s x v N:=KY hl s x v N (λ_ _=>rfl) q
def XL:∀{vs:List V} {gs:List Value} {m:Mem} {G:GS} (_:KW base U w m G) (_:dX G.μ m (Gh U w G) vs gs) (_:G.out=[]) {xs:Row} {m':Mem} {l l':Log} (_:(Y7 vs).run m l=some (xs,m',l')),
  ∃G' N,Rk base U w m G m' G' N/\mQ (fZ w) (Gh U w G') xs gs N/\xs.length=vs.length
 |[],gs,m,G,hg,hv,ho,xs,m',l,l',h=>by simp only[Y7,run_pure,oL,uI] at h;obtain⟨rfl,rfl,rfl⟩:=h;exact⟨G,[],Rk.same hg,by simp[mQ],rfl⟩
 |v::vs,gs,m,G,hg,hv,ho,xs,m',l,l',h=>by obtain⟨g,gs',rfl,hv1,hv2⟩:=xC hv;simp only[Y7] at h;replace h:=aF h;obtain⟨x,m1,l1,h1,h⟩:=h;replace h:=aF h;obtain⟨ys,m2,l2,h2,h⟩:=h;obtain⟨rfl,rfl,rfl⟩:=rpu h;obtain⟨G1,N1,t1,q1⟩:=awY hg hv1 ho h1;obtain⟨G2,N2,t2,q2,hlen⟩:=XL t1.ok (t1.le.dX hv2) (t1.out.trans ho) h2;refine⟨G2,N1++N2,t1.trans t2, ?_,by simp[hlen]⟩;simp only[mQ];exact⟨g,gs',N1,N2,rfl,rfl,abS t2.le.view q1,q2⟩
end
end Go.Vm
namespace Go.Vm
open Go
section
variable {base:Nat} {U:Nat->Prop} {w:World} {m:Mem} {G:GS}
def KW.look(hg:KW base U w m G){r:Nat}{fz fl:Bool}{ver s:Nat}{rows:List Row}(hc:get r m=some (.arr fz fl ver s rows))(hro:r ∉ G.out)(o:Bool):ro (full w) (.sl o s rows) (G.μ r):=by
 have hq:=hg.cell r _ hc hro;cases fz with
 |true=>exact ad8 (MG (EX _ _ _) _ _ hq.1)
 |false=>exact anp (EX _ _ _) alQ hq o
def aBe(hg:KW base U w m G){v:V}{g:Value}(hv:bQ G.μ m (Gh U w G) v g)(ho:G.out=[]){s:Nat}{rows:List Row}{m':Mem}{l l':Log}(h:(seen v).run m l=some ((s,rows),m',l')):
  m'=m/\ro (full w) (.sl false s rows) g:=by
 cases v with
 |d y=>
  cases y with
  |sl own s' rows'=>simp only[seen,run_pure,oL,uI] at h;obtain⟨⟨rfl,rfl⟩,rfl,rfl⟩:=h;simp only[bQ] at hv;exact⟨rfl,ad8 (MG (EX _ _ _) _ _ hv)⟩
  |_=>exact aQ h
 |nil s'=>simp only[seen,run_pure,oL,uI] at h;obtain⟨⟨rfl,rfl⟩,rfl,rfl⟩:=h;simp only[bQ] at hv;exact⟨rfl,by simp[ro,hv]⟩
 |own r ver=>
  simp only[seen] at h;replace h:=aF h;obtain⟨c,m1,l1,h1,h⟩:=h;rw[Gs] at h1;cases h1;cases hc:get r m with
  |none=>rw[hc] at h;exact aQ h
  |some c=>
   rw[hc] at h;cases c with
   |arr fz fl wZ s' rows'=>simp only at h;replace h:=aF h;obtain⟨_,m2,l2,h1,h⟩:=h;obtain⟨hb,rfl,rfl⟩:=jE h1;have hb:=MB hb;subst hb;simp only[run_pure,oL,uI] at h;obtain⟨⟨rfl,rfl⟩,rfl,rfl⟩:=h;simp only[bQ,hc] at hv;have hv:=hv.2.2 trivial;subst hv;exact⟨rfl,aiW (hg.look hc (by simp[ho]) true)⟩
   |_=>exact aQ h
 |_=>exact aQ h
def PX(k:Nat):∀l:List Nat,mem? k l=true↔k∈l
 |[]=>by simp[mem?]
 |j::l=>by
  simp only[mem?,List.mem_cons]
  by_cases e:k=j
  ·subst e;simp
  ·rw[EM e];simp[e,PX k l]
def XM{k:Nat}{l:List Nat}(h:(!(mem? k l))=true):k ∉ l:=by intro hk;rw[(PX k l).2 hk] at h;cases h
def aBf(hg:KW base U w m G){v:V}{g:Value}(hv:bQ G.μ m (Gh U w G) v g){imp:List Nat}(ho:∀r,r∈G.out->r∈imp){own:Bool}{v':V}{m':Mem}{l l':Log}(h:(awR imp own v).run m l=some (v',m',l')):
  ∃G' N x,v'=.d x/\Rk base U w m G m' G' N/\ow (fZ w) (Gh U w G') x g N/\∀k,k∈imp->get k m'=get k m:=by
 cases v with
 |d y=>simp only[awR,run_pure,oL,uI] at h;obtain⟨rfl,rfl,rfl⟩:=h;exact⟨G,[],_,rfl,Rk.same hg,awX (by simpa[bQ] using hv),λ_ _=>rfl⟩
 |nil s=>simp only[awR,run_pure,oL,uI] at h;obtain⟨rfl,rfl,rfl⟩:=h;refine⟨G,[],_,rfl,Rk.same hg, ?_,λ_ _=>rfl⟩;simp only[bQ] at hv;cases own<;>simp[ow,ro,hv]
 |own r ver=>
  simp only[awR] at h;replace h:=aF h;obtain⟨c,m1,l1,h1,h⟩:=h;rw[Gs] at h1;cases h1;cases hc:get r m with
  |none=>rw[hc] at h;exact aQ h
  |some c=>
   rw[hc] at h;cases c with
   |arr fz fl wZ s rows=>
    simp only at h;replace h:=aF h;obtain⟨_,m2,l2,h1,h⟩:=h;obtain⟨hb,rfl,rfl⟩:=jE h1;have hb:=MB hb;subst hb;replace h:=aF h;obtain⟨_,m2,l2,h1,h⟩:=h;obtain⟨hi,rfl,rfl⟩:=jE h1;simp only[bQ,hc] at hv;have hv:=hv.2.2 trivial;subst hv;have hro:r ∉ G.out:=λhr=>XM hi (ho r hr)
    have hni:∀k,k∈imp->k≠r:=λk hk e=>XM hi (e ▸ hk)
    cases own with
    |false=>simp only at h;replace h:=aF h;obtain⟨_,m3,l3,h1,h⟩:=h;rw[UD] at h1;cases h1;simp only[run_pure,oL,uI] at h;obtain⟨rfl,rfl,rfl⟩:=h;obtain⟨k1,k2,k3⟩:=hg.freeze hc hro;refine⟨_,[],_,rfl,⟨k1,k2,by simp,rfl,rfl⟩, ?_,λk hk=>qF (hni k hk) _ _⟩;simp only[ow,true_and];exact aiW k3
    |true=>
     simp only at h;replace h:=aF h;obtain⟨_,m2,l2,h1,h⟩:=h;obtain⟨hfz,rfl,rfl⟩:=jE h1;replace h:=aF h;obtain⟨_,m2,l2,h1,h⟩:=h;obtain⟨hok,rfl,rfl⟩:=jE h1;have hfz:fz=false:=by simpa using hfz
     subst hfz;replace h:=aF h;obtain⟨_,m3,l3,h1,h⟩:=h;rw[UD] at h1;cases h1;simp only[run_pure,oL,uI] at h;obtain⟨rfl,rfl,rfl⟩:=h;obtain⟨k1,k2,k3⟩:=hg.kill hc hro;exact⟨_,G.F r,_,rfl,⟨k1,k2,rfl,rfl,rfl⟩,abS k2.view (ath hok k3),λk hk=>qF (hni k hk) _ _⟩
   |_=>exact aQ h
 |_=>exact aQ h
def ag8{imp own:List Nat}:∀{vs:List V} {gs:List Value} {m:Mem} {G:GS} {j:Nat} (_:KW base U w m G) (_:dX G.μ m (Gh U w G) vs gs) (_:∀r,r∈G.out->r∈imp) {vs':List V} {m':Mem} {l l':Log}
  (_:(ZI imp own j vs).run m l=some (vs',m',l')),∃G' N xs,vs'=xs.map V.d/\xs.length=gs.length/\Rk base U w m G m' G' N/\mQ (fZ w) (Gh U w G') xs gs N/\∀k,k∈imp->get k m'=get k m
 |[],gs,m,G,j,hg,hv,ho,vs',m',l,l',h=>by simp only[ZI,run_pure,oL,uI] at h;obtain⟨rfl,rfl,rfl⟩:=h;simp only[dX] at hv;subst hv;exact⟨G,[],[],rfl,rfl,Rk.same hg,by simp[mQ],λ_ _=>rfl⟩
 |v::vs,gs,m,G,j,hg,hv,ho,vs',m',l,l',h=>by obtain⟨g,gs',rfl,hv1,hv2⟩:=xC hv;simp only[ZI] at h;replace h:=aF h;obtain⟨x,m1,l1,h1,h⟩:=h;replace h:=aF h;obtain⟨ys,m2,l2,h2,h⟩:=h;obtain⟨rfl,rfl,rfl⟩:=rpu h;obtain⟨G1,N1,x1,rfl,t1,q1,i1⟩:=aBf hg hv1 ho h1;obtain⟨G2,N2,xs,rfl,hlen,t2,q2,i2⟩:=ag8 t1.ok (t1.le.dX hv2) (λr hr=>ho r (t1.out ▸ hr)) h2;refine⟨G2,N1++N2,x1::xs,rfl,by simp[hlen],t1.trans t2, ?_,λk hk=>(i2 k hk).trans (i1 k hk)⟩;simp only[mQ];exact⟨g,gs',N1,N2,rfl,rfl,abS t2.le.view q1,q2⟩
def aoI(H:Heap)(h:View):Cell->Value->List Nat->Prop
 | .box t vs,g,N=>∃b a xs N',g=.pointer (some ⟨b,0,none⟩)/\H b=some (.cells a t (0,0))/\vs=xs.map V.d/\xs.length=a.toList.length/\mQ H h xs a.toList N'/\N=b::N'
 | .arr fz fl ver s rows,g,N=>fz=false/\ver=0/\ad5 H h fl s rows g N
 | .dead,_,_=>False
def cellsB(H:Heap)(h:View):List Cell->List Value->List Nat->Prop
 |[],gs,N=>gs=[]/\N=[]
 |c::cs,gs,N=>∃g gs' N1 N2,gs=g::gs'/\N=N1++N2/\aoI H h c g N1/\cellsB H h cs gs' N2
def aiY{H H':Heap}{h h':View}(hl:h.le h'){c:Cell}{g:Value}{N:List Nat}(hb:∀b,b∈N->H' b=H b)(q:aoI H h c g N):aoI H' h' c g N:=by
 cases c with
 |box t vs=>obtain⟨b,a,xs,N',h1,h2,h3,h4,h5,rfl⟩:=q;exact⟨b,a,xs,N',h1,by rw[hb b (by simp)];exact h2,h3,h4,Vy hl _ _ _ (λb' hb'=>hb b' (by simp[hb'])) h5,rfl⟩
 |arr fz fl ver s rows=>exact⟨q.1,q.2.1,XJ hl hb q.2.2⟩
 |dead=>exact q
def ag9{H H':Heap}{h h':View}(hl:h.le h'):∀{cs:List Cell} {gs:List Value} {N:List Nat},(∀b,b∈N->H' b=H b)->cellsB H h cs gs N->cellsB H' h' cs gs N
 |[],_,_,_,q=>q
 |c::cs,_,_,hb,⟨g,gs',N1,N2,h1,h2,h3,h4⟩=>by subst h2;exact⟨g,gs',N1,N2,h1,rfl,aiY hl (λb hx=>hb b (by simp[hx])) h3,ag9 hl (λb hx=>hb b (by simp[hx])) h4⟩
def KW.aDK(hg:KW base U w m G){r:Nat}{c:Cell}(hc:get r m=some c)(hro:r ∉ G.out):
  KW base U w m ⟨G.μ,upF G.F r [],G.E++G.F r,r::G.out⟩/\GLe m G m ⟨G.μ,upF G.F r [],G.E++G.F r,r::G.out⟩:=by
 have hex:∀b,excl (upF G.F r []) (G.E++G.F r) b->excl G.F G.E b:=by
  rintro b (hb|⟨k,hb⟩)
  ·simp only[List.mem_append] at hb;rcases hb with h|h
   ·exact .inl h
   ·exact .inr ⟨r,h⟩
  ·by_cases e:k=r
   ·subst e;simp at hb
   ·rw[mZ _ e] at hb;exact .inr ⟨k,hb⟩
 have hv:(view w U (excl G.F G.E)).le (view w U (excl (upF G.F r []) (G.E++G.F r))):=WE (λ_ x=>x) hex;refine⟨show MInv base U m w G.μ (upF G.F r []) (G.E++G.F r) (r::G.out) from ?_,⟨BF _ _,hex⟩⟩;refine⟨?_, ?_, ?_, ?_,List.nodup_append.2 ⟨hg.ndE,hg.nd r,λa ha b hb e=>hg.djE r b hb (e ▸ ha)⟩,λb hb=>hg.lt b (hex b hb),hg.up,hg.bs, ?_, ?_⟩
 ·intro k c hk hko;simp only[List.mem_cons,not_or] at hko;rw[mZ _ hko.1];exact PV (BF _ _) hv rfl (λ_ _=>rfl) (hg.cell k c hk hko.2)
 ·intro k k' hne b hb hb'
  by_cases e:k=r
  ·subst e;simp at hb
  ·rw[mZ _ e] at hb
   by_cases e':k'=r
   ·subst e';simp at hb'
   ·rw[mZ _ e'] at hb';exact hg.dj _ _ hne b hb hb'
 ·intro k b hb hE
  by_cases e:k=r
  ·subst e;simp at hb
  ·rw[mZ _ e] at hb;simp only[List.mem_append] at hE;rcases hE with h|h
   ·exact hg.djE _ b hb h
   ·exact hg.dj _ _ e b hb h
 ·intro k
  by_cases e:k=r
  ·subst e;simp
  ·rw[mZ _ e];exact hg.nd k
 ·intro k hk
  by_cases e:k=r
  ·subst e;simp
  ·rw[mZ _ e];exact hg.none_ k hk
 ·intro k hk
  by_cases e:k=r
  ·subst e;simp
  ·rw[mZ _ e];exact hg.out_ k (by simpa[e] using hk)
structure Out(base:Nat)(U:Nat->Prop)(w:World)(m:Mem)(G:GS)(m':Mem)(G':GS)(imp rs:List Nat)(N:List Nat):Prop where
 ok:KW base U w m' G'
 le:GLe m G m' G'
 E:G'.E=G.E++N
 out:∀r,r∈G'.out↔r∈G.out\/r∈rs
 μ:G'.μ=G.μ
 here:∀k,k∈imp->get k m'=get k m
def sameKind:Cell->Cell->Prop
 | .box t _,.box t' _=>t=t'
 | .arr _ fl ver s _,.arr _ fl' wZ s' _=>ver=0/\wZ=0/\fl=fl'/\s=s'
 |_,_=>False
def kinds(m:Mem):List Nat->List Cell->Prop
 |[],cs=>cs=[]
 |r::rs,cs=>∃c c' cs',cs=c'::cs'/\get r m=some c/\sameKind c c'/\kinds m rs cs'
def ae2{m m':Mem}:∀{rs:List Nat} {cs:List Cell},(∀r,r∈rs->get r m'=get r m)->kinds m rs cs->kinds m' rs cs
 |[],_,_,q=>q
 |r::rs,_,h,⟨c,c',cs',h1,h2,h3,h4⟩=>⟨c,c',cs',h1,(h r (by simp)).trans h2,h3,ae2 (λk hk=>h k (by simp[hk])) h4⟩
def afZ{A:Adv}{imp:List Nat}:∀{rs:List Nat} {m:Mem} {G:GS} (_:KW base U w m G) (_:rs.Nodup) (_:∀r,r∈rs->r∈imp/\r ∉ G.out) (_:∀r,r∈G.out->r∈imp) {cs:List Cell} {m':Mem} {l l':Log}
  (_:(ZJ A imp rs).run m l=some (cs,m',l')),∃G' N,Out base U w m G m' G' imp rs N/\cellsB (fZ w) (Gh U w G') cs (rs.map G.μ) N/\kinds m rs cs
 |[],m,G,hg,hn,hr,ho,cs,m',l,l',h=>by simp only[ZJ,run_pure,oL,uI] at h;obtain⟨rfl,rfl,rfl⟩:=h;exact⟨G,[],⟨hg,GLe.refl _ _,by simp,λr=>by simp,rfl,λ_ _=>rfl⟩,⟨rfl,rfl⟩,rfl⟩
 |r::rs,m,G,hg,hn,hr,ho,cs,m',l,l',h=>by
  simp only[ZJ] at h;replace h:=aF h;obtain⟨c,m1,l1,h1,h⟩:=h;rw[Gs] at h1;cases h1;replace h:=aF h;obtain⟨c1,m1,l1,h1,h⟩:=h;replace h:=aF h;obtain⟨cs1,m2,l2,h2,h⟩:=h;obtain⟨rfl,rfl,rfl⟩:=rpu h;have hri:=hr r (by simp);have hnr:=List.nodup_cons.1 hn;have step:∃G' N,Out base U w m G m1 G' imp [r] N/\aoI (fZ w) (Gh U w G') c1 (G.μ r) N/\∃c,get r m=some c/\sameKind c c1:=by
   cases hc:get r m with
   |none=>rw[hc] at h1;exact aQ h1
   |some c=>
    rw[hc] at h1;have hq:=hg.cell r c hc hri.2;obtain⟨k1,k2⟩:=hg.aDK hc hri.2;cases c with
    |box t vs=>
     simp only[atg] at h1;replace h1:=aF h1;obtain⟨vs',m3,l3,h3,h1⟩:=h1;obtain⟨rfl,rfl,rfl⟩:=rpu h1;obtain⟨b,a,e1,e2,e3,e4⟩:=hq;obtain⟨G2,N2,xs,rfl,hlen,t2,q2,i2⟩:=ag8 k1 (k2.dX e3) (λk hk=>by
      simp only[List.mem_cons] at hk;rcases hk with rfl|hk
      ·exact hri.1
      ·exact ho k hk) h3
     refine⟨G2,b::N2,⟨t2.ok,k2.trans t2.le,by rw[t2.E,e4];simp,λk=>by rw[t2.out];simp[or_comm],t2.μ,i2⟩,⟨b,a,xs,N2,e1,e2,rfl,hlen,q2,rfl⟩,_,rfl,rfl⟩
    |_=>exact aQ h1
  obtain⟨G1,N1,o1,q1,c0,hc0,hk0⟩:=step;obtain⟨G2,N2,o2,q2,kd2⟩:=afZ o1.ok hnr.2 (λk hk=>⟨(hr k (by simp[hk])).1,λhko=>by
   rcases(o1.out k).1 hko with h|h
   ·exact(hr k (by simp[hk])).2 h
   ·simp at h;subst h;exact hnr.1 hk⟩) (λk hk=>by
   rcases(o1.out k).1 hk with h|h
   ·exact ho k h
   ·simp at h;subst h;exact hri.1) h2
  refine⟨G2,N1++N2,⟨o2.ok,o1.le.trans o2.le,by rw[o2.E,o1.E,XG],λk=> ?_,o2.μ.trans o1.μ,λk hk=>(o2.here k hk).trans (o1.here k hk)⟩,⟨G.μ r,rs.map G.μ,N1,N2,rfl,rfl,aiY o2.le.view (λ_ _=>rfl) q1,by rw[<-o1.μ];exact q2⟩,c0,c1,cs1,rfl,hc0,hk0,ae2 (λk hk=>(o1.here k (hr k (by simp[hk])).1).symm) kd2⟩;rw[o2.out,o1.out];simp[or_assoc]
end
end Go.Vm
namespace Go.Vm
open Go
section
variable {base:Nat} {U:Nat->Prop} {w:World} {m:Mem} {G:GS}
def anq{r:Nat}{l:List Nat}(h:l.Nodup):(arF r l).Nodup:=by
 unfold arF;cases hm:mem? r l with
 |true=>exact h
 |false=>
  have:r ∉ l:=λhr=>by rw[(PX r l).2 hr] at hm;cases hm
  exact List.nodup_append.2 ⟨h,by simp,λa ha b hb e=>by simp at hb;subst hb;subst e;exact this ha⟩
mutual
def aiZ:∀(v:V) (I:List Nat),I.Nodup->(auF I v).Nodup
 | .ptr r _,I,h=>by simp only[auF];exact anq h
 | .clo _ a b,I,h=>by simp only[auF];exact WG b _ (WG a _ h)
 | .agg cs,I,h=>by simp only[auF];exact WG cs _ h
 | .d _,I,h=>h
 | .nil _,I,h=>h
 | .own _ _,I,h=>h
 | .MC _ _ _ _,I,h=>h
 | .IW _ _,I,h=>h
 | .ZH _,I,h=>h
 | .undef,I,h=>h
def WG:∀(vs:List V) (I:List Nat),I.Nodup->(alP I vs).Nodup
 |[],I,h=>h
 |v::vs,I,h=>by simp only[alP];exact WG vs _ (aiZ v I h)
end
def acu(A:Adv)(f:Nat):∀(vs:List V) (i:Nat) (I:List Nat),I.Nodup->(U9 A f i I vs).Nodup
 |[],_,I,h=>h
 |v::vs,i,I,h=>by simp only[U9];exact acu A f vs _ _ (aiZ _ _ h)
def VA(A:Adv)(f:Nat)(μ:Nat->Value)(m:Mem)(H:Heap)(h:View):Nat->List V->List Value->List Nat->Prop
 |_,[],gs,N=>gs=[]/\N=[]
 |i,v::vs,gs,N=>∃g gs' N1 N2,gs=g::gs'/\N=N1++N2/\(match PS A f i with
   |1=>∃x,v=.d x/\ow H h x g N1
   |_=>N1=[]/\bQ μ m h v g)/\VA A f μ m H h (i+1) vs gs' N2
def XO{A:Adv}{f:Nat}{μ μ':Nat->Value}{m m':Mem}{H H':Heap}{h h':View}(hm:NI μ m μ' m')(hl:h.le h'):∀{vs:List V} {i:Nat} {gs:List Value} {N:List Nat},(∀b,b∈N->H' b=H b)->
  VA A f μ m H h i vs gs N->VA A f μ' m' H' h' i vs gs N
 |[],_,_,_,_,q=>q
 |v::vs,i,gs,N,hb,q=>by
  simp only[VA] at q|-;obtain⟨g,gs',N1,N2,rfl,rfl,h3,h4⟩:=q;refine⟨g,gs',N1,N2,rfl,rfl, ?_,XO hm hl (λb hx=>hb b (by simp[hx])) h4⟩;split at h3
  ·rename_i hmo;obtain⟨x,hx,hq⟩:=h3;exact⟨x,hx,ano hl x g N1 (λb hx=>hb b (by simp[hx])) hq⟩
  ·exact⟨h3.1,RH hm hl v g h3.2⟩
def aha{A:Adv}{f:Nat}:∀{vs:List V} {gs:List Value} {m:Mem} {G:GS} {i:Nat} (_:KW base U w m G) (_:dX G.μ m (Gh U w G) vs gs) (_:G.out=[]) {vs':List V} {m':Mem} {l l':Log}
  (_:(XH A f i vs).run m l=some (vs',m',l')),∃G' N,Rk base U w m G m' G' N/\VA A f G'.μ m' (fZ w) (Gh U w G') i vs' gs N
 |[],gs,m,G,i,hg,hv,ho,vs',m',l,l',h=>by simp only[XH,run_pure,oL,uI] at h;obtain⟨rfl,rfl,rfl⟩:=h;simp only[dX] at hv;exact⟨G,[],Rk.same hg,hv,rfl⟩
 |v::vs,gs,m,G,i,hg,hv,ho,vs',m',l,l',h=>by
  obtain⟨g,gs',rfl,hv1,hv2⟩:=xC hv;simp only[XH] at h;replace h:=aF h;obtain⟨x,m1,l1,h1,h⟩:=h;replace h:=aF h;obtain⟨ys,m2,l2,h2,h⟩:=h;obtain⟨rfl,rfl,rfl⟩:=rpu h;have step:∃G1 N1,Rk base U w m G m1 G1 N1/\(match PS A f i with
   |1=>∃y,x=.d y/\ow (fZ w) (Gh U w G1) y g N1
   |_=>N1=[]/\bQ G1.μ m1 (Gh U w G1) x g):=by
   split at h1
   ·rename_i hmo;replace h1:=aF h1;obtain⟨y,m3,l3,h3,h1⟩:=h1;obtain⟨rfl,rfl,rfl⟩:=rpu h1;obtain⟨G1,N1,t1,q1⟩:=awY hg hv1 ho h3;refine⟨G1,N1,t1, ?_⟩
    try rw[hmo]
    exact⟨y,rfl,q1⟩
   ·rename_i hmo;obtain⟨rfl,rfl,rfl⟩:=rpu h1;refine⟨G,[],Rk.same hg, ?_⟩
    first
     |exact⟨rfl,hv1⟩
     |split
      ·rename_i e;exact absurd e hmo
      ·exact⟨rfl,hv1⟩
  obtain⟨G1,N1,t1,q1⟩:=step;obtain⟨G2,N2,t2,q2⟩:=aha t1.ok (t1.le.dX hv2) (t1.out.trans ho) h2;refine⟨G2,N1++N2,t1.trans t2, ?_⟩;simp only[VA];refine⟨g,gs',N1,N2,rfl,rfl, ?_,q2⟩;split at q1
  ·obtain⟨y,hy,hq⟩:=q1;exact⟨y,hy,abS t2.le.view hq⟩
  ·exact⟨q1.1,t2.le.bQ q1.2⟩
def ai0:∀(cs:List Cell) (k i:Nat),get (xA+(k+i)) (y7 k cs)=cs[i]?
 |[],_,_=>by simp[y7,get]
 |c::cs,k,0=>by simp[y7,get]
 |c::cs,k,i+1=>by simp only[y7,get];rw[EM aC];simp only[aX,List.getElem?_cons_succ];rw[<-ai0 cs (k+1) i,show k+1+i=k+(i+1) from by omega]
def WH(cs:List Cell)(i:Nat):get (xA+i) (y7 0 cs)=cs[i]? :=by
 have:=ai0 cs 0 i
 rwa [Nat.zero_add] at this
def impμ(hs:List Value):Nat->Value:=λk=>hs.getD (k - xA) undef
def ai1{r:Nat}:∀{l:List Nat} {k i:Nat},idxOf r k l=some i->k<=i/\l[i - k]? =some r
 |[],_,_,h=>by simp[idxOf] at h
 |j::l,k,i,h=>by
  simp only[idxOf] at h
  by_cases e:r=j
  ·subst e;simp at h;subst h;simp
  ·rw[EM e] at h;simp only[aX] at h;obtain⟨h1,h2⟩:=ai1 h;refine⟨aC, ?_⟩;rw[show i - k=(i - (k+1))+1 from by omega,List.getElem?_cons_succ];exact h2
def ai2{m:Mem}:∀{rs:List Nat} {cs:List Cell} {i r:Nat},kinds m rs cs->rs[i]? =some r->∃c c',get r m=some c/\cs[i]? =some c'/\sameKind c c'
 |[],_,_,_,_,h=>by simp at h
 |r::rs,_,0,r',⟨c,c',cs',h1,h2,h3,_⟩,h=>by simp at h;subst h;subst h1;exact⟨c,c',h2,rfl,h3⟩
 |r::rs,_,i+1,r',⟨c,c',cs',h1,h2,h3,h4⟩,h=>by subst h1;simp only[List.getElem?_cons_succ] at h|-;exact ai2 h4 h
def ae3(U:Nat->Prop)(G:GS)(L:List Nat):Nat->Prop:=λb=>U b/\∀r,b∈G.F r->r∈L
def Yz{L:List Nat}:(Gh U w G).le (view w (ae3 U G L) (· ∈G.E)):=by
 intro b o v hv;unfold Gh view at hv;split at hv
 ·rename_i hc;unfold view;rw[if_pos ⟨⟨hc.1,λr hr=>absurd (.inr ⟨r,hr⟩) hc.2⟩,λhE=>hc.2 (.inl hE)⟩];exact hv
 ·cases hv
structure ati(base:Nat)(U:Nat->Prop)(w:World)(m:Mem)(G:GS)(imp:List Nat)(cells:List Cell):Prop where
 ok:KW base U w m G
 out:∀r,r∈G.out↔r∈imp
 kd:kinds m imp cells
def aBg(hg:KW base U w m G){r:Nat}{fz fl:Bool}{ver s:Nat}{rows:List Row}(hc:get r m=some (.arr fz fl ver s rows))(hro:r ∉ G.out){L:List Nat}(hL:fz=false->r∈L)(o:Bool):
  ro (view w (ae3 U G L) (· ∈G.E)) (.sl o s rows) (G.μ r):=by
 have hq:=hg.cell r _ hc hro;cases fz with
 |true=>exact ad8 (MG Yz _ _ hq.1)
 |false=>
  refine anp Yz (Vs λb hb=>⟨⟨(hg.lt b (.inr ⟨r,hb⟩)).2.2,λk hk=> ?_⟩,hg.djE r b hb⟩) hq o
  by_cases e:k=r
  ·rw[e];exact hL rfl
  ·exact absurd hk (hg.dj r k (Ne.symm e) b hb)
mutual
def atj{imp:List Nat}{cells:List Cell}(C:ati base U w m G imp cells):∀{v:V} {g:Value} (_:bQ G.μ m (Gh U w G) v g) {v':V} {lt:List Nat} {m':Mem} {l l':Log}
  (_:(lend imp v).run m l=some ((v',lt),m',l')),m'=m/\∀L:List Nat,(∀r,r∈lt->r∈L)->bQ (impμ (imp.map G.μ)) (y7 0 cells) (view w (ae3 U G L) (· ∈G.E)) v' g
 | .d x,g,hv,v',lt,m',l,l',h=>by simp only[lend,run_pure,oL,uI] at h;obtain⟨⟨rfl,rfl⟩,rfl,rfl⟩:=h;refine⟨rfl,λL hL=> ?_⟩;simp only[bQ] at hv|-;exact MG Yz _ _ (awW hv)
 | .nil s,g,hv,v',lt,m',l,l',h=>by simp only[lend,run_pure,oL,uI] at h;obtain⟨⟨rfl,rfl⟩,rfl,rfl⟩:=h;refine⟨rfl,λL hL=> ?_⟩;simp only[bQ] at hv|-;simp[ro,hv]
 | .own r ver,g,hv,v',lt,m',l,l',h=>by
  simp only[lend] at h;replace h:=aF h;obtain⟨c,m1,l1,h1,h⟩:=h;rw[Gs] at h1;cases h1;cases hc:get r m with
  |none=>rw[hc] at h;exact aQ h
  |some c=>
   rw[hc] at h;cases c with
   |arr fz fl wZ s rows=>
    simp only at h;replace h:=aF h;obtain⟨_,m2,l2,h1,h⟩:=h;obtain⟨hb,rfl,rfl⟩:=jE h1;have hb:=MB hb;subst hb;replace h:=aF h;obtain⟨_,m2,l2,h1,h⟩:=h;obtain⟨hi,rfl,rfl⟩:=jE h1;simp only[run_pure,oL,uI] at h;obtain⟨⟨rfl,rfl⟩,rfl,rfl⟩:=h;simp only[bQ,hc] at hv;have hv:=hv.2.2 trivial;subst hv;refine⟨rfl,λL hL=> ?_⟩;have hro:r ∉ G.out:=λhr=>XM hi ((C.out r).1 hr)
    simp only[bQ];exact aiW (aBg C.ok hc hro (λhf=>hL r (by subst hf;simp)) true)
   |_=>exact aQ h
 | .ptr r off,g,hv,v',lt,m',l,l',h=>by simp only[lend] at h;replace h:=aF h;obtain⟨i,m1,l1,h1,h⟩:=h;obtain⟨hi,rfl,rfl⟩:=nV h1;simp only[run_pure,oL,uI] at h;obtain⟨⟨rfl,rfl⟩,rfl,rfl⟩:=h;refine⟨rfl,λL hL=> ?_⟩;obtain⟨_,h2⟩:=ai1 hi;rw[Nat.sub_zero] at h2;obtain⟨c,c',k1,k2,k3⟩:=ai2 C.kd h2;simp only[bQ,k1] at hv;simp only[bQ,WH,k2];refine⟨hv.1, ?_⟩;replace hv:=hv.2;cases c<;>cases c'<;>simp only[sameKind] at k3 hv|-;obtain⟨b,e1,e2⟩:=hv;refine⟨b, ?_,e2⟩;simp only[impμ,Nat.add_sub_cancel_left,List.getD_eq_getElem?_getD,List.getElem?_map,h2,Ir,Option.getD_some,e1]
 | .IW row off,g,hv,v',lt,m',l,l',h=>by simp only[lend,run_pure,oL,uI] at h;obtain⟨⟨rfl,rfl⟩,rfl,rfl⟩:=h;refine⟨rfl,λL hL=> ?_⟩;simp only[bQ] at hv|-;obtain⟨b,o,e1,e2⟩:=hv;exact⟨b,o,e1,Vx Yz row b o e2⟩
 | .clo f a b,g,hv,v',lt,m',l,l',h=>by simp only[lend] at h;replace h:=aF h;obtain⟨⟨a',la⟩,m1,l1,h1,h⟩:=h;simp only at h;replace h:=aF h;obtain⟨⟨b',lb⟩,m2,l2,h2,h⟩:=h;simp only[run_pure,oL,uI] at h;obtain⟨⟨rfl,rfl⟩,rfl,rfl⟩:=h;simp only[bQ] at hv;obtain⟨x,y,rfl,e2,e3⟩:=hv;obtain⟨hm1,q1⟩:=ae4 C e2 h1;rw[hm1] at h2;obtain⟨hm2,q2⟩:=ae4 C e3 h2;refine⟨hm2,λL hL=> ?_⟩;simp only[bQ];exact⟨x,y,rfl,q1 L (λr hr=>hL r (by simp[hr])),q2 L (λr hr=>hL r (by simp[hr]))⟩
 | .agg cs,g,hv,v',lt,m',l,l',h=>by simp only[lend] at h;replace h:=aF h;obtain⟨⟨a',la⟩,m1,l1,h1,h⟩:=h;simp only[run_pure,oL,uI] at h;obtain⟨⟨rfl,rfl⟩,rfl,rfl⟩:=h;simp only[bQ] at hv;obtain⟨x,rfl,e2⟩:=hv;obtain⟨hm1,q1⟩:=ae4 C e2 h1;refine⟨hm1,λL hL=> ?_⟩;simp only[bQ];exact⟨x,rfl,q1 L hL⟩
 | .MC _ _ _ _,g,hv,v',lt,m',l,l',h=>aQ h
 | .ZH _,g,hv,v',lt,m',l,l',h=>aQ h
 | .undef,g,hv,v',lt,m',l,l',h=>aQ h
def ae4{imp:List Nat}{cells:List Cell}(C:ati base U w m G imp cells):∀{vs:List V} {gs:List Value} (_:dX G.μ m (Gh U w G) vs gs) {vs':List V} {lt:List Nat} {m':Mem} {l l':Log}
  (_:(aiQ imp vs).run m l=some ((vs',lt),m',l')),m'=m/\∀L:List Nat,(∀r,r∈lt->r∈L)->dX (impμ (imp.map G.μ)) (y7 0 cells) (view w (ae3 U G L) (· ∈G.E)) vs' gs
 |[],gs,hv,v',lt,m',l,l',h=>by simp only[aiQ,run_pure,oL,uI] at h;obtain⟨⟨rfl,rfl⟩,rfl,rfl⟩:=h;simp only[dX] at hv;subst hv;exact⟨rfl,λ_ _=>by simp[dX]⟩
 |v::vs,gs,hv,v',lt,m',l,l',h=>by obtain⟨g,gs',rfl,hv1,hv2⟩:=xC hv;simp only[aiQ] at h;replace h:=aF h;obtain⟨⟨a',la⟩,m1,l1,h1,h⟩:=h;simp only at h;replace h:=aF h;obtain⟨⟨b',lb⟩,m2,l2,h2,h⟩:=h;simp only[run_pure,oL,uI] at h;obtain⟨⟨rfl,rfl⟩,rfl,rfl⟩:=h;obtain⟨hm1,q1⟩:=atj C hv1 h1;rw[hm1] at h2;obtain⟨hm2,q2⟩:=ae4 C hv2 h2;refine⟨hm2,λL hL=> ?_⟩;simp only[dX];exact⟨g,gs',rfl,q1 L (λr hr=>hL r (by simp[hr])),q2 L (λr hr=>hL r (by simp[hr]))⟩
end
def ahb{A:Adv}{f:Nat}{imp:List Nat}{cells:List Cell}(C:ati base U w m G imp cells):
  ∀{vs:List V} {gs:List Value} {i:Nat} {N:List Nat} (_:VA A f G.μ m (fZ w) (Gh U w G) i vs gs N) {vs':List V} {lt:List Nat} {m':Mem} {l l':Log}
  (_:(XI A imp f i vs).run m l=some ((vs',lt),m',l')),m'=m/\∀L:List Nat,(∀r,r∈lt->r∈L)->VA A f (impμ (imp.map G.μ)) (y7 0 cells) (fZ w) (view w (ae3 U G L) (· ∈G.E)) i vs' gs N
 |[],gs,i,N,hv,v',lt,m',l,l',h=>by simp only[XI,run_pure,oL,uI] at h;obtain⟨⟨rfl,rfl⟩,rfl,rfl⟩:=h;exact⟨rfl,λ_ _=>hv⟩
 |v::vs,gs,i,N,hv,v',lt,m',l,l',h=>by
  simp only[VA] at hv;obtain⟨g,gs',N1,N2,rfl,rfl,hv1,hv2⟩:=hv;simp only[XI] at h;replace h:=aF h;obtain⟨⟨a',la⟩,m1,l1,h1,h⟩:=h;simp only at h;replace h:=aF h;obtain⟨⟨b',lb⟩,m2,l2,h2,h⟩:=h;simp only[run_pure,oL,uI] at h;obtain⟨⟨rfl,rfl⟩,rfl,rfl⟩:=h;have step:m1=m/\∀L:List Nat,(∀r,r∈la->r∈L)->(match PS A f i with
   |1=>∃x,a'=.d x/\ow (fZ w) (view w (ae3 U G L) (· ∈G.E)) x g N1
   |_=>N1=[]/\bQ (impμ (imp.map G.μ)) (y7 0 cells) (view w (ae3 U G L) (· ∈G.E)) a' g):=by
   split at h1
   ·rename_i hmo
    (try rw[hmo] at hv1);(try rw[hmo])
    simp only[run_pure,oL,uI] at h1;obtain⟨⟨rfl,rfl⟩,rfl,rfl⟩:=h1;refine⟨rfl,λL hL=> ?_⟩;obtain⟨x,hx,hq⟩:=hv1;exact⟨x,hx,abS Yz hq⟩
   ·rename_i aRP;have hm1:∀(α:Prop) (β:Prop),(match PS A f i with|1=>α|_=>β)=β:=by
     intro α β;split
     ·rename_i e;exact absurd e aRP
     ·rfl
    rw[hm1] at hv1;obtain⟨hN,hv1⟩:=hv1;obtain⟨rfl,q⟩:=atj C hv1 h1;refine⟨rfl,λL hL=> ?_⟩
    (try rw[hm1])
    exact⟨hN,q L hL⟩
  obtain⟨hm1,q1⟩:=step;rw[hm1] at h2;obtain⟨hm2,q2⟩:=ahb C hv2 h2;refine⟨hm2,λL hL=> ?_⟩;simp only[VA];exact⟨g,gs',N1,N2,rfl,rfl,q1 L (λr hr=>hL r (by simp[hr])),q2 L (λr hr=>hL r (by simp[hr]))⟩
end
end Go.Vm
namespace Go.Vm
open Go
def af0{w:World}{U X:Nat->Prop}{b o:Nat}{v:Value}(h:view w U X b o=some v):U b/\¬X b/\w.cell? ⟨b,o,none⟩=some v:=by
 unfold view at h;split at h
 ·rename_i hc;exact⟨hc.1,hc.2,h⟩
 ·cases h
def aiw{w:World}{U X:Nat->Prop}{b o:Nat}{v:Value}(h1:U b)(h2:¬X b)(h3:w.cell? ⟨b,o,none⟩=some v):view w U X b o=some v:=by unfold view;rw[if_pos ⟨h1,h2⟩];exact h3
def cell_of_heap{w w':World}{b:Nat}(h:w'.heap[b]? =w.heap[b]?)(o:Nat):w'.cell? ⟨b,o,none⟩=w.cell? ⟨b,o,none⟩:=by simp[World.cell?,h]
def lt_of_cell{w:World}{b o:Nat}{v:Value}(h:w.cell? ⟨b,o,none⟩=some v):b<w.heap.size:=by have:=block_lt_of_cell h;simpa using this
section
variable {base:Nat} {U:Nat->Prop} {w w':World} {m:Mem} {G:GS}
def KW.world(hg:KW base U w m G)(hk:Keep G.E w w'){E':List Nat}(hn:E'.Nodup)(hE:∀b,b∈E'->(b∈G.E\/w.heap.size<=b)/\b<w'.heap.size):
  KW base U w' m {G with E:=E'}/\(Gh U w G).le (Gh U w' {G with E:=E'}):=by
 have hnE:∀b,b<w.heap.size->b ∉ G.E->b ∉ E':=λb hb hx he=>by
  rcases(hE b he).1 with h|h
  ·exact hx h
  ·omega
 have hF:∀r b,b∈G.F r->w'.heap[b]? =w.heap[b]? :=λr b hb=>hk.block b (hg.lt b (.inr ⟨r,hb⟩)).1 (hg.djE r b hb)
 have hle:(Gh U w G).le (Gh U w' {G with E:=E'}):=by
  intro b o v hv;obtain⟨h1,h2,h3⟩:=af0 hv;have hlt:=lt_of_cell h3;have hbE:b ∉ G.E:=λh=>h2 (.inl h)
  refine aiw h1 ?_ ((cell_of_heap (hk.block b hlt hbE) o).trans h3);rintro(h|h)
  ·exact hnE b hlt hbE h
  ·exact h2 (.inr h)
 refine⟨⟨?_,hg.dj,λr b hb=>hnE b (hg.lt b (.inr ⟨r,hb⟩)).1 (hg.djE r b hb),hg.nd,hn, ?_,λb hb=>hg.up b (Nat.le_trans hk.size hb),Nat.le_trans hg.bs hk.size,hg.none_,hg.out_⟩,hle⟩
 ·intro r c hc ho;exact PV (BF _ _) hle rfl (λb hb=>hF r b hb) (hg.cell r c hc ho)
 ·rintro b (h|⟨r,h⟩)
  ·refine⟨(hE b h).2, ?_⟩;rcases(hE b h).1 with h'|h'
   ·exact(hg.lt b (.inl h')).2
   ·exact⟨Nat.le_trans hg.bs h',hg.up b h'⟩
  ·have:=hg.lt b (.inr ⟨r,h⟩);exact⟨Nat.lt_of_lt_of_le this.1 hk.size,this.2⟩
def alS:∀{L:List Nat} {m:Mem} {G:GS} (_:KW base U w m G) (_:∀r,r∈L->r ∉ G.out) {x:Unit} {m':Mem} {l l':Log} (_:(freeze L).run m l=some (x,m',l')),
  ∃F',KW base U w m' ⟨G.μ,F',G.E,G.out⟩/\GLe m G m' ⟨G.μ,F',G.E,G.out⟩/\(∀r,r∈L->F' r=[])/\(∀r,F' r=[]\/F' r=G.F r)/\(∀k,k ∉ L->get k m'=get k m)
 |[],m,G,hg,ho,x,m',l,l',h=>by simp only[Vm.freeze,run_pure,oL,uI] at h;obtain⟨_,rfl,rfl⟩:=h;exact⟨G.F,hg,GLe.refl _ _,by simp,λr=> .inr rfl,λ_ _=>rfl⟩
 |r::L,m,G,hg,ho,x,m',l,l',h=>by
  simp only[Vm.freeze] at h;replace h:=aF h;obtain⟨c,m1,l1,h1,h⟩:=h;rw[Gs] at h1;cases h1;cases hc:get r m with
  |none=>rw[hc] at h;exact aQ h
  |some c=>
   rw[hc] at h;cases c with
   |arr fz fl ver s rows=>
    replace h:=aF h;obtain⟨_,m1,l1,h1,h⟩:=h;simp only[UD,oL,uI] at h1;obtain⟨_,rfl,rfl⟩:=h1;obtain⟨k1,k2,_⟩:=hg.freeze hc (ho r (by simp));obtain⟨F',q1,q2,q3,q4,q5⟩:=alS k1 (λk hk=>ho k (by simp[hk])) h;refine⟨F',q1,k2.trans q2, ?_, ?_, ?_⟩
    ·intro k hk;simp only[List.mem_cons] at hk;rcases hk with rfl|hk
     ·rcases q4 k with e|e
      ·exact e
      ·rw[e];simp
     ·exact q3 k hk
    ·intro k;rcases q4 k with e|e
     ·exact .inl e
     ·by_cases ek:k=r
      ·subst ek;rw[e];left;simp
      ·have e':F' k=upF G.F r [] k:=e;rw[e',mZ _ ek];exact .inr rfl
    ·intro k hk;simp only[List.mem_cons,not_or] at hk;rw[q5 k hk.2,qF hk.1]
   |_=>exact aQ h
def ai3{k:IntKind}{x:D}{n:Int}(h:asInt k x=some n):x=.int k n:=by
 cases x<;>simp[asInt] at h;rename_i k' n'
 by_cases e:k'=k
 ·subst e;simp at h;subst h;rfl
 ·simp[e] at h
def ahc{x:D}{b:Bool}(h:asBool x=some b):x=.bool b:=by cases x<;>simp[asBool] at h;subst h;rfl
def ai4{x:D}{b:List UInt8}(h:alL x=some b):x=.str b:=by cases x<;>simp[alL] at h;subst h;rfl
def alT{s:Nat}{x:D}{rows:List Row}(h:awN s x=some rows):∃o,x=.sl o s rows:=by
 cases x<;>simp[awN] at h;rename_i o s' rows'
 by_cases e:s'=s
 ·subst e;simp at h;subst h;exact⟨o,rfl⟩
 ·rw[EM e] at h;simp at h
def arJ{s:Nat}{x:D}{rows:List Row}(h:ate s x=some rows):x=.sl true s rows:=by
 cases x<;>simp[ate] at h;rename_i o s' rows';cases o<;>simp at h
 by_cases e:s'=s
 ·subst e;simp at h;subst h;rfl
 ·rw[EM e] at h;simp at h
def aoJ{row:Row}{j:Nat}{x:D}{r:Row}(h:row.drop j=x::r):nth row j=x/\row.drop (j+1)=r:=by
 have h1:row[j]? =some x:=by
  have:(row.drop j)[0]? =some x:=by rw[h];rfl
  rwa [List.getElem?_drop,Nat.add_zero] at this
 refine⟨by simp[nth,h1], ?_⟩;rw[<-List.drop_drop,h];rfl
def KW.ai5(hg:KW base U w m G){N E:List Nat}(hE:(N++E).Perm G.E):KW base U w m {G with E:=E}/\GLe m G m {G with E:=E}/\∀{x:D} {g:Value},ow (fZ w) (Gh U w G) x g N->ro (Gh U w {G with E:=E}) x g:=by
 have hnd:=hE.nodup_iff.2 hg.ndE;have hmem:∀b,b∈N++E->b∈G.E:=λb hb=>hE.mem_iff.1 hb
 obtain⟨h1,h2⟩:=hg.less E (List.nodup_append.1 hnd).2.1 (λb hb=>hmem b (by simp[hb]));refine⟨h1,h2,fun{x g} q=>aDJ h2.view x g N (Vs λb hb=>⟨(hg.lt b (.inl (hmem b (by simp[hb])))).2.2, ?_⟩) q⟩;rintro(h|⟨r,h⟩)
 ·exact(List.nodup_append.1 hnd).2.2 b hb b h rfl
 ·exact hg.djE r b h (hmem b (by simp[hb]))
structure Grew(base:Nat)(U:Nat->Prop)(w:World)(m:Mem)(G:GS)(m':Mem)(G':GS)(E:List Nat):Prop where
 ok:KW base U w m' G'
 le:GLe m G m' G'
 E:G'.E=E
 out:G'.out=G.out
 old:∀k c,get k m=some c->get k m'=some c
 μ:∀k c,get k m=some c->G'.μ k=G.μ k
def Grew.trans{m1 m2 m3:Mem}{G1 G2 G3:GS}{E E':List Nat}(a:Grew base U w m1 G1 m2 G2 E)(b:Grew base U w m2 G2 m3 G3 E'):Grew base U w m1 G1 m3 G3 E':=
 ⟨b.ok,a.le.trans b.le,b.E,b.out.trans a.out,λk c h=>b.old k c (a.old k c h),λk c h=>(b.μ k c (a.old k c h)).trans (a.μ k c h)⟩
def ae5{k:Nat}{c:Cell}{x:Unit}{m':Mem}{l l':Log}(h:(new k c).run m l=some (x,m',l')):get k m=none/\m'=put k c m:=by
 simp only[new] at h;replace h:=aF h;obtain⟨_,m1,l1,h1,h⟩:=h;simp only[free] at h1;replace h1:=aF h1;obtain⟨c',m2,l2,h2,h1⟩:=h1;rw[Gs] at h2;cases h2;cases hc:get k m with
 |some c=>rw[hc] at h1;exact aQ h1
 |none=>rw[hc] at h1;simp only[run_pure,oL,uI] at h1;obtain⟨_,rfl,rfl⟩:=h1;simp only[UD,oL,uI] at h;exact⟨rfl,h.2.1.symm⟩
def alU(hg:KW base U w m G)(ho:∀r,r∈G.out->∃c,get r m=some c){k:Nat}{fl:Bool}{s:Nat}{rows:List Row}{g:Value}{N E:List Nat}(hE:(N++E).Perm G.E)
  (hq:ow (fZ w) (Gh U w G) (.sl true s rows) g N) {x:Unit} {m':Mem} {l l':Log} (h:(new k (.arr false fl 0 s rows)).run m l=some (x,m',l')):
  ∃G',Grew base U w m G m' G' E/\bQ G'.μ m' (Gh U w G') (.own k 0) g:=by
 obtain⟨hn,rfl⟩:=ae5 h;have hk:k ∉ G.out:=λhx=>by obtain⟨c,hc⟩:=ho k hx;rw[hn] at hc;cases hc
 obtain⟨F',h1,h2⟩:=hg.aEK fl hn hk hE hq;refine⟨_,⟨h1,h2,rfl,rfl,λj c hj=> ?_,λj c hj=> ?_⟩, ?_⟩
 ·have hne:j≠k:=λe=>by subst e;rw[hn] at hj;cases hj
  rw[qF hne];exact hj
 ·exact XK _ (λe=>by subst e;rw[hn] at hj;cases hj)
 ·have:ad6 g:=by simp only[ow] at hq;rcases hq with⟨_,rfl,_⟩|⟨b,cap,cs,t,N',rfl,_⟩<;>exact⟨_,_,_,rfl⟩
  simp[bQ,nD,this]
def ahd(hg:KW base U w m G)(ho:∀r,r∈G.out->∃c,get r m=some c){row:Row}{j:Nat}{x:D}{g:Value}{N E:List Nat}(hE:(N++E).Perm G.E)(hx:nth row j=x)
  (hq:ow (fZ w) (Gh U w G) x g N) {ct:CT} {own fl:Bool} {key:Nat} {v:V} {m':Mem} {l l':Log}
  (h:(Uc own fl key row j ct).run m l=some (v,m',l')):
  ∃G',Grew base U w m G m' G' E/\bQ G'.μ m' (Gh U w G') v g:=by
 obtain⟨d1,d2,d3⟩:=hg.ai5 hE;have plain:Grew base U w m G m {G with E:=E} E:=⟨d1,d2,rfl,rfl,λ_ _ h=>h,λ_ _ _=>rfl⟩
 have hro:=d3 hq;cases ct with
 |int k=>
  simp only[Uc,kP,hx,Acc.run] at h;cases ha:asInt k x with
  |none=>simp[ha,Acc.run] at h
  |some n=>simp only[ha,Acc.run,oL,uI] at h;obtain⟨rfl,rfl,rfl⟩:=h;refine⟨_,plain, ?_⟩;rw[ai3 ha] at hro;simpa[bQ] using hro
 |bool=>
  simp only[Uc,alM,hx,Acc.run] at h;cases ha:asBool x with
  |none=>simp[ha,Acc.run] at h
  |some n=>simp only[ha,Acc.run,oL,uI] at h;obtain⟨rfl,rfl,rfl⟩:=h;refine⟨_,plain, ?_⟩;rw[ahc ha] at hro;simpa[bQ] using hro
 |str=>
  simp only[Uc,cStr,hx,Acc.run] at h;cases ha:alL x with
  |none=>simp[ha,Acc.run] at h
  |some n=>simp only[ha,Acc.run,oL,uI] at h;obtain⟨rfl,rfl,rfl⟩:=h;refine⟨_,plain, ?_⟩;rw[ai4 ha] at hro;simpa[bQ] using hro
 |other=>exact aQ h
 |sl s=>
  cases own with
  |false=>
   simp only[Uc,cSl,hx,Acc.run] at h;cases ha:awN s x with
   |none=>simp[ha,Acc.run] at h
   |some n=>simp only[ha,Acc.run,oL,uI] at h;obtain⟨rfl,rfl,rfl⟩:=h;refine⟨_,plain, ?_⟩;obtain⟨o,rfl⟩:=alT ha;simp only[bQ];exact aiW hro
  |true=>
   simp only[Uc,aoC,hx,Acc.run] at h;cases ha:ate s x with
   |none=>simp[ha,Acc.run] at h
   |some n=>simp only[ha,Acc.run] at h;have:=arJ ha;subst this;replace h:=aF h;obtain⟨_,m1,l1,h1,h⟩:=h;obtain⟨rfl,rfl,rfl⟩:=rpu h;exact alU hg ho hE hq h1
def O1{H:Heap}{h:View}{x:D}{r:Row}{cs:List Value}{N:List Nat}(q:mQ H h (x::r) cs N):∃v cs' N1 N2,cs=v::cs'/\N=N1++N2/\ow H h x v N1/\mQ H h r cs' N2:=by simpa[mQ] using q
def af2{N1 N2 E E0:List Nat}(h:(N1++N2++E).Perm E0):(N1++(N2++E)).Perm E0:=by rwa [XG] at h
def ai6{own:List Nat}{r dst:Nat}{row:Row}:∀{cts:List CT} {fs:List Bool} {j:Nat} {m:Mem} {G:GS} {gs:List Value} {N E:List Nat} (_:KW base U w m G) (_:∀r,r∈G.out->∃c,get r m=some c)
  (_:(N++E).Perm G.E) (_:mQ (fZ w) (Gh U w G) (row.drop j) gs N) (_:row.length=j+cts.length) (_:gs.length=cts.length) {vs:List V} {m':Mem} {l l':Log}
  (_:(aeV own r dst row j cts fs).run m l=some (vs,m',l')),∃G',Grew base U w m G m' G' E/\dX G'.μ m' (Gh U w G') vs gs
 |[],fs,j,m,G,gs,N,E,hg,ho,hE,hq,hlen,hgl,vs,m',l,l',h=>by simp only[aeV,run_pure,oL,uI] at h;obtain⟨rfl,rfl,rfl⟩:=h;rw[List.drop_eq_nil_of_le (by simp at hlen;omega)] at hq;simp only[mQ] at hq;subst hq;simp at hgl;subst hgl;obtain⟨d1,d2,_⟩:=hg.ai5 hE;exact⟨_,⟨d1,d2,rfl,rfl,λ_ _ h=>h,λ_ _ _=>rfl⟩,by simp[dX]⟩
 |ct::cts,fs,j,m,G,gs,N,E,hg,ho,hE,hq,hlen,hgl,vs,m',l,l',h=>by
  cases hd:row.drop j with
  |nil=>have:=congrArg List.length hd;simp at this hlen;omega
  |cons x rest=>obtain⟨hx,hrest⟩:=aoJ hd;rw[hd] at hq;obtain⟨g,gs',N1,N2,rfl,rfl,q1,q2⟩:=O1 hq;simp only[aeV] at h;replace h:=aF h;obtain⟨v,m1,l1,h1,h⟩:=h;replace h:=aF h;obtain⟨vs',m2,l2,h2,h⟩:=h;obtain⟨rfl,rfl,rfl⟩:=rpu h;obtain⟨G1,t1,s1⟩:=ahd hg ho (af2 hE) hx q1 h1;obtain⟨G2,t2,s2⟩:=ai6 t1.ok (λk hk=>by rw[t1.out] at hk;obtain⟨c,hc⟩:=ho k hk;exact⟨c,t1.old k c hc⟩) (by rw[t1.E]) (by rw[hrest];exact Yy t1.le.view q2) (by simp at hlen;omega) (by simpa using hgl) h2;refine⟨G2,t1.trans t2, ?_⟩;simp only[dX];exact⟨g,gs',rfl,t2.le.bQ s1,s2⟩
def ahe{att:List Nat}{dst ri:Nat}{row:Row}:∀{cts:List CT} {fs:List Bool} {j:Nat} {m:Mem} {G:GS} {gs:List Value} {N E:List Nat} (_:KW base U w m G) (_:∀r,r∈G.out->∃c,get r m=some c)
  (_:(N++E).Perm G.E) (_:mQ (fZ w) (Gh U w G) (row.drop j) gs N) (_:row.length=j+cts.length) (_:gs.length=cts.length) {vs:List V} {m':Mem} {l l':Log}
  (_:(ZK att dst ri row j cts fs).run m l=some (vs,m',l')),∃G',Grew base U w m G m' G' E/\dX G'.μ m' (Gh U w G') vs gs
 |[],fs,j,m,G,gs,N,E,hg,ho,hE,hq,hlen,hgl,vs,m',l,l',h=>by simp only[ZK,run_pure,oL,uI] at h;obtain⟨rfl,rfl,rfl⟩:=h;rw[List.drop_eq_nil_of_le (by simp at hlen;omega)] at hq;simp only[mQ] at hq;subst hq;simp at hgl;subst hgl;obtain⟨d1,d2,_⟩:=hg.ai5 hE;exact⟨_,⟨d1,d2,rfl,rfl,λ_ _ h=>h,λ_ _ _=>rfl⟩,by simp[dX]⟩
 |ct::cts,fs,j,m,G,gs,N,E,hg,ho,hE,hq,hlen,hgl,vs,m',l,l',h=>by
  cases hd:row.drop j with
  |nil=>have:=congrArg List.length hd;simp at this hlen;omega
  |cons x rest=>obtain⟨hx,hrest⟩:=aoJ hd;rw[hd] at hq;obtain⟨g,gs',N1,N2,rfl,rfl,q1,q2⟩:=O1 hq;simp only[ZK] at h;replace h:=aF h;obtain⟨v,m1,l1,h1,h⟩:=h;replace h:=aF h;obtain⟨vs',m2,l2,h2,h⟩:=h;obtain⟨rfl,rfl,rfl⟩:=rpu h;obtain⟨G1,t1,s1⟩:=ahd hg ho (af2 hE) hx q1 h1;obtain⟨G2,t2,s2⟩:=ahe t1.ok (λk hk=>by rw[t1.out] at hk;obtain⟨c,hc⟩:=ho k hk;exact⟨c,t1.old k c hc⟩) (by rw[t1.E]) (by rw[hrest];exact Yy t1.le.view q2) (by simp at hlen;omega) (by simpa using hgl) h2;refine⟨G2,t1.trans t2, ?_⟩;simp only[dX];exact⟨g,gs',rfl,t2.le.bQ s1,s2⟩
def valOf(P:Program)(t:TypeId)(cs:List Value)(g:Value):Prop:=if UA P t=true then g=.agg cs.toArray else cs=[g]
def XP(P:Program)(H:Heap)(h:View):List TypeId->List Row->List Value->List Nat->Prop
 |[],rows,gs,N=>rows=[]/\gs=[]/\N=[]
 |t::ts,rows,gs,N=>∃row rows' g gs' cs N1 N2,rows=row::rows'/\gs=g::gs'/\N=N1++N2/\valOf P t cs g/\mQ H h row cs N1/\row.length=cs.length/\XP P H h ts rows' gs' N2
def VB{P:Program}{H H':Heap}{h h':View}(hl:h.le h'):∀{ts:List TypeId} {rows:List Row} {gs:List Value} {N:List Nat},(∀b,b∈N->H' b=H b)->XP P H h ts rows gs N->XP P H' h' ts rows gs N
 |[],_,_,_,_,q=>q
 |t::ts,_,_,_,hb,⟨row,rows',g,gs',cs,N1,N2,e1,e2,e3,h1,h2,h3,h4⟩=>by subst e3;exact⟨row,rows',g,gs',cs,N1,N2,e1,e2,rfl,h1,Vy hl _ _ _ (λb hx=>hb b (by simp[hx])) h2,h3,VB hl (λb hx=>hb b (by simp[hx])) h4⟩
def VD{P:Program}{t:TypeId}{vs:List V}{v:V}(h:U7 P t vs=some v){μ:Nat->Value}{hh:View}{cs:List Value}{g:Value}(hq:dX μ m hh vs cs)(hg:valOf P t cs g):bQ μ m hh v g:=by
 unfold U7 at h;unfold valOf at hg;cases ha:UA P t with
 |true=>simp only[ha,aJ,if_true,oL] at h hg;subst h;simp only[bQ];exact⟨_,hg,by simpa using hq⟩
 |false=>
  simp only[ha,aX,Bool.false_eq_true,if_false] at h hg;split at h
  ·cases h;obtain⟨g',gs',e,q1,q2⟩:=xC hq;rw[hg] at e;cases e;exact q1
  ·cases h
def ak6{res:List Row}{ri:Nat}{row:Row}{rows:List Row}(h:res.drop ri=row::rows):aeW res ri=row/\res.drop (ri+1)=rows:=by
 have h1:res[ri]? =some row:=by
  have:(res.drop ri)[0]? =some row:=by rw[h];rfl
  rwa [List.getElem?_drop,Nat.add_zero] at this
 refine⟨by simp[aeW,h1], ?_⟩;rw[<-List.drop_drop,h];rfl
def alV{X:Ctx}{att:List Nat}{dst:Nat}{res:List Row}:∀{ts:List TypeId} {ri:Nat} {m:Mem} {G:GS} {gs:List Value} {N E:List Nat} (_:KW base U w m G) (_:∀r,r∈G.out->∃c,get r m=some c)
  (_:(N++E).Perm G.E) (_:XP X.P (fZ w) (Gh U w G) ts (res.drop ri) gs N) {vs:List V} {m':Mem} {l l':Log}
  (_:(adZ X att dst res ri ts).run m l=some (vs,m',l')),∃G',Grew base U w m G m' G' E/\dX G'.μ m' (Gh U w G') vs gs
 |[],ri,m,G,gs,N,E,hg,ho,hE,hq,vs,m',l,l',h=>by simp only[adZ,run_pure,oL,uI] at h;obtain⟨rfl,rfl,rfl⟩:=h;obtain⟨_,rfl,rfl⟩:=hq;obtain⟨d1,d2,_⟩:=hg.ai5 hE;exact⟨_,⟨d1,d2,rfl,rfl,λ_ _ h=>h,λ_ _ _=>rfl⟩,by simp[dX]⟩
 |t::ts,ri,m,G,gs,N,E,hg,ho,hE,hq,vs,m',l,l',h=>by obtain⟨row,rows',g,gs',cs,N1,N2,e1,rfl,rfl,h1,h2,h3,h4⟩:=hq;obtain⟨hrow,hrest⟩:=ak6 e1;simp only[adZ] at h;replace h:=aF h;obtain⟨_,m1,l1,k1,h⟩:=h;obtain⟨hlen,rfl,rfl⟩:=jE k1;replace h:=aF h;obtain⟨vc,m2,l2,k2,h⟩:=h;replace h:=aF h;obtain⟨v,m3,l3,k3,h⟩:=h;obtain⟨hv,rfl,rfl⟩:=nV k3;replace h:=aF h;obtain⟨vs',m4,l4,k4,h⟩:=h;obtain⟨rfl,rfl,rfl⟩:=rpu h;have hlen:=MB hlen;rw[hrow] at hlen k2;obtain⟨G1,t1,s1⟩:=ahe hg ho (af2 hE) (by simpa using h2) (by simpa using hlen) (by rw[<-h3];exact hlen) k2;obtain⟨G2,t2,s2⟩:=alV t1.ok (λk hk=>by rw[t1.out] at hk;obtain⟨c,hc⟩:=ho k hk;exact⟨c,t1.old k c hc⟩) (by rw[t1.E]) (by rw[hrest];exact VB t1.le.view (λ_ _=>rfl) h4) k4;refine⟨G2,t1.trans t2, ?_⟩;simp only[dX];exact⟨g,gs',rfl,t2.le.bQ (VD hv s1 h1),s2⟩
mutual
def aBh{H:Heap}{h h':View}:∀(x:D) (v:Value) (N:List Nat),x.pure=true->ow H h x v N->ow H h' x v N
 | .int _ _,_,_,_,q=>by simpa[ow] using q
 | .bool _,_,_,_,q=>by simpa[ow] using q
 | .str _,_,_,_,q=>by simpa[ow] using q
 | .Zt,_,_,_,q=>by simpa[ow] using q
 | .sl false s rows,v,N,hp,q=>by simp only[D.pure,List.isEmpty_iff] at hp;subst hp;simp only[ow,ro] at q|-;exact⟨q.1,by obtain⟨a,cap,h1,h2,_⟩:=q.2;exact⟨a,cap,h1,h2,λe=>absurd rfl e⟩⟩
 | .sl true s rows,v,N,hp,q=>by
  simp only[D.pure] at hp;simp only[ow] at q|-;rcases q with q|⟨b,cap,cs,t,N',h1,h2,h3,h4,h5,rfl⟩
  ·exact .inl q
  ·exact .inr ⟨b,cap,cs,t,N',h1,h2,h3,h4,ahf s rows _ N' hp h5,rfl⟩
def ahf{H:Heap}{h h':View}(s:Nat):∀(rows:List Row) (cs:List Value) (N:List Nat),Ub rows=true->jO H h s rows cs N->jO H h' s rows cs N
 |[],_,_,_,q=>by simpa[jO] using q
 |r::rs,cs,N,hp,q=>by simp only[Ub,PO] at hp;simp only[jO] at q|-;obtain⟨h1,N1,N2,rfl,h2,h3⟩:=q;exact⟨h1,N1,N2,rfl,ad9 r _ N1 hp.1 h2,ahf s rs _ N2 hp.2 h3⟩
def ad9{H:Heap}{h h':View}:∀(r:Row) (cs:List Value) (N:List Nat),xw r=true->mQ H h r cs N->mQ H h' r cs N
 |[],_,_,_,q=>by simpa[mQ] using q
 |x::r,cs,N,hp,q=>by simp only[xw,PO] at hp;simp only[mQ] at q|-;obtain⟨v,cs',N1,N2,rfl,rfl,h2,h3⟩:=q;exact⟨v,cs',N1,N2,rfl,rfl,aBh x v N1 hp.1 h2,ad9 r cs' N2 hp.2 h3⟩
end
def ai7{P:Program}{H:Heap}{h h':View}:∀{ts:List TypeId} {rows:List Row} {gs:List Value} {N:List Nat},rows.all xw=true->XP P H h ts rows gs N->XP P H h' ts rows gs N
 |[],_,_,_,_,q=>q
 |t::ts,_,_,_,hp,⟨row,rows',g,gs',cs,N1,N2,e1,e2,e3,h1,h2,h3,h4⟩=>by subst e1;simp only[List.all_cons,PO] at hp;exact⟨row,rows',g,gs',cs,N1,N2,rfl,e2,e3,h1,ad9 _ _ _ hp.1 h2,h3,ai7 hp.2 h4⟩
end
end Go.Vm
namespace Go.Vm
open Go
section
variable {base:Nat} {U:Nat->Prop} {w w':World} {m:Mem} {G:GS}
def drop_cons{α:Type}{l:List α}{i:Nat}{a:α}{r:List α}(h:l.drop i=a::r):l[i]? =some a/\l.drop (i+1)=r:=by
 refine⟨?_,by rw[<-List.drop_drop,h];rfl⟩;have:(l.drop i)[0]? =some a:=by rw[h];rfl
 rwa [List.getElem?_drop,Nat.add_zero] at this
def aEL(xs:List D):(xs.map V.d).map vD=xs:=by
 induction xs with
 |nil=>rfl
 |cons x xs ih=>simp[vD,ih]
def ai8{m m':Mem}(h:∀k c,get k m=some c->get k m'=some c):∀{rs:List Nat} {cs:List Cell},kinds m rs cs->kinds m' rs cs
 |[],_,q=>q
 |r::rs,_,⟨c,c',cs',h1,h2,h3,h4⟩=>⟨c,c',cs',h1,h r c h2,h3,ai8 h h4⟩
def alW{m:Mem}{r:Nat}{c0:Cell}:∀{rs:List Nat} {cs:List Cell},r ∉ rs->kinds m rs cs->kinds (put r c0 m) rs cs
 |[],_,_,q=>q
 |k::rs,_,hr,⟨c,c',cs',h1,h2,h3,h4⟩=>by simp only[List.mem_cons,not_or] at hr;exact⟨c,c',cs',h1,by rw[qF (Ne.symm hr.1)];exact h2,h3,alW hr.2 h4⟩
structure Came(base:Nat)(U:Nat->Prop)(w:World)(m:Mem)(G:GS)(m':Mem)(G':GS)(E:List Nat):Prop where
 ok:KW base U w m' G'
 le:GLe m G m' G'
 E:G'.E=E
 out:G'.out=[]
def Uf{H:Heap}{h h':View}(hl:h.le h'){cs:List Cell}{gs:List Value}{N:List Nat}(q:cellsB H h cs gs N):cellsB H h' cs gs N:=ag9 hl (λ_ _=>rfl) q
def ai9{X:Ctx}{dst:Nat}{outs:List Cell}:∀{rs:List Nat} {i:Nat} {m:Mem} {G:GS} {N E:List Nat} (_:KW base U w m G) (_:rs.Nodup) (_:G.out=rs) (_:kinds m rs (outs.drop i))
  (_:(N++E).Perm G.E) (_:cellsB (fZ w) (Gh U w G) (outs.drop i) (rs.map G.μ) N) {x:Unit} {m':Mem} {l l':Log} (_:(ag3 X dst outs i rs).run m l=some (x,m',l')),
  ∃G',Came base U w m G m' G' E
 |[],i,m,G,N,E,hg,hn,ho,hk,hE,hq,x,m',l,l',h=>by simp only[ag3,run_pure,oL,uI] at h;obtain⟨_,rfl,rfl⟩:=h;obtain⟨d1,d2,_⟩:=hg.ai5 hE;exact⟨_,d1,d2,rfl,ho⟩
 |r::rs,i,m,G,N,E,hg,hn,ho,hk,hE,hq,x,m',l,l',h=>by
  obtain⟨c,c',cs',e1,hc,hsk,hk'⟩:=hk;have hnr:=List.nodup_cons.1 hn;obtain⟨hi,hdrop⟩:=drop_cons e1;rw[e1] at hq;obtain⟨g,gs',N1,N2,eg,rfl,q1,q2⟩:=hq;simp only[zmc,List.cons.injEq] at eg;obtain⟨rfl,rfl⟩:=eg;have hout:∀k,k∈G.out->∃c,get k m=some c:=by
   intro k hkm;rw[ho] at hkm;simp only[List.mem_cons] at hkm;rcases hkm with rfl|hkm
   ·exact⟨c,hc⟩
   ·obtain⟨j,hj⟩:=List.getElem?_of_mem hkm;obtain⟨c2,_,h2,_⟩:=ai2 hk' hj;exact⟨c2,h2⟩
  simp only[ag3] at h;replace h:=aF h;obtain⟨c0,m1,l1,h1,h⟩:=h;rw[Gs] at h1;cases h1;rw[hc] at h;cases c with
  |dead=>exact hsk.elim
  |box t cs=>
   cases c' with
   |box t' vs=>
    obtain rfl:t=t':=hsk;obtain⟨b,a,xs,N',hμ,hH,hvs,hxl,hrow,rfl⟩:=q1;simp only at h;obtain⟨hbl,h⟩:=bck h;replace h:=aF h;obtain⟨vs',m3,l3,h3,h⟩:=h;replace h:=aF h;obtain⟨_,m4,l4,h4,h⟩:=h;rw[UD] at h4;cases h4;have hbx:awS outs i=xs:=by simp only[awS,hi,hvs];exact aEL xs
    have hbl:xs.length=(UO X.P t).length:=by simp only[awT,hi] at hbl;have:=MB hbl;rw[hvs,List.length_map] at this;exact this
    rw[hbx] at h3;obtain⟨G1,t1,s1⟩:=ai6 hg hout (N:=N') (E:=b::(N2++E)) (List.Perm.trans (by have:(N'++b::(N2++E)).Perm (b::(N'++(N2++E))):=List.perm_middle;refine this.trans ?_;simp[XG]) hE) (by simpa using hrow) (by simpa using hbl) (by rw[<-hxl];exact hbl) h3;have hc1:=t1.old r _ hc;have aHA:=t1.ok.ndE;rw[t1.E] at aHA;have hset:=t1.ok.set r (.box t vs') G1.μ [b] (N2++E) rs (by simpa using aHA) (λk hk=> .inr (by rw[t1.E];simpa using hk))
     (RN (λ_ _=>rfl) (λc h=>by rw[hc1] at h;cases h;exact⟨rfl,rfl⟩)) (λ_ _=>rfl)
     (λk hne=>by rw[t1.out,ho];simp[hne]) (λhr=>absurd hr hnr.1)
     (λhv _=>⟨b,a,by rw[t1.μ r _ hc];exact hμ,hH,y8 (RN (λ_ _=>rfl) (λc h=>by rw[hc1] at h;cases h;exact⟨rfl,rfl⟩)) hv _ _ s1,rfl⟩)
    obtain⟨k1,k2⟩:=hset;obtain⟨G2,f1,f2,f3,f4⟩:=ai9 k1 hnr.2 rfl (alW hnr.1 (ai8 t1.old (by rw[hdrop];exact hk'))) (N:=N2) (E:=E) (List.Perm.refl _)
     (by
      rw[hdrop];have hmap:rs.map G1.μ=rs.map G.μ:=List.map_congr_left λk hk=>by obtain⟨c2,h2⟩:=hout k (by rw[ho];simp[hk]);exact t1.μ k c2 h2
      simp only[hmap];exact Uf (t1.le.view.trans' k2.view) q2) h
    exact⟨G2,f1,(t1.le.trans k2).trans f2,f3,f4⟩
   |_=>exact hsk.elim
  |arr fz fl ver s rows=>simp only at h;replace h:=aF h;obtain⟨_,m2,l2,h2,h⟩:=h;exact aQ h2
end
end Go.Vm
namespace Go.Vm
open Go
def YA(b o j:Nat):(⟨b,o,none⟩:Addr).add j=⟨b,o+j,none⟩:=by
 unfold Addr.add;split
 ·rename_i h;subst h;rfl
 ·rfl
def KZ{P:Program}{t:TypeId}(h:okT P t=true):∃d,P.underlying t=some d:=by
 unfold okT at h;cases hu:P.underlying t with
 |none=>simp[hu] at h
 |some d=>exact⟨d,rfl⟩
def G9{P:Program}{t:TypeId}{d:TypeDesc}(h:P.underlying t=some d):∃i,P.info? t=some i:=by
 unfold Program.underlying at h;cases hi:P.info? t with
 |none=>simp[hi] at h
 |some i=>exact⟨i,rfl⟩
def RP{P:Program}{t:TypeId}{i:TypeInfo}(h:P.info? t=some i):yF P t=i.size:=by simp[yF,h]
section
variable {P:Program} {w:World}
def XQ{t:TypeId}{d:TypeDesc}(h:P.underlying t=some d)(w:World):(isAgg t).run P w=.ok (UA P t) w:=by unfold isAgg UA;rw[Sem.run_bind,run_underlying h w,h];cases d<;>rfl
def YB{t:TypeId}{b off:Nat}{cs:List Value}{g:Value}(hok:okT P t=true)(hlen:cs.length=yF P t)(hc:∀j v,cs[j]? =some v->w.cell? ⟨b,off+j,none⟩=some v)(hg:valOf P t cs g):
  (Instr.loadAt t (.pointer (some ⟨b,off,none⟩))).run P w=.ok g w:=by
 obtain⟨d,hd⟩:=KZ hok;obtain⟨i,hi⟩:=G9 hd;have hsz:i.size=cs.length:=by rw[hlen,RP hi]
 unfold Instr.loadAt Instr.sureAddr;simp only[Sem.run_bind,Sem.run_pure,Result.andThen_ok,loadVar,XQ hd];unfold valOf at hg;cases ha:UA P t with
 |true=>simp only[ha,if_true] at hg;subst hg;have hl:=run_loadCells_list (P:=P) w ⟨b,off,none⟩ cs (λj v hv=>by rw[YA];exact hc j v hv);simp[sizeOf,typeInfo,hi,hsz,hl]
 |false=>simp only[ha,Bool.false_eq_true,if_false] at hg;subst hg;have:=hc 0 g rfl;simp only[Nat.add_zero] at this;simp[this]
def ahg{t T:TypeId}{b off:Nat}{cur:Array Value}{g:Value}(hok:okT P t=true)(hH:w.heap[b]? =some (.cells cur T (0,0)))(hlen:g.cells.size=yF P t)(hfit:off+g.cells.size<=cur.size)(h1:∀v∈g.cells.toList,v.oneCell'=true):
  (Instr.storeAt t (.pointer (some ⟨b,off,none⟩)) g).run P w=.ok () (w.setRow b (splice cur.toList off g.cells.toList).toArray):=by
 obtain⟨d,hd⟩:=KZ hok;obtain⟨i,hi⟩:=G9 hd;have hsz:g.cells.size=i.size:=by rw[hlen,RP hi]
 have hst:=run_storeCells_at P b off T g.cells.toList 0 cur w hH (by simpa using hfit) h1;simp only[Nat.add_zero] at hst;unfold Instr.storeAt Instr.sureAddr;simp only[Sem.run_bind,Sem.run_pure,Result.andThen_ok,storeVar,sizeOf,typeInfo,run_program,hi];simp[hsz,hst,splice]
def ZR{T:TypeId}{f b off o n:Nat}{t:TypeId}(hf:Yw P T f=some (o,n,t))(hn:1<=n):
  (Instr.fieldAt T (.pointer (some ⟨b,off,none⟩)) f).run P w=.ok (.pointer (some ⟨b,off+o,none⟩)) w:=by
 unfold Yw at hf;cases hu:P.underlying T with
 |none=>simp[hu] at hf
 |some d=>
  rw[hu] at hf;cases d with
  |struct fs=>
   simp only at hf;cases hfd:fs[f]? with
   |none=>simp[hfd] at hf
   |some fd=>
    simp only[hfd,oL,uI] at hf;obtain⟨rfl,rfl,rfl⟩:=hf;cases hi:P.info? fd.type with
    |none=>simp[yF,hi] at hn
    |some i=>
     have hne:i.size≠0:=by rw[RP hi] at hn;omega
     unfold Instr.fieldAt;simp[run_underlying hu,hfd,Instr.sureAddr,fieldPlace,sizeOf,typeInfo,hi,hne,YA]
  |_=>simp at hf
def ZT{t e:TypeId}(h:elT P t=some e):P.underlying t=some (.slice e):=by
 unfold elT at h;cases hu:P.underlying t with
 |none=>simp[hu] at h
 |some d=>rw[hu] at h;cases d<;>simp at h;rw[h]
def run_indexAt{t e:TypeId}{k:IntKind}{i:Int}{b o n cap:Nat}(he:elT P t=some e){inf:TypeInfo}(hi:P.info? e=some inf)(h0:0<=i)(hn:i<n):
  (Instr.indexAt t (.slice (some ⟨b,o,none⟩) n cap) (.int k i)).run P w=.ok (.pointer (some ⟨b,o+i.toNat * inf.size,none⟩)) w:=by
 have hu:=ZT he;have hc:0<=i/\i<(n:Int):=⟨h0,hn⟩
 unfold Instr.indexAt;simp[asIntOf,run_underlying hu,hc,sizeOf,typeInfo,hi,YA]
structure Src(P:Program)(size:Nat)(w:World)(y:Value)(m:Nat)(news:List Value):Prop where
 len:(Builtin.lenOf y).run P w=.ok m w
 get:(Builtin.firstCells size m y).run P w=.ok news.toArray w
 lend:(Builtin.lenOf y).run P w.drew=.ok m w.drew
 aHB:(Builtin.firstCells size m y).run P w.drew=.ok news.toArray w.drew
 n:news.length=m * size
 one:∀u∈news,u.oneCell'=true
def Src.slice{size:Nat}{a:Option Addr}{m c:Nat}{news:List Value}(hl:news.length=m * size)(h1:∀u∈news,u.oneCell'=true)
  (h:m≠0->∃b o,a=some ⟨b,o,none⟩/\∀j v,news[j]? =some v->w.cell? ⟨b,o+j,none⟩=some v):Src P size w (.slice a m c) m news:=by
 have key:∀w':World,(∀x,w'.cell? x=w.cell? x)->(Builtin.firstCells size m (.slice a m c)).run P w'=.ok news.toArray w':=by
  intro w' hw
  by_cases hm:m=0
  ·subst hm;have:news=[]:=List.eq_nil_of_length_eq_zero (by simpa using hl);subst this;cases a with
   |none=>simp[Builtin.firstCells]
   |some a=>simp[Builtin.firstCells,loadCells,loadCellsFrom]
  ·obtain⟨b,o,rfl,hc⟩:=h hm;exact run_firstCells_some (P:=P) w' size m ⟨b,o,none⟩ m c news hl (λj v hv=>by rw[YA,hw];exact hc j v hv)
 exact⟨by simp[Builtin.lenOf],key w (λ_=>rfl),by simp[Builtin.lenOf],key w.drew (λx=>rfl),hl,h1⟩
def Src.string{s:List UInt8}:Src P 1 w (.string ⟨⟨s⟩⟩) s.length (s.map λb=>Value.int .u8 b.toNat):=by
 have hsz:(⟨⟨s⟩⟩:ByteArray).size=s.length:=rfl;have hex:((⟨⟨s⟩⟩:ByteArray).extract 0 s.length)=⟨⟨s⟩⟩:=by rw[<-hsz];apply ByteArray.ext;simp[ByteArray.data_extract]
 have hm:(Array.map (λb:UInt8=>Value.int .u8 (b.toNat:Int)) ⟨s⟩)=(s.map λb=>Value.int .u8 (b.toNat:Int)).toArray:=by apply Array.ext';simp
 refine⟨by simp[Builtin.lenOf,hsz],by simp[Builtin.firstCells,hex,hm],by simp[Builtin.lenOf,hsz],by simp[Builtin.firstCells,hex,hm],by simp, ?_⟩;intro u hu;simp only[List.mem_map] at hu;obtain⟨b,_,rfl⟩:=hu;rfl
def Y8{t ty y e:TypeId}{inf:TypeInfo}{z gy:Value}{m:Nat}{news:List Value}(he:P.underlying t=some (.slice e))(hty:(∃e',P.underlying y=some (.slice e'))\/P.underlying y=some .string)
  (hi:P.info? e=some inf) (hz:inf.zero=some z) (hs:Src P inf.size w gy m news) (hm:m≠0) (h63:m<=140737488355328) (hb:m * inf.bytes<=140737488355328):
  ∃cap,m<=cap/\(Builtin.append_ #[t,y] ty #[.slice none 0 0,gy]).run P w=.ok (.slice (some ⟨w.heap.size,0,none⟩) m cap) (w.drew.alloc (.cells (news.toArray++Builtin.zeroCells z.cells (cap - m)) e)):=by
 have h63':¬(9223372036854775807<(m:Int)):=aC;have h48':¬(281474976710656<Builtin.nextslicecap m 0 * inf.bytes):=by rw[nextslicecap_zero aC];omega
 refine⟨grownCap w m 0 e,grownCap_ge w m 0 e, ?_⟩;rcases hty with⟨e',hd⟩|hd<;>simp[Builtin.append_,run_underlying he,run_underlying hd,sizeOf,typeInfo,zeroValue,hi,hz,hs.len,hm,h63',h48',Question.forced,run_firstCells_none,hs.aHB,newRow,grownCap]
def Y9{t ty y e:TypeId}{inf:TypeInfo}{gy:Value}{news:List Value}(he:P.underlying t=some (.slice e))(hty:(∃e',P.underlying y=some (.slice e'))\/P.underlying y=some .string)
  (hi:P.info? e=some inf) (hs:Src P inf.size w gy 0 news):
  (Builtin.append_ #[t,y] ty #[.slice none 0 0,gy]).run P w=.ok (.slice none 0 0) w:=by
 rcases hty with⟨e',hd⟩|hd<;>simp[Builtin.append_,run_underlying he,run_underlying hd,sizeOf,typeInfo,hi,hs.len,hs.get]
def run_append_fits{t ty y e T:TypeId}{inf:TypeInfo}{gy:Value}{b n m cap:Nat}{cur:Array Value}{news:List Value}(he:P.underlying t=some (.slice e))(hty:(∃e',P.underlying y=some (.slice e'))\/P.underlying y=some .string)
  (hi:P.info? e=some inf) (hs:Src P inf.size w gy m news) (hH:w.heap[b]? =some (.cells cur T (0,0))) (hroom:n+m<=cap) (hc:cur.size=cap * inf.size):
  (Builtin.append_ #[t,y] ty #[.slice (some ⟨b,0,none⟩) n cap,gy]).run P w=.ok (.slice (some ⟨b,0,none⟩) (n+m) cap) (w.setRow b (splice cur.toList (n * inf.size) news).toArray):=by
 have hfit:n * inf.size+0+news.length<=cur.size:=by rw[hs.n,hc,Nat.add_zero,<-Nat.add_mul];exact Nat.mul_le_mul_right _ hroom
 have hst:=run_storeCells_at P b (n * inf.size) T news 0 cur w hH hfit hs.one;simp only[Nat.add_zero] at hst;rcases hty with⟨e',hd⟩|hd<;>simp[Builtin.append_,run_underlying he,run_underlying hd,sizeOf,typeInfo,hi,hs.len,hroom,hs.get,YA,hst,splice]
def ahQ{t ty y e:TypeId}{inf:TypeInfo}{z gy:Value}{b n m cap:Nat}{olds news:List Value}(he:P.underlying t=some (.slice e))(hty:(∃e',P.underlying y=some (.slice e'))\/P.underlying y=some .string)
  (hi:P.info? e=some inf) (hz:inf.zero=some z) (hs:Src P inf.size w gy m news) (hl:olds.length=n * inf.size) (ho:∀j v,olds[j]? =some v->w.cell? ⟨b,0+j,none⟩=some v) (hroom:cap<n+m) (h63:n+m<=140737488355328) (hb:(n+m) * inf.bytes<=140737488355328):
  ∃cap',n+m<=cap'/\(Builtin.append_ #[t,y] ty #[.slice (some ⟨b,0,none⟩) n cap,gy]).run P w=.ok (.slice (some ⟨w.heap.size,0,none⟩) (n+m) cap') (w.drew.alloc (.cells ((olds++news).toArray++Builtin.zeroCells z.cells (cap' - (n+m))) e)):=by
 have hn:¬(n+m<=cap):=aC;have h63':¬(9223372036854775807<((n:Int)+(m:Int))):=aC;have h48':¬(281474976710656<Builtin.nextslicecap (n+m) cap * inf.bytes):=by have:=growslice_fits hroom hb;omega
 have hfo:=run_firstCells_some (P:=P) w.drew inf.size n ⟨b,0,none⟩ n cap olds hl (λj v hv=>by rw[YA];exact ho j v hv);refine⟨grownCap w (n+m) cap e,grownCap_ge w (n+m) cap e, ?_⟩;rcases hty with⟨e',hd⟩|hd<;>simp[Builtin.append_,run_underlying he,run_underlying hd,sizeOf,typeInfo,zeroValue,hi,hz,hs.len,hn,h63',h48',Question.forced,hfo,hs.aHB,newRow,grownCap]<;>
  (congr 2;apply Array.ext';simp[XG])
end
end Go.Vm
