import Derived.Orders
import Derived.KernelRfl
import Derived.RowKit3
import Derived.Laws.Cells
import Derived.Laws.Rows
import Derived.Laws.OwnMore
import Derived.Below
set_option linter.defProp false
set_option linter.unusedVariables false
set_option linter.unusedSimpArgs false
namespace Go.Vm
def ak{p:Prop}(h:p:=by omega):p:=h
def aI{α:Sort _}(a b:α):cond true a b=a:=cond_true ..
def aS{α:Sort _}(a b:α):cond false a b=b:=cond_false ..
def iI{α:Type _}(a b:α):(some a=some b)=(a=b):=Option.some.injEq ..
def jY{α:Type _}{β:Type _}(a:α)(b:β)(c:α)(d:β):((a,b)=(c,d))=(a=c∧b=d):=Prod.mk.injEq ..
def zdt{p:Prop}[Decidable p](h:p):decide p=true:=decide_eq_true h
def nZ{p:Prop}[Decidable p](h:¬p):decide p=false:=decide_eq_false h
def Ac{n m:Nat}(h:Nat.beq n m=true):n=m:=Nat.eq_of_beq_eq_true h
def pF{α:Type _}{a b:List α}:(a++b).length=a.length+b.length:=List.length_append ..
def Md{α:Type _}{i:Nat}{a:α}{l:List α}:l[i]? =some a↔∃h:i<l.length,l[i]=a:=List.getElem?_eq_some_iff ..
def lU{α:Type _}{a:α}{s:List α}:(a::s).length=s.length+1:=List.length_cons ..
def Ad{α:Type _}(a b c:List α):a++b++c=a++(b++c):=List.append_assoc ..
def J3{α:Type _}{a:α}:[a].length=1:=List.length_singleton ..
def qX{α:Type _}:([]:List α).length=0:=List.length_nil ..
def zZ{α:Type _}{l:List α}{i:Nat}{a:α}(h:l[i]? =some a):a∈l:=List.mem_of_getElem? h
def EU(a b:Bool):((a&&b)=true)=(a=true∧b=true):=Bool.and_eq_true ..
def Jb{α:Type _}{β:Type _}(a:α)(f:α->β):Option.map f (some a)=some (f a):=Option.map_some ..
def Rh{α:Type _}{β:Type _}{f:α->β}{a:α}{l:List α}:List.map f (a::l)=f a::List.map f l:=List.map_cons ..
def U0(n:Nat):((n:Int)).toNat=n:=Int.toNat_natCast ..
def VE{α:Type _}{a:α}{s t:List α}:a::s++t=a::(s++t):=List.cons_append ..
def Yw{α:Type _}(y:α){a:α}{l:List α}(h:a∈l):a∈y::l:=List.mem_cons_of_mem _ h
def ZK{α:Type _}{a:α}{l:List α}:a∈a::l:=List.mem_cons_self ..
def zlo{α:Type _}{l:List α}:l.length=1↔∃a,l=[a]:=List.length_eq_one_iff ..
def JX{α:Type _}[BEq α][LawfulBEq α]{a b:α}:(a==b)=false↔a≠b:=beq_eq_false_iff_ne ..
def Ud{α:Type _}{i:Nat}{l:List α}:(l.take i).length=min i l.length:=List.length_take ..
end Go.Vm
namespace Go.Vm
open Go
inductive D where
 |int (k:IntKind) (n:Int)
 |bool (b:Bool)
 |str (s:List UInt8)
 |U1
 |sl (own:Bool) (s:Nat) (rows:List (List D))
 deriving Inhabited
abbrev Row:=List D
abbrev aB:=List UInt8
abbrev aA:=List Row
inductive V where
 |d (x:D)
 |nil (s:Nat)
 |own (r ver:Nat)
 |ptr (r off:Nat)
 |xB (r ver i off:Nat)
 |rU (row:Row) (off:Nat)
 |Ae (v:V)
 |clo (f:Nat) (first caps:List V)
 |agg (cs:List V)
 |DL (vs:List V)
 |undef
 deriving Inhabited
inductive Cell where
 |box (t:TypeId) (cs:List V)
 |arr (fz fl:Bool) (ver s:Nat) (rows:List Row)
 |dead
 |JY (ver s:Nat) (rows:List Row)
 |pY (t:TypeId) (v:V)
 deriving Inhabited
abbrev Mem:=List (Nat×Cell)
abbrev lD:=List (Nat×V)
structure St where
 tm:lD
 mem:Mem
def get{α:Type}(k:Nat):List (Nat×α)->Option α
 |[]=>none
 |(j,x)::l=>bif Nat.beq k j then some x else get k l
def put{α:Type}(k:Nat)(x:α):List (Nat×α)->List (Nat×α)
 |[]=>[(k,x)]
 |(j,y)::l=>bif Nat.beq k j then(k,x)::l else bif Nat.blt k j then(k,x)::(j,y)::l else(j,y)::put k x l
def del{α:Type}(k:Nat):List (Nat×α)->List (Nat×α)
 |[]=>[]
 |(j,y)::l=>bif Nat.beq k j then del k l else(j,y)::del k l
def Xt(t:Nat)(tm:lD):V:=match get t tm with|some v=>v|none=> .undef
def aaQ(dst:Option Nat)(v:V)(tm:lD):lD:=match dst with|some t=>put t v tm|none=>tm
def azJ(dst:Option Nat)(tm:lD):lD:=match dst with|some t=>del t tm|none=>tm
inductive Acc(α:Type):Type 1 where
 |ret (a:α)
 |fail
 |get (k:Nat) (c:Option Cell->Acc α)
 |set (k:Nat) (x:Cell) (c:Acc α)
 |opt {β:Type} (o:Option β) (c:β->Acc α)
 |guard (b:Bool) (c:Acc α)
structure Log where
 r:List Nat
 w:List Nat
def Log.rd(l:Log)(k:Nat):Log:={l with r:=k::l.r}
def Log.wr(l:Log)(k:Nat):Log:={l with w:=k::l.w}
def Log.none:Log:=⟨[],[]⟩
def Acc.bind{α β:Type}:Acc α->(α->Acc β)->Acc β
 | .ret a,f=>f a
 | .fail,_=> .fail
 | .get k c,f=> .get k λx=>(c x).bind f
 | .set k x c,f=> .set k x (c.bind f)
 | .opt o c,f=> .opt o λb=>(c b).bind f
 | .guard b c,f=> .guard b (c.bind f)
def Acc.run{α:Type}:Acc α->Mem->Log->Option (α×Mem×Log)
 | .ret a,m,l=>some (a,m,l)
 | .fail,_,_=>none
 | .get k c,m,l=>(c (Vm.get k m)).run m (l.rd k)
 | .set k x c,m,l=>c.run (put k x m) (l.wr k)
 | .opt o c,m,l=>match o with|some b=>(c b).run m l|none=>none
 | .guard b c,m,l=>match b with|true=>c.run m l|false=>none
inductive CT where
 |int (k:IntKind)|bool|str|sl (s:Nat)|other
 deriving Inhabited
def aqR(f:TypeId->Option (List CT)):List TypeId->Option (List CT)
 |[]=>some []
 |t::ts=>match f t,aqR f ts with|some a,some b=>some (a++b)|_,_=>none
def cts(P:Program):Nat->TypeId->Option (List CT)
 |0,_=>none
 |n+1,t=>match P.underlying t with
  |some (.int k)=>some [.int k]
  |some .bool=>some [.bool]
  |some .string=>some [.str]
  |some (.slice e)=>match P.info? e with|some i=>some [.sl i.size]|none=>none
  |some (.struct fs)=>aqR (cts P n) (fs.toList.map (·.type))
  |some (.array k e)=>aqR (cts P n) (List.replicate k e)
  |some (.pointer _)|some (.func ..)=>some [.other]
  |_=>none
def TD(P:Program)(t:TypeId):List CT:=match cts P 8 t with|some l=>l|none=>[.other]
def Oi(P:Program)(t:TypeId):Bool:=match P.underlying t with|some (.struct _)=>true|some (.array ..)=>true|_=>false
def nG(P:Program)(t:TypeId):Nat:=match P.info? t with|some i=>i.size|none=>0
def elT(P:Program)(t:TypeId):Option TypeId:=match P.underlying t with|some (.slice e)=>some e|_=>none
def adq:CT->Value->V
 |_,.bool b=> .d (.bool b)
 |_,.int k n=> .d (.int k n)
 |_,.string s=> .d (.str s.data.toList)
 |_,.nilFunc=> .d .U1
 | .sl s,.slice none 0 0=> .nil s
 |_,_=> .undef
def Ib:List CT->List Value->List V
 |c::cs,v::vs=>adq c v::Ib cs vs
 |[],_::vs=> .undef::Ib [] vs
 |_,[]=>[]
def cv(P:Program)(t:TypeId):Value->V
 | .agg cs=> .agg (Ib (TD P t) cs.toList)
 |v=>match TD P t with|c::_=>adq c v|[]=> .undef
def RP(P:Program)(t:TypeId):Option (List V):=
 match P.info? t with
 |some i=>match i.zero with
  |some z=>some (Ib (TD P t) z.cells.toList)
  |none=>none
 |none=>none
def V.cells:V->List V
 | .agg cs=>cs
 |v=>[v]
def MN(P:Program)(t:TypeId)(cs:List V):Option V:=
 bif Oi P t then some (.agg cs) else match cs with|[v]=>some v|_=>none
def asInt(k:IntKind):D->Option Int
 | .int k' n=>bif decide (k'=k) then some n else none
 |_=>none
def asBool:D->Option Bool
 | .bool b=>some b
 |_=>none
def ajW:D->Option (List UInt8)
 | .str s=>some s
 |_=>none
def au2(s:Nat):D->Option (List Row)
 | .sl _ s' rows=>bif Nat.beq s' s then some rows else none
 |_=>none
def azK(s:Nat):D->Option (List Row)
 | .sl own s' rows=>bif Nat.beq s' s then(match own with|false=>some rows|true=>match rows with|[]=>some []|_::_=>none) else none
 |_=>none
def ar9(s:Nat):D->Option (List Row)
 | .sl own s' rows=>match own with|true=>bif Nat.beq s' s then some rows else none|false=>none
 |_=>none
def nth(row:Row)(j:Nat):D:=match row[j]? with|some x=>x|none=> .U1
def aY(k:IntKind)(row:Row)(j:Nat):Option Int:=asInt k (nth row j)
def Q5(row:Row)(j:Nat):Option Bool:=asBool (nth row j)
def cStr(row:Row)(j:Nat):Option (List UInt8):=ajW (nth row j)
def OE(s:Nat)(row:Row)(j:Nat):Option (List Row):=au2 s (nth row j)
def cRo(s:Nat)(row:Row)(j:Nat):Option (List Row):=azK s (nth row j)
def au3(s:Nat)(row:Row)(j:Nat):Option (List Row):=ar9 s (nth row j)
mutual
def D.fz:D->D
 | .int k n=> .int k n
 | .bool b=> .bool b
 | .str s=> .str s
 | .U1=> .U1
 | .sl _ s rows=> .sl false s (aP rows)
def aP:List Row->List Row
 |[]=>[]
 |r::rs=>qg r::aP rs
def qg:Row->Row
 |[]=>[]
 |x::r=>x.fz::qg r
end
def roD:D->D
 | .sl _ s rows=> .sl false s rows
 |x=>x
def D.flat:D->Bool
 | .sl ..=>false
 |_=>true
def ay(rows:List Row):Bool:=rows.all λr=>r.all D.flat
def one:V->Bool
 | .d _=>true
 | .nil _=>true
 | .own _ _=>true
 | .ptr _ _=>true
 | .xB ..=>true
 | .rU _ _=>true
 | .Ae _=>true
 | .clo ..=>true
 |_=>false
mutual
def D.pure:D->Bool
 | .sl own _ rows=>match own with|true=>Az rows|false=>rows.isEmpty
 |_=>true
def Az:List Row->Bool
 |[]=>true
 |r::rs=>bM r && Az rs
def bM:Row->Bool
 |[]=>true
 |x::r=>x.pure && bM r
end
def OW(strict:Bool):List CT->Row->Nat->(List V->Acc V)->Acc V
 |[],_,_,c=>c []
 | .int k::ts,row,j,c=> .opt (aY k row j) λn=>OW strict ts row (j+1) λvs=>c (.d (.int k n)::vs)
 | .bool::ts,row,j,c=> .opt (Q5 row j) λn=>OW strict ts row (j+1) λvs=>c (.d (.bool n)::vs)
 | .str::ts,row,j,c=> .opt (cStr row j) λn=>OW strict ts row (j+1) λvs=>c (.d (.str n)::vs)
 | .sl s::ts,row,j,c=> .opt (bif strict then cRo s row j else OE s row j) λrs=>OW strict ts row (j+1) λvs=>c (.d (.sl false s rs)::vs)
 | .other::_,_,_,_=> .fail
structure Adv where
 keep:Nat->Nat->List Nat
 move:Nat->List Nat
 ref:Nat->List Nat
 att:Nat->Nat->List Nat
 aII:Nat->List Nat
 fuse:Nat->Nat->Nat
 trunc:Nat->Nat->Bool
 raw:Nat->List Nat
 look:Nat->List Nat
structure Ctx where
 P:Program
 OU:Adv
 Yx:Nat->Option (List V->List Cell->Option (List Row×List Cell))
 glob:Nat->Option Row
 a0V:Nat->Bool
 aIJ:Nat->Bool:=λ_=>false
abbrev jS:=Nat->List V->List Cell->Option (List Row×List Cell)
def mem?(k:Nat):List Nat->Bool
 |[]=>false
 |j::l=>bif Nat.beq k j then true else mem? k l
def aCx:List CT->Bool
 |[]=>false
 | .sl _::_=>true
 |_::l=>aCx l
def uI(P:Program)(e:TypeId):Bool:= !(aCx (TD P e))
def vw(fl:Bool)(rows:List Row):List Row:=bif fl then rows else aP rows
instance:Monad Acc where
 pure:=.ret
 bind:=.bind
def rd(k:Nat):Acc (Option Cell):=.get k .ret
def wr(k:Nat)(x:Cell):Acc Unit:=.set k x (.ret ())
def ck(b:Bool):Acc Unit:=.guard b (.ret ())
def op'{β:Type}(o:Option β):Acc β:=.opt o .ret
def free(k:Nat):Acc Unit:=do
 match<-rd k with
 |none=>pure ()
 |some _=> .fail
def new(k:Nat)(c:Cell):Acc Unit:=do
 free k
 wr k c
def seen(v:V):Acc (Nat×List Row):=
 match v with
 | .d (.sl _ s rows)=>pure (s,rows)
 | .nil s=>pure (s,[])
 | .own r ver=>do
  match<-rd r with
  |some (.arr _ fl jy s rows)=>do ck (Nat.beq ver jy);pure (s,vw fl rows)
  |_=> .fail
 |_=> .fail
def aam(fl:Bool)(rows:List Row):Bool:=bif fl then ay rows else true
def toD(v:V):Acc D:=
 match v with
 | .d x=>pure (roD x)
 | .nil s=>pure (.sl true s [])
 | .own r ver=>do
  match<-rd r with
  |some (.arr fz fl jy s rows)=>do
   ck (Nat.beq ver jy)
   match fz with
   |true=>pure (.sl false s (vw fl rows))
   |false=>do
    ck (aam fl rows)
    wr r .dead
    pure (.sl true s rows)
  |_=> .fail
 |_=> .fail
def Q7:List V->Acc Row
 |[]=>pure []
 |v::vs=>do
  let x<-toD v
  let xs<-Q7 vs
  pure (x::xs)
def splice{α:Type}(l:List α)(off:Nat)(xs:List α):List α:=l.take off++xs++l.drop (off+xs.length)
def part{α:Type}(l:List α)(off n:Nat):List α:=(l.drop off).take n
def idx{α:Type}(l:List α)(i:Int):Option α:=bif decide (0<=i) then l[i.toNat]? else none
def cut{α:Type}(l:List α)(a b:Int):Option (List α):=
 bif decide (0<=a) && decide (a<=b) && decide (b<=l.length) then some ((l.drop a.toNat).take (b.toNat - a.toNat)) else none
def byteRow(b:UInt8):Row:=[.int .u8 b.toNat]
def asByte:Row->Option UInt8
 |[.int .u8 n]=>some (UInt8.ofNat n.toNat)
 |_=>none
def bytesOf:List Row->Option (List UInt8)
 |[]=>some []
 |r::rs=>match asByte r,bytesOf rs with|some b,some bs=>some (b::bs)|_,_=>none
def ev(P:Program)(tm:lD)(t:TypeId):Operand->V
 | .tmp i=>Xt i tm
 | .const v=>cv P t v
 | .func f=> .clo f [] []
 | .global _=> .undef
def evG(X:Ctx)(tm:lD)(t:TypeId)(x:Operand):V:=match x with
 | .global g=>match X.glob g with
  |some row=> .rU row 0
  |none=> .undef
 |x=>ev X.P tm t x
def au4(op:BinOp)(k:IntKind)(a b:Int):Option V:=
 match op with
 | .add=>some (.d (.int k (k.wrap (a+b))))
 | .sub=>some (.d (.int k (k.wrap (a - b))))
 | .mul=>some (.d (.int k (k.wrap (a * b))))
 | .quo=>bif decide (b=0) then none else some (.d (.int k (k.wrap (a.tdiv b))))
 | .rem=>bif decide (b=0) then none else some (.d (.int k (a.tmod b)))
 | .eql=>some (.d (.bool (a==b)))
 | .neq=>some (.d (.bool (a !=b)))
 | .lss=>some (.d (.bool (decide (a<b))))
 | .leq=>some (.d (.bool (decide (a<=b))))
 | .gtr=>some (.d (.bool (decide (a>b))))
 | .geq=>some (.d (.bool (decide (a>=b))))
 | .and=>some (.d (.int k (k.wrap (BitVec.ofInt k.bits a &&& BitVec.ofInt k.bits b).toNat)))
 | .or=>some (.d (.int k (k.wrap (BitVec.ofInt k.bits a|||BitVec.ofInt k.bits b).toNat)))
 | .xor=>some (.d (.int k (k.wrap (BitVec.ofInt k.bits a ^^^ BitVec.ofInt k.bits b).toNat)))
 |_=>none
def abR(op:BinOp)(k:IntKind)(a b:Int):Option V:=
 bif decide (b<0) then none else
 match op with
 | .shl=>some (.d (.int k (k.wrap (a * 2 ^(min b.toNat k.bits)))))
 | .shr=>some (.d (.int k (a.fdiv (2 ^(min b.toNat k.bits)))))
 |_=>none
def aqS:Nat:=9223372036854775807
def aEt(op:BinOp)(a b:List UInt8):Acc V:=
 match op with
 | .add=> .guard (Nat.ble (a.length+b.length) aqS) (.ret (.d (.str (a++b))))
 | .eql=> .ret (.d (.bool (a==b)))
 | .neq=> .ret (.d (.bool !(a==b)))
 | .lss=> .ret (.d (.bool (Op.bytesLess a b)))
 | .leq=> .ret (.d (.bool (Op.bytesLess a b||a==b)))
 | .gtr=> .ret (.d (.bool !(Op.bytesLess a b||a==b)))
 | .geq=> .ret (.d (.bool !(Op.bytesLess a b)))
 |_=> .fail
def aIK(op:BinOp)(a b:Bool):Option V:=
 match op with
 | .eql=>some (.d (.bool (a==b)))
 | .neq=>some (.d (.bool !(a==b)))
 |_=>none
def shiftOp:BinOp->Bool
 | .shl| .shr=>true
 |_=>false
def boolT(P:Program)(t:TypeId):Bool:=match P.underlying t with|some .bool=>true|_=>false
def bin(bt:Bool)(op:BinOp)(x y:V):Acc V:=
 match x,y with
 | .d (.int k a),.d (.int k' b)=>
  match shiftOp op with
  |true=> .opt (abR op k a b) .ret
  |false=>match decide (k=k') with
   |true=> .opt (au4 op k a b) .ret
   |false=> .fail
 | .d (.str a),.d (.str b)=>aEt op a b
 | .d (.bool a),.d (.bool b)=>match bt with
  |true=> .opt (aIK op a b) .ret
  |false=> .fail
 |_,_=> .fail
def aqT:V->V->Option Bool
 | .d (.int k a),.d (.int k' b)=>bif decide (k=k') then some (a==b) else none
 | .d (.str a),.d (.str b)=>some (a==b)
 | .d (.bool a),.d (.bool b)=>some (a==b)
 |_,_=>none
def adr(P:Program)(t:TypeId)(v:V):Bool:=match P.underlying t,v with
 |some (.int _),.d (.int _ _)=>true
 |some .string,.d (.str _)=>true
 |some .bool,.d (.bool _)=>true
 |_,_=>false
def af7(P:Program):List Field->List V->List V->Option Bool
 |[],_,_=>some true
 |f::fs,xs,ys=>match xs[f.offset]?,ys[f.offset]? with
  | some x, some y => bif adr P f.type x && (f.name != "_") then
    (match aqT x y,af7 P fs xs ys with
    |some a,some b=>some (bif a then b else false)
    |_,_=>none) else none
  |_,_=>none
def aIL(P:Program)(t:TypeId)(op:BinOp)(cs ds:List V):Acc V:=do
 ck (!(P.stoodInHeld t) && !(P.eqGuardType P.depth t))
 let fs<-op' (match P.underlying t with|some (.struct fs)=>some fs.toList|_=>none)
 let r<-op' (af7 P fs cs ds)
 match op with
 | .eql=>pure (.d (.bool r))
 | .neq=>pure (.d (.bool !r))
 |_=> .fail
def aqU(x:V):Acc Bool:=
 match x with
 | .nil _=>pure true
 | .d (.sl _ _ rows)=>do ck (Nat.ble 1 rows.length);pure false
 | .own r ver=>do
  match<-rd r with
  |some (.arr _ _ jy _ rows)=>do ck (Nat.beq ver jy && Nat.ble 1 rows.length);pure false
  |_=> .fail
 |_=> .fail
def sliceT(P:Program)(t:TypeId):Bool:=match P.underlying t with|some (.slice _)=>true|_=>false
def aqV(P:Program)(t:TypeId)(op:BinOp)(x:V):Acc V:=do
 ck (sliceT P t)
 let b<-aqU x
 match op with
 | .eql=>pure (.d (.bool b))
 | .neq=>pure (.d (.bool !b))
 |_=> .fail
def aEu(P:Program)(t:TypeId)(op:BinOp)(x y:V):Acc V:=match x with
 | .agg cs=>(match y with| .agg ds=>aIL P t op cs ds|_=> .fail)
 |x=>(match y with| .nil _=>aqV P t op x|y=>bin (boolT P t) op x y)
def un(op:UnOp)(x:V):Acc V:=
 match op,x with
 | .neg,.d (.int k n)=> .ret (.d (.int k (k.wrap (0 - n))))
 | .not,.d (.bool b)=> .ret (.d (.bool !b))
 |_,_=> .fail
def au5(c x y:V):Acc V:=
 match c with
 | .d (.bool c)=>match x,y with
  | .d (.bool a),.d (.bool b)=> .ret (.d (.bool (bif c then a else b)))
  |x,y=>match c with
   |true=> .ret x
   |false=> .ret y
 |_=> .fail
def Gw(P:Program)(t:TypeId):Bool:=match P.underlying t with|some _=>true|none=>false
def au6(P:Program)(t:TypeId)(a:V):Acc V:=do
 ck (Gw P t && Nat.beq (TD P t).length (nG P t))
 match a with
 | .ptr r off=>do
  match<-rd r with
  |some (.box _ cs)=>do
   ck (Nat.ble (off+nG P t) cs.length)
   op' (MN P t (part cs off (nG P t)))
  |some (.pY _ v)=>do
   ck (Nat.beq off 0 &&(Nat.beq (nG P t) 1 && !(Oi P t)))
   pure v
  |_=> .fail
 | .Ae v=>do
  ck (Nat.beq (nG P t) 1 && !(Oi P t))
  pure v
 | .rU row off=>OW false (TD P t) row off λvs=>op' (MN P t vs)
 | .xB r ver i off=>do
  match<-rd r with
  |some (.arr _ _ jy _ rows)=>do
   ck (Nat.beq ver jy)
   let row<-op' rows[i]?
   OW true (TD P t) row off λvs=>op' (MN P t vs)
  |some (.JY jy _ rows)=>do
   ck (Nat.beq ver jy)
   let row<-op' rows[i]?
   OW true (TD P t) row off λvs=>op' (MN P t vs)
  |_=> .fail
 |_=> .fail
def kept(off:Nat)(cs:List V)(x:V):Bool:=match off,cs,x with
 |0,[.undef],.ptr _ _=>true
 |_,_,_=>false
def aqW(P:Program)(t:TypeId)(a x:V):Acc Unit:=do
 ck (Gw P t)
 ck (Nat.beq x.cells.length (nG P t))
 ck (x.cells.all one)
 match a with
 | .ptr r off=>do
  match<-rd r with
  |some (.box T cs)=>do
   ck (Nat.ble (off+nG P t) cs.length)
   match kept off cs x with
   |true=>wr r (.pY T x)
   |false=>wr r (.box T (splice cs off x.cells))
  |_=> .fail
 | .xB r ver i off=>do
  let xs<-Q7 x.cells
  match<-rd r with
  |some (.arr false fl jy s rows)=>do
   ck (Nat.beq ver jy)
   ck (Nat.ble (off+nG P t) s)
   let row<-op' rows[i]?
   wr r (.arr false fl ver s (rows.set i (splice row off xs)))
  |_=> .fail
 |_=> .fail
def Xu(P:Program)(T:TypeId)(f:Nat):Option (Nat×Nat×TypeId):=
 match P.underlying T with
 |some (.struct fs)=>match fs[f]? with
  |some fd=>some (fd.offset,nG P fd.type,fd.type)
  |none=>none
 |_=>none
def aaR(P:Program)(T:TypeId)(a:V)(f:Nat):Acc V:=do
 let(o,n,_)<-op' (Xu P T f)
 ck (Nat.ble 1 n)
 match a with
 | .ptr r off=>pure (.ptr r (off+o))
 | .rU row off=>pure (.rU row (off+o))
 | .xB r ver i off=>pure (.xB r ver i (off+o))
 |_=> .fail
def aqX(P:Program)(T:TypeId)(x:V)(f:Nat):Acc V:=do
 let(o,n,t)<-op' (Xu P T f)
 match x with
 | .agg cs=>do
  ck (Nat.ble (o+n) cs.length)
  ck (Gw P t)
  op' (MN P t (part cs o n))
 |_=> .fail
def aaS(P:Program)(t:TypeId)(x i:V):Acc V:=do
 let e<-op' (elT P t)
 match i with
 | .d (.int _ i)=>
  match x with
  | .d (.sl _ s rows)=>do
   ck (Nat.beq s (nG P e))
   ck (Gw P e)
   let row<-op' (idx rows i)
   pure (.rU row 0)
  | .own r ver=>do
   match<-rd r with
   |some (.arr fz fl jy s rows)=>do
    ck (Nat.beq ver jy)
    ck (Nat.beq s (nG P e))
    ck (Gw P e)
    match fz with
    |true=>do
     let row<-op' (idx (vw fl rows) i)
     pure (.rU row 0)
    |false=>do
     let _<-op' (idx rows i)
     pure (.xB r ver i.toNat 0)
   |some (.JY jy s rows)=>do
    ck (Nat.beq ver jy)
    ck (Nat.beq s (nG P e))
    ck (Gw P e)
    let _<-op' (idx rows i)
    pure (.xB r ver i.toNat 0)
   |_=> .fail
  |_=> .fail
 |_=> .fail
def arT(P:Program)(t:TypeId):Option (Nat×TypeId):=match P.underlying t with|some (.array n e)=>some (n,e)|_=>none
def am5(P:Program)(n:Nat)(e:TypeId)(x i:V):Acc V:=
 match i with
 | .d (.int _ i)=>do
  ck (Gw P e)
  ck (decide (0<=i) && decide (i<(n:Int)))
  match x with
  | .rU row off=>pure (.rU row (off+i.toNat * nG P e))
  | .ptr r off=>pure (.ptr r (off+i.toNat * nG P e))
  |_=> .fail
 |_=> .fail
def aaT(P:Program)(t:TypeId)(x i:V):Acc V:=match arT P t with
 |some (n,e)=>am5 P n e x i
 |none=>aaS P t x i
def ajX:List V->Option Row
 |[]=>some []
 | .d x::vs=>match ajX vs with|some r=>some (x::r)|none=>none
 |_::_=>none
def agE(c:CT)(row:Row)(i:Nat):Acc V:=match c with
 | .int k=> .opt (aY k row i) λn=> .ret (.d (.int k n))
 | .bool=> .opt (Q5 row i) λb=> .ret (.d (.bool b))
 | .str=> .opt (cStr row i) λs=> .ret (.d (.str s))
 |_=> .fail
def aqY(P:Program)(t:TypeId)(x i:V):Acc V:=
 match P.underlying t,x,i with
 |some .string,.d (.str s),.d (.int _ i)=> .opt (idx s i) λb=> .ret (.d (.int .u8 b.toNat))
 |some (.array n e),.agg cs,.d (.int _ i)=>do
  ck (Nat.beq (nG P e) 1 &&(Nat.beq cs.length n &&(Gw P e && !(Oi P e))))
  ck (decide (0<=i) && decide (i<(n:Int)))
  let row<-op' (ajX cs)
  agE (match TD P e with|[c]=>c|_=> .other) row i.toNat
 |_,_,_=> .fail
def lenV(x:V):Acc V:=
 match x with
 | .d (.str s)=> .ret (.d (.int .i64 s.length))
 | .own r ver=>do
  match<-rd r with
  |some (.arr _ _ jy _ rows)=>do ck (Nat.beq ver jy);pure (.d (.int .i64 rows.length))
  |some (.JY jy _ rows)=>do ck (Nat.beq ver jy);pure (.d (.int .i64 rows.length))
  |_=> .fail
 | .d (.sl _ _ rows)=> .ret (.d (.int .i64 rows.length))
 | .nil _=> .ret (.d (.int .i64 0))
 |_=> .fail
def Yy:Nat:=140737488355328
def Yz(P:Program)(e:TypeId):Nat:=match P.info? e with|some i=>i.bytes|none=>Yy
def tail(P:Program)(e:TypeId)(y:V):Acc (List Row):=
 match y with
 | .d (.str s)=>do
  ck (Nat.beq (nG P e) 1)
  pure (s.map byteRow)
 | .d (.sl _ s rows)=>do
  ck (Nat.beq s (nG P e))
  pure (vw (uI P e) rows)
 | .nil _=>pure []
 | .own r ver=>do
  match<-rd r with
  |some (.arr fz fl jy s rows)=>do
   ck (Nat.beq ver jy)
   ck (Nat.beq s (nG P e))
   match uI P e with
   |true=>do
    ck (fl||fz)
    pure rows
   |false=>do
    ck (!fl)
    match fz with
    |true=>pure (aP rows)
    |false=>do
     wr r .dead
     pure rows
  |_=> .fail
 |_=> .fail
def alB(P:Program)(dst:Nat)(t ty:TypeId)(x y:V):Acc V:=do
 let e<-op' (elT P t)
 ck (Nat.ble 1 (nG P e))
 ck (match P.underlying ty with|some (.slice _)=>true|some .string=>true|_=>false)
 let z<-op' (RP P e)
 ck (Nat.beq z.length (nG P e))
 let ys<-tail P e y
 match x with
 | .nil _=>do
  ck (Nat.ble (ys.length * Yz P e) Yy)
  ck (Nat.ble ys.length Yy)
  new dst (.arr false (uI P e) 0 (nG P e) ys)
  pure (.own dst 0)
 | .own r ver=>do
  match<-rd r with
  |some (.arr false fl jy s rows)=>do
   ck (Nat.beq ver jy)
   ck (Nat.beq s (nG P e))
   ck (match fl,uI P e with|true,true=>true|false,false=>true|_,_=>false)
   ck (Nat.ble ((rows.length+ys.length) * Yz P e) Yy)
   ck (Nat.ble (rows.length+ys.length) Yy)
   wr r (.arr false fl (ver+1) s (rows++ys))
   pure (.own r (ver+1))
  |some (.JY jy s rows)=>do
   ck (Nat.beq ver jy)
   ck (Nat.beq s (nG P e))
   ck (uI P e)
   ck (Nat.ble ((rows.length+ys.length) * Yz P e) Yy)
   ck (Nat.ble (rows.length+ys.length) Yy)
   wr r (.JY (ver+1) s (rows++ys))
   pure (.own r (ver+1))
  |_=> .fail
 |_=> .fail
def am6(P:Program)(e:TypeId):Acc Row:=do
 let z<-op' (RP P e)
 Q7 z
def aaU(P:Program)(dst:Nat)(t:TypeId)(l c:V):Acc V:=do
 let e<-op' (elT P t)
 ck (Nat.ble 1 (nG P e))
 let z<-am6 P e
 ck (Nat.beq z.length (nG P e))
 match l,c with
 | .d (.int _ l),.d (.int _ c)=>do
  ck (decide (0<=l) && decide (l<=c) && decide (c * Yz P e<=Yy) && decide (c<=Yy))
  new dst (.arr false (uI P e) 0 (nG P e) (List.replicate l.toNat z))
  pure (.own dst 0)
 |_,_=> .fail
def bound(o:Option V)(d:Int):Acc Int:=match o with
 |none=> .ret d
 |some (.d (.int _ n))=> .ret n
 |some _=> .fail
def aqZ(P:Program)(t:TypeId)(x:V)(lo hi:Option V):Acc V:=
 match x with
 | .d (.str s)=>do
  ck (match P.underlying t with|some .string=>true|_=>false)
  let l<-bound lo 0
  let h<-bound hi s.length
  let s'<-op' (cut s l h)
  pure (.d (.str s'))
 |_=>do
  let e<-op' (elT P t)
  ck (Gw P e)
  let(s,rows)<-seen x
  ck (Nat.beq s (nG P e))
  let l<-bound lo 0
  let h<-bound hi rows.length
  let rows'<-op' (cut rows l h)
  match x with
  | .own r ver=>do
   match<-rd r with
   |some (.arr _ fl jy s rows)=>do
    ck (Nat.beq ver jy)
    wr r (.arr true fl ver s rows)
    pure (.d (.sl false s rows'))
   |_=> .fail
  |_=>pure (.d (.sl false s rows'))
def alC(P:Program)(t:TypeId)(x:V)(lo hi:Option V):Acc V:=
 match x with
 | .rU row off=>do
  let(n,e)<-op' (arT P t)
  ck (Gw P e)
  ck (Nat.beq (nG P e) 1 &&(Nat.beq off 0 && Nat.beq row.length n))
  match lo,hi with
  |none,none=>pure (.d (.sl false 1 (row.map λx=>[x])))
  |_,_=> .fail
 |x=>aqZ P t x lo hi
def aq0(P:Program)(t:TypeId)(x:V)(hi:Option V):Acc V:=do
 let e<-op' (elT P t)
 ck (Gw P e)
 match x with
 | .own r ver=>do
  match<-rd r with
  |some (.arr false fl jy s rows)=>do
   ck (Nat.beq ver jy)
   ck (Nat.beq s (nG P e))
   let h<-bound hi rows.length
   ck (decide (0<=h) && decide (h<=(rows.length:Int)))
   wr r (.arr false fl (ver+1) s (rows.take h.toNat))
   pure (.own r (ver+1))
  |_=> .fail
 |_=> .fail
def au7(P:Program)(t:TypeId)(x lo:V):Acc V:=do
 let e<-op' (elT P t)
 ck (Gw P e)
 let l<-bound (some lo) 0
 match x with
 | .own r ver=>do
  match<-rd r with
  |some (.arr false true jy s rows)=>do
   ck (Nat.beq ver jy)
   ck (Nat.beq s (nG P e))
   ck (decide (0<=l) && decide (l<=(rows.length:Int)))
   wr r (.JY (ver+1) s (rows.drop l.toNat))
   pure (.own r (ver+1))
  |some (.JY jy s rows)=>do
   ck (Nat.beq ver jy)
   ck (Nat.beq s (nG P e))
   ck (decide (0<=l) && decide (l<=(rows.length:Int)))
   wr r (.JY (ver+1) s (rows.drop l.toNat))
   pure (.own r (ver+1))
  |_=> .fail
 |_=> .fail
def wW(P:Program)(T:TypeId)(tm:lD):List (Nat×Operand)->List V->Acc (List V)
 |[],cs=>pure cs
 |(f,x)::ps,cs=>do
  let(o,n,t)<-op' (Xu P T f)
  let v:=ev P tm t x
  ck (Nat.beq v.cells.length n)
  ck (v.cells.all one)
  ck (Nat.ble (o+n) cs.length)
  wW P T tm ps (splice cs o v.cells)
def am7(P:Program)(T:TypeId):Bool:=match P.underlying T with
 |some (.struct fs)=>fs.toList.all λf=>match P.info? f.type with|some _=>true|none=>false
 |_=>false
def uz(P:Program)(e:TypeId)(tm:lD):List (Nat×Operand)->List V->Acc (List V)
 |[],cs=>pure cs
 |(i,x)::ps,cs=>do
  let v:=ev P tm e x
  ck (Nat.beq v.cells.length (nG P e))
  ck (v.cells.all one)
  ck (Nat.ble (i * nG P e+nG P e) cs.length)
  uz P e tm ps (splice cs (i * nG P e) v.cells)
def alD(P:Program)(T:TypeId)(tm:lD)(ps:List (Nat×Operand)):Acc V:=do
 ck (am7 P T)
 let z<-op' (RP P T)
 let cs<-wW P T tm ps z
 pure (.agg cs)
def aq1(P:Program)(T e:TypeId)(tm:lD)(ps:List (Nat×Operand)):Acc V:=do
 ck (Gw P e)
 let z<-op' (RP P T)
 let cs<-uz P e tm ps z
 pure (.agg cs)
def alE(P:Program)(T:TypeId)(tm:lD)(ps:List (Nat×Operand)):Acc V:=match arT P T with
 |some (_,e)=>aq1 P T e tm ps
 |none=>alD P T tm ps
def wX(P:Program)(e:TypeId)(tm:lD):Nat->List (Nat×Operand)->Acc (List Row)
 |_,[]=>pure []
 |k,(i,x)::ps=>do
  ck (Nat.beq i k)
  let v:=ev P tm e x
  ck (Nat.beq v.cells.length (nG P e))
  let row<-Q7 v.cells
  let rows<-wX P e tm (k+1) ps
  pure (row::rows)
def VH(P:Program)(dst:Nat)(t:TypeId)(n:Nat)(tm:lD)(ps:List (Nat×Operand)):Acc V:=do
 let e<-op' (elT P t)
 ck (Nat.ble 1 (nG P e))
 ck (Nat.beq ps.length n)
 ck (Nat.ble (n * nG P e) 16777216)
 let _<-op' (RP P e)
 let rows<-wX P e tm 0 ps
 new dst (.arr false (uI P e) 0 (nG P e) rows)
 pure (.own dst 0)
def agF(P:Program)(src dst:TypeId)(x:V):Acc V:=
 match P.underlying src,P.underlying dst with
 |some (.int _),some (.int k)=>match x with
  | .d (.int _ n)=> .ret (.d (.int k (k.wrap n)))
  |_=> .fail
 |some .string,some .string=>match x with
  | .d (.str s)=> .ret (.d (.str s))
  |_=> .fail
 |some (.slice e),some .string=>do
  ck (match P.underlying e with|some (.int .u8)=>true|_=>false)
  let(s,rows)<-seen x
  ck (Nat.beq s 1)
  let b<-op' (bytesOf rows)
  pure (.d (.str b))
 |_,_=> .fail
def nK:Nat:=100000
def alF(r:Nat)(l:List Nat):List Nat:=bif mem? r l then l else l++[r]
mutual
def am8(I:List Nat):V->List Nat
 | .ptr r _=>alF r I
 | .clo _ a b=>ajY (ajY I a) b
 | .agg cs=>ajY I cs
 | .Ae v=>am8 I v
 |_=>I
def ajY(I:List Nat):List V->List Nat
 |[]=>I
 |v::vs=>ajY (am8 I v) vs
end
def Fq(A:Adv)(f i:Nat):Nat:=bif mem? i (A.move f) then 1 else bif mem? i (A.ref f) then 2 else bif mem? i (A.raw f) then 3 else bif mem? i (A.look f) then 4 else 0
def Uw(A:Adv)(f:Nat):Nat->List Nat->List V->List Nat
 |_,I,[]=>I
 |i,I,v::vs=>Uw A f (i+1) (match Fq A f i,v with
  |2,.own r _=>alF r I
  |4,_=>I
  |_,v=>am8 I v) vs
def idxOf(r:Nat):Nat->List Nat->Option Nat
 |_,[]=>none
 |i,j::l=>bif Nat.beq r j then some i else idxOf r (i+1) l
def WA(A:Adv)(f:Nat):Nat->List V->Acc (List V)
 |_,[]=>pure []
 |i,v::vs=>do
  let v<-(match Fq A f i with
   |1=>do
    let x<-toD v
    pure (.d x)
   |_=>pure v:Acc V)
  let vs<-WA A f (i+1) vs
  pure (v::vs)
mutual
def lend(imp:List Nat):V->Acc (V×List Nat)
 | .d x=>pure (.d (roD x),[])
 | .nil s=>pure (.d (.sl false s []),[])
 | .own r ver=>do
  match<-rd r with
  |some (.arr fz fl jy s rows)=>do
   ck (Nat.beq ver jy)
   ck (!(mem? r imp))
   pure (.d (.sl false s (vw fl rows)),bif fz then[] else[r])
  |_=> .fail
 | .ptr r off=>do
  let i<-op' (idxOf r 0 imp)
  pure (.ptr (nK+i) off,[])
 | .rU row off=>pure (.rU row off,[])
 | .Ae v=>do
  let(v,l)<-lend imp v
  pure (.Ae v,l)
 | .clo f a b=>do
  let(a,l)<-agG imp a
  let(b,l')<-agG imp b
  pure (.clo f a b,l++l')
 | .agg cs=>do
  let(a,l)<-agG imp cs
  pure (.agg a,l)
 | .xB ..=> .fail
 | .DL _=> .fail
 | .undef=> .fail
def agG(imp:List Nat):List V->Acc (List V×List Nat)
 |[]=>pure ([],[])
 |v::vs=>do
  let(v,l)<-lend imp v
  let(vs,l')<-agG imp vs
  pure (v::vs,l++l')
end
def WB(imp:List Nat):List V->Acc (Row×List Nat)
 |[]=>pure ([],[])
 |v::vs=>do
  let(v,l)<-lend imp v
  match v with
  | .d x=>do
   let(r,l')<-WB imp vs
   pure (x::r,l++l')
  |_=> .fail
def af8(imp:List Nat)(v:V):Acc (V×List Nat):=
 match v with
 | .ptr r off=>do
  match<-rd r with
  |some (.box _ cs)=>do
   ck (!(mem? r imp))
   let(row,l)<-WB imp cs
   pure (.rU row off,r::l)
  |_=> .fail
 | .rU row off=>pure (.rU row off,[])
 |_=> .fail
def WC(A:Adv)(imp:List Nat)(f:Nat):Nat->List V->Acc (List V×List Nat)
 |_,[]=>pure ([],[])
 |i,v::vs=>do
  let(v,l)<-(match Fq A f i with
   |1=>pure (v,[])
   |2=>match v with
    | .own r ver=>do
     ck (Nat.beq ver 0)
     let i<-op' (idxOf r 0 imp)
     pure (.own (nK+i) 0,[])
    |_=> .fail
   |3=>match v with
    | .nil s=>pure (.nil s,[])
    |_=> .fail
   |4=>af8 imp v
   |_=>lend imp v:Acc (V×List Nat))
  let(vs,l')<-WC A imp f (i+1) vs
  pure (v::vs,l++l')
def au8(imp:List Nat)(own:Bool)(v:V):Acc V:=
 match v with
 | .d x=>pure (.d (roD x))
 | .nil s=>pure (.d (.sl own s []))
 | .own r ver=>do
  match<-rd r with
  |some (.arr fz fl jy s rows)=>do
   ck (Nat.beq ver jy)
   ck (!(mem? r imp))
   match own with
   |true=>do
    ck (!fz)
    ck (aam fl rows)
    wr r .dead
    pure (.d (.sl true s rows))
   |false=>do
    wr r (.arr true fl ver s rows)
    pure (.d (.sl false s (vw fl rows)))
  |_=> .fail
 |_=> .fail
def YA(imp own:List Nat):Nat->List V->Acc (List V)
 |_,[]=>pure []
 |j,v::vs=>do
  let v<-au8 imp (mem? j own) v
  let vs<-YA imp own (j+1) vs
  pure (v::vs)
def alG(A:Adv)(imp:List Nat)(c:Option Cell):Acc Cell:=
 match c with
 |some (.box t cs)=>do
  let cs<-YA imp (A.aII t) 0 cs
  pure (.box t cs)
 |some (.arr fz fl ver s rows)=>do
  ck (!fz)
  ck (Nat.beq ver 0)
  pure (.arr fz fl 0 s rows)
 |_=> .fail
def YB(A:Adv)(imp:List Nat):List Nat->Acc (List Cell)
 |[]=>pure []
 |r::rs=>do
  let c<-rd r
  let c<-alG A imp c
  let cs<-YB A imp rs
  pure (c::cs)
def keyOf(r j dst:Nat):Nat:=1000000+(r * 100+j) * 10000+dst
def vD:V->D
 | .d x=>x
 |_=> .U1
def au9(cs:List Cell)(i:Nat):Row:=match cs[i]? with|some (.box _ vs)=>vs.map vD|_=>[]
def ava(s:Nat)(cs:List Cell)(i:Nat):Option (List Row):=match cs[i]? with|some (.arr false _ 0 s' rows)=>bif Nat.beq s s' then some rows else none|_=>none
def avb(cs:List Cell)(i n:Nat):Bool:=match cs[i]? with|some (.box _ vs)=>Nat.beq vs.length n|_=>false
def avc(f:TypeId->List Bool):List TypeId->List Bool
 |[]=>[]
 |t::ts=>f t++avc f ts
def fls(P:Program):Nat->TypeId->List Bool
 |0,_=>[]
 |n+1,t=>match P.underlying t with
  |some (.slice e)=>[uI P e]
  |some (.struct fs)=>avc (fls P n) (fs.toList.map (·.type))
  |_=>[false]
def TF(own fl:Bool)(key:Nat)(row:Row)(j:Nat):CT->Acc V
 | .int k=> .opt (aY k row j) λn=> .ret (.d (.int k n))
 | .bool=> .opt (Q5 row j) λn=> .ret (.d (.bool n))
 | .str=> .opt (cStr row j) λn=> .ret (.d (.str n))
 | .sl s=>match own with
  |true=> .opt (au3 s row j) λrows=>do
   new key (.arr false fl 0 s rows)
   pure (.own key 0)
  |false=> .opt (OE s row j) λrows=> .ret (.d (.sl false s (vw fl rows)))
 | .other=> .fail
def abS(own:List Nat)(r dst:Nat)(row:Row):Nat->List CT->List Bool->Acc (List V)
 |_,[],_=>pure []
 |j,ct::l,fs=>do
  let v<-TF (mem? j own) (fs.headD false) (keyOf r j dst) row j ct
  let vs<-abS own r dst row (j+1) l fs.tail
  pure (v::vs)
def aer(X:Ctx)(dst:Nat)(out:List Cell):Nat->List Nat->Acc Unit
 |_,[]=>pure ()
 |i,r::rs=>do
  match<-rd r with
  |some (.box t _)=>do
   ck (avb out i (TD X.P t).length)
   let vs<-abS (X.OU.aII t) r dst (au9 out i) 0 (TD X.P t) (fls X.P 8 t)
   wr r (.box t vs)
  |some (.arr _ fl ver s _)=>do
   let rows<-op' (ava s out i)
   wr r (.arr false fl ver s rows)
  |_=> .fail
  aer X dst out (i+1) rs
def aEv(dst c:Nat):Nat:=1000000000000000+dst * 1000+c
def YC(att:List Nat)(dst ri:Nat)(row:Row):Nat->List CT->List Bool->Acc (List V)
 |_,[],_=>pure []
 |j,ct::l,fs=>do
  let v<-TF (mem? (ri * 20+j) att) (fs.headD false) (aEv dst (ri * 20+j)) row j ct
  let vs<-YC att dst ri row (j+1) l fs.tail
  pure (v::vs)
def abT(res:List Row)(ri:Nat):Row:=match res[ri]? with|some r=>r|none=>[]
def aaV(X:Ctx)(att:List Nat)(dst:Nat)(res:List Row):Nat->List TypeId->Acc (List V)
 |_,[]=>pure []
 |ri,t::ts=>do
  ck (Nat.beq (abT res ri).length (TD X.P t).length)
  let cs<-YC att dst ri (abT res ri) 0 (TD X.P t) (fls X.P 8 t)
  let v<-op' (MN X.P t cs)
  let vs<-aaV X att dst res (ri+1) ts
  pure (v::vs)
def aq2(att:List Nat)(ri:Nat):Nat->List CT->Bool
 |_,[]=>true
 |j,.sl _::l=>mem? (ri * 20+j) att && aq2 att ri (j+1) l
 |j,_::l=>aq2 att ri (j+1) l
def ZL(P:Program)(att:List Nat):Nat->List TypeId->Bool
 |_,[]=>true
 |ri,t::ts=>aq2 att ri 0 (TD P t) && ZL P att (ri+1) ts
def freeze:List Nat->Acc Unit
 |[]=>pure ()
 |r::rs=>do
  match<-rd r with
  |some (.arr _ fl ver s rows)=>wr r (.arr true fl ver s rows)
  |_=> .fail
  freeze rs
def abU(X:Ctx)(K:jS)(fn dst f:Nat)(args:List V):Acc V:=do
 let g<-op' X.P.funcs[f]?
 ck (g.body.isSome && !(g.name == "runtime.NumGoroutine"))
 let imp:=Uw X.OU f 0 [] args
 let args<-WA X.OU f 0 args
 let cells<-YB X.OU imp imp
 let(args,TG)<-WC X.OU imp f 0 args
 ck (TG.all λr=> !(mem? r imp))
 let out<-op' (K f args cells)
 ck (Nat.beq out.1.length g.resultTypes.size)
 let need:= !(TG.isEmpty) &&(ZL X.P (X.OU.att fn dst) 0 g.resultTypes.toList && imp.isEmpty)
 ck (bif need then out.1.all bM else true)
 freeze (bif need then[] else TG)
 aer X dst out.2 0 imp
 let vs<-aaV X (X.OU.att fn dst) dst out.1 0 g.resultTypes.toList
 match vs with
 |[v]=>pure v
 |vs=>pure (.DL vs)
def aIM(P:Program)(ts:List TypeId)(x:V):Bool:=match ts with
 |[t]=>(match x with
  | .d (.str _)=>(match P.underlying t with|some .string=>true|_=>false)
  |_=>(match P.underlying t with|some (.slice _)=>true|_=>false))
 |_=>false
def vU(P:Program)(tm:lD):List Operand->List TypeId->List V
 |[],_=>[]
 |x::xs,ts=>ev P tm (ts.headD 0) x::vU P tm xs ts.tail
def am9:List V->Acc (List V)
 |[]=>pure []
 |v::vs=>do
  let v<-(match v with
   | .ptr r off=>do
    match<-rd r with
    |some (.pY _ x)=>do
     ck (Nat.beq off 0)
     pure (.Ae x)
    |_=>pure (.ptr r off)
   |v=>pure v:Acc V)
  let vs<-am9 vs
  pure (v::vs)
def vop(X:Ctx)(K:jS)(fn:Nat)(tm:lD)(o:Oper):Acc V:=
 let P:=X.P
 let dst:=o.dst.getD 0
 match o.op with
 | .move x=>pure (ev P tm o.type x)
 | .assign x=>pure (ev P tm o.type x)
 | .pick c x y=>au5 (ev P tm o.type c) (ev P tm o.type x) (ev P tm o.type y)
 | .alloc T=>do
  let z<-op' (RP P T)
  new dst (.box T z)
  pure (.ptr dst 0)
 | .box T x=>do
  let v:=ev P tm T x
  ck (Nat.beq v.cells.length (nG P T))
  ck (v.cells.all one)
  new dst (.box T v.cells)
  pure (.ptr dst 0)
 | .build T ps=>alE P T tm ps.toList
 | .buildSlice t n ps=>VH P dst t n tm ps.toList
 | .load t a=>au6 P t (evG X tm 0 a)
 | .store t a x=>do aqW P t (ev P tm 0 a) (ev P tm t x);pure .undef
 | .nilCheck x=>match evG X tm o.type x with
  | .ptr r off=>pure (.ptr r off)
  | .rU row off=>pure (.rU row off)
  | .xB r ver i off=>pure (.xB r ver i off)
  |_=> .fail
 | .binOp op t x y t'=>aEu P t op (ev P tm t x) (ev P tm t' y)
 | .unOp op t x=>un op (ev P tm t x)
 | .convert s d x=>agF P s d (ev P tm s x)
 | .makeFunc (.func f) first caps=>do
  let cs<-am9 (vU P tm caps.toList [])
  pure (.clo f (vU P tm first.toList []) cs)
 | .makeSlice t l c=>aaU P dst t (ev P tm o.type l) (ev P tm o.type c)
 | .slice t x lo hi none=>match X.OU.trunc fn dst,lo,hi with
  |true,none,hi=>aq0 P t (ev P tm t x) (hi.map (ev P tm 3))
  |true,some lo,none=>au7 P t (ev P tm t x) (ev P tm 3 lo)
  |_,lo,hi=>alC P t (evG X tm t x) (lo.map (ev P tm 3)) (hi.map (ev P tm 3))
 | .fieldAddr T x f=>aaR P T (ev P tm 0 x) f
 | .field T x f=>aqX P T (ev P tm T x) f
 | .indexAddr t x i=>aaT P t (evG X tm t x) (ev P tm 3 i)
 | .index t x i=>aqY P t (ev P tm t x) (ev P tm 3 i)
 | .extract x i=>match ev P tm 0 x with
  | .DL vs=>op' vs[i]?
  |_=> .fail
 | .call {callee:=.value f,args,argTypes}=>match ev P tm 0 f with
  | .clo g first caps=>abU X K fn dst g (first++vU P tm args.toList argTypes.toList++caps)
  |_=> .fail
 | .call {callee:=.builtin .len,args,argTypes}=>match vU P tm args.toList argTypes.toList with
  |[x]=>do
   ck (aIM P argTypes.toList x)
   lenV x
  |_=> .fail
 | .call {callee:=.builtin .append,args,argTypes}=>match vU P tm args.toList argTypes.toList,argTypes.toList with
  |[x,y],[t,t']=>alB P dst t t' x y
  |_,_=> .fail
 | .call {callee:=.builtin .max,args,argTypes}=>match vU P tm args.toList argTypes.toList with
  |[.d (.int k x),.d (.int _ y)]=>pure (.d (.int k (bif decide (x<y) then y else x)))
  |_=> .fail
 | .call {callee:=.builtin .min,args,argTypes}=>match vU P tm args.toList argTypes.toList with
  |[.d (.int k x),.d (.int _ y)]=>pure (.d (.int k (bif decide (y<x) then y else x)))
  |_=> .fail
 |_=> .fail
end Go.Vm
namespace Go.Vm
open Go
mutual
def refs:V->List Nat
 | .own r _=>[r]
 | .ptr r _=>[r]
 | .xB r _ _ _=>[r]
 | .clo _ a b=>RQ a++RQ b
 | .agg cs=>RQ cs
 | .DL vs=>RQ vs
 | .Ae v=>refs v
 |_=>[]
def RQ:List V->List Nat
 |[]=>[]
 |v::vs=>refs v++RQ vs
end
def agH(m:Mem)(r:Nat):List Nat:=match get r m with
 |some (.box _ cs)=>RQ cs
 |some (.pY _ v)=>refs v
 |_=>[]
def Ri(k:Nat):Bool:=Nat.ble nK k && Nat.blt k (2 * nK)
def abV:List Nat->List Nat->List Nat
 |acc,[]=>acc
 |acc,k::ks=>abV (bif mem? k acc then acc else acc++[k]) ks
def azL(tm:lD)(m:Mem):List Nat:=
 let l0:=abV [] (tm.flatMap λx=>refs x.2)
 let l1:=abV l0 (l0.flatMap (agH m))
 let l2:=abV l1 (l1.flatMap (agH m))
 (abV l2 (m.map (·.1))).filter λk=> !(Ri k)
def names:List Nat:=[nat_lit 300000,nat_lit 300001,nat_lit 300002,nat_lit 300003,nat_lit 300004,nat_lit 300005,nat_lit 300006,nat_lit 300007,nat_lit 300008,nat_lit 300009,nat_lit 300010,nat_lit 300011,nat_lit 300012,nat_lit 300013,nat_lit 300014,nat_lit 300015,nat_lit 300016,nat_lit 300017,nat_lit 300018,nat_lit 300019,nat_lit 300020,nat_lit 300021,nat_lit 300022,nat_lit 300023,nat_lit 300024,nat_lit 300025,nat_lit 300026,nat_lit 300027,nat_lit 300028,nat_lit 300029,nat_lit 300030,nat_lit 300031,nat_lit 300032,nat_lit 300033,nat_lit 300034,nat_lit 300035,nat_lit 300036,nat_lit 300037,nat_lit 300038,nat_lit 300039,nat_lit 300040,nat_lit 300041,nat_lit 300042,nat_lit 300043,nat_lit 300044,nat_lit 300045,nat_lit 300046,nat_lit 300047,nat_lit 300048,nat_lit 300049,nat_lit 300050,nat_lit 300051,nat_lit 300052,nat_lit 300053,nat_lit 300054,nat_lit 300055,nat_lit 300056,nat_lit 300057,nat_lit 300058,nat_lit 300059,nat_lit 300060,nat_lit 300061,nat_lit 300062,nat_lit 300063]
def azM:List Nat->List Nat->List (Nat×Nat)
 |n::ns,k::l=>(k,n)::azM ns l
 |_,_=>[]
def ren(L:List (Nat×Nat))(k:Nat):Nat:=match get k L with
 |some j=>j
 |none=>k
mutual
def Ue(L:List (Nat×Nat)):V->V
 | .d x=> .d x
 | .nil s=> .nil s
 | .own r ver=> .own (ren L r) ver
 | .ptr r off=> .ptr (ren L r) off
 | .xB r ver i off=> .xB (ren L r) ver i off
 | .rU row off=> .rU row off
 | .Ae v=> .Ae (Ue L v)
 | .clo f a b=> .clo f (YD L a) (YD L b)
 | .agg cs=> .agg (YD L cs)
 | .DL vs=> .DL (YD L vs)
 | .undef=> .undef
def YD(L:List (Nat×Nat)):List V->List V
 |[]=>[]
 |v::vs=>Ue L v::YD L vs
end
def agI(L:List (Nat×Nat)):Cell->Cell
 | .box t cs=> .box t (YD L cs)
 | .arr fz fl ver s rows=> .arr fz fl ver s rows
 | .dead=> .dead
 | .JY ver s rows=> .JY ver s rows
 | .pY t v=> .pY t (Ue L v)
def U2(L:List (Nat×Nat)):Mem->Mem
 |[]=>[]
 |(k,c)::m=>put (ren L k) (agI L c) (U2 L m)
def agJ(L:List (Nat×Nat)):lD->lD
 |[]=>[]
 |(t,v)::tm=>(t,Ue L v)::agJ L tm
def nodupB:List Nat->Bool
 |[]=>true
 |k::l=> !(mem? k l) && nodupB l
def abW(L:List (Nat×Nat))(ks:List Nat):Bool:=nodupB (ks.map (ren L)) && ks.all λk=>bif Ri k then Nat.beq (ren L k) k else true
def alH(L:List (Nat×Nat))(S:St):St:=match abW L (S.mem.map (·.1)) with
 |true=>⟨agJ L S.tm,U2 L S.mem⟩
 |false=>S
def canon(S:St):St:=match azL S.tm S.mem with
 |[]=>S
 |k::o=>alH (azM names (k::o)) S
end Go.Vm
namespace Go.Vm
open Go
mutual
def Xv(m:Mem):V->V
 | .d x=> .d x
 | .nil s=> .nil s
 | .own r ver=>match get r m with
  |some (.arr _ _ jy _ _)=>bif Nat.beq ver jy then .own r 0 else .undef
  |some (.JY jy _ _)=>bif Nat.beq ver jy then .own r 0 else .undef
  |_=> .undef
 | .ptr r off=>match get r m with
  |some (.box _ _)=> .ptr r off
  |some (.pY _ _)=> .ptr r off
  |_=> .undef
 | .xB r ver i off=>match get r m with
  |some (.arr _ _ jy _ _)=>bif Nat.beq ver jy then .xB r 0 i off else .undef
  |some (.JY jy _ _)=>bif Nat.beq ver jy then .xB r 0 i off else .undef
  |_=> .undef
 | .rU row off=> .rU row off
 | .Ae v=> .Ae (Xv m v)
 | .clo f a b=> .clo f (aan m a) (aan m b)
 | .agg cs=> .agg (aan m cs)
 | .DL vs=> .DL (aan m vs)
 | .undef=> .undef
def aan(m:Mem):List V->List V
 |[]=>[]
 |v::vs=>Xv m v::aan m vs
end
def Fv(m:Mem):Cell->Cell
 | .box t cs=> .box t (aan m cs)
 | .arr fz fl _ s rows=> .arr fz fl 0 s rows
 | .dead=> .dead
 | .JY _ s rows=> .JY 0 s rows
 | .pY t v=> .pY t (Xv m v)
def aaW(m:Mem)(tm:lD):List Nat->lD
 |[]=>[]
 |t::ts=>match get t tm with
  |some v=>(t,Xv m v)::aaW m tm ts
  |none=>aaW m tm ts
def aaX:List Nat->List Nat->List Nat
 |[],l=>l
 |a::as,l=>bif mem? a l then aaX as l else aaX as (a::l)
def reach(m:Mem):Nat->List Nat->List Nat
 |0,l=>l
 |n+1,l=>reach m n (aaX (l.flatMap (agH m)) l)
def roots(tm:lD)(m:Mem):List Nat:=
 aaX (tm.flatMap λx=>refs x.2) ((m.map (·.1)).filter Ri)
def sD(all:Mem)(R:List Nat):Mem->Mem
 |[]=>[]
 |(k,c)::m=>match c with
  | .dead=>sD all R m
  |c=>bif mem? k R then(k,Fv all c)::sD all R m else sD all R m
def closed(R:List Nat)(m:Mem):Bool:=m.all λx=>match x.2 with
 | .box _ cs=>(RQ cs).all λr=>mem? r R
 | .pY _ v=>(refs v).all λr=>mem? r R
 |_=>true
def aIN(m:Mem):Bool:=m.all λx=>match x.2 with
 | .arr _ _ ver _ _=>bif Ri x.1 then Nat.beq ver 0 else true
 | .dead=> !(Ri x.1)
 | .JY ..=> !(Ri x.1)
 |_=>true
def sortedK:Mem->Bool
 |[]=>true
 |(k,_)::m=>match m with
  |[]=>true
  |(j,_)::_=>Nat.blt k j && sortedK m
def aaY(ts:List Nat)(S:St):Option St:=
 let tm:=aaW S.mem S.tm ts
 let R:=reach S.mem 3 (roots tm S.mem)
 let m:=sD S.mem R S.mem
 bif closed R m &&(aIN S.mem && sortedK S.mem) then some ⟨tm,m⟩ else none
def prune(ts:List Nat)(S:St):Option St:=match aaY ts S with
 |some S'=>some (canon S')
 |none=>none
def Fz(ops:Array Oper)(tm:lD)(o:Oper):Option (Bool×lD):=
 match o.guard with
 |none=>some (true,tm)
 |some (j,want)=>match ops[j]? with
  |some oj=>match oj.dst with
   |some d=>match Xt d tm with
    | .d (.bool b)=>match b with
     |true=>some (want,put d (.d (.bool true)) tm)
     |false=>some (!want,put d (.d (.bool false)) tm)
    | .DL vs=>match vs with
     |[]=>some (false,put d (.DL []) tm)
     |_::_=>none
    |_=>none
   |none=>none
  |none=>none
def Q8(nt:Nat):Option Nat->Bool
 |some d=>Nat.blt d nt
 |none=>true
def J4(P:Program)(fn:Nat):Nat:=match P.funcs[fn]? with|some g=>g.ntmps|none=>0
def aes(nt:Nat)(dst:Option Nat)(tm:lD):lD:=bif Q8 nt dst then aaQ dst (.DL []) tm else azJ dst tm
def DI(X:Ctx)(K:jS)(fn:Nat)(ops:Array Oper)(i:Nat)(S:St):Option (St×Log):=
 match ops[i]? with
 |none=>none
 |some o=>match Fz ops S.tm o with
  |none=>none
  |some (false,tm)=>some (⟨aes (J4 X.P fn) o.dst tm,S.mem⟩,.none)
  |some (true,tm)=>match(vop X K fn tm o).run S.mem .none with
   |none=>none
   |some (v,m,l)=>bif Q8 (J4 X.P fn) o.dst then some (⟨aaQ o.dst v tm,m⟩,l) else none
def y7(X:Ctx)(K:jS)(fn:Nat)(ops:Array Oper):List Nat->St->List (Nat×Log)->Option (St×List (Nat×Log))
 |[],S,L=>some (S,L)
 |i::is,S,L=>match DI X K fn ops i S with
  |none=>none
  |some (S',l)=>y7 X K fn ops is S' ((i,l)::L)
def azN(a b:List Nat):Bool:=a.all λk=> !(mem? k b)
def Log.apart(a b:Log):Bool:=azN a.w b.r && azN a.w b.w && azN a.r b.w
def ordered(bef:Array Nat)(i j:Nat):Bool:=(bef.getD i 0).testBit j
def YE(ops:Array Oper)(bef:Array Nat):List (Nat×Log)->Bool
 |[]=>true
 |(i,l)::L=>(L.all fun(j,l')=>ordered bef i j||(l.apart l' &&(match ops[i]?,ops[j]? with
   |some a,some b=>a.apart ops b
   |_,_=>false))) && YE ops bef L
def YF:Nat->List Oper->Bool
 |_,[]=>true
 |i,o::l=>(o.after.toList.all λe=> !(Region.binds .any e)||Nat.blt e.on i) && YF (i+1) l
def backOk(ops:Array Oper):Bool:=YF 0 ops.toList
def aEw(d:Nat):Operand->Bool
 | .tmp t=> !(Nat.beq t d)
 |_=>true
def asa(args:Array Operand)(d1 d2:Nat):Bool:=match args.toList with
 |[.tmp a,.tmp b]=>Nat.beq a d1 && Nat.beq b d2
 |_=>false
def abX:List Row×List Cell->Option (IntKind×Int×Bool×Nat×List Row)
 |([[.int k n]],[.arr false fl' 0 s' rs'])=>some (k,n,fl',s',rs')
 |_=>none
def agK(e:Nat)(fl:Bool)(q:IntKind×Int×Bool×Nat×List Row):Bool:=Nat.beq q.2.2.2.1 e &&((fl==q.2.2.1) &&(aam fl q.2.2.2.2 && Az q.2.2.2.2))
def avd(X:Ctx)(f:Nat):Bool:=Nat.beq (Fq X.OU f 0) 2 && Nat.beq (Fq X.OU f 1) 0 &&(match X.P.funcs[f]? with
 | some g => g.body.isSome && !(g.name == "runtime.NumGoroutine") && (match g.resultTypes.toList with | [t] => !(Oi X.P t) | _ => false)
 |none=>false)
def Uf(X:Ctx)(K:jS)(tm:lD)(o1 o2 o3:Oper):Acc (Nat×Nat×V×V):=
 match o1,o2,o3 with
 |⟨some d1,.load t (.tmp ta),_,_,_,none⟩,⟨some d2,.move x,ty2,_,_,none⟩,⟨_,.call ⟨.value (.func f),args,_⟩,_,_,_,none⟩=>do
  ck (!(Nat.beq d1 d2) &&(asa args d1 d2 &&(aEw d1 x &&(Gw X.P t &&(Nat.beq (nG X.P t) 1 &&(!(Oi X.P t) && avd X f))))))
  let e<-op' (elT X.P t)
  match Xt ta tm,ev X.P tm ty2 x with
  | .xB r ver i off,.d (.int k n)=>do
   match<-rd r with
   |some (.arr false false jy s rows)=>do
    ck (Nat.beq ver jy && Nat.ble (off+1) s)
    let row<-op' rows[i]?
    let rs<-op' (au3 (nG X.P e) row off)
    ck (aam (uI X.P e) rs)
    let out<-op' (K f [.own nK 0,.d (.int k n)] [.arr false (uI X.P e) 0 (nG X.P e) rs])
    let q<-op' (abX out)
    ck (agK (nG X.P e) (uI X.P e) q)
    wr r (.arr false false jy s (rows.set i (splice row off [.sl true (nG X.P e) q.2.2.2.2])))
    pure (d1,d2,.d (.int k n),.d (.int q.1 q.2.1))
   |_=> .fail
  |_,_=> .fail
 |_,_,_=> .fail
def J5(X:Ctx)(K:jS)(fn:Nat)(ops:Array Oper)(p:Nat)(S:St):Option St:=
 match ops[p]?,ops[p+1]?,ops[p+2]? with
 |some o1,some o2,some o3=>match(Uf X K S.tm o1 o2 o3).run S.mem .none with
  |some ((d1,d2,kv,v),m,_)=>bif Nat.blt d1 (J4 X.P fn) &&(Nat.blt d2 (J4 X.P fn) && Q8 (J4 X.P fn) o3.dst) then some ⟨aaQ o3.dst v (put d2 kv (put d1 .undef S.tm)),m⟩ else none
  |none=>none
 |_,_,_=>none
def D7(X:Ctx)(K:jS)(fn id:Nat)(ops:Array Oper)(draw:Bool)(S:St):Option (St×List (Nat×Log)):=
 match X.OU.fuse fn id with
 |0=>y7 X K fn ops (List.range ops.size) S []
 |p+1=>match draw with
  |true=>none
  |false=>match y7 X K fn ops (List.range p) S [] with
   |some (S1,_)=>match J5 X K fn ops p S1 with
    |some S2=>y7 X K fn ops ((List.range ops.size).drop (p+3)) S2 []
    |none=>none
   |none=>none
def region(X:Ctx)(K:jS)(fn id:Nat)(ops:Array Oper)(draw:Bool)(S:St):Option St:=
 match D7 X K fn id ops draw S with
 |none=>none
 |some (S',L)=>bif(match draw with|false=>true|true=>X.P.follows .mixedOrders &&(backOk ops && YE ops (Region.before ops) L)) then prune (X.OU.keep fn id) S' else none
inductive Ex where
 |normal
 |exit (id:Nat)
 |ret
noncomputable def lim{α:Type}(f:Nat->Option α):Option α:=
 open Classical in if h:∃a n,f n=some a then some (Classical.choose h) else none
def iter(b:St->Option (Ex×St)):Nat->St->Option (Ex×St)
 |0,_=>none
 |n+1,S=>match b S with
  |some (.normal,S')=>iter b n S'
  |r=>r
noncomputable def VI(b:St->Option (Ex×St))(S:St):Option (Ex×St):=lim λn=>iter b n S
def aao(P:Program)(tm:lD)(c:Operand):Option Bool:=match ev P tm 0 c with
 | .d (.bool b)=>some b
 |_=>none
noncomputable def den(X:Ctx)(K:jS)(fn:Nat):Code->St->Option (Ex×St)
 | .skip,S=>some (.normal,S)
 | .region id ops draw,S=>match region X K fn id ops draw S with
  |some S'=>some (.normal,S')
  |none=>none
 | .seq a b,S=>match den X K fn a S with
  |some (.normal,S')=>den X K fn b S'
  |r=>r
 | .cond c a b,S=>match aao X.P S.tm c with
  |some true=>den X K fn a S
  |some false=>den X K fn b S
  |none=>none
 | .block id c,S=>match den X K fn c S with
  |some (.exit j,S')=>bif Nat.beq j id then some (.normal,S') else some (.exit j,S')
  |r=>r
 | .loop c,S=>VI (den X K fn c) S
 | .exit id,S=>some (.exit id,S)
 | .ret,S=>some (.ret,S)
 |_,_=>none
def aq3(A:Adv)(f i:Nat)(fl:Bool)(v:V):Acc V:=
 match Fq A f i with
 |1=>(match v with
  | .d (.sl true s rows)=>do
   new i (.arr false fl 0 s rows)
   pure (.own i 0)
  | .d x=>pure (.d (roD x))
  |_=> .fail)
 |_=>pure v
def abY(X:Ctx)(f:Nat):Nat->List TypeId->List V->Acc lD
 |_,_,[]=>pure []
 |i,ts,v::vs=>do
  let v<-aq3 X.OU f i ((fls X.P 8 (ts.headD 0)).headD false) v
  let r<-abY X f (i+1) ts.tail vs
  pure ((i,v)::r)
def sF:Nat->List Cell->Mem
 |_,[]=>[]
 |i,c::cs=>(nK+i,c)::sF (i+1) cs
def wL(n:Nat):List Nat:=(List.range n).map (nK+ ·)
def entry(X:Ctx)(f:Nat)(g:Func)(args:List V)(cells:List Cell):Acc lD:=do
 aer X 9999 cells 0 (wL cells.length)
 abY X f 0 g.params.toList args
def alI(P:Program)(tm:lD)(r:ResultVar)(t:TypeId):Acc Row:=
 match r with
 | .tmp x=>match Oi P t,Xt x tm with
  |true,.agg cs=>Q7 cs
  |false,.agg _=> .fail
  |false,v=>Q7 [v]
  |true,_=> .fail
 | .cell a T=>match Xt a tm with
  | .ptr r 0=>do
   match<-rd r with
   |some (.box _ cs)=>do
    ck (Nat.beq T t && Nat.beq cs.length (nG P T) &&(Gw P T &&(Oi P T||Nat.beq cs.length 1)))
    Q7 cs
   |_=> .fail
  |_=> .fail
def ZM(P:Program)(tm:lD):List ResultVar->List TypeId->Acc (List Row)
 |[],[]=>pure []
 |r::rs,t::ts=>do
  let row<-alI P tm r t
  let rows<-ZM P tm rs ts
  pure (row::rows)
 |_,_=> .fail
def leave(X:Ctx)(g:Func)(n:Nat)(S:St):Option (List Row×List Cell):=
 match(do
  let rows<-ZM X.P S.tm g.results.toList g.resultTypes.toList
  let cells<-YB X.OU (wL n) (wL n)
  pure (rows,cells):Acc (List Row×List Cell)).run S.mem .none with
 |some (r,_,_)=>some r
 |none=>none
noncomputable def body(X:Ctx)(K:jS)(f:Nat)(args:List V)(cells:List Cell):Option (List Row×List Cell):=
 match X.P.funcs[f]? with
 |some g=>match g.body with
  |some c=>bif !(Nat.ble cells.length nK && Nat.ble args.length g.ntmps) then none else match(entry X f g args cells).run (sF 0 cells) .none with
   |some (tm,m,_)=>(match den X K f c ⟨tm,m⟩ with
    |some (.normal,S)=>leave X g cells.length S
    |some (.ret,S)=>leave X g cells.length S
    |_=>none)
   |none=>none
  |none=>none
 |none=>none
noncomputable def YG(X:Ctx):Nat->jS
 |0,_,_,_=>none
 |n+1,f,args,cells=>match X.Yx f with
  |some p=>p args cells
  |none=>body X (YG X n) f args cells
noncomputable def call(X:Ctx):jS:=λf args cells=>lim λn=>YG X n f args cells
end Go.Vm
namespace Go.Vm
open Go
abbrev View:=Nat->Nat->Option Value
abbrev Heap:=Nat->Option Obj
def dA(w:World):Heap:=λb=>w.heap[b]?
mutual
def ro(h:View):D->Value->Prop
 | .int k n,v=>v=.int k n
 | .bool b,v=>v=.bool b
 | .str s,v=>v=.string ⟨⟨s⟩⟩
 | .U1,v=>v=.nilFunc
 | .sl _ s rows,v=>∃a cap,v=.slice a rows.length cap∧rows.length<=cap∧(rows≠[]->∃b o,a=some ⟨b,o,none⟩∧oM h s rows b o)
def oM(h:View)(s:Nat):List Row->Nat->Nat->Prop
 |[],_,_=>True
 |r::rs,b,o=>r.length=s∧yx h r b o∧oM h s rs b (o+s)
def yx(h:View):Row->Nat->Nat->Prop
 |[],_,_=>True
 |x::r,b,o=>(∃v,h b o=some v∧ro h x v)∧yx h r b (o+1)
end
mutual
def ow(H:Heap)(h:View):D->Value->List Nat->Prop
 | .int k n,v,N=>v=.int k n∧N=[]
 | .bool b,v,N=>v=.bool b∧N=[]
 | .str s,v,N=>v=.string ⟨⟨s⟩⟩∧N=[]
 | .U1,v,N=>v=.nilFunc∧N=[]
 | .sl own s rows,v,N=>match own with
  |false=>N=[]∧ro h (.sl false s rows) v
  |true=>(rows=[]∧v=.slice none 0 0∧N=[])∨
   ∃b cap cs t N',v=.slice (some ⟨b,0,none⟩) rows.length cap∧rows.length<=cap∧H b=some (.cells cs t (0,0))∧cs.size=cap * s∧
    gI H h s rows cs.toList N'∧N=b::N'
def gI(H:Heap)(h:View)(s:Nat):List Row->List Value->List Nat->Prop
 |[],_,N=>N=[]
 |r::rs,cs,N=>r.length=s∧∃N1 N2,N=N1++N2∧jd H h r cs N1∧gI H h s rs (cs.drop s) N2
def jd(H:Heap)(h:View):Row->List Value->List Nat->Prop
 |[],_,N=>N=[]
 |x::r,cs,N=>∃v cs' N1 N2,cs=v::cs'∧N=N1++N2∧ow H h x v N1∧jd H h r cs' N2
end
def jg(h:View):Row->List Value->Prop
 |[],_=>True
 |x::r,cs=>∃v cs',cs=v::cs'∧ro h x v∧jg h r cs'
def gV(h:View)(s:Nat):List Row->List Value->Prop
 |[],_=>True
 |r::rs,cs=>r.length=s∧jg h r cs∧gV h s rs (cs.drop s)
def Yr(H:Heap)(h:View)(fl:Bool)(s:Nat)(rows:List Row)(v:Value)(N:List Nat):Prop:=
 (rows=[]∧v=.slice none 0 0∧N=[])∨
 ∃b cap cs t N',v=.slice (some ⟨b,0,none⟩) rows.length cap∧rows.length<=cap∧H b=some (.cells cs t (0,0))∧cs.size=cap * s∧
  (match fl with
   |true=>gV h s rows cs.toList∧N'=[]
   |false=>gI H h s rows cs.toList N')∧N=b::N'
def ajp(H:Heap)(h:View)(s:Nat)(rows:List Row)(v:Value)(N:List Nat):Prop:=
 (rows=[]∧v=.slice none 0 0∧N=[])∨
 ∃b o cap cs t,v=.slice (some ⟨b,o,none⟩) rows.length cap∧rows.length<=cap∧H b=some (.cells cs t (0,0))∧o+cap * s<=cs.size∧
  gV h s rows (cs.toList.drop o)∧N=[b]
def WE(g:Value):Prop:=∃a n c,g=.slice a n c
def azO(g:Value):Prop:=∃b o,g=.pointer (some ⟨b,o,none⟩)
mutual
def aO(μ:Nat->Value)(m:Mem)(h:View):V->Value->Prop
 | .d x,g=>ro h x g
 | .nil _,g=>g=.slice none 0 0
 | .own r v0,g=>WE g∧match get r m with
  |some (.arr _ _ ver _ _)=>v0<=ver∧(v0=ver->g=μ r)
  |some .dead=>True
  |some (.JY ver _ _)=>v0<=ver∧(v0=ver->g=μ r)
  |_=>False
 | .ptr r off,g=>azO g∧match get r m with
  |some (.box _ _)=>∃b,μ r=.pointer (some ⟨b,0,none⟩)∧g=.pointer (some ⟨b,off,none⟩)
  |some (.pY _ _)=>∃b,μ r=.pointer (some ⟨b,0,none⟩)∧g=.pointer (some ⟨b,off,none⟩)
  |some .dead=>True
  |_=>False
 | .xB r v0 i off,g=>azO g∧match get r m with
  |some (.arr _ _ ver s _)=>v0<=ver∧(v0=ver->∃b n cap,μ r=.slice (some ⟨b,0,none⟩) n cap∧g=.pointer (some ⟨b,i * s+off,none⟩))
  |some .dead=>True
  |some (.JY ver s _)=>v0<=ver∧(v0=ver->∃b o n cap,μ r=.slice (some ⟨b,o,none⟩) n cap∧g=.pointer (some ⟨b,o+(i * s+off),none⟩))
  |_=>False
 | .rU row off,g=>∃b o,g=.pointer (some ⟨b,o+off,none⟩)∧yx h row b o
 | .Ae v,g=>∃b x,g=.pointer (some ⟨b,0,none⟩)∧h b 0=some x∧aO μ m h v x
 | .clo f first caps,g=>∃a c,g=.func (.func f) a c∧bV μ m h first a.toList∧bV μ m h caps c.toList
 | .agg cs,g=>∃a,g=.agg a∧bV μ m h cs a.toList
 | .DL vs,g=>∃a,g=.tuple a∧bV μ m h vs a.toList
 | .undef,_=>True
def bV(μ:Nat->Value)(m:Mem)(h:View):List V->List Value->Prop
 |[],gs=>gs=[]
 |v::vs,gs=>∃g gs',gs=g::gs'∧aO μ m h v g∧bV μ m h vs gs'
end
def oN(μ:Nat->Value)(m:Mem)(H:Heap)(h:View)(r:Nat):Cell->List Nat->Prop
 | .box t cs,N=>∃b a,μ r=.pointer (some ⟨b,0,none⟩)∧H b=some (.cells a t (0,0))∧bV μ m h cs a.toList∧N=[b]
 | .arr fz fl _ s rows,N=>match fz with
  |true=>ro h (.sl true s rows) (μ r)∧N=[]
  |false=>Yr H h fl s rows (μ r) N
 | .dead,N=>N=[]
 | .JY _ s rows,N=>ajp H h s rows (μ r) N
 | .pY _ v,N=>N=[]∧∃b x,μ r=.pointer (some ⟨b,0,none⟩)∧h b 0=some x∧aO μ m h v x
open Classical in
noncomputable def view(w:World)(U X:Nat->Prop):View:=λb o=>if U b∧¬X b then w.cell? ⟨b,o,none⟩ else none
def excl(F:Nat->List Nat)(E:List Nat):Nat->Prop:=λb=>b∈E∨∃r,b∈F r
structure Keep(M:List Nat)(w w':World):Prop where
 os:w'.os=w.os
 tape:w'.tape=w.tape
 output:w'.output=w.output
 size:w.heap.size<=w'.heap.size
 block:∀b,b<w.heap.size->b ∉ M->w'.heap[b]? =w.heap[b]?
def Keep.refl(M:List Nat)(w:World):Keep M w w:=⟨rfl,rfl,rfl,Nat.le_refl _,λ_ _ _=>rfl⟩
def Keep.trans{M M':List Nat}{a b c:World}(h:Keep M a b)(k:Keep M' b c)(hM:∀x,x∈M'->x∈M∨a.heap.size<=x):Keep M a c:=
 ⟨k.os.trans h.os,k.tape.trans h.tape,k.output.trans h.output,Nat.le_trans h.size k.size,λi hi hm=>(k.block i (Nat.lt_of_lt_of_le hi h.size) (λhx=>(hM i hx).elim hm (λhl=>absurd hi (Nat.not_lt.2 hl)))).trans (h.block i hi hm)⟩
structure MInv(base:Nat)(U:Nat->Prop)(m:Mem)(w:World)(μ:Nat->Value)(F:Nat->List Nat)(E:List Nat)(out:List Nat):Prop where
 cell:∀r c,get r m=some c->r ∉ out->oN μ m (dA w) (view w U (excl F E)) r c (F r)
 dj:∀r r',r≠r'->∀b,b∈F r->b ∉ F r'
 djE:∀r b,b∈F r->b ∉ E
 nd:∀r,(F r).Nodup
 ndE:E.Nodup
 lt:∀b,excl F E b->b<w.heap.size∧base<=b∧U b
 up:∀b,w.heap.size<=b->U b
 bs:base<=w.heap.size
 none_:∀r,get r m=none->F r=[]
 out_:∀r,r∈out->F r=[]
def View.le(h h':View):Prop:=∀b o v,h b o=some v->h' b o=some v
def View.le_refl(h:View):h.le h:=λ_ _ _ x=>x
def View.le.trans'{a b c:View}(h:a.le b)(k:b.le c):a.le c:=λx y v q=>k x y v (h x y v q)
mutual
def J6{h h':View}(hl:h.le h'):∀(x:D) (v:Value),ro h x v->ro h' x v
 | .int _ _,_,q=>by simpa[ro] using q
 | .bool _,_,q=>by simpa[ro] using q
 | .str _,_,q=>by simpa[ro] using q
 | .U1,_,q=>by simpa[ro] using q
 | .sl _ s rows,v,q=>by simp only[ro] at q⊢;obtain⟨a,cap,h1,h2,h3⟩:=q;refine⟨a,cap,h1,h2,λhn=> ?_⟩;obtain⟨b,o,h4,h5⟩:=h3 hn;exact⟨b,o,h4,aeu hl s rows b o h5⟩
def aeu{h h':View}(hl:h.le h')(s:Nat):∀(rows:List Row) (b o:Nat),oM h s rows b o->oM h' s rows b o
 |[],_,_,_=>by simp[oM]
 |r::rs,b,o,q=>by simp only[oM] at q⊢;exact⟨q.1,Rj hl r b o q.2.1,aeu hl s rs b (o+s) q.2.2⟩
def Rj{h h':View}(hl:h.le h'):∀(r:Row) (b o:Nat),yx h r b o->yx h' r b o
 |[],_,_,_=>by simp[yx]
 |x::r,b,o,q=>by simp only[yx] at q⊢;obtain⟨⟨v,h1,h2⟩,h3⟩:=q;exact⟨⟨v,hl _ _ _ h1,J6 hl x v h2⟩,Rj hl r b (o+1) h3⟩
end
mutual
def alJ{H H':Heap}{h h':View}(hl:h.le h'):∀(x:D) (v:Value) (N:List Nat),(∀b,b∈N->H' b=H b)->ow H h x v N->ow H' h' x v N
 | .int _ _,_,_,_,q=>by simpa[ow] using q
 | .bool _,_,_,_,q=>by simpa[ow] using q
 | .str _,_,_,_,q=>by simpa[ow] using q
 | .U1,_,_,_,q=>by simpa[ow] using q
 | .sl false s rows,v,N,_,q=>by simp only[ow] at q⊢;exact⟨q.1,J6 hl _ _ q.2⟩
 | .sl true s rows,v,N,hb,q=>by
  simp only[ow] at q⊢;rcases q with q|⟨b,cap,cs,t,N',h1,h2,h3,h4,h5,rfl⟩
  ·exact .inl q
  ·exact .inr ⟨b,cap,cs,t,N',h1,h2,by rw[hb b (by simp)];exact h3,h4,AA hl s rows cs.toList N' (λb' hb'=>hb b' (by simp[hb'])) h5,rfl⟩
def AA{H H':Heap}{h h':View}(hl:h.le h')(s:Nat):∀(rows:List Row) (cs:List Value) (N:List Nat),(∀b,b∈N->H' b=H b)->gI H h s rows cs N->gI H' h' s rows cs N
 |[],_,_,_,q=>by simpa[gI] using q
 |r::rs,cs,N,hb,q=>by simp only[gI] at q⊢;obtain⟨h1,N1,N2,rfl,h2,h3⟩:=q;exact⟨h1,N1,N2,rfl,Oj hl r cs N1 (λb hx=>hb b (by simp[hx])) h2,AA hl s rs _ N2 (λb hx=>hb b (by simp[hx])) h3⟩
def Oj{H H':Heap}{h h':View}(hl:h.le h'):∀(r:Row) (cs:List Value) (N:List Nat),(∀b,b∈N->H' b=H b)->jd H h r cs N->jd H' h' r cs N
 |[],_,_,_,q=>by simpa[jd] using q
 |x::r,cs,N,hb,q=>by simp only[jd] at q⊢;obtain⟨v,cs',N1,N2,rfl,rfl,h2,h3⟩:=q;exact⟨v,cs',N1,N2,rfl,rfl,alJ hl x v N1 (λb hx=>hb b (by simp[hx])) h2,Oj hl r cs' N2 (λb hx=>hb b (by simp[hx])) h3⟩
end
def abZ{h h':View}(hl:h.le h'):∀(r:Row) (cs:List Value),jg h r cs->jg h' r cs
 |[],_,_=>trivial
 |x::r,cs,⟨v,cs',h1,h2,h3⟩=>⟨v,cs',h1,J6 hl x v h2,abZ hl r cs' h3⟩
def qh{h h':View}(hl:h.le h')(s:Nat):∀(rows:List Row) (cs:List Value),gV h s rows cs->gV h' s rows cs
 |[],_,_=>trivial
 |r::rs,cs,⟨h1,h2,h3⟩=>⟨h1,abZ hl r cs h2,qh hl s rs _ h3⟩
def OG{H H':Heap}{h h':View}(hl:h.le h'){fl:Bool}{s:Nat}{rows:List Row}{v:Value}{N:List Nat}(hb:∀b,b∈N->H' b=H b)(q:Yr H h fl s rows v N):Yr H' h' fl s rows v N:=by
 rcases q with q|⟨b,cap,cs,t,N',h1,h2,h3,h4,h5,rfl⟩
 ·exact .inl q
 ·refine .inr ⟨b,cap,cs,t,N',h1,h2,by rw[hb b (by simp)];exact h3,h4, ?_,rfl⟩;cases fl with
  |true=>exact⟨qh hl s rows _ h5.1,h5.2⟩
  |false=>exact AA hl s rows _ N' (λb' hb'=>hb b' (by simp[hb'])) h5
def ads{H H':Heap}{h h':View}(hl:h.le h'){s:Nat}{rows:List Row}{v:Value}{N:List Nat}(hb:∀b,b∈N->H' b=H b)(q:ajp H h s rows v N):ajp H' h' s rows v N:=by
 rcases q with q|⟨b,o,cap,cs,t,h1,h2,h3,h4,h5,rfl⟩
 ·exact .inl q
 ·exact .inr ⟨b,o,cap,cs,t,h1,h2,by rw[hb b (by simp)];exact h3,h4,qh hl s rows _ h5,rfl⟩
def LP(μ μ':Nat->Value)(r:Nat):Cell->Cell->Prop
 | .box t _,.box t' _=>t'=t∧μ' r=μ r
 | .arr _ fl ver s _,.arr _ fl' jy s' _=>ver<=jy∧fl'=fl∧(ver=jy->μ' r=μ r∧s'=s)
 |_,.dead=>True
 | .arr _ _ ver _ _,.JY jy _ _=>ver<jy
 | .JY ver s _,.JY jy s' _=>ver<=jy∧(ver=jy->μ' r=μ r∧s'=s)
 | .box _ _,.pY _ _=>μ' r=μ r
 | .pY _ _,.pY _ _=>μ' r=μ r
 |_,_=>False
def Je(μ:Nat->Value)(m:Mem)(μ':Nat->Value)(m':Mem):Prop:=∀r c,get r m=some c->∃c',get r m'=some c'∧LP μ μ' r c c'
def aev(μ:Nat->Value)(r:Nat)(c:Cell):LP μ μ r c c:=by cases c<;>simp[LP]
def sG(μ:Nat->Value)(m:Mem):Je μ m μ m:=λr c h=>⟨c,h,aev μ r c⟩
def vV{μ1 μ2 μ3:Nat->Value}{m1 m2 m3:Mem}(h:Je μ1 m1 μ2 m2)(k:Je μ2 m2 μ3 m3):Je μ1 m1 μ3 m3:=by
 intro r c hc;obtain⟨c',h1,h2⟩:=h r c hc;obtain⟨c'',k1,k2⟩:=k r c' h1;refine⟨c'',k1, ?_⟩;cases c<;>cases c'<;>cases c''<;>simp_all [LP]
 ·rename_i ver s _ _ _ jy s' _ _ _ ave s'' _;refine⟨ak,λe=> ?_⟩;have e1:ver=jy:=ak;have e2:jy=ave:=ak;exact⟨(k2.2.2 e2).1.trans (h2.2.2 e1).1,(k2.2.2 e2).2.trans (h2.2.2 e1).2⟩
 ·omega
 ·omega
 ·rename_i ver s _ jy s' _ ave s'' _;refine⟨ak,λe=> ?_⟩;have e1:ver=jy:=ak;have e2:jy=ave:=ak;exact⟨(k2.2 e2).1.trans (h2.2 e1).1,(k2.2 e2).2.trans (h2.2 e1).2⟩
mutual
def Ah{μ μ':Nat->Value}{m m':Mem}{h h':View}(hm:Je μ m μ' m')(hl:h.le h'):∀(v:V) (g:Value),aO μ m h v g->aO μ' m' h' v g
 | .d x,g,q=>by simp only[aO] at q⊢;exact J6 hl x g q
 | .nil _,_,q=>by simpa[aO] using q
 | .own r v0,g,q=>by
  simp only[aO] at q⊢;refine⟨q.1, ?_⟩;replace q:=q.2;cases hc:get r m with
  |none=>simp[hc] at q
  |some c=>
   obtain⟨c',h1,h2⟩:=hm r c hc;rw[h1];cases c<;>cases c'<;>simp_all [LP]
   ·rename_i ver s _ _ _ jy s' _;refine⟨ak,λe=> ?_⟩;have e1:ver=jy:=ak;rw[(h2.2.2 e1).1];exact q.2 ak
   ·exact⟨ak,λe=>by omega⟩
   ·rename_i ver s _ jy s' _;refine⟨ak,λe=> ?_⟩;have e1:ver=jy:=ak;rw[(h2.2 e1).1];exact q.2 ak
 | .ptr r off,g,q=>by
  simp only[aO] at q⊢;refine⟨q.1, ?_⟩;replace q:=q.2;cases hc:get r m with
  |none=>simp[hc] at q
  |some c=>obtain⟨c',h1,h2⟩:=hm r c hc;rw[h1];cases c<;>cases c'<;>simp_all [LP]
 | .xB r v0 i off,g,q=>by
  simp only[aO] at q⊢;refine⟨q.1, ?_⟩;replace q:=q.2;cases hc:get r m with
  |none=>simp[hc] at q
  |some c=>
   obtain⟨c',h1,h2⟩:=hm r c hc;rw[h1];cases c<;>cases c'<;>simp_all [LP]
   ·rename_i ver s _ _ _ jy s' _;refine⟨ak,λe=> ?_⟩;have e1:ver=jy:=ak;rw[(h2.2.2 e1).1,(h2.2.2 e1).2];exact q.2 ak
   ·exact⟨ak,λe=>by omega⟩
   ·rename_i ver s _ jy s' _;refine⟨ak,λe=> ?_⟩;have e1:ver=jy:=ak;rw[(h2.2 e1).1,(h2.2 e1).2];exact q.2 ak
 | .rU row off,g,q=>by simp only[aO] at q⊢;obtain⟨b,o,h1,h2⟩:=q;exact⟨b,o,h1,Rj hl row b o h2⟩
 | .Ae v,g,q=>by simp only[aO] at q⊢;obtain⟨b,x,h1,h2,h3⟩:=q;exact⟨b,x,h1,hl _ _ _ h2,Ah hm hl v x h3⟩
 | .clo f first caps,g,q=>by simp only[aO] at q⊢;obtain⟨a,c,h1,h2,h3⟩:=q;exact⟨a,c,h1,uQ hm hl first _ h2,uQ hm hl caps _ h3⟩
 | .agg cs,g,q=>by simp only[aO] at q⊢;obtain⟨a,h1,h2⟩:=q;exact⟨a,h1,uQ hm hl cs _ h2⟩
 | .DL vs,g,q=>by simp only[aO] at q⊢;obtain⟨a,h1,h2⟩:=q;exact⟨a,h1,uQ hm hl vs _ h2⟩
 | .undef,_,_=>by simp[aO]
def uQ{μ μ':Nat->Value}{m m':Mem}{h h':View}(hm:Je μ m μ' m')(hl:h.le h'):∀(vs:List V) (gs:List Value),bV μ m h vs gs->bV μ' m' h' vs gs
 |[],_,q=>by simpa[bV] using q
 |v::vs,gs,q=>by simp only[bV] at q⊢;obtain⟨g,gs',h1,h2,h3⟩:=q;exact⟨g,gs',h1,Ah hm hl v g h2,uQ hm hl vs gs' h3⟩
end
def OX{μ μ':Nat->Value}{m m':Mem}{H H':Heap}{h h':View}(hm:Je μ m μ' m')(hl:h.le h'){r:Nat}(hr:μ' r=μ r){c:Cell}{N:List Nat}(hb:∀b,b∈N->H' b=H b)
  (q:oN μ m H h r c N):oN μ' m' H' h' r c N:=by
 cases c with
 |box t cs=>obtain⟨b,a,h1,h2,h3,rfl⟩:=q;exact⟨b,a,by rw[hr];exact h1,by rw[hb b (by simp)];exact h2,uQ hm hl cs _ h3,rfl⟩
 |arr fz fl ver s rows=>
  cases fz with
  |true=>exact⟨by rw[hr];exact J6 hl _ _ q.1,q.2⟩
  |false=>simp only[oN] at q⊢;rw[hr];exact OG hl hb q
 |dead=>exact q
 |JY ver s rows=>simp only[oN] at q⊢;rw[hr];exact ads hl hb q
 |pY t v=>obtain⟨h1,b,x,h2,h3,h4⟩:=q;exact⟨h1,b,x,by rw[hr];exact h2,hl _ _ _ h3,Ah hm hl v x h4⟩
def wY{k j:Nat}(h:k≠j):Nat.beq k j=false:=by
 cases hb:Nat.beq k j with
 |false=>rfl
 |true=>exact absurd (Ac hb) h
def jC{α:Type}(k:Nat)(x:α):∀l:List (Nat×α),get k (put k x l)=some x
 |[]=>by simp[put,get]
 |(j,y)::l=>by
  simp only[put]
  by_cases h:k=j
  ·subst h;simp[get]
  ·have hb:Nat.beq k j=false:=wY h;rw[hb];cases hl:Nat.blt k j with
   |true=>simp[get]
   |false=>simp[get,hb,jC k x l]
def mQ{α:Type}{k k':Nat}(hk:k≠k')(x:α):∀l:List (Nat×α),get k (put k' x l)=get k l
 |[]=>by have hb:Nat.beq k k'=false:=wY hk;simp[put,get,hb]
 |(j,y)::l=>by
  have hb:Nat.beq k k'=false:=wY hk;simp only[put]
  by_cases h:k'=j
  ·subst h;simp[get,hb]
  ·have hb':Nat.beq k' j=false:=wY h;rw[hb'];cases hl:Nat.blt k' j with
   |true=>simp[get,hb]
   |false=>simp[get,mQ hk x l]
def OY{α:Type}(k:Nat):∀l:List (Nat×α),get k (del k l)=none
 |[]=>rfl
 |(j,y)::l=>by
  simp only[del];cases hb:Nat.beq k j with
  |true=>simpa using OY k l
  |false=>simp[get,hb,OY k l]
def RS{α:Type}{k k':Nat}(hk:k≠k'):∀l:List (Nat×α),get k (del k' l)=get k l
 |[]=>rfl
 |(j,y)::l=>by
  simp only[del];cases hb:Nat.beq k' j with
  |true=>have:k'=j:=Ac hb;subst this;have hb:Nat.beq k k'=false:=wY hk;simp[get,hb,RS hk l]
  |false=>simp[get,RS hk l]
def get_put{α:Type}(k k':Nat)(x:α)(l:List (Nat×α)):get k (put k' x l)=if k=k' then some x else get k l:=by
 by_cases h:k=k'
 ·subst h;rw[jC,if_pos rfl]
 ·rw[mQ h,if_neg h]
def azP{α:Type}(k k':Nat)(l:List (Nat×α)):get k (del k' l)=if k=k' then none else get k l:=by
 by_cases h:k=k'
 ·subst h;rw[OY,if_pos rfl]
 ·rw[RS h,if_neg h]
def Acc.run_bind{α β:Type}(a:Acc α)(f:α->Acc β):∀(m:Mem) (l:Log),(a.bind f).run m l=match a.run m l with|some (x,m',l')=>(f x).run m' l'|none=>none:=by
 induction a with
 |ret a=>intro m l;rfl
 |fail=>intro m l;rfl
 |get k c ih=>intro m l;simp only[Acc.bind,Acc.run];exact ih _ _ _
 |set k x c ih=>intro m l;simp only[Acc.bind,Acc.run];exact ih _ _
 |opt o c ih=>intro m l;simp only[Acc.bind,Acc.run];cases o with|none=>rfl|some b=>exact ih b _ _
 |guard b c ih=>intro m l;simp only[Acc.bind,Acc.run];cases b with|true=>exact ih _ _|false=>rfl
def run_bind{α β:Type}(a:Acc α)(f:α->Acc β)(m:Mem)(l:Log):(a>>=f).run m l=match a.run m l with|some (x,m',l')=>(f x).run m' l'|none=>none:=Acc.run_bind a f m l
def aj{α β:Type}{a:Acc α}{f:α->Acc β}{m:Mem}{l:Log}{y:β}{m':Mem}{l':Log}(h:(a>>=f).run m l=some (y,m',l')):
  ∃x m1 l1,a.run m l=some (x,m1,l1)∧(f x).run m1 l1=some (y,m',l'):=by
 rw[run_bind] at h;cases ha:a.run m l with
 |none=>simp[ha] at h
 |some x=>obtain⟨x,m1,l1⟩:=x;rw[ha] at h;exact⟨x,m1,l1,rfl,h⟩
def run_pure{α:Type}(a:α)(m:Mem)(l:Log):(Pure.pure a:Acc α).run m l=some (a,m,l):=rfl
def wZ(k:Nat)(m:Mem)(l:Log):(rd k).run m l=some (get k m,m,l.rd k):=rfl
def H7(k:Nat)(c:Cell)(m:Mem)(l:Log):(wr k c).run m l=some ((),put k c m,l.wr k):=rfl
def dL{b:Bool}{m:Mem}{l:Log}{x:Unit}{m':Mem}{l':Log}(h:(ck b).run m l=some (x,m',l')):b=true∧m'=m∧l'=l:=by cases b<;>simp[ck,Acc.run] at h;exact⟨rfl,h.1.symm,h.2.symm⟩
def iJ{β:Type}{o:Option β}{m:Mem}{l:Log}{x:β}{m':Mem}{l':Log}(h:(op' o).run m l=some (x,m',l')):o=some x∧m'=m∧l'=l:=by cases o<;>simp[op',Acc.run] at h;obtain⟨rfl,rfl,rfl⟩:=h;exact⟨rfl,rfl,rfl⟩
def au{α:Type}{m:Mem}{l:Log}{r:α×Mem×Log}(h:(Acc.fail:Acc α).run m l=some r):False:=by simp[Acc.run] at h
structure aew(X:Ctx)(h:View):Prop where
 row:∀g row,X.glob g=some row->yx h row g 0
 int:∀g,X.a0V g=true->∃n,h g 0=some (.int .i64 n)
def Jf{X:Ctx}{h h':View}(hl:h.le h')(q:aew X h):aew X h':=⟨λg row hg=>Rj hl row g 0 (q.row g row hg),λg hg=>by obtain⟨n,hn⟩:=q.int g hg;exact⟨n,hl _ _ _ hn⟩⟩
def atF(X:Ctx)(w:World):Prop:=∀g,X.aIJ g=true->∃x row cs T fr,X.glob g=some (x::row)∧w.heap[g]? =some (.cells cs T fr)∧cs.size=row.length+1
def atG{X:Ctx}{w:World}(h:∀g,X.aIJ g=false):atF X w:=λg hg=>by rw[h g] at hg;cases hg
def agL{h:View}:∀(row:Row) (b o:Nat),yx h row b o->oM h 1 (row.map λx=>[x]) b o
 |[],_,_,_=>trivial
 |x::r,b,o,⟨h1,h2⟩=>⟨rfl,⟨h1,trivial⟩,agL r b (o+1) h2⟩
end Go.Vm
namespace Go.Vm
open Go
def upF(F:Nat->List Nat)(r:Nat)(N:List Nat):Nat->List Nat:=λk=>if k=r then N else F k
def upM(μ:Nat->Value)(r:Nat)(g:Value):Nat->Value:=λk=>if k=r then g else μ k
@[simp] theorem GK(F:Nat->List Nat)(r:Nat)(N:List Nat):upF F r N r=N:=by simp[upF]
def kQ{F:Nat->List Nat}{r k:Nat}(N:List Nat)(h:k≠r):upF F r N k=F k:=by simp[upF,h]
@[simp] theorem OZ(μ:Nat->Value)(r:Nat)(g:Value):upM μ r g r=g:=by simp[upM]
def Rk{μ:Nat->Value}{r k:Nat}(g:Value)(h:k≠r):upM μ r g k=μ k:=by simp[upM,h]
def full(w:World):View:=λb o=>w.cell? ⟨b,o,none⟩
def vk(w:World)(U X:Nat->Prop):(view w U X).le (full w):=by
 intro b o v h;unfold view at h;split at h
 ·exact h
 ·cases h
def Ux{w:World}{U U' X X':Nat->Prop}(hU:∀b,U b->U' b)(h:∀b,X' b->X b):(view w U X).le (view w U' X'):=by
 intro b o v hv;unfold view at hv⊢;split at hv
 ·rename_i hc;rw[if_pos ⟨hU b hc.1,λhx=>hc.2 (h b hx)⟩];exact hv
 ·cases hv
structure GS where
 μ:Nat->Value
 F:Nat->List Nat
 E:List Nat
 out:List Nat
section
variable (base:Nat) (U:Nat->Prop) (w:World)
def Ic(m:Mem)(G:GS):Prop:=MInv base U m w G.μ G.F G.E G.out
noncomputable def Gh(G:GS):View:=view w U (excl G.F G.E)
end
structure YH(m:Mem)(G:GS)(m':Mem)(G':GS):Prop where
 mem:Je G.μ m G'.μ m'
 ex:∀b,excl G'.F G'.E b->excl G.F G.E b
def YH.refl(m:Mem)(G:GS):YH m G m G:=⟨sG _ _,λ_ h=>h⟩
def YH.trans{m1 m2 m3:Mem}{G1 G2 G3:GS}(h:YH m1 G1 m2 G2)(k:YH m2 G2 m3 G3):YH m1 G1 m3 G3:=
 ⟨vV h.mem k.mem,λb hb=>h.ex b (k.ex b hb)⟩
def YH.view{U:Nat->Prop}{w:World}{m m':Mem}{G G':GS}(h:YH m G m' G'):(Gh U w G).le (Gh U w G'):=Ux (λ_ x=>x) h.ex
def YH.aO{U:Nat->Prop}{w:World}{m m':Mem}{G G':GS}(h:YH m G m' G'){v:V}{g:Value}(q:aO G.μ m (Gh U w G) v g):aO G'.μ m' (Gh U w G') v g:=
 Ah h.mem h.view v g q
def YH.bV{U:Nat->Prop}{w:World}{m m':Mem}{G G':GS}(h:YH m G m' G'){v:List V}{g:List Value}(q:bV G.μ m (Gh U w G) v g):bV G'.μ m' (Gh U w G') v g:=
 uQ h.mem h.view v g q
section
variable {base:Nat} {U:Nat->Prop} {w:World} {m:Mem} {G:GS}
def Ic.set(hg:Ic base U w m G)(r:Nat)(c':Cell)(μ':Nat->Value)(N E' out':List Nat)
  (hs:(N++E').Nodup) (hsub:∀b,b∈N++E'->b∈G.F r∨b∈G.E) (hle:Je G.μ m μ' (put r c' m)) (hμ:∀k,k≠r->μ' k=G.μ k)
  (ho:∀k,k≠r->(k∈out'↔k∈G.out)) (hr:r∈out'->N=[])
  (hc:(view w U (excl G.F G.E)).le (view w U (excl (upF G.F r N) E'))->r ∉ out'->oN μ' (put r c' m) (dA w) (view w U (excl (upF G.F r N) E')) r c' N):
  Ic base U w (put r c' m) ⟨μ',upF G.F r N,E',out'⟩∧YH m G (put r c' m) ⟨μ',upF G.F r N,E',out'⟩:=by
 have hex:∀b,excl (upF G.F r N) E' b->excl G.F G.E b:=by
  rintro b (hb|⟨k,hb⟩)
  ·rcases hsub b (by simp[hb]) with h|h
   ·exact .inr ⟨r,h⟩
   ·exact .inl h
  ·by_cases hk:k=r
   ·subst hk;rw[GK] at hb;rcases hsub b (by simp[hb]) with h|h
    ·exact .inr ⟨_,h⟩
    ·exact .inl h
   ·rw[kQ N hk] at hb;exact .inr ⟨k,hb⟩
 have hv:(view w U (excl G.F G.E)).le (view w U (excl (upF G.F r N) E')):=Ux (λ_ x=>x) hex;have hN:=List.nodup_append.1 hs;refine⟨show MInv base U (put r c' m) w μ' (upF G.F r N) E' out' from ?_,⟨hle,hex⟩⟩;refine⟨?_, ?_, ?_, ?_,hN.2.1,λb hb=>hg.lt b (hex b hb),hg.up,hg.bs, ?_, ?_⟩
 ·intro k c hk hko;rw[get_put] at hk
  by_cases e:k=r
  ·subst e;rw[if_pos rfl] at hk;cases hk;rw[GK];exact hc hv hko
  ·rw[if_neg e] at hk;rw[kQ N e];exact OX hle hv (hμ k e) (λb _=>rfl) (hg.cell k c hk (λh=>hko ((ho k e).2 h)))
 ·intro k k' hne b hb hb'
  by_cases e:k=r
  ·subst e;rw[GK] at hb;rw[kQ N (Ne.symm hne)] at hb';rcases hsub b (by simp[hb]) with h|h
   ·exact hg.dj _ _ hne b h hb'
   ·exact hg.djE _ b hb' h
  ·rw[kQ N e] at hb
   by_cases e':k'=r
   ·subst e';rw[GK] at hb';rcases hsub b (by simp[hb']) with h|h
    ·exact hg.dj _ _ hne b hb h
    ·exact hg.djE _ b hb h
   ·rw[kQ N e'] at hb';exact hg.dj _ _ hne b hb hb'
 ·intro k b hb hE
  by_cases e:k=r
  ·subst e;rw[GK] at hb;exact hN.2.2 b hb b hE rfl
  ·rw[kQ N e] at hb;rcases hsub b (by simp[hE]) with h|h
   ·exact hg.dj _ _ e b hb h
   ·exact hg.djE _ b hb h
 ·intro k
  by_cases e:k=r
  ·subst e;rw[GK];exact hN.1
  ·rw[kQ N e];exact hg.nd k
 ·intro k hk;rw[get_put] at hk
  by_cases e:k=r
  ·rw[if_pos e] at hk;cases hk
  ·rw[if_neg e] at hk;rw[kQ N e];exact hg.none_ k hk
 ·intro k hk
  by_cases e:k=r
  ·subst e;rw[GK];exact hr hk
  ·rw[kQ N e];exact hg.out_ k ((ho k e).1 hk)
def Ic.less(hg:Ic base U w m G)(E':List Nat)(hn:E'.Nodup)(hs:∀b,b∈E'->b∈G.E):
  Ic base U w m {G with E:=E'}∧YH m G m {G with E:=E'}:=by
 have hex:∀b,excl G.F E' b->excl G.F G.E b:=by
  rintro b (hb|hb)
  ·exact .inl (hs b hb)
  ·exact .inr hb
 have hv:(view w U (excl G.F G.E)).le (view w U (excl G.F E')):=Ux (λ_ x=>x) hex;refine⟨⟨?_,hg.dj,λr b hb hE=>hg.djE r b hb (hs b hE),hg.nd,hn,λb hb=>hg.lt b (hex b hb),hg.up,hg.bs,hg.none_,hg.out_⟩,⟨sG _ _,hex⟩⟩;intro r c hc ho;exact OX (sG _ _) hv rfl (λ_ _=>rfl) (hg.cell r c hc ho)
def J7{μ μ':Nat->Value}{r:Nat}{c':Cell}(hμ:∀k,k≠r->μ' k=μ k)(h:∀c,get r m=some c->LP μ μ' r c c'):Je μ m μ' (put r c' m):=by
 intro k c hk
 by_cases e:k=r
 ·subst e;exact⟨c',jC _ _ _,h c hk⟩
 ·refine⟨c,by rw[mQ e];exact hk, ?_⟩;cases c<;>simp[LP,hμ k e]
def full_cell{b:Nat}{cs:Array Value}{t:TypeId}{fr:Nat×Nat}(h:dA w b=some (.cells cs t fr))(o:Nat):full w b o=cs.toList[o]? :=by simp only[full,World.cell?];unfold dA at h;simp[h]
end
def aaZ{h:View}{b:Nat}:∀(r:Row) (o:Nat) (cs:List Value),(∀j v,cs[j]? =some v->h b (o+j)=some v)->jg h r cs->yx h r b o
 |[],_,_,_,_=>by simp[yx]
 |x::r,o,cs,hc,⟨v,cs',e,h1,h2⟩=>by subst e;simp only[yx];refine⟨⟨v,hc 0 v rfl,h1⟩,aaZ r (o+1) cs' (λj u hj=> ?_) h2⟩;have:=hc (j+1) u (by simpa using hj);rw[show o+1+j=o+(j+1) from by omega];exact this
def YI{h:View}{b s:Nat}:∀(rs:List Row) (o:Nat) (cs:List Value),(∀j v,cs[j]? =some v->h b (o+j)=some v)->gV h s rs cs->oM h s rs b o
 |[],_,_,_,_=>by simp[oM]
 |r::rs,o,cs,hc,⟨h1,h2,h3⟩=>by simp only[oM];refine⟨h1,aaZ r o cs hc h2,YI rs (o+s) (cs.drop s) (λj u hj=> ?_) h3⟩;rw[List.getElem?_drop] at hj;rw[show o+s+j=o+(s+j) from by omega];exact hc _ _ hj
def adt(h:View)(H:Heap)(N:List Nat):Prop:=∀b,b∈N->∀cs t fr,H b=some (.cells cs t fr)->∀(o:Nat) v,cs.toList[o]? =some v->h b o=some v
def adt.sub{h:View}{H:Heap}{N N':List Nat}(q:adt h H N)(hs:∀b,b∈N'->b∈N):adt h H N':=λb hb=>q b (hs b hb)
mutual
def aCy{H:Heap}{h h':View}(hl:h.le h'):∀(x:D) (v:Value) (N:List Nat),adt h' H N->ow H h x v N->ro h' x v
 | .int _ _,_,_,_,q=>by simp only[ow] at q;simpa[ro] using q.1
 | .bool _,_,_,_,q=>by simp only[ow] at q;simpa[ro] using q.1
 | .str _,_,_,_,q=>by simp only[ow] at q;simpa[ro] using q.1
 | .U1,_,_,_,q=>by simp only[ow] at q;simpa[ro] using q.1
 | .sl false s rows,v,N,_,q=>by simp only[ow] at q;have:=J6 hl _ _ q.2;simpa[ro] using this
 | .sl true s rows,v,N,hs,q=>by
  simp only[ow] at q;simp only[ro];rcases q with⟨rfl,rfl,rfl⟩|⟨b,cap,cs,t,N',h1,h2,h3,h4,h5,rfl⟩
  ·exact⟨none,0,by simp,by simp,λe=>absurd rfl e⟩
  ·refine⟨_,cap,h1,h2,λ_=>⟨b,0,rfl, ?_⟩⟩;refine YI rows 0 cs.toList (λj v hj=>by rw[Nat.zero_add];exact hs b (by simp) cs t _ h3 j v hj) ?_;exact OH hl s rows cs.toList N' (hs.sub (by simp;exact λ_ hb=> .inr hb)) h5
def OH{H:Heap}{h h':View}(hl:h.le h')(s:Nat):∀(rows:List Row) (cs:List Value) (N:List Nat),adt h' H N->gI H h s rows cs N->gV h' s rows cs
 |[],_,_,_,_=>by simp[gV]
 |r::rs,cs,N,hs,q=>by simp only[gI] at q;obtain⟨h1,N1,N2,rfl,h2,h3⟩:=q;simp only[gV];exact⟨h1,aa0 hl r cs N1 (hs.sub (by simp;exact λ_ hb=> .inl hb)) h2,OH hl s rs _ N2 (hs.sub (by simp;exact λ_ hb=> .inr hb)) h3⟩
def aa0{H:Heap}{h h':View}(hl:h.le h'):∀(r:Row) (cs:List Value) (N:List Nat),adt h' H N->jd H h r cs N->jg h' r cs
 |[],_,_,_,_=>by simp[jg]
 |x::r,cs,N,hs,q=>by simp only[jd] at q;obtain⟨v,cs',N1,N2,rfl,rfl,h1,h2⟩:=q;simp only[jg];exact⟨v,cs',rfl,aCy hl x v N1 (hs.sub (by simp;exact λ_ hb=> .inl hb)) h1,aa0 hl r cs' N2 (hs.sub (by simp;exact λ_ hb=> .inr hb)) h2⟩
end
def alK{H:Heap}{h h':View}(hl:h.le h'){fl:Bool}{s:Nat}{rows:List Row}{v:Value}{N:List Nat}(hs:adt h' H N)(q:Yr H h fl s rows v N)(o:Bool):ro h' (.sl o s rows) v:=by
 simp only[ro];rcases q with⟨rfl,rfl,rfl⟩|⟨b,cap,cs,t,N',h1,h2,h3,h4,h5,rfl⟩
 ·exact⟨none,0,by simp,by simp,λe=>absurd rfl e⟩
 ·refine⟨_,cap,h1,h2,λ_=>⟨b,0,rfl, ?_⟩⟩;refine YI rows 0 cs.toList (λj v hj=>by rw[Nat.zero_add];exact hs b (by simp) cs t _ h3 j v hj) ?_;cases fl with
  |true=>exact qh hl s rows _ h5.1
  |false=>exact OH hl s rows cs.toList N' (hs.sub (by simp;exact λ_ hb=> .inr hb)) h5
def YJ{h:View}{o o':Bool}{s:Nat}{rows:List Row}{v:Value}(q:ro h (.sl o s rows) v):ro h (.sl o' s rows) v:=by simpa[ro] using q
def ajZ{w:World}{N:List Nat}:adt (full w) (dA w) N:=by intro b _ cs t fr hb o v hv;rw[full_cell hb,hv]
def OI{w:World}{U X:Nat->Prop}{N:List Nat}(hU:∀b,b∈N->U b∧¬X b):adt (view w U X) (dA w) N:=by intro b hm cs t fr hb o v hv;unfold view;rw[if_pos (hU b hm)];have:=full_cell hb o;rw[hv] at this;exact this
mutual
def avf{h:View}:∀(x:D) (v:Value),ro h x v->ro h x.fz v
 | .int _ _,_,q=>by simpa[D.fz] using q
 | .bool _,_,q=>by simpa[D.fz] using q
 | .str _,_,q=>by simpa[D.fz] using q
 | .U1,_,q=>by simpa[D.fz] using q
 | .sl own s rows,v,q=>by
  simp only[D.fz,ro] at q⊢;obtain⟨a,cap,h1,h2,h3⟩:=q;have hlen:(aP rows).length=rows.length:=V8 rows;refine⟨a,cap,by rw[hlen];exact h1,by rw[hlen];exact h2,λhn=> ?_⟩;have hn':rows≠[]:=by intro e;subst e;exact hn rfl
  obtain⟨b,o,h4,h5⟩:=h3 hn';exact⟨b,o,h4,aj0 s rows b o h5⟩
def V8:∀rows:List Row,(aP rows).length=rows.length
 |[]=>rfl
 |r::rs=>by simp[aP,V8 rs]
def Xw:∀r:Row,(qg r).length=r.length
 |[]=>rfl
 |x::r=>by simp[qg,Xw r]
def aj0{h:View}(s:Nat):∀(rows:List Row) (b o:Nat),oM h s rows b o->oM h s (aP rows) b o
 |[],_,_,_=>by simp[aP,oM]
 |r::rs,b,o,q=>by simp only[aP,oM] at q⊢;exact⟨by rw[Xw];exact q.1,ana r b o q.2.1,aj0 s rs b (o+s) q.2.2⟩
def ana{h:View}:∀(r:Row) (b o:Nat),yx h r b o->yx h (qg r) b o
 |[],_,_,_=>by simp[qg,yx]
 |x::r,b,o,q=>by simp only[qg,yx] at q⊢;obtain⟨⟨v,h1,h2⟩,h3⟩:=q;exact⟨⟨v,h1,avf x v h2⟩,ana r b (o+1) h3⟩
end
def agM{h:View}{fl:Bool}{o:Bool}{s:Nat}{rows:List Row}{v:Value}(q:ro h (.sl o s rows) v):ro h (.sl false s (vw fl rows)) v:=by
 unfold vw;cases fl with
 |true=>exact YJ q
 |false=>simpa[D.fz] using avf _ _ q
def avg{h:View}{x:D}{v:Value}(q:ro h x v):ro h (roD x) v:=by cases x<;>simpa[roD,ro] using q
def avh{H:Heap}{h:View}{x:D}{v:Value}(q:ro h x v):ow H h (roD x) v []:=by cases x<;>simp[roD,ow,ro] at q⊢<;>exact q
def azQ{H:Heap}{h:View}{x:D}{v:Value}(hf:x.flat=true)(q:ro h x v):ow H h x v []:=by cases x<;>simp[D.flat,ow,ro] at hf q⊢<;>exact q
def agN{H:Heap}{h:View}:∀(r:Row) (cs:List Value),(r.all D.flat)=true->jg h r cs->jd H h r cs []
 |[],_,_,_=>by simp[jd]
 |x::r,cs,hf,⟨v,cs',e,h1,h2⟩=>by simp only[List.all_cons,EU] at hf;simp only[jd];exact⟨v,cs',[],[],e,rfl,azQ hf.1 h1,agN r cs' hf.2 h2⟩
def YK{H:Heap}{h:View}(s:Nat):∀(rs:List Row) (cs:List Value),ay rs=true->gV h s rs cs->gI H h s rs cs []
 |[],_,_,_=>by simp[gI]
 |r::rs,cs,hf,⟨h1,h2,h3⟩=>by simp only[ay,List.all_cons,EU] at hf;simp only[gI];exact⟨h1,[],[],rfl,agN r cs hf.1 h2,YK s rs _ hf.2 h3⟩
def alL{H:Heap}{h:View}{fl:Bool}{s:Nat}{rows:List Row}{v:Value}{N:List Nat}(ho:aam fl rows=true)(q:Yr H h fl s rows v N):ow H h (.sl true s rows) v N:=by
 simp only[ow];rcases q with q|⟨b,cap,cs,t,N',h1,h2,h3,h4,h5,rfl⟩
 ·exact .inl q
 ·refine .inr ⟨b,cap,cs,t,N',h1,h2,h3,h4, ?_,rfl⟩;cases fl with
  |true=>obtain⟨h5,rfl⟩:=h5;exact YK s rows _ (by simpa[aam] using ho) h5
  |false=>exact h5
def asb{H:Heap}{h:View}{s:Nat}{rows:List Row}{v:Value}{N:List Nat}(q:ow H h (.sl true s rows) v N):Yr H h false s rows v N:=by simpa[ow,Yr] using q
def aq4{H:Heap}{h:View}{s:Nat}{rows:List Row}{v:Value}{N:List Nat}(q:ow H h (.sl true s rows) v N):
  ∃N1 N2,N=N1++N2∧∀h',h.le h'->adt h' H N2->Yr H h' true s rows v N1:=by
 simp only[ow] at q;rcases q with⟨rfl,rfl,rfl⟩|⟨b,cap,cs,t,N',h1,h2,h3,h4,h5,rfl⟩
 ·exact⟨[],[],rfl,λ_ _ _=> .inl ⟨rfl,rfl,rfl⟩⟩
 ·exact⟨[b],N',rfl,λh' hl hs=> .inr ⟨b,cap,cs,t,[],h1,h2,h3,h4,⟨OH hl s rows _ N' hs h5,rfl⟩,rfl⟩⟩
end Go.Vm
namespace Go.Vm
open Go
section
variable {base:Nat} {U:Nat->Prop} {w:World} {m:Mem} {G:GS}
def Ic.kill(hg:Ic base U w m G){r:Nat}{fl:Bool}{ver s:Nat}{rows:List Row}(hc:get r m=some (.arr false fl ver s rows))(hro:r ∉ G.out):
  Ic base U w (put r .dead m) ⟨G.μ,upF G.F r [],G.E++G.F r,G.out⟩∧YH m G (put r .dead m) ⟨G.μ,upF G.F r [],G.E++G.F r,G.out⟩∧
   Yr (dA w) (Gh U w G) fl s rows (G.μ r) (G.F r):=by
 have h1:=hg.set r .dead G.μ [] (G.E++G.F r) G.out
  (by simpa using List.nodup_append.2 ⟨hg.ndE,hg.nd r,λa ha b hb e=>hg.djE r b hb (e ▸ ha)⟩)
  (by simp;exact λb hb=>hb.symm) (J7 (λ_ _=>rfl) (λc h=>by rw[hc] at h;cases h;trivial)) (λ_ _=>rfl) (λ_ _=>Iff.rfl) (λ_=>rfl) (λ_ _=>rfl)
 exact⟨h1.1,h1.2,hg.cell r _ hc hro⟩
def Ic.freeze(hg:Ic base U w m G){r:Nat}{fz fl:Bool}{ver s:Nat}{rows:List Row}(hc:get r m=some (.arr fz fl ver s rows))(hro:r ∉ G.out):
  Ic base U w (put r (.arr true fl ver s rows) m) ⟨G.μ,upF G.F r [],G.E,G.out⟩∧YH m G (put r (.arr true fl ver s rows) m) ⟨G.μ,upF G.F r [],G.E,G.out⟩∧
   ro (Gh U w ⟨G.μ,upF G.F r [],G.E,G.out⟩) (.sl true s rows) (G.μ r):=by
 have hle:Je G.μ m G.μ (put r (.arr true fl ver s rows) m):=J7 (λ_ _=>rfl) (λc h=>by rw[hc] at h;cases h;exact⟨Nat.le_refl _,rfl,λ_=>⟨rfl,rfl⟩⟩);have aIO:(view w U (excl G.F G.E)).le (view w U (excl (upF G.F r []) G.E))->ro (view w U (excl (upF G.F r []) G.E)) (.sl true s rows) (G.μ r):=by
  intro hv;have hq:=hg.cell r _ hc hro;cases fz with
  |true=>exact J6 hv _ _ hq.1
  |false=>
   refine alK hv (OI λb hb=>⟨(hg.lt b (.inr ⟨r,hb⟩)).2.2, ?_⟩) hq true;rintro(hE|⟨k,hk⟩)
   ·exact hg.djE r b hb hE
   ·by_cases e:k=r
    ·subst e;simp at hk
    ·rw[kQ _ e] at hk;exact hg.dj r k (Ne.symm e) b hb hk
 have h1:=hg.set r (.arr true fl ver s rows) G.μ [] G.E G.out (by simpa using hg.ndE) (by simp;exact λb hb=> .inr hb) hle (λ_ _=>rfl) (λ_ _=>Iff.rfl) (λ_=>rfl)
  (λhv _=>⟨aIO hv,rfl⟩)
 exact⟨h1.1,h1.2,aIO h1.2.view⟩
def Ic.aEx(hg:Ic base U w m G){k:Nat}(fl:Bool){s:Nat}{rows:List Row}{g:Value}{N E:List Nat}(hn:get k m=none)(hk:k ∉ G.out)(hE:(N++E).Perm G.E)
  (hq:ow (dA w) (Gh U w G) (.sl true s rows) g N):
  ∃F',Ic base U w (put k (.arr false fl 0 s rows) m) ⟨upM G.μ k g,F',E,G.out⟩∧YH m G (put k (.arr false fl 0 s rows) m) ⟨upM G.μ k g,F',E,G.out⟩:=by
 have hnd:=hE.nodup_iff.2 hg.ndE;have hmem:∀b,b∈N++E->b∈G.E:=λb hb=>hE.mem_iff.1 hb
 have hμ:∀j,j≠k->upM G.μ k g j=G.μ j:=λj e=>Rk g e
 have hle:∀c',Je G.μ m (upM G.μ k g) (put k c' m):=λc'=>J7 hμ (λc h=>by rw[hn] at h;cases h)
 cases fl with
 |false=>refine⟨_,hg.set k (.arr false false 0 s rows) (upM G.μ k g) N E G.out hnd (λb hb=> .inr (hmem b hb)) (hle _) hμ (λ_ _=>Iff.rfl) (λh=>absurd h hk) (λhv _=> ?_)⟩;simp only[oN,OZ];exact OG hv (λ_ _=>rfl) (asb hq)
 |true=>
  obtain⟨N1,N2,rfl,h2⟩:=aq4 hq;have hnd':(N1++E).Nodup:=by rw[Ad] at hnd;have:=List.nodup_append.1 hnd;exact List.nodup_append.2 ⟨this.1,(List.nodup_append.1 this.2.1).2.1,λa ha b hb=>this.2.2 a ha b (by simp[hb])⟩
  refine⟨_,hg.set k (.arr false true 0 s rows) (upM G.μ k g) N1 E G.out hnd' (λb hb=> .inr (hmem b (by simp at hb⊢;rcases hb with h|h<;>simp[h]))) (hle _) hμ (λ_ _=>Iff.rfl) (λh=>absurd h hk) (λhv _=> ?_)⟩;simp only[oN,OZ];refine h2 _ hv (OI λb hb=>⟨(hg.lt b (.inl (hmem b (by simp[hb])))).2.2, ?_⟩);rw[Ad] at hnd;have hd:=List.nodup_append.1 hnd;have hd2:=List.nodup_append.1 hd.2.1;rintro(hE'|⟨j,hj⟩)
  ·exact hd2.2.2 b hb b hE' rfl
  ·by_cases e:j=k
   ·subst e;rw[GK] at hj;exact hd.2.2 b hj b (by simp[hb]) rfl
   ·rw[kQ _ e] at hj;exact hg.djE j b hj (hmem b (by simp[hb]))
structure QX(base:Nat)(U:Nat->Prop)(w:World)(m:Mem)(G:GS)(m':Mem)(G':GS)(N:List Nat):Prop where
 ok:Ic base U w m' G'
 le:YH m G m' G'
 E:G'.E=G.E++N
 out:G'.out=G.out
 μ:G'.μ=G.μ
def QX.same(hg:Ic base U w m G):QX base U w m G m G []:=⟨hg,YH.refl _ _,by simp,rfl,rfl⟩
def QX.trans{m1 m2 m3:Mem}{G1 G2 G3:GS}{N N':List Nat}(a:QX base U w m1 G1 m2 G2 N)(b:QX base U w m2 G2 m3 G3 N'):QX base U w m1 G1 m3 G3 (N++N'):=
 ⟨b.ok,a.le.trans b.le,by rw[b.E,a.E,Ad],b.out.trans a.out,b.μ.trans a.μ⟩
def ZN{H:Heap}{h h':View}(hl:h.le h'){x:D}{v:Value}{N:List Nat}(q:ow H h x v N):ow H h' x v N:=alJ hl x v N (λ_ _=>rfl) q
def avi(hg:Ic base U w m G){v:V}{g:Value}(hv:aO G.μ m (Gh U w G) v g)(ho:G.out=[]){x:D}{m':Mem}{l l':Log}(h:(toD v).run m l=some (x,m',l')):
  ∃G' N,QX base U w m G m' G' N∧ow (dA w) (Gh U w G') x g N:=by
 cases v with
 |d y=>simp only[toD,run_pure,iI,jY] at h;obtain⟨rfl,rfl,rfl⟩:=h;exact⟨G,[],QX.same hg,avh (by simpa[aO] using hv)⟩
 |nil s=>simp only[toD,run_pure,iI,jY] at h;obtain⟨rfl,rfl,rfl⟩:=h;refine⟨G,[],QX.same hg, ?_⟩;simp only[aO] at hv;simp[ow,hv]
 |own r ver=>
  simp only[toD] at h;replace h:=aj h;obtain⟨c,m1,l1,h1,h⟩:=h;rw[wZ] at h1;cases h1;cases hc:get r m with
  |none=>rw[hc] at h;exact(au h).elim
  |some c=>
   rw[hc] at h;cases c with
   |box _ _=>exact(au h).elim
   |dead=>exact(au h).elim
   |JY _ _ _=>exact(au h).elim
   |pY _ _=>exact(au h).elim
   |arr fz fl jy s rows=>
    simp only at h;replace h:=aj h;obtain⟨_,m2,l2,h1,h⟩:=h;obtain⟨hb,rfl,rfl⟩:=dL h1;have hb:=Ac hb;subst hb;simp only[aO,hc] at hv;have hv:=hv.2.2 trivial;subst hv;have hro:r ∉ G.out:=by simp[ho]
    cases fz with
    |true=>simp only[run_pure,iI,jY] at h;obtain⟨rfl,rfl,rfl⟩:=h;refine⟨G,[],QX.same hg, ?_⟩;have hq:=(hg.cell r _ hc hro).1;simp only[ow,true_and];exact agM hq
    |false=>simp only at h;replace h:=aj h;obtain⟨_,m2,l2,h1,h⟩:=h;obtain⟨hok,rfl,rfl⟩:=dL h1;replace h:=aj h;obtain⟨_,m3,l3,h1,h⟩:=h;rw[H7] at h1;cases h1;simp only[run_pure,iI,jY] at h;obtain⟨rfl,rfl,rfl⟩:=h;obtain⟨k1,k2,k3⟩:=hg.kill hc hro;exact⟨_,G.F r,⟨k1,k2,rfl,rfl,rfl⟩,ZN k2.view (alL hok k3)⟩
 |ptr _ _=>exact(au h).elim
 |xB _ _ _ _=>exact(au h).elim
 |rU _ _=>exact(au h).elim
 |Ae _=>exact(au h).elim
 |clo _ _ _=>exact(au h).elim
 |agg _=>exact(au h).elim
 |DL _=>exact(au h).elim
 |undef=>exact(au h).elim
def oh{μ:Nat->Value}{h:View}{v:V}{vs:List V}{gs:List Value}(q:bV μ m h (v::vs) gs):∃g gs',gs=g::gs'∧aO μ m h v g∧bV μ m h vs gs':=by simpa[bV] using q
def lF{μ:Nat->Value}{h:View}:∀{vs:List V} {gs:List Value},bV μ m h vs gs->gs.length=vs.length
 |[],gs,q=>by simp[bV] at q;simp[q]
 |v::vs,gs,q=>by obtain⟨g,gs',rfl,_,h3⟩:=oh q;simp[lF h3]
def Xx{H:Heap}{h h':View}(hl:h.le h'){x:Row}{v:List Value}{N:List Nat}(q:jd H h x v N):jd H h' x v N:=Oj hl x v N (λ_ _=>rfl) q
def anb{H:Heap}{h h':View}(hl:h.le h'){s:Nat}{x:List Row}{v:List Value}{N:List Nat}(q:gI H h s x v N):gI H h' s x v N:=AA hl s x v N (λ_ _=>rfl) q
def WG:∀{vs:List V} {gs:List Value} {m:Mem} {G:GS} (_:Ic base U w m G) (_:bV G.μ m (Gh U w G) vs gs) (_:G.out=[]) {xs:Row} {m':Mem} {l l':Log} (_:(Q7 vs).run m l=some (xs,m',l')),
  ∃G' N,QX base U w m G m' G' N∧jd (dA w) (Gh U w G') xs gs N∧xs.length=vs.length
 |[],gs,m,G,hg,hv,ho,xs,m',l,l',h=>by simp only[Q7,run_pure,iI,jY] at h;obtain⟨rfl,rfl,rfl⟩:=h;exact⟨G,[],QX.same hg,by simp[jd],rfl⟩
 |v::vs,gs,m,G,hg,hv,ho,xs,m',l,l',h=>by obtain⟨g,gs',rfl,hv1,hv2⟩:=oh hv;simp only[Q7] at h;replace h:=aj h;obtain⟨x,m1,l1,h1,h⟩:=h;replace h:=aj h;obtain⟨ys,m2,l2,h2,h⟩:=h;simp only[run_pure,iI,jY] at h;obtain⟨rfl,rfl,rfl⟩:=h;obtain⟨G1,N1,t1,q1⟩:=avi hg hv1 ho h1;obtain⟨G2,N2,t2,q2,hlen⟩:=WG t1.ok (t1.le.bV hv2) (t1.out.trans ho) h2;refine⟨G2,N1++N2,t1.trans t2, ?_,by simp[hlen]⟩;simp only[jd];exact⟨g,gs',N1,N2,rfl,rfl,ZN t2.le.view q1,q2⟩
end
end Go.Vm
namespace Go.Vm
open Go
section
variable {base:Nat} {U:Nat->Prop} {w:World} {m:Mem} {G:GS}
def Ic.look(hg:Ic base U w m G){r:Nat}{fz fl:Bool}{ver s:Nat}{rows:List Row}(hc:get r m=some (.arr fz fl ver s rows))(hro:r ∉ G.out)(o:Bool):ro (full w) (.sl o s rows) (G.μ r):=by
 have hq:=hg.cell r _ hc hro;cases fz with
 |true=>exact YJ (J6 (vk _ _ _) _ _ hq.1)
 |false=>exact alK (vk _ _ _) ajZ hq o
def asc(hg:Ic base U w m G){v:V}{g:Value}(hv:aO G.μ m (Gh U w G) v g)(ho:G.out=[]){s:Nat}{rows:List Row}{m':Mem}{l l':Log}(h:(seen v).run m l=some ((s,rows),m',l')):
  m'=m∧ro (full w) (.sl false s rows) g:=by
 cases v with
 |d y=>
  cases y with
  |sl own s' rows'=>simp only[seen,run_pure,iI,jY] at h;obtain⟨⟨rfl,rfl⟩,rfl,rfl⟩:=h;simp only[aO] at hv;exact⟨rfl,YJ (J6 (vk _ _ _) _ _ hv)⟩
  |int _ _=>exact(au h).elim
  |bool _=>exact(au h).elim
  |str _=>exact(au h).elim
  |U1=>exact(au h).elim
 |nil s'=>simp only[seen,run_pure,iI,jY] at h;obtain⟨⟨rfl,rfl⟩,rfl,rfl⟩:=h;simp only[aO] at hv;exact⟨rfl,by simp[ro,hv]⟩
 |own r ver=>
  simp only[seen] at h;replace h:=aj h;obtain⟨c,m1,l1,h1,h⟩:=h;rw[wZ] at h1;cases h1;cases hc:get r m with
  |none=>rw[hc] at h;exact(au h).elim
  |some c=>
   rw[hc] at h;cases c with
   |box _ _=>exact(au h).elim
   |dead=>exact(au h).elim
   |JY _ _ _=>exact(au h).elim
   |pY _ _=>exact(au h).elim
   |arr fz fl jy s' rows'=>simp only at h;replace h:=aj h;obtain⟨_,m2,l2,h1,h⟩:=h;obtain⟨hb,rfl,rfl⟩:=dL h1;have hb:=Ac hb;subst hb;simp only[run_pure,iI,jY] at h;obtain⟨⟨rfl,rfl⟩,rfl,rfl⟩:=h;simp only[aO,hc] at hv;have hv:=hv.2.2 trivial;subst hv;exact⟨rfl,agM (hg.look hc (by simp[ho]) true)⟩
 |ptr _ _=>exact(au h).elim
 |xB _ _ _ _=>exact(au h).elim
 |rU _ _=>exact(au h).elim
 |Ae _=>exact(au h).elim
 |clo _ _ _=>exact(au h).elim
 |agg _=>exact(au h).elim
 |DL _=>exact(au h).elim
 |undef=>exact(au h).elim
def AB(k:Nat):∀l:List Nat,mem? k l=true↔k∈l
 |[]=>by simp[mem?]
 |j::l=>by
  simp only[mem?,List.mem_cons]
  by_cases e:k=j
  ·subst e;simp
  ·rw[wY e];simp[e,AB k l]
def U3{k:Nat}{l:List Nat}(h:(!(mem? k l))=true):k ∉ l:=by intro hk;rw[(AB k l).2 hk] at h;cases h
def azR(hg:Ic base U w m G){v:V}{g:Value}(hv:aO G.μ m (Gh U w G) v g){imp:List Nat}(ho:∀r,r∈G.out->r∈imp){own:Bool}{v':V}{m':Mem}{l l':Log}(h:(au8 imp own v).run m l=some (v',m',l')):
  ∃G' N x,v'=.d x∧QX base U w m G m' G' N∧ow (dA w) (Gh U w G') x g N∧∀k,k∈imp->get k m'=get k m:=by
 cases v with
 |d y=>simp only[au8,run_pure,iI,jY] at h;obtain⟨rfl,rfl,rfl⟩:=h;exact⟨G,[],_,rfl,QX.same hg,avh (by simpa[aO] using hv),λ_ _=>rfl⟩
 |nil s=>simp only[au8,run_pure,iI,jY] at h;obtain⟨rfl,rfl,rfl⟩:=h;refine⟨G,[],_,rfl,QX.same hg, ?_,λ_ _=>rfl⟩;simp only[aO] at hv;cases own<;>simp[ow,ro,hv]
 |own r ver=>
  simp only[au8] at h;replace h:=aj h;obtain⟨c,m1,l1,h1,h⟩:=h;rw[wZ] at h1;cases h1;cases hc:get r m with
  |none=>rw[hc] at h;exact(au h).elim
  |some c=>
   rw[hc] at h;cases c with
   |box _ _=>exact(au h).elim
   |dead=>exact(au h).elim
   |JY _ _ _=>exact(au h).elim
   |pY _ _=>exact(au h).elim
   |arr fz fl jy s rows=>
    simp only at h;replace h:=aj h;obtain⟨_,m2,l2,h1,h⟩:=h;obtain⟨hb,rfl,rfl⟩:=dL h1;have hb:=Ac hb;subst hb;replace h:=aj h;obtain⟨_,m2,l2,h1,h⟩:=h;obtain⟨hi,rfl,rfl⟩:=dL h1;simp only[aO,hc] at hv;have hv:=hv.2.2 trivial;subst hv;have hro:r ∉ G.out:=λhr=>U3 hi (ho r hr)
    have hni:∀k,k∈imp->k≠r:=λk hk e=>U3 hi (e ▸ hk)
    cases own with
    |false=>simp only at h;replace h:=aj h;obtain⟨_,m3,l3,h1,h⟩:=h;rw[H7] at h1;cases h1;simp only[run_pure,iI,jY] at h;obtain⟨rfl,rfl,rfl⟩:=h;obtain⟨k1,k2,k3⟩:=hg.freeze hc hro;refine⟨_,[],_,rfl,⟨k1,k2,by simp,rfl,rfl⟩, ?_,λk hk=>mQ (hni k hk) _ _⟩;simp only[ow,true_and];exact agM k3
    |true=>
     simp only at h;replace h:=aj h;obtain⟨_,m2,l2,h1,h⟩:=h;obtain⟨hfz,rfl,rfl⟩:=dL h1;replace h:=aj h;obtain⟨_,m2,l2,h1,h⟩:=h;obtain⟨hok,rfl,rfl⟩:=dL h1;have hfz:fz=false:=by simpa using hfz
     subst hfz;replace h:=aj h;obtain⟨_,m3,l3,h1,h⟩:=h;rw[H7] at h1;cases h1;simp only[run_pure,iI,jY] at h;obtain⟨rfl,rfl,rfl⟩:=h;obtain⟨k1,k2,k3⟩:=hg.kill hc hro;exact⟨_,G.F r,_,rfl,⟨k1,k2,rfl,rfl,rfl⟩,ZN k2.view (alL hok k3),λk hk=>mQ (hni k hk) _ _⟩
 |ptr _ _=>exact(au h).elim
 |xB _ _ _ _=>exact(au h).elim
 |rU _ _=>exact(au h).elim
 |Ae _=>exact(au h).elim
 |clo _ _ _=>exact(au h).elim
 |agg _=>exact(au h).elim
 |DL _=>exact(au h).elim
 |undef=>exact(au h).elim
def aex{imp own:List Nat}:∀{vs:List V} {gs:List Value} {m:Mem} {G:GS} {j:Nat} (_:Ic base U w m G) (_:bV G.μ m (Gh U w G) vs gs) (_:∀r,r∈G.out->r∈imp) {vs':List V} {m':Mem} {l l':Log}
  (_:(YA imp own j vs).run m l=some (vs',m',l')),∃G' N xs,vs'=xs.map V.d∧xs.length=gs.length∧QX base U w m G m' G' N∧jd (dA w) (Gh U w G') xs gs N∧∀k,k∈imp->get k m'=get k m
 |[],gs,m,G,j,hg,hv,ho,vs',m',l,l',h=>by simp only[YA,run_pure,iI,jY] at h;obtain⟨rfl,rfl,rfl⟩:=h;simp only[bV] at hv;subst hv;exact⟨G,[],[],rfl,rfl,QX.same hg,by simp[jd],λ_ _=>rfl⟩
 |v::vs,gs,m,G,j,hg,hv,ho,vs',m',l,l',h=>by obtain⟨g,gs',rfl,hv1,hv2⟩:=oh hv;simp only[YA] at h;replace h:=aj h;obtain⟨x,m1,l1,h1,h⟩:=h;replace h:=aj h;obtain⟨ys,m2,l2,h2,h⟩:=h;simp only[run_pure,iI,jY] at h;obtain⟨rfl,rfl,rfl⟩:=h;obtain⟨G1,N1,x1,rfl,t1,q1,i1⟩:=azR hg hv1 ho h1;obtain⟨G2,N2,xs,rfl,hlen,t2,q2,i2⟩:=aex t1.ok (t1.le.bV hv2) (λr hr=>ho r (t1.out ▸ hr)) h2;refine⟨G2,N1++N2,x1::xs,rfl,by simp[hlen],t1.trans t2, ?_,λk hk=>(i2 k hk).trans (i1 k hk)⟩;simp only[jd];exact⟨g,gs',N1,N2,rfl,rfl,ZN t2.le.view q1,q2⟩
def anc(H:Heap)(h:View):Cell->Value->List Nat->Prop
 | .box t vs,g,N=>∃b a xs N',g=.pointer (some ⟨b,0,none⟩)∧H b=some (.cells a t (0,0))∧vs=xs.map V.d∧xs.length=a.toList.length∧jd H h xs a.toList N'∧N=b::N'
 | .arr fz fl ver s rows,g,N=>fz=false∧ver=0∧Yr H h fl s rows g N
 | .dead,_,_=>False
 | .JY ..,_,_=>False
 | .pY ..,_,_=>False
def cellsB(H:Heap)(h:View):List Cell->List Value->List Nat->Prop
 |[],gs,N=>gs=[]∧N=[]
 |c::cs,gs,N=>∃g gs' N1 N2,gs=g::gs'∧N=N1++N2∧anc H h c g N1∧cellsB H h cs gs' N2
def agO{H H':Heap}{h h':View}(hl:h.le h'){c:Cell}{g:Value}{N:List Nat}(hb:∀b,b∈N->H' b=H b)(q:anc H h c g N):anc H' h' c g N:=by
 cases c with
 |box t vs=>obtain⟨b,a,xs,N',h1,h2,h3,h4,h5,rfl⟩:=q;exact⟨b,a,xs,N',h1,by rw[hb b (by simp)];exact h2,h3,h4,Oj hl _ _ _ (λb' hb'=>hb b' (by simp[hb'])) h5,rfl⟩
 |arr fz fl ver s rows=>exact⟨q.1,q.2.1,OG hl hb q.2.2⟩
 |dead=>exact q
 |JY _ _ _=>exact q
 |pY _ _=>exact q
def aey{H H':Heap}{h h':View}(hl:h.le h'):∀{cs:List Cell} {gs:List Value} {N:List Nat},(∀b,b∈N->H' b=H b)->cellsB H h cs gs N->cellsB H' h' cs gs N
 |[],_,_,_,q=>q
 |c::cs,_,_,hb,⟨g,gs',N1,N2,h1,h2,h3,h4⟩=>by subst h2;exact⟨g,gs',N1,N2,h1,rfl,agO hl (λb hx=>hb b (by simp[hx])) h3,aey hl (λb hx=>hb b (by simp[hx])) h4⟩
def Ic.aCz(hg:Ic base U w m G){r:Nat}{c:Cell}(hc:get r m=some c)(hro:r ∉ G.out):
  Ic base U w m ⟨G.μ,upF G.F r [],G.E++G.F r,r::G.out⟩∧YH m G m ⟨G.μ,upF G.F r [],G.E++G.F r,r::G.out⟩:=by
 have hex:∀b,excl (upF G.F r []) (G.E++G.F r) b->excl G.F G.E b:=by
  rintro b (hb|⟨k,hb⟩)
  ·simp only[List.mem_append] at hb;rcases hb with h|h
   ·exact .inl h
   ·exact .inr ⟨r,h⟩
  ·by_cases e:k=r
   ·subst e;simp at hb
   ·rw[kQ _ e] at hb;exact .inr ⟨k,hb⟩
 have hv:(view w U (excl G.F G.E)).le (view w U (excl (upF G.F r []) (G.E++G.F r))):=Ux (λ_ x=>x) hex;refine⟨show MInv base U m w G.μ (upF G.F r []) (G.E++G.F r) (r::G.out) from ?_,⟨sG _ _,hex⟩⟩;refine⟨?_, ?_, ?_, ?_,List.nodup_append.2 ⟨hg.ndE,hg.nd r,λa ha b hb e=>hg.djE r b hb (e ▸ ha)⟩,λb hb=>hg.lt b (hex b hb),hg.up,hg.bs, ?_, ?_⟩
 ·intro k c hk hko;simp only[List.mem_cons,not_or] at hko;rw[kQ _ hko.1];exact OX (sG _ _) hv rfl (λ_ _=>rfl) (hg.cell k c hk hko.2)
 ·intro k k' hne b hb hb'
  by_cases e:k=r
  ·subst e;simp at hb
  ·rw[kQ _ e] at hb
   by_cases e':k'=r
   ·subst e';simp at hb'
   ·rw[kQ _ e'] at hb';exact hg.dj _ _ hne b hb hb'
 ·intro k b hb hE
  by_cases e:k=r
  ·subst e;simp at hb
  ·rw[kQ _ e] at hb;simp only[List.mem_append] at hE;rcases hE with h|h
   ·exact hg.djE _ b hb h
   ·exact hg.dj _ _ e b hb h
 ·intro k
  by_cases e:k=r
  ·subst e;simp
  ·rw[kQ _ e];exact hg.nd k
 ·intro k hk
  by_cases e:k=r
  ·subst e;simp
  ·rw[kQ _ e];exact hg.none_ k hk
 ·intro k hk
  by_cases e:k=r
  ·subst e;simp
  ·rw[kQ _ e];exact hg.out_ k (by simpa[e] using hk)
structure Out(base:Nat)(U:Nat->Prop)(w:World)(m:Mem)(G:GS)(m':Mem)(G':GS)(imp rs:List Nat)(N:List Nat):Prop where
 ok:Ic base U w m' G'
 le:YH m G m' G'
 E:G'.E=G.E++N
 out:∀r,r∈G'.out↔r∈G.out∨r∈rs
 μ:G'.μ=G.μ
 here:∀k,k∈imp->get k m'=get k m
def sameKind:Cell->Cell->Prop
 | .box t _,.box t' _=>t=t'
 | .arr _ fl ver s _,.arr _ fl' jy s' _=>ver=0∧jy=0∧fl=fl'∧s=s'
 |_,_=>False
def kinds(m:Mem):List Nat->List Cell->Prop
 |[],cs=>cs=[]
 |r::rs,cs=>∃c c' cs',cs=c'::cs'∧get r m=some c∧sameKind c c'∧kinds m rs cs'
def ab1{m m':Mem}:∀{rs:List Nat} {cs:List Cell},(∀r,r∈rs->get r m'=get r m)->kinds m rs cs->kinds m' rs cs
 |[],_,_,q=>q
 |r::rs,_,h,⟨c,c',cs',h1,h2,h3,h4⟩=>⟨c,c',cs',h1,(h r (by simp)).trans h2,h3,ab1 (λk hk=>h k (by simp[hk])) h4⟩
def adu{A:Adv}{imp:List Nat}:∀{rs:List Nat} {m:Mem} {G:GS} (_:Ic base U w m G) (_:rs.Nodup) (_:∀r,r∈rs->r∈imp∧r ∉ G.out) (_:∀r,r∈G.out->r∈imp) {cs:List Cell} {m':Mem} {l l':Log}
  (_:(YB A imp rs).run m l=some (cs,m',l')),∃G' N,Out base U w m G m' G' imp rs N∧cellsB (dA w) (Gh U w G') cs (rs.map G.μ) N∧kinds m rs cs
 |[],m,G,hg,hn,hr,ho,cs,m',l,l',h=>by simp only[YB,run_pure,iI,jY] at h;obtain⟨rfl,rfl,rfl⟩:=h;exact⟨G,[],⟨hg,YH.refl _ _,by simp,λr=>by simp,rfl,λ_ _=>rfl⟩,⟨rfl,rfl⟩,rfl⟩
 |r::rs,m,G,hg,hn,hr,ho,cs,m',l,l',h=>by
  simp only[YB] at h;replace h:=aj h;obtain⟨c,m1,l1,h1,h⟩:=h;rw[wZ] at h1;cases h1;replace h:=aj h;obtain⟨c1,m1,l1,h1,h⟩:=h;replace h:=aj h;obtain⟨cs1,m2,l2,h2,h⟩:=h;simp only[run_pure,iI,jY] at h;obtain⟨rfl,rfl,rfl⟩:=h;have hri:=hr r (by simp);have hnr:=List.nodup_cons.1 hn;have step:∃G' N,Out base U w m G m1 G' imp [r] N∧anc (dA w) (Gh U w G') c1 (G.μ r) N∧∃c,get r m=some c∧sameKind c c1:=by
   cases hc:get r m with
   |none=>rw[hc] at h1;exact(au h1).elim
   |some c=>
    rw[hc] at h1;have hq:=hg.cell r c hc hri.2;obtain⟨k1,k2⟩:=hg.aCz hc hri.2;cases c with
    |dead=>exact(au h1).elim
    |JY _ _ _=>exact(au h1).elim
    |pY _ _=>exact(au h1).elim
    |box t vs=>
     simp only[alG] at h1;replace h1:=aj h1;obtain⟨vs',m3,l3,h3,h1⟩:=h1;simp only[run_pure,iI,jY] at h1;obtain⟨rfl,rfl,rfl⟩:=h1;obtain⟨b,a,e1,e2,e3,e4⟩:=hq;obtain⟨G2,N2,xs,rfl,hlen,t2,q2,i2⟩:=aex k1 (k2.bV e3) (λk hk=>by
      simp only[List.mem_cons] at hk;rcases hk with rfl|hk
      ·exact hri.1
      ·exact ho k hk) h3
     refine⟨G2,b::N2,⟨t2.ok,k2.trans t2.le,by rw[t2.E,e4];simp,λk=>by rw[t2.out];simp[or_comm],t2.μ,i2⟩,⟨b,a,xs,N2,e1,e2,rfl,hlen,q2,rfl⟩,_,rfl,rfl⟩
    |arr fz fl ver s rows=>
     simp only[alG] at h1;replace h1:=aj h1;obtain⟨_,m3,l3,h3,h1⟩:=h1;obtain⟨hfz,rfl,rfl⟩:=dL h3;replace h1:=aj h1;obtain⟨_,m3,l3,h3,h1⟩:=h1;obtain⟨hv0,rfl,rfl⟩:=dL h3;simp only[run_pure,iI,jY] at h1;obtain⟨rfl,rfl,rfl⟩:=h1;have hfz:fz=false:=by simpa using hfz
     subst hfz;have hv0:=Ac hv0;subst hv0;refine⟨_,G.F r,⟨k1,k2,rfl,λk=>by simp[or_comm],rfl,λ_ _=>rfl⟩,⟨rfl,rfl,OG k2.view (λ_ _=>rfl) hq⟩,_,rfl,rfl,rfl,rfl,rfl⟩
  obtain⟨G1,N1,o1,q1,c0,hc0,hk0⟩:=step;obtain⟨G2,N2,o2,q2,kd2⟩:=adu o1.ok hnr.2 (λk hk=>⟨(hr k (by simp[hk])).1,λhko=>by
   rcases(o1.out k).1 hko with h|h
   ·exact(hr k (by simp[hk])).2 h
   ·simp at h;subst h;exact hnr.1 hk⟩) (λk hk=>by
   rcases(o1.out k).1 hk with h|h
   ·exact ho k h
   ·simp at h;subst h;exact hri.1) h2
  refine⟨G2,N1++N2,⟨o2.ok,o1.le.trans o2.le,by rw[o2.E,o1.E,Ad],λk=> ?_,o2.μ.trans o1.μ,λk hk=>(o2.here k hk).trans (o1.here k hk)⟩,⟨G.μ r,rs.map G.μ,N1,N2,rfl,rfl,agO o2.le.view (λ_ _=>rfl) q1,by rw[<-o1.μ];exact q2⟩,c0,c1,cs1,rfl,hc0,hk0,ab1 (λk hk=>(o1.here k (hr k (by simp[hk])).1).symm) kd2⟩;rw[o2.out,o1.out];simp[or_assoc]
end
end Go.Vm
namespace Go.Vm
open Go
section
variable {base:Nat} {U:Nat->Prop} {w:World} {m:Mem} {G:GS}
def ab2{r:Nat}{l:List Nat}(h:l.Nodup):(alF r l).Nodup:=by
 unfold alF;cases hm:mem? r l with
 |true=>exact h
 |false=>
  have:r ∉ l:=λhr=>by rw[(AB r l).2 hr] at hm;cases hm
  exact List.nodup_append.2 ⟨h,by simp,λa ha b hb e=>by simp at hb;subst hb;subst e;exact this ha⟩
mutual
def aa1:∀(v:V) (I:List Nat),I.Nodup->(am8 I v).Nodup
 | .ptr r _,I,h=>by simp only[am8];exact ab2 h
 | .clo _ a b,I,h=>by simp only[am8];exact VJ b _ (VJ a _ h)
 | .agg cs,I,h=>by simp only[am8];exact VJ cs _ h
 | .d _,I,h=>h
 | .nil _,I,h=>h
 | .own _ _,I,h=>h
 | .xB _ _ _ _,I,h=>h
 | .rU _ _,I,h=>h
 | .Ae v,I,h=>by simp only[am8];exact aa1 v I h
 | .DL _,I,h=>h
 | .undef,I,h=>h
def VJ:∀(vs:List V) (I:List Nat),I.Nodup->(ajY I vs).Nodup
 |[],I,h=>h
 |v::vs,I,h=>by simp only[ajY];exact VJ vs _ (aa1 v I h)
end
def aap(A:Adv)(f:Nat):∀(vs:List V) (i:Nat) (I:List Nat),I.Nodup->(Uw A f i I vs).Nodup
 |[],_,I,h=>h
 |v::vs,i,I,h=>by
  simp only[Uw];refine aap A f vs _ _ ?_;split
  ·exact ab2 h
  ·exact h
  ·exact aa1 _ _ h
def Uy(A:Adv)(f:Nat)(μ:Nat->Value)(m:Mem)(H:Heap)(h:View):Nat->List V->List Value->List Nat->Prop
 |_,[],gs,N=>gs=[]∧N=[]
 |i,v::vs,gs,N=>∃g gs' N1 N2,gs=g::gs'∧N=N1++N2∧(match Fq A f i with
   |1=>∃x,v=.d x∧ow H h x g N1
   |_=>N1=[]∧aO μ m h v g)∧Uy A f μ m H h (i+1) vs gs' N2
def WH{A:Adv}{f:Nat}{μ μ':Nat->Value}{m m':Mem}{H H':Heap}{h h':View}(hm:Je μ m μ' m')(hl:h.le h'):∀{vs:List V} {i:Nat} {gs:List Value} {N:List Nat},(∀b,b∈N->H' b=H b)->
  Uy A f μ m H h i vs gs N->Uy A f μ' m' H' h' i vs gs N
 |[],_,_,_,_,q=>q
 |v::vs,i,gs,N,hb,q=>by
  simp only[Uy] at q⊢;obtain⟨g,gs',N1,N2,rfl,rfl,h3,h4⟩:=q;refine⟨g,gs',N1,N2,rfl,rfl, ?_,WH hm hl (λb hx=>hb b (by simp[hx])) h4⟩;split at h3
  ·rename_i hmo;obtain⟨x,hx,hq⟩:=h3;exact⟨x,hx,alJ hl x g N1 (λb hx=>hb b (by simp[hx])) hq⟩
  ·exact⟨h3.1,Ah hm hl v g h3.2⟩
def aez{A:Adv}{f:Nat}:∀{vs:List V} {gs:List Value} {m:Mem} {G:GS} {i:Nat} (_:Ic base U w m G) (_:bV G.μ m (Gh U w G) vs gs) (_:G.out=[]) {vs':List V} {m':Mem} {l l':Log}
  (_:(WA A f i vs).run m l=some (vs',m',l')),∃G' N,QX base U w m G m' G' N∧Uy A f G'.μ m' (dA w) (Gh U w G') i vs' gs N
 |[],gs,m,G,i,hg,hv,ho,vs',m',l,l',h=>by simp only[WA,run_pure,iI,jY] at h;obtain⟨rfl,rfl,rfl⟩:=h;simp only[bV] at hv;exact⟨G,[],QX.same hg,hv,rfl⟩
 |v::vs,gs,m,G,i,hg,hv,ho,vs',m',l,l',h=>by
  obtain⟨g,gs',rfl,hv1,hv2⟩:=oh hv;simp only[WA] at h;replace h:=aj h;obtain⟨x,m1,l1,h1,h⟩:=h;replace h:=aj h;obtain⟨ys,m2,l2,h2,h⟩:=h;simp only[run_pure,iI,jY] at h;obtain⟨rfl,rfl,rfl⟩:=h;have step:∃G1 N1,QX base U w m G m1 G1 N1∧(match Fq A f i with
   |1=>∃y,x=.d y∧ow (dA w) (Gh U w G1) y g N1
   |_=>N1=[]∧aO G1.μ m1 (Gh U w G1) x g):=by
   split at h1
   ·rename_i hmo;replace h1:=aj h1;obtain⟨y,m3,l3,h3,h1⟩:=h1;simp only[run_pure,iI,jY] at h1;obtain⟨rfl,rfl,rfl⟩:=h1;obtain⟨G1,N1,t1,q1⟩:=avi hg hv1 ho h3;refine⟨G1,N1,t1, ?_⟩
    try rw[hmo]
    exact⟨y,rfl,q1⟩
   ·rename_i hmo;simp only[run_pure,iI,jY] at h1;obtain⟨rfl,rfl,rfl⟩:=h1;refine⟨G,[],QX.same hg, ?_⟩
    first
     |exact⟨rfl,hv1⟩
     |split
      ·rename_i e;exact absurd e hmo
      ·exact⟨rfl,hv1⟩
  obtain⟨G1,N1,t1,q1⟩:=step;obtain⟨G2,N2,t2,q2⟩:=aez t1.ok (t1.le.bV hv2) (t1.out.trans ho) h2;refine⟨G2,N1++N2,t1.trans t2, ?_⟩;simp only[Uy];refine⟨g,gs',N1,N2,rfl,rfl, ?_,q2⟩;split at q1
  ·obtain⟨y,hy,hq⟩:=q1;exact⟨y,hy,ZN t2.le.view hq⟩
  ·exact⟨q1.1,t2.le.aO q1.2⟩
def agP:∀(cs:List Cell) (k i:Nat),get (nK+(k+i)) (sF k cs)=cs[i]?
 |[],_,_=>by simp[sF,get]
 |c::cs,k,0=>by simp[sF,get]
 |c::cs,k,i+1=>by simp only[sF,get];rw[wY ak];simp only[aS,List.getElem?_cons_succ];rw[<-agP cs (k+1) i,show k+1+i=k+(i+1) from by omega]
def TI(cs:List Cell)(i:Nat):get (nK+i) (sF 0 cs)=cs[i]? :=by
 have:=agP cs 0 i
 rwa [Nat.zero_add] at this
def impμ(hs:List Value):Nat->Value:=λk=>hs.getD (k - nK) undef
def aa2{r:Nat}:∀{l:List Nat} {k i:Nat},idxOf r k l=some i->k<=i∧l[i - k]? =some r
 |[],_,_,h=>by simp[idxOf] at h
 |j::l,k,i,h=>by
  simp only[idxOf] at h
  by_cases e:r=j
  ·subst e;simp at h;subst h;simp
  ·rw[wY e] at h;simp only[aS] at h;obtain⟨h1,h2⟩:=aa2 h;refine⟨ak, ?_⟩;rw[show i - k=(i - (k+1))+1 from by omega,List.getElem?_cons_succ];exact h2
def ab3{m:Mem}:∀{rs:List Nat} {cs:List Cell} {i r:Nat},kinds m rs cs->rs[i]? =some r->∃c c',get r m=some c∧cs[i]? =some c'∧sameKind c c'
 |[],_,_,_,_,h=>by simp at h
 |r::rs,_,0,r',⟨c,c',cs',h1,h2,h3,_⟩,h=>by simp at h;subst h;subst h1;exact⟨c,c',h2,rfl,h3⟩
 |r::rs,_,i+1,r',⟨c,c',cs',h1,h2,h3,h4⟩,h=>by subst h1;simp only[List.getElem?_cons_succ] at h⊢;exact ab3 h4 h
def YL(U:Nat->Prop)(G:GS)(L:List Nat):Nat->Prop:=λb=>U b∧∀r,b∈G.F r->r∈L
def Uz{L:List Nat}:(Gh U w G).le (view w (YL U G L) (· ∈G.E)):=by
 intro b o v hv;unfold Gh view at hv;split at hv
 ·rename_i hc;unfold view;rw[if_pos ⟨⟨hc.1,λr hr=>absurd (.inr ⟨r,hr⟩) hc.2⟩,λhE=>hc.2 (.inl hE)⟩];exact hv
 ·cases hv
structure aj1(base:Nat)(U:Nat->Prop)(w:World)(m:Mem)(G:GS)(imp:List Nat)(cells:List Cell):Prop where
 ok:Ic base U w m G
 out:∀r,r∈G.out↔r∈imp
 kd:kinds m imp cells
def azS(hg:Ic base U w m G){r:Nat}{fz fl:Bool}{ver s:Nat}{rows:List Row}(hc:get r m=some (.arr fz fl ver s rows))(hro:r ∉ G.out){L:List Nat}(hL:fz=false->r∈L)(o:Bool):
  ro (view w (YL U G L) (· ∈G.E)) (.sl o s rows) (G.μ r):=by
 have hq:=hg.cell r _ hc hro;cases fz with
 |true=>exact YJ (J6 Uz _ _ hq.1)
 |false=>
  refine alK Uz (OI λb hb=>⟨⟨(hg.lt b (.inr ⟨r,hb⟩)).2.2,λk hk=> ?_⟩,hg.djE r b hb⟩) hq o
  by_cases e:k=r
  ·rw[e];exact hL rfl
  ·exact absurd hk (hg.dj r k (Ne.symm e) b hb)
mutual
def af9{imp:List Nat}{cells:List Cell}(C:aj1 base U w m G imp cells):∀{v:V} {g:Value} (_:aO G.μ m (Gh U w G) v g) {v':V} {lt:List Nat} {m':Mem} {l l':Log}
  (_:(lend imp v).run m l=some ((v',lt),m',l')),m'=m∧∀L:List Nat,(∀r,r∈lt->r∈L)->aO (impμ (imp.map G.μ)) (sF 0 cells) (view w (YL U G L) (· ∈G.E)) v' g
 | .d x,g,hv,v',lt,m',l,l',h=>by simp only[lend,run_pure,iI,jY] at h;obtain⟨⟨rfl,rfl⟩,rfl,rfl⟩:=h;refine⟨rfl,λL hL=> ?_⟩;simp only[aO] at hv⊢;exact J6 Uz _ _ (avg hv)
 | .nil s,g,hv,v',lt,m',l,l',h=>by simp only[lend,run_pure,iI,jY] at h;obtain⟨⟨rfl,rfl⟩,rfl,rfl⟩:=h;refine⟨rfl,λL hL=> ?_⟩;simp only[aO] at hv⊢;simp[ro,hv]
 | .own r ver,g,hv,v',lt,m',l,l',h=>by
  simp only[lend] at h;replace h:=aj h;obtain⟨c,m1,l1,h1,h⟩:=h;rw[wZ] at h1;cases h1;cases hc:get r m with
  |none=>rw[hc] at h;exact(au h).elim
  |some c=>
   rw[hc] at h;cases c with
   |box _ _=>exact(au h).elim
   |dead=>exact(au h).elim
   |JY _ _ _=>exact(au h).elim
   |pY _ _=>exact(au h).elim
   |arr fz fl jy s rows=>
    simp only at h;replace h:=aj h;obtain⟨_,m2,l2,h1,h⟩:=h;obtain⟨hb,rfl,rfl⟩:=dL h1;have hb:=Ac hb;subst hb;replace h:=aj h;obtain⟨_,m2,l2,h1,h⟩:=h;obtain⟨hi,rfl,rfl⟩:=dL h1;simp only[run_pure,iI,jY] at h;obtain⟨⟨rfl,rfl⟩,rfl,rfl⟩:=h;simp only[aO,hc] at hv;have hv:=hv.2.2 trivial;subst hv;refine⟨rfl,λL hL=> ?_⟩;have hro:r ∉ G.out:=λhr=>U3 hi ((C.out r).1 hr)
    simp only[aO];exact agM (azS C.ok hc hro (λhf=>hL r (by subst hf;simp)) true)
 | .ptr r off,g,hv,v',lt,m',l,l',h=>by simp only[lend] at h;replace h:=aj h;obtain⟨i,m1,l1,h1,h⟩:=h;obtain⟨hi,rfl,rfl⟩:=iJ h1;simp only[run_pure,iI,jY] at h;obtain⟨⟨rfl,rfl⟩,rfl,rfl⟩:=h;refine⟨rfl,λL hL=> ?_⟩;obtain⟨_,h2⟩:=aa2 hi;rw[Nat.sub_zero] at h2;obtain⟨c,c',k1,k2,k3⟩:=ab3 C.kd h2;simp only[aO,k1] at hv;simp only[aO,TI,k2];refine⟨hv.1, ?_⟩;replace hv:=hv.2;cases c<;>cases c'<;>simp only[sameKind] at k3 hv⊢;obtain⟨b,e1,e2⟩:=hv;refine⟨b, ?_,e2⟩;simp only[impμ,Nat.add_sub_cancel_left,List.getD_eq_getElem?_getD,List.getElem?_map,h2,Jb,Option.getD_some,e1]
 | .rU row off,g,hv,v',lt,m',l,l',h=>by simp only[lend,run_pure,iI,jY] at h;obtain⟨⟨rfl,rfl⟩,rfl,rfl⟩:=h;refine⟨rfl,λL hL=> ?_⟩;simp only[aO] at hv⊢;obtain⟨b,o,e1,e2⟩:=hv;exact⟨b,o,e1,Rj Uz row b o e2⟩
 | .Ae v,g,hv,v',lt,m',l,l',h=>by simp only[lend] at h;replace h:=aj h;obtain⟨⟨a',la⟩,m1,l1,h1,h⟩:=h;simp only[run_pure,iI,jY] at h;obtain⟨⟨rfl,rfl⟩,rfl,rfl⟩:=h;simp only[aO] at hv;obtain⟨b,x,rfl,e2,e3⟩:=hv;obtain⟨hm1,q1⟩:=af9 C e3 h1;refine⟨hm1,λL hL=> ?_⟩;simp only[aO];exact⟨b,x,rfl,Uz _ _ _ e2,q1 L hL⟩
 | .clo f a b,g,hv,v',lt,m',l,l',h=>by simp only[lend] at h;replace h:=aj h;obtain⟨⟨a',la⟩,m1,l1,h1,h⟩:=h;simp only at h;replace h:=aj h;obtain⟨⟨b',lb⟩,m2,l2,h2,h⟩:=h;simp only[run_pure,iI,jY] at h;obtain⟨⟨rfl,rfl⟩,rfl,rfl⟩:=h;simp only[aO] at hv;obtain⟨x,y,rfl,e2,e3⟩:=hv;obtain⟨hm1,q1⟩:=ab4 C e2 h1;rw[hm1] at h2;obtain⟨hm2,q2⟩:=ab4 C e3 h2;refine⟨hm2,λL hL=> ?_⟩;simp only[aO];exact⟨x,y,rfl,q1 L (λr hr=>hL r (by simp[hr])),q2 L (λr hr=>hL r (by simp[hr]))⟩
 | .agg cs,g,hv,v',lt,m',l,l',h=>by simp only[lend] at h;replace h:=aj h;obtain⟨⟨a',la⟩,m1,l1,h1,h⟩:=h;simp only[run_pure,iI,jY] at h;obtain⟨⟨rfl,rfl⟩,rfl,rfl⟩:=h;simp only[aO] at hv;obtain⟨x,rfl,e2⟩:=hv;obtain⟨hm1,q1⟩:=ab4 C e2 h1;refine⟨hm1,λL hL=> ?_⟩;simp only[aO];exact⟨x,rfl,q1 L hL⟩
 | .xB _ _ _ _,g,hv,v',lt,m',l,l',h=>(au h).elim
 | .DL _,g,hv,v',lt,m',l,l',h=>(au h).elim
 | .undef,g,hv,v',lt,m',l,l',h=>(au h).elim
def ab4{imp:List Nat}{cells:List Cell}(C:aj1 base U w m G imp cells):∀{vs:List V} {gs:List Value} (_:bV G.μ m (Gh U w G) vs gs) {vs':List V} {lt:List Nat} {m':Mem} {l l':Log}
  (_:(agG imp vs).run m l=some ((vs',lt),m',l')),m'=m∧∀L:List Nat,(∀r,r∈lt->r∈L)->bV (impμ (imp.map G.μ)) (sF 0 cells) (view w (YL U G L) (· ∈G.E)) vs' gs
 |[],gs,hv,v',lt,m',l,l',h=>by simp only[agG,run_pure,iI,jY] at h;obtain⟨⟨rfl,rfl⟩,rfl,rfl⟩:=h;simp only[bV] at hv;subst hv;exact⟨rfl,λ_ _=>by simp[bV]⟩
 |v::vs,gs,hv,v',lt,m',l,l',h=>by obtain⟨g,gs',rfl,hv1,hv2⟩:=oh hv;simp only[agG] at h;replace h:=aj h;obtain⟨⟨a',la⟩,m1,l1,h1,h⟩:=h;simp only at h;replace h:=aj h;obtain⟨⟨b',lb⟩,m2,l2,h2,h⟩:=h;simp only[run_pure,iI,jY] at h;obtain⟨⟨rfl,rfl⟩,rfl,rfl⟩:=h;obtain⟨hm1,q1⟩:=af9 C hv1 h1;rw[hm1] at h2;obtain⟨hm2,q2⟩:=ab4 C hv2 h2;refine⟨hm2,λL hL=> ?_⟩;simp only[bV];exact⟨g,gs',rfl,q1 L (λr hr=>hL r (by simp[hr])),q2 L (λr hr=>hL r (by simp[hr]))⟩
end
def ab5{imp:List Nat}{cells:List Cell}(C:aj1 base U w m G imp cells):∀{vs:List V} {gs:List Value} (_:bV G.μ m (Gh U w G) vs gs) {row:Row} {lt:List Nat} {m':Mem} {l l':Log}
  (_:(WB imp vs).run m l=some ((row,lt),m',l')),m'=m∧∀L:List Nat,(∀r,r∈lt->r∈L)->jg (view w (YL U G L) (· ∈G.E)) row gs
 |[],gs,hv,row,lt,m',l,l',h=>by simp only[WB,run_pure,iI,jY] at h;obtain⟨⟨rfl,rfl⟩,rfl,rfl⟩:=h;exact⟨rfl,λ_ _=>by simp[jg]⟩
 |v::vs,gs,hv,row,lt,m',l,l',h=>by
  obtain⟨g,gs',rfl,hv1,hv2⟩:=oh hv;simp only[WB] at h;replace h:=aj h;obtain⟨⟨a',la⟩,m1,l1,h1,h⟩:=h;obtain⟨hm1,q1⟩:=af9 C hv1 h1;cases a' with
  |d x=>simp only at h;replace h:=aj h;obtain⟨⟨b',lb⟩,m2,l2,h2,h⟩:=h;simp only[run_pure,iI,jY] at h;obtain⟨⟨rfl,rfl⟩,rfl,rfl⟩:=h;rw[hm1] at h2;obtain⟨hm2,q2⟩:=ab5 C hv2 h2;refine⟨hm2,λL hL=> ?_⟩;have:=q1 L (λr hr=>hL r (by simp[hr]));simp only[aO] at this;exact⟨g,gs',rfl,this,q2 L (λr hr=>hL r (by simp[hr]))⟩
  |_=>exact(au h).elim
def aq5{imp:List Nat}{cells:List Cell}(C:aj1 base U w m G imp cells){v:V}{g:Value}(hv:aO G.μ m (Gh U w G) v g){v':V}{lt:List Nat}{m':Mem}{l l':Log}
  (h:(af8 imp v).run m l=some ((v',lt),m',l')):m'=m∧∀L:List Nat,(∀r,r∈lt->r∈L)->aO (impμ (imp.map G.μ)) (sF 0 cells) (view w (YL U G L) (· ∈G.E)) v' g:=by
 cases v with
 |ptr r off=>
  simp only[af8] at h;replace h:=aj h;obtain⟨c,m1,l1,h1,h⟩:=h;rw[wZ] at h1;cases h1;cases hc:get r m with
  |none=>rw[hc] at h;exact(au h).elim
  |some c=>
   rw[hc] at h;cases c with
   |box t cs=>
    simp only at h;replace h:=aj h;obtain⟨_,m2,l2,h1,h⟩:=h;obtain⟨hi,rfl,rfl⟩:=dL h1;replace h:=aj h;obtain⟨⟨row,la⟩,m2,l2,h1,h⟩:=h;simp only[run_pure,iI,jY] at h;obtain⟨⟨rfl,rfl⟩,rfl,rfl⟩:=h;have hro:r ∉ G.out:=λhr=>U3 hi ((C.out r).1 hr)
    obtain⟨b,a,e1,e2,e3,e4⟩:=C.ok.cell r _ hc hro;obtain⟨hm,q⟩:=ab5 C e3 h1;refine⟨hm,λL hL=> ?_⟩;simp only[aO,hc] at hv⊢;obtain⟨b',e5,e6⟩:=hv.2;rw[e1] at e5;cases e5;refine⟨b,0,by rw[Nat.zero_add];exact e6,aaZ row 0 a.toList (λj u hj=> ?_) (q L (λk hk=>hL k (by simp[hk])))⟩;rw[Nat.zero_add];have hb:b∈G.F r:=by rw[e4];simp
    refine OI (N:=[b]) (λb' hb'=> ?_) b (by simp) a t _ e2 j u hj;simp only[List.mem_singleton] at hb';subst hb';refine⟨⟨(C.ok.lt _ (.inr ⟨r,hb⟩)).2.2,λk hk=> ?_⟩,C.ok.djE r _ hb⟩
    by_cases e:k=r
    ·rw[e];exact hL r (by simp)
    ·exact absurd hk (C.ok.dj r k (Ne.symm e) _ hb)
   |_=>exact(au h).elim
 |rU row off=>simp only[af8,run_pure,iI,jY] at h;obtain⟨⟨rfl,rfl⟩,rfl,rfl⟩:=h;refine⟨rfl,λL hL=> ?_⟩;simp only[aO] at hv⊢;obtain⟨b,o,e1,e2⟩:=hv;exact⟨b,o,e1,Rj Uz row b o e2⟩
 |_=>exact(au h).elim
def aeA{A:Adv}{f:Nat}{imp:List Nat}{cells:List Cell}(C:aj1 base U w m G imp cells):
  ∀{vs:List V} {gs:List Value} {i:Nat} {N:List Nat} (_:Uy A f G.μ m (dA w) (Gh U w G) i vs gs N) {vs':List V} {lt:List Nat} {m':Mem} {l l':Log}
  (_:(WC A imp f i vs).run m l=some ((vs',lt),m',l')),m'=m∧∀L:List Nat,(∀r,r∈lt->r∈L)->Uy A f (impμ (imp.map G.μ)) (sF 0 cells) (dA w) (view w (YL U G L) (· ∈G.E)) i vs' gs N
 |[],gs,i,N,hv,v',lt,m',l,l',h=>by simp only[WC,run_pure,iI,jY] at h;obtain⟨⟨rfl,rfl⟩,rfl,rfl⟩:=h;exact⟨rfl,λ_ _=>hv⟩
 |v::vs,gs,i,N,hv,v',lt,m',l,l',h=>by
  simp only[Uy] at hv;obtain⟨g,gs',N1,N2,rfl,rfl,hv1,hv2⟩:=hv;simp only[WC] at h;replace h:=aj h;obtain⟨⟨a',la⟩,m1,l1,h1,h⟩:=h;simp only at h;replace h:=aj h;obtain⟨⟨b',lb⟩,m2,l2,h2,h⟩:=h;simp only[run_pure,iI,jY] at h;obtain⟨⟨rfl,rfl⟩,rfl,rfl⟩:=h;have step:m1=m∧∀L:List Nat,(∀r,r∈la->r∈L)->(match Fq A f i with
   |1=>∃x,a'=.d x∧ow (dA w) (view w (YL U G L) (· ∈G.E)) x g N1
   |_=>N1=[]∧aO (impμ (imp.map G.μ)) (sF 0 cells) (view w (YL U G L) (· ∈G.E)) a' g):=by
   split at h1
   ·rename_i hmo;rw[hmo] at hv1⊢;simp only[run_pure,iI,jY] at h1;obtain⟨⟨rfl,rfl⟩,rfl,rfl⟩:=h1;refine⟨rfl,λL hL=> ?_⟩;obtain⟨x,hx,hq⟩:=hv1;exact⟨x,hx,ZN Uz hq⟩
   ·rename_i hmo;rw[hmo] at hv1⊢;obtain⟨hN,hv1⟩:=hv1;cases v with
    |own r ver=>simp only at h1;replace h1:=aj h1;obtain⟨_,m3,l3,h3,h1⟩:=h1;obtain⟨hb,rfl,rfl⟩:=dL h3;have hb:=Ac hb;subst hb;replace h1:=aj h1;obtain⟨j,m3,l3,h3,h1⟩:=h1;obtain⟨hj,rfl,rfl⟩:=iJ h3;simp only[run_pure,iI,jY] at h1;obtain⟨⟨rfl,rfl⟩,rfl,rfl⟩:=h1;refine⟨rfl,λL hL=>⟨hN, ?_⟩⟩;obtain⟨_,h2⟩:=aa2 hj;rw[Nat.sub_zero] at h2;obtain⟨c,c',k1,k2,k3⟩:=ab3 C.kd h2;simp only[aO,k1] at hv1;simp only[aO,TI,k2];refine⟨hv1.1, ?_⟩;replace hv1:=hv1.2;cases c<;>cases c'<;>simp only[sameKind] at k3 hv1⊢;refine⟨ak,λ_=> ?_⟩;simp only[impμ,Nat.add_sub_cancel_left,List.getD_eq_getElem?_getD,List.getElem?_map,h2,Jb,Option.getD_some];exact hv1.2 k3.1.symm
    |d _=>exact(au h1).elim
    |nil _=>exact(au h1).elim
    |ptr _ _=>exact(au h1).elim
    |xB _ _ _ _=>exact(au h1).elim
    |rU _ _=>exact(au h1).elim
    |Ae _=>exact(au h1).elim
    |clo _ _ _=>exact(au h1).elim
    |agg _=>exact(au h1).elim
    |DL _=>exact(au h1).elim
    |undef=>exact(au h1).elim
   ·rename_i hmo;rw[hmo] at hv1⊢;obtain⟨hN,hv1⟩:=hv1;cases v with
    |nil s=>simp only[run_pure,iI,jY] at h1;obtain⟨⟨rfl,rfl⟩,rfl,rfl⟩:=h1;exact⟨rfl,λL hL=>⟨hN,hv1⟩⟩
    |d _=>exact(au h1).elim
    |own _ _=>exact(au h1).elim
    |ptr _ _=>exact(au h1).elim
    |xB _ _ _ _=>exact(au h1).elim
    |rU _ _=>exact(au h1).elim
    |Ae _=>exact(au h1).elim
    |clo _ _ _=>exact(au h1).elim
    |agg _=>exact(au h1).elim
    |DL _=>exact(au h1).elim
    |undef=>exact(au h1).elim
   ·rename_i hmo;rw[hmo] at hv1⊢;obtain⟨hN,hv1⟩:=hv1;obtain⟨rfl,q⟩:=aq5 C hv1 h1;exact⟨rfl,λL hL=>⟨hN,q L hL⟩⟩
   ·rename_i avj bcF bcG bcH;have hm1:∀(α:Prop) (β:Prop),(match Fq A f i with|1=>α|_=>β)=β:=by
     intro α β;split
     ·rename_i e;exact absurd e avj
     ·rfl
    rw[hm1] at hv1;obtain⟨hN,hv1⟩:=hv1;obtain⟨rfl,q⟩:=af9 C hv1 h1;refine⟨rfl,λL hL=> ?_⟩;rw[hm1];exact⟨hN,q L hL⟩
  obtain⟨hm1,q1⟩:=step;rw[hm1] at h2;obtain⟨hm2,q2⟩:=aeA C hv2 h2;refine⟨hm2,λL hL=> ?_⟩;simp only[Uy];exact⟨g,gs',N1,N2,rfl,rfl,q1 L (λr hr=>hL r (by simp[hr])),q2 L (λr hr=>hL r (by simp[hr]))⟩
end
end Go.Vm
namespace Go.Vm
open Go
def UU{w:World}{U X:Nat->Prop}{b o:Nat}{v:Value}(h:view w U X b o=some v):U b∧¬X b∧w.cell? ⟨b,o,none⟩=some v:=by
 unfold view at h;split at h
 ·rename_i hc;exact⟨hc.1,hc.2,h⟩
 ·cases h
def aga{w:World}{U X:Nat->Prop}{b o:Nat}{v:Value}(h1:U b)(h2:¬X b)(h3:w.cell? ⟨b,o,none⟩=some v):view w U X b o=some v:=by unfold view;rw[if_pos ⟨h1,h2⟩];exact h3
def cell_of_heap{w w':World}{b:Nat}(h:w'.heap[b]? =w.heap[b]?)(o:Nat):w'.cell? ⟨b,o,none⟩=w.cell? ⟨b,o,none⟩:=by simp[World.cell?,h]
def lt_of_cell{w:World}{b o:Nat}{v:Value}(h:w.cell? ⟨b,o,none⟩=some v):b<w.heap.size:=by have:=block_lt_of_cell h;simpa using this
section
variable {base:Nat} {U:Nat->Prop} {w w':World} {m:Mem} {G:GS}
def Ic.world(hg:Ic base U w m G)(hk:Keep G.E w w'){E':List Nat}(hn:E'.Nodup)(hE:∀b,b∈E'->(b∈G.E∨w.heap.size<=b)∧b<w'.heap.size):
  Ic base U w' m {G with E:=E'}∧(Gh U w G).le (Gh U w' {G with E:=E'}):=by
 have hnE:∀b,b<w.heap.size->b ∉ G.E->b ∉ E':=λb hb hx he=>by
  rcases(hE b he).1 with h|h
  ·exact hx h
  ·omega
 have hF:∀r b,b∈G.F r->w'.heap[b]? =w.heap[b]? :=λr b hb=>hk.block b (hg.lt b (.inr ⟨r,hb⟩)).1 (hg.djE r b hb)
 have hle:(Gh U w G).le (Gh U w' {G with E:=E'}):=by
  intro b o v hv;obtain⟨h1,h2,h3⟩:=UU hv;have hlt:=lt_of_cell h3;have hbE:b ∉ G.E:=λh=>h2 (.inl h)
  refine aga h1 ?_ ((cell_of_heap (hk.block b hlt hbE) o).trans h3);rintro(h|h)
  ·exact hnE b hlt hbE h
  ·exact h2 (.inr h)
 refine⟨⟨?_,hg.dj,λr b hb=>hnE b (hg.lt b (.inr ⟨r,hb⟩)).1 (hg.djE r b hb),hg.nd,hn, ?_,λb hb=>hg.up b (Nat.le_trans hk.size hb),Nat.le_trans hg.bs hk.size,hg.none_,hg.out_⟩,hle⟩
 ·intro r c hc ho;exact OX (sG _ _) hle rfl (λb hb=>hF r b hb) (hg.cell r c hc ho)
 ·rintro b (h|⟨r,h⟩)
  ·refine⟨(hE b h).2, ?_⟩;rcases(hE b h).1 with h'|h'
   ·exact(hg.lt b (.inl h')).2
   ·exact⟨Nat.le_trans hg.bs h',hg.up b h'⟩
  ·have:=hg.lt b (.inr ⟨r,h⟩);exact⟨Nat.lt_of_lt_of_le this.1 hk.size,this.2⟩
def aj2:∀{L:List Nat} {m:Mem} {G:GS} (_:Ic base U w m G) (_:∀r,r∈L->r ∉ G.out) {x:Unit} {m':Mem} {l l':Log} (_:(freeze L).run m l=some (x,m',l')),
  ∃F',Ic base U w m' ⟨G.μ,F',G.E,G.out⟩∧YH m G m' ⟨G.μ,F',G.E,G.out⟩∧(∀r,r∈L->F' r=[])∧(∀r,F' r=[]∨F' r=G.F r)∧(∀k,k ∉ L->get k m'=get k m)
 |[],m,G,hg,ho,x,m',l,l',h=>by simp only[Vm.freeze,run_pure,iI,jY] at h;obtain⟨_,rfl,rfl⟩:=h;exact⟨G.F,hg,YH.refl _ _,by simp,λr=> .inr rfl,λ_ _=>rfl⟩
 |r::L,m,G,hg,ho,x,m',l,l',h=>by
  simp only[Vm.freeze] at h;replace h:=aj h;obtain⟨c,m1,l1,h1,h⟩:=h;rw[wZ] at h1;cases h1;cases hc:get r m with
  |none=>rw[hc] at h;exact(au h).elim
  |some c=>
   rw[hc] at h;cases c with
   |box _ _=>exact(au h).elim
   |dead=>exact(au h).elim
   |JY _ _ _=>exact(au h).elim
   |pY _ _=>exact(au h).elim
   |arr fz fl ver s rows=>
    replace h:=aj h;obtain⟨_,m1,l1,h1,h⟩:=h;simp only[H7,iI,jY] at h1;obtain⟨_,rfl,rfl⟩:=h1;obtain⟨k1,k2,_⟩:=hg.freeze hc (ho r (by simp));obtain⟨F',q1,q2,q3,q4,q5⟩:=aj2 k1 (λk hk=>ho k (by simp[hk])) h;refine⟨F',q1,k2.trans q2, ?_, ?_, ?_⟩
    ·intro k hk;simp only[List.mem_cons] at hk;rcases hk with rfl|hk
     ·rcases q4 k with e|e
      ·exact e
      ·rw[e];simp
     ·exact q3 k hk
    ·intro k;rcases q4 k with e|e
     ·exact .inl e
     ·by_cases ek:k=r
      ·subst ek;rw[e];left;simp
      ·have e':F' k=upF G.F r [] k:=e;rw[e',kQ _ ek];exact .inr rfl
    ·intro k hk;simp only[List.mem_cons,not_or] at hk;rw[q5 k hk.2,mQ hk.1]
def agQ{k:IntKind}{x:D}{n:Int}(h:asInt k x=some n):x=.int k n:=by
 cases x<;>simp[asInt] at h;rename_i k' n'
 by_cases e:k'=k
 ·subst e;simp at h;subst h;rfl
 ·simp[e] at h
def aeB{x:D}{b:Bool}(h:asBool x=some b):x=.bool b:=by cases x<;>simp[asBool] at h;subst h;rfl
def agR{x:D}{b:List UInt8}(h:ajW x=some b):x=.str b:=by cases x<;>simp[ajW] at h;subst h;rfl
def aj3{s:Nat}{x:D}{rows:List Row}(h:au2 s x=some rows):∃o,x=.sl o s rows:=by
 cases x<;>simp[au2] at h;rename_i o s' rows'
 by_cases e:s'=s
 ·subst e;simp at h;subst h;exact⟨o,rfl⟩
 ·rw[wY e] at h;simp at h
def agS{s:Nat}{x:D}{rows:List Row}(h:ar9 s x=some rows):x=.sl true s rows:=by
 cases x<;>simp[ar9] at h;rename_i o s' rows';cases o<;>simp at h
 by_cases e:s'=s
 ·subst e;simp at h;subst h;rfl
 ·rw[wY e] at h;simp at h
def ane{row:Row}{j:Nat}{x:D}{r:Row}(h:row.drop j=x::r):nth row j=x∧row.drop (j+1)=r:=by
 have h1:row[j]? =some x:=by
  have:(row.drop j)[0]? =some x:=by rw[h];rfl
  rwa [List.getElem?_drop,Nat.add_zero] at this
 refine⟨by simp[nth,h1], ?_⟩;rw[<-List.drop_drop,h];rfl
def Ic.agT(hg:Ic base U w m G){N E:List Nat}(hE:(N++E).Perm G.E):Ic base U w m {G with E:=E}∧YH m G m {G with E:=E}∧∀{x:D} {g:Value},ow (dA w) (Gh U w G) x g N->ro (Gh U w {G with E:=E}) x g:=by
 have hnd:=hE.nodup_iff.2 hg.ndE;have hmem:∀b,b∈N++E->b∈G.E:=λb hb=>hE.mem_iff.1 hb
 obtain⟨h1,h2⟩:=hg.less E (List.nodup_append.1 hnd).2.1 (λb hb=>hmem b (by simp[hb]));refine⟨h1,h2,fun{x g} q=>aCy h2.view x g N (OI λb hb=>⟨(hg.lt b (.inl (hmem b (by simp[hb])))).2.2, ?_⟩) q⟩;rintro(h|⟨r,h⟩)
 ·exact(List.nodup_append.1 hnd).2.2 b hb b h rfl
 ·exact hg.djE r b h (hmem b (by simp[hb]))
structure Grew(base:Nat)(U:Nat->Prop)(w:World)(m:Mem)(G:GS)(m':Mem)(G':GS)(E:List Nat):Prop where
 ok:Ic base U w m' G'
 le:YH m G m' G'
 E:G'.E=E
 out:G'.out=G.out
 old:∀k c,get k m=some c->get k m'=some c
 μ:∀k c,get k m=some c->G'.μ k=G.μ k
def Grew.trans{m1 m2 m3:Mem}{G1 G2 G3:GS}{E E':List Nat}(a:Grew base U w m1 G1 m2 G2 E)(b:Grew base U w m2 G2 m3 G3 E'):Grew base U w m1 G1 m3 G3 E':=
 ⟨b.ok,a.le.trans b.le,b.E,b.out.trans a.out,λk c h=>b.old k c (a.old k c h),λk c h=>(b.μ k c (a.old k c h)).trans (a.μ k c h)⟩
def ab6{k:Nat}{c:Cell}{x:Unit}{m':Mem}{l l':Log}(h:(new k c).run m l=some (x,m',l')):get k m=none∧m'=put k c m:=by
 simp only[new] at h;replace h:=aj h;obtain⟨_,m1,l1,h1,h⟩:=h;simp only[free] at h1;replace h1:=aj h1;obtain⟨c',m2,l2,h2,h1⟩:=h1;rw[wZ] at h2;cases h2;cases hc:get k m with
 |some c=>rw[hc] at h1;exact(au h1).elim
 |none=>rw[hc] at h1;simp only[run_pure,iI,jY] at h1;obtain⟨_,rfl,rfl⟩:=h1;simp only[H7,iI,jY] at h;exact⟨rfl,h.2.1.symm⟩
def aj6(hg:Ic base U w m G)(ho:∀r,r∈G.out->∃c,get r m=some c){k:Nat}{fl:Bool}{s:Nat}{rows:List Row}{g:Value}{N E:List Nat}(hE:(N++E).Perm G.E)
  (hq:ow (dA w) (Gh U w G) (.sl true s rows) g N) {x:Unit} {m':Mem} {l l':Log} (h:(new k (.arr false fl 0 s rows)).run m l=some (x,m',l')):
  ∃G',Grew base U w m G m' G' E∧aO G'.μ m' (Gh U w G') (.own k 0) g:=by
 obtain⟨hn,rfl⟩:=ab6 h;have hk:k ∉ G.out:=λhx=>by obtain⟨c,hc⟩:=ho k hx;rw[hn] at hc;cases hc
 obtain⟨F',h1,h2⟩:=hg.aEx fl hn hk hE hq;refine⟨_,⟨h1,h2,rfl,rfl,λj c hj=> ?_,λj c hj=> ?_⟩, ?_⟩
 ·have hne:j≠k:=λe=>by subst e;rw[hn] at hj;cases hj
  rw[mQ hne];exact hj
 ·exact Rk _ (λe=>by subst e;rw[hn] at hj;cases hj)
 ·have:WE g:=by simp only[ow] at hq;rcases hq with⟨_,rfl,_⟩|⟨b,cap,cs,t,N',rfl,_⟩<;>exact⟨_,_,_,rfl⟩
  simp[aO,jC,this]
def aeC(hg:Ic base U w m G)(ho:∀r,r∈G.out->∃c,get r m=some c){row:Row}{j:Nat}{x:D}{g:Value}{N E:List Nat}(hE:(N++E).Perm G.E)(hx:nth row j=x)
  (hq:ow (dA w) (Gh U w G) x g N) {ct:CT} {own fl:Bool} {key:Nat} {v:V} {m':Mem} {l l':Log}
  (h:(TF own fl key row j ct).run m l=some (v,m',l')):
  ∃G',Grew base U w m G m' G' E∧aO G'.μ m' (Gh U w G') v g:=by
 obtain⟨d1,d2,d3⟩:=hg.agT hE;have plain:Grew base U w m G m {G with E:=E} E:=⟨d1,d2,rfl,rfl,λ_ _ h=>h,λ_ _ _=>rfl⟩
 have hro:=d3 hq;cases ct with
 |int k=>
  simp only[TF,aY,hx,Acc.run] at h;cases ha:asInt k x with
  |none=>simp[ha,Acc.run] at h
  |some n=>simp only[ha,Acc.run,iI,jY] at h;obtain⟨rfl,rfl,rfl⟩:=h;refine⟨_,plain, ?_⟩;rw[agQ ha] at hro;simpa[aO] using hro
 |bool=>
  simp only[TF,Q5,hx,Acc.run] at h;cases ha:asBool x with
  |none=>simp[ha,Acc.run] at h
  |some n=>simp only[ha,Acc.run,iI,jY] at h;obtain⟨rfl,rfl,rfl⟩:=h;refine⟨_,plain, ?_⟩;rw[aeB ha] at hro;simpa[aO] using hro
 |str=>
  simp only[TF,cStr,hx,Acc.run] at h;cases ha:ajW x with
  |none=>simp[ha,Acc.run] at h
  |some n=>simp only[ha,Acc.run,iI,jY] at h;obtain⟨rfl,rfl,rfl⟩:=h;refine⟨_,plain, ?_⟩;rw[agR ha] at hro;simpa[aO] using hro
 |other=>exact(au h).elim
 |sl s=>
  cases own with
  |false=>
   simp only[TF,OE,hx,Acc.run] at h;cases ha:au2 s x with
   |none=>simp[ha,Acc.run] at h
   |some n=>simp only[ha,Acc.run,iI,jY] at h;obtain⟨rfl,rfl,rfl⟩:=h;refine⟨_,plain, ?_⟩;obtain⟨o,rfl⟩:=aj3 ha;simp only[aO];exact agM hro
  |true=>
   simp only[TF,au3,hx,Acc.run] at h;cases ha:ar9 s x with
   |none=>simp[ha,Acc.run] at h
   |some n=>simp only[ha,Acc.run] at h;have:=agS ha;subst this;replace h:=aj h;obtain⟨_,m1,l1,h1,h⟩:=h;simp only[run_pure,iI,jY] at h;obtain⟨rfl,rfl,rfl⟩:=h;exact aj6 hg ho hE hq h1
def Ol{H:Heap}{h:View}{x:D}{r:Row}{cs:List Value}{N:List Nat}(q:jd H h (x::r) cs N):∃v cs' N1 N2,cs=v::cs'∧N=N1++N2∧ow H h x v N1∧jd H h r cs' N2:=by simpa[jd] using q
def adw{N1 N2 E E0:List Nat}(h:(N1++N2++E).Perm E0):(N1++(N2++E)).Perm E0:=by rwa [Ad] at h
def agU{own:List Nat}{r dst:Nat}{row:Row}:∀{cts:List CT} {fs:List Bool} {j:Nat} {m:Mem} {G:GS} {gs:List Value} {N E:List Nat} (_:Ic base U w m G) (_:∀r,r∈G.out->∃c,get r m=some c)
  (_:(N++E).Perm G.E) (_:jd (dA w) (Gh U w G) (row.drop j) gs N) (_:row.length=j+cts.length) (_:gs.length=cts.length) {vs:List V} {m':Mem} {l l':Log}
  (_:(abS own r dst row j cts fs).run m l=some (vs,m',l')),∃G',Grew base U w m G m' G' E∧bV G'.μ m' (Gh U w G') vs gs
 |[],fs,j,m,G,gs,N,E,hg,ho,hE,hq,hlen,hgl,vs,m',l,l',h=>by simp only[abS,run_pure,iI,jY] at h;obtain⟨rfl,rfl,rfl⟩:=h;rw[List.drop_eq_nil_of_le (by simp at hlen;omega)] at hq;simp only[jd] at hq;subst hq;simp at hgl;subst hgl;obtain⟨d1,d2,_⟩:=hg.agT hE;exact⟨_,⟨d1,d2,rfl,rfl,λ_ _ h=>h,λ_ _ _=>rfl⟩,by simp[bV]⟩
 |ct::cts,fs,j,m,G,gs,N,E,hg,ho,hE,hq,hlen,hgl,vs,m',l,l',h=>by
  cases hd:row.drop j with
  |nil=>have:=congrArg List.length hd;simp at this hlen;omega
  |cons x rest=>obtain⟨hx,hrest⟩:=ane hd;rw[hd] at hq;obtain⟨g,gs',N1,N2,rfl,rfl,q1,q2⟩:=Ol hq;simp only[abS] at h;replace h:=aj h;obtain⟨v,m1,l1,h1,h⟩:=h;replace h:=aj h;obtain⟨vs',m2,l2,h2,h⟩:=h;simp only[run_pure,iI,jY] at h;obtain⟨rfl,rfl,rfl⟩:=h;obtain⟨G1,t1,s1⟩:=aeC hg ho (adw hE) hx q1 h1;obtain⟨G2,t2,s2⟩:=agU t1.ok (λk hk=>by rw[t1.out] at hk;obtain⟨c,hc⟩:=ho k hk;exact⟨c,t1.old k c hc⟩) (by rw[t1.E]) (by rw[hrest];exact Xx t1.le.view q2) (by simp at hlen;omega) (by simpa using hgl) h2;refine⟨G2,t1.trans t2, ?_⟩;simp only[bV];exact⟨g,gs',rfl,t2.le.aO s1,s2⟩
def aeD{att:List Nat}{dst ri:Nat}{row:Row}:∀{cts:List CT} {fs:List Bool} {j:Nat} {m:Mem} {G:GS} {gs:List Value} {N E:List Nat} (_:Ic base U w m G) (_:∀r,r∈G.out->∃c,get r m=some c)
  (_:(N++E).Perm G.E) (_:jd (dA w) (Gh U w G) (row.drop j) gs N) (_:row.length=j+cts.length) (_:gs.length=cts.length) {vs:List V} {m':Mem} {l l':Log}
  (_:(YC att dst ri row j cts fs).run m l=some (vs,m',l')),∃G',Grew base U w m G m' G' E∧bV G'.μ m' (Gh U w G') vs gs
 |[],fs,j,m,G,gs,N,E,hg,ho,hE,hq,hlen,hgl,vs,m',l,l',h=>by simp only[YC,run_pure,iI,jY] at h;obtain⟨rfl,rfl,rfl⟩:=h;rw[List.drop_eq_nil_of_le (by simp at hlen;omega)] at hq;simp only[jd] at hq;subst hq;simp at hgl;subst hgl;obtain⟨d1,d2,_⟩:=hg.agT hE;exact⟨_,⟨d1,d2,rfl,rfl,λ_ _ h=>h,λ_ _ _=>rfl⟩,by simp[bV]⟩
 |ct::cts,fs,j,m,G,gs,N,E,hg,ho,hE,hq,hlen,hgl,vs,m',l,l',h=>by
  cases hd:row.drop j with
  |nil=>have:=congrArg List.length hd;simp at this hlen;omega
  |cons x rest=>obtain⟨hx,hrest⟩:=ane hd;rw[hd] at hq;obtain⟨g,gs',N1,N2,rfl,rfl,q1,q2⟩:=Ol hq;simp only[YC] at h;replace h:=aj h;obtain⟨v,m1,l1,h1,h⟩:=h;replace h:=aj h;obtain⟨vs',m2,l2,h2,h⟩:=h;simp only[run_pure,iI,jY] at h;obtain⟨rfl,rfl,rfl⟩:=h;obtain⟨G1,t1,s1⟩:=aeC hg ho (adw hE) hx q1 h1;obtain⟨G2,t2,s2⟩:=aeD t1.ok (λk hk=>by rw[t1.out] at hk;obtain⟨c,hc⟩:=ho k hk;exact⟨c,t1.old k c hc⟩) (by rw[t1.E]) (by rw[hrest];exact Xx t1.le.view q2) (by simp at hlen;omega) (by simpa using hgl) h2;refine⟨G2,t1.trans t2, ?_⟩;simp only[bV];exact⟨g,gs',rfl,t2.le.aO s1,s2⟩
def valOf(P:Program)(t:TypeId)(cs:List Value)(g:Value):Prop:=if Oi P t=true then g=.agg cs.toArray else cs=[g]
def VK(P:Program)(H:Heap)(h:View):List TypeId->List Row->List Value->List Nat->Prop
 |[],rows,gs,N=>rows=[]∧gs=[]∧N=[]
 |t::ts,rows,gs,N=>∃row rows' g gs' cs N1 N2,rows=row::rows'∧gs=g::gs'∧N=N1++N2∧valOf P t cs g∧jd H h row cs N1∧row.length=cs.length∧VK P H h ts rows' gs' N2
def U4{P:Program}{H H':Heap}{h h':View}(hl:h.le h'):∀{ts:List TypeId} {rows:List Row} {gs:List Value} {N:List Nat},(∀b,b∈N->H' b=H b)->VK P H h ts rows gs N->VK P H' h' ts rows gs N
 |[],_,_,_,_,q=>q
 |t::ts,_,_,_,hb,⟨row,rows',g,gs',cs,N1,N2,e1,e2,e3,h1,h2,h3,h4⟩=>by subst e3;exact⟨row,rows',g,gs',cs,N1,N2,e1,e2,rfl,h1,Oj hl _ _ _ (λb hx=>hb b (by simp[hx])) h2,h3,U4 hl (λb hx=>hb b (by simp[hx])) h4⟩
def Om{P:Program}{t:TypeId}{vs:List V}{v:V}(h:MN P t vs=some v){μ:Nat->Value}{hh:View}{cs:List Value}{g:Value}(hq:bV μ m hh vs cs)(hg:valOf P t cs g):aO μ m hh v g:=by
 unfold MN at h;unfold valOf at hg;cases ha:Oi P t with
 |true=>simp only[ha,aI,if_true,iI] at h hg;subst h;simp only[aO];exact⟨_,hg,by simpa using hq⟩
 |false=>
  simp only[ha,aS,Bool.false_eq_true,if_false] at h hg;split at h
  ·cases h;obtain⟨g',gs',e,q1,q2⟩:=oh hq;rw[hg] at e;cases e;exact q1
  ·cases h
def ajq{res:List Row}{ri:Nat}{row:Row}{rows:List Row}(h:res.drop ri=row::rows):abT res ri=row∧res.drop (ri+1)=rows:=by
 have h1:res[ri]? =some row:=by
  have:(res.drop ri)[0]? =some row:=by rw[h];rfl
  rwa [List.getElem?_drop,Nat.add_zero] at this
 refine⟨by simp[abT,h1], ?_⟩;rw[<-List.drop_drop,h];rfl
def aj7{X:Ctx}{att:List Nat}{dst:Nat}{res:List Row}:∀{ts:List TypeId} {ri:Nat} {m:Mem} {G:GS} {gs:List Value} {N E:List Nat} (_:Ic base U w m G) (_:∀r,r∈G.out->∃c,get r m=some c)
  (_:(N++E).Perm G.E) (_:VK X.P (dA w) (Gh U w G) ts (res.drop ri) gs N) {vs:List V} {m':Mem} {l l':Log}
  (_:(aaV X att dst res ri ts).run m l=some (vs,m',l')),∃G',Grew base U w m G m' G' E∧bV G'.μ m' (Gh U w G') vs gs
 |[],ri,m,G,gs,N,E,hg,ho,hE,hq,vs,m',l,l',h=>by simp only[aaV,run_pure,iI,jY] at h;obtain⟨rfl,rfl,rfl⟩:=h;obtain⟨_,rfl,rfl⟩:=hq;obtain⟨d1,d2,_⟩:=hg.agT hE;exact⟨_,⟨d1,d2,rfl,rfl,λ_ _ h=>h,λ_ _ _=>rfl⟩,by simp[bV]⟩
 |t::ts,ri,m,G,gs,N,E,hg,ho,hE,hq,vs,m',l,l',h=>by obtain⟨row,rows',g,gs',cs,N1,N2,e1,rfl,rfl,h1,h2,h3,h4⟩:=hq;obtain⟨hrow,hrest⟩:=ajq e1;simp only[aaV] at h;replace h:=aj h;obtain⟨_,m1,l1,k1,h⟩:=h;obtain⟨hlen,rfl,rfl⟩:=dL k1;replace h:=aj h;obtain⟨vc,m2,l2,k2,h⟩:=h;replace h:=aj h;obtain⟨v,m3,l3,k3,h⟩:=h;obtain⟨hv,rfl,rfl⟩:=iJ k3;replace h:=aj h;obtain⟨vs',m4,l4,k4,h⟩:=h;simp only[run_pure,iI,jY] at h;obtain⟨rfl,rfl,rfl⟩:=h;have hlen:=Ac hlen;rw[hrow] at hlen k2;obtain⟨G1,t1,s1⟩:=aeD hg ho (adw hE) (by simpa using h2) (by simpa using hlen) (by rw[<-h3];exact hlen) k2;obtain⟨G2,t2,s2⟩:=aj7 t1.ok (λk hk=>by rw[t1.out] at hk;obtain⟨c,hc⟩:=ho k hk;exact⟨c,t1.old k c hc⟩) (by rw[t1.E]) (by rw[hrest];exact U4 t1.le.view (λ_ _=>rfl) h4) k4;refine⟨G2,t1.trans t2, ?_⟩;simp only[bV];exact⟨g,gs',rfl,t2.le.aO (Om hv s1 h1),s2⟩
mutual
def ase{H:Heap}{h h':View}:∀(x:D) (v:Value) (N:List Nat),x.pure=true->ow H h x v N->ow H h' x v N
 | .int _ _,_,_,_,q=>by simpa[ow] using q
 | .bool _,_,_,_,q=>by simpa[ow] using q
 | .str _,_,_,_,q=>by simpa[ow] using q
 | .U1,_,_,_,q=>by simpa[ow] using q
 | .sl false s rows,v,N,hp,q=>by simp only[D.pure,List.isEmpty_iff] at hp;subst hp;simp only[ow,ro] at q⊢;exact⟨q.1,by obtain⟨a,cap,h1,h2,_⟩:=q.2;exact⟨a,cap,h1,h2,λe=>absurd rfl e⟩⟩
 | .sl true s rows,v,N,hp,q=>by
  simp only[D.pure] at hp;simp only[ow] at q⊢;rcases q with q|⟨b,cap,cs,t,N',h1,h2,h3,h4,h5,rfl⟩
  ·exact .inl q
  ·exact .inr ⟨b,cap,cs,t,N',h1,h2,h3,h4,aeE s rows _ N' hp h5,rfl⟩
def aeE{H:Heap}{h h':View}(s:Nat):∀(rows:List Row) (cs:List Value) (N:List Nat),Az rows=true->gI H h s rows cs N->gI H h' s rows cs N
 |[],_,_,_,q=>by simpa[gI] using q
 |r::rs,cs,N,hp,q=>by simp only[Az,EU] at hp;simp only[gI] at q⊢;obtain⟨h1,N1,N2,rfl,h2,h3⟩:=q;exact⟨h1,N1,N2,rfl,aa3 r _ N1 hp.1 h2,aeE s rs _ N2 hp.2 h3⟩
def aa3{H:Heap}{h h':View}:∀(r:Row) (cs:List Value) (N:List Nat),bM r=true->jd H h r cs N->jd H h' r cs N
 |[],_,_,_,q=>by simpa[jd] using q
 |x::r,cs,N,hp,q=>by simp only[bM,EU] at hp;simp only[jd] at q⊢;obtain⟨v,cs',N1,N2,rfl,rfl,h2,h3⟩:=q;exact⟨v,cs',N1,N2,rfl,rfl,ase x v N1 hp.1 h2,aa3 r cs' N2 hp.2 h3⟩
end
def agV{P:Program}{H:Heap}{h h':View}:∀{ts:List TypeId} {rows:List Row} {gs:List Value} {N:List Nat},rows.all bM=true->VK P H h ts rows gs N->VK P H h' ts rows gs N
 |[],_,_,_,_,q=>q
 |t::ts,_,_,_,hp,⟨row,rows',g,gs',cs,N1,N2,e1,e2,e3,h1,h2,h3,h4⟩=>by subst e1;simp only[List.all_cons,EU] at hp;exact⟨row,rows',g,gs',cs,N1,N2,rfl,e2,e3,h1,aa3 _ _ _ hp.1 h2,h3,agV hp.2 h4⟩
end
end Go.Vm
namespace Go.Vm
open Go
section
variable {base:Nat} {U:Nat->Prop} {w w':World} {m:Mem} {G:GS}
def drop_cons{α:Type}{l:List α}{i:Nat}{a:α}{r:List α}(h:l.drop i=a::r):l[i]? =some a∧l.drop (i+1)=r:=by
 refine⟨?_,by rw[<-List.drop_drop,h];rfl⟩;have:(l.drop i)[0]? =some a:=by rw[h];rfl
 rwa [List.getElem?_drop,Nat.add_zero] at this
def aEy(xs:List D):(xs.map V.d).map vD=xs:=by
 induction xs with
 |nil=>rfl
 |cons x xs ih=>simp[vD,ih]
def agW{m m':Mem}(h:∀k c,get k m=some c->get k m'=some c):∀{rs:List Nat} {cs:List Cell},kinds m rs cs->kinds m' rs cs
 |[],_,q=>q
 |r::rs,_,⟨c,c',cs',h1,h2,h3,h4⟩=>⟨c,c',cs',h1,h r c h2,h3,agW h h4⟩
def adx{m:Mem}{r:Nat}{c0:Cell}:∀{rs:List Nat} {cs:List Cell},r ∉ rs->kinds m rs cs->kinds (put r c0 m) rs cs
 |[],_,_,q=>q
 |k::rs,_,hr,⟨c,c',cs',h1,h2,h3,h4⟩=>by simp only[List.mem_cons,not_or] at hr;exact⟨c,c',cs',h1,by rw[mQ (Ne.symm hr.1)];exact h2,h3,adx hr.2 h4⟩
structure Came(base:Nat)(U:Nat->Prop)(w:World)(m:Mem)(G:GS)(m':Mem)(G':GS)(E:List Nat):Prop where
 ok:Ic base U w m' G'
 le:YH m G m' G'
 E:G'.E=E
 out:G'.out=[]
def OJ{H:Heap}{h h':View}(hl:h.le h'){cs:List Cell}{gs:List Value}{N:List Nat}(q:cellsB H h cs gs N):cellsB H h' cs gs N:=aey hl (λ_ _=>rfl) q
def ab7{X:Ctx}{dst:Nat}{outs:List Cell}:∀{rs:List Nat} {i:Nat} {m:Mem} {G:GS} {N E:List Nat} (_:Ic base U w m G) (_:rs.Nodup) (_:G.out=rs) (_:kinds m rs (outs.drop i))
  (_:(N++E).Perm G.E) (_:cellsB (dA w) (Gh U w G) (outs.drop i) (rs.map G.μ) N) {x:Unit} {m':Mem} {l l':Log} (_:(aer X dst outs i rs).run m l=some (x,m',l')),
  ∃G',Came base U w m G m' G' E
 |[],i,m,G,N,E,hg,hn,ho,hk,hE,hq,x,m',l,l',h=>by simp only[aer,run_pure,iI,jY] at h;obtain⟨_,rfl,rfl⟩:=h;obtain⟨d1,d2,_⟩:=hg.agT hE;exact⟨_,d1,d2,rfl,ho⟩
 |r::rs,i,m,G,N,E,hg,hn,ho,hk,hE,hq,x,m',l,l',h=>by
  obtain⟨c,c',cs',e1,hc,hsk,hk'⟩:=hk;have hnr:=List.nodup_cons.1 hn;obtain⟨hi,hdrop⟩:=drop_cons e1;rw[e1] at hq;obtain⟨g,gs',N1,N2,eg,rfl,q1,q2⟩:=hq;simp only[Rh,List.cons.injEq] at eg;obtain⟨rfl,rfl⟩:=eg;have hout:∀k,k∈G.out->∃c,get k m=some c:=by
   intro k hkm;rw[ho] at hkm;simp only[List.mem_cons] at hkm;rcases hkm with rfl|hkm
   ·exact⟨c,hc⟩
   ·obtain⟨j,hj⟩:=List.getElem?_of_mem hkm;obtain⟨c2,_,h2,_⟩:=ab3 hk' hj;exact⟨c2,h2⟩
  simp only[aer] at h;replace h:=aj h;obtain⟨c0,m1,l1,h1,h⟩:=h;rw[wZ] at h1;cases h1;rw[hc] at h;cases c with
  |dead=>exact hsk.elim
  |JY _ _ _=>exact hsk.elim
  |pY _ _=>exact hsk.elim
  |box t cs=>
   cases c' with
   |dead=>exact hsk.elim
   |JY _ _ _=>exact hsk.elim
   |pY _ _=>exact hsk.elim
   |arr _ _ _ _ _=>exact hsk.elim
   |box t' vs=>
    obtain rfl:t=t':=hsk;obtain⟨b,a,xs,N',hμ,hH,hvs,hxl,hrow,rfl⟩:=q1;simp only at h;replace h:=aj h;obtain⟨_,m2,l2,h2,h⟩:=h;obtain⟨hbl,rfl,rfl⟩:=dL h2;replace h:=aj h;obtain⟨vs',m3,l3,h3,h⟩:=h;replace h:=aj h;obtain⟨_,m4,l4,h4,h⟩:=h;rw[H7] at h4;cases h4;have hbx:au9 outs i=xs:=by simp only[au9,hi,hvs];exact aEy xs
    have hbl:xs.length=(TD X.P t).length:=by simp only[avb,hi] at hbl;have:=Ac hbl;rw[hvs,List.length_map] at this;exact this
    rw[hbx] at h3;obtain⟨G1,t1,s1⟩:=agU hg hout (N:=N') (E:=b::(N2++E)) (List.Perm.trans (by have:(N'++b::(N2++E)).Perm (b::(N'++(N2++E))):=List.perm_middle;refine this.trans ?_;simp[Ad]) hE) (by simpa using hrow) (by simpa using hbl) (by rw[<-hxl];exact hbl) h3;have hc1:=t1.old r _ hc;have azT:=t1.ok.ndE;rw[t1.E] at azT;have hset:=t1.ok.set r (.box t vs') G1.μ [b] (N2++E) rs (by simpa using azT) (λk hk=> .inr (by rw[t1.E];simpa using hk))
     (J7 (λ_ _=>rfl) (λc h=>by rw[hc1] at h;cases h;exact⟨rfl,rfl⟩)) (λ_ _=>rfl)
     (λk hne=>by rw[t1.out,ho];simp[hne]) (λhr=>absurd hr hnr.1)
     (λhv _=>⟨b,a,by rw[t1.μ r _ hc];exact hμ,hH,uQ (J7 (λ_ _=>rfl) (λc h=>by rw[hc1] at h;cases h;exact⟨rfl,rfl⟩)) hv _ _ s1,rfl⟩)
    obtain⟨k1,k2⟩:=hset;obtain⟨G2,f1,f2,f3,f4⟩:=ab7 k1 hnr.2 rfl (adx hnr.1 (agW t1.old (by rw[hdrop];exact hk'))) (N:=N2) (E:=E) (List.Perm.refl _)
     (by
      rw[hdrop];have hmap:rs.map G1.μ=rs.map G.μ:=List.map_congr_left λk hk=>by obtain⟨c2,h2⟩:=hout k (by rw[ho];simp[hk]);exact t1.μ k c2 h2
      simp only[hmap];exact OJ (t1.le.view.trans' k2.view) q2) h
    exact⟨G2,f1,(t1.le.trans k2).trans f2,f3,f4⟩
  |arr fz fl ver s rows=>
   cases c' with
   |dead=>exact hsk.elim
   |JY _ _ _=>exact hsk.elim
   |pY _ _=>exact hsk.elim
   |box _ _=>exact hsk.elim
   |arr fz' fl' jy s' rows'=>
    obtain⟨rfl,rfl,rfl,rfl⟩:=hsk;obtain⟨rfl,_,hrow⟩:=q1;simp only at h;replace h:=aj h;obtain⟨asf,m2,l2,h2,h⟩:=h;obtain⟨har,rfl,rfl⟩:=iJ h2;replace h:=aj h;obtain⟨_,m4,l4,h4,h⟩:=h;rw[H7] at h4;cases h4;have hrr:asf=rows':=by simp[ava,hi] at har;exact har.symm
    subst hrr;have azT:=hE.nodup_iff.2 hg.ndE;have hset:=hg.set r (.arr false fl 0 s asf) G.μ N1 (N2++E) rs (by rwa [Ad] at azT) (λk hk=> .inr (hE.mem_iff.1 (by rw[Ad];exact hk)))
     (J7 (λ_ _=>rfl) (λc h=>by rw[hc] at h;cases h;exact⟨Nat.le_refl _,rfl,λ_=>⟨rfl,rfl⟩⟩)) (λ_ _=>rfl)
     (λk hne=>by rw[ho];simp[hne]) (λhr=>absurd hr hnr.1)
     (λhv _=>OG hv (λ_ _=>rfl) hrow)
    obtain⟨k1,k2⟩:=hset;obtain⟨G2,f1,f2,f3,f4⟩:=ab7 k1 hnr.2 rfl (adx hnr.1 (by rw[hdrop];exact hk')) (N:=N2) (E:=E) (List.Perm.refl _)
     (by rw[hdrop];exact OJ k2.view q2) h
    exact⟨G2,f1,k2.trans f2,f3,f4⟩
def avk{h:View}(s:List UInt8):∀(cs:List Value),cs=s.map (λb=>Value.int .u8 b.toNat)->gV h 1 (s.map byteRow) cs:=by
 induction s with
 |nil=>intro cs _;simp[gV]
 |cons b s ih=>intro cs e;subst e;simp only[Rh,gV,byteRow];exact⟨rfl,by simp[jg,ro],ih _ rfl⟩
end
end Go.Vm
