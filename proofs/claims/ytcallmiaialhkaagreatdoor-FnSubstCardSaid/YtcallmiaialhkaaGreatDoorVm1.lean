import Derived.Orders
import Derived.KernelRfl
import Derived.RowKit3
import Derived.Laws.Cells
import Derived.Laws.Rows
import Derived.Laws.OwnMore
import Derived.Below
set_option linter.defProp false
set_option linter.unusedVariables false
set_option linter.unusedSimpArgs false
namespace Go.Vm
def au{p:Prop}(h:p:=by omega):p:=h
def bZ{α:Sort _}(a b:α):cond true a b=a:=cond_true ..
def dX{α:Sort _}(a b:α):cond false a b=b:=cond_false ..
def dG{α:Type _}(a b:α):(some a=some b)=(a=b):=Option.some.injEq ..
def eH{α:Type _}{β:Type _}(a:α)(b:β)(c:α)(d:β):((a,b)=(c,d))=(a=c/\b=d):=Prod.mk.injEq ..
def zdt{p:Prop}[Decidable p](h:p):decide p=true:=decide_eq_true h
def pX{p:Prop}[Decidable p](h:¬p):decide p=false:=decide_eq_false h
def lq{n m:Nat}(h:Nat.beq n m=true):n=m:=Nat.eq_of_beq_eq_true h
def ZP{α:Type _}{a b:List α}:(a++b).length=a.length+b.length:=List.length_append ..
def FK{α:Type _}{i:Nat}{a:α}{l:List α}:l[i]? =some a↔∃h:i<l.length,l[i]=a:=List.getElem?_eq_some_iff ..
def OL{α:Type _}{a:α}{s:List α}:(a::s).length=s.length+1:=List.length_cons ..
def BD{α:Type _}(a b c:List α):a++b++c=a++(b++c):=List.append_assoc ..
def QX{α:Type _}{a:α}:[a].length=1:=List.length_singleton ..
def zln{α:Type _}:([]:List α).length=0:=List.length_nil ..
def OQ{α:Type _}{l:List α}{i:Nat}{a:α}(h:l[i]? =some a):a∈l:=List.mem_of_getElem? h
def su(a b:Bool):((a&&b)=true)=(a=true/\b=true):=Bool.and_eq_true ..
def Eh{α:Type _}{β:Type _}(a:α)(f:α->β):Option.map f (some a)=some (f a):=Option.map_some ..
def QY{α:Type _}{β:Type _}{f:α->β}{a:α}{l:List α}:List.map f (a::l)=f a::List.map f l:=List.map_cons ..
def Qi(n:Nat):((n:Int)).toNat=n:=Int.toNat_natCast ..
def WI{α:Type _}{a:α}{s t:List α}:a::s++t=a::(s++t):=List.cons_append ..
def zmm{α:Type _}(y:α){a:α}{l:List α}(h:a∈l):a∈y::l:=List.mem_cons_of_mem _ h
def ZQ{α:Type _}[BEq α][LawfulBEq α]{a b:α}:(a==b)=false↔a≠b:=beq_eq_false_iff_ne ..
def MW{α:Type _}{i:Nat}{l:List α}:(l.take i).length=min i l.length:=List.length_take ..
end Go.Vm
namespace Go.Vm
open Go
inductive D where
 |int (k:IntKind) (n:Int)
 |bool (b:Bool)
 |str (s:List UInt8)
 |GL
 |sl (own:Bool) (s:Nat) (rows:List (List D))
 deriving Inhabited
abbrev Row:=List D
abbrev aT:=List UInt8
abbrev ay:=List Row
inductive V where
 |d (x:D)
 |nil (s:Nat)
 |own (r ver:Nat)
 |ptr (r off:Nat)
 |lI (r ver i off:Nat)
 |lS (row:Row) (off:Nat)
 |sG (v:V)
 |clo (f:Nat) (first caps:List V)
 |agg (cs:List V)
 |Gz (vs:List V)
 |undef
 deriving Inhabited
inductive Cell where
 |box (t:TypeId) (cs:List V)
 |arr (fz fl:Bool) (ver s:Nat) (rows:List Row)
 |dead
 |xk (ver s:Nat) (rows:List Row)
 |jM (t:TypeId) (v:V)
 |jB (ver s:Nat) (rows:List Row) (i off:Nat)
 deriving Inhabited
abbrev Mem:=List (Nat×Cell)
abbrev iF:=List (Nat×V)
structure St where
 tm:iF
 mem:Mem
def get{α:Type}(k:Nat):List (Nat×α)->Option α
 |[]=>none
 |(j,x)::l=>bif Nat.beq k j then some x else get k l
def put{α:Type}(k:Nat)(x:α):List (Nat×α)->List (Nat×α)
 |[]=>[(k,x)]
 |(j,y)::l=>bif Nat.beq k j then(k,x)::l else bif Nat.blt k j then(k,x)::(j,y)::l else(j,y)::put k x l
def del{α:Type}(k:Nat):List (Nat×α)->List (Nat×α)
 |[]=>[]
 |(j,y)::l=>bif Nat.beq k j then del k l else(j,y)::del k l
def IY(t:Nat)(tm:iF):V:=match get t tm with|some v=>v|none=> .undef
def NJ(dst:Option Nat)(v:V)(tm:iF):iF:=match dst with|some t=>put t v tm|none=>tm
def ahs(dst:Option Nat)(tm:iF):iF:=match dst with|some t=>del t tm|none=>tm
inductive Acc(α:Type):Type 1 where
 |ret (a:α)
 |fail
 |get (k:Nat) (c:Option Cell->Acc α)
 |set (k:Nat) (x:Cell) (c:Acc α)
 |opt {β:Type} (o:Option β) (c:β->Acc α)
 |guard (b:Bool) (c:Acc α)
structure Log where
 r:List Nat
 w:List Nat
def Log.rd(l:Log)(k:Nat):Log:={l with r:=k::l.r}
def Log.wr(l:Log)(k:Nat):Log:={l with w:=k::l.w}
def Log.none:Log:=⟨[],[]⟩
def Acc.bind{α β:Type}:Acc α->(α->Acc β)->Acc β
 | .ret a,f=>f a
 | .fail,_=> .fail
 | .get k c,f=> .get k λx=>(c x).bind f
 | .set k x c,f=> .set k x (c.bind f)
 | .opt o c,f=> .opt o λb=>(c b).bind f
 | .guard b c,f=> .guard b (c.bind f)
def Acc.run{α:Type}:Acc α->Mem->Log->Option (α×Mem×Log)
 | .ret a,m,l=>some (a,m,l)
 | .fail,_,_=>none
 | .get k c,m,l=>(c (Vm.get k m)).run m (l.rd k)
 | .set k x c,m,l=>c.run (put k x m) (l.wr k)
 | .opt o c,m,l=>match o with|some b=>(c b).run m l|none=>none
 | .guard b c,m,l=>match b with|true=>c.run m l|false=>none
inductive CT where
 |int (k:IntKind)|bool|str|sl (s:Nat)|other
 deriving Inhabited
def abu(f:TypeId->Option (List CT)):List TypeId->Option (List CT)
 |[]=>some []
 |t::ts=>match f t,abu f ts with|some a,some b=>some (a++b)|_,_=>none
def Xe(P:Program):Nat->TypeId->Option (List CT)
 |0,_=>none
 |n+1,t=>match P.underlying t with
  |some (.int k)=>some [.int k]
  |some .bool=>some [.bool]
  |some .string=>some [.str]
  |some (.slice e)=>match P.info? e with|some i=>some [.sl i.size]|none=>none
  |some (.struct fs)=>abu (Xe P n) (fs.toList.map (·.type))
  |some (.array k e)=>abu (Xe P n) (List.replicate k e)
  |some (.pointer _)|some (.func ..)=>some [.other]
  |_=>none
def BG(P:Program)(t:TypeId):List CT:=match Xe P 8 t with|some l=>l|none=>[.other]
def xZ(P:Program)(t:TypeId):Bool:=match P.underlying t with|some (.struct _)=>true|some (.array ..)=>true|_=>false
def iM(P:Program)(t:TypeId):Nat:=match P.info? t with|some i=>i.size|none=>0
def OT(P:Program)(t:TypeId):Option TypeId:=match P.underlying t with|some (.pointer T)=>some T|_=>none
def elT(P:Program)(t:TypeId):Option TypeId:=match P.underlying t with|some (.slice e)=>some e|_=>none
def Qj:CT->Value->V
 |_,.bool b=> .d (.bool b)
 |_,.int k n=> .d (.int k n)
 |_,.string s=> .d (.str s.data.toList)
 |_,.nilFunc=> .d .GL
 | .sl s,.slice none 0 0=> .nil s
 |_,_=> .undef
def xq:List CT->List Value->List V
 |c::cs,v::vs=>Qj c v::xq cs vs
 |[],_::vs=> .undef::xq [] vs
 |_,[]=>[]
def cv(P:Program)(t:TypeId):Value->V
 | .agg cs=> .agg (xq (BG P t) cs.toList)
 |v=>match BG P t with|c::_=>Qj c v|[]=> .undef
def BH(P:Program)(t:TypeId):Option (List V):=
 match P.info? t with
 |some i=>match i.zero with
  |some z=>some (xq (BG P t) z.cells.toList)
  |none=>none
 |none=>none
def V.cells:V->List V
 | .agg cs=>cs
 |v=>[v]
def Ac(P:Program)(t:TypeId)(cs:List V):Option V:=
 bif xZ P t then some (.agg cs) else match cs with|[v]=>some v|_=>none
def asInt(k:IntKind):D->Option Int
 | .int k' n=>bif decide (k'=k) then some n else none
 |_=>none
def asBool:D->Option Bool
 | .bool b=>some b
 |_=>none
def Xf:D->Option (List UInt8)
 | .str s=>some s
 |_=>none
def ae6(s:Nat):D->Option (List Row)
 | .sl _ s' rows=>bif Nat.beq s' s then some rows else none
 |_=>none
def aht(s:Nat):D->Option (List Row)
 | .sl own s' rows=>bif Nat.beq s' s then(match own with|false=>some rows|true=>match rows with|[]=>some []|_::_=>none) else none
 |_=>none
def ac2(s:Nat):D->Option (List Row)
 | .sl own s' rows=>match own with|true=>bif Nat.beq s' s then some rows else none|false=>none
 |_=>none
def nth(row:Row)(j:Nat):D:=match row[j]? with|some x=>x|none=> .GL
def gW(k:IntKind)(row:Row)(j:Nat):Option Int:=asInt k (nth row j)
def Xg(row:Row)(j:Nat):Option Bool:=asBool (nth row j)
def cStr(row:Row)(j:Nat):Option (List UInt8):=Xf (nth row j)
def SE(s:Nat)(row:Row)(j:Nat):Option (List Row):=ae6 s (nth row j)
def cRo(s:Nat)(row:Row)(j:Nat):Option (List Row):=aht s (nth row j)
def TU(s:Nat)(row:Row)(j:Nat):Option (List Row):=ac2 s (nth row j)
mutual
def D.fz:D->D
 | .int k n=> .int k n
 | .bool b=> .bool b
 | .str s=> .str s
 | .GL=> .GL
 | .sl _ s rows=> .sl false s (aF rows)
def aF:List Row->List Row
 |[]=>[]
 |r::rs=>sQ r::aF rs
def sQ:Row->Row
 |[]=>[]
 |x::r=>x.fz::sQ r
end
def roD:D->D
 | .sl _ s rows=> .sl false s rows
 |x=>x
def D.flat:D->Bool
 | .sl ..=>false
 |_=>true
def jO(rows:List Row):Bool:=rows.all λr=>r.all D.flat
def one:V->Bool
 | .d _=>true
 | .nil _=>true
 | .own _ _=>true
 | .ptr _ _=>true
 | .lI ..=>true
 | .lS _ _=>true
 | .sG _=>true
 | .clo ..=>true
 |_=>false
mutual
def D.pure:D->Bool
 | .sl own _ rows=>match own with|true=>zN rows|false=>rows.isEmpty
 |_=>true
def zN:List Row->Bool
 |[]=>true
 |r::rs=>bY r && zN rs
def bY:Row->Bool
 |[]=>true
 |x::r=>x.pure && bY r
end
def BI(strict:Bool):List CT->Row->Nat->(List V->Acc V)->Acc V
 |[],_,_,c=>c []
 | .int k::ts,row,j,c=> .opt (gW k row j) λn=>BI strict ts row (j+1) λvs=>c (.d (.int k n)::vs)
 | .bool::ts,row,j,c=> .opt (Xg row j) λn=>BI strict ts row (j+1) λvs=>c (.d (.bool n)::vs)
 | .str::ts,row,j,c=> .opt (cStr row j) λn=>BI strict ts row (j+1) λvs=>c (.d (.str n)::vs)
 | .sl s::ts,row,j,c=> .opt (bif strict then cRo s row j else SE s row j) λrs=>BI strict ts row (j+1) λvs=>c (.d (.sl false s rs)::vs)
 | .other::_,_,_,_=> .fail
structure ZU where
 keep:Nat->Nat->List Nat
 move:Nat->List Nat
 ref:Nat->List Nat
 OU:Nat->Nat->List Nat
 aoR:Nat->List Nat
 fuse:Nat->Nat->Nat
 trunc:Nat->Nat->Bool
 raw:Nat->List Nat
 look:Nat->List Nat
 jB:Nat->Nat->Bool
structure Ctx where
 P:Program
 Bf:ZU
 MN:Nat->Option (List V->List Cell->Option (List Row×List Cell))
 glob:Nat->Option Row
 atP:Nat->Bool
 alM:Nat->Bool:=λ_=>false
 alN:Nat->Bool:=λ_=>false
abbrev fM:=Nat->List V->List Cell->Option (List Row×List Cell)
def mem?(k:Nat):List Nat->Bool
 |[]=>false
 |j::l=>bif Nat.beq k j then true else mem? k l
def akR:List CT->Bool
 |[]=>false
 | .sl _::_=>true
 |_::l=>akR l
def lJ(P:Program)(e:TypeId):Bool:= !(akR (BG P e))
def vw(fl:Bool)(rows:List Row):List Row:=bif fl then rows else aF rows
instance:Monad Acc where
 pure:=.ret
 bind:=.bind
def rd(k:Nat):Acc (Option Cell):=.get k .ret
def wr(k:Nat)(x:Cell):Acc Unit:=.set k x (.ret ())
def ck(b:Bool):Acc Unit:=.guard b (.ret ())
def op'{β:Type}(o:Option β):Acc β:=.opt o .ret
def free(k:Nat):Acc Unit:=do
 match<-rd k with
 |none=>pure ()
 |some _=> .fail
def new(k:Nat)(c:Cell):Acc Unit:=do
 free k
 wr k c
def seen(v:V):Acc (Nat×List Row):=
 match v with
 | .d (.sl _ s rows)=>pure (s,rows)
 | .nil s=>pure (s,[])
 | .own r ver=>do
  match<-rd r with
  |some (.arr _ fl dP s rows)=>do ck (Nat.beq ver dP);pure (s,vw fl rows)
  |_=> .fail
 |_=> .fail
def Ky(fl:Bool)(rows:List Row):Bool:=bif fl then jO rows else true
def toD(v:V):Acc D:=
 match v with
 | .d x=>pure (roD x)
 | .nil s=>pure (.sl true s [])
 | .own r ver=>do
  match<-rd r with
  |some (.arr fz fl dP s rows)=>do
   ck (Nat.beq ver dP)
   match fz with
   |true=>pure (.sl false s (vw fl rows))
   |false=>do
    ck (Ky fl rows)
    wr r .dead
    pure (.sl true s rows)
  |_=> .fail
 |_=> .fail
def BJ:List V->Acc Row
 |[]=>pure []
 |v::vs=>do
  let x<-toD v
  let xs<-BJ vs
  pure (x::xs)
def splice{α:Type}(l:List α)(off:Nat)(xs:List α):List α:=l.take off++xs++l.drop (off+xs.length)
def part{α:Type}(l:List α)(off n:Nat):List α:=(l.drop off).take n
def idx{α:Type}(l:List α)(i:Int):Option α:=bif decide (0<=i) then l[i.toNat]? else none
def cut{α:Type}(l:List α)(a b:Int):Option (List α):=
 bif decide (0<=a) && decide (a<=b) && decide (b<=l.length) then some ((l.drop a.toNat).take (b.toNat - a.toNat)) else none
def byteRow(b:UInt8):Row:=[.int .u8 b.toNat]
def asByte:Row->Option UInt8
 |[.int .u8 n]=>some (UInt8.ofNat n.toNat)
 |_=>none
def bytesOf:List Row->Option (List UInt8)
 |[]=>some []
 |r::rs=>match asByte r,bytesOf rs with|some b,some bs=>some (b::bs)|_,_=>none
def ev(P:Program)(tm:iF)(t:TypeId):Operand->V
 | .tmp i=>IY i tm
 | .const v=>cv P t v
 | .func f=> .clo f [] []
 | .global _=> .undef
def evG(X:Ctx)(tm:iF)(t:TypeId)(x:Operand):V:=match x with
 | .global g=>match X.glob g with
  |some row=> .lS row 0
  |none=> .undef
 |x=>ev X.P tm t x
def nz(op:BinOp)(b:Int):Bool:=match op with
 | .quo=> !(decide (b=0))
 | .rem=> !(decide (b=0))
 |_=>true
def alO(op:BinOp)(k:IntKind)(a b:Int):Option V:=
 match op with
 | .add=>some (.d (.int k (k.wrap (a+b))))
 | .sub=>some (.d (.int k (k.wrap (a - b))))
 | .mul=>some (.d (.int k (k.wrap (a * b))))
 | .quo=>some (.d (.int k (k.wrap (a.tdiv b))))
 | .rem=>some (.d (.int k (a.tmod b)))
 | .eql=>some (.d (.bool (a==b)))
 | .neq=>some (.d (.bool (a !=b)))
 | .lss=>some (.d (.bool (decide (a<b))))
 | .leq=>some (.d (.bool (decide (a<=b))))
 | .gtr=>some (.d (.bool (decide (a>b))))
 | .geq=>some (.d (.bool (decide (a>=b))))
 | .and=>some (.d (.int k (k.wrap (BitVec.ofInt k.bits a &&& BitVec.ofInt k.bits b).toNat)))
 | .or=>some (.d (.int k (k.wrap (BitVec.ofInt k.bits a|||BitVec.ofInt k.bits b).toNat)))
 | .xor=>some (.d (.int k (k.wrap (BitVec.ofInt k.bits a ^^^ BitVec.ofInt k.bits b).toNat)))
 |_=>none
def OV(op:BinOp)(k:IntKind)(a b:Int):Option V:=
 bif decide (b<0) then none else
 match op with
 | .shl=>some (.d (.int k (k.wrap (a * 2 ^(min b.toNat k.bits)))))
 | .shr=>some (.d (.int k (a.fdiv (2 ^(min b.toNat k.bits)))))
 |_=>none
def abv:Nat:=9223372036854775807
def alP(op:BinOp)(a b:List UInt8):Acc V:=
 match op with
 | .add=> .guard (Nat.ble (a.length+b.length) abv) (.ret (.d (.str (a++b))))
 | .eql=> .ret (.d (.bool (a==b)))
 | .neq=> .ret (.d (.bool !(a==b)))
 | .lss=> .ret (.d (.bool (Op.bytesLess a b)))
 | .leq=> .ret (.d (.bool (Op.bytesLess a b||a==b)))
 | .gtr=> .ret (.d (.bool !(Op.bytesLess a b||a==b)))
 | .geq=> .ret (.d (.bool !(Op.bytesLess a b)))
 |_=> .fail
def aoS(op:BinOp)(a b:Bool):Option V:=
 match op with
 | .eql=>some (.d (.bool (a==b)))
 | .neq=>some (.d (.bool !(a==b)))
 |_=>none
def shiftOp:BinOp->Bool
 | .shl| .shr=>true
 |_=>false
def boolT(P:Program)(t:TypeId):Bool:=match P.underlying t with|some .bool=>true|_=>false
def bin(bt:Bool)(op:BinOp)(x y:V):Acc V:=
 match x,y with
 | .d (.int k a),.d (.int k' b)=>
  match shiftOp op with
  |true=> .opt (OV op k a b) .ret
  |false=>match decide (k=k') with
   |true=> .guard (nz op b) (.opt (alO op k a b) .ret)
   |false=> .fail
 | .d (.str a),.d (.str b)=>alP op a b
 | .d (.bool a),.d (.bool b)=>match bt with
  |true=> .opt (aoS op a b) .ret
  |false=> .fail
 |_,_=> .fail
def abw:V->V->Option Bool
 | .d (.int k a),.d (.int k' b)=>bif decide (k=k') then some (a==b) else none
 | .d (.str a),.d (.str b)=>some (a==b)
 | .d (.bool a),.d (.bool b)=>some (a==b)
 |_,_=>none
def Qk(P:Program)(t:TypeId)(v:V):Bool:=match P.underlying t,v with
 |some (.int _),.d (.int _ _)=>true
 |some .string,.d (.str _)=>true
 |some .bool,.d (.bool _)=>true
 |_,_=>false
def Ti(P:Program):List Field->List V->List V->Option Bool
 |[],_,_=>some true
 |f::fs,xs,ys=>match xs[f.offset]?,ys[f.offset]? with
  | some x, some y => bif Qk P f.type x && (f.name != "_") then
    (match abw x y,Ti P fs xs ys with
    |some a,some b=>some (bif a then b else false)
    |_,_=>none) else none
  |_,_=>none
def aoT(P:Program)(t:TypeId)(op:BinOp)(cs ds:List V):Acc V:=do
 ck (!(P.stoodInHeld t) && !(P.eqGuardType P.depth t))
 let fs<-op' (match P.underlying t with|some (.struct fs)=>some fs.toList|_=>none)
 let r<-op' (Ti P fs cs ds)
 match op with
 | .eql=>pure (.d (.bool r))
 | .neq=>pure (.d (.bool !r))
 |_=> .fail
def abx(x:V):Acc Bool:=
 match x with
 | .nil _=>pure true
 | .d (.sl _ _ rows)=>do ck (Nat.ble 1 rows.length);pure false
 | .own r ver=>do
  match<-rd r with
  |some (.arr _ _ dP _ rows)=>do ck (Nat.beq ver dP && Nat.ble 1 rows.length);pure false
  |_=> .fail
 |_=> .fail
def sliceT(P:Program)(t:TypeId):Bool:=match P.underlying t with|some (.slice _)=>true|_=>false
def aby(P:Program)(t:TypeId)(op:BinOp)(x:V):Acc V:=do
 ck (sliceT P t)
 let b<-abx x
 match op with
 | .eql=>pure (.d (.bool b))
 | .neq=>pure (.d (.bool !b))
 |_=> .fail
def alQ(P:Program)(t:TypeId)(op:BinOp)(x y:V):Acc V:=match x with
 | .agg cs=>(match y with| .agg ds=>aoT P t op cs ds|_=> .fail)
 |x=>(match y with| .nil _=>aby P t op x|y=>bin (boolT P t) op x y)
def un(op:UnOp)(x:V):Acc V:=
 match op,x with
 | .neg,.d (.int k n)=> .ret (.d (.int k (k.wrap (0 - n))))
 | .not,.d (.bool b)=> .ret (.d (.bool !b))
 |_,_=> .fail
def ae7(c x y:V):Acc V:=
 match c with
 | .d (.bool c)=>match x,y with
  | .d (.bool a),.d (.bool b)=> .ret (.d (.bool (bif c then a else b)))
  |x,y=>match c with
   |true=> .ret x
   |false=> .ret y
 |_=> .fail
def KF(P:Program)(t:TypeId):Bool:=match P.underlying t with|some _=>true|none=>false
def ae8(P:Program)(t:TypeId)(a:V):Acc V:=do
 ck (KF P t && Nat.beq (BG P t).length (iM P t))
 match a with
 | .ptr r off=>do
  match<-rd r with
  |some (.box _ cs)=>do
   ck (Nat.ble (off+iM P t) cs.length)
   op' (Ac P t (part cs off (iM P t)))
  |some (.jM _ v)=>do
   ck (Nat.beq off 0 &&(Nat.beq (iM P t) 1 && !(xZ P t)))
   pure v
  |_=> .fail
 | .sG v=>do
  ck (Nat.beq (iM P t) 1 && !(xZ P t))
  pure v
 | .lS row off=>BI false (BG P t) row off λvs=>op' (Ac P t vs)
 | .lI r ver i off=>do
  match<-rd r with
  |some (.arr _ _ dP _ rows)=>do
   ck (Nat.beq ver dP)
   let row<-op' rows[i]?
   BI true (BG P t) row off λvs=>op' (Ac P t vs)
  |some (.xk dP _ rows)=>do
   ck (Nat.beq ver dP)
   let row<-op' rows[i]?
   BI true (BG P t) row off λvs=>op' (Ac P t vs)
  |_=> .fail
 |_=> .fail
def BK:Nat:=1000000000000000000000000
def xu(r:Nat):Nat:=BK+r
def ae9(k:Nat):Bool:=Nat.ble BK k
def afa(P:Program)(t:TypeId)(a:V):Acc V:=do
 ck (KF P t &&(Nat.beq (iM P t) 1 && !(xZ P t)))
 let e<-op' (elT P t)
 match a with
 | .lI r ver i off=>do
  match<-rd r with
  |some (.arr false false dP s rows)=>do
   ck (Nat.beq ver dP && Nat.ble (off+1) s)
   let row<-op' rows[i]?
   let rs<-op' (TU (iM P e) row off)
   ck (jO rs)
   new (xu r) (.arr false true 0 (iM P e) rs)
   wr r (.jB ver s rows i off)
   pure (.own (xu r) 0)
  |_=> .fail
 |_=> .fail
def YD(k:Nat):Acc Unit:=match ae9 k with
 |false=>pure ()
 |true=>do
  match<-rd (k - BK) with
  |some (.jB ver s rows i off)=>do
   match<-rd k with
   |some (.arr false true 0 e rs)=>do
    ck (jO rs)
    let row<-op' rows[i]?
    wr k .dead
    wr (k - BK) (.arr false false ver s (rows.set i (splice row off [.sl true e rs])))
   |_=>pure ()
  |_=>pure ()
def Tj(a:V):Acc Unit:=match a with
 | .own k _=>YD k
 | .lI k _ _ _=>YD k
 |_=>pure ()
def kept(off:Nat)(cs:List V)(x:V):Bool:=match off,cs,x with
 |0,[.undef],.ptr _ _=>true
 |_,_,_=>false
def abz(P:Program)(t:TypeId)(a x:V):Acc Unit:=do
 ck (KF P t)
 ck (Nat.beq x.cells.length (iM P t))
 ck (x.cells.all one)
 match a with
 | .ptr r off=>do
  match<-rd r with
  |some (.box T cs)=>do
   ck (Nat.ble (off+iM P t) cs.length)
   match kept off cs x with
   |true=>wr r (.jM T x)
   |false=>wr r (.box T (splice cs off x.cells))
  |_=> .fail
 | .lI r ver i off=>do
  let xs<-BJ x.cells
  match<-rd r with
  |some (.arr false fl dP s rows)=>do
   ck (Nat.beq ver dP)
   ck (Nat.ble (off+iM P t) s)
   let row<-op' rows[i]?
   wr r (.arr false fl ver s (rows.set i (splice row off xs)))
  |some (.jB dP s rows i' off')=>do
   ck (Nat.beq ver dP &&(Nat.beq i i' &&(Nat.beq off off' && Nat.beq xs.length 1)))
   let row<-op' rows[i']?
   wr r (.arr false false ver s (rows.set i' (splice row off' xs)))
  |_=> .fail
 |_=> .fail
def JA(P:Program)(T:TypeId)(f:Nat):Option (Nat×Nat×TypeId):=
 match P.underlying T with
 |some (.struct fs)=>match fs[f]? with
  |some fd=>some (fd.offset,iM P fd.type,fd.type)
  |none=>none
 |_=>none
def NK(P:Program)(T:TypeId)(a:V)(f:Nat):Acc V:=do
 let(o,n,_)<-op' (JA P T f)
 ck (Nat.ble 1 n)
 match a with
 | .ptr r off=>pure (.ptr r (off+o))
 | .lS row off=>pure (.lS row (off+o))
 | .lI r ver i off=>pure (.lI r ver i (off+o))
 |_=> .fail
def abA(P:Program)(T:TypeId)(x:V)(f:Nat):Acc V:=do
 let(o,n,t)<-op' (JA P T f)
 match x with
 | .agg cs=>do
  ck (Nat.ble (o+n) cs.length)
  ck (KF P t)
  op' (Ac P t (part cs o n))
 |_=> .fail
def NM(P:Program)(t:TypeId)(x i:V):Acc V:=do
 let e<-op' (elT P t)
 match i with
 | .d (.int _ i)=>
  match x with
  | .d (.sl _ s rows)=>do
   ck (Nat.beq s (iM P e))
   ck (KF P e)
   let row<-op' (idx rows i)
   pure (.lS row 0)
  | .own r ver=>do
   match<-rd r with
   |some (.arr fz fl dP s rows)=>do
    ck (Nat.beq ver dP)
    ck (Nat.beq s (iM P e))
    ck (KF P e)
    match fz with
    |true=>do
     let row<-op' (idx (vw fl rows) i)
     pure (.lS row 0)
    |false=>do
     let _<-op' (idx rows i)
     pure (.lI r ver i.toNat 0)
   |some (.xk dP s rows)=>do
    ck (Nat.beq ver dP)
    ck (Nat.beq s (iM P e))
    ck (KF P e)
    let _<-op' (idx rows i)
    pure (.lI r ver i.toNat 0)
   |some (.jB dP s rows _ _)=>do
    ck (Nat.beq ver dP)
    ck (Nat.beq s (iM P e))
    ck (KF P e)
    let _<-op' (idx rows i)
    pure (.lI r ver i.toNat 0)
   |_=> .fail
  |_=> .fail
 |_=> .fail
def arT(P:Program)(t:TypeId):Option (Nat×TypeId):=match P.underlying t with|some (.array n e)=>some (n,e)|_=>none
def ZV(P:Program)(n:Nat)(e:TypeId)(x i:V):Acc V:=
 match i with
 | .d (.int _ i)=>do
  ck (KF P e)
  ck (decide (0<=i) && decide (i<(n:Int)))
  match x with
  | .lS row off=>pure (.lS row (off+i.toNat * iM P e))
  | .ptr r off=>pure (.ptr r (off+i.toNat * iM P e))
  |_=> .fail
 |_=> .fail
def NP(P:Program)(t:TypeId)(x i:V):Acc V:=match arT P t with
 |some (n,e)=>ZV P n e x i
 |none=>NM P t x i
def Xh:List V->Option Row
 |[]=>some []
 | .d x::vs=>match Xh vs with|some r=>some (x::r)|none=>none
 |_::_=>none
def TV(c:CT)(row:Row)(i:Nat):Acc V:=match c with
 | .int k=> .opt (gW k row i) λn=> .ret (.d (.int k n))
 | .bool=> .opt (Xg row i) λb=> .ret (.d (.bool b))
 | .str=> .opt (cStr row i) λs=> .ret (.d (.str s))
 |_=> .fail
def abB(P:Program)(t:TypeId)(x i:V):Acc V:=
 match P.underlying t,x,i with
 |some .string,.d (.str s),.d (.int _ i)=> .opt (idx s i) λb=> .ret (.d (.int .u8 b.toNat))
 |some (.array n e),.agg cs,.d (.int _ i)=>do
  ck (Nat.beq (iM P e) 1 &&(Nat.beq cs.length n &&(KF P e && !(xZ P e))))
  ck (decide (0<=i) && decide (i<(n:Int)))
  let row<-op' (Xh cs)
  TV (match BG P e with|[c]=>c|_=> .other) row i.toNat
 |_,_,_=> .fail
def lenV(x:V):Acc V:=
 match x with
 | .d (.str s)=> .ret (.d (.int .i64 s.length))
 | .own r ver=>do
  match<-rd r with
  |some (.arr _ _ dP _ rows)=>do ck (Nat.beq ver dP);pure (.d (.int .i64 rows.length))
  |some (.xk dP _ rows)=>do ck (Nat.beq ver dP);pure (.d (.int .i64 rows.length))
  |_=> .fail
 | .d (.sl _ _ rows)=> .ret (.d (.int .i64 rows.length))
 | .nil _=> .ret (.d (.int .i64 0))
 |_=> .fail
def IZ:Nat:=140737488355328
def GN(P:Program)(e:TypeId):Nat:=match P.info? e with|some i=>i.bytes|none=>IZ
def tail(P:Program)(e:TypeId)(y:V):Acc (List Row):=
 match y with
 | .d (.str s)=>do
  ck (Nat.beq (iM P e) 1)
  pure (s.map byteRow)
 | .d (.sl _ s rows)=>do
  ck (Nat.beq s (iM P e))
  pure (vw (lJ P e) rows)
 | .nil _=>pure []
 | .own r ver=>do
  match<-rd r with
  |some (.arr fz fl dP s rows)=>do
   ck (Nat.beq ver dP)
   ck (Nat.beq s (iM P e))
   match lJ P e with
   |true=>do
    ck (fl||fz)
    pure rows
   |false=>do
    ck (!fl)
    match fz with
    |true=>pure (aF rows)
    |false=>do
     wr r .dead
     pure rows
  |_=> .fail
 |_=> .fail
def YE(P:Program)(dst:Nat)(t ty:TypeId)(x y:V):Acc V:=do
 let e<-op' (elT P t)
 ck (Nat.ble 1 (iM P e))
 ck (match P.underlying ty with|some (.slice _)=>true|some .string=>true|_=>false)
 let z<-op' (BH P e)
 ck (Nat.beq z.length (iM P e))
 let ys<-tail P e y
 match x with
 | .nil _=>do
  ck (Nat.ble (ys.length * GN P e) IZ)
  ck (Nat.ble ys.length IZ)
  new dst (.arr false (lJ P e) 0 (iM P e) ys)
  pure (.own dst 0)
 | .own r ver=>do
  match<-rd r with
  |some (.arr false fl dP s rows)=>do
   ck (Nat.beq ver dP)
   ck (Nat.beq s (iM P e))
   ck (match fl,lJ P e with|true,true=>true|false,false=>true|_,_=>false)
   ck (Nat.ble ((rows.length+ys.length) * GN P e) IZ)
   ck (Nat.ble (rows.length+ys.length) IZ)
   wr r (.arr false fl (ver+1) s (rows++ys))
   pure (.own r (ver+1))
  |some (.xk dP s rows)=>do
   ck (Nat.beq ver dP)
   ck (Nat.beq s (iM P e))
   ck (lJ P e)
   ck (Nat.ble ((rows.length+ys.length) * GN P e) IZ)
   ck (Nat.ble (rows.length+ys.length) IZ)
   wr r (.xk (ver+1) s (rows++ys))
   pure (.own r (ver+1))
  |_=> .fail
 |_=> .fail
def Tq:V->V->Bool
 | .own r v,.own r' v'=>Nat.beq r r' && Nat.beq v v'
 |_,_=>false
def abC(P:Program)(dst:Nat)(t ty:TypeId)(x:V):Acc V:=do
 let e<-op' (elT P t)
 ck (Nat.ble 1 (iM P e))
 ck (sliceT P ty)
 let z<-op' (BH P e)
 ck (Nat.beq z.length (iM P e))
 match x with
 | .own r ver=>do
  match<-rd r with
  |some (.arr false false dP s rows)=>do
   ck (Nat.beq ver dP && Nat.beq s (iM P e))
   ck (Nat.ble ((rows.length+rows.length) * GN P e) IZ && Nat.ble (rows.length+rows.length) IZ)
   free dst
   wr r .dead
   wr dst .dead
   pure (.d (.sl false s (aF rows++aF rows)))
  |_=> .fail
 |_=> .fail
def ZW(P:Program)(e:TypeId):Acc Row:=do
 let z<-op' (BH P e)
 BJ z
def NQ(P:Program)(dst:Nat)(t:TypeId)(l c:V):Acc V:=do
 let e<-op' (elT P t)
 ck (Nat.ble 1 (iM P e))
 let z<-ZW P e
 ck (Nat.beq z.length (iM P e))
 match l,c with
 | .d (.int _ l),.d (.int _ c)=>do
  ck (decide (0<=l) && decide (l<=c) && decide (c * GN P e<=IZ) && decide (c<=IZ))
  new dst (.arr false (lJ P e) 0 (iM P e) (List.replicate l.toNat z))
  pure (.own dst 0)
 |_,_=> .fail
def bound(o:Option V)(d:Int):Acc Int:=match o with
 |none=> .ret d
 |some (.d (.int _ n))=> .ret n
 |some _=> .fail
def abD(P:Program)(t:TypeId)(x:V)(lo hi:Option V):Acc V:=
 match x with
 | .d (.str s)=>do
  ck (match P.underlying t with|some .string=>true|_=>false)
  let l<-bound lo 0
  let h<-bound hi s.length
  let s'<-op' (cut s l h)
  pure (.d (.str s'))
 |_=>do
  let e<-op' (elT P t)
  ck (KF P e)
  let(s,rows)<-seen x
  ck (Nat.beq s (iM P e))
  let l<-bound lo 0
  let h<-bound hi rows.length
  let rows'<-op' (cut rows l h)
  match x with
  | .own r ver=>do
   match<-rd r with
   |some (.arr _ fl dP s rows)=>do
    ck (Nat.beq ver dP)
    wr r (.arr true fl ver s rows)
    pure (.d (.sl false s rows'))
   |_=> .fail
  |_=>pure (.d (.sl false s rows'))
def YF(P:Program)(t:TypeId)(x:V)(lo hi:Option V):Acc V:=
 match x with
 | .lS row off=>do
  let(n,e)<-op' (arT P t)
  ck (KF P e)
  ck (Nat.beq (iM P e) 1 &&(Nat.beq off 0 && Nat.beq row.length n))
  match lo,hi with
  |none,none=>pure (.d (.sl false 1 (row.map λx=>[x])))
  |_,_=> .fail
 |x=>abD P t x lo hi
def abE(P:Program)(t:TypeId)(x:V)(hi:Option V):Acc V:=do
 let e<-op' (elT P t)
 ck (KF P e)
 match x with
 | .own r ver=>do
  match<-rd r with
  |some (.arr false fl dP s rows)=>do
   ck (Nat.beq ver dP)
   ck (Nat.beq s (iM P e))
   let h<-bound hi rows.length
   ck (decide (0<=h) && decide (h<=(rows.length:Int)))
   wr r (.arr false fl (ver+1) s (rows.take h.toNat))
   pure (.own r (ver+1))
  |_=> .fail
 |_=> .fail
def afb(P:Program)(t:TypeId)(x lo:V):Acc V:=do
 let e<-op' (elT P t)
 ck (KF P e)
 let l<-bound (some lo) 0
 match x with
 | .own r ver=>do
  match<-rd r with
  |some (.arr false true dP s rows)=>do
   ck (Nat.beq ver dP)
   ck (Nat.beq s (iM P e))
   ck (decide (0<=l) && decide (l<=(rows.length:Int)))
   wr r (.xk (ver+1) s (rows.drop l.toNat))
   pure (.own r (ver+1))
  |some (.xk dP s rows)=>do
   ck (Nat.beq ver dP)
   ck (Nat.beq s (iM P e))
   ck (decide (0<=l) && decide (l<=(rows.length:Int)))
   wr r (.xk (ver+1) s (rows.drop l.toNat))
   pure (.own r (ver+1))
  |_=> .fail
 |_=> .fail
def nP(P:Program)(T:TypeId)(tm:iF):List (Nat×Operand)->List V->Acc (List V)
 |[],cs=>pure cs
 |(f,x)::ps,cs=>do
  let(o,n,t)<-op' (JA P T f)
  let v:=ev P tm t x
  ck (Nat.beq v.cells.length n)
  ck (v.cells.all one)
  ck (Nat.ble (o+n) cs.length)
  nP P T tm ps (splice cs o v.cells)
def ZX(P:Program)(T:TypeId):Bool:=match P.underlying T with
 |some (.struct fs)=>fs.toList.all λf=>match P.info? f.type with|some _=>true|none=>false
 |_=>false
def lu(P:Program)(e:TypeId)(tm:iF):List (Nat×Operand)->List V->Acc (List V)
 |[],cs=>pure cs
 |(i,x)::ps,cs=>do
  let v:=ev P tm e x
  ck (Nat.beq v.cells.length (iM P e))
  ck (v.cells.all one)
  ck (Nat.ble (i * iM P e+iM P e) cs.length)
  lu P e tm ps (splice cs (i * iM P e) v.cells)
def YG(P:Program)(T:TypeId)(tm:iF)(ps:List (Nat×Operand)):Acc V:=do
 ck (ZX P T)
 let z<-op' (BH P T)
 let cs<-nP P T tm ps z
 pure (.agg cs)
def abG(P:Program)(T e:TypeId)(tm:iF)(ps:List (Nat×Operand)):Acc V:=do
 ck (KF P e)
 let z<-op' (BH P T)
 let cs<-lu P e tm ps z
 pure (.agg cs)
def YH(P:Program)(T:TypeId)(tm:iF)(ps:List (Nat×Operand)):Acc V:=match arT P T with
 |some (_,e)=>abG P T e tm ps
 |none=>YG P T tm ps
def nR(P:Program)(e:TypeId)(tm:iF):Nat->List (Nat×Operand)->Acc (List Row)
 |_,[]=>pure []
 |k,(i,x)::ps=>do
  ck (Nat.beq i k)
  let v:=ev P tm e x
  ck (Nat.beq v.cells.length (iM P e))
  let row<-BJ v.cells
  let rows<-nR P e tm (k+1) ps
  pure (row::rows)
def Ie(P:Program)(dst:Nat)(t:TypeId)(n:Nat)(tm:iF)(ps:List (Nat×Operand)):Acc V:=do
 let e<-op' (elT P t)
 ck (Nat.ble 1 (iM P e))
 ck (Nat.beq ps.length n)
 ck (Nat.ble (n * iM P e) 16777216)
 let _<-op' (BH P e)
 let rows<-nR P e tm 0 ps
 new dst (.arr false (lJ P e) 0 (iM P e) rows)
 pure (.own dst 0)
def TW(P:Program)(src dst:TypeId)(x:V):Acc V:=
 match P.underlying src,P.underlying dst with
 |some (.int _),some (.int k)=>match x with
  | .d (.int _ n)=> .ret (.d (.int k (k.wrap n)))
  |_=> .fail
 |some .string,some .string=>match x with
  | .d (.str s)=> .ret (.d (.str s))
  |_=> .fail
 |some (.slice e),some .string=>do
  ck (match P.underlying e with|some (.int .u8)=>true|_=>false)
  let(s,rows)<-seen x
  ck (Nat.beq s 1)
  let b<-op' (bytesOf rows)
  pure (.d (.str b))
 |_,_=> .fail
def jf:Nat:=100000
def YI(r:Nat)(l:List Nat):List Nat:=bif mem? r l then l else l++[r]
mutual
def ZY(I:List Nat):V->List Nat
 | .ptr r _=>YI r I
 | .clo _ a b=>Xi (Xi I a) b
 | .agg cs=>Xi I cs
 | .sG v=>ZY I v
 |_=>I
def Xi(I:List Nat):List V->List Nat
 |[]=>I
 |v::vs=>Xi (ZY I v) vs
end
def vI(A:ZU)(f i:Nat):Nat:=bif mem? i (A.move f) then 1 else bif mem? i (A.ref f) then 2 else bif mem? i (A.raw f) then 3 else bif mem? i (A.look f) then 4 else 0
def F7(A:ZU)(f:Nat):Nat->List Nat->List V->List Nat
 |_,I,[]=>I
 |i,I,v::vs=>F7 A f (i+1) (match vI A f i,v with
  |2,.own r _=>YI r I
  |4,_=>I
  |_,v=>ZY I v) vs
def idxOf(r:Nat):Nat->List Nat->Option Nat
 |_,[]=>none
 |i,j::l=>bif Nat.beq r j then some i else idxOf r (i+1) l
def I4(A:ZU)(f:Nat):Nat->List V->Acc (List V)
 |_,[]=>pure []
 |i,v::vs=>do
  let v<-(match vI A f i with
   |1=>do
    let x<-toD v
    pure (.d x)
   |_=>pure v:Acc V)
  let vs<-I4 A f (i+1) vs
  pure (v::vs)
mutual
def lend(imp:List Nat):V->Acc (V×List Nat)
 | .d x=>pure (.d (roD x),[])
 | .nil s=>pure (.d (.sl false s []),[])
 | .own r ver=>do
  match<-rd r with
  |some (.arr fz fl dP s rows)=>do
   ck (Nat.beq ver dP)
   ck (!(mem? r imp))
   pure (.d (.sl false s (vw fl rows)),bif fz then[] else[r])
  |_=> .fail
 | .ptr r off=>do
  let i<-op' (idxOf r 0 imp)
  pure (.ptr (jf+i) off,[])
 | .lS row off=>pure (.lS row off,[])
 | .sG v=>do
  let(v,l)<-lend imp v
  pure (.sG v,l)
 | .clo f a b=>do
  let(a,l)<-TY imp a
  let(b,l')<-TY imp b
  pure (.clo f a b,l++l')
 | .agg cs=>do
  let(a,l)<-TY imp cs
  pure (.agg a,l)
 | .lI ..=> .fail
 | .Gz _=> .fail
 | .undef=> .fail
def TY(imp:List Nat):List V->Acc (List V×List Nat)
 |[]=>pure ([],[])
 |v::vs=>do
  let(v,l)<-lend imp v
  let(vs,l')<-TY imp vs
  pure (v::vs,l++l')
end
def I5(imp:List Nat):List V->Acc (Row×List Nat)
 |[]=>pure ([],[])
 |v::vs=>do
  let(v,l)<-lend imp v
  match v with
  | .d x=>do
   let(r,l')<-I5 imp vs
   pure (x::r,l++l')
  |_=> .fail
def Tt(imp:List Nat)(v:V):Acc (V×List Nat):=
 match v with
 | .ptr r off=>do
  match<-rd r with
  |some (.box _ cs)=>do
   ck (!(mem? r imp))
   let(row,l)<-I5 imp cs
   pure (.lS row off,r::l)
  |_=> .fail
 | .lS row off=>pure (.lS row off,[])
 |_=> .fail
def I7(A:ZU)(imp:List Nat)(f:Nat):Nat->List V->Acc (List V×List Nat)
 |_,[]=>pure ([],[])
 |i,v::vs=>do
  let(v,l)<-(match vI A f i with
   |1=>pure (v,[])
   |2=>match v with
    | .own r ver=>do
     ck (Nat.beq ver 0)
     let i<-op' (idxOf r 0 imp)
     pure (.own (jf+i) 0,[])
    |_=> .fail
   |3=>match v with
    | .nil s=>pure (.nil s,[])
    |_=> .fail
   |4=>Tt imp v
   |_=>lend imp v:Acc (V×List Nat))
  let(vs,l')<-I7 A imp f (i+1) vs
  pure (v::vs,l++l')
def afc(imp:List Nat)(own:Bool)(v:V):Acc V:=
 match v with
 | .d x=>pure (.d (roD x))
 | .nil s=>pure (.d (.sl own s []))
 | .own r ver=>do
  match<-rd r with
  |some (.arr fz fl dP s rows)=>do
   ck (Nat.beq ver dP)
   ck (!(mem? r imp))
   match own with
   |true=>do
    ck (!fz)
    ck (Ky fl rows)
    wr r .dead
    pure (.d (.sl true s rows))
   |false=>do
    wr r (.arr true fl ver s rows)
    pure (.d (.sl false s (vw fl rows)))
  |_=> .fail
 |_=> .fail
def KH(imp own:List Nat):Nat->List V->Acc (List V)
 |_,[]=>pure []
 |j,v::vs=>do
  let v<-afc imp (mem? j own) v
  let vs<-KH imp own (j+1) vs
  pure (v::vs)
def YJ(A:ZU)(imp:List Nat)(c:Option Cell):Acc Cell:=
 match c with
 |some (.box t cs)=>do
  let cs<-KH imp (A.aoR t) 0 cs
  pure (.box t cs)
 |some (.arr fz fl ver s rows)=>do
  ck (!fz)
  ck (Nat.beq ver 0)
  pure (.arr fz fl 0 s rows)
 |_=> .fail
def KI(A:ZU)(imp:List Nat):List Nat->Acc (List Cell)
 |[]=>pure []
 |r::rs=>do
  let c<-rd r
  let c<-YJ A imp c
  let cs<-KI A imp rs
  pure (c::cs)
def keyOf(r j dst:Nat):Nat:=1000000+(r * 100+j) * 10000+dst
def vD:V->D
 | .d x=>x
 |_=> .GL
def afd(cs:List Cell)(i:Nat):Row:=match cs[i]? with|some (.box _ vs)=>vs.map vD|_=>[]
def afe(s:Nat)(cs:List Cell)(i:Nat):Option (List Row):=match cs[i]? with|some (.arr false _ 0 s' rows)=>bif Nat.beq s s' then some rows else none|_=>none
def afg(cs:List Cell)(i n:Nat):Bool:=match cs[i]? with|some (.box _ vs)=>Nat.beq vs.length n|_=>false
def afh(f:TypeId->List Bool):List TypeId->List Bool
 |[]=>[]
 |t::ts=>f t++afh f ts
def fls(P:Program):Nat->TypeId->List Bool
 |0,_=>[]
 |n+1,t=>match P.underlying t with
  |some (.slice e)=>[lJ P e]
  |some (.struct fs)=>afh (fls P n) (fs.toList.map (·.type))
  |_=>[false]
def Fe(own fl:Bool)(key:Nat)(row:Row)(j:Nat):CT->Acc V
 | .int k=> .opt (gW k row j) λn=> .ret (.d (.int k n))
 | .bool=> .opt (Xg row j) λn=> .ret (.d (.bool n))
 | .str=> .opt (cStr row j) λn=> .ret (.d (.str n))
 | .sl s=>match own with
  |true=> .opt (TU s row j) λrows=>do
   new key (.arr false fl 0 s rows)
   pure (.own key 0)
  |false=> .opt (SE s row j) λrows=> .ret (.d (.sl false s (vw fl rows)))
 | .other=> .fail
def OW(own:List Nat)(r dst:Nat)(row:Row):Nat->List CT->List Bool->Acc (List V)
 |_,[],_=>pure []
 |j,ct::l,fs=>do
  let v<-Fe (mem? j own) (fs.headD false) (keyOf r j dst) row j ct
  let vs<-OW own r dst row (j+1) l fs.tail
  pure (v::vs)
def QZ(X:Ctx)(dst:Nat)(out:List Cell):Nat->List Nat->Acc Unit
 |_,[]=>pure ()
 |i,r::rs=>do
  match<-rd r with
  |some (.box t _)=>do
   ck (afg out i (BG X.P t).length)
   let vs<-OW (X.Bf.aoR t) r dst (afd out i) 0 (BG X.P t) (fls X.P 8 t)
   wr r (.box t vs)
  |some (.arr _ fl ver s _)=>do
   let rows<-op' (afe s out i)
   wr r (.arr false fl ver s rows)
  |_=> .fail
  QZ X dst out (i+1) rs
def abH(dst c:Nat):Nat:=1000000000000000+dst * 1000+c
def I8(OU:List Nat)(dst ri:Nat)(row:Row):Nat->List CT->List Bool->Acc (List V)
 |_,[],_=>pure []
 |j,ct::l,fs=>do
  let v<-Fe (mem? (ri * 20+j) OU) (fs.headD false) (abH dst (ri * 20+j)) row j ct
  let vs<-I8 OU dst ri row (j+1) l fs.tail
  pure (v::vs)
def abI(X:Ctx)(OU:List Nat)(dst ri:Nat)(row:Row)(t:TypeId):Acc V:=match OT X.P t with
 |some T=>do
  ck (Nat.beq row.length (BG X.P T).length)
  let cs<-I8 [] dst ri row 0 (BG X.P T) (fls X.P 8 T)
  new (abH dst (ri * 20+19)) (.box T cs)
  pure (.ptr (abH dst (ri * 20+19)) 0)
 |none=>do
  ck (Nat.beq row.length (BG X.P t).length)
  let cs<-I8 OU dst ri row 0 (BG X.P t) (fls X.P 8 t)
  op' (Ac X.P t cs)
def Ua(res:List Row)(ri:Nat):Row:=match res[ri]? with|some r=>r|none=>[]
def NR(X:Ctx)(OU:List Nat)(dst:Nat)(res:List Row):Nat->List TypeId->Acc (List V)
 |_,[]=>pure []
 |ri,t::ts=>do
  let v<-abI X OU dst ri (Ua res ri) t
  let vs<-NR X OU dst res (ri+1) ts
  pure (v::vs)
def abJ(OU:List Nat)(ri:Nat):Nat->List CT->Bool
 |_,[]=>true
 |j,.sl _::l=>mem? (ri * 20+j) OU && abJ OU ri (j+1) l
 |j,_::l=>abJ OU ri (j+1) l
def LX(P:Program)(OU:List Nat):Nat->List TypeId->Bool
 |_,[]=>true
 |ri,t::ts=>abJ OU ri 0 (BG P t) && LX P OU (ri+1) ts
def freeze:List Nat->Acc Unit
 |[]=>pure ()
 |r::rs=>do
  match<-rd r with
  |some (.arr _ fl ver s rows)=>wr r (.arr true fl ver s rows)
  |_=> .fail
  freeze rs
def OX(X:Ctx)(K:fM)(fn dst f:Nat)(args:List V):Acc V:=do
 let g<-op' X.P.funcs[f]?
 ck (g.body.isSome && !(g.name == "runtime.NumGoroutine"))
 let imp:=F7 X.Bf f 0 [] args
 let args<-I4 X.Bf f 0 args
 let cells<-KI X.Bf imp imp
 let(args,Fg)<-I7 X.Bf imp f 0 args
 ck (Fg.all λr=> !(mem? r imp))
 let out<-op' (K f args cells)
 ck (Nat.beq out.1.length g.resultTypes.size)
 let need:= !(Fg.isEmpty) &&(LX X.P (X.Bf.OU fn dst) 0 g.resultTypes.toList && imp.isEmpty)
 ck (bif need then out.1.all bY else true)
 freeze (bif need then[] else Fg)
 QZ X dst out.2 0 imp
 let vs<-NR X (X.Bf.OU fn dst) dst out.1 0 g.resultTypes.toList
 match vs with
 |[v]=>pure v
 |vs=>pure (.Gz vs)
def aoU(P:Program)(ts:List TypeId)(x:V):Bool:=match ts with
 |[t]=>(match x with
  | .d (.str _)=>(match P.underlying t with|some .string=>true|_=>false)
  |_=>(match P.underlying t with|some (.slice _)=>true|_=>false))
 |_=>false
def mX(P:Program)(tm:iF):List Operand->List TypeId->List V
 |[],_=>[]
 |x::xs,ts=>ev P tm (ts.headD 0) x::mX P tm xs ts.tail
def Z4:List V->Acc (List V)
 |[]=>pure []
 |v::vs=>do
  let v<-(match v with
   | .ptr r off=>do
    match<-rd r with
    |some (.jM _ x)=>do
     ck (Nat.beq off 0)
     pure (.sG x)
    |_=>pure (.ptr r off)
   |v=>pure v:Acc V)
  let vs<-Z4 vs
  pure (v::vs)
def Xj(X:Ctx)(K:fM)(fn:Nat)(tm:iF)(o:Oper):Acc V:=
 let P:=X.P
 let dst:=o.dst.getD 0
 match o.op with
 | .move x=>pure (ev P tm o.type x)
 | .assign x=>pure (ev P tm o.type x)
 | .pick c x y=>ae7 (ev P tm o.type c) (ev P tm o.type x) (ev P tm o.type y)
 | .alloc T=>do
  let z<-op' (BH P T)
  new dst (.box T z)
  pure (.ptr dst 0)
 | .box T x=>do
  let v:=ev P tm T x
  ck (Nat.beq v.cells.length (iM P T))
  ck (v.cells.all one)
  new dst (.box T v.cells)
  pure (.ptr dst 0)
 | .build T ps=>YH P T tm ps.toList
 | .buildSlice t n ps=>Ie P dst t n tm ps.toList
 | .load t a=>match X.Bf.jB fn dst with
  |true=>afa P t (evG X tm 0 a)
  |false=>ae8 P t (evG X tm 0 a)
 | .store t a x=>do abz P t (ev P tm 0 a) (ev P tm t x);Tj (ev P tm 0 a);pure .undef
 | .nilCheck x=>match evG X tm o.type x with
  | .ptr r off=>pure (.ptr r off)
  | .lS row off=>pure (.lS row off)
  | .lI r ver i off=>pure (.lI r ver i off)
  |_=> .fail
 | .binOp op t x y t'=>alQ P t op (ev P tm t x) (ev P tm t' y)
 | .unOp op t x=>un op (ev P tm t x)
 | .convert s d x=>TW P s d (ev P tm s x)
 | .makeFunc (.func f) first caps=>do
  let cs<-Z4 (mX P tm caps.toList [])
  pure (.clo f (mX P tm first.toList []) cs)
 | .makeSlice t l c=>NQ P dst t (ev P tm o.type l) (ev P tm o.type c)
 | .slice t x lo hi none=>match X.Bf.trunc fn dst,lo,hi with
  |true,none,hi=>abE P t (ev P tm t x) (hi.map (ev P tm 3))
  |true,some lo,none=>afb P t (ev P tm t x) (ev P tm 3 lo)
  |_,lo,hi=>YF P t (evG X tm t x) (lo.map (ev P tm 3)) (hi.map (ev P tm 3))
 | .fieldAddr T x f=>NK P T (ev P tm 0 x) f
 | .field T x f=>abA P T (ev P tm T x) f
 | .indexAddr t x i=>NP P t (evG X tm t x) (ev P tm 3 i)
 | .index t x i=>abB P t (ev P tm t x) (ev P tm 3 i)
 | .extract x i=>match ev P tm 0 x with
  | .Gz vs=>op' vs[i]?
  |_=> .fail
 | .call {callee:=.value f,args,argTypes}=>match ev P tm 0 f with
  | .clo g first caps=>OX X K fn dst g (first++mX P tm args.toList argTypes.toList++caps)
  |_=> .fail
 | .call {callee:=.builtin .len,args,argTypes}=>match mX P tm args.toList argTypes.toList with
  |[x]=>do
   ck (aoU P argTypes.toList x)
   let v<-lenV x
   Tj x
   pure v
  |_=> .fail
 | .call {callee:=.builtin .append,args,argTypes}=>match mX P tm args.toList argTypes.toList,argTypes.toList with
  |[x,y],[t,t']=>match Tq x y with
   |true=>abC P dst t t' x
   |false=>YE P dst t t' x y
  |_,_=> .fail
 | .call {callee:=.builtin .max,args,argTypes}=>match mX P tm args.toList argTypes.toList with
  |[.d (.int k x),.d (.int _ y)]=>pure (.d (.int k (bif decide (x<y) then y else x)))
  |_=> .fail
 | .call {callee:=.builtin .min,args,argTypes}=>match mX P tm args.toList argTypes.toList with
  |[.d (.int k x),.d (.int _ y)]=>pure (.d (.int k (bif decide (y<x) then y else x)))
  |_=> .fail
 |_=> .fail
end Go.Vm
namespace Go.Vm
open Go
mutual
def refs:V->List Nat
 | .own r _=>[r]
 | .ptr r _=>[r]
 | .lI r _ _ _=>[r]
 | .clo _ a b=>Ei a++Ei b
 | .agg cs=>Ei cs
 | .Gz vs=>Ei vs
 | .sG v=>refs v
 |_=>[]
def Ei:List V->List Nat
 |[]=>[]
 |v::vs=>refs v++Ei vs
end
def Ub(m:Mem)(r:Nat):List Nat:=match get r m with
 |some (.box _ cs)=>Ei cs
 |some (.jM _ v)=>refs v
 |_=>[]
def BL(k:Nat):Bool:=Nat.ble jf k && Nat.blt k (2 * jf)
def OY:List Nat->List Nat->List Nat
 |acc,[]=>acc
 |acc,k::ks=>OY (bif mem? k acc then acc else acc++[k]) ks
def ahu(tm:iF)(m:Mem):List Nat:=
 let l0:=OY [] (tm.flatMap λx=>refs x.2)
 let l1:=OY l0 (l0.flatMap (Ub m))
 let l2:=OY l1 (l1.flatMap (Ub m))
 (OY l2 (m.map (·.1))).filter λk=> !(BL k)
def names:List Nat:=[nat_lit 300000,nat_lit 300001,nat_lit 300002,nat_lit 300003,nat_lit 300004,nat_lit 300005,nat_lit 300006,nat_lit 300007,nat_lit 300008,nat_lit 300009,nat_lit 300010,nat_lit 300011,nat_lit 300012,nat_lit 300013,nat_lit 300014,nat_lit 300015,nat_lit 300016,nat_lit 300017,nat_lit 300018,nat_lit 300019,nat_lit 300020,nat_lit 300021,nat_lit 300022,nat_lit 300023,nat_lit 300024,nat_lit 300025,nat_lit 300026,nat_lit 300027,nat_lit 300028,nat_lit 300029,nat_lit 300030,nat_lit 300031,nat_lit 300032,nat_lit 300033,nat_lit 300034,nat_lit 300035,nat_lit 300036,nat_lit 300037,nat_lit 300038,nat_lit 300039,nat_lit 300040,nat_lit 300041,nat_lit 300042,nat_lit 300043,nat_lit 300044,nat_lit 300045,nat_lit 300046,nat_lit 300047,nat_lit 300048,nat_lit 300049,nat_lit 300050,nat_lit 300051,nat_lit 300052,nat_lit 300053,nat_lit 300054,nat_lit 300055,nat_lit 300056,nat_lit 300057,nat_lit 300058,nat_lit 300059,nat_lit 300060,nat_lit 300061,nat_lit 300062,nat_lit 300063]
def ahv:List Nat->List Nat->List (Nat×Nat)
 |n::ns,k::l=>(k,n)::ahv ns l
 |_,_=>[]
def ren(L:List (Nat×Nat))(k:Nat):Nat:=match get k L with
 |some j=>j
 |none=>k
mutual
def FM(L:List (Nat×Nat)):V->V
 | .d x=> .d x
 | .nil s=> .nil s
 | .own r ver=> .own (ren L r) ver
 | .ptr r off=> .ptr (ren L r) off
 | .lI r ver i off=> .lI (ren L r) ver i off
 | .lS row off=> .lS row off
 | .sG v=> .sG (FM L v)
 | .clo f a b=> .clo f (KJ L a) (KJ L b)
 | .agg cs=> .agg (KJ L cs)
 | .Gz vs=> .Gz (KJ L vs)
 | .undef=> .undef
def KJ(L:List (Nat×Nat)):List V->List V
 |[]=>[]
 |v::vs=>FM L v::KJ L vs
end
def Uc(L:List (Nat×Nat)):Cell->Cell
 | .box t cs=> .box t (KJ L cs)
 | .arr fz fl ver s rows=> .arr fz fl ver s rows
 | .dead=> .dead
 | .xk ver s rows=> .xk ver s rows
 | .jM t v=> .jM t (FM L v)
 | .jB ver s rows i off=> .jB ver s rows i off
def GR(L:List (Nat×Nat)):Mem->Mem
 |[]=>[]
 |(k,c)::m=>put (ren L k) (Uc L c) (GR L m)
def Ud(L:List (Nat×Nat)):iF->iF
 |[]=>[]
 |(t,v)::tm=>(t,FM L v)::Ud L tm
def nodupB:List Nat->Bool
 |[]=>true
 |k::l=> !(mem? k l) && nodupB l
def afi(m:Mem):Bool:=m.all λx=>match x.2 with| .jB ..=>false|_=>true
def OZ(L:List (Nat×Nat))(m:Mem):Bool:=nodupB ((m.map (·.1)).map (ren L)) &&((m.map (·.1)).all λk=>bif BL k then Nat.beq (ren L k) k else true) && afi m
def YK(L:List (Nat×Nat))(S:St):St:=match OZ L S.mem with
 |true=>⟨Ud L S.tm,GR L S.mem⟩
 |false=>S
def canon(S:St):St:=match ahu S.tm S.mem with
 |[]=>S
 |k::o=>YK (ahv names (k::o)) S
end Go.Vm
namespace Go.Vm
open Go
mutual
def JB(m:Mem):V->V
 | .d x=> .d x
 | .nil s=> .nil s
 | .own r ver=>match get r m with
  |some (.arr _ _ dP _ _)=>bif Nat.beq ver dP then .own r 0 else .undef
  |some (.xk dP _ _)=>bif Nat.beq ver dP then .own r 0 else .undef
  |_=> .undef
 | .ptr r off=>match get r m with
  |some (.box _ _)=> .ptr r off
  |some (.jM _ _)=> .ptr r off
  |_=> .undef
 | .lI r ver i off=>match get r m with
  |some (.arr _ _ dP _ _)=>bif Nat.beq ver dP then .lI r 0 i off else .undef
  |some (.xk dP _ _)=>bif Nat.beq ver dP then .lI r 0 i off else .undef
  |_=> .undef
 | .lS row off=> .lS row off
 | .sG v=> .sG (JB m v)
 | .clo f a b=> .clo f (MX m a) (MX m b)
 | .agg cs=> .agg (MX m cs)
 | .Gz vs=> .Gz (MX m vs)
 | .undef=> .undef
def MX(m:Mem):List V->List V
 |[]=>[]
 |v::vs=>JB m v::MX m vs
end
def vJ(m:Mem):Cell->Cell
 | .box t cs=> .box t (MX m cs)
 | .arr fz fl _ s rows=> .arr fz fl 0 s rows
 | .dead=> .dead
 | .xk _ s rows=> .xk 0 s rows
 | .jM t v=> .jM t (JB m v)
 | .jB ver s rows i off=> .jB ver s rows i off
def NS(m:Mem)(tm:iF):List Nat->iF
 |[]=>[]
 |t::ts=>match get t tm with
  |some v=>(t,JB m v)::NS m tm ts
  |none=>NS m tm ts
def NT:List Nat->List Nat->List Nat
 |[],l=>l
 |a::as,l=>bif mem? a l then NT as l else NT as (a::l)
def reach(m:Mem):Nat->List Nat->List Nat
 |0,l=>l
 |n+1,l=>reach m n (NT (l.flatMap (Ub m)) l)
def roots(tm:iF)(m:Mem):List Nat:=
 NT (tm.flatMap λx=>refs x.2) ((m.map (·.1)).filter BL)
def jG(all:Mem)(R:List Nat):Mem->Mem
 |[]=>[]
 |(k,c)::m=>match c with
  | .dead=>jG all R m
  | .jB ..=>jG all R m
  |c=>bif mem? k R then(k,vJ all c)::jG all R m else jG all R m
def closed(R:List Nat)(m:Mem):Bool:=m.all λx=>match x.2 with
 | .box _ cs=>(Ei cs).all λr=>mem? r R
 | .jM _ v=>(refs v).all λr=>mem? r R
 |_=>true
def aoV(m:Mem):Bool:=m.all λx=>match x.2 with
 | .arr _ _ ver _ _=>bif BL x.1 then Nat.beq ver 0 else true
 | .dead=> !(BL x.1)
 | .xk ..=> !(BL x.1)
 | .jB ..=> !(BL x.1)
 |_=>true
def sortedK:Mem->Bool
 |[]=>true
 |(k,_)::m=>match m with
  |[]=>true
  |(j,_)::_=>Nat.blt k j && sortedK m
def NU(ts:List Nat)(S:St):Option St:=
 let tm:=NS S.mem S.tm ts
 let R:=reach S.mem 3 (roots tm S.mem)
 let m:=jG S.mem R S.mem
 bif closed R m &&(aoV S.mem && sortedK S.mem) then some ⟨tm,m⟩ else none
def prune(ts:List Nat)(S:St):Option St:=match NU ts S with
 |some S'=>some (canon S')
 |none=>none
def vK(ops:Array Oper)(tm:iF)(o:Oper):Option (Bool×iF):=
 match o.guard with
 |none=>some (true,tm)
 |some (j,want)=>match ops[j]? with
  |some oj=>match oj.dst with
   |some d=>match IY d tm with
    | .d (.bool b)=>match b with
     |true=>some (want,put d (.d (.bool true)) tm)
     |false=>some (!want,put d (.d (.bool false)) tm)
    | .Gz vs=>match vs with
     |[]=>some (false,put d (.Gz []) tm)
     |_::_=>none
    |_=>none
   |none=>none
  |none=>none
def DJ(nt:Nat):Option Nat->Bool
 |some d=>Nat.blt d nt
 |none=>true
def yQ(P:Program)(fn:Nat):Nat:=match P.funcs[fn]? with|some g=>g.ntmps|none=>0
def Q5(nt:Nat)(dst:Option Nat)(tm:iF):iF:=bif DJ nt dst then NJ dst (.Gz []) tm else ahs dst tm
def sD(X:Ctx)(K:fM)(fn:Nat)(ops:Array Oper)(i:Nat)(S:St):Option (St×Log):=
 match ops[i]? with
 |none=>none
 |some o=>match vK ops S.tm o with
  |none=>none
  |some (false,tm)=>some (⟨Q5 (yQ X.P fn) o.dst tm,S.mem⟩,.none)
  |some (true,tm)=>match(Xj X K fn tm o).run S.mem .none with
   |none=>none
   |some (v,m,l)=>bif DJ (yQ X.P fn) o.dst then some (⟨NJ o.dst v tm,m⟩,l) else none
def pq(X:Ctx)(K:fM)(fn:Nat)(ops:Array Oper):List Nat->St->List (Nat×Log)->Option (St×List (Nat×Log))
 |[],S,L=>some (S,L)
 |i::is,S,L=>match sD X K fn ops i S with
  |none=>none
  |some (S',l)=>pq X K fn ops is S' ((i,l)::L)
def ahw(a b:List Nat):Bool:=a.all λk=> !(mem? k b)
def Log.apart(a b:Log):Bool:=ahw a.w b.r && ahw a.w b.w && ahw a.r b.w
def ordered(bef:Array Nat)(i j:Nat):Bool:=(bef.getD i 0).testBit j
def KL(ops:Array Oper)(bef:Array Nat):List (Nat×Log)->Bool
 |[]=>true
 |(i,l)::L=>(L.all fun(j,l')=>ordered bef i j||(l.apart l' &&(match ops[i]?,ops[j]? with
   |some a,some b=>a.apart ops b
   |_,_=>false))) && KL ops bef L
def KN:Nat->List Oper->Bool
 |_,[]=>true
 |i,o::l=>(o.after.toList.all λe=> !(Region.binds .any e)||Nat.blt e.on i) && KN (i+1) l
def backOk(ops:Array Oper):Bool:=KN 0 ops.toList
def alR(d:Nat):Operand->Bool
 | .tmp t=> !(Nat.beq t d)
 |_=>true
def ac3(args:Array Operand)(d1 d2:Nat):Bool:=match args.toList with
 |[.tmp a,.tmp b]=>Nat.beq a d1 && Nat.beq b d2
 |_=>false
def O1:List Row×List Cell->Option (IntKind×Int×Bool×Nat×List Row)
 |([[.int k n]],[.arr false fl' 0 s' rs'])=>some (k,n,fl',s',rs')
 |_=>none
def Ue(e:Nat)(fl:Bool)(q:IntKind×Int×Bool×Nat×List Row):Bool:=Nat.beq q.2.2.2.1 e &&((fl==q.2.2.1) &&(Ky fl q.2.2.2.2 && zN q.2.2.2.2))
def afj(X:Ctx)(f:Nat):Bool:=Nat.beq (vI X.Bf f 0) 2 && Nat.beq (vI X.Bf f 1) 0 &&(match X.P.funcs[f]? with
 | some g => g.body.isSome && !(g.name == "runtime.NumGoroutine") && (match g.resultTypes.toList with | [t] => !(xZ X.P t) && (OT X.P t).isNone | _ => false)
 |none=>false)
def FN(X:Ctx)(K:fM)(tm:iF)(o1 o2 o3:Oper):Acc (Nat×Nat×V×V):=
 match o1,o2,o3 with
 |⟨some d1,.load t (.tmp ta),_,_,_,none⟩,⟨some d2,.move x,ty2,_,_,none⟩,⟨_,.call ⟨.value (.func f),args,_⟩,_,_,_,none⟩=>do
  ck (!(Nat.beq d1 d2) &&(ac3 args d1 d2 &&(alR d1 x &&(KF X.P t &&(Nat.beq (iM X.P t) 1 &&(!(xZ X.P t) && afj X f))))))
  let e<-op' (elT X.P t)
  match IY ta tm,ev X.P tm ty2 x with
  | .lI r ver i off,.d (.int k n)=>do
   match<-rd r with
   |some (.arr false false dP s rows)=>do
    ck (Nat.beq ver dP && Nat.ble (off+1) s)
    let row<-op' rows[i]?
    let rs<-op' (TU (iM X.P e) row off)
    ck (Ky (lJ X.P e) rs)
    let out<-op' (K f [.own jf 0,.d (.int k n)] [.arr false (lJ X.P e) 0 (iM X.P e) rs])
    let q<-op' (O1 out)
    ck (Ue (iM X.P e) (lJ X.P e) q)
    wr r (.arr false false dP s (rows.set i (splice row off [.sl true (iM X.P e) q.2.2.2.2])))
    pure (d1,d2,.d (.int k n),.d (.int q.1 q.2.1))
   |_=> .fail
  |_,_=> .fail
 |_,_,_=> .fail
def yR(X:Ctx)(K:fM)(fn:Nat)(ops:Array Oper)(p:Nat)(S:St):Option St:=
 match ops[p]?,ops[p+1]?,ops[p+2]? with
 |some o1,some o2,some o3=>match(FN X K S.tm o1 o2 o3).run S.mem .none with
  |some ((d1,d2,kv,v),m,_)=>bif Nat.blt d1 (yQ X.P fn) &&(Nat.blt d2 (yQ X.P fn) && DJ (yQ X.P fn) o3.dst) then some ⟨NJ o3.dst v (put d2 kv (put d1 .undef S.tm)),m⟩ else none
  |none=>none
 |_,_,_=>none
def sS(X:Ctx)(K:fM)(fn id:Nat)(ops:Array Oper)(draw:Bool)(S:St):Option (St×List (Nat×Log)):=
 match X.Bf.fuse fn id with
 |0=>pq X K fn ops (List.range ops.size) S []
 |p+1=>match draw with
  |true=>none
  |false=>match pq X K fn ops (List.range p) S [] with
   |some (S1,_)=>match yR X K fn ops p S1 with
    |some S2=>pq X K fn ops ((List.range ops.size).drop (p+3)) S2 []
    |none=>none
   |none=>none
def region(X:Ctx)(K:fM)(fn id:Nat)(ops:Array Oper)(draw:Bool)(S:St):Option St:=
 match sS X K fn id ops draw S with
 |none=>none
 |some (S',L)=>bif(match draw with|false=>true|true=>X.P.follows .mixedOrders &&(backOk ops && KL ops (Region.before ops) L)) then prune (X.Bf.keep fn id) S' else none
inductive Ex where
 |normal
 |exit (id:Nat)
 |ret
noncomputable def lim{α:Type}(f:Nat->Option α):Option α:=
 open Classical in if h:∃a n,f n=some a then some (Classical.choose h) else none
def iter(b:St->Option (Ex×St)):Nat->St->Option (Ex×St)
 |0,_=>none
 |n+1,S=>match b S with
  |some (.normal,S')=>iter b n S'
  |r=>r
noncomputable def Ig(b:St->Option (Ex×St))(S:St):Option (Ex×St):=lim λn=>iter b n S
def MZ(P:Program)(tm:iF)(c:Operand):Option Bool:=match ev P tm 0 c with
 | .d (.bool b)=>some b
 |_=>none
noncomputable def den(X:Ctx)(K:fM)(fn:Nat):Code->St->Option (Ex×St)
 | .skip,S=>some (.normal,S)
 | .region id ops draw,S=>match region X K fn id ops draw S with
  |some S'=>some (.normal,S')
  |none=>none
 | .seq a b,S=>match den X K fn a S with
  |some (.normal,S')=>den X K fn b S'
  |r=>r
 | .cond c a b,S=>match MZ X.P S.tm c with
  |some true=>den X K fn a S
  |some false=>den X K fn b S
  |none=>none
 | .block id c,S=>match den X K fn c S with
  |some (.exit j,S')=>bif Nat.beq j id then some (.normal,S') else some (.exit j,S')
  |r=>r
 | .loop c,S=>Ig (den X K fn c) S
 | .exit id,S=>some (.exit id,S)
 | .ret,S=>some (.ret,S)
 |_,_=>none
def abK(A:ZU)(f i:Nat)(fl:Bool)(v:V):Acc V:=
 match vI A f i with
 |1=>(match v with
  | .d (.sl true s rows)=>do
   new i (.arr false fl 0 s rows)
   pure (.own i 0)
  | .d x=>pure (.d (roD x))
  |_=> .fail)
 |_=>pure v
def O4(X:Ctx)(f:Nat):Nat->List TypeId->List V->Acc iF
 |_,_,[]=>pure []
 |i,ts,v::vs=>do
  let v<-abK X.Bf f i ((fls X.P 8 (ts.headD 0)).headD false) v
  let r<-O4 X f (i+1) ts.tail vs
  pure ((i,v)::r)
def kP:Nat->List Cell->Mem
 |_,[]=>[]
 |i,c::cs=>(jf+i,c)::kP (i+1) cs
def nM(n:Nat):List Nat:=(List.range n).map (jf+ ·)
def entry(X:Ctx)(f:Nat)(g:Func)(args:List V)(cells:List Cell):Acc iF:=do
 QZ X 9999 cells 0 (nM cells.length)
 O4 X f 0 g.params.toList args
def Uf(T:TypeId)(v:V):Acc Row:=match v with
 | .ptr r off=>do
  match<-rd r with
  |some (.box T' cs)=>do
   ck (Nat.beq T T' && Nat.beq off 0)
   wr r .dead
   BJ cs
  |_=> .fail
 |_=> .fail
def YL(P:Program)(tm:iF)(r:ResultVar)(t:TypeId):Acc Row:=
 match r with
 | .tmp x=>match OT P t with
  |some T=>Uf T (IY x tm)
  |none=>match xZ P t,IY x tm with
   |true,.agg cs=>BJ cs
   |false,.agg _=> .fail
   |false,v=>BJ [v]
   |true,_=> .fail
 | .cell a T=>match IY a tm with
  | .ptr r 0=>do
   match<-rd r with
   |some (.box _ cs)=>do
    ck (Nat.beq T t && Nat.beq cs.length (iM P T) &&(KF P T &&(xZ P T||Nat.beq cs.length 1)) &&(OT P t).isNone)
    BJ cs
   |_=> .fail
  |_=> .fail
def LY(P:Program)(tm:iF):List ResultVar->List TypeId->Acc (List Row)
 |[],[]=>pure []
 |r::rs,t::ts=>do
  let row<-YL P tm r t
  let rows<-LY P tm rs ts
  pure (row::rows)
 |_,_=> .fail
def leave(X:Ctx)(g:Func)(n:Nat)(S:St):Option (List Row×List Cell):=
 match(do
  let rows<-LY X.P S.tm g.results.toList g.resultTypes.toList
  let cells<-KI X.Bf (nM n) (nM n)
  pure (rows,cells):Acc (List Row×List Cell)).run S.mem .none with
 |some (r,_,_)=>some r
 |none=>none
noncomputable def body(X:Ctx)(K:fM)(f:Nat)(args:List V)(cells:List Cell):Option (List Row×List Cell):=
 match X.P.funcs[f]? with
 |some g=>match g.body with
  |some c=>bif !(Nat.ble cells.length jf && Nat.ble args.length g.ntmps) then none else match(entry X f g args cells).run (kP 0 cells) .none with
   |some (tm,m,_)=>(match den X K f c ⟨tm,m⟩ with
    |some (.normal,S)=>leave X g cells.length S
    |some (.ret,S)=>leave X g cells.length S
    |_=>none)
   |none=>none
  |none=>none
 |none=>none
noncomputable def KO(X:Ctx):Nat->fM
 |0,_,_,_=>none
 |n+1,f,args,cells=>match X.MN f with
  |some p=>p args cells
  |none=>body X (KO X n) f args cells
noncomputable def call(X:Ctx):fM:=λf args cells=>lim λn=>KO X n f args cells
end Go.Vm
namespace Go.Vm
open Go
abbrev View:=Nat->Nat->Option Value
abbrev Heap:=Nat->Option Obj
def aX(w:World):Heap:=λb=>w.heap[b]?
mutual
def ro(h:View):D->Value->Prop
 | .int k n,v=>v=.int k n
 | .bool b,v=>v=.bool b
 | .str s,v=>v=.string ⟨⟨s⟩⟩
 | .GL,v=>v=.nilFunc
 | .sl _ s rows,v=>∃a cap,v=.slice a rows.length cap/\rows.length<=cap/\(rows≠[]->∃b o,a=some ⟨b,o,none⟩/\jC h s rows b o)
def jC(h:View)(s:Nat):List Row->Nat->Nat->Prop
 |[],_,_=>True
 |r::rs,b,o=>r.length=s/\nN h r b o/\jC h s rs b (o+s)
def nN(h:View):Row->Nat->Nat->Prop
 |[],_,_=>True
 |x::r,b,o=>(∃v,h b o=some v/\ro h x v)/\nN h r b (o+1)
end
mutual
def ow(H:Heap)(h:View):D->Value->List Nat->Prop
 | .int k n,v,N=>v=.int k n/\N=[]
 | .bool b,v,N=>v=.bool b/\N=[]
 | .str s,v,N=>v=.string ⟨⟨s⟩⟩/\N=[]
 | .GL,v,N=>v=.nilFunc/\N=[]
 | .sl own s rows,v,N=>match own with
  |false=>N=[]/\ro h (.sl false s rows) v
  |true=>(rows=[]/\v=.slice none 0 0/\N=[])\/
   ∃b cap cs t N',v=.slice (some ⟨b,0,none⟩) rows.length cap/\rows.length<=cap/\H b=some (.cells cs t (0,0))/\cs.size=cap * s/\
    cO H h s rows cs.toList N'/\N=b::N'
def cO(H:Heap)(h:View)(s:Nat):List Row->List Value->List Nat->Prop
 |[],_,N=>N=[]
 |r::rs,cs,N=>r.length=s/\∃N1 N2,N=N1++N2/\dF H h r cs N1/\cO H h s rs (cs.drop s) N2
def dF(H:Heap)(h:View):Row->List Value->List Nat->Prop
 |[],_,N=>N=[]
 |x::r,cs,N=>∃v cs' N1 N2,cs=v::cs'/\N=N1++N2/\ow H h x v N1/\dF H h r cs' N2
end
def dY(h:View):Row->List Value->Prop
 |[],_=>True
 |x::r,cs=>∃v cs',cs=v::cs'/\ro h x v/\dY h r cs'
def dD(h:View)(s:Nat):List Row->List Value->Prop
 |[],_=>True
 |r::rs,cs=>r.length=s/\dY h r cs/\dD h s rs (cs.drop s)
def KD(H:Heap)(h:View)(fl:Bool)(s:Nat)(rows:List Row)(v:Value)(N:List Nat):Prop:=
 (rows=[]/\v=.slice none 0 0/\N=[])\/
 ∃b cap cs t N',v=.slice (some ⟨b,0,none⟩) rows.length cap/\rows.length<=cap/\H b=some (.cells cs t (0,0))/\cs.size=cap * s/\
  (match fl with
   |true=>dD h s rows cs.toList/\N'=[]
   |false=>cO H h s rows cs.toList N')/\N=b::N'
def O5(H:Heap)(h:View)(s:Nat)(rows:List Row)(v:Value)(N:List Nat):Prop:=
 (rows=[]/\v=.slice none 0 0/\N=[])\/
 ∃b o cap cs t,v=.slice (some ⟨b,o,none⟩) rows.length cap/\rows.length<=cap/\H b=some (.cells cs t (0,0))/\o+cap * s<=cs.size/\
  dD h s rows (cs.toList.drop o)/\N=[b]
def IB(g:Value):Prop:=∃a n c,g=.slice a n c
def afk(g:Value):Prop:=∃b o,g=.pointer (some ⟨b,o,none⟩)
mutual
def aC(μ:Nat->Value)(m:Mem)(h:View):V->Value->Prop
 | .d x,g=>ro h x g
 | .nil _,g=>g=.slice none 0 0
 | .own r v0,g=>IB g/\match get r m with
  |some (.arr _ _ ver _ _)=>v0<=ver/\(v0=ver->g=μ r)
  |some .dead=>True
  |some (.xk ver _ _)=>v0<=ver/\(v0=ver->g=μ r)
  |some (.jB ver _ _ _ _)=>v0<=ver/\(v0=ver->g=μ r)
  |_=>False
 | .ptr r off,g=>afk g/\match get r m with
  |some (.box _ _)=>∃b,μ r=.pointer (some ⟨b,0,none⟩)/\g=.pointer (some ⟨b,off,none⟩)
  |some (.jM _ _)=>∃b,μ r=.pointer (some ⟨b,0,none⟩)/\g=.pointer (some ⟨b,off,none⟩)
  |some .dead=>True
  |_=>False
 | .lI r v0 i off,g=>afk g/\match get r m with
  |some (.arr _ _ ver s _)=>v0<=ver/\(v0=ver->∃b n cap,μ r=.slice (some ⟨b,0,none⟩) n cap/\g=.pointer (some ⟨b,i * s+off,none⟩))
  |some .dead=>True
  |some (.xk ver s _)=>v0<=ver/\(v0=ver->∃b o n cap,μ r=.slice (some ⟨b,o,none⟩) n cap/\g=.pointer (some ⟨b,o+(i * s+off),none⟩))
  |some (.jB ver s _ _ _)=>v0<=ver/\(v0=ver->∃b n cap,μ r=.slice (some ⟨b,0,none⟩) n cap/\g=.pointer (some ⟨b,i * s+off,none⟩))
  |_=>False
 | .lS row off,g=>∃b o,g=.pointer (some ⟨b,o+off,none⟩)/\nN h row b o
 | .sG v,g=>∃b x,g=.pointer (some ⟨b,0,none⟩)/\h b 0=some x/\aC μ m h v x
 | .clo f first caps,g=>∃a c,g=.func (.func f) a c/\bD μ m h first a.toList/\bD μ m h caps c.toList
 | .agg cs,g=>∃a,g=.agg a/\bD μ m h cs a.toList
 | .Gz vs,g=>∃a,g=.tuple a/\bD μ m h vs a.toList
 | .undef,_=>True
def bD(μ:Nat->Value)(m:Mem)(h:View):List V->List Value->Prop
 |[],gs=>gs=[]
 |v::vs,gs=>∃g gs',gs=g::gs'/\aC μ m h v g/\bD μ m h vs gs'
end
def hole(H:Heap)(h:View)(s:Nat)(rows:List Row)(row:Row)(i off:Nat)(cs:List Value)(Na Nb:List Nat):Prop:=∀(H':Heap) (h':View) (x:D) (g:Value) (N:List Nat),
 (∀b o v,h b o=some v->h' b o=some v)->(∀b,b∈Na++Nb->H' b=H b)->ow H' h' x g N->cO H' h' s (rows.set i (splice row off [x])) (cs.set (i * s+off) g) (Na++N++Nb)
def Xk(μ:Nat->Value)(m:Mem)(r:Nat)(g:Value):Prop:=match get (xu r) m with
 |some (.arr _ _ 0 _ _)=>μ (xu r)=g
 |some (.jB 0 _ _ _ _)=>μ (xu r)=g
 |some _=>True
 |none=>False
def iT(μ:Nat->Value)(m:Mem)(H:Heap)(h:View)(r:Nat):Cell->List Nat->Prop
 | .box t cs,N=>∃b a,μ r=.pointer (some ⟨b,0,none⟩)/\H b=some (.cells a t (0,0))/\bD μ m h cs a.toList/\N=[b]
 | .arr fz fl _ s rows,N=>match fz with
  |true=>ro h (.sl true s rows) (μ r)/\N=[]
  |false=>KD H h fl s rows (μ r) N
 | .dead,N=>N=[]
 | .xk _ s rows,N=>O5 H h s rows (μ r) N
 | .jM _ v,N=>N=[]/\∃b x,μ r=.pointer (some ⟨b,0,none⟩)/\h b 0=some x/\aC μ m h v x
 | .jB _ s rows i off,N=>∃b cap cs t g row Na Nb,μ r=.slice (some ⟨b,0,none⟩) rows.length cap/\rows.length<=cap/\H b=some (.cells cs t (0,0))/\cs.size=cap * s/\cs.toList[i * s+off]? =some g/\
   rows[i]? =some row/\off<s/\hole H h s rows row i off cs.toList Na Nb/\Xk μ m r g/\N=b::(Na++Nb)
open Classical in
noncomputable def view(w:World)(U X:Nat->Prop):View:=λb o=>if U b/\¬X b then w.cell? ⟨b,o,none⟩ else none
def excl(F:Nat->List Nat)(E:List Nat):Nat->Prop:=λb=>b∈E\/∃r,b∈F r
structure Keep(M:List Nat)(w w':World):Prop where
 os:w'.os=w.os
 tape:w'.tape=w.tape
 output:w'.output=w.output
 size:w.heap.size<=w'.heap.size
 block:∀b,b<w.heap.size->b ∉ M->w'.heap[b]? =w.heap[b]?
def Keep.refl(M:List Nat)(w:World):Keep M w w:=⟨rfl,rfl,rfl,Nat.le_refl _,λ_ _ _=>rfl⟩
def Keep.trans{M M':List Nat}{a b c:World}(h:Keep M a b)(k:Keep M' b c)(hM:∀x,x∈M'->x∈M\/a.heap.size<=x):Keep M a c:=
 ⟨k.os.trans h.os,k.tape.trans h.tape,k.output.trans h.output,Nat.le_trans h.size k.size,λi hi hm=>(k.block i (Nat.lt_of_lt_of_le hi h.size) (λhx=>(hM i hx).elim hm (λhl=>absurd hi (Nat.not_lt.2 hl)))).trans (h.block i hi hm)⟩
structure MInv(base:Nat)(U:Nat->Prop)(m:Mem)(w:World)(μ:Nat->Value)(F:Nat->List Nat)(E:List Nat)(out:List Nat):Prop where
 cell:∀r c,get r m=some c->r ∉ out->iT μ m (aX w) (view w U (excl F E)) r c (F r)
 dj:∀r r',r≠r'->∀b,b∈F r->b ∉ F r'
 OM:∀r b,b∈F r->b ∉ E
 nd:∀r,(F r).Nodup
 Ug:E.Nodup
 lt:∀b,excl F E b->b<w.heap.size/\base<=b/\U b
 up:∀b,w.heap.size<=b->U b
 bs:base<=w.heap.size
 none_:∀r,get r m=none->F r=[]
 out_:∀r,r∈out->F r=[]
def View.le(h h':View):Prop:=∀b o v,h b o=some v->h' b o=some v
def View.le_refl(h:View):h.le h:=λ_ _ _ x=>x
def View.le.trans'{a b c:View}(h:a.le b)(k:b.le c):a.le c:=λx y v q=>k x y v (h x y v q)
mutual
def yS{h h':View}(hl:h.le h'):∀(x:D) (v:Value),ro h x v->ro h' x v
 | .int _ _,_,q=>by simpa[ro] using q
 | .bool _,_,q=>by simpa[ro] using q
 | .str _,_,q=>by simpa[ro] using q
 | .GL,_,q=>by simpa[ro] using q
 | .sl _ s rows,v,q=>by simp only[ro] at q|-;obtain⟨a,cap,h1,h2,h3⟩:=q;refine⟨a,cap,h1,h2,λhn=> ?_⟩;obtain⟨b,o,h4,h5⟩:=h3 hn;exact⟨b,o,h4,Q7 hl s rows b o h5⟩
def Q7{h h':View}(hl:h.le h')(s:Nat):∀(rows:List Row) (b o:Nat),jC h s rows b o->jC h' s rows b o
 |[],_,_,_=>by simp[jC]
 |r::rs,b,o,q=>by simp only[jC] at q|-;exact⟨q.1,DT hl r b o q.2.1,Q7 hl s rs b (o+s) q.2.2⟩
def DT{h h':View}(hl:h.le h'):∀(r:Row) (b o:Nat),nN h r b o->nN h' r b o
 |[],_,_,_=>by simp[nN]
 |x::r,b,o,q=>by simp only[nN] at q|-;obtain⟨⟨v,h1,h2⟩,h3⟩:=q;exact⟨⟨v,hl _ _ _ h1,yS hl x v h2⟩,DT hl r b (o+1) h3⟩
end
mutual
def Tv{H H':Heap}{h h':View}(hl:h.le h'):∀(x:D) (v:Value) (N:List Nat),(∀b,b∈N->H' b=H b)->ow H h x v N->ow H' h' x v N
 | .int _ _,_,_,_,q=>by simpa[ow] using q
 | .bool _,_,_,_,q=>by simpa[ow] using q
 | .str _,_,_,_,q=>by simpa[ow] using q
 | .GL,_,_,_,q=>by simpa[ow] using q
 | .sl false s rows,v,N,_,q=>by simp only[ow] at q|-;exact⟨q.1,yS hl _ _ q.2⟩
 | .sl true s rows,v,N,hb,q=>by
  simp only[ow] at q|-;rcases q with q|⟨b,cap,cs,t,N',h1,h2,h3,h4,h5,rfl⟩
  ·exact .inl q
  ·exact .inr ⟨b,cap,cs,t,N',h1,h2,by rw[hb b (by simp)];exact h3,h4,mY hl s rows cs.toList N' (λb' hb'=>hb b' (by simp[hb'])) h5,rfl⟩
def mY{H H':Heap}{h h':View}(hl:h.le h')(s:Nat):∀(rows:List Row) (cs:List Value) (N:List Nat),(∀b,b∈N->H' b=H b)->cO H h s rows cs N->cO H' h' s rows cs N
 |[],_,_,_,q=>by simpa[cO] using q
 |r::rs,cs,N,hb,q=>by simp only[cO] at q|-;obtain⟨h1,N1,N2,rfl,h2,h3⟩:=q;exact⟨h1,N1,N2,rfl,rM hl r cs N1 (λb hx=>hb b (by simp[hx])) h2,mY hl s rs _ N2 (λb hx=>hb b (by simp[hx])) h3⟩
def rM{H H':Heap}{h h':View}(hl:h.le h'):∀(r:Row) (cs:List Value) (N:List Nat),(∀b,b∈N->H' b=H b)->dF H h r cs N->dF H' h' r cs N
 |[],_,_,_,q=>by simpa[dF] using q
 |x::r,cs,N,hb,q=>by simp only[dF] at q|-;obtain⟨v,cs',N1,N2,rfl,rfl,h2,h3⟩:=q;exact⟨v,cs',N1,N2,rfl,rfl,Tv hl x v N1 (λb hx=>hb b (by simp[hx])) h2,rM hl r cs' N2 (λb hx=>hb b (by simp[hx])) h3⟩
end
def O6{h h':View}(hl:h.le h'):∀(r:Row) (cs:List Value),dY h r cs->dY h' r cs
 |[],_,_=>trivial
 |x::r,cs,⟨v,cs',h1,h2,h3⟩=>⟨v,cs',h1,yS hl x v h2,O6 hl r cs' h3⟩
def jv{h h':View}(hl:h.le h')(s:Nat):∀(rows:List Row) (cs:List Value),dD h s rows cs->dD h' s rows cs
 |[],_,_=>trivial
 |r::rs,cs,⟨h1,h2,h3⟩=>⟨h1,O6 hl r cs h2,jv hl s rs _ h3⟩
def yT{H H':Heap}{h h':View}(hl:h.le h'){fl:Bool}{s:Nat}{rows:List Row}{v:Value}{N:List Nat}(hb:∀b,b∈N->H' b=H b)(q:KD H h fl s rows v N):KD H' h' fl s rows v N:=by
 rcases q with q|⟨b,cap,cs,t,N',h1,h2,h3,h4,h5,rfl⟩
 ·exact .inl q
 ·refine .inr ⟨b,cap,cs,t,N',h1,h2,by rw[hb b (by simp)];exact h3,h4, ?_,rfl⟩;cases fl with
  |true=>exact⟨jv hl s rows _ h5.1,h5.2⟩
  |false=>exact mY hl s rows _ N' (λb' hb'=>hb b' (by simp[hb'])) h5
def Ql{H H':Heap}{h h':View}(hl:h.le h'){s:Nat}{rows:List Row}{v:Value}{N:List Nat}(hb:∀b,b∈N->H' b=H b)(q:O5 H h s rows v N):O5 H' h' s rows v N:=by
 rcases q with q|⟨b,o,cap,cs,t,h1,h2,h3,h4,h5,rfl⟩
 ·exact .inl q
 ·exact .inr ⟨b,o,cap,cs,t,h1,h2,by rw[hb b (by simp)];exact h3,h4,jv hl s rows _ h5,rfl⟩
def oH(μ μ':Nat->Value)(r:Nat):Cell->Cell->Prop
 | .box t _,.box t' _=>t'=t/\μ' r=μ r
 | .arr _ fl ver s _,.arr _ fl' dP s' _=>ver<=dP/\fl'=fl/\(ver=dP->μ' r=μ r/\s'=s)
 |_,.dead=>True
 | .arr _ _ ver _ _,.xk dP _ _=>ver<dP
 | .xk ver s _,.xk dP s' _=>ver<=dP/\(ver=dP->μ' r=μ r/\s'=s)
 | .box _ _,.jM _ _=>μ' r=μ r
 | .jM _ _,.jM _ _=>μ' r=μ r
 | .arr _ fl ver s _,.jB dP s' _ _ _=>fl=false/\ver<=dP/\(ver=dP->μ' r=μ r/\s'=s)
 | .jB ver s _ _ _,.arr _ fl dP s' _=>fl=false/\ver<=dP/\(ver=dP->μ' r=μ r/\s'=s)
 | .jB ver s _ _ _,.jB dP s' _ _ _=>ver<=dP/\(ver=dP->μ' r=μ r/\s'=s)
 | .jB ver _ _ _ _,.xk dP _ _=>ver<dP
 |_,_=>False
def sF(μ:Nat->Value)(m:Mem)(μ':Nat->Value)(m':Mem):Prop:=∀r c,get r m=some c->∃c',get r m'=some c'/\oH μ μ' r c c'
def Q8(μ:Nat->Value)(r:Nat)(c:Cell):oH μ μ r c c:=by cases c<;>simp[oH]
def kQ(μ:Nat->Value)(m:Mem):sF μ m μ m:=λr c h=>⟨c,h,Q8 μ r c⟩
def YM{μ1 μ2 μ3:Nat->Value}{r:Nat}{c c' c'':Cell}(h:oH μ1 μ2 r c c')(k:oH μ2 μ3 r c' c''):oH μ1 μ3 r c c'':=by
 have key:∀{a b d s s' s'':Nat},a<=b->(a=b->μ2 r=μ1 r/\s'=s)->b<=d->(b=d->μ3 r=μ2 r/\s''=s')->a<=d/\(a=d->μ3 r=μ1 r/\s''=s):=by intro a b d s s' s'' h1 h2 h3 h4;refine⟨au,λe=> ?_⟩;have e1:a=b:=au;have e2:b=d:=au;exact⟨(h4 e2).1.trans (h2 e1).1,(h4 e2).2.trans (h2 e1).2⟩
 cases c<;>cases c'<;>cases c''<;>simp only[oH] at h k|-
 all_goals first
  |trivial
  |exact⟨k.1.trans h.1,k.2.trans h.2⟩
  |exact k.trans h
  |exact k.trans h.2
  |omega
  |exact key h.1 h.2 k.1 k.2
  |exact⟨(key h.1 h.2.2 k.1 k.2.2).1,k.2.1.trans h.2.1,(key h.1 h.2.2 k.1 k.2.2).2⟩
  |exact⟨h.2.1.symm.trans k.1,key h.1 h.2.2 k.2.1 k.2.2⟩
  |exact⟨(key h.1 h.2.2 k.2.1 k.2.2).1,(key h.1 h.2.2 k.2.1 k.2.2).2⟩
  |exact⟨h.1,key h.2.1 h.2.2 k.1 k.2⟩
  |exact⟨k.1,key h.1 h.2 k.2.1 k.2.2⟩
  |exact⟨k.2.1.trans h.1,key h.2.1 h.2.2 k.1 k.2.2⟩
  |exact⟨(key h.2.1 h.2.2 k.2.1 k.2.2).1,k.1.trans h.1.symm,(key h.2.1 h.2.2 k.2.1 k.2.2).2⟩
  |exact key h.2.1 h.2.2 k.2.1 k.2.2
def mZ{μ1 μ2 μ3:Nat->Value}{m1 m2 m3:Mem}(h:sF μ1 m1 μ2 m2)(k:sF μ2 m2 μ3 m3):sF μ1 m1 μ3 m3:=by intro r c hc;obtain⟨c',h1,h2⟩:=h r c hc;obtain⟨c'',k1,k2⟩:=k r c' h1;exact⟨c'',k1,YM h2 k2⟩
mutual
def pY{μ μ':Nat->Value}{m m':Mem}{h h':View}(hm:sF μ m μ' m')(hl:h.le h'):∀(v:V) (g:Value),aC μ m h v g->aC μ' m' h' v g
 | .d x,g,q=>by simp only[aC] at q|-;exact yS hl x g q
 | .nil _,_,q=>by simpa[aC] using q
 | .own r v0,g,q=>by
  simp only[aC] at q|-;refine⟨q.1, ?_⟩;replace q:=q.2;cases hc:get r m with
  |none=>simp[hc] at q
  |some c=>
   obtain⟨c',h1,h2⟩:=hm r c hc;rw[h1];rw[hc] at q;cases c<;>cases c'<;>simp only[oH] at h2<;>first
    |trivial
    |exact q.elim
    |exact⟨au,λe=>by omega⟩
    |exact⟨au,λe=>by rw[(h2.2 au).1];exact q.2 au⟩
    |exact⟨au,λe=>by rw[(h2.2.2 au).1];exact q.2 au⟩
 | .ptr r off,g,q=>by
  simp only[aC] at q|-;refine⟨q.1, ?_⟩;replace q:=q.2;cases hc:get r m with
  |none=>simp[hc] at q
  |some c=>obtain⟨c',h1,h2⟩:=hm r c hc;rw[h1];cases c<;>cases c'<;>simp_all [oH]
 | .lI r v0 i off,g,q=>by
  simp only[aC] at q|-;refine⟨q.1, ?_⟩;replace q:=q.2;cases hc:get r m with
  |none=>simp[hc] at q
  |some c=>
   obtain⟨c',h1,h2⟩:=hm r c hc;rw[h1];rw[hc] at q;cases c<;>cases c'<;>simp only[oH] at h2<;>first
    |trivial
    |exact q.elim
    |exact⟨au,λe=>by omega⟩
    |exact⟨au,λe=>by rw[(h2.2 au).1,(h2.2 au).2];exact q.2 au⟩
    |exact⟨au,λe=>by rw[(h2.2.2 au).1,(h2.2.2 au).2];exact q.2 au⟩
 | .lS row off,g,q=>by simp only[aC] at q|-;obtain⟨b,o,h1,h2⟩:=q;exact⟨b,o,h1,DT hl row b o h2⟩
 | .sG v,g,q=>by simp only[aC] at q|-;obtain⟨b,x,h1,h2,h3⟩:=q;exact⟨b,x,h1,hl _ _ _ h2,pY hm hl v x h3⟩
 | .clo f first caps,g,q=>by simp only[aC] at q|-;obtain⟨a,c,h1,h2,h3⟩:=q;exact⟨a,c,h1,kR hm hl first _ h2,kR hm hl caps _ h3⟩
 | .agg cs,g,q=>by simp only[aC] at q|-;obtain⟨a,h1,h2⟩:=q;exact⟨a,h1,kR hm hl cs _ h2⟩
 | .Gz vs,g,q=>by simp only[aC] at q|-;obtain⟨a,h1,h2⟩:=q;exact⟨a,h1,kR hm hl vs _ h2⟩
 | .undef,_,_=>by simp[aC]
def kR{μ μ':Nat->Value}{m m':Mem}{h h':View}(hm:sF μ m μ' m')(hl:h.le h'):∀(vs:List V) (gs:List Value),bD μ m h vs gs->bD μ' m' h' vs gs
 |[],_,q=>by simpa[bD] using q
 |v::vs,gs,q=>by simp only[bD] at q|-;obtain⟨g,gs',h1,h2,h3⟩:=q;exact⟨g,gs',h1,pY hm hl v g h2,kR hm hl vs gs' h3⟩
end
def Xl{H H':Heap}{h h':View}(hl:h.le h'){s:Nat}{rows:List Row}{row:Row}{i off:Nat}{cs:List Value}{Na Nb:List Nat}(hb:∀b,b∈Na++Nb->H' b=H b)(q:hole H h s rows row i off cs Na Nb):hole H' h' s rows row i off cs Na Nb:=
 λH'' h'' x g N h1 h2 h3=>q H'' h'' x g N (hl.trans' h1) (λb hb'=>(h2 b hb').trans (hb b hb')) h3
def abL{μ μ':Nat->Value}{m m':Mem}(hm:sF μ m μ' m'){r:Nat}{g:Value}(q:Xk μ m r g):Xk μ' m' r g:=by
 unfold Xk at q|-;cases hc:get (xu r) m with
 |none=>simp[hc] at q
 |some c=>
  obtain⟨c',h1,h2⟩:=hm _ c hc;rw[hc] at q;rw[h1];have key:∀dP,dP<=0->(match dP with|0=>μ (xu r)=g|_=>True)->μ (xu r)=g:=λdP e=>by have e:dP=0:=au;subst e;exact id
  cases c' with
  |arr fz fl ver s rows=>
   cases ver with
   |succ n=>trivial
   |zero=>
    cases c<;>simp only[oH] at h2
    ·obtain rfl:=Nat.le_zero.1 h2.1;exact(h2.2.2 rfl).1.trans q
    ·obtain rfl:=Nat.le_zero.1 h2.2.1;exact(h2.2.2 rfl).1.trans q
  |jB ver s rows i off=>
   cases ver with
   |succ n=>trivial
   |zero=>
    cases c<;>simp only[oH] at h2
    ·obtain rfl:=Nat.le_zero.1 h2.2.1;exact(h2.2.2 rfl).1.trans q
    ·obtain rfl:=Nat.le_zero.1 h2.1;exact(h2.2 rfl).1.trans q
  |_=>trivial
def yU{μ μ':Nat->Value}{m m':Mem}{H H':Heap}{h h':View}(hm:sF μ m μ' m')(hl:h.le h'){r:Nat}(hr:μ' r=μ r){c:Cell}{N:List Nat}(hb:∀b,b∈N->H' b=H b)
  (q:iT μ m H h r c N):iT μ' m' H' h' r c N:=by
 cases c with
 |box t cs=>obtain⟨b,a,h1,h2,h3,rfl⟩:=q;exact⟨b,a,by rw[hr];exact h1,by rw[hb b (by simp)];exact h2,kR hm hl cs _ h3,rfl⟩
 |arr fz fl ver s rows=>
  cases fz with
  |true=>exact⟨by rw[hr];exact yS hl _ _ q.1,q.2⟩
  |false=>simp only[iT] at q|-;rw[hr];exact yT hl hb q
 |dead=>exact q
 |xk ver s rows=>simp only[iT] at q|-;rw[hr];exact Ql hl hb q
 |jM t v=>obtain⟨h1,b,x,h2,h3,h4⟩:=q;exact⟨h1,b,x,by rw[hr];exact h2,hl _ _ _ h3,pY hm hl v x h4⟩
 |jB ver s rows i off=>obtain⟨b,cap,cs,t,g,row,Na,Nb,h1,h2,h3,h4,h5,h6,h7,h8,h9,rfl⟩:=q;exact⟨b,cap,cs,t,g,row,Na,Nb,by rw[hr];exact h1,h2,by rw[hb b (by simp)];exact h3,h4,h5,h6,h7,Xl hl (λb' hb'=>hb b' (by simp only[List.mem_cons];exact .inr hb')) h8,abL hm h9,rfl⟩
def lT{k j:Nat}(h:k≠j):Nat.beq k j=false:=by
 cases hb:Nat.beq k j with
 |false=>rfl
 |true=>exact absurd (lq hb) h
def dA{α:Type}(k:Nat)(x:α):∀l:List (Nat×α),get k (put k x l)=some x
 |[]=>by simp[put,get]
 |(j,y)::l=>by
  simp only[put]
  by_cases h:k=j
  ·subst h;simp[get]
  ·have hb:Nat.beq k j=false:=lT h;rw[hb];cases hl:Nat.blt k j with
   |true=>simp[get]
   |false=>simp[get,hb,dA k x l]
def eU{α:Type}{k k':Nat}(hk:k≠k')(x:α):∀l:List (Nat×α),get k (put k' x l)=get k l
 |[]=>by have hb:Nat.beq k k'=false:=lT hk;simp[put,get,hb]
 |(j,y)::l=>by
  have hb:Nat.beq k k'=false:=lT hk;simp only[put]
  by_cases h:k'=j
  ·subst h;simp[get,hb]
  ·have hb':Nat.beq k' j=false:=lT h;rw[hb'];cases hl:Nat.blt k' j with
   |true=>simp[get,hb]
   |false=>simp[get,eU hk x l]
def BM{α:Type}(k:Nat):∀l:List (Nat×α),get k (del k l)=none
 |[]=>rfl
 |(j,y)::l=>by
  simp only[del];cases hb:Nat.beq k j with
  |true=>simpa using BM k l
  |false=>simp[get,hb,BM k l]
def Ej{α:Type}{k k':Nat}(hk:k≠k'):∀l:List (Nat×α),get k (del k' l)=get k l
 |[]=>rfl
 |(j,y)::l=>by
  simp only[del];cases hb:Nat.beq k' j with
  |true=>have:k'=j:=lq hb;subst this;have hb:Nat.beq k k'=false:=lT hk;simp[get,hb,Ej hk l]
  |false=>simp[get,Ej hk l]
def get_put{α:Type}(k k':Nat)(x:α)(l:List (Nat×α)):get k (put k' x l)=if k=k' then some x else get k l:=by
 by_cases h:k=k'
 ·subst h;rw[dA,if_pos rfl]
 ·rw[eU h,if_neg h]
def ahx{α:Type}(k k':Nat)(l:List (Nat×α)):get k (del k' l)=if k=k' then none else get k l:=by
 by_cases h:k=k'
 ·subst h;rw[BM,if_pos rfl]
 ·rw[Ej h,if_neg h]
def Acc.run_bind{α β:Type}(a:Acc α)(f:α->Acc β):∀(m:Mem) (l:Log),(a.bind f).run m l=match a.run m l with|some (x,m',l')=>(f x).run m' l'|none=>none:=by
 induction a with
 |ret a=>intro m l;rfl
 |fail=>intro m l;rfl
 |get k c ih=>intro m l;simp only[Acc.bind,Acc.run];exact ih _ _ _
 |set k x c ih=>intro m l;simp only[Acc.bind,Acc.run];exact ih _ _
 |opt o c ih=>intro m l;simp only[Acc.bind,Acc.run];cases o with|none=>rfl|some b=>exact ih b _ _
 |guard b c ih=>intro m l;simp only[Acc.bind,Acc.run];cases b with|true=>exact ih _ _|false=>rfl
def run_bind{α β:Type}(a:Acc α)(f:α->Acc β)(m:Mem)(l:Log):(a>>=f).run m l=match a.run m l with|some (x,m',l')=>(f x).run m' l'|none=>none:=Acc.run_bind a f m l
def ah{α β:Type}{a:Acc α}{f:α->Acc β}{m:Mem}{l:Log}{y:β}{m':Mem}{l':Log}(h:(a>>=f).run m l=some (y,m',l')):
  ∃x m1 l1,a.run m l=some (x,m1,l1)/\(f x).run m1 l1=some (y,m',l'):=by
 rw[run_bind] at h;cases ha:a.run m l with
 |none=>simp[ha] at h
 |some x=>obtain⟨x,m1,l1⟩:=x;rw[ha] at h;exact⟨x,m1,l1,rfl,h⟩
def run_pure{α:Type}(a:α)(m:Mem)(l:Log):(Pure.pure a:Acc α).run m l=some (a,m,l):=rfl
def jV(k:Nat)(m:Mem)(l:Log):(rd k).run m l=some (get k m,m,l.rd k):=rfl
def nS(k:Nat)(c:Cell)(m:Mem)(l:Log):(wr k c).run m l=some ((),put k c m,l.wr k):=rfl
def bG{b:Bool}{m:Mem}{l:Log}{x:Unit}{m':Mem}{l':Log}(h:(ck b).run m l=some (x,m',l')):b=true/\m'=m/\l'=l:=by cases b<;>simp[ck,Acc.run] at h;exact⟨rfl,h.1.symm,h.2.symm⟩
def dn{β:Type}{o:Option β}{m:Mem}{l:Log}{x:β}{m':Mem}{l':Log}(h:(op' o).run m l=some (x,m',l')):o=some x/\m'=m/\l'=l:=by cases o<;>simp[op',Acc.run] at h;obtain⟨rfl,rfl,rfl⟩:=h;exact⟨rfl,rfl,rfl⟩
def ak{α:Type}{m:Mem}{l:Log}{r:α×Mem×Log}(h:(Acc.fail:Acc α).run m l=some r):False:=by simp[Acc.run] at h
structure O7(X:Ctx)(h:View):Prop where
 row:∀g row,X.glob g=some row->nN h row g 0
 int:∀g,X.atP g=true->∃n,h g 0=some (.int .i64 n)
 ifc:∀g,X.alN g=true->∃v,h g 0=some v/\(v=.nilIface\/∃t p,v=.iface t p)
def yc{X:Ctx}{h h':View}(hl:h.le h')(q:O7 X h):O7 X h':=⟨λg row hg=>DT hl row g 0 (q.row g row hg),λg hg=>by
 obtain⟨n,hn⟩:=q.int g hg;exact⟨n,hl _ _ _ hn⟩,λg hg=>by
 obtain⟨v,hv,hi⟩:=q.ifc g hg;exact⟨v,hl _ _ _ hv,hi⟩⟩
def abM(X:Ctx)(w:World):Prop:=∀g,X.alM g=true->∃x row cs T fr,X.glob g=some (x::row)/\w.heap[g]? =some (.cells cs T fr)/\cs.size=row.length+1
def Uh{h:View}:∀(row:Row) (b o:Nat),nN h row b o->jC h 1 (row.map λx=>[x]) b o
 |[],_,_,_=>trivial
 |x::r,b,o,⟨h1,h2⟩=>⟨rfl,⟨h1,trivial⟩,Uh r b (o+1) h2⟩
end Go.Vm
namespace Go.Vm
open Go
def Dy(F:Nat->List Nat)(r:Nat)(N:List Nat):Nat->List Nat:=λk=>if k=r then N else F k
def O8(μ:Nat->Value)(r:Nat)(g:Value):Nat->Value:=λk=>if k=r then g else μ k
@[simp] theorem lK(F:Nat->List Nat)(r:Nat)(N:List Nat):Dy F r N r=N:=by simp[Dy]
def dM{F:Nat->List Nat}{r k:Nat}(N:List Nat)(h:k≠r):Dy F r N k=F k:=by simp[Dy,h]
@[simp] theorem pz(μ:Nat->Value)(r:Nat)(g:Value):O8 μ r g r=g:=by simp[O8]
def wR{μ:Nat->Value}{r k:Nat}(g:Value)(h:k≠r):O8 μ r g k=μ k:=by simp[O8,h]
def full(w:World):View:=λb o=>w.cell? ⟨b,o,none⟩
def kS(w:World)(U X:Nat->Prop):(view w U X).le (full w):=by
 intro b o v h;unfold view at h;split at h
 ·exact h
 ·cases h
def Em{w:World}{U U' X X':Nat->Prop}(hU:∀b,U b->U' b)(h:∀b,X' b->X b):(view w U X).le (view w U' X'):=by
 intro b o v hv;unfold view at hv|-;split at hv
 ·rename_i hc;rw[if_pos ⟨hU b hc.1,λhx=>hc.2 (h b hx)⟩];exact hv
 ·cases hv
structure GS where
 μ:Nat->Value
 F:Nat->List Nat
 E:List Nat
 out:List Nat
section
variable (base:Nat) (U:Nat->Prop) (w:World)
def uN(m:Mem)(G:GS):Prop:=MInv base U m w G.μ G.F G.E G.out
noncomputable def Gh(G:GS):View:=view w U (excl G.F G.E)
end
structure KE(m:Mem)(G:GS)(m':Mem)(G':GS):Prop where
 mem:sF G.μ m G'.μ m'
 ex:∀b,excl G'.F G'.E b->excl G.F G.E b
def KE.refl(m:Mem)(G:GS):KE m G m G:=⟨kQ _ _,λ_ h=>h⟩
def KE.trans{m1 m2 m3:Mem}{G1 G2 G3:GS}(h:KE m1 G1 m2 G2)(k:KE m2 G2 m3 G3):KE m1 G1 m3 G3:=
 ⟨mZ h.mem k.mem,λb hb=>h.ex b (k.ex b hb)⟩
def KE.view{U:Nat->Prop}{w:World}{m m':Mem}{G G':GS}(h:KE m G m' G'):(Gh U w G).le (Gh U w G'):=Em (λ_ x=>x) h.ex
def KE.aC{U:Nat->Prop}{w:World}{m m':Mem}{G G':GS}(h:KE m G m' G'){v:V}{g:Value}(q:aC G.μ m (Gh U w G) v g):aC G'.μ m' (Gh U w G') v g:=
 pY h.mem h.view v g q
def KE.bD{U:Nat->Prop}{w:World}{m m':Mem}{G G':GS}(h:KE m G m' G'){v:List V}{g:List Value}(q:bD G.μ m (Gh U w G) v g):bD G'.μ m' (Gh U w G') v g:=
 kR h.mem h.view v g q
section
variable {base:Nat} {U:Nat->Prop} {w:World} {m:Mem} {G:GS}
def uN.set(hg:uN base U w m G)(r:Nat)(c':Cell)(μ':Nat->Value)(N E' out':List Nat)
  (hs:(N++E').Nodup) (hsub:∀b,b∈N++E'->b∈G.F r\/b∈G.E) (hle:sF G.μ m μ' (put r c' m)) (hμ:∀k,k≠r->μ' k=G.μ k)
  (ho:∀k,k≠r->(k∈out'↔k∈G.out)) (hr:r∈out'->N=[])
  (hc:(view w U (excl G.F G.E)).le (view w U (excl (Dy G.F r N) E'))->r ∉ out'->iT μ' (put r c' m) (aX w) (view w U (excl (Dy G.F r N) E')) r c' N):
  uN base U w (put r c' m) ⟨μ',Dy G.F r N,E',out'⟩/\KE m G (put r c' m) ⟨μ',Dy G.F r N,E',out'⟩:=by
 have hex:∀b,excl (Dy G.F r N) E' b->excl G.F G.E b:=by
  rintro b (hb|⟨k,hb⟩)
  ·rcases hsub b (by simp[hb]) with h|h
   ·exact .inr ⟨r,h⟩
   ·exact .inl h
  ·by_cases hk:k=r
   ·subst hk;rw[lK] at hb;rcases hsub b (by simp[hb]) with h|h
    ·exact .inr ⟨_,h⟩
    ·exact .inl h
   ·rw[dM N hk] at hb;exact .inr ⟨k,hb⟩
 have hv:(view w U (excl G.F G.E)).le (view w U (excl (Dy G.F r N) E')):=Em (λ_ x=>x) hex;have hN:=List.nodup_append.1 hs;refine⟨show MInv base U (put r c' m) w μ' (Dy G.F r N) E' out' from ?_,⟨hle,hex⟩⟩;refine⟨?_, ?_, ?_, ?_,hN.2.1,λb hb=>hg.lt b (hex b hb),hg.up,hg.bs, ?_, ?_⟩
 ·intro k c hk hko;rw[get_put] at hk
  by_cases e:k=r
  ·subst e;rw[if_pos rfl] at hk;cases hk;rw[lK];exact hc hv hko
  ·rw[if_neg e] at hk;rw[dM N e];exact yU hle hv (hμ k e) (λb _=>rfl) (hg.cell k c hk (λh=>hko ((ho k e).2 h)))
 ·intro k k' hne b hb hb'
  by_cases e:k=r
  ·subst e;rw[lK] at hb;rw[dM N (Ne.symm hne)] at hb';rcases hsub b (by simp[hb]) with h|h
   ·exact hg.dj _ _ hne b h hb'
   ·exact hg.OM _ b hb' h
  ·rw[dM N e] at hb
   by_cases e':k'=r
   ·subst e';rw[lK] at hb';rcases hsub b (by simp[hb']) with h|h
    ·exact hg.dj _ _ hne b hb h
    ·exact hg.OM _ b hb h
   ·rw[dM N e'] at hb';exact hg.dj _ _ hne b hb hb'
 ·intro k b hb hE
  by_cases e:k=r
  ·subst e;rw[lK] at hb;exact hN.2.2 b hb b hE rfl
  ·rw[dM N e] at hb;rcases hsub b (by simp[hE]) with h|h
   ·exact hg.dj _ _ e b hb h
   ·exact hg.OM _ b hb h
 ·intro k
  by_cases e:k=r
  ·subst e;rw[lK];exact hN.1
  ·rw[dM N e];exact hg.nd k
 ·intro k hk;rw[get_put] at hk
  by_cases e:k=r
  ·rw[if_pos e] at hk;cases hk
  ·rw[if_neg e] at hk;rw[dM N e];exact hg.none_ k hk
 ·intro k hk
  by_cases e:k=r
  ·subst e;rw[lK];exact hr hk
  ·rw[dM N e];exact hg.out_ k ((ho k e).1 hk)
def uN.less(hg:uN base U w m G)(E':List Nat)(hn:E'.Nodup)(hs:∀b,b∈E'->b∈G.E):
  uN base U w m {G with E:=E'}/\KE m G m {G with E:=E'}:=by
 have hex:∀b,excl G.F E' b->excl G.F G.E b:=by
  rintro b (hb|hb)
  ·exact .inl (hs b hb)
  ·exact .inr hb
 have hv:(view w U (excl G.F G.E)).le (view w U (excl G.F E')):=Em (λ_ x=>x) hex;refine⟨⟨?_,hg.dj,λr b hb hE=>hg.OM r b hb (hs b hE),hg.nd,hn,λb hb=>hg.lt b (hex b hb),hg.up,hg.bs,hg.none_,hg.out_⟩,⟨kQ _ _,hex⟩⟩;intro r c hc ho;exact yU (kQ _ _) hv rfl (λ_ _=>rfl) (hg.cell r c hc ho)
def qg{μ μ':Nat->Value}{r:Nat}{c':Cell}(hμ:∀k,k≠r->μ' k=μ k)(h:∀c,get r m=some c->oH μ μ' r c c'):sF μ m μ' (put r c' m):=by
 intro k c hk
 by_cases e:k=r
 ·subst e;exact⟨c',dA _ _ _,h c hk⟩
 ·refine⟨c,by rw[eU e];exact hk, ?_⟩;cases c<;>simp[oH,hμ k e]
def full_cell{b:Nat}{cs:Array Value}{t:TypeId}{fr:Nat×Nat}(h:aX w b=some (.cells cs t fr))(o:Nat):full w b o=cs.toList[o]? :=by simp only[full,World.cell?];unfold aX at h;simp[h]
end
def NV{h:View}{b:Nat}:∀(r:Row) (o:Nat) (cs:List Value),(∀j v,cs[j]? =some v->h b (o+j)=some v)->dY h r cs->nN h r b o
 |[],_,_,_,_=>by simp[nN]
 |x::r,o,cs,hc,⟨v,cs',e,h1,h2⟩=>by subst e;simp only[nN];refine⟨⟨v,hc 0 v rfl,h1⟩,NV r (o+1) cs' (λj u hj=> ?_) h2⟩;have:=hc (j+1) u (by simpa using hj);rw[show o+1+j=o+(j+1) from by omega];exact this
def Ih{h:View}{b s:Nat}:∀(rs:List Row) (o:Nat) (cs:List Value),(∀j v,cs[j]? =some v->h b (o+j)=some v)->dD h s rs cs->jC h s rs b o
 |[],_,_,_,_=>by simp[jC]
 |r::rs,o,cs,hc,⟨h1,h2,h3⟩=>by simp only[jC];refine⟨h1,NV r o cs hc h2,Ih rs (o+s) (cs.drop s) (λj u hj=> ?_) h3⟩;rw[List.getElem?_drop] at hj;rw[show o+s+j=o+(s+j) from by omega];exact hc _ _ hj
def NW(h:View)(H:Heap)(N:List Nat):Prop:=∀b,b∈N->∀cs t fr,H b=some (.cells cs t fr)->∀(o:Nat) v,cs.toList[o]? =some v->h b o=some v
def NW.sub{h:View}{H:Heap}{N N':List Nat}(q:NW h H N)(hs:∀b,b∈N'->b∈N):NW h H N':=λb hb=>q b (hs b hb)
mutual
def akS{H:Heap}{h h':View}(hl:h.le h'):∀(x:D) (v:Value) (N:List Nat),NW h' H N->ow H h x v N->ro h' x v
 | .int _ _,_,_,_,q=>by simp only[ow] at q;simpa[ro] using q.1
 | .bool _,_,_,_,q=>by simp only[ow] at q;simpa[ro] using q.1
 | .str _,_,_,_,q=>by simp only[ow] at q;simpa[ro] using q.1
 | .GL,_,_,_,q=>by simp only[ow] at q;simpa[ro] using q.1
 | .sl false s rows,v,N,_,q=>by simp only[ow] at q;have:=yS hl _ _ q.2;simpa[ro] using this
 | .sl true s rows,v,N,hs,q=>by
  simp only[ow] at q;simp only[ro];rcases q with⟨rfl,rfl,rfl⟩|⟨b,cap,cs,t,N',h1,h2,h3,h4,h5,rfl⟩
  ·exact⟨none,0,by simp,by simp,λe=>absurd rfl e⟩
  ·refine⟨_,cap,h1,h2,λ_=>⟨b,0,rfl, ?_⟩⟩;refine Ih rows 0 cs.toList (λj v hj=>by rw[Nat.zero_add];exact hs b (by simp) cs t _ h3 j v hj) ?_;exact yg hl s rows cs.toList N' (hs.sub (by simp;exact λ_ hb=> .inr hb)) h5
def yg{H:Heap}{h h':View}(hl:h.le h')(s:Nat):∀(rows:List Row) (cs:List Value) (N:List Nat),NW h' H N->cO H h s rows cs N->dD h' s rows cs
 |[],_,_,_,_=>by simp[dD]
 |r::rs,cs,N,hs,q=>by simp only[cO] at q;obtain⟨h1,N1,N2,rfl,h2,h3⟩:=q;simp only[dD];exact⟨h1,NY hl r cs N1 (hs.sub (by simp;exact λ_ hb=> .inl hb)) h2,yg hl s rs _ N2 (hs.sub (by simp;exact λ_ hb=> .inr hb)) h3⟩
def NY{H:Heap}{h h':View}(hl:h.le h'):∀(r:Row) (cs:List Value) (N:List Nat),NW h' H N->dF H h r cs N->dY h' r cs
 |[],_,_,_,_=>by simp[dY]
 |x::r,cs,N,hs,q=>by simp only[dF] at q;obtain⟨v,cs',N1,N2,rfl,rfl,h1,h2⟩:=q;simp only[dY];exact⟨v,cs',rfl,akS hl x v N1 (hs.sub (by simp;exact λ_ hb=> .inl hb)) h1,NY hl r cs' N2 (hs.sub (by simp;exact λ_ hb=> .inr hb)) h2⟩
end
def YN{H:Heap}{h h':View}(hl:h.le h'){fl:Bool}{s:Nat}{rows:List Row}{v:Value}{N:List Nat}(hs:NW h' H N)(q:KD H h fl s rows v N)(o:Bool):ro h' (.sl o s rows) v:=by
 simp only[ro];rcases q with⟨rfl,rfl,rfl⟩|⟨b,cap,cs,t,N',h1,h2,h3,h4,h5,rfl⟩
 ·exact⟨none,0,by simp,by simp,λe=>absurd rfl e⟩
 ·refine⟨_,cap,h1,h2,λ_=>⟨b,0,rfl, ?_⟩⟩;refine Ih rows 0 cs.toList (λj v hj=>by rw[Nat.zero_add];exact hs b (by simp) cs t _ h3 j v hj) ?_;cases fl with
  |true=>exact jv hl s rows _ h5.1
  |false=>exact yg hl s rows cs.toList N' (hs.sub (by simp;exact λ_ hb=> .inr hb)) h5
def KP{h:View}{o o':Bool}{s:Nat}{rows:List Row}{v:Value}(q:ro h (.sl o s rows) v):ro h (.sl o' s rows) v:=by simpa[ro] using q
def Xm{w:World}{N:List Nat}:NW (full w) (aX w) N:=by intro b _ cs t fr hb o v hv;rw[full_cell hb,hv]
def yV{w:World}{U X:Nat->Prop}{N:List Nat}(hU:∀b,b∈N->U b/\¬X b):NW (view w U X) (aX w) N:=by intro b hm cs t fr hb o v hv;unfold view;rw[if_pos (hU b hm)];have:=full_cell hb o;rw[hv] at this;exact this
mutual
def afl{h:View}:∀(x:D) (v:Value),ro h x v->ro h x.fz v
 | .int _ _,_,q=>by simpa[D.fz] using q
 | .bool _,_,q=>by simpa[D.fz] using q
 | .str _,_,q=>by simpa[D.fz] using q
 | .GL,_,q=>by simpa[D.fz] using q
 | .sl own s rows,v,q=>by
  simp only[D.fz,ro] at q|-;obtain⟨a,cap,h1,h2,h3⟩:=q;have hlen:(aF rows).length=rows.length:=En rows;refine⟨a,cap,by rw[hlen];exact h1,by rw[hlen];exact h2,λhn=> ?_⟩;have hn':rows≠[]:=by intro e;subst e;exact hn rfl
  obtain⟨b,o,h4,h5⟩:=h3 hn';exact⟨b,o,h4,Xn s rows b o h5⟩
def En:∀rows:List Row,(aF rows).length=rows.length
 |[]=>rfl
 |r::rs=>by simp[aF,En rs]
def JC:∀r:Row,(sQ r).length=r.length
 |[]=>rfl
 |x::r=>by simp[sQ,JC r]
def Xn{h:View}(s:Nat):∀(rows:List Row) (b o:Nat),jC h s rows b o->jC h s (aF rows) b o
 |[],_,_,_=>by simp[aF,jC]
 |r::rs,b,o,q=>by simp only[aF,jC] at q|-;exact⟨by rw[JC];exact q.1,Z5 r b o q.2.1,Xn s rs b (o+s) q.2.2⟩
def Z5{h:View}:∀(r:Row) (b o:Nat),nN h r b o->nN h (sQ r) b o
 |[],_,_,_=>by simp[sQ,nN]
 |x::r,b,o,q=>by simp only[sQ,nN] at q|-;obtain⟨⟨v,h1,h2⟩,h3⟩:=q;exact⟨⟨v,h1,afl x v h2⟩,Z5 r b (o+1) h3⟩
end
def Ui{h:View}{fl:Bool}{o:Bool}{s:Nat}{rows:List Row}{v:Value}(q:ro h (.sl o s rows) v):ro h (.sl false s (vw fl rows)) v:=by
 unfold vw;cases fl with
 |true=>exact KP q
 |false=>simpa[D.fz] using afl _ _ q
def afm{h:View}{x:D}{v:Value}(q:ro h x v):ro h (roD x) v:=by cases x<;>simpa[roD,ro] using q
def afn{H:Heap}{h:View}{x:D}{v:Value}(q:ro h x v):ow H h (roD x) v []:=by cases x<;>simp[roD,ow,ro] at q|-<;>exact q
def ahy{H:Heap}{h:View}{x:D}{v:Value}(hf:x.flat=true)(q:ro h x v):ow H h x v []:=by cases x<;>simp[D.flat,ow,ro] at hf q|-<;>exact q
def Uj{H:Heap}{h:View}:∀(r:Row) (cs:List Value),(r.all D.flat)=true->dY h r cs->dF H h r cs []
 |[],_,_,_=>by simp[dF]
 |x::r,cs,hf,⟨v,cs',e,h1,h2⟩=>by simp only[List.all_cons,su] at hf;simp only[dF];exact⟨v,cs',[],[],e,rfl,ahy hf.1 h1,Uj r cs' hf.2 h2⟩
def KQ{H:Heap}{h:View}(s:Nat):∀(rs:List Row) (cs:List Value),jO rs=true->dD h s rs cs->cO H h s rs cs []
 |[],_,_,_=>by simp[cO]
 |r::rs,cs,hf,⟨h1,h2,h3⟩=>by simp only[jO,List.all_cons,su] at hf;simp only[cO];exact⟨h1,[],[],rfl,Uj r cs hf.1 h2,KQ s rs _ hf.2 h3⟩
def Tz{H:Heap}{h:View}{fl:Bool}{s:Nat}{rows:List Row}{v:Value}{N:List Nat}(ho:Ky fl rows=true)(q:KD H h fl s rows v N):ow H h (.sl true s rows) v N:=by
 simp only[ow];rcases q with q|⟨b,cap,cs,t,N',h1,h2,h3,h4,h5,rfl⟩
 ·exact .inl q
 ·refine .inr ⟨b,cap,cs,t,N',h1,h2,h3,h4, ?_,rfl⟩;cases fl with
  |true=>obtain⟨h5,rfl⟩:=h5;exact KQ s rows _ (by simpa[Ky] using ho) h5
  |false=>exact h5
def ac4{H:Heap}{h:View}{s:Nat}{rows:List Row}{v:Value}{N:List Nat}(q:ow H h (.sl true s rows) v N):KD H h false s rows v N:=by simpa[ow,KD] using q
def abN{H:Heap}{h:View}{s:Nat}{rows:List Row}{v:Value}{N:List Nat}(q:ow H h (.sl true s rows) v N):
  ∃N1 N2,N=N1++N2/\∀h',h.le h'->NW h' H N2->KD H h' true s rows v N1:=by
 simp only[ow] at q;rcases q with⟨rfl,rfl,rfl⟩|⟨b,cap,cs,t,N',h1,h2,h3,h4,h5,rfl⟩
 ·exact⟨[],[],rfl,λ_ _ _=> .inl ⟨rfl,rfl,rfl⟩⟩
 ·exact⟨[b],N',rfl,λh' hl hs=> .inr ⟨b,cap,cs,t,[],h1,h2,h3,h4,⟨yg hl s rows _ N' hs h5,rfl⟩,rfl⟩⟩
end Go.Vm
namespace Go.Vm
open Go
section
variable {base:Nat} {U:Nat->Prop} {w:World} {m:Mem} {G:GS}
def uN.kill(hg:uN base U w m G){r:Nat}{fl:Bool}{ver s:Nat}{rows:List Row}(hc:get r m=some (.arr false fl ver s rows))(hro:r ∉ G.out):
  uN base U w (put r .dead m) ⟨G.μ,Dy G.F r [],G.E++G.F r,G.out⟩/\KE m G (put r .dead m) ⟨G.μ,Dy G.F r [],G.E++G.F r,G.out⟩/\
   KD (aX w) (Gh U w G) fl s rows (G.μ r) (G.F r):=by
 have h1:=hg.set r .dead G.μ [] (G.E++G.F r) G.out
  (by simpa using List.nodup_append.2 ⟨hg.Ug,hg.nd r,λa ha b hb e=>hg.OM r b hb (e ▸ ha)⟩)
  (by simp;exact λb hb=>hb.symm) (qg (λ_ _=>rfl) (λc h=>by rw[hc] at h;cases h;trivial)) (λ_ _=>rfl) (λ_ _=>Iff.rfl) (λ_=>rfl) (λ_ _=>rfl)
 exact⟨h1.1,h1.2,hg.cell r _ hc hro⟩
def uN.freeze(hg:uN base U w m G){r:Nat}{fz fl:Bool}{ver s:Nat}{rows:List Row}(hc:get r m=some (.arr fz fl ver s rows))(hro:r ∉ G.out):
  uN base U w (put r (.arr true fl ver s rows) m) ⟨G.μ,Dy G.F r [],G.E,G.out⟩/\KE m G (put r (.arr true fl ver s rows) m) ⟨G.μ,Dy G.F r [],G.E,G.out⟩/\
   ro (Gh U w ⟨G.μ,Dy G.F r [],G.E,G.out⟩) (.sl true s rows) (G.μ r):=by
 have hle:sF G.μ m G.μ (put r (.arr true fl ver s rows) m):=qg (λ_ _=>rfl) (λc h=>by rw[hc] at h;cases h;exact⟨Nat.le_refl _,rfl,λ_=>⟨rfl,rfl⟩⟩);have aoW:(view w U (excl G.F G.E)).le (view w U (excl (Dy G.F r []) G.E))->ro (view w U (excl (Dy G.F r []) G.E)) (.sl true s rows) (G.μ r):=by
  intro hv;have hq:=hg.cell r _ hc hro;cases fz with
  |true=>exact yS hv _ _ hq.1
  |false=>
   refine YN hv (yV λb hb=>⟨(hg.lt b (.inr ⟨r,hb⟩)).2.2, ?_⟩) hq true;rintro(hE|⟨k,hk⟩)
   ·exact hg.OM r b hb hE
   ·by_cases e:k=r
    ·subst e;simp at hk
    ·rw[dM _ e] at hk;exact hg.dj r k (Ne.symm e) b hb hk
 have h1:=hg.set r (.arr true fl ver s rows) G.μ [] G.E G.out (by simpa using hg.Ug) (by simp;exact λb hb=> .inr hb) hle (λ_ _=>rfl) (λ_ _=>Iff.rfl) (λ_=>rfl)
  (λhv _=>⟨aoW hv,rfl⟩)
 exact⟨h1.1,h1.2,aoW h1.2.view⟩
def uN.alS(hg:uN base U w m G){k:Nat}(fl:Bool){s:Nat}{rows:List Row}{g:Value}{N E:List Nat}(hn:get k m=none)(hk:k ∉ G.out)(hE:(N++E).Perm G.E)
  (hq:ow (aX w) (Gh U w G) (.sl true s rows) g N):
  ∃F',uN base U w (put k (.arr false fl 0 s rows) m) ⟨O8 G.μ k g,F',E,G.out⟩/\KE m G (put k (.arr false fl 0 s rows) m) ⟨O8 G.μ k g,F',E,G.out⟩:=by
 have hnd:=hE.nodup_iff.2 hg.Ug;have hmem:∀b,b∈N++E->b∈G.E:=λb hb=>hE.mem_iff.1 hb
 have hμ:∀j,j≠k->O8 G.μ k g j=G.μ j:=λj e=>wR g e
 have hle:∀c',sF G.μ m (O8 G.μ k g) (put k c' m):=λc'=>qg hμ (λc h=>by rw[hn] at h;cases h)
 cases fl with
 |false=>refine⟨_,hg.set k (.arr false false 0 s rows) (O8 G.μ k g) N E G.out hnd (λb hb=> .inr (hmem b hb)) (hle _) hμ (λ_ _=>Iff.rfl) (λh=>absurd h hk) (λhv _=> ?_)⟩;simp only[iT,pz];exact yT hv (λ_ _=>rfl) (ac4 hq)
 |true=>
  obtain⟨N1,N2,rfl,h2⟩:=abN hq;have hnd':(N1++E).Nodup:=by rw[BD] at hnd;have:=List.nodup_append.1 hnd;exact List.nodup_append.2 ⟨this.1,(List.nodup_append.1 this.2.1).2.1,λa ha b hb=>this.2.2 a ha b (by simp[hb])⟩
  refine⟨_,hg.set k (.arr false true 0 s rows) (O8 G.μ k g) N1 E G.out hnd' (λb hb=> .inr (hmem b (by simp at hb|-;rcases hb with h|h<;>simp[h]))) (hle _) hμ (λ_ _=>Iff.rfl) (λh=>absurd h hk) (λhv _=> ?_)⟩;simp only[iT,pz];refine h2 _ hv (yV λb hb=>⟨(hg.lt b (.inl (hmem b (by simp[hb])))).2.2, ?_⟩);rw[BD] at hnd;have hd:=List.nodup_append.1 hnd;have hd2:=List.nodup_append.1 hd.2.1;rintro(hE'|⟨j,hj⟩)
  ·exact hd2.2.2 b hb b hE' rfl
  ·by_cases e:j=k
   ·subst e;rw[lK] at hj;exact hd.2.2 b hj b (by simp[hb]) rfl
   ·rw[dM _ e] at hj;exact hg.OM j b hj (hmem b (by simp[hb]))
structure Bz(base:Nat)(U:Nat->Prop)(w:World)(m:Mem)(G:GS)(m':Mem)(G':GS)(N:List Nat):Prop where
 ok:uN base U w m' G'
 le:KE m G m' G'
 E:G'.E=G.E++N
 out:G'.out=G.out
 μ:G'.μ=G.μ
def Bz.same(hg:uN base U w m G):Bz base U w m G m G []:=⟨hg,KE.refl _ _,by simp,rfl,rfl⟩
def Bz.trans{m1 m2 m3:Mem}{G1 G2 G3:GS}{N N':List Nat}(a:Bz base U w m1 G1 m2 G2 N)(b:Bz base U w m2 G2 m3 G3 N'):Bz base U w m1 G1 m3 G3 (N++N'):=
 ⟨b.ok,a.le.trans b.le,by rw[b.E,a.E,BD],b.out.trans a.out,b.μ.trans a.μ⟩
def JD{H:Heap}{h h':View}(hl:h.le h'){x:D}{v:Value}{N:List Nat}(q:ow H h x v N):ow H h' x v N:=Tv hl x v N (λ_ _=>rfl) q
def afo(hg:uN base U w m G){v:V}{g:Value}(hv:aC G.μ m (Gh U w G) v g)(ho:G.out=[]){x:D}{m':Mem}{l l':Log}(h:(toD v).run m l=some (x,m',l')):
  ∃G' N,Bz base U w m G m' G' N/\ow (aX w) (Gh U w G') x g N:=by
 cases v with
 |d y=>simp only[toD,run_pure,dG,eH] at h;obtain⟨rfl,rfl,rfl⟩:=h;exact⟨G,[],Bz.same hg,afn (by simpa[aC] using hv)⟩
 |nil s=>simp only[toD,run_pure,dG,eH] at h;obtain⟨rfl,rfl,rfl⟩:=h;refine⟨G,[],Bz.same hg, ?_⟩;simp only[aC] at hv;simp[ow,hv]
 |own r ver=>
  simp only[toD] at h;replace h:=ah h;obtain⟨c,m1,l1,h1,h⟩:=h;rw[jV] at h1;cases h1;cases hc:get r m with
  |none=>rw[hc] at h;exact(ak h).elim
  |some c=>
   rw[hc] at h;cases c with
   |box _ _=>exact(ak h).elim
   |dead=>exact(ak h).elim
   |xk _ _ _=>exact(ak h).elim
   |jM _ _=>exact(ak h).elim
   |jB _ _ _ _ _=>exact(ak h).elim
   |arr fz fl dP s rows=>
    simp only at h;replace h:=ah h;obtain⟨_,m2,l2,h1,h⟩:=h;obtain⟨hb,rfl,rfl⟩:=bG h1;have hb:=lq hb;subst hb;simp only[aC,hc] at hv;have hv:=hv.2.2 trivial;subst hv;have hro:r ∉ G.out:=by simp[ho]
    cases fz with
    |true=>simp only[run_pure,dG,eH] at h;obtain⟨rfl,rfl,rfl⟩:=h;refine⟨G,[],Bz.same hg, ?_⟩;have hq:=(hg.cell r _ hc hro).1;simp only[ow,true_and];exact Ui hq
    |false=>simp only at h;replace h:=ah h;obtain⟨_,m2,l2,h1,h⟩:=h;obtain⟨hok,rfl,rfl⟩:=bG h1;replace h:=ah h;obtain⟨_,m3,l3,h1,h⟩:=h;rw[nS] at h1;cases h1;simp only[run_pure,dG,eH] at h;obtain⟨rfl,rfl,rfl⟩:=h;obtain⟨k1,k2,k3⟩:=hg.kill hc hro;exact⟨_,G.F r,⟨k1,k2,rfl,rfl,rfl⟩,JD k2.view (Tz hok k3)⟩
 |ptr _ _=>exact(ak h).elim
 |lI _ _ _ _=>exact(ak h).elim
 |lS _ _=>exact(ak h).elim
 |sG _=>exact(ak h).elim
 |clo _ _ _=>exact(ak h).elim
 |agg _=>exact(ak h).elim
 |Gz _=>exact(ak h).elim
 |undef=>exact(ak h).elim
def jl{μ:Nat->Value}{h:View}{v:V}{vs:List V}{gs:List Value}(q:bD μ m h (v::vs) gs):∃g gs',gs=g::gs'/\aC μ m h v g/\bD μ m h vs gs':=by simpa[bD] using q
def eP{μ:Nat->Value}{h:View}:∀{vs:List V} {gs:List Value},bD μ m h vs gs->gs.length=vs.length
 |[],gs,q=>by simp[bD] at q;simp[q]
 |v::vs,gs,q=>by obtain⟨g,gs',rfl,_,h3⟩:=jl q;simp[eP h3]
def NZ{H:Heap}{h h':View}(hl:h.le h'){x:Row}{v:List Value}{N:List Nat}(q:dF H h x v N):dF H h' x v N:=rM hl x v N (λ_ _=>rfl) q
def Z7{H:Heap}{h h':View}(hl:h.le h'){s:Nat}{x:List Row}{v:List Value}{N:List Nat}(q:cO H h s x v N):cO H h' s x v N:=mY hl s x v N (λ_ _=>rfl) q
def GU:∀{vs:List V} {gs:List Value} {m:Mem} {G:GS} (_:uN base U w m G) (_:bD G.μ m (Gh U w G) vs gs) (_:G.out=[]) {xs:Row} {m':Mem} {l l':Log} (_:(BJ vs).run m l=some (xs,m',l')),
  ∃G' N,Bz base U w m G m' G' N/\dF (aX w) (Gh U w G') xs gs N/\xs.length=vs.length
 |[],gs,m,G,hg,hv,ho,xs,m',l,l',h=>by simp only[BJ,run_pure,dG,eH] at h;obtain⟨rfl,rfl,rfl⟩:=h;exact⟨G,[],Bz.same hg,by simp[dF],rfl⟩
 |v::vs,gs,m,G,hg,hv,ho,xs,m',l,l',h=>by obtain⟨g,gs',rfl,hv1,hv2⟩:=jl hv;simp only[BJ] at h;replace h:=ah h;obtain⟨x,m1,l1,h1,h⟩:=h;replace h:=ah h;obtain⟨ys,m2,l2,h2,h⟩:=h;simp only[run_pure,dG,eH] at h;obtain⟨rfl,rfl,rfl⟩:=h;obtain⟨G1,N1,t1,q1⟩:=afo hg hv1 ho h1;obtain⟨G2,N2,t2,q2,hlen⟩:=GU t1.ok (t1.le.bD hv2) (t1.out.trans ho) h2;refine⟨G2,N1++N2,t1.trans t2, ?_,by simp[hlen]⟩;simp only[dF];exact⟨g,gs',N1,N2,rfl,rfl,JD t2.le.view q1,q2⟩
end
end Go.Vm
namespace Go.Vm
open Go
section
variable {base:Nat} {U:Nat->Prop} {w:World} {m:Mem} {G:GS}
def uN.look(hg:uN base U w m G){r:Nat}{fz fl:Bool}{ver s:Nat}{rows:List Row}(hc:get r m=some (.arr fz fl ver s rows))(hro:r ∉ G.out)(o:Bool):ro (full w) (.sl o s rows) (G.μ r):=by
 have hq:=hg.cell r _ hc hro;cases fz with
 |true=>exact KP (yS (kS _ _ _) _ _ hq.1)
 |false=>exact YN (kS _ _ _) Xm hq o
def ac5(hg:uN base U w m G){v:V}{g:Value}(hv:aC G.μ m (Gh U w G) v g)(ho:G.out=[]){s:Nat}{rows:List Row}{m':Mem}{l l':Log}(h:(seen v).run m l=some ((s,rows),m',l')):
  m'=m/\ro (full w) (.sl false s rows) g:=by
 cases v with
 |d y=>
  cases y with
  |sl own s' rows'=>simp only[seen,run_pure,dG,eH] at h;obtain⟨⟨rfl,rfl⟩,rfl,rfl⟩:=h;simp only[aC] at hv;exact⟨rfl,KP (yS (kS _ _ _) _ _ hv)⟩
  |int _ _=>exact(ak h).elim
  |bool _=>exact(ak h).elim
  |str _=>exact(ak h).elim
  |GL=>exact(ak h).elim
 |nil s'=>simp only[seen,run_pure,dG,eH] at h;obtain⟨⟨rfl,rfl⟩,rfl,rfl⟩:=h;simp only[aC] at hv;exact⟨rfl,by simp[ro,hv]⟩
 |own r ver=>
  simp only[seen] at h;replace h:=ah h;obtain⟨c,m1,l1,h1,h⟩:=h;rw[jV] at h1;cases h1;cases hc:get r m with
  |none=>rw[hc] at h;exact(ak h).elim
  |some c=>
   rw[hc] at h;cases c with
   |box _ _=>exact(ak h).elim
   |dead=>exact(ak h).elim
   |xk _ _ _=>exact(ak h).elim
   |jM _ _=>exact(ak h).elim
   |jB _ _ _ _ _=>exact(ak h).elim
   |arr fz fl dP s' rows'=>simp only at h;replace h:=ah h;obtain⟨_,m2,l2,h1,h⟩:=h;obtain⟨hb,rfl,rfl⟩:=bG h1;have hb:=lq hb;subst hb;simp only[run_pure,dG,eH] at h;obtain⟨⟨rfl,rfl⟩,rfl,rfl⟩:=h;simp only[aC,hc] at hv;have hv:=hv.2.2 trivial;subst hv;exact⟨rfl,Ui (hg.look hc (by simp[ho]) true)⟩
 |ptr _ _=>exact(ak h).elim
 |lI _ _ _ _=>exact(ak h).elim
 |lS _ _=>exact(ak h).elim
 |sG _=>exact(ak h).elim
 |clo _ _ _=>exact(ak h).elim
 |agg _=>exact(ak h).elim
 |Gz _=>exact(ak h).elim
 |undef=>exact(ak h).elim
def qw(k:Nat):∀l:List Nat,mem? k l=true↔k∈l
 |[]=>by simp[mem?]
 |j::l=>by
  simp only[mem?,List.mem_cons]
  by_cases e:k=j
  ·subst e;simp
  ·rw[lT e];simp[e,qw k l]
def GV{k:Nat}{l:List Nat}(h:(!(mem? k l))=true):k ∉ l:=by intro hk;rw[(qw k l).2 hk] at h;cases h
def ahz(hg:uN base U w m G){v:V}{g:Value}(hv:aC G.μ m (Gh U w G) v g){imp:List Nat}(ho:∀r,r∈G.out->r∈imp){own:Bool}{v':V}{m':Mem}{l l':Log}(h:(afc imp own v).run m l=some (v',m',l')):
  ∃G' N x,v'=.d x/\Bz base U w m G m' G' N/\ow (aX w) (Gh U w G') x g N/\∀k,k∈imp->get k m'=get k m:=by
 cases v with
 |d y=>simp only[afc,run_pure,dG,eH] at h;obtain⟨rfl,rfl,rfl⟩:=h;exact⟨G,[],_,rfl,Bz.same hg,afn (by simpa[aC] using hv),λ_ _=>rfl⟩
 |nil s=>simp only[afc,run_pure,dG,eH] at h;obtain⟨rfl,rfl,rfl⟩:=h;refine⟨G,[],_,rfl,Bz.same hg, ?_,λ_ _=>rfl⟩;simp only[aC] at hv;cases own<;>simp[ow,ro,hv]
 |own r ver=>
  simp only[afc] at h;replace h:=ah h;obtain⟨c,m1,l1,h1,h⟩:=h;rw[jV] at h1;cases h1;cases hc:get r m with
  |none=>rw[hc] at h;exact(ak h).elim
  |some c=>
   rw[hc] at h;cases c with
   |box _ _=>exact(ak h).elim
   |dead=>exact(ak h).elim
   |xk _ _ _=>exact(ak h).elim
   |jM _ _=>exact(ak h).elim
   |jB _ _ _ _ _=>exact(ak h).elim
   |arr fz fl dP s rows=>
    simp only at h;replace h:=ah h;obtain⟨_,m2,l2,h1,h⟩:=h;obtain⟨hb,rfl,rfl⟩:=bG h1;have hb:=lq hb;subst hb;replace h:=ah h;obtain⟨_,m2,l2,h1,h⟩:=h;obtain⟨hi,rfl,rfl⟩:=bG h1;simp only[aC,hc] at hv;have hv:=hv.2.2 trivial;subst hv;have hro:r ∉ G.out:=λhr=>GV hi (ho r hr)
    have hni:∀k,k∈imp->k≠r:=λk hk e=>GV hi (e ▸ hk)
    cases own with
    |false=>simp only at h;replace h:=ah h;obtain⟨_,m3,l3,h1,h⟩:=h;rw[nS] at h1;cases h1;simp only[run_pure,dG,eH] at h;obtain⟨rfl,rfl,rfl⟩:=h;obtain⟨k1,k2,k3⟩:=hg.freeze hc hro;refine⟨_,[],_,rfl,⟨k1,k2,by simp,rfl,rfl⟩, ?_,λk hk=>eU (hni k hk) _ _⟩;simp only[ow,true_and];exact Ui k3
    |true=>
     simp only at h;replace h:=ah h;obtain⟨_,m2,l2,h1,h⟩:=h;obtain⟨hfz,rfl,rfl⟩:=bG h1;replace h:=ah h;obtain⟨_,m2,l2,h1,h⟩:=h;obtain⟨hok,rfl,rfl⟩:=bG h1;have hfz:fz=false:=by simpa using hfz
     subst hfz;replace h:=ah h;obtain⟨_,m3,l3,h1,h⟩:=h;rw[nS] at h1;cases h1;simp only[run_pure,dG,eH] at h;obtain⟨rfl,rfl,rfl⟩:=h;obtain⟨k1,k2,k3⟩:=hg.kill hc hro;exact⟨_,G.F r,_,rfl,⟨k1,k2,rfl,rfl,rfl⟩,JD k2.view (Tz hok k3),λk hk=>eU (hni k hk) _ _⟩
 |ptr _ _=>exact(ak h).elim
 |lI _ _ _ _=>exact(ak h).elim
 |lS _ _=>exact(ak h).elim
 |sG _=>exact(ak h).elim
 |clo _ _ _=>exact(ak h).elim
 |agg _=>exact(ak h).elim
 |Gz _=>exact(ak h).elim
 |undef=>exact(ak h).elim
def Q9{imp own:List Nat}:∀{vs:List V} {gs:List Value} {m:Mem} {G:GS} {j:Nat} (_:uN base U w m G) (_:bD G.μ m (Gh U w G) vs gs) (_:∀r,r∈G.out->r∈imp) {vs':List V} {m':Mem} {l l':Log}
  (_:(KH imp own j vs).run m l=some (vs',m',l')),∃G' N xs,vs'=xs.map V.d/\xs.length=gs.length/\Bz base U w m G m' G' N/\dF (aX w) (Gh U w G') xs gs N/\∀k,k∈imp->get k m'=get k m
 |[],gs,m,G,j,hg,hv,ho,vs',m',l,l',h=>by simp only[KH,run_pure,dG,eH] at h;obtain⟨rfl,rfl,rfl⟩:=h;simp only[bD] at hv;subst hv;exact⟨G,[],[],rfl,rfl,Bz.same hg,by simp[dF],λ_ _=>rfl⟩
 |v::vs,gs,m,G,j,hg,hv,ho,vs',m',l,l',h=>by obtain⟨g,gs',rfl,hv1,hv2⟩:=jl hv;simp only[KH] at h;replace h:=ah h;obtain⟨x,m1,l1,h1,h⟩:=h;replace h:=ah h;obtain⟨ys,m2,l2,h2,h⟩:=h;simp only[run_pure,dG,eH] at h;obtain⟨rfl,rfl,rfl⟩:=h;obtain⟨G1,N1,x1,rfl,t1,q1,i1⟩:=ahz hg hv1 ho h1;obtain⟨G2,N2,xs,rfl,hlen,t2,q2,i2⟩:=Q9 t1.ok (t1.le.bD hv2) (λr hr=>ho r (t1.out ▸ hr)) h2;refine⟨G2,N1++N2,x1::xs,rfl,by simp[hlen],t1.trans t2, ?_,λk hk=>(i2 k hk).trans (i1 k hk)⟩;simp only[dF];exact⟨g,gs',N1,N2,rfl,rfl,JD t2.le.view q1,q2⟩
def Z8(H:Heap)(h:View):Cell->Value->List Nat->Prop
 | .box t vs,g,N=>∃b a xs N',g=.pointer (some ⟨b,0,none⟩)/\H b=some (.cells a t (0,0))/\vs=xs.map V.d/\xs.length=a.toList.length/\dF H h xs a.toList N'/\N=b::N'
 | .arr fz fl ver s rows,g,N=>fz=false/\ver=0/\KD H h fl s rows g N
 | .dead,_,_=>False
 | .xk ..,_,_=>False
 | .jM ..,_,_=>False
 | .jB ..,_,_=>False
def cellsB(H:Heap)(h:View):List Cell->List Value->List Nat->Prop
 |[],gs,N=>gs=[]/\N=[]
 |c::cs,gs,N=>∃g gs' N1 N2,gs=g::gs'/\N=N1++N2/\Z8 H h c g N1/\cellsB H h cs gs' N2
def Uk{H H':Heap}{h h':View}(hl:h.le h'){c:Cell}{g:Value}{N:List Nat}(hb:∀b,b∈N->H' b=H b)(q:Z8 H h c g N):Z8 H' h' c g N:=by
 cases c with
 |box t vs=>obtain⟨b,a,xs,N',h1,h2,h3,h4,h5,rfl⟩:=q;exact⟨b,a,xs,N',h1,by rw[hb b (by simp)];exact h2,h3,h4,rM hl _ _ _ (λb' hb'=>hb b' (by simp[hb'])) h5,rfl⟩
 |arr fz fl ver s rows=>exact⟨q.1,q.2.1,yT hl hb q.2.2⟩
 |dead=>exact q
 |xk _ _ _=>exact q
 |jM _ _=>exact q
 |jB _ _ _ _ _=>exact q
def Rf{H H':Heap}{h h':View}(hl:h.le h'):∀{cs:List Cell} {gs:List Value} {N:List Nat},(∀b,b∈N->H' b=H b)->cellsB H h cs gs N->cellsB H' h' cs gs N
 |[],_,_,_,q=>q
 |c::cs,_,_,hb,⟨g,gs',N1,N2,h1,h2,h3,h4⟩=>by subst h2;exact⟨g,gs',N1,N2,h1,rfl,Uk hl (λb hx=>hb b (by simp[hx])) h3,Rf hl (λb hx=>hb b (by simp[hx])) h4⟩
def uN.akT(hg:uN base U w m G){r:Nat}{c:Cell}(hc:get r m=some c)(hro:r ∉ G.out):
  uN base U w m ⟨G.μ,Dy G.F r [],G.E++G.F r,r::G.out⟩/\KE m G m ⟨G.μ,Dy G.F r [],G.E++G.F r,r::G.out⟩:=by
 have hex:∀b,excl (Dy G.F r []) (G.E++G.F r) b->excl G.F G.E b:=by
  rintro b (hb|⟨k,hb⟩)
  ·simp only[List.mem_append] at hb;rcases hb with h|h
   ·exact .inl h
   ·exact .inr ⟨r,h⟩
  ·by_cases e:k=r
   ·subst e;simp at hb
   ·rw[dM _ e] at hb;exact .inr ⟨k,hb⟩
 have hv:(view w U (excl G.F G.E)).le (view w U (excl (Dy G.F r []) (G.E++G.F r))):=Em (λ_ x=>x) hex;refine⟨show MInv base U m w G.μ (Dy G.F r []) (G.E++G.F r) (r::G.out) from ?_,⟨kQ _ _,hex⟩⟩;refine⟨?_, ?_, ?_, ?_,List.nodup_append.2 ⟨hg.Ug,hg.nd r,λa ha b hb e=>hg.OM r b hb (e ▸ ha)⟩,λb hb=>hg.lt b (hex b hb),hg.up,hg.bs, ?_, ?_⟩
 ·intro k c hk hko;simp only[List.mem_cons,not_or] at hko;rw[dM _ hko.1];exact yU (kQ _ _) hv rfl (λ_ _=>rfl) (hg.cell k c hk hko.2)
 ·intro k k' hne b hb hb'
  by_cases e:k=r
  ·subst e;simp at hb
  ·rw[dM _ e] at hb
   by_cases e':k'=r
   ·subst e';simp at hb'
   ·rw[dM _ e'] at hb';exact hg.dj _ _ hne b hb hb'
 ·intro k b hb hE
  by_cases e:k=r
  ·subst e;simp at hb
  ·rw[dM _ e] at hb;simp only[List.mem_append] at hE;rcases hE with h|h
   ·exact hg.OM _ b hb h
   ·exact hg.dj _ _ e b hb h
 ·intro k
  by_cases e:k=r
  ·subst e;simp
  ·rw[dM _ e];exact hg.nd k
 ·intro k hk
  by_cases e:k=r
  ·subst e;simp
  ·rw[dM _ e];exact hg.none_ k hk
 ·intro k hk
  by_cases e:k=r
  ·subst e;simp
  ·rw[dM _ e];exact hg.out_ k (by simpa[e] using hk)
structure Out(base:Nat)(U:Nat->Prop)(w:World)(m:Mem)(G:GS)(m':Mem)(G':GS)(imp rs:List Nat)(N:List Nat):Prop where
 ok:uN base U w m' G'
 le:KE m G m' G'
 E:G'.E=G.E++N
 out:∀r,r∈G'.out↔r∈G.out\/r∈rs
 μ:G'.μ=G.μ
 here:∀k,k∈imp->get k m'=get k m
def sameKind:Cell->Cell->Prop
 | .box t _,.box t' _=>t=t'
 | .arr _ fl ver s _,.arr _ fl' dP s' _=>ver=0/\dP=0/\fl=fl'/\s=s'
 |_,_=>False
def kinds(m:Mem):List Nat->List Cell->Prop
 |[],cs=>cs=[]
 |r::rs,cs=>∃c c' cs',cs=c'::cs'/\get r m=some c/\sameKind c c'/\kinds m rs cs'
def O9{m m':Mem}:∀{rs:List Nat} {cs:List Cell},(∀r,r∈rs->get r m'=get r m)->kinds m rs cs->kinds m' rs cs
 |[],_,_,q=>q
 |r::rs,_,h,⟨c,c',cs',h1,h2,h3,h4⟩=>⟨c,c',cs',h1,(h r (by simp)).trans h2,h3,O9 (λk hk=>h k (by simp[hk])) h4⟩
def Qm{A:ZU}{imp:List Nat}:∀{rs:List Nat} {m:Mem} {G:GS} (_:uN base U w m G) (_:rs.Nodup) (_:∀r,r∈rs->r∈imp/\r ∉ G.out) (_:∀r,r∈G.out->r∈imp) {cs:List Cell} {m':Mem} {l l':Log}
  (_:(KI A imp rs).run m l=some (cs,m',l')),∃G' N,Out base U w m G m' G' imp rs N/\cellsB (aX w) (Gh U w G') cs (rs.map G.μ) N/\kinds m rs cs
 |[],m,G,hg,hn,hr,ho,cs,m',l,l',h=>by simp only[KI,run_pure,dG,eH] at h;obtain⟨rfl,rfl,rfl⟩:=h;exact⟨G,[],⟨hg,KE.refl _ _,by simp,λr=>by simp,rfl,λ_ _=>rfl⟩,⟨rfl,rfl⟩,rfl⟩
 |r::rs,m,G,hg,hn,hr,ho,cs,m',l,l',h=>by
  simp only[KI] at h;replace h:=ah h;obtain⟨c,m1,l1,h1,h⟩:=h;rw[jV] at h1;cases h1;replace h:=ah h;obtain⟨c1,m1,l1,h1,h⟩:=h;replace h:=ah h;obtain⟨cs1,m2,l2,h2,h⟩:=h;simp only[run_pure,dG,eH] at h;obtain⟨rfl,rfl,rfl⟩:=h;have hri:=hr r (by simp);have hnr:=List.nodup_cons.1 hn;have step:∃G' N,Out base U w m G m1 G' imp [r] N/\Z8 (aX w) (Gh U w G') c1 (G.μ r) N/\∃c,get r m=some c/\sameKind c c1:=by
   cases hc:get r m with
   |none=>rw[hc] at h1;exact(ak h1).elim
   |some c=>
    rw[hc] at h1;have hq:=hg.cell r c hc hri.2;obtain⟨k1,k2⟩:=hg.akT hc hri.2;cases c with
    |dead=>exact(ak h1).elim
    |xk _ _ _=>exact(ak h1).elim
    |jM _ _=>exact(ak h1).elim
    |jB _ _ _ _ _=>exact(ak h1).elim
    |box t vs=>
     simp only[YJ] at h1;replace h1:=ah h1;obtain⟨vs',m3,l3,h3,h1⟩:=h1;simp only[run_pure,dG,eH] at h1;obtain⟨rfl,rfl,rfl⟩:=h1;obtain⟨b,a,e1,e2,e3,e4⟩:=hq;obtain⟨G2,N2,xs,rfl,hlen,t2,q2,i2⟩:=Q9 k1 (k2.bD e3) (λk hk=>by
      simp only[List.mem_cons] at hk;rcases hk with rfl|hk
      ·exact hri.1
      ·exact ho k hk) h3
     refine⟨G2,b::N2,⟨t2.ok,k2.trans t2.le,by rw[t2.E,e4];simp,λk=>by rw[t2.out];simp[or_comm],t2.μ,i2⟩,⟨b,a,xs,N2,e1,e2,rfl,hlen,q2,rfl⟩,_,rfl,rfl⟩
    |arr fz fl ver s rows=>
     simp only[YJ] at h1;replace h1:=ah h1;obtain⟨_,m3,l3,h3,h1⟩:=h1;obtain⟨hfz,rfl,rfl⟩:=bG h3;replace h1:=ah h1;obtain⟨_,m3,l3,h3,h1⟩:=h1;obtain⟨hv0,rfl,rfl⟩:=bG h3;simp only[run_pure,dG,eH] at h1;obtain⟨rfl,rfl,rfl⟩:=h1;have hfz:fz=false:=by simpa using hfz
     subst hfz;have hv0:=lq hv0;subst hv0;refine⟨_,G.F r,⟨k1,k2,rfl,λk=>by simp[or_comm],rfl,λ_ _=>rfl⟩,⟨rfl,rfl,yT k2.view (λ_ _=>rfl) hq⟩,_,rfl,rfl,rfl,rfl,rfl⟩
  obtain⟨G1,N1,o1,q1,c0,hc0,hk0⟩:=step;obtain⟨G2,N2,o2,q2,kd2⟩:=Qm o1.ok hnr.2 (λk hk=>⟨(hr k (by simp[hk])).1,λhko=>by
   rcases(o1.out k).1 hko with h|h
   ·exact(hr k (by simp[hk])).2 h
   ·simp at h;subst h;exact hnr.1 hk⟩) (λk hk=>by
   rcases(o1.out k).1 hk with h|h
   ·exact ho k h
   ·simp at h;subst h;exact hri.1) h2
  refine⟨G2,N1++N2,⟨o2.ok,o1.le.trans o2.le,by rw[o2.E,o1.E,BD],λk=> ?_,o2.μ.trans o1.μ,λk hk=>(o2.here k hk).trans (o1.here k hk)⟩,⟨G.μ r,rs.map G.μ,N1,N2,rfl,rfl,Uk o2.le.view (λ_ _=>rfl) q1,by rw[<-o1.μ];exact q2⟩,c0,c1,cs1,rfl,hc0,hk0,O9 (λk hk=>(o1.here k (hr k (by simp[hk])).1).symm) kd2⟩;rw[o2.out,o1.out];simp[or_assoc]
end
end Go.Vm
namespace Go.Vm
open Go
section
variable {base:Nat} {U:Nat->Prop} {w:World} {m:Mem} {G:GS}
def Pg{r:Nat}{l:List Nat}(h:l.Nodup):(YI r l).Nodup:=by
 unfold YI;cases hm:mem? r l with
 |true=>exact h
 |false=>
  have:r ∉ l:=λhr=>by rw[(qw r l).2 hr] at hm;cases hm
  exact List.nodup_append.2 ⟨h,by simp,λa ha b hb e=>by simp at hb;subst hb;subst e;exact this ha⟩
mutual
def N7:∀(v:V) (I:List Nat),I.Nodup->(ZY I v).Nodup
 | .ptr r _,I,h=>by simp only[ZY];exact Pg h
 | .clo _ a b,I,h=>by simp only[ZY];exact Ii b _ (Ii a _ h)
 | .agg cs,I,h=>by simp only[ZY];exact Ii cs _ h
 | .d _,I,h=>h
 | .nil _,I,h=>h
 | .own _ _,I,h=>h
 | .lI _ _ _ _,I,h=>h
 | .lS _ _,I,h=>h
 | .sG v,I,h=>by simp only[ZY];exact N7 v I h
 | .Gz _,I,h=>h
 | .undef,I,h=>h
def Ii:∀(vs:List V) (I:List Nat),I.Nodup->(Xi I vs).Nodup
 |[],I,h=>h
 |v::vs,I,h=>by simp only[Xi];exact Ii vs _ (N7 v I h)
end
def Nh(A:ZU)(f:Nat):∀(vs:List V) (i:Nat) (I:List Nat),I.Nodup->(F7 A f i I vs).Nodup
 |[],_,I,h=>h
 |v::vs,i,I,h=>by
  simp only[F7];refine Nh A f vs _ _ ?_;split
  ·exact Pg h
  ·exact h
  ·exact N7 _ _ h
def F8(A:ZU)(f:Nat)(μ:Nat->Value)(m:Mem)(H:Heap)(h:View):Nat->List V->List Value->List Nat->Prop
 |_,[],gs,N=>gs=[]/\N=[]
 |i,v::vs,gs,N=>∃g gs' N1 N2,gs=g::gs'/\N=N1++N2/\(match vI A f i with
   |1=>∃x,v=.d x/\ow H h x g N1
   |_=>N1=[]/\aC μ m h v g)/\F8 A f μ m H h (i+1) vs gs' N2
def I9{A:ZU}{f:Nat}{μ μ':Nat->Value}{m m':Mem}{H H':Heap}{h h':View}(hm:sF μ m μ' m')(hl:h.le h'):∀{vs:List V} {i:Nat} {gs:List Value} {N:List Nat},(∀b,b∈N->H' b=H b)->
  F8 A f μ m H h i vs gs N->F8 A f μ' m' H' h' i vs gs N
 |[],_,_,_,_,q=>q
 |v::vs,i,gs,N,hb,q=>by
  simp only[F8] at q|-;obtain⟨g,gs',N1,N2,rfl,rfl,h3,h4⟩:=q;refine⟨g,gs',N1,N2,rfl,rfl, ?_,I9 hm hl (λb hx=>hb b (by simp[hx])) h4⟩;split at h3
  ·rename_i hmo;obtain⟨x,hx,hq⟩:=h3;exact⟨x,hx,Tv hl x g N1 (λb hx=>hb b (by simp[hx])) hq⟩
  ·exact⟨h3.1,pY hm hl v g h3.2⟩
def Rh{A:ZU}{f:Nat}:∀{vs:List V} {gs:List Value} {m:Mem} {G:GS} {i:Nat} (_:uN base U w m G) (_:bD G.μ m (Gh U w G) vs gs) (_:G.out=[]) {vs':List V} {m':Mem} {l l':Log}
  (_:(I4 A f i vs).run m l=some (vs',m',l')),∃G' N,Bz base U w m G m' G' N/\F8 A f G'.μ m' (aX w) (Gh U w G') i vs' gs N
 |[],gs,m,G,i,hg,hv,ho,vs',m',l,l',h=>by simp only[I4,run_pure,dG,eH] at h;obtain⟨rfl,rfl,rfl⟩:=h;simp only[bD] at hv;exact⟨G,[],Bz.same hg,hv,rfl⟩
 |v::vs,gs,m,G,i,hg,hv,ho,vs',m',l,l',h=>by
  obtain⟨g,gs',rfl,hv1,hv2⟩:=jl hv;simp only[I4] at h;replace h:=ah h;obtain⟨x,m1,l1,h1,h⟩:=h;replace h:=ah h;obtain⟨ys,m2,l2,h2,h⟩:=h;simp only[run_pure,dG,eH] at h;obtain⟨rfl,rfl,rfl⟩:=h;have step:∃G1 N1,Bz base U w m G m1 G1 N1/\(match vI A f i with
   |1=>∃y,x=.d y/\ow (aX w) (Gh U w G1) y g N1
   |_=>N1=[]/\aC G1.μ m1 (Gh U w G1) x g):=by
   split at h1
   ·rename_i hmo;replace h1:=ah h1;obtain⟨y,m3,l3,h3,h1⟩:=h1;simp only[run_pure,dG,eH] at h1;obtain⟨rfl,rfl,rfl⟩:=h1;obtain⟨G1,N1,t1,q1⟩:=afo hg hv1 ho h3;refine⟨G1,N1,t1, ?_⟩
    try rw[hmo]
    exact⟨y,rfl,q1⟩
   ·rename_i hmo;simp only[run_pure,dG,eH] at h1;obtain⟨rfl,rfl,rfl⟩:=h1;refine⟨G,[],Bz.same hg, ?_⟩
    first
     |exact⟨rfl,hv1⟩
     |split
      ·rename_i e;exact absurd e hmo
      ·exact⟨rfl,hv1⟩
  obtain⟨G1,N1,t1,q1⟩:=step;obtain⟨G2,N2,t2,q2⟩:=Rh t1.ok (t1.le.bD hv2) (t1.out.trans ho) h2;refine⟨G2,N1++N2,t1.trans t2, ?_⟩;simp only[F8];refine⟨g,gs',N1,N2,rfl,rfl, ?_,q2⟩;split at q1
  ·obtain⟨y,hy,hq⟩:=q1;exact⟨y,hy,JD t2.le.view hq⟩
  ·exact⟨q1.1,t2.le.aC q1.2⟩
def Ul:∀(cs:List Cell) (k i:Nat),get (jf+(k+i)) (kP k cs)=cs[i]?
 |[],_,_=>by simp[kP,get]
 |c::cs,k,0=>by simp[kP,get]
 |c::cs,k,i+1=>by simp only[kP,get];rw[lT au];simp only[dX,List.getElem?_cons_succ];rw[<-Ul cs (k+1) i,show k+1+i=k+(i+1) from by omega]
def Fh(cs:List Cell)(i:Nat):get (jf+i) (kP 0 cs)=cs[i]? :=by
 have:=Ul cs 0 i
 rwa [Nat.zero_add] at this
def impμ(hs:List Value):Nat->Value:=λk=>hs.getD (k - jf) undef
def N8{r:Nat}:∀{l:List Nat} {k i:Nat},idxOf r k l=some i->k<=i/\l[i - k]? =some r
 |[],_,_,h=>by simp[idxOf] at h
 |j::l,k,i,h=>by
  simp only[idxOf] at h
  by_cases e:r=j
  ·subst e;simp at h;subst h;simp
  ·rw[lT e] at h;simp only[dX] at h;obtain⟨h1,h2⟩:=N8 h;refine⟨au, ?_⟩;rw[show i - k=(i - (k+1))+1 from by omega,List.getElem?_cons_succ];exact h2
def Ph{m:Mem}:∀{rs:List Nat} {cs:List Cell} {i r:Nat},kinds m rs cs->rs[i]? =some r->∃c c',get r m=some c/\cs[i]? =some c'/\sameKind c c'
 |[],_,_,_,_,h=>by simp at h
 |r::rs,_,0,r',⟨c,c',cs',h1,h2,h3,_⟩,h=>by simp at h;subst h;subst h1;exact⟨c,c',h2,rfl,h3⟩
 |r::rs,_,i+1,r',⟨c,c',cs',h1,h2,h3,h4⟩,h=>by subst h1;simp only[List.getElem?_cons_succ] at h|-;exact Ph h4 h
def KR(U:Nat->Prop)(G:GS)(L:List Nat):Nat->Prop:=λb=>U b/\∀r,b∈G.F r->r∈L
def F9{L:List Nat}:(Gh U w G).le (view w (KR U G L) (· ∈G.E)):=by
 intro b o v hv;unfold Gh view at hv;split at hv
 ·rename_i hc;unfold view;rw[if_pos ⟨⟨hc.1,λr hr=>absurd (.inr ⟨r,hr⟩) hc.2⟩,λhE=>hc.2 (.inl hE)⟩];exact hv
 ·cases hv
structure Xo(base:Nat)(U:Nat->Prop)(w:World)(m:Mem)(G:GS)(imp:List Nat)(cells:List Cell):Prop where
 ok:uN base U w m G
 out:∀r,r∈G.out↔r∈imp
 kd:kinds m imp cells
def ahA(hg:uN base U w m G){r:Nat}{fz fl:Bool}{ver s:Nat}{rows:List Row}(hc:get r m=some (.arr fz fl ver s rows))(hro:r ∉ G.out){L:List Nat}(hL:fz=false->r∈L)(o:Bool):
  ro (view w (KR U G L) (· ∈G.E)) (.sl o s rows) (G.μ r):=by
 have hq:=hg.cell r _ hc hro;cases fz with
 |true=>exact KP (yS F9 _ _ hq.1)
 |false=>
  refine YN F9 (yV λb hb=>⟨⟨(hg.lt b (.inr ⟨r,hb⟩)).2.2,λk hk=> ?_⟩,hg.OM r b hb⟩) hq o
  by_cases e:k=r
  ·rw[e];exact hL rfl
  ·exact absurd hk (hg.dj r k (Ne.symm e) b hb)
mutual
def TA{imp:List Nat}{cells:List Cell}(C:Xo base U w m G imp cells):∀{v:V} {g:Value} (_:aC G.μ m (Gh U w G) v g) {v':V} {lt:List Nat} {m':Mem} {l l':Log}
  (_:(lend imp v).run m l=some ((v',lt),m',l')),m'=m/\∀L:List Nat,(∀r,r∈lt->r∈L)->aC (impμ (imp.map G.μ)) (kP 0 cells) (view w (KR U G L) (· ∈G.E)) v' g
 | .d x,g,hv,v',lt,m',l,l',h=>by simp only[lend,run_pure,dG,eH] at h;obtain⟨⟨rfl,rfl⟩,rfl,rfl⟩:=h;refine⟨rfl,λL hL=> ?_⟩;simp only[aC] at hv|-;exact yS F9 _ _ (afm hv)
 | .nil s,g,hv,v',lt,m',l,l',h=>by simp only[lend,run_pure,dG,eH] at h;obtain⟨⟨rfl,rfl⟩,rfl,rfl⟩:=h;refine⟨rfl,λL hL=> ?_⟩;simp only[aC] at hv|-;simp[ro,hv]
 | .own r ver,g,hv,v',lt,m',l,l',h=>by
  simp only[lend] at h;replace h:=ah h;obtain⟨c,m1,l1,h1,h⟩:=h;rw[jV] at h1;cases h1;cases hc:get r m with
  |none=>rw[hc] at h;exact(ak h).elim
  |some c=>
   rw[hc] at h;cases c with
   |box _ _=>exact(ak h).elim
   |dead=>exact(ak h).elim
   |xk _ _ _=>exact(ak h).elim
   |jM _ _=>exact(ak h).elim
   |jB _ _ _ _ _=>exact(ak h).elim
   |arr fz fl dP s rows=>
    simp only at h;replace h:=ah h;obtain⟨_,m2,l2,h1,h⟩:=h;obtain⟨hb,rfl,rfl⟩:=bG h1;have hb:=lq hb;subst hb;replace h:=ah h;obtain⟨_,m2,l2,h1,h⟩:=h;obtain⟨hi,rfl,rfl⟩:=bG h1;simp only[run_pure,dG,eH] at h;obtain⟨⟨rfl,rfl⟩,rfl,rfl⟩:=h;simp only[aC,hc] at hv;have hv:=hv.2.2 trivial;subst hv;refine⟨rfl,λL hL=> ?_⟩;have hro:r ∉ G.out:=λhr=>GV hi ((C.out r).1 hr)
    simp only[aC];exact Ui (ahA C.ok hc hro (λhf=>hL r (by subst hf;simp)) true)
 | .ptr r off,g,hv,v',lt,m',l,l',h=>by simp only[lend] at h;replace h:=ah h;obtain⟨i,m1,l1,h1,h⟩:=h;obtain⟨hi,rfl,rfl⟩:=dn h1;simp only[run_pure,dG,eH] at h;obtain⟨⟨rfl,rfl⟩,rfl,rfl⟩:=h;refine⟨rfl,λL hL=> ?_⟩;obtain⟨_,h2⟩:=N8 hi;rw[Nat.sub_zero] at h2;obtain⟨c,c',k1,k2,k3⟩:=Ph C.kd h2;simp only[aC,k1] at hv;simp only[aC,Fh,k2];refine⟨hv.1, ?_⟩;replace hv:=hv.2;cases c<;>cases c'<;>simp only[sameKind] at k3 hv|-;obtain⟨b,e1,e2⟩:=hv;refine⟨b, ?_,e2⟩;simp only[impμ,Nat.add_sub_cancel_left,List.getD_eq_getElem?_getD,List.getElem?_map,h2,Eh,Option.getD_some,e1]
 | .lS row off,g,hv,v',lt,m',l,l',h=>by simp only[lend,run_pure,dG,eH] at h;obtain⟨⟨rfl,rfl⟩,rfl,rfl⟩:=h;refine⟨rfl,λL hL=> ?_⟩;simp only[aC] at hv|-;obtain⟨b,o,e1,e2⟩:=hv;exact⟨b,o,e1,DT F9 row b o e2⟩
 | .sG v,g,hv,v',lt,m',l,l',h=>by simp only[lend] at h;replace h:=ah h;obtain⟨⟨a',la⟩,m1,l1,h1,h⟩:=h;simp only[run_pure,dG,eH] at h;obtain⟨⟨rfl,rfl⟩,rfl,rfl⟩:=h;simp only[aC] at hv;obtain⟨b,x,rfl,e2,e3⟩:=hv;obtain⟨hm1,q1⟩:=TA C e3 h1;refine⟨hm1,λL hL=> ?_⟩;simp only[aC];exact⟨b,x,rfl,F9 _ _ _ e2,q1 L hL⟩
 | .clo f a b,g,hv,v',lt,m',l,l',h=>by simp only[lend] at h;replace h:=ah h;obtain⟨⟨a',la⟩,m1,l1,h1,h⟩:=h;simp only at h;replace h:=ah h;obtain⟨⟨b',lb⟩,m2,l2,h2,h⟩:=h;simp only[run_pure,dG,eH] at h;obtain⟨⟨rfl,rfl⟩,rfl,rfl⟩:=h;simp only[aC] at hv;obtain⟨x,y,rfl,e2,e3⟩:=hv;obtain⟨hm1,q1⟩:=Pj C e2 h1;rw[hm1] at h2;obtain⟨hm2,q2⟩:=Pj C e3 h2;refine⟨hm2,λL hL=> ?_⟩;simp only[aC];exact⟨x,y,rfl,q1 L (λr hr=>hL r (by simp[hr])),q2 L (λr hr=>hL r (by simp[hr]))⟩
 | .agg cs,g,hv,v',lt,m',l,l',h=>by simp only[lend] at h;replace h:=ah h;obtain⟨⟨a',la⟩,m1,l1,h1,h⟩:=h;simp only[run_pure,dG,eH] at h;obtain⟨⟨rfl,rfl⟩,rfl,rfl⟩:=h;simp only[aC] at hv;obtain⟨x,rfl,e2⟩:=hv;obtain⟨hm1,q1⟩:=Pj C e2 h1;refine⟨hm1,λL hL=> ?_⟩;simp only[aC];exact⟨x,rfl,q1 L hL⟩
 | .lI _ _ _ _,g,hv,v',lt,m',l,l',h=>(ak h).elim
 | .Gz _,g,hv,v',lt,m',l,l',h=>(ak h).elim
 | .undef,g,hv,v',lt,m',l,l',h=>(ak h).elim
def Pj{imp:List Nat}{cells:List Cell}(C:Xo base U w m G imp cells):∀{vs:List V} {gs:List Value} (_:bD G.μ m (Gh U w G) vs gs) {vs':List V} {lt:List Nat} {m':Mem} {l l':Log}
  (_:(TY imp vs).run m l=some ((vs',lt),m',l')),m'=m/\∀L:List Nat,(∀r,r∈lt->r∈L)->bD (impμ (imp.map G.μ)) (kP 0 cells) (view w (KR U G L) (· ∈G.E)) vs' gs
 |[],gs,hv,v',lt,m',l,l',h=>by simp only[TY,run_pure,dG,eH] at h;obtain⟨⟨rfl,rfl⟩,rfl,rfl⟩:=h;simp only[bD] at hv;subst hv;exact⟨rfl,λ_ _=>by simp[bD]⟩
 |v::vs,gs,hv,v',lt,m',l,l',h=>by obtain⟨g,gs',rfl,hv1,hv2⟩:=jl hv;simp only[TY] at h;replace h:=ah h;obtain⟨⟨a',la⟩,m1,l1,h1,h⟩:=h;simp only at h;replace h:=ah h;obtain⟨⟨b',lb⟩,m2,l2,h2,h⟩:=h;simp only[run_pure,dG,eH] at h;obtain⟨⟨rfl,rfl⟩,rfl,rfl⟩:=h;obtain⟨hm1,q1⟩:=TA C hv1 h1;rw[hm1] at h2;obtain⟨hm2,q2⟩:=Pj C hv2 h2;refine⟨hm2,λL hL=> ?_⟩;simp only[bD];exact⟨g,gs',rfl,q1 L (λr hr=>hL r (by simp[hr])),q2 L (λr hr=>hL r (by simp[hr]))⟩
end
def Pm{imp:List Nat}{cells:List Cell}(C:Xo base U w m G imp cells):∀{vs:List V} {gs:List Value} (_:bD G.μ m (Gh U w G) vs gs) {row:Row} {lt:List Nat} {m':Mem} {l l':Log}
  (_:(I5 imp vs).run m l=some ((row,lt),m',l')),m'=m/\∀L:List Nat,(∀r,r∈lt->r∈L)->dY (view w (KR U G L) (· ∈G.E)) row gs
 |[],gs,hv,row,lt,m',l,l',h=>by simp only[I5,run_pure,dG,eH] at h;obtain⟨⟨rfl,rfl⟩,rfl,rfl⟩:=h;exact⟨rfl,λ_ _=>by simp[dY]⟩
 |v::vs,gs,hv,row,lt,m',l,l',h=>by
  obtain⟨g,gs',rfl,hv1,hv2⟩:=jl hv;simp only[I5] at h;replace h:=ah h;obtain⟨⟨a',la⟩,m1,l1,h1,h⟩:=h;obtain⟨hm1,q1⟩:=TA C hv1 h1;cases a' with
  |d x=>simp only at h;replace h:=ah h;obtain⟨⟨b',lb⟩,m2,l2,h2,h⟩:=h;simp only[run_pure,dG,eH] at h;obtain⟨⟨rfl,rfl⟩,rfl,rfl⟩:=h;rw[hm1] at h2;obtain⟨hm2,q2⟩:=Pm C hv2 h2;refine⟨hm2,λL hL=> ?_⟩;have:=q1 L (λr hr=>hL r (by simp[hr]));simp only[aC] at this;exact⟨g,gs',rfl,this,q2 L (λr hr=>hL r (by simp[hr]))⟩
  |_=>exact(ak h).elim
def abO{imp:List Nat}{cells:List Cell}(C:Xo base U w m G imp cells){v:V}{g:Value}(hv:aC G.μ m (Gh U w G) v g){v':V}{lt:List Nat}{m':Mem}{l l':Log}
  (h:(Tt imp v).run m l=some ((v',lt),m',l')):m'=m/\∀L:List Nat,(∀r,r∈lt->r∈L)->aC (impμ (imp.map G.μ)) (kP 0 cells) (view w (KR U G L) (· ∈G.E)) v' g:=by
 cases v with
 |ptr r off=>
  simp only[Tt] at h;replace h:=ah h;obtain⟨c,m1,l1,h1,h⟩:=h;rw[jV] at h1;cases h1;cases hc:get r m with
  |none=>rw[hc] at h;exact(ak h).elim
  |some c=>
   rw[hc] at h;cases c with
   |box t cs=>
    simp only at h;replace h:=ah h;obtain⟨_,m2,l2,h1,h⟩:=h;obtain⟨hi,rfl,rfl⟩:=bG h1;replace h:=ah h;obtain⟨⟨row,la⟩,m2,l2,h1,h⟩:=h;simp only[run_pure,dG,eH] at h;obtain⟨⟨rfl,rfl⟩,rfl,rfl⟩:=h;have hro:r ∉ G.out:=λhr=>GV hi ((C.out r).1 hr)
    obtain⟨b,a,e1,e2,e3,e4⟩:=C.ok.cell r _ hc hro;obtain⟨hm,q⟩:=Pm C e3 h1;refine⟨hm,λL hL=> ?_⟩;simp only[aC,hc] at hv|-;obtain⟨b',e5,e6⟩:=hv.2;rw[e1] at e5;cases e5;refine⟨b,0,by rw[Nat.zero_add];exact e6,NV row 0 a.toList (λj u hj=> ?_) (q L (λk hk=>hL k (by simp[hk])))⟩;rw[Nat.zero_add];have hb:b∈G.F r:=by rw[e4];simp
    refine yV (N:=[b]) (λb' hb'=> ?_) b (by simp) a t _ e2 j u hj;simp only[List.mem_singleton] at hb';subst hb';refine⟨⟨(C.ok.lt _ (.inr ⟨r,hb⟩)).2.2,λk hk=> ?_⟩,C.ok.OM r _ hb⟩
    by_cases e:k=r
    ·rw[e];exact hL r (by simp)
    ·exact absurd hk (C.ok.dj r k (Ne.symm e) _ hb)
   |_=>exact(ak h).elim
 |lS row off=>simp only[Tt,run_pure,dG,eH] at h;obtain⟨⟨rfl,rfl⟩,rfl,rfl⟩:=h;refine⟨rfl,λL hL=> ?_⟩;simp only[aC] at hv|-;obtain⟨b,o,e1,e2⟩:=hv;exact⟨b,o,e1,DT F9 row b o e2⟩
 |_=>exact(ak h).elim
def Ri{A:ZU}{f:Nat}{imp:List Nat}{cells:List Cell}(C:Xo base U w m G imp cells):
  ∀{vs:List V} {gs:List Value} {i:Nat} {N:List Nat} (_:F8 A f G.μ m (aX w) (Gh U w G) i vs gs N) {vs':List V} {lt:List Nat} {m':Mem} {l l':Log}
  (_:(I7 A imp f i vs).run m l=some ((vs',lt),m',l')),m'=m/\∀L:List Nat,(∀r,r∈lt->r∈L)->F8 A f (impμ (imp.map G.μ)) (kP 0 cells) (aX w) (view w (KR U G L) (· ∈G.E)) i vs' gs N
 |[],gs,i,N,hv,v',lt,m',l,l',h=>by simp only[I7,run_pure,dG,eH] at h;obtain⟨⟨rfl,rfl⟩,rfl,rfl⟩:=h;exact⟨rfl,λ_ _=>hv⟩
 |v::vs,gs,i,N,hv,v',lt,m',l,l',h=>by
  simp only[F8] at hv;obtain⟨g,gs',N1,N2,rfl,rfl,hv1,hv2⟩:=hv;simp only[I7] at h;replace h:=ah h;obtain⟨⟨a',la⟩,m1,l1,h1,h⟩:=h;simp only at h;replace h:=ah h;obtain⟨⟨b',lb⟩,m2,l2,h2,h⟩:=h;simp only[run_pure,dG,eH] at h;obtain⟨⟨rfl,rfl⟩,rfl,rfl⟩:=h;have step:m1=m/\∀L:List Nat,(∀r,r∈la->r∈L)->(match vI A f i with
   |1=>∃x,a'=.d x/\ow (aX w) (view w (KR U G L) (· ∈G.E)) x g N1
   |_=>N1=[]/\aC (impμ (imp.map G.μ)) (kP 0 cells) (view w (KR U G L) (· ∈G.E)) a' g):=by
   split at h1
   ·rename_i hmo;rw[hmo] at hv1|-;simp only[run_pure,dG,eH] at h1;obtain⟨⟨rfl,rfl⟩,rfl,rfl⟩:=h1;refine⟨rfl,λL hL=> ?_⟩;obtain⟨x,hx,hq⟩:=hv1;exact⟨x,hx,JD F9 hq⟩
   ·rename_i hmo;rw[hmo] at hv1|-;obtain⟨hN,hv1⟩:=hv1;cases v with
    |own r ver=>simp only at h1;replace h1:=ah h1;obtain⟨_,m3,l3,h3,h1⟩:=h1;obtain⟨hb,rfl,rfl⟩:=bG h3;have hb:=lq hb;subst hb;replace h1:=ah h1;obtain⟨j,m3,l3,h3,h1⟩:=h1;obtain⟨hj,rfl,rfl⟩:=dn h3;simp only[run_pure,dG,eH] at h1;obtain⟨⟨rfl,rfl⟩,rfl,rfl⟩:=h1;refine⟨rfl,λL hL=>⟨hN, ?_⟩⟩;obtain⟨_,h2⟩:=N8 hj;rw[Nat.sub_zero] at h2;obtain⟨c,c',k1,k2,k3⟩:=Ph C.kd h2;simp only[aC,k1] at hv1;simp only[aC,Fh,k2];refine⟨hv1.1, ?_⟩;replace hv1:=hv1.2;cases c<;>cases c'<;>simp only[sameKind] at k3 hv1|-;refine⟨au,λ_=> ?_⟩;simp only[impμ,Nat.add_sub_cancel_left,List.getD_eq_getElem?_getD,List.getElem?_map,h2,Eh,Option.getD_some];exact hv1.2 k3.1.symm
    |d _=>exact(ak h1).elim
    |nil _=>exact(ak h1).elim
    |ptr _ _=>exact(ak h1).elim
    |lI _ _ _ _=>exact(ak h1).elim
    |lS _ _=>exact(ak h1).elim
    |sG _=>exact(ak h1).elim
    |clo _ _ _=>exact(ak h1).elim
    |agg _=>exact(ak h1).elim
    |Gz _=>exact(ak h1).elim
    |undef=>exact(ak h1).elim
   ·rename_i hmo;rw[hmo] at hv1|-;obtain⟨hN,hv1⟩:=hv1;cases v with
    |nil s=>simp only[run_pure,dG,eH] at h1;obtain⟨⟨rfl,rfl⟩,rfl,rfl⟩:=h1;exact⟨rfl,λL hL=>⟨hN,hv1⟩⟩
    |d _=>exact(ak h1).elim
    |own _ _=>exact(ak h1).elim
    |ptr _ _=>exact(ak h1).elim
    |lI _ _ _ _=>exact(ak h1).elim
    |lS _ _=>exact(ak h1).elim
    |sG _=>exact(ak h1).elim
    |clo _ _ _=>exact(ak h1).elim
    |agg _=>exact(ak h1).elim
    |Gz _=>exact(ak h1).elim
    |undef=>exact(ak h1).elim
   ·rename_i hmo;rw[hmo] at hv1|-;obtain⟨hN,hv1⟩:=hv1;obtain⟨rfl,q⟩:=abO C hv1 h1;exact⟨rfl,λL hL=>⟨hN,q L hL⟩⟩
   ·rename_i afp aD6 aD7 aD8;have hm1:∀(α:Prop) (β:Prop),(match vI A f i with|1=>α|_=>β)=β:=by
     intro α β;split
     ·rename_i e;exact absurd e afp
     ·rfl
    rw[hm1] at hv1;obtain⟨hN,hv1⟩:=hv1;obtain⟨rfl,q⟩:=TA C hv1 h1;refine⟨rfl,λL hL=> ?_⟩;rw[hm1];exact⟨hN,q L hL⟩
  obtain⟨hm1,q1⟩:=step;rw[hm1] at h2;obtain⟨hm2,q2⟩:=Ri C hv2 h2;refine⟨hm2,λL hL=> ?_⟩;simp only[F8];exact⟨g,gs',N1,N2,rfl,rfl,q1 L (λr hr=>hL r (by simp[hr])),q2 L (λr hr=>hL r (by simp[hr]))⟩
end
end Go.Vm
namespace Go.Vm
open Go
def DU{w:World}{U X:Nat->Prop}{b o:Nat}{v:Value}(h:view w U X b o=some v):U b/\¬X b/\w.cell? ⟨b,o,none⟩=some v:=by
 unfold view at h;split at h
 ·rename_i hc;exact⟨hc.1,hc.2,h⟩
 ·cases h
def TB{w:World}{U X:Nat->Prop}{b o:Nat}{v:Value}(h1:U b)(h2:¬X b)(h3:w.cell? ⟨b,o,none⟩=some v):view w U X b o=some v:=by unfold view;rw[if_pos ⟨h1,h2⟩];exact h3
def cell_of_heap{w w':World}{b:Nat}(h:w'.heap[b]? =w.heap[b]?)(o:Nat):w'.cell? ⟨b,o,none⟩=w.cell? ⟨b,o,none⟩:=by simp[World.cell?,h]
def lt_of_cell{w:World}{b o:Nat}{v:Value}(h:w.cell? ⟨b,o,none⟩=some v):b<w.heap.size:=by have:=block_lt_of_cell h;simpa using this
section
variable {base:Nat} {U:Nat->Prop} {w w':World} {m:Mem} {G:GS}
def uN.world(hg:uN base U w m G)(hk:Keep G.E w w'){E':List Nat}(hn:E'.Nodup)(hE:∀b,b∈E'->(b∈G.E\/w.heap.size<=b)/\b<w'.heap.size):
  uN base U w' m {G with E:=E'}/\(Gh U w G).le (Gh U w' {G with E:=E'}):=by
 have hnE:∀b,b<w.heap.size->b ∉ G.E->b ∉ E':=λb hb hx he=>by
  rcases(hE b he).1 with h|h
  ·exact hx h
  ·omega
 have hF:∀r b,b∈G.F r->w'.heap[b]? =w.heap[b]? :=λr b hb=>hk.block b (hg.lt b (.inr ⟨r,hb⟩)).1 (hg.OM r b hb)
 have hle:(Gh U w G).le (Gh U w' {G with E:=E'}):=by
  intro b o v hv;obtain⟨h1,h2,h3⟩:=DU hv;have hlt:=lt_of_cell h3;have hbE:b ∉ G.E:=λh=>h2 (.inl h)
  refine TB h1 ?_ ((cell_of_heap (hk.block b hlt hbE) o).trans h3);rintro(h|h)
  ·exact hnE b hlt hbE h
  ·exact h2 (.inr h)
 refine⟨⟨?_,hg.dj,λr b hb=>hnE b (hg.lt b (.inr ⟨r,hb⟩)).1 (hg.OM r b hb),hg.nd,hn, ?_,λb hb=>hg.up b (Nat.le_trans hk.size hb),Nat.le_trans hg.bs hk.size,hg.none_,hg.out_⟩,hle⟩
 ·intro r c hc ho;exact yU (kQ _ _) hle rfl (λb hb=>hF r b hb) (hg.cell r c hc ho)
 ·rintro b (h|⟨r,h⟩)
  ·refine⟨(hE b h).2, ?_⟩;rcases(hE b h).1 with h'|h'
   ·exact(hg.lt b (.inl h')).2
   ·exact⟨Nat.le_trans hg.bs h',hg.up b h'⟩
  ·have:=hg.lt b (.inr ⟨r,h⟩);exact⟨Nat.lt_of_lt_of_le this.1 hk.size,this.2⟩
def Xp:∀{L:List Nat} {m:Mem} {G:GS} (_:uN base U w m G) (_:∀r,r∈L->r ∉ G.out) {x:Unit} {m':Mem} {l l':Log} (_:(freeze L).run m l=some (x,m',l')),
  ∃F',uN base U w m' ⟨G.μ,F',G.E,G.out⟩/\KE m G m' ⟨G.μ,F',G.E,G.out⟩/\(∀r,r∈L->F' r=[])/\(∀r,F' r=[]\/F' r=G.F r)/\(∀k,k ∉ L->get k m'=get k m)
 |[],m,G,hg,ho,x,m',l,l',h=>by simp only[Vm.freeze,run_pure,dG,eH] at h;obtain⟨_,rfl,rfl⟩:=h;exact⟨G.F,hg,KE.refl _ _,by simp,λr=> .inr rfl,λ_ _=>rfl⟩
 |r::L,m,G,hg,ho,x,m',l,l',h=>by
  simp only[Vm.freeze] at h;replace h:=ah h;obtain⟨c,m1,l1,h1,h⟩:=h;rw[jV] at h1;cases h1;cases hc:get r m with
  |none=>rw[hc] at h;exact(ak h).elim
  |some c=>
   rw[hc] at h;cases c with
   |box _ _=>exact(ak h).elim
   |dead=>exact(ak h).elim
   |xk _ _ _=>exact(ak h).elim
   |jM _ _=>exact(ak h).elim
   |jB _ _ _ _ _=>exact(ak h).elim
   |arr fz fl ver s rows=>
    replace h:=ah h;obtain⟨_,m1,l1,h1,h⟩:=h;simp only[nS,dG,eH] at h1;obtain⟨_,rfl,rfl⟩:=h1;obtain⟨k1,k2,_⟩:=hg.freeze hc (ho r (by simp));obtain⟨F',q1,q2,q3,q4,q5⟩:=Xp k1 (λk hk=>ho k (by simp[hk])) h;refine⟨F',q1,k2.trans q2, ?_, ?_, ?_⟩
    ·intro k hk;simp only[List.mem_cons] at hk;rcases hk with rfl|hk
     ·rcases q4 k with e|e
      ·exact e
      ·rw[e];simp
     ·exact q3 k hk
    ·intro k;rcases q4 k with e|e
     ·exact .inl e
     ·by_cases ek:k=r
      ·subst ek;rw[e];left;simp
      ·have e':F' k=Dy G.F r [] k:=e;rw[e',dM _ ek];exact .inr rfl
    ·intro k hk;simp only[List.mem_cons,not_or] at hk;rw[q5 k hk.2,eU hk.1]
def Um{k:IntKind}{x:D}{n:Int}(h:asInt k x=some n):x=.int k n:=by
 cases x<;>simp[asInt] at h;rename_i k' n'
 by_cases e:k'=k
 ·subst e;simp at h;subst h;rfl
 ·simp[e] at h
def Rj{x:D}{b:Bool}(h:asBool x=some b):x=.bool b:=by cases x<;>simp[asBool] at h;subst h;rfl
def Un{x:D}{b:List UInt8}(h:Xf x=some b):x=.str b:=by cases x<;>simp[Xf] at h;subst h;rfl
def Xq{s:Nat}{x:D}{rows:List Row}(h:ae6 s x=some rows):∃o,x=.sl o s rows:=by
 cases x<;>simp[ae6] at h;rename_i o s' rows'
 by_cases e:s'=s
 ·subst e;simp at h;subst h;exact⟨o,rfl⟩
 ·rw[lT e] at h;simp at h
def N9{s:Nat}{x:D}{rows:List Row}(h:ac2 s x=some rows):x=.sl true s rows:=by
 cases x<;>simp[ac2] at h;rename_i o s' rows';cases o<;>simp at h
 by_cases e:s'=s
 ·subst e;simp at h;subst h;rfl
 ·rw[lT e] at h;simp at h
def Z9{row:Row}{j:Nat}{x:D}{r:Row}(h:row.drop j=x::r):nth row j=x/\row.drop (j+1)=r:=by
 have h1:row[j]? =some x:=by
  have:(row.drop j)[0]? =some x:=by rw[h];rfl
  rwa [List.getElem?_drop,Nat.add_zero] at this
 refine⟨by simp[nth,h1], ?_⟩;rw[<-List.drop_drop,h];rfl
def uN.Uo(hg:uN base U w m G){N E:List Nat}(hE:(N++E).Perm G.E):uN base U w m {G with E:=E}/\KE m G m {G with E:=E}/\∀{x:D} {g:Value},ow (aX w) (Gh U w G) x g N->ro (Gh U w {G with E:=E}) x g:=by
 have hnd:=hE.nodup_iff.2 hg.Ug;have hmem:∀b,b∈N++E->b∈G.E:=λb hb=>hE.mem_iff.1 hb
 obtain⟨h1,h2⟩:=hg.less E (List.nodup_append.1 hnd).2.1 (λb hb=>hmem b (by simp[hb]));refine⟨h1,h2,fun{x g} q=>akS h2.view x g N (yV λb hb=>⟨(hg.lt b (.inl (hmem b (by simp[hb])))).2.2, ?_⟩) q⟩;rintro(h|⟨r,h⟩)
 ·exact(List.nodup_append.1 hnd).2.2 b hb b h rfl
 ·exact hg.OM r b h (hmem b (by simp[hb]))
structure Grew(base:Nat)(U:Nat->Prop)(w:World)(m:Mem)(G:GS)(m':Mem)(G':GS)(E:List Nat):Prop where
 ok:uN base U w m' G'
 le:KE m G m' G'
 E:G'.E=E
 out:G'.out=G.out
 old:∀k c,get k m=some c->get k m'=some c
 μ:∀k c,get k m=some c->G'.μ k=G.μ k
def Grew.trans{m1 m2 m3:Mem}{G1 G2 G3:GS}{E E':List Nat}(a:Grew base U w m1 G1 m2 G2 E)(b:Grew base U w m2 G2 m3 G3 E'):Grew base U w m1 G1 m3 G3 E':=
 ⟨b.ok,a.le.trans b.le,b.E,b.out.trans a.out,λk c h=>b.old k c (a.old k c h),λk c h=>(b.μ k c (a.old k c h)).trans (a.μ k c h)⟩
def JE{k:Nat}{c:Cell}{x:Unit}{m':Mem}{l l':Log}(h:(new k c).run m l=some (x,m',l')):get k m=none/\m'=put k c m:=by
 simp only[new] at h;replace h:=ah h;obtain⟨_,m1,l1,h1,h⟩:=h;simp only[free] at h1;replace h1:=ah h1;obtain⟨c',m2,l2,h2,h1⟩:=h1;rw[jV] at h2;cases h2;cases hc:get k m with
 |some c=>rw[hc] at h1;exact(ak h1).elim
 |none=>rw[hc] at h1;simp only[run_pure,dG,eH] at h1;obtain⟨_,rfl,rfl⟩:=h1;simp only[nS,dG,eH] at h;exact⟨rfl,h.2.1.symm⟩
def Xr(hg:uN base U w m G)(ho:∀r,r∈G.out->∃c,get r m=some c){k:Nat}{fl:Bool}{s:Nat}{rows:List Row}{g:Value}{N E:List Nat}(hE:(N++E).Perm G.E)
  (hq:ow (aX w) (Gh U w G) (.sl true s rows) g N) {x:Unit} {m':Mem} {l l':Log} (h:(new k (.arr false fl 0 s rows)).run m l=some (x,m',l')):
  ∃G',Grew base U w m G m' G' E/\aC G'.μ m' (Gh U w G') (.own k 0) g:=by
 obtain⟨hn,rfl⟩:=JE h;have hk:k ∉ G.out:=λhx=>by obtain⟨c,hc⟩:=ho k hx;rw[hn] at hc;cases hc
 obtain⟨F',h1,h2⟩:=hg.alS fl hn hk hE hq;refine⟨_,⟨h1,h2,rfl,rfl,λj c hj=> ?_,λj c hj=> ?_⟩, ?_⟩
 ·have hne:j≠k:=λe=>by subst e;rw[hn] at hj;cases hj
  rw[eU hne];exact hj
 ·exact wR _ (λe=>by subst e;rw[hn] at hj;cases hj)
 ·have:IB g:=by simp only[ow] at hq;rcases hq with⟨_,rfl,_⟩|⟨b,cap,cs,t,N',rfl,_⟩<;>exact⟨_,_,_,rfl⟩
  simp[aC,dA,this]
def abP(hg:uN base U w m G)(ho:∀r,r∈G.out->∃c,get r m=some c){k b:Nat}{T:TypeId}{vs:List V}{a:Array Value}{E:List Nat}(hE:(b::E).Perm G.E)
  (hH:aX w b=some (.cells a T (0,0))) (hq:bD G.μ m (Gh U w G) vs a.toList) {x:Unit} {m':Mem} {l l':Log} (h:(new k (.box T vs)).run m l=some (x,m',l')):
  ∃G',Grew base U w m G m' G' E/\aC G'.μ m' (Gh U w G') (.ptr k 0) (.pointer (some ⟨b,0,none⟩)):=by
 obtain⟨hn,rfl⟩:=JE h;have hk:k ∉ G.out:=λhx=>by obtain⟨c,hc⟩:=ho k hx;rw[hn] at hc;cases hc
 have hnd:=hE.nodup_iff.2 hg.Ug;have hμ:∀j,j≠k->O8 G.μ k (.pointer (some ⟨b,0,none⟩)) j=G.μ j:=λj e=>wR _ e
 have hle:sF G.μ m (O8 G.μ k (.pointer (some ⟨b,0,none⟩))) (put k (.box T vs) m):=qg hμ (λc h=>by rw[hn] at h;cases h);obtain⟨h1,h2⟩:=hg.set k (.box T vs) (O8 G.μ k (.pointer (some ⟨b,0,none⟩))) [b] E G.out (by simpa using hnd) (λx hx=> .inr (hE.mem_iff.1 (by simpa using hx))) hle hμ (λ_ _=>Iff.rfl) (λh=>absurd h hk)
  (λhv _=>⟨b,a,pz _ _ _,hH,kR hle hv _ _ hq,rfl⟩)
 refine⟨_,⟨h1,h2,rfl,rfl,λj c hj=> ?_,λj c hj=> ?_⟩, ?_⟩
 ·rw[eU (λe=>by subst e;rw[hn] at hj;cases hj)];exact hj
 ·exact wR _ (λe=>by subst e;rw[hn] at hj;cases hj)
 ·simp[aC,dA,afk]
def Rk(hg:uN base U w m G)(ho:∀r,r∈G.out->∃c,get r m=some c){row:Row}{j:Nat}{x:D}{g:Value}{N E:List Nat}(hE:(N++E).Perm G.E)(hx:nth row j=x)
  (hq:ow (aX w) (Gh U w G) x g N) {ct:CT} {own fl:Bool} {key:Nat} {v:V} {m':Mem} {l l':Log}
  (h:(Fe own fl key row j ct).run m l=some (v,m',l')):
  ∃G',Grew base U w m G m' G' E/\aC G'.μ m' (Gh U w G') v g:=by
 obtain⟨d1,d2,d3⟩:=hg.Uo hE;have plain:Grew base U w m G m {G with E:=E} E:=⟨d1,d2,rfl,rfl,λ_ _ h=>h,λ_ _ _=>rfl⟩
 have hro:=d3 hq;cases ct with
 |int k=>
  simp only[Fe,gW,hx,Acc.run] at h;cases ha:asInt k x with
  |none=>simp[ha,Acc.run] at h
  |some n=>simp only[ha,Acc.run,dG,eH] at h;obtain⟨rfl,rfl,rfl⟩:=h;refine⟨_,plain, ?_⟩;rw[Um ha] at hro;simpa[aC] using hro
 |bool=>
  simp only[Fe,Xg,hx,Acc.run] at h;cases ha:asBool x with
  |none=>simp[ha,Acc.run] at h
  |some n=>simp only[ha,Acc.run,dG,eH] at h;obtain⟨rfl,rfl,rfl⟩:=h;refine⟨_,plain, ?_⟩;rw[Rj ha] at hro;simpa[aC] using hro
 |str=>
  simp only[Fe,cStr,hx,Acc.run] at h;cases ha:Xf x with
  |none=>simp[ha,Acc.run] at h
  |some n=>simp only[ha,Acc.run,dG,eH] at h;obtain⟨rfl,rfl,rfl⟩:=h;refine⟨_,plain, ?_⟩;rw[Un ha] at hro;simpa[aC] using hro
 |other=>exact(ak h).elim
 |sl s=>
  cases own with
  |false=>
   simp only[Fe,SE,hx,Acc.run] at h;cases ha:ae6 s x with
   |none=>simp[ha,Acc.run] at h
   |some n=>simp only[ha,Acc.run,dG,eH] at h;obtain⟨rfl,rfl,rfl⟩:=h;refine⟨_,plain, ?_⟩;obtain⟨o,rfl⟩:=Xq ha;simp only[aC];exact Ui hro
  |true=>
   simp only[Fe,TU,hx,Acc.run] at h;cases ha:ac2 s x with
   |none=>simp[ha,Acc.run] at h
   |some n=>simp only[ha,Acc.run] at h;have:=N9 ha;subst this;replace h:=ah h;obtain⟨_,m1,l1,h1,h⟩:=h;simp only[run_pure,dG,eH] at h;obtain⟨rfl,rfl,rfl⟩:=h;exact Xr hg ho hE hq h1
def vM{H:Heap}{h:View}{x:D}{r:Row}{cs:List Value}{N:List Nat}(q:dF H h (x::r) cs N):∃v cs' N1 N2,cs=v::cs'/\N=N1++N2/\ow H h x v N1/\dF H h r cs' N2:=by simpa[dF] using q
def Qn{N1 N2 E E0:List Nat}(h:(N1++N2++E).Perm E0):(N1++(N2++E)).Perm E0:=by rwa [BD] at h
def Ur{own:List Nat}{r dst:Nat}{row:Row}:∀{Xe:List CT} {fs:List Bool} {j:Nat} {m:Mem} {G:GS} {gs:List Value} {N E:List Nat} (_:uN base U w m G) (_:∀r,r∈G.out->∃c,get r m=some c)
  (_:(N++E).Perm G.E) (_:dF (aX w) (Gh U w G) (row.drop j) gs N) (_:row.length=j+Xe.length) (_:gs.length=Xe.length) {vs:List V} {m':Mem} {l l':Log}
  (_:(OW own r dst row j Xe fs).run m l=some (vs,m',l')),∃G',Grew base U w m G m' G' E/\bD G'.μ m' (Gh U w G') vs gs
 |[],fs,j,m,G,gs,N,E,hg,ho,hE,hq,hlen,hgl,vs,m',l,l',h=>by simp only[OW,run_pure,dG,eH] at h;obtain⟨rfl,rfl,rfl⟩:=h;rw[List.drop_eq_nil_of_le (by simp at hlen;omega)] at hq;simp only[dF] at hq;subst hq;simp at hgl;subst hgl;obtain⟨d1,d2,_⟩:=hg.Uo hE;exact⟨_,⟨d1,d2,rfl,rfl,λ_ _ h=>h,λ_ _ _=>rfl⟩,by simp[bD]⟩
 |ct::Xe,fs,j,m,G,gs,N,E,hg,ho,hE,hq,hlen,hgl,vs,m',l,l',h=>by
  cases hd:row.drop j with
  |nil=>have:=congrArg List.length hd;simp at this hlen;omega
  |cons x rest=>obtain⟨hx,hrest⟩:=Z9 hd;rw[hd] at hq;obtain⟨g,gs',N1,N2,rfl,rfl,q1,q2⟩:=vM hq;simp only[OW] at h;replace h:=ah h;obtain⟨v,m1,l1,h1,h⟩:=h;replace h:=ah h;obtain⟨vs',m2,l2,h2,h⟩:=h;simp only[run_pure,dG,eH] at h;obtain⟨rfl,rfl,rfl⟩:=h;obtain⟨G1,t1,s1⟩:=Rk hg ho (Qn hE) hx q1 h1;obtain⟨G2,t2,s2⟩:=Ur t1.ok (λk hk=>by rw[t1.out] at hk;obtain⟨c,hc⟩:=ho k hk;exact⟨c,t1.old k c hc⟩) (by rw[t1.E]) (by rw[hrest];exact NZ t1.le.view q2) (by simp at hlen;omega) (by simpa using hgl) h2;refine⟨G2,t1.trans t2, ?_⟩;simp only[bD];exact⟨g,gs',rfl,t2.le.aC s1,s2⟩
def KT{OU:List Nat}{dst ri:Nat}{row:Row}:∀{Xe:List CT} {fs:List Bool} {j:Nat} {m:Mem} {G:GS} {gs:List Value} {N E:List Nat} (_:uN base U w m G) (_:∀r,r∈G.out->∃c,get r m=some c)
  (_:(N++E).Perm G.E) (_:dF (aX w) (Gh U w G) (row.drop j) gs N) (_:row.length=j+Xe.length) (_:gs.length=Xe.length) {vs:List V} {m':Mem} {l l':Log}
  (_:(I8 OU dst ri row j Xe fs).run m l=some (vs,m',l')),∃G',Grew base U w m G m' G' E/\bD G'.μ m' (Gh U w G') vs gs
 |[],fs,j,m,G,gs,N,E,hg,ho,hE,hq,hlen,hgl,vs,m',l,l',h=>by simp only[I8,run_pure,dG,eH] at h;obtain⟨rfl,rfl,rfl⟩:=h;rw[List.drop_eq_nil_of_le (by simp at hlen;omega)] at hq;simp only[dF] at hq;subst hq;simp at hgl;subst hgl;obtain⟨d1,d2,_⟩:=hg.Uo hE;exact⟨_,⟨d1,d2,rfl,rfl,λ_ _ h=>h,λ_ _ _=>rfl⟩,by simp[bD]⟩
 |ct::Xe,fs,j,m,G,gs,N,E,hg,ho,hE,hq,hlen,hgl,vs,m',l,l',h=>by
  cases hd:row.drop j with
  |nil=>have:=congrArg List.length hd;simp at this hlen;omega
  |cons x rest=>obtain⟨hx,hrest⟩:=Z9 hd;rw[hd] at hq;obtain⟨g,gs',N1,N2,rfl,rfl,q1,q2⟩:=vM hq;simp only[I8] at h;replace h:=ah h;obtain⟨v,m1,l1,h1,h⟩:=h;replace h:=ah h;obtain⟨vs',m2,l2,h2,h⟩:=h;simp only[run_pure,dG,eH] at h;obtain⟨rfl,rfl,rfl⟩:=h;obtain⟨G1,t1,s1⟩:=Rk hg ho (Qn hE) hx q1 h1;obtain⟨G2,t2,s2⟩:=KT t1.ok (λk hk=>by rw[t1.out] at hk;obtain⟨c,hc⟩:=ho k hk;exact⟨c,t1.old k c hc⟩) (by rw[t1.E]) (by rw[hrest];exact NZ t1.le.view q2) (by simp at hlen;omega) (by simpa using hgl) h2;refine⟨G2,t1.trans t2, ?_⟩;simp only[bD];exact⟨g,gs',rfl,t2.le.aC s1,s2⟩
def valOf(P:Program)(t:TypeId)(cs:List Value)(g:Value):Prop:=if xZ P t=true then g=.agg cs.toArray else cs=[g]
def Us(P:Program)(H:Heap)(h:View)(t:TypeId)(row:Row)(g:Value)(N:List Nat):Prop:=match OT P t with
 |some T=>∃b a N1,g=.pointer (some ⟨b,0,none⟩)/\H b=some (.cells a T (0,0))/\dF H h row a.toList N1/\row.length=a.size/\N=b::N1
 |none=>∃cs,valOf P t cs g/\dF H h row cs N/\row.length=cs.length
def Xt{P:Program}{H H':Heap}{h h':View}(hl:h.le h'){t:TypeId}{row:Row}{g:Value}{N:List Nat}(hb:∀b,b∈N->H' b=H b)(q:Us P H h t row g N):Us P H' h' t row g N:=by
 unfold Us at q|-;split at q
 ·obtain⟨b,a,N1,h1,h2,h3,h4,rfl⟩:=q;exact⟨b,a,N1,h1,(hb b (by simp)).trans h2,rM hl _ _ _ (λb hx=>hb b (by simp[hx])) h3,h4,rfl⟩
 ·obtain⟨cs,h1,h2,h3⟩:=q;exact⟨cs,h1,rM hl _ _ _ hb h2,h3⟩
def sU{P:Program}{H:Heap}{h:View}{t:TypeId}{row:Row}{g:Value}{N:List Nat}(hp:OT P t=none):Us P H h t row g N↔∃cs,valOf P t cs g/\dF H h row cs N/\row.length=cs.length:=by simp only[Us,hp]
def Fj(P:Program)(H:Heap)(h:View):List TypeId->List Row->List Value->List Nat->Prop
 |[],rows,gs,N=>rows=[]/\gs=[]/\N=[]
 |t::ts,rows,gs,N=>∃row rows' g gs' N1 N2,rows=row::rows'/\gs=g::gs'/\N=N1++N2/\Us P H h t row g N1/\Fj P H h ts rows' gs' N2
def GX{P:Program}{H H':Heap}{h h':View}(hl:h.le h'):∀{ts:List TypeId} {rows:List Row} {gs:List Value} {N:List Nat},(∀b,b∈N->H' b=H b)->Fj P H h ts rows gs N->Fj P H' h' ts rows gs N
 |[],_,_,_,_,q=>q
 |t::ts,_,_,_,hb,⟨row,rows',g,gs',N1,N2,e1,e2,e3,h1,h4⟩=>by subst e3;exact⟨row,rows',g,gs',N1,N2,e1,e2,rfl,Xt hl (λb hx=>hb b (by simp[hx])) h1,GX hl (λb hx=>hb b (by simp[hx])) h4⟩
def AV{P:Program}{t:TypeId}{vs:List V}{v:V}(h:Ac P t vs=some v){μ:Nat->Value}{hh:View}{cs:List Value}{g:Value}(hq:bD μ m hh vs cs)(hg:valOf P t cs g):aC μ m hh v g:=by
 unfold Ac at h;unfold valOf at hg;cases ha:xZ P t with
 |true=>simp only[ha,bZ,if_true,dG] at h hg;subst h;simp only[aC];exact⟨_,hg,by simpa using hq⟩
 |false=>
  simp only[ha,dX,Bool.false_eq_true,if_false] at h hg;split at h
  ·cases h;obtain⟨g',gs',e,q1,q2⟩:=jl hq;rw[hg] at e;cases e;exact q1
  ·cases h
def WJ{res:List Row}{ri:Nat}{row:Row}{rows:List Row}(h:res.drop ri=row::rows):Ua res ri=row/\res.drop (ri+1)=rows:=by
 have h1:res[ri]? =some row:=by
  have:(res.drop ri)[0]? =some row:=by rw[h];rfl
  rwa [List.getElem?_drop,Nat.add_zero] at this
 refine⟨by simp[Ua,h1], ?_⟩;rw[<-List.drop_drop,h];rfl
def adU{X:Ctx}{OU:List Nat}{dst ri:Nat}{row:Row}{t:TypeId}{g:Value}{N E:List Nat}(hg:uN base U w m G)(ho:∀r,r∈G.out->∃c,get r m=some c)
  (hE:(N++E).Perm G.E) (hq:Us X.P (aX w) (Gh U w G) t row g N) {v:V} {m':Mem} {l l':Log}
  (h:(abI X OU dst ri row t).run m l=some (v,m',l')):∃G',Grew base U w m G m' G' E/\aC G'.μ m' (Gh U w G') v g:=by
 unfold Us at hq;unfold abI at h;split at hq
 ·rename_i T hT;simp only[hT] at h;obtain⟨b,a,N1,rfl,h1,h2,h3,rfl⟩:=hq;replace h:=ah h;obtain⟨_,m1,l1,k1,h⟩:=h;obtain⟨hlen,rfl,rfl⟩:=bG k1;replace h:=ah h;obtain⟨vc,m2,l2,k2,h⟩:=h;replace h:=ah h;obtain⟨_,m3,l3,k3,h⟩:=h;simp only[run_pure,dG,eH] at h;obtain⟨rfl,rfl,rfl⟩:=h;have hlen:=lq hlen;obtain⟨G1,t1,s1⟩:=KT (N:=N1) (E:=b::E) hg ho (by refine List.Perm.trans List.perm_middle ?_;exact hE) (by simpa using h2) (by simpa using hlen) (by rw[Array.length_toList,<-h3];exact hlen) k2;obtain⟨G2,t2,s2⟩:=abP t1.ok (λk hk=>by rw[t1.out] at hk;obtain⟨c,hc⟩:=ho k hk;exact⟨c,t1.old k c hc⟩) (by rw[t1.E]) h1 s1 k3;exact⟨G2,t1.trans t2,s2⟩
 ·rename_i hT;simp only[hT] at h;obtain⟨cs,h1,h2,h3⟩:=hq;replace h:=ah h;obtain⟨_,m1,l1,k1,h⟩:=h;obtain⟨hlen,rfl,rfl⟩:=bG k1;replace h:=ah h;obtain⟨vc,m2,l2,k2,h⟩:=h;obtain⟨hv,rfl,rfl⟩:=dn h;have hlen:=lq hlen;obtain⟨G1,t1,s1⟩:=KT hg ho hE (by simpa using h2) (by simpa using hlen) (by rw[<-h3];exact hlen) k2;exact⟨G1,t1,AV hv s1 h1⟩
def Xu{X:Ctx}{OU:List Nat}{dst:Nat}{res:List Row}:∀{ts:List TypeId} {ri:Nat} {m:Mem} {G:GS} {gs:List Value} {N E:List Nat} (_:uN base U w m G) (_:∀r,r∈G.out->∃c,get r m=some c)
  (_:(N++E).Perm G.E) (_:Fj X.P (aX w) (Gh U w G) ts (res.drop ri) gs N) {vs:List V} {m':Mem} {l l':Log}
  (_:(NR X OU dst res ri ts).run m l=some (vs,m',l')),∃G',Grew base U w m G m' G' E/\bD G'.μ m' (Gh U w G') vs gs
 |[],ri,m,G,gs,N,E,hg,ho,hE,hq,vs,m',l,l',h=>by simp only[NR,run_pure,dG,eH] at h;obtain⟨rfl,rfl,rfl⟩:=h;obtain⟨_,rfl,rfl⟩:=hq;obtain⟨d1,d2,_⟩:=hg.Uo hE;exact⟨_,⟨d1,d2,rfl,rfl,λ_ _ h=>h,λ_ _ _=>rfl⟩,by simp[bD]⟩
 |t::ts,ri,m,G,gs,N,E,hg,ho,hE,hq,vs,m',l,l',h=>by obtain⟨row,rows',g,gs',N1,N2,e1,rfl,rfl,h1,h4⟩:=hq;obtain⟨hrow,hrest⟩:=WJ e1;simp only[NR] at h;replace h:=ah h;obtain⟨v,m3,l3,k3,h⟩:=h;replace h:=ah h;obtain⟨vs',m4,l4,k4,h⟩:=h;simp only[run_pure,dG,eH] at h;obtain⟨rfl,rfl,rfl⟩:=h;rw[hrow] at k3;obtain⟨G1,t1,s1⟩:=adU hg ho (Qn hE) h1 k3;obtain⟨G2,t2,s2⟩:=Xu t1.ok (λk hk=>by rw[t1.out] at hk;obtain⟨c,hc⟩:=ho k hk;exact⟨c,t1.old k c hc⟩) (by rw[t1.E]) (by rw[hrest];exact GX t1.le.view (λ_ _=>rfl) h4) k4;refine⟨G2,t1.trans t2, ?_⟩;simp only[bD];exact⟨g,gs',rfl,t2.le.aC s1,s2⟩
mutual
def ac6{H:Heap}{h h':View}:∀(x:D) (v:Value) (N:List Nat),x.pure=true->ow H h x v N->ow H h' x v N
 | .int _ _,_,_,_,q=>by simpa[ow] using q
 | .bool _,_,_,_,q=>by simpa[ow] using q
 | .str _,_,_,_,q=>by simpa[ow] using q
 | .GL,_,_,_,q=>by simpa[ow] using q
 | .sl false s rows,v,N,hp,q=>by simp only[D.pure,List.isEmpty_iff] at hp;subst hp;simp only[ow,ro] at q|-;exact⟨q.1,by obtain⟨a,cap,h1,h2,_⟩:=q.2;exact⟨a,cap,h1,h2,λe=>absurd rfl e⟩⟩
 | .sl true s rows,v,N,hp,q=>by
  simp only[D.pure] at hp;simp only[ow] at q|-;rcases q with q|⟨b,cap,cs,t,N',h1,h2,h3,h4,h5,rfl⟩
  ·exact .inl q
  ·exact .inr ⟨b,cap,cs,t,N',h1,h2,h3,h4,Rl s rows _ N' hp h5,rfl⟩
def Rl{H:Heap}{h h':View}(s:Nat):∀(rows:List Row) (cs:List Value) (N:List Nat),zN rows=true->cO H h s rows cs N->cO H h' s rows cs N
 |[],_,_,_,q=>by simpa[cO] using q
 |r::rs,cs,N,hp,q=>by simp only[zN,su] at hp;simp only[cO] at q|-;obtain⟨h1,N1,N2,rfl,h2,h3⟩:=q;exact⟨h1,N1,N2,rfl,JF r _ N1 hp.1 h2,Rl s rs _ N2 hp.2 h3⟩
def JF{H:Heap}{h h':View}:∀(r:Row) (cs:List Value) (N:List Nat),bY r=true->dF H h r cs N->dF H h' r cs N
 |[],_,_,_,q=>by simpa[dF] using q
 |x::r,cs,N,hp,q=>by simp only[bY,su] at hp;simp only[dF] at q|-;obtain⟨v,cs',N1,N2,rfl,rfl,h2,h3⟩:=q;exact⟨v,cs',N1,N2,rfl,rfl,ac6 x v N1 hp.1 h2,JF r cs' N2 hp.2 h3⟩
end
def Ut{P:Program}{H:Heap}{h h':View}:∀{ts:List TypeId} {rows:List Row} {gs:List Value} {N:List Nat},rows.all bY=true->Fj P H h ts rows gs N->Fj P H h' ts rows gs N
 |[],_,_,_,_,q=>q
 |t::ts,_,_,_,hp,⟨row,rows',g,gs',N1,N2,e1,e2,e3,h1,h4⟩=>by
  subst e1;simp only[List.all_cons,su] at hp;refine⟨row,rows',g,gs',N1,N2,rfl,e2,e3, ?_,Ut hp.2 h4⟩;unfold Us at h1|-;split at h1
  ·obtain⟨b,a,M,k1,k2,k3,k4,k5⟩:=h1;exact⟨b,a,M,k1,k2,JF _ _ _ hp.1 k3,k4,k5⟩
  ·obtain⟨cs,k1,k2,k3⟩:=h1;exact⟨cs,k1,JF _ _ _ hp.1 k2,k3⟩
end
end Go.Vm
