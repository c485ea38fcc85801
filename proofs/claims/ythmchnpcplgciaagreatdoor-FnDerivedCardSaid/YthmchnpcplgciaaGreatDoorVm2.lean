import Derived.Orders
import Derived.KernelRfl
import Derived.RowKit3
import Derived.Laws.Cells
import Derived.Laws.Rows
import Derived.Laws.OwnMore
import Derived.Below
import Derived.Laws.Append
import Derived.Laws.AppendOwn
import Derived.Laws.CopyRow
import Derived.Laws.Slices
import Derived.Laws.MakeOwn
import Derived.Laws.BytesString
import Derived.Great.BuildSlice
import Derived.Laws.StructEq
import Derived.Laws.Strings
set_option linter.defProp false
set_option linter.unusedVariables false
set_option linter.unusedSimpArgs false
namespace Go.Vm
def ak{p:Prop}(h:p:=by omega):p:=h
def aJ{α:Sort _}(a b:α):cond true a b=a:=cond_true ..
def aW{α:Sort _}(a b:α):cond false a b=b:=cond_false ..
def lM{α:Type _}(a b:α):(some a=some b)=(a=b):=Option.some.injEq ..
def qU{α:Type _}{β:Type _}(a:α)(b:β)(c:α)(d:β):((a,b)=(c,d))=(a=c/\b=d):=Prod.mk.injEq ..
def zdt{p:Prop}[Decidable p](h:p):decide p=true:=decide_eq_true h
def rF{p:Prop}[Decidable p](h:¬p):decide p=false:=decide_eq_false h
def Ia{n m:Nat}(h:Nat.beq n m=true):n=m:=Nat.eq_of_beq_eq_true h
def PD{α:Type _}{a b:List α}:(a++b).length=a.length+b.length:=List.length_append ..
def Qm{α:Type _}{i:Nat}{a:α}{l:List α}:l[i]? =some a↔∃h:i<l.length,l[i]=a:=List.getElem?_eq_some_iff ..
def ZE{α:Type _}{a:α}{s:List α}:(a::s).length=s.length+1:=List.length_cons ..
def VN{α:Type _}(a b c:List α):a++b++c=a++(b++c):=List.append_assoc ..
def TG{α:Type _}{a:α}:[a].length=1:=List.length_singleton ..
def zln{α:Type _}:([]:List α).length=0:=List.length_nil ..
def ZF{α:Type _}{l:List α}{i:Nat}{a:α}(h:l[i]? =some a):a∈l:=List.mem_of_getElem? h
def wo(a b:Bool):((a&&b)=true)=(a=true/\b=true):=Bool.and_eq_true ..
def Ht{α:Type _}{β:Type _}(a:α)(f:α->β):Option.map f (some a)=some (f a):=Option.map_some ..
def zmc{α:Type _}{β:Type _}{f:α->β}{a:α}{l:List α}:List.map f (a::l)=f a::List.map f l:=List.map_cons ..
def Yf(n:Nat):((n:Int)).toNat=n:=Int.toNat_natCast ..
def zca{α:Type _}{a:α}{s t:List α}:a::s++t=a::(s++t):=List.cons_append ..
def zmm{α:Type _}(y:α){a:α}{l:List α}(h:a∈l):a∈y::l:=List.mem_cons_of_mem _ h
def zmf{α:Type _}{a:α}{l:List α}:a∈a::l:=List.mem_cons_self ..
def nY{α:Type _}[BEq α][LawfulBEq α]{a b:α}:(a==b)=false↔a≠b:=beq_eq_false_iff_ne ..
def zlt{α:Type _}{i:Nat}{l:List α}:(l.take i).length=min i l.length:=List.length_take ..
inductive D where
 |int (k:IntKind) (n:Int)
 |bool (b:Bool)
 |str (s:List UInt8)
 |XW
 |sl (own:Bool) (s:Nat) (rows:List (List D))
 deriving Inhabited
abbrev Row:=List D
abbrev aI:=List UInt8
abbrev au:=List Row
inductive V where
 |d (x:D)
 |nil (s:Nat)
 |own (r ver:Nat)
 |ptr (r off:Nat)
 |JI (r ver i off:Nat)
 |F8 (row:Row) (off:Nat)
 |clo (f:Nat) (first caps:List V)
 |agg (cs:List V)
 |XH (vs:List V)
 |undef
 deriving Inhabited
inductive Cell where
 |box (t:TypeId) (cs:List V)
 |arr (fz fl:Bool) (ver s:Nat) (rows:List Row)
 |dead
 deriving Inhabited
abbrev Mem:=List (Nat×Cell)
abbrev lX:=List (Nat×V)
structure St where
 tm:lX
 mem:Mem
def get{α:Type}(k:Nat):List (Nat×α)->Option α
 |[]=>none
 |(j,x)::l=>bif Nat.beq k j then some x else get k l
def put{α:Type}(k:Nat)(x:α):List (Nat×α)->List (Nat×α)
 |[]=>[(k,x)]
 |(j,y)::l=>bif Nat.beq k j then(k,x)::l else bif Nat.blt k j then(k,x)::(j,y)::l else(j,y)::put k x l
def del{α:Type}(k:Nat):List (Nat×α)->List (Nat×α)
 |[]=>[]
 |(j,y)::l=>bif Nat.beq k j then del k l else(j,y)::del k l
def ZV(t:Nat)(tm:lX):V:=match get t tm with|some v=>v|none=> .undef
def ajb(dst:Option Nat)(v:V)(tm:lX):lX:=match dst with|some t=>put t v tm|none=>tm
def ayZ(dst:Option Nat)(tm:lX):lX:=match dst with|some t=>del t tm|none=>tm
inductive Acc(α:Type):Type 1 where
 |ret (a:α)
 |fail
 |get (k:Nat) (c:Option Cell->Acc α)
 |set (k:Nat) (x:Cell) (c:Acc α)
 |opt {β:Type} (o:Option β) (c:β->Acc α)
 |guard (b:Bool) (c:Acc α)
structure Log where
 r:List Nat
 w:List Nat
def Log.rd(l:Log)(k:Nat):Log:={l with r:=k::l.r}
def Log.wr(l:Log)(k:Nat):Log:={l with w:=k::l.w}
def Log.none:Log:=⟨[],[]⟩
def Acc.bind{α β:Type}:Acc α->(α->Acc β)->Acc β
 | .ret a,f=>f a
 | .fail,_=> .fail
 | .get k c,f=> .get k λx=>(c x).bind f
 | .set k x c,f=> .set k x (c.bind f)
 | .opt o c,f=> .opt o λb=>(c b).bind f
 | .guard b c,f=> .guard b (c.bind f)
def Acc.run{α:Type}:Acc α->Mem->Log->Option (α×Mem×Log)
 | .ret a,m,l=>some (a,m,l)
 | .fail,_,_=>none
 | .get k c,m,l=>(c (Vm.get k m)).run m (l.rd k)
 | .set k x c,m,l=>c.run (put k x m) (l.wr k)
 | .opt o c,m,l=>match o with|some b=>(c b).run m l|none=>none
 | .guard b c,m,l=>match b with|true=>c.run m l|false=>none
inductive CT where
 |int (k:IntKind)|bool|str|sl (s:Nat)|other
 deriving Inhabited
def aqr(f:TypeId->Option (List CT)):List TypeId->Option (List CT)
 |[]=>some []
 |t::ts=>match f t,aqr f ts with|some a,some b=>some (a++b)|_,_=>none
def cts(P:Program):Nat->TypeId->Option (List CT)
 |0,_=>none
 |n+1,t=>match P.underlying t with
  |some (.int k)=>some [.int k]
  |some .bool=>some [.bool]
  |some .string=>some [.str]
  |some (.slice e)=>match P.info? e with|some i=>some [.sl i.size]|none=>none
  |some (.struct fs)=>aqr (cts P n) (fs.toList.map (·.type))
  |some (.array k e)=>aqr (cts P n) (List.replicate k e)
  |some (.pointer _)|some (.func ..)=>some [.other]
  |_=>none
def Pq(P:Program)(t:TypeId):List CT:=match cts P 8 t with|some l=>l|none=>[.other]
def RH(P:Program)(t:TypeId):Bool:=match P.underlying t with|some (.struct _)=>true|some (.array ..)=>true|_=>false
def uw(P:Program)(t:TypeId):Nat:=match P.info? t with|some i=>i.size|none=>0
def alu(P:Program)(t:TypeId):Option TypeId:=match P.underlying t with|some (.pointer T)=>some T|_=>none
def elT(P:Program)(t:TypeId):Option TypeId:=match P.underlying t with|some (.slice e)=>some e|_=>none
def alv:CT->Value->V
 |_,.bool b=> .d (.bool b)
 |_,.int k n=> .d (.int k n)
 |_,.string s=> .d (.str s.data.toList)
 |_,.nilFunc=> .d .XW
 | .sl s,.slice none 0 0=> .nil s
 |_,_=> .undef
def SI:List CT->List Value->List V
 |c::cs,v::vs=>alv c v::SI cs vs
 |[],_::vs=> .undef::SI [] vs
 |_,[]=>[]
def cv(P:Program)(t:TypeId):Value->V
 | .agg cs=> .agg (SI (Pq P t) cs.toList)
 |v=>match Pq P t with|c::_=>alv c v|[]=> .undef
def UM(P:Program)(t:TypeId):Option (List V):=
 match P.info? t with
 |some i=>match i.zero with
  |some z=>some (SI (Pq P t) z.cells.toList)
  |none=>none
 |none=>none
def V.cells:V->List V
 | .agg cs=>cs
 |v=>[v]
def SK(P:Program)(t:TypeId)(cs:List V):Option V:=
 bif RH P t then some (.agg cs) else match cs with|[v]=>some v|_=>none
def asInt(k:IntKind):D->Option Int
 | .int k' n=>bif decide (k'=k) then some n else none
 |_=>none
def asBool:D->Option Bool
 | .bool b=>some b
 |_=>none
def ajX:D->Option (List UInt8)
 | .str s=>some s
 |_=>none
def au6(s:Nat):D->Option (List Row)
 | .sl _ s' rows=>bif Nat.beq s' s then some rows else none
 |_=>none
def ay0(s:Nat):D->Option (List Row)
 | .sl own s' rows=>bif Nat.beq s' s then(match own with|false=>some rows|true=>match rows with|[]=>some []|_::_=>none) else none
 |_=>none
def arV(s:Nat):D->Option (List Row)
 | .sl own s' rows=>match own with|true=>bif Nat.beq s' s then some rows else none|false=>none
 |_=>none
def nth(row:Row)(j:Nat):D:=match row[j]? with|some x=>x|none=> .XW
def dG(k:IntKind)(row:Row)(j:Nat):Option Int:=asInt k (nth row j)
def ajY(row:Row)(j:Nat):Option Bool:=asBool (nth row j)
def cStr(row:Row)(j:Nat):Option (List UInt8):=ajX (nth row j)
def cSl(s:Nat)(row:Row)(j:Nat):Option (List Row):=au6 s (nth row j)
def cRo(s:Nat)(row:Row)(j:Nat):Option (List Row):=ay0 s (nth row j)
def aHI(s:Nat)(row:Row)(j:Nat):Option (List Row):=arV s (nth row j)
mutual
def D.fz:D->D
 | .int k n=> .int k n
 | .bool b=> .bool b
 | .str s=> .str s
 | .XW=> .XW
 | .sl _ s rows=> .sl false s (aF rows)
def aF:List Row->List Row
 |[]=>[]
 |r::rs=>Bl r::aF rs
def Bl:Row->Row
 |[]=>[]
 |x::r=>x.fz::Bl r
end
def roD:D->D
 | .sl _ s rows=> .sl false s rows
 |x=>x
def D.flat:D->Bool
 | .sl ..=>false
 |_=>true
def aj(rows:List Row):Bool:=rows.all λr=>r.all D.flat
def one:V->Bool
 | .d _=>true
 | .nil _=>true
 | .own _ _=>true
 | .ptr _ _=>true
 | .JI ..=>true
 | .F8 _ _=>true
 | .clo ..=>true
 |_=>false
mutual
def D.pure:D->Bool
 | .sl own _ rows=>match own with|true=>I9 rows|false=>rows.isEmpty
 |_=>true
def I9:List Row->Bool
 |[]=>true
 |r::rs=>lU r && I9 rs
def lU:Row->Bool
 |[]=>true
 |x::r=>x.pure && lU r
end
def PE(strict:Bool):List CT->Row->Nat->(List V->Acc V)->Acc V
 |[],_,_,c=>c []
 | .int k::ts,row,j,c=> .opt (dG k row j) λn=>PE strict ts row (j+1) λvs=>c (.d (.int k n)::vs)
 | .bool::ts,row,j,c=> .opt (ajY row j) λn=>PE strict ts row (j+1) λvs=>c (.d (.bool n)::vs)
 | .str::ts,row,j,c=> .opt (cStr row j) λn=>PE strict ts row (j+1) λvs=>c (.d (.str n)::vs)
 | .sl s::ts,row,j,c=> .opt (bif strict then cRo s row j else cSl s row j) λrs=>PE strict ts row (j+1) λvs=>c (.d (.sl false s rs)::vs)
 | .other::_,_,_,_=> .fail
structure Adv where
 keep:Nat->Nat->List Nat
 move:Nat->List Nat
 att:Nat->Nat->List Nat
 aHJ:Nat->List Nat
 trunc:Nat->Nat->Bool
structure Ctx where
 P:Program
 TI:Adv
 VO:Nat->Option (List V->List Cell->Option (List Row×List Cell))
 glob:Nat->Option Row
 aUF:Nat->Bool
abbrev lN:=Nat->List V->List Cell->Option (List Row×List Cell)
def mem?(k:Nat):List Nat->Bool
 |[]=>false
 |j::l=>bif Nat.beq k j then true else mem? k l
def aDD:List CT->Bool
 |[]=>false
 | .sl _::_=>true
 |_::l=>aDD l
def Ja(P:Program)(e:TypeId):Bool:= !(aDD (Pq P e))
def vw(fl:Bool)(rows:List Row):List Row:=bif fl then rows else aF rows
instance:Monad Acc where
 pure:=.ret
 bind:=.bind
def rd(k:Nat):Acc (Option Cell):=.get k .ret
def wr(k:Nat)(x:Cell):Acc Unit:=.set k x (.ret ())
def ck(b:Bool):Acc Unit:=.guard b (.ret ())
def op'{β:Type}(o:Option β):Acc β:=.opt o .ret
def free(k:Nat):Acc Unit:=do
 match<-rd k with
 |none=>pure ()
 |some _=> .fail
def new(k:Nat)(c:Cell):Acc Unit:=do
 free k
 wr k c
def seen(v:V):Acc (Nat×List Row):=
 match v with
 | .d (.sl _ s rows)=>pure (s,rows)
 | .nil s=>pure (s,[])
 | .own r ver=>do
  match<-rd r with
  |some (.arr _ fl tZ s rows)=>do ck (Nat.beq ver tZ);pure (s,vw fl rows)
  |_=> .fail
 |_=> .fail
def arW(fl:Bool)(rows:List Row):Bool:=bif fl then aj rows else true
def toD(v:V):Acc D:=
 match v with
 | .d x=>pure (roD x)
 | .nil s=>pure (.sl true s [])
 | .own r ver=>do
  match<-rd r with
  |some (.arr fz fl tZ s rows)=>do
   ck (Nat.beq ver tZ)
   match fz with
   |true=>pure (.sl false s (vw fl rows))
   |false=>do
    ck (arW fl rows)
    wr r .dead
    pure (.sl true s rows)
  |_=> .fail
 |_=> .fail
def VP:List V->Acc Row
 |[]=>pure []
 |v::vs=>do
  let x<-toD v
  let xs<-VP vs
  pure (x::xs)
def splice{α:Type}(l:List α)(off:Nat)(xs:List α):List α:=l.take off++xs++l.drop (off+xs.length)
def part{α:Type}(l:List α)(off n:Nat):List α:=(l.drop off).take n
def idx{α:Type}(l:List α)(i:Int):Option α:=bif decide (0<=i) then l[i.toNat]? else none
def cut{α:Type}(l:List α)(a b:Int):Option (List α):=
 bif decide (0<=a) && decide (a<=b) && decide (b<=l.length) then some ((l.drop a.toNat).take (b.toNat - a.toNat)) else none
def byteRow(b:UInt8):Row:=[.int .u8 b.toNat]
def asByte:Row->Option UInt8
 |[.int .u8 n]=>some (UInt8.ofNat n.toNat)
 |_=>none
def bytesOf:List Row->Option (List UInt8)
 |[]=>some []
 |r::rs=>match asByte r,bytesOf rs with|some b,some bs=>some (b::bs)|_,_=>none
def ev(P:Program)(tm:lX)(t:TypeId):Operand->V
 | .tmp i=>ZV i tm
 | .const v=>cv P t v
 | .func f=> .clo f [] []
 | .global _=> .undef
def evG(X:Ctx)(tm:lX)(t:TypeId)(x:Operand):V:=match x with
 | .global g=>match X.glob g with
  |some row=> .F8 row 0
  |none=> .undef
 |x=>ev X.P tm t x
def nz(op:BinOp)(b:Int):Bool:=match op with
 | .quo=> !(decide (b=0))
 | .rem=> !(decide (b=0))
 |_=>true
def aEF(op:BinOp)(k:IntKind)(a b:Int):Option V:=
 match op with
 | .add=>some (.d (.int k (k.wrap (a+b))))
 | .sub=>some (.d (.int k (k.wrap (a - b))))
 | .mul=>some (.d (.int k (k.wrap (a * b))))
 | .quo=>some (.d (.int k (k.wrap (a.tdiv b))))
 | .rem=>some (.d (.int k (a.tmod b)))
 | .eql=>some (.d (.bool (a==b)))
 | .neq=>some (.d (.bool (a !=b)))
 | .lss=>some (.d (.bool (decide (a<b))))
 | .leq=>some (.d (.bool (decide (a<=b))))
 | .gtr=>some (.d (.bool (decide (a>b))))
 | .geq=>some (.d (.bool (decide (a>=b))))
 | .and=>some (.d (.int k (k.wrap (BitVec.ofInt k.bits a &&& BitVec.ofInt k.bits b).toNat)))
 | .or=>some (.d (.int k (k.wrap (BitVec.ofInt k.bits a|||BitVec.ofInt k.bits b).toNat)))
 | .xor=>some (.d (.int k (k.wrap (BitVec.ofInt k.bits a ^^^ BitVec.ofInt k.bits b).toNat)))
 |_=>none
def abP(op:BinOp)(k:IntKind)(a b:Int):Option V:=
 bif decide (b<0) then none else
 match op with
 | .shl=>some (.d (.int k (k.wrap (a * 2 ^(min b.toNat k.bits)))))
 | .shr=>some (.d (.int k (a.fdiv (2 ^(min b.toNat k.bits)))))
 |_=>none
def aqs:Nat:=9223372036854775807
def aEG(op:BinOp)(a b:List UInt8):Acc V:=
 match op with
 | .add=> .guard (Nat.ble (a.length+b.length) aqs) (.ret (.d (.str (a++b))))
 | .eql=> .ret (.d (.bool (a==b)))
 | .neq=> .ret (.d (.bool !(a==b)))
 | .lss=> .ret (.d (.bool (Op.bytesLess a b)))
 | .leq=> .ret (.d (.bool (Op.bytesLess a b||a==b)))
 | .gtr=> .ret (.d (.bool !(Op.bytesLess a b||a==b)))
 | .geq=> .ret (.d (.bool !(Op.bytesLess a b)))
 |_=> .fail
def aHK(op:BinOp)(a b:Bool):Option V:=
 match op with
 | .eql=>some (.d (.bool (a==b)))
 | .neq=>some (.d (.bool !(a==b)))
 |_=>none
def shiftOp:BinOp->Bool
 | .shl| .shr=>true
 |_=>false
def boolT(P:Program)(t:TypeId):Bool:=match P.underlying t with|some .bool=>true|_=>false
def bin(bt:Bool)(op:BinOp)(x y:V):Acc V:=
 match x,y with
 | .d (.int k a),.d (.int k' b)=>
  match shiftOp op with
  |true=> .opt (abP op k a b) .ret
  |false=>match decide (k=k') with
   |true=> .guard (nz op b) (.opt (aEF op k a b) .ret)
   |false=> .fail
 | .d (.str a),.d (.str b)=>aEG op a b
 | .d (.bool a),.d (.bool b)=>match bt with
  |true=> .opt (aHK op a b) .ret
  |false=> .fail
 |_,_=> .fail
def aqt:V->V->Option Bool
 | .d (.int k a),.d (.int k' b)=>bif decide (k=k') then some (a==b) else none
 | .d (.str a),.d (.str b)=>some (a==b)
 | .d (.bool a),.d (.bool b)=>some (a==b)
 |_,_=>none
def adg(P:Program)(t:TypeId)(v:V):Bool:=match P.underlying t,v with
 |some (.int _),.d (.int _ _)=>true
 |some .string,.d (.str _)=>true
 |some .bool,.d (.bool _)=>true
 |_,_=>false
def sliceT(P:Program)(t:TypeId):Bool:=match P.underlying t with|some (.slice _)=>true|_=>false
def afV(P:Program):List Field->List V->List V->Option Bool
 |[],_,_=>some true
 |f::fs,xs,ys=>match xs[f.offset]?,ys[f.offset]? with
  | some x, some y => bif adg P f.type x && (f.name != "_") then
    (match aqt x y,afV P fs xs ys with
    |some a,some b=>some (bif a then b else false)
    |_,_=>none) else none
  |_,_=>none
def aHL(P:Program)(t:TypeId)(op:BinOp)(cs ds:List V):Acc V:=do
 ck (!(P.stoodInHeld t) && !(P.eqGuardType P.depth t))
 let fs<-op' (match P.underlying t with|some (.struct fs)=>some fs.toList|_=>none)
 let r<-op' (afV P fs cs ds)
 match op with
 | .eql=>pure (.d (.bool r))
 | .neq=>pure (.d (.bool !r))
 |_=> .fail
def aqu(x:V):Acc Bool:=
 match x with
 | .nil _=>pure true
 | .d (.sl _ _ rows)=>do ck (Nat.ble 1 rows.length);pure false
 | .own r ver=>do
  match<-rd r with
  |some (.arr _ _ tZ _ rows)=>do ck (Nat.beq ver tZ && Nat.ble 1 rows.length);pure false
  |_=> .fail
 |_=> .fail
def aqv(P:Program)(t:TypeId)(op:BinOp)(x:V):Acc V:=do
 ck (sliceT P t)
 let b<-aqu x
 match op with
 | .eql=>pure (.d (.bool b))
 | .neq=>pure (.d (.bool !b))
 |_=> .fail
def aEH(P:Program)(t:TypeId)(op:BinOp)(x y:V):Acc V:=match x with
 | .agg cs=>(match y with| .agg ds=>aHL P t op cs ds|_=> .fail)
 |x=>(match y with| .nil _=>aqv P t op x|y=>bin (boolT P t) op x y)
def un(op:UnOp)(x:V):Acc V:=
 match op,x with
 | .neg,.d (.int k n)=> .ret (.d (.int k (k.wrap (0 - n))))
 | .not,.d (.bool b)=> .ret (.d (.bool !b))
 |_,_=> .fail
def au7(c x y:V):Acc V:=
 match c with
 | .d (.bool c)=>match x,y with
  | .d (.bool a),.d (.bool b)=> .ret (.d (.bool (bif c then a else b)))
  |x,y=>match c with
   |true=> .ret x
   |false=> .ret y
 |_=> .fail
def Yg(P:Program)(t:TypeId):Bool:=match P.underlying t with|some _=>true|none=>false
def au8(P:Program)(t:TypeId)(a:V):Acc V:=do
 ck (Yg P t && Nat.beq (Pq P t).length (uw P t))
 match a with
 | .ptr r off=>do
  match<-rd r with
  |some (.box _ cs)=>do
   ck (Nat.ble (off+uw P t) cs.length)
   op' (SK P t (part cs off (uw P t)))
  |_=> .fail
 | .F8 row off=>PE false (Pq P t) row off λvs=>op' (SK P t vs)
 | .JI r ver i off=>do
  match<-rd r with
  |some (.arr _ _ tZ _ rows)=>do
   ck (Nat.beq ver tZ)
   let row<-op' rows[i]?
   PE true (Pq P t) row off λvs=>op' (SK P t vs)
  |_=> .fail
 |_=> .fail
def aqw(P:Program)(t:TypeId)(a x:V):Acc Unit:=do
 ck (Yg P t)
 ck (Nat.beq x.cells.length (uw P t))
 ck (x.cells.all one)
 match a with
 | .ptr r off=>do
  match<-rd r with
  |some (.box T cs)=>do
   ck (Nat.ble (off+uw P t) cs.length)
   wr r (.box T (splice cs off x.cells))
  |_=> .fail
 | .JI r ver i off=>do
  let xs<-VP x.cells
  match<-rd r with
  |some (.arr false fl tZ s rows)=>do
   ck (Nat.beq ver tZ)
   ck (Nat.ble (off+uw P t) s)
   let row<-op' rows[i]?
   wr r (.arr false fl ver s (rows.set i (splice row off xs)))
  |_=> .fail
 |_=> .fail
def WQ(P:Program)(T:TypeId)(f:Nat):Option (Nat×Nat×TypeId):=
 match P.underlying T with
 |some (.struct fs)=>match fs[f]? with
  |some fd=>some (fd.offset,uw P fd.type,fd.type)
  |none=>none
 |_=>none
def aaM(P:Program)(T:TypeId)(a:V)(f:Nat):Acc V:=do
 let(o,n,_)<-op' (WQ P T f)
 ck (Nat.ble 1 n)
 match a with
 | .ptr r off=>pure (.ptr r (off+o))
 | .F8 row off=>pure (.F8 row (off+o))
 | .JI r ver i off=>pure (.JI r ver i (off+o))
 |_=> .fail
def aqx(P:Program)(T:TypeId)(x:V)(f:Nat):Acc V:=do
 let(o,n,t)<-op' (WQ P T f)
 match x with
 | .agg cs=>do
  ck (Nat.ble (o+n) cs.length)
  ck (Yg P t)
  op' (SK P t (part cs o n))
 |_=> .fail
def aaN(P:Program)(t:TypeId)(x i:V):Acc V:=do
 let e<-op' (elT P t)
 match i with
 | .d (.int _ i)=>
  match x with
  | .d (.sl _ s rows)=>do
   ck (Nat.beq s (uw P e))
   ck (Yg P e)
   let row<-op' (idx rows i)
   pure (.F8 row 0)
  | .own r ver=>do
   match<-rd r with
   |some (.arr fz fl tZ s rows)=>do
    ck (Nat.beq ver tZ)
    ck (Nat.beq s (uw P e))
    ck (Yg P e)
    match fz with
    |true=>do
     let row<-op' (idx (vw fl rows) i)
     pure (.F8 row 0)
    |false=>do
     let _<-op' (idx rows i)
     pure (.JI r ver i.toNat 0)
   |_=> .fail
  |_=> .fail
 |_=> .fail
def arT(P:Program)(t:TypeId):Option (Nat×TypeId):=match P.underlying t with|some (.array n e)=>some (n,e)|_=>none
def anb(P:Program)(n:Nat)(e:TypeId)(x i:V):Acc V:=
 match i with
 | .d (.int _ i)=>do
  ck (Yg P e)
  ck (decide (0<=i) && decide (i<(n:Int)))
  match x with
  | .F8 row off=>pure (.F8 row (off+i.toNat * uw P e))
  | .ptr r off=>pure (.ptr r (off+i.toNat * uw P e))
  |_=> .fail
 |_=> .fail
def aaO(P:Program)(t:TypeId)(x i:V):Acc V:=match arT P t with
 |some (n,e)=>anb P n e x i
 |none=>aaN P t x i
def ajZ:List V->Option Row
 |[]=>some []
 | .d x::vs=>match ajZ vs with|some r=>some (x::r)|none=>none
 |_::_=>none
def agi(c:CT)(row:Row)(i:Nat):Acc V:=match c with
 | .int k=> .opt (dG k row i) λn=> .ret (.d (.int k n))
 | .bool=> .opt (ajY row i) λb=> .ret (.d (.bool b))
 | .str=> .opt (cStr row i) λs=> .ret (.d (.str s))
 |_=> .fail
def aqy(P:Program)(t:TypeId)(x i:V):Acc V:=
 match P.underlying t,x,i with
 |some .string,.d (.str s),.d (.int _ i)=> .opt (idx s i) λb=> .ret (.d (.int .u8 b.toNat))
 |some (.array n e),.agg cs,.d (.int _ i)=>do
  ck (Nat.beq (uw P e) 1 &&(Nat.beq cs.length n &&(Yg P e && !(RH P e))))
  ck (decide (0<=i) && decide (i<(n:Int)))
  let row<-op' (ajZ cs)
  agi (match Pq P e with|[c]=>c|_=> .other) row i.toNat
 |_,_,_=> .fail
def lenV(x:V):Acc V:=
 match x with
 | .d (.str s)=> .ret (.d (.int .i64 s.length))
 | .own r ver=>do
  match<-rd r with
  |some (.arr _ _ tZ _ rows)=>do ck (Nat.beq ver tZ);pure (.d (.int .i64 rows.length))
  |_=> .fail
 | .d (.sl _ _ rows)=> .ret (.d (.int .i64 rows.length))
 | .nil _=> .ret (.d (.int .i64 0))
 |_=> .fail
def aj0:Nat:=140737488355328
def alx(P:Program)(e:TypeId):Nat:=match P.info? e with|some i=>i.bytes|none=>aj0
def tail(P:Program)(e:TypeId)(y:V):Acc (List Row):=
 match y with
 | .d (.str s)=>do
  ck (Nat.beq (uw P e) 1)
  pure (s.map byteRow)
 | .d (.sl _ s rows)=>do
  ck (Nat.beq s (uw P e))
  pure (vw (Ja P e) rows)
 | .nil _=>pure []
 | .own r ver=>do
  match<-rd r with
  |some (.arr fz fl tZ s rows)=>do
   ck (Nat.beq ver tZ)
   ck (Nat.beq s (uw P e))
   match Ja P e with
   |true=>do
    ck (fl||fz)
    pure rows
   |false=>do
    ck (!fl)
    match fz with
    |true=>pure (aF rows)
    |false=>do
     wr r .dead
     pure rows
  |_=> .fail
 |_=> .fail
def aly(P:Program)(dst:Nat)(t ty:TypeId)(x y:V):Acc V:=do
 let e<-op' (elT P t)
 ck (Nat.ble 1 (uw P e))
 ck (match P.underlying ty with|some (.slice _)=>true|some .string=>true|_=>false)
 let z<-op' (UM P e)
 ck (Nat.beq z.length (uw P e))
 let ys<-tail P e y
 match x with
 | .nil _=>do
  ck (Nat.ble (ys.length * alx P e) aj0)
  ck (Nat.ble ys.length aj0)
  new dst (.arr false (Ja P e) 0 (uw P e) ys)
  pure (.own dst 0)
 | .own r ver=>do
  match<-rd r with
  |some (.arr false fl tZ s rows)=>do
   ck (Nat.beq ver tZ)
   ck (Nat.beq s (uw P e))
   ck (match fl,Ja P e with|true,true=>true|false,false=>true|_,_=>false)
   ck (Nat.ble ((rows.length+ys.length) * alx P e) aj0)
   ck (Nat.ble (rows.length+ys.length) aj0)
   wr r (.arr false fl (ver+1) s (rows++ys))
   pure (.own r (ver+1))
  |_=> .fail
 |_=> .fail
def bound(o:Option V)(d:Int):Acc Int:=match o with
 |none=> .ret d
 |some (.d (.int _ n))=> .ret n
 |some _=> .fail
def aqz(P:Program)(t:TypeId)(x:V)(lo hi:Option V):Acc V:=
 match x with
 | .d (.str s)=>do
  ck (match P.underlying t with|some .string=>true|_=>false)
  let l<-bound lo 0
  let h<-bound hi s.length
  let s'<-op' (cut s l h)
  pure (.d (.str s'))
 |_=>do
  let e<-op' (elT P t)
  ck (Yg P e)
  let(s,rows)<-seen x
  ck (Nat.beq s (uw P e))
  let l<-bound lo 0
  let h<-bound hi rows.length
  let rows'<-op' (cut rows l h)
  match x with
  | .own r ver=>do
   match<-rd r with
   |some (.arr fz fl tZ s rows)=>do
    ck (Nat.beq ver tZ)
    match fz with
    |true=>pure (.d (.sl false s rows'))
    |false=>do
     wr r (.arr true fl ver s rows)
     pure (.d (.sl false s rows'))
   |_=> .fail
  |_=>pure (.d (.sl false s rows'))
def alz(P:Program)(t:TypeId)(x:V)(lo hi:Option V):Acc V:=
 match x with
 | .F8 row off=>do
  let(n,e)<-op' (arT P t)
  ck (Yg P e)
  ck (Nat.beq (uw P e) 1 &&(Nat.beq off 0 && Nat.beq row.length n))
  match lo,hi with
  |none,none=>pure (.d (.sl false 1 (row.map λx=>[x])))
  |_,_=> .fail
 |x=>aqz P t x lo hi
def aqA(P:Program)(t:TypeId)(x:V)(hi:Option V):Acc V:=do
 let e<-op' (elT P t)
 ck (Yg P e)
 match x with
 | .own r ver=>do
  match<-rd r with
  |some (.arr false fl tZ s rows)=>do
   ck (Nat.beq ver tZ)
   ck (Nat.beq s (uw P e))
   let h<-bound hi rows.length
   ck (decide (0<=h) && decide (h<=(rows.length:Int)))
   wr r (.arr false fl (ver+1) s (rows.take h.toNat))
   pure (.own r (ver+1))
  |_=> .fail
 |_=> .fail
def aDE(P:Program)(t:TypeId)(x lo:V):Acc V:=.fail
def yI(P:Program)(T:TypeId)(tm:lX):List (Nat×Operand)->List V->Acc (List V)
 |[],cs=>pure cs
 |(f,x)::ps,cs=>do
  let(o,n,t)<-op' (WQ P T f)
  let v:=ev P tm t x
  ck (Nat.beq v.cells.length n)
  ck (v.cells.all one)
  ck (Nat.ble (o+n) cs.length)
  yI P T tm ps (splice cs o v.cells)
def anc(P:Program)(T:TypeId):Bool:=match P.underlying T with
 |some (.struct fs)=>fs.toList.all λf=>match P.info? f.type with|some _=>true|none=>false
 |_=>false
def vG(P:Program)(e:TypeId)(tm:lX):List (Nat×Operand)->List V->Acc (List V)
 |[],cs=>pure cs
 |(i,x)::ps,cs=>do
  let v:=ev P tm e x
  ck (Nat.beq v.cells.length (uw P e))
  ck (v.cells.all one)
  ck (Nat.ble (i * uw P e+uw P e) cs.length)
  vG P e tm ps (splice cs (i * uw P e) v.cells)
def alA(P:Program)(T:TypeId)(tm:lX)(ps:List (Nat×Operand)):Acc V:=do
 ck (anc P T)
 let z<-op' (UM P T)
 let cs<-yI P T tm ps z
 pure (.agg cs)
def aqB(P:Program)(T e:TypeId)(tm:lX)(ps:List (Nat×Operand)):Acc V:=do
 ck (Yg P e)
 let z<-op' (UM P T)
 let cs<-vG P e tm ps z
 pure (.agg cs)
def alB(P:Program)(T:TypeId)(tm:lX)(ps:List (Nat×Operand)):Acc V:=match arT P T with
 |some (_,e)=>aqB P T e tm ps
 |none=>alA P T tm ps
def yJ(P:Program)(e:TypeId)(tm:lX):Nat->List (Nat×Operand)->Acc (List Row)
 |_,[]=>pure []
 |k,(i,x)::ps=>do
  ck (Nat.beq i k)
  let v:=ev P tm e x
  ck (Nat.beq v.cells.length (uw P e))
  let row<-VP v.cells
  let rows<-yJ P e tm (k+1) ps
  pure (row::rows)
def UN(P:Program)(dst:Nat)(t:TypeId)(n:Nat)(tm:lX)(ps:List (Nat×Operand)):Acc V:=do
 let e<-op' (elT P t)
 ck (Nat.ble 1 (uw P e))
 ck (Nat.beq ps.length n)
 ck (Nat.ble (n * uw P e) 16777216)
 let _<-op' (UM P e)
 let rows<-yJ P e tm 0 ps
 new dst (.arr false (Ja P e) 0 (uw P e) rows)
 pure (.own dst 0)
def agj(P:Program)(src dst:TypeId)(x:V):Acc V:=
 match P.underlying src,P.underlying dst with
 |some (.int _),some (.int k)=>match x with
  | .d (.int _ n)=> .ret (.d (.int k (k.wrap n)))
  |_=> .fail
 |some .string,some .string=>match x with
  | .d (.str s)=> .ret (.d (.str s))
  |_=> .fail
 |some (.slice e),some .string=>do
  ck (match P.underlying e with|some (.int .u8)=>true|_=>false)
  let(s,rows)<-seen x
  ck (Nat.beq s 1)
  let b<-op' (bytesOf rows)
  pure (.d (.str b))
 |_,_=> .fail
def uy:Nat:=100000
def aqC(r:Nat)(l:List Nat):List Nat:=bif mem? r l then l else l++[r]
mutual
def as4(I:List Nat):V->List Nat
 | .ptr r _=>aqC r I
 | .clo _ a b=>aj1 (aj1 I a) b
 | .agg cs=>aj1 I cs
 |_=>I
def aj1(I:List Nat):List V->List Nat
 |[]=>I
 |v::vs=>aj1 (as4 I v) vs
end
def PG(A:Adv)(f i:Nat):Nat:=bif mem? i (A.move f) then 1 else 0
def SN(A:Adv)(f:Nat):Nat->List Nat->List V->List Nat
 |_,I,[]=>I
 |i,I,v::vs=>SN A f (i+1) (as4 I v) vs
def idxOf(r:Nat):Nat->List Nat->Option Nat
 |_,[]=>none
 |i,j::l=>bif Nat.beq r j then some i else idxOf r (i+1) l
def VQ(A:Adv)(f:Nat):Nat->List V->Acc (List V)
 |_,[]=>pure []
 |i,v::vs=>do
  let v<-(match PG A f i with
   |1=>do
    let x<-toD v
    pure (.d x)
   |_=>pure v:Acc V)
  let vs<-VQ A f (i+1) vs
  pure (v::vs)
mutual
def lend(imp:List Nat):V->Acc (V×List Nat)
 | .d x=>pure (.d (roD x),[])
 | .nil s=>pure (.d (.sl false s []),[])
 | .own r ver=>do
  match<-rd r with
  |some (.arr fz fl tZ s rows)=>do
   ck (Nat.beq ver tZ)
   ck (!(mem? r imp))
   pure (.d (.sl false s (vw fl rows)),bif fz then[] else[r])
  |_=> .fail
 | .ptr r off=>do
  let i<-op' (idxOf r 0 imp)
  pure (.ptr (uy+i) off,[])
 | .F8 row off=>pure (.F8 row off,[])
 | .clo f a b=>do
  let(a,l)<-agk imp a
  let(b,l')<-agk imp b
  pure (.clo f a b,l++l')
 | .agg cs=>do
  let(a,l)<-agk imp cs
  pure (.agg a,l)
 | .JI ..=> .fail
 | .XH _=> .fail
 | .undef=> .fail
def agk(imp:List Nat):List V->Acc (List V×List Nat)
 |[]=>pure ([],[])
 |v::vs=>do
  let(v,l)<-lend imp v
  let(vs,l')<-agk imp vs
  pure (v::vs,l++l')
end
def VR(A:Adv)(imp:List Nat)(f:Nat):Nat->List V->Acc (List V×List Nat)
 |_,[]=>pure ([],[])
 |i,v::vs=>do
  let(v,l)<-(match PG A f i with
   |1=>pure (v,[])
   |_=>lend imp v:Acc (V×List Nat))
  let(vs,l')<-VR A imp f (i+1) vs
  pure (v::vs,l++l')
def au9(imp:List Nat)(own:Bool)(v:V):Acc V:=
 match v with
 | .d x=>pure (.d (roD x))
 | .nil s=>pure (.d (.sl own s []))
 | .own r ver=>do
  match<-rd r with
  |some (.arr fz fl tZ s rows)=>do
   ck (Nat.beq ver tZ)
   ck (!(mem? r imp))
   match own with
   |true=>do
    ck (!fz)
    ck (arW fl rows)
    wr r .dead
    pure (.d (.sl true s rows))
   |false=>do
    wr r (.arr true fl ver s rows)
    pure (.d (.sl false s (vw fl rows)))
  |_=> .fail
 |_=> .fail
def Yi(imp own:List Nat):Nat->List V->Acc (List V)
 |_,[]=>pure []
 |j,v::vs=>do
  let v<-au9 imp (mem? j own) v
  let vs<-Yi imp own (j+1) vs
  pure (v::vs)
def arX(A:Adv)(imp:List Nat)(c:Option Cell):Acc Cell:=
 match c with
 |some (.box t cs)=>do
  let cs<-Yi imp (A.aHJ t) 0 cs
  pure (.box t cs)
 |_=> .fail
def Yj(A:Adv)(imp:List Nat):List Nat->Acc (List Cell)
 |[]=>pure []
 |r::rs=>do
  let c<-rd r
  let c<-arX A imp c
  let cs<-Yj A imp rs
  pure (c::cs)
def keyOf(r j dst:Nat):Nat:=1000000+(r * 100+j) * 10000+dst
def vD:V->D
 | .d x=>x
 |_=> .XW
def ava(cs:List Cell)(i:Nat):Row:=match cs[i]? with|some (.box _ vs)=>vs.map vD|_=>[]
def avb(cs:List Cell)(i n:Nat):Bool:=match cs[i]? with|some (.box _ vs)=>Nat.beq vs.length n|_=>false
def avc(f:TypeId->List Bool):List TypeId->List Bool
 |[]=>[]
 |t::ts=>f t++avc f ts
def fls(P:Program):Nat->TypeId->List Bool
 |0,_=>[]
 |n+1,t=>match P.underlying t with
  |some (.slice e)=>[Ja P e]
  |some (.struct fs)=>avc (fls P n) (fs.toList.map (·.type))
  |_=>[false]
def Rh(own fl:Bool)(key:Nat)(row:Row)(j:Nat):CT->Acc V
 | .int k=> .opt (dG k row j) λn=> .ret (.d (.int k n))
 | .bool=> .opt (ajY row j) λn=> .ret (.d (.bool n))
 | .str=> .opt (cStr row j) λn=> .ret (.d (.str n))
 | .sl s=>match own with
  |true=> .opt (aHI s row j) λrows=>do
   new key (.arr false fl 0 s rows)
   pure (.own key 0)
  |false=> .opt (cSl s row j) λrows=> .ret (.d (.sl false s (vw fl rows)))
 | .other=> .fail
def abQ(own:List Nat)(r dst:Nat)(row:Row):Nat->List CT->List Bool->Acc (List V)
 |_,[],_=>pure []
 |j,ct::l,fs=>do
  let v<-Rh (mem? j own) (fs.headD false) (keyOf r j dst) row j ct
  let vs<-abQ own r dst row (j+1) l fs.tail
  pure (v::vs)
def aew(X:Ctx)(dst:Nat)(out:List Cell):Nat->List Nat->Acc Unit
 |_,[]=>pure ()
 |i,r::rs=>do
  match<-rd r with
  |some (.box t _)=>do
   ck (avb out i (Pq X.P t).length)
   let vs<-abQ (X.TI.aHJ t) r dst (ava out i) 0 (Pq X.P t) (fls X.P 8 t)
   wr r (.box t vs)
  |_=> .fail
  aew X dst out (i+1) rs
def aqD(dst c:Nat):Nat:=1000000000000000+dst * 1000+c
def VT(att:List Nat)(dst ri:Nat)(row:Row):Nat->List CT->List Bool->Acc (List V)
 |_,[],_=>pure []
 |j,ct::l,fs=>do
  let v<-Rh (mem? (ri * 20+j) att) (fs.headD false) (aqD dst (ri * 20+j)) row j ct
  let vs<-VT att dst ri row (j+1) l fs.tail
  pure (v::vs)
def aqE(X:Ctx)(att:List Nat)(dst ri:Nat)(row:Row)(t:TypeId):Acc V:=match alu X.P t with
 |some T=>do
  ck (Nat.beq row.length (Pq X.P T).length)
  let cs<-VT [] dst ri row 0 (Pq X.P T) (fls X.P 8 T)
  new (aqD dst (ri * 20+19)) (.box T cs)
  pure (.ptr (aqD dst (ri * 20+19)) 0)
 |none=>do
  ck (Nat.beq row.length (Pq X.P t).length)
  let cs<-VT att dst ri row 0 (Pq X.P t) (fls X.P 8 t)
  op' (SK X.P t cs)
def agl(res:List Row)(ri:Nat):Row:=match res[ri]? with|some r=>r|none=>[]
def aaP(X:Ctx)(att:List Nat)(dst:Nat)(res:List Row):Nat->List TypeId->Acc (List V)
 |_,[]=>pure []
 |ri,t::ts=>do
  let v<-aqE X att dst ri (agl res ri) t
  let vs<-aaP X att dst res (ri+1) ts
  pure (v::vs)
def aqF(att:List Nat)(ri:Nat):Nat->List CT->Bool
 |_,[]=>true
 |j,.sl _::l=>mem? (ri * 20+j) att && aqF att ri (j+1) l
 |j,_::l=>aqF att ri (j+1) l
def ZG(P:Program)(att:List Nat):Nat->List TypeId->Bool
 |_,[]=>true
 |ri,t::ts=>aqF att ri 0 (Pq P t) && ZG P att (ri+1) ts
def freeze:List Nat->Acc Unit
 |[]=>pure ()
 |r::rs=>do
  match<-rd r with
  |some (.arr _ fl ver s rows)=>wr r (.arr true fl ver s rows)
  |_=> .fail
  freeze rs
def abR(X:Ctx)(K:lN)(fn dst f:Nat)(args:List V):Acc V:=do
 let g<-op' X.P.funcs[f]?
 ck (g.body.isSome && !(g.name == "runtime.NumGoroutine"))
 let imp:=SN X.TI f 0 [] args
 let args<-VQ X.TI f 0 args
 let cells<-Yj X.TI imp imp
 let(args,Ri)<-VR X.TI imp f 0 args
 ck (Ri.all λr=> !(mem? r imp))
 let out<-op' (K f args cells)
 ck (Nat.beq out.1.length g.resultTypes.size)
 let need:= !(Ri.isEmpty) &&(ZG X.P (X.TI.att fn dst) 0 g.resultTypes.toList && imp.isEmpty)
 ck (bif need then out.1.all lU else true)
 freeze (bif need then[] else Ri)
 aew X dst out.2 0 imp
 let vs<-aaP X (X.TI.att fn dst) dst out.1 0 g.resultTypes.toList
 match vs with
 |[v]=>pure v
 |vs=>pure (.XH vs)
def aHM(P:Program)(ts:List TypeId)(x:V):Bool:=match ts with
 |[t]=>(match x with
  | .d (.str _)=>(match P.underlying t with|some .string=>true|_=>false)
  |_=>(match P.underlying t with|some (.slice _)=>true|_=>false))
 |_=>false
def zk(P:Program)(tm:lX):List Operand->List TypeId->List V
 |[],_=>[]
 |x::xs,ts=>ev P tm (ts.headD 0) x::zk P tm xs ts.tail
def vop(X:Ctx)(K:lN)(fn:Nat)(tm:lX)(o:Oper):Acc V:=
 let P:=X.P
 let dst:=o.dst.getD 0
 match o.op with
 | .move x=>pure (ev P tm o.type x)
 | .assign x=>pure (ev P tm o.type x)
 | .pick c x y=>au7 (ev P tm o.type c) (ev P tm o.type x) (ev P tm o.type y)
 | .alloc T=>do
  let z<-op' (UM P T)
  new dst (.box T z)
  pure (.ptr dst 0)
 | .box T x=>do
  let v:=ev P tm T x
  ck (Nat.beq v.cells.length (uw P T))
  ck (v.cells.all one)
  new dst (.box T v.cells)
  pure (.ptr dst 0)
 | .build T ps=>alB P T tm ps.toList
 | .buildSlice t n ps=>UN P dst t n tm ps.toList
 | .load t a=>au8 P t (evG X tm 0 a)
 | .store t a x=>do aqw P t (ev P tm 0 a) (ev P tm t x);pure .undef
 | .nilCheck x=>match evG X tm o.type x with
  | .ptr r off=>pure (.ptr r off)
  | .F8 row off=>pure (.F8 row off)
  | .JI r ver i off=>pure (.JI r ver i off)
  |_=> .fail
 | .binOp op t x y t'=>aEH P t op (ev P tm t x) (ev P tm t' y)
 | .unOp op t x=>un op (ev P tm t x)
 | .convert s d x=>agj P s d (ev P tm s x)
 | .slice t x lo hi none=>match X.TI.trunc fn dst,lo,hi with
  |true,none,hi=>aqA P t (ev P tm t x) (hi.map (ev P tm 3))
  |true,some lo,none=>aDE P t (ev P tm t x) (ev P tm 3 lo)
  |_,lo,hi=>alz P t (evG X tm t x) (lo.map (ev P tm 3)) (hi.map (ev P tm 3))
 | .fieldAddr T x f=>aaM P T (ev P tm 0 x) f
 | .field T x f=>aqx P T (ev P tm T x) f
 | .indexAddr t x i=>aaO P t (evG X tm t x) (ev P tm 3 i)
 | .index t x i=>aqy P t (ev P tm t x) (ev P tm 3 i)
 | .extract x i=>match ev P tm 0 x with
  | .XH vs=>op' vs[i]?
  |_=> .fail
 | .call {callee:=.value f,args,argTypes}=>match ev P tm 0 f with
  | .clo g first caps=>abR X K fn dst g (first++zk P tm args.toList argTypes.toList++caps)
  |_=> .fail
 | .call {callee:=.builtin .len,args,argTypes}=>match zk P tm args.toList argTypes.toList with
  |[x]=>do
   ck (aHM P argTypes.toList x)
   lenV x
  |_=> .fail
 | .call {callee:=.builtin .append,args,argTypes}=>match zk P tm args.toList argTypes.toList,argTypes.toList with
  |[x,y],[t,t']=>aly P dst t t' x y
  |_,_=> .fail
 | .call {callee:=.builtin .max,args,argTypes}=>match zk P tm args.toList argTypes.toList with
  |[.d (.int k x),.d (.int _ y)]=>pure (.d (.int k (bif decide (x<y) then y else x)))
  |_=> .fail
 | .call {callee:=.builtin .min,args,argTypes}=>match zk P tm args.toList argTypes.toList with
  |[.d (.int k x),.d (.int _ y)]=>pure (.d (.int k (bif decide (y<x) then y else x)))
  |_=> .fail
 |_=> .fail
mutual
def refs:V->List Nat
 | .own r _=>[r]
 | .ptr r _=>[r]
 | .JI r _ _ _=>[r]
 | .clo _ a b=>Qn a++Qn b
 | .agg cs=>Qn cs
 | .XH vs=>Qn vs
 |_=>[]
def Qn:List V->List Nat
 |[]=>[]
 |v::vs=>refs v++Qn vs
end
def agm(m:Mem)(r:Nat):List Nat:=match get r m with
 |some (.box _ cs)=>Qn cs
 |_=>[]
def PI(k:Nat):Bool:=Nat.ble uy k && Nat.blt k (2 * uy)
def abS:List Nat->List Nat->List Nat
 |acc,[]=>acc
 |acc,k::ks=>abS (bif mem? k acc then acc else acc++[k]) ks
def ay1(tm:lX)(m:Mem):List Nat:=
 let l0:=abS [] (tm.flatMap λx=>refs x.2)
 let l1:=abS l0 (l0.flatMap (agm m))
 let l2:=abS l1 (l1.flatMap (agm m))
 (abS l2 (m.map (·.1))).filter λk=> !(PI k)
def names:List Nat:=[nat_lit 300000,nat_lit 300001,nat_lit 300002,nat_lit 300003,nat_lit 300004,nat_lit 300005,nat_lit 300006,nat_lit 300007,nat_lit 300008,nat_lit 300009,nat_lit 300010,nat_lit 300011,nat_lit 300012,nat_lit 300013,nat_lit 300014,nat_lit 300015,nat_lit 300016,nat_lit 300017,nat_lit 300018,nat_lit 300019,nat_lit 300020,nat_lit 300021,nat_lit 300022,nat_lit 300023,nat_lit 300024,nat_lit 300025,nat_lit 300026,nat_lit 300027,nat_lit 300028,nat_lit 300029,nat_lit 300030,nat_lit 300031,nat_lit 300032,nat_lit 300033,nat_lit 300034,nat_lit 300035,nat_lit 300036,nat_lit 300037,nat_lit 300038,nat_lit 300039,nat_lit 300040,nat_lit 300041,nat_lit 300042,nat_lit 300043,nat_lit 300044,nat_lit 300045,nat_lit 300046,nat_lit 300047,nat_lit 300048,nat_lit 300049,nat_lit 300050,nat_lit 300051,nat_lit 300052,nat_lit 300053,nat_lit 300054,nat_lit 300055,nat_lit 300056,nat_lit 300057,nat_lit 300058,nat_lit 300059,nat_lit 300060,nat_lit 300061,nat_lit 300062,nat_lit 300063]
def ay2:List Nat->List Nat->List (Nat×Nat)
 |n::ns,k::l=>(k,n)::ay2 ns l
 |_,_=>[]
def ren(L:List (Nat×Nat))(k:Nat):Nat:=match get k L with
 |some j=>j
 |none=>k
mutual
def Vh(L:List (Nat×Nat)):V->V
 | .d x=> .d x
 | .nil s=> .nil s
 | .own r ver=> .own (ren L r) ver
 | .ptr r off=> .ptr (ren L r) off
 | .JI r ver i off=> .JI (ren L r) ver i off
 | .F8 row off=> .F8 row off
 | .clo f a b=> .clo f (Yk L a) (Yk L b)
 | .agg cs=> .agg (Yk L cs)
 | .XH vs=> .XH (Yk L vs)
 | .undef=> .undef
def Yk(L:List (Nat×Nat)):List V->List V
 |[]=>[]
 |v::vs=>Vh L v::Yk L vs
end
def ajc(L:List (Nat×Nat)):Cell->Cell
 | .box t cs=> .box t (Yk L cs)
 | .arr fz fl ver s rows=> .arr fz fl ver s rows
 | .dead=> .dead
def TR(L:List (Nat×Nat)):Mem->Mem
 |[]=>[]
 |(k,c)::m=>put (ren L k) (ajc L c) (TR L m)
def agn(L:List (Nat×Nat)):lX->lX
 |[]=>[]
 |(t,v)::tm=>(t,Vh L v)::agn L tm
def nodupB:List Nat->Bool
 |[]=>true
 |k::l=> !(mem? k l) && nodupB l
def abT(L:List (Nat×Nat))(ks:List Nat):Bool:=nodupB (ks.map (ren L)) && ks.all λk=>bif PI k then Nat.beq (ren L k) k else true
def alC(L:List (Nat×Nat))(S:St):St:=match abT L (S.mem.map (·.1)) with
 |true=>⟨agn L S.tm,TR L S.mem⟩
 |false=>S
def canon(S:St):St:=match ay1 S.tm S.mem with
 |[]=>S
 |k::o=>alC (ay2 names (k::o)) S
mutual
def aaQ(m:Mem):V->V
 | .d x=> .d x
 | .nil s=> .nil s
 | .own r ver=>match get r m with
  |some (.arr _ _ tZ _ _)=>bif Nat.beq ver tZ then .own r 0 else .undef
  |_=> .undef
 | .ptr r off=>match get r m with
  |some (.box _ _)=> .ptr r off
  |_=> .undef
 | .JI r ver i off=>match get r m with
  |some (.arr _ _ tZ _ _)=>bif Nat.beq ver tZ then .JI r 0 i off else .undef
  |_=> .undef
 | .F8 row off=> .F8 row off
 | .clo f a b=> .clo f (aaj m a) (aaj m b)
 | .agg cs=> .agg (aaj m cs)
 | .XH vs=> .XH (aaj m vs)
 | .undef=> .undef
def aaj(m:Mem):List V->List V
 |[]=>[]
 |v::vs=>aaQ m v::aaj m vs
end
def ND(m:Mem):Cell->Cell
 | .box t cs=> .box t (aaj m cs)
 | .arr fz fl _ s rows=> .arr fz fl 0 s rows
 | .dead=> .dead
def aaR(m:Mem)(tm:lX):List Nat->lX
 |[]=>[]
 |t::ts=>match get t tm with
  |some v=>(t,aaQ m v)::aaR m tm ts
  |none=>aaR m tm ts
def aaS:List Nat->List Nat->List Nat
 |[],l=>l
 |a::as,l=>bif mem? a l then aaS as l else aaS as (a::l)
def reach(m:Mem):Nat->List Nat->List Nat
 |0,l=>l
 |n+1,l=>reach m n (aaS (l.flatMap (agm m)) l)
def roots(tm:lX)(m:Mem):List Nat:=
 aaS (tm.flatMap λx=>refs x.2) ((m.map (·.1)).filter PI)
def BK(all:Mem)(R:List Nat):Mem->Mem
 |[]=>[]
 |(k,c)::m=>match c with
  | .dead=>BK all R m
  |c=>bif mem? k R then(k,ND all c)::BK all R m else BK all R m
def closed(R:List Nat)(m:Mem):Bool:=m.all λx=>match x.2 with
 | .box _ cs=>(Qn cs).all λr=>mem? r R
 |_=>true
def aHN(m:Mem):Bool:=m.all λx=>match x.2 with
 | .arr _ _ ver _ _=>bif PI x.1 then Nat.beq ver 0 else true
 | .dead=> !(PI x.1)
 |_=>true
def sortedK:Mem->Bool
 |[]=>true
 |(k,_)::m=>match m with
  |[]=>true
  |(j,_)::_=>Nat.blt k j && sortedK m
def aEI(r:Nat)(m:Mem):Mem:=match get r m with
 |some (.arr _ fl ver s rows)=>put r (.arr true fl ver s rows) m
 |_=>m
def as5(tm:lX):List Nat->Mem->Mem
 |[],m=>m
 |t::ts,m=>bif Nat.ble 5000 t then(match get (t - 5000) tm with
   |some (.own r _)=>as5 tm ts (aEI r m)
   |_=>as5 tm ts m) else as5 tm ts m
def aqG(ts:List Nat)(S:St):Option St:=
 let tm:=aaR S.mem S.tm ts
 let R:=reach S.mem 3 (roots tm S.mem)
 let m:=BK S.mem R S.mem
 bif closed R m &&(aHN S.mem && sortedK S.mem) then some ⟨tm,m⟩ else none
def adh(ts:List Nat)(S:St):Option St:=aqG ts ⟨S.tm,as5 S.tm ts S.mem⟩
def prune(ts:List Nat)(S:St):Option St:=match adh ts S with
 |some S'=>some (canon S')
 |none=>none
def F9(ops:Array Oper)(tm:lX)(o:Oper):Option (Bool×lX):=
 match o.guard with
 |none=>some (true,tm)
 |some (j,want)=>match ops[j]? with
  |some oj=>match oj.dst with
   |some d=>match ZV d tm with
    | .d (.bool b)=>match b with
     |true=>some (want,put d (.d (.bool true)) tm)
     |false=>some (!want,put d (.d (.bool false)) tm)
    | .XH vs=>match vs with
     |[]=>some (false,put d (.XH []) tm)
     |_::_=>none
    |_=>none
   |none=>none
  |none=>none
def Yl(nt:Nat):Option Nat->Bool
 |some d=>Nat.blt d nt
 |none=>true
def XY(P:Program)(fn:Nat):Nat:=match P.funcs[fn]? with|some g=>g.ntmps|none=>0
def aex(nt:Nat)(dst:Option Nat)(tm:lX):lX:=bif Yl nt dst then ajb dst (.XH []) tm else ayZ dst tm
def Ea(X:Ctx)(K:lN)(fn:Nat)(ops:Array Oper)(i:Nat)(S:St):Option (St×Log):=
 match ops[i]? with
 |none=>none
 |some o=>match F9 ops S.tm o with
  |none=>none
  |some (false,tm)=>some (⟨aex (XY X.P fn) o.dst tm,S.mem⟩,.none)
  |some (true,tm)=>match(vop X K fn tm o).run S.mem .none with
   |none=>none
   |some (v,m,l)=>bif Yl (XY X.P fn) o.dst then some (⟨ajb o.dst v tm,m⟩,l) else none
def MK(X:Ctx)(K:lN)(fn:Nat)(ops:Array Oper):List Nat->St->List (Nat×Log)->Option (St×List (Nat×Log))
 |[],S,L=>some (S,L)
 |i::is,S,L=>match Ea X K fn ops i S with
  |none=>none
  |some (S',l)=>MK X K fn ops is S' ((i,l)::L)
def ay3(a b:List Nat):Bool:=a.all λk=> !(mem? k b)
def Log.apart(a b:Log):Bool:=ay3 a.w b.r && ay3 a.w b.w && ay3 a.r b.w
def ordered(bef:Array Nat)(i j:Nat):Bool:=(bef.getD i 0).testBit j
def Ym(ops:Array Oper)(bef:Array Nat):List (Nat×Log)->Bool
 |[]=>true
 |(i,l)::L=>(L.all fun(j,l')=>ordered bef i j||(l.apart l' &&(match ops[i]?,ops[j]? with
   |some a,some b=>a.apart ops b
   |_,_=>false))) && Ym ops bef L
def Yn:Nat->List Oper->Bool
 |_,[]=>true
 |i,o::l=>(o.after.toList.all λe=> !(Region.binds .any e)||Nat.blt e.on i) && Yn (i+1) l
def backOk(ops:Array Oper):Bool:=Yn 0 ops.toList
def JJ(X:Ctx)(K:lN)(fn id:Nat)(ops:Array Oper)(draw:Bool)(S:St):Option (St×List (Nat×Log)):=MK X K fn ops (List.range ops.size) S []
def region(X:Ctx)(K:lN)(fn id:Nat)(ops:Array Oper)(draw:Bool)(S:St):Option St:=
 match JJ X K fn id ops draw S with
 |none=>none
 |some (S',L)=>bif(match draw with|false=>true|true=>X.P.follows .mixedOrders &&(backOk ops && Ym ops (Region.before ops) L)) then prune (X.TI.keep fn id) S' else none
inductive Ex where
 |normal
 |exit (id:Nat)
 |ret
noncomputable def lim{α:Type}(f:Nat->Option α):Option α:=
 open Classical in if h:∃a n,f n=some a then some (Classical.choose h) else none
def iter(b:St->Option (Ex×St)):Nat->St->Option (Ex×St)
 |0,_=>none
 |n+1,S=>match b S with
  |some (.normal,S')=>iter b n S'
  |r=>r
noncomputable def Yo(b:St->Option (Ex×St))(S:St):Option (Ex×St):=lim λn=>iter b n S
def aak(P:Program)(tm:lX)(c:Operand):Option Bool:=match ev P tm 0 c with
 | .d (.bool b)=>some b
 |_=>none
noncomputable def den(X:Ctx)(K:lN)(fn:Nat):Code->St->Option (Ex×St)
 | .skip,S=>some (.normal,S)
 | .region id ops draw,S=>match region X K fn id ops draw S with
  |some S'=>some (.normal,S')
  |none=>none
 | .seq a b,S=>match den X K fn a S with
  |some (.normal,S')=>den X K fn b S'
  |r=>r
 | .cond c a b,S=>match aak X.P S.tm c with
  |some true=>den X K fn a S
  |some false=>den X K fn b S
  |none=>none
 | .block id c,S=>match den X K fn c S with
  |some (.exit j,S')=>bif Nat.beq j id then some (.normal,S') else some (.exit j,S')
  |r=>r
 | .loop c,S=>Yo (den X K fn c) S
 | .exit id,S=>some (.exit id,S)
 | .ret,S=>some (.ret,S)
 |_,_=>none
def aqH(A:Adv)(f i:Nat)(fl:Bool)(v:V):Acc V:=
 match PG A f i with
 |1=>(match v with
  | .d (.sl true s rows)=>do
   new i (.arr false fl 0 s rows)
   pure (.own i 0)
  | .d x=>pure (.d (roD x))
  |_=> .fail)
 |_=>pure v
def abU(X:Ctx)(f:Nat):Nat->List TypeId->List V->Acc lX
 |_,_,[]=>pure []
 |i,ts,v::vs=>do
  let v<-aqH X.TI f i ((fls X.P 8 (ts.headD 0)).headD false) v
  let r<-abU X f (i+1) ts.tail vs
  pure ((i,v)::r)
def wu:Nat->List Cell->Mem
 |_,[]=>[]
 |i,c::cs=>(uy+i,c)::wu (i+1) cs
def yc(n:Nat):List Nat:=(List.range n).map (uy+ ·)
def entry(X:Ctx)(f:Nat)(g:Func)(args:List V)(cells:List Cell):Acc lX:=do
 aew X 9999 cells 0 (yc cells.length)
 abU X f 0 g.params.toList args
def agp(T:TypeId)(v:V):Acc Row:=match v with
 | .ptr r off=>do
  match<-rd r with
  |some (.box T' cs)=>do
   ck (Nat.beq T T' && Nat.beq off 0)
   wr r .dead
   VP cs
  |_=> .fail
 |_=> .fail
def alD(P:Program)(tm:lX)(r:ResultVar)(t:TypeId):Acc Row:=
 match r with
 | .tmp x=>match alu P t with
  |some T=>agp T (ZV x tm)
  |none=>match RH P t,ZV x tm with
   |true,.agg cs=>VP cs
   |false,.agg _=> .fail
   |false,v=>VP [v]
   |true,_=> .fail
 | .cell a T=>match ZV a tm with
  | .ptr r 0=>do
   match<-rd r with
   |some (.box _ cs)=>do
    ck (Nat.beq T t && Nat.beq cs.length (uw P T) &&(Yg P T &&(RH P T||Nat.beq cs.length 1)) &&(alu P t).isNone)
    VP cs
   |_=> .fail
  |_=> .fail
def ZH(P:Program)(tm:lX):List ResultVar->List TypeId->Acc (List Row)
 |[],[]=>pure []
 |r::rs,t::ts=>do
  let row<-alD P tm r t
  let rows<-ZH P tm rs ts
  pure (row::rows)
 |_,_=> .fail
def leave(X:Ctx)(g:Func)(n:Nat)(S:St):Option (List Row×List Cell):=
 match(do
  let rows<-ZH X.P S.tm g.results.toList g.resultTypes.toList
  let cells<-Yj X.TI (yc n) (yc n)
  pure (rows,cells):Acc (List Row×List Cell)).run S.mem .none with
 |some (r,_,_)=>some r
 |none=>none
noncomputable def body(X:Ctx)(K:lN)(f:Nat)(args:List V)(cells:List Cell):Option (List Row×List Cell):=
 match X.P.funcs[f]? with
 |some g=>match g.body with
  |some c=>bif !(Nat.ble cells.length uy && Nat.ble args.length g.ntmps) then none else match(entry X f g args cells).run (wu 0 cells) .none with
   |some (tm,m,_)=>(match den X K f c ⟨tm,m⟩ with
    |some (.normal,S)=>leave X g cells.length S
    |some (.ret,S)=>leave X g cells.length S
    |_=>none)
   |none=>none
  |none=>none
 |none=>none
noncomputable def Yp(X:Ctx):Nat->lN
 |0,_,_,_=>none
 |n+1,f,args,cells=>match X.VO f with
  |some p=>p args cells
  |none=>body X (Yp X n) f args cells
noncomputable def call(X:Ctx):lN:=λf args cells=>lim λn=>Yp X n f args cells
abbrev View:=Nat->Nat->Option Value
abbrev Heap:=Nat->Option Obj
def dO(w:World):Heap:=λb=>w.heap[b]?
mutual
def ro(h:View):D->Value->Prop
 | .int k n,v=>v=.int k n
 | .bool b,v=>v=.bool b
 | .str s,v=>v=.string ⟨⟨s⟩⟩
 | .XW,v=>v=.nilFunc
 | .sl _ s rows,v=>∃a cap,v=.slice a rows.length cap/\rows.length<=cap/\(rows≠[]->∃b o,a=some ⟨b,o,none⟩/\rP h s rows b o)
def rP(h:View)(s:Nat):List Row->Nat->Nat->Prop
 |[],_,_=>True
 |r::rs,b,o=>r.length=s/\zU h r b o/\rP h s rs b (o+s)
def zU(h:View):Row->Nat->Nat->Prop
 |[],_,_=>True
 |x::r,b,o=>(∃v,h b o=some v/\ro h x v)/\zU h r b (o+1)
end
mutual
def ow(H:Heap)(h:View):D->Value->List Nat->Prop
 | .int k n,v,N=>v=.int k n/\N=[]
 | .bool b,v,N=>v=.bool b/\N=[]
 | .str s,v,N=>v=.string ⟨⟨s⟩⟩/\N=[]
 | .XW,v,N=>v=.nilFunc/\N=[]
 | .sl own s rows,v,N=>match own with
  |false=>N=[]/\ro h (.sl false s rows) v
  |true=>(rows=[]/\v=.slice none 0 0/\N=[])\/
   ∃b cap cs t N',v=.slice (some ⟨b,0,none⟩) rows.length cap/\rows.length<=cap/\H b=some (.cells cs t (0,0))/\cs.size=cap * s/\
    iP H h s rows cs.toList N'/\N=b::N'
def iP(H:Heap)(h:View)(s:Nat):List Row->List Value->List Nat->Prop
 |[],_,N=>N=[]
 |r::rs,cs,N=>r.length=s/\∃N1 N2,N=N1++N2/\jU H h r cs N1/\iP H h s rs (cs.drop s) N2
def jU(H:Heap)(h:View):Row->List Value->List Nat->Prop
 |[],_,N=>N=[]
 |x::r,cs,N=>∃v cs' N1 N2,cs=v::cs'/\N=N1++N2/\ow H h x v N1/\jU H h r cs' N2
end
def ji(h:View):Row->List Value->Prop
 |[],_=>True
 |x::r,cs=>∃v cs',cs=v::cs'/\ro h x v/\ji h r cs'
def iU(h:View)(s:Nat):List Row->List Value->Prop
 |[],_=>True
 |r::rs,cs=>r.length=s/\ji h r cs/\iU h s rs (cs.drop s)
def aaT(H:Heap)(h:View)(fl:Bool)(s:Nat)(rows:List Row)(v:Value)(N:List Nat):Prop:=
 (rows=[]/\v=.slice none 0 0/\N=[])\/
 ∃b cap cs t N',v=.slice (some ⟨b,0,none⟩) rows.length cap/\rows.length<=cap/\H b=some (.cells cs t (0,0))/\cs.size=cap * s/\
  (match fl with
   |true=>iU h s rows cs.toList/\N'=[]
   |false=>iP H h s rows cs.toList N')/\N=b::N'
def aaU(g:Value):Prop:=∃a n c,g=.slice a n c
def avd(g:Value):Prop:=∃b o,g=.pointer (some ⟨b,o,none⟩)
mutual
def bn(μ:Nat->Value)(m:Mem)(h:View):V->Value->Prop
 | .d x,g=>ro h x g
 | .nil _,g=>g=.slice none 0 0
 | .own r v0,g=>aaU g/\match get r m with
  |some (.arr _ _ ver _ _)=>v0<=ver/\(v0=ver->g=μ r)
  |some .dead=>True
  |_=>False
 | .ptr r off,g=>avd g/\match get r m with
  |some (.box _ _)=>∃b,μ r=.pointer (some ⟨b,0,none⟩)/\g=.pointer (some ⟨b,off,none⟩)
  |some .dead=>True
  |_=>False
 | .JI r v0 i off,g=>avd g/\match get r m with
  |some (.arr _ _ ver s _)=>v0<=ver/\(v0=ver->∃b n cap,μ r=.slice (some ⟨b,0,none⟩) n cap/\g=.pointer (some ⟨b,i * s+off,none⟩))
  |some .dead=>True
  |_=>False
 | .F8 row off,g=>∃b o,g=.pointer (some ⟨b,o+off,none⟩)/\zU h row b o
 | .clo f first caps,g=>∃a c,g=.func (.func f) a c/\dh μ m h first a.toList/\dh μ m h caps c.toList
 | .agg cs,g=>∃a,g=.agg a/\dh μ m h cs a.toList
 | .XH vs,g=>∃a,g=.tuple a/\dh μ m h vs a.toList
 | .undef,_=>True
def dh(μ:Nat->Value)(m:Mem)(h:View):List V->List Value->Prop
 |[],gs=>gs=[]
 |v::vs,gs=>∃g gs',gs=g::gs'/\bn μ m h v g/\dh μ m h vs gs'
end
def uz(μ:Nat->Value)(m:Mem)(H:Heap)(h:View)(r:Nat):Cell->List Nat->Prop
 | .box t cs,N=>∃b a,μ r=.pointer (some ⟨b,0,none⟩)/\H b=some (.cells a t (0,0))/\dh μ m h cs a.toList/\N=[b]
 | .arr fz fl _ s rows,N=>match fz with
  |true=>ro h (.sl true s rows) (μ r)/\N=[]
  |false=>aaT H h fl s rows (μ r) N
 | .dead,N=>N=[]
open Classical in
noncomputable def view(w:World)(U X:Nat->Prop):View:=λb o=>if U b/\¬X b then w.cell? ⟨b,o,none⟩ else none
def excl(F:Nat->List Nat)(E:List Nat):Nat->Prop:=λb=>b∈E\/∃r,b∈F r
structure Keep(M:List Nat)(w w':World):Prop where
 os:w'.os=w.os
 tape:w'.tape=w.tape
 output:w'.output=w.output
 size:w.heap.size<=w'.heap.size
 block:∀b,b<w.heap.size->b ∉ M->w'.heap[b]? =w.heap[b]?
def Keep.refl(M:List Nat)(w:World):Keep M w w:=⟨rfl,rfl,rfl,Nat.le_refl _,λ_ _ _=>rfl⟩
def Keep.trans{M M':List Nat}{a b c:World}(h:Keep M a b)(k:Keep M' b c)(hM:∀x,x∈M'->x∈M\/a.heap.size<=x):Keep M a c:=
 ⟨k.os.trans h.os,k.tape.trans h.tape,k.output.trans h.output,Nat.le_trans h.size k.size,λi hi hm=>(k.block i (Nat.lt_of_lt_of_le hi h.size) (λhx=>(hM i hx).elim hm (λhl=>absurd hi (Nat.not_lt.2 hl)))).trans (h.block i hi hm)⟩
structure MInv(base:Nat)(U:Nat->Prop)(m:Mem)(w:World)(μ:Nat->Value)(F:Nat->List Nat)(E:List Nat)(out:List Nat):Prop where
 cell:∀r c,get r m=some c->r ∉ out->uz μ m (dO w) (view w U (excl F E)) r c (F r)
 dj:∀r r',r≠r'->∀b,b∈F r->b ∉ F r'
 djE:∀r b,b∈F r->b ∉ E
 nd:∀r,(F r).Nodup
 ndE:E.Nodup
 lt:∀b,excl F E b->b<w.heap.size/\base<=b/\U b
 up:∀b,w.heap.size<=b->U b
 bs:base<=w.heap.size
 none_:∀r,get r m=none->F r=[]
 out_:∀r,r∈out->F r=[]
def View.le(h h':View):Prop:=∀b o v,h b o=some v->h' b o=some v
def View.le_refl(h:View):h.le h:=λ_ _ _ x=>x
def View.le.trans'{a b c:View}(h:a.le b)(k:b.le c):a.le c:=λx y v q=>k x y v (h x y v q)
mutual
def JK{h h':View}(hl:h.le h'):∀(x:D) (v:Value),ro h x v->ro h' x v
 | .int _ _,_,q=>by simpa[ro] using q
 | .bool _,_,q=>by simpa[ro] using q
 | .str _,_,q=>by simpa[ro] using q
 | .XW,_,q=>by simpa[ro] using q
 | .sl _ s rows,v,q=>by simp only[ro] at q|-;obtain⟨a,cap,h1,h2,h3⟩:=q;refine⟨a,cap,h1,h2,λhn=> ?_⟩;obtain⟨b,o,h4,h5⟩:=h3 hn;exact⟨b,o,h4,aey hl s rows b o h5⟩
def aey{h h':View}(hl:h.le h')(s:Nat):∀(rows:List Row) (b o:Nat),rP h s rows b o->rP h' s rows b o
 |[],_,_,_=>by simp[rP]
 |r::rs,b,o,q=>by simp only[rP] at q|-;exact⟨q.1,TS hl r b o q.2.1,aey hl s rs b (o+s) q.2.2⟩
def TS{h h':View}(hl:h.le h'):∀(r:Row) (b o:Nat),zU h r b o->zU h' r b o
 |[],_,_,_=>by simp[zU]
 |x::r,b,o,q=>by simp only[zU] at q|-;obtain⟨⟨v,h1,h2⟩,h3⟩:=q;exact⟨⟨v,hl _ _ _ h1,JK hl x v h2⟩,TS hl r b (o+1) h3⟩
end
mutual
def alE{H H':Heap}{h h':View}(hl:h.le h'):∀(x:D) (v:Value) (N:List Nat),(∀b,b∈N->H' b=H b)->ow H h x v N->ow H' h' x v N
 | .int _ _,_,_,_,q=>by simpa[ow] using q
 | .bool _,_,_,_,q=>by simpa[ow] using q
 | .str _,_,_,_,q=>by simpa[ow] using q
 | .XW,_,_,_,q=>by simpa[ow] using q
 | .sl false s rows,v,N,_,q=>by simp only[ow] at q|-;exact⟨q.1,JK hl _ _ q.2⟩
 | .sl true s rows,v,N,hb,q=>by
  simp only[ow] at q|-;rcases q with q|⟨b,cap,cs,t,N',h1,h2,h3,h4,h5,rfl⟩
  ·exact .inl q
  ·exact .inr ⟨b,cap,cs,t,N',h1,h2,by rw[hb b (by simp)];exact h3,h4,Jb hl s rows cs.toList N' (λb' hb'=>hb b' (by simp[hb'])) h5,rfl⟩
def Jb{H H':Heap}{h h':View}(hl:h.le h')(s:Nat):∀(rows:List Row) (cs:List Value) (N:List Nat),(∀b,b∈N->H' b=H b)->iP H h s rows cs N->iP H' h' s rows cs N
 |[],_,_,_,q=>by simpa[iP] using q
 |r::rs,cs,N,hb,q=>by simp only[iP] at q|-;obtain⟨h1,N1,N2,rfl,h2,h3⟩:=q;exact⟨h1,N1,N2,rfl,PK hl r cs N1 (λb hx=>hb b (by simp[hx])) h2,Jb hl s rs _ N2 (λb hx=>hb b (by simp[hx])) h3⟩
def PK{H H':Heap}{h h':View}(hl:h.le h'):∀(r:Row) (cs:List Value) (N:List Nat),(∀b,b∈N->H' b=H b)->jU H h r cs N->jU H' h' r cs N
 |[],_,_,_,q=>by simpa[jU] using q
 |x::r,cs,N,hb,q=>by simp only[jU] at q|-;obtain⟨v,cs',N1,N2,rfl,rfl,h2,h3⟩:=q;exact⟨v,cs',N1,N2,rfl,rfl,alE hl x v N1 (λb hx=>hb b (by simp[hx])) h2,PK hl r cs' N2 (λb hx=>hb b (by simp[hx])) h3⟩
end
def abV{h h':View}(hl:h.le h'):∀(r:Row) (cs:List Value),ji h r cs->ji h' r cs
 |[],_,_=>trivial
 |x::r,cs,⟨v,cs',h1,h2,h3⟩=>⟨v,cs',h1,JK hl x v h2,abV hl r cs' h3⟩
def KU{h h':View}(hl:h.le h')(s:Nat):∀(rows:List Row) (cs:List Value),iU h s rows cs->iU h' s rows cs
 |[],_,_=>trivial
 |r::rs,cs,⟨h1,h2,h3⟩=>⟨h1,abV hl r cs h2,KU hl s rs _ h3⟩
def VU{H H':Heap}{h h':View}(hl:h.le h'){fl:Bool}{s:Nat}{rows:List Row}{v:Value}{N:List Nat}(hb:∀b,b∈N->H' b=H b)(q:aaT H h fl s rows v N):aaT H' h' fl s rows v N:=by
 rcases q with q|⟨b,cap,cs,t,N',h1,h2,h3,h4,h5,rfl⟩
 ·exact .inl q
 ·refine .inr ⟨b,cap,cs,t,N',h1,h2,by rw[hb b (by simp)];exact h3,h4, ?_,rfl⟩;cases fl with
  |true=>exact⟨KU hl s rows _ h5.1,h5.2⟩
  |false=>exact Jb hl s rows _ N' (λb' hb'=>hb b' (by simp[hb'])) h5
def ML(μ μ':Nat->Value)(r:Nat):Cell->Cell->Prop
 | .box t _,.box t' _=>t'=t/\μ' r=μ r
 | .arr _ fl ver s _,.arr _ fl' tZ s' _=>ver<=tZ/\fl'=fl/\(ver=tZ->μ' r=μ r/\s'=s)
 |_,.dead=>True
 |_,_=>False
def Jc(μ:Nat->Value)(m:Mem)(μ':Nat->Value)(m':Mem):Prop:=∀r c,get r m=some c->∃c',get r m'=some c'/\ML μ μ' r c c'
def aez(μ:Nat->Value)(r:Nat)(c:Cell):ML μ μ r c c:=by cases c<;>simp[ML]
def yK(μ:Nat->Value)(m:Mem):Jc μ m μ m:=λr c h=>⟨c,h,aez μ r c⟩
def zy{μ1 μ2 μ3:Nat->Value}{m1 m2 m3:Mem}(h:Jc μ1 m1 μ2 m2)(k:Jc μ2 m2 μ3 m3):Jc μ1 m1 μ3 m3:=by
 intro r c hc;obtain⟨c',h1,h2⟩:=h r c hc;obtain⟨c'',k1,k2⟩:=k r c' h1;refine⟨c'',k1, ?_⟩;cases c<;>cases c'<;>cases c''<;>simp_all [ML]
 ·rename_i ver s _ _ _ tZ s' _ _ _ aHO s'' _;refine⟨ak,λe=> ?_⟩;have e1:ver=tZ:=ak;have e2:tZ=aHO:=ak;exact⟨(k2.2.2 e2).1.trans (h2.2.2 e1).1,(k2.2.2 e2).2.trans (h2.2.2 e1).2⟩
mutual
def PL{μ μ':Nat->Value}{m m':Mem}{h h':View}(hm:Jc μ m μ' m')(hl:h.le h'):∀(v:V) (g:Value),bn μ m h v g->bn μ' m' h' v g
 | .d x,g,q=>by simp only[bn] at q|-;exact JK hl x g q
 | .nil _,_,q=>by simpa[bn] using q
 | .own r v0,g,q=>by
  simp only[bn] at q|-;refine⟨q.1, ?_⟩;replace q:=q.2;cases hc:get r m with
  |none=>simp[hc] at q
  |some c=>
   obtain⟨c',h1,h2⟩:=hm r c hc;rw[h1];cases c<;>cases c'<;>simp_all [ML]
   ·rename_i ver s _ _ _ tZ s' _;refine⟨ak,λe=> ?_⟩;have e1:ver=tZ:=ak;rw[(h2.2.2 e1).1];exact q.2 ak
 | .ptr r off,g,q=>by
  simp only[bn] at q|-;refine⟨q.1, ?_⟩;replace q:=q.2;cases hc:get r m with
  |none=>simp[hc] at q
  |some c=>obtain⟨c',h1,h2⟩:=hm r c hc;rw[h1];cases c<;>cases c'<;>simp_all [ML]
 | .JI r v0 i off,g,q=>by
  simp only[bn] at q|-;refine⟨q.1, ?_⟩;replace q:=q.2;cases hc:get r m with
  |none=>simp[hc] at q
  |some c=>
   obtain⟨c',h1,h2⟩:=hm r c hc;rw[h1];cases c<;>cases c'<;>simp_all [ML]
   ·rename_i ver s _ _ _ tZ s' _;refine⟨ak,λe=> ?_⟩;have e1:ver=tZ:=ak;rw[(h2.2.2 e1).1,(h2.2.2 e1).2];exact q.2 ak
 | .F8 row off,g,q=>by simp only[bn] at q|-;obtain⟨b,o,h1,h2⟩:=q;exact⟨b,o,h1,TS hl row b o h2⟩
 | .clo f first caps,g,q=>by simp only[bn] at q|-;obtain⟨a,c,h1,h2,h3⟩:=q;exact⟨a,c,h1,wz hm hl first _ h2,wz hm hl caps _ h3⟩
 | .agg cs,g,q=>by simp only[bn] at q|-;obtain⟨a,h1,h2⟩:=q;exact⟨a,h1,wz hm hl cs _ h2⟩
 | .XH vs,g,q=>by simp only[bn] at q|-;obtain⟨a,h1,h2⟩:=q;exact⟨a,h1,wz hm hl vs _ h2⟩
 | .undef,_,_=>by simp[bn]
def wz{μ μ':Nat->Value}{m m':Mem}{h h':View}(hm:Jc μ m μ' m')(hl:h.le h'):∀(vs:List V) (gs:List Value),dh μ m h vs gs->dh μ' m' h' vs gs
 |[],_,q=>by simpa[dh] using q
 |v::vs,gs,q=>by simp only[dh] at q|-;obtain⟨g,gs',h1,h2,h3⟩:=q;exact⟨g,gs',h1,PL hm hl v g h2,wz hm hl vs gs' h3⟩
end
def NG{μ μ':Nat->Value}{m m':Mem}{H H':Heap}{h h':View}(hm:Jc μ m μ' m')(hl:h.le h'){r:Nat}(hr:μ' r=μ r){c:Cell}{N:List Nat}(hb:∀b,b∈N->H' b=H b)
  (q:uz μ m H h r c N):uz μ' m' H' h' r c N:=by
 cases c with
 |box t cs=>obtain⟨b,a,h1,h2,h3,rfl⟩:=q;exact⟨b,a,by rw[hr];exact h1,by rw[hb b (by simp)];exact h2,wz hm hl cs _ h3,rfl⟩
 |arr fz fl ver s rows=>
  cases fz with
  |true=>exact⟨by rw[hr];exact JK hl _ _ q.1,q.2⟩
  |false=>simp only[uz] at q|-;rw[hr];exact VU hl hb q
 |dead=>exact q
def zV{k j:Nat}(h:k≠j):Nat.beq k j=false:=by
 cases hb:Nat.beq k j with
 |false=>rfl
 |true=>exact absurd (Ia hb) h
def kD{α:Type}(k:Nat)(x:α):∀l:List (Nat×α),get k (put k x l)=some x
 |[]=>by simp[put,get]
 |(j,y)::l=>by
  simp only[put]
  by_cases h:k=j
  ·subst h;simp[get]
  ·have hb:Nat.beq k j=false:=zV h;rw[hb];cases hl:Nat.blt k j with
   |true=>simp[get]
   |false=>simp[get,hb,kD k x l]
def nO{α:Type}{k k':Nat}(hk:k≠k')(x:α):∀l:List (Nat×α),get k (put k' x l)=get k l
 |[]=>by have hb:Nat.beq k k'=false:=zV hk;simp[put,get,hb]
 |(j,y)::l=>by
  have hb:Nat.beq k k'=false:=zV hk;simp only[put]
  by_cases h:k'=j
  ·subst h;simp[get,hb]
  ·have hb':Nat.beq k' j=false:=zV h;rw[hb'];cases hl:Nat.blt k' j with
   |true=>simp[get,hb]
   |false=>simp[get,nO hk x l]
def NH{α:Type}(k:Nat):∀l:List (Nat×α),get k (del k l)=none
 |[]=>rfl
 |(j,y)::l=>by
  simp only[del];cases hb:Nat.beq k j with
  |true=>simpa using NH k l
  |false=>simp[get,hb,NH k l]
def Qo{α:Type}{k k':Nat}(hk:k≠k'):∀l:List (Nat×α),get k (del k' l)=get k l
 |[]=>rfl
 |(j,y)::l=>by
  simp only[del];cases hb:Nat.beq k' j with
  |true=>have:k'=j:=Ia hb;subst this;have hb:Nat.beq k k'=false:=zV hk;simp[get,hb,Qo hk l]
  |false=>simp[get,Qo hk l]
def get_put{α:Type}(k k':Nat)(x:α)(l:List (Nat×α)):get k (put k' x l)=if k=k' then some x else get k l:=by
 by_cases h:k=k'
 ·subst h;rw[kD,if_pos rfl]
 ·rw[nO h,if_neg h]
def ay4{α:Type}(k k':Nat)(l:List (Nat×α)):get k (del k' l)=if k=k' then none else get k l:=by
 by_cases h:k=k'
 ·subst h;rw[NH,if_pos rfl]
 ·rw[Qo h,if_neg h]
def Acc.run_bind{α β:Type}(a:Acc α)(f:α->Acc β):∀(m:Mem) (l:Log),(a.bind f).run m l=match a.run m l with|some (x,m',l')=>(f x).run m' l'|none=>none:=by
 induction a with
 |ret a=>intro m l;rfl
 |fail=>intro m l;rfl
 |get k c ih=>intro m l;simp only[Acc.bind,Acc.run];exact ih _ _ _
 |set k x c ih=>intro m l;simp only[Acc.bind,Acc.run];exact ih _ _
 |opt o c ih=>intro m l;simp only[Acc.bind,Acc.run];cases o with|none=>rfl|some b=>exact ih b _ _
 |guard b c ih=>intro m l;simp only[Acc.bind,Acc.run];cases b with|true=>exact ih _ _|false=>rfl
def run_bind{α β:Type}(a:Acc α)(f:α->Acc β)(m:Mem)(l:Log):(a>>=f).run m l=match a.run m l with|some (x,m',l')=>(f x).run m' l'|none=>none:=Acc.run_bind a f m l
def ay{α β:Type}{a:Acc α}{f:α->Acc β}{m:Mem}{l:Log}{y:β}{m':Mem}{l':Log}(h:(a>>=f).run m l=some (y,m',l')):
  ∃x m1 l1,a.run m l=some (x,m1,l1)/\(f x).run m1 l1=some (y,m',l'):=by
 rw[run_bind] at h;cases ha:a.run m l with
 |none=>simp[ha] at h
 |some x=>obtain⟨x,m1,l1⟩:=x;rw[ha] at h;exact⟨x,m1,l1,rfl,h⟩
def run_pure{α:Type}(a:α)(m:Mem)(l:Log):(Pure.pure a:Acc α).run m l=some (a,m,l):=rfl
def Bo(k:Nat)(m:Mem)(l:Log):(rd k).run m l=some (get k m,m,l.rd k):=rfl
def PN(k:Nat)(c:Cell)(m:Mem)(l:Log):(wr k c).run m l=some ((),put k c m,l.wr k):=rfl
def gV{b:Bool}{m:Mem}{l:Log}{x:Unit}{m':Mem}{l':Log}(h:(ck b).run m l=some (x,m',l')):b=true/\m'=m/\l'=l:=by cases b<;>simp[ck,Acc.run] at h;exact⟨rfl,h.1.symm,h.2.symm⟩
def lV{β:Type}{o:Option β}{m:Mem}{l:Log}{x:β}{m':Mem}{l':Log}(h:(op' o).run m l=some (x,m',l')):o=some x/\m'=m/\l'=l:=by cases o<;>simp[op',Acc.run] at h;obtain⟨rfl,rfl,rfl⟩:=h;exact⟨rfl,rfl,rfl⟩
def ane{α:Type}{m:Mem}{l:Log}{r:α×Mem×Log}(h:(Acc.fail:Acc α).run m l=some r):False:=by simp[Acc.run] at h
def aN{α:Type}{m:Mem}{l:Log}{r:α×Mem×Log}{C:Prop}(h:(Acc.fail:Acc α).run m l=some r):C:=(ane h).elim
def bck{β:Type}{b:Bool}{f:Unit->Acc β}{m:Mem}{l:Log}{r:β×Mem×Log}(h:(ck b>>=f).run m l=some r):b=true/\(f ()).run m l=some r:=by obtain⟨_,_,_,h1,h2⟩:=ay h;obtain⟨h0,rfl,rfl⟩:=gV h1;exact⟨h0,h2⟩
def bop{α β:Type}{o:Option α}{f:α->Acc β}{m:Mem}{l:Log}{r:β×Mem×Log}(h:(op' o>>=f).run m l=some r):∃x,o=some x/\(f x).run m l=some r:=by obtain⟨x,_,_,h1,h2⟩:=ay h;obtain⟨h0,rfl,rfl⟩:=lV h1;exact⟨x,h0,h2⟩
def rpu{α:Type}{a b:α}{m m':Mem}{l l':Log}(h:(Pure.pure a:Acc α).run m l=some (b,m',l')):a=b/\m=m'/\l=l':=by rw[run_pure] at h;cases h;exact⟨rfl,rfl,rfl⟩
structure agq(X:Ctx)(h:View):Prop where
 row:∀g row,X.glob g=some row->zU h row g 0
 int:∀g,X.aUF g=true->∃n,h g 0=some (.int .i64 n)
def PO{X:Ctx}{h h':View}(hl:h.le h')(q:agq X h):agq X h':=⟨λg row hg=>TS hl row g 0 (q.row g row hg),λg hg=>by obtain⟨n,hn⟩:=q.int g hg;exact⟨n,hl _ _ _ hn⟩⟩
def agr{h:View}:∀(row:Row) (b o:Nat),zU h row b o->rP h 1 (row.map λx=>[x]) b o
 |[],_,_,_=>trivial
 |x::r,b,o,⟨h1,h2⟩=>⟨rfl,⟨h1,trivial⟩,agr r b (o+1) h2⟩
def upF(F:Nat->List Nat)(r:Nat)(N:List Nat):Nat->List Nat:=λk=>if k=r then N else F k
def upM(μ:Nat->Value)(r:Nat)(g:Value):Nat->Value:=λk=>if k=r then g else μ k
@[simp] theorem GU(F:Nat->List Nat)(r:Nat)(N:List Nat):upF F r N r=N:=by simp[upF]
def kY{F:Nat->List Nat}{r k:Nat}(N:List Nat)(h:k≠r):upF F r N k=F k:=by simp[upF,h]
@[simp] theorem Rj(μ:Nat->Value)(r:Nat)(g:Value):upM μ r g r=g:=by simp[upM]
def PS{μ:Nat->Value}{r k:Nat}(g:Value)(h:k≠r):upM μ r g k=μ k:=by simp[upM,h]
def full(w:World):View:=λb o=>w.cell? ⟨b,o,none⟩
def BL(w:World)(U X:Nat->Prop):(view w U X).le (full w):=by
 intro b o v h;unfold view at h;split at h
 ·exact h
 ·cases h
def UO{w:World}{U U' X X':Nat->Prop}(hU:∀b,U b->U' b)(h:∀b,X' b->X b):(view w U X).le (view w U' X'):=by
 intro b o v hv;unfold view at hv|-;split at hv
 ·rename_i hc;rw[if_pos ⟨hU b hc.1,λhx=>hc.2 (h b hx)⟩];exact hv
 ·cases hv
structure GS where
 μ:Nat->Value
 F:Nat->List Nat
 E:List Nat
 out:List Nat
section
variable (base:Nat) (U:Nat->Prop) (w:World)
def Hu(m:Mem)(G:GS):Prop:=MInv base U m w G.μ G.F G.E G.out
noncomputable def Gh(G:GS):View:=view w U (excl G.F G.E)
end
structure ZI(m:Mem)(G:GS)(m':Mem)(G':GS):Prop where
 mem:Jc G.μ m G'.μ m'
 ex:∀b,excl G'.F G'.E b->excl G.F G.E b
def ZI.refl(m:Mem)(G:GS):ZI m G m G:=⟨yK _ _,λ_ h=>h⟩
def ZI.trans{m1 m2 m3:Mem}{G1 G2 G3:GS}(h:ZI m1 G1 m2 G2)(k:ZI m2 G2 m3 G3):ZI m1 G1 m3 G3:=
 ⟨zy h.mem k.mem,λb hb=>h.ex b (k.ex b hb)⟩
def ZI.view{U:Nat->Prop}{w:World}{m m':Mem}{G G':GS}(h:ZI m G m' G'):(Gh U w G).le (Gh U w G'):=UO (λ_ x=>x) h.ex
def ZI.bn{U:Nat->Prop}{w:World}{m m':Mem}{G G':GS}(h:ZI m G m' G'){v:V}{g:Value}(q:bn G.μ m (Gh U w G) v g):bn G'.μ m' (Gh U w G') v g:=
 PL h.mem h.view v g q
def ZI.dh{U:Nat->Prop}{w:World}{m m':Mem}{G G':GS}(h:ZI m G m' G'){v:List V}{g:List Value}(q:dh G.μ m (Gh U w G) v g):dh G'.μ m' (Gh U w G') v g:=
 wz h.mem h.view v g q
section
variable {base:Nat} {U:Nat->Prop} {w:World} {m:Mem} {G:GS}
def Hu.set(hg:Hu base U w m G)(r:Nat)(c':Cell)(μ':Nat->Value)(N E' out':List Nat)
  (hs:(N++E').Nodup) (hsub:∀b,b∈N++E'->b∈G.F r\/b∈G.E) (hle:Jc G.μ m μ' (put r c' m)) (hμ:∀k,k≠r->μ' k=G.μ k)
  (ho:∀k,k≠r->(k∈out'↔k∈G.out)) (hr:r∈out'->N=[])
  (hc:(view w U (excl G.F G.E)).le (view w U (excl (upF G.F r N) E'))->r ∉ out'->uz μ' (put r c' m) (dO w) (view w U (excl (upF G.F r N) E')) r c' N):
  Hu base U w (put r c' m) ⟨μ',upF G.F r N,E',out'⟩/\ZI m G (put r c' m) ⟨μ',upF G.F r N,E',out'⟩:=by
 have hex:∀b,excl (upF G.F r N) E' b->excl G.F G.E b:=by
  rintro b (hb|⟨k,hb⟩)
  ·rcases hsub b (by simp[hb]) with h|h
   ·exact .inr ⟨r,h⟩
   ·exact .inl h
  ·by_cases hk:k=r
   ·subst hk;rw[GU] at hb;rcases hsub b (by simp[hb]) with h|h
    ·exact .inr ⟨_,h⟩
    ·exact .inl h
   ·rw[kY N hk] at hb;exact .inr ⟨k,hb⟩
 have hv:(view w U (excl G.F G.E)).le (view w U (excl (upF G.F r N) E')):=UO (λ_ x=>x) hex;have hN:=List.nodup_append.1 hs;refine⟨show MInv base U (put r c' m) w μ' (upF G.F r N) E' out' from ?_,⟨hle,hex⟩⟩;refine⟨?_, ?_, ?_, ?_,hN.2.1,λb hb=>hg.lt b (hex b hb),hg.up,hg.bs, ?_, ?_⟩
 ·intro k c hk hko;rw[get_put] at hk
  by_cases e:k=r
  ·subst e;rw[if_pos rfl] at hk;cases hk;rw[GU];exact hc hv hko
  ·rw[if_neg e] at hk;rw[kY N e];exact NG hle hv (hμ k e) (λb _=>rfl) (hg.cell k c hk (λh=>hko ((ho k e).2 h)))
 ·intro k k' hne b hb hb'
  by_cases e:k=r
  ·subst e;rw[GU] at hb;rw[kY N (Ne.symm hne)] at hb';rcases hsub b (by simp[hb]) with h|h
   ·exact hg.dj _ _ hne b h hb'
   ·exact hg.djE _ b hb' h
  ·rw[kY N e] at hb
   by_cases e':k'=r
   ·subst e';rw[GU] at hb';rcases hsub b (by simp[hb']) with h|h
    ·exact hg.dj _ _ hne b hb h
    ·exact hg.djE _ b hb h
   ·rw[kY N e'] at hb';exact hg.dj _ _ hne b hb hb'
 ·intro k b hb hE
  by_cases e:k=r
  ·subst e;rw[GU] at hb;exact hN.2.2 b hb b hE rfl
  ·rw[kY N e] at hb;rcases hsub b (by simp[hE]) with h|h
   ·exact hg.dj _ _ e b hb h
   ·exact hg.djE _ b hb h
 ·intro k
  by_cases e:k=r
  ·subst e;rw[GU];exact hN.1
  ·rw[kY N e];exact hg.nd k
 ·intro k hk;rw[get_put] at hk
  by_cases e:k=r
  ·rw[if_pos e] at hk;cases hk
  ·rw[if_neg e] at hk;rw[kY N e];exact hg.none_ k hk
 ·intro k hk
  by_cases e:k=r
  ·subst e;rw[GU];exact hr hk
  ·rw[kY N e];exact hg.out_ k ((ho k e).1 hk)
def Hu.less(hg:Hu base U w m G)(E':List Nat)(hn:E'.Nodup)(hs:∀b,b∈E'->b∈G.E):
  Hu base U w m {G with E:=E'}/\ZI m G m {G with E:=E'}:=by
 have hex:∀b,excl G.F E' b->excl G.F G.E b:=by
  rintro b (hb|hb)
  ·exact .inl (hs b hb)
  ·exact .inr hb
 have hv:(view w U (excl G.F G.E)).le (view w U (excl G.F E')):=UO (λ_ x=>x) hex;refine⟨⟨?_,hg.dj,λr b hb hE=>hg.djE r b hb (hs b hE),hg.nd,hn,λb hb=>hg.lt b (hex b hb),hg.up,hg.bs,hg.none_,hg.out_⟩,⟨yK _ _,hex⟩⟩;intro r c hc ho;exact NG (yK _ _) hv rfl (λ_ _=>rfl) (hg.cell r c hc ho)
def JL{μ μ':Nat->Value}{r:Nat}{c':Cell}(hμ:∀k,k≠r->μ' k=μ k)(h:∀c,get r m=some c->ML μ μ' r c c'):Jc μ m μ' (put r c' m):=by
 intro k c hk
 by_cases e:k=r
 ·subst e;exact⟨c',kD _ _ _,h c hk⟩
 ·refine⟨c,by rw[nO e];exact hk, ?_⟩;cases c<;>simp[ML,hμ k e]
def full_cell{b:Nat}{cs:Array Value}{t:TypeId}{fr:Nat×Nat}(h:dO w b=some (.cells cs t fr))(o:Nat):full w b o=cs.toList[o]? :=by simp only[full,World.cell?];unfold dO at h;simp[h]
end
def ags{h:View}{b:Nat}:∀(r:Row) (o:Nat) (cs:List Value),(∀j v,cs[j]? =some v->h b (o+j)=some v)->ji h r cs->zU h r b o
 |[],_,_,_,_=>by simp[zU]
 |x::r,o,cs,hc,⟨v,cs',e,h1,h2⟩=>by subst e;simp only[zU];refine⟨⟨v,hc 0 v rfl,h1⟩,ags r (o+1) cs' (λj u hj=> ?_) h2⟩;have:=hc (j+1) u (by simpa using hj);rw[show o+1+j=o+(j+1) from by omega];exact this
def Yq{h:View}{b s:Nat}:∀(rs:List Row) (o:Nat) (cs:List Value),(∀j v,cs[j]? =some v->h b (o+j)=some v)->iU h s rs cs->rP h s rs b o
 |[],_,_,_,_=>by simp[rP]
 |r::rs,o,cs,hc,⟨h1,h2,h3⟩=>by simp only[rP];refine⟨h1,ags r o cs hc h2,Yq rs (o+s) (cs.drop s) (λj u hj=> ?_) h3⟩;rw[List.getElem?_drop] at hj;rw[show o+s+j=o+(s+j) from by omega];exact hc _ _ hj
def adi(h:View)(H:Heap)(N:List Nat):Prop:=∀b,b∈N->∀cs t fr,H b=some (.cells cs t fr)->∀(o:Nat) v,cs.toList[o]? =some v->h b o=some v
def adi.sub{h:View}{H:Heap}{N N':List Nat}(q:adi h H N)(hs:∀b,b∈N'->b∈N):adi h H N':=λb hb=>q b (hs b hb)
mutual
def aDF{H:Heap}{h h':View}(hl:h.le h'):∀(x:D) (v:Value) (N:List Nat),adi h' H N->ow H h x v N->ro h' x v
 | .int _ _,_,_,_,q=>by simp only[ow] at q;simpa[ro] using q.1
 | .bool _,_,_,_,q=>by simp only[ow] at q;simpa[ro] using q.1
 | .str _,_,_,_,q=>by simp only[ow] at q;simpa[ro] using q.1
 | .XW,_,_,_,q=>by simp only[ow] at q;simpa[ro] using q.1
 | .sl false s rows,v,N,_,q=>by simp only[ow] at q;have:=JK hl _ _ q.2;simpa[ro] using this
 | .sl true s rows,v,N,hs,q=>by
  simp only[ow] at q;simp only[ro];rcases q with⟨rfl,rfl,rfl⟩|⟨b,cap,cs,t,N',h1,h2,h3,h4,h5,rfl⟩
  ·exact⟨none,0,by simp,by simp,λe=>absurd rfl e⟩
  ·refine⟨_,cap,h1,h2,λ_=>⟨b,0,rfl, ?_⟩⟩;refine Yq rows 0 cs.toList (λj v hj=>by rw[Nat.zero_add];exact hs b (by simp) cs t _ h3 j v hj) ?_;exact Rk hl s rows cs.toList N' (hs.sub (by simp;exact λ_ hb=> .inr hb)) h5
def Rk{H:Heap}{h h':View}(hl:h.le h')(s:Nat):∀(rows:List Row) (cs:List Value) (N:List Nat),adi h' H N->iP H h s rows cs N->iU h' s rows cs
 |[],_,_,_,_=>by simp[iU]
 |r::rs,cs,N,hs,q=>by simp only[iP] at q;obtain⟨h1,N1,N2,rfl,h2,h3⟩:=q;simp only[iU];exact⟨h1,aaV hl r cs N1 (hs.sub (by simp;exact λ_ hb=> .inl hb)) h2,Rk hl s rs _ N2 (hs.sub (by simp;exact λ_ hb=> .inr hb)) h3⟩
def aaV{H:Heap}{h h':View}(hl:h.le h'):∀(r:Row) (cs:List Value) (N:List Nat),adi h' H N->jU H h r cs N->ji h' r cs
 |[],_,_,_,_=>by simp[ji]
 |x::r,cs,N,hs,q=>by simp only[jU] at q;obtain⟨v,cs',N1,N2,rfl,rfl,h1,h2⟩:=q;simp only[ji];exact⟨v,cs',rfl,aDF hl x v N1 (hs.sub (by simp;exact λ_ hb=> .inl hb)) h1,aaV hl r cs' N2 (hs.sub (by simp;exact λ_ hb=> .inr hb)) h2⟩
end
def alF{H:Heap}{h h':View}(hl:h.le h'){fl:Bool}{s:Nat}{rows:List Row}{v:Value}{N:List Nat}(hs:adi h' H N)(q:aaT H h fl s rows v N)(o:Bool):ro h' (.sl o s rows) v:=by
 simp only[ro];rcases q with⟨rfl,rfl,rfl⟩|⟨b,cap,cs,t,N',h1,h2,h3,h4,h5,rfl⟩
 ·exact⟨none,0,by simp,by simp,λe=>absurd rfl e⟩
 ·refine⟨_,cap,h1,h2,λ_=>⟨b,0,rfl, ?_⟩⟩;refine Yq rows 0 cs.toList (λj v hj=>by rw[Nat.zero_add];exact hs b (by simp) cs t _ h3 j v hj) ?_;cases fl with
  |true=>exact KU hl s rows _ h5.1
  |false=>exact Rk hl s rows cs.toList N' (hs.sub (by simp;exact λ_ hb=> .inr hb)) h5
def aaW{h:View}{o o':Bool}{s:Nat}{rows:List Row}{v:Value}(q:ro h (.sl o s rows) v):ro h (.sl o' s rows) v:=by simpa[ro] using q
def aj2{w:World}{N:List Nat}:adi (full w) (dO w) N:=by intro b _ cs t fr hb o v hv;rw[full_cell hb,hv]
def TJ{w:World}{U X:Nat->Prop}{N:List Nat}(hU:∀b,b∈N->U b/\¬X b):adi (view w U X) (dO w) N:=by intro b hm cs t fr hb o v hv;unfold view;rw[if_pos (hU b hm)];have:=full_cell hb o;rw[hv] at this;exact this
mutual
def ave{h:View}:∀(x:D) (v:Value),ro h x v->ro h x.fz v
 | .int _ _,_,q=>by simpa[D.fz] using q
 | .bool _,_,q=>by simpa[D.fz] using q
 | .str _,_,q=>by simpa[D.fz] using q
 | .XW,_,q=>by simpa[D.fz] using q
 | .sl own s rows,v,q=>by
  simp only[D.fz,ro] at q|-;obtain⟨a,cap,h1,h2,h3⟩:=q;have hlen:(aF rows).length=rows.length:=Vj rows;refine⟨a,cap,by rw[hlen];exact h1,by rw[hlen];exact h2,λhn=> ?_⟩;have hn':rows≠[]:=by intro e;subst e;exact hn rfl
  obtain⟨b,o,h4,h5⟩:=h3 hn';exact⟨b,o,h4,aj3 s rows b o h5⟩
def Vj:∀rows:List Row,(aF rows).length=rows.length
 |[]=>rfl
 |r::rs=>by simp[aF,Vj rs]
def WR:∀r:Row,(Bl r).length=r.length
 |[]=>rfl
 |x::r=>by simp[Bl,WR r]
def aj3{h:View}(s:Nat):∀(rows:List Row) (b o:Nat),rP h s rows b o->rP h s (aF rows) b o
 |[],_,_,_=>by simp[aF,rP]
 |r::rs,b,o,q=>by simp only[aF,rP] at q|-;exact⟨by rw[WR];exact q.1,anf r b o q.2.1,aj3 s rs b (o+s) q.2.2⟩
def anf{h:View}:∀(r:Row) (b o:Nat),zU h r b o->zU h (Bl r) b o
 |[],_,_,_=>by simp[Bl,zU]
 |x::r,b,o,q=>by simp only[Bl,zU] at q|-;obtain⟨⟨v,h1,h2⟩,h3⟩:=q;exact⟨⟨v,h1,ave x v h2⟩,anf r b (o+1) h3⟩
end
def aeA{h:View}{fl:Bool}{o:Bool}{s:Nat}{rows:List Row}{v:Value}(q:ro h (.sl o s rows) v):ro h (.sl false s (vw fl rows)) v:=by
 unfold vw;cases fl with
 |true=>exact aaW q
 |false=>simpa[D.fz] using ave _ _ q
def avf{h:View}{x:D}{v:Value}(q:ro h x v):ro h (roD x) v:=by cases x<;>simpa[roD,ro] using q
def avg{H:Heap}{h:View}{x:D}{v:Value}(q:ro h x v):ow H h (roD x) v []:=by cases x<;>simp[roD,ow,ro] at q|-<;>exact q
def ay5{H:Heap}{h:View}{x:D}{v:Value}(hf:x.flat=true)(q:ro h x v):ow H h x v []:=by cases x<;>simp[D.flat,ow,ro] at hf q|-<;>exact q
def agt{H:Heap}{h:View}:∀(r:Row) (cs:List Value),(r.all D.flat)=true->ji h r cs->jU H h r cs []
 |[],_,_,_=>by simp[jU]
 |x::r,cs,hf,⟨v,cs',e,h1,h2⟩=>by simp only[List.all_cons,wo] at hf;simp only[jU];exact⟨v,cs',[],[],e,rfl,ay5 hf.1 h1,agt r cs' hf.2 h2⟩
def Yr{H:Heap}{h:View}(s:Nat):∀(rs:List Row) (cs:List Value),aj rs=true->iU h s rs cs->iP H h s rs cs []
 |[],_,_,_=>by simp[iP]
 |r::rs,cs,hf,⟨h1,h2,h3⟩=>by simp only[aj,List.all_cons,wo] at hf;simp only[iP];exact⟨h1,[],[],rfl,agt r cs hf.1 h2,Yr s rs _ hf.2 h3⟩
def arY{H:Heap}{h:View}{fl:Bool}{s:Nat}{rows:List Row}{v:Value}{N:List Nat}(ho:arW fl rows=true)(q:aaT H h fl s rows v N):ow H h (.sl true s rows) v N:=by
 simp only[ow];rcases q with q|⟨b,cap,cs,t,N',h1,h2,h3,h4,h5,rfl⟩
 ·exact .inl q
 ·refine .inr ⟨b,cap,cs,t,N',h1,h2,h3,h4, ?_,rfl⟩;cases fl with
  |true=>obtain⟨h5,rfl⟩:=h5;exact Yr s rows _ (by simpa[arW] using ho) h5
  |false=>exact h5
def ay6{H:Heap}{h:View}{s:Nat}{rows:List Row}{v:Value}{N:List Nat}(q:ow H h (.sl true s rows) v N):aaT H h false s rows v N:=by simpa[ow,aaT] using q
def aqI{H:Heap}{h:View}{s:Nat}{rows:List Row}{v:Value}{N:List Nat}(q:ow H h (.sl true s rows) v N):
  ∃N1 N2,N=N1++N2/\∀h',h.le h'->adi h' H N2->aaT H h' true s rows v N1:=by
 simp only[ow] at q;rcases q with⟨rfl,rfl,rfl⟩|⟨b,cap,cs,t,N',h1,h2,h3,h4,h5,rfl⟩
 ·exact⟨[],[],rfl,λ_ _ _=> .inl ⟨rfl,rfl,rfl⟩⟩
 ·exact⟨[b],N',rfl,λh' hl hs=> .inr ⟨b,cap,cs,t,[],h1,h2,h3,h4,⟨Rk hl s rows _ N' hs h5,rfl⟩,rfl⟩⟩
section
variable {base:Nat} {U:Nat->Prop} {w:World} {m:Mem} {G:GS}
def Hu.kill(hg:Hu base U w m G){r:Nat}{fl:Bool}{ver s:Nat}{rows:List Row}(hc:get r m=some (.arr false fl ver s rows))(hro:r ∉ G.out):
  Hu base U w (put r .dead m) ⟨G.μ,upF G.F r [],G.E++G.F r,G.out⟩/\ZI m G (put r .dead m) ⟨G.μ,upF G.F r [],G.E++G.F r,G.out⟩/\
   aaT (dO w) (Gh U w G) fl s rows (G.μ r) (G.F r):=by
 have h1:=hg.set r .dead G.μ [] (G.E++G.F r) G.out
  (by simpa using List.nodup_append.2 ⟨hg.ndE,hg.nd r,λa ha b hb e=>hg.djE r b hb (e ▸ ha)⟩)
  (by simp;exact λb hb=>hb.symm) (JL (λ_ _=>rfl) (λc h=>by rw[hc] at h;cases h;trivial)) (λ_ _=>rfl) (λ_ _=>Iff.rfl) (λ_=>rfl) (λ_ _=>rfl)
 exact⟨h1.1,h1.2,hg.cell r _ hc hro⟩
def Hu.freeze(hg:Hu base U w m G){r:Nat}{fz fl:Bool}{ver s:Nat}{rows:List Row}(hc:get r m=some (.arr fz fl ver s rows))(hro:r ∉ G.out):
  Hu base U w (put r (.arr true fl ver s rows) m) ⟨G.μ,upF G.F r [],G.E,G.out⟩/\ZI m G (put r (.arr true fl ver s rows) m) ⟨G.μ,upF G.F r [],G.E,G.out⟩/\
   ro (Gh U w ⟨G.μ,upF G.F r [],G.E,G.out⟩) (.sl true s rows) (G.μ r):=by
 have hle:Jc G.μ m G.μ (put r (.arr true fl ver s rows) m):=JL (λ_ _=>rfl) (λc h=>by rw[hc] at h;cases h;exact⟨Nat.le_refl _,rfl,λ_=>⟨rfl,rfl⟩⟩);have aHP:(view w U (excl G.F G.E)).le (view w U (excl (upF G.F r []) G.E))->ro (view w U (excl (upF G.F r []) G.E)) (.sl true s rows) (G.μ r):=by
  intro hv;have hq:=hg.cell r _ hc hro;cases fz with
  |true=>exact JK hv _ _ hq.1
  |false=>
   refine alF hv (TJ λb hb=>⟨(hg.lt b (.inr ⟨r,hb⟩)).2.2, ?_⟩) hq true;rintro(hE|⟨k,hk⟩)
   ·exact hg.djE r b hb hE
   ·by_cases e:k=r
    ·subst e;simp at hk
    ·rw[kY _ e] at hk;exact hg.dj r k (Ne.symm e) b hb hk
 have h1:=hg.set r (.arr true fl ver s rows) G.μ [] G.E G.out (by simpa using hg.ndE) (by simp;exact λb hb=> .inr hb) hle (λ_ _=>rfl) (λ_ _=>Iff.rfl) (λ_=>rfl)
  (λhv _=>⟨aHP hv,rfl⟩)
 exact⟨h1.1,h1.2,aHP h1.2.view⟩
def Hu.aEJ(hg:Hu base U w m G){k:Nat}(fl:Bool){s:Nat}{rows:List Row}{g:Value}{N E:List Nat}(hn:get k m=none)(hk:k ∉ G.out)(hE:(N++E).Perm G.E)
  (hq:ow (dO w) (Gh U w G) (.sl true s rows) g N):
  ∃F',Hu base U w (put k (.arr false fl 0 s rows) m) ⟨upM G.μ k g,F',E,G.out⟩/\ZI m G (put k (.arr false fl 0 s rows) m) ⟨upM G.μ k g,F',E,G.out⟩:=by
 have hnd:=hE.nodup_iff.2 hg.ndE;have hmem:∀b,b∈N++E->b∈G.E:=λb hb=>hE.mem_iff.1 hb
 have hμ:∀j,j≠k->upM G.μ k g j=G.μ j:=λj e=>PS g e
 have hle:∀c',Jc G.μ m (upM G.μ k g) (put k c' m):=λc'=>JL hμ (λc h=>by rw[hn] at h;cases h)
 cases fl with
 |false=>refine⟨_,hg.set k (.arr false false 0 s rows) (upM G.μ k g) N E G.out hnd (λb hb=> .inr (hmem b hb)) (hle _) hμ (λ_ _=>Iff.rfl) (λh=>absurd h hk) (λhv _=> ?_)⟩;simp only[uz,Rj];exact VU hv (λ_ _=>rfl) (ay6 hq)
 |true=>
  obtain⟨N1,N2,rfl,h2⟩:=aqI hq;have hnd':(N1++E).Nodup:=by rw[VN] at hnd;have:=List.nodup_append.1 hnd;exact List.nodup_append.2 ⟨this.1,(List.nodup_append.1 this.2.1).2.1,λa ha b hb=>this.2.2 a ha b (by simp[hb])⟩
  refine⟨_,hg.set k (.arr false true 0 s rows) (upM G.μ k g) N1 E G.out hnd' (λb hb=> .inr (hmem b (by simp at hb|-;rcases hb with h|h<;>simp[h]))) (hle _) hμ (λ_ _=>Iff.rfl) (λh=>absurd h hk) (λhv _=> ?_)⟩;simp only[uz,Rj];refine h2 _ hv (TJ λb hb=>⟨(hg.lt b (.inl (hmem b (by simp[hb])))).2.2, ?_⟩);rw[VN] at hnd;have hd:=List.nodup_append.1 hnd;have hd2:=List.nodup_append.1 hd.2.1;rintro(hE'|⟨j,hj⟩)
  ·exact hd2.2.2 b hb b hE' rfl
  ·by_cases e:j=k
   ·subst e;rw[GU] at hj;exact hd.2.2 b hj b (by simp[hb]) rfl
   ·rw[kY _ e] at hj;exact hg.djE j b hj (hmem b (by simp[hb]))
structure Ny(base:Nat)(U:Nat->Prop)(w:World)(m:Mem)(G:GS)(m':Mem)(G':GS)(N:List Nat):Prop where
 ok:Hu base U w m' G'
 le:ZI m G m' G'
 E:G'.E=G.E++N
 out:G'.out=G.out
 μ:G'.μ=G.μ
def Ny.same(hg:Hu base U w m G):Ny base U w m G m G []:=⟨hg,ZI.refl _ _,by simp,rfl,rfl⟩
def Ny.trans{m1 m2 m3:Mem}{G1 G2 G3:GS}{N N':List Nat}(a:Ny base U w m1 G1 m2 G2 N)(b:Ny base U w m2 G2 m3 G3 N'):Ny base U w m1 G1 m3 G3 (N++N'):=
 ⟨b.ok,a.le.trans b.le,by rw[b.E,a.E,VN],b.out.trans a.out,b.μ.trans a.μ⟩
def ZJ{H:Heap}{h h':View}(hl:h.le h'){x:D}{v:Value}{N:List Nat}(q:ow H h x v N):ow H h' x v N:=alE hl x v N (λ_ _=>rfl) q
def avh(hg:Hu base U w m G){v:V}{g:Value}(hv:bn G.μ m (Gh U w G) v g)(ho:G.out=[]){x:D}{m':Mem}{l l':Log}(h:(toD v).run m l=some (x,m',l')):
  ∃G' N,Ny base U w m G m' G' N/\ow (dO w) (Gh U w G') x g N:=by
 cases v with
 |d y=>simp only[toD,run_pure,lM,qU] at h;obtain⟨rfl,rfl,rfl⟩:=h;exact⟨G,[],Ny.same hg,avg (by simpa[bn] using hv)⟩
 |nil s=>simp only[toD,run_pure,lM,qU] at h;obtain⟨rfl,rfl,rfl⟩:=h;refine⟨G,[],Ny.same hg, ?_⟩;simp only[bn] at hv;simp[ow,hv]
 |own r ver=>
  simp only[toD] at h;replace h:=ay h;obtain⟨c,m1,l1,h1,h⟩:=h;rw[Bo] at h1;cases h1;cases hc:get r m with
  |none=>rw[hc] at h;exact aN h
  |some c=>
   rw[hc] at h;cases c with
   |arr fz fl tZ s rows=>
    simp only at h;replace h:=ay h;obtain⟨_,m2,l2,h1,h⟩:=h;obtain⟨hb,rfl,rfl⟩:=gV h1;have hb:=Ia hb;subst hb;simp only[bn,hc] at hv;have hv:=hv.2.2 trivial;subst hv;have hro:r ∉ G.out:=by simp[ho]
    cases fz with
    |true=>simp only[run_pure,lM,qU] at h;obtain⟨rfl,rfl,rfl⟩:=h;refine⟨G,[],Ny.same hg, ?_⟩;have hq:=(hg.cell r _ hc hro).1;simp only[ow,true_and];exact aeA hq
    |false=>simp only at h;replace h:=ay h;obtain⟨_,m2,l2,h1,h⟩:=h;obtain⟨hok,rfl,rfl⟩:=gV h1;replace h:=ay h;obtain⟨_,m3,l3,h1,h⟩:=h;rw[PN] at h1;cases h1;simp only[run_pure,lM,qU] at h;obtain⟨rfl,rfl,rfl⟩:=h;obtain⟨k1,k2,k3⟩:=hg.kill hc hro;exact⟨_,G.F r,⟨k1,k2,rfl,rfl,rfl⟩,ZJ k2.view (arY hok k3)⟩
   |_=>exact aN h
 |_=>exact aN h
def uD{μ:Nat->Value}{h:View}{v:V}{vs:List V}{gs:List Value}(q:dh μ m h (v::vs) gs):∃g gs',gs=g::gs'/\bn μ m h v g/\dh μ m h vs gs':=by simpa[dh] using q
def kE{μ:Nat->Value}{h:View}:∀{vs:List V} {gs:List Value},dh μ m h vs gs->gs.length=vs.length
 |[],gs,q=>by simp[dh] at q;simp[q]
 |v::vs,gs,q=>by obtain⟨g,gs',rfl,_,h3⟩:=uD q;simp[kE h3]
def aaX{H:Heap}{h h':View}(hl:h.le h'){x:Row}{v:List Value}{N:List Nat}(q:jU H h x v N):jU H h' x v N:=PK hl x v N (λ_ _=>rfl) q
def ang{H:Heap}{h h':View}(hl:h.le h'){s:Nat}{x:List Row}{v:List Value}{N:List Nat}(q:iP H h s x v N):iP H h' s x v N:=Jb hl s x v N (λ_ _=>rfl) q
def TT:∀{vs:List V} {gs:List Value} {m:Mem} {G:GS} (_:Hu base U w m G) (_:dh G.μ m (Gh U w G) vs gs) (_:G.out=[]) {xs:Row} {m':Mem} {l l':Log} (_:(VP vs).run m l=some (xs,m',l')),
  ∃G' N,Ny base U w m G m' G' N/\jU (dO w) (Gh U w G') xs gs N/\xs.length=vs.length
 |[],gs,m,G,hg,hv,ho,xs,m',l,l',h=>by simp only[VP,run_pure,lM,qU] at h;obtain⟨rfl,rfl,rfl⟩:=h;exact⟨G,[],Ny.same hg,by simp[jU],rfl⟩
 |v::vs,gs,m,G,hg,hv,ho,xs,m',l,l',h=>by obtain⟨g,gs',rfl,hv1,hv2⟩:=uD hv;simp only[VP] at h;replace h:=ay h;obtain⟨x,m1,l1,h1,h⟩:=h;replace h:=ay h;obtain⟨ys,m2,l2,h2,h⟩:=h;obtain⟨rfl,rfl,rfl⟩:=rpu h;obtain⟨G1,N1,t1,q1⟩:=avh hg hv1 ho h1;obtain⟨G2,N2,t2,q2,hlen⟩:=TT t1.ok (t1.le.dh hv2) (t1.out.trans ho) h2;refine⟨G2,N1++N2,t1.trans t2, ?_,by simp[hlen]⟩;simp only[jU];exact⟨g,gs',N1,N2,rfl,rfl,ZJ t2.le.view q1,q2⟩
def Hu.look(hg:Hu base U w m G){r:Nat}{fz fl:Bool}{ver s:Nat}{rows:List Row}(hc:get r m=some (.arr fz fl ver s rows))(hro:r ∉ G.out)(o:Bool):ro (full w) (.sl o s rows) (G.μ r):=by
 have hq:=hg.cell r _ hc hro;cases fz with
 |true=>exact aaW (JK (BL _ _ _) _ _ hq.1)
 |false=>exact alF (BL _ _ _) aj2 hq o
def arZ(hg:Hu base U w m G){v:V}{g:Value}(hv:bn G.μ m (Gh U w G) v g)(ho:G.out=[]){s:Nat}{rows:List Row}{m':Mem}{l l':Log}(h:(seen v).run m l=some ((s,rows),m',l')):
  m'=m/\ro (full w) (.sl false s rows) g:=by
 cases v with
 |d y=>
  cases y with
  |sl own s' rows'=>simp only[seen,run_pure,lM,qU] at h;obtain⟨⟨rfl,rfl⟩,rfl,rfl⟩:=h;simp only[bn] at hv;exact⟨rfl,aaW (JK (BL _ _ _) _ _ hv)⟩
  |_=>exact aN h
 |nil s'=>simp only[seen,run_pure,lM,qU] at h;obtain⟨⟨rfl,rfl⟩,rfl,rfl⟩:=h;simp only[bn] at hv;exact⟨rfl,by simp[ro,hv]⟩
 |own r ver=>
  simp only[seen] at h;replace h:=ay h;obtain⟨c,m1,l1,h1,h⟩:=h;rw[Bo] at h1;cases h1;cases hc:get r m with
  |none=>rw[hc] at h;exact aN h
  |some c=>
   rw[hc] at h;cases c with
   |arr fz fl tZ s' rows'=>simp only at h;replace h:=ay h;obtain⟨_,m2,l2,h1,h⟩:=h;obtain⟨hb,rfl,rfl⟩:=gV h1;have hb:=Ia hb;subst hb;simp only[run_pure,lM,qU] at h;obtain⟨⟨rfl,rfl⟩,rfl,rfl⟩:=h;simp only[bn,hc] at hv;have hv:=hv.2.2 trivial;subst hv;exact⟨rfl,aeA (hg.look hc (by simp[ho]) true)⟩
   |_=>exact aN h
 |_=>exact aN h
def NI(k:Nat):∀l:List Nat,mem? k l=true↔k∈l
 |[]=>by simp[mem?]
 |j::l=>by
  simp only[mem?,List.mem_cons]
  by_cases e:k=j
  ·subst e;simp
  ·rw[zV e];simp[e,NI k l]
def VW{k:Nat}{l:List Nat}(h:(!(mem? k l))=true):k ∉ l:=by intro hk;rw[(NI k l).2 hk] at h;cases h
def ay7(hg:Hu base U w m G){v:V}{g:Value}(hv:bn G.μ m (Gh U w G) v g){imp:List Nat}(ho:∀r,r∈G.out->r∈imp){own:Bool}{v':V}{m':Mem}{l l':Log}(h:(au9 imp own v).run m l=some (v',m',l')):
  ∃G' N x,v'=.d x/\Ny base U w m G m' G' N/\ow (dO w) (Gh U w G') x g N/\∀k,k∈imp->get k m'=get k m:=by
 cases v with
 |d y=>simp only[au9,run_pure,lM,qU] at h;obtain⟨rfl,rfl,rfl⟩:=h;exact⟨G,[],_,rfl,Ny.same hg,avg (by simpa[bn] using hv),λ_ _=>rfl⟩
 |nil s=>simp only[au9,run_pure,lM,qU] at h;obtain⟨rfl,rfl,rfl⟩:=h;refine⟨G,[],_,rfl,Ny.same hg, ?_,λ_ _=>rfl⟩;simp only[bn] at hv;cases own<;>simp[ow,ro,hv]
 |own r ver=>
  simp only[au9] at h;replace h:=ay h;obtain⟨c,m1,l1,h1,h⟩:=h;rw[Bo] at h1;cases h1;cases hc:get r m with
  |none=>rw[hc] at h;exact aN h
  |some c=>
   rw[hc] at h;cases c with
   |arr fz fl tZ s rows=>
    simp only at h;replace h:=ay h;obtain⟨_,m2,l2,h1,h⟩:=h;obtain⟨hb,rfl,rfl⟩:=gV h1;have hb:=Ia hb;subst hb;replace h:=ay h;obtain⟨_,m2,l2,h1,h⟩:=h;obtain⟨hi,rfl,rfl⟩:=gV h1;simp only[bn,hc] at hv;have hv:=hv.2.2 trivial;subst hv;have hro:r ∉ G.out:=λhr=>VW hi (ho r hr)
    have hni:∀k,k∈imp->k≠r:=λk hk e=>VW hi (e ▸ hk)
    cases own with
    |false=>simp only at h;replace h:=ay h;obtain⟨_,m3,l3,h1,h⟩:=h;rw[PN] at h1;cases h1;simp only[run_pure,lM,qU] at h;obtain⟨rfl,rfl,rfl⟩:=h;obtain⟨k1,k2,k3⟩:=hg.freeze hc hro;refine⟨_,[],_,rfl,⟨k1,k2,by simp,rfl,rfl⟩, ?_,λk hk=>nO (hni k hk) _ _⟩;simp only[ow,true_and];exact aeA k3
    |true=>
     simp only at h;replace h:=ay h;obtain⟨_,m2,l2,h1,h⟩:=h;obtain⟨hfz,rfl,rfl⟩:=gV h1;replace h:=ay h;obtain⟨_,m2,l2,h1,h⟩:=h;obtain⟨hok,rfl,rfl⟩:=gV h1;have hfz:fz=false:=by simpa using hfz
     subst hfz;replace h:=ay h;obtain⟨_,m3,l3,h1,h⟩:=h;rw[PN] at h1;cases h1;simp only[run_pure,lM,qU] at h;obtain⟨rfl,rfl,rfl⟩:=h;obtain⟨k1,k2,k3⟩:=hg.kill hc hro;exact⟨_,G.F r,_,rfl,⟨k1,k2,rfl,rfl,rfl⟩,ZJ k2.view (arY hok k3),λk hk=>nO (hni k hk) _ _⟩
   |_=>exact aN h
 |_=>exact aN h
def aeB{imp own:List Nat}:∀{vs:List V} {gs:List Value} {m:Mem} {G:GS} {j:Nat} (_:Hu base U w m G) (_:dh G.μ m (Gh U w G) vs gs) (_:∀r,r∈G.out->r∈imp) {vs':List V} {m':Mem} {l l':Log}
  (_:(Yi imp own j vs).run m l=some (vs',m',l')),∃G' N xs,vs'=xs.map V.d/\xs.length=gs.length/\Ny base U w m G m' G' N/\jU (dO w) (Gh U w G') xs gs N/\∀k,k∈imp->get k m'=get k m
 |[],gs,m,G,j,hg,hv,ho,vs',m',l,l',h=>by simp only[Yi,run_pure,lM,qU] at h;obtain⟨rfl,rfl,rfl⟩:=h;simp only[dh] at hv;subst hv;exact⟨G,[],[],rfl,rfl,Ny.same hg,by simp[jU],λ_ _=>rfl⟩
 |v::vs,gs,m,G,j,hg,hv,ho,vs',m',l,l',h=>by obtain⟨g,gs',rfl,hv1,hv2⟩:=uD hv;simp only[Yi] at h;replace h:=ay h;obtain⟨x,m1,l1,h1,h⟩:=h;replace h:=ay h;obtain⟨ys,m2,l2,h2,h⟩:=h;obtain⟨rfl,rfl,rfl⟩:=rpu h;obtain⟨G1,N1,x1,rfl,t1,q1,i1⟩:=ay7 hg hv1 ho h1;obtain⟨G2,N2,xs,rfl,hlen,t2,q2,i2⟩:=aeB t1.ok (t1.le.dh hv2) (λr hr=>ho r (t1.out ▸ hr)) h2;refine⟨G2,N1++N2,x1::xs,rfl,by simp[hlen],t1.trans t2, ?_,λk hk=>(i2 k hk).trans (i1 k hk)⟩;simp only[jU];exact⟨g,gs',N1,N2,rfl,rfl,ZJ t2.le.view q1,q2⟩
def anh(H:Heap)(h:View):Cell->Value->List Nat->Prop
 | .box t vs,g,N=>∃b a xs N',g=.pointer (some ⟨b,0,none⟩)/\H b=some (.cells a t (0,0))/\vs=xs.map V.d/\xs.length=a.toList.length/\jU H h xs a.toList N'/\N=b::N'
 | .arr fz fl ver s rows,g,N=>fz=false/\ver=0/\aaT H h fl s rows g N
 | .dead,_,_=>False
def cellsB(H:Heap)(h:View):List Cell->List Value->List Nat->Prop
 |[],gs,N=>gs=[]/\N=[]
 |c::cs,gs,N=>∃g gs' N1 N2,gs=g::gs'/\N=N1++N2/\anh H h c g N1/\cellsB H h cs gs' N2
def agu{H H':Heap}{h h':View}(hl:h.le h'){c:Cell}{g:Value}{N:List Nat}(hb:∀b,b∈N->H' b=H b)(q:anh H h c g N):anh H' h' c g N:=by
 cases c with
 |box t vs=>obtain⟨b,a,xs,N',h1,h2,h3,h4,h5,rfl⟩:=q;exact⟨b,a,xs,N',h1,by rw[hb b (by simp)];exact h2,h3,h4,PK hl _ _ _ (λb' hb'=>hb b' (by simp[hb'])) h5,rfl⟩
 |arr fz fl ver s rows=>exact⟨q.1,q.2.1,VU hl hb q.2.2⟩
 |dead=>exact q
def aeC{H H':Heap}{h h':View}(hl:h.le h'):∀{cs:List Cell} {gs:List Value} {N:List Nat},(∀b,b∈N->H' b=H b)->cellsB H h cs gs N->cellsB H' h' cs gs N
 |[],_,_,_,q=>q
 |c::cs,_,_,hb,⟨g,gs',N1,N2,h1,h2,h3,h4⟩=>by subst h2;exact⟨g,gs',N1,N2,h1,rfl,agu hl (λb hx=>hb b (by simp[hx])) h3,aeC hl (λb hx=>hb b (by simp[hx])) h4⟩
def Hu.aDG(hg:Hu base U w m G){r:Nat}{c:Cell}(hc:get r m=some c)(hro:r ∉ G.out):
  Hu base U w m ⟨G.μ,upF G.F r [],G.E++G.F r,r::G.out⟩/\ZI m G m ⟨G.μ,upF G.F r [],G.E++G.F r,r::G.out⟩:=by
 have hex:∀b,excl (upF G.F r []) (G.E++G.F r) b->excl G.F G.E b:=by
  rintro b (hb|⟨k,hb⟩)
  ·simp only[List.mem_append] at hb;rcases hb with h|h
   ·exact .inl h
   ·exact .inr ⟨r,h⟩
  ·by_cases e:k=r
   ·subst e;simp at hb
   ·rw[kY _ e] at hb;exact .inr ⟨k,hb⟩
 have hv:(view w U (excl G.F G.E)).le (view w U (excl (upF G.F r []) (G.E++G.F r))):=UO (λ_ x=>x) hex;refine⟨show MInv base U m w G.μ (upF G.F r []) (G.E++G.F r) (r::G.out) from ?_,⟨yK _ _,hex⟩⟩;refine⟨?_, ?_, ?_, ?_,List.nodup_append.2 ⟨hg.ndE,hg.nd r,λa ha b hb e=>hg.djE r b hb (e ▸ ha)⟩,λb hb=>hg.lt b (hex b hb),hg.up,hg.bs, ?_, ?_⟩
 ·intro k c hk hko;simp only[List.mem_cons,not_or] at hko;rw[kY _ hko.1];exact NG (yK _ _) hv rfl (λ_ _=>rfl) (hg.cell k c hk hko.2)
 ·intro k k' hne b hb hb'
  by_cases e:k=r
  ·subst e;simp at hb
  ·rw[kY _ e] at hb
   by_cases e':k'=r
   ·subst e';simp at hb'
   ·rw[kY _ e'] at hb';exact hg.dj _ _ hne b hb hb'
 ·intro k b hb hE
  by_cases e:k=r
  ·subst e;simp at hb
  ·rw[kY _ e] at hb;simp only[List.mem_append] at hE;rcases hE with h|h
   ·exact hg.djE _ b hb h
   ·exact hg.dj _ _ e b hb h
 ·intro k
  by_cases e:k=r
  ·subst e;simp
  ·rw[kY _ e];exact hg.nd k
 ·intro k hk
  by_cases e:k=r
  ·subst e;simp
  ·rw[kY _ e];exact hg.none_ k hk
 ·intro k hk
  by_cases e:k=r
  ·subst e;simp
  ·rw[kY _ e];exact hg.out_ k (by simpa[e] using hk)
structure Out(base:Nat)(U:Nat->Prop)(w:World)(m:Mem)(G:GS)(m':Mem)(G':GS)(imp rs:List Nat)(N:List Nat):Prop where
 ok:Hu base U w m' G'
 le:ZI m G m' G'
 E:G'.E=G.E++N
 out:∀r,r∈G'.out↔r∈G.out\/r∈rs
 μ:G'.μ=G.μ
 here:∀k,k∈imp->get k m'=get k m
def sameKind:Cell->Cell->Prop
 | .box t _,.box t' _=>t=t'
 | .arr _ fl ver s _,.arr _ fl' tZ s' _=>ver=0/\tZ=0/\fl=fl'/\s=s'
 |_,_=>False
def kinds(m:Mem):List Nat->List Cell->Prop
 |[],cs=>cs=[]
 |r::rs,cs=>∃c c' cs',cs=c'::cs'/\get r m=some c/\sameKind c c'/\kinds m rs cs'
def abW{m m':Mem}:∀{rs:List Nat} {cs:List Cell},(∀r,r∈rs->get r m'=get r m)->kinds m rs cs->kinds m' rs cs
 |[],_,_,q=>q
 |r::rs,_,h,⟨c,c',cs',h1,h2,h3,h4⟩=>⟨c,c',cs',h1,(h r (by simp)).trans h2,h3,abW (λk hk=>h k (by simp[hk])) h4⟩
def adk{A:Adv}{imp:List Nat}:∀{rs:List Nat} {m:Mem} {G:GS} (_:Hu base U w m G) (_:rs.Nodup) (_:∀r,r∈rs->r∈imp/\r ∉ G.out) (_:∀r,r∈G.out->r∈imp) {cs:List Cell} {m':Mem} {l l':Log}
  (_:(Yj A imp rs).run m l=some (cs,m',l')),∃G' N,Out base U w m G m' G' imp rs N/\cellsB (dO w) (Gh U w G') cs (rs.map G.μ) N/\kinds m rs cs
 |[],m,G,hg,hn,hr,ho,cs,m',l,l',h=>by simp only[Yj,run_pure,lM,qU] at h;obtain⟨rfl,rfl,rfl⟩:=h;exact⟨G,[],⟨hg,ZI.refl _ _,by simp,λr=>by simp,rfl,λ_ _=>rfl⟩,⟨rfl,rfl⟩,rfl⟩
 |r::rs,m,G,hg,hn,hr,ho,cs,m',l,l',h=>by
  simp only[Yj] at h;replace h:=ay h;obtain⟨c,m1,l1,h1,h⟩:=h;rw[Bo] at h1;cases h1;replace h:=ay h;obtain⟨c1,m1,l1,h1,h⟩:=h;replace h:=ay h;obtain⟨cs1,m2,l2,h2,h⟩:=h;obtain⟨rfl,rfl,rfl⟩:=rpu h;have hri:=hr r (by simp);have hnr:=List.nodup_cons.1 hn;have step:∃G' N,Out base U w m G m1 G' imp [r] N/\anh (dO w) (Gh U w G') c1 (G.μ r) N/\∃c,get r m=some c/\sameKind c c1:=by
   cases hc:get r m with
   |none=>rw[hc] at h1;exact aN h1
   |some c=>
    rw[hc] at h1;have hq:=hg.cell r c hc hri.2;obtain⟨k1,k2⟩:=hg.aDG hc hri.2;cases c with
    |box t vs=>
     simp only[arX] at h1;replace h1:=ay h1;obtain⟨vs',m3,l3,h3,h1⟩:=h1;obtain⟨rfl,rfl,rfl⟩:=rpu h1;obtain⟨b,a,e1,e2,e3,e4⟩:=hq;obtain⟨G2,N2,xs,rfl,hlen,t2,q2,i2⟩:=aeB k1 (k2.dh e3) (λk hk=>by
      simp only[List.mem_cons] at hk;rcases hk with rfl|hk
      ·exact hri.1
      ·exact ho k hk) h3
     refine⟨G2,b::N2,⟨t2.ok,k2.trans t2.le,by rw[t2.E,e4];simp,λk=>by rw[t2.out];simp[or_comm],t2.μ,i2⟩,⟨b,a,xs,N2,e1,e2,rfl,hlen,q2,rfl⟩,_,rfl,rfl⟩
    |_=>exact aN h1
  obtain⟨G1,N1,o1,q1,c0,hc0,hk0⟩:=step;obtain⟨G2,N2,o2,q2,kd2⟩:=adk o1.ok hnr.2 (λk hk=>⟨(hr k (by simp[hk])).1,λhko=>by
   rcases(o1.out k).1 hko with h|h
   ·exact(hr k (by simp[hk])).2 h
   ·simp at h;subst h;exact hnr.1 hk⟩) (λk hk=>by
   rcases(o1.out k).1 hk with h|h
   ·exact ho k h
   ·simp at h;subst h;exact hri.1) h2
  refine⟨G2,N1++N2,⟨o2.ok,o1.le.trans o2.le,by rw[o2.E,o1.E,VN],λk=> ?_,o2.μ.trans o1.μ,λk hk=>(o2.here k hk).trans (o1.here k hk)⟩,⟨G.μ r,rs.map G.μ,N1,N2,rfl,rfl,agu o2.le.view (λ_ _=>rfl) q1,by rw[<-o1.μ];exact q2⟩,c0,c1,cs1,rfl,hc0,hk0,abW (λk hk=>(o1.here k (hr k (by simp[hk])).1).symm) kd2⟩;rw[o2.out,o1.out];simp[or_assoc]
def alG{r:Nat}{l:List Nat}(h:l.Nodup):(aqC r l).Nodup:=by
 unfold aqC;cases hm:mem? r l with
 |true=>exact h
 |false=>
  have:r ∉ l:=λhr=>by rw[(NI r l).2 hr] at hm;cases hm
  exact List.nodup_append.2 ⟨h,by simp,λa ha b hb e=>by simp at hb;subst hb;subst e;exact this ha⟩
mutual
def agv:∀(v:V) (I:List Nat),I.Nodup->(as4 I v).Nodup
 | .ptr r _,I,h=>by simp only[as4];exact alG h
 | .clo _ a b,I,h=>by simp only[as4];exact UQ b _ (UQ a _ h)
 | .agg cs,I,h=>by simp only[as4];exact UQ cs _ h
 | .d _,I,h=>h
 | .nil _,I,h=>h
 | .own _ _,I,h=>h
 | .JI _ _ _ _,I,h=>h
 | .F8 _ _,I,h=>h
 | .XH _,I,h=>h
 | .undef,I,h=>h
def UQ:∀(vs:List V) (I:List Nat),I.Nodup->(aj1 I vs).Nodup
 |[],I,h=>h
 |v::vs,I,h=>by simp only[aj1];exact UQ vs _ (agv v I h)
end
def aal(A:Adv)(f:Nat):∀(vs:List V) (i:Nat) (I:List Nat),I.Nodup->(SN A f i I vs).Nodup
 |[],_,I,h=>h
 |v::vs,i,I,h=>by simp only[SN];exact aal A f vs _ _ (agv _ _ h)
def TU(A:Adv)(f:Nat)(μ:Nat->Value)(m:Mem)(H:Heap)(h:View):Nat->List V->List Value->List Nat->Prop
 |_,[],gs,N=>gs=[]/\N=[]
 |i,v::vs,gs,N=>∃g gs' N1 N2,gs=g::gs'/\N=N1++N2/\(match PG A f i with
   |1=>∃x,v=.d x/\ow H h x g N1
   |_=>N1=[]/\bn μ m h v g)/\TU A f μ m H h (i+1) vs gs' N2
def VX{A:Adv}{f:Nat}{μ μ':Nat->Value}{m m':Mem}{H H':Heap}{h h':View}(hm:Jc μ m μ' m')(hl:h.le h'):∀{vs:List V} {i:Nat} {gs:List Value} {N:List Nat},(∀b,b∈N->H' b=H b)->
  TU A f μ m H h i vs gs N->TU A f μ' m' H' h' i vs gs N
 |[],_,_,_,_,q=>q
 |v::vs,i,gs,N,hb,q=>by
  simp only[TU] at q|-;obtain⟨g,gs',N1,N2,rfl,rfl,h3,h4⟩:=q;refine⟨g,gs',N1,N2,rfl,rfl, ?_,VX hm hl (λb hx=>hb b (by simp[hx])) h4⟩;split at h3
  ·rename_i hmo;obtain⟨x,hx,hq⟩:=h3;exact⟨x,hx,alE hl x g N1 (λb hx=>hb b (by simp[hx])) hq⟩
  ·exact⟨h3.1,PL hm hl v g h3.2⟩
def aeD{A:Adv}{f:Nat}:∀{vs:List V} {gs:List Value} {m:Mem} {G:GS} {i:Nat} (_:Hu base U w m G) (_:dh G.μ m (Gh U w G) vs gs) (_:G.out=[]) {vs':List V} {m':Mem} {l l':Log}
  (_:(VQ A f i vs).run m l=some (vs',m',l')),∃G' N,Ny base U w m G m' G' N/\TU A f G'.μ m' (dO w) (Gh U w G') i vs' gs N
 |[],gs,m,G,i,hg,hv,ho,vs',m',l,l',h=>by simp only[VQ,run_pure,lM,qU] at h;obtain⟨rfl,rfl,rfl⟩:=h;simp only[dh] at hv;exact⟨G,[],Ny.same hg,hv,rfl⟩
 |v::vs,gs,m,G,i,hg,hv,ho,vs',m',l,l',h=>by
  obtain⟨g,gs',rfl,hv1,hv2⟩:=uD hv;simp only[VQ] at h;replace h:=ay h;obtain⟨x,m1,l1,h1,h⟩:=h;replace h:=ay h;obtain⟨ys,m2,l2,h2,h⟩:=h;obtain⟨rfl,rfl,rfl⟩:=rpu h;have step:∃G1 N1,Ny base U w m G m1 G1 N1/\(match PG A f i with
   |1=>∃y,x=.d y/\ow (dO w) (Gh U w G1) y g N1
   |_=>N1=[]/\bn G1.μ m1 (Gh U w G1) x g):=by
   split at h1
   ·rename_i hmo;replace h1:=ay h1;obtain⟨y,m3,l3,h3,h1⟩:=h1;obtain⟨rfl,rfl,rfl⟩:=rpu h1;obtain⟨G1,N1,t1,q1⟩:=avh hg hv1 ho h3;refine⟨G1,N1,t1, ?_⟩
    try rw[hmo]
    exact⟨y,rfl,q1⟩
   ·rename_i hmo;obtain⟨rfl,rfl,rfl⟩:=rpu h1;refine⟨G,[],Ny.same hg, ?_⟩
    first
     |exact⟨rfl,hv1⟩
     |split
      ·rename_i e;exact absurd e hmo
      ·exact⟨rfl,hv1⟩
  obtain⟨G1,N1,t1,q1⟩:=step;obtain⟨G2,N2,t2,q2⟩:=aeD t1.ok (t1.le.dh hv2) (t1.out.trans ho) h2;refine⟨G2,N1++N2,t1.trans t2, ?_⟩;simp only[TU];refine⟨g,gs',N1,N2,rfl,rfl, ?_,q2⟩;split at q1
  ·obtain⟨y,hy,hq⟩:=q1;exact⟨y,hy,ZJ t2.le.view hq⟩
  ·exact⟨q1.1,t2.le.bn q1.2⟩
def agw:∀(cs:List Cell) (k i:Nat),get (uy+(k+i)) (wu k cs)=cs[i]?
 |[],_,_=>by simp[wu,get]
 |c::cs,k,0=>by simp[wu,get]
 |c::cs,k,i+1=>by simp only[wu,get];rw[zV ak];simp only[aW,List.getElem?_cons_succ];rw[<-agw cs (k+1) i,show k+1+i=k+(i+1) from by omega]
def UR(cs:List Cell)(i:Nat):get (uy+i) (wu 0 cs)=cs[i]? :=by
 have:=agw cs 0 i
 rwa [Nat.zero_add] at this
def impμ(hs:List Value):Nat->Value:=λk=>hs.getD (k - uy) undef
def agx{r:Nat}:∀{l:List Nat} {k i:Nat},idxOf r k l=some i->k<=i/\l[i - k]? =some r
 |[],_,_,h=>by simp[idxOf] at h
 |j::l,k,i,h=>by
  simp only[idxOf] at h
  by_cases e:r=j
  ·subst e;simp at h;subst h;simp
  ·rw[zV e] at h;simp only[aW] at h;obtain⟨h1,h2⟩:=agx h;refine⟨ak, ?_⟩;rw[show i - k=(i - (k+1))+1 from by omega,List.getElem?_cons_succ];exact h2
def agy{m:Mem}:∀{rs:List Nat} {cs:List Cell} {i r:Nat},kinds m rs cs->rs[i]? =some r->∃c c',get r m=some c/\cs[i]? =some c'/\sameKind c c'
 |[],_,_,_,_,h=>by simp at h
 |r::rs,_,0,r',⟨c,c',cs',h1,h2,h3,_⟩,h=>by simp at h;subst h;subst h1;exact⟨c,c',h2,rfl,h3⟩
 |r::rs,_,i+1,r',⟨c,c',cs',h1,h2,h3,h4⟩,h=>by subst h1;simp only[List.getElem?_cons_succ] at h|-;exact agy h4 h
def abX(U:Nat->Prop)(G:GS)(L:List Nat):Nat->Prop:=λb=>U b/\∀r,b∈G.F r->r∈L
def WS{L:List Nat}:(Gh U w G).le (view w (abX U G L) (· ∈G.E)):=by
 intro b o v hv;unfold Gh view at hv;split at hv
 ·rename_i hc;unfold view;rw[if_pos ⟨⟨hc.1,λr hr=>absurd (.inr ⟨r,hr⟩) hc.2⟩,λhE=>hc.2 (.inl hE)⟩];exact hv
 ·cases hv
structure ar0(base:Nat)(U:Nat->Prop)(w:World)(m:Mem)(G:GS)(imp:List Nat)(cells:List Cell):Prop where
 ok:Hu base U w m G
 out:∀r,r∈G.out↔r∈imp
 kd:kinds m imp cells
def ay8(hg:Hu base U w m G){r:Nat}{fz fl:Bool}{ver s:Nat}{rows:List Row}(hc:get r m=some (.arr fz fl ver s rows))(hro:r ∉ G.out){L:List Nat}(hL:fz=false->r∈L)(o:Bool):
  ro (view w (abX U G L) (· ∈G.E)) (.sl o s rows) (G.μ r):=by
 have hq:=hg.cell r _ hc hro;cases fz with
 |true=>exact aaW (JK WS _ _ hq.1)
 |false=>
  refine alF WS (TJ λb hb=>⟨⟨(hg.lt b (.inr ⟨r,hb⟩)).2.2,λk hk=> ?_⟩,hg.djE r b hb⟩) hq o
  by_cases e:k=r
  ·rw[e];exact hL rfl
  ·exact absurd hk (hg.dj r k (Ne.symm e) b hb)
mutual
def ar1{imp:List Nat}{cells:List Cell}(C:ar0 base U w m G imp cells):∀{v:V} {g:Value} (_:bn G.μ m (Gh U w G) v g) {v':V} {lt:List Nat} {m':Mem} {l l':Log}
  (_:(lend imp v).run m l=some ((v',lt),m',l')),m'=m/\∀L:List Nat,(∀r,r∈lt->r∈L)->bn (impμ (imp.map G.μ)) (wu 0 cells) (view w (abX U G L) (· ∈G.E)) v' g
 | .d x,g,hv,v',lt,m',l,l',h=>by simp only[lend,run_pure,lM,qU] at h;obtain⟨⟨rfl,rfl⟩,rfl,rfl⟩:=h;refine⟨rfl,λL hL=> ?_⟩;simp only[bn] at hv|-;exact JK WS _ _ (avf hv)
 | .nil s,g,hv,v',lt,m',l,l',h=>by simp only[lend,run_pure,lM,qU] at h;obtain⟨⟨rfl,rfl⟩,rfl,rfl⟩:=h;refine⟨rfl,λL hL=> ?_⟩;simp only[bn] at hv|-;simp[ro,hv]
 | .own r ver,g,hv,v',lt,m',l,l',h=>by
  simp only[lend] at h;replace h:=ay h;obtain⟨c,m1,l1,h1,h⟩:=h;rw[Bo] at h1;cases h1;cases hc:get r m with
  |none=>rw[hc] at h;exact aN h
  |some c=>
   rw[hc] at h;cases c with
   |arr fz fl tZ s rows=>
    simp only at h;replace h:=ay h;obtain⟨_,m2,l2,h1,h⟩:=h;obtain⟨hb,rfl,rfl⟩:=gV h1;have hb:=Ia hb;subst hb;replace h:=ay h;obtain⟨_,m2,l2,h1,h⟩:=h;obtain⟨hi,rfl,rfl⟩:=gV h1;simp only[run_pure,lM,qU] at h;obtain⟨⟨rfl,rfl⟩,rfl,rfl⟩:=h;simp only[bn,hc] at hv;have hv:=hv.2.2 trivial;subst hv;refine⟨rfl,λL hL=> ?_⟩;have hro:r ∉ G.out:=λhr=>VW hi ((C.out r).1 hr)
    simp only[bn];exact aeA (ay8 C.ok hc hro (λhf=>hL r (by subst hf;simp)) true)
   |_=>exact aN h
 | .ptr r off,g,hv,v',lt,m',l,l',h=>by simp only[lend] at h;replace h:=ay h;obtain⟨i,m1,l1,h1,h⟩:=h;obtain⟨hi,rfl,rfl⟩:=lV h1;simp only[run_pure,lM,qU] at h;obtain⟨⟨rfl,rfl⟩,rfl,rfl⟩:=h;refine⟨rfl,λL hL=> ?_⟩;obtain⟨_,h2⟩:=agx hi;rw[Nat.sub_zero] at h2;obtain⟨c,c',k1,k2,k3⟩:=agy C.kd h2;simp only[bn,k1] at hv;simp only[bn,UR,k2];refine⟨hv.1, ?_⟩;replace hv:=hv.2;cases c<;>cases c'<;>simp only[sameKind] at k3 hv|-;obtain⟨b,e1,e2⟩:=hv;refine⟨b, ?_,e2⟩;simp only[impμ,Nat.add_sub_cancel_left,List.getD_eq_getElem?_getD,List.getElem?_map,h2,Ht,Option.getD_some,e1]
 | .F8 row off,g,hv,v',lt,m',l,l',h=>by simp only[lend,run_pure,lM,qU] at h;obtain⟨⟨rfl,rfl⟩,rfl,rfl⟩:=h;refine⟨rfl,λL hL=> ?_⟩;simp only[bn] at hv|-;obtain⟨b,o,e1,e2⟩:=hv;exact⟨b,o,e1,TS WS row b o e2⟩
 | .clo f a b,g,hv,v',lt,m',l,l',h=>by simp only[lend] at h;replace h:=ay h;obtain⟨⟨a',la⟩,m1,l1,h1,h⟩:=h;simp only at h;replace h:=ay h;obtain⟨⟨b',lb⟩,m2,l2,h2,h⟩:=h;simp only[run_pure,lM,qU] at h;obtain⟨⟨rfl,rfl⟩,rfl,rfl⟩:=h;simp only[bn] at hv;obtain⟨x,y,rfl,e2,e3⟩:=hv;obtain⟨hm1,q1⟩:=abY C e2 h1;rw[hm1] at h2;obtain⟨hm2,q2⟩:=abY C e3 h2;refine⟨hm2,λL hL=> ?_⟩;simp only[bn];exact⟨x,y,rfl,q1 L (λr hr=>hL r (by simp[hr])),q2 L (λr hr=>hL r (by simp[hr]))⟩
 | .agg cs,g,hv,v',lt,m',l,l',h=>by simp only[lend] at h;replace h:=ay h;obtain⟨⟨a',la⟩,m1,l1,h1,h⟩:=h;simp only[run_pure,lM,qU] at h;obtain⟨⟨rfl,rfl⟩,rfl,rfl⟩:=h;simp only[bn] at hv;obtain⟨x,rfl,e2⟩:=hv;obtain⟨hm1,q1⟩:=abY C e2 h1;refine⟨hm1,λL hL=> ?_⟩;simp only[bn];exact⟨x,rfl,q1 L hL⟩
 | .JI _ _ _ _,g,hv,v',lt,m',l,l',h=>aN h
 | .XH _,g,hv,v',lt,m',l,l',h=>aN h
 | .undef,g,hv,v',lt,m',l,l',h=>aN h
def abY{imp:List Nat}{cells:List Cell}(C:ar0 base U w m G imp cells):∀{vs:List V} {gs:List Value} (_:dh G.μ m (Gh U w G) vs gs) {vs':List V} {lt:List Nat} {m':Mem} {l l':Log}
  (_:(agk imp vs).run m l=some ((vs',lt),m',l')),m'=m/\∀L:List Nat,(∀r,r∈lt->r∈L)->dh (impμ (imp.map G.μ)) (wu 0 cells) (view w (abX U G L) (· ∈G.E)) vs' gs
 |[],gs,hv,v',lt,m',l,l',h=>by simp only[agk,run_pure,lM,qU] at h;obtain⟨⟨rfl,rfl⟩,rfl,rfl⟩:=h;simp only[dh] at hv;subst hv;exact⟨rfl,λ_ _=>by simp[dh]⟩
 |v::vs,gs,hv,v',lt,m',l,l',h=>by obtain⟨g,gs',rfl,hv1,hv2⟩:=uD hv;simp only[agk] at h;replace h:=ay h;obtain⟨⟨a',la⟩,m1,l1,h1,h⟩:=h;simp only at h;replace h:=ay h;obtain⟨⟨b',lb⟩,m2,l2,h2,h⟩:=h;simp only[run_pure,lM,qU] at h;obtain⟨⟨rfl,rfl⟩,rfl,rfl⟩:=h;obtain⟨hm1,q1⟩:=ar1 C hv1 h1;rw[hm1] at h2;obtain⟨hm2,q2⟩:=abY C hv2 h2;refine⟨hm2,λL hL=> ?_⟩;simp only[dh];exact⟨g,gs',rfl,q1 L (λr hr=>hL r (by simp[hr])),q2 L (λr hr=>hL r (by simp[hr]))⟩
end
def aeE{A:Adv}{f:Nat}{imp:List Nat}{cells:List Cell}(C:ar0 base U w m G imp cells):
  ∀{vs:List V} {gs:List Value} {i:Nat} {N:List Nat} (_:TU A f G.μ m (dO w) (Gh U w G) i vs gs N) {vs':List V} {lt:List Nat} {m':Mem} {l l':Log}
  (_:(VR A imp f i vs).run m l=some ((vs',lt),m',l')),m'=m/\∀L:List Nat,(∀r,r∈lt->r∈L)->TU A f (impμ (imp.map G.μ)) (wu 0 cells) (dO w) (view w (abX U G L) (· ∈G.E)) i vs' gs N
 |[],gs,i,N,hv,v',lt,m',l,l',h=>by simp only[VR,run_pure,lM,qU] at h;obtain⟨⟨rfl,rfl⟩,rfl,rfl⟩:=h;exact⟨rfl,λ_ _=>hv⟩
 |v::vs,gs,i,N,hv,v',lt,m',l,l',h=>by
  simp only[TU] at hv;obtain⟨g,gs',N1,N2,rfl,rfl,hv1,hv2⟩:=hv;simp only[VR] at h;replace h:=ay h;obtain⟨⟨a',la⟩,m1,l1,h1,h⟩:=h;simp only at h;replace h:=ay h;obtain⟨⟨b',lb⟩,m2,l2,h2,h⟩:=h;simp only[run_pure,lM,qU] at h;obtain⟨⟨rfl,rfl⟩,rfl,rfl⟩:=h;have step:m1=m/\∀L:List Nat,(∀r,r∈la->r∈L)->(match PG A f i with
   |1=>∃x,a'=.d x/\ow (dO w) (view w (abX U G L) (· ∈G.E)) x g N1
   |_=>N1=[]/\bn (impμ (imp.map G.μ)) (wu 0 cells) (view w (abX U G L) (· ∈G.E)) a' g):=by
   split at h1
   ·rename_i hmo;rw[hmo] at hv1;(try rw[hmo]);simp only[run_pure,lM,qU] at h1;obtain⟨⟨rfl,rfl⟩,rfl,rfl⟩:=h1;refine⟨rfl,λL hL=> ?_⟩;obtain⟨x,hx,hq⟩:=hv1;exact⟨x,hx,ZJ WS hq⟩
   ·rename_i aUG;have hm1:∀(α:Prop) (β:Prop),(match PG A f i with|1=>α|_=>β)=β:=by
     intro α β;split
     ·rename_i e;exact absurd e aUG
     ·rfl
    rw[hm1] at hv1;obtain⟨hN,hv1⟩:=hv1;obtain⟨rfl,q⟩:=ar1 C hv1 h1;refine⟨rfl,λL hL=> ?_⟩;(try rw[hm1]);exact⟨hN,q L hL⟩
  obtain⟨hm1,q1⟩:=step;rw[hm1] at h2;obtain⟨hm2,q2⟩:=aeE C hv2 h2;refine⟨hm2,λL hL=> ?_⟩;simp only[TU];exact⟨g,gs',N1,N2,rfl,rfl,q1 L (λr hr=>hL r (by simp[hr])),q2 L (λr hr=>hL r (by simp[hr]))⟩
end
def adl{w:World}{U X:Nat->Prop}{b o:Nat}{v:Value}(h:view w U X b o=some v):U b/\¬X b/\w.cell? ⟨b,o,none⟩=some v:=by
 unfold view at h;split at h
 ·rename_i hc;exact⟨hc.1,hc.2,h⟩
 ·cases h
def afW{w:World}{U X:Nat->Prop}{b o:Nat}{v:Value}(h1:U b)(h2:¬X b)(h3:w.cell? ⟨b,o,none⟩=some v):view w U X b o=some v:=by unfold view;rw[if_pos ⟨h1,h2⟩];exact h3
def cell_of_heap{w w':World}{b:Nat}(h:w'.heap[b]? =w.heap[b]?)(o:Nat):w'.cell? ⟨b,o,none⟩=w.cell? ⟨b,o,none⟩:=by simp[World.cell?,h]
def lt_of_cell{w:World}{b o:Nat}{v:Value}(h:w.cell? ⟨b,o,none⟩=some v):b<w.heap.size:=by have:=block_lt_of_cell h;simpa using this
section
variable {base:Nat} {U:Nat->Prop} {w w':World} {m:Mem} {G:GS}
def Hu.world(hg:Hu base U w m G)(hk:Keep G.E w w'){E':List Nat}(hn:E'.Nodup)(hE:∀b,b∈E'->(b∈G.E\/w.heap.size<=b)/\b<w'.heap.size):
  Hu base U w' m {G with E:=E'}/\(Gh U w G).le (Gh U w' {G with E:=E'}):=by
 have hnE:∀b,b<w.heap.size->b ∉ G.E->b ∉ E':=λb hb hx he=>by
  rcases(hE b he).1 with h|h
  ·exact hx h
  ·omega
 have hF:∀r b,b∈G.F r->w'.heap[b]? =w.heap[b]? :=λr b hb=>hk.block b (hg.lt b (.inr ⟨r,hb⟩)).1 (hg.djE r b hb)
 have hle:(Gh U w G).le (Gh U w' {G with E:=E'}):=by
  intro b o v hv;obtain⟨h1,h2,h3⟩:=adl hv;have hlt:=lt_of_cell h3;have hbE:b ∉ G.E:=λh=>h2 (.inl h)
  refine afW h1 ?_ ((cell_of_heap (hk.block b hlt hbE) o).trans h3);rintro(h|h)
  ·exact hnE b hlt hbE h
  ·exact h2 (.inr h)
 refine⟨⟨?_,hg.dj,λr b hb=>hnE b (hg.lt b (.inr ⟨r,hb⟩)).1 (hg.djE r b hb),hg.nd,hn, ?_,λb hb=>hg.up b (Nat.le_trans hk.size hb),Nat.le_trans hg.bs hk.size,hg.none_,hg.out_⟩,hle⟩
 ·intro r c hc ho;exact NG (yK _ _) hle rfl (λb hb=>hF r b hb) (hg.cell r c hc ho)
 ·rintro b (h|⟨r,h⟩)
  ·refine⟨(hE b h).2, ?_⟩;rcases(hE b h).1 with h'|h'
   ·exact(hg.lt b (.inl h')).2
   ·exact⟨Nat.le_trans hg.bs h',hg.up b h'⟩
  ·have:=hg.lt b (.inr ⟨r,h⟩);exact⟨Nat.lt_of_lt_of_le this.1 hk.size,this.2⟩
def aj6:∀{L:List Nat} {m:Mem} {G:GS} (_:Hu base U w m G) (_:∀r,r∈L->r ∉ G.out) {x:Unit} {m':Mem} {l l':Log} (_:(freeze L).run m l=some (x,m',l')),
  ∃F',Hu base U w m' ⟨G.μ,F',G.E,G.out⟩/\ZI m G m' ⟨G.μ,F',G.E,G.out⟩/\(∀r,r∈L->F' r=[])/\(∀r,F' r=[]\/F' r=G.F r)/\(∀k,k ∉ L->get k m'=get k m)
 |[],m,G,hg,ho,x,m',l,l',h=>by simp only[Vm.freeze,run_pure,lM,qU] at h;obtain⟨_,rfl,rfl⟩:=h;exact⟨G.F,hg,ZI.refl _ _,by simp,λr=> .inr rfl,λ_ _=>rfl⟩
 |r::L,m,G,hg,ho,x,m',l,l',h=>by
  simp only[Vm.freeze] at h;replace h:=ay h;obtain⟨c,m1,l1,h1,h⟩:=h;rw[Bo] at h1;cases h1;cases hc:get r m with
  |none=>rw[hc] at h;exact aN h
  |some c=>
   rw[hc] at h;cases c with
   |arr fz fl ver s rows=>
    replace h:=ay h;obtain⟨_,m1,l1,h1,h⟩:=h;simp only[PN,lM,qU] at h1;obtain⟨_,rfl,rfl⟩:=h1;obtain⟨k1,k2,_⟩:=hg.freeze hc (ho r (by simp));obtain⟨F',q1,q2,q3,q4,q5⟩:=aj6 k1 (λk hk=>ho k (by simp[hk])) h;refine⟨F',q1,k2.trans q2, ?_, ?_, ?_⟩
    ·intro k hk;simp only[List.mem_cons] at hk;rcases hk with rfl|hk
     ·rcases q4 k with e|e
      ·exact e
      ·rw[e];simp
     ·exact q3 k hk
    ·intro k;rcases q4 k with e|e
     ·exact .inl e
     ·by_cases ek:k=r
      ·subst ek;rw[e];left;simp
      ·have e':F' k=upF G.F r [] k:=e;rw[e',kY _ ek];exact .inr rfl
    ·intro k hk;simp only[List.mem_cons,not_or] at hk;rw[q5 k hk.2,nO hk.1]
   |_=>exact aN h
def agz{k:IntKind}{x:D}{n:Int}(h:asInt k x=some n):x=.int k n:=by
 cases x<;>simp[asInt] at h;rename_i k' n'
 by_cases e:k'=k
 ·subst e;simp at h;subst h;rfl
 ·simp[e] at h
def aeF{x:D}{b:Bool}(h:asBool x=some b):x=.bool b:=by cases x<;>simp[asBool] at h;subst h;rfl
def agA{x:D}{b:List UInt8}(h:ajX x=some b):x=.str b:=by cases x<;>simp[ajX] at h;subst h;rfl
def aj7{s:Nat}{x:D}{rows:List Row}(h:au6 s x=some rows):∃o,x=.sl o s rows:=by
 cases x<;>simp[au6] at h;rename_i o s' rows'
 by_cases e:s'=s
 ·subst e;simp at h;subst h;exact⟨o,rfl⟩
 ·rw[zV e] at h;simp at h
def aqJ{s:Nat}{x:D}{rows:List Row}(h:arV s x=some rows):x=.sl true s rows:=by
 cases x<;>simp[arV] at h;rename_i o s' rows';cases o<;>simp at h
 by_cases e:s'=s
 ·subst e;simp at h;subst h;rfl
 ·rw[zV e] at h;simp at h
def ani{row:Row}{j:Nat}{x:D}{r:Row}(h:row.drop j=x::r):nth row j=x/\row.drop (j+1)=r:=by
 have h1:row[j]? =some x:=by
  have:(row.drop j)[0]? =some x:=by rw[h];rfl
  rwa [List.getElem?_drop,Nat.add_zero] at this
 refine⟨by simp[nth,h1], ?_⟩;rw[<-List.drop_drop,h];rfl
def Hu.agB(hg:Hu base U w m G){N E:List Nat}(hE:(N++E).Perm G.E):Hu base U w m {G with E:=E}/\ZI m G m {G with E:=E}/\∀{x:D} {g:Value},ow (dO w) (Gh U w G) x g N->ro (Gh U w {G with E:=E}) x g:=by
 have hnd:=hE.nodup_iff.2 hg.ndE;have hmem:∀b,b∈N++E->b∈G.E:=λb hb=>hE.mem_iff.1 hb
 obtain⟨h1,h2⟩:=hg.less E (List.nodup_append.1 hnd).2.1 (λb hb=>hmem b (by simp[hb]));refine⟨h1,h2,fun{x g} q=>aDF h2.view x g N (TJ λb hb=>⟨(hg.lt b (.inl (hmem b (by simp[hb])))).2.2, ?_⟩) q⟩;rintro(h|⟨r,h⟩)
 ·exact(List.nodup_append.1 hnd).2.2 b hb b h rfl
 ·exact hg.djE r b h (hmem b (by simp[hb]))
structure Grew(base:Nat)(U:Nat->Prop)(w:World)(m:Mem)(G:GS)(m':Mem)(G':GS)(E:List Nat):Prop where
 ok:Hu base U w m' G'
 le:ZI m G m' G'
 E:G'.E=E
 out:G'.out=G.out
 old:∀k c,get k m=some c->get k m'=some c
 μ:∀k c,get k m=some c->G'.μ k=G.μ k
def Grew.trans{m1 m2 m3:Mem}{G1 G2 G3:GS}{E E':List Nat}(a:Grew base U w m1 G1 m2 G2 E)(b:Grew base U w m2 G2 m3 G3 E'):Grew base U w m1 G1 m3 G3 E':=
 ⟨b.ok,a.le.trans b.le,b.E,b.out.trans a.out,λk c h=>b.old k c (a.old k c h),λk c h=>(b.μ k c (a.old k c h)).trans (a.μ k c h)⟩
def ZK{k:Nat}{c:Cell}{x:Unit}{m':Mem}{l l':Log}(h:(new k c).run m l=some (x,m',l')):get k m=none/\m'=put k c m:=by
 simp only[new] at h;replace h:=ay h;obtain⟨_,m1,l1,h1,h⟩:=h;simp only[free] at h1;replace h1:=ay h1;obtain⟨c',m2,l2,h2,h1⟩:=h1;rw[Bo] at h2;cases h2;cases hc:get k m with
 |some c=>rw[hc] at h1;exact aN h1
 |none=>rw[hc] at h1;simp only[run_pure,lM,qU] at h1;obtain⟨_,rfl,rfl⟩:=h1;simp only[PN,lM,qU] at h;exact⟨rfl,h.2.1.symm⟩
def aj8(hg:Hu base U w m G)(ho:∀r,r∈G.out->∃c,get r m=some c){k:Nat}{fl:Bool}{s:Nat}{rows:List Row}{g:Value}{N E:List Nat}(hE:(N++E).Perm G.E)
  (hq:ow (dO w) (Gh U w G) (.sl true s rows) g N) {x:Unit} {m':Mem} {l l':Log} (h:(new k (.arr false fl 0 s rows)).run m l=some (x,m',l')):
  ∃G',Grew base U w m G m' G' E/\bn G'.μ m' (Gh U w G') (.own k 0) g:=by
 obtain⟨hn,rfl⟩:=ZK h;have hk:k ∉ G.out:=λhx=>by obtain⟨c,hc⟩:=ho k hx;rw[hn] at hc;cases hc
 obtain⟨F',h1,h2⟩:=hg.aEJ fl hn hk hE hq;refine⟨_,⟨h1,h2,rfl,rfl,λj c hj=> ?_,λj c hj=> ?_⟩, ?_⟩
 ·have hne:j≠k:=λe=>by subst e;rw[hn] at hj;cases hj
  rw[nO hne];exact hj
 ·exact PS _ (λe=>by subst e;rw[hn] at hj;cases hj)
 ·have:aaU g:=by simp only[ow] at hq;rcases hq with⟨_,rfl,_⟩|⟨b,cap,cs,t,N',rfl,_⟩<;>exact⟨_,_,_,rfl⟩
  simp[bn,kD,this]
def aqK(hg:Hu base U w m G)(ho:∀r,r∈G.out->∃c,get r m=some c){k b:Nat}{T:TypeId}{vs:List V}{a:Array Value}{E:List Nat}(hE:(b::E).Perm G.E)
  (hH:dO w b=some (.cells a T (0,0))) (hq:dh G.μ m (Gh U w G) vs a.toList) {x:Unit} {m':Mem} {l l':Log} (h:(new k (.box T vs)).run m l=some (x,m',l')):
  ∃G',Grew base U w m G m' G' E/\bn G'.μ m' (Gh U w G') (.ptr k 0) (.pointer (some ⟨b,0,none⟩)):=by
 obtain⟨hn,rfl⟩:=ZK h;have hk:k ∉ G.out:=λhx=>by obtain⟨c,hc⟩:=ho k hx;rw[hn] at hc;cases hc
 have hnd:=hE.nodup_iff.2 hg.ndE;have hμ:∀j,j≠k->upM G.μ k (.pointer (some ⟨b,0,none⟩)) j=G.μ j:=λj e=>PS _ e
 have hle:Jc G.μ m (upM G.μ k (.pointer (some ⟨b,0,none⟩))) (put k (.box T vs) m):=JL hμ (λc h=>by rw[hn] at h;cases h);obtain⟨h1,h2⟩:=hg.set k (.box T vs) (upM G.μ k (.pointer (some ⟨b,0,none⟩))) [b] E G.out (by simpa using hnd) (λx hx=> .inr (hE.mem_iff.1 (by simpa using hx))) hle hμ (λ_ _=>Iff.rfl) (λh=>absurd h hk)
  (λhv _=>⟨b,a,Rj _ _ _,hH,wz hle hv _ _ hq,rfl⟩)
 refine⟨_,⟨h1,h2,rfl,rfl,λj c hj=> ?_,λj c hj=> ?_⟩, ?_⟩
 ·rw[nO (λe=>by subst e;rw[hn] at hj;cases hj)];exact hj
 ·exact PS _ (λe=>by subst e;rw[hn] at hj;cases hj)
 ·simp[bn,kD,avd]
def aeG(hg:Hu base U w m G)(ho:∀r,r∈G.out->∃c,get r m=some c){row:Row}{j:Nat}{x:D}{g:Value}{N E:List Nat}(hE:(N++E).Perm G.E)(hx:nth row j=x)
  (hq:ow (dO w) (Gh U w G) x g N) {ct:CT} {own fl:Bool} {key:Nat} {v:V} {m':Mem} {l l':Log}
  (h:(Rh own fl key row j ct).run m l=some (v,m',l')):
  ∃G',Grew base U w m G m' G' E/\bn G'.μ m' (Gh U w G') v g:=by
 obtain⟨d1,d2,d3⟩:=hg.agB hE;have plain:Grew base U w m G m {G with E:=E} E:=⟨d1,d2,rfl,rfl,λ_ _ h=>h,λ_ _ _=>rfl⟩
 have hro:=d3 hq;cases ct with
 |int k=>
  simp only[Rh,dG,hx,Acc.run] at h;cases ha:asInt k x with
  |none=>simp[ha,Acc.run] at h
  |some n=>simp only[ha,Acc.run,lM,qU] at h;obtain⟨rfl,rfl,rfl⟩:=h;refine⟨_,plain, ?_⟩;rw[agz ha] at hro;simpa[bn] using hro
 |bool=>
  simp only[Rh,ajY,hx,Acc.run] at h;cases ha:asBool x with
  |none=>simp[ha,Acc.run] at h
  |some n=>simp only[ha,Acc.run,lM,qU] at h;obtain⟨rfl,rfl,rfl⟩:=h;refine⟨_,plain, ?_⟩;rw[aeF ha] at hro;simpa[bn] using hro
 |str=>
  simp only[Rh,cStr,hx,Acc.run] at h;cases ha:ajX x with
  |none=>simp[ha,Acc.run] at h
  |some n=>simp only[ha,Acc.run,lM,qU] at h;obtain⟨rfl,rfl,rfl⟩:=h;refine⟨_,plain, ?_⟩;rw[agA ha] at hro;simpa[bn] using hro
 |other=>exact aN h
 |sl s=>
  cases own with
  |false=>
   simp only[Rh,cSl,hx,Acc.run] at h;cases ha:au6 s x with
   |none=>simp[ha,Acc.run] at h
   |some n=>simp only[ha,Acc.run,lM,qU] at h;obtain⟨rfl,rfl,rfl⟩:=h;refine⟨_,plain, ?_⟩;obtain⟨o,rfl⟩:=aj7 ha;simp only[bn];exact aeA hro
  |true=>
   simp only[Rh,aHI,hx,Acc.run] at h;cases ha:arV s x with
   |none=>simp[ha,Acc.run] at h
   |some n=>simp only[ha,Acc.run] at h;have:=aqJ ha;subst this;replace h:=ay h;obtain⟨_,m1,l1,h1,h⟩:=h;obtain⟨rfl,rfl,rfl⟩:=rpu h;exact aj8 hg ho hE hq h1
def MN{H:Heap}{h:View}{x:D}{r:Row}{cs:List Value}{N:List Nat}(q:jU H h (x::r) cs N):∃v cs' N1 N2,cs=v::cs'/\N=N1++N2/\ow H h x v N1/\jU H h r cs' N2:=by simpa[jU] using q
def adn{N1 N2 E E0:List Nat}(h:(N1++N2++E).Perm E0):(N1++(N2++E)).Perm E0:=by rwa [VN] at h
def agC{own:List Nat}{r dst:Nat}{row:Row}:∀{cts:List CT} {fs:List Bool} {j:Nat} {m:Mem} {G:GS} {gs:List Value} {N E:List Nat} (_:Hu base U w m G) (_:∀r,r∈G.out->∃c,get r m=some c)
  (_:(N++E).Perm G.E) (_:jU (dO w) (Gh U w G) (row.drop j) gs N) (_:row.length=j+cts.length) (_:gs.length=cts.length) {vs:List V} {m':Mem} {l l':Log}
  (_:(abQ own r dst row j cts fs).run m l=some (vs,m',l')),∃G',Grew base U w m G m' G' E/\dh G'.μ m' (Gh U w G') vs gs
 |[],fs,j,m,G,gs,N,E,hg,ho,hE,hq,hlen,hgl,vs,m',l,l',h=>by simp only[abQ,run_pure,lM,qU] at h;obtain⟨rfl,rfl,rfl⟩:=h;rw[List.drop_eq_nil_of_le (by simp at hlen;omega)] at hq;simp only[jU] at hq;subst hq;simp at hgl;subst hgl;obtain⟨d1,d2,_⟩:=hg.agB hE;exact⟨_,⟨d1,d2,rfl,rfl,λ_ _ h=>h,λ_ _ _=>rfl⟩,by simp[dh]⟩
 |ct::cts,fs,j,m,G,gs,N,E,hg,ho,hE,hq,hlen,hgl,vs,m',l,l',h=>by
  cases hd:row.drop j with
  |nil=>have:=congrArg List.length hd;simp at this hlen;omega
  |cons x rest=>obtain⟨hx,hrest⟩:=ani hd;rw[hd] at hq;obtain⟨g,gs',N1,N2,rfl,rfl,q1,q2⟩:=MN hq;simp only[abQ] at h;replace h:=ay h;obtain⟨v,m1,l1,h1,h⟩:=h;replace h:=ay h;obtain⟨vs',m2,l2,h2,h⟩:=h;obtain⟨rfl,rfl,rfl⟩:=rpu h;obtain⟨G1,t1,s1⟩:=aeG hg ho (adn hE) hx q1 h1;obtain⟨G2,t2,s2⟩:=agC t1.ok (λk hk=>by rw[t1.out] at hk;obtain⟨c,hc⟩:=ho k hk;exact⟨c,t1.old k c hc⟩) (by rw[t1.E]) (by rw[hrest];exact aaX t1.le.view q2) (by simp at hlen;omega) (by simpa using hgl) h2;refine⟨G2,t1.trans t2, ?_⟩;simp only[dh];exact⟨g,gs',rfl,t2.le.bn s1,s2⟩
def Yt{att:List Nat}{dst ri:Nat}{row:Row}:∀{cts:List CT} {fs:List Bool} {j:Nat} {m:Mem} {G:GS} {gs:List Value} {N E:List Nat} (_:Hu base U w m G) (_:∀r,r∈G.out->∃c,get r m=some c)
  (_:(N++E).Perm G.E) (_:jU (dO w) (Gh U w G) (row.drop j) gs N) (_:row.length=j+cts.length) (_:gs.length=cts.length) {vs:List V} {m':Mem} {l l':Log}
  (_:(VT att dst ri row j cts fs).run m l=some (vs,m',l')),∃G',Grew base U w m G m' G' E/\dh G'.μ m' (Gh U w G') vs gs
 |[],fs,j,m,G,gs,N,E,hg,ho,hE,hq,hlen,hgl,vs,m',l,l',h=>by simp only[VT,run_pure,lM,qU] at h;obtain⟨rfl,rfl,rfl⟩:=h;rw[List.drop_eq_nil_of_le (by simp at hlen;omega)] at hq;simp only[jU] at hq;subst hq;simp at hgl;subst hgl;obtain⟨d1,d2,_⟩:=hg.agB hE;exact⟨_,⟨d1,d2,rfl,rfl,λ_ _ h=>h,λ_ _ _=>rfl⟩,by simp[dh]⟩
 |ct::cts,fs,j,m,G,gs,N,E,hg,ho,hE,hq,hlen,hgl,vs,m',l,l',h=>by
  cases hd:row.drop j with
  |nil=>have:=congrArg List.length hd;simp at this hlen;omega
  |cons x rest=>obtain⟨hx,hrest⟩:=ani hd;rw[hd] at hq;obtain⟨g,gs',N1,N2,rfl,rfl,q1,q2⟩:=MN hq;simp only[VT] at h;replace h:=ay h;obtain⟨v,m1,l1,h1,h⟩:=h;replace h:=ay h;obtain⟨vs',m2,l2,h2,h⟩:=h;obtain⟨rfl,rfl,rfl⟩:=rpu h;obtain⟨G1,t1,s1⟩:=aeG hg ho (adn hE) hx q1 h1;obtain⟨G2,t2,s2⟩:=Yt t1.ok (λk hk=>by rw[t1.out] at hk;obtain⟨c,hc⟩:=ho k hk;exact⟨c,t1.old k c hc⟩) (by rw[t1.E]) (by rw[hrest];exact aaX t1.le.view q2) (by simp at hlen;omega) (by simpa using hgl) h2;refine⟨G2,t1.trans t2, ?_⟩;simp only[dh];exact⟨g,gs',rfl,t2.le.bn s1,s2⟩
def valOf(P:Program)(t:TypeId)(cs:List Value)(g:Value):Prop:=if RH P t=true then g=.agg cs.toArray else cs=[g]
def agD(P:Program)(H:Heap)(h:View)(t:TypeId)(row:Row)(g:Value)(N:List Nat):Prop:=match alu P t with
 |some T=>∃b a N1,g=.pointer (some ⟨b,0,none⟩)/\H b=some (.cells a T (0,0))/\jU H h row a.toList N1/\row.length=a.size/\N=b::N1
 |none=>∃cs,valOf P t cs g/\jU H h row cs N/\row.length=cs.length
def aj9{P:Program}{H H':Heap}{h h':View}(hl:h.le h'){t:TypeId}{row:Row}{g:Value}{N:List Nat}(hb:∀b,b∈N->H' b=H b)(q:agD P H h t row g N):agD P H' h' t row g N:=by
 unfold agD at q|-;split at q
 ·obtain⟨b,a,N1,h1,h2,h3,h4,rfl⟩:=q;exact⟨b,a,N1,h1,(hb b (by simp)).trans h2,PK hl _ _ _ (λb hx=>hb b (by simp[hx])) h3,h4,rfl⟩
 ·obtain⟨cs,h1,h2,h3⟩:=q;exact⟨cs,h1,PK hl _ _ _ hb h2,h3⟩
def Rn{P:Program}{H:Heap}{h:View}{t:TypeId}{row:Row}{g:Value}{N:List Nat}(hp:alu P t=none):agD P H h t row g N↔∃cs,valOf P t cs g/\jU H h row cs N/\row.length=cs.length:=by simp only[agD,hp]
def VY(P:Program)(H:Heap)(h:View):List TypeId->List Row->List Value->List Nat->Prop
 |[],rows,gs,N=>rows=[]/\gs=[]/\N=[]
 |t::ts,rows,gs,N=>∃row rows' g gs' N1 N2,rows=row::rows'/\gs=g::gs'/\N=N1++N2/\agD P H h t row g N1/\VY P H h ts rows' gs' N2
def TV{P:Program}{H H':Heap}{h h':View}(hl:h.le h'):∀{ts:List TypeId} {rows:List Row} {gs:List Value} {N:List Nat},(∀b,b∈N->H' b=H b)->VY P H h ts rows gs N->VY P H' h' ts rows gs N
 |[],_,_,_,_,q=>q
 |t::ts,_,_,_,hb,⟨row,rows',g,gs',N1,N2,e1,e2,e3,h1,h4⟩=>by subst e3;exact⟨row,rows',g,gs',N1,N2,e1,e2,rfl,aj9 hl (λb hx=>hb b (by simp[hx])) h1,TV hl (λb hx=>hb b (by simp[hx])) h4⟩
def TW{P:Program}{t:TypeId}{vs:List V}{v:V}(h:SK P t vs=some v){μ:Nat->Value}{hh:View}{cs:List Value}{g:Value}(hq:dh μ m hh vs cs)(hg:valOf P t cs g):bn μ m hh v g:=by
 unfold SK at h;unfold valOf at hg;cases ha:RH P t with
 |true=>simp only[ha,aJ,if_true,lM] at h hg;subst h;simp only[bn];exact⟨_,hg,by simpa using hq⟩
 |false=>
  simp only[ha,aW,Bool.false_eq_true,if_false] at h hg;split at h
  ·cases h;obtain⟨g',gs',e,q1,q2⟩:=uD hq;rw[hg] at e;cases e;exact q1
  ·cases h
def ajd{res:List Row}{ri:Nat}{row:Row}{rows:List Row}(h:res.drop ri=row::rows):agl res ri=row/\res.drop (ri+1)=rows:=by
 have h1:res[ri]? =some row:=by
  have:(res.drop ri)[0]? =some row:=by rw[h];rfl
  rwa [List.getElem?_drop,Nat.add_zero] at this
 refine⟨by simp[agl,h1], ?_⟩;rw[<-List.drop_drop,h];rfl
def as6{X:Ctx}{att:List Nat}{dst ri:Nat}{row:Row}{t:TypeId}{g:Value}{N E:List Nat}(hg:Hu base U w m G)(ho:∀r,r∈G.out->∃c,get r m=some c)
  (hE:(N++E).Perm G.E) (hq:agD X.P (dO w) (Gh U w G) t row g N) {v:V} {m':Mem} {l l':Log}
  (h:(aqE X att dst ri row t).run m l=some (v,m',l')):∃G',Grew base U w m G m' G' E/\bn G'.μ m' (Gh U w G') v g:=by
 unfold agD at hq;unfold aqE at h;split at hq
 ·rename_i T hT;simp only[hT] at h;obtain⟨b,a,N1,rfl,h1,h2,h3,rfl⟩:=hq;replace h:=ay h;obtain⟨_,m1,l1,k1,h⟩:=h;obtain⟨hlen,rfl,rfl⟩:=gV k1;replace h:=ay h;obtain⟨vc,m2,l2,k2,h⟩:=h;replace h:=ay h;obtain⟨_,m3,l3,k3,h⟩:=h;simp only[run_pure,lM,qU] at h;obtain⟨rfl,rfl,rfl⟩:=h;have hlen:=Ia hlen;obtain⟨G1,t1,s1⟩:=Yt (N:=N1) (E:=b::E) hg ho (by refine List.Perm.trans List.perm_middle ?_;exact hE) (by simpa using h2) (by simpa using hlen) (by rw[Array.length_toList,<-h3];exact hlen) k2;obtain⟨G2,t2,s2⟩:=aqK t1.ok (λk hk=>by rw[t1.out] at hk;obtain⟨c,hc⟩:=ho k hk;exact⟨c,t1.old k c hc⟩) (by rw[t1.E]) h1 s1 k3;exact⟨G2,t1.trans t2,s2⟩
 ·rename_i hT;simp only[hT] at h;obtain⟨cs,h1,h2,h3⟩:=hq;replace h:=ay h;obtain⟨_,m1,l1,k1,h⟩:=h;obtain⟨hlen,rfl,rfl⟩:=gV k1;replace h:=ay h;obtain⟨vc,m2,l2,k2,h⟩:=h;obtain⟨hv,rfl,rfl⟩:=lV h;have hlen:=Ia hlen;obtain⟨G1,t1,s1⟩:=Yt hg ho hE (by simpa using h2) (by simpa using hlen) (by rw[<-h3];exact hlen) k2;exact⟨G1,t1,TW hv s1 h1⟩
def akb{X:Ctx}{att:List Nat}{dst:Nat}{res:List Row}:∀{ts:List TypeId} {ri:Nat} {m:Mem} {G:GS} {gs:List Value} {N E:List Nat} (_:Hu base U w m G) (_:∀r,r∈G.out->∃c,get r m=some c)
  (_:(N++E).Perm G.E) (_:VY X.P (dO w) (Gh U w G) ts (res.drop ri) gs N) {vs:List V} {m':Mem} {l l':Log}
  (_:(aaP X att dst res ri ts).run m l=some (vs,m',l')),∃G',Grew base U w m G m' G' E/\dh G'.μ m' (Gh U w G') vs gs
 |[],ri,m,G,gs,N,E,hg,ho,hE,hq,vs,m',l,l',h=>by simp only[aaP,run_pure,lM,qU] at h;obtain⟨rfl,rfl,rfl⟩:=h;obtain⟨_,rfl,rfl⟩:=hq;obtain⟨d1,d2,_⟩:=hg.agB hE;exact⟨_,⟨d1,d2,rfl,rfl,λ_ _ h=>h,λ_ _ _=>rfl⟩,by simp[dh]⟩
 |t::ts,ri,m,G,gs,N,E,hg,ho,hE,hq,vs,m',l,l',h=>by obtain⟨row,rows',g,gs',N1,N2,e1,rfl,rfl,h1,h4⟩:=hq;obtain⟨hrow,hrest⟩:=ajd e1;simp only[aaP] at h;replace h:=ay h;obtain⟨v,m3,l3,k3,h⟩:=h;replace h:=ay h;obtain⟨vs',m4,l4,k4,h⟩:=h;obtain⟨rfl,rfl,rfl⟩:=rpu h;rw[hrow] at k3;obtain⟨G1,t1,s1⟩:=as6 hg ho (adn hE) h1 k3;obtain⟨G2,t2,s2⟩:=akb t1.ok (λk hk=>by rw[t1.out] at hk;obtain⟨c,hc⟩:=ho k hk;exact⟨c,t1.old k c hc⟩) (by rw[t1.E]) (by rw[hrest];exact TV t1.le.view (λ_ _=>rfl) h4) k4;refine⟨G2,t1.trans t2, ?_⟩;simp only[dh];exact⟨g,gs',rfl,t2.le.bn s1,s2⟩
mutual
def ay9{H:Heap}{h h':View}:∀(x:D) (v:Value) (N:List Nat),x.pure=true->ow H h x v N->ow H h' x v N
 | .int _ _,_,_,_,q=>by simpa[ow] using q
 | .bool _,_,_,_,q=>by simpa[ow] using q
 | .str _,_,_,_,q=>by simpa[ow] using q
 | .XW,_,_,_,q=>by simpa[ow] using q
 | .sl false s rows,v,N,hp,q=>by simp only[D.pure,List.isEmpty_iff] at hp;subst hp;simp only[ow,ro] at q|-;exact⟨q.1,by obtain⟨a,cap,h1,h2,_⟩:=q.2;exact⟨a,cap,h1,h2,λe=>absurd rfl e⟩⟩
 | .sl true s rows,v,N,hp,q=>by
  simp only[D.pure] at hp;simp only[ow] at q|-;rcases q with q|⟨b,cap,cs,t,N',h1,h2,h3,h4,h5,rfl⟩
  ·exact .inl q
  ·exact .inr ⟨b,cap,cs,t,N',h1,h2,h3,h4,aeH s rows _ N' hp h5,rfl⟩
def aeH{H:Heap}{h h':View}(s:Nat):∀(rows:List Row) (cs:List Value) (N:List Nat),I9 rows=true->iP H h s rows cs N->iP H h' s rows cs N
 |[],_,_,_,q=>by simpa[iP] using q
 |r::rs,cs,N,hp,q=>by simp only[I9,wo] at hp;simp only[iP] at q|-;obtain⟨h1,N1,N2,rfl,h2,h3⟩:=q;exact⟨h1,N1,N2,rfl,WT r _ N1 hp.1 h2,aeH s rs _ N2 hp.2 h3⟩
def WT{H:Heap}{h h':View}:∀(r:Row) (cs:List Value) (N:List Nat),lU r=true->jU H h r cs N->jU H h' r cs N
 |[],_,_,_,q=>by simpa[jU] using q
 |x::r,cs,N,hp,q=>by simp only[lU,wo] at hp;simp only[jU] at q|-;obtain⟨v,cs',N1,N2,rfl,rfl,h2,h3⟩:=q;exact⟨v,cs',N1,N2,rfl,rfl,ay9 x v N1 hp.1 h2,WT r cs' N2 hp.2 h3⟩
end
def agE{P:Program}{H:Heap}{h h':View}:∀{ts:List TypeId} {rows:List Row} {gs:List Value} {N:List Nat},rows.all lU=true->VY P H h ts rows gs N->VY P H h' ts rows gs N
 |[],_,_,_,_,q=>q
 |t::ts,_,_,_,hp,⟨row,rows',g,gs',N1,N2,e1,e2,e3,h1,h4⟩=>by
  subst e1;simp only[List.all_cons,wo] at hp;refine⟨row,rows',g,gs',N1,N2,rfl,e2,e3, ?_,agE hp.2 h4⟩;unfold agD at h1|-;split at h1
  ·obtain⟨b,a,M,k1,k2,k3,k4,k5⟩:=h1;exact⟨b,a,M,k1,k2,WT _ _ _ hp.1 k3,k4,k5⟩
  ·obtain⟨cs,k1,k2,k3⟩:=h1;exact⟨cs,k1,WT _ _ _ hp.1 k2,k3⟩
def drop_cons{α:Type}{l:List α}{i:Nat}{a:α}{r:List α}(h:l.drop i=a::r):l[i]? =some a/\l.drop (i+1)=r:=by
 refine⟨?_,by rw[<-List.drop_drop,h];rfl⟩;have:(l.drop i)[0]? =some a:=by rw[h];rfl
 rwa [List.getElem?_drop,Nat.add_zero] at this
def aEK(xs:List D):(xs.map V.d).map vD=xs:=by
 induction xs with
 |nil=>rfl
 |cons x xs ih=>simp[vD,ih]
def agF{m m':Mem}(h:∀k c,get k m=some c->get k m'=some c):∀{rs:List Nat} {cs:List Cell},kinds m rs cs->kinds m' rs cs
 |[],_,q=>q
 |r::rs,_,⟨c,c',cs',h1,h2,h3,h4⟩=>⟨c,c',cs',h1,h r c h2,h3,agF h h4⟩
def akc{m:Mem}{r:Nat}{c0:Cell}:∀{rs:List Nat} {cs:List Cell},r ∉ rs->kinds m rs cs->kinds (put r c0 m) rs cs
 |[],_,_,q=>q
 |k::rs,_,hr,⟨c,c',cs',h1,h2,h3,h4⟩=>by simp only[List.mem_cons,not_or] at hr;exact⟨c,c',cs',h1,by rw[nO (Ne.symm hr.1)];exact h2,h3,akc hr.2 h4⟩
structure Came(base:Nat)(U:Nat->Prop)(w:World)(m:Mem)(G:GS)(m':Mem)(G':GS)(E:List Nat):Prop where
 ok:Hu base U w m' G'
 le:ZI m G m' G'
 E:G'.E=E
 out:G'.out=[]
def Ro{H:Heap}{h h':View}(hl:h.le h'){cs:List Cell}{gs:List Value}{N:List Nat}(q:cellsB H h cs gs N):cellsB H h' cs gs N:=aeC hl (λ_ _=>rfl) q
def agG{X:Ctx}{dst:Nat}{outs:List Cell}:∀{rs:List Nat} {i:Nat} {m:Mem} {G:GS} {N E:List Nat} (_:Hu base U w m G) (_:rs.Nodup) (_:G.out=rs) (_:kinds m rs (outs.drop i))
  (_:(N++E).Perm G.E) (_:cellsB (dO w) (Gh U w G) (outs.drop i) (rs.map G.μ) N) {x:Unit} {m':Mem} {l l':Log} (_:(aew X dst outs i rs).run m l=some (x,m',l')),
  ∃G',Came base U w m G m' G' E
 |[],i,m,G,N,E,hg,hn,ho,hk,hE,hq,x,m',l,l',h=>by simp only[aew,run_pure,lM,qU] at h;obtain⟨_,rfl,rfl⟩:=h;obtain⟨d1,d2,_⟩:=hg.agB hE;exact⟨_,d1,d2,rfl,ho⟩
 |r::rs,i,m,G,N,E,hg,hn,ho,hk,hE,hq,x,m',l,l',h=>by
  obtain⟨c,c',cs',e1,hc,hsk,hk'⟩:=hk;have hnr:=List.nodup_cons.1 hn;obtain⟨hi,hdrop⟩:=drop_cons e1;rw[e1] at hq;obtain⟨g,gs',N1,N2,eg,rfl,q1,q2⟩:=hq;simp only[zmc,List.cons.injEq] at eg;obtain⟨rfl,rfl⟩:=eg;have hout:∀k,k∈G.out->∃c,get k m=some c:=by
   intro k hkm;rw[ho] at hkm;simp only[List.mem_cons] at hkm;rcases hkm with rfl|hkm
   ·exact⟨c,hc⟩
   ·obtain⟨j,hj⟩:=List.getElem?_of_mem hkm;obtain⟨c2,_,h2,_⟩:=agy hk' hj;exact⟨c2,h2⟩
  simp only[aew] at h;replace h:=ay h;obtain⟨c0,m1,l1,h1,h⟩:=h;rw[Bo] at h1;cases h1;rw[hc] at h;cases c with
  |dead=>exact hsk.elim
  |box t cs=>
   cases c' with
   |box t' vs=>
    obtain rfl:t=t':=hsk;obtain⟨b,a,xs,N',hμ,hH,hvs,hxl,hrow,rfl⟩:=q1;simp only at h;obtain⟨hbl,h⟩:=bck h;replace h:=ay h;obtain⟨vs',m3,l3,h3,h⟩:=h;replace h:=ay h;obtain⟨_,m4,l4,h4,h⟩:=h;rw[PN] at h4;cases h4;have hbx:ava outs i=xs:=by simp only[ava,hi,hvs];exact aEK xs
    have hbl:xs.length=(Pq X.P t).length:=by simp only[avb,hi] at hbl;have:=Ia hbl;rw[hvs,List.length_map] at this;exact this
    rw[hbx] at h3;obtain⟨G1,t1,s1⟩:=agC hg hout (N:=N') (E:=b::(N2++E)) (List.Perm.trans (by have:(N'++b::(N2++E)).Perm (b::(N'++(N2++E))):=List.perm_middle;refine this.trans ?_;simp[VN]) hE) (by simpa using hrow) (by simpa using hbl) (by rw[<-hxl];exact hbl) h3;have hc1:=t1.old r _ hc;have aHQ:=t1.ok.ndE;rw[t1.E] at aHQ;have hset:=t1.ok.set r (.box t vs') G1.μ [b] (N2++E) rs (by simpa using aHQ) (λk hk=> .inr (by rw[t1.E];simpa using hk))
     (JL (λ_ _=>rfl) (λc h=>by rw[hc1] at h;cases h;exact⟨rfl,rfl⟩)) (λ_ _=>rfl)
     (λk hne=>by rw[t1.out,ho];simp[hne]) (λhr=>absurd hr hnr.1)
     (λhv _=>⟨b,a,by rw[t1.μ r _ hc];exact hμ,hH,wz (JL (λ_ _=>rfl) (λc h=>by rw[hc1] at h;cases h;exact⟨rfl,rfl⟩)) hv _ _ s1,rfl⟩)
    obtain⟨k1,k2⟩:=hset;obtain⟨G2,f1,f2,f3,f4⟩:=agG k1 hnr.2 rfl (akc hnr.1 (agF t1.old (by rw[hdrop];exact hk'))) (N:=N2) (E:=E) (List.Perm.refl _)
     (by
      rw[hdrop];have hmap:rs.map G1.μ=rs.map G.μ:=List.map_congr_left λk hk=>by obtain⟨c2,h2⟩:=hout k (by rw[ho];simp[hk]);exact t1.μ k c2 h2
      simp only[hmap];exact Ro (t1.le.view.trans' k2.view) q2) h
    exact⟨G2,f1,(t1.le.trans k2).trans f2,f3,f4⟩
   |_=>exact hsk.elim
  |arr fz fl ver s rows=>simp only at h;replace h:=ay h;obtain⟨_,m2,l2,h2,h⟩:=h;exact aN h2
def avi{h:View}(s:List UInt8):∀(cs:List Value),cs=s.map (λb=>Value.int .u8 b.toNat)->iU h 1 (s.map byteRow) cs:=by
 induction s with
 |nil=>intro cs _;simp[iU]
 |cons b s ih=>intro cs e;subst e;simp only[zmc,iU,byteRow];exact⟨rfl,by simp[ji,ro],ih _ rfl⟩
end
def Vk(b o j:Nat):(⟨b,o,none⟩:Addr).add j=⟨b,o+j,none⟩:=by
 unfold Addr.add;split
 ·rename_i h;subst h;rfl
 ·rfl
def Jd{P:Program}{t:TypeId}(h:Yg P t=true):∃d,P.underlying t=some d:=by
 unfold Yg at h;cases hu:P.underlying t with
 |none=>simp[hu] at h
 |some d=>exact⟨d,rfl⟩
def Es{P:Program}{t:TypeId}{d:TypeDesc}(h:P.underlying t=some d):∃i,P.info? t=some i:=by
 unfold Program.underlying at h;cases hi:P.info? t with
 |none=>simp[hi] at h
 |some i=>exact⟨i,rfl⟩
def PU{P:Program}{t:TypeId}{i:TypeInfo}(h:P.info? t=some i):uw P t=i.size:=by simp[uw,h]
section
variable {P:Program} {w:World}
def VZ{t:TypeId}{d:TypeDesc}(h:P.underlying t=some d)(w:World):(isAgg t).run P w=.ok (RH P t) w:=by unfold isAgg RH;rw[Sem.run_bind,run_underlying h w,h];cases d<;>rfl
def WU{t:TypeId}{b off:Nat}{cs:List Value}{g:Value}(hok:Yg P t=true)(hlen:cs.length=uw P t)(hc:∀j v,cs[j]? =some v->w.cell? ⟨b,off+j,none⟩=some v)(hg:valOf P t cs g):
  (Instr.loadAt t (.pointer (some ⟨b,off,none⟩))).run P w=.ok g w:=by
 obtain⟨d,hd⟩:=Jd hok;obtain⟨i,hi⟩:=Es hd;have hsz:i.size=cs.length:=by rw[hlen,PU hi]
 unfold Instr.loadAt Instr.sureAddr;simp only[Sem.run_bind,Sem.run_pure,Result.andThen_ok,loadVar,VZ hd];unfold valOf at hg;cases ha:RH P t with
 |true=>simp only[ha,if_true] at hg;subst hg;have hl:=run_loadCells_list (P:=P) w ⟨b,off,none⟩ cs (λj v hv=>by rw[Vk];exact hc j v hv);simp[sizeOf,typeInfo,hi,hsz,hl]
 |false=>simp only[ha,Bool.false_eq_true,if_false] at hg;subst hg;have:=hc 0 g rfl;simp only[Nat.add_zero] at this;simp[this]
def aeI{t T:TypeId}{b off:Nat}{cur:Array Value}{g:Value}(hok:Yg P t=true)(hH:w.heap[b]? =some (.cells cur T (0,0)))(hlen:g.cells.size=uw P t)(hfit:off+g.cells.size<=cur.size)(h1:∀v∈g.cells.toList,v.oneCell'=true):
  (Instr.storeAt t (.pointer (some ⟨b,off,none⟩)) g).run P w=.ok () (w.setRow b (splice cur.toList off g.cells.toList).toArray):=by
 obtain⟨d,hd⟩:=Jd hok;obtain⟨i,hi⟩:=Es hd;have hsz:g.cells.size=i.size:=by rw[hlen,PU hi]
 have hst:=run_storeCells_at P b off T g.cells.toList 0 cur w hH (by simpa using hfit) h1;simp only[Nat.add_zero] at hst;unfold Instr.storeAt Instr.sureAddr;simp only[Sem.run_bind,Sem.run_pure,Result.andThen_ok,storeVar,sizeOf,typeInfo,run_program,hi];simp[hsz,hst,splice]
def Yu{T:TypeId}{f b off o n:Nat}{t:TypeId}(hf:WQ P T f=some (o,n,t))(hn:1<=n):
  (Instr.fieldAt T (.pointer (some ⟨b,off,none⟩)) f).run P w=.ok (.pointer (some ⟨b,off+o,none⟩)) w:=by
 unfold WQ at hf;cases hu:P.underlying T with
 |none=>simp[hu] at hf
 |some d=>
  rw[hu] at hf;cases d with
  |struct fs=>
   simp only at hf;cases hfd:fs[f]? with
   |none=>simp[hfd] at hf
   |some fd=>
    simp only[hfd,lM,qU] at hf;obtain⟨rfl,rfl,rfl⟩:=hf;cases hi:P.info? fd.type with
    |none=>simp[uw,hi] at hn
    |some i=>
     have hne:i.size≠0:=by rw[PU hi] at hn;omega
     unfold Instr.fieldAt;simp[run_underlying hu,hfd,Instr.sureAddr,fieldPlace,sizeOf,typeInfo,hi,hne,Vk]
  |_=>simp at hf
def Yv{t e:TypeId}(h:elT P t=some e):P.underlying t=some (.slice e):=by
 unfold elT at h;cases hu:P.underlying t with
 |none=>simp[hu] at h
 |some d=>rw[hu] at h;cases d<;>simp at h;rw[h]
def run_indexAt{t e:TypeId}{k:IntKind}{i:Int}{b o n cap:Nat}(he:elT P t=some e){inf:TypeInfo}(hi:P.info? e=some inf)(h0:0<=i)(hn:i<n):
  (Instr.indexAt t (.slice (some ⟨b,o,none⟩) n cap) (.int k i)).run P w=.ok (.pointer (some ⟨b,o+i.toNat * inf.size,none⟩)) w:=by
 have hu:=Yv he;have hc:0<=i/\i<(n:Int):=⟨h0,hn⟩
 unfold Instr.indexAt;simp[asIntOf,run_underlying hu,hc,sizeOf,typeInfo,hi,Vk]
structure Src(P:Program)(size:Nat)(w:World)(y:Value)(m:Nat)(news:List Value):Prop where
 len:(Builtin.lenOf y).run P w=.ok m w
 get:(Builtin.firstCells size m y).run P w=.ok news.toArray w
 lend:(Builtin.lenOf y).run P w.drew=.ok m w.drew
 aHR:(Builtin.firstCells size m y).run P w.drew=.ok news.toArray w.drew
 n:news.length=m * size
 one:∀u∈news,u.oneCell'=true
def Src.slice{size:Nat}{a:Option Addr}{m c:Nat}{news:List Value}(hl:news.length=m * size)(h1:∀u∈news,u.oneCell'=true)
  (h:m≠0->∃b o,a=some ⟨b,o,none⟩/\∀j v,news[j]? =some v->w.cell? ⟨b,o+j,none⟩=some v):Src P size w (.slice a m c) m news:=by
 have key:∀w':World,(∀x,w'.cell? x=w.cell? x)->(Builtin.firstCells size m (.slice a m c)).run P w'=.ok news.toArray w':=by
  intro w' hw
  by_cases hm:m=0
  ·subst hm;have:news=[]:=List.eq_nil_of_length_eq_zero (by simpa using hl);subst this;cases a with
   |none=>simp[Builtin.firstCells]
   |some a=>simp[Builtin.firstCells,loadCells,loadCellsFrom]
  ·obtain⟨b,o,rfl,hc⟩:=h hm;exact run_firstCells_some (P:=P) w' size m ⟨b,o,none⟩ m c news hl (λj v hv=>by rw[Vk,hw];exact hc j v hv)
 exact⟨by simp[Builtin.lenOf],key w (λ_=>rfl),by simp[Builtin.lenOf],key w.drew (λx=>rfl),hl,h1⟩
def Src.string{s:List UInt8}:Src P 1 w (.string ⟨⟨s⟩⟩) s.length (s.map λb=>Value.int .u8 b.toNat):=by
 have hsz:(⟨⟨s⟩⟩:ByteArray).size=s.length:=rfl;have hex:((⟨⟨s⟩⟩:ByteArray).extract 0 s.length)=⟨⟨s⟩⟩:=by rw[<-hsz];apply ByteArray.ext;simp[ByteArray.data_extract]
 have hm:(Array.map (λb:UInt8=>Value.int .u8 (b.toNat:Int)) ⟨s⟩)=(s.map λb=>Value.int .u8 (b.toNat:Int)).toArray:=by apply Array.ext';simp
 refine⟨by simp[Builtin.lenOf,hsz],by simp[Builtin.firstCells,hex,hm],by simp[Builtin.lenOf,hsz],by simp[Builtin.firstCells,hex,hm],by simp, ?_⟩;intro u hu;simp only[List.mem_map] at hu;obtain⟨b,_,rfl⟩:=hu;rfl
def XI{t ty y e:TypeId}{inf:TypeInfo}{z gy:Value}{m:Nat}{news:List Value}(he:P.underlying t=some (.slice e))(hty:(∃e',P.underlying y=some (.slice e'))\/P.underlying y=some .string)
  (hi:P.info? e=some inf) (hz:inf.zero=some z) (hs:Src P inf.size w gy m news) (hm:m≠0) (h63:m<=140737488355328) (hb:m * inf.bytes<=140737488355328):
  ∃cap,m<=cap/\(Builtin.append_ #[t,y] ty #[.slice none 0 0,gy]).run P w=.ok (.slice (some ⟨w.heap.size,0,none⟩) m cap) (w.drew.alloc (.cells (news.toArray++Builtin.zeroCells z.cells (cap - m)) e)):=by
 have h63':¬(9223372036854775807<(m:Int)):=ak;have h48':¬(281474976710656<Builtin.nextslicecap m 0 * inf.bytes):=by rw[nextslicecap_zero ak];omega
 refine⟨grownCap w m 0 e,grownCap_ge w m 0 e, ?_⟩;rcases hty with⟨e',hd⟩|hd<;>simp[Builtin.append_,run_underlying he,run_underlying hd,sizeOf,typeInfo,zeroValue,hi,hz,hs.len,hm,h63',h48',Question.forced,run_firstCells_none,hs.aHR,newRow,grownCap]
def XJ{t ty y e:TypeId}{inf:TypeInfo}{gy:Value}{news:List Value}(he:P.underlying t=some (.slice e))(hty:(∃e',P.underlying y=some (.slice e'))\/P.underlying y=some .string)
  (hi:P.info? e=some inf) (hs:Src P inf.size w gy 0 news):
  (Builtin.append_ #[t,y] ty #[.slice none 0 0,gy]).run P w=.ok (.slice none 0 0) w:=by
 rcases hty with⟨e',hd⟩|hd<;>simp[Builtin.append_,run_underlying he,run_underlying hd,sizeOf,typeInfo,hi,hs.len,hs.get]
def run_append_fits{t ty y e T:TypeId}{inf:TypeInfo}{gy:Value}{b n m cap:Nat}{cur:Array Value}{news:List Value}(he:P.underlying t=some (.slice e))(hty:(∃e',P.underlying y=some (.slice e'))\/P.underlying y=some .string)
  (hi:P.info? e=some inf) (hs:Src P inf.size w gy m news) (hH:w.heap[b]? =some (.cells cur T (0,0))) (hroom:n+m<=cap) (hc:cur.size=cap * inf.size):
  (Builtin.append_ #[t,y] ty #[.slice (some ⟨b,0,none⟩) n cap,gy]).run P w=.ok (.slice (some ⟨b,0,none⟩) (n+m) cap) (w.setRow b (splice cur.toList (n * inf.size) news).toArray):=by
 have hfit:n * inf.size+0+news.length<=cur.size:=by rw[hs.n,hc,Nat.add_zero,<-Nat.add_mul];exact Nat.mul_le_mul_right _ hroom
 have hst:=run_storeCells_at P b (n * inf.size) T news 0 cur w hH hfit hs.one;simp only[Nat.add_zero] at hst;rcases hty with⟨e',hd⟩|hd<;>simp[Builtin.append_,run_underlying he,run_underlying hd,sizeOf,typeInfo,hi,hs.len,hroom,hs.get,Vk,hst,splice]
def afk{t ty y e:TypeId}{inf:TypeInfo}{z gy:Value}{b n m cap:Nat}{olds news:List Value}(he:P.underlying t=some (.slice e))(hty:(∃e',P.underlying y=some (.slice e'))\/P.underlying y=some .string)
  (hi:P.info? e=some inf) (hz:inf.zero=some z) (hs:Src P inf.size w gy m news) (hl:olds.length=n * inf.size) (ho:∀j v,olds[j]? =some v->w.cell? ⟨b,0+j,none⟩=some v) (hroom:cap<n+m) (h63:n+m<=140737488355328) (hb:(n+m) * inf.bytes<=140737488355328):
  ∃cap',n+m<=cap'/\(Builtin.append_ #[t,y] ty #[.slice (some ⟨b,0,none⟩) n cap,gy]).run P w=.ok (.slice (some ⟨w.heap.size,0,none⟩) (n+m) cap') (w.drew.alloc (.cells ((olds++news).toArray++Builtin.zeroCells z.cells (cap' - (n+m))) e)):=by
 have hn:¬(n+m<=cap):=ak;have h63':¬(9223372036854775807<((n:Int)+(m:Int))):=ak;have h48':¬(281474976710656<Builtin.nextslicecap (n+m) cap * inf.bytes):=by have:=growslice_fits hroom hb;omega
 have hfo:=run_firstCells_some (P:=P) w.drew inf.size n ⟨b,0,none⟩ n cap olds hl (λj v hv=>by rw[Vk];exact ho j v hv);refine⟨grownCap w (n+m) cap e,grownCap_ge w (n+m) cap e, ?_⟩;rcases hty with⟨e',hd⟩|hd<;>simp[Builtin.append_,run_underlying he,run_underlying hd,sizeOf,typeInfo,zeroValue,hi,hz,hs.len,hn,h63',h48',Question.forced,hfo,hs.aHR,newRow,grownCap]<;>
  (congr 2;apply Array.ext';simp[VN])
end
open Go
structure Fr(M0:List Nat)(w0 w:World)(G:GS):Prop where
 keep:Keep M0 w0 w
 fr:∀b,excl G.F G.E b->b∈M0\/w0.heap.size<=b
structure Nx(base:Nat)(U:Nat->Prop)(M0:List Nat)(w0 w:World)(m:Mem)(G:GS)(w':World)(m':Mem)(G':GS):Prop where
 ok:Hu base U w' m' G'
 E:G'.E=[]
 out:G'.out=[]
 mem:Jc G.μ m G'.μ m'
 view:(Gh U w G).le (Gh U w' G')
 fr:Fr M0 w0 w' G'
structure At(base:Nat)(U:Nat->Prop)(M0:List Nat)(w0 w:World)(m:Mem)(G:GS):Prop where
 ok:Hu base U w m G
 E:G.E=[]
 out:G.out=[]
 fr:Fr M0 w0 w G
def Ua{P:Program}{o:Oper}{a:Act}{w w':World}{K:Act->World->Prop}{Q:Exit->Act->World->Prop}{g:Value}(h:(execOp a.eval o).run P w=.ok (.value g) w')(hn:K (a.put o.dst g) w'):o.wp P a w K Q:=by unfold Oper.wp;rw[h];exact hn
def wp_skip{P:Program}{o:Oper}{a:Act}{w w':World}{K:Act->World->Prop}{Q:Exit->Act->World->Prop}(h:(execOp a.eval o).run P w=.ok .skip w')(hn:K (a.put o.dst undef) w'):o.wp P a w K Q:=by unfold Oper.wp;rw[h];exact hn
section
variable {base:Nat} {U:Nat->Prop} {M0:List Nat} {w0 w w':World} {m m':Mem} {G G':GS} {P:Program}
def At.nx(h:At base U M0 w0 w m G):Nx base U M0 w0 w m G w m G:=⟨h.ok,h.E,h.out,yK _ _,View.le_refl _,h.fr⟩
def Nx.at_(h:Nx base U M0 w0 w m G w' m' G'):At base U M0 w0 w' m' G':=⟨h.ok,h.E,h.out,h.fr⟩
def Nx.bn(h:Nx base U M0 w0 w m G w' m' G'){v:V}{g:Value}(q:bn G.μ m (Gh U w G) v g):bn G'.μ m' (Gh U w' G') v g:=PL h.mem h.view v g q
def Fr.less(h:Fr M0 w0 w G)(hx:∀b,excl G'.F G'.E b->excl G.F G.E b):Fr M0 w0 w G':=⟨h.keep,λb hb=>h.fr b (hx b hb)⟩
def At.still(h:At base U M0 w0 w m G)(hg:Hu base U w m' G')(hl:ZI m G m' G')(ho:G'.out=[]):
  Nx base U M0 w0 w m G w m' {G' with E:=[]}:=by
 obtain⟨k1,k2⟩:=hg.less [] (by simp) (by simp);have:=hl.trans k2;exact⟨k1,rfl,ho,this.mem,this.view,h.fr.less this.ex⟩
def NJ{μ:Nat->Value}{h:View}:∀{a b:List V} {g k:List Value},dh μ m h a g->dh μ m h b k->dh μ m h (a++b) (g++k)
 |[],b,g,k,ha,hb=>by simp only[dh] at ha;subst ha;simpa using hb
 |v::a,b,g,k,ha,hb=>by obtain⟨g0,g',rfl,h1,h2⟩:=uD ha;simp only[zca,dh];exact⟨g0,g'++k,rfl,h1,NJ h2 hb⟩
def aaY{μ:Nat->Value}{h:View}:∀{a:List V} {g:List Value} (n:Nat),dh μ m h a g->dh μ m h (a.drop n) (g.drop n)
 |a,g,0,ha=>by simpa using ha
 |[],g,n+1,ha=>by simp only[dh] at ha;subst ha;simp[dh]
 |v::a,g,n+1,ha=>by obtain⟨g0,g',rfl,h1,h2⟩:=uD ha;simpa using aaY n h2
def aaZ{μ:Nat->Value}{h:View}:∀{a:List V} {g:List Value} (n:Nat),dh μ m h a g->dh μ m h (a.take n) (g.take n)
 |a,g,0,ha=>by simp[dh]
 |[],g,n+1,ha=>by simp only[dh] at ha;subst ha;simp[dh]
 |v::a,g,n+1,ha=>by obtain⟨g0,g',rfl,h1,h2⟩:=uD ha;simp only[List.take_succ_cons,dh];exact⟨g0,g'.take n,rfl,h1,aaZ n h2⟩
def agH{μ:Nat->Value}{h:View}{a:List V}{g:List Value}(o n:Nat)(q:dh μ m h a g):dh μ m h (part a o n) ((g.drop o).take n):=aaZ n (aaY o q)
def WV{μ:Nat->Value}{h:View}{a b:List V}{g k:List Value}(o:Nat)(q:dh μ m h a g)(q':dh μ m h b k):dh μ m h (splice a o b) (splice g o k):=by have hl:k.length=b.length:=kE q';unfold splice;rw[hl];exact NJ (NJ (aaZ o q) q') (aaY _ q)
def ZL{μ:Nat->Value}{h:View}:∀{a:List V} {g:List Value} {i:Nat} {v:V},dh μ m h a g->a[i]? =some v->∃x,g[i]? =some x/\bn μ m h v x
 |[],g,i,v,ha,hi=>by simp at hi
 |v0::a,g,i,v,ha,hi=>by
  obtain⟨g0,g',rfl,h1,h2⟩:=uD ha;cases i with
  |zero=>simp at hi;subst hi;exact⟨g0,rfl,h1⟩
  |succ i=>simpa using ZL h2 (by simpa using hi)
def ar2{t:TypeId}{vs:List V}{v:V}(h:SK P t vs=some v){μ:Nat->Value}{hh:View}{cs:List Value}(hq:dh μ m hh vs cs):∃g,valOf P t cs g:=by
 unfold SK at h;unfold valOf;cases ha:RH P t with
 |true=>exact⟨_,by simp;rfl⟩
 |false=>
  simp only[ha,aW] at h;split at h
  ·obtain⟨g',gs',e,q1,q2⟩:=uD hq;simp only[dh] at q2;subst q2;exact⟨g',by simpa using e⟩
  ·cases h
def Vl{h:View}{x:D}{g:Value}(q:ro h x g):g.oneCell'=true:=by
 cases x with
 |sl o s rows=>simp only[ro] at q;obtain⟨a,cap,rfl,_⟩:=q;rfl
 |_=>simp only[ro] at q;subst q;rfl
def aza{row:Row}{j:Nat}{x:D}(h:nth row j=x)(hx:x≠.XW):row[j]? =some x:=by
 unfold nth at h;cases hr:row[j]? with
 |none=>rw[hr] at h;exact absurd h.symm hx
 |some y=>rw[hr] at h;exact congrArg some h
def as7{s:Nat}{x:D}{rows:List Row}(h:ay0 s x=some rows):∃o,x=.sl o s rows/\(o=false\/rows=[]):=by
 cases x<;>simp[ay0] at h;rename_i o s' rows'
 by_cases e:s'=s
 ·subst e;simp at h;cases o with
  |false=>simp at h;subst h;exact⟨false,rfl,.inl rfl⟩
  |true=>
   cases rows' with
   |nil=>simp at h;subst h;exact⟨true,rfl,.inr rfl⟩
   |cons _ _=>simp at h
 ·rw[zV e] at h;simp at h
def ado{strict:Bool}{row:Row}{μ:Nat->Value}{h:View}(cell:Nat->Option Value)(Rel:D->Value->Prop)(hrow:∀k x,row[k]? =some x->∃g,cell k=some g/\Rel x g)
  (hint:∀k n g,Rel (.int k n) g->g=.int k n) (aDH:∀b g,Rel (.bool b) g->g=.bool b) (hstr:∀s g,Rel (.str s) g->g=.string ⟨⟨s⟩⟩)
  (hsl:∀o s rs g,Rel (.sl o s rs) g->(strict=true->o=false\/rs=[])->ro h (.sl false s rs) g):
  ∀(cts:List CT) (j:Nat) (c:List V->Acc V) (m0:Mem) (l:Log) (r:V×Mem×Log),(PE strict cts row j c).run m0 l=some r->
   ∃vs cs,(c vs).run m0 l=some r/\cs.length=cts.length/\dh μ m h vs cs/\∀i g,cs[i]? =some g->cell (j+i)=some g
 |[],j,c,m0,l,r,hr=>⟨[],[],hr,rfl,by simp[dh],by simp⟩
 |ct::cts,j,c,m0,l,r,hr=>by
  have go:∀(x:D) (y:V),nth row j=x->x≠.XW->(∀g,Rel x g->bn μ m h y g)->(PE strict cts row (j+1) λvs=>c (y::vs)).run m0 l=some r->
    ∃vs cs,(c vs).run m0 l=some r/\cs.length=(ct::cts).length/\dh μ m h vs cs/\∀i g,cs[i]? =some g->cell (j+i)=some g:=by
   intro x y hx hxn hs hr;obtain⟨g,hg,hrel⟩:=hrow j x (aza hx hxn);obtain⟨vs,cs,h1,h2,h3,h4⟩:=ado cell Rel hrow hint aDH hstr hsl cts (j+1) _ m0 l r hr;refine⟨y::vs,g::cs,h1,by simp[h2],by simp only[dh];exact⟨g,cs,rfl,hs g hrel,h3⟩, ?_⟩;intro i g' hi;cases i with
   |zero=>simp at hi;subst hi;exact hg
   |succ i=>have:=h4 i g' (by simpa using hi);rw[show j+(i+1)=j+1+i from by omega];exact this
  cases ct with
  |int k=>
   simp only[PE,Acc.run,dG] at hr;cases ha:asInt k (nth row j) with
   |none=>simp[ha,Acc.run] at hr
   |some n=>simp only[ha,Acc.run] at hr;exact go _ _ (agz ha) (by simp) (λg hg=>by rw[hint _ _ g hg];simp[bn,ro]) hr
  |bool=>
   simp only[PE,Acc.run,ajY] at hr;cases ha:asBool (nth row j) with
   |none=>simp[ha,Acc.run] at hr
   |some n=>simp only[ha,Acc.run] at hr;exact go _ _ (aeF ha) (by simp) (λg hg=>by rw[aDH _ g hg];simp[bn,ro]) hr
  |str=>
   simp only[PE,Acc.run,cStr] at hr;cases ha:ajX (nth row j) with
   |none=>simp[ha,Acc.run] at hr
   |some n=>simp only[ha,Acc.run] at hr;exact go _ _ (agA ha) (by simp) (λg hg=>by rw[hstr _ g hg];simp[bn,ro]) hr
  |other=>simp[PE,Acc.run] at hr
  |sl s=>
   simp only[PE,Acc.run,cRo,cSl] at hr;cases strict with
   |true=>
    simp only[aJ] at hr;cases ha:ay0 s (nth row j) with
    |none=>simp[ha,Acc.run] at hr
    |some n=>simp only[ha,Acc.run] at hr;obtain⟨o,hx,ho⟩:=as7 ha;exact go _ _ hx (by simp) (λg hg=>by simp only[bn];exact hsl _ _ _ g hg (λ_=>ho)) hr
   |false=>
    simp only[aW] at hr;cases ha:au6 s (nth row j) with
    |none=>simp[ha,Acc.run] at hr
    |some n=>simp only[ha,Acc.run] at hr;obtain⟨o,hx⟩:=aj7 ha;exact go _ _ hx (by simp) (λg hg=>by simp only[bn];exact hsl _ _ _ g hg (λh=>by cases h)) hr
def adp{h:View}{b:Nat}:∀{r:Row} {o k:Nat} {x:D},zU h r b o->r[k]? =some x->∃g,h b (o+k)=some g/\ro h x g
 |[],_,_,_,_,hk=>by simp at hk
 |y::r,o,0,x,q,hk=>by simp only[zU] at q;simp at hk;subst hk;simpa using q.1
 |y::r,o,k+1,x,q,hk=>by
  simp only[zU] at q;have:=adp q.2 (by simpa using hk)
  rwa [show o+(k+1)=o+1+k from by omega]
def aeJ{h:View}:∀{r:Row} {cs:List Value} {k:Nat} {x:D},ji h r cs->r[k]? =some x->∃g,cs[k]? =some g/\ro h x g
 |[],_,_,_,_,hk=>by simp at hk
 |y::r,cs,0,x,⟨v,cs',e,h1,h2⟩,hk=>by simp at hk;subst hk;subst e;exact⟨v,rfl,h1⟩
 |y::r,cs,k+1,x,⟨v,cs',e,h1,h2⟩,hk=>by subst e;simpa using aeJ h2 (by simpa using hk)
def akd{H:Heap}{h:View}:∀{r:Row} {cs:List Value} {N:List Nat} {k:Nat} {x:D},jU H h r cs N->r[k]? =some x->∃g N1,cs[k]? =some g/\ow H h x g N1
 |[],_,_,_,_,_,hk=>by simp at hk
 |y::r,cs,N,0,x,q,hk=>by obtain⟨v,cs',N1,N2,rfl,rfl,h1,h2⟩:=MN q;simp at hk;subst hk;exact⟨v,N1,rfl,h1⟩
 |y::r,cs,N,k+1,x,q,hk=>by obtain⟨v,cs',N1,N2,rfl,rfl,h1,h2⟩:=MN q;simpa using akd h2 (by simpa using hk)
def MO{h:View}{s b:Nat}:∀{rs:List Row} {o k:Nat} {r:Row},rP h s rs b o->rs[k]? =some r->r.length=s/\zU h r b (o+k * s)
 |[],_,_,_,_,hk=>by simp at hk
 |y::rs,o,0,x,q,hk=>by simp only[rP] at q;simp at hk;subst hk;simpa using⟨q.1,q.2.1⟩
 |y::rs,o,k+1,x,q,hk=>by
  simp only[rP] at q;have:=MO q.2.2 (by simpa using hk)
  rwa [show o+(k+1) * s=o+s+k * s from by rw[Nat.add_mul];omega]
def abZ{h:View}{s:Nat}:∀{rs:List Row} {cs:List Value} {k:Nat} {r:Row},iU h s rs cs->rs[k]? =some r->r.length=s/\ji h r (cs.drop (k * s))
 |[],_,_,_,_,hk=>by simp at hk
 |y::rs,cs,0,x,q,hk=>by simp at hk;subst hk;simpa using⟨q.1,q.2.1⟩
 |y::rs,cs,k+1,x,q,hk=>by
  have:=abZ q.2.2 (by simpa using hk);rw[List.drop_drop] at this
  rwa [show(k+1) * s=s+k * s from by rw[Nat.add_mul];omega]
def agI{H:Heap}{h:View}{s:Nat}:∀{rs:List Row} {cs:List Value} {N:List Nat} {k:Nat} {r:Row},iP H h s rs cs N->rs[k]? =some r->r.length=s/\∃N1,jU H h r (cs.drop (k * s)) N1
 |[],_,_,_,_,_,hk=>by simp at hk
 |y::rs,cs,N,0,x,q,hk=>by simp only[iP] at q;obtain⟨h1,N1,N2,rfl,h2,h3⟩:=q;simp at hk;subst hk;exact⟨h1,N1,by simpa using h2⟩
 |y::rs,cs,N,k+1,x,q,hk=>by
  simp only[iP] at q;obtain⟨h1,N1,N2,rfl,h2,h3⟩:=q;have:=agI h3 (by simpa using hk);rw[List.drop_drop] at this
  rwa [show(k+1) * s=s+k * s from by rw[Nat.add_mul];omega]
def ar4{h:View}{fz fl:Bool}{ver s:Nat}{rows:List Row}{r i:Nat}{row:Row}{N:List Nat}(hq:uz G.μ m (dO w) h r (.arr fz fl ver s rows) N)(hl:h.le (full w))(hi:rows[i]? =some row):
  ∃b o cap,G.μ r=.slice (some ⟨b,o,none⟩) rows.length cap/\(fz=false->o=0)/\row.length=s/\
   ∃Rel:D->Value->Prop,(∀k x,row[k]? =some x->∃g,full w b (o+i * s+k)=some g/\Rel x g)/\
   (∀k n g,Rel (.int k n) g->g=.int k n)/\(∀b g,Rel (.bool b) g->g=.bool b)/\(∀s g,Rel (.str s) g->g=.string ⟨⟨s⟩⟩)/\
   (∀o s rs g,Rel (.sl o s rs) g->(o=false\/rs=[])->ro h (.sl false s rs) g):=by
 have hne:rows≠[]:=by intro e;subst e;simp at hi
 cases fz with
 |true=>
  obtain⟨h1,_⟩:=hq;simp only[ro] at h1;obtain⟨a,cap,h2,h3,h4⟩:=h1;obtain⟨b,o,rfl,h5⟩:=h4 hne;obtain⟨h6,h7⟩:=MO h5 hi;refine⟨b,o,cap,h2,by simp,h6,ro h,λk x hk=> ?_, ?_, ?_, ?_, ?_⟩
  ·obtain⟨g,hg1,hg2⟩:=adp h7 hk;exact⟨g,hl _ _ _ hg1,hg2⟩
  ·intro k n g hg;simpa[ro] using hg
  ·intro b g hg;simpa[ro] using hg
  ·intro s g hg;simpa[ro] using hg
  ·intro o s rs g hg _;exact aaW hg
 |false=>
  simp only[uz] at hq;rcases hq with⟨rfl,_,_⟩|⟨b,cap,cs,t,N',h1,h2,h3,h4,h5,_⟩
  ·exact absurd rfl hne
  ·have hfull:∀k g,(cs.toList.drop (i * s))[k]? =some g->full w b (0+i * s+k)=some g:=by intro k g hg;rw[List.getElem?_drop] at hg;rw[full_cell h3,Nat.zero_add];exact hg
   cases fl with
   |true=>
    obtain⟨h6,h7⟩:=abZ h5.1 hi;refine⟨b,0,cap,h1,by simp,h6,ro h,λk x hk=> ?_, ?_, ?_, ?_, ?_⟩
    ·obtain⟨g,hg1,hg2⟩:=aeJ h7 hk;exact⟨g,hfull k g hg1,hg2⟩
    ·intro k n g hg;simpa[ro] using hg
    ·intro b g hg;simpa[ro] using hg
    ·intro s g hg;simpa[ro] using hg
    ·intro o s rs g hg _;exact aaW hg
   |false=>
    obtain⟨h6,N1,h7⟩:=agI h5 hi;refine⟨b,0,cap,h1,by simp,h6,λx g=>∃N,ow (dO w) h x g N,λk x hk=> ?_, ?_, ?_, ?_, ?_⟩
    ·obtain⟨g,N2,hg1,hg2⟩:=akd h7 hk;exact⟨g,hfull k g hg1,N2,hg2⟩
    ·rintro k n g ⟨N,hg⟩;simp only[ow] at hg;exact hg.1
    ·rintro b g ⟨N,hg⟩;simp only[ow] at hg;exact hg.1
    ·rintro s g ⟨N,hg⟩;simp only[ow] at hg;exact hg.1
    ·rintro o s rs g ⟨N,hg⟩ ho;cases o with
     |false=>simp only[ow] at hg;exact hg.2
     |true=>
      rcases ho with ho|rfl
      ·cases ho
      ·simp only[ow] at hg;rcases hg with⟨_,rfl,_⟩|⟨b,cap,cs,t,N',e1,e2,_⟩
       ·simp[ro]
       ·simp only[ro];exact⟨_,cap,e1,by simp,λe=>absurd rfl e⟩
def avj(hA:At base U M0 w0 w m G){t:TypeId}{a:V}{ga:Value}(ha:bn G.μ m (Gh U w G) a ga){v:V}{l l':Log}(h:(au8 P t a).run m l=some (v,m',l')):
  ∃g,(Instr.loadAt t ga).run P w=.ok g w/\m'=m/\bn G.μ m (Gh U w G) v g:=by
 simp only[au8] at h;replace h:=ay h;obtain⟨_,m1,l1,h1,h⟩:=h;obtain⟨hok,rfl,rfl⟩:=gV h1;simp only[wo] at hok;obtain⟨hok,hsz⟩:=hok;have hsz:=Ia hsz;cases a with
 |ptr r off=>
  simp only at h;replace h:=ay h;obtain⟨c,m2,l2,h2,h⟩:=h;rw[Bo] at h2;cases h2;cases hc:get r m1 with
  |none=>rw[hc] at h;exact aN h
  |some c=>
   rw[hc] at h;cases c with
   |box T cs=>
    simp only at h;replace h:=ay h;obtain⟨_,m2,l2,h2,h⟩:=h;obtain⟨hfit,rfl,rfl⟩:=gV h2;obtain⟨hv,rfl,rfl⟩:=lV h;simp only[bn,hc] at ha;obtain⟨_,b,hμ,rfl⟩:=ha;obtain⟨b',arr,e1,e2,e3,e4⟩:=hA.ok.cell r _ hc (by rw[hA.out];simp);rw[hμ] at e1;cases e1;have hp:=agH off (uw P t) e3;have hlen:arr.size=cs.length:=by simpa using kE e3
    have hfit:=Nat.le_of_ble_eq_true hfit;obtain⟨g,hg⟩:=ar2 hv hp;refine⟨g,WU hok (by simp;omega) ?_ hg,rfl,TW hv hp hg⟩;intro j x hj;have hj':j<uw P t:=by have:=(Qm.1 hj).1;simp at this;omega
    rw[List.getElem?_take,if_pos hj',List.getElem?_drop] at hj;have:=full_cell (w:=w) e2 (off+j);rw[hj] at this;exact this
   |_=>exact aN h
 |F8 row off=>
  simp only at h;simp only[bn] at ha;obtain⟨b,o,rfl,hrow⟩:=ha;obtain⟨vs,cs,h2,h3,h4,h5⟩:=ado (m:=m1) (μ:=G.μ) (h:=Gh U w G) (λk=>Gh U w G b (o+k)) (ro (Gh U w G)) (λk x hk=>adp hrow hk)
   (λk n g hg=>by simpa[ro] using hg) (λb g hg=>by simpa[ro] using hg) (λs g hg=>by simpa[ro] using hg) (λ_ s rs g hg _=>aaW hg) _ _ _ _ _ _ h
  obtain⟨hv,rfl,rfl⟩:=lV h2;obtain⟨g,hg⟩:=ar2 hv h4;refine⟨g,WU hok (by rw[h3,hsz]) ?_ hg,rfl,TW hv h4 hg⟩;intro j x hj;have:=h5 j x hj;rw[Nat.add_assoc];exact BL _ _ _ _ _ _ this
 |JI r ver i off=>
  simp only at h;replace h:=ay h;obtain⟨c,m2,l2,h2,h⟩:=h;rw[Bo] at h2;cases h2;cases hc:get r m1 with
  |none=>rw[hc] at h;exact aN h
  |some c=>
   rw[hc] at h;cases c with
   |arr fz fl tZ s rows=>simp only at h;replace h:=ay h;obtain⟨_,m2,l2,h2,h⟩:=h;obtain⟨hb,rfl,rfl⟩:=gV h2;have hb:=Ia hb;subst hb;replace h:=ay h;obtain⟨row,m2,l2,h2,h⟩:=h;obtain⟨hrow,rfl,rfl⟩:=lV h2;simp only[bn,hc] at ha;obtain⟨b,n,cap,hμ,rfl⟩:=ha.2.2 trivial;have hcell:=hA.ok.cell r _ hc (by rw[hA.out];simp);obtain⟨b',o,cap',e1,e2,e3,Rel,q1,q2,q3,q4,q5⟩:=ar4 hcell (BL _ _ _) hrow;rw[hμ] at e1;simp only[Value.slice.injEq,lM,Addr.mk.injEq] at e1;obtain⟨⟨rfl,ho,_⟩,_,_⟩:=e1;subst ho;obtain⟨vs,cs,h2,h3,h4,h5⟩:=ado (m:=_) (μ:=G.μ) (h:=Gh U w G) (λk=>full w b (0+i * s+k)) Rel q1 q2 q3 q4 (λo s rs g hg hs=>q5 o s rs g hg (hs rfl)) _ _ _ _ _ _ h;obtain⟨hv,rfl,rfl⟩:=lV h2;obtain⟨g,hg⟩:=ar2 hv h4;refine⟨g,WU hok (by rw[h3,hsz]) ?_ hg,rfl,TW hv h4 hg⟩;intro j x hj;have:=h5 j x hj;rw[show i * s+off+j=0+i * s+(off+j) from by omega];exact this
   |_=>exact aN h
 |_=>exact aN h
def uF{μ:Nat->Value}{h:View}{v:V}{g:Value}(h1:one v=true)(q:bn μ m h v g):g.oneCell'=true:=by
 cases v with
 |d x=>simp only[bn] at q;exact Vl q
 |nil s=>simp only[bn] at q;subst q;rfl
 |own _ _=>simp only[bn] at q;obtain⟨⟨a,n,c,rfl⟩,_⟩:=q;rfl
 |ptr _ _=>simp only[bn] at q;obtain⟨⟨b,o,rfl⟩,_⟩:=q;rfl
 |JI _ _ _ _=>simp only[bn] at q;obtain⟨⟨b,o,rfl⟩,_⟩:=q;rfl
 |F8 _ _=>simp only[bn] at q;obtain⟨b,o,rfl,_⟩:=q;rfl
 |clo _ _ _=>simp only[bn] at q;obtain⟨a,c,rfl,_⟩:=q;rfl
 |agg _=>simp[one] at h1
 |XH _=>simp[one] at h1
 |undef=>simp[one] at h1
def cells_one{g:Value}(h:g.oneCell'=true):g.cells=#[g]:=by cases g<;>first|rfl|simp[Value.oneCell'] at h
def ake{μ:Nat->Value}{h:View}:∀{vs:List V} {gs:List Value},vs.all one=true->dh μ m h vs gs->∀x∈gs,x.oneCell'=true
 |[],gs,_,q=>by simp only[dh] at q;subst q;simp
 |v::vs,gs,h1,q=>by
  obtain⟨g,gs',rfl,q1,q2⟩:=uD q;simp only[List.all_cons,wo] at h1;intro x hx;simp only[List.mem_cons] at hx;rcases hx with rfl|hx
  ·exact uF h1.1 q1
  ·exact ake h1.2 q2 x hx
def cells_ok{μ:Nat->Value}{h:View}{v:V}{g:Value}(h1:v.cells.all one=true)(q:bn μ m h v g):dh μ m h v.cells g.cells.toList/\∀x∈g.cells.toList,x.oneCell'=true:=by
 have single:one v=true->v.cells=[v]->dh μ m h v.cells g.cells.toList/\∀x∈g.cells.toList,x.oneCell'=true:=by intro ho hv;have:=uF ho q;rw[cells_one this,hv];exact⟨by simp only[dh];exact⟨g,[],rfl,q,rfl⟩,by simpa using this⟩
 cases v with
 |agg cs=>simp only[bn] at q;obtain⟨a,rfl,q⟩:=q;exact⟨q,ake h1 q⟩
 |XH _=>simp[V.cells,one] at h1
 |undef=>simp[V.cells,one] at h1
 |_=>exact single rfl rfl
def akf{μ:Nat->Value}{h:View}(c:CT)(g:Value):bn μ m h (alv c g) g:=by unfold alv;split<;>simp[bn,ro]
def WW{μ:Nat->Value}{h:View}:∀(cs:List CT) (gs:List Value),dh μ m h (SI cs gs) gs
 |[],[]=>by simp[SI,dh]
 |_::_,[]=>by simp[SI,dh]
 |[],g::gs=>by simp only[SI,dh];exact⟨g,gs,rfl,by simp[bn],WW [] gs⟩
 |c::cs,g::gs=>by simp only[SI,dh];exact⟨g,gs,rfl,akf c g,WW cs gs⟩
def aHS{μ:Nat->Value}{h:View}(t:TypeId)(g:Value):bn μ m h (cv P t g) g:=by
 unfold cv;split
 ·simp only[bn];exact⟨_,rfl,WW _ _⟩
 ·split
  ·exact akf _ _
  ·simp[bn]
def ab1(μ:Nat->Value)(m:Mem)(h:View)(tm:lX)(a:Act):Prop:=∀t v,get t tm=some v->t<a.tmps.size/\bn μ m h v (a.tmps.getD t undef)
def Yw{μ:Nat->Value}{h:View}{tm:lX}{a:Act}(hT:ab1 μ m h tm a)(t:TypeId)(x:Operand):bn μ m h (ev P tm t x) (a.eval x):=by
 cases x with
 |tmp i=>
  simp only[ev,ZV];cases hg:get i tm with
  |none=>simp[bn]
  |some v=>exact(hT i v hg).2
 |const v=>exact aHS t v
 |global g=>simp[ev,bn]
 |func f=>simp only[ev,bn];exact⟨#[],#[],rfl,by simp[dh],by simp[dh]⟩
def akg{μ:Nat->Value}{h:View}{tm:lX}{a:Act}(hT:ab1 μ m h tm a):∀(xs:List Operand) (ts:List TypeId),dh μ m h (zk P tm xs ts) (xs.map a.eval)
 |[],_=>by simp[zk,dh]
 |x::xs,ts=>by simp only[zk,dh,zmc];exact⟨_,_,rfl,Yw hT _ x,akg hT xs _⟩
def Ub{μ:Nat->Value}{h:View}{t:TypeId}{z:List V}(hz:UM P t=some z):∃i zv,P.info? t=some i/\i.zero=some zv/\dh μ m h z zv.cells.toList:=by
 unfold UM at hz;cases hi:P.info? t with
 |none=>simp[hi] at hz
 |some i=>
  simp only[hi] at hz;cases hzv:i.zero with
  |none=>simp[hzv] at hz
  |some zv=>simp only[hzv,lM] at hz;subst hz;exact⟨i,zv,rfl,hzv,WW _ _⟩
def Hu.rewrite(hg:Hu base U w m G)(ho:G.out=[])(hfr:Fr M0 w0 w G){r:Nat}{c c':Cell}{μ':Nat->Value}{N:List Nat}(hc:get r m=some c)(hk:Keep (G.F r) w w')(hN:N.Nodup)
  (hNs:∀b,b∈N->(b∈G.F r\/b∈G.E\/w.heap.size<=b)/\b<w'.heap.size) (hμ:∀k,k≠r->μ' k=G.μ k) (hle:ML G.μ μ' r c c')
  (hcell:∀h':View,(Gh U w G).le h'->Jc G.μ m μ' (put r c' m)->(∀k,k∈G.E->k ∉ N->adi h' (dO w) [k])->uz μ' (put r c' m) (dO w') h' r c' N):
  Nx base U M0 w0 w m G w' (put r c' m) ⟨μ',upF G.F r N,[],[]⟩:=by
 have hro:r ∉ G.out:=by rw[ho];simp
 obtain⟨k1,k2⟩:=hg.aDG hc hro;have hk':Keep (G.E++G.F r) w w':=⟨hk.os,hk.tape,hk.output,hk.size,λb hb hn=>hk.block b hb (λh=>hn (by simp[h]))⟩
 obtain⟨q1,q2⟩:=Hu.world k1 hk' (E':=N) hN (λb hb=>by
  have:=hNs b hb;refine⟨?_,this.2⟩;rcases this.1 with h|h|h
  ·left;simp[h]
  ·left;simp[h]
  ·exact .inr h)
 have hup:upF (upF G.F r []) r N=upF G.F r N:=by
  funext k
  by_cases e:k=r
  ·subst e;simp
  ·simp[kY _ e]
 have hml:Jc G.μ m μ' (put r c' m):=JL hμ (λc0 h0=>by rw[hc] at h0;cases h0;exact hle);have hset:=Hu.set (U:=U) (w:=w') q1 r c' μ' N [] [] (by simpa using hN) (by simp) hml hμ (λk hkr=>by simp[ho,hkr]) (by simp)
  (λhv _=>hcell _ (k2.view.trans' (q2.trans' hv)) hml (λk hkE hkN b hb cs t fr hH o v hv=>by
   simp only[List.mem_singleton] at hb;subst hb;have hbF:∀j,b ∉ G.F j:=λj hj=>hg.djE j b hj hkE
   have hlt:=hg.lt b (.inl hkE);have hsame:dO w' b=dO w b:=hk.block b hlt.1 (hbF r);refine TJ (w:=w') (N:=[b]) (λx hx=> ?_) b (by simp) cs t fr (hsame.trans hH) o v hv;simp only[List.mem_singleton] at hx;subst hx;refine⟨hlt.2.2, ?_⟩;rintro(h|⟨j,h⟩)
   ·simp at h
   ·rw[hup] at h
    by_cases e:j=r
    ·subst e;rw[GU] at h;exact hkN h
    ·rw[kY _ e] at h;exact hbF j h))
 simp only[hup] at hset;obtain⟨s1,s2⟩:=hset;refine⟨s1,rfl,rfl,hml,k2.view.trans' (q2.trans' s2.view), ?_⟩;refine⟨hfr.keep.trans hk (λx hx=>hfr.fr x (.inr ⟨r,hx⟩)), ?_⟩;rintro b (hb|⟨k,hb⟩)
 ·simp at hb
 ·by_cases e:k=r
  ·subst e;simp only[GU] at hb;rcases(hNs b hb).1 with h|h|h
   ·exact hfr.fr b (.inr ⟨_,h⟩)
   ·exact hfr.fr b (.inl h)
   ·exact .inr (Nat.le_trans hfr.keep.size h)
  ·simp only[kY _ e] at hb;exact hfr.fr b (.inr ⟨k,hb⟩)
def At.rewrite(hA:At base U M0 w0 w m G){r:Nat}{c c':Cell}{μ':Nat->Value}{N:List Nat}(hc:get r m=some c)(hk:Keep (G.F r) w w')(hN:N.Nodup)
  (hNs:∀b,b∈N->(b∈G.F r\/w.heap.size<=b)/\b<w'.heap.size) (hμ:∀k,k≠r->μ' k=G.μ k) (hle:ML G.μ μ' r c c')
  (hcell:∀h':View,(Gh U w G).le h'->Jc G.μ m μ' (put r c' m)->uz μ' (put r c' m) (dO w') h' r c' N):
  Nx base U M0 w0 w m G w' (put r c' m) ⟨μ',upF G.F r N,[],[]⟩:=
 hA.ok.rewrite hA.out hA.fr hc hk hN (λb hb=>⟨(hNs b hb).1.imp id .inr,(hNs b hb).2⟩) hμ hle (λh' h1 h2 _=>hcell h' h1 h2)
def Nx.after{G1:GS}{m1:Mem}(hl:ZI m G m1 G1)(h:Nx base U M0 w0 w m1 G1 w' m' G'):Nx base U M0 w0 w m G w' m' G':=
 ⟨h.ok,h.E,h.out,zy hl.mem h.mem,hl.view.trans' h.view,h.fr⟩
def Yx{b:Nat}{cs:Array Value}{M:List Nat}(hb:b∈M):Keep M w (w.setRow b cs):=
 ⟨rfl,rfl,rfl,by simp[World.setRow],λk _ hk=>setRow_other w b k cs (λe=>hk (e ▸ hb))⟩
def aa0{o:Obj}{M:List Nat}:Keep M w (w.alloc o):=⟨rfl,rfl,rfl,by simp,λk hk _=>heap_alloc_old w o k hk⟩
def adq{M:List Nat}:Keep M w w.drew:=⟨rfl,rfl,rfl,Nat.le_refl _,λ_ _ _=>rfl⟩
def Uc{H:Heap}{h:View}:∀{r:Row} {cs cs':List Value} {N:List Nat},cs.take r.length=cs'.take r.length->jU H h r cs N->jU H h r cs' N
 |[],_,_,_,_,q=>by simpa[jU] using q
 |x::r,cs,cs',N,e,q=>by
  obtain⟨v,cs1,N1,N2,rfl,rfl,h1,h2⟩:=MN q;cases cs' with
  |nil=>simp at e
  |cons v' aEL=>simp only[ZE,List.take_succ_cons,List.cons.injEq] at e;obtain⟨rfl,e⟩:=e;simp only[jU];exact⟨v,aEL,N1,N2,rfl,rfl,h1,Uc e h2⟩
def JM{H:Heap}{h:View}:∀{a b:Row} {cs:List Value} {N:List Nat},jU H h (a++b) cs N↔∃N1 N2,N=N1++N2/\jU H h a cs N1/\jU H h b (cs.drop a.length) N2
 |[],b,cs,N=>by
  simp only[List.nil_append,jU,zln,List.drop_zero];constructor
  ·intro q;exact⟨[],N,rfl,rfl,q⟩
  ·rintro⟨N1,N2,rfl,rfl,q⟩;simpa using q
 |x::a,b,cs,N=>by
  simp only[zca,jU];constructor
  ·rintro⟨v,cs',N1,N2,rfl,rfl,h1,h2⟩;obtain⟨N3,N4,rfl,h3,h4⟩:=JM.1 h2;exact⟨N1++N3,N4,by simp,⟨v,cs',N1,N3,rfl,rfl,h1,h3⟩,by simpa using h4⟩
  ·rintro⟨N1,N2,rfl,⟨v,cs',N3,N4,rfl,rfl,h1,h3⟩,h4⟩;exact⟨v,cs',N3,N4++N2,rfl,by simp,h1,JM.2 ⟨N4,N2,rfl,h3,by simpa using h4⟩⟩
def agJ{H:Heap}{h:View}:∀{r:Row} {cs:List Value} {N:List Nat},jU H h r cs N->r.length<=cs.length
 |[],_,_,_=>by simp
 |x::r,cs,N,q=>by obtain⟨v,cs',N1,N2,rfl,rfl,_,h2⟩:=MN q;have:=agJ h2;simp;omega
def Qp{α:Type}{l xs:List α}{o:Nat}(h:o+xs.length<=l.length):(splice l o xs).length=l.length:=by simp[splice];omega
def alH{H:Heap}{h:View}{row xs:Row}{cs gs:List Value}{N N1:List Nat}{o:Nat}(q:jU H h row cs N)(q1:jU H h xs gs N1)(hl:xs.length=gs.length)(ho:o+xs.length<=row.length):
  ∃N' Dr,jU H h (splice row o xs) (splice cs o gs) N'/\(N'++Dr).Perm (N++N1):=by
 have hrow:row=row.take o++((row.drop o).take xs.length++row.drop (o+xs.length)):=by rw[<-List.drop_drop,List.take_append_drop,List.take_append_drop]
 have hcl:=agJ q;rw[hrow] at q;obtain⟨Na,Nb,rfl,qa,qb⟩:=JM.1 q;obtain⟨Nc,Nd,rfl,qc,qd⟩:=JM.1 qb;have l1:(row.take o).length=o:=by simp;omega
 have l2:((row.drop o).take xs.length).length=xs.length:=by simp;omega
 rw[l1,List.drop_drop,l2] at qd;refine⟨Na++(N1++Nd),Nc, ?_, ?_⟩
 ·have e:splice row o xs=row.take o++(xs++row.drop (o+xs.length)):=by simp[splice]
  rw[e];refine JM.2 ⟨Na,N1++Nd,rfl, ?_, ?_⟩
  ·refine Uc ?_ qa;rw[l1];simp only[splice,VN];rw[List.take_append_of_le_length (by simp;omega)];rw[List.take_take];congr 1;omega
  ·rw[l1];have hd:(splice cs o gs).drop o=gs++cs.drop (o+gs.length):=by
    simp only[splice,VN];rw[List.drop_append_of_le_length (by simp;omega)];have:(cs.take o).drop o=[]:=by simp
    rw[this];rfl
   rw[hd];refine JM.2 ⟨N1,Nd,rfl, ?_, ?_⟩
   ·refine Uc ?_ q1;rw[hl];simp
   ·rw[hl];rw[hl] at qd;simpa using qd
 ·simp only[VN];refine List.Perm.append_left Na ?_;have h1:(N1++(Nd++Nc)).Perm ((Nd++Nc)++N1):=List.perm_append_comm;have h2:((Nd++Nc)++N1).Perm ((Nc++Nd)++N1):=List.Perm.append_right N1 List.perm_append_comm;simpa using h1.trans h2
def UU{H:Heap}{h:View}{s:Nat}:∀{rs:List Row} {cs cs':List Value} {N:List Nat},cs.take (rs.length * s)=cs'.take (rs.length * s)->iP H h s rs cs N->iP H h s rs cs' N
 |[],_,_,_,_,q=>by simpa[iP] using q
 |r::rs,cs,cs',N,e,q=>by
  simp only[iP] at q|-;obtain⟨h1,N1,N2,rfl,h2,h3⟩:=q;have hs:(r::rs).length * s=s+rs.length * s:=by simp[Nat.add_mul];omega
  rw[hs] at e;refine⟨h1,N1,N2,rfl,Uc ?_ h2,UU ?_ h3⟩
  ·rw[h1];have:=congrArg (List.take s) e;simpa[List.take_take,Nat.min_eq_left] using this
  ·have:=congrArg (List.drop s) e;simpa[List.drop_take] using this
def KW{H:Heap}{h:View}{s:Nat}:∀{a b:List Row} {cs:List Value} {N:List Nat},iP H h s (a++b) cs N↔∃N1 N2,N=N1++N2/\iP H h s a cs N1/\iP H h s b (cs.drop (a.length * s)) N2
 |[],b,cs,N=>by
  simp only[List.nil_append,iP,zln,Nat.zero_mul,List.drop_zero];constructor
  ·intro q;exact⟨[],N,rfl,rfl,q⟩
  ·rintro⟨N1,N2,rfl,rfl,q⟩;simpa using q
 |x::a,b,cs,N=>by
  have hs:(x::a).length * s=s+a.length * s:=by simp[Nat.add_mul];omega
  simp only[zca,iP,hs];constructor
  ·rintro⟨h0,N1,N2,rfl,h1,h2⟩;obtain⟨N3,N4,rfl,h3,h4⟩:=KW.1 h2;exact⟨N1++N3,N4,by simp,⟨h0,N1,N3,rfl,h1,h3⟩,by simpa using h4⟩
  ·rintro⟨N1,N2,rfl,⟨h0,N3,N4,rfl,h1,h3⟩,h4⟩;exact⟨h0,N3,N4++N2,by simp,h1,KW.2 ⟨N4,N2,rfl,h3,by simpa using h4⟩⟩
def NK{h:View}:∀{r:Row} {cs cs':List Value},cs.take r.length=cs'.take r.length->ji h r cs->ji h r cs'
 |[],_,_,_,_=>trivial
 |x::r,cs,cs',e,⟨v,cs1,e1,h1,h2⟩=>by
  subst e1;cases cs' with
  |nil=>simp at e
  |cons v' aEL=>simp only[ZE,List.take_succ_cons,List.cons.injEq] at e;obtain⟨rfl,e⟩:=e;exact⟨v,aEL,rfl,h1,NK e h2⟩
def Et{h:View}:∀{a b:Row} {cs:List Value},ji h (a++b) cs↔ji h a cs/\ji h b (cs.drop a.length)
 |[],b,cs=>by simp[ji]
 |x::a,b,cs=>by
  simp only[zca,ji];constructor
  ·rintro⟨v,cs',rfl,h1,h2⟩;obtain⟨h3,h4⟩:=Et.1 h2;exact⟨⟨v,cs',rfl,h1,h3⟩,by simpa using h4⟩
  ·rintro⟨⟨v,cs',rfl,h1,h3⟩,h4⟩;exact⟨v,cs',rfl,h1,Et.2 ⟨h3,by simpa using h4⟩⟩
def aa1{h:View}:∀{r:Row} {cs:List Value},ji h r cs->r.length<=cs.length
 |[],_,_=>by simp
 |x::r,cs,⟨v,cs',e,_,h2⟩=>by subst e;have:=aa1 h2;simp;omega
def agK{h:View}{row xs:Row}{cs gs:List Value}{o:Nat}(q:ji h row cs)(q1:ji h xs gs)(hl:xs.length=gs.length)(ho:o+xs.length<=row.length):ji h (splice row o xs) (splice cs o gs):=by
 have hrow:row=row.take o++((row.drop o).take xs.length++row.drop (o+xs.length)):=by rw[<-List.drop_drop,List.take_append_drop,List.take_append_drop]
 have hcl:=aa1 q;rw[hrow] at q;obtain⟨qa,qb⟩:=Et.1 q;obtain⟨qc,qd⟩:=Et.1 qb;have l1:(row.take o).length=o:=by simp;omega
 have l2:((row.drop o).take xs.length).length=xs.length:=by simp;omega
 rw[l1,List.drop_drop,l2] at qd;have e:splice row o xs=row.take o++(xs++row.drop (o+xs.length)):=by simp[splice]
 rw[e];refine Et.2 ⟨?_, ?_⟩
 ·refine NK ?_ qa;rw[l1];simp only[splice,VN];rw[List.take_append_of_le_length (by simp;omega)];rw[List.take_take];congr 1;omega
 ·rw[l1];have hd:(splice cs o gs).drop o=gs++cs.drop (o+gs.length):=by
   simp only[splice,VN];rw[List.drop_append_of_le_length (by simp;omega)];have:(cs.take o).drop o=[]:=by simp
   rw[this];rfl
  rw[hd];refine Et.2 ⟨NK (by rw[hl];simp) q1, ?_⟩;rw[hl];rw[hl] at qd;simpa using qd
def Qq{h:View}{s:Nat}:∀{rs:List Row} {cs cs':List Value},cs.take (rs.length * s)=cs'.take (rs.length * s)->iU h s rs cs->iU h s rs cs'
 |[],_,_,_,_=>trivial
 |r::rs,cs,cs',e,⟨h1,h2,h3⟩=>by
  have hs:(r::rs).length * s=s+rs.length * s:=by simp[Nat.add_mul];omega
  rw[hs] at e;refine⟨h1,NK ?_ h2,Qq ?_ h3⟩
  ·rw[h1];have:=congrArg (List.take s) e;simpa[List.take_take,Nat.min_eq_left] using this
  ·have:=congrArg (List.drop s) e;simpa[List.drop_take] using this
def Lp{h:View}{s:Nat}:∀{a b:List Row} {cs:List Value},iU h s (a++b) cs↔iU h s a cs/\iU h s b (cs.drop (a.length * s))
 |[],b,cs=>by simp[iU]
 |x::a,b,cs=>by
  have hs:(x::a).length * s=s+a.length * s:=by simp[Nat.add_mul];omega
  simp only[zca,iU,hs];rw[Lp,List.drop_drop];constructor
  ·rintro⟨h0,h1,h2,h3⟩;exact⟨⟨h0,h1,h2⟩,h3⟩
  ·rintro⟨⟨h0,h1,h2⟩,h3⟩;exact⟨h0,h1,h2,h3⟩
def aeK{α:Type}{l:List α}{i:Nat}{a b:α}(h:l[i]? =some a):l.set i b=l.take i++(b::l.drop (i+1))/\l=l.take i++(a::l.drop (i+1)):=by
 have hi:=(Qm.1 h).1;have ha:=(Qm.1 h).2;refine⟨?_, ?_⟩
 ·rw[List.set_eq_take_append_cons_drop,if_pos hi]
 ·rw[<-ha,List.getElem_cons_drop,List.take_append_drop]
def aqL{H:Heap}{h:View}{s i o:Nat}{rows:List Row}{row xs:Row}{cs gs:List Value}{N N1:List Nat}(q:iP H h s rows cs N)(hi:rows[i]? =some row)(q1:jU H h xs gs N1)(hl:xs.length=gs.length)(ho:o+xs.length<=s):
  ∃N' Dr,iP H h s (rows.set i (splice row o xs)) (splice cs (i * s+o) gs) N'/\(N'++Dr).Perm (N++N1):=by
 obtain⟨e1,e2⟩:=aeK (b:=splice row o xs) hi;have hil:=(Qm.1 hi).1;rw[e2] at q;obtain⟨Na,Nb,rfl,qa,qb⟩:=KW.1 q;have l1:(rows.take i).length=i:=by simp;omega
 rw[l1] at qb;simp only[iP] at qb;obtain⟨h0,Nc,Nd,rfl,qc,qd⟩:=qb;have hcl:=agJ qc;simp only[List.length_drop] at hcl;obtain⟨N',Dr,qe,hp⟩:=alH (o:=o) qc q1 hl ak;have aqM:(splice row o xs).length=s:=by rw[Qp (l:=row) (xs:=xs) (o:=o) ak];exact h0
 have his:i * s<=cs.length:=by
  rcases Nat.eq_zero_or_pos s with e|e
  ·rw[e];simp
  ·omega
 refine⟨Na++(N'++Nd),Dr, ?_, ?_⟩
 ·rw[e1];refine KW.2 ⟨Na,N'++Nd,rfl, ?_, ?_⟩
  ·refine UU ?_ qa;rw[l1];simp only[splice,VN];rw[List.take_append_of_le_length (by simp;omega),List.take_take];congr 1;omega
  ·rw[l1];have hd:(splice cs (i * s+o) gs).drop (i * s)=splice (cs.drop (i * s)) o gs:=by simp only[splice];rw[VN,List.drop_append_of_le_length (by simp;omega),List.drop_take,List.drop_drop];rw[show i * s+o - i * s=o from by omega,VN,Nat.add_assoc]
   simp only[iP,hd];refine⟨aqM,N',Nd,rfl,qe, ?_⟩;have hd2:(splice (cs.drop (i * s)) o gs).drop s=(cs.drop (i * s)).drop s:=by simp only[splice];rw[List.drop_append,List.drop_eq_nil_of_le (by simp;omega)];simp only[List.nil_append,List.drop_drop,PD,zlt,List.length_drop];congr 1;omega
   rw[hd2];exact qd
 ·simp only[VN];refine List.Perm.append_left Na ?_;have h1:(N'++(Nd++Dr)).Perm (N'++(Dr++Nd)):=List.Perm.append_left N' List.perm_append_comm;have h2:((N'++Dr)++Nd).Perm ((Nc++N1)++Nd):=List.Perm.append_right Nd hp;have h3:(Nc++(N1++Nd)).Perm (Nc++(Nd++N1)):=List.Perm.append_left Nc List.perm_append_comm;have h2':(N'++(Dr++Nd)).Perm (Nc++(N1++Nd)):=by simpa using h2
  exact h1.trans (h2'.trans h3)
def alI{h:View}{s i o:Nat}{rows:List Row}{row xs:Row}{cs gs:List Value}(q:iU h s rows cs)(hi:rows[i]? =some row)(q1:ji h xs gs)(hl:xs.length=gs.length)(ho:o+xs.length<=s):
  iU h s (rows.set i (splice row o xs)) (splice cs (i * s+o) gs):=by
 obtain⟨e1,e2⟩:=aeK (b:=splice row o xs) hi;have hil:=(Qm.1 hi).1;rw[e2] at q;obtain⟨qa,qb⟩:=Lp.1 q;have l1:(rows.take i).length=i:=by simp;omega
 rw[l1] at qb;obtain⟨h0,qc,qd⟩:=qb;have hcl:=aa1 qc;simp only[List.length_drop] at hcl;have qe:=agK (o:=o) qc q1 hl ak;have aqM:(splice row o xs).length=s:=by rw[Qp (l:=row) (xs:=xs) (o:=o) ak];exact h0
 have his:i * s<=cs.length:=by
  rcases Nat.eq_zero_or_pos s with e|e
  ·rw[e];simp
  ·omega
 rw[e1];refine Lp.2 ⟨?_, ?_⟩
 ·refine Qq ?_ qa;rw[l1];simp only[splice,VN];rw[List.take_append_of_le_length (by simp;omega),List.take_take];congr 1;omega
 ·rw[l1];have hd:(splice cs (i * s+o) gs).drop (i * s)=splice (cs.drop (i * s)) o gs:=by simp only[splice];rw[VN,List.drop_append_of_le_length (by simp;omega),List.drop_take,List.drop_drop];rw[show i * s+o - i * s=o from by omega,VN,Nat.add_assoc]
  rw[hd];refine⟨aqM,qe, ?_⟩;have hd2:(splice (cs.drop (i * s)) o gs).drop s=(cs.drop (i * s)).drop s:=by simp only[splice];rw[List.drop_append,List.drop_eq_nil_of_le (by simp;omega)];simp only[List.nil_append,List.drop_drop,PD,zlt,List.length_drop];congr 1;omega
  rw[hd2];exact qd
def At.took(hA:At base U M0 w0 w m G){N:List Nat}(ht:Ny base U w m G m' G' N):G'.E=N/\G'.out=[]/\Fr M0 w0 w G':=
 ⟨by rw[ht.E,hA.E];rfl,ht.out.trans hA.out,hA.fr.less ht.le.ex⟩
def as8(hA:At base U M0 w0 w m G){t:TypeId}{a x:V}{ga gx:Value}(ha:bn G.μ m (Gh U w G) a ga)(hx:bn G.μ m (Gh U w G) x gx){u:Unit}{l l':Log}(h:(aqw P t a x).run m l=some (u,m',l')):
  ∃w' G',(Instr.storeAt t ga gx).run P w=.ok () w'/\Nx base U M0 w0 w m G w' m' G':=by
 simp only[aqw] at h;replace h:=ay h;obtain⟨_,m1,l1,h1,h⟩:=h;obtain⟨hok,rfl,rfl⟩:=gV h1;replace h:=ay h;obtain⟨_,m1,l1,h1,h⟩:=h;obtain⟨hlen,rfl,rfl⟩:=gV h1;replace h:=ay h;obtain⟨_,m1,l1,h1,h⟩:=h;obtain⟨hone,rfl,rfl⟩:=gV h1;have hlen:=Ia hlen;obtain⟨hxs,hx1⟩:=cells_ok hone hx;have hgl:gx.cells.size=uw P t:=by rw[<-hlen,<-kE hxs,Array.length_toList]
 cases a with
 |ptr r off=>
  simp only at h;replace h:=ay h;obtain⟨c,m2,l2,h2,h⟩:=h;rw[Bo] at h2;cases h2;cases hc:get r m1 with
  |none=>rw[hc] at h;exact aN h
  |some c=>
   rw[hc] at h;cases c with
   |box T cs=>
    simp only at h;replace h:=ay h;obtain⟨_,m2,l2,h2,h⟩:=h;obtain⟨hfit,rfl,rfl⟩:=gV h2;simp only[bn,hc] at ha;obtain⟨_,b,hμ,rfl⟩:=ha;obtain⟨b',arr,e1,e2,e3,e4⟩:=hA.ok.cell r _ hc (by rw[hA.out];simp);rw[hμ] at e1;cases e1;have hal:arr.size=cs.length:=by simpa using kE e3
    have hfit:=Nat.le_of_ble_eq_true hfit;have hrun:=aeI (P:=P) hok e2 hgl (off:=off) ak hx1;have hb:b∈G.F r:=by rw[e4];simp
    have hnx:=hA.rewrite (c':=.box T (splice cs off x.cells)) (w':=w.setRow b (splice arr.toList off gx.cells.toList).toArray) (μ':=G.μ) (N:=[b]) hc (Yx hb) (by simp) (λk hk=>by
     simp at hk;subst hk;refine⟨.inl hb, ?_⟩;have:=(hA.ok.lt _ (.inr ⟨r,hb⟩)).1;simpa[World.setRow] using this) (λ_ _=>rfl) ⟨rfl,rfl⟩ (λh' hv hml=>by
     refine⟨b,_,hμ,setRow_heap w b arr _ T (0,0) e2, ?_,rfl⟩;have:=WV off e3 hxs;simpa using wz hml hv _ _ this)
    simp only[PN,lM,qU] at h;obtain⟨_,rfl,_⟩:=h;exact⟨_,_,hrun,hnx⟩
   |_=>exact aN h
 |JI r ver i off=>
  simp only at h;replace h:=ay h;obtain⟨xs,m2,l2,h2,h⟩:=h;obtain⟨G1,N1,t1,hrow,hxl⟩:=TT hA.ok hxs hA.out h2;obtain⟨hE1,ho1,anj⟩:=hA.took t1;replace h:=ay h;obtain⟨c,m3,l3,h3,h⟩:=h;rw[Bo] at h3;cases h3;replace ha:=t1.le.bn ha;cases hc:get r m2 with
  |none=>rw[hc] at h;exact aN h
  |some c=>
   rw[hc] at h;cases c with
   |arr fz fl tZ s rows=>
    cases fz with
    |true=>exact aN h
    |false=>
    simp only at h;replace h:=ay h;obtain⟨_,m4,l4,h4,h⟩:=h;obtain⟨hb,rfl,rfl⟩:=gV h4;have hb:=Ia hb;subst hb;replace h:=ay h;obtain⟨_,m4,l4,h4,h⟩:=h;obtain⟨hfit,rfl,rfl⟩:=gV h4;have hfit:=Nat.le_of_ble_eq_true hfit;replace h:=ay h;obtain⟨row,m4,l4,h4,h⟩:=h;obtain⟨hrw,rfl,rfl⟩:=lV h4;simp only[PN,lM,qU] at h;obtain⟨_,rfl,_⟩:=h;simp only[bn,hc] at ha;obtain⟨b,n,cap,hμ,rfl⟩:=ha.2.2 trivial;have hcell:=t1.ok.cell r _ hc (by rw[ho1];simp);have hne:rows≠[]:=by intro e;subst e;simp at hrw
    have hil:=(Qm.1 hrw).1;simp only[uz] at hcell;rcases hcell with⟨e,_,_⟩|⟨b',cap',cs,T,N',k1,k2,k3,k4,k5,k6⟩
    ·exact absurd e hne
    rw[hμ] at k1;simp only[Value.slice.injEq,lM,Addr.mk.injEq] at k1;obtain⟨⟨rfl,_⟩,rfl,rfl⟩:=k1;have hbF:b∈G1.F r:=by rw[k6];simp
    have avk:xs.length=gx.cells.toList.length:=by rw[hxl,kE hxs]
    have hsz:i * s+off+gx.cells.size<=cs.size:=by rw[k4,hgl];have:(i+1) * s<=cap * s:=Nat.mul_le_mul_right s ak;rw[Nat.add_mul] at this;omega
    have hrun:=aeI (P:=P) hok k3 hgl (off:=i * s+off) hsz hx1;have hh:=setRow_heap w b cs (splice cs.toList (i * s+off) gx.cells.toList).toArray T (0,0) k3;have aHT:off+xs.length<=s:=by rw[avk,Array.length_toList,hgl];exact hfit
    have aHU:(splice cs.toList (i * s+off) gx.cells.toList).length=cs.size:=by rw[Qp (by simpa using hsz)];simp
    have key:∃N2,N2.Nodup/\(fl=true->N2=[])/\(∀k,k∈N2->k∈G1.F r\/k∈G1.E)/\∀h':View,(Gh U w G1).le h'->(fl=true->adi h' (dO w) N1)->aaT (dO (w.setRow b (splice cs.toList (i * s+off) gx.cells.toList).toArray)) h' fl s (rows.set i (splice row off xs)) (G1.μ r) (b::N2)/\b ∉ N2:=by
     have hoth:∀k,k≠b->dO (w.setRow b (splice cs.toList (i * s+off) gx.cells.toList).toArray) k=dO w k:=λk hk=>setRow_other w b k _ hk
     cases fl with
     |true=>
      refine⟨[],by simp,λ_=>rfl,by simp,λh' hv hs=>⟨.inr ⟨b,cap,_,T,[], ?_, ?_,hh, ?_,⟨?_,rfl⟩,rfl⟩,by simp⟩⟩
      ·rw[hμ];simp
      ·simpa using k2
      ·simpa[aHU] using k4
      ·have q1:ji h' xs gx.cells.toList:=aaV hv xs _ N1 (hs rfl) hrow;simpa using alI (KU hv s rows _ k5.1) hrw q1 avk aHT
     |false=>
      obtain⟨N2,Dr,q1,hp⟩:=aqL k5 hrw hrow avk aHT;have aUH:(N'++N1).Nodup:=by have h1:=t1.ok.nd r;rw[k6] at h1;have h2:=t1.ok.ndE;rw[hE1] at h2;exact List.nodup_append.2 ⟨(List.nodup_cons.1 h1).2,h2,λx hx y hy e=>t1.ok.djE r x (by rw[k6];simp[hx]) (by rw[hE1,e];exact hy)⟩
      have hnd:=List.nodup_append.1 (hp.nodup_iff.2 aUH);have hmem:∀k,k∈N2->k∈N'\/k∈N1:=λk hk=>by simpa using hp.mem_iff.1 (List.mem_append_left Dr hk)
      have hbn:b ∉ N2:=by
       intro hb2;rcases hmem b hb2 with h|h
       ·have:=t1.ok.nd r;rw[k6] at this;exact(List.nodup_cons.1 this).1 h
       ·exact t1.ok.djE r b hbF (by rw[hE1];exact h)
      refine⟨N2,hnd.1,(λe=>by cases e),λk hk=> ?_,λh' hv _=>⟨.inr ⟨b,cap,_,T,N2, ?_, ?_,hh, ?_, ?_,rfl⟩,hbn⟩⟩
      ·rcases hmem k hk with h|h
       ·left;rw[k6];simp[h]
       ·right;rw[hE1];exact h
      ·rw[hμ];simp
      ·simpa using k2
      ·simpa[aHU] using k4
      ·have:=Jb hv s _ _ N2 (λk hk=>hoth k (λe=>hbn (e ▸ hk))) q1;simpa using this
    obtain⟨N2,hN2,aUI,aUJ,WY⟩:=key;refine⟨_,_,hrun,Nx.after t1.le (t1.ok.rewrite ho1 anj (μ':=G1.μ) (N:=b::N2) hc (Yx hbF) ?_ ?_ (λ_ _=>rfl) ⟨Nat.le_refl _,rfl,λ_=>⟨rfl,rfl⟩⟩ ?_)⟩
    ·exact List.nodup_cons.2 ⟨(WY (full w) (BL _ _ _) (λ_=>aj2)).2,hN2⟩
    ·intro k hk;have hsz':(w.setRow b (splice cs.toList (i * s+off) gx.cells.toList).toArray).heap.size=w.heap.size:=by simp[World.setRow]
     rw[hsz'];simp only[List.mem_cons] at hk;rcases hk with rfl|hk
     ·exact⟨.inl hbF,(t1.ok.lt _ (.inr ⟨r,hbF⟩)).1⟩
     ·rcases aUJ k hk with h|h
      ·exact⟨.inl h,(t1.ok.lt _ (.inr ⟨r,h⟩)).1⟩
      ·exact⟨.inr (.inl h),(t1.ok.lt _ (.inl h)).1⟩
    ·intro h' hv hml azb;refine(WY h' hv (λhfl=> ?_)).1;intro k hk;have hkE:k∈G1.E:=by rw[hE1];exact hk
     refine azb k hkE ?_ k (by simp);rw[aUI hfl];simp only[List.mem_singleton];intro e;subst e;exact t1.ok.djE r _ hbF hkE
   |_=>exact aN h
 |_=>exact aN h
def Hu.fresh(hg:Hu base U w m G)(ho:G.out=[])(hfr:Fr M0 w0 w G){k:Nat}{c':Cell}{gv:Value}{N:List Nat}(hn:get k m=none)(hk:Keep [] w w')(hN:N.Nodup)
  (hNs:∀b,b∈N->(b∈G.E\/w.heap.size<=b)/\b<w'.heap.size)
  (hcell:∀h':View,(Gh U w G).le h'->Jc G.μ m (upM G.μ k gv) (put k c' m)->(∀j,j∈G.E->j ∉ N->adi h' (dO w) [j])->uz (upM G.μ k gv) (put k c' m) (dO w') h' k c' N):
  Nx base U M0 w0 w m G w' (put k c' m) ⟨upM G.μ k gv,upF G.F k N,[],[]⟩:=by
 have hk':Keep G.E w w':=⟨hk.os,hk.tape,hk.output,hk.size,λb hb _=>hk.block b hb (by simp)⟩
 obtain⟨q1,q2⟩:=Hu.world hg hk' (E':=N) hN hNs;have hμ:∀j,j≠k->upM G.μ k gv j=G.μ j:=λj e=>PS gv e
 have hml:Jc G.μ m (upM G.μ k gv) (put k c' m):=JL hμ (λc0 h0=>by rw[hn] at h0;cases h0);have hFk:G.F k=[]:=hg.none_ k hn;have hset:=Hu.set (U:=U) (w:=w') q1 k c' (upM G.μ k gv) N [] [] (by simpa using hN) (by simp;exact λb hb=> .inr hb) hml hμ (λj hj=>by simp[ho]) (by simp)
  (λhv _=>hcell _ (q2.trans' hv) hml (λj hjE hjN b hb cs t fr hH o v hv=>by
   have hb:=List.mem_singleton.1 hb;rw[<-hb] at hjE hjN;have hlt:=hg.lt b (.inl hjE);have hsame:dO w' b=dO w b:=hk.block b hlt.1 (by simp);refine TJ (w:=w') (N:=[b]) (λx hx=> ?_) b (by simp) cs t fr (hsame.trans hH) o v hv;rw[List.mem_singleton.1 hx];refine⟨hlt.2.2, ?_⟩;rintro(h|⟨i,h⟩)
   ·simp at h
   ·by_cases e:i=k
    ·subst e;rw[GU] at h;exact hjN h
    ·rw[kY _ e] at h;exact hg.djE i b h hjE))
 obtain⟨s1,s2⟩:=hset;refine⟨s1,rfl,rfl,hml,q2.trans' s2.view, ?_⟩;refine⟨hfr.keep.trans hk (by simp), ?_⟩;rintro b (hb|⟨i,hb⟩)
 ·simp at hb
 ·by_cases e:i=k
  ·subst e;simp only[GU] at hb;rcases(hNs b hb).1 with h|h
   ·exact hfr.fr b (.inl h)
   ·exact .inr (Nat.le_trans hfr.keep.size h)
  ·simp only[kY _ e] at hb;exact hfr.fr b (.inr ⟨i,hb⟩)
def Yy{w1:World}{o:Obj}(h:w1.heap=w.heap):dO (w1.alloc o) w.heap.size=some o:=by have:=heap_alloc_new w1 o;rw[h] at this;exact this
def akh(hA:At base U M0 w0 w m G){k:Nat}{T:TypeId}{cs:List V}{arr:Array Value}(hs:dh G.μ m (Gh U w G) cs arr.toList){u:Unit}{l l':Log}(h:(new k (.box T cs)).run m l=some (u,m',l')):
  ∃G',Nx base U M0 w0 w m G (w.alloc (.cells arr T)) m' G'/\bn G'.μ m' (Gh U (w.alloc (.cells arr T)) G') (.ptr k 0) (.pointer (some ⟨w.heap.size,0,none⟩)):=by
 obtain⟨hn,rfl⟩:=ZK h;refine⟨_,hA.ok.fresh hA.out hA.fr (gv:=.pointer (some ⟨w.heap.size,0,none⟩)) (N:=[w.heap.size]) hn aa0 (by simp) (λb hb=>by simp at hb;subst hb;simp) (λh' hv hml _=> ?_), ?_⟩
 ·exact⟨w.heap.size,arr,by simp,Yy rfl,wz hml hv _ _ hs,rfl⟩
 ·simp[bn,kD,aaU,avd]
def agL(hg:Hu base U w m G)(ho:G.out=[])(hfr:Fr M0 w0 w G){w1:World}(hw1:w1.heap=w.heap)(hk1:Keep [] w w1){k:Nat}{fl:Bool}{s cap:Nat}{rows:List Row}{arr:Array Value}{T:TypeId}(hq:iP (dO w) (Gh U w G) s rows arr.toList G.E)
  (hcap:rows.length<=cap) (hsz:arr.size=cap * s) {u:Unit} {l l':Log} (h:(new k (.arr false fl 0 s rows)).run m l=some (u,m',l')):
  ∃G',Nx base U M0 w0 w m G (w1.alloc (.cells arr T)) m' G'/\bn G'.μ m' (Gh U (w1.alloc (.cells arr T)) G') (.own k 0) (.slice (some ⟨w.heap.size,0,none⟩) rows.length cap):=by
 obtain⟨hn,rfl⟩:=ZK h;have hsize:(w1.alloc (.cells arr T)).heap.size=w.heap.size+1:=by rw[World.size_alloc,hw1]
 have hkeep:Keep [] w (w1.alloc (.cells arr T)):=hk1.trans (aa0 (M:=[])) (by simp);have hnE:w.heap.size ∉ G.E:=λhE=>by have:=(hg.lt _ (.inl hE)).1;omega
 have hnew:dO (w1.alloc (.cells arr T)) w.heap.size=some (.cells arr T (0,0)):=Yy hw1;refine⟨_,hg.fresh ho hfr (gv:=.slice (some ⟨w.heap.size,0,none⟩) rows.length cap) (N:=w.heap.size::(match fl with|true=>[]|false=>G.E)) hn hkeep ?_ ?_ ?_, ?_⟩
 ·cases fl with
  |true=>simp
  |false=>exact List.nodup_cons.2 ⟨hnE,hg.ndE⟩
 ·intro b hb;simp only[List.mem_cons] at hb;rcases hb with rfl|hb
  ·exact⟨.inr (Nat.le_refl _),by rw[hsize];omega⟩
  ·cases fl with
   |true=>simp at hb
   |false=>exact⟨.inl hb,by rw[hsize];have:=(hg.lt b (.inl hb)).1;omega⟩
 ·intro h' hv hml azb;simp only[uz,Rj];refine .inr ⟨w.heap.size,cap,arr,T,_,rfl,hcap,hnew,hsz, ?_,rfl⟩;cases fl with
  |true=>refine⟨Rk hv s rows _ _ (λb hb=> ?_) hq,rfl⟩;refine azb b hb ?_ b (by simp);simp only[List.mem_singleton];intro e;exact hnE (e ▸ hb)
  |false=>exact Jb hv s rows _ _ (λb hb=>hkeep.block b (hg.lt b (.inl hb)).1 (by simp)) hq
 ·simp[bn,kD,aaU,avd]
def WZ(off:Nat):∀(xs:List Value) (k:Nat) (cells:Array Value),off+k+xs.length<=cells.size->
  ((xs.zipIdx k).foldl (λcs (c,j)=>cs.setIfInBounds (off+j) c) cells).toList=splice cells.toList (off+k) xs
 |[],k,cells,h=>by simp[splice]
 |x::xs,k,cells,h=>by simp only[ZE] at h;simp only[List.zipIdx_cons,List.foldl_cons];rw[WZ off xs (k+1) _ (by simp;omega)];have e:=list_seg_step cells.toList (off+k) x xs (by simp;omega);simpa[splice,Array.toList_setIfInBounds,Nat.add_assoc] using e
def MP(base:Nat)(U:Nat->Prop)(M0:List Nat)(w0 w:World)(m:Mem)(G:GS)(P:Program)(s:Sem Value)(v:V)(m':Mem):Prop:=
 ∃g w' G',s.run P w=.ok g w'/\Nx base U M0 w0 w m G w' m' G'/\bn G'.μ m' (Gh U w' G') v g
def MP.same(hA:At base U M0 w0 w m G){s:Sem Value}{g:Value}{v:V}(h:s.run P w=.ok g w)(hv:bn G.μ m (Gh U w G) v g):MP base U M0 w0 w m G P s v m:=⟨g,w,G,h,hA.nx,hv⟩
def avl(hA:At base U M0 w0 w m G){T k:Nat}{z:List V}(hz:UM P T=some z){u:Unit}{l l':Log}(h:(new k (.box T z)).run m l=some (u,m',l')):
  MP base U M0 w0 w m G P (Instr.alloc T true (.tuple #[])) (.ptr k 0) m':=by
 obtain⟨i,zv,hi,hzv,hs⟩:=Ub (m:=m) (μ:=G.μ) (h:=Gh U w G) hz;obtain⟨G',hnx,WY⟩:=akh hA hs h;refine⟨_,_,G', ?_,hnx,WY⟩;simp[Instr.alloc,zeroValue,typeInfo,hi,hzv,newVar,newRow]
def aEM(hA:At base U M0 w0 w m G){T k:Nat}{v:V}{g:Value}(hv:bn G.μ m (Gh U w G) v g)(h1:v.cells.all one=true){u:Unit}{l l':Log}(h:(new k (.box T v.cells)).run m l=some (u,m',l')):
  MP base U M0 w0 w m G P (Instr.box T g) (.ptr k 0) m':=by
 obtain⟨hs,_⟩:=cells_ok h1 hv;obtain⟨G',hnx,WY⟩:=akh hA hs h;refine⟨_,_,G', ?_,hnx,WY⟩;simp[Instr.box,newVar,newRow]
def aeL:∀(fs:List Field),(fs.all λf=>match P.info? f.type with|some _=>true|none=>false)=true->
  ∃places,fs.mapM (λf=>(P.info? f.type).map λi=>(f.offset,i.size))=some places/\∀(j:Nat) f,fs[j]? =some f->places[j]? =some (f.offset,uw P f.type)
 |[],_=>⟨[],by simp,by simp⟩
 |f::fs,h=>by
  simp only[List.all_cons,wo] at h;obtain⟨places,h1,h2⟩:=aeL fs h.2;cases hi:P.info? f.type with
  |none=>simp[hi] at h
  |some i=>
   refine⟨(f.offset,i.size)::places,by simp[List.mapM_cons,hi,h1], ?_⟩;intro j g hj;cases j with
   |zero=>simp at hj;subst hj;simp[uw,hi]
   |succ j=>simpa using h2 j g (by simpa using hj)
def aam{T:TypeId}{fs:Array Field}(hu:P.underlying T=some (.struct fs)){place:Nat->Option (Nat×Nat)}(hp:∀(j:Nat) f,fs[j]? =some f->place j=some (f.offset,uw P f.type)){tm:lX}{a:Act}
  {μ:Nat->Value} {h:View}:∀(ps:List (Nat×Operand)) {m:Mem} (_:ab1 μ m h tm a) {cs:List V} {cells:Array Value} (_:dh μ m h cs cells.toList) {out:List V} {m':Mem} {l l':Log}
  (_:(yI P T tm ps cs).run m l=some (out,m',l')),m'=m/\∃r,Instr.fill place cells (ps.map λx=>(x.1,a.eval x.2))=some r/\dh μ m h out r.toList
 |[],m,hT,cs,cells,hs,out,m',l,l',hr=>by simp only[yI,run_pure,lM,qU] at hr;obtain⟨rfl,rfl,_⟩:=hr;exact⟨rfl,cells,rfl,hs⟩
 |(f,x)::ps,m,hT,cs,cells,hs,out,m',l,l',hr=>by
  simp only[yI] at hr;replace hr:=ay hr;obtain⟨⟨o,n,t⟩,m1,l1,h1,hr⟩:=hr;obtain⟨hf,rfl,rfl⟩:=lV h1;simp only at hr;obtain⟨hlen,hr⟩:=bck hr;obtain⟨hone,hr⟩:=bck hr;obtain⟨hfit,hr⟩:=bck hr;have hlen:=Ia hlen;have hfit:=Nat.le_of_ble_eq_true hfit;obtain⟨hv,hv1⟩:=cells_ok hone (Yw hT t x);have hgl:(a.eval x).cells.size=n:=by rw[<-hlen,<-kE hv,Array.length_toList]
  have hcl:cells.size=cs.length:=by rw[<-kE hs,Array.length_toList]
  have hpl:place f=some (o,n):=by
   unfold WQ at hf;rw[hu] at hf;simp only at hf;cases hfd:fs[f]? with
   |none=>simp[hfd] at hf
   |some fd=>simp only[hfd,lM,qU] at hf;obtain⟨rfl,rfl,rfl⟩:=hf;exact hp f fd hfd
  have hsp:=WZ o (a.eval x).cells.toList 0 cells (by simp;omega);have hz:(a.eval x).cells.zipIdx.foldl (λcs (c,j)=>cs.setIfInBounds (o+j) c) cells=(splice cells.toList o (a.eval x).cells.toList).toArray:=by apply Array.ext';rw[<-Array.foldl_toList];simpa using hsp
  obtain⟨hm,r,hr1,hr2⟩:=aam hu hp ps hT (cells:=(splice cells.toList o (a.eval x).cells.toList).toArray) (by simpa using WV o hs hv) hr;refine⟨hm,r, ?_,hr2⟩;simp only[zmc,Instr.fill,hpl];rw[if_neg (by simp[hgl];omega),hz];exact hr1
def as9(hA:At base U M0 w0 w m G){tm:lX}{a:Act}(hT:ab1 G.μ m (Gh U w G) tm a){T:TypeId}{ps:Array (Nat×Operand)}{v:V}{l l':Log}(h:(alA P T tm ps.toList).run m l=some (v,m',l')):
  MP base U M0 w0 w m G P (Instr.build T (ps.map λx=>(x.1,a.eval x.2))) v m':=by
 simp only[alA] at h;replace h:=ay h;obtain⟨_,m1,l1,h1,h⟩:=h;obtain⟨hok,rfl,rfl⟩:=gV h1;replace h:=ay h;obtain⟨z,m1,l1,h1,h⟩:=h;obtain⟨hz,rfl,rfl⟩:=lV h1;replace h:=ay h;obtain⟨cs,m2,l2,h2,h⟩:=h;simp only[run_pure,lM,qU] at h;obtain⟨rfl,rfl,_⟩:=h;obtain⟨i,zv,hi,hzv,hs⟩:=Ub (m:=m1) (μ:=G.μ) (h:=Gh U w G) hz;unfold anc at hok;cases hu:P.underlying T with
 |none=>simp[hu] at hok
 |some d=>
  rw[hu] at hok;cases d with
  |struct fs=>simp only at hok;obtain⟨places,hpl,hpg⟩:=aeL fs.toList hok;obtain⟨hm,r,hr1,hr2⟩:=aam (place:=(places.toArray[·]?)) hu (λj f hj=>by simpa using hpg j f (by simpa using hj)) ps.toList hT hs h2;subst hm;refine MP.same hA (g:=.agg r) ?_ (by simp only[bn];exact⟨r,rfl,hr2⟩);refine run_build w T _ r ?_;unfold Program.built;simp only[hi,hu,hzv,hpl];simpa[Array.toList_map] using hr1
  |_=>simp at hok
def Yz{e:TypeId}{size:Nat}(hsz:uw P e=size){tm:lX}{a:Act}
  {μ:Nat->Value} {h:View}:∀(ps:List (Nat×Operand)) {m:Mem} (_:ab1 μ m h tm a) {cs:List V} {cells:Array Value} (_:dh μ m h cs cells.toList) {out:List V} {m':Mem} {l l':Log}
  (_:(vG P e tm ps cs).run m l=some (out,m',l')),m'=m/\∃r,Instr.fill (λi=>some (i * size,size)) cells (ps.map λx=>(x.1,a.eval x.2))=some r/\dh μ m h out r.toList
 |[],m,hT,cs,cells,hs,out,m',l,l',hr=>by simp only[vG,run_pure,lM,qU] at hr;obtain⟨rfl,rfl,_⟩:=hr;exact⟨rfl,cells,rfl,hs⟩
 |(i,x)::ps,m,hT,cs,cells,hs,out,m',l,l',hr=>by
  simp only[vG] at hr;obtain⟨hlen,hr⟩:=bck hr;obtain⟨hone,hr⟩:=bck hr;obtain⟨hfit,hr⟩:=bck hr;have hlen:=Ia hlen;have hfit:=Nat.le_of_ble_eq_true hfit;rw[hsz] at hlen hfit hr;obtain⟨hv,hv1⟩:=cells_ok hone (Yw hT e x);have hgl:(a.eval x).cells.size=size:=by rw[<-hlen,<-kE hv,Array.length_toList]
  have hcl:cells.size=cs.length:=by rw[<-kE hs,Array.length_toList]
  have hsp:=WZ (i * size) (a.eval x).cells.toList 0 cells (by simp;omega);have hz:(a.eval x).cells.zipIdx.foldl (λcs (c,j)=>cs.setIfInBounds (i * size+j) c) cells=(splice cells.toList (i * size) (a.eval x).cells.toList).toArray:=by apply Array.ext';rw[<-Array.foldl_toList];simpa using hsp
  obtain⟨hm,r,hr1,hr2⟩:=Yz hsz ps hT (cells:=(splice cells.toList (i * size) (a.eval x).cells.toList).toArray) (by simpa using WV (i * size) hs hv) hr;refine⟨hm,r, ?_,hr2⟩;simp only[zmc,Instr.fill];rw[if_neg (by simp[hgl];omega),hz];exact hr1
def ata(hA:At base U M0 w0 w m G){tm:lX}{a:Act}(hT:ab1 G.μ m (Gh U w G) tm a){T:TypeId}{ps:Array (Nat×Operand)}{v:V}{l l':Log}(h:(alB P T tm ps.toList).run m l=some (v,m',l')):
  MP base U M0 w0 w m G P (Instr.build T (ps.map λx=>(x.1,a.eval x.2))) v m':=by
 unfold alB at h;split at h
 ·rename_i n e har;unfold arT at har;cases hu:P.underlying T with
  |none=>simp[hu] at har
  |some d=>rw[hu] at har;cases d<;>simp at har;obtain⟨rfl,rfl⟩:=har;simp only[aqB] at h;replace h:=ay h;obtain⟨_,m1,l1,h1,h⟩:=h;obtain⟨hok,rfl,rfl⟩:=gV h1;replace h:=ay h;obtain⟨z,m1,l1,h1,h⟩:=h;obtain⟨hz,rfl,rfl⟩:=lV h1;replace h:=ay h;obtain⟨cs,m2,l2,h2,h⟩:=h;simp only[run_pure,lM,qU] at h;obtain⟨rfl,rfl,_⟩:=h;obtain⟨i,zv,hi,hzv,hs⟩:=Ub (m:=m1) (μ:=G.μ) (h:=Gh U w G) hz;obtain⟨d',hd'⟩:=Jd hok;obtain⟨inf,PV⟩:=Es hd';obtain⟨hm,r,hr1,hr2⟩:=Yz (PU PV) ps.toList hT hs h2;subst hm;refine MP.same hA (g:=.agg r) ?_ (by simp only[bn];exact⟨r,rfl,hr2⟩);refine run_build w T _ r ?_;unfold Program.built;simp only[hi,hu,hzv,PV];simpa[Array.toList_map] using hr1
 ·exact as9 hA hT h
def aan{e:TypeId}{tm:lX}{a:Act}:∀(ps:List (Nat×Operand)) {m:Mem} {G:GS} {k:Nat} (_:Hu base U w m G) (_:G.out=[]) (_:ab1 G.μ m (Gh U w G) tm a) {rows:List Row} {m':Mem} {l l':Log}
  (_:(yJ P e tm k ps).run m l=some (rows,m',l')),∃G' N,Ny base U w m G m' G' N/\iP (dO w) (Gh U w G') (uw P e) rows ((ps.map λx=>a.eval x.2).flatMap λv=>v.cells.toList) N/\rows.length=ps.length/\
   (∀v∈ps.map (λx=>a.eval x.2),v.cells.size=uw P e)/\ps.map (λx=>(x.1,a.eval x.2))=((ps.map λx=>a.eval x.2).zipIdx k).map λx=>(x.2,x.1)
 |[],m,G,k,hg,ho,hT,rows,m',l,l',h=>by simp only[yJ,run_pure,lM,qU] at h;obtain⟨rfl,rfl,_⟩:=h;exact⟨G,[],Ny.same hg,by simp[iP],rfl,by simp,by simp⟩
 |(i,x)::ps,m,G,k,hg,ho,hT,rows,m',l,l',h=>by
  simp only[yJ] at h;replace h:=ay h;obtain⟨_,m1,l1,h1,h⟩:=h;obtain⟨hik,rfl,rfl⟩:=gV h1;have hik:=Ia hik;subst hik;replace h:=ay h;obtain⟨_,m1,l1,h1,h⟩:=h;obtain⟨hlen,rfl,rfl⟩:=gV h1;have hlen:=Ia hlen;replace h:=ay h;obtain⟨row,m2,l2,h2,h⟩:=h;replace h:=ay h;obtain⟨rows',m3,l3,h3,h⟩:=h;simp only[run_pure,lM,qU] at h;obtain⟨rfl,rfl,_⟩:=h;have hev:=Yw (P:=P) hT e x;have hcells:∃gs,dh G.μ m1 (Gh U w G) (ev P tm e x).cells gs/\(a.eval x).cells.toList=gs:=by
   generalize ev P tm e x=v at hev h2 hlen;cases v with
   |agg cs=>simp only[bn] at hev;obtain⟨arr,he,hq⟩:=hev;exact⟨arr.toList,hq,by rw[he];rfl⟩
   |d y=>have h1:(a.eval x).oneCell'=true:=uF (v:=.d y) rfl hev;exact⟨[a.eval x],by simp only[V.cells,dh];exact⟨_,[],rfl,hev,rfl⟩,by rw[cells_one h1]⟩
   |nil s=>have h1:(a.eval x).oneCell'=true:=uF (v:=.nil s) rfl hev;exact⟨[a.eval x],by simp only[V.cells,dh];exact⟨_,[],rfl,hev,rfl⟩,by rw[cells_one h1]⟩
   |own r ver=>have h1:(a.eval x).oneCell'=true:=uF (v:=.own r ver) rfl hev;exact⟨[a.eval x],by simp only[V.cells,dh];exact⟨_,[],rfl,hev,rfl⟩,by rw[cells_one h1]⟩
   |ptr r o=>have h1:(a.eval x).oneCell'=true:=uF (v:=.ptr r o) rfl hev;exact⟨[a.eval x],by simp only[V.cells,dh];exact⟨_,[],rfl,hev,rfl⟩,by rw[cells_one h1]⟩
   |JI r v i o=>have h1:(a.eval x).oneCell'=true:=uF (v:=.JI r v i o) rfl hev;exact⟨[a.eval x],by simp only[V.cells,dh];exact⟨_,[],rfl,hev,rfl⟩,by rw[cells_one h1]⟩
   |F8 r o=>have h1:(a.eval x).oneCell'=true:=uF (v:=.F8 r o) rfl hev;exact⟨[a.eval x],by simp only[V.cells,dh];exact⟨_,[],rfl,hev,rfl⟩,by rw[cells_one h1]⟩
   |clo f p q=>have h1:(a.eval x).oneCell'=true:=uF (v:=.clo f p q) rfl hev;exact⟨[a.eval x],by simp only[V.cells,dh];exact⟨_,[],rfl,hev,rfl⟩,by rw[cells_one h1]⟩
   |XH vs=>simp only[V.cells,VP,toD] at h2;replace h2:=ay h2;obtain⟨_,_,_,h4,_⟩:=h2;exact aN h4
   |undef=>simp only[V.cells,VP,toD] at h2;replace h2:=ay h2;obtain⟨_,_,_,h4,_⟩:=h2;exact aN h4
  obtain⟨gs,hgs,hge⟩:=hcells;obtain⟨G1,N1,t1,q1,hrl⟩:=TT hg hgs ho h2;have hT1:ab1 G1.μ m2 (Gh U w G1) tm a:=λt v hv=>⟨(hT t v hv).1,t1.le.bn (hT t v hv).2⟩
  obtain⟨G2,N2,t2,q2,hl2,hs2,hz2⟩:=aan ps t1.ok (t1.out.trans ho) hT1 h3;have hgl:gs.length=uw P e:=by rw[kE hgs,hlen]
  refine⟨G2,N1++N2,t1.trans t2, ?_,by simp[hl2], ?_, ?_⟩
  ·simp only[iP,zmc,List.flatMap_cons,hge];refine⟨by rw[hrl,hlen],N1,N2,rfl,Uc (by rw[hrl,<-kE hgs];simp) (aaX t2.le.view q1), ?_⟩;rw[List.drop_append_of_le_length ak,List.drop_eq_nil_of_le ak];exact q2
  ·intro v hv;simp only[zmc,List.mem_cons] at hv;rcases hv with rfl|hv
   ·rw[<-Array.length_toList,hge,hgl]
   ·exact hs2 v hv
  ·simp only[zmc,List.zipIdx_cons,hz2]
def agM(hA:At base U M0 w0 w m G){tm:lX}{a:Act}(hT:ab1 G.μ m (Gh U w G) tm a){t:TypeId}{n k:Nat}{ps:Array (Nat×Operand)}{v:V}{l l':Log}(h:(UN P k t n tm ps.toList).run m l=some (v,m',l')):
  MP base U M0 w0 w m G P (Instr.buildSlice t n (ps.map λx=>(x.1,a.eval x.2))) v m':=by
 simp only[UN] at h;replace h:=ay h;obtain⟨e,m1,l1,h1,h⟩:=h;obtain⟨he,rfl,rfl⟩:=lV h1;replace h:=ay h;obtain⟨_,m1,l1,h1,h⟩:=h;obtain⟨hs1,rfl,rfl⟩:=gV h1;replace h:=ay h;obtain⟨_,m1,l1,h1,h⟩:=h;obtain⟨hn,rfl,rfl⟩:=gV h1;replace h:=ay h;obtain⟨_,m1,l1,h1,h⟩:=h;obtain⟨hb,rfl,rfl⟩:=gV h1;replace h:=ay h;obtain⟨z,m1,l1,h1,h⟩:=h;obtain⟨hz,rfl,rfl⟩:=lV h1;obtain⟨inf,zv,hi,hzv,_⟩:=Ub (m:=m1) (μ:=G.μ) (h:=Gh U w G) hz;replace h:=ay h;obtain⟨rows,m2,l2,h2,h⟩:=h;replace h:=ay h;obtain⟨_,m3,l3,h3,h⟩:=h;simp only[run_pure,lM,qU] at h;obtain⟨rfl,rfl,_⟩:=h;have hs1:=Nat.le_of_ble_eq_true hs1;have hn:=Ia hn;have hb:=Nat.le_of_ble_eq_true hb;have hu:=Yv he;obtain⟨G1,N1,t1,q1,hrl,hsz,aUK⟩:=aan (e:=e) ps.toList hA.ok hA.out hT h2;obtain⟨hE1,ho1,anj⟩:=hA.took t1;have hsz':uw P e=inf.size:=PU hi;have hrn:rows.length=n:=by rw[hrl,hn]
 by_cases hn0:n=0
 ·subst hn0;have hps:ps.toList=[]:=List.eq_nil_of_length_eq_zero hn;have hrows:rows=[]:=List.eq_nil_of_length_eq_zero hrn;subst hrows;have hpa:ps=#[]:=by cases ps;simp_all
  subst hpa;simp only[iP] at q1;obtain⟨G2,hnx,WY⟩:=agL (w1:=w) (cap:=0) (arr:=#[]) (T:=e) t1.ok ho1 anj rfl (Keep.refl _ _) (k:=k) (fl:=Ja P e) (s:=uw P e) (rows:=[]) (by rw[hE1,q1];simp[iP]) (by simp) (by simp) h3;refine⟨_,_,G2, ?_,Nx.after t1.le hnx,WY⟩;simp[Instr.buildSlice,run_underlying hu,sizeOf,typeInfo,hi,Instr.fill,newRow,Array.range_zero']
 ·have hpos:¬n * inf.size=0:=by rw[<-hsz'];intro e0;rcases Nat.mul_eq_zero.1 e0 with e1|e1<;>omega
  have hsmall:¬n * inf.size>2 ^ 24:=by rw[<-hsz'];omega
  have avm:=Go.Great.fill_whole (s:=uw P e) ak (ps.toList.map λx=>a.eval x.2) ((Array.range (n * inf.size)).map (zv.cells[· % zv.cells.size]!)) hsz (by simp[<-hsz'];rw[<-hn];simp);rw[<-aUK] at avm;have hrun:=run_buildSlice w t e n (ps.map λx=>(x.1,a.eval x.2)) _ inf zv hu hi hzv hsmall hpos (by rw[<-hsz'];rw[<-hsz'] at avm;simpa[Array.toList_map] using avm);have hcl:((ps.toList.map λx=>a.eval x.2).flatMap λv=>v.cells.toList).length=n * uw P e:=by
   have:∀(l:List Value),(∀v∈l,v.cells.size=uw P e)->(l.flatMap λv=>v.cells.toList).length=l.length * uw P e:=by
    intro l;induction l with
    |nil=>simp
    |cons v l ih=>intro hv;simp only[List.flatMap_cons,PD,ZE,Nat.add_mul,Array.length_toList];rw[ih (λu hu=>hv u (by simp[hu])),hv v (by simp)];omega
   rw[this _ hsz];simp[<-hn]
  obtain⟨G2,hnx,WY⟩:=agL (w1:=w) (cap:=n) (arr:=((ps.toList.map λx=>a.eval x.2).flatMap λv=>v.cells.toList).toArray) (T:=e) t1.ok ho1 anj rfl (Keep.refl _ _) (k:=k) (fl:=Ja P e) (s:=uw P e) (rows:=rows) (by rw[hE1];simpa using q1) ak (by simp[hcl]) h3;rw[hrn] at WY;exact⟨_,_,G2,hrun,Nx.after t1.le hnx,WY⟩
def aeM{h:View}{b:Nat}:∀(r:Row) (o:Nat),zU h r b o->∃cs:List Value,cs.length=r.length/\(∀j v,cs[j]? =some v->h b (o+j)=some v)/\ji h r cs
 |[],_,_=>⟨[],rfl,by simp,trivial⟩
 |x::r,o,q=>by
  simp only[zU] at q;obtain⟨⟨v,h1,h2⟩,h3⟩:=q;obtain⟨cs,e1,e2,e3⟩:=aeM r (o+1) h3;refine⟨v::cs,by simp[e1], ?_,⟨v,cs,rfl,h2,e3⟩⟩;intro j u hj;cases j with
  |zero=>simp at hj;subst hj;exact h1
  |succ j=>
   have:=e2 j u (by simpa using hj)
   rwa [show o+(j+1)=o+1+j from by omega]
def W9{h:View}{s b:Nat}:∀(rs:List Row) (o:Nat),rP h s rs b o->∃cs:List Value,cs.length=rs.length * s/\(∀j v,cs[j]? =some v->h b (o+j)=some v)/\iU h s rs cs
 |[],_,_=>⟨[],by simp,by simp,trivial⟩
 |r::rs,o,q=>by
  simp only[rP] at q;obtain⟨h1,h2,h3⟩:=q;obtain⟨cs1,a1,a2,a3⟩:=aeM r o h2;obtain⟨cs2,b1,b2,b3⟩:=W9 rs (o+s) h3;have hl:cs1.length=s:=by rw[a1,h1]
  refine⟨cs1++cs2,by simp[hl,b1,Nat.add_mul];omega, ?_,h1, ?_, ?_⟩
  ·intro j u hj
   by_cases hlt:j<s
   ·rw[List.getElem?_append_left ak] at hj;exact a2 j u hj
   ·rw[List.getElem?_append_right ak,hl] at hj;have:=b2 (j - s) u hj
    rwa [show o+j=o+s+(j - s) from by omega]
  ·refine NK ?_ a3;rw[List.take_append_of_le_length ak]
  ·rw[List.drop_append_of_le_length ak,List.drop_eq_nil_of_le ak];exact b3
def aeN{h:View}:∀{r:Row} {cs:List Value},ji h r cs->∀u∈cs.take r.length,u.oneCell'=true
 |[],_,_=>by simp
 |x::r,cs,⟨v,cs',e,h1,h2⟩=>by
  subst e;intro u hu;simp only[ZE,List.take_succ_cons,List.mem_cons] at hu;rcases hu with rfl|hu
  ·exact Vl h1
  ·exact aeN h2 u hu
def Xa{h:View}{s:Nat}:∀{rs:List Row} {cs:List Value},iU h s rs cs->∀u∈cs.take (rs.length * s),u.oneCell'=true
 |[],_,_=>by simp
 |r::rs,cs,⟨h1,h2,h3⟩=>by
  intro u hu;have hs:(r::rs).length * s=s+rs.length * s:=by simp[Nat.add_mul];omega
  rw[hs,List.take_add] at hu;simp only[List.mem_append] at hu;rcases hu with hu|hu
  ·exact aeN h2 u (by rw[h1];exact hu)
  ·exact Xa h3 u hu
def aje{H:Heap}{h:View}{x:D}{g:Value}{N:List Nat}(q:ow H h x g N):g.oneCell'=true:=by
 cases x with
 |sl o s rows=>
  cases o with
  |false=>simp only[ow] at q;exact Vl q.2
  |true=>simp only[ow] at q;rcases q with⟨_,rfl,_⟩|⟨b,cap,cs,t,N',rfl,_⟩<;>rfl
 |_=>simp only[ow] at q;rw[q.1];rfl
def aki{H:Heap}{h:View}:∀{r:Row} {cs:List Value} {N:List Nat},jU H h r cs N->∀u∈cs.take r.length,u.oneCell'=true
 |[],_,_,_=>by simp
 |x::r,cs,N,q=>by
  obtain⟨v,cs',N1,N2,rfl,rfl,h1,h2⟩:=MN q;intro u hu;simp only[ZE,List.take_succ_cons,List.mem_cons] at hu;rcases hu with rfl|hu
  ·exact aje h1
  ·exact aki h2 u hu
def agN{H:Heap}{h:View}{s:Nat}:∀{rs:List Row} {cs:List Value} {N:List Nat},iP H h s rs cs N->∀u∈cs.take (rs.length * s),u.oneCell'=true
 |[],_,_,_=>by simp
 |r::rs,cs,N,q=>by
  simp only[iP] at q;obtain⟨h1,N1,N2,rfl,h2,h3⟩:=q;intro u hu;have hs:(r::rs).length * s=s+rs.length * s:=by simp[Nat.add_mul];omega
  rw[hs,List.take_add] at hu;simp only[List.mem_append] at hu;rcases hu with hu|hu
  ·exact aki h2 u (by rw[h1];exact hu)
  ·exact agN h3 u hu
def KH(H:Heap)(h:View)(fl:Bool)(s:Nat)(rows:List Row)(cs:List Value)(N:List Nat):Prop:=match fl with
 |true=>iU h s rows cs/\N=[]
 |false=>iP H h s rows cs N
def PX{H:Heap}{h:View}{fl:Bool}{s:Nat}{rows:List Row}{cs cs':List Value}{N:List Nat}(e:cs.take (rows.length * s)=cs'.take (rows.length * s))(q:KH H h fl s rows cs N):KH H h fl s rows cs' N:=by
 cases fl with
 |true=>exact⟨Qq e q.1,q.2⟩
 |false=>exact UU e q
def ab2{H:Heap}{h:View}{fl:Bool}{s:Nat}{a b:List Row}{cs:List Value}{N N':List Nat}(q:KH H h fl s a cs N)(q':KH H h fl s b (cs.drop (a.length * s)) N'):KH H h fl s (a++b) cs (N++N'):=by
 cases fl with
 |true=>exact⟨Lp.2 ⟨q.1,q'.1⟩,by rw[q.2,q'.2];rfl⟩
 |false=>exact KW.2 ⟨N,N',rfl,q,q'⟩
def MQ{H H':Heap}{h h':View}(hl:h.le h'){fl:Bool}{s:Nat}{rows:List Row}{cs:List Value}{N:List Nat}(hb:∀b,b∈N->H' b=H b)(q:KH H h fl s rows cs N):KH H' h' fl s rows cs N:=by
 cases fl with
 |true=>exact⟨KU hl s rows _ q.1,q.2⟩
 |false=>exact Jb hl s rows _ N hb q
mutual
def avn{H:Heap}{h:View}:∀(x:D) (v:Value),ro h x.fz v->ow H h x.fz v []
 | .int _ _,_,q=>by simpa[D.fz,ow,ro] using q
 | .bool _,_,q=>by simpa[D.fz,ow,ro] using q
 | .str _,_,q=>by simpa[D.fz,ow,ro] using q
 | .XW,_,q=>by simpa[D.fz,ow,ro] using q
 | .sl _ s rows,v,q=>by simp only[D.fz,ow,true_and] at q|-;exact q
end
def aeO{H:Heap}{h:View}:∀(r:Row) (cs:List Value),ji h (Bl r) cs->jU H h (Bl r) cs []
 |[],_,_=>by simp[Bl,jU]
 |x::r,cs,q=>by simp only[Bl,ji] at q;obtain⟨v,cs',e,h1,h2⟩:=q;simp only[Bl,jU];exact⟨v,cs',[],[],e,rfl,avn x v h1,aeO r cs' h2⟩
def ab3{H:Heap}{h:View}{s:Nat}:∀(rs:List Row) (cs:List Value),iU h s (aF rs) cs->iP H h s (aF rs) cs []
 |[],_,_=>by simp[aF,iP]
 |r::rs,cs,q=>by simp only[aF,iU] at q;obtain⟨h1,h2,h3⟩:=q;simp only[aF,iP];exact⟨h1,[],[],rfl,aeO r cs h2,ab3 rs _ h3⟩
def agO{h:View}:∀{r:Row} {cs:List Value},ji h r cs->ji h (Bl r) cs
 |[],_,_=>by simp[Bl,ji]
 |x::r,cs,⟨v,cs',e,h1,h2⟩=>by simp only[Bl,ji];exact⟨v,cs',e,ave x v h1,agO h2⟩
def aeP{h:View}{s:Nat}:∀{rs:List Row} {cs:List Value},iU h s rs cs->iU h s (aF rs) cs
 |[],_,_=>by simp[aF,iU]
 |r::rs,cs,⟨h1,h2,h3⟩=>by simp only[aF,iU];exact⟨by rw[WR];exact h1,agO h2,aeP h3⟩
structure Tail(P:Program)(base:Nat)(U:Nat->Prop)(w:World)(m:Mem)(G:GS)(size:Nat)(fl:Bool)(gy:Value)(ys:List Row)(m':Mem):Prop where
 ex:∃G' news,Hu base U w m' G'/\ZI m G m' G'/\G'.out=G.out/\G'.μ=G.μ/\Src P size w gy ys.length news/\KH (dO w) (Gh U w G') fl size ys news G'.E/\∀r c,get r m=some c->get r m'=some c\/get r m'=some .dead
def azc(hA:At base U M0 w0 w m G){e:TypeId}{y:V}{gy:Value}(hy:bn G.μ m (Gh U w G) y gy)(hsz:1<=uw P e){ys:List Row}{l l':Log}(h:(tail P e y).run m l=some (ys,m',l')):
  Tail P base U w m G (uw P e) (Ja P e) gy ys m':=by
 have plain:∀(ys:List Row) (news:List Value),Src P (uw P e) w gy ys.length news->(Ja P e=true->iU (Gh U w G) (uw P e) ys news)->(Ja P e=false->iP (dO w) (Gh U w G) (uw P e) ys news [])->
   Tail P base U w m G (uw P e) (Ja P e) gy ys m:=by
  intro ys news h1 h2 h3;refine⟨G,news,hA.ok,ZI.refl _ _,rfl,rfl,h1, ?_,λr c h=> .inl h⟩;rw[hA.E];cases hf:Ja P e with
  |true=>exact⟨h2 hf,rfl⟩
  |false=>exact h3 hf
 have seen:∀(rows:List Row) (o:Bool),ro (Gh U w G) (.sl o (uw P e) rows) gy->Tail P base U w m G (uw P e) (Ja P e) gy (vw (Ja P e) rows) m:=by
  intro rows o hq;simp only[ro] at hq;obtain⟨a,cap,rfl,hcap,hne⟩:=hq;have hvl:(vw (Ja P e) rows).length=rows.length:=by unfold vw;cases Ja P e<;>simp[Vj]
  by_cases hr:rows=[]
  ·subst hr;have hv:vw (Ja P e) []=[]:=by unfold vw;cases Ja P e<;>simp[aF]
   rw[hv];exact plain [] [] (Src.slice (by simp) (by simp) (by simp)) (λ_=>trivial) (λ_=>by simp[iP])
  ·obtain⟨b,o',rfl,hrows⟩:=hne hr;obtain⟨cs,c1,c2,c3⟩:=W9 rows o' hrows;refine plain _ cs ?_ (λhf=> ?_) (λhf=> ?_)
   ·rw[hvl];refine Src.slice c1 (λu hu=> ?_) (λ_=>⟨b,o',rfl,λj v hj=>BL _ _ _ _ _ _ (c2 j v hj)⟩);exact Xa c3 u (by rw[<-c1,List.take_length];exact hu)
   ·rw[hf];exact c3
   ·rw[hf];simp only[vw,aW];exact ab3 rows cs (aeP c3)
 cases y with
 |d x=>
  cases x with
  |str s=>simp only[Vm.tail] at h;replace h:=ay h;obtain⟨_,m1,l1,h1,h⟩:=h;obtain⟨hs,rfl,rfl⟩:=gV h1;simp only[run_pure,lM,qU] at h;obtain⟨rfl,rfl,_⟩:=h;have hs:=Ia hs;simp only[bn,ro] at hy;subst hy;have aDI:=avi (h:=Gh U w G) s _ rfl;refine plain _ _ (by rw[hs];simpa using Src.string) (λ_=>by rw[hs];exact aDI) (λ_=> ?_);rw[hs];refine Yr 1 _ _ ?_ aDI;simp[aj,byteRow,D.flat]
  |sl o s rows=>simp only[Vm.tail] at h;replace h:=ay h;obtain⟨_,m1,l1,h1,h⟩:=h;obtain⟨hs,rfl,rfl⟩:=gV h1;simp only[run_pure,lM,qU] at h;obtain⟨rfl,rfl,_⟩:=h;have hs:=Ia hs;subst hs;simp only[bn] at hy;exact seen rows o hy
  |_=>exact aN h
 |nil s=>simp only[Vm.tail,run_pure,lM,qU] at h;obtain⟨rfl,rfl,_⟩:=h;simp only[bn] at hy;subst hy;exact plain [] [] (Src.slice (by simp) (by simp) (by simp)) (λ_=>trivial) (λ_=>by simp[iP])
 |own r ver=>
  simp only[Vm.tail] at h;replace h:=ay h;obtain⟨c,m1,l1,h1,h⟩:=h;rw[Bo] at h1;cases h1;cases hc:get r m with
  |none=>rw[hc] at h;exact aN h
  |some c=>
   rw[hc] at h;cases c with
   |arr fz fl tZ s rows=>
    simp only at h;replace h:=ay h;obtain⟨_,m1,l1,h1,h⟩:=h;obtain⟨hb,rfl,rfl⟩:=gV h1;have hb:=Ia hb;subst hb;replace h:=ay h;obtain⟨_,m1,l1,h1,h⟩:=h;obtain⟨hs,rfl,rfl⟩:=gV h1;have hs:=Ia hs;subst hs;simp only[bn,hc] at hy;have hy:=hy.2.2 trivial;subst hy;have hro:r ∉ G.out:=by rw[hA.out];simp
    have hcell:=hA.ok.cell r _ hc hro;cases hf:Ja P e with
    |true=>
     rw[hf] at h;simp only at h;replace h:=ay h;obtain⟨_,m1,l1,h1,h⟩:=h;obtain⟨hff,rfl,rfl⟩:=gV h1;simp only[run_pure,lM,qU] at h;obtain⟨rfl,rfl,_⟩:=h;cases fz with
     |true=>have:=seen rows true hcell.1;rw[hf] at this;simpa[vw] using this
     |false=>
      have hfl:fl=true:=by simpa using hff
      subst hfl;rw[hf] at plain;simp only[uz] at hcell;rcases hcell with⟨rfl,hμ,_⟩|⟨b,cap,cs,T,N',h1,h2,h3,h4,h5,_⟩
      ·rw[hμ] at plain|-;exact plain [] [] (Src.slice (by simp) (by simp) (by simp)) (λ_=>trivial) (λe=>by cases e)
      ·rw[h1] at plain|-;have hle:rows.length * uw P e<=cs.toList.length:=by
        have hcl:cs.toList.length=cap * uw P e:=by simpa using h4
        rw[hcl];exact Nat.mul_le_mul_right _ h2
       refine plain rows (cs.toList.take (rows.length * uw P e)) (Src.slice (by rw[zlt];omega) (λu hu=>Xa h5.1 u hu) (λ_=>⟨b,0,rfl,λj v hj=> ?_⟩)) (λ_=>Qq (by rw[List.take_take,Nat.min_self]) h5.1) (λe=>by cases e);rw[List.getElem?_take] at hj;split at hj
       ·have:=full_cell (w:=w) h3 (0+j);rw[Nat.zero_add] at this|-;rw[hj] at this;exact this
       ·cases hj
    |false=>
     rw[hf] at h;simp only at h;replace h:=ay h;obtain⟨_,m1,l1,h1,h⟩:=h;obtain⟨hff,rfl,rfl⟩:=gV h1;have hfl:fl=false:=by simpa using hff
     subst hfl;cases fz with
     |true=>simp only[run_pure,lM,qU] at h;obtain⟨rfl,rfl,_⟩:=h;have:=seen rows true hcell.1;rw[hf] at this;simpa[vw] using this
     |false=>
      simp only at h;replace h:=ay h;obtain⟨_,m1,l1,h1,h⟩:=h;rw[PN] at h1;cases h1;simp only[run_pure,lM,qU] at h;obtain⟨rfl,rfl,_⟩:=h;obtain⟨k1,k2,k3⟩:=hA.ok.kill hc hro;have hold:∀j c,get j m1=some c->get j (put r .dead m1)=some c\/get j (put r .dead m1)=some .dead:=by
       intro j c hj
       by_cases e:j=r
       ·subst e;right;exact kD _ _ _
       ·left;rw[nO e];exact hj
      rcases k3 with⟨rfl,hμ,hF⟩|⟨b,cap,cs,T,N',h1,h2,h3,h4,h5,hF⟩
      ·refine⟨_,[],k1,k2,rfl,rfl, ?_, ?_,hold⟩
       ·rw[hμ];exact Src.slice (by simp) (by simp) (by simp)
       ·rw[hA.E,hF];simp[KH,iP]
      ·have hnd:(b::N').Nodup:=by rw[<-hF];exact hA.ok.nd r
       obtain⟨q1,q2⟩:=k1.less N' (List.nodup_cons.1 hnd).2 (λx hx=>by rw[hA.E,hF];simp[hx]);have hle:rows.length * uw P e<=cs.toList.length:=by
        have hcl:cs.toList.length=cap * uw P e:=by simpa using h4
        rw[hcl];exact Nat.mul_le_mul_right _ h2
       refine⟨_,cs.toList.take (rows.length * uw P e),q1,k2.trans q2,rfl,rfl, ?_, ?_,hold⟩
       ·rw[h1];refine Src.slice (by rw[zlt];omega) (λu hu=>agN h5 u hu) (λ_=>⟨b,0,rfl,λj v hj=> ?_⟩);rw[List.getElem?_take] at hj;split at hj
        ·have:=full_cell (w:=w) h3 (0+j);rw[Nat.zero_add] at this|-;rw[hj] at this;exact this
        ·cases hj
       ·exact UU (by rw[List.take_take,Nat.min_self]) (ang (k2.view.trans' q2.view) h5)
   |_=>exact aN h
 |_=>exact aN h
end
section
variable {base:Nat} {U:Nat->Prop} {M0:List Nat} {w0 w w':World} {m m':Mem} {G G' G1:GS} {P:Program}
def Lr{b:Bool}{l:Log}{x:Unit}{l':Log}(h:(ck b).run m l=some (x,m',l')):b=true/\m=m'/\l=l':=by obtain⟨h1,h2,h3⟩:=gV h;exact⟨h1,h2.symm,h3.symm⟩
def ab4{a:Nat}(h:Nat.ble a aj0=true):a<=140737488355328:=Nat.le_of_ble_eq_true h
def akj{M M':List Nat}(h:Keep M w w')(hs:∀b,b∈M->b∈M'):Keep M' w w':=⟨h.os,h.tape,h.output,h.size,λb hb hn=>h.block b hb (λhx=>hn (hs b hx))⟩
def aa2{w1:World}{o:Obj}(h:Keep [] w w1):Keep [] w (w1.alloc o):=h.trans (aa0 (M:=[])) (by simp)
def ank(hg:Hu base U w m G)(ho:G.out=[])(hfr:Fr M0 w0 w G){w1:World}(hw1:w1.heap=w.heap)(hk1:Keep [] w w1){k:Nat}{fl:Bool}{s cap:Nat}{rows:List Row}{arr:Array Value}{T:TypeId}(hq:KH (dO w) (Gh U w G) fl s rows arr.toList G.E)
  (hcap:rows.length<=cap) (hsz:arr.size=cap * s) {u:Unit} {l l':Log} (h:(new k (.arr false fl 0 s rows)).run m l=some (u,m',l')):
  ∃G',Nx base U M0 w0 w m G (w1.alloc (.cells arr T)) m' G'/\bn G'.μ m' (Gh U (w1.alloc (.cells arr T)) G') (.own k 0) (.slice (some ⟨w.heap.size,0,none⟩) rows.length cap):=by
 obtain⟨hn,rfl⟩:=ZK h;have hsize:(w1.alloc (.cells arr T)).heap.size=w.heap.size+1:=by rw[World.size_alloc,hw1]
 have hkeep:Keep [] w (w1.alloc (.cells arr T)):=aa2 hk1;have hnE:w.heap.size ∉ G.E:=λhE=>by have:=(hg.lt _ (.inl hE)).1;omega
 refine⟨_,hg.fresh ho hfr (gv:=.slice (some ⟨w.heap.size,0,none⟩) rows.length cap) (N:=w.heap.size::G.E) hn hkeep (List.nodup_cons.2 ⟨hnE,hg.ndE⟩) ?_ ?_, ?_⟩
 ·intro b hb;simp only[List.mem_cons] at hb;rcases hb with rfl|hb
  ·exact⟨.inr (Nat.le_refl _),by rw[hsize];omega⟩
  ·exact⟨.inl hb,by rw[hsize];have:=(hg.lt b (.inl hb)).1;omega⟩
 ·intro h' hv hml azb;simp only[uz,Rj];refine .inr ⟨w.heap.size,cap,arr,T,G.E,rfl,hcap,Yy hw1,hsz, ?_,rfl⟩;have:=MQ (H':=dO (w1.alloc (.cells arr T))) hv (λb hb=>hkeep.block b (hg.lt b (.inl hb)).1 (by simp)) hq;cases fl with
  |true=>exact this
  |false=>exact this
 ·simp[bn,kD,aaU]
def aa3{z:Value}{n s:Nat}(h:z.cells.size=s):(Builtin.zeroCells z.cells n).size=n * s:=by simp[Builtin.zeroCells,h]
def aqN(hA:At base U M0 w0 w m G){dst:Nat}{t ty ry:TypeId}{x y:V}{gx gy:Value}(hx:bn G.μ m (Gh U w G) x gx)(hy:bn G.μ m (Gh U w G) y gy){v:V}{l l':Log}(h:(aly P dst t ty x y).run m l=some (v,m',l')):
  MP base U M0 w0 w m G P (Builtin.append_ #[t,ty] ry #[gx,gy]) v m':=by
 simp only[aly] at h;replace h:=ay h;obtain⟨e,m1,l1,h1,h⟩:=h;obtain⟨he,rfl,rfl⟩:=lV h1;replace h:=ay h;obtain⟨_,m1,l1,h1,h⟩:=h;obtain⟨hs1,rfl,rfl⟩:=gV h1;replace h:=ay h;obtain⟨_,m1,l1,h1,h⟩:=h;obtain⟨hty,rfl,rfl⟩:=gV h1;replace h:=ay h;obtain⟨z,m1,l1,h1,h⟩:=h;obtain⟨hz,rfl,rfl⟩:=lV h1;replace h:=ay h;obtain⟨_,m1,l1,h1,h⟩:=h;obtain⟨hzs,rfl,rfl⟩:=gV h1;replace h:=ay h;obtain⟨ys,m2,l2,h2,h⟩:=h;have hs1:=Nat.le_of_ble_eq_true hs1;have hu:=Yv he;have hty':(∃e',P.underlying ty=some (.slice e'))\/P.underlying ty=some .string:=by
  cases hq:P.underlying ty with
  |none=>simp[hq] at hty
  |some d=>rw[hq] at hty;cases d<;>simp at hty<;>simp
 obtain⟨G1,news,t1,t2,t3,t4,hsrc,hrows,hold⟩:=(azc hA hy hs1 h2).ex;have anj:Fr M0 w0 w G1:=hA.fr.less t2.ex;have ho1:G1.out=[]:=t3.trans hA.out;obtain⟨inf,zv,hi,hzv,aHV⟩:=Ub (m:=m1) (μ:=G.μ) (h:=Gh U w G) hz;have hzs:zv.cells.size=uw P e:=by rw[<-Ia hzs,<-kE aHV,Array.length_toList]
 have hsz:uw P e=inf.size:=PU hi;have hby:alx P e=inf.bytes:=by simp[alx,hi]
 rw[hsz] at hsrc;cases x with
 |nil s0=>
  simp only at h;replace h:=ay h;obtain⟨_,m3,l3,h3,h⟩:=h;obtain⟨hb1,rfl,rfl⟩:=gV h3;replace h:=ay h;obtain⟨_,m3,l3,h3,h⟩:=h;obtain⟨hb2,rfl,rfl⟩:=gV h3;replace h:=ay h;obtain⟨_,m3,l3,h3,h⟩:=h;simp only[run_pure,lM,qU] at h;obtain⟨rfl,rfl,_⟩:=h;simp only[bn] at hx;subst hx;have hb1:=ab4 hb1;have hb2:=ab4 hb2;rw[hby] at hb1
  by_cases hy0:ys=[]
  ·subst hy0;obtain⟨hn,rfl⟩:=ZK h3;refine⟨_,w,_,XJ hu hty' hi hsrc,Nx.after t2 (t1.fresh ho1 anj (gv:=.slice none 0 0) (N:=[]) hn (Keep.refl _ _) (by simp) (by simp) (λh' hv hml _=> ?_)), ?_⟩
   ·simp only[uz,Rj];exact .inl ⟨rfl,rfl,rfl⟩
   ·simp[bn,kD,aaU]
  ·have hm:ys.length≠0:=by simpa using hy0
   obtain⟨cap,hcap,hrun⟩:=XI (w:=w) (ty:=ry) hu hty' hi hzv hsrc hm hb2 hb1;obtain⟨G2,hnx,WY⟩:=ank (w1:=w.drew) (cap:=cap) (arr:=news.toArray++Builtin.zeroCells zv.cells (cap - ys.length)) (T:=e) t1 ho1 anj rfl adq (k:=dst) (fl:=Ja P e) (s:=uw P e) (rows:=ys)
    (PX (by
     have hnl:news.length=ys.length * uw P e:=by rw[hsz];exact hsrc.n
     simp only[Array.toList_append];rw[List.take_append_of_le_length ak]) hrows) hcap (by
     rw[Array.size_append,aa3 hzs,hsz];have hnl:news.toArray.size=ys.length * inf.size:=by simpa using hsrc.n
     rw[hnl,<-Nat.add_mul];congr 1;omega) h3
   exact⟨_,_,G2,hrun,Nx.after t2 hnx,WY⟩
 |own r ver=>
  simp only at h;replace h:=ay h;obtain⟨c,m3,l3,h3,h⟩:=h;rw[Bo] at h3;cases h3;replace hx:=t2.bn hx;cases hc:get r m2 with
  |none=>rw[hc] at h;exact aN h
  |some c=>
  rw[hc] at h;cases c with
  |box _ _=>exact aN h
  |dead=>exact aN h
  |arr fz fl tZ s rows=>
  cases fz with
  |true=>exact aN h
  |false=>
  simp only at h;replace h:=ay h;obtain⟨_,m4,l4,h4,h⟩:=h;obtain⟨hb,rfl,rfl⟩:=Lr h4;have hb:=Ia hb;subst hb;replace h:=ay h;obtain⟨_,m4,l4,h4,h⟩:=h;obtain⟨hs,rfl,rfl⟩:=Lr h4;have hs:=Ia hs;subst hs;replace h:=ay h;obtain⟨_,m4,l4,h4,h⟩:=h;obtain⟨hfl,rfl,rfl⟩:=Lr h4;have hfl:fl=Ja P e:=by cases fl<;>cases hq:Ja P e<;>simp_all
  rw[<-hfl] at hrows;replace h:=ay h;obtain⟨_,m4,l4,h4,h⟩:=h;obtain⟨hb1,rfl,rfl⟩:=Lr h4;have hb1:=ab4 hb1;rw[hby] at hb1;replace h:=ay h;obtain⟨_,m4,l4,h4,h⟩:=h;obtain⟨hb2,rfl,rfl⟩:=Lr h4;have hb2:=ab4 hb2;replace h:=ay h;obtain⟨_,m4,l4,h4,h⟩:=h;rw[PN] at h4;cases h4;simp only[run_pure,lM,qU] at h;obtain⟨rfl,rfl,_⟩:=h;simp only[bn,hc] at hx;have hx:=hx.2.2 trivial;subst hx;have hcell:=t1.cell r _ hc (by rw[ho1];simp);have hnl:news.length=ys.length * uw P e:=by rw[hsz];exact hsrc.n
  have aEN:¬ver=ver+1:=ak;have hEd:∀b,b∈G1.F r->b ∉ G1.E:=λb=>t1.djE r b
  have fin:∀(w':World) (g:Value) (N:List Nat),Keep (G1.F r) w w'->N.Nodup->(∀b,b∈N->(b∈G1.F r\/b∈G1.E\/w.heap.size<=b)/\b<w'.heap.size)->
    (∀h':View,(Gh U w G1).le h'->aaT (dO w') h' fl (uw P e) (rows++ys) g N)->(Builtin.append_ #[t,ty] ry #[G1.μ r,gy]).run P w=.ok g w'->aaU g->
    MP base U M0 w0 w m1 G P (Builtin.append_ #[t,ty] ry #[G1.μ r,gy]) (.own r (ver+1)) (put r (.arr false fl (ver+1) (uw P e) (rows++ys)) m2):=by
   intro w' g N hk hN hNs WY hrun hone;refine⟨g,w',_,hrun,Nx.after t2 (t1.rewrite ho1 anj (μ':=upM G1.μ r g) (N:=N) hc hk hN hNs (λk hk=>PS g hk) ⟨ak,rfl,λe=>absurd e aEN⟩ (λh' hv hml _=> ?_)), ?_⟩
   ·simp only[uz,Rj];exact WY h' hv
   ·simp[bn,kD,hone]
  simp only[uz] at hcell;rcases hcell with⟨rfl,hμ,hF⟩|⟨b,cap,cs,T,N',k1,k2,k3,k4,k5,k6⟩
  ·
   by_cases hy0:ys=[]
   ·subst hy0;refine fin w (.slice none 0 0) [] (Keep.refl _ _) (by simp) (by simp) (λh' hv=> .inl ⟨rfl,rfl,rfl⟩) ?_ ⟨_,_,_,rfl⟩;rw[hμ];exact XJ hu hty' hi hsrc
   ·have hm:ys.length≠0:=by simpa using hy0
    obtain⟨cap,hcap,hrun⟩:=XI (w:=w) (ty:=ry) hu hty' hi hzv hsrc hm (by simpa using hb2) (by simpa using hb1);have hkeep:Keep [] w (w.drew.alloc (.cells (news.toArray++Builtin.zeroCells zv.cells (cap - ys.length)) e)):=aa2 adq;have hsize:(w.drew.alloc (.cells (news.toArray++Builtin.zeroCells zv.cells (cap - ys.length)) e)).heap.size=w.heap.size+1:=by rw[World.size_alloc];rfl
    have hnE:w.heap.size ∉ G1.E:=λhE=>by have:=(t1.lt _ (.inl hE)).1;omega
    refine fin _ _ (w.heap.size::G1.E) (akj hkeep (by simp)) (List.nodup_cons.2 ⟨hnE,t1.ndE⟩) ?_ ?_ (by rw[hμ];exact hrun) ⟨_,_,_,rfl⟩
    ·intro k hk;simp only[List.mem_cons] at hk;rcases hk with rfl|hk
     ·exact⟨.inr (.inr (Nat.le_refl _)),by rw[hsize];omega⟩
     ·exact⟨.inr (.inl hk),by rw[hsize];have:=(t1.lt k (.inl hk)).1;omega⟩
    ·intro h' hv;refine .inr ⟨w.heap.size,cap,_,e,G1.E,rfl,by simpa using hcap,Yy rfl, ?_, ?_,rfl⟩
     ·rw[Array.size_append,aa3 hzs,hsz];have hnl:news.toArray.size=ys.length * inf.size:=by simpa using hsrc.n
      rw[hnl,<-Nat.add_mul];congr 1;omega
     ·have h1:=MQ hv (λb hb=>hkeep.block b (t1.lt b (.inl hb)).1 (by simp)) hrows;have h2:=PX (cs':=(news.toArray++Builtin.zeroCells zv.cells (cap - ys.length)).toList) (by simp only[Array.toList_append];rw[List.take_append_of_le_length ak]) h1;rw[List.nil_append];cases fl with
      |true=>exact h2
      |false=>exact h2
  ·have hbF:b∈G1.F r:=by rw[k6];simp
   have aEO:=t1.nd r;rw[k6] at aEO;have aqO:∀k,k∈N'->k∈G1.F r:=λk hk=>by rw[k6];simp[hk]
   have aDJ:(N'++G1.E).Nodup:=List.nodup_append.2 ⟨(List.nodup_cons.1 aEO).2,t1.ndE,λa ha c hc e=>hEd a (aqO a ha) (e ▸ hc)⟩;have hcl:cs.toList.length=cap * uw P e:=by simpa using k4
   have hrl:rows.length * uw P e<=cs.toList.length:=by rw[hcl];exact Nat.mul_le_mul_right _ k2
   have k5':KH (dO w) (Gh U w G1) fl (uw P e) rows cs.toList N':=by
    cases fl with
    |true=>exact k5
    |false=>exact k5
   by_cases hroom:rows.length+ys.length<=cap
   ·
    have hrun:=run_append_fits (ty:=ry) hu hty' hi hsrc k3 hroom (by rw[k4,hsz]);rw[<-hsz] at hrun;have hh:=setRow_heap w b cs (splice cs.toList (rows.length * uw P e) news).toArray T (0,0) k3;have hfit:rows.length * uw P e+news.length<=cs.toList.length:=by rw[hnl,hcl,<-Nat.add_mul];exact Nat.mul_le_mul_right _ hroom
    have hoth:∀k,k≠b->dO (w.setRow b (splice cs.toList (rows.length * uw P e) news).toArray) k=dO w k:=λk hk=>setRow_other w b k _ hk
    have hsz2:(w.setRow b (splice cs.toList (rows.length * uw P e) news).toArray).heap.size=w.heap.size:=by simp[World.setRow]
    have hbN:b ∉ N'++G1.E:=by
     intro hx;simp only[List.mem_append] at hx;rcases hx with hx|hx
     ·exact(List.nodup_cons.1 aEO).1 hx
     ·exact hEd b hbF hx
    refine fin _ (.slice (some ⟨b,0,none⟩) (rows.length+ys.length) cap) (b::(N'++G1.E)) (Yx hbF) (List.nodup_cons.2 ⟨hbN,aDJ⟩) ?_ ?_ (by rw[k1];exact hrun) ⟨_,_,_,rfl⟩
    ·intro k hk;rw[hsz2];simp only[List.mem_cons,List.mem_append] at hk;rcases hk with rfl|hk|hk
     ·exact⟨.inl hbF,(t1.lt _ (.inr ⟨r,hbF⟩)).1⟩
     ·exact⟨.inl (aqO k hk),(t1.lt _ (.inr ⟨r,aqO k hk⟩)).1⟩
     ·exact⟨.inr (.inl hk),(t1.lt _ (.inl hk)).1⟩
    ·intro h' hv;refine .inr ⟨b,cap,_,T,N'++G1.E,by simp,by simpa using hroom,hh, ?_, ?_,rfl⟩
     ·have:=Qp (l:=cs.toList) (xs:=news) (o:=rows.length * uw P e) hfit;simp only[List.size_toArray];rw[this,hcl]
     ·have h1:=MQ (H':=dO (w.setRow b (splice cs.toList (rows.length * uw P e) news).toArray)) hv (λk hk=>hoth k (λe=>hbN (by rw[<-e];simp[hk]))) k5';have h2:=MQ (H':=dO (w.setRow b (splice cs.toList (rows.length * uw P e) news).toArray)) hv (λk hk=>hoth k (λe=>hbN (by rw[<-e];simp[hk]))) hrows;have h3:=ab2 (PX (cs':=splice cs.toList (rows.length * uw P e) news) (by
       simp only[splice,VN];rw[List.take_append_of_le_length (by simp;omega),List.take_take,Nat.min_self]) h1) (PX (cs':=(splice cs.toList (rows.length * uw P e) news).drop (rows.length * uw P e)) (by
       simp only[splice,VN];rw[List.drop_append_of_le_length (by simp;omega)];have:(cs.toList.take (rows.length * uw P e)).drop (rows.length * uw P e)=[]:=by simp
       rw[this,List.nil_append,List.take_append_of_le_length ak]) h2)
      cases fl with
      |true=>simpa[KH] using h3
      |false=>simpa[KH] using h3
   ·
    have hlt:cap<rows.length+ys.length:=ak;obtain⟨cap',hcap',hrun⟩:=afk (ty:=ry) (olds:=cs.toList.take (rows.length * uw P e)) hu hty' hi hzv hsrc (by rw[zlt,<-hsz];omega) (λj u hj=>by
     rw[List.getElem?_take] at hj;split at hj
     ·have:=full_cell (w:=w) k3 (0+j);rw[Nat.zero_add] at this|-;rw[hj] at this;exact this
     ·cases hj) hlt hb2 hb1
    have hkeep:Keep [] w (w.drew.alloc (.cells ((cs.toList.take (rows.length * uw P e)++news).toArray++Builtin.zeroCells zv.cells (cap' - (rows.length+ys.length))) e)):=aa2 adq;have hsize:(w.drew.alloc (.cells ((cs.toList.take (rows.length * uw P e)++news).toArray++Builtin.zeroCells zv.cells (cap' - (rows.length+ys.length))) e)).heap.size=w.heap.size+1:=by rw[World.size_alloc];rfl
    have aUL:w.heap.size ∉ N'++G1.E:=λhE=>by
     simp only[List.mem_append] at hE;rcases hE with hE|hE
     ·have:=(t1.lt _ (.inr ⟨r,aqO _ hE⟩)).1;omega
     ·have:=(t1.lt _ (.inl hE)).1;omega
    refine fin _ (.slice (some ⟨w.heap.size,0,none⟩) (rows.length+ys.length) cap') (w.heap.size::(N'++G1.E)) (akj hkeep (by simp)) (List.nodup_cons.2 ⟨aUL,aDJ⟩) ?_ ?_ (by rw[k1];exact hrun) ⟨_,_,_,rfl⟩
    ·intro k hk;rw[hsize];simp only[List.mem_cons,List.mem_append] at hk;rcases hk with rfl|hk|hk
     ·exact⟨.inr (.inr (Nat.le_refl _)),ak⟩
     ·exact⟨.inl (aqO k hk),by have:=(t1.lt _ (.inr ⟨r,aqO k hk⟩)).1;omega⟩
     ·exact⟨.inr (.inl hk),by have:=(t1.lt _ (.inl hk)).1;omega⟩
    ·intro h' hv;refine .inr ⟨w.heap.size,cap',_,e,N'++G1.E,by simp,by simpa using hcap',Yy rfl, ?_, ?_,rfl⟩
     ·rw[Array.size_append,aa3 hzs];simp only[List.size_toArray,PD,zlt,hnl];rw[Nat.min_eq_left hrl,<-Nat.add_mul,<-Nat.add_mul];congr 1;omega
     ·have h1:=MQ hv (λb hb=>hkeep.block b (t1.lt b (.inr ⟨r,aqO b hb⟩)).1 (by simp)) k5';have h2:=MQ hv (λb hb=>hkeep.block b (t1.lt b (.inl hb)).1 (by simp)) hrows;have l1:(cs.toList.take (rows.length * uw P e)).length=rows.length * uw P e:=by rw[zlt];omega
      have h3:=ab2 (PX (cs':=((cs.toList.take (rows.length * uw P e)++news).toArray++Builtin.zeroCells zv.cells (cap' - (rows.length+ys.length))).toList) (by
       simp only[Array.toList_append,VN];rw[List.take_append_of_le_length ak,List.take_take,Nat.min_self]) h1) (PX (cs':=(((cs.toList.take (rows.length * uw P e)++news).toArray++Builtin.zeroCells zv.cells (cap' - (rows.length+ys.length))).toList).drop (rows.length * uw P e)) (by
       simp only[Array.toList_append,VN];rw[List.drop_append_of_le_length ak,List.drop_eq_nil_of_le ak,List.nil_append,List.take_append_of_le_length ak]) h2)
      cases fl with
      |true=>exact h3
      |false=>exact h3
 |d _=>exact aN h
 |ptr _ _=>exact aN h
 |JI _ _ _ _=>exact aN h
 |F8 _ _=>exact aN h
 |clo _ _ _=>exact aN h
 |agg _=>exact aN h
 |XH _=>exact aN h
 |undef=>exact aN h
end
section
variable {base:Nat} {U:Nat->Prop} {M0:List Nat} {w0 w w':World} {m m':Mem} {G G':GS} {P:Program}
def ajf(hA:At base U M0 w0 w m G){T f:Nat}{a:V}{ga:Value}(ha:bn G.μ m (Gh U w G) a ga){v:V}{l l':Log}(h:(aaM P T a f).run m l=some (v,m',l')):
  MP base U M0 w0 w m G P (Instr.fieldAt T ga f) v m':=by
 simp only[aaM] at h;replace h:=ay h;obtain⟨⟨o,n,t⟩,m1,l1,h1,h⟩:=h;obtain⟨hf,rfl,rfl⟩:=lV h1;simp only at h;obtain⟨hn,h⟩:=bck h;have hn:=Nat.le_of_ble_eq_true hn;cases a with
 |ptr r off=>
  obtain⟨rfl,rfl,_⟩:=rpu h;simp only[bn] at ha;obtain⟨⟨b,o',rfl⟩,ha⟩:=ha;refine MP.same hA (Yu hf hn) ?_;simp only[bn];refine⟨⟨_,_,rfl⟩, ?_⟩;split at ha
  ·obtain⟨b1,hμ,e⟩:=ha;simp only[Value.pointer.injEq,lM,Addr.mk.injEq] at e;obtain⟨rfl,rfl,_⟩:=e;exact⟨_,hμ,rfl⟩
  ·trivial
  ·exact ha
 |F8 row off=>obtain⟨rfl,rfl,_⟩:=rpu h;simp only[bn] at ha;obtain⟨b,o',rfl,hrow⟩:=ha;refine MP.same hA (Yu hf hn) ?_;simp only[bn];exact⟨b,o',by rw[Nat.add_assoc],hrow⟩
 |JI r ver i off=>
  obtain⟨rfl,rfl,_⟩:=rpu h;simp only[bn] at ha;obtain⟨⟨b,o',rfl⟩,ha⟩:=ha;refine MP.same hA (Yu hf hn) ?_;simp only[bn];refine⟨⟨_,_,rfl⟩, ?_⟩;split at ha
  ·refine⟨ha.1,λe=> ?_⟩;obtain⟨b1,n1,cap,hμ,e1⟩:=ha.2 e;simp only[Value.pointer.injEq,lM,Addr.mk.injEq] at e1;obtain⟨rfl,rfl,_⟩:=e1;exact⟨_,n1,cap,hμ,by rw[Nat.add_assoc]⟩
  ·trivial
  ·exact ha
 |_=>exact aN h
def atb(hA:At base U M0 w0 w m G){T f:Nat}{a:V}{ga:Value}(ha:bn G.μ m (Gh U w G) a ga){v:V}{l l':Log}(h:(aqx P T a f).run m l=some (v,m',l')):
  MP base U M0 w0 w m G P (Instr.field T ga f) v m':=by
 simp only[aqx] at h;replace h:=ay h;obtain⟨⟨o,n,t⟩,m1,l1,h1,h⟩:=h;obtain⟨hf,rfl,rfl⟩:=lV h1;simp only at h;cases a with
 |agg cs=>
  simp only at h;obtain⟨hfit,h⟩:=bck h;obtain⟨hok,h⟩:=bck h;obtain⟨hv,rfl,rfl⟩:=lV h;simp only[bn] at ha;obtain⟨arr,rfl,hs⟩:=ha;have hfit:=Nat.le_of_ble_eq_true hfit;have hp:=agH o n hs;have hal:arr.size=cs.length:=by simpa using kE hs
  obtain⟨g,hg⟩:=ar2 hv hp;refine MP.same hA (g:=g) ?_ (TW hv hp hg);unfold WQ at hf;cases hu:P.underlying T with
  |none=>simp[hu] at hf
  |some d=>
   rw[hu] at hf;cases d with
   |struct fs=>
    simp only at hf;cases hfd:fs[f]? with
    |none=>simp[hfd] at hf
    |some fd=>
     simp only[hfd,lM,qU] at hf;obtain⟨rfl,rfl,rfl⟩:=hf;obtain⟨d',hd'⟩:=Jd hok;obtain⟨i,hi⟩:=Es hd';unfold Instr.field;simp only[Sem.run_bind,run_underlying hu,Result.andThen_ok,hfd];unfold Go.part;simp only[Sem.run_bind,asAgg,Sem.run_pure,Result.andThen_ok,VZ hd'];unfold valOf at hg;cases hag:RH P fd.type with
     |true=>
      simp only[hag,if_true] at hg;subst hg;rw[PU hi];have hex:arr.extract fd.offset (fd.offset+i.size)=(List.take i.size (List.drop fd.offset arr.toList)).toArray:=by apply Array.ext';simp[Array.toList_extract,List.extract_eq_take_drop]
      simp[sizeOf,typeInfo,hi,hex]
     |false=>
      simp only[hag,Bool.false_eq_true,if_false] at hg;have h0:arr[fd.offset]? =some g:=by
       have:(List.take (uw P fd.type) (List.drop fd.offset arr.toList))[0]? =some g:=by rw[hg];rfl
       rw[List.getElem?_take] at this;split at this
       ·rw[List.getElem?_drop,Nat.add_zero] at this;simpa using this
       ·cases this
      simp[h0]
   |_=>simp at hf
 |_=>exact aN h
def agP{α:Type}{l:List α}{i:Int}{x:α}(h:idx l i=some x):0<=i/\i.toNat<l.length/\l[i.toNat]? =some x:=by
 unfold idx at h
 by_cases h0:0<=i
 ·simp only[h0,decide_true,aJ] at h;exact⟨h0,(Qm.1 h).1,h⟩
 ·simp[h0] at h
def ajg(hA:At base U M0 w0 w m G){t:TypeId}{x i:V}{gx gi:Value}(hx:bn G.μ m (Gh U w G) x gx)(hi:bn G.μ m (Gh U w G) i gi){v:V}{l l':Log}(h:(aaN P t x i).run m l=some (v,m',l')):
  MP base U M0 w0 w m G P (Instr.indexAt t gx gi) v m':=by
 simp only[aaN] at h;replace h:=ay h;obtain⟨e,m1,l1,h1,h⟩:=h;obtain⟨he,rfl,rfl⟩:=lV h1;cases i with
 |d xi=>
  cases xi with
  |int k n=>
   simp only at h;simp only[bn,ro] at hi;subst hi;have seen:∀(rows:List Row) (o:Bool),ro (Gh U w G) (.sl o (uw P e) rows) gx->∀row,idx rows n=some row->1<=uw P e\/True->(∃inf,P.info? e=some inf)->MP base U M0 w0 w m1 G P (Instr.indexAt t gx (.int k n)) (.F8 row 0) m1:=by intro rows o hq row hrow _ PV;obtain⟨inf,PV⟩:=PV;obtain⟨h0,hlt,hget⟩:=agP hrow;simp only[ro] at hq;obtain⟨a,cap,rfl,hcap,hne⟩:=hq;obtain⟨b,o',rfl,hrows⟩:=hne (by intro e;subst e;simp at hlt);obtain⟨hl,hr⟩:=MO hrows hget;refine MP.same hA (run_indexAt he PV h0 ak) ?_;simp only[bn];rw[<-PU PV];exact⟨b,o'+n.toNat * uw P e,rfl,hr⟩
   cases x with
   |d y=>
    cases y with
    |sl o s rows=>simp only at h;replace h:=ay h;obtain⟨_,m2,l2,h2,h⟩:=h;obtain⟨hs,rfl,rfl⟩:=gV h2;replace h:=ay h;obtain⟨_,m2,l2,h2,h⟩:=h;obtain⟨hok,rfl,rfl⟩:=gV h2;replace h:=ay h;obtain⟨row,m2,l2,h2,h⟩:=h;obtain⟨hrow,rfl,rfl⟩:=lV h2;simp only[run_pure,lM,qU] at h;obtain⟨rfl,rfl,_⟩:=h;have hs:=Ia hs;subst hs;simp only[bn] at hx;obtain⟨d',hd'⟩:=Jd hok;exact seen rows o hx row hrow (.inr trivial) (Es hd')
    |_=>exact aN h
   |own r ver=>
    simp only at h;replace h:=ay h;obtain⟨c,m2,l2,h2,h⟩:=h;rw[Bo] at h2;cases h2;cases hc:get r m1 with
    |none=>rw[hc] at h;exact aN h
    |some c=>
     rw[hc] at h;cases c with
     |arr fz fl tZ s rows=>
      simp only at h;replace h:=ay h;obtain⟨_,m2,l2,h2,h⟩:=h;obtain⟨hb,rfl,rfl⟩:=Lr h2;have hb:=Ia hb;subst hb;replace h:=ay h;obtain⟨_,m2,l2,h2,h⟩:=h;obtain⟨hs,rfl,rfl⟩:=Lr h2;have hs:=Ia hs;subst hs;replace h:=ay h;obtain⟨_,m2,l2,h2,h⟩:=h;obtain⟨hok,rfl,rfl⟩:=Lr h2;obtain⟨d',hd'⟩:=Jd hok;obtain⟨inf,PV⟩:=Es hd';simp only[bn,hc] at hx;have hx:=hx.2.2 trivial;subst hx;have hcell:=hA.ok.cell r _ hc (by rw[hA.out];simp);cases fz with
      |true=>simp only at h;replace h:=ay h;obtain⟨row,m2,l2,h2,h⟩:=h;obtain⟨hrow,rfl,rfl⟩:=lV h2;simp only[run_pure,lM,qU] at h;obtain⟨rfl,rfl,_⟩:=h;exact seen (vw fl rows) false (aeA hcell.1) row hrow (.inr trivial) ⟨inf,PV⟩
      |false=>simp only at h;replace h:=ay h;obtain⟨row,m2,l2,h2,h⟩:=h;obtain⟨hrow,rfl,rfl⟩:=lV h2;simp only[run_pure,lM,qU] at h;obtain⟨rfl,rfl,_⟩:=h;obtain⟨h0,hlt,hget⟩:=agP hrow;obtain⟨b,o,cap,hμ,ho,hl,_⟩:=ar4 hcell (BL _ _ _) hget;have ho:=ho rfl;subst ho;rw[hμ];refine MP.same hA (run_indexAt he PV h0 ak) ?_;simp only[bn,hc,hμ];exact⟨⟨_,_,rfl⟩,Nat.le_refl _,λ_=>⟨b,_,_,rfl,by rw[PU PV];simp⟩⟩
     |_=>exact aN h
   |_=>exact aN h
  |_=>exact aN h
 |_=>exact aN h
def anl{t e:TypeId}{n:Nat}(h:arT P t=some (n,e)):P.underlying t=some (.array n e):=by
 unfold arT at h;cases hu:P.underlying t with
 |none=>simp[hu] at h
 |some d=>rw[hu] at h;cases d<;>simp at h;obtain⟨rfl,rfl⟩:=h;rfl
def ab5{t e:TypeId}{k:IntKind}{i:Int}{b o n:Nat}(hu:P.underlying t=some (.array n e)){inf:TypeInfo}(hi:P.info? e=some inf)(h0:0<=i)(hn:i<n):
  (Instr.indexAt t (.pointer (some ⟨b,o,none⟩)) (.int k i)).run P w=.ok (.pointer (some ⟨b,o+i.toNat * inf.size,none⟩)) w:=by
 have hc:0<=i/\i<(n:Int):=⟨h0,hn⟩
 unfold Instr.indexAt;simp[asIntOf,run_underlying hu,hc,sizeOf,typeInfo,hi,Vk,Instr.sureAddr]
def ajh(hA:At base U M0 w0 w m G){t:TypeId}{x i:V}{gx gi:Value}(hx:bn G.μ m (Gh U w G) x gx)(hi:bn G.μ m (Gh U w G) i gi){v:V}{l l':Log}(h:(aaO P t x i).run m l=some (v,m',l')):
  MP base U M0 w0 w m G P (Instr.indexAt t gx gi) v m':=by
 unfold aaO at h;cases ha:arT P t with
 |none=>rw[ha] at h;exact ajg hA hx hi h
 |some q=>
  obtain⟨n,e⟩:=q;rw[ha] at h;have hu:=anl ha;cases i<;>try exact aN h
  rename_i y;cases y<;>try exact aN h
  rename_i k j;simp only[bn,ro] at hi;subst hi;simp only[anb] at h;replace h:=ay h;obtain⟨_,m1,l1,h1,h⟩:=h;obtain⟨hok,rfl,rfl⟩:=gV h1;replace h:=ay h;obtain⟨_,m1,l1,h1,h⟩:=h;obtain⟨hj,rfl,rfl⟩:=gV h1;simp only[wo,decide_eq_true_eq] at hj;obtain⟨d',hd'⟩:=Jd hok;obtain⟨inf,PV⟩:=Es hd';have hsz:=PU PV;cases x<;>try exact aN h
  ·rename_i r off;simp only[run_pure,lM,qU] at h;obtain⟨rfl,rfl,_⟩:=h;simp only[bn] at hx;obtain⟨⟨b,o,rfl⟩,hx⟩:=hx;refine MP.same hA (ab5 hu PV hj.1 hj.2) ?_;simp only[bn];refine⟨⟨b,_,rfl⟩, ?_⟩;cases hc:get r m1 with
   |none=>rw[hc] at hx;exact hx.elim
   |some c=>
    rw[hc] at hx;cases c with
    |box T cs=>obtain⟨b',h1,h2⟩:=hx;simp only[Value.pointer.injEq,lM,Addr.mk.injEq] at h2;obtain⟨rfl,rfl,_⟩:=h2;exact⟨b,h1,by rw[hsz]⟩
    |arr _ _ _ _ _=>exact hx.elim
    |dead=>trivial
  ·rename_i row off;simp only[run_pure,lM,qU] at h;obtain⟨rfl,rfl,_⟩:=h;simp only[bn] at hx;obtain⟨b,o,rfl,hr⟩:=hx;refine MP.same hA (ab5 hu PV hj.1 hj.2) ?_;simp only[bn];exact⟨b,o,by rw[hsz,Nat.add_assoc],hr⟩
def akk{μ:Nat->Value}{mm:Mem}{hh:View}:∀{cs:List V} {row:Row} {gs:List Value},ajZ cs=some row->dh μ mm hh cs gs->∀i:Nat,i<cs.length->∃g,gs[i]? =some g/\ro hh (nth row i) g
 |[],row,gs,h,q,i,hi=>by simp at hi
 |v::cs,row,gs,h,q,i,hi=>by
  simp only[dh] at q;obtain⟨g,gs',rfl,q1,q2⟩:=q;cases v<;>simp only[ajZ] at h<;>try cases h
  rename_i x;cases hr:ajZ cs with
  |none=>rw[hr] at h;cases h
  |some r=>
   rw[hr] at h;cases h;cases i with
   |zero=>exact⟨g,rfl,by simpa[nth,bn] using q1⟩
   |succ i=>obtain⟨g',h1,h2⟩:=akk hr q2 i (by simpa using hi);exact⟨g',by simpa using h1,by simpa[nth] using h2⟩
def alJ(hA:At base U M0 w0 w m G){t e:TypeId}{n:Nat}{k:IntKind}{j:Int}{cs:List V}{gx:Value}(hu:P.underlying t=some (.array n e))(hx:bn G.μ m (Gh U w G) (.agg cs) gx){v:V}{l l':Log} (h:(do
  ck (Nat.beq (uw P e) 1 &&(Nat.beq cs.length n &&(Yg P e && !(RH P e))))
  ck (decide (0<=j) && decide (j<(n:Int)))
  let row<-op' (ajZ cs)
  agi (match Pq P e with|[c]=>c|_=> .other) row j.toNat:Acc V).run m l=some (v,m',l')):
  MP base U M0 w0 w m G P (Instr.index t gx (.int k j)) v m':=by
 replace h:=ay h;obtain⟨_,m1,l1,h1,h⟩:=h;obtain⟨hk,rfl,rfl⟩:=gV h1;simp only[wo,Bool.not_eq_true',Nat.beq_eq] at hk;obtain⟨hsz,hlen,hok,hagg⟩:=hk;replace h:=ay h;obtain⟨_,m1,l1,h1,h⟩:=h;obtain⟨hj,rfl,rfl⟩:=gV h1;simp only[wo,decide_eq_true_eq] at hj;replace h:=ay h;obtain⟨row,m1,l1,h1,h⟩:=h;obtain⟨hrow,rfl,rfl⟩:=lV h1;simp only[bn] at hx;obtain⟨arr,rfl,hs⟩:=hx;obtain⟨g,hg,hr⟩:=akk hrow hs j.toNat ak;obtain⟨d',hd'⟩:=Jd hok;obtain⟨inf,PV⟩:=Es hd';have hone:=PU PV;have hrun:(Instr.index t (.agg arr) (.int k j)).run P w=.ok g w:=by
  unfold Instr.index;have hg':arr[j.toNat * inf.size]? =some g:=by rw[<-hone,hsz,Nat.mul_one];simpa using hg
  simp[asIntOf,run_underlying hu,hj.1,hj.2,sizeOf,typeInfo,PV];unfold Go.part;simp[VZ hd',hagg,hg']
 have fin:v=.d (nth row j.toNat)/\m'=m1:=by
  generalize (match Pq P e with|[c]=>c|_=>CT.other)=c at h;cases hx:nth row j.toNat<;>cases c<;>simp[agi,dG,ajY,cStr,hx,asInt,asBool,ajX,Acc.run] at h
  ·rename_i k1 n1 k2
   by_cases e:k1=k2
   ·subst e;simp[Acc.run] at h;exact⟨h.1.symm,h.2.1.symm⟩
   ·simp[e,Acc.run] at h
  ·exact⟨h.1.symm,h.2.1.symm⟩
  ·exact⟨h.1.symm,h.2.1.symm⟩
 obtain⟨rfl,rfl⟩:=fin;exact MP.same hA hrun (by simpa[bn] using hr)
def atc(hA:At base U M0 w0 w m G){t:TypeId}{x i:V}{gx gi:Value}(hx:bn G.μ m (Gh U w G) x gx)(hi:bn G.μ m (Gh U w G) i gi){v:V}{l l':Log}(h:(aqy P t x i).run m l=some (v,m',l')):
  MP base U M0 w0 w m G P (Instr.index t gx gi) v m':=by
 unfold aqy at h;cases hu:P.underlying t with
 |none=>rw[hu] at h;exact aN h
 |some d=>
  rw[hu] at h
  by_cases harr:∃n e,d=.array n e
  ·obtain⟨n,e,rfl⟩:=harr;cases x<;>try exact aN h
   cases i<;>try exact aN h
   rename_i y;cases y<;>try exact aN h
   simp only[bn,ro] at hi;subst hi;exact alJ hA hu hx h
  cases d<;>first|exact aN h|exact(harr ⟨_,_,rfl⟩).elim|skip
  cases x<;>try exact aN h
  rename_i y;cases y<;>try exact aN h
  rename_i s;cases i<;>try exact aN h
  rename_i y;cases y<;>try exact aN h
  rename_i k n;simp only[bn,ro] at hx hi;subst hx hi;dsimp only at h;cases hb:idx s n with
  |none=>rw[hb] at h;simp[Acc.run] at h
  |some b=>
   rw[hb] at h;change some (_,_,_)=_ at h;simp only[lM,qU] at h;obtain⟨rfl,rfl,_⟩:=h;obtain⟨h0,hlt,hget⟩:=agP hb;refine MP.same hA (g:=.int .u8 b.toNat) ?_ (by simp[bn,ro]);have hg:(ByteArray.mk ⟨s⟩)[n.toNat]? =some b:=by
    have hsz:n.toNat<(ByteArray.mk ⟨s⟩).size:=hlt;rw[getElem?_pos (ByteArray.mk ⟨s⟩) n.toNat hsz];have:s[n.toNat]=b:=by have:=List.getElem?_eq_getElem hlt;rw[this] at hget;exact Option.some.inj hget
    exact congrArg some this
   simp[Instr.index,asIntOf,run_underlying hu,h0,hg]
def azd(hA:At base U M0 w0 w m G){t ty:TypeId}{x:V}{gx:Value}(hx:bn G.μ m (Gh U w G) x gx)
  (hk:∀s,x=.d (.str s)->P.underlying t=some .string) (hk':(∀s,x≠.d (.str s))->∃e,P.underlying t=some (.slice e)) {v:V} {l l':Log} (h:(lenV x).run m l=some (v,m',l')):
  MP base U M0 w0 w m G P (Builtin.len_ #[t] ty #[gx]) v m':=by
 have slice:∀(a:Option Addr) (n c:Nat),(∃e,P.underlying t=some (.slice e))->MP base U M0 w0 w m G P (Builtin.len_ #[t] ty #[.slice a n c]) (.d (.int .i64 n)) m:=by intro a n c ⟨e,he⟩;refine MP.same hA (g:=.int .i64 n) ?_ (by simp[bn,ro]);simp[Builtin.len_,run_underlying he,goInt]
 cases x with
 |d y=>
  cases y with
  |str s=>change some (_,_,_)=_ at h;simp only[lM,qU] at h;obtain⟨rfl,rfl,_⟩:=h;simp only[bn,ro] at hx;subst hx;refine MP.same hA (g:=.int .i64 s.length) ?_ (by simp[bn,ro]);have hsz:(ByteArray.mk ⟨s⟩).size=s.length:=rfl;simp[Builtin.len_,run_underlying (hk s rfl),goInt,hsz]
  |sl o s rows=>change some (_,_,_)=_ at h;simp only[lM,qU] at h;obtain⟨rfl,rfl,_⟩:=h;simp only[bn,ro] at hx;obtain⟨a,cap,rfl,_⟩:=hx;exact slice a rows.length cap (hk' (by simp))
  |_=>exact aN h
 |nil s=>change some (_,_,_)=_ at h;simp only[lM,qU] at h;obtain⟨rfl,rfl,_⟩:=h;simp only[bn] at hx;subst hx;exact slice none 0 0 (hk' (by simp))
 |own r ver=>
  simp only[lenV] at h;replace h:=ay h;obtain⟨c,m2,l2,h2,h⟩:=h;rw[Bo] at h2;cases h2;cases hc:get r m with
  |none=>rw[hc] at h;exact aN h
  |some c=>
   rw[hc] at h;cases c with
   |arr fz fl tZ s rows=>simp only at h;replace h:=ay h;obtain⟨_,m2,l2,h2,h⟩:=h;obtain⟨hb,rfl,rfl⟩:=Lr h2;have hb:=Ia hb;subst hb;simp only[run_pure,lM,qU] at h;obtain⟨rfl,rfl,_⟩:=h;have hro:=hA.ok.look hc (by rw[hA.out];simp) false;simp only[bn,hc] at hx;rw[<-hx.2.2 trivial] at hro;simp only[ro] at hro;obtain⟨a,cap,rfl,_⟩:=hro;exact slice a rows.length cap (hk' (by simp))
   |_=>exact aN h
 |_=>exact aN h
def aqP(μ:Nat->Value)(m:Mem)(h:View):Option V->Option Value->Prop
 |none,g=>g=none
 |some v,g=>∃x,g=some x/\bn μ m h v x
def YA{μ:Nat->Value}{h:View}{o:Option V}{g:Option Value}{d n:Int}{l l':Log}(hq:aqP μ m h o g)(hr:(bound o d).run m l=some (n,m',l')):
  m'=m/\((g=none/\n=d)\/∃k,g=some (.int k n)):=by
 unfold bound at hr;split at hr
 ·change some (_,_,_)=_ at hr;simp only[lM,qU] at hr;obtain⟨rfl,rfl,_⟩:=hr;exact⟨rfl,.inl ⟨hq,rfl⟩⟩
 ·change some (_,_,_)=_ at hr;simp only[lM,qU] at hr;obtain⟨rfl,rfl,_⟩:=hr;obtain⟨x,rfl,hx⟩:=hq;simp only[bn,ro] at hx;exact⟨rfl,.inr ⟨_,by rw[hx]⟩⟩
 ·exact(ane hr).elim
def anm{α:Type}{l r:List α}{a b:Int}(h:cut l a b=some r):0<=a/\a<=b/\b<=l.length/\r=(l.drop a.toNat).take (b.toNat - a.toNat):=by
 unfold cut at h;cases hc:(decide (0<=a) && decide (a<=b) && decide (b<=(l.length:Int))) with
 |false=>simp[hc] at h
 |true=>simp only[hc,aJ,lM] at h;simp only[wo,decide_eq_true_eq] at hc;exact⟨hc.1.1,hc.1.2,hc.2,h.symm⟩
def Ud{aaU:Bool}{len cap:Nat}{lo hi:Option Value}{a b:Int}(ha:(lo=none/\a=0)\/∃k,lo=some (.int k a))(hb:(hi=none/\b=len)\/∃k,hi=some (.int k b))
  (h0:0<=a) (h1:a<=b) (h2:b<=len) (h3:len<=cap):(Instr.sliceBounds aaU len cap lo hi none).run P w=.ok (a.toNat,b.toNat,cap) w:=by
 have hbc:b<=cap:=ak;have h0b:0<=b:=ak;rcases ha with⟨rfl,rfl⟩|⟨k,rfl⟩<;>rcases hb with⟨rfl,rfl⟩|⟨k',rfl⟩
 ·simp[Instr.sliceBounds]
 ·simp[Instr.sliceBounds,Instr.sliceBound,asIntOf,h0b,hbc]
 ·simp[Instr.sliceBounds,Instr.sliceBound,asIntOf,h0,h2,h1]
 ·have:(a:Int)<=(b.toNat:Int):=ak;simp[Instr.sliceBounds,Instr.sliceBound,asIntOf,h0b,hbc,h0,this];omega
def aeQ{h:View}{s:Nat}:∀{rows:List Row} {b o:Nat} (n:Nat),rP h s rows b o->rP h s (rows.drop n) b (o+n * s)
 |rows,b,o,0,q=>by simpa using q
 |[],b,o,n+1,q=>by simp[rP]
 |r::rows,b,o,n+1,q=>by simp only[rP] at q;have:=aeQ n q.2.2;rw[List.drop_succ_cons,Nat.add_mul,Nat.one_mul,show o+(n * s+s)=o+s+n * s by omega];exact this
def aeR{h:View}{s:Nat}:∀{rows:List Row} {b o:Nat} (n:Nat),rP h s rows b o->rP h s (rows.take n) b o
 |rows,b,o,0,q=>by simp[rP]
 |[],b,o,n+1,q=>by simp[rP]
 |r::rows,b,o,n+1,q=>by simp only[rP] at q;simp only[List.take_succ_cons,rP];exact⟨q.1,q.2.1,aeR n q.2.2⟩
def avo{h:View}{o:Bool}{s:Nat}{rows rows':List Row}{t e:TypeId}{inf:TypeInfo}{g:Value}{lo hi:Option Value}{a b:Int}(hu:P.underlying t=some (.slice e))(hi':P.info? e=some inf)(hs:s=inf.size)
  (hq:ro h (.sl o s rows) g) (ha:(lo=none/\a=0)\/∃k,lo=some (.int k a)) (hb:(hi=none/\b=rows.length)\/∃k,hi=some (.int k b)) (hc:cut rows a b=some rows'):
  ∃g',(Instr.sliceAt t g lo hi none).run P w=.ok g' w/\ro h (.sl false s rows') g':=by
 obtain⟨h0,h1,h2,rfl⟩:=anm hc;simp only[ro] at hq;obtain⟨ad,cap,rfl,hcap,hne⟩:=hq;have hrun:=Ud (P:=P) (w:=w) (aaU:=true) ha hb h0 h1 ak hcap;have hlen:(List.take (b.toNat - a.toNat) (List.drop a.toNat rows)).length=b.toNat - a.toNat:=by simp;omega
 refine⟨.slice (if cap=a.toNat then ad else ad.map (·.add (a.toNat * inf.size))) (b.toNat - a.toNat) (cap - a.toNat), ?_, ?_⟩
 ·simp only[Instr.sliceAt,Sem.run_bind,run_underlying hu,Result.andThen_ok,Instr.slice,hrun,sizeOf,typeInfo];simp[hi']
 ·simp only[ro];refine⟨_,cap - a.toNat,by rw[hlen],by rw[hlen];omega, ?_⟩;intro hne';have hpos:0<b.toNat - a.toNat:=by rw[<-hlen];exact List.length_pos_iff.2 hne'
  have hrows:rows≠[]:=by intro e;subst e;simp at hne'
  obtain⟨bb,oo,rfl,hr⟩:=hne hrows;have hca:¬cap=a.toNat:=ak;refine⟨bb,oo+a.toNat * s, ?_,aeR _ (aeQ _ hr)⟩;subst hs;simp[hca,Addr.add]
def aji(s:List UInt8)(a b:Nat)(h:a<=b)(hb:b<=s.length):(ByteArray.mk ⟨s⟩).extract a b=⟨⟨(s.drop a).take (b - a)⟩⟩:=by
 have:((ByteArray.mk ⟨s⟩).extract a b).data=⟨(s.drop a).take (b - a)⟩:=by rw[ByteArray.data_extract];apply Array.ext';simp[Array.toList_extract,List.extract_eq_take_drop]
 exact congrArg ByteArray.mk this
def atd(hA:At base U M0 w0 w m G){t:TypeId}{x:V}{gx:Value}{lo hi:Option V}{glo ghi:Option Value}(hx:bn G.μ m (Gh U w G) x gx)(hlo:aqP G.μ m (Gh U w G) lo glo)(hhi:aqP G.μ m (Gh U w G) hi ghi)
  {v:V} {l l':Log} (hh0:(aqz P t x lo hi).run m l=some (v,m',l')):MP base U M0 w0 w m G P (Instr.sliceAt t gx glo ghi none) v m':=by
 have gen:∀(x:V),bn G.μ m (Gh U w G) x gx->(do
   let e<-op' (elT P t)
   ck (Yg P e)
   let(s,rows)<-seen x
   ck (Nat.beq s (uw P e))
   let l<-bound lo 0
   let h<-bound hi rows.length
   let rows'<-op' (cut rows l h)
   match x with
   | .own r ver=>do
    match<-rd r with
    |some (.arr fz fl tZ s rows)=>do
     ck (Nat.beq ver tZ)
     match fz with
     |true=>pure (.d (.sl false s rows'))
     |false=>do
      wr r (.arr true fl ver s rows)
      pure (.d (.sl false s rows'))
    |_=> .fail
   |_=>pure (.d (.sl false s rows')):Acc V).run m l=some (v,m',l')->MP base U M0 w0 w m G P (Instr.sliceAt t gx glo ghi none) v m':=by
  intro x hx h;replace h:=ay h;obtain⟨e,m1,l1,h1,h⟩:=h;obtain⟨he,rfl,rfl⟩:=lV h1;have he:=Yv he;replace h:=ay h;obtain⟨_,m1,l1,h1,h⟩:=h;obtain⟨hok,rfl,rfl⟩:=gV h1;obtain⟨d',hd'⟩:=Jd hok;obtain⟨inf,PV⟩:=Es hd';have hsz:=PU PV;replace h:=ay h;obtain⟨⟨s,rows⟩,m1,l1,h1,h⟩:=h;obtain⟨rfl,hfull⟩:=arZ hA.ok hx hA.out h1;simp only at h;replace h:=ay h;obtain⟨_,m2,l2,h2,h⟩:=h;obtain⟨hs,rfl,rfl⟩:=gV h2;have hs:=Ia hs;replace h:=ay h;obtain⟨a,m2,l2,h2,h⟩:=h;obtain⟨rfl,ha⟩:=YA hlo h2;replace h:=ay h;obtain⟨b,m3,l3,h3,h⟩:=h;obtain⟨rfl,hb⟩:=YA hhi h3;replace h:=ay h;obtain⟨rows',m4,l4,h4,h⟩:=h;obtain⟨hcut,rfl,rfl⟩:=lV h4;have ar5:∀{h':View} {G1:GS} {m1':Mem} {o:Bool},Nx base U M0 w0 w m4 G w m1' G1->h'=Gh U w G1->ro h' (.sl o s rows) gx->MP base U M0 w0 w m4 G P (Instr.sliceAt t gx glo ghi none) (.d (.sl false s rows')) m1':=by intro h' G1 m1' o hnx hh hro;subst hh;obtain⟨g',hrun,hg'⟩:=avo (w:=w) he PV (hs.trans hsz) hro ha hb hcut;exact⟨g',w,G1,hrun,hnx,hg'⟩
  cases x with
  |own r ver=>
   simp only at h;replace h:=ay h;obtain⟨c,m5,l5,h5,h⟩:=h;rw[Bo] at h5;cases h5;cases hc:get r m4 with
   |none=>rw[hc] at h;exact aN h
   |some c=>
    rw[hc] at h;cases c with
    |arr fz fl tZ s2 aHW=>
     simp only at h;replace h:=ay h;obtain⟨_,m5,l5,h5,h⟩:=h;obtain⟨hbq,rfl,rfl⟩:=gV h5;have hbq:=Ia hbq;subst hbq;simp only[seen] at h1;replace h1:=ay h1;obtain⟨c,m6,l6,h6,h1⟩:=h1;rw[Bo] at h6;cases h6;rw[hc] at h1;simp only at h1;replace h1:=ay h1;obtain⟨_,m6,l6,h6,h1⟩:=h1;obtain⟨_,rfl,rfl⟩:=gV h6;simp only[run_pure,lM,qU] at h1;obtain⟨⟨rfl,rfl⟩,_⟩:=h1;have hx':=hx;simp only[bn,hc] at hx;have hgx:=hx.2.2 trivial;cases fz with
     |true=>simp only[run_pure,lM,qU] at h;obtain⟨rfl,rfl,_⟩:=h;have hq:=(hA.ok.cell r _ hc (by rw[hA.out];simp)).1;rw[<-hgx] at hq;exact ar5 hA.nx rfl (aeA (fl:=fl) hq)
     |false=>
     simp only at h;replace h:=ay h;obtain⟨_,m5,l5,h5,h⟩:=h;rw[PN] at h5;simp only[lM,qU] at h5;obtain⟨_,rfl,_⟩:=h5;simp only[run_pure,lM,qU] at h;obtain⟨rfl,rfl,_⟩:=h;obtain⟨k1,k2,k3⟩:=hA.ok.freeze hc (by rw[hA.out];simp);rw[<-hgx] at k3;rw[hA.E] at k3;exact ar5 (hA.still k1 k2 hA.out) rfl (aeA (fl:=fl) k3)
    |_=>exact aN h
  |d y=>
   cases y with
   |sl o s2 aHW=>simp only[seen,run_pure,lM,qU] at h1 h;obtain⟨⟨rfl,rfl⟩,_⟩:=h1;obtain⟨rfl,rfl,_⟩:=h;exact ar5 (o:=o) hA.nx rfl hx
   |_=>exact aN h1
  |nil s2=>simp only[seen,run_pure,lM,qU] at h1 h;obtain⟨⟨rfl,rfl⟩,_⟩:=h1;obtain⟨rfl,rfl,_⟩:=h;refine ar5 (o:=false) hA.nx rfl ?_;simp only[bn] at hx;subst hx;simp[ro]
  |_=>exact aN h1
 have h:=hh0;cases x with
 |d y=>
  cases y with
  |str s=>
   simp only[aqz] at h;replace h:=ay h;obtain⟨_,m1,l1,h1,h⟩:=h;obtain⟨hu,rfl,rfl⟩:=gV h1;replace h:=ay h;obtain⟨a,m2,l2,h2,h⟩:=h;obtain⟨rfl,ha⟩:=YA hlo h2;replace h:=ay h;obtain⟨b,m3,l3,h3,h⟩:=h;obtain⟨rfl,hb⟩:=YA hhi h3;replace h:=ay h;obtain⟨s',m4,l4,h4,h⟩:=h;obtain⟨hcut,rfl,rfl⟩:=lV h4;simp only[run_pure,lM,qU] at h;obtain⟨rfl,rfl,_⟩:=h;obtain⟨h0,h1,h2,rfl⟩:=anm hcut;simp only[bn,ro] at hx;subst hx;have hu:P.underlying t=some .string:=by
    cases hd:P.underlying t with
    |none=>simp[hd] at hu
    |some d=>rw[hd] at hu;cases d<;>simp at hu;rfl
   have hrun:=Ud (P:=P) (w:=w) (aaU:=false) (len:=s.length) (cap:=s.length) ha hb h0 h1 h2 (Nat.le_refl _);have hsize:(ByteArray.mk ⟨s⟩).size=s.length:=rfl;refine MP.same hA (g:=.string ((ByteArray.mk ⟨s⟩).extract a.toNat b.toNat)) ?_ ?_
   ·simp only[Instr.sliceAt,Sem.run_bind,run_underlying hu,Result.andThen_ok,Instr.slice];simp[hsize,hrun]
   ·simp only[bn,ro];rw[aji s _ _ ak ak]
  |sl o s rows=>exact gen _ hx h
  |int _ _=>exact gen _ hx h
  |bool _=>exact gen _ hx h
  |XW=>exact gen _ hx h
 |nil _=>exact gen _ hx h
 |own _ _=>exact gen _ hx h
 |ptr _ _=>exact gen _ hx h
 |JI _ _ _ _=>exact gen _ hx h
 |F8 _ _=>exact gen _ hx h
 |clo _ _ _=>exact gen _ hx h
 |agg _=>exact gen _ hx h
 |XH _=>exact gen _ hx h
 |undef=>exact gen _ hx h
def ate(hA:At base U M0 w0 w m G){t:TypeId}{x:V}{gx:Value}{lo hi:Option V}{glo ghi:Option Value}(hx:bn G.μ m (Gh U w G) x gx)(hlo:aqP G.μ m (Gh U w G) lo glo)(hhi:aqP G.μ m (Gh U w G) hi ghi)
  {v:V} {l l':Log} (h:(alz P t x lo hi).run m l=some (v,m',l')):MP base U M0 w0 w m G P (Instr.sliceAt t gx glo ghi none) v m':=by
 cases x with
 |F8 row off=>
  simp only[alz] at h;replace h:=ay h;obtain⟨q,m1,l1,h1,h⟩:=h;obtain⟨ha,rfl,rfl⟩:=lV h1;obtain⟨n,e⟩:=q;simp only at h;replace h:=ay h;obtain⟨_,m1,l1,h1,h⟩:=h;obtain⟨hok,rfl,rfl⟩:=gV h1;replace h:=ay h;obtain⟨_,m1,l1,h1,h⟩:=h;obtain⟨hk,rfl,rfl⟩:=gV h1;simp only[wo,Nat.beq_eq] at hk;obtain⟨hsz,rfl,hlen⟩:=hk;cases lo<;>try exact aN h
  cases hi<;>try exact aN h
  simp only[run_pure,lM,qU] at h;obtain⟨rfl,rfl,_⟩:=h;simp only[aqP] at hlo hhi;subst hlo hhi;simp only[bn] at hx;obtain⟨b,o,rfl,hr⟩:=hx;have hu:=anl ha;obtain⟨d',hd'⟩:=Jd hok;obtain⟨inf,PV⟩:=Es hd';have hrun:=Ud (P:=P) (w:=w) (aaU:=false) (len:=n) (cap:=n) (lo:=none) (hi:=none) (a:=0) (b:=n) (.inl ⟨rfl,rfl⟩) (.inl ⟨rfl,rfl⟩) ak ak ak (Nat.le_refl _);refine MP.same hA (g:=.slice (some ⟨b,o,none⟩) n n) ?_ ?_
  ·simp only[Instr.sliceAt,Sem.run_bind,run_underlying hu,Result.andThen_ok,Instr.sureAddr,sizeOf,typeInfo];simp only[Sem.run_pure,Result.andThen_ok];rw[hrun];simp[PV,Vk]
  ·simp only[bn,ro];refine⟨_,n,by simp[hlen],by simp[hlen],λ_=>⟨b,o,rfl,agr row b o hr⟩⟩
 |_=>exact atd hA hx hlo hhi h
def Xb{H:Heap}{h:View}{fl:Bool}{s:Nat}:∀{rows:List Row} {cs:List Value} {N:List Nat} (n:Nat),KH H h fl s rows cs N->∃N' N2,N=N'++N2/\KH H h fl s (rows.take n) cs N'
 |rows,cs,N,0,q=>⟨[],N,by simp,by cases fl<;>simp[KH,iU,iP]⟩
 |[],cs,N,n+1,q=>⟨N,[],by simp,by simpa using q⟩
 |r::rs,cs,N,n+1,q=>by
  cases fl with
  |true=>simp only[KH,iU] at q;obtain⟨⟨q1,q2,q3⟩,rfl⟩:=q;obtain⟨N',N2,e,k⟩:=Xb (H:=H) (fl:=true) n (show KH H h true s rs (cs.drop s) [] from⟨q3,rfl⟩);obtain⟨rfl,rfl⟩:=List.append_eq_nil_iff.1 e.symm;exact⟨[],[],rfl,⟨⟨q1,q2,k.1⟩,rfl⟩⟩
  |false=>simp only[KH,iP] at q;obtain⟨q1,N1,N3,rfl,q2,q3⟩:=q;obtain⟨N',N2,rfl,k⟩:=Xb (fl:=false) n (show KH H h false s rs (cs.drop s) N3 from q3);refine⟨N1++N',N2,by simp, ?_⟩;simp only[KH,List.take_succ_cons,iP];exact⟨q1,N1,N',rfl,q2,k⟩
def atf(hA:At base U M0 w0 w m G){t:TypeId}{x:V}{gx:Value}{hi:Option V}{ghi:Option Value}(hx:bn G.μ m (Gh U w G) x gx)(hhi:aqP G.μ m (Gh U w G) hi ghi)
  {v:V} {l l':Log} (h:(aqA P t x hi).run m l=some (v,m',l')):MP base U M0 w0 w m G P (Instr.sliceAt t gx none ghi none) v m':=by
 simp only[aqA] at h;replace h:=ay h;obtain⟨e,m1,l1,h1,h⟩:=h;obtain⟨he,rfl,rfl⟩:=lV h1;have hu:=Yv he;replace h:=ay h;obtain⟨_,m2,l2,h2,h⟩:=h;obtain⟨hok,rfl,rfl⟩:=gV h2;obtain⟨d',hd'⟩:=Jd hok;obtain⟨inf,PV⟩:=Es hd';have hsz:=PU PV;cases x<;>try exact aN h
 rename_i r ver;simp only at h;replace h:=ay h;obtain⟨c,m3,l3,h3,h⟩:=h;rw[Bo] at h3;cases h3;cases hc:get r m2 with
 |none=>rw[hc] at h;exact aN h
 |some c=>
 rw[hc] at h;cases c with
 |box _ _=>exact aN h
 |dead=>exact aN h
 |arr fz fl tZ s rows=>
 cases fz with
 |true=>exact aN h
 |false=>
 simp only at h;replace h:=ay h;obtain⟨_,m3,l3,h3,h⟩:=h;obtain⟨hb,rfl,rfl⟩:=gV h3;have hb:=Ia hb;subst hb;replace h:=ay h;obtain⟨_,m4,l4,h4,h⟩:=h;obtain⟨hs,rfl,rfl⟩:=gV h4;have hs:=Ia hs;subst hs;replace h:=ay h;obtain⟨k,m5,l5,h5,h⟩:=h;obtain⟨rfl,hb⟩:=YA hhi h5;replace h:=ay h;obtain⟨_,m6,l6,h6,h⟩:=h;obtain⟨hk,rfl,rfl⟩:=gV h6;simp only[wo,decide_eq_true_eq] at hk;replace h:=ay h;obtain⟨_,m7,l7,h7,h⟩:=h;rw[PN] at h7;simp only[lM,qU] at h7;obtain⟨_,rfl,_⟩:=h7;simp only[run_pure,lM,qU] at h;obtain⟨rfl,rfl,_⟩:=h;simp only[bn,hc] at hx;have hx:=hx.2.2 trivial;subst hx;have hcell:=hA.ok.cell r _ hc (by rw[hA.out];simp);simp only[uz] at hcell;have aEN:¬ver=ver+1:=ak;have hlen:(rows.take k.toNat).length=k.toNat:=by rw[zlt];omega
 have fin:∀(g:Value) (N:List Nat),N.Nodup->(∀b,b∈N->b∈G.F r)->(∀h':View,(Gh U w G).le h'->aaT (dO w) h' fl (uw P e) (rows.take k.toNat) g N)->(Instr.sliceAt t (G.μ r) none ghi none).run P w=.ok g w->aaU g->
   MP base U M0 w0 w m6 G P (Instr.sliceAt t (G.μ r) none ghi none) (.own r (ver+1)) (put r (.arr false fl (ver+1) (uw P e) (rows.take k.toNat)) m6):=by
  intro g N hN hNs WY hrun hone;refine⟨g,w,_,hrun,hA.ok.rewrite hA.out hA.fr (μ':=upM G.μ r g) (N:=N) hc (Keep.refl _ _) hN (λb hb=>⟨.inl (hNs b hb),(hA.ok.lt b (.inr ⟨r,hNs b hb⟩)).1⟩) (λj hj=>PS g hj) ⟨ak,rfl,λe=>absurd e aEN⟩ (λh' hv hml _=> ?_), ?_⟩
  ·simp only[uz,Rj];exact WY h' hv
  ·simp[bn,kD,hone]
 rcases hcell with⟨rfl,hμ,hF⟩|⟨b,cap,cs,T,N',k1,k2,k3,k4,k5,k6⟩
 ·have hrun:=Ud (P:=P) (w:=w) (aaU:=true) (len:=0) (cap:=0) (lo:=none) (hi:=ghi) (a:=0) (b:=k) (.inl ⟨rfl,rfl⟩) hb ak hk.1 hk.2 (Nat.le_refl _);have hk0:k.toNat=0:=by have:=hk.2;simp at this;omega
  refine fin (.slice none 0 0) [] (by simp) (by simp) (λh' hv=> .inl ⟨by simp,rfl,rfl⟩) ?_ ⟨_,_,_,rfl⟩;rw[hμ];simp only[Instr.sliceAt,Sem.run_bind,run_underlying hu,Result.andThen_ok,Instr.slice,hrun,sizeOf,typeInfo];simp[PV,hk0]
 ·have hrun:=Ud (P:=P) (w:=w) (aaU:=true) (len:=rows.length) (cap:=cap) (lo:=none) (hi:=ghi) (a:=0) (b:=k) (.inl ⟨rfl,rfl⟩) hb ak hk.1 hk.2 k2;have k5':KH (dO w) (Gh U w G) fl (uw P e) rows cs.toList N':=by
   cases fl with
   |true=>exact k5
   |false=>exact k5
  obtain⟨N1,N2,aHX,hq⟩:=Xb k.toNat k5';have hnd:=hA.ok.nd r;rw[k6,aHX,<-zca] at hnd;refine fin (.slice (some ⟨b,0,none⟩) k.toNat cap) (b::N1) (List.nodup_append.1 hnd).1 (λj hj=> ?_) (λh' hv=> .inr ⟨b,cap,cs,T,N1,by rw[hlen],by rw[hlen];have:=hk.2;omega,k3,k4, ?_,rfl⟩) ?_ ⟨_,_,_,rfl⟩
  ·rw[k6,aHX,<-zca];exact List.mem_append_left _ hj
  ·have:=MQ hv (λ_ _=>rfl) hq;cases fl with
   |true=>exact this
   |false=>exact this
  ·rw[k1];simp only[Instr.sliceAt,Sem.run_bind,run_underlying hu,Result.andThen_ok,Instr.slice,hrun,sizeOf,typeInfo];simp[PV,Vk]
def avp(hA:At base U M0 w0 w m G){t:TypeId}{x lo:V}{gx glo:Value}(hx:bn G.μ m (Gh U w G) x gx)(hlo:bn G.μ m (Gh U w G) lo glo)
  {v:V} {l l':Log} (h:(aDE P t x lo).run m l=some (v,m',l')):MP base U M0 w0 w m G P (Instr.sliceAt t gx (some glo) none none) v m':=aN h
def gvD:D->Value
 | .int k n=> .int k n
 | .bool b=> .bool b
 | .str s=> .string ⟨⟨s⟩⟩
 |_=> .nilFunc
def aHY{h:View}{x:D}(hf:x.flat=true):ro h x (gvD x):=by
 cases x with
 |sl _ _ _=>simp[D.flat] at hf
 |_=>simp[gvD,ro]
def aze{op:BinOp}{k:IntKind}{a b:Int}{v:V}{t:TypeId}(ho:shiftOp op=false)(hz:nz op b=true)(h:aEF op k a b=some v):∃x,v=.d x/\x.flat=true/\(binOp op t (.int k a) (.int k b)).run P w=.ok (gvD x) w:=by
 cases op
 case add=>cases h;exact⟨_,rfl,rfl,by simp[binOp,Op.intArith,gvD]⟩
 case sub=>cases h;exact⟨_,rfl,rfl,by simp[binOp,Op.intArith,gvD]⟩
 case mul=>cases h;exact⟨_,rfl,rfl,by simp[binOp,Op.intArith,gvD]⟩
 case and=>cases h;exact⟨_,rfl,rfl,by simp[binOp,Op.intBits,gvD]⟩
 case or=>cases h;exact⟨_,rfl,rfl,by simp[binOp,Op.intBits,gvD]⟩
 case xor=>cases h;exact⟨_,rfl,rfl,by simp[binOp,Op.intBits,gvD]⟩
 case eql=>cases h;exact⟨_,rfl,rfl,by simp[binOp,Op.intCmp,gvD]⟩
 case neq=>cases h;exact⟨_,rfl,rfl,by simp[binOp,Op.intCmp,gvD]⟩
 case lss=>cases h;exact⟨_,rfl,rfl,by simp[binOp,Op.intCmp,gvD]⟩
 case leq=>cases h;exact⟨_,rfl,rfl,by simp[binOp,Op.intCmp,gvD]⟩
 case gtr=>cases h;exact⟨_,rfl,rfl,by simp[binOp,Op.intCmp,gvD]⟩
 case geq=>cases h;exact⟨_,rfl,rfl,by simp[binOp,Op.intCmp,gvD]⟩
 case quo=>
  have hb:¬b=0:=by simpa[nz] using hz
  ·cases h;exact⟨_,rfl,rfl,by simp[binOp,Op.intDiv,hb,gvD]⟩
 case rem=>
  have hb:¬b=0:=by simpa[nz] using hz
  ·cases h;exact⟨_,rfl,rfl,by simp[binOp,Op.intDiv,hb,gvD]⟩
 all_goals first|(cases ho;done)|(cases h;done)
def ano{op:BinOp}{k k':IntKind}{a b:Int}{v:V}{t:TypeId}(h:abP op k a b=some v):∃x,v=.d x/\x.flat=true/\(binOp op t (.int k a) (.int k' b)).run P w=.ok (gvD x) w:=by
 unfold abP at h
 by_cases hb:b<0
 ·simp[hb] at h
 ·simp only[hb,decide_false,aW] at h;cases op<;>simp only at h<;>first|(cases h;done)|skip
  all_goals
   cases h;exact⟨_,rfl,rfl,by simp[binOp,Op.shift,hb,gvD]⟩
def toList_mk(s:List UInt8):(ByteArray.mk ⟨s⟩).toList=s:=by rw[ByteArray.toList_eq]
def atg(a b:List UInt8):ByteArray.mk ⟨a⟩++ByteArray.mk ⟨b⟩=⟨⟨a++b⟩⟩:=by
 have:(ByteArray.mk ⟨a⟩++ByteArray.mk ⟨b⟩).data=⟨a++b⟩:=by rw[ByteArray.data_append];simp
 exact congrArg ByteArray.mk this
def azf{op:BinOp}{a b:List UInt8}{v:V}{t:TypeId}{l l':Log}(h:(aEG op a b).run m l=some (v,m',l')):
  m'=m/\∃x,v=.d x/\x.flat=true/\(binOp op t (.string ⟨⟨a⟩⟩) (.string ⟨⟨b⟩⟩)).run P w=.ok (gvD x) w:=by
 cases op<;>simp only[aEG] at h<;>try exact aN h
 case add=>
  cases hc:Nat.ble (a.length+b.length) aqs with
  |false=>rw[hc] at h;simp[Acc.run] at h
  |true=>
   rw[hc] at h;change some (_,_,_)=_ at h;simp only[lM,qU] at h;obtain⟨rfl,rfl,_⟩:=h;have hc:=Nat.le_of_ble_eq_true hc;have hm:IntKind.i64.max=(aqs:Int):=by decide
   have hn:¬((((ByteArray.mk ⟨a⟩).size+(ByteArray.mk ⟨b⟩).size:Nat):Int)>IntKind.i64.max):=by rw[hm];have h1:(ByteArray.mk ⟨a⟩).size=a.length:=rfl;have h2:(ByteArray.mk ⟨b⟩).size=b.length:=rfl;rw[h1,h2];omega
   refine⟨rfl,_,rfl,rfl, ?_⟩;simp only[binOp,Op.stringOp,if_neg hn,Sem.run_pure,atg,gvD]
 all_goals
  change some (_,_,_)=_ at h;simp only[lM,qU] at h;obtain⟨rfl,rfl,_⟩:=h;refine⟨rfl,_,rfl,rfl, ?_⟩;simp[binOp,Op.stringOp,toList_mk,gvD]
def aqQ{t:TypeId}(h:boolT P t=true):P.underlying t=some .bool:=by
 unfold boolT at h;cases hd:P.underlying t with
 |none=>simp[hd] at h
 |some d=>rw[hd] at h;cases d<;>simp at h;rfl
def aeS{op:BinOp}{t:TypeId}{ox oy:Operand}{a b:Value}(h:∀c,a≠.agg c)(hn:a≠.nilIface):(eqGuard op t ox oy a b).run P w=.ok () w:=by
 unfold eqGuard;cases op<;>simp
 all_goals cases a<;>first|exact absurd rfl (h _)|exact absurd rfl hn|simp
def ajj{t:TypeId}(h:P.underlying t=some .bool)(a b:Bool):(Op.equalIn Op.maxDepth t (.bool a) (.bool b)).run P w=.ok (a==b) w:=by
 have:∀d,(Op.equalIn (d+1) t (.bool a) (.bool b)).run P w=.ok (a==b) w:=by intro d;simp[Op.equalIn,run_underlying h]
 exact this 9999
def aEP(hA:At base U M0 w0 w m G){op:BinOp}{t:TypeId}{ox oy:Operand}{x y:V}{gx gy:Value}(hx:bn G.μ m (Gh U w G) x gx)(hy:bn G.μ m (Gh U w G) y gy){v:V}{l l':Log}(h:(bin (boolT P t) op x y).run m l=some (v,m',l')):
  MP base U M0 w0 w m G P (do eqGuard op t ox oy gx gy;binOp op t gx gy) v m':=by
 have close:∀{x:D},(∀c,gx≠.agg c)->gx≠.nilIface->x.flat=true->(binOp op t gx gy).run P w=.ok (gvD x) w->MP base U M0 w0 w m G P (do eqGuard op t ox oy gx gy;binOp op t gx gy) (.d x) m:=by intro x h1 h2 hq hr;refine MP.same hA (g:=gvD x) ?_ (by simp only[bn];exact aHY hq);simp only[Sem.run_bind,aeS h1 h2,Result.andThen_ok,hr]
 unfold bin at h;split at h
 ·simp only[bn,ro] at hx hy;subst hx hy;split at h
  ·rename_i ho;cases hb:abP op _ _ _ with
   |none=>rw[hb] at h;simp[Acc.run] at h
   |some r=>rw[hb] at h;change some (_,_,_)=_ at h;simp only[lM,qU] at h;obtain⟨rfl,rfl,_⟩:=h;obtain⟨x,rfl,hq,hr⟩:=ano (P:=P) (w:=w) (t:=t) hb;exact close (by simp) (by simp) hq hr
  ·rename_i ho;split at h
   ·rename_i hk;have hk:=of_decide_eq_true hk;subst hk;cases hz:nz op _ with
    |false=>rw[hz] at h;cases h
    |true=>
    rw[hz] at h;simp only[Acc.run] at h;cases hb:aEF op _ _ _ with
    |none=>rw[hb] at h;simp[Acc.run] at h
    |some r=>rw[hb] at h;change some (_,_,_)=_ at h;simp only[lM,qU] at h;obtain⟨rfl,rfl,_⟩:=h;obtain⟨x,rfl,hq,hr⟩:=aze (P:=P) (w:=w) (t:=t) ho hz hb;exact close (by simp) (by simp) hq hr
   ·exact aN h
 ·simp only[bn,ro] at hx hy;subst hx hy;obtain⟨rfl,x,rfl,hq,hr⟩:=azf (P:=P) (w:=w) (t:=t) h;exact close (by simp) (by simp) hq hr
 ·simp only[bn,ro] at hx hy;subst hx hy;split at h
  ·rename_i hbt;have hbt:=aqQ hbt;cases op<;>simp only[aHK] at h<;>try(simp[Acc.run] at h;done)
   all_goals
    change some (_,_,_)=_ at h;simp only[lM,qU] at h;obtain⟨rfl,rfl,_⟩:=h;refine close (by simp) (by simp) rfl ?_;simp only[binOp,Op.equal,Sem.run_bind,ajj hbt,Result.andThen_ok,Sem.run_pure,gvD]
  ·exact aN h
 ·exact aN h
def anp{t:TypeId}(h:sliceT P t=true):∃e,P.underlying t=some (.slice e):=by
 unfold sliceT at h;cases hd:P.underlying t with
 |none=>simp[hd] at h
 |some d=>rw[hd] at h;cases d<;>simp at h;exact⟨_,rfl⟩
def ab6{t e:TypeId}(h:P.underlying t=some (.slice e))(a:Option Addr)(n c:Nat):(Op.equal t (.slice a n c) (.slice none 0 0)).run P w=.ok a.isNone w:=by
 have:∀d,(Op.equalIn (d+1) t (.slice a n c) (.slice none 0 0)).run P w=.ok a.isNone w:=by intro d;cases a<;>simp[Op.equalIn,run_underlying h]
 exact this 9999
def ath{t:TypeId}{x y:V}{r:Bool}(hp:adg P t x=true)(h:aqt x y=some r){μ:Nat->Value}{mm:Mem}{hh:View}{gx gy:Value}(hx:bn μ mm hh x gx)(hy:bn μ mm hh y gy)(d:Nat):
  (Op.equalIn (d+1) t gx gy).run P w=.ok r w/\(∃d,P.underlying t=some d)/\RH P t=false:=by
 unfold aqt at h;split at h
 ·rename_i k a k' b;simp only[bn,ro] at hx hy;subst hx hy;unfold adg at hp;split at hp<;>try cases hp
  all_goals rename_i hu he
  all_goals try cases he
  cases hk:decide (k=k') with
  |false=>rw[hk] at h;cases h
  |true=>rw[hk] at h;cases h;have:=of_decide_eq_true hk;subst this;exact⟨run_equalIn_int w d t k _ a b hu,⟨_,hu⟩,by simp[RH,hu]⟩
 ·rename_i a b;simp only[bn,ro] at hx hy;subst hx hy;unfold adg at hp;split at hp<;>try cases hp
  all_goals rename_i hu he
  all_goals try cases he
  cases h;refine⟨?_,⟨_,hu⟩,by simp[RH,hu]⟩;have:=run_equalIn_string w d t ⟨⟨a⟩⟩ ⟨⟨b⟩⟩ hu;rw[ByteArray.toList_eq,ByteArray.toList_eq] at this;exact this
 ·rename_i a b;simp only[bn,ro] at hx hy;subst hx hy;unfold adg at hp;split at hp<;>try cases hp
  all_goals rename_i hu he
  all_goals try cases he
  cases h;exact⟨run_equalIn_bool' w d t a b hu,⟨_,hu⟩,by simp[RH,hu]⟩
 ·cases h
def agQ{μ:Nat->Value}{mm:Mem}{hh:View}{xs ys:List V}{gx gy:Array Value}(hx:dh μ mm hh xs gx.toList)(hy:dh μ mm hh ys gy.toList)(d:Nat):∀{fs:List Field} {r:Bool},afV P fs xs ys=some r->
  (Op.eqFields (d+1) gx gy fs).run P w=.ok r w
 |[],r,h=>by cases h;simp[Op.eqFields]
 |f::fs,r,h=>by
  rw[afV] at h;split at h
  ·rename_i x y hxo hyo
   cases hc : (adg P f.type x && (f.name != "_")) with
   |false=>rw[hc] at h;cases h
   |true=>
    rw[hc,aJ] at h;rw[wo] at hc
    have hname : f.name ≠ "_" := by simpa using hc.2
    split at h
    ·rename_i a b ha hb;cases h;obtain⟨g1,e1,s1⟩:=ZL hx hxo;obtain⟨g2,e2,s2⟩:=ZL hy hyo;obtain⟨h1,⟨du,hu⟩,h2⟩:=ath (w:=w) hc.1 ha s1 s2 d;have p1:(Go.part f.type gx f.offset).run P w=.ok g1 w:=by
      have e1':gx[f.offset]? =some g1:=by simpa using e1
      simp[Go.part,VZ hu,h2,e1']
     have p2:(Go.part f.type gy f.offset).run P w=.ok g2 w:=by
      have e2':gy[f.offset]? =some g2:=by simpa using e2
      simp[Go.part,VZ hu,h2,e2']
     rw[Op.eqFields,if_pos hname];simp only[Sem.run_bind,p1,p2,h1,Result.andThen_ok];cases a with
     |false=>simp
     |true=>simpa using agQ hx hy d hb
    ·cases h
  ·cases h
def ati(hA:At base U M0 w0 w m G){x:V}{gx:Value}(hx:bn G.μ m (Gh U w G) x gx){b:Bool}{l l':Log}(h:(aqu x).run m l=some (b,m',l')):
  m'=m/\∃a n c,gx=.slice a n c/\b=a.isNone:=by
 have full:∀{o:Bool} {s:Nat} {rows:List Row} {g:Value} {h:View},ro h (.sl o s rows) g->1<=rows.length->∃a n c,g=.slice a n c/\false=a.isNone:=by intro o s rows g h hr hl;simp only[ro] at hr;obtain⟨a,cap,rfl,_,hs⟩:=hr;obtain⟨b,o,rfl,_⟩:=hs (by intro e;rw[e] at hl;simp at hl);exact⟨_,_,_,rfl,rfl⟩
 unfold aqu at h;split at h
 ·simp only[run_pure,lM,qU] at h;obtain⟨rfl,rfl,_⟩:=h;simp only[bn] at hx;exact⟨rfl,_,_,_,hx,rfl⟩
 ·replace h:=ay h;obtain⟨_,m2,l2,h2,h⟩:=h;obtain⟨hb,rfl,rfl⟩:=Lr h2;simp only[run_pure,lM,qU] at h;obtain⟨rfl,rfl,_⟩:=h;simp only[bn] at hx;exact⟨rfl,full hx (Nat.le_of_ble_eq_true hb)⟩
 ·rename_i r ver;replace h:=ay h;obtain⟨c,m2,l2,h2,h⟩:=h;rw[Bo] at h2;cases h2;cases hc:get r m with
  |none=>rw[hc] at h;exact aN h
  |some c=>
   rw[hc] at h;cases c with
   |arr fz fl tZ s rows=>simp only at h;replace h:=ay h;obtain⟨_,m2,l2,h2,h⟩:=h;obtain⟨hb,rfl,rfl⟩:=Lr h2;rw[wo] at hb;have hv:=Ia hb.1;subst hv;simp only[run_pure,lM,qU] at h;obtain⟨rfl,rfl,_⟩:=h;have hro:=hA.ok.look hc (by rw[hA.out];simp) false;simp only[bn,hc] at hx;rw[<-hx.2.2 trivial] at hro;exact⟨rfl,full hro (Nat.le_of_ble_eq_true hb.2)⟩
   |_=>exact aN h
 ·exact aN h
def atj(hA:At base U M0 w0 w m G){op:BinOp}{t:TypeId}{ox oy:Operand}{x:V}{gx:Value}(hx:bn G.μ m (Gh U w G) x gx){v:V}{l l':Log}(h:(aqv P t op x).run m l=some (v,m',l')):
  MP base U M0 w0 w m G P (do eqGuard op t ox oy gx (.slice none 0 0);binOp op t gx (.slice none 0 0)) v m':=by
 unfold aqv at h;obtain⟨hb,h⟩:=bck h;obtain⟨e,he⟩:=anp hb;replace h:=ay h;obtain⟨b,m2,l2,h2,h⟩:=h;obtain⟨rfl,a,n,c,rfl,rfl⟩:=ati hA hx h2;have hg:(eqGuard op t ox oy (.slice a n c) (.slice none 0 0)).run P w=.ok () w:=aeS (by simp) (by simp);cases op<;>try exact aN h
 ·obtain⟨rfl,rfl,_⟩:=rpu h;refine MP.same hA (g:=.bool a.isNone) ?_ (by simp only[bn,ro]);simp only[Sem.run_bind,hg,Result.andThen_ok,binOp,ab6 he,Sem.run_pure]
 ·obtain⟨rfl,rfl,_⟩:=rpu h;refine MP.same hA (g:=.bool !a.isNone) ?_ (by simp only[bn,ro]);simp only[Sem.run_bind,hg,Result.andThen_ok,binOp,ab6 he,Sem.run_pure]
def azg(hA:At base U M0 w0 w m G){op:BinOp}{t:TypeId}{ox oy:Operand}{x y:V}{gx gy:Value}(hx:bn G.μ m (Gh U w G) x gx)(hy:bn G.μ m (Gh U w G) y gy){v:V}{l l':Log}(h:(aEH P t op x y).run m l=some (v,m',l')):
  MP base U M0 w0 w m G P (do eqGuard op t ox oy gx gy;binOp op t gx gy) v m':=by
 unfold aEH at h;split at h
 ·rename_i cs;cases y with
  |agg ds=>
   simp only[aHL] at h;replace h:=ay h;obtain⟨_,m1,l1,h1,h⟩:=h;obtain⟨hg,rfl,rfl⟩:=gV h1;simp only[wo,Bool.not_eq_true'] at hg;replace h:=ay h;obtain⟨fs,m1,l1,h1,h⟩:=h;obtain⟨hf,rfl,rfl⟩:=lV h1;replace h:=ay h;obtain⟨r,m1,l1,h1,h⟩:=h;obtain⟨hr,rfl,rfl⟩:=lV h1;simp only[bn] at hx hy;obtain⟨a,rfl,ha⟩:=hx;obtain⟨b,rfl,hb⟩:=hy;have hst:P.underlying t=some (.struct (P.fieldsOf t))/\fs=(P.fieldsOf t).toList:=by
    unfold Program.fieldsOf;split at hf
    ·rename_i fs' hu;cases hf;rw[hu];exact⟨rfl,rfl⟩
    ·cases hf
   obtain⟨hu,rfl⟩:=hst;have he:=(run_equalIn_agg w 9999 t a b hu hg.1).trans (agQ ha hb 9998 hr);have hgd:=run_eqGuard_agg w op t ox oy a b hg.2;have fin:∀r':Bool,(binOp op t (.agg a) (.agg b)).run P w=.ok (.bool r') w->v=.d (.bool r')->m1=m'->MP base U M0 w0 w m1 G P (do eqGuard op t ox oy (.agg a) (.agg b);binOp op t (.agg a) (.agg b)) v m':=by intro r' e1 e2 e3;subst e2 e3;refine MP.same hA (g:=.bool r') ?_ (by simp only[bn,ro]);simp only[Sem.run_bind,hgd,Result.andThen_ok,e1]
   cases op<;>try exact aN h
   ·simp only[run_pure,lM,qU] at h;exact fin r (by rw[run_eql_struct,he];rfl) h.1.symm h.2.1
   ·simp only[run_pure,lM,qU] at h;exact fin (!r) (by rw[run_neq_struct,he];rfl) h.1.symm h.2.1
  |_=>exact aN h
 ·split at h
  ·simp only[bn] at hy;subst hy;exact atj hA hx h
  ·exact aEP hA hx hy h
def aHZ(hA:At base U M0 w0 w m G){op:UnOp}{x:V}{gx:Value}(hx:bn G.μ m (Gh U w G) x gx){v:V}{l l':Log}(h:(un op x).run m l=some (v,m',l')):
  MP base U M0 w0 w m G P (Op.unary op gx) v m':=by
 unfold un at h;split at h
 ·change some (_,_,_)=_ at h;simp only[lM,qU] at h;obtain⟨rfl,rfl,_⟩:=h;simp only[bn,ro] at hx;subst hx;refine MP.same hA (g:=.int _ _) (by simp only[Op.unary,Op.intArith,Sem.run_pure];rfl) (by simp[bn,ro])
 ·change some (_,_,_)=_ at h;simp only[lM,qU] at h;obtain⟨rfl,rfl,_⟩:=h;simp only[bn,ro] at hx;subst hx;refine MP.same hA (g:=.bool _) (by simp only[Op.unary,Sem.run_pure];rfl) (by simp[bn,ro])
 ·exact aN h
def avq(hA:At base U M0 w0 w m G){c x y:V}{gc gx gy:Value}(hc:bn G.μ m (Gh U w G) c gc)(hx:bn G.μ m (Gh U w G) x gx)(hy:bn G.μ m (Gh U w G) y gy){v:V}{l l':Log}(h:(au7 c x y).run m l=some (v,m',l')):
  MP base U M0 w0 w m G P (do pure (if<-Go.asBool gc then gx else gy)) v m':=by
 unfold au7 at h;split at h
 ·rename_i c;simp only[bn,ro] at hc;subst hc;split at h
  ·rename_i a b;change some (_,_,_)=_ at h;simp only[lM,qU] at h;obtain⟨rfl,rfl,_⟩:=h;simp only[bn,ro] at hx hy;subst hx hy;refine MP.same hA (g:=.bool (bif c then a else b)) ?_ (by simp[bn,ro]);cases c<;>simp[Go.asBool]
  ·split at h
   ·change some (_,_,_)=_ at h;simp only[lM,qU] at h;obtain⟨rfl,rfl,_⟩:=h;exact MP.same hA (g:=gx) (by simp[Go.asBool]) hx
   ·change some (_,_,_)=_ at h;simp only[lM,qU] at h;obtain⟨rfl,rfl,_⟩:=h;exact MP.same hA (g:=gy) (by simp[Go.asBool]) hy
 ·exact aN h
def aeT{h:View}:∀{rows:List Row} {cs:List Value} {bs:List UInt8},bytesOf rows=some bs->iU h 1 rows cs->cs.length=rows.length->
  ∃ns:List Int,cs=ns.map (Value.int .u8)/\bs=ns.map (λn=>UInt8.ofNat n.toNat)
 |[],cs,bs,hb,_,hl=>by simp only[bytesOf,lM] at hb;subst hb;have:cs=[]:=List.length_eq_zero_iff.1 hl;subst this;exact⟨[],rfl,rfl⟩
 |r::rs,cs,bs,hb,hs,hl=>by
  simp only[bytesOf] at hb;cases ha:asByte r with
  |none=>simp[ha] at hb
  |some b=>
   cases hb2:bytesOf rs with
   |none=>simp[ha,hb2] at hb
   |some bs2=>
    simp only[ha,hb2,lM] at hb;subst hb;simp only[iU] at hs;obtain⟨_,h1,h2⟩:=hs;cases cs with
    |nil=>simp at hl
    |cons c cs=>
     obtain⟨ns,e1,e2⟩:=aeT hb2 (by simpa using h2) (by simpa using hl);unfold asByte at ha;split at ha
     ·rename_i n _;simp only[lM] at ha;subst ha;simp only[ji] at h1;obtain⟨v,cs',e,hv,_⟩:=h1;simp only[ro] at hv;simp only[List.cons.injEq] at e;obtain⟨rfl,rfl⟩:=e;exact⟨n::ns,by rw[hv,zmc,e1],by rw[zmc,e2]⟩
     ·cases ha
def foldl_push:∀(ns:List Int) (acc:List UInt8),ns.foldl (λr n=>r.push (UInt8.ofNat n.toNat)) (ByteArray.mk ⟨acc⟩)=⟨⟨acc++ns.map (λn=>UInt8.ofNat n.toNat)⟩⟩
 |[],acc=>by simp
 |n::ns,acc=>by
  rw[List.foldl_cons];have:(ByteArray.mk ⟨acc⟩).push (UInt8.ofNat n.toNat)=⟨⟨acc++[UInt8.ofNat n.toNat]⟩⟩:=by simp[ByteArray.push]
  rw[this,foldl_push ns];simp
def anq(hA:At base U M0 w0 w m G){src dst:TypeId}{x:V}{gx:Value}(hx:bn G.μ m (Gh U w G) x gx){v:V}{l l':Log}(h:(agj P src dst x).run m l=some (v,m',l')):
  MP base U M0 w0 w m G P (convert src dst gx) v m':=by
 unfold agj at h;split at h
 next hs hd=>
  split at h
  ·change some (_,_,_)=_ at h;simp only[lM,qU] at h;obtain⟨rfl,rfl,_⟩:=h;simp only[bn,ro] at hx;subst hx;refine MP.same hA (g:=.int _ _) ?_ (by simp only[bn,ro];rfl);simp[convert,run_underlying hs,run_underlying hd,Conv.intToInt]
  ·exact aN h
 next hs hd=>
  split at h
  ·change some (_,_,_)=_ at h;simp only[lM,qU] at h;obtain⟨rfl,rfl,_⟩:=h;have hx0:=hx;simp only[bn,ro] at hx;subst hx;refine MP.same hA (g:=.string _) ?_ hx0;simp[convert,run_underlying hs,run_underlying hd]
  ·exact aN h
 next e hs hd=>
  replace h:=ay h;obtain⟨_,m1,l1,h1,h⟩:=h;obtain⟨he,rfl,rfl⟩:=Lr h1;have he:P.underlying e=some (.int .u8):=by
   cases hu:P.underlying e with
   |none=>simp[hu] at he
   |some d=>rw[hu] at he;cases d<;>first|(simp at he;done)|(rename_i k;cases k<;>first|rfl|(simp at he;done))
  replace h:=ay h;obtain⟨⟨s,rows⟩,m1,l1,h1,h⟩:=h;obtain⟨rfl,hq⟩:=arZ hA.ok hx hA.out h1;simp only at h;obtain⟨hs1,h⟩:=bck h;have hs1:=Ia hs1;subst hs1;obtain⟨bs,hb,h⟩:=bop h;obtain⟨rfl,rfl,_⟩:=rpu h;simp only[ro] at hq;obtain⟨a,cap,rfl,hcap,hne⟩:=hq;refine MP.same hA (g:=.string ⟨⟨bs⟩⟩) ?_ (by simp only[bn,ro]);rw[run_convert_bytes_string w src dst e a rows.length cap hs he hd]
  by_cases hr:rows=[]
  ·subst hr;simp only[bytesOf,lM] at hb;subst hb;cases a with
   |none=>simp[Conv.bytesToString];rfl
   |some a=>have hl:=run_loadCells_list (P:=P) w a [] (by simp);have:=run_bytesToString (P:=P) w a 0 cap [] (by simpa using hl);exact this
  ·obtain⟨b,o,rfl,hrr⟩:=hne hr;obtain⟨cs,hl,hc,hss⟩:=W9 rows o hrr;rw[Nat.mul_one] at hl;obtain⟨ns,rfl,rfl⟩:=aeT hb hss hl;have hlc:=run_loadCells_list (P:=P) w ⟨b,o,none⟩ (ns.map (Value.int .u8)) (λj v hj=>by rw[Vk];exact hc j v hj);rw[hl] at hlc;rw[run_bytesToString w _ rows.length cap ns hlc];have:=foldl_push ns [];rw[List.nil_append] at this;rw[<-this];rfl
 next=>exact aN h
def avr{μ:Nat->Value}{h:View}{vs:List V}{a:Array Value}{i:Nat}{v:V}(q:dh μ m h vs a.toList)(hi:vs[i]? =some v):∃x,a[i]? =some x/\bn μ m h v x:=by obtain⟨x,h1,h2⟩:=ZL q hi;exact⟨x,by simpa using h1,h2⟩
end
end Go.Vm
