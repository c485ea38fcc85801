import Derived.Orders
import Derived.KernelRfl
import Derived.RowKit3
import Derived.Laws.Cells
import Derived.Laws.Rows
import Derived.Laws.OwnMore
import Derived.Below
import Derived.Laws.Append
import Derived.Laws.AppendOwn
import Derived.Laws.CopyRow
import Derived.Laws.Slices
import Derived.Laws.MakeOwn
import Derived.Laws.BytesString
set_option linter.defProp false
set_option linter.unusedVariables false
set_option linter.unusedSimpArgs false
namespace Go.Vm
def ak{p:Prop}(h:p:=by omega):p:=h
def aK{α:Sort _}(a b:α):cond true a b=a:=cond_true ..
def bn{α:Sort _}(a b:α):cond false a b=b:=cond_false ..
def je{α:Type _}(a b:α):(some a=some b)=(a=b):=Option.some.injEq ..
def lN{α:Type _}{β:Type _}(a:α)(b:β)(c:α)(d:β):((a,b)=(c,d))=(a=c/\b=d):=Prod.mk.injEq ..
def zdt{p:Prop}[Decidable p](h:p):decide p=true:=decide_eq_true h
def pq{p:Prop}[Decidable p](h:¬p):decide p=false:=decide_eq_false h
def Hy{n m:Nat}(h:Nat.beq n m=true):n=m:=Nat.eq_of_beq_eq_true h
def qK{α:Type _}{a b:List α}:(a++b).length=a.length+b.length:=List.length_append ..
def PU{α:Type _}{i:Nat}{a:α}{l:List α}:l[i]? =some a↔∃h:i<l.length,l[i]=a:=List.getElem?_eq_some_iff ..
def nS{α:Type _}{a:α}{s:List α}:(a::s).length=s.length+1:=List.length_cons ..
def NI{α:Type _}(a b c:List α):a++b++c=a++(b++c):=List.append_assoc ..
def IU{α:Type _}{a:α}:[a].length=1:=List.length_singleton ..
def uM{α:Type _}:([]:List α).length=0:=List.length_nil ..
def En{α:Type _}{l:List α}{i:Nat}{a:α}(h:l[i]? =some a):a∈l:=List.mem_of_getElem? h
def MS(a b:Bool):((a&&b)=true)=(a=true/\b=true):=Bool.and_eq_true ..
def O9{α:Type _}{β:Type _}(a:α)(f:α->β):Option.map f (some a)=some (f a):=Option.map_some ..
def RQ{α:Type _}{β:Type _}{f:α->β}{a:α}{l:List α}:List.map f (a::l)=f a::List.map f l:=List.map_cons ..
def Xm(n:Nat):((n:Int)).toNat=n:=Int.toNat_natCast ..
def Yr{α:Type _}{a:α}{s t:List α}:a::s++t=a::(s++t):=List.cons_append ..
def zmm{α:Type _}(y:α){a:α}{l:List α}(h:a∈l):a∈y::l:=List.mem_cons_of_mem _ h
def zmf{α:Type _}{a:α}{l:List α}:a∈a::l:=List.mem_cons_self ..
def zlo{α:Type _}{l:List α}:l.length=1↔∃a,l=[a]:=List.length_eq_one_iff ..
def KL{α:Type _}[BEq α][LawfulBEq α]{a b:α}:(a==b)=false↔a≠b:=beq_eq_false_iff_ne ..
def XE{α:Type _}{i:Nat}{l:List α}:(l.take i).length=min i l.length:=List.length_take ..
end Go.Vm
namespace Go.Vm
open Go
inductive D where
 |int (k:IntKind) (n:Int)
 |bool (b:Bool)
 |str (s:List UInt8)
 |VG
 |sl (own:Bool) (s:Nat) (rows:List (List D))
 deriving Inhabited
abbrev Row:=List D
abbrev aC:=List UInt8
abbrev au:=List Row
inductive V where
 |d (x:D)
 |nil (s:Nat)
 |own (r ver:Nat)
 |ptr (r off:Nat)
 |Ej (r ver i off:Nat)
 |uN (row:Row) (off:Nat)
 |Em (v:V)
 |clo (f:Nat) (first caps:List V)
 |agg (cs:List V)
 |FQ (vs:List V)
 |undef
 deriving Inhabited
inductive Cell where
 |box (t:TypeId) (cs:List V)
 |arr (fz fl:Bool) (ver s:Nat) (rows:List Row)
 |dead
 |qN (t:TypeId) (v:V)
 deriving Inhabited
abbrev Mem:=List (Nat×Cell)
abbrev mg:=List (Nat×V)
structure St where
 tm:mg
 mem:Mem
def get{α:Type}(k:Nat):List (Nat×α)->Option α
 |[]=>none
 |(j,x)::l=>bif Nat.beq k j then some x else get k l
def put{α:Type}(k:Nat)(x:α):List (Nat×α)->List (Nat×α)
 |[]=>[(k,x)]
 |(j,y)::l=>bif Nat.beq k j then(k,x)::l else bif Nat.blt k j then(k,x)::(j,y)::l else(j,y)::put k x l
def del{α:Type}(k:Nat):List (Nat×α)->List (Nat×α)
 |[]=>[]
 |(j,y)::l=>bif Nat.beq k j then del k l else(j,y)::del k l
def aaY(t:Nat)(tm:mg):V:=match get t tm with|some v=>v|none=> .undef
def aky(dst:Option Nat)(v:V)(tm:mg):mg:=match dst with|some t=>put t v tm|none=>tm
def aAV(dst:Option Nat)(tm:mg):mg:=match dst with|some t=>del t tm|none=>tm
inductive Acc(α:Type):Type 1 where
 |ret (a:α)
 |fail
 |get (k:Nat) (c:Option Cell->Acc α)
 |set (k:Nat) (x:Cell) (c:Acc α)
 |opt {β:Type} (o:Option β) (c:β->Acc α)
 |guard (b:Bool) (c:Acc α)
structure Log where
 r:List Nat
 w:List Nat
def Log.rd(l:Log)(k:Nat):Log:={l with r:=k::l.r}
def Log.wr(l:Log)(k:Nat):Log:={l with w:=k::l.w}
def Log.none:Log:=⟨[],[]⟩
def Acc.bind{α β:Type}:Acc α->(α->Acc β)->Acc β
 | .ret a,f=>f a
 | .fail,_=> .fail
 | .get k c,f=> .get k λx=>(c x).bind f
 | .set k x c,f=> .set k x (c.bind f)
 | .opt o c,f=> .opt o λb=>(c b).bind f
 | .guard b c,f=> .guard b (c.bind f)
def Acc.run{α:Type}:Acc α->Mem->Log->Option (α×Mem×Log)
 | .ret a,m,l=>some (a,m,l)
 | .fail,_,_=>none
 | .get k c,m,l=>(c (Vm.get k m)).run m (l.rd k)
 | .set k x c,m,l=>c.run (put k x m) (l.wr k)
 | .opt o c,m,l=>match o with|some b=>(c b).run m l|none=>none
 | .guard b c,m,l=>match b with|true=>c.run m l|false=>none
inductive CT where
 |int (k:IntKind)|bool|str|sl (s:Nat)|other
 deriving Inhabited
def ase(f:TypeId->Option (List CT)):List TypeId->Option (List CT)
 |[]=>some []
 |t::ts=>match f t,ase f ts with|some a,some b=>some (a++b)|_,_=>none
def cts(P:Program):Nat->TypeId->Option (List CT)
 |0,_=>none
 |n+1,t=>match P.underlying t with
  |some (.int k)=>some [.int k]
  |some .bool=>some [.bool]
  |some .string=>some [.str]
  |some (.slice e)=>match P.info? e with|some i=>some [.sl i.size]|none=>none
  |some (.struct fs)=>ase (cts P n) (fs.toList.map (·.type))
  |some (.array k e)=>ase (cts P n) (List.replicate k e)
  |some (.pointer _)|some (.func ..)=>some [.other]
  |_=>none
def RS(P:Program)(t:TypeId):List CT:=match cts P 8 t with|some l=>l|none=>[.other]
def Us(P:Program)(t:TypeId):Bool:=match P.underlying t with|some (.struct _)=>true|some (.array ..)=>true|_=>false
def qO(P:Program)(t:TypeId):Nat:=match P.info? t with|some i=>i.size|none=>0
def ahp(P:Program)(t:TypeId):Option TypeId:=match P.underlying t with|some (.pointer T)=>some T|_=>none
def elT(P:Program)(t:TypeId):Option TypeId:=match P.underlying t with|some (.slice e)=>some e|_=>none
def ad8:CT->Value->V
 |_,.bool b=> .d (.bool b)
 |_,.int k n=> .d (.int k n)
 |_,.string s=> .d (.str s.data.toList)
 |_,.nilFunc=> .d .VG
 | .sl s,.slice none 0 0=> .nil s
 |_,_=> .undef
def I7:List CT->List Value->List V
 |c::cs,v::vs=>ad8 c v::I7 cs vs
 |[],_::vs=> .undef::I7 [] vs
 |_,[]=>[]
def cv(P:Program)(t:TypeId):Value->V
 | .agg cs=> .agg (I7 (RS P t) cs.toList)
 |v=>match RS P t with|c::_=>ad8 c v|[]=> .undef
def Tc(P:Program)(t:TypeId):Option (List V):=
 match P.info? t with
 |some i=>match i.zero with
  |some z=>some (I7 (RS P t) z.cells.toList)
  |none=>none
 |none=>none
def V.cells:V->List V
 | .agg cs=>cs
 |v=>[v]
def PY(P:Program)(t:TypeId)(cs:List V):Option V:=
 bif Us P t then some (.agg cs) else match cs with|[v]=>some v|_=>none
def asInt(k:IntKind):D->Option Int
 | .int k' n=>bif decide (k'=k) then some n else none
 |_=>none
def asBool:D->Option Bool
 | .bool b=>some b
 |_=>none
def ala:D->Option (List UInt8)
 | .str s=>some s
 |_=>none
def awK(s:Nat):D->Option (List Row)
 | .sl _ s' rows=>bif Nat.beq s' s then some rows else none
 |_=>none
def aAW(s:Nat):D->Option (List Row)
 | .sl own s' rows=>bif Nat.beq s' s then(match own with|false=>some rows|true=>match rows with|[]=>some []|_::_=>none) else none
 |_=>none
def atH(s:Nat):D->Option (List Row)
 | .sl own s' rows=>match own with|true=>bif Nat.beq s' s then some rows else none|false=>none
 |_=>none
def nth(row:Row)(j:Nat):D:=match row[j]? with|some x=>x|none=> .VG
def bK(k:IntKind)(row:Row)(j:Nat):Option Int:=asInt k (nth row j)
def RU(row:Row)(j:Nat):Option Bool:=asBool (nth row j)
def cStr(row:Row)(j:Nat):Option (List UInt8):=ala (nth row j)
def NK(s:Nat)(row:Row)(j:Nat):Option (List Row):=awK s (nth row j)
def cRo(s:Nat)(row:Row)(j:Nat):Option (List Row):=aAW s (nth row j)
def aJh(s:Nat)(row:Row)(j:Nat):Option (List Row):=atH s (nth row j)
mutual
def D.fz:D->D
 | .int k n=> .int k n
 | .bool b=> .bool b
 | .str s=> .str s
 | .VG=> .VG
 | .sl _ s rows=> .sl false s (aG rows)
def aG:List Row->List Row
 |[]=>[]
 |r::rs=>qm r::aG rs
def qm:Row->Row
 |[]=>[]
 |x::r=>x.fz::qm r
end
def roD:D->D
 | .sl _ s rows=> .sl false s rows
 |x=>x
def D.flat:D->Bool
 | .sl ..=>false
 |_=>true
def aA(rows:List Row):Bool:=rows.all λr=>r.all D.flat
def one:V->Bool
 | .d _=>true
 | .nil _=>true
 | .own _ _=>true
 | .ptr _ _=>true
 | .Ej ..=>true
 | .uN _ _=>true
 | .Em _=>true
 | .clo ..=>true
 |_=>false
mutual
def D.pure:D->Bool
 | .sl own _ rows=>match own with|true=>NM rows|false=>rows.isEmpty
 |_=>true
def NM:List Row->Bool
 |[]=>true
 |r::rs=>bg r && NM rs
def bg:Row->Bool
 |[]=>true
 |x::r=>x.pure && bg r
end
def RY(strict:Bool):List CT->Row->Nat->(List V->Acc V)->Acc V
 |[],_,_,c=>c []
 | .int k::ts,row,j,c=> .opt (bK k row j) λn=>RY strict ts row (j+1) λvs=>c (.d (.int k n)::vs)
 | .bool::ts,row,j,c=> .opt (RU row j) λn=>RY strict ts row (j+1) λvs=>c (.d (.bool n)::vs)
 | .str::ts,row,j,c=> .opt (cStr row j) λn=>RY strict ts row (j+1) λvs=>c (.d (.str n)::vs)
 | .sl s::ts,row,j,c=> .opt (bif strict then cRo s row j else NK s row j) λrs=>RY strict ts row (j+1) λvs=>c (.d (.sl false s rs)::vs)
 | .other::_,_,_,_=> .fail
structure Adv where
 keep:Nat->Nat->List Nat
 move:Nat->List Nat
 att:Nat->Nat->List Nat
 aJi:Nat->List Nat
 trunc:Nat->Nat->Bool
 look:Nat->List Nat
structure Ctx where
 P:Program
 UN:Adv
 Zw:Nat->Option (List V->List Cell->Option (List Row×List Cell))
 glob:Nat->Option Row
 aJj:Nat->Bool
abbrev lQ:=Nat->List V->List Cell->Option (List Row×List Cell)
def mem?(k:Nat):List Nat->Bool
 |[]=>false
 |j::l=>bif Nat.beq k j then true else mem? k l
def aEq:List CT->Bool
 |[]=>false
 | .sl _::_=>true
 |_::l=>aEq l
def Hz(P:Program)(e:TypeId):Bool:= !(aEq (RS P e))
def vw(fl:Bool)(rows:List Row):List Row:=bif fl then rows else aG rows
instance:Monad Acc where
 pure:=.ret
 bind:=.bind
def rd(k:Nat):Acc (Option Cell):=.get k .ret
def wr(k:Nat)(x:Cell):Acc Unit:=.set k x (.ret ())
def ck(b:Bool):Acc Unit:=.guard b (.ret ())
def op'{β:Type}(o:Option β):Acc β:=.opt o .ret
def free(k:Nat):Acc Unit:=do
 match<-rd k with
 |none=>pure ()
 |some _=> .fail
def new(k:Nat)(c:Cell):Acc Unit:=do
 free k
 wr k c
def seen(v:V):Acc (Nat×List Row):=
 match v with
 | .d (.sl _ s rows)=>pure (s,rows)
 | .nil s=>pure (s,[])
 | .own r ver=>do
  match<-rd r with
  |some (.arr _ fl uO s rows)=>do ck (Nat.beq ver uO);pure (s,vw fl rows)
  |_=> .fail
 |_=> .fail
def atI(fl:Bool)(rows:List Row):Bool:=bif fl then aA rows else true
def toD(v:V):Acc D:=
 match v with
 | .d x=>pure (roD x)
 | .nil s=>pure (.sl true s [])
 | .own r ver=>do
  match<-rd r with
  |some (.arr fz fl uO s rows)=>do
   ck (Nat.beq ver uO)
   match fz with
   |true=>pure (.sl false s (vw fl rows))
   |false=>do
    ck (atI fl rows)
    wr r .dead
    pure (.sl true s rows)
  |_=> .fail
 |_=> .fail
def PZ:List V->Acc Row
 |[]=>pure []
 |v::vs=>do
  let x<-toD v
  let xs<-PZ vs
  pure (x::xs)
def splice{α:Type}(l:List α)(off:Nat)(xs:List α):List α:=l.take off++xs++l.drop (off+xs.length)
def part{α:Type}(l:List α)(off n:Nat):List α:=(l.drop off).take n
def idx{α:Type}(l:List α)(i:Int):Option α:=bif decide (0<=i) then l[i.toNat]? else none
def cut{α:Type}(l:List α)(a b:Int):Option (List α):=
 bif decide (0<=a) && decide (a<=b) && decide (b<=l.length) then some ((l.drop a.toNat).take (b.toNat - a.toNat)) else none
def byteRow(b:UInt8):Row:=[.int .u8 b.toNat]
def asByte:Row->Option UInt8
 |[.int .u8 n]=>some (UInt8.ofNat n.toNat)
 |_=>none
def bytesOf:List Row->Option (List UInt8)
 |[]=>some []
 |r::rs=>match asByte r,bytesOf rs with|some b,some bs=>some (b::bs)|_,_=>none
def ev(P:Program)(tm:mg)(t:TypeId):Operand->V
 | .tmp i=>aaY i tm
 | .const v=>cv P t v
 | .func f=> .clo f [] []
 | .global _=> .undef
def evG(X:Ctx)(tm:mg)(t:TypeId)(x:Operand):V:=match x with
 | .global g=>match X.glob g with
  |some row=> .uN row 0
  |none=> .undef
 |x=>ev X.P tm t x
def nz(op:BinOp)(b:Int):Bool:=match op with
 | .quo=> !(decide (b=0))
 | .rem=> !(decide (b=0))
 |_=>true
def aF2(op:BinOp)(k:IntKind)(a b:Int):Option V:=
 match op with
 | .add=>some (.d (.int k (k.wrap (a+b))))
 | .sub=>some (.d (.int k (k.wrap (a - b))))
 | .mul=>some (.d (.int k (k.wrap (a * b))))
 | .quo=>some (.d (.int k (k.wrap (a.tdiv b))))
 | .rem=>some (.d (.int k (a.tmod b)))
 | .eql=>some (.d (.bool (a==b)))
 | .neq=>some (.d (.bool (a !=b)))
 | .lss=>some (.d (.bool (decide (a<b))))
 | .leq=>some (.d (.bool (decide (a<=b))))
 | .gtr=>some (.d (.bool (decide (a>b))))
 | .geq=>some (.d (.bool (decide (a>=b))))
 | .and=>some (.d (.int k (k.wrap (BitVec.ofInt k.bits a &&& BitVec.ofInt k.bits b).toNat)))
 | .or=>some (.d (.int k (k.wrap (BitVec.ofInt k.bits a|||BitVec.ofInt k.bits b).toNat)))
 | .xor=>some (.d (.int k (k.wrap (BitVec.ofInt k.bits a ^^^ BitVec.ofInt k.bits b).toNat)))
 |_=>none
def acK(op:BinOp)(k:IntKind)(a b:Int):Option V:=
 bif decide (b<0) then none else
 match op with
 | .shl=>some (.d (.int k (k.wrap (a * 2 ^(min b.toNat k.bits)))))
 | .shr=>some (.d (.int k (a.fdiv (2 ^(min b.toNat k.bits)))))
 |_=>none
def asf:Nat:=9223372036854775807
def aF3(op:BinOp)(a b:List UInt8):Acc V:=
 match op with
 | .add=> .guard (Nat.ble (a.length+b.length) asf) (.ret (.d (.str (a++b))))
 | .eql=> .ret (.d (.bool (a==b)))
 | .neq=> .ret (.d (.bool !(a==b)))
 | .lss=> .ret (.d (.bool (Op.bytesLess a b)))
 | .leq=> .ret (.d (.bool (Op.bytesLess a b||a==b)))
 | .gtr=> .ret (.d (.bool !(Op.bytesLess a b||a==b)))
 | .geq=> .ret (.d (.bool !(Op.bytesLess a b)))
 |_=> .fail
def aJk(op:BinOp)(a b:Bool):Option V:=
 match op with
 | .eql=>some (.d (.bool (a==b)))
 | .neq=>some (.d (.bool !(a==b)))
 |_=>none
def shiftOp:BinOp->Bool
 | .shl| .shr=>true
 |_=>false
def boolT(P:Program)(t:TypeId):Bool:=match P.underlying t with|some .bool=>true|_=>false
def bin(bt:Bool)(op:BinOp)(x y:V):Acc V:=
 match x,y with
 | .d (.int k a),.d (.int k' b)=>
  match shiftOp op with
  |true=> .opt (acK op k a b) .ret
  |false=>match decide (k=k') with
   |true=> .guard (nz op b) (.opt (aF2 op k a b) .ret)
   |false=> .fail
 | .d (.str a),.d (.str b)=>aF3 op a b
 | .d (.bool a),.d (.bool b)=>match bt with
  |true=> .opt (aJk op a b) .ret
  |false=> .fail
 |_,_=> .fail
def aJl(P:Program)(t:TypeId)(op:BinOp)(x y:V):Acc V:=bin (boolT P t) op x y
def un(op:UnOp)(x:V):Acc V:=
 match op,x with
 | .neg,.d (.int k n)=> .ret (.d (.int k (k.wrap (0 - n))))
 | .not,.d (.bool b)=> .ret (.d (.bool !b))
 |_,_=> .fail
def awL(c x y:V):Acc V:=
 match c with
 | .d (.bool c)=>match x,y with
  | .d (.bool a),.d (.bool b)=> .ret (.d (.bool (bif c then a else b)))
  |x,y=>match c with
   |true=> .ret x
   |false=> .ret y
 |_=> .fail
def I8(P:Program)(t:TypeId):Bool:=match P.underlying t with|some _=>true|none=>false
def awM(P:Program)(t:TypeId)(a:V):Acc V:=do
 ck (I8 P t && Nat.beq (RS P t).length (qO P t))
 match a with
 | .ptr r off=>do
  match<-rd r with
  |some (.box _ cs)=>do
   ck (Nat.ble (off+qO P t) cs.length)
   op' (PY P t (part cs off (qO P t)))
  |some (.qN _ v)=>do
   ck (Nat.beq off 0 &&(Nat.beq (qO P t) 1 && !(Us P t)))
   pure v
  |_=> .fail
 | .Em v=>do
  ck (Nat.beq (qO P t) 1 && !(Us P t))
  pure v
 | .uN row off=>RY false (RS P t) row off λvs=>op' (PY P t vs)
 | .Ej r ver i off=>do
  match<-rd r with
  |some (.arr _ _ uO _ rows)=>do
   ck (Nat.beq ver uO)
   let row<-op' rows[i]?
   RY true (RS P t) row off λvs=>op' (PY P t vs)
  |_=> .fail
 |_=> .fail
def kept(off:Nat)(cs:List V)(x:V):Bool:=match off,cs,x with
 |0,[.undef],.ptr _ _=>true
 |_,_,_=>false
def ash(P:Program)(t:TypeId)(a x:V):Acc Unit:=do
 ck (I8 P t)
 ck (Nat.beq x.cells.length (qO P t))
 ck (x.cells.all one)
 match a with
 | .ptr r off=>do
  match<-rd r with
  |some (.box T cs)=>do
   ck (Nat.ble (off+qO P t) cs.length)
   match kept off cs x with
   |true=>wr r (.qN T x)
   |false=>wr r (.box T (splice cs off x.cells))
  |_=> .fail
 | .Ej r ver i off=>do
  let xs<-PZ x.cells
  match<-rd r with
  |some (.arr false fl uO s rows)=>do
   ck (Nat.beq ver uO)
   ck (Nat.ble (off+qO P t) s)
   let row<-op' rows[i]?
   wr r (.arr false fl ver s (rows.set i (splice row off xs)))
  |_=> .fail
 |_=> .fail
def Yt(P:Program)(T:TypeId)(f:Nat):Option (Nat×Nat×TypeId):=
 match P.underlying T with
 |some (.struct fs)=>match fs[f]? with
  |some fd=>some (fd.offset,qO P fd.type,fd.type)
  |none=>none
 |_=>none
def abE(P:Program)(T:TypeId)(a:V)(f:Nat):Acc V:=do
 let(o,n,_)<-op' (Yt P T f)
 ck (Nat.ble 1 n)
 match a with
 | .ptr r off=>pure (.ptr r (off+o))
 | .uN row off=>pure (.uN row (off+o))
 | .Ej r ver i off=>pure (.Ej r ver i (off+o))
 |_=> .fail
def asi(P:Program)(T:TypeId)(x:V)(f:Nat):Acc V:=do
 let(o,n,t)<-op' (Yt P T f)
 match x with
 | .agg cs=>do
  ck (Nat.ble (o+n) cs.length)
  ck (I8 P t)
  op' (PY P t (part cs o n))
 |_=> .fail
def abG(P:Program)(t:TypeId)(x i:V):Acc V:=do
 let e<-op' (elT P t)
 match i with
 | .d (.int _ i)=>
  match x with
  | .d (.sl _ s rows)=>do
   ck (Nat.beq s (qO P e))
   ck (I8 P e)
   let row<-op' (idx rows i)
   pure (.uN row 0)
  | .own r ver=>do
   match<-rd r with
   |some (.arr fz fl uO s rows)=>do
    ck (Nat.beq ver uO)
    ck (Nat.beq s (qO P e))
    ck (I8 P e)
    match fz with
    |true=>do
     let row<-op' (idx (vw fl rows) i)
     pure (.uN row 0)
    |false=>do
     let _<-op' (idx rows i)
     pure (.Ej r ver i.toNat 0)
   |_=> .fail
  |_=> .fail
 |_=> .fail
def arT(P:Program)(t:TypeId):Option (Nat×TypeId):=match P.underlying t with|some (.array n e)=>some (n,e)|_=>none
def aoc(P:Program)(n:Nat)(e:TypeId)(x i:V):Acc V:=
 match i with
 | .d (.int _ i)=>do
  ck (I8 P e)
  ck (decide (0<=i) && decide (i<(n:Int)))
  match x with
  | .uN row off=>pure (.uN row (off+i.toNat * qO P e))
  | .ptr r off=>pure (.ptr r (off+i.toNat * qO P e))
  |_=> .fail
 |_=> .fail
def abH(P:Program)(t:TypeId)(x i:V):Acc V:=match arT P t with
 |some (n,e)=>aoc P n e x i
 |none=>abG P t x i
def alb:List V->Option Row
 |[]=>some []
 | .d x::vs=>match alb vs with|some r=>some (x::r)|none=>none
 |_::_=>none
def ahq(c:CT)(row:Row)(i:Nat):Acc V:=match c with
 | .int k=> .opt (bK k row i) λn=> .ret (.d (.int k n))
 | .bool=> .opt (RU row i) λb=> .ret (.d (.bool b))
 | .str=> .opt (cStr row i) λs=> .ret (.d (.str s))
 |_=> .fail
def asj(P:Program)(t:TypeId)(x i:V):Acc V:=
 match P.underlying t,x,i with
 |some .string,.d (.str s),.d (.int _ i)=> .opt (idx s i) λb=> .ret (.d (.int .u8 b.toNat))
 |some (.array n e),.agg cs,.d (.int _ i)=>do
  ck (Nat.beq (qO P e) 1 &&(Nat.beq cs.length n &&(I8 P e && !(Us P e))))
  ck (decide (0<=i) && decide (i<(n:Int)))
  let row<-op' (alb cs)
  ahq (match RS P e with|[c]=>c|_=> .other) row i.toNat
 |_,_,_=> .fail
def lenV(x:V):Acc V:=
 match x with
 | .d (.str s)=> .ret (.d (.int .i64 s.length))
 | .own r ver=>do
  match<-rd r with
  |some (.arr _ _ uO _ rows)=>do ck (Nat.beq ver uO);pure (.d (.int .i64 rows.length))
  |_=> .fail
 | .d (.sl _ _ rows)=> .ret (.d (.int .i64 rows.length))
 | .nil _=> .ret (.d (.int .i64 0))
 |_=> .fail
def acL:Nat:=140737488355328
def abI(P:Program)(e:TypeId):Nat:=match P.info? e with|some i=>i.bytes|none=>acL
def tail(P:Program)(e:TypeId)(y:V):Acc (List Row):=
 match y with
 | .d (.str s)=>do
  ck (Nat.beq (qO P e) 1)
  pure (s.map byteRow)
 | .d (.sl _ s rows)=>do
  ck (Nat.beq s (qO P e))
  pure (vw (Hz P e) rows)
 | .nil _=>pure []
 | .own r ver=>do
  match<-rd r with
  |some (.arr fz fl uO s rows)=>do
   ck (Nat.beq ver uO)
   ck (Nat.beq s (qO P e))
   match Hz P e with
   |true=>do
    ck (fl||fz)
    pure rows
   |false=>do
    ck (!fl)
    match fz with
    |true=>pure (aG rows)
    |false=>do
     wr r .dead
     pure rows
  |_=> .fail
 |_=> .fail
def amP(P:Program)(dst:Nat)(t ty:TypeId)(x y:V):Acc V:=do
 let e<-op' (elT P t)
 ck (Nat.ble 1 (qO P e))
 ck (match P.underlying ty with|some (.slice _)=>true|some .string=>true|_=>false)
 let z<-op' (Tc P e)
 ck (Nat.beq z.length (qO P e))
 let ys<-tail P e y
 match x with
 | .nil _=>do
  ck (Nat.ble (ys.length * abI P e) acL)
  ck (Nat.ble ys.length acL)
  new dst (.arr false (Hz P e) 0 (qO P e) ys)
  pure (.own dst 0)
 | .own r ver=>do
  match<-rd r with
  |some (.arr false fl uO s rows)=>do
   ck (Nat.beq ver uO)
   ck (Nat.beq s (qO P e))
   ck (match fl,Hz P e with|true,true=>true|false,false=>true|_,_=>false)
   ck (Nat.ble ((rows.length+ys.length) * abI P e) acL)
   ck (Nat.ble (rows.length+ys.length) acL)
   wr r (.arr false fl (ver+1) s (rows++ys))
   pure (.own r (ver+1))
  |_=> .fail
 |_=> .fail
def aod(P:Program)(e:TypeId):Acc Row:=do
 let z<-op' (Tc P e)
 PZ z
def abJ(P:Program)(dst:Nat)(t:TypeId)(l c:V):Acc V:=do
 let e<-op' (elT P t)
 ck (Nat.ble 1 (qO P e))
 let z<-aod P e
 ck (Nat.beq z.length (qO P e))
 match l,c with
 | .d (.int _ l),.d (.int _ c)=>do
  ck (decide (0<=l) && decide (l<=c) && decide (c * abI P e<=acL) && decide (c<=acL))
  new dst (.arr false (Hz P e) 0 (qO P e) (List.replicate l.toNat z))
  pure (.own dst 0)
 |_,_=> .fail
def bound(o:Option V)(d:Int):Acc Int:=match o with
 |none=> .ret d
 |some (.d (.int _ n))=> .ret n
 |some _=> .fail
def asl(P:Program)(t:TypeId)(x:V)(lo hi:Option V):Acc V:=
 match x with
 | .d (.str s)=>do
  ck (match P.underlying t with|some .string=>true|_=>false)
  let l<-bound lo 0
  let h<-bound hi s.length
  let s'<-op' (cut s l h)
  pure (.d (.str s'))
 |_=>do
  let e<-op' (elT P t)
  ck (I8 P e)
  let(s,rows)<-seen x
  ck (Nat.beq s (qO P e))
  let l<-bound lo 0
  let h<-bound hi rows.length
  let rows'<-op' (cut rows l h)
  match x with
  | .own r ver=>do
   match<-rd r with
   |some (.arr _ fl uO s rows)=>do
    ck (Nat.beq ver uO)
    wr r (.arr true fl ver s rows)
    pure (.d (.sl false s rows'))
   |_=> .fail
  |_=>pure (.d (.sl false s rows'))
def amQ(P:Program)(t:TypeId)(x:V)(lo hi:Option V):Acc V:=
 match x with
 | .uN row off=>do
  let(n,e)<-op' (arT P t)
  ck (I8 P e)
  ck (Nat.beq (qO P e) 1 &&(Nat.beq off 0 && Nat.beq row.length n))
  match lo,hi with
  |none,none=>pure (.d (.sl false 1 (row.map λx=>[x])))
  |_,_=> .fail
 |x=>asl P t x lo hi
def asn(P:Program)(t:TypeId)(x:V)(hi:Option V):Acc V:=do
 let e<-op' (elT P t)
 ck (I8 P e)
 match x with
 | .own r ver=>do
  match<-rd r with
  |some (.arr false fl uO s rows)=>do
   ck (Nat.beq ver uO)
   ck (Nat.beq s (qO P e))
   let h<-bound hi rows.length
   ck (decide (0<=h) && decide (h<=(rows.length:Int)))
   wr r (.arr false fl (ver+1) s (rows.take h.toNat))
   pure (.own r (ver+1))
  |_=> .fail
 |_=> .fail
def aEr(P:Program)(t:TypeId)(x lo:V):Acc V:=.fail
def xU(P:Program)(T:TypeId)(tm:mg):List (Nat×Operand)->List V->Acc (List V)
 |[],cs=>pure cs
 |(f,x)::ps,cs=>do
  let(o,n,t)<-op' (Yt P T f)
  let v:=ev P tm t x
  ck (Nat.beq v.cells.length n)
  ck (v.cells.all one)
  ck (Nat.ble (o+n) cs.length)
  xU P T tm ps (splice cs o v.cells)
def aoe(P:Program)(T:TypeId):Bool:=match P.underlying T with
 |some (.struct fs)=>fs.toList.all λf=>match P.info? f.type with|some _=>true|none=>false
 |_=>false
def uH(P:Program)(e:TypeId)(tm:mg):List (Nat×Operand)->List V->Acc (List V)
 |[],cs=>pure cs
 |(i,x)::ps,cs=>do
  let v:=ev P tm e x
  ck (Nat.beq v.cells.length (qO P e))
  ck (v.cells.all one)
  ck (Nat.ble (i * qO P e+qO P e) cs.length)
  uH P e tm ps (splice cs (i * qO P e) v.cells)
def amR(P:Program)(T:TypeId)(tm:mg)(ps:List (Nat×Operand)):Acc V:=do
 ck (aoe P T)
 let z<-op' (Tc P T)
 let cs<-xU P T tm ps z
 pure (.agg cs)
def aso(P:Program)(T e:TypeId)(tm:mg)(ps:List (Nat×Operand)):Acc V:=do
 ck (I8 P e)
 let z<-op' (Tc P T)
 let cs<-uH P e tm ps z
 pure (.agg cs)
def amS(P:Program)(T:TypeId)(tm:mg)(ps:List (Nat×Operand)):Acc V:=match arT P T with
 |some (_,e)=>aso P T e tm ps
 |none=>amR P T tm ps
def xW(P:Program)(e:TypeId)(tm:mg):Nat->List (Nat×Operand)->Acc (List Row)
 |_,[]=>pure []
 |k,(i,x)::ps=>do
  ck (Nat.beq i k)
  let v:=ev P tm e x
  ck (Nat.beq v.cells.length (qO P e))
  let row<-PZ v.cells
  let rows<-xW P e tm (k+1) ps
  pure (row::rows)
def WM(P:Program)(dst:Nat)(t:TypeId)(n:Nat)(tm:mg)(ps:List (Nat×Operand)):Acc V:=do
 let e<-op' (elT P t)
 ck (Nat.ble 1 (qO P e))
 ck (Nat.beq ps.length n)
 ck (Nat.ble (n * qO P e) 16777216)
 let _<-op' (Tc P e)
 let rows<-xW P e tm 0 ps
 new dst (.arr false (Hz P e) 0 (qO P e) rows)
 pure (.own dst 0)
def ahr(P:Program)(src dst:TypeId)(x:V):Acc V:=
 match P.underlying src,P.underlying dst with
 |some (.int _),some (.int k)=>match x with
  | .d (.int _ n)=> .ret (.d (.int k (k.wrap n)))
  |_=> .fail
 |some .string,some .string=>match x with
  | .d (.str s)=> .ret (.d (.str s))
  |_=> .fail
 |some (.slice e),some .string=>do
  ck (match P.underlying e with|some (.int .u8)=>true|_=>false)
  let(s,rows)<-seen x
  ck (Nat.beq s 1)
  let b<-op' (bytesOf rows)
  pure (.d (.str b))
 |_,_=> .fail
def sF:Nat:=100000
def asq(r:Nat)(l:List Nat):List Nat:=bif mem? r l then l else l++[r]
mutual
def aof(I:List Nat):V->List Nat
 | .ptr r _=>asq r I
 | .clo _ a b=>alc (alc I a) b
 | .agg cs=>alc I cs
 | .Em v=>aof I v
 |_=>I
def alc(I:List Nat):List V->List Nat
 |[]=>I
 |v::vs=>alc (aof I v) vs
end
def JO(A:Adv)(f i:Nat):Nat:=bif mem? i (A.move f) then 1 else bif mem? i (A.look f) then 4 else 0
def Vb(A:Adv)(f:Nat):Nat->List Nat->List V->List Nat
 |_,I,[]=>I
 |i,I,v::vs=>Vb A f (i+1) (match JO A f i,v with
  |4,_=>I
  |_,v=>aof I v) vs
def idxOf(r:Nat):Nat->List Nat->Option Nat
 |_,[]=>none
 |i,j::l=>bif Nat.beq r j then some i else idxOf r (i+1) l
def XF(A:Adv)(f:Nat):Nat->List V->Acc (List V)
 |_,[]=>pure []
 |i,v::vs=>do
  let v<-(match JO A f i with
   |1=>do
    let x<-toD v
    pure (.d x)
   |_=>pure v:Acc V)
  let vs<-XF A f (i+1) vs
  pure (v::vs)
mutual
def lend(imp:List Nat):V->Acc (V×List Nat)
 | .d x=>pure (.d (roD x),[])
 | .nil s=>pure (.d (.sl false s []),[])
 | .own r ver=>do
  match<-rd r with
  |some (.arr fz fl uO s rows)=>do
   ck (Nat.beq ver uO)
   ck (!(mem? r imp))
   pure (.d (.sl false s (vw fl rows)),bif fz then[] else[r])
  |_=> .fail
 | .ptr r off=>do
  let i<-op' (idxOf r 0 imp)
  pure (.ptr (sF+i) off,[])
 | .uN row off=>pure (.uN row off,[])
 | .Em v=>do
  let(v,l)<-lend imp v
  pure (.Em v,l)
 | .clo f a b=>do
  let(a,l)<-ahs imp a
  let(b,l')<-ahs imp b
  pure (.clo f a b,l++l')
 | .agg cs=>do
  let(a,l)<-ahs imp cs
  pure (.agg a,l)
 | .Ej ..=> .fail
 | .FQ _=> .fail
 | .undef=> .fail
def ahs(imp:List Nat):List V->Acc (List V×List Nat)
 |[]=>pure ([],[])
 |v::vs=>do
  let(v,l)<-lend imp v
  let(vs,l')<-ahs imp vs
  pure (v::vs,l++l')
end
def XG(imp:List Nat):List V->Acc (Row×List Nat)
 |[]=>pure ([],[])
 |v::vs=>do
  let(v,l)<-lend imp v
  match v with
  | .d x=>do
   let(r,l')<-XG imp vs
   pure (x::r,l++l')
  |_=> .fail
def agV(imp:List Nat)(v:V):Acc (V×List Nat):=
 match v with
 | .ptr r off=>do
  match<-rd r with
  |some (.box _ cs)=>do
   ck (!(mem? r imp))
   let(row,l)<-XG imp cs
   pure (.uN row off,r::l)
  |_=> .fail
 | .uN row off=>pure (.uN row off,[])
 |_=> .fail
def XH(A:Adv)(imp:List Nat)(f:Nat):Nat->List V->Acc (List V×List Nat)
 |_,[]=>pure ([],[])
 |i,v::vs=>do
  let(v,l)<-(match JO A f i with
   |1=>pure (v,[])
   |4=>agV imp v
   |_=>lend imp v:Acc (V×List Nat))
  let(vs,l')<-XH A imp f (i+1) vs
  pure (v::vs,l++l')
def awN(imp:List Nat)(own:Bool)(v:V):Acc V:=
 match v with
 | .d x=>pure (.d (roD x))
 | .nil s=>pure (.d (.sl own s []))
 | .own r ver=>do
  match<-rd r with
  |some (.arr fz fl uO s rows)=>do
   ck (Nat.beq ver uO)
   ck (!(mem? r imp))
   match own with
   |true=>do
    ck (!fz)
    ck (atI fl rows)
    wr r .dead
    pure (.d (.sl true s rows))
   |false=>do
    wr r (.arr true fl ver s rows)
    pure (.d (.sl false s (vw fl rows)))
  |_=> .fail
 |_=> .fail
def Zx(imp own:List Nat):Nat->List V->Acc (List V)
 |_,[]=>pure []
 |j,v::vs=>do
  let v<-awN imp (mem? j own) v
  let vs<-Zx imp own (j+1) vs
  pure (v::vs)
def atJ(A:Adv)(imp:List Nat)(c:Option Cell):Acc Cell:=
 match c with
 |some (.box t cs)=>do
  let cs<-Zx imp (A.aJi t) 0 cs
  pure (.box t cs)
 |_=> .fail
def Zy(A:Adv)(imp:List Nat):List Nat->Acc (List Cell)
 |[]=>pure []
 |r::rs=>do
  let c<-rd r
  let c<-atJ A imp c
  let cs<-Zy A imp rs
  pure (c::cs)
def keyOf(r j dst:Nat):Nat:=1000000+(r * 100+j) * 10000+dst
def vD:V->D
 | .d x=>x
 |_=> .VG
def awO(cs:List Cell)(i:Nat):Row:=match cs[i]? with|some (.box _ vs)=>vs.map vD|_=>[]
def awP(cs:List Cell)(i n:Nat):Bool:=match cs[i]? with|some (.box _ vs)=>Nat.beq vs.length n|_=>false
def awQ(f:TypeId->List Bool):List TypeId->List Bool
 |[]=>[]
 |t::ts=>f t++awQ f ts
def fls(P:Program):Nat->TypeId->List Bool
 |0,_=>[]
 |n+1,t=>match P.underlying t with
  |some (.slice e)=>[Hz P e]
  |some (.struct fs)=>awQ (fls P n) (fs.toList.map (·.type))
  |_=>[false]
def Ut(own fl:Bool)(key:Nat)(row:Row)(j:Nat):CT->Acc V
 | .int k=> .opt (bK k row j) λn=> .ret (.d (.int k n))
 | .bool=> .opt (RU row j) λn=> .ret (.d (.bool n))
 | .str=> .opt (cStr row j) λn=> .ret (.d (.str n))
 | .sl s=>match own with
  |true=> .opt (aJh s row j) λrows=>do
   new key (.arr false fl 0 s rows)
   pure (.own key 0)
  |false=> .opt (NK s row j) λrows=> .ret (.d (.sl false s (vw fl rows)))
 | .other=> .fail
def acM(own:List Nat)(r dst:Nat)(row:Row):Nat->List CT->List Bool->Acc (List V)
 |_,[],_=>pure []
 |j,ct::l,fs=>do
  let v<-Ut (mem? j own) (fs.headD false) (keyOf r j dst) row j ct
  let vs<-acM own r dst row (j+1) l fs.tail
  pure (v::vs)
def ae6(X:Ctx)(dst:Nat)(out:List Cell):Nat->List Nat->Acc Unit
 |_,[]=>pure ()
 |i,r::rs=>do
  match<-rd r with
  |some (.box t _)=>do
   ck (awP out i (RS X.P t).length)
   let vs<-acM (X.UN.aJi t) r dst (awO out i) 0 (RS X.P t) (fls X.P 8 t)
   wr r (.box t vs)
  |_=> .fail
  ae6 X dst out (i+1) rs
def asr(dst c:Nat):Nat:=1000000000000000+dst * 1000+c
def XI(att:List Nat)(dst ri:Nat)(row:Row):Nat->List CT->List Bool->Acc (List V)
 |_,[],_=>pure []
 |j,ct::l,fs=>do
  let v<-Ut (mem? (ri * 20+j) att) (fs.headD false) (asr dst (ri * 20+j)) row j ct
  let vs<-XI att dst ri row (j+1) l fs.tail
  pure (v::vs)
def asu(X:Ctx)(att:List Nat)(dst ri:Nat)(row:Row)(t:TypeId):Acc V:=match ahp X.P t with
 |some T=>do
  ck (Nat.beq row.length (RS X.P T).length)
  let cs<-XI [] dst ri row 0 (RS X.P T) (fls X.P 8 T)
  new (asr dst (ri * 20+19)) (.box T cs)
  pure (.ptr (asr dst (ri * 20+19)) 0)
 |none=>do
  ck (Nat.beq row.length (RS X.P t).length)
  let cs<-XI att dst ri row 0 (RS X.P t) (fls X.P 8 t)
  op' (PY X.P t cs)
def aht(res:List Row)(ri:Nat):Row:=match res[ri]? with|some r=>r|none=>[]
def abK(X:Ctx)(att:List Nat)(dst:Nat)(res:List Row):Nat->List TypeId->Acc (List V)
 |_,[]=>pure []
 |ri,t::ts=>do
  let v<-asu X att dst ri (aht res ri) t
  let vs<-abK X att dst res (ri+1) ts
  pure (v::vs)
def asv(att:List Nat)(ri:Nat):Nat->List CT->Bool
 |_,[]=>true
 |j,.sl _::l=>mem? (ri * 20+j) att && asv att ri (j+1) l
 |j,_::l=>asv att ri (j+1) l
def aaI(P:Program)(att:List Nat):Nat->List TypeId->Bool
 |_,[]=>true
 |ri,t::ts=>asv att ri 0 (RS P t) && aaI P att (ri+1) ts
def freeze:List Nat->Acc Unit
 |[]=>pure ()
 |r::rs=>do
  match<-rd r with
  |some (.arr _ fl ver s rows)=>wr r (.arr true fl ver s rows)
  |_=> .fail
  freeze rs
def acN(X:Ctx)(K:lQ)(fn dst f:Nat)(args:List V):Acc V:=do
 let g<-op' X.P.funcs[f]?
 ck (g.body.isSome && !(g.name == "runtime.NumGoroutine"))
 let imp:=Vb X.UN f 0 [] args
 let args<-XF X.UN f 0 args
 let cells<-Zy X.UN imp imp
 let(args,Uu)<-XH X.UN imp f 0 args
 ck (Uu.all λr=> !(mem? r imp))
 let out<-op' (K f args cells)
 ck (Nat.beq out.1.length g.resultTypes.size)
 let need:= !(Uu.isEmpty) &&(aaI X.P (X.UN.att fn dst) 0 g.resultTypes.toList && imp.isEmpty)
 ck (bif need then out.1.all bg else true)
 freeze (bif need then[] else Uu)
 ae6 X dst out.2 0 imp
 let vs<-abK X (X.UN.att fn dst) dst out.1 0 g.resultTypes.toList
 match vs with
 |[v]=>pure v
 |vs=>pure (.FQ vs)
def aJm(P:Program)(ts:List TypeId)(x:V):Bool:=match ts with
 |[t]=>(match x with
  | .d (.str _)=>(match P.underlying t with|some .string=>true|_=>false)
  |_=>(match P.underlying t with|some (.slice _)=>true|_=>false))
 |_=>false
def wJ(P:Program)(tm:mg):List Operand->List TypeId->List V
 |[],_=>[]
 |x::xs,ts=>ev P tm (ts.headD 0) x::wJ P tm xs ts.tail
def aog:List V->Acc (List V)
 |[]=>pure []
 |v::vs=>do
  let v<-(match v with
   | .ptr r off=>do
    match<-rd r with
    |some (.qN _ x)=>do
     ck (Nat.beq off 0)
     pure (.Em x)
    |_=>pure (.ptr r off)
   |v=>pure v:Acc V)
  let vs<-aog vs
  pure (v::vs)
def vop(X:Ctx)(K:lQ)(fn:Nat)(tm:mg)(o:Oper):Acc V:=
 let P:=X.P
 let dst:=o.dst.getD 0
 match o.op with
 | .move x=>pure (ev P tm o.type x)
 | .assign x=>pure (ev P tm o.type x)
 | .pick c x y=>awL (ev P tm o.type c) (ev P tm o.type x) (ev P tm o.type y)
 | .alloc T=>do
  let z<-op' (Tc P T)
  new dst (.box T z)
  pure (.ptr dst 0)
 | .box T x=>do
  let v:=ev P tm T x
  ck (Nat.beq v.cells.length (qO P T))
  ck (v.cells.all one)
  new dst (.box T v.cells)
  pure (.ptr dst 0)
 | .build T ps=>amS P T tm ps.toList
 | .buildSlice t n ps=>WM P dst t n tm ps.toList
 | .load t a=>awM P t (evG X tm 0 a)
 | .store t a x=>do ash P t (ev P tm 0 a) (ev P tm t x);pure .undef
 | .nilCheck x=>match evG X tm o.type x with
  | .ptr r off=>pure (.ptr r off)
  | .uN row off=>pure (.uN row off)
  | .Ej r ver i off=>pure (.Ej r ver i off)
  |_=> .fail
 | .binOp op t x y t'=>aJl P t op (ev P tm t x) (ev P tm t' y)
 | .unOp op t x=>un op (ev P tm t x)
 | .convert s d x=>ahr P s d (ev P tm s x)
 | .makeFunc (.func f) first caps=>do
  let cs<-aog (wJ P tm caps.toList [])
  pure (.clo f (wJ P tm first.toList []) cs)
 | .makeSlice t l c=>abJ P dst t (ev P tm o.type l) (ev P tm o.type c)
 | .slice t x lo hi none=>match X.UN.trunc fn dst,lo,hi with
  |true,none,hi=>asn P t (ev P tm t x) (hi.map (ev P tm 3))
  |true,some lo,none=>aEr P t (ev P tm t x) (ev P tm 3 lo)
  |_,lo,hi=>amQ P t (evG X tm t x) (lo.map (ev P tm 3)) (hi.map (ev P tm 3))
 | .fieldAddr T x f=>abE P T (ev P tm 0 x) f
 | .field T x f=>asi P T (ev P tm T x) f
 | .indexAddr t x i=>abH P t (evG X tm t x) (ev P tm 3 i)
 | .index t x i=>asj P t (ev P tm t x) (ev P tm 3 i)
 | .extract x i=>match ev P tm 0 x with
  | .FQ vs=>op' vs[i]?
  |_=> .fail
 | .call {callee:=.value f,args,argTypes}=>match ev P tm 0 f with
  | .clo g first caps=>acN X K fn dst g (first++wJ P tm args.toList argTypes.toList++caps)
  |_=> .fail
 | .call {callee:=.builtin .len,args,argTypes}=>match wJ P tm args.toList argTypes.toList with
  |[x]=>do
   ck (aJm P argTypes.toList x)
   lenV x
  |_=> .fail
 | .call {callee:=.builtin .append,args,argTypes}=>match wJ P tm args.toList argTypes.toList,argTypes.toList with
  |[x,y],[t,t']=>amP P dst t t' x y
  |_,_=> .fail
 | .call {callee:=.builtin .max,args,argTypes}=>match wJ P tm args.toList argTypes.toList with
  |[.d (.int k x),.d (.int _ y)]=>pure (.d (.int k (bif decide (x<y) then y else x)))
  |_=> .fail
 | .call {callee:=.builtin .min,args,argTypes}=>match wJ P tm args.toList argTypes.toList with
  |[.d (.int k x),.d (.int _ y)]=>pure (.d (.int k (bif decide (y<x) then y else x)))
  |_=> .fail
 |_=> .fail
end Go.Vm
namespace Go.Vm
open Go
mutual
def refs:V->List Nat
 | .own r _=>[r]
 | .ptr r _=>[r]
 | .Ej r _ _ _=>[r]
 | .clo _ a b=>Td a++Td b
 | .agg cs=>Td cs
 | .FQ vs=>Td vs
 | .Em v=>refs v
 |_=>[]
def Td:List V->List Nat
 |[]=>[]
 |v::vs=>refs v++Td vs
end
def ahu(m:Mem)(r:Nat):List Nat:=match get r m with
 |some (.box _ cs)=>Td cs
 |some (.qN _ v)=>refs v
 |_=>[]
def UO(k:Nat):Bool:=Nat.ble sF k && Nat.blt k (2 * sF)
def acO:List Nat->List Nat->List Nat
 |acc,[]=>acc
 |acc,k::ks=>acO (bif mem? k acc then acc else acc++[k]) ks
def aAX(tm:mg)(m:Mem):List Nat:=
 let l0:=acO [] (tm.flatMap λx=>refs x.2)
 let l1:=acO l0 (l0.flatMap (ahu m))
 let l2:=acO l1 (l1.flatMap (ahu m))
 (acO l2 (m.map (·.1))).filter λk=> !(UO k)
def names:List Nat:=[nat_lit 300000,nat_lit 300001,nat_lit 300002,nat_lit 300003,nat_lit 300004,nat_lit 300005,nat_lit 300006,nat_lit 300007,nat_lit 300008,nat_lit 300009,nat_lit 300010,nat_lit 300011,nat_lit 300012,nat_lit 300013,nat_lit 300014,nat_lit 300015,nat_lit 300016,nat_lit 300017,nat_lit 300018,nat_lit 300019,nat_lit 300020,nat_lit 300021,nat_lit 300022,nat_lit 300023,nat_lit 300024,nat_lit 300025,nat_lit 300026,nat_lit 300027,nat_lit 300028,nat_lit 300029,nat_lit 300030,nat_lit 300031,nat_lit 300032,nat_lit 300033,nat_lit 300034,nat_lit 300035,nat_lit 300036,nat_lit 300037,nat_lit 300038,nat_lit 300039,nat_lit 300040,nat_lit 300041,nat_lit 300042,nat_lit 300043,nat_lit 300044,nat_lit 300045,nat_lit 300046,nat_lit 300047,nat_lit 300048,nat_lit 300049,nat_lit 300050,nat_lit 300051,nat_lit 300052,nat_lit 300053,nat_lit 300054,nat_lit 300055,nat_lit 300056,nat_lit 300057,nat_lit 300058,nat_lit 300059,nat_lit 300060,nat_lit 300061,nat_lit 300062,nat_lit 300063]
def aAY:List Nat->List Nat->List (Nat×Nat)
 |n::ns,k::l=>(k,n)::aAY ns l
 |_,_=>[]
def ren(L:List (Nat×Nat))(k:Nat):Nat:=match get k L with
 |some j=>j
 |none=>k
mutual
def UQ(L:List (Nat×Nat)):V->V
 | .d x=> .d x
 | .nil s=> .nil s
 | .own r ver=> .own (ren L r) ver
 | .ptr r off=> .ptr (ren L r) off
 | .Ej r ver i off=> .Ej (ren L r) ver i off
 | .uN row off=> .uN row off
 | .Em v=> .Em (UQ L v)
 | .clo f a b=> .clo f (Zz L a) (Zz L b)
 | .agg cs=> .agg (Zz L cs)
 | .FQ vs=> .FQ (Zz L vs)
 | .undef=> .undef
def Zz(L:List (Nat×Nat)):List V->List V
 |[]=>[]
 |v::vs=>UQ L v::Zz L vs
end
def ahv(L:List (Nat×Nat)):Cell->Cell
 | .box t cs=> .box t (Zz L cs)
 | .arr fz fl ver s rows=> .arr fz fl ver s rows
 | .dead=> .dead
 | .qN t v=> .qN t (UQ L v)
def VH(L:List (Nat×Nat)):Mem->Mem
 |[]=>[]
 |(k,c)::m=>put (ren L k) (ahv L c) (VH L m)
def ahw(L:List (Nat×Nat)):mg->mg
 |[]=>[]
 |(t,v)::tm=>(t,UQ L v)::ahw L tm
def nodupB:List Nat->Bool
 |[]=>true
 |k::l=> !(mem? k l) && nodupB l
def acP(L:List (Nat×Nat))(ks:List Nat):Bool:=nodupB (ks.map (ren L)) && ks.all λk=>bif UO k then Nat.beq (ren L k) k else true
def amT(L:List (Nat×Nat))(S:St):St:=match acP L (S.mem.map (·.1)) with
 |true=>⟨ahw L S.tm,VH L S.mem⟩
 |false=>S
def canon(S:St):St:=match aAX S.tm S.mem with
 |[]=>S
 |k::o=>amT (aAY names (k::o)) S
end Go.Vm
namespace Go.Vm
open Go
mutual
def Yu(m:Mem):V->V
 | .d x=> .d x
 | .nil s=> .nil s
 | .own r ver=>match get r m with
  |some (.arr _ _ uO _ _)=>bif Nat.beq ver uO then .own r 0 else .undef
  |_=> .undef
 | .ptr r off=>match get r m with
  |some (.box _ _)=> .ptr r off
  |some (.qN _ _)=> .ptr r off
  |_=> .undef
 | .Ej r ver i off=>match get r m with
  |some (.arr _ _ uO _ _)=>bif Nat.beq ver uO then .Ej r 0 i off else .undef
  |_=> .undef
 | .uN row off=> .uN row off
 | .Em v=> .Em (Yu m v)
 | .clo f a b=> .clo f (aa8 m a) (aa8 m b)
 | .agg cs=> .agg (aa8 m cs)
 | .FQ vs=> .FQ (aa8 m vs)
 | .undef=> .undef
def aa8(m:Mem):List V->List V
 |[]=>[]
 |v::vs=>Yu m v::aa8 m vs
end
def KN(m:Mem):Cell->Cell
 | .box t cs=> .box t (aa8 m cs)
 | .arr fz fl _ s rows=> .arr fz fl 0 s rows
 | .dead=> .dead
 | .qN t v=> .qN t (Yu m v)
def abL(m:Mem)(tm:mg):List Nat->mg
 |[]=>[]
 |t::ts=>match get t tm with
  |some v=>(t,Yu m v)::abL m tm ts
  |none=>abL m tm ts
def abM:List Nat->List Nat->List Nat
 |[],l=>l
 |a::as,l=>bif mem? a l then abM as l else abM as (a::l)
def reach(m:Mem):Nat->List Nat->List Nat
 |0,l=>l
 |n+1,l=>reach m n (abM (l.flatMap (ahu m)) l)
def roots(tm:mg)(m:Mem):List Nat:=
 abM (tm.flatMap λx=>refs x.2) ((m.map (·.1)).filter UO)
def xF(all:Mem)(R:List Nat):Mem->Mem
 |[]=>[]
 |(k,c)::m=>match c with
  | .dead=>xF all R m
  |c=>bif mem? k R then(k,KN all c)::xF all R m else xF all R m
def closed(R:List Nat)(m:Mem):Bool:=m.all λx=>match x.2 with
 | .box _ cs=>(Td cs).all λr=>mem? r R
 | .qN _ v=>(refs v).all λr=>mem? r R
 |_=>true
def aJn(m:Mem):Bool:=m.all λx=>match x.2 with
 | .arr _ _ ver _ _=>bif UO x.1 then Nat.beq ver 0 else true
 | .dead=> !(UO x.1)
 |_=>true
def sortedK:Mem->Bool
 |[]=>true
 |(k,_)::m=>match m with
  |[]=>true
  |(j,_)::_=>Nat.blt k j && sortedK m
def abN(ts:List Nat)(S:St):Option St:=
 let tm:=abL S.mem S.tm ts
 let R:=reach S.mem 3 (roots tm S.mem)
 let m:=xF S.mem R S.mem
 bif closed R m &&(aJn S.mem && sortedK S.mem) then some ⟨tm,m⟩ else none
def prune(ts:List Nat)(S:St):Option St:=match abN ts S with
 |some S'=>some (canon S')
 |none=>none
def Gn(ops:Array Oper)(tm:mg)(o:Oper):Option (Bool×mg):=
 match o.guard with
 |none=>some (true,tm)
 |some (j,want)=>match ops[j]? with
  |some oj=>match oj.dst with
   |some d=>match aaY d tm with
    | .d (.bool b)=>match b with
     |true=>some (want,put d (.d (.bool true)) tm)
     |false=>some (!want,put d (.d (.bool false)) tm)
    | .FQ vs=>match vs with
     |[]=>some (false,put d (.FQ []) tm)
     |_::_=>none
    |_=>none
   |none=>none
  |none=>none
def ZA(nt:Nat):Option Nat->Bool
 |some d=>Nat.blt d nt
 |none=>true
def Zr(P:Program)(fn:Nat):Nat:=match P.funcs[fn]? with|some g=>g.ntmps|none=>0
def ae7(nt:Nat)(dst:Option Nat)(tm:mg):mg:=bif ZA nt dst then aky dst (.FQ []) tm else aAV dst tm
def Ee(X:Ctx)(K:lQ)(fn:Nat)(ops:Array Oper)(i:Nat)(S:St):Option (St×Log):=
 match ops[i]? with
 |none=>none
 |some o=>match Gn ops S.tm o with
  |none=>none
  |some (false,tm)=>some (⟨ae7 (Zr X.P fn) o.dst tm,S.mem⟩,.none)
  |some (true,tm)=>match(vop X K fn tm o).run S.mem .none with
   |none=>none
   |some (v,m,l)=>bif ZA (Zr X.P fn) o.dst then some (⟨aky o.dst v tm,m⟩,l) else none
def Pg(X:Ctx)(K:lQ)(fn:Nat)(ops:Array Oper):List Nat->St->List (Nat×Log)->Option (St×List (Nat×Log))
 |[],S,L=>some (S,L)
 |i::is,S,L=>match Ee X K fn ops i S with
  |none=>none
  |some (S',l)=>Pg X K fn ops is S' ((i,l)::L)
def aAZ(a b:List Nat):Bool:=a.all λk=> !(mem? k b)
def Log.apart(a b:Log):Bool:=aAZ a.w b.r && aAZ a.w b.w && aAZ a.r b.w
def ordered(bef:Array Nat)(i j:Nat):Bool:=(bef.getD i 0).testBit j
def ZB(ops:Array Oper)(bef:Array Nat):List (Nat×Log)->Bool
 |[]=>true
 |(i,l)::L=>(L.all fun(j,l')=>ordered bef i j||(l.apart l' &&(match ops[i]?,ops[j]? with
   |some a,some b=>a.apart ops b
   |_,_=>false))) && ZB ops bef L
def ZC:Nat->List Oper->Bool
 |_,[]=>true
 |i,o::l=>(o.after.toList.all λe=> !(Region.binds .any e)||Nat.blt e.on i) && ZC (i+1) l
def backOk(ops:Array Oper):Bool:=ZC 0 ops.toList
def KO(X:Ctx)(K:lQ)(fn id:Nat)(ops:Array Oper)(draw:Bool)(S:St):Option (St×List (Nat×Log)):=Pg X K fn ops (List.range ops.size) S []
def region(X:Ctx)(K:lQ)(fn id:Nat)(ops:Array Oper)(draw:Bool)(S:St):Option St:=
 match KO X K fn id ops draw S with
 |none=>none
 |some (S',L)=>bif(match draw with|false=>true|true=>X.P.follows .mixedOrders &&(backOk ops && ZB ops (Region.before ops) L)) then prune (X.UN.keep fn id) S' else none
inductive Ex where
 |normal
 |exit (id:Nat)
 |ret
noncomputable def lim{α:Type}(f:Nat->Option α):Option α:=
 open Classical in if h:∃a n,f n=some a then some (Classical.choose h) else none
def iter(b:St->Option (Ex×St)):Nat->St->Option (Ex×St)
 |0,_=>none
 |n+1,S=>match b S with
  |some (.normal,S')=>iter b n S'
  |r=>r
noncomputable def WO(b:St->Option (Ex×St))(S:St):Option (Ex×St):=lim λn=>iter b n S
def aa9(P:Program)(tm:mg)(c:Operand):Option Bool:=match ev P tm 0 c with
 | .d (.bool b)=>some b
 |_=>none
noncomputable def den(X:Ctx)(K:lQ)(fn:Nat):Code->St->Option (Ex×St)
 | .skip,S=>some (.normal,S)
 | .region id ops draw,S=>match region X K fn id ops draw S with
  |some S'=>some (.normal,S')
  |none=>none
 | .seq a b,S=>match den X K fn a S with
  |some (.normal,S')=>den X K fn b S'
  |r=>r
 | .cond c a b,S=>match aa9 X.P S.tm c with
  |some true=>den X K fn a S
  |some false=>den X K fn b S
  |none=>none
 | .block id c,S=>match den X K fn c S with
  |some (.exit j,S')=>bif Nat.beq j id then some (.normal,S') else some (.exit j,S')
  |r=>r
 | .loop c,S=>WO (den X K fn c) S
 | .exit id,S=>some (.exit id,S)
 | .ret,S=>some (.ret,S)
 |_,_=>none
def asw(A:Adv)(f i:Nat)(fl:Bool)(v:V):Acc V:=
 match JO A f i with
 |1=>(match v with
  | .d (.sl true s rows)=>do
   new i (.arr false fl 0 s rows)
   pure (.own i 0)
  | .d x=>pure (.d (roD x))
  |_=> .fail)
 |_=>pure v
def acQ(X:Ctx)(f:Nat):Nat->List TypeId->List V->Acc mg
 |_,_,[]=>pure []
 |i,ts,v::vs=>do
  let v<-asw X.UN f i ((fls X.P 8 (ts.headD 0)).headD false) v
  let r<-acQ X f (i+1) ts.tail vs
  pure ((i,v)::r)
def uP:Nat->List Cell->Mem
 |_,[]=>[]
 |i,c::cs=>(sF+i,c)::uP (i+1) cs
def xG(n:Nat):List Nat:=(List.range n).map (sF+ ·)
def entry(X:Ctx)(f:Nat)(g:Func)(args:List V)(cells:List Cell):Acc mg:=do
 ae6 X 9999 cells 0 (xG cells.length)
 acQ X f 0 g.params.toList args
def ahx(T:TypeId)(v:V):Acc Row:=match v with
 | .ptr r off=>do
  match<-rd r with
  |some (.box T' cs)=>do
   ck (Nat.beq T T' && Nat.beq off 0)
   wr r .dead
   PZ cs
  |_=> .fail
 |_=> .fail
def amU(P:Program)(tm:mg)(r:ResultVar)(t:TypeId):Acc Row:=
 match r with
 | .tmp x=>match ahp P t with
  |some T=>ahx T (aaY x tm)
  |none=>match Us P t,aaY x tm with
   |true,.agg cs=>PZ cs
   |false,.agg _=> .fail
   |false,v=>PZ [v]
   |true,_=> .fail
 | .cell a T=>match aaY a tm with
  | .ptr r 0=>do
   match<-rd r with
   |some (.box _ cs)=>do
    ck (Nat.beq T t && Nat.beq cs.length (qO P T) &&(I8 P T &&(Us P T||Nat.beq cs.length 1)) &&(ahp P t).isNone)
    PZ cs
   |_=> .fail
  |_=> .fail
def aaJ(P:Program)(tm:mg):List ResultVar->List TypeId->Acc (List Row)
 |[],[]=>pure []
 |r::rs,t::ts=>do
  let row<-amU P tm r t
  let rows<-aaJ P tm rs ts
  pure (row::rows)
 |_,_=> .fail
def leave(X:Ctx)(g:Func)(n:Nat)(S:St):Option (List Row×List Cell):=
 match(do
  let rows<-aaJ X.P S.tm g.results.toList g.resultTypes.toList
  let cells<-Zy X.UN (xG n) (xG n)
  pure (rows,cells):Acc (List Row×List Cell)).run S.mem .none with
 |some (r,_,_)=>some r
 |none=>none
noncomputable def body(X:Ctx)(K:lQ)(f:Nat)(args:List V)(cells:List Cell):Option (List Row×List Cell):=
 match X.P.funcs[f]? with
 |some g=>match g.body with
  |some c=>bif !(Nat.ble cells.length sF && Nat.ble args.length g.ntmps) then none else match(entry X f g args cells).run (uP 0 cells) .none with
   |some (tm,m,_)=>(match den X K f c ⟨tm,m⟩ with
    |some (.normal,S)=>leave X g cells.length S
    |some (.ret,S)=>leave X g cells.length S
    |_=>none)
   |none=>none
  |none=>none
 |none=>none
noncomputable def ZE(X:Ctx):Nat->lQ
 |0,_,_,_=>none
 |n+1,f,args,cells=>match X.Zw f with
  |some p=>p args cells
  |none=>body X (ZE X n) f args cells
noncomputable def call(X:Ctx):lQ:=λf args cells=>lim λn=>ZE X n f args cells
end Go.Vm
namespace Go.Vm
open Go
abbrev View:=Nat->Nat->Option Value
abbrev Heap:=Nat->Option Obj
def dU(w:World):Heap:=λb=>w.heap[b]?
mutual
def ro(h:View):D->Value->Prop
 | .int k n,v=>v=.int k n
 | .bool b,v=>v=.bool b
 | .str s,v=>v=.string ⟨⟨s⟩⟩
 | .VG,v=>v=.nilFunc
 | .sl _ s rows,v=>∃a cap,v=.slice a rows.length cap/\rows.length<=cap/\(rows≠[]->∃b o,a=some ⟨b,o,none⟩/\oV h s rows b o)
def oV(h:View)(s:Nat):List Row->Nat->Nat->Prop
 |[],_,_=>True
 |r::rs,b,o=>r.length=s/\yX h r b o/\oV h s rs b (o+s)
def yX(h:View):Row->Nat->Nat->Prop
 |[],_,_=>True
 |x::r,b,o=>(∃v,h b o=some v/\ro h x v)/\yX h r b (o+1)
end
mutual
def ow(H:Heap)(h:View):D->Value->List Nat->Prop
 | .int k n,v,N=>v=.int k n/\N=[]
 | .bool b,v,N=>v=.bool b/\N=[]
 | .str s,v,N=>v=.string ⟨⟨s⟩⟩/\N=[]
 | .VG,v,N=>v=.nilFunc/\N=[]
 | .sl own s rows,v,N=>match own with
  |false=>N=[]/\ro h (.sl false s rows) v
  |true=>(rows=[]/\v=.slice none 0 0/\N=[])\/
   ∃b cap cs t N',v=.slice (some ⟨b,0,none⟩) rows.length cap/\rows.length<=cap/\H b=some (.cells cs t (0,0))/\cs.size=cap * s/\
    iK H h s rows cs.toList N'/\N=b::N'
def iK(H:Heap)(h:View)(s:Nat):List Row->List Value->List Nat->Prop
 |[],_,N=>N=[]
 |r::rs,cs,N=>r.length=s/\∃N1 N2,N=N1++N2/\jE H h r cs N1/\iK H h s rs (cs.drop s) N2
def jE(H:Heap)(h:View):Row->List Value->List Nat->Prop
 |[],_,N=>N=[]
 |x::r,cs,N=>∃v cs' N1 N2,cs=v::cs'/\N=N1++N2/\ow H h x v N1/\jE H h r cs' N2
end
def jq(h:View):Row->List Value->Prop
 |[],_=>True
 |x::r,cs=>∃v cs',cs=v::cs'/\ro h x v/\jq h r cs'
def jm(h:View)(s:Nat):List Row->List Value->Prop
 |[],_=>True
 |r::rs,cs=>r.length=s/\jq h r cs/\jm h s rs (cs.drop s)
def abO(H:Heap)(h:View)(fl:Bool)(s:Nat)(rows:List Row)(v:Value)(N:List Nat):Prop:=
 (rows=[]/\v=.slice none 0 0/\N=[])\/
 ∃b cap cs t N',v=.slice (some ⟨b,0,none⟩) rows.length cap/\rows.length<=cap/\H b=some (.cells cs t (0,0))/\cs.size=cap * s/\
  (match fl with
   |true=>jm h s rows cs.toList/\N'=[]
   |false=>iK H h s rows cs.toList N')/\N=b::N'
def abP(g:Value):Prop:=∃a n c,g=.slice a n c
def awR(g:Value):Prop:=∃b o,g=.pointer (some ⟨b,o,none⟩)
mutual
def aU(μ:Nat->Value)(m:Mem)(h:View):V->Value->Prop
 | .d x,g=>ro h x g
 | .nil _,g=>g=.slice none 0 0
 | .own r v0,g=>abP g/\match get r m with
  |some (.arr _ _ ver _ _)=>v0<=ver/\(v0=ver->g=μ r)
  |some .dead=>True
  |_=>False
 | .ptr r off,g=>awR g/\match get r m with
  |some (.box _ _)=>∃b,μ r=.pointer (some ⟨b,0,none⟩)/\g=.pointer (some ⟨b,off,none⟩)
  |some (.qN _ _)=>∃b,μ r=.pointer (some ⟨b,0,none⟩)/\g=.pointer (some ⟨b,off,none⟩)
  |some .dead=>True
  |_=>False
 | .Ej r v0 i off,g=>awR g/\match get r m with
  |some (.arr _ _ ver s _)=>v0<=ver/\(v0=ver->∃b n cap,μ r=.slice (some ⟨b,0,none⟩) n cap/\g=.pointer (some ⟨b,i * s+off,none⟩))
  |some .dead=>True
  |_=>False
 | .uN row off,g=>∃b o,g=.pointer (some ⟨b,o+off,none⟩)/\yX h row b o
 | .Em v,g=>∃b x,g=.pointer (some ⟨b,0,none⟩)/\h b 0=some x/\aU μ m h v x
 | .clo f first caps,g=>∃a c,g=.func (.func f) a c/\dn μ m h first a.toList/\dn μ m h caps c.toList
 | .agg cs,g=>∃a,g=.agg a/\dn μ m h cs a.toList
 | .FQ vs,g=>∃a,g=.tuple a/\dn μ m h vs a.toList
 | .undef,_=>True
def dn(μ:Nat->Value)(m:Mem)(h:View):List V->List Value->Prop
 |[],gs=>gs=[]
 |v::vs,gs=>∃g gs',gs=g::gs'/\aU μ m h v g/\dn μ m h vs gs'
end
def sG(μ:Nat->Value)(m:Mem)(H:Heap)(h:View)(r:Nat):Cell->List Nat->Prop
 | .box t cs,N=>∃b a,μ r=.pointer (some ⟨b,0,none⟩)/\H b=some (.cells a t (0,0))/\dn μ m h cs a.toList/\N=[b]
 | .arr fz fl _ s rows,N=>match fz with
  |true=>ro h (.sl true s rows) (μ r)/\N=[]
  |false=>abO H h fl s rows (μ r) N
 | .dead,N=>N=[]
 | .qN _ v,N=>N=[]/\∃b x,μ r=.pointer (some ⟨b,0,none⟩)/\h b 0=some x/\aU μ m h v x
open Classical in
noncomputable def view(w:World)(U X:Nat->Prop):View:=λb o=>if U b/\¬X b then w.cell? ⟨b,o,none⟩ else none
def excl(F:Nat->List Nat)(E:List Nat):Nat->Prop:=λb=>b∈E\/∃r,b∈F r
structure Keep(M:List Nat)(w w':World):Prop where
 os:w'.os=w.os
 tape:w'.tape=w.tape
 output:w'.output=w.output
 size:w.heap.size<=w'.heap.size
 block:∀b,b<w.heap.size->b ∉ M->w'.heap[b]? =w.heap[b]?
def Keep.refl(M:List Nat)(w:World):Keep M w w:=⟨rfl,rfl,rfl,Nat.le_refl _,λ_ _ _=>rfl⟩
def Keep.trans{M M':List Nat}{a b c:World}(h:Keep M a b)(k:Keep M' b c)(hM:∀x,x∈M'->x∈M\/a.heap.size<=x):Keep M a c:=
 ⟨k.os.trans h.os,k.tape.trans h.tape,k.output.trans h.output,Nat.le_trans h.size k.size,λi hi hm=>(k.block i (Nat.lt_of_lt_of_le hi h.size) (λhx=>(hM i hx).elim hm (λhl=>absurd hi (Nat.not_lt.2 hl)))).trans (h.block i hi hm)⟩
structure MInv(base:Nat)(U:Nat->Prop)(m:Mem)(w:World)(μ:Nat->Value)(F:Nat->List Nat)(E:List Nat)(out:List Nat):Prop where
 cell:∀r c,get r m=some c->r ∉ out->sG μ m (dU w) (view w U (excl F E)) r c (F r)
 dj:∀r r',r≠r'->∀b,b∈F r->b ∉ F r'
 djE:∀r b,b∈F r->b ∉ E
 nd:∀r,(F r).Nodup
 ndE:E.Nodup
 lt:∀b,excl F E b->b<w.heap.size/\base<=b/\U b
 up:∀b,w.heap.size<=b->U b
 bs:base<=w.heap.size
 none_:∀r,get r m=none->F r=[]
 out_:∀r,r∈out->F r=[]
def View.le(h h':View):Prop:=∀b o v,h b o=some v->h' b o=some v
def View.le_refl(h:View):h.le h:=λ_ _ _ x=>x
def View.le.trans'{a b c:View}(h:a.le b)(k:b.le c):a.le c:=λx y v q=>k x y v (h x y v q)
mutual
def KP{h h':View}(hl:h.le h'):∀(x:D) (v:Value),ro h x v->ro h' x v
 | .int _ _,_,q=>by simpa[ro] using q
 | .bool _,_,q=>by simpa[ro] using q
 | .str _,_,q=>by simpa[ro] using q
 | .VG,_,q=>by simpa[ro] using q
 | .sl _ s rows,v,q=>by simp only[ro] at q|-;obtain⟨a,cap,h1,h2,h3⟩:=q;refine⟨a,cap,h1,h2,λhn=> ?_⟩;obtain⟨b,o,h4,h5⟩:=h3 hn;exact⟨b,o,h4,ae8 hl s rows b o h5⟩
def ae8{h h':View}(hl:h.le h')(s:Nat):∀(rows:List Row) (b o:Nat),oV h s rows b o->oV h' s rows b o
 |[],_,_,_=>by simp[oV]
 |r::rs,b,o,q=>by simp only[oV] at q|-;exact⟨q.1,RZ hl r b o q.2.1,ae8 hl s rs b (o+s) q.2.2⟩
def RZ{h h':View}(hl:h.le h'):∀(r:Row) (b o:Nat),yX h r b o->yX h' r b o
 |[],_,_,_=>by simp[yX]
 |x::r,b,o,q=>by simp only[yX] at q|-;obtain⟨⟨v,h1,h2⟩,h3⟩:=q;exact⟨⟨v,hl _ _ _ h1,KP hl x v h2⟩,RZ hl r b (o+1) h3⟩
end
mutual
def amV{H H':Heap}{h h':View}(hl:h.le h'):∀(x:D) (v:Value) (N:List Nat),(∀b,b∈N->H' b=H b)->ow H h x v N->ow H' h' x v N
 | .int _ _,_,_,_,q=>by simpa[ow] using q
 | .bool _,_,_,_,q=>by simpa[ow] using q
 | .str _,_,_,_,q=>by simpa[ow] using q
 | .VG,_,_,_,q=>by simpa[ow] using q
 | .sl false s rows,v,N,_,q=>by simp only[ow] at q|-;exact⟨q.1,KP hl _ _ q.2⟩
 | .sl true s rows,v,N,hb,q=>by
  simp only[ow] at q|-;rcases q with q|⟨b,cap,cs,t,N',h1,h2,h3,h4,h5,rfl⟩
  ·exact .inl q
  ·exact .inr ⟨b,cap,cs,t,N',h1,h2,by rw[hb b (by simp)];exact h3,h4,JQ hl s rows cs.toList N' (λb' hb'=>hb b' (by simp[hb'])) h5,rfl⟩
def JQ{H H':Heap}{h h':View}(hl:h.le h')(s:Nat):∀(rows:List Row) (cs:List Value) (N:List Nat),(∀b,b∈N->H' b=H b)->iK H h s rows cs N->iK H' h' s rows cs N
 |[],_,_,_,q=>by simpa[iK] using q
 |r::rs,cs,N,hb,q=>by simp only[iK] at q|-;obtain⟨h1,N1,N2,rfl,h2,h3⟩:=q;exact⟨h1,N1,N2,rfl,Si hl r cs N1 (λb hx=>hb b (by simp[hx])) h2,JQ hl s rs _ N2 (λb hx=>hb b (by simp[hx])) h3⟩
def Si{H H':Heap}{h h':View}(hl:h.le h'):∀(r:Row) (cs:List Value) (N:List Nat),(∀b,b∈N->H' b=H b)->jE H h r cs N->jE H' h' r cs N
 |[],_,_,_,q=>by simpa[jE] using q
 |x::r,cs,N,hb,q=>by simp only[jE] at q|-;obtain⟨v,cs',N1,N2,rfl,rfl,h2,h3⟩:=q;exact⟨v,cs',N1,N2,rfl,rfl,amV hl x v N1 (λb hx=>hb b (by simp[hx])) h2,Si hl r cs' N2 (λb hx=>hb b (by simp[hx])) h3⟩
end
def acR{h h':View}(hl:h.le h'):∀(r:Row) (cs:List Value),jq h r cs->jq h' r cs
 |[],_,_=>trivial
 |x::r,cs,⟨v,cs',h1,h2,h3⟩=>⟨v,cs',h1,KP hl x v h2,acR hl r cs' h3⟩
def NP{h h':View}(hl:h.le h')(s:Nat):∀(rows:List Row) (cs:List Value),jm h s rows cs->jm h' s rows cs
 |[],_,_=>trivial
 |r::rs,cs,⟨h1,h2,h3⟩=>⟨h1,acR hl r cs h2,NP hl s rs _ h3⟩
def XJ{H H':Heap}{h h':View}(hl:h.le h'){fl:Bool}{s:Nat}{rows:List Row}{v:Value}{N:List Nat}(hb:∀b,b∈N->H' b=H b)(q:abO H h fl s rows v N):abO H' h' fl s rows v N:=by
 rcases q with q|⟨b,cap,cs,t,N',h1,h2,h3,h4,h5,rfl⟩
 ·exact .inl q
 ·refine .inr ⟨b,cap,cs,t,N',h1,h2,by rw[hb b (by simp)];exact h3,h4, ?_,rfl⟩;cases fl with
  |true=>exact⟨NP hl s rows _ h5.1,h5.2⟩
  |false=>exact JQ hl s rows _ N' (λb' hb'=>hb b' (by simp[hb'])) h5
def Np(μ μ':Nat->Value)(r:Nat):Cell->Cell->Prop
 | .box t _,.box t' _=>t'=t/\μ' r=μ r
 | .arr _ fl ver s _,.arr _ fl' uO s' _=>ver<=uO/\fl'=fl/\(ver=uO->μ' r=μ r/\s'=s)
 |_,.dead=>True
 | .box _ _,.qN _ _=>μ' r=μ r
 | .qN _ _,.qN _ _=>μ' r=μ r
 |_,_=>False
def I9(μ:Nat->Value)(m:Mem)(μ':Nat->Value)(m':Mem):Prop:=∀r c,get r m=some c->∃c',get r m'=some c'/\Np μ μ' r c c'
def ae9(μ:Nat->Value)(r:Nat)(c:Cell):Np μ μ r c c:=by cases c<;>simp[Np]
def sH(μ:Nat->Value)(m:Mem):I9 μ m μ m:=λr c h=>⟨c,h,ae9 μ r c⟩
def wL{μ1 μ2 μ3:Nat->Value}{m1 m2 m3:Mem}(h:I9 μ1 m1 μ2 m2)(k:I9 μ2 m2 μ3 m3):I9 μ1 m1 μ3 m3:=by
 intro r c hc;obtain⟨c',h1,h2⟩:=h r c hc;obtain⟨c'',k1,k2⟩:=k r c' h1;refine⟨c'',k1, ?_⟩;cases c<;>cases c'<;>cases c''<;>simp_all [Np]
 ·rename_i ver s _ _ _ uO s' _ _ _ aJo s'' _;refine⟨ak,λe=> ?_⟩;have e1:ver=uO:=ak;have e2:uO=aJo:=ak;exact⟨(k2.2.2 e2).1.trans (h2.2.2 e1).1,(k2.2.2 e2).2.trans (h2.2.2 e1).2⟩
mutual
def AQ{μ μ':Nat->Value}{m m':Mem}{h h':View}(hm:I9 μ m μ' m')(hl:h.le h'):∀(v:V) (g:Value),aU μ m h v g->aU μ' m' h' v g
 | .d x,g,q=>by simp only[aU] at q|-;exact KP hl x g q
 | .nil _,_,q=>by simpa[aU] using q
 | .own r v0,g,q=>by
  simp only[aU] at q|-;refine⟨q.1, ?_⟩;replace q:=q.2;cases hc:get r m with
  |none=>simp[hc] at q
  |some c=>
   obtain⟨c',h1,h2⟩:=hm r c hc;rw[h1];cases c<;>cases c'<;>simp_all [Np]
   ·rename_i ver s _ _ _ uO s' _;refine⟨ak,λe=> ?_⟩;have e1:ver=uO:=ak;rw[(h2.2.2 e1).1];exact q.2 ak
 | .ptr r off,g,q=>by
  simp only[aU] at q|-;refine⟨q.1, ?_⟩;replace q:=q.2;cases hc:get r m with
  |none=>simp[hc] at q
  |some c=>obtain⟨c',h1,h2⟩:=hm r c hc;rw[h1];cases c<;>cases c'<;>simp_all [Np]
 | .Ej r v0 i off,g,q=>by
  simp only[aU] at q|-;refine⟨q.1, ?_⟩;replace q:=q.2;cases hc:get r m with
  |none=>simp[hc] at q
  |some c=>
   obtain⟨c',h1,h2⟩:=hm r c hc;rw[h1];cases c<;>cases c'<;>simp_all [Np]
   ·rename_i ver s _ _ _ uO s' _;refine⟨ak,λe=> ?_⟩;have e1:ver=uO:=ak;rw[(h2.2.2 e1).1,(h2.2.2 e1).2];exact q.2 ak
 | .uN row off,g,q=>by simp only[aU] at q|-;obtain⟨b,o,h1,h2⟩:=q;exact⟨b,o,h1,RZ hl row b o h2⟩
 | .Em v,g,q=>by simp only[aU] at q|-;obtain⟨b,x,h1,h2,h3⟩:=q;exact⟨b,x,h1,hl _ _ _ h2,AQ hm hl v x h3⟩
 | .clo f first caps,g,q=>by simp only[aU] at q|-;obtain⟨a,c,h1,h2,h3⟩:=q;exact⟨a,c,h1,sJ hm hl first _ h2,sJ hm hl caps _ h3⟩
 | .agg cs,g,q=>by simp only[aU] at q|-;obtain⟨a,h1,h2⟩:=q;exact⟨a,h1,sJ hm hl cs _ h2⟩
 | .FQ vs,g,q=>by simp only[aU] at q|-;obtain⟨a,h1,h2⟩:=q;exact⟨a,h1,sJ hm hl vs _ h2⟩
 | .undef,_,_=>by simp[aU]
def sJ{μ μ':Nat->Value}{m m':Mem}{h h':View}(hm:I9 μ m μ' m')(hl:h.le h'):∀(vs:List V) (gs:List Value),dn μ m h vs gs->dn μ' m' h' vs gs
 |[],_,q=>by simpa[dn] using q
 |v::vs,gs,q=>by simp only[dn] at q|-;obtain⟨g,gs',h1,h2,h3⟩:=q;exact⟨g,gs',h1,AQ hm hl v g h2,sJ hm hl vs gs' h3⟩
end
def P5{μ μ':Nat->Value}{m m':Mem}{H H':Heap}{h h':View}(hm:I9 μ m μ' m')(hl:h.le h'){r:Nat}(hr:μ' r=μ r){c:Cell}{N:List Nat}(hb:∀b,b∈N->H' b=H b)
  (q:sG μ m H h r c N):sG μ' m' H' h' r c N:=by
 cases c with
 |box t cs=>obtain⟨b,a,h1,h2,h3,rfl⟩:=q;exact⟨b,a,by rw[hr];exact h1,by rw[hb b (by simp)];exact h2,sJ hm hl cs _ h3,rfl⟩
 |arr fz fl ver s rows=>
  cases fz with
  |true=>exact⟨by rw[hr];exact KP hl _ _ q.1,q.2⟩
  |false=>simp only[sG] at q|-;rw[hr];exact XJ hl hb q
 |dead=>exact q
 |qN t v=>obtain⟨h1,b,x,h2,h3,h4⟩:=q;exact⟨h1,b,x,by rw[hr];exact h2,hl _ _ _ h3,AQ hm hl v x h4⟩
def wM{k j:Nat}(h:k≠j):Nat.beq k j=false:=by
 cases hb:Nat.beq k j with
 |false=>rfl
 |true=>exact absurd (Hy hb) h
def jV{α:Type}(k:Nat)(x:α):∀l:List (Nat×α),get k (put k x l)=some x
 |[]=>by simp[put,get]
 |(j,y)::l=>by
  simp only[put]
  by_cases h:k=j
  ·subst h;simp[get]
  ·have hb:Nat.beq k j=false:=wM h;rw[hb];cases hl:Nat.blt k j with
   |true=>simp[get]
   |false=>simp[get,hb,jV k x l]
def ng{α:Type}{k k':Nat}(hk:k≠k')(x:α):∀l:List (Nat×α),get k (put k' x l)=get k l
 |[]=>by have hb:Nat.beq k k'=false:=wM hk;simp[put,get,hb]
 |(j,y)::l=>by
  have hb:Nat.beq k k'=false:=wM hk;simp only[put]
  by_cases h:k'=j
  ·subst h;simp[get,hb]
  ·have hb':Nat.beq k' j=false:=wM h;rw[hb'];cases hl:Nat.blt k' j with
   |true=>simp[get,hb]
   |false=>simp[get,ng hk x l]
def P6{α:Type}(k:Nat):∀l:List (Nat×α),get k (del k l)=none
 |[]=>rfl
 |(j,y)::l=>by
  simp only[del];cases hb:Nat.beq k j with
  |true=>simpa using P6 k l
  |false=>simp[get,hb,P6 k l]
def Tf{α:Type}{k k':Nat}(hk:k≠k'):∀l:List (Nat×α),get k (del k' l)=get k l
 |[]=>rfl
 |(j,y)::l=>by
  simp only[del];cases hb:Nat.beq k' j with
  |true=>have:k'=j:=Hy hb;subst this;have hb:Nat.beq k k'=false:=wM hk;simp[get,hb,Tf hk l]
  |false=>simp[get,Tf hk l]
def get_put{α:Type}(k k':Nat)(x:α)(l:List (Nat×α)):get k (put k' x l)=if k=k' then some x else get k l:=by
 by_cases h:k=k'
 ·subst h;rw[jV,if_pos rfl]
 ·rw[ng h,if_neg h]
def aA0{α:Type}(k k':Nat)(l:List (Nat×α)):get k (del k' l)=if k=k' then none else get k l:=by
 by_cases h:k=k'
 ·subst h;rw[P6,if_pos rfl]
 ·rw[Tf h,if_neg h]
def Acc.run_bind{α β:Type}(a:Acc α)(f:α->Acc β):∀(m:Mem) (l:Log),(a.bind f).run m l=match a.run m l with|some (x,m',l')=>(f x).run m' l'|none=>none:=by
 induction a with
 |ret a=>intro m l;rfl
 |fail=>intro m l;rfl
 |get k c ih=>intro m l;simp only[Acc.bind,Acc.run];exact ih _ _ _
 |set k x c ih=>intro m l;simp only[Acc.bind,Acc.run];exact ih _ _
 |opt o c ih=>intro m l;simp only[Acc.bind,Acc.run];cases o with|none=>rfl|some b=>exact ih b _ _
 |guard b c ih=>intro m l;simp only[Acc.bind,Acc.run];cases b with|true=>exact ih _ _|false=>rfl
def run_bind{α β:Type}(a:Acc α)(f:α->Acc β)(m:Mem)(l:Log):(a>>=f).run m l=match a.run m l with|some (x,m',l')=>(f x).run m' l'|none=>none:=Acc.run_bind a f m l
def aj{α β:Type}{a:Acc α}{f:α->Acc β}{m:Mem}{l:Log}{y:β}{m':Mem}{l':Log}(h:(a>>=f).run m l=some (y,m',l')):
  ∃x m1 l1,a.run m l=some (x,m1,l1)/\(f x).run m1 l1=some (y,m',l'):=by
 rw[run_bind] at h;cases ha:a.run m l with
 |none=>simp[ha] at h
 |some x=>obtain⟨x,m1,l1⟩:=x;rw[ha] at h;exact⟨x,m1,l1,rfl,h⟩
def run_pure{α:Type}(a:α)(m:Mem)(l:Log):(Pure.pure a:Acc α).run m l=some (a,m,l):=rfl
def zD(k:Nat)(m:Mem)(l:Log):(rd k).run m l=some (get k m,m,l.rd k):=rfl
def P7(k:Nat)(c:Cell)(m:Mem)(l:Log):(wr k c).run m l=some ((),put k c m,l.wr k):=rfl
def eH{b:Bool}{m:Mem}{l:Log}{x:Unit}{m':Mem}{l':Log}(h:(ck b).run m l=some (x,m',l')):b=true/\m'=m/\l'=l:=by cases b<;>simp[ck,Acc.run] at h;exact⟨rfl,h.1.symm,h.2.symm⟩
def lD{β:Type}{o:Option β}{m:Mem}{l:Log}{x:β}{m':Mem}{l':Log}(h:(op' o).run m l=some (x,m',l')):o=some x/\m'=m/\l'=l:=by cases o<;>simp[op',Acc.run] at h;obtain⟨rfl,rfl,rfl⟩:=h;exact⟨rfl,rfl,rfl⟩
def ay{α:Type}{m:Mem}{l:Log}{r:α×Mem×Log}(h:(Acc.fail:Acc α).run m l=some r):False:=by simp[Acc.run] at h
structure ahy(X:Ctx)(h:View):Prop where
 row:∀g row,X.glob g=some row->yX h row g 0
 int:∀g,X.aJj g=true->∃n,h g 0=some (.int .i64 n)
def Sj{X:Ctx}{h h':View}(hl:h.le h')(q:ahy X h):ahy X h':=⟨λg row hg=>RZ hl row g 0 (q.row g row hg),λg hg=>by obtain⟨n,hn⟩:=q.int g hg;exact⟨n,hl _ _ _ hn⟩⟩
def ahz{h:View}:∀(row:Row) (b o:Nat),yX h row b o->oV h 1 (row.map λx=>[x]) b o
 |[],_,_,_=>trivial
 |x::r,b,o,⟨h1,h2⟩=>⟨rfl,⟨h1,trivial⟩,ahz r b (o+1) h2⟩
end Go.Vm
namespace Go.Vm
open Go
def upF(F:Nat->List Nat)(r:Nat)(N:List Nat):Nat->List Nat:=λk=>if k=r then N else F k
def upM(μ:Nat->Value)(r:Nat)(g:Value):Nat->Value:=λk=>if k=r then g else μ k
@[simp] theorem HY(F:Nat->List Nat)(r:Nat)(N:List Nat):upF F r N r=N:=by simp[upF]
def kX{F:Nat->List Nat}{r k:Nat}(N:List Nat)(h:k≠r):upF F r N k=F k:=by simp[upF,h]
@[simp] theorem Uw(μ:Nat->Value)(r:Nat)(g:Value):upM μ r g r=g:=by simp[upM]
def Sl{μ:Nat->Value}{r k:Nat}(g:Value)(h:k≠r):upM μ r g k=μ k:=by simp[upM,h]
def full(w:World):View:=λb o=>w.cell? ⟨b,o,none⟩
def vO(w:World)(U X:Nat->Prop):(view w U X).le (full w):=by
 intro b o v h;unfold view at h;split at h
 ·exact h
 ·cases h
def WQ{w:World}{U U' X X':Nat->Prop}(hU:∀b,U b->U' b)(h:∀b,X' b->X b):(view w U X).le (view w U' X'):=by
 intro b o v hv;unfold view at hv|-;split at hv
 ·rename_i hc;rw[if_pos ⟨hU b hc.1,λhx=>hc.2 (h b hx)⟩];exact hv
 ·cases hv
structure GS where
 μ:Nat->Value
 F:Nat->List Nat
 E:List Nat
 out:List Nat
section
variable (base:Nat) (U:Nat->Prop) (w:World)
def Iu(m:Mem)(G:GS):Prop:=MInv base U m w G.μ G.F G.E G.out
noncomputable def Gh(G:GS):View:=view w U (excl G.F G.E)
end
structure GLe(m:Mem)(G:GS)(m':Mem)(G':GS):Prop where
 mem:I9 G.μ m G'.μ m'
 ex:∀b,excl G'.F G'.E b->excl G.F G.E b
def GLe.refl(m:Mem)(G:GS):GLe m G m G:=⟨sH _ _,λ_ h=>h⟩
def GLe.trans{m1 m2 m3:Mem}{G1 G2 G3:GS}(h:GLe m1 G1 m2 G2)(k:GLe m2 G2 m3 G3):GLe m1 G1 m3 G3:=
 ⟨wL h.mem k.mem,λb hb=>h.ex b (k.ex b hb)⟩
def GLe.view{U:Nat->Prop}{w:World}{m m':Mem}{G G':GS}(h:GLe m G m' G'):(Gh U w G).le (Gh U w G'):=WQ (λ_ x=>x) h.ex
def GLe.aU{U:Nat->Prop}{w:World}{m m':Mem}{G G':GS}(h:GLe m G m' G'){v:V}{g:Value}(q:aU G.μ m (Gh U w G) v g):aU G'.μ m' (Gh U w G') v g:=
 AQ h.mem h.view v g q
def GLe.dn{U:Nat->Prop}{w:World}{m m':Mem}{G G':GS}(h:GLe m G m' G'){v:List V}{g:List Value}(q:dn G.μ m (Gh U w G) v g):dn G'.μ m' (Gh U w G') v g:=
 sJ h.mem h.view v g q
section
variable {base:Nat} {U:Nat->Prop} {w:World} {m:Mem} {G:GS}
def Iu.set(hg:Iu base U w m G)(r:Nat)(c':Cell)(μ':Nat->Value)(N E' out':List Nat)
  (hs:(N++E').Nodup) (hsub:∀b,b∈N++E'->b∈G.F r\/b∈G.E) (hle:I9 G.μ m μ' (put r c' m)) (hμ:∀k,k≠r->μ' k=G.μ k)
  (ho:∀k,k≠r->(k∈out'↔k∈G.out)) (hr:r∈out'->N=[])
  (hc:(view w U (excl G.F G.E)).le (view w U (excl (upF G.F r N) E'))->r ∉ out'->sG μ' (put r c' m) (dU w) (view w U (excl (upF G.F r N) E')) r c' N):
  Iu base U w (put r c' m) ⟨μ',upF G.F r N,E',out'⟩/\GLe m G (put r c' m) ⟨μ',upF G.F r N,E',out'⟩:=by
 have hex:∀b,excl (upF G.F r N) E' b->excl G.F G.E b:=by
  rintro b (hb|⟨k,hb⟩)
  ·rcases hsub b (by simp[hb]) with h|h
   ·exact .inr ⟨r,h⟩
   ·exact .inl h
  ·by_cases hk:k=r
   ·subst hk;rw[HY] at hb;rcases hsub b (by simp[hb]) with h|h
    ·exact .inr ⟨_,h⟩
    ·exact .inl h
   ·rw[kX N hk] at hb;exact .inr ⟨k,hb⟩
 have hv:(view w U (excl G.F G.E)).le (view w U (excl (upF G.F r N) E')):=WQ (λ_ x=>x) hex;have hN:=List.nodup_append.1 hs;refine⟨show MInv base U (put r c' m) w μ' (upF G.F r N) E' out' from ?_,⟨hle,hex⟩⟩;refine⟨?_, ?_, ?_, ?_,hN.2.1,λb hb=>hg.lt b (hex b hb),hg.up,hg.bs, ?_, ?_⟩
 ·intro k c hk hko;rw[get_put] at hk
  by_cases e:k=r
  ·subst e;rw[if_pos rfl] at hk;cases hk;rw[HY];exact hc hv hko
  ·rw[if_neg e] at hk;rw[kX N e];exact P5 hle hv (hμ k e) (λb _=>rfl) (hg.cell k c hk (λh=>hko ((ho k e).2 h)))
 ·intro k k' hne b hb hb'
  by_cases e:k=r
  ·subst e;rw[HY] at hb;rw[kX N (Ne.symm hne)] at hb';rcases hsub b (by simp[hb]) with h|h
   ·exact hg.dj _ _ hne b h hb'
   ·exact hg.djE _ b hb' h
  ·rw[kX N e] at hb
   by_cases e':k'=r
   ·subst e';rw[HY] at hb';rcases hsub b (by simp[hb']) with h|h
    ·exact hg.dj _ _ hne b hb h
    ·exact hg.djE _ b hb h
   ·rw[kX N e'] at hb';exact hg.dj _ _ hne b hb hb'
 ·intro k b hb hE
  by_cases e:k=r
  ·subst e;rw[HY] at hb;exact hN.2.2 b hb b hE rfl
  ·rw[kX N e] at hb;rcases hsub b (by simp[hE]) with h|h
   ·exact hg.dj _ _ e b hb h
   ·exact hg.djE _ b hb h
 ·intro k
  by_cases e:k=r
  ·subst e;rw[HY];exact hN.1
  ·rw[kX N e];exact hg.nd k
 ·intro k hk;rw[get_put] at hk
  by_cases e:k=r
  ·rw[if_pos e] at hk;cases hk
  ·rw[if_neg e] at hk;rw[kX N e];exact hg.none_ k hk
 ·intro k hk
  by_cases e:k=r
  ·subst e;rw[HY];exact hr hk
  ·rw[kX N e];exact hg.out_ k ((ho k e).1 hk)
def Iu.less(hg:Iu base U w m G)(E':List Nat)(hn:E'.Nodup)(hs:∀b,b∈E'->b∈G.E):
  Iu base U w m {G with E:=E'}/\GLe m G m {G with E:=E'}:=by
 have hex:∀b,excl G.F E' b->excl G.F G.E b:=by
  rintro b (hb|hb)
  ·exact .inl (hs b hb)
  ·exact .inr hb
 have hv:(view w U (excl G.F G.E)).le (view w U (excl G.F E')):=WQ (λ_ x=>x) hex;refine⟨⟨?_,hg.dj,λr b hb hE=>hg.djE r b hb (hs b hE),hg.nd,hn,λb hb=>hg.lt b (hex b hb),hg.up,hg.bs,hg.none_,hg.out_⟩,⟨sH _ _,hex⟩⟩;intro r c hc ho;exact P5 (sH _ _) hv rfl (λ_ _=>rfl) (hg.cell r c hc ho)
def Iw{μ μ':Nat->Value}{r:Nat}{c':Cell}(hμ:∀k,k≠r->μ' k=μ k)(h:∀c,get r m=some c->Np μ μ' r c c'):I9 μ m μ' (put r c' m):=by
 intro k c hk
 by_cases e:k=r
 ·subst e;exact⟨c',jV _ _ _,h c hk⟩
 ·refine⟨c,by rw[ng e];exact hk, ?_⟩;cases c<;>simp[Np,hμ k e]
def full_cell{b:Nat}{cs:Array Value}{t:TypeId}{fr:Nat×Nat}(h:dU w b=some (.cells cs t fr))(o:Nat):full w b o=cs.toList[o]? :=by simp only[full,World.cell?];unfold dU at h;simp[h]
end
def abQ{h:View}{b:Nat}:∀(r:Row) (o:Nat) (cs:List Value),(∀j v,cs[j]? =some v->h b (o+j)=some v)->jq h r cs->yX h r b o
 |[],_,_,_,_=>by simp[yX]
 |x::r,o,cs,hc,⟨v,cs',e,h1,h2⟩=>by subst e;simp only[yX];refine⟨⟨v,hc 0 v rfl,h1⟩,abQ r (o+1) cs' (λj u hj=> ?_) h2⟩;have:=hc (j+1) u (by simpa using hj);rw[show o+1+j=o+(j+1) from by omega];exact this
def ZF{h:View}{b s:Nat}:∀(rs:List Row) (o:Nat) (cs:List Value),(∀j v,cs[j]? =some v->h b (o+j)=some v)->jm h s rs cs->oV h s rs b o
 |[],_,_,_,_=>by simp[oV]
 |r::rs,o,cs,hc,⟨h1,h2,h3⟩=>by simp only[oV];refine⟨h1,abQ r o cs hc h2,ZF rs (o+s) (cs.drop s) (λj u hj=> ?_) h3⟩;rw[List.getElem?_drop] at hj;rw[show o+s+j=o+(s+j) from by omega];exact hc _ _ hj
def ad9(h:View)(H:Heap)(N:List Nat):Prop:=∀b,b∈N->∀cs t fr,H b=some (.cells cs t fr)->∀(o:Nat) v,cs.toList[o]? =some v->h b o=some v
def ad9.sub{h:View}{H:Heap}{N N':List Nat}(q:ad9 h H N)(hs:∀b,b∈N'->b∈N):ad9 h H N':=λb hb=>q b (hs b hb)
mutual
def aEs{H:Heap}{h h':View}(hl:h.le h'):∀(x:D) (v:Value) (N:List Nat),ad9 h' H N->ow H h x v N->ro h' x v
 | .int _ _,_,_,_,q=>by simp only[ow] at q;simpa[ro] using q.1
 | .bool _,_,_,_,q=>by simp only[ow] at q;simpa[ro] using q.1
 | .str _,_,_,_,q=>by simp only[ow] at q;simpa[ro] using q.1
 | .VG,_,_,_,q=>by simp only[ow] at q;simpa[ro] using q.1
 | .sl false s rows,v,N,_,q=>by simp only[ow] at q;have:=KP hl _ _ q.2;simpa[ro] using this
 | .sl true s rows,v,N,hs,q=>by
  simp only[ow] at q;simp only[ro];rcases q with⟨rfl,rfl,rfl⟩|⟨b,cap,cs,t,N',h1,h2,h3,h4,h5,rfl⟩
  ·exact⟨none,0,by simp,by simp,λe=>absurd rfl e⟩
  ·refine⟨_,cap,h1,h2,λ_=>⟨b,0,rfl, ?_⟩⟩;refine ZF rows 0 cs.toList (λj v hj=>by rw[Nat.zero_add];exact hs b (by simp) cs t _ h3 j v hj) ?_;exact PD hl s rows cs.toList N' (hs.sub (by simp;exact λ_ hb=> .inr hb)) h5
def PD{H:Heap}{h h':View}(hl:h.le h')(s:Nat):∀(rows:List Row) (cs:List Value) (N:List Nat),ad9 h' H N->iK H h s rows cs N->jm h' s rows cs
 |[],_,_,_,_=>by simp[jm]
 |r::rs,cs,N,hs,q=>by simp only[iK] at q;obtain⟨h1,N1,N2,rfl,h2,h3⟩:=q;simp only[jm];exact⟨h1,abR hl r cs N1 (hs.sub (by simp;exact λ_ hb=> .inl hb)) h2,PD hl s rs _ N2 (hs.sub (by simp;exact λ_ hb=> .inr hb)) h3⟩
def abR{H:Heap}{h h':View}(hl:h.le h'):∀(r:Row) (cs:List Value) (N:List Nat),ad9 h' H N->jE H h r cs N->jq h' r cs
 |[],_,_,_,_=>by simp[jq]
 |x::r,cs,N,hs,q=>by simp only[jE] at q;obtain⟨v,cs',N1,N2,rfl,rfl,h1,h2⟩:=q;simp only[jq];exact⟨v,cs',rfl,aEs hl x v N1 (hs.sub (by simp;exact λ_ hb=> .inl hb)) h1,abR hl r cs' N2 (hs.sub (by simp;exact λ_ hb=> .inr hb)) h2⟩
end
def amW{H:Heap}{h h':View}(hl:h.le h'){fl:Bool}{s:Nat}{rows:List Row}{v:Value}{N:List Nat}(hs:ad9 h' H N)(q:abO H h fl s rows v N)(o:Bool):ro h' (.sl o s rows) v:=by
 simp only[ro];rcases q with⟨rfl,rfl,rfl⟩|⟨b,cap,cs,t,N',h1,h2,h3,h4,h5,rfl⟩
 ·exact⟨none,0,by simp,by simp,λe=>absurd rfl e⟩
 ·refine⟨_,cap,h1,h2,λ_=>⟨b,0,rfl, ?_⟩⟩;refine ZF rows 0 cs.toList (λj v hj=>by rw[Nat.zero_add];exact hs b (by simp) cs t _ h3 j v hj) ?_;cases fl with
  |true=>exact NP hl s rows _ h5.1
  |false=>exact PD hl s rows cs.toList N' (hs.sub (by simp;exact λ_ hb=> .inr hb)) h5
def abS{h:View}{o o':Bool}{s:Nat}{rows:List Row}{v:Value}(q:ro h (.sl o s rows) v):ro h (.sl o' s rows) v:=by simpa[ro] using q
def ald{w:World}{N:List Nat}:ad9 (full w) (dU w) N:=by intro b _ cs t fr hb o v hv;rw[full_cell hb,hv]
def PE{w:World}{U X:Nat->Prop}{N:List Nat}(hU:∀b,b∈N->U b/\¬X b):ad9 (view w U X) (dU w) N:=by intro b hm cs t fr hb o v hv;unfold view;rw[if_pos (hU b hm)];have:=full_cell hb o;rw[hv] at this;exact this
mutual
def awS{h:View}:∀(x:D) (v:Value),ro h x v->ro h x.fz v
 | .int _ _,_,q=>by simpa[D.fz] using q
 | .bool _,_,q=>by simpa[D.fz] using q
 | .str _,_,q=>by simpa[D.fz] using q
 | .VG,_,q=>by simpa[D.fz] using q
 | .sl own s rows,v,q=>by
  simp only[D.fz,ro] at q|-;obtain⟨a,cap,h1,h2,h3⟩:=q;have hlen:(aG rows).length=rows.length:=Xn rows;refine⟨a,cap,by rw[hlen];exact h1,by rw[hlen];exact h2,λhn=> ?_⟩;have hn':rows≠[]:=by intro e;subst e;exact hn rfl
  obtain⟨b,o,h4,h5⟩:=h3 hn';exact⟨b,o,h4,ale s rows b o h5⟩
def Xn:∀rows:List Row,(aG rows).length=rows.length
 |[]=>rfl
 |r::rs=>by simp[aG,Xn rs]
def Yv:∀r:Row,(qm r).length=r.length
 |[]=>rfl
 |x::r=>by simp[qm,Yv r]
def ale{h:View}(s:Nat):∀(rows:List Row) (b o:Nat),oV h s rows b o->oV h s (aG rows) b o
 |[],_,_,_=>by simp[aG,oV]
 |r::rs,b,o,q=>by simp only[aG,oV] at q|-;exact⟨by rw[Yv];exact q.1,aoh r b o q.2.1,ale s rs b (o+s) q.2.2⟩
def aoh{h:View}:∀(r:Row) (b o:Nat),yX h r b o->yX h (qm r) b o
 |[],_,_,_=>by simp[qm,yX]
 |x::r,b,o,q=>by simp only[qm,yX] at q|-;obtain⟨⟨v,h1,h2⟩,h3⟩:=q;exact⟨⟨v,h1,awS x v h2⟩,aoh r b (o+1) h3⟩
end
def ahA{h:View}{fl:Bool}{o:Bool}{s:Nat}{rows:List Row}{v:Value}(q:ro h (.sl o s rows) v):ro h (.sl false s (vw fl rows)) v:=by
 unfold vw;cases fl with
 |true=>exact abS q
 |false=>simpa[D.fz] using awS _ _ q
def awT{h:View}{x:D}{v:Value}(q:ro h x v):ro h (roD x) v:=by cases x<;>simpa[roD,ro] using q
def awU{H:Heap}{h:View}{x:D}{v:Value}(q:ro h x v):ow H h (roD x) v []:=by cases x<;>simp[roD,ow,ro] at q|-<;>exact q
def aA1{H:Heap}{h:View}{x:D}{v:Value}(hf:x.flat=true)(q:ro h x v):ow H h x v []:=by cases x<;>simp[D.flat,ow,ro] at hf q|-<;>exact q
def ahB{H:Heap}{h:View}:∀(r:Row) (cs:List Value),(r.all D.flat)=true->jq h r cs->jE H h r cs []
 |[],_,_,_=>by simp[jE]
 |x::r,cs,hf,⟨v,cs',e,h1,h2⟩=>by simp only[List.all_cons,MS] at hf;simp only[jE];exact⟨v,cs',[],[],e,rfl,aA1 hf.1 h1,ahB r cs' hf.2 h2⟩
def ZG{H:Heap}{h:View}(s:Nat):∀(rs:List Row) (cs:List Value),aA rs=true->jm h s rs cs->iK H h s rs cs []
 |[],_,_,_=>by simp[iK]
 |r::rs,cs,hf,⟨h1,h2,h3⟩=>by simp only[aA,List.all_cons,MS] at hf;simp only[iK];exact⟨h1,[],[],rfl,ahB r cs hf.1 h2,ZG s rs _ hf.2 h3⟩
def atK{H:Heap}{h:View}{fl:Bool}{s:Nat}{rows:List Row}{v:Value}{N:List Nat}(ho:atI fl rows=true)(q:abO H h fl s rows v N):ow H h (.sl true s rows) v N:=by
 simp only[ow];rcases q with q|⟨b,cap,cs,t,N',h1,h2,h3,h4,h5,rfl⟩
 ·exact .inl q
 ·refine .inr ⟨b,cap,cs,t,N',h1,h2,h3,h4, ?_,rfl⟩;cases fl with
  |true=>obtain⟨h5,rfl⟩:=h5;exact ZG s rows _ (by simpa[atI] using ho) h5
  |false=>exact h5
def aA2{H:Heap}{h:View}{s:Nat}{rows:List Row}{v:Value}{N:List Nat}(q:ow H h (.sl true s rows) v N):abO H h false s rows v N:=by simpa[ow,abO] using q
def asx{H:Heap}{h:View}{s:Nat}{rows:List Row}{v:Value}{N:List Nat}(q:ow H h (.sl true s rows) v N):
  ∃N1 N2,N=N1++N2/\∀h',h.le h'->ad9 h' H N2->abO H h' true s rows v N1:=by
 simp only[ow] at q;rcases q with⟨rfl,rfl,rfl⟩|⟨b,cap,cs,t,N',h1,h2,h3,h4,h5,rfl⟩
 ·exact⟨[],[],rfl,λ_ _ _=> .inl ⟨rfl,rfl,rfl⟩⟩
 ·exact⟨[b],N',rfl,λh' hl hs=> .inr ⟨b,cap,cs,t,[],h1,h2,h3,h4,⟨PD hl s rows _ N' hs h5,rfl⟩,rfl⟩⟩
end Go.Vm
namespace Go.Vm
open Go
section
variable {base:Nat} {U:Nat->Prop} {w:World} {m:Mem} {G:GS}
def Iu.kill(hg:Iu base U w m G){r:Nat}{fl:Bool}{ver s:Nat}{rows:List Row}(hc:get r m=some (.arr false fl ver s rows))(hro:r ∉ G.out):
  Iu base U w (put r .dead m) ⟨G.μ,upF G.F r [],G.E++G.F r,G.out⟩/\GLe m G (put r .dead m) ⟨G.μ,upF G.F r [],G.E++G.F r,G.out⟩/\
   abO (dU w) (Gh U w G) fl s rows (G.μ r) (G.F r):=by
 have h1:=hg.set r .dead G.μ [] (G.E++G.F r) G.out
  (by simpa using List.nodup_append.2 ⟨hg.ndE,hg.nd r,λa ha b hb e=>hg.djE r b hb (e ▸ ha)⟩)
  (by simp;exact λb hb=>hb.symm) (Iw (λ_ _=>rfl) (λc h=>by rw[hc] at h;cases h;trivial)) (λ_ _=>rfl) (λ_ _=>Iff.rfl) (λ_=>rfl) (λ_ _=>rfl)
 exact⟨h1.1,h1.2,hg.cell r _ hc hro⟩
def Iu.freeze(hg:Iu base U w m G){r:Nat}{fz fl:Bool}{ver s:Nat}{rows:List Row}(hc:get r m=some (.arr fz fl ver s rows))(hro:r ∉ G.out):
  Iu base U w (put r (.arr true fl ver s rows) m) ⟨G.μ,upF G.F r [],G.E,G.out⟩/\GLe m G (put r (.arr true fl ver s rows) m) ⟨G.μ,upF G.F r [],G.E,G.out⟩/\
   ro (Gh U w ⟨G.μ,upF G.F r [],G.E,G.out⟩) (.sl true s rows) (G.μ r):=by
 have hle:I9 G.μ m G.μ (put r (.arr true fl ver s rows) m):=Iw (λ_ _=>rfl) (λc h=>by rw[hc] at h;cases h;exact⟨Nat.le_refl _,rfl,λ_=>⟨rfl,rfl⟩⟩);have aJp:(view w U (excl G.F G.E)).le (view w U (excl (upF G.F r []) G.E))->ro (view w U (excl (upF G.F r []) G.E)) (.sl true s rows) (G.μ r):=by
  intro hv;have hq:=hg.cell r _ hc hro;cases fz with
  |true=>exact KP hv _ _ hq.1
  |false=>
   refine amW hv (PE λb hb=>⟨(hg.lt b (.inr ⟨r,hb⟩)).2.2, ?_⟩) hq true;rintro(hE|⟨k,hk⟩)
   ·exact hg.djE r b hb hE
   ·by_cases e:k=r
    ·subst e;simp at hk
    ·rw[kX _ e] at hk;exact hg.dj r k (Ne.symm e) b hb hk
 have h1:=hg.set r (.arr true fl ver s rows) G.μ [] G.E G.out (by simpa using hg.ndE) (by simp;exact λb hb=> .inr hb) hle (λ_ _=>rfl) (λ_ _=>Iff.rfl) (λ_=>rfl)
  (λhv _=>⟨aJp hv,rfl⟩)
 exact⟨h1.1,h1.2,aJp h1.2.view⟩
def Iu.aF4(hg:Iu base U w m G){k:Nat}(fl:Bool){s:Nat}{rows:List Row}{g:Value}{N E:List Nat}(hn:get k m=none)(hk:k ∉ G.out)(hE:(N++E).Perm G.E)
  (hq:ow (dU w) (Gh U w G) (.sl true s rows) g N):
  ∃F',Iu base U w (put k (.arr false fl 0 s rows) m) ⟨upM G.μ k g,F',E,G.out⟩/\GLe m G (put k (.arr false fl 0 s rows) m) ⟨upM G.μ k g,F',E,G.out⟩:=by
 have hnd:=hE.nodup_iff.2 hg.ndE;have hmem:∀b,b∈N++E->b∈G.E:=λb hb=>hE.mem_iff.1 hb
 have hμ:∀j,j≠k->upM G.μ k g j=G.μ j:=λj e=>Sl g e
 have hle:∀c',I9 G.μ m (upM G.μ k g) (put k c' m):=λc'=>Iw hμ (λc h=>by rw[hn] at h;cases h)
 cases fl with
 |false=>refine⟨_,hg.set k (.arr false false 0 s rows) (upM G.μ k g) N E G.out hnd (λb hb=> .inr (hmem b hb)) (hle _) hμ (λ_ _=>Iff.rfl) (λh=>absurd h hk) (λhv _=> ?_)⟩;simp only[sG,Uw];exact XJ hv (λ_ _=>rfl) (aA2 hq)
 |true=>
  obtain⟨N1,N2,rfl,h2⟩:=asx hq;have hnd':(N1++E).Nodup:=by rw[NI] at hnd;have:=List.nodup_append.1 hnd;exact List.nodup_append.2 ⟨this.1,(List.nodup_append.1 this.2.1).2.1,λa ha b hb=>this.2.2 a ha b (by simp[hb])⟩
  refine⟨_,hg.set k (.arr false true 0 s rows) (upM G.μ k g) N1 E G.out hnd' (λb hb=> .inr (hmem b (by simp at hb|-;rcases hb with h|h<;>simp[h]))) (hle _) hμ (λ_ _=>Iff.rfl) (λh=>absurd h hk) (λhv _=> ?_)⟩;simp only[sG,Uw];refine h2 _ hv (PE λb hb=>⟨(hg.lt b (.inl (hmem b (by simp[hb])))).2.2, ?_⟩);rw[NI] at hnd;have hd:=List.nodup_append.1 hnd;have hd2:=List.nodup_append.1 hd.2.1;rintro(hE'|⟨j,hj⟩)
  ·exact hd2.2.2 b hb b hE' rfl
  ·by_cases e:j=k
   ·subst e;rw[HY] at hj;exact hd.2.2 b hj b (by simp[hb]) rfl
   ·rw[kX _ e] at hj;exact hg.djE j b hj (hmem b (by simp[hb]))
structure PV(base:Nat)(U:Nat->Prop)(w:World)(m:Mem)(G:GS)(m':Mem)(G':GS)(N:List Nat):Prop where
 ok:Iu base U w m' G'
 le:GLe m G m' G'
 E:G'.E=G.E++N
 out:G'.out=G.out
 μ:G'.μ=G.μ
def PV.same(hg:Iu base U w m G):PV base U w m G m G []:=⟨hg,GLe.refl _ _,by simp,rfl,rfl⟩
def PV.trans{m1 m2 m3:Mem}{G1 G2 G3:GS}{N N':List Nat}(a:PV base U w m1 G1 m2 G2 N)(b:PV base U w m2 G2 m3 G3 N'):PV base U w m1 G1 m3 G3 (N++N'):=
 ⟨b.ok,a.le.trans b.le,by rw[b.E,a.E,NI],b.out.trans a.out,b.μ.trans a.μ⟩
def aaK{H:Heap}{h h':View}(hl:h.le h'){x:D}{v:Value}{N:List Nat}(q:ow H h x v N):ow H h' x v N:=amV hl x v N (λ_ _=>rfl) q
def awV(hg:Iu base U w m G){v:V}{g:Value}(hv:aU G.μ m (Gh U w G) v g)(ho:G.out=[]){x:D}{m':Mem}{l l':Log}(h:(toD v).run m l=some (x,m',l')):
  ∃G' N,PV base U w m G m' G' N/\ow (dU w) (Gh U w G') x g N:=by
 cases v with
 |d y=>simp only[toD,run_pure,je,lN] at h;obtain⟨rfl,rfl,rfl⟩:=h;exact⟨G,[],PV.same hg,awU (by simpa[aU] using hv)⟩
 |nil s=>simp only[toD,run_pure,je,lN] at h;obtain⟨rfl,rfl,rfl⟩:=h;refine⟨G,[],PV.same hg, ?_⟩;simp only[aU] at hv;simp[ow,hv]
 |own r ver=>
  simp only[toD] at h;replace h:=aj h;obtain⟨c,m1,l1,h1,h⟩:=h;rw[zD] at h1;cases h1;cases hc:get r m with
  |none=>rw[hc] at h;exact(ay h).elim
  |some c=>
   rw[hc] at h;cases c with
   |box _ _=>exact(ay h).elim
   |dead=>exact(ay h).elim
   |qN _ _=>exact(ay h).elim
   |arr fz fl uO s rows=>
    simp only at h;replace h:=aj h;obtain⟨_,m2,l2,h1,h⟩:=h;obtain⟨hb,rfl,rfl⟩:=eH h1;have hb:=Hy hb;subst hb;simp only[aU,hc] at hv;have hv:=hv.2.2 trivial;subst hv;have hro:r ∉ G.out:=by simp[ho]
    cases fz with
    |true=>simp only[run_pure,je,lN] at h;obtain⟨rfl,rfl,rfl⟩:=h;refine⟨G,[],PV.same hg, ?_⟩;have hq:=(hg.cell r _ hc hro).1;simp only[ow,true_and];exact ahA hq
    |false=>simp only at h;replace h:=aj h;obtain⟨_,m2,l2,h1,h⟩:=h;obtain⟨hok,rfl,rfl⟩:=eH h1;replace h:=aj h;obtain⟨_,m3,l3,h1,h⟩:=h;rw[P7] at h1;cases h1;simp only[run_pure,je,lN] at h;obtain⟨rfl,rfl,rfl⟩:=h;obtain⟨k1,k2,k3⟩:=hg.kill hc hro;exact⟨_,G.F r,⟨k1,k2,rfl,rfl,rfl⟩,aaK k2.view (atK hok k3)⟩
 |ptr _ _=>exact(ay h).elim
 |Ej _ _ _ _=>exact(ay h).elim
 |uN _ _=>exact(ay h).elim
 |Em _=>exact(ay h).elim
 |clo _ _ _=>exact(ay h).elim
 |agg _=>exact(ay h).elim
 |FQ _=>exact(ay h).elim
 |undef=>exact(ay h).elim
def oI{μ:Nat->Value}{h:View}{v:V}{vs:List V}{gs:List Value}(q:dn μ m h (v::vs) gs):∃g gs',gs=g::gs'/\aU μ m h v g/\dn μ m h vs gs':=by simpa[dn] using q
def kT{μ:Nat->Value}{h:View}:∀{vs:List V} {gs:List Value},dn μ m h vs gs->gs.length=vs.length
 |[],gs,q=>by simp[dn] at q;simp[q]
 |v::vs,gs,q=>by obtain⟨g,gs',rfl,_,h3⟩:=oI q;simp[kT h3]
def abT{H:Heap}{h h':View}(hl:h.le h'){x:Row}{v:List Value}{N:List Nat}(q:jE H h x v N):jE H h' x v N:=Si hl x v N (λ_ _=>rfl) q
def aoi{H:Heap}{h h':View}(hl:h.le h'){s:Nat}{x:List Row}{v:List Value}{N:List Nat}(q:iK H h s x v N):iK H h' s x v N:=JQ hl s x v N (λ_ _=>rfl) q
def VI:∀{vs:List V} {gs:List Value} {m:Mem} {G:GS} (_:Iu base U w m G) (_:dn G.μ m (Gh U w G) vs gs) (_:G.out=[]) {xs:Row} {m':Mem} {l l':Log} (_:(PZ vs).run m l=some (xs,m',l')),
  ∃G' N,PV base U w m G m' G' N/\jE (dU w) (Gh U w G') xs gs N/\xs.length=vs.length
 |[],gs,m,G,hg,hv,ho,xs,m',l,l',h=>by simp only[PZ,run_pure,je,lN] at h;obtain⟨rfl,rfl,rfl⟩:=h;exact⟨G,[],PV.same hg,by simp[jE],rfl⟩
 |v::vs,gs,m,G,hg,hv,ho,xs,m',l,l',h=>by obtain⟨g,gs',rfl,hv1,hv2⟩:=oI hv;simp only[PZ] at h;replace h:=aj h;obtain⟨x,m1,l1,h1,h⟩:=h;replace h:=aj h;obtain⟨ys,m2,l2,h2,h⟩:=h;simp only[run_pure,je,lN] at h;obtain⟨rfl,rfl,rfl⟩:=h;obtain⟨G1,N1,t1,q1⟩:=awV hg hv1 ho h1;obtain⟨G2,N2,t2,q2,hlen⟩:=VI t1.ok (t1.le.dn hv2) (t1.out.trans ho) h2;refine⟨G2,N1++N2,t1.trans t2, ?_,by simp[hlen]⟩;simp only[jE];exact⟨g,gs',N1,N2,rfl,rfl,aaK t2.le.view q1,q2⟩
end
end Go.Vm
namespace Go.Vm
open Go
section
variable {base:Nat} {U:Nat->Prop} {w:World} {m:Mem} {G:GS}
def Iu.look(hg:Iu base U w m G){r:Nat}{fz fl:Bool}{ver s:Nat}{rows:List Row}(hc:get r m=some (.arr fz fl ver s rows))(hro:r ∉ G.out)(o:Bool):ro (full w) (.sl o s rows) (G.μ r):=by
 have hq:=hg.cell r _ hc hro;cases fz with
 |true=>exact abS (KP (vO _ _ _) _ _ hq.1)
 |false=>exact amW (vO _ _ _) ald hq o
def atL(hg:Iu base U w m G){v:V}{g:Value}(hv:aU G.μ m (Gh U w G) v g)(ho:G.out=[]){s:Nat}{rows:List Row}{m':Mem}{l l':Log}(h:(seen v).run m l=some ((s,rows),m',l')):
  m'=m/\ro (full w) (.sl false s rows) g:=by
 cases v with
 |d y=>
  cases y with
  |sl own s' rows'=>simp only[seen,run_pure,je,lN] at h;obtain⟨⟨rfl,rfl⟩,rfl,rfl⟩:=h;simp only[aU] at hv;exact⟨rfl,abS (KP (vO _ _ _) _ _ hv)⟩
  |int _ _=>exact(ay h).elim
  |bool _=>exact(ay h).elim
  |str _=>exact(ay h).elim
  |VG=>exact(ay h).elim
 |nil s'=>simp only[seen,run_pure,je,lN] at h;obtain⟨⟨rfl,rfl⟩,rfl,rfl⟩:=h;simp only[aU] at hv;exact⟨rfl,by simp[ro,hv]⟩
 |own r ver=>
  simp only[seen] at h;replace h:=aj h;obtain⟨c,m1,l1,h1,h⟩:=h;rw[zD] at h1;cases h1;cases hc:get r m with
  |none=>rw[hc] at h;exact(ay h).elim
  |some c=>
   rw[hc] at h;cases c with
   |box _ _=>exact(ay h).elim
   |dead=>exact(ay h).elim
   |qN _ _=>exact(ay h).elim
   |arr fz fl uO s' rows'=>simp only at h;replace h:=aj h;obtain⟨_,m2,l2,h1,h⟩:=h;obtain⟨hb,rfl,rfl⟩:=eH h1;have hb:=Hy hb;subst hb;simp only[run_pure,je,lN] at h;obtain⟨⟨rfl,rfl⟩,rfl,rfl⟩:=h;simp only[aU,hc] at hv;have hv:=hv.2.2 trivial;subst hv;exact⟨rfl,ahA (hg.look hc (by simp[ho]) true)⟩
 |ptr _ _=>exact(ay h).elim
 |Ej _ _ _ _=>exact(ay h).elim
 |uN _ _=>exact(ay h).elim
 |Em _=>exact(ay h).elim
 |clo _ _ _=>exact(ay h).elim
 |agg _=>exact(ay h).elim
 |FQ _=>exact(ay h).elim
 |undef=>exact(ay h).elim
def H6(k:Nat):∀l:List Nat,mem? k l=true↔k∈l
 |[]=>by simp[mem?]
 |j::l=>by
  simp only[mem?,List.mem_cons]
  by_cases e:k=j
  ·subst e;simp
  ·rw[wM e];simp[e,H6 k l]
def VJ{k:Nat}{l:List Nat}(h:(!(mem? k l))=true):k ∉ l:=by intro hk;rw[(H6 k l).2 hk] at h;cases h
def aA3(hg:Iu base U w m G){v:V}{g:Value}(hv:aU G.μ m (Gh U w G) v g){imp:List Nat}(ho:∀r,r∈G.out->r∈imp){own:Bool}{v':V}{m':Mem}{l l':Log}(h:(awN imp own v).run m l=some (v',m',l')):
  ∃G' N x,v'=.d x/\PV base U w m G m' G' N/\ow (dU w) (Gh U w G') x g N/\∀k,k∈imp->get k m'=get k m:=by
 cases v with
 |d y=>simp only[awN,run_pure,je,lN] at h;obtain⟨rfl,rfl,rfl⟩:=h;exact⟨G,[],_,rfl,PV.same hg,awU (by simpa[aU] using hv),λ_ _=>rfl⟩
 |nil s=>simp only[awN,run_pure,je,lN] at h;obtain⟨rfl,rfl,rfl⟩:=h;refine⟨G,[],_,rfl,PV.same hg, ?_,λ_ _=>rfl⟩;simp only[aU] at hv;cases own<;>simp[ow,ro,hv]
 |own r ver=>
  simp only[awN] at h;replace h:=aj h;obtain⟨c,m1,l1,h1,h⟩:=h;rw[zD] at h1;cases h1;cases hc:get r m with
  |none=>rw[hc] at h;exact(ay h).elim
  |some c=>
   rw[hc] at h;cases c with
   |box _ _=>exact(ay h).elim
   |dead=>exact(ay h).elim
   |qN _ _=>exact(ay h).elim
   |arr fz fl uO s rows=>
    simp only at h;replace h:=aj h;obtain⟨_,m2,l2,h1,h⟩:=h;obtain⟨hb,rfl,rfl⟩:=eH h1;have hb:=Hy hb;subst hb;replace h:=aj h;obtain⟨_,m2,l2,h1,h⟩:=h;obtain⟨hi,rfl,rfl⟩:=eH h1;simp only[aU,hc] at hv;have hv:=hv.2.2 trivial;subst hv;have hro:r ∉ G.out:=λhr=>VJ hi (ho r hr)
    have hni:∀k,k∈imp->k≠r:=λk hk e=>VJ hi (e ▸ hk)
    cases own with
    |false=>simp only at h;replace h:=aj h;obtain⟨_,m3,l3,h1,h⟩:=h;rw[P7] at h1;cases h1;simp only[run_pure,je,lN] at h;obtain⟨rfl,rfl,rfl⟩:=h;obtain⟨k1,k2,k3⟩:=hg.freeze hc hro;refine⟨_,[],_,rfl,⟨k1,k2,by simp,rfl,rfl⟩, ?_,λk hk=>ng (hni k hk) _ _⟩;simp only[ow,true_and];exact ahA k3
    |true=>
     simp only at h;replace h:=aj h;obtain⟨_,m2,l2,h1,h⟩:=h;obtain⟨hfz,rfl,rfl⟩:=eH h1;replace h:=aj h;obtain⟨_,m2,l2,h1,h⟩:=h;obtain⟨hok,rfl,rfl⟩:=eH h1;have hfz:fz=false:=by simpa using hfz
     subst hfz;replace h:=aj h;obtain⟨_,m3,l3,h1,h⟩:=h;rw[P7] at h1;cases h1;simp only[run_pure,je,lN] at h;obtain⟨rfl,rfl,rfl⟩:=h;obtain⟨k1,k2,k3⟩:=hg.kill hc hro;exact⟨_,G.F r,_,rfl,⟨k1,k2,rfl,rfl,rfl⟩,aaK k2.view (atK hok k3),λk hk=>ng (hni k hk) _ _⟩
 |ptr _ _=>exact(ay h).elim
 |Ej _ _ _ _=>exact(ay h).elim
 |uN _ _=>exact(ay h).elim
 |Em _=>exact(ay h).elim
 |clo _ _ _=>exact(ay h).elim
 |agg _=>exact(ay h).elim
 |FQ _=>exact(ay h).elim
 |undef=>exact(ay h).elim
def afa{imp own:List Nat}:∀{vs:List V} {gs:List Value} {m:Mem} {G:GS} {j:Nat} (_:Iu base U w m G) (_:dn G.μ m (Gh U w G) vs gs) (_:∀r,r∈G.out->r∈imp) {vs':List V} {m':Mem} {l l':Log}
  (_:(Zx imp own j vs).run m l=some (vs',m',l')),∃G' N xs,vs'=xs.map V.d/\xs.length=gs.length/\PV base U w m G m' G' N/\jE (dU w) (Gh U w G') xs gs N/\∀k,k∈imp->get k m'=get k m
 |[],gs,m,G,j,hg,hv,ho,vs',m',l,l',h=>by simp only[Zx,run_pure,je,lN] at h;obtain⟨rfl,rfl,rfl⟩:=h;simp only[dn] at hv;subst hv;exact⟨G,[],[],rfl,rfl,PV.same hg,by simp[jE],λ_ _=>rfl⟩
 |v::vs,gs,m,G,j,hg,hv,ho,vs',m',l,l',h=>by obtain⟨g,gs',rfl,hv1,hv2⟩:=oI hv;simp only[Zx] at h;replace h:=aj h;obtain⟨x,m1,l1,h1,h⟩:=h;replace h:=aj h;obtain⟨ys,m2,l2,h2,h⟩:=h;simp only[run_pure,je,lN] at h;obtain⟨rfl,rfl,rfl⟩:=h;obtain⟨G1,N1,x1,rfl,t1,q1,i1⟩:=aA3 hg hv1 ho h1;obtain⟨G2,N2,xs,rfl,hlen,t2,q2,i2⟩:=afa t1.ok (t1.le.dn hv2) (λr hr=>ho r (t1.out ▸ hr)) h2;refine⟨G2,N1++N2,x1::xs,rfl,by simp[hlen],t1.trans t2, ?_,λk hk=>(i2 k hk).trans (i1 k hk)⟩;simp only[jE];exact⟨g,gs',N1,N2,rfl,rfl,aaK t2.le.view q1,q2⟩
def aoj(H:Heap)(h:View):Cell->Value->List Nat->Prop
 | .box t vs,g,N=>∃b a xs N',g=.pointer (some ⟨b,0,none⟩)/\H b=some (.cells a t (0,0))/\vs=xs.map V.d/\xs.length=a.toList.length/\jE H h xs a.toList N'/\N=b::N'
 | .arr fz fl ver s rows,g,N=>fz=false/\ver=0/\abO H h fl s rows g N
 | .dead,_,_=>False
 | .qN ..,_,_=>False
def cellsB(H:Heap)(h:View):List Cell->List Value->List Nat->Prop
 |[],gs,N=>gs=[]/\N=[]
 |c::cs,gs,N=>∃g gs' N1 N2,gs=g::gs'/\N=N1++N2/\aoj H h c g N1/\cellsB H h cs gs' N2
def ahC{H H':Heap}{h h':View}(hl:h.le h'){c:Cell}{g:Value}{N:List Nat}(hb:∀b,b∈N->H' b=H b)(q:aoj H h c g N):aoj H' h' c g N:=by
 cases c with
 |box t vs=>obtain⟨b,a,xs,N',h1,h2,h3,h4,h5,rfl⟩:=q;exact⟨b,a,xs,N',h1,by rw[hb b (by simp)];exact h2,h3,h4,Si hl _ _ _ (λb' hb'=>hb b' (by simp[hb'])) h5,rfl⟩
 |arr fz fl ver s rows=>exact⟨q.1,q.2.1,XJ hl hb q.2.2⟩
 |dead=>exact q
 |qN _ _=>exact q
def afb{H H':Heap}{h h':View}(hl:h.le h'):∀{cs:List Cell} {gs:List Value} {N:List Nat},(∀b,b∈N->H' b=H b)->cellsB H h cs gs N->cellsB H' h' cs gs N
 |[],_,_,_,q=>q
 |c::cs,_,_,hb,⟨g,gs',N1,N2,h1,h2,h3,h4⟩=>by subst h2;exact⟨g,gs',N1,N2,h1,rfl,ahC hl (λb hx=>hb b (by simp[hx])) h3,afb hl (λb hx=>hb b (by simp[hx])) h4⟩
def Iu.aEt(hg:Iu base U w m G){r:Nat}{c:Cell}(hc:get r m=some c)(hro:r ∉ G.out):
  Iu base U w m ⟨G.μ,upF G.F r [],G.E++G.F r,r::G.out⟩/\GLe m G m ⟨G.μ,upF G.F r [],G.E++G.F r,r::G.out⟩:=by
 have hex:∀b,excl (upF G.F r []) (G.E++G.F r) b->excl G.F G.E b:=by
  rintro b (hb|⟨k,hb⟩)
  ·simp only[List.mem_append] at hb;rcases hb with h|h
   ·exact .inl h
   ·exact .inr ⟨r,h⟩
  ·by_cases e:k=r
   ·subst e;simp at hb
   ·rw[kX _ e] at hb;exact .inr ⟨k,hb⟩
 have hv:(view w U (excl G.F G.E)).le (view w U (excl (upF G.F r []) (G.E++G.F r))):=WQ (λ_ x=>x) hex;refine⟨show MInv base U m w G.μ (upF G.F r []) (G.E++G.F r) (r::G.out) from ?_,⟨sH _ _,hex⟩⟩;refine⟨?_, ?_, ?_, ?_,List.nodup_append.2 ⟨hg.ndE,hg.nd r,λa ha b hb e=>hg.djE r b hb (e ▸ ha)⟩,λb hb=>hg.lt b (hex b hb),hg.up,hg.bs, ?_, ?_⟩
 ·intro k c hk hko;simp only[List.mem_cons,not_or] at hko;rw[kX _ hko.1];exact P5 (sH _ _) hv rfl (λ_ _=>rfl) (hg.cell k c hk hko.2)
 ·intro k k' hne b hb hb'
  by_cases e:k=r
  ·subst e;simp at hb
  ·rw[kX _ e] at hb
   by_cases e':k'=r
   ·subst e';simp at hb'
   ·rw[kX _ e'] at hb';exact hg.dj _ _ hne b hb hb'
 ·intro k b hb hE
  by_cases e:k=r
  ·subst e;simp at hb
  ·rw[kX _ e] at hb;simp only[List.mem_append] at hE;rcases hE with h|h
   ·exact hg.djE _ b hb h
   ·exact hg.dj _ _ e b hb h
 ·intro k
  by_cases e:k=r
  ·subst e;simp
  ·rw[kX _ e];exact hg.nd k
 ·intro k hk
  by_cases e:k=r
  ·subst e;simp
  ·rw[kX _ e];exact hg.none_ k hk
 ·intro k hk
  by_cases e:k=r
  ·subst e;simp
  ·rw[kX _ e];exact hg.out_ k (by simpa[e] using hk)
structure Out(base:Nat)(U:Nat->Prop)(w:World)(m:Mem)(G:GS)(m':Mem)(G':GS)(imp rs:List Nat)(N:List Nat):Prop where
 ok:Iu base U w m' G'
 le:GLe m G m' G'
 E:G'.E=G.E++N
 out:∀r,r∈G'.out↔r∈G.out\/r∈rs
 μ:G'.μ=G.μ
 here:∀k,k∈imp->get k m'=get k m
def sameKind:Cell->Cell->Prop
 | .box t _,.box t' _=>t=t'
 | .arr _ fl ver s _,.arr _ fl' uO s' _=>ver=0/\uO=0/\fl=fl'/\s=s'
 |_,_=>False
def kinds(m:Mem):List Nat->List Cell->Prop
 |[],cs=>cs=[]
 |r::rs,cs=>∃c c' cs',cs=c'::cs'/\get r m=some c/\sameKind c c'/\kinds m rs cs'
def acS{m m':Mem}:∀{rs:List Nat} {cs:List Cell},(∀r,r∈rs->get r m'=get r m)->kinds m rs cs->kinds m' rs cs
 |[],_,_,q=>q
 |r::rs,_,h,⟨c,c',cs',h1,h2,h3,h4⟩=>⟨c,c',cs',h1,(h r (by simp)).trans h2,h3,acS (λk hk=>h k (by simp[hk])) h4⟩
def aea{A:Adv}{imp:List Nat}:∀{rs:List Nat} {m:Mem} {G:GS} (_:Iu base U w m G) (_:rs.Nodup) (_:∀r,r∈rs->r∈imp/\r ∉ G.out) (_:∀r,r∈G.out->r∈imp) {cs:List Cell} {m':Mem} {l l':Log}
  (_:(Zy A imp rs).run m l=some (cs,m',l')),∃G' N,Out base U w m G m' G' imp rs N/\cellsB (dU w) (Gh U w G') cs (rs.map G.μ) N/\kinds m rs cs
 |[],m,G,hg,hn,hr,ho,cs,m',l,l',h=>by simp only[Zy,run_pure,je,lN] at h;obtain⟨rfl,rfl,rfl⟩:=h;exact⟨G,[],⟨hg,GLe.refl _ _,by simp,λr=>by simp,rfl,λ_ _=>rfl⟩,⟨rfl,rfl⟩,rfl⟩
 |r::rs,m,G,hg,hn,hr,ho,cs,m',l,l',h=>by
  simp only[Zy] at h;replace h:=aj h;obtain⟨c,m1,l1,h1,h⟩:=h;rw[zD] at h1;cases h1;replace h:=aj h;obtain⟨c1,m1,l1,h1,h⟩:=h;replace h:=aj h;obtain⟨cs1,m2,l2,h2,h⟩:=h;simp only[run_pure,je,lN] at h;obtain⟨rfl,rfl,rfl⟩:=h;have hri:=hr r (by simp);have hnr:=List.nodup_cons.1 hn;have step:∃G' N,Out base U w m G m1 G' imp [r] N/\aoj (dU w) (Gh U w G') c1 (G.μ r) N/\∃c,get r m=some c/\sameKind c c1:=by
   cases hc:get r m with
   |none=>rw[hc] at h1;exact(ay h1).elim
   |some c=>
    rw[hc] at h1;have hq:=hg.cell r c hc hri.2;obtain⟨k1,k2⟩:=hg.aEt hc hri.2;cases c with
    |dead=>exact(ay h1).elim
    |qN _ _=>exact(ay h1).elim
    |box t vs=>
     simp only[atJ] at h1;replace h1:=aj h1;obtain⟨vs',m3,l3,h3,h1⟩:=h1;simp only[run_pure,je,lN] at h1;obtain⟨rfl,rfl,rfl⟩:=h1;obtain⟨b,a,e1,e2,e3,e4⟩:=hq;obtain⟨G2,N2,xs,rfl,hlen,t2,q2,i2⟩:=afa k1 (k2.dn e3) (λk hk=>by
      simp only[List.mem_cons] at hk;rcases hk with rfl|hk
      ·exact hri.1
      ·exact ho k hk) h3
     refine⟨G2,b::N2,⟨t2.ok,k2.trans t2.le,by rw[t2.E,e4];simp,λk=>by rw[t2.out];simp[or_comm],t2.μ,i2⟩,⟨b,a,xs,N2,e1,e2,rfl,hlen,q2,rfl⟩,_,rfl,rfl⟩
    |arr _ _ _ _ _=>exact(ay h1).elim
  obtain⟨G1,N1,o1,q1,c0,hc0,hk0⟩:=step;obtain⟨G2,N2,o2,q2,kd2⟩:=aea o1.ok hnr.2 (λk hk=>⟨(hr k (by simp[hk])).1,λhko=>by
   rcases(o1.out k).1 hko with h|h
   ·exact(hr k (by simp[hk])).2 h
   ·simp at h;subst h;exact hnr.1 hk⟩) (λk hk=>by
   rcases(o1.out k).1 hk with h|h
   ·exact ho k h
   ·simp at h;subst h;exact hri.1) h2
  refine⟨G2,N1++N2,⟨o2.ok,o1.le.trans o2.le,by rw[o2.E,o1.E,NI],λk=> ?_,o2.μ.trans o1.μ,λk hk=>(o2.here k hk).trans (o1.here k hk)⟩,⟨G.μ r,rs.map G.μ,N1,N2,rfl,rfl,ahC o2.le.view (λ_ _=>rfl) q1,by rw[<-o1.μ];exact q2⟩,c0,c1,cs1,rfl,hc0,hk0,acS (λk hk=>(o1.here k (hr k (by simp[hk])).1).symm) kd2⟩;rw[o2.out,o1.out];simp[or_assoc]
end
end Go.Vm
namespace Go.Vm
open Go
section
variable {base:Nat} {U:Nat->Prop} {w:World} {m:Mem} {G:GS}
def amX{r:Nat}{l:List Nat}(h:l.Nodup):(asq r l).Nodup:=by
 unfold asq;cases hm:mem? r l with
 |true=>exact h
 |false=>
  have:r ∉ l:=λhr=>by rw[(H6 r l).2 hr] at hm;cases hm
  exact List.nodup_append.2 ⟨h,by simp,λa ha b hb e=>by simp at hb;subst hb;subst e;exact this ha⟩
mutual
def abU:∀(v:V) (I:List Nat),I.Nodup->(aof I v).Nodup
 | .ptr r _,I,h=>by simp only[aof];exact amX h
 | .clo _ a b,I,h=>by simp only[aof];exact WR b _ (WR a _ h)
 | .agg cs,I,h=>by simp only[aof];exact WR cs _ h
 | .d _,I,h=>h
 | .nil _,I,h=>h
 | .own _ _,I,h=>h
 | .Ej _ _ _ _,I,h=>h
 | .uN _ _,I,h=>h
 | .Em v,I,h=>by simp only[aof];exact abU v I h
 | .FQ _,I,h=>h
 | .undef,I,h=>h
def WR:∀(vs:List V) (I:List Nat),I.Nodup->(alc I vs).Nodup
 |[],I,h=>h
 |v::vs,I,h=>by simp only[alc];exact WR vs _ (abU v I h)
end
def abb(A:Adv)(f:Nat):∀(vs:List V) (i:Nat) (I:List Nat),I.Nodup->(Vb A f i I vs).Nodup
 |[],_,I,h=>h
 |v::vs,i,I,h=>by
  simp only[Vb];refine abb A f vs _ _ ?_;split
  ·exact h
  ·exact abU _ _ h
def VK(A:Adv)(f:Nat)(μ:Nat->Value)(m:Mem)(H:Heap)(h:View):Nat->List V->List Value->List Nat->Prop
 |_,[],gs,N=>gs=[]/\N=[]
 |i,v::vs,gs,N=>∃g gs' N1 N2,gs=g::gs'/\N=N1++N2/\(match JO A f i with
   |1=>∃x,v=.d x/\ow H h x g N1
   |_=>N1=[]/\aU μ m h v g)/\VK A f μ m H h (i+1) vs gs' N2
def XK{A:Adv}{f:Nat}{μ μ':Nat->Value}{m m':Mem}{H H':Heap}{h h':View}(hm:I9 μ m μ' m')(hl:h.le h'):∀{vs:List V} {i:Nat} {gs:List Value} {N:List Nat},(∀b,b∈N->H' b=H b)->
  VK A f μ m H h i vs gs N->VK A f μ' m' H' h' i vs gs N
 |[],_,_,_,_,q=>q
 |v::vs,i,gs,N,hb,q=>by
  simp only[VK] at q|-;obtain⟨g,gs',N1,N2,rfl,rfl,h3,h4⟩:=q;refine⟨g,gs',N1,N2,rfl,rfl, ?_,XK hm hl (λb hx=>hb b (by simp[hx])) h4⟩;split at h3
  ·rename_i hmo;obtain⟨x,hx,hq⟩:=h3;exact⟨x,hx,amV hl x g N1 (λb hx=>hb b (by simp[hx])) hq⟩
  ·exact⟨h3.1,AQ hm hl v g h3.2⟩
def afc{A:Adv}{f:Nat}:∀{vs:List V} {gs:List Value} {m:Mem} {G:GS} {i:Nat} (_:Iu base U w m G) (_:dn G.μ m (Gh U w G) vs gs) (_:G.out=[]) {vs':List V} {m':Mem} {l l':Log}
  (_:(XF A f i vs).run m l=some (vs',m',l')),∃G' N,PV base U w m G m' G' N/\VK A f G'.μ m' (dU w) (Gh U w G') i vs' gs N
 |[],gs,m,G,i,hg,hv,ho,vs',m',l,l',h=>by simp only[XF,run_pure,je,lN] at h;obtain⟨rfl,rfl,rfl⟩:=h;simp only[dn] at hv;exact⟨G,[],PV.same hg,hv,rfl⟩
 |v::vs,gs,m,G,i,hg,hv,ho,vs',m',l,l',h=>by
  obtain⟨g,gs',rfl,hv1,hv2⟩:=oI hv;simp only[XF] at h;replace h:=aj h;obtain⟨x,m1,l1,h1,h⟩:=h;replace h:=aj h;obtain⟨ys,m2,l2,h2,h⟩:=h;simp only[run_pure,je,lN] at h;obtain⟨rfl,rfl,rfl⟩:=h;have step:∃G1 N1,PV base U w m G m1 G1 N1/\(match JO A f i with
   |1=>∃y,x=.d y/\ow (dU w) (Gh U w G1) y g N1
   |_=>N1=[]/\aU G1.μ m1 (Gh U w G1) x g):=by
   split at h1
   ·rename_i hmo;replace h1:=aj h1;obtain⟨y,m3,l3,h3,h1⟩:=h1;simp only[run_pure,je,lN] at h1;obtain⟨rfl,rfl,rfl⟩:=h1;obtain⟨G1,N1,t1,q1⟩:=awV hg hv1 ho h3;refine⟨G1,N1,t1, ?_⟩
    try rw[hmo]
    exact⟨y,rfl,q1⟩
   ·rename_i hmo;simp only[run_pure,je,lN] at h1;obtain⟨rfl,rfl,rfl⟩:=h1;refine⟨G,[],PV.same hg, ?_⟩
    first
     |exact⟨rfl,hv1⟩
     |split
      ·rename_i e;exact absurd e hmo
      ·exact⟨rfl,hv1⟩
  obtain⟨G1,N1,t1,q1⟩:=step;obtain⟨G2,N2,t2,q2⟩:=afc t1.ok (t1.le.dn hv2) (t1.out.trans ho) h2;refine⟨G2,N1++N2,t1.trans t2, ?_⟩;simp only[VK];refine⟨g,gs',N1,N2,rfl,rfl, ?_,q2⟩;split at q1
  ·obtain⟨y,hy,hq⟩:=q1;exact⟨y,hy,aaK t2.le.view hq⟩
  ·exact⟨q1.1,t2.le.aU q1.2⟩
def ahD:∀(cs:List Cell) (k i:Nat),get (sF+(k+i)) (uP k cs)=cs[i]?
 |[],_,_=>by simp[uP,get]
 |c::cs,k,0=>by simp[uP,get]
 |c::cs,k,i+1=>by simp only[uP,get];rw[wM ak];simp only[bn,List.getElem?_cons_succ];rw[<-ahD cs (k+1) i,show k+1+i=k+(i+1) from by omega]
def WS(cs:List Cell)(i:Nat):get (sF+i) (uP 0 cs)=cs[i]? :=by
 have:=ahD cs 0 i
 rwa [Nat.zero_add] at this
def impμ(hs:List Value):Nat->Value:=λk=>hs.getD (k - sF) undef
def ahE{r:Nat}:∀{l:List Nat} {k i:Nat},idxOf r k l=some i->k<=i/\l[i - k]? =some r
 |[],_,_,h=>by simp[idxOf] at h
 |j::l,k,i,h=>by
  simp only[idxOf] at h
  by_cases e:r=j
  ·subst e;simp at h;subst h;simp
  ·rw[wM e] at h;simp only[bn] at h;obtain⟨h1,h2⟩:=ahE h;refine⟨ak, ?_⟩;rw[show i - k=(i - (k+1))+1 from by omega,List.getElem?_cons_succ];exact h2
def ahF{m:Mem}:∀{rs:List Nat} {cs:List Cell} {i r:Nat},kinds m rs cs->rs[i]? =some r->∃c c',get r m=some c/\cs[i]? =some c'/\sameKind c c'
 |[],_,_,_,_,h=>by simp at h
 |r::rs,_,0,r',⟨c,c',cs',h1,h2,h3,_⟩,h=>by simp at h;subst h;subst h1;exact⟨c,c',h2,rfl,h3⟩
 |r::rs,_,i+1,r',⟨c,c',cs',h1,h2,h3,h4⟩,h=>by subst h1;simp only[List.getElem?_cons_succ] at h|-;exact ahF h4 h
def ZH(U:Nat->Prop)(G:GS)(L:List Nat):Nat->Prop:=λb=>U b/\∀r,b∈G.F r->r∈L
def Vd{L:List Nat}:(Gh U w G).le (view w (ZH U G L) (· ∈G.E)):=by
 intro b o v hv;unfold Gh view at hv;split at hv
 ·rename_i hc;unfold view;rw[if_pos ⟨⟨hc.1,λr hr=>absurd (.inr ⟨r,hr⟩) hc.2⟩,λhE=>hc.2 (.inl hE)⟩];exact hv
 ·cases hv
structure alf(base:Nat)(U:Nat->Prop)(w:World)(m:Mem)(G:GS)(imp:List Nat)(cells:List Cell):Prop where
 ok:Iu base U w m G
 out:∀r,r∈G.out↔r∈imp
 kd:kinds m imp cells
def aA4(hg:Iu base U w m G){r:Nat}{fz fl:Bool}{ver s:Nat}{rows:List Row}(hc:get r m=some (.arr fz fl ver s rows))(hro:r ∉ G.out){L:List Nat}(hL:fz=false->r∈L)(o:Bool):
  ro (view w (ZH U G L) (· ∈G.E)) (.sl o s rows) (G.μ r):=by
 have hq:=hg.cell r _ hc hro;cases fz with
 |true=>exact abS (KP Vd _ _ hq.1)
 |false=>
  refine amW Vd (PE λb hb=>⟨⟨(hg.lt b (.inr ⟨r,hb⟩)).2.2,λk hk=> ?_⟩,hg.djE r b hb⟩) hq o
  by_cases e:k=r
  ·rw[e];exact hL rfl
  ·exact absurd hk (hg.dj r k (Ne.symm e) b hb)
mutual
def agW{imp:List Nat}{cells:List Cell}(C:alf base U w m G imp cells):∀{v:V} {g:Value} (_:aU G.μ m (Gh U w G) v g) {v':V} {lt:List Nat} {m':Mem} {l l':Log}
  (_:(lend imp v).run m l=some ((v',lt),m',l')),m'=m/\∀L:List Nat,(∀r,r∈lt->r∈L)->aU (impμ (imp.map G.μ)) (uP 0 cells) (view w (ZH U G L) (· ∈G.E)) v' g
 | .d x,g,hv,v',lt,m',l,l',h=>by simp only[lend,run_pure,je,lN] at h;obtain⟨⟨rfl,rfl⟩,rfl,rfl⟩:=h;refine⟨rfl,λL hL=> ?_⟩;simp only[aU] at hv|-;exact KP Vd _ _ (awT hv)
 | .nil s,g,hv,v',lt,m',l,l',h=>by simp only[lend,run_pure,je,lN] at h;obtain⟨⟨rfl,rfl⟩,rfl,rfl⟩:=h;refine⟨rfl,λL hL=> ?_⟩;simp only[aU] at hv|-;simp[ro,hv]
 | .own r ver,g,hv,v',lt,m',l,l',h=>by
  simp only[lend] at h;replace h:=aj h;obtain⟨c,m1,l1,h1,h⟩:=h;rw[zD] at h1;cases h1;cases hc:get r m with
  |none=>rw[hc] at h;exact(ay h).elim
  |some c=>
   rw[hc] at h;cases c with
   |box _ _=>exact(ay h).elim
   |dead=>exact(ay h).elim
   |qN _ _=>exact(ay h).elim
   |arr fz fl uO s rows=>
    simp only at h;replace h:=aj h;obtain⟨_,m2,l2,h1,h⟩:=h;obtain⟨hb,rfl,rfl⟩:=eH h1;have hb:=Hy hb;subst hb;replace h:=aj h;obtain⟨_,m2,l2,h1,h⟩:=h;obtain⟨hi,rfl,rfl⟩:=eH h1;simp only[run_pure,je,lN] at h;obtain⟨⟨rfl,rfl⟩,rfl,rfl⟩:=h;simp only[aU,hc] at hv;have hv:=hv.2.2 trivial;subst hv;refine⟨rfl,λL hL=> ?_⟩;have hro:r ∉ G.out:=λhr=>VJ hi ((C.out r).1 hr)
    simp only[aU];exact ahA (aA4 C.ok hc hro (λhf=>hL r (by subst hf;simp)) true)
 | .ptr r off,g,hv,v',lt,m',l,l',h=>by simp only[lend] at h;replace h:=aj h;obtain⟨i,m1,l1,h1,h⟩:=h;obtain⟨hi,rfl,rfl⟩:=lD h1;simp only[run_pure,je,lN] at h;obtain⟨⟨rfl,rfl⟩,rfl,rfl⟩:=h;refine⟨rfl,λL hL=> ?_⟩;obtain⟨_,h2⟩:=ahE hi;rw[Nat.sub_zero] at h2;obtain⟨c,c',k1,k2,k3⟩:=ahF C.kd h2;simp only[aU,k1] at hv;simp only[aU,WS,k2];refine⟨hv.1, ?_⟩;replace hv:=hv.2;cases c<;>cases c'<;>simp only[sameKind] at k3 hv|-;obtain⟨b,e1,e2⟩:=hv;refine⟨b, ?_,e2⟩;simp only[impμ,Nat.add_sub_cancel_left,List.getD_eq_getElem?_getD,List.getElem?_map,h2,O9,Option.getD_some,e1]
 | .uN row off,g,hv,v',lt,m',l,l',h=>by simp only[lend,run_pure,je,lN] at h;obtain⟨⟨rfl,rfl⟩,rfl,rfl⟩:=h;refine⟨rfl,λL hL=> ?_⟩;simp only[aU] at hv|-;obtain⟨b,o,e1,e2⟩:=hv;exact⟨b,o,e1,RZ Vd row b o e2⟩
 | .Em v,g,hv,v',lt,m',l,l',h=>by simp only[lend] at h;replace h:=aj h;obtain⟨⟨a',la⟩,m1,l1,h1,h⟩:=h;simp only[run_pure,je,lN] at h;obtain⟨⟨rfl,rfl⟩,rfl,rfl⟩:=h;simp only[aU] at hv;obtain⟨b,x,rfl,e2,e3⟩:=hv;obtain⟨hm1,q1⟩:=agW C e3 h1;refine⟨hm1,λL hL=> ?_⟩;simp only[aU];exact⟨b,x,rfl,Vd _ _ _ e2,q1 L hL⟩
 | .clo f a b,g,hv,v',lt,m',l,l',h=>by simp only[lend] at h;replace h:=aj h;obtain⟨⟨a',la⟩,m1,l1,h1,h⟩:=h;simp only at h;replace h:=aj h;obtain⟨⟨b',lb⟩,m2,l2,h2,h⟩:=h;simp only[run_pure,je,lN] at h;obtain⟨⟨rfl,rfl⟩,rfl,rfl⟩:=h;simp only[aU] at hv;obtain⟨x,y,rfl,e2,e3⟩:=hv;obtain⟨hm1,q1⟩:=acT C e2 h1;rw[hm1] at h2;obtain⟨hm2,q2⟩:=acT C e3 h2;refine⟨hm2,λL hL=> ?_⟩;simp only[aU];exact⟨x,y,rfl,q1 L (λr hr=>hL r (by simp[hr])),q2 L (λr hr=>hL r (by simp[hr]))⟩
 | .agg cs,g,hv,v',lt,m',l,l',h=>by simp only[lend] at h;replace h:=aj h;obtain⟨⟨a',la⟩,m1,l1,h1,h⟩:=h;simp only[run_pure,je,lN] at h;obtain⟨⟨rfl,rfl⟩,rfl,rfl⟩:=h;simp only[aU] at hv;obtain⟨x,rfl,e2⟩:=hv;obtain⟨hm1,q1⟩:=acT C e2 h1;refine⟨hm1,λL hL=> ?_⟩;simp only[aU];exact⟨x,rfl,q1 L hL⟩
 | .Ej _ _ _ _,g,hv,v',lt,m',l,l',h=>(ay h).elim
 | .FQ _,g,hv,v',lt,m',l,l',h=>(ay h).elim
 | .undef,g,hv,v',lt,m',l,l',h=>(ay h).elim
def acT{imp:List Nat}{cells:List Cell}(C:alf base U w m G imp cells):∀{vs:List V} {gs:List Value} (_:dn G.μ m (Gh U w G) vs gs) {vs':List V} {lt:List Nat} {m':Mem} {l l':Log}
  (_:(ahs imp vs).run m l=some ((vs',lt),m',l')),m'=m/\∀L:List Nat,(∀r,r∈lt->r∈L)->dn (impμ (imp.map G.μ)) (uP 0 cells) (view w (ZH U G L) (· ∈G.E)) vs' gs
 |[],gs,hv,v',lt,m',l,l',h=>by simp only[ahs,run_pure,je,lN] at h;obtain⟨⟨rfl,rfl⟩,rfl,rfl⟩:=h;simp only[dn] at hv;subst hv;exact⟨rfl,λ_ _=>by simp[dn]⟩
 |v::vs,gs,hv,v',lt,m',l,l',h=>by obtain⟨g,gs',rfl,hv1,hv2⟩:=oI hv;simp only[ahs] at h;replace h:=aj h;obtain⟨⟨a',la⟩,m1,l1,h1,h⟩:=h;simp only at h;replace h:=aj h;obtain⟨⟨b',lb⟩,m2,l2,h2,h⟩:=h;simp only[run_pure,je,lN] at h;obtain⟨⟨rfl,rfl⟩,rfl,rfl⟩:=h;obtain⟨hm1,q1⟩:=agW C hv1 h1;rw[hm1] at h2;obtain⟨hm2,q2⟩:=acT C hv2 h2;refine⟨hm2,λL hL=> ?_⟩;simp only[dn];exact⟨g,gs',rfl,q1 L (λr hr=>hL r (by simp[hr])),q2 L (λr hr=>hL r (by simp[hr]))⟩
end
def acU{imp:List Nat}{cells:List Cell}(C:alf base U w m G imp cells):∀{vs:List V} {gs:List Value} (_:dn G.μ m (Gh U w G) vs gs) {row:Row} {lt:List Nat} {m':Mem} {l l':Log}
  (_:(XG imp vs).run m l=some ((row,lt),m',l')),m'=m/\∀L:List Nat,(∀r,r∈lt->r∈L)->jq (view w (ZH U G L) (· ∈G.E)) row gs
 |[],gs,hv,row,lt,m',l,l',h=>by simp only[XG,run_pure,je,lN] at h;obtain⟨⟨rfl,rfl⟩,rfl,rfl⟩:=h;exact⟨rfl,λ_ _=>by simp[jq]⟩
 |v::vs,gs,hv,row,lt,m',l,l',h=>by
  obtain⟨g,gs',rfl,hv1,hv2⟩:=oI hv;simp only[XG] at h;replace h:=aj h;obtain⟨⟨a',la⟩,m1,l1,h1,h⟩:=h;obtain⟨hm1,q1⟩:=agW C hv1 h1;cases a' with
  |d x=>simp only at h;replace h:=aj h;obtain⟨⟨b',lb⟩,m2,l2,h2,h⟩:=h;simp only[run_pure,je,lN] at h;obtain⟨⟨rfl,rfl⟩,rfl,rfl⟩:=h;rw[hm1] at h2;obtain⟨hm2,q2⟩:=acU C hv2 h2;refine⟨hm2,λL hL=> ?_⟩;have:=q1 L (λr hr=>hL r (by simp[hr]));simp only[aU] at this;exact⟨g,gs',rfl,this,q2 L (λr hr=>hL r (by simp[hr]))⟩
  |_=>exact(ay h).elim
def asy{imp:List Nat}{cells:List Cell}(C:alf base U w m G imp cells){v:V}{g:Value}(hv:aU G.μ m (Gh U w G) v g){v':V}{lt:List Nat}{m':Mem}{l l':Log}
  (h:(agV imp v).run m l=some ((v',lt),m',l')):m'=m/\∀L:List Nat,(∀r,r∈lt->r∈L)->aU (impμ (imp.map G.μ)) (uP 0 cells) (view w (ZH U G L) (· ∈G.E)) v' g:=by
 cases v with
 |ptr r off=>
  simp only[agV] at h;replace h:=aj h;obtain⟨c,m1,l1,h1,h⟩:=h;rw[zD] at h1;cases h1;cases hc:get r m with
  |none=>rw[hc] at h;exact(ay h).elim
  |some c=>
   rw[hc] at h;cases c with
   |box t cs=>
    simp only at h;replace h:=aj h;obtain⟨_,m2,l2,h1,h⟩:=h;obtain⟨hi,rfl,rfl⟩:=eH h1;replace h:=aj h;obtain⟨⟨row,la⟩,m2,l2,h1,h⟩:=h;simp only[run_pure,je,lN] at h;obtain⟨⟨rfl,rfl⟩,rfl,rfl⟩:=h;have hro:r ∉ G.out:=λhr=>VJ hi ((C.out r).1 hr)
    obtain⟨b,a,e1,e2,e3,e4⟩:=C.ok.cell r _ hc hro;obtain⟨hm,q⟩:=acU C e3 h1;refine⟨hm,λL hL=> ?_⟩;simp only[aU,hc] at hv|-;obtain⟨b',e5,e6⟩:=hv.2;rw[e1] at e5;cases e5;refine⟨b,0,by rw[Nat.zero_add];exact e6,abQ row 0 a.toList (λj u hj=> ?_) (q L (λk hk=>hL k (by simp[hk])))⟩;rw[Nat.zero_add];have hb:b∈G.F r:=by rw[e4];simp
    refine PE (N:=[b]) (λb' hb'=> ?_) b (by simp) a t _ e2 j u hj;simp only[List.mem_singleton] at hb';subst hb';refine⟨⟨(C.ok.lt _ (.inr ⟨r,hb⟩)).2.2,λk hk=> ?_⟩,C.ok.djE r _ hb⟩
    by_cases e:k=r
    ·rw[e];exact hL r (by simp)
    ·exact absurd hk (C.ok.dj r k (Ne.symm e) _ hb)
   |_=>exact(ay h).elim
 |uN row off=>simp only[agV,run_pure,je,lN] at h;obtain⟨⟨rfl,rfl⟩,rfl,rfl⟩:=h;refine⟨rfl,λL hL=> ?_⟩;simp only[aU] at hv|-;obtain⟨b,o,e1,e2⟩:=hv;exact⟨b,o,e1,RZ Vd row b o e2⟩
 |_=>exact(ay h).elim
def afd{A:Adv}{f:Nat}{imp:List Nat}{cells:List Cell}(C:alf base U w m G imp cells):
  ∀{vs:List V} {gs:List Value} {i:Nat} {N:List Nat} (_:VK A f G.μ m (dU w) (Gh U w G) i vs gs N) {vs':List V} {lt:List Nat} {m':Mem} {l l':Log}
  (_:(XH A imp f i vs).run m l=some ((vs',lt),m',l')),m'=m/\∀L:List Nat,(∀r,r∈lt->r∈L)->VK A f (impμ (imp.map G.μ)) (uP 0 cells) (dU w) (view w (ZH U G L) (· ∈G.E)) i vs' gs N
 |[],gs,i,N,hv,v',lt,m',l,l',h=>by simp only[XH,run_pure,je,lN] at h;obtain⟨⟨rfl,rfl⟩,rfl,rfl⟩:=h;exact⟨rfl,λ_ _=>hv⟩
 |v::vs,gs,i,N,hv,v',lt,m',l,l',h=>by
  simp only[VK] at hv;obtain⟨g,gs',N1,N2,rfl,rfl,hv1,hv2⟩:=hv;simp only[XH] at h;replace h:=aj h;obtain⟨⟨a',la⟩,m1,l1,h1,h⟩:=h;simp only at h;replace h:=aj h;obtain⟨⟨b',lb⟩,m2,l2,h2,h⟩:=h;simp only[run_pure,je,lN] at h;obtain⟨⟨rfl,rfl⟩,rfl,rfl⟩:=h;have step:m1=m/\∀L:List Nat,(∀r,r∈la->r∈L)->(match JO A f i with
   |1=>∃x,a'=.d x/\ow (dU w) (view w (ZH U G L) (· ∈G.E)) x g N1
   |_=>N1=[]/\aU (impμ (imp.map G.μ)) (uP 0 cells) (view w (ZH U G L) (· ∈G.E)) a' g):=by
   split at h1
   ·rename_i hmo;rw[hmo] at hv1|-;simp only[run_pure,je,lN] at h1;obtain⟨⟨rfl,rfl⟩,rfl,rfl⟩:=h1;refine⟨rfl,λL hL=> ?_⟩;obtain⟨x,hx,hq⟩:=hv1;exact⟨x,hx,aaK Vd hq⟩
   ·rename_i hmo;rw[hmo] at hv1|-;obtain⟨hN,hv1⟩:=hv1;obtain⟨rfl,q⟩:=asy C hv1 h1;exact⟨rfl,λL hL=>⟨hN,q L hL⟩⟩
   ·rename_i aYG a7n;have hm1:∀(α:Prop) (β:Prop),(match JO A f i with|1=>α|_=>β)=β:=by
     intro α β;split
     ·rename_i e;exact absurd e aYG
     ·rfl
    rw[hm1] at hv1;obtain⟨hN,hv1⟩:=hv1;obtain⟨rfl,q⟩:=agW C hv1 h1;refine⟨rfl,λL hL=> ?_⟩;rw[hm1];exact⟨hN,q L hL⟩
  obtain⟨hm1,q1⟩:=step;rw[hm1] at h2;obtain⟨hm2,q2⟩:=afd C hv2 h2;refine⟨hm2,λL hL=> ?_⟩;simp only[VK];exact⟨g,gs',N1,N2,rfl,rfl,q1 L (λr hr=>hL r (by simp[hr])),q2 L (λr hr=>hL r (by simp[hr]))⟩
end
end Go.Vm
namespace Go.Vm
open Go
def VA{w:World}{U X:Nat->Prop}{b o:Nat}{v:Value}(h:view w U X b o=some v):U b/\¬X b/\w.cell? ⟨b,o,none⟩=some v:=by
 unfold view at h;split at h
 ·rename_i hc;exact⟨hc.1,hc.2,h⟩
 ·cases h
def agX{w:World}{U X:Nat->Prop}{b o:Nat}{v:Value}(h1:U b)(h2:¬X b)(h3:w.cell? ⟨b,o,none⟩=some v):view w U X b o=some v:=by unfold view;rw[if_pos ⟨h1,h2⟩];exact h3
def cell_of_heap{w w':World}{b:Nat}(h:w'.heap[b]? =w.heap[b]?)(o:Nat):w'.cell? ⟨b,o,none⟩=w.cell? ⟨b,o,none⟩:=by simp[World.cell?,h]
def lt_of_cell{w:World}{b o:Nat}{v:Value}(h:w.cell? ⟨b,o,none⟩=some v):b<w.heap.size:=by have:=block_lt_of_cell h;simpa using this
section
variable {base:Nat} {U:Nat->Prop} {w w':World} {m:Mem} {G:GS}
def Iu.world(hg:Iu base U w m G)(hk:Keep G.E w w'){E':List Nat}(hn:E'.Nodup)(hE:∀b,b∈E'->(b∈G.E\/w.heap.size<=b)/\b<w'.heap.size):
  Iu base U w' m {G with E:=E'}/\(Gh U w G).le (Gh U w' {G with E:=E'}):=by
 have hnE:∀b,b<w.heap.size->b ∉ G.E->b ∉ E':=λb hb hx he=>by
  rcases(hE b he).1 with h|h
  ·exact hx h
  ·omega
 have hF:∀r b,b∈G.F r->w'.heap[b]? =w.heap[b]? :=λr b hb=>hk.block b (hg.lt b (.inr ⟨r,hb⟩)).1 (hg.djE r b hb)
 have hle:(Gh U w G).le (Gh U w' {G with E:=E'}):=by
  intro b o v hv;obtain⟨h1,h2,h3⟩:=VA hv;have hlt:=lt_of_cell h3;have hbE:b ∉ G.E:=λh=>h2 (.inl h)
  refine agX h1 ?_ ((cell_of_heap (hk.block b hlt hbE) o).trans h3);rintro(h|h)
  ·exact hnE b hlt hbE h
  ·exact h2 (.inr h)
 refine⟨⟨?_,hg.dj,λr b hb=>hnE b (hg.lt b (.inr ⟨r,hb⟩)).1 (hg.djE r b hb),hg.nd,hn, ?_,λb hb=>hg.up b (Nat.le_trans hk.size hb),Nat.le_trans hg.bs hk.size,hg.none_,hg.out_⟩,hle⟩
 ·intro r c hc ho;exact P5 (sH _ _) hle rfl (λb hb=>hF r b hb) (hg.cell r c hc ho)
 ·rintro b (h|⟨r,h⟩)
  ·refine⟨(hE b h).2, ?_⟩;rcases(hE b h).1 with h'|h'
   ·exact(hg.lt b (.inl h')).2
   ·exact⟨Nat.le_trans hg.bs h',hg.up b h'⟩
  ·have:=hg.lt b (.inr ⟨r,h⟩);exact⟨Nat.lt_of_lt_of_le this.1 hk.size,this.2⟩
def alg:∀{L:List Nat} {m:Mem} {G:GS} (_:Iu base U w m G) (_:∀r,r∈L->r ∉ G.out) {x:Unit} {m':Mem} {l l':Log} (_:(freeze L).run m l=some (x,m',l')),
  ∃F',Iu base U w m' ⟨G.μ,F',G.E,G.out⟩/\GLe m G m' ⟨G.μ,F',G.E,G.out⟩/\(∀r,r∈L->F' r=[])/\(∀r,F' r=[]\/F' r=G.F r)/\(∀k,k ∉ L->get k m'=get k m)
 |[],m,G,hg,ho,x,m',l,l',h=>by simp only[Vm.freeze,run_pure,je,lN] at h;obtain⟨_,rfl,rfl⟩:=h;exact⟨G.F,hg,GLe.refl _ _,by simp,λr=> .inr rfl,λ_ _=>rfl⟩
 |r::L,m,G,hg,ho,x,m',l,l',h=>by
  simp only[Vm.freeze] at h;replace h:=aj h;obtain⟨c,m1,l1,h1,h⟩:=h;rw[zD] at h1;cases h1;cases hc:get r m with
  |none=>rw[hc] at h;exact(ay h).elim
  |some c=>
   rw[hc] at h;cases c with
   |box _ _=>exact(ay h).elim
   |dead=>exact(ay h).elim
   |qN _ _=>exact(ay h).elim
   |arr fz fl ver s rows=>
    replace h:=aj h;obtain⟨_,m1,l1,h1,h⟩:=h;simp only[P7,je,lN] at h1;obtain⟨_,rfl,rfl⟩:=h1;obtain⟨k1,k2,_⟩:=hg.freeze hc (ho r (by simp));obtain⟨F',q1,q2,q3,q4,q5⟩:=alg k1 (λk hk=>ho k (by simp[hk])) h;refine⟨F',q1,k2.trans q2, ?_, ?_, ?_⟩
    ·intro k hk;simp only[List.mem_cons] at hk;rcases hk with rfl|hk
     ·rcases q4 k with e|e
      ·exact e
      ·rw[e];simp
     ·exact q3 k hk
    ·intro k;rcases q4 k with e|e
     ·exact .inl e
     ·by_cases ek:k=r
      ·subst ek;rw[e];left;simp
      ·have e':F' k=upF G.F r [] k:=e;rw[e',kX _ ek];exact .inr rfl
    ·intro k hk;simp only[List.mem_cons,not_or] at hk;rw[q5 k hk.2,ng hk.1]
def ahG{k:IntKind}{x:D}{n:Int}(h:asInt k x=some n):x=.int k n:=by
 cases x<;>simp[asInt] at h;rename_i k' n'
 by_cases e:k'=k
 ·subst e;simp at h;subst h;rfl
 ·simp[e] at h
def afe{x:D}{b:Bool}(h:asBool x=some b):x=.bool b:=by cases x<;>simp[asBool] at h;subst h;rfl
def ahH{x:D}{b:List UInt8}(h:ala x=some b):x=.str b:=by cases x<;>simp[ala] at h;subst h;rfl
def alh{s:Nat}{x:D}{rows:List Row}(h:awK s x=some rows):∃o,x=.sl o s rows:=by
 cases x<;>simp[awK] at h;rename_i o s' rows'
 by_cases e:s'=s
 ·subst e;simp at h;subst h;exact⟨o,rfl⟩
 ·rw[wM e] at h;simp at h
def asz{s:Nat}{x:D}{rows:List Row}(h:atH s x=some rows):x=.sl true s rows:=by
 cases x<;>simp[atH] at h;rename_i o s' rows';cases o<;>simp at h
 by_cases e:s'=s
 ·subst e;simp at h;subst h;rfl
 ·rw[wM e] at h;simp at h
def aok{row:Row}{j:Nat}{x:D}{r:Row}(h:row.drop j=x::r):nth row j=x/\row.drop (j+1)=r:=by
 have h1:row[j]? =some x:=by
  have:(row.drop j)[0]? =some x:=by rw[h];rfl
  rwa [List.getElem?_drop,Nat.add_zero] at this
 refine⟨by simp[nth,h1], ?_⟩;rw[<-List.drop_drop,h];rfl
def Iu.ahI(hg:Iu base U w m G){N E:List Nat}(hE:(N++E).Perm G.E):Iu base U w m {G with E:=E}/\GLe m G m {G with E:=E}/\∀{x:D} {g:Value},ow (dU w) (Gh U w G) x g N->ro (Gh U w {G with E:=E}) x g:=by
 have hnd:=hE.nodup_iff.2 hg.ndE;have hmem:∀b,b∈N++E->b∈G.E:=λb hb=>hE.mem_iff.1 hb
 obtain⟨h1,h2⟩:=hg.less E (List.nodup_append.1 hnd).2.1 (λb hb=>hmem b (by simp[hb]));refine⟨h1,h2,fun{x g} q=>aEs h2.view x g N (PE λb hb=>⟨(hg.lt b (.inl (hmem b (by simp[hb])))).2.2, ?_⟩) q⟩;rintro(h|⟨r,h⟩)
 ·exact(List.nodup_append.1 hnd).2.2 b hb b h rfl
 ·exact hg.djE r b h (hmem b (by simp[hb]))
structure Grew(base:Nat)(U:Nat->Prop)(w:World)(m:Mem)(G:GS)(m':Mem)(G':GS)(E:List Nat):Prop where
 ok:Iu base U w m' G'
 le:GLe m G m' G'
 E:G'.E=E
 out:G'.out=G.out
 old:∀k c,get k m=some c->get k m'=some c
 μ:∀k c,get k m=some c->G'.μ k=G.μ k
def Grew.trans{m1 m2 m3:Mem}{G1 G2 G3:GS}{E E':List Nat}(a:Grew base U w m1 G1 m2 G2 E)(b:Grew base U w m2 G2 m3 G3 E'):Grew base U w m1 G1 m3 G3 E':=
 ⟨b.ok,a.le.trans b.le,b.E,b.out.trans a.out,λk c h=>b.old k c (a.old k c h),λk c h=>(b.μ k c (a.old k c h)).trans (a.μ k c h)⟩
def aaL{k:Nat}{c:Cell}{x:Unit}{m':Mem}{l l':Log}(h:(new k c).run m l=some (x,m',l')):get k m=none/\m'=put k c m:=by
 simp only[new] at h;replace h:=aj h;obtain⟨_,m1,l1,h1,h⟩:=h;simp only[free] at h1;replace h1:=aj h1;obtain⟨c',m2,l2,h2,h1⟩:=h1;rw[zD] at h2;cases h2;cases hc:get k m with
 |some c=>rw[hc] at h1;exact(ay h1).elim
 |none=>rw[hc] at h1;simp only[run_pure,je,lN] at h1;obtain⟨_,rfl,rfl⟩:=h1;simp only[P7,je,lN] at h;exact⟨rfl,h.2.1.symm⟩
def ali(hg:Iu base U w m G)(ho:∀r,r∈G.out->∃c,get r m=some c){k:Nat}{fl:Bool}{s:Nat}{rows:List Row}{g:Value}{N E:List Nat}(hE:(N++E).Perm G.E)
  (hq:ow (dU w) (Gh U w G) (.sl true s rows) g N) {x:Unit} {m':Mem} {l l':Log} (h:(new k (.arr false fl 0 s rows)).run m l=some (x,m',l')):
  ∃G',Grew base U w m G m' G' E/\aU G'.μ m' (Gh U w G') (.own k 0) g:=by
 obtain⟨hn,rfl⟩:=aaL h;have hk:k ∉ G.out:=λhx=>by obtain⟨c,hc⟩:=ho k hx;rw[hn] at hc;cases hc
 obtain⟨F',h1,h2⟩:=hg.aF4 fl hn hk hE hq;refine⟨_,⟨h1,h2,rfl,rfl,λj c hj=> ?_,λj c hj=> ?_⟩, ?_⟩
 ·have hne:j≠k:=λe=>by subst e;rw[hn] at hj;cases hj
  rw[ng hne];exact hj
 ·exact Sl _ (λe=>by subst e;rw[hn] at hj;cases hj)
 ·have:abP g:=by simp only[ow] at hq;rcases hq with⟨_,rfl,_⟩|⟨b,cap,cs,t,N',rfl,_⟩<;>exact⟨_,_,_,rfl⟩
  simp[aU,jV,this]
def asA(hg:Iu base U w m G)(ho:∀r,r∈G.out->∃c,get r m=some c){k b:Nat}{T:TypeId}{vs:List V}{a:Array Value}{E:List Nat}(hE:(b::E).Perm G.E)
  (hH:dU w b=some (.cells a T (0,0))) (hq:dn G.μ m (Gh U w G) vs a.toList) {x:Unit} {m':Mem} {l l':Log} (h:(new k (.box T vs)).run m l=some (x,m',l')):
  ∃G',Grew base U w m G m' G' E/\aU G'.μ m' (Gh U w G') (.ptr k 0) (.pointer (some ⟨b,0,none⟩)):=by
 obtain⟨hn,rfl⟩:=aaL h;have hk:k ∉ G.out:=λhx=>by obtain⟨c,hc⟩:=ho k hx;rw[hn] at hc;cases hc
 have hnd:=hE.nodup_iff.2 hg.ndE;have hμ:∀j,j≠k->upM G.μ k (.pointer (some ⟨b,0,none⟩)) j=G.μ j:=λj e=>Sl _ e
 have hle:I9 G.μ m (upM G.μ k (.pointer (some ⟨b,0,none⟩))) (put k (.box T vs) m):=Iw hμ (λc h=>by rw[hn] at h;cases h);obtain⟨h1,h2⟩:=hg.set k (.box T vs) (upM G.μ k (.pointer (some ⟨b,0,none⟩))) [b] E G.out (by simpa using hnd) (λx hx=> .inr (hE.mem_iff.1 (by simpa using hx))) hle hμ (λ_ _=>Iff.rfl) (λh=>absurd h hk)
  (λhv _=>⟨b,a,Uw _ _ _,hH,sJ hle hv _ _ hq,rfl⟩)
 refine⟨_,⟨h1,h2,rfl,rfl,λj c hj=> ?_,λj c hj=> ?_⟩, ?_⟩
 ·rw[ng (λe=>by subst e;rw[hn] at hj;cases hj)];exact hj
 ·exact Sl _ (λe=>by subst e;rw[hn] at hj;cases hj)
 ·simp[aU,jV,awR]
def afg(hg:Iu base U w m G)(ho:∀r,r∈G.out->∃c,get r m=some c){row:Row}{j:Nat}{x:D}{g:Value}{N E:List Nat}(hE:(N++E).Perm G.E)(hx:nth row j=x)
  (hq:ow (dU w) (Gh U w G) x g N) {ct:CT} {own fl:Bool} {key:Nat} {v:V} {m':Mem} {l l':Log}
  (h:(Ut own fl key row j ct).run m l=some (v,m',l')):
  ∃G',Grew base U w m G m' G' E/\aU G'.μ m' (Gh U w G') v g:=by
 obtain⟨d1,d2,d3⟩:=hg.ahI hE;have plain:Grew base U w m G m {G with E:=E} E:=⟨d1,d2,rfl,rfl,λ_ _ h=>h,λ_ _ _=>rfl⟩
 have hro:=d3 hq;cases ct with
 |int k=>
  simp only[Ut,bK,hx,Acc.run] at h;cases ha:asInt k x with
  |none=>simp[ha,Acc.run] at h
  |some n=>simp only[ha,Acc.run,je,lN] at h;obtain⟨rfl,rfl,rfl⟩:=h;refine⟨_,plain, ?_⟩;rw[ahG ha] at hro;simpa[aU] using hro
 |bool=>
  simp only[Ut,RU,hx,Acc.run] at h;cases ha:asBool x with
  |none=>simp[ha,Acc.run] at h
  |some n=>simp only[ha,Acc.run,je,lN] at h;obtain⟨rfl,rfl,rfl⟩:=h;refine⟨_,plain, ?_⟩;rw[afe ha] at hro;simpa[aU] using hro
 |str=>
  simp only[Ut,cStr,hx,Acc.run] at h;cases ha:ala x with
  |none=>simp[ha,Acc.run] at h
  |some n=>simp only[ha,Acc.run,je,lN] at h;obtain⟨rfl,rfl,rfl⟩:=h;refine⟨_,plain, ?_⟩;rw[ahH ha] at hro;simpa[aU] using hro
 |other=>exact(ay h).elim
 |sl s=>
  cases own with
  |false=>
   simp only[Ut,NK,hx,Acc.run] at h;cases ha:awK s x with
   |none=>simp[ha,Acc.run] at h
   |some n=>simp only[ha,Acc.run,je,lN] at h;obtain⟨rfl,rfl,rfl⟩:=h;refine⟨_,plain, ?_⟩;obtain⟨o,rfl⟩:=alh ha;simp only[aU];exact ahA hro
  |true=>
   simp only[Ut,aJh,hx,Acc.run] at h;cases ha:atH s x with
   |none=>simp[ha,Acc.run] at h
   |some n=>simp only[ha,Acc.run] at h;have:=asz ha;subst this;replace h:=aj h;obtain⟨_,m1,l1,h1,h⟩:=h;simp only[run_pure,je,lN] at h;obtain⟨rfl,rfl,rfl⟩:=h;exact ali hg ho hE hq h1
def Ph{H:Heap}{h:View}{x:D}{r:Row}{cs:List Value}{N:List Nat}(q:jE H h (x::r) cs N):∃v cs' N1 N2,cs=v::cs'/\N=N1++N2/\ow H h x v N1/\jE H h r cs' N2:=by simpa[jE] using q
def aeb{N1 N2 E E0:List Nat}(h:(N1++N2++E).Perm E0):(N1++(N2++E)).Perm E0:=by rwa [NI] at h
def ahJ{own:List Nat}{r dst:Nat}{row:Row}:∀{cts:List CT} {fs:List Bool} {j:Nat} {m:Mem} {G:GS} {gs:List Value} {N E:List Nat} (_:Iu base U w m G) (_:∀r,r∈G.out->∃c,get r m=some c)
  (_:(N++E).Perm G.E) (_:jE (dU w) (Gh U w G) (row.drop j) gs N) (_:row.length=j+cts.length) (_:gs.length=cts.length) {vs:List V} {m':Mem} {l l':Log}
  (_:(acM own r dst row j cts fs).run m l=some (vs,m',l')),∃G',Grew base U w m G m' G' E/\dn G'.μ m' (Gh U w G') vs gs
 |[],fs,j,m,G,gs,N,E,hg,ho,hE,hq,hlen,hgl,vs,m',l,l',h=>by simp only[acM,run_pure,je,lN] at h;obtain⟨rfl,rfl,rfl⟩:=h;rw[List.drop_eq_nil_of_le (by simp at hlen;omega)] at hq;simp only[jE] at hq;subst hq;simp at hgl;subst hgl;obtain⟨d1,d2,_⟩:=hg.ahI hE;exact⟨_,⟨d1,d2,rfl,rfl,λ_ _ h=>h,λ_ _ _=>rfl⟩,by simp[dn]⟩
 |ct::cts,fs,j,m,G,gs,N,E,hg,ho,hE,hq,hlen,hgl,vs,m',l,l',h=>by
  cases hd:row.drop j with
  |nil=>have:=congrArg List.length hd;simp at this hlen;omega
  |cons x rest=>obtain⟨hx,hrest⟩:=aok hd;rw[hd] at hq;obtain⟨g,gs',N1,N2,rfl,rfl,q1,q2⟩:=Ph hq;simp only[acM] at h;replace h:=aj h;obtain⟨v,m1,l1,h1,h⟩:=h;replace h:=aj h;obtain⟨vs',m2,l2,h2,h⟩:=h;simp only[run_pure,je,lN] at h;obtain⟨rfl,rfl,rfl⟩:=h;obtain⟨G1,t1,s1⟩:=afg hg ho (aeb hE) hx q1 h1;obtain⟨G2,t2,s2⟩:=ahJ t1.ok (λk hk=>by rw[t1.out] at hk;obtain⟨c,hc⟩:=ho k hk;exact⟨c,t1.old k c hc⟩) (by rw[t1.E]) (by rw[hrest];exact abT t1.le.view q2) (by simp at hlen;omega) (by simpa using hgl) h2;refine⟨G2,t1.trans t2, ?_⟩;simp only[dn];exact⟨g,gs',rfl,t2.le.aU s1,s2⟩
def ZI{att:List Nat}{dst ri:Nat}{row:Row}:∀{cts:List CT} {fs:List Bool} {j:Nat} {m:Mem} {G:GS} {gs:List Value} {N E:List Nat} (_:Iu base U w m G) (_:∀r,r∈G.out->∃c,get r m=some c)
  (_:(N++E).Perm G.E) (_:jE (dU w) (Gh U w G) (row.drop j) gs N) (_:row.length=j+cts.length) (_:gs.length=cts.length) {vs:List V} {m':Mem} {l l':Log}
  (_:(XI att dst ri row j cts fs).run m l=some (vs,m',l')),∃G',Grew base U w m G m' G' E/\dn G'.μ m' (Gh U w G') vs gs
 |[],fs,j,m,G,gs,N,E,hg,ho,hE,hq,hlen,hgl,vs,m',l,l',h=>by simp only[XI,run_pure,je,lN] at h;obtain⟨rfl,rfl,rfl⟩:=h;rw[List.drop_eq_nil_of_le (by simp at hlen;omega)] at hq;simp only[jE] at hq;subst hq;simp at hgl;subst hgl;obtain⟨d1,d2,_⟩:=hg.ahI hE;exact⟨_,⟨d1,d2,rfl,rfl,λ_ _ h=>h,λ_ _ _=>rfl⟩,by simp[dn]⟩
 |ct::cts,fs,j,m,G,gs,N,E,hg,ho,hE,hq,hlen,hgl,vs,m',l,l',h=>by
  cases hd:row.drop j with
  |nil=>have:=congrArg List.length hd;simp at this hlen;omega
  |cons x rest=>obtain⟨hx,hrest⟩:=aok hd;rw[hd] at hq;obtain⟨g,gs',N1,N2,rfl,rfl,q1,q2⟩:=Ph hq;simp only[XI] at h;replace h:=aj h;obtain⟨v,m1,l1,h1,h⟩:=h;replace h:=aj h;obtain⟨vs',m2,l2,h2,h⟩:=h;simp only[run_pure,je,lN] at h;obtain⟨rfl,rfl,rfl⟩:=h;obtain⟨G1,t1,s1⟩:=afg hg ho (aeb hE) hx q1 h1;obtain⟨G2,t2,s2⟩:=ZI t1.ok (λk hk=>by rw[t1.out] at hk;obtain⟨c,hc⟩:=ho k hk;exact⟨c,t1.old k c hc⟩) (by rw[t1.E]) (by rw[hrest];exact abT t1.le.view q2) (by simp at hlen;omega) (by simpa using hgl) h2;refine⟨G2,t1.trans t2, ?_⟩;simp only[dn];exact⟨g,gs',rfl,t2.le.aU s1,s2⟩
def valOf(P:Program)(t:TypeId)(cs:List Value)(g:Value):Prop:=if Us P t=true then g=.agg cs.toArray else cs=[g]
def ahK(P:Program)(H:Heap)(h:View)(t:TypeId)(row:Row)(g:Value)(N:List Nat):Prop:=match ahp P t with
 |some T=>∃b a N1,g=.pointer (some ⟨b,0,none⟩)/\H b=some (.cells a T (0,0))/\jE H h row a.toList N1/\row.length=a.size/\N=b::N1
 |none=>∃cs,valOf P t cs g/\jE H h row cs N/\row.length=cs.length
def alj{P:Program}{H H':Heap}{h h':View}(hl:h.le h'){t:TypeId}{row:Row}{g:Value}{N:List Nat}(hb:∀b,b∈N->H' b=H b)(q:ahK P H h t row g N):ahK P H' h' t row g N:=by
 unfold ahK at q|-;split at q
 ·obtain⟨b,a,N1,h1,h2,h3,h4,rfl⟩:=q;exact⟨b,a,N1,h1,(hb b (by simp)).trans h2,Si hl _ _ _ (λb hx=>hb b (by simp[hx])) h3,h4,rfl⟩
 ·obtain⟨cs,h1,h2,h3⟩:=q;exact⟨cs,h1,Si hl _ _ _ hb h2,h3⟩
def P8{P:Program}{H:Heap}{h:View}{t:TypeId}{row:Row}{g:Value}{N:List Nat}(hp:ahp P t=none):ahK P H h t row g N↔∃cs,valOf P t cs g/\jE H h row cs N/\row.length=cs.length:=by simp only[ahK,hp]
def WT(P:Program)(H:Heap)(h:View):List TypeId->List Row->List Value->List Nat->Prop
 |[],rows,gs,N=>rows=[]/\gs=[]/\N=[]
 |t::ts,rows,gs,N=>∃row rows' g gs' N1 N2,rows=row::rows'/\gs=g::gs'/\N=N1++N2/\ahK P H h t row g N1/\WT P H h ts rows' gs' N2
def VL{P:Program}{H H':Heap}{h h':View}(hl:h.le h'):∀{ts:List TypeId} {rows:List Row} {gs:List Value} {N:List Nat},(∀b,b∈N->H' b=H b)->WT P H h ts rows gs N->WT P H' h' ts rows gs N
 |[],_,_,_,_,q=>q
 |t::ts,_,_,_,hb,⟨row,rows',g,gs',N1,N2,e1,e2,e3,h1,h4⟩=>by subst e3;exact⟨row,rows',g,gs',N1,N2,e1,e2,rfl,alj hl (λb hx=>hb b (by simp[hx])) h1,VL hl (λb hx=>hb b (by simp[hx])) h4⟩
def Sr{P:Program}{t:TypeId}{vs:List V}{v:V}(h:PY P t vs=some v){μ:Nat->Value}{hh:View}{cs:List Value}{g:Value}(hq:dn μ m hh vs cs)(hg:valOf P t cs g):aU μ m hh v g:=by
 unfold PY at h;unfold valOf at hg;cases ha:Us P t with
 |true=>simp only[ha,aK,if_true,je] at h hg;subst h;simp only[aU];exact⟨_,hg,by simpa using hq⟩
 |false=>
  simp only[ha,bn,Bool.false_eq_true,if_false] at h hg;split at h
  ·cases h;obtain⟨g',gs',e,q1,q2⟩:=oI hq;rw[hg] at e;cases e;exact q1
  ·cases h
def akz{res:List Row}{ri:Nat}{row:Row}{rows:List Row}(h:res.drop ri=row::rows):aht res ri=row/\res.drop (ri+1)=rows:=by
 have h1:res[ri]? =some row:=by
  have:(res.drop ri)[0]? =some row:=by rw[h];rfl
  rwa [List.getElem?_drop,Nat.add_zero] at this
 refine⟨by simp[aht,h1], ?_⟩;rw[<-List.drop_drop,h];rfl
def au9{X:Ctx}{att:List Nat}{dst ri:Nat}{row:Row}{t:TypeId}{g:Value}{N E:List Nat}(hg:Iu base U w m G)(ho:∀r,r∈G.out->∃c,get r m=some c)
  (hE:(N++E).Perm G.E) (hq:ahK X.P (dU w) (Gh U w G) t row g N) {v:V} {m':Mem} {l l':Log}
  (h:(asu X att dst ri row t).run m l=some (v,m',l')):∃G',Grew base U w m G m' G' E/\aU G'.μ m' (Gh U w G') v g:=by
 unfold ahK at hq;unfold asu at h;split at hq
 ·rename_i T hT;simp only[hT] at h;obtain⟨b,a,N1,rfl,h1,h2,h3,rfl⟩:=hq;replace h:=aj h;obtain⟨_,m1,l1,k1,h⟩:=h;obtain⟨hlen,rfl,rfl⟩:=eH k1;replace h:=aj h;obtain⟨vc,m2,l2,k2,h⟩:=h;replace h:=aj h;obtain⟨_,m3,l3,k3,h⟩:=h;simp only[run_pure,je,lN] at h;obtain⟨rfl,rfl,rfl⟩:=h;have hlen:=Hy hlen;obtain⟨G1,t1,s1⟩:=ZI (N:=N1) (E:=b::E) hg ho (by refine List.Perm.trans List.perm_middle ?_;exact hE) (by simpa using h2) (by simpa using hlen) (by rw[Array.length_toList,<-h3];exact hlen) k2;obtain⟨G2,t2,s2⟩:=asA t1.ok (λk hk=>by rw[t1.out] at hk;obtain⟨c,hc⟩:=ho k hk;exact⟨c,t1.old k c hc⟩) (by rw[t1.E]) h1 s1 k3;exact⟨G2,t1.trans t2,s2⟩
 ·rename_i hT;simp only[hT] at h;obtain⟨cs,h1,h2,h3⟩:=hq;replace h:=aj h;obtain⟨_,m1,l1,k1,h⟩:=h;obtain⟨hlen,rfl,rfl⟩:=eH k1;replace h:=aj h;obtain⟨vc,m2,l2,k2,h⟩:=h;obtain⟨hv,rfl,rfl⟩:=lD h;have hlen:=Hy hlen;obtain⟨G1,t1,s1⟩:=ZI hg ho hE (by simpa using h2) (by simpa using hlen) (by rw[<-h3];exact hlen) k2;exact⟨G1,t1,Sr hv s1 h1⟩
def alk{X:Ctx}{att:List Nat}{dst:Nat}{res:List Row}:∀{ts:List TypeId} {ri:Nat} {m:Mem} {G:GS} {gs:List Value} {N E:List Nat} (_:Iu base U w m G) (_:∀r,r∈G.out->∃c,get r m=some c)
  (_:(N++E).Perm G.E) (_:WT X.P (dU w) (Gh U w G) ts (res.drop ri) gs N) {vs:List V} {m':Mem} {l l':Log}
  (_:(abK X att dst res ri ts).run m l=some (vs,m',l')),∃G',Grew base U w m G m' G' E/\dn G'.μ m' (Gh U w G') vs gs
 |[],ri,m,G,gs,N,E,hg,ho,hE,hq,vs,m',l,l',h=>by simp only[abK,run_pure,je,lN] at h;obtain⟨rfl,rfl,rfl⟩:=h;obtain⟨_,rfl,rfl⟩:=hq;obtain⟨d1,d2,_⟩:=hg.ahI hE;exact⟨_,⟨d1,d2,rfl,rfl,λ_ _ h=>h,λ_ _ _=>rfl⟩,by simp[dn]⟩
 |t::ts,ri,m,G,gs,N,E,hg,ho,hE,hq,vs,m',l,l',h=>by obtain⟨row,rows',g,gs',N1,N2,e1,rfl,rfl,h1,h4⟩:=hq;obtain⟨hrow,hrest⟩:=akz e1;simp only[abK] at h;replace h:=aj h;obtain⟨v,m3,l3,k3,h⟩:=h;replace h:=aj h;obtain⟨vs',m4,l4,k4,h⟩:=h;simp only[run_pure,je,lN] at h;obtain⟨rfl,rfl,rfl⟩:=h;rw[hrow] at k3;obtain⟨G1,t1,s1⟩:=au9 hg ho (aeb hE) h1 k3;obtain⟨G2,t2,s2⟩:=alk t1.ok (λk hk=>by rw[t1.out] at hk;obtain⟨c,hc⟩:=ho k hk;exact⟨c,t1.old k c hc⟩) (by rw[t1.E]) (by rw[hrest];exact VL t1.le.view (λ_ _=>rfl) h4) k4;refine⟨G2,t1.trans t2, ?_⟩;simp only[dn];exact⟨g,gs',rfl,t2.le.aU s1,s2⟩
mutual
def aA5{H:Heap}{h h':View}:∀(x:D) (v:Value) (N:List Nat),x.pure=true->ow H h x v N->ow H h' x v N
 | .int _ _,_,_,_,q=>by simpa[ow] using q
 | .bool _,_,_,_,q=>by simpa[ow] using q
 | .str _,_,_,_,q=>by simpa[ow] using q
 | .VG,_,_,_,q=>by simpa[ow] using q
 | .sl false s rows,v,N,hp,q=>by simp only[D.pure,List.isEmpty_iff] at hp;subst hp;simp only[ow,ro] at q|-;exact⟨q.1,by obtain⟨a,cap,h1,h2,_⟩:=q.2;exact⟨a,cap,h1,h2,λe=>absurd rfl e⟩⟩
 | .sl true s rows,v,N,hp,q=>by
  simp only[D.pure] at hp;simp only[ow] at q|-;rcases q with q|⟨b,cap,cs,t,N',h1,h2,h3,h4,h5,rfl⟩
  ·exact .inl q
  ·exact .inr ⟨b,cap,cs,t,N',h1,h2,h3,h4,afh s rows _ N' hp h5,rfl⟩
def afh{H:Heap}{h h':View}(s:Nat):∀(rows:List Row) (cs:List Value) (N:List Nat),NM rows=true->iK H h s rows cs N->iK H h' s rows cs N
 |[],_,_,_,q=>by simpa[iK] using q
 |r::rs,cs,N,hp,q=>by simp only[NM,MS] at hp;simp only[iK] at q|-;obtain⟨h1,N1,N2,rfl,h2,h3⟩:=q;exact⟨h1,N1,N2,rfl,Yw r _ N1 hp.1 h2,afh s rs _ N2 hp.2 h3⟩
def Yw{H:Heap}{h h':View}:∀(r:Row) (cs:List Value) (N:List Nat),bg r=true->jE H h r cs N->jE H h' r cs N
 |[],_,_,_,q=>by simpa[jE] using q
 |x::r,cs,N,hp,q=>by simp only[bg,MS] at hp;simp only[jE] at q|-;obtain⟨v,cs',N1,N2,rfl,rfl,h2,h3⟩:=q;exact⟨v,cs',N1,N2,rfl,rfl,aA5 x v N1 hp.1 h2,Yw r cs' N2 hp.2 h3⟩
end
def ahL{P:Program}{H:Heap}{h h':View}:∀{ts:List TypeId} {rows:List Row} {gs:List Value} {N:List Nat},rows.all bg=true->WT P H h ts rows gs N->WT P H h' ts rows gs N
 |[],_,_,_,_,q=>q
 |t::ts,_,_,_,hp,⟨row,rows',g,gs',N1,N2,e1,e2,e3,h1,h4⟩=>by
  subst e1;simp only[List.all_cons,MS] at hp;refine⟨row,rows',g,gs',N1,N2,rfl,e2,e3, ?_,ahL hp.2 h4⟩;unfold ahK at h1|-;split at h1
  ·obtain⟨b,a,M,k1,k2,k3,k4,k5⟩:=h1;exact⟨b,a,M,k1,k2,Yw _ _ _ hp.1 k3,k4,k5⟩
  ·obtain⟨cs,k1,k2,k3⟩:=h1;exact⟨cs,k1,Yw _ _ _ hp.1 k2,k3⟩
end
end Go.Vm
namespace Go.Vm
open Go
section
variable {base:Nat} {U:Nat->Prop} {w w':World} {m:Mem} {G:GS}
def drop_cons{α:Type}{l:List α}{i:Nat}{a:α}{r:List α}(h:l.drop i=a::r):l[i]? =some a/\l.drop (i+1)=r:=by
 refine⟨?_,by rw[<-List.drop_drop,h];rfl⟩;have:(l.drop i)[0]? =some a:=by rw[h];rfl
 rwa [List.getElem?_drop,Nat.add_zero] at this
def aF5(xs:List D):(xs.map V.d).map vD=xs:=by
 induction xs with
 |nil=>rfl
 |cons x xs ih=>simp[vD,ih]
def ahM{m m':Mem}(h:∀k c,get k m=some c->get k m'=some c):∀{rs:List Nat} {cs:List Cell},kinds m rs cs->kinds m' rs cs
 |[],_,q=>q
 |r::rs,_,⟨c,c',cs',h1,h2,h3,h4⟩=>⟨c,c',cs',h1,h r c h2,h3,ahM h h4⟩
def alm{m:Mem}{r:Nat}{c0:Cell}:∀{rs:List Nat} {cs:List Cell},r ∉ rs->kinds m rs cs->kinds (put r c0 m) rs cs
 |[],_,_,q=>q
 |k::rs,_,hr,⟨c,c',cs',h1,h2,h3,h4⟩=>by simp only[List.mem_cons,not_or] at hr;exact⟨c,c',cs',h1,by rw[ng (Ne.symm hr.1)];exact h2,h3,alm hr.2 h4⟩
structure Came(base:Nat)(U:Nat->Prop)(w:World)(m:Mem)(G:GS)(m':Mem)(G':GS)(E:List Nat):Prop where
 ok:Iu base U w m' G'
 le:GLe m G m' G'
 E:G'.E=E
 out:G'.out=[]
def Ux{H:Heap}{h h':View}(hl:h.le h'){cs:List Cell}{gs:List Value}{N:List Nat}(q:cellsB H h cs gs N):cellsB H h' cs gs N:=afb hl (λ_ _=>rfl) q
def ahN{X:Ctx}{dst:Nat}{outs:List Cell}:∀{rs:List Nat} {i:Nat} {m:Mem} {G:GS} {N E:List Nat} (_:Iu base U w m G) (_:rs.Nodup) (_:G.out=rs) (_:kinds m rs (outs.drop i))
  (_:(N++E).Perm G.E) (_:cellsB (dU w) (Gh U w G) (outs.drop i) (rs.map G.μ) N) {x:Unit} {m':Mem} {l l':Log} (_:(ae6 X dst outs i rs).run m l=some (x,m',l')),
  ∃G',Came base U w m G m' G' E
 |[],i,m,G,N,E,hg,hn,ho,hk,hE,hq,x,m',l,l',h=>by simp only[ae6,run_pure,je,lN] at h;obtain⟨_,rfl,rfl⟩:=h;obtain⟨d1,d2,_⟩:=hg.ahI hE;exact⟨_,d1,d2,rfl,ho⟩
 |r::rs,i,m,G,N,E,hg,hn,ho,hk,hE,hq,x,m',l,l',h=>by
  obtain⟨c,c',cs',e1,hc,hsk,hk'⟩:=hk;have hnr:=List.nodup_cons.1 hn;obtain⟨hi,hdrop⟩:=drop_cons e1;rw[e1] at hq;obtain⟨g,gs',N1,N2,eg,rfl,q1,q2⟩:=hq;simp only[RQ,List.cons.injEq] at eg;obtain⟨rfl,rfl⟩:=eg;have hout:∀k,k∈G.out->∃c,get k m=some c:=by
   intro k hkm;rw[ho] at hkm;simp only[List.mem_cons] at hkm;rcases hkm with rfl|hkm
   ·exact⟨c,hc⟩
   ·obtain⟨j,hj⟩:=List.getElem?_of_mem hkm;obtain⟨c2,_,h2,_⟩:=ahF hk' hj;exact⟨c2,h2⟩
  simp only[ae6] at h;replace h:=aj h;obtain⟨c0,m1,l1,h1,h⟩:=h;rw[zD] at h1;cases h1;rw[hc] at h;cases c with
  |dead=>exact hsk.elim
  |qN _ _=>exact hsk.elim
  |box t cs=>
   cases c' with
   |dead=>exact hsk.elim
   |qN _ _=>exact hsk.elim
   |arr _ _ _ _ _=>exact hsk.elim
   |box t' vs=>
    obtain rfl:t=t':=hsk;obtain⟨b,a,xs,N',hμ,hH,hvs,hxl,hrow,rfl⟩:=q1;simp only at h;replace h:=aj h;obtain⟨_,m2,l2,h2,h⟩:=h;obtain⟨hbl,rfl,rfl⟩:=eH h2;replace h:=aj h;obtain⟨vs',m3,l3,h3,h⟩:=h;replace h:=aj h;obtain⟨_,m4,l4,h4,h⟩:=h;rw[P7] at h4;cases h4;have hbx:awO outs i=xs:=by simp only[awO,hi,hvs];exact aF5 xs
    have hbl:xs.length=(RS X.P t).length:=by simp only[awP,hi] at hbl;have:=Hy hbl;rw[hvs,List.length_map] at this;exact this
    rw[hbx] at h3;obtain⟨G1,t1,s1⟩:=ahJ hg hout (N:=N') (E:=b::(N2++E)) (List.Perm.trans (by have:(N'++b::(N2++E)).Perm (b::(N'++(N2++E))):=List.perm_middle;refine this.trans ?_;simp[NI]) hE) (by simpa using hrow) (by simpa using hbl) (by rw[<-hxl];exact hbl) h3;have hc1:=t1.old r _ hc;have aJq:=t1.ok.ndE;rw[t1.E] at aJq;have hset:=t1.ok.set r (.box t vs') G1.μ [b] (N2++E) rs (by simpa using aJq) (λk hk=> .inr (by rw[t1.E];simpa using hk))
     (Iw (λ_ _=>rfl) (λc h=>by rw[hc1] at h;cases h;exact⟨rfl,rfl⟩)) (λ_ _=>rfl)
     (λk hne=>by rw[t1.out,ho];simp[hne]) (λhr=>absurd hr hnr.1)
     (λhv _=>⟨b,a,by rw[t1.μ r _ hc];exact hμ,hH,sJ (Iw (λ_ _=>rfl) (λc h=>by rw[hc1] at h;cases h;exact⟨rfl,rfl⟩)) hv _ _ s1,rfl⟩)
    obtain⟨k1,k2⟩:=hset;obtain⟨G2,f1,f2,f3,f4⟩:=ahN k1 hnr.2 rfl (alm hnr.1 (ahM t1.old (by rw[hdrop];exact hk'))) (N:=N2) (E:=E) (List.Perm.refl _)
     (by
      rw[hdrop];have hmap:rs.map G1.μ=rs.map G.μ:=List.map_congr_left λk hk=>by obtain⟨c2,h2⟩:=hout k (by rw[ho];simp[hk]);exact t1.μ k c2 h2
      simp only[hmap];exact Ux (t1.le.view.trans' k2.view) q2) h
    exact⟨G2,f1,(t1.le.trans k2).trans f2,f3,f4⟩
  |arr fz fl ver s rows=>simp only at h;replace h:=aj h;obtain⟨_,m2,l2,h2,h⟩:=h;exact(ay h2).elim
def awW{h:View}(s:List UInt8):∀(cs:List Value),cs=s.map (λb=>Value.int .u8 b.toNat)->jm h 1 (s.map byteRow) cs:=by
 induction s with
 |nil=>intro cs _;simp[jm]
 |cons b s ih=>intro cs e;subst e;simp only[RQ,jm,byteRow];exact⟨rfl,by simp[jq,ro],ih _ rfl⟩
end
end Go.Vm
namespace Go.Vm
open Go
def Xo(b o j:Nat):(⟨b,o,none⟩:Addr).add j=⟨b,o+j,none⟩:=by
 unfold Addr.add;split
 ·rename_i h;subst h;rfl
 ·rfl
def JR{P:Program}{t:TypeId}(h:I8 P t=true):∃d,P.underlying t=some d:=by
 unfold I8 at h;cases hu:P.underlying t with
 |none=>simp[hu] at h
 |some d=>exact⟨d,rfl⟩
def EJ{P:Program}{t:TypeId}{d:TypeDesc}(h:P.underlying t=some d):∃i,P.info? t=some i:=by
 unfold Program.underlying at h;cases hi:P.info? t with
 |none=>simp[hi] at h
 |some i=>exact⟨i,rfl⟩
def P9{P:Program}{t:TypeId}{i:TypeInfo}(h:P.info? t=some i):qO P t=i.size:=by simp[qO,h]
section
variable {P:Program} {w:World}
def aec{t:TypeId}{d:TypeDesc}(h:P.underlying t=some d)(w:World):(isAgg t).run P w=.ok (Us P t) w:=by unfold isAgg Us;rw[Sem.run_bind,run_underlying h w,h];cases d<;>rfl
def VN{t:TypeId}{b off:Nat}{cs:List Value}{g:Value}(hok:I8 P t=true)(hlen:cs.length=qO P t)(hc:∀j v,cs[j]? =some v->w.cell? ⟨b,off+j,none⟩=some v)(hg:valOf P t cs g):
  (Instr.loadAt t (.pointer (some ⟨b,off,none⟩))).run P w=.ok g w:=by
 obtain⟨d,hd⟩:=JR hok;obtain⟨i,hi⟩:=EJ hd;have hsz:i.size=cs.length:=by rw[hlen,P9 hi]
 unfold Instr.loadAt Instr.sureAddr;simp only[Sem.run_bind,Sem.run_pure,Result.andThen_ok,loadVar,aec hd];unfold valOf at hg;cases ha:Us P t with
 |true=>simp only[ha,if_true] at hg;subst hg;have hl:=run_loadCells_list (P:=P) w ⟨b,off,none⟩ cs (λj v hv=>by rw[Xo];exact hc j v hv);simp[sizeOf,typeInfo,hi,hsz,hl]
 |false=>simp only[ha,Bool.false_eq_true,if_false] at hg;subst hg;have:=hc 0 g rfl;simp only[Nat.add_zero] at this;simp[this]
def afi{t T:TypeId}{b off:Nat}{cur:Array Value}{g:Value}(hok:I8 P t=true)(hH:w.heap[b]? =some (.cells cur T (0,0)))(hlen:g.cells.size=qO P t)(hfit:off+g.cells.size<=cur.size)(h1:∀v∈g.cells.toList,v.oneCell'=true):
  (Instr.storeAt t (.pointer (some ⟨b,off,none⟩)) g).run P w=.ok () (w.setRow b (splice cur.toList off g.cells.toList).toArray):=by
 obtain⟨d,hd⟩:=JR hok;obtain⟨i,hi⟩:=EJ hd;have hsz:g.cells.size=i.size:=by rw[hlen,P9 hi]
 have hst:=run_storeCells_at P b off T g.cells.toList 0 cur w hH (by simpa using hfit) h1;simp only[Nat.add_zero] at hst;unfold Instr.storeAt Instr.sureAddr;simp only[Sem.run_bind,Sem.run_pure,Result.andThen_ok,storeVar,sizeOf,typeInfo,run_program,hi];simp[hsz,hst,splice]
def ZJ{T:TypeId}{f b off o n:Nat}{t:TypeId}(hf:Yt P T f=some (o,n,t))(hn:1<=n):
  (Instr.fieldAt T (.pointer (some ⟨b,off,none⟩)) f).run P w=.ok (.pointer (some ⟨b,off+o,none⟩)) w:=by
 unfold Yt at hf;cases hu:P.underlying T with
 |none=>simp[hu] at hf
 |some d=>
  rw[hu] at hf;cases d with
  |struct fs=>
   simp only at hf;cases hfd:fs[f]? with
   |none=>simp[hfd] at hf
   |some fd=>
    simp only[hfd,je,lN] at hf;obtain⟨rfl,rfl,rfl⟩:=hf;cases hi:P.info? fd.type with
    |none=>simp[qO,hi] at hn
    |some i=>
     have hne:i.size≠0:=by rw[P9 hi] at hn;omega
     unfold Instr.fieldAt;simp[run_underlying hu,hfd,Instr.sureAddr,fieldPlace,sizeOf,typeInfo,hi,hne,Xo]
  |_=>simp at hf
def XL{t e:TypeId}(h:elT P t=some e):P.underlying t=some (.slice e):=by
 unfold elT at h;cases hu:P.underlying t with
 |none=>simp[hu] at h
 |some d=>rw[hu] at h;cases d<;>simp at h;rw[h]
def run_indexAt{t e:TypeId}{k:IntKind}{i:Int}{b o n cap:Nat}(he:elT P t=some e){inf:TypeInfo}(hi:P.info? e=some inf)(h0:0<=i)(hn:i<n):
  (Instr.indexAt t (.slice (some ⟨b,o,none⟩) n cap) (.int k i)).run P w=.ok (.pointer (some ⟨b,o+i.toNat * inf.size,none⟩)) w:=by
 have hu:=XL he;have hc:0<=i/\i<(n:Int):=⟨h0,hn⟩
 unfold Instr.indexAt;simp[asIntOf,run_underlying hu,hc,sizeOf,typeInfo,hi,Xo]
structure Src(P:Program)(size:Nat)(w:World)(y:Value)(m:Nat)(news:List Value):Prop where
 len:(Builtin.lenOf y).run P w=.ok m w
 get:(Builtin.firstCells size m y).run P w=.ok news.toArray w
 lend:(Builtin.lenOf y).run P w.drew=.ok m w.drew
 aJr:(Builtin.firstCells size m y).run P w.drew=.ok news.toArray w.drew
 n:news.length=m * size
 one:∀u∈news,u.oneCell'=true
def Src.slice{size:Nat}{a:Option Addr}{m c:Nat}{news:List Value}(hl:news.length=m * size)(h1:∀u∈news,u.oneCell'=true)
  (h:m≠0->∃b o,a=some ⟨b,o,none⟩/\∀j v,news[j]? =some v->w.cell? ⟨b,o+j,none⟩=some v):Src P size w (.slice a m c) m news:=by
 have key:∀w':World,(∀x,w'.cell? x=w.cell? x)->(Builtin.firstCells size m (.slice a m c)).run P w'=.ok news.toArray w':=by
  intro w' hw
  by_cases hm:m=0
  ·subst hm;have:news=[]:=List.eq_nil_of_length_eq_zero (by simpa using hl);subst this;cases a with
   |none=>simp[Builtin.firstCells]
   |some a=>simp[Builtin.firstCells,loadCells,loadCellsFrom]
  ·obtain⟨b,o,rfl,hc⟩:=h hm;exact run_firstCells_some (P:=P) w' size m ⟨b,o,none⟩ m c news hl (λj v hv=>by rw[Xo,hw];exact hc j v hv)
 exact⟨by simp[Builtin.lenOf],key w (λ_=>rfl),by simp[Builtin.lenOf],key w.drew (λx=>rfl),hl,h1⟩
def Src.string{s:List UInt8}:Src P 1 w (.string ⟨⟨s⟩⟩) s.length (s.map λb=>Value.int .u8 b.toNat):=by
 have hsz:(⟨⟨s⟩⟩:ByteArray).size=s.length:=rfl;have hex:((⟨⟨s⟩⟩:ByteArray).extract 0 s.length)=⟨⟨s⟩⟩:=by rw[<-hsz];apply ByteArray.ext;simp[ByteArray.data_extract]
 have hm:(Array.map (λb:UInt8=>Value.int .u8 (b.toNat:Int)) ⟨s⟩)=(s.map λb=>Value.int .u8 (b.toNat:Int)).toArray:=by apply Array.ext';simp
 refine⟨by simp[Builtin.lenOf,hsz],by simp[Builtin.firstCells,hex,hm],by simp[Builtin.lenOf,hsz],by simp[Builtin.firstCells,hex,hm],by simp, ?_⟩;intro u hu;simp only[List.mem_map] at hu;obtain⟨b,_,rfl⟩:=hu;rfl
def Zf{t ty y e:TypeId}{inf:TypeInfo}{z gy:Value}{m:Nat}{news:List Value}(he:P.underlying t=some (.slice e))(hty:(∃e',P.underlying y=some (.slice e'))\/P.underlying y=some .string)
  (hi:P.info? e=some inf) (hz:inf.zero=some z) (hs:Src P inf.size w gy m news) (hm:m≠0) (h63:m<=140737488355328) (hb:m * inf.bytes<=140737488355328):
  ∃cap,m<=cap/\(Builtin.append_ #[t,y] ty #[.slice none 0 0,gy]).run P w=.ok (.slice (some ⟨w.heap.size,0,none⟩) m cap) (w.drew.alloc (.cells (news.toArray++Builtin.zeroCells z.cells (cap - m)) e)):=by
 have h63':¬(9223372036854775807<(m:Int)):=ak;have h48':¬(281474976710656<Builtin.nextslicecap m 0 * inf.bytes):=by rw[nextslicecap_zero ak];omega
 refine⟨grownCap w m 0 e,grownCap_ge w m 0 e, ?_⟩;rcases hty with⟨e',hd⟩|hd<;>simp[Builtin.append_,run_underlying he,run_underlying hd,sizeOf,typeInfo,zeroValue,hi,hz,hs.len,hm,h63',h48',Question.forced,run_firstCells_none,hs.aJr,newRow,grownCap]
def Zg{t ty y e:TypeId}{inf:TypeInfo}{gy:Value}{news:List Value}(he:P.underlying t=some (.slice e))(hty:(∃e',P.underlying y=some (.slice e'))\/P.underlying y=some .string)
  (hi:P.info? e=some inf) (hs:Src P inf.size w gy 0 news):
  (Builtin.append_ #[t,y] ty #[.slice none 0 0,gy]).run P w=.ok (.slice none 0 0) w:=by
 rcases hty with⟨e',hd⟩|hd<;>simp[Builtin.append_,run_underlying he,run_underlying hd,sizeOf,typeInfo,hi,hs.len,hs.get]
def run_append_fits{t ty y e T:TypeId}{inf:TypeInfo}{gy:Value}{b n m cap:Nat}{cur:Array Value}{news:List Value}(he:P.underlying t=some (.slice e))(hty:(∃e',P.underlying y=some (.slice e'))\/P.underlying y=some .string)
  (hi:P.info? e=some inf) (hs:Src P inf.size w gy m news) (hH:w.heap[b]? =some (.cells cur T (0,0))) (hroom:n+m<=cap) (hc:cur.size=cap * inf.size):
  (Builtin.append_ #[t,y] ty #[.slice (some ⟨b,0,none⟩) n cap,gy]).run P w=.ok (.slice (some ⟨b,0,none⟩) (n+m) cap) (w.setRow b (splice cur.toList (n * inf.size) news).toArray):=by
 have hfit:n * inf.size+0+news.length<=cur.size:=by rw[hs.n,hc,Nat.add_zero,<-Nat.add_mul];exact Nat.mul_le_mul_right _ hroom
 have hst:=run_storeCells_at P b (n * inf.size) T news 0 cur w hH hfit hs.one;simp only[Nat.add_zero] at hst;rcases hty with⟨e',hd⟩|hd<;>simp[Builtin.append_,run_underlying he,run_underlying hd,sizeOf,typeInfo,hi,hs.len,hroom,hs.get,Xo,hst,splice]
def af6{t ty y e:TypeId}{inf:TypeInfo}{z gy:Value}{b n m cap:Nat}{olds news:List Value}(he:P.underlying t=some (.slice e))(hty:(∃e',P.underlying y=some (.slice e'))\/P.underlying y=some .string)
  (hi:P.info? e=some inf) (hz:inf.zero=some z) (hs:Src P inf.size w gy m news) (hl:olds.length=n * inf.size) (ho:∀j v,olds[j]? =some v->w.cell? ⟨b,0+j,none⟩=some v) (hroom:cap<n+m) (h63:n+m<=140737488355328) (hb:(n+m) * inf.bytes<=140737488355328):
  ∃cap',n+m<=cap'/\(Builtin.append_ #[t,y] ty #[.slice (some ⟨b,0,none⟩) n cap,gy]).run P w=.ok (.slice (some ⟨w.heap.size,0,none⟩) (n+m) cap') (w.drew.alloc (.cells ((olds++news).toArray++Builtin.zeroCells z.cells (cap' - (n+m))) e)):=by
 have hn:¬(n+m<=cap):=ak;have h63':¬(9223372036854775807<((n:Int)+(m:Int))):=ak;have h48':¬(281474976710656<Builtin.nextslicecap (n+m) cap * inf.bytes):=by have:=growslice_fits hroom hb;omega
 have hfo:=run_firstCells_some (P:=P) w.drew inf.size n ⟨b,0,none⟩ n cap olds hl (λj v hv=>by rw[Xo];exact ho j v hv);refine⟨grownCap w (n+m) cap e,grownCap_ge w (n+m) cap e, ?_⟩;rcases hty with⟨e',hd⟩|hd<;>simp[Builtin.append_,run_underlying he,run_underlying hd,sizeOf,typeInfo,zeroValue,hi,hz,hs.len,hn,h63',h48',Question.forced,hfo,hs.aJr,newRow,grownCap]<;>
  (congr 2;apply Array.ext';simp[NI])
end
end Go.Vm
