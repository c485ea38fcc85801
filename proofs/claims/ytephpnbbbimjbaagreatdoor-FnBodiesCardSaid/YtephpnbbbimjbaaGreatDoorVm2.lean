import Derived.Orders
import Derived.KernelRfl
import Derived.RowKit3
import Derived.Laws.Cells
import Derived.Laws.Rows
import Derived.Laws.OwnMore
import Derived.Below
import Derived.Laws.Append
import Derived.Laws.AppendOwn
import Derived.Laws.CopyRow
import Derived.Laws.Slices
import Derived.Laws.MakeOwn
import Derived.Laws.BytesString
import Derived.Great.BuildSlice
import Derived.Laws.StructEq
import Derived.Laws.Strings
set_option linter.defProp false
set_option linter.unusedVariables false
set_option linter.unusedSimpArgs false
namespace Go.Vm
def ak{p:Prop}(h:p:=by omega):p:=h
def aG{α:Sort _}(a b:α):cond true a b=a:=cond_true ..
def aQ{α:Sort _}(a b:α):cond false a b=b:=cond_false ..
def jW{α:Type _}(a b:α):(some a=some b)=(a=b):=Option.some.injEq ..
def oI{α:Type _}{β:Type _}(a:α)(b:β)(c:α)(d:β):((a,b)=(c,d))=(a=c/\b=d):=Prod.mk.injEq ..
def zdt{p:Prop}[Decidable p](h:p):decide p=true:=decide_eq_true h
def vG{p:Prop}[Decidable p](h:¬p):decide p=false:=decide_eq_false h
def Dy{n m:Nat}(h:Nat.beq n m=true):n=m:=Nat.eq_of_beq_eq_true h
def wM{α:Type _}{a b:List α}:(a++b).length=a.length+b.length:=List.length_append ..
def NV{α:Type _}{i:Nat}{a:α}{l:List α}:l[i]? =some a↔∃h:i<l.length,l[i]=a:=List.getElem?_eq_some_iff ..
def yS{α:Type _}{a:α}{s:List α}:(a::s).length=s.length+1:=List.length_cons ..
def Qc{α:Type _}(a b c:List α):a++b++c=a++(b++c):=List.append_assoc ..
def GK{α:Type _}{a:α}:[a].length=1:=List.length_singleton ..
def SS{α:Type _}:([]:List α).length=0:=List.length_nil ..
def WW{α:Type _}{l:List α}{i:Nat}{a:α}(h:l[i]? =some a):a∈l:=List.mem_of_getElem? h
def rZ(a b:Bool):((a&&b)=true)=(a=true/\b=true):=Bool.and_eq_true ..
def Nw{α:Type _}{β:Type _}(a:α)(f:α->β):Option.map f (some a)=some (f a):=Option.map_some ..
def zmc{α:Type _}{β:Type _}{f:α->β}{a:α}{l:List α}:List.map f (a::l)=f a::List.map f l:=List.map_cons ..
def Zt(n:Nat):((n:Int)).toNat=n:=Int.toNat_natCast ..
def zca{α:Type _}{a:α}{s t:List α}:a::s++t=a::(s++t):=List.cons_append ..
def zmm{α:Type _}(y:α){a:α}{l:List α}(h:a∈l):a∈y::l:=List.mem_cons_of_mem _ h
def zmf{α:Type _}{a:α}{l:List α}:a∈a::l:=List.mem_cons_self ..
def zlo{α:Type _}{l:List α}:l.length=1↔∃a,l=[a]:=List.length_eq_one_iff ..
def mX{α:Type _}[BEq α][LawfulBEq α]{a b:α}:(a==b)=false↔a≠b:=beq_eq_false_iff_ne ..
def zlt{α:Type _}{i:Nat}{l:List α}:(l.take i).length=min i l.length:=List.length_take ..
inductive D where
 |int (k:IntKind) (n:Int)
 |bool (b:Bool)
 |str (s:List UInt8)
 |Ze
 |sl (own:Bool) (s:Nat) (rows:List (List D))
 deriving Inhabited
abbrev Row:=List D
abbrev aC:=List UInt8
abbrev ay:=List Row
inductive V where
 |d (x:D)
 |nil (s:Nat)
 |own (r ver:Nat)
 |ptr (r off:Nat)
 |FP (r ver i off:Nat)
 |DC (row:Row) (off:Nat)
 |clo (f:Nat) (first caps:List V)
 |agg (cs:List V)
 |Kv (vs:List V)
 |undef
 deriving Inhabited
inductive Cell where
 |box (t:TypeId) (cs:List V)
 |arr (fz fl:Bool) (ver s:Nat) (rows:List Row)
 |dead
 |zY (ver s:Nat) (rows:List Row) (i off:Nat)
 deriving Inhabited
abbrev Mem:=List (Nat×Cell)
abbrev lV:=List (Nat×V)
structure St where
 tm:lV
 mem:Mem
def get{α:Type}(k:Nat):List (Nat×α)->Option α
 |[]=>none
 |(j,x)::l=>bif Nat.beq k j then some x else get k l
def put{α:Type}(k:Nat)(x:α):List (Nat×α)->List (Nat×α)
 |[]=>[(k,x)]
 |(j,y)::l=>bif Nat.beq k j then(k,x)::l else bif Nat.blt k j then(k,x)::(j,y)::l else(j,y)::put k x l
def del{α:Type}(k:Nat):List (Nat×α)->List (Nat×α)
 |[]=>[]
 |(j,y)::l=>bif Nat.beq k j then del k l else(j,y)::del k l
def abK(t:Nat)(tm:lV):V:=match get t tm with|some v=>v|none=> .undef
def alF(dst:Option Nat)(v:V)(tm:lV):lV:=match dst with|some t=>put t v tm|none=>tm
def aCe(dst:Option Nat)(tm:lV):lV:=match dst with|some t=>del t tm|none=>tm
inductive Acc(α:Type):Type 1 where
 |ret (a:α)
 |fail
 |get (k:Nat) (c:Option Cell->Acc α)
 |set (k:Nat) (x:Cell) (c:Acc α)
 |opt {β:Type} (o:Option β) (c:β->Acc α)
 |guard (b:Bool) (c:Acc α)
structure Log where
 r:List Nat
 w:List Nat
def Log.rd(l:Log)(k:Nat):Log:={l with r:=k::l.r}
def Log.wr(l:Log)(k:Nat):Log:={l with w:=k::l.w}
def Log.none:Log:=⟨[],[]⟩
def Acc.bind{α β:Type}:Acc α->(α->Acc β)->Acc β
 | .ret a,f=>f a
 | .fail,_=> .fail
 | .get k c,f=> .get k λx=>(c x).bind f
 | .set k x c,f=> .set k x (c.bind f)
 | .opt o c,f=> .opt o λb=>(c b).bind f
 | .guard b c,f=> .guard b (c.bind f)
def Acc.run{α:Type}:Acc α->Mem->Log->Option (α×Mem×Log)
 | .ret a,m,l=>some (a,m,l)
 | .fail,_,_=>none
 | .get k c,m,l=>(c (Vm.get k m)).run m (l.rd k)
 | .set k x c,m,l=>c.run (put k x m) (l.wr k)
 | .opt o c,m,l=>match o with|some b=>(c b).run m l|none=>none
 | .guard b c,m,l=>match b with|true=>c.run m l|false=>none
inductive CT where
 |int (k:IntKind)|bool|str|sl (s:Nat)|other
 deriving Inhabited
def atd(f:TypeId->Option (List CT)):List TypeId->Option (List CT)
 |[]=>some []
 |t::ts=>match f t,atd f ts with|some a,some b=>some (a++b)|_,_=>none
def cts(P:Program):Nat->TypeId->Option (List CT)
 |0,_=>none
 |n+1,t=>match P.underlying t with
  |some (.int k)=>some [.int k]
  |some .bool=>some [.bool]
  |some .string=>some [.str]
  |some (.slice e)=>match P.info? e with|some i=>some [.sl i.size]|none=>none
  |some (.struct fs)=>atd (cts P n) (fs.toList.map (·.type))
  |some (.array k e)=>atd (cts P n) (List.replicate k e)
  |some (.pointer _)|some (.func ..)=>some [.other]
  |_=>none
def PY(P:Program)(t:TypeId):List CT:=match cts P 8 t with|some l=>l|none=>[.other]
def Vx(P:Program)(t:TypeId):Bool:=match P.underlying t with|some (.struct _)=>true|some (.array ..)=>true|_=>false
def x9(P:Program)(t:TypeId):Nat:=match P.info? t with|some i=>i.size|none=>0
def aoa(P:Program)(t:TypeId):Option TypeId:=match P.underlying t with|some (.pointer T)=>some T|_=>none
def elT(P:Program)(t:TypeId):Option TypeId:=match P.underlying t with|some (.slice e)=>some e|_=>none
def aob:CT->Value->V
 |_,.bool b=> .d (.bool b)
 |_,.int k n=> .d (.int k n)
 |_,.string s=> .d (.str s.data.toList)
 |_,.nilFunc=> .d .Ze
 | .sl s,.slice none 0 0=> .nil s
 |_,_=> .undef
def Tt:List CT->List Value->List V
 |c::cs,v::vs=>aob c v::Tt cs vs
 |[],_::vs=> .undef::Tt [] vs
 |_,[]=>[]
def cv(P:Program)(t:TypeId):Value->V
 | .agg cs=> .agg (Tt (PY P t) cs.toList)
 |v=>match PY P t with|c::_=>aob c v|[]=> .undef
def Tv(P:Program)(t:TypeId):Option (List V):=
 match P.info? t with
 |some i=>match i.zero with
  |some z=>some (Tt (PY P t) z.cells.toList)
  |none=>none
 |none=>none
def V.cells:V->List V
 | .agg cs=>cs
 |v=>[v]
def Tz(P:Program)(t:TypeId)(cs:List V):Option V:=
 bif Vx P t then some (.agg cs) else match cs with|[v]=>some v|_=>none
def asInt(k:IntKind):D->Option Int
 | .int k' n=>bif decide (k'=k) then some n else none
 |_=>none
def asBool:D->Option Bool
 | .bool b=>some b
 |_=>none
def al5:D->Option (List UInt8)
 | .str s=>some s
 |_=>none
def ayA(s:Nat):D->Option (List Row)
 | .sl _ s' rows=>bif Nat.beq s' s then some rows else none
 |_=>none
def aCf(s:Nat):D->Option (List Row)
 | .sl own s' rows=>bif Nat.beq s' s then(match own with|false=>some rows|true=>match rows with|[]=>some []|_::_=>none) else none
 |_=>none
def avj(s:Nat):D->Option (List Row)
 | .sl own s' rows=>match own with|true=>bif Nat.beq s' s then some rows else none|false=>none
 |_=>none
def nth(row:Row)(j:Nat):D:=match row[j]? with|some x=>x|none=> .Ze
def jR(k:IntKind)(row:Row)(j:Nat):Option Int:=asInt k (nth row j)
def al6(row:Row)(j:Nat):Option Bool:=asBool (nth row j)
def cStr(row:Row)(j:Nat):Option (List UInt8):=al5 (nth row j)
def cSl(s:Nat)(row:Row)(j:Nat):Option (List Row):=ayA s (nth row j)
def cRo(s:Nat)(row:Row)(j:Nat):Option (List Row):=aCf s (nth row j)
def aja(s:Nat)(row:Row)(j:Nat):Option (List Row):=avj s (nth row j)
mutual
def D.fz:D->D
 | .int k n=> .int k n
 | .bool b=> .bool b
 | .str s=> .str s
 | .Ze=> .Ze
 | .sl _ s rows=> .sl false s (aB rows)
def aB:List Row->List Row
 |[]=>[]
 |r::rs=>Fh r::aB rs
def Fh:Row->Row
 |[]=>[]
 |x::r=>x.fz::Fh r
end
def roD:D->D
 | .sl _ s rows=> .sl false s rows
 |x=>x
def D.flat:D->Bool
 | .sl ..=>false
 |_=>true
def aj(rows:List Row):Bool:=rows.all λr=>r.all D.flat
def one:V->Bool
 | .d _=>true
 | .nil _=>true
 | .own _ _=>true
 | .ptr _ _=>true
 | .FP ..=>true
 | .DC _ _=>true
 | .clo ..=>true
 |_=>false
mutual
def D.pure:D->Bool
 | .sl own _ rows=>match own with|true=>KP rows|false=>rows.isEmpty
 |_=>true
def KP:List Row->Bool
 |[]=>true
 |r::rs=>dw r && KP rs
def dw:Row->Bool
 |[]=>true
 |x::r=>x.pure && dw r
end
def Qd(strict:Bool):List CT->Row->Nat->(List V->Acc V)->Acc V
 |[],_,_,c=>c []
 | .int k::ts,row,j,c=> .opt (jR k row j) λn=>Qd strict ts row (j+1) λvs=>c (.d (.int k n)::vs)
 | .bool::ts,row,j,c=> .opt (al6 row j) λn=>Qd strict ts row (j+1) λvs=>c (.d (.bool n)::vs)
 | .str::ts,row,j,c=> .opt (cStr row j) λn=>Qd strict ts row (j+1) λvs=>c (.d (.str n)::vs)
 | .sl s::ts,row,j,c=> .opt (bif strict then cRo s row j else cSl s row j) λrs=>Qd strict ts row (j+1) λvs=>c (.d (.sl false s rs)::vs)
 | .other::_,_,_,_=> .fail
structure Adv where
 keep:Nat->Nat->List Nat
 move:Nat->List Nat
 att:Nat->Nat->List Nat
 aKL:Nat->List Nat
 trunc:Nat->Nat->Bool
 look:Nat->List Nat
 zY:Nat->Nat->Bool
structure Ctx where
 P:Program
 TA:Adv
 aeN:Nat->Option (List V->List Cell->Option (List Row×List Cell))
 glob:Nat->Option Row
 aSC:Nat->Bool
abbrev lC:=Nat->List V->List Cell->Option (List Row×List Cell)
def mem?(k:Nat):List Nat->Bool
 |[]=>false
 |j::l=>bif Nat.beq k j then true else mem? k l
def aGq:List CT->Bool
 |[]=>false
 | .sl _::_=>true
 |_::l=>aGq l
def IL(P:Program)(e:TypeId):Bool:= !(aGq (PY P e))
def vw(fl:Bool)(rows:List Row):List Row:=bif fl then rows else aB rows
instance:Monad Acc where
 pure:=.ret
 bind:=.bind
def rd(k:Nat):Acc (Option Cell):=.get k .ret
def wr(k:Nat)(x:Cell):Acc Unit:=.set k x (.ret ())
def ck(b:Bool):Acc Unit:=.guard b (.ret ())
def op'{β:Type}(o:Option β):Acc β:=.opt o .ret
def free(k:Nat):Acc Unit:=do
 match<-rd k with
 |none=>pure ()
 |some _=> .fail
def new(k:Nat)(c:Cell):Acc Unit:=do
 free k
 wr k c
def seen(v:V):Acc (Nat×List Row):=
 match v with
 | .d (.sl _ s rows)=>pure (s,rows)
 | .nil s=>pure (s,[])
 | .own r ver=>do
  match<-rd r with
  |some (.arr _ fl nG s rows)=>do ck (Nat.beq ver nG);pure (s,vw fl rows)
  |_=> .fail
 |_=> .fail
def ahg(fl:Bool)(rows:List Row):Bool:=bif fl then aj rows else true
def toD(v:V):Acc D:=
 match v with
 | .d x=>pure (roD x)
 | .nil s=>pure (.sl true s [])
 | .own r ver=>do
  match<-rd r with
  |some (.arr fz fl nG s rows)=>do
   ck (Nat.beq ver nG)
   match fz with
   |true=>pure (.sl false s (vw fl rows))
   |false=>do
    ck (ahg fl rows)
    wr r .dead
    pure (.sl true s rows)
  |_=> .fail
 |_=> .fail
def WX:List V->Acc Row
 |[]=>pure []
 |v::vs=>do
  let x<-toD v
  let xs<-WX vs
  pure (x::xs)
def splice{α:Type}(l:List α)(off:Nat)(xs:List α):List α:=l.take off++xs++l.drop (off+xs.length)
def part{α:Type}(l:List α)(off n:Nat):List α:=(l.drop off).take n
def idx{α:Type}(l:List α)(i:Int):Option α:=bif decide (0<=i) then l[i.toNat]? else none
def cut{α:Type}(l:List α)(a b:Int):Option (List α):=
 bif decide (0<=a) && decide (a<=b) && decide (b<=l.length) then some ((l.drop a.toNat).take (b.toNat - a.toNat)) else none
def byteRow(b:UInt8):Row:=[.int .u8 b.toNat]
def asByte:Row->Option UInt8
 |[.int .u8 n]=>some (UInt8.ofNat n.toNat)
 |_=>none
def bytesOf:List Row->Option (List UInt8)
 |[]=>some []
 |r::rs=>match asByte r,bytesOf rs with|some b,some bs=>some (b::bs)|_,_=>none
def ev(P:Program)(tm:lV)(t:TypeId):Operand->V
 | .tmp i=>abK i tm
 | .const v=>cv P t v
 | .func f=> .clo f [] []
 | .global _=> .undef
def evG(X:Ctx)(tm:lV)(t:TypeId)(x:Operand):V:=match x with
 | .global g=>match X.glob g with
  |some row=> .DC row 0
  |none=> .undef
 |x=>ev X.P tm t x
def nz(op:BinOp)(b:Int):Bool:=match op with
 | .quo=> !(decide (b=0))
 | .rem=> !(decide (b=0))
 |_=>true
def aHh(op:BinOp)(k:IntKind)(a b:Int):Option V:=
 match op with
 | .add=>some (.d (.int k (k.wrap (a+b))))
 | .sub=>some (.d (.int k (k.wrap (a - b))))
 | .mul=>some (.d (.int k (k.wrap (a * b))))
 | .quo=>some (.d (.int k (k.wrap (a.tdiv b))))
 | .rem=>some (.d (.int k (a.tmod b)))
 | .eql=>some (.d (.bool (a==b)))
 | .neq=>some (.d (.bool (a !=b)))
 | .lss=>some (.d (.bool (decide (a<b))))
 | .leq=>some (.d (.bool (decide (a<=b))))
 | .gtr=>some (.d (.bool (decide (a>b))))
 | .geq=>some (.d (.bool (decide (a>=b))))
 | .and=>some (.d (.int k (k.wrap (BitVec.ofInt k.bits a &&& BitVec.ofInt k.bits b).toNat)))
 | .or=>some (.d (.int k (k.wrap (BitVec.ofInt k.bits a|||BitVec.ofInt k.bits b).toNat)))
 | .xor=>some (.d (.int k (k.wrap (BitVec.ofInt k.bits a ^^^ BitVec.ofInt k.bits b).toNat)))
 |_=>none
def aeO(op:BinOp)(k:IntKind)(a b:Int):Option V:=
 bif decide (b<0) then none else
 match op with
 | .shl=>some (.d (.int k (k.wrap (a * 2 ^(min b.toNat k.bits)))))
 | .shr=>some (.d (.int k (a.fdiv (2 ^(min b.toNat k.bits)))))
 |_=>none
def ate:Nat:=9223372036854775807
def aHi(op:BinOp)(a b:List UInt8):Acc V:=
 match op with
 | .add=> .guard (Nat.ble (a.length+b.length) ate) (.ret (.d (.str (a++b))))
 | .eql=> .ret (.d (.bool (a==b)))
 | .neq=> .ret (.d (.bool !(a==b)))
 | .lss=> .ret (.d (.bool (Op.bytesLess a b)))
 | .leq=> .ret (.d (.bool (Op.bytesLess a b||a==b)))
 | .gtr=> .ret (.d (.bool !(Op.bytesLess a b||a==b)))
 | .geq=> .ret (.d (.bool !(Op.bytesLess a b)))
 |_=> .fail
def aKM(op:BinOp)(a b:Bool):Option V:=
 match op with
 | .eql=>some (.d (.bool (a==b)))
 | .neq=>some (.d (.bool !(a==b)))
 |_=>none
def shiftOp:BinOp->Bool
 | .shl| .shr=>true
 |_=>false
def boolT(P:Program)(t:TypeId):Bool:=match P.underlying t with|some .bool=>true|_=>false
def bin(bt:Bool)(op:BinOp)(x y:V):Acc V:=
 match x,y with
 | .d (.int k a),.d (.int k' b)=>
  match shiftOp op with
  |true=> .opt (aeO op k a b) .ret
  |false=>match decide (k=k') with
   |true=> .guard (nz op b) (.opt (aHh op k a b) .ret)
   |false=> .fail
 | .d (.str a),.d (.str b)=>aHi op a b
 | .d (.bool a),.d (.bool b)=>match bt with
  |true=> .opt (aKM op a b) .ret
  |false=> .fail
 |_,_=> .fail
def atf:V->V->Option Bool
 | .d (.int k a),.d (.int k' b)=>bif decide (k=k') then some (a==b) else none
 | .d (.str a),.d (.str b)=>some (a==b)
 | .d (.bool a),.d (.bool b)=>some (a==b)
 |_,_=>none
def agd(P:Program)(t:TypeId)(v:V):Bool:=match P.underlying t,v with
 |some (.int _),.d (.int _ _)=>true
 |some .string,.d (.str _)=>true
 |some .bool,.d (.bool _)=>true
 |_,_=>false
def sliceT(P:Program)(t:TypeId):Bool:=match P.underlying t with|some (.slice _)=>true|_=>false
def aiC(P:Program):List Field->List V->List V->Option Bool
 |[],_,_=>some true
 |f::fs,xs,ys=>match xs[f.offset]?,ys[f.offset]? with
  | some x, some y => bif agd P f.type x && (f.name != "_") then
    (match atf x y,aiC P fs xs ys with
    |some a,some b=>some (bif a then b else false)
    |_,_=>none) else none
  |_,_=>none
def aKN(P:Program)(t:TypeId)(op:BinOp)(cs ds:List V):Acc V:=do
 ck (!(P.stoodInHeld t) && !(P.eqGuardType P.depth t))
 let fs<-op' (match P.underlying t with|some (.struct fs)=>some fs.toList|_=>none)
 let r<-op' (aiC P fs cs ds)
 match op with
 | .eql=>pure (.d (.bool r))
 | .neq=>pure (.d (.bool !r))
 |_=> .fail
def atg(x:V):Acc Bool:=
 match x with
 | .nil _=>pure true
 | .d (.sl _ _ rows)=>do ck (Nat.ble 1 rows.length);pure false
 | .own r ver=>do
  match<-rd r with
  |some (.arr _ _ nG _ rows)=>do ck (Nat.beq ver nG && Nat.ble 1 rows.length);pure false
  |_=> .fail
 |_=> .fail
def ath(P:Program)(t:TypeId)(op:BinOp)(x:V):Acc V:=do
 ck (sliceT P t)
 let b<-atg x
 match op with
 | .eql=>pure (.d (.bool b))
 | .neq=>pure (.d (.bool !b))
 |_=> .fail
def aHj(P:Program)(t:TypeId)(op:BinOp)(x y:V):Acc V:=match x with
 | .agg cs=>(match y with| .agg ds=>aKN P t op cs ds|_=> .fail)
 |x=>(match y with| .nil _=>ath P t op x|y=>bin (boolT P t) op x y)
def un(op:UnOp)(x:V):Acc V:=
 match op,x with
 | .neg,.d (.int k n)=> .ret (.d (.int k (k.wrap (0 - n))))
 | .not,.d (.bool b)=> .ret (.d (.bool !b))
 |_,_=> .fail
def ayB(c x y:V):Acc V:=
 match c with
 | .d (.bool c)=>match x,y with
  | .d (.bool a),.d (.bool b)=> .ret (.d (.bool (bif c then a else b)))
  |x,y=>match c with
   |true=> .ret x
   |false=> .ret y
 |_=> .fail
def Kz(P:Program)(t:TypeId):Bool:=match P.underlying t with|some _=>true|none=>false
def ayC(P:Program)(t:TypeId)(a:V):Acc V:=do
 ck (Kz P t && Nat.beq (PY P t).length (x9 P t))
 match a with
 | .ptr r off=>do
  match<-rd r with
  |some (.box _ cs)=>do
   ck (Nat.ble (off+x9 P t) cs.length)
   op' (Tz P t (part cs off (x9 P t)))
  |_=> .fail
 | .DC row off=>Qd false (PY P t) row off λvs=>op' (Tz P t vs)
 | .FP r ver i off=>do
  match<-rd r with
  |some (.arr _ _ nG _ rows)=>do
   ck (Nat.beq ver nG)
   let row<-op' rows[i]?
   Qd true (PY P t) row off λvs=>op' (Tz P t vs)
  |_=> .fail
 |_=> .fail
def NW:Nat:=1000000000000000000000000
def Hy(r:Nat):Nat:=NW+r
def ayD(k:Nat):Bool:=Nat.ble NW k
def ayE(P:Program)(t:TypeId)(a:V):Acc V:=do
 ck (Kz P t &&(Nat.beq (x9 P t) 1 && !(Vx P t)))
 let e<-op' (elT P t)
 match a with
 | .FP r ver i off=>do
  match<-rd r with
  |some (.arr false false nG s rows)=>do
   ck (Nat.beq ver nG && Nat.ble (off+1) s)
   let row<-op' rows[i]?
   let rs<-op' (aja (x9 P e) row off)
   ck (aj rs)
   new (Hy r) (.arr false true 0 (x9 P e) rs)
   wr r (.zY ver s rows i off)
   pure (.own (Hy r) 0)
  |_=> .fail
 |_=> .fail
def aoc(k:Nat):Acc Unit:=match ayD k with
 |false=>pure ()
 |true=>do
  match<-rd (k - NW) with
  |some (.zY ver s rows i off)=>do
   match<-rd k with
   |some (.arr false true 0 e rs)=>do
    ck (aj rs)
    let row<-op' rows[i]?
    wr k .dead
    wr (k - NW) (.arr false false ver s (rows.set i (splice row off [.sl true e rs])))
   |_=>pure ()
  |_=>pure ()
def aiD(a:V):Acc Unit:=match a with
 | .own k _=>aoc k
 | .FP k _ _ _=>aoc k
 |_=>pure ()
def ati(P:Program)(t:TypeId)(a x:V):Acc Unit:=do
 ck (Kz P t)
 ck (Nat.beq x.cells.length (x9 P t))
 ck (x.cells.all one)
 match a with
 | .ptr r off=>do
  match<-rd r with
  |some (.box T cs)=>do
   ck (Nat.ble (off+x9 P t) cs.length)
   wr r (.box T (splice cs off x.cells))
  |_=> .fail
 | .FP r ver i off=>do
  let xs<-WX x.cells
  match<-rd r with
  |some (.arr false fl nG s rows)=>do
   ck (Nat.beq ver nG)
   ck (Nat.ble (off+x9 P t) s)
   let row<-op' rows[i]?
   wr r (.arr false fl ver s (rows.set i (splice row off xs)))
  |some (.zY nG s rows i' off')=>do
   ck (Nat.beq ver nG &&(Nat.beq i i' &&(Nat.beq off off' && Nat.beq xs.length 1)))
   let row<-op' rows[i']?
   wr r (.arr false false ver s (rows.set i' (splice row off' xs)))
  |_=> .fail
 |_=> .fail
def X5(P:Program)(T:TypeId)(f:Nat):Option (Nat×Nat×TypeId):=
 match P.underlying T with
 |some (.struct fs)=>match fs[f]? with
  |some fd=>some (fd.offset,x9 P fd.type,fd.type)
  |none=>none
 |_=>none
def adI(P:Program)(T:TypeId)(a:V)(f:Nat):Acc V:=do
 let(o,n,_)<-op' (X5 P T f)
 ck (Nat.ble 1 n)
 match a with
 | .ptr r off=>pure (.ptr r (off+o))
 | .DC row off=>pure (.DC row (off+o))
 | .FP r ver i off=>pure (.FP r ver i (off+o))
 |_=> .fail
def atj(P:Program)(T:TypeId)(x:V)(f:Nat):Acc V:=do
 let(o,n,t)<-op' (X5 P T f)
 match x with
 | .agg cs=>do
  ck (Nat.ble (o+n) cs.length)
  ck (Kz P t)
  op' (Tz P t (part cs o n))
 |_=> .fail
def adJ(P:Program)(t:TypeId)(x i:V):Acc V:=do
 let e<-op' (elT P t)
 match i with
 | .d (.int _ i)=>
  match x with
  | .d (.sl _ s rows)=>do
   ck (Nat.beq s (x9 P e))
   ck (Kz P e)
   let row<-op' (idx rows i)
   pure (.DC row 0)
  | .own r ver=>do
   match<-rd r with
   |some (.arr fz fl nG s rows)=>do
    ck (Nat.beq ver nG)
    ck (Nat.beq s (x9 P e))
    ck (Kz P e)
    match fz with
    |true=>do
     let row<-op' (idx (vw fl rows) i)
     pure (.DC row 0)
    |false=>do
     let _<-op' (idx rows i)
     pure (.FP r ver i.toNat 0)
   |some (.zY nG s rows _ _)=>do
    ck (Nat.beq ver nG)
    ck (Nat.beq s (x9 P e))
    ck (Kz P e)
    let _<-op' (idx rows i)
    pure (.FP r ver i.toNat 0)
   |_=> .fail
  |_=> .fail
 |_=> .fail
def arT(P:Program)(t:TypeId):Option (Nat×TypeId):=match P.underlying t with|some (.array n e)=>some (n,e)|_=>none
def apQ(P:Program)(n:Nat)(e:TypeId)(x i:V):Acc V:=
 match i with
 | .d (.int _ i)=>do
  ck (Kz P e)
  ck (decide (0<=i) && decide (i<(n:Int)))
  match x with
  | .DC row off=>pure (.DC row (off+i.toNat * x9 P e))
  | .ptr r off=>pure (.ptr r (off+i.toNat * x9 P e))
  |_=> .fail
 |_=> .fail
def adK(P:Program)(t:TypeId)(x i:V):Acc V:=match arT P t with
 |some (n,e)=>apQ P n e x i
 |none=>adJ P t x i
def al7:List V->Option Row
 |[]=>some []
 | .d x::vs=>match al7 vs with|some r=>some (x::r)|none=>none
 |_::_=>none
def ajb(c:CT)(row:Row)(i:Nat):Acc V:=match c with
 | .int k=> .opt (jR k row i) λn=> .ret (.d (.int k n))
 | .bool=> .opt (al6 row i) λb=> .ret (.d (.bool b))
 | .str=> .opt (cStr row i) λs=> .ret (.d (.str s))
 |_=> .fail
def atl(P:Program)(t:TypeId)(x i:V):Acc V:=
 match P.underlying t,x,i with
 |some .string,.d (.str s),.d (.int _ i)=> .opt (idx s i) λb=> .ret (.d (.int .u8 b.toNat))
 |some (.array n e),.agg cs,.d (.int _ i)=>do
  ck (Nat.beq (x9 P e) 1 &&(Nat.beq cs.length n &&(Kz P e && !(Vx P e))))
  ck (decide (0<=i) && decide (i<(n:Int)))
  let row<-op' (al7 cs)
  ajb (match PY P e with|[c]=>c|_=> .other) row i.toNat
 |_,_,_=> .fail
def lenV(x:V):Acc V:=
 match x with
 | .d (.str s)=> .ret (.d (.int .i64 s.length))
 | .own r ver=>do
  match<-rd r with
  |some (.arr _ _ nG _ rows)=>do ck (Nat.beq ver nG);pure (.d (.int .i64 rows.length))
  |_=> .fail
 | .d (.sl _ _ rows)=> .ret (.d (.int .i64 rows.length))
 | .nil _=> .ret (.d (.int .i64 0))
 |_=> .fail
def ahh:Nat:=140737488355328
def adL(P:Program)(e:TypeId):Nat:=match P.info? e with|some i=>i.bytes|none=>ahh
def tail(P:Program)(e:TypeId)(y:V):Acc (List Row):=
 match y with
 | .d (.str s)=>do
  ck (Nat.beq (x9 P e) 1)
  pure (s.map byteRow)
 | .d (.sl _ s rows)=>do
  ck (Nat.beq s (x9 P e))
  pure (vw (IL P e) rows)
 | .nil _=>pure []
 | .own r ver=>do
  match<-rd r with
  |some (.arr fz fl nG s rows)=>do
   ck (Nat.beq ver nG)
   ck (Nat.beq s (x9 P e))
   match IL P e with
   |true=>do
    ck (fl||fz)
    pure rows
   |false=>do
    ck (!fl)
    match fz with
    |true=>pure (aB rows)
    |false=>do
     wr r .dead
     pure rows
  |_=> .fail
 |_=> .fail
def aod(P:Program)(dst:Nat)(t ty:TypeId)(x y:V):Acc V:=do
 let e<-op' (elT P t)
 ck (Nat.ble 1 (x9 P e))
 ck (match P.underlying ty with|some (.slice _)=>true|some .string=>true|_=>false)
 let z<-op' (Tv P e)
 ck (Nat.beq z.length (x9 P e))
 let ys<-tail P e y
 match x with
 | .nil _=>do
  ck (Nat.ble (ys.length * adL P e) ahh)
  ck (Nat.ble ys.length ahh)
  new dst (.arr false (IL P e) 0 (x9 P e) ys)
  pure (.own dst 0)
 | .own r ver=>do
  match<-rd r with
  |some (.arr false fl nG s rows)=>do
   ck (Nat.beq ver nG)
   ck (Nat.beq s (x9 P e))
   ck (match fl,IL P e with|true,true=>true|false,false=>true|_,_=>false)
   ck (Nat.ble ((rows.length+ys.length) * adL P e) ahh)
   ck (Nat.ble (rows.length+ys.length) ahh)
   wr r (.arr false fl (ver+1) s (rows++ys))
   pure (.own r (ver+1))
  |_=> .fail
 |_=> .fail
def aiE:V->V->Bool
 | .own r v,.own r' v'=>Nat.beq r r' && Nat.beq v v'
 |_,_=>false
def atm(P:Program)(dst:Nat)(t ty:TypeId)(x:V):Acc V:=do
 let e<-op' (elT P t)
 ck (Nat.ble 1 (x9 P e))
 ck (sliceT P ty)
 let z<-op' (Tv P e)
 ck (Nat.beq z.length (x9 P e))
 match x with
 | .own r ver=>do
  match<-rd r with
  |some (.arr false false nG s rows)=>do
   ck (Nat.beq ver nG && Nat.beq s (x9 P e))
   ck (Nat.ble ((rows.length+rows.length) * adL P e) ahh && Nat.ble (rows.length+rows.length) ahh)
   free dst
   wr r .dead
   wr dst .dead
   pure (.d (.sl false s (aB rows++aB rows)))
  |_=> .fail
 |_=> .fail
def bound(o:Option V)(d:Int):Acc Int:=match o with
 |none=> .ret d
 |some (.d (.int _ n))=> .ret n
 |some _=> .fail
def atn(P:Program)(t:TypeId)(x:V)(lo hi:Option V):Acc V:=
 match x with
 | .d (.str s)=>do
  ck (match P.underlying t with|some .string=>true|_=>false)
  let l<-bound lo 0
  let h<-bound hi s.length
  let s'<-op' (cut s l h)
  pure (.d (.str s'))
 |_=>do
  let e<-op' (elT P t)
  ck (Kz P e)
  let(s,rows)<-seen x
  ck (Nat.beq s (x9 P e))
  let l<-bound lo 0
  let h<-bound hi rows.length
  let rows'<-op' (cut rows l h)
  match x with
  | .own r ver=>do
   match<-rd r with
   |some (.arr _ fl nG s rows)=>do
    ck (Nat.beq ver nG)
    wr r (.arr true fl ver s rows)
    pure (.d (.sl false s rows'))
   |_=> .fail
  |_=>pure (.d (.sl false s rows'))
def aoe(P:Program)(t:TypeId)(x:V)(lo hi:Option V):Acc V:=
 match x with
 | .DC row off=>do
  let(n,e)<-op' (arT P t)
  ck (Kz P e)
  ck (Nat.beq (x9 P e) 1 &&(Nat.beq off 0 && Nat.beq row.length n))
  match lo,hi with
  |none,none=>pure (.d (.sl false 1 (row.map λx=>[x])))
  |_,_=> .fail
 |x=>atn P t x lo hi
def ato(P:Program)(t:TypeId)(x:V)(hi:Option V):Acc V:=do
 let e<-op' (elT P t)
 ck (Kz P e)
 match x with
 | .own r ver=>do
  match<-rd r with
  |some (.arr false fl nG s rows)=>do
   ck (Nat.beq ver nG)
   ck (Nat.beq s (x9 P e))
   let h<-bound hi rows.length
   ck (decide (0<=h) && decide (h<=(rows.length:Int)))
   wr r (.arr false fl (ver+1) s (rows.take h.toNat))
   pure (.own r (ver+1))
  |_=> .fail
 |_=> .fail
def aGr(P:Program)(t:TypeId)(x lo:V):Acc V:=.fail
def yD(P:Program)(T:TypeId)(tm:lV):List (Nat×Operand)->List V->Acc (List V)
 |[],cs=>pure cs
 |(f,x)::ps,cs=>do
  let(o,n,t)<-op' (X5 P T f)
  let v:=ev P tm t x
  ck (Nat.beq v.cells.length n)
  ck (v.cells.all one)
  ck (Nat.ble (o+n) cs.length)
  yD P T tm ps (splice cs o v.cells)
def apR(P:Program)(T:TypeId):Bool:=match P.underlying T with
 |some (.struct fs)=>fs.toList.all λf=>match P.info? f.type with|some _=>true|none=>false
 |_=>false
def uY(P:Program)(e:TypeId)(tm:lV):List (Nat×Operand)->List V->Acc (List V)
 |[],cs=>pure cs
 |(i,x)::ps,cs=>do
  let v:=ev P tm e x
  ck (Nat.beq v.cells.length (x9 P e))
  ck (v.cells.all one)
  ck (Nat.ble (i * x9 P e+x9 P e) cs.length)
  uY P e tm ps (splice cs (i * x9 P e) v.cells)
def aof(P:Program)(T:TypeId)(tm:lV)(ps:List (Nat×Operand)):Acc V:=do
 ck (apR P T)
 let z<-op' (Tv P T)
 let cs<-yD P T tm ps z
 pure (.agg cs)
def atp(P:Program)(T e:TypeId)(tm:lV)(ps:List (Nat×Operand)):Acc V:=do
 ck (Kz P e)
 let z<-op' (Tv P T)
 let cs<-uY P e tm ps z
 pure (.agg cs)
def aog(P:Program)(T:TypeId)(tm:lV)(ps:List (Nat×Operand)):Acc V:=match arT P T with
 |some (_,e)=>atp P T e tm ps
 |none=>aof P T tm ps
def yE(P:Program)(e:TypeId)(tm:lV):Nat->List (Nat×Operand)->Acc (List Row)
 |_,[]=>pure []
 |k,(i,x)::ps=>do
  ck (Nat.beq i k)
  let v:=ev P tm e x
  ck (Nat.beq v.cells.length (x9 P e))
  let row<-WX v.cells
  let rows<-yE P e tm (k+1) ps
  pure (row::rows)
def VF(P:Program)(dst:Nat)(t:TypeId)(n:Nat)(tm:lV)(ps:List (Nat×Operand)):Acc V:=do
 let e<-op' (elT P t)
 ck (Nat.ble 1 (x9 P e))
 ck (Nat.beq ps.length n)
 ck (Nat.ble (n * x9 P e) 16777216)
 let _<-op' (Tv P e)
 let rows<-yE P e tm 0 ps
 new dst (.arr false (IL P e) 0 (x9 P e) rows)
 pure (.own dst 0)
def ajc(P:Program)(src dst:TypeId)(x:V):Acc V:=
 match P.underlying src,P.underlying dst with
 |some (.int _),some (.int k)=>match x with
  | .d (.int _ n)=> .ret (.d (.int k (k.wrap n)))
  |_=> .fail
 |some .string,some .string=>match x with
  | .d (.str s)=> .ret (.d (.str s))
  |_=> .fail
 |some (.slice e),some .string=>do
  ck (match P.underlying e with|some (.int .u8)=>true|_=>false)
  let(s,rows)<-seen x
  ck (Nat.beq s 1)
  let b<-op' (bytesOf rows)
  pure (.d (.str b))
 |_,_=> .fail
def tV:Nat:=100000
def atq(r:Nat)(l:List Nat):List Nat:=bif mem? r l then l else l++[r]
mutual
def awV(I:List Nat):V->List Nat
 | .ptr r _=>atq r I
 | .clo _ a b=>al8 (al8 I a) b
 | .agg cs=>al8 I cs
 |_=>I
def al8(I:List Nat):List V->List Nat
 |[]=>I
 |v::vs=>al8 (awV I v) vs
end
def NY(A:Adv)(f i:Nat):Nat:=bif mem? i (A.move f) then 1 else bif mem? i (A.look f) then 4 else 0
def TB(A:Adv)(f:Nat):Nat->List Nat->List V->List Nat
 |_,I,[]=>I
 |i,I,v::vs=>TB A f (i+1) (match NY A f i,v with
  |4,_=>I
  |_,v=>awV I v) vs
def idxOf(r:Nat):Nat->List Nat->Option Nat
 |_,[]=>none
 |i,j::l=>bif Nat.beq r j then some i else idxOf r (i+1) l
def WY(A:Adv)(f:Nat):Nat->List V->Acc (List V)
 |_,[]=>pure []
 |i,v::vs=>do
  let v<-(match NY A f i with
   |1=>do
    let x<-toD v
    pure (.d x)
   |_=>pure v:Acc V)
  let vs<-WY A f (i+1) vs
  pure (v::vs)
mutual
def lend(imp:List Nat):V->Acc (V×List Nat)
 | .d x=>pure (.d (roD x),[])
 | .nil s=>pure (.d (.sl false s []),[])
 | .own r ver=>do
  match<-rd r with
  |some (.arr fz fl nG s rows)=>do
   ck (Nat.beq ver nG)
   ck (!(mem? r imp))
   pure (.d (.sl false s (vw fl rows)),bif fz then[] else[r])
  |_=> .fail
 | .ptr r off=>do
  let i<-op' (idxOf r 0 imp)
  pure (.ptr (tV+i) off,[])
 | .DC row off=>pure (.DC row off,[])
 | .clo f a b=>do
  let(a,l)<-ajd imp a
  let(b,l')<-ajd imp b
  pure (.clo f a b,l++l')
 | .agg cs=>do
  let(a,l)<-ajd imp cs
  pure (.agg a,l)
 | .FP ..=> .fail
 | .Kv _=> .fail
 | .undef=> .fail
def ajd(imp:List Nat):List V->Acc (List V×List Nat)
 |[]=>pure ([],[])
 |v::vs=>do
  let(v,l)<-lend imp v
  let(vs,l')<-ajd imp vs
  pure (v::vs,l++l')
end
def WZ(imp:List Nat):List V->Acc (Row×List Nat)
 |[]=>pure ([],[])
 |v::vs=>do
  let(v,l)<-lend imp v
  match v with
  | .d x=>do
   let(r,l')<-WZ imp vs
   pure (x::r,l++l')
  |_=> .fail
def aiF(imp:List Nat)(v:V):Acc (V×List Nat):=
 match v with
 | .ptr r off=>do
  match<-rd r with
  |some (.box _ cs)=>do
   ck (!(mem? r imp))
   let(row,l)<-WZ imp cs
   pure (.DC row off,r::l)
  |_=> .fail
 | .DC row off=>pure (.DC row off,[])
 |_=> .fail
def W9(A:Adv)(imp:List Nat)(f:Nat):Nat->List V->Acc (List V×List Nat)
 |_,[]=>pure ([],[])
 |i,v::vs=>do
  let(v,l)<-(match NY A f i with
   |1=>pure (v,[])
   |4=>aiF imp v
   |_=>lend imp v:Acc (V×List Nat))
  let(vs,l')<-W9 A imp f (i+1) vs
  pure (v::vs,l++l')
def ayF(imp:List Nat)(own:Bool)(v:V):Acc V:=
 match v with
 | .d x=>pure (.d (roD x))
 | .nil s=>pure (.d (.sl own s []))
 | .own r ver=>do
  match<-rd r with
  |some (.arr fz fl nG s rows)=>do
   ck (Nat.beq ver nG)
   ck (!(mem? r imp))
   match own with
   |true=>do
    ck (!fz)
    ck (ahg fl rows)
    wr r .dead
    pure (.d (.sl true s rows))
   |false=>do
    wr r (.arr true fl ver s rows)
    pure (.d (.sl false s (vw fl rows)))
  |_=> .fail
 |_=> .fail
def Zu(imp own:List Nat):Nat->List V->Acc (List V)
 |_,[]=>pure []
 |j,v::vs=>do
  let v<-ayF imp (mem? j own) v
  let vs<-Zu imp own (j+1) vs
  pure (v::vs)
def avk(A:Adv)(imp:List Nat)(c:Option Cell):Acc Cell:=
 match c with
 |some (.box t cs)=>do
  let cs<-Zu imp (A.aKL t) 0 cs
  pure (.box t cs)
 |_=> .fail
def Zv(A:Adv)(imp:List Nat):List Nat->Acc (List Cell)
 |[]=>pure []
 |r::rs=>do
  let c<-rd r
  let c<-avk A imp c
  let cs<-Zv A imp rs
  pure (c::cs)
def keyOf(r j dst:Nat):Nat:=1000000+(r * 100+j) * 10000+dst
def vD:V->D
 | .d x=>x
 |_=> .Ze
def ayG(cs:List Cell)(i:Nat):Row:=match cs[i]? with|some (.box _ vs)=>vs.map vD|_=>[]
def ayH(cs:List Cell)(i n:Nat):Bool:=match cs[i]? with|some (.box _ vs)=>Nat.beq vs.length n|_=>false
def ayI(f:TypeId->List Bool):List TypeId->List Bool
 |[]=>[]
 |t::ts=>f t++ayI f ts
def fls(P:Program):Nat->TypeId->List Bool
 |0,_=>[]
 |n+1,t=>match P.underlying t with
  |some (.slice e)=>[IL P e]
  |some (.struct fs)=>ayI (fls P n) (fs.toList.map (·.type))
  |_=>[false]
def RG(own fl:Bool)(key:Nat)(row:Row)(j:Nat):CT->Acc V
 | .int k=> .opt (jR k row j) λn=> .ret (.d (.int k n))
 | .bool=> .opt (al6 row j) λn=> .ret (.d (.bool n))
 | .str=> .opt (cStr row j) λn=> .ret (.d (.str n))
 | .sl s=>match own with
  |true=> .opt (aja s row j) λrows=>do
   new key (.arr false fl 0 s rows)
   pure (.own key 0)
  |false=> .opt (cSl s row j) λrows=> .ret (.d (.sl false s (vw fl rows)))
 | .other=> .fail
def aeP(own:List Nat)(r dst:Nat)(row:Row):Nat->List CT->List Bool->Acc (List V)
 |_,[],_=>pure []
 |j,ct::l,fs=>do
  let v<-RG (mem? j own) (fs.headD false) (keyOf r j dst) row j ct
  let vs<-aeP own r dst row (j+1) l fs.tail
  pure (v::vs)
def ahi(X:Ctx)(dst:Nat)(out:List Cell):Nat->List Nat->Acc Unit
 |_,[]=>pure ()
 |i,r::rs=>do
  match<-rd r with
  |some (.box t _)=>do
   ck (ayH out i (PY X.P t).length)
   let vs<-aeP (X.TA.aKL t) r dst (ayG out i) 0 (PY X.P t) (fls X.P 8 t)
   wr r (.box t vs)
  |_=> .fail
  ahi X dst out (i+1) rs
def atr(dst c:Nat):Nat:=1000000000000000+dst * 1000+c
def Xa(att:List Nat)(dst ri:Nat)(row:Row):Nat->List CT->List Bool->Acc (List V)
 |_,[],_=>pure []
 |j,ct::l,fs=>do
  let v<-RG (mem? (ri * 20+j) att) (fs.headD false) (atr dst (ri * 20+j)) row j ct
  let vs<-Xa att dst ri row (j+1) l fs.tail
  pure (v::vs)
def atu(X:Ctx)(att:List Nat)(dst ri:Nat)(row:Row)(t:TypeId):Acc V:=match aoa X.P t with
 |some T=>do
  ck (Nat.beq row.length (PY X.P T).length)
  let cs<-Xa [] dst ri row 0 (PY X.P T) (fls X.P 8 T)
  new (atr dst (ri * 20+19)) (.box T cs)
  pure (.ptr (atr dst (ri * 20+19)) 0)
 |none=>do
  ck (Nat.beq row.length (PY X.P t).length)
  let cs<-Xa att dst ri row 0 (PY X.P t) (fls X.P 8 t)
  op' (Tz X.P t cs)
def aje(res:List Row)(ri:Nat):Row:=match res[ri]? with|some r=>r|none=>[]
def adM(X:Ctx)(att:List Nat)(dst:Nat)(res:List Row):Nat->List TypeId->Acc (List V)
 |_,[]=>pure []
 |ri,t::ts=>do
  let v<-atu X att dst ri (aje res ri) t
  let vs<-adM X att dst res (ri+1) ts
  pure (v::vs)
def atv(att:List Nat)(ri:Nat):Nat->List CT->Bool
 |_,[]=>true
 |j,.sl _::l=>mem? (ri * 20+j) att && atv att ri (j+1) l
 |j,_::l=>atv att ri (j+1) l
def abu(P:Program)(att:List Nat):Nat->List TypeId->Bool
 |_,[]=>true
 |ri,t::ts=>atv att ri 0 (PY P t) && abu P att (ri+1) ts
def freeze:List Nat->Acc Unit
 |[]=>pure ()
 |r::rs=>do
  match<-rd r with
  |some (.arr _ fl ver s rows)=>wr r (.arr true fl ver s rows)
  |_=> .fail
  freeze rs
def aeQ(X:Ctx)(K:lC)(fn dst f:Nat)(args:List V):Acc V:=do
 let g<-op' X.P.funcs[f]?
 ck (g.body.isSome && !(g.name == "runtime.NumGoroutine"))
 let imp:=TB X.TA f 0 [] args
 let args<-WY X.TA f 0 args
 let cells<-Zv X.TA imp imp
 let(args,RH)<-W9 X.TA imp f 0 args
 ck (RH.all λr=> !(mem? r imp))
 let out<-op' (K f args cells)
 ck (Nat.beq out.1.length g.resultTypes.size)
 let need:= !(RH.isEmpty) &&(abu X.P (X.TA.att fn dst) 0 g.resultTypes.toList && imp.isEmpty)
 ck (bif need then out.1.all dw else true)
 freeze (bif need then[] else RH)
 ahi X dst out.2 0 imp
 let vs<-adM X (X.TA.att fn dst) dst out.1 0 g.resultTypes.toList
 match vs with
 |[v]=>pure v
 |vs=>pure (.Kv vs)
def aKO(P:Program)(ts:List TypeId)(x:V):Bool:=match ts with
 |[t]=>(match x with
  | .d (.str _)=>(match P.underlying t with|some .string=>true|_=>false)
  |_=>(match P.underlying t with|some (.slice _)=>true|_=>false))
 |_=>false
def zo(P:Program)(tm:lV):List Operand->List TypeId->List V
 |[],_=>[]
 |x::xs,ts=>ev P tm (ts.headD 0) x::zo P tm xs ts.tail
def vop(X:Ctx)(K:lC)(fn:Nat)(tm:lV)(o:Oper):Acc V:=
 let P:=X.P
 let dst:=o.dst.getD 0
 match o.op with
 | .move x=>pure (ev P tm o.type x)
 | .assign x=>pure (ev P tm o.type x)
 | .pick c x y=>ayB (ev P tm o.type c) (ev P tm o.type x) (ev P tm o.type y)
 | .alloc T=>do
  let z<-op' (Tv P T)
  new dst (.box T z)
  pure (.ptr dst 0)
 | .box T x=>do
  let v:=ev P tm T x
  ck (Nat.beq v.cells.length (x9 P T))
  ck (v.cells.all one)
  new dst (.box T v.cells)
  pure (.ptr dst 0)
 | .build T ps=>aog P T tm ps.toList
 | .buildSlice t n ps=>VF P dst t n tm ps.toList
 | .load t a=>match X.TA.zY fn dst with
  |true=>ayE P t (evG X tm 0 a)
  |false=>ayC P t (evG X tm 0 a)
 | .store t a x=>do ati P t (ev P tm 0 a) (ev P tm t x);aiD (ev P tm 0 a);pure .undef
 | .nilCheck x=>match evG X tm o.type x with
  | .ptr r off=>pure (.ptr r off)
  | .DC row off=>pure (.DC row off)
  | .FP r ver i off=>pure (.FP r ver i off)
  |_=> .fail
 | .binOp op t x y t'=>aHj P t op (ev P tm t x) (ev P tm t' y)
 | .unOp op t x=>un op (ev P tm t x)
 | .convert s d x=>ajc P s d (ev P tm s x)
 | .slice t x lo hi none=>match X.TA.trunc fn dst,lo,hi with
  |true,none,hi=>ato P t (ev P tm t x) (hi.map (ev P tm 3))
  |true,some lo,none=>aGr P t (ev P tm t x) (ev P tm 3 lo)
  |_,lo,hi=>aoe P t (evG X tm t x) (lo.map (ev P tm 3)) (hi.map (ev P tm 3))
 | .fieldAddr T x f=>adI P T (ev P tm 0 x) f
 | .field T x f=>atj P T (ev P tm T x) f
 | .indexAddr t x i=>adK P t (evG X tm t x) (ev P tm 3 i)
 | .index t x i=>atl P t (ev P tm t x) (ev P tm 3 i)
 | .extract x i=>match ev P tm 0 x with
  | .Kv vs=>op' vs[i]?
  |_=> .fail
 | .call {callee:=.value f,args,argTypes}=>match ev P tm 0 f with
  | .clo g first caps=>aeQ X K fn dst g (first++zo P tm args.toList argTypes.toList++caps)
  |_=> .fail
 | .call {callee:=.builtin .len,args,argTypes}=>match zo P tm args.toList argTypes.toList with
  |[x]=>do
   ck (aKO P argTypes.toList x)
   let v<-lenV x
   aiD x
   pure v
  |_=> .fail
 | .call {callee:=.builtin .append,args,argTypes}=>match zo P tm args.toList argTypes.toList,argTypes.toList with
  |[x,y],[t,t']=>match aiE x y with
   |true=>atm P dst t t' x
   |false=>aod P dst t t' x y
  |_,_=> .fail
 | .call {callee:=.builtin .max,args,argTypes}=>match zo P tm args.toList argTypes.toList with
  |[.d (.int k x),.d (.int _ y)]=>pure (.d (.int k (bif decide (x<y) then y else x)))
  |_=> .fail
 | .call {callee:=.builtin .min,args,argTypes}=>match zo P tm args.toList argTypes.toList with
  |[.d (.int k x),.d (.int _ y)]=>pure (.d (.int k (bif decide (y<x) then y else x)))
  |_=> .fail
 |_=> .fail
mutual
def refs:V->List Nat
 | .own r _=>[r]
 | .ptr r _=>[r]
 | .FP r _ _ _=>[r]
 | .clo _ a b=>QE a++QE b
 | .agg cs=>QE cs
 | .Kv vs=>QE vs
 |_=>[]
def QE:List V->List Nat
 |[]=>[]
 |v::vs=>refs v++QE vs
end
def ajf(m:Mem)(r:Nat):List Nat:=match get r m with
 |some (.box _ cs)=>QE cs
 |_=>[]
def Qe(k:Nat):Bool:=Nat.ble tV k && Nat.blt k (2 * tV)
def aeR:List Nat->List Nat->List Nat
 |acc,[]=>acc
 |acc,k::ks=>aeR (bif mem? k acc then acc else acc++[k]) ks
def aCg(tm:lV)(m:Mem):List Nat:=
 let l0:=aeR [] (tm.flatMap λx=>refs x.2)
 let l1:=aeR l0 (l0.flatMap (ajf m))
 let l2:=aeR l1 (l1.flatMap (ajf m))
 (aeR l2 (m.map (·.1))).filter λk=> !(Qe k)
def names:List Nat:=[nat_lit 300000,nat_lit 300001,nat_lit 300002,nat_lit 300003,nat_lit 300004,nat_lit 300005,nat_lit 300006,nat_lit 300007,nat_lit 300008,nat_lit 300009,nat_lit 300010,nat_lit 300011,nat_lit 300012,nat_lit 300013,nat_lit 300014,nat_lit 300015,nat_lit 300016,nat_lit 300017,nat_lit 300018,nat_lit 300019,nat_lit 300020,nat_lit 300021,nat_lit 300022,nat_lit 300023,nat_lit 300024,nat_lit 300025,nat_lit 300026,nat_lit 300027,nat_lit 300028,nat_lit 300029,nat_lit 300030,nat_lit 300031,nat_lit 300032,nat_lit 300033,nat_lit 300034,nat_lit 300035,nat_lit 300036,nat_lit 300037,nat_lit 300038,nat_lit 300039,nat_lit 300040,nat_lit 300041,nat_lit 300042,nat_lit 300043,nat_lit 300044,nat_lit 300045,nat_lit 300046,nat_lit 300047,nat_lit 300048,nat_lit 300049,nat_lit 300050,nat_lit 300051,nat_lit 300052,nat_lit 300053,nat_lit 300054,nat_lit 300055,nat_lit 300056,nat_lit 300057,nat_lit 300058,nat_lit 300059,nat_lit 300060,nat_lit 300061,nat_lit 300062,nat_lit 300063]
def aCh:List Nat->List Nat->List (Nat×Nat)
 |n::ns,k::l=>(k,n)::aCh ns l
 |_,_=>[]
def ren(L:List (Nat×Nat))(k:Nat):Nat:=match get k L with
 |some j=>j
 |none=>k
mutual
def Wv(L:List (Nat×Nat)):V->V
 | .d x=> .d x
 | .nil s=> .nil s
 | .own r ver=> .own (ren L r) ver
 | .ptr r off=> .ptr (ren L r) off
 | .FP r ver i off=> .FP (ren L r) ver i off
 | .DC row off=> .DC row off
 | .clo f a b=> .clo f (Zw L a) (Zw L b)
 | .agg cs=> .agg (Zw L cs)
 | .Kv vs=> .Kv (Zw L vs)
 | .undef=> .undef
def Zw(L:List (Nat×Nat)):List V->List V
 |[]=>[]
 |v::vs=>Wv L v::Zw L vs
end
def alG(L:List (Nat×Nat)):Cell->Cell
 | .box t cs=> .box t (Zw L cs)
 | .arr fz fl ver s rows=> .arr fz fl ver s rows
 | .dead=> .dead
 | .zY ver s rows i off=> .zY ver s rows i off
def Uy(L:List (Nat×Nat)):Mem->Mem
 |[]=>[]
 |(k,c)::m=>put (ren L k) (alG L c) (Uy L m)
def ajg(L:List (Nat×Nat)):lV->lV
 |[]=>[]
 |(t,v)::tm=>(t,Wv L v)::ajg L tm
def nodupB:List Nat->Bool
 |[]=>true
 |k::l=> !(mem? k l) && nodupB l
def ayJ(m:Mem):Bool:=m.all λx=>match x.2 with| .zY ..=>false|_=>true
def aeS(L:List (Nat×Nat))(m:Mem):Bool:=nodupB ((m.map (·.1)).map (ren L)) &&((m.map (·.1)).all λk=>bif Qe k then Nat.beq (ren L k) k else true) && ayJ m
def aoh(L:List (Nat×Nat))(S:St):St:=match aeS L S.mem with
 |true=>⟨ajg L S.tm,Uy L S.mem⟩
 |false=>S
def canon(S:St):St:=match aCg S.tm S.mem with
 |[]=>S
 |k::o=>aoh (aCh names (k::o)) S
mutual
def adN(m:Mem):V->V
 | .d x=> .d x
 | .nil s=> .nil s
 | .own r ver=>match get r m with
  |some (.arr _ _ nG _ _)=>bif Nat.beq ver nG then .own r 0 else .undef
  |_=> .undef
 | .ptr r off=>match get r m with
  |some (.box _ _)=> .ptr r off
  |_=> .undef
 | .FP r ver i off=>match get r m with
  |some (.arr _ _ nG _ _)=>bif Nat.beq ver nG then .FP r 0 i off else .undef
  |_=> .undef
 | .DC row off=> .DC row off
 | .clo f a b=> .clo f (ab5 m a) (ab5 m b)
 | .agg cs=> .agg (ab5 m cs)
 | .Kv vs=> .Kv (ab5 m vs)
 | .undef=> .undef
def ab5(m:Mem):List V->List V
 |[]=>[]
 |v::vs=>adN m v::ab5 m vs
end
def NZ(m:Mem):Cell->Cell
 | .box t cs=> .box t (ab5 m cs)
 | .arr fz fl _ s rows=> .arr fz fl 0 s rows
 | .dead=> .dead
 | .zY ver s rows i off=> .zY ver s rows i off
def adO(m:Mem)(tm:lV):List Nat->lV
 |[]=>[]
 |t::ts=>match get t tm with
  |some v=>(t,adN m v)::adO m tm ts
  |none=>adO m tm ts
def adP:List Nat->List Nat->List Nat
 |[],l=>l
 |a::as,l=>bif mem? a l then adP as l else adP as (a::l)
def reach(m:Mem):Nat->List Nat->List Nat
 |0,l=>l
 |n+1,l=>reach m n (adP (l.flatMap (ajf m)) l)
def roots(tm:lV)(m:Mem):List Nat:=
 adP (tm.flatMap λx=>refs x.2) ((m.map (·.1)).filter Qe)
def yc(all:Mem)(R:List Nat):Mem->Mem
 |[]=>[]
 |(k,c)::m=>match c with
  | .dead=>yc all R m
  | .zY ..=>yc all R m
  |c=>bif mem? k R then(k,NZ all c)::yc all R m else yc all R m
def closed(R:List Nat)(m:Mem):Bool:=m.all λx=>match x.2 with
 | .box _ cs=>(QE cs).all λr=>mem? r R
 |_=>true
def aKP(m:Mem):Bool:=m.all λx=>match x.2 with
 | .arr _ _ ver _ _=>bif Qe x.1 then Nat.beq ver 0 else true
 | .dead=> !(Qe x.1)
 | .zY ..=> !(Qe x.1)
 |_=>true
def sortedK:Mem->Bool
 |[]=>true
 |(k,_)::m=>match m with
  |[]=>true
  |(j,_)::_=>Nat.blt k j && sortedK m
def adQ(ts:List Nat)(S:St):Option St:=
 let tm:=adO S.mem S.tm ts
 let R:=reach S.mem 3 (roots tm S.mem)
 let m:=yc S.mem R S.mem
 bif closed R m &&(aKP S.mem && sortedK S.mem) then some ⟨tm,m⟩ else none
def prune(ts:List Nat)(S:St):Option St:=match adQ ts S with
 |some S'=>some (canon S')
 |none=>none
def FQ(ops:Array Oper)(tm:lV)(o:Oper):Option (Bool×lV):=
 match o.guard with
 |none=>some (true,tm)
 |some (j,want)=>match ops[j]? with
  |some oj=>match oj.dst with
   |some d=>match abK d tm with
    | .d (.bool b)=>match b with
     |true=>some (want,put d (.d (.bool true)) tm)
     |false=>some (!want,put d (.d (.bool false)) tm)
    | .Kv vs=>match vs with
     |[]=>some (false,put d (.Kv []) tm)
     |_::_=>none
    |_=>none
   |none=>none
  |none=>none
def Zx(nt:Nat):Option Nat->Bool
 |some d=>Nat.blt d nt
 |none=>true
def Zf(P:Program)(fn:Nat):Nat:=match P.funcs[fn]? with|some g=>g.ntmps|none=>0
def ahj(nt:Nat)(dst:Option Nat)(tm:lV):lV:=bif Zx nt dst then alF dst (.Kv []) tm else aCe dst tm
def D5(X:Ctx)(K:lC)(fn:Nat)(ops:Array Oper)(i:Nat)(S:St):Option (St×Log):=
 match ops[i]? with
 |none=>none
 |some o=>match FQ ops S.tm o with
  |none=>none
  |some (false,tm)=>some (⟨ahj (Zf X.P fn) o.dst tm,S.mem⟩,.none)
  |some (true,tm)=>match(vop X K fn tm o).run S.mem .none with
   |none=>none
   |some (v,m,l)=>bif Zx (Zf X.P fn) o.dst then some (⟨alF o.dst v tm,m⟩,l) else none
def MJ(X:Ctx)(K:lC)(fn:Nat)(ops:Array Oper):List Nat->St->List (Nat×Log)->Option (St×List (Nat×Log))
 |[],S,L=>some (S,L)
 |i::is,S,L=>match D5 X K fn ops i S with
  |none=>none
  |some (S',l)=>MJ X K fn ops is S' ((i,l)::L)
def aCi(a b:List Nat):Bool:=a.all λk=> !(mem? k b)
def Log.apart(a b:Log):Bool:=aCi a.w b.r && aCi a.w b.w && aCi a.r b.w
def ordered(bef:Array Nat)(i j:Nat):Bool:=(bef.getD i 0).testBit j
def Zy(ops:Array Oper)(bef:Array Nat):List (Nat×Log)->Bool
 |[]=>true
 |(i,l)::L=>(L.all fun(j,l')=>ordered bef i j||(l.apart l' &&(match ops[i]?,ops[j]? with
   |some a,some b=>a.apart ops b
   |_,_=>false))) && Zy ops bef L
def Zz:Nat->List Oper->Bool
 |_,[]=>true
 |i,o::l=>(o.after.toList.all λe=> !(Region.binds .any e)||Nat.blt e.on i) && Zz (i+1) l
def backOk(ops:Array Oper):Bool:=Zz 0 ops.toList
def Jv(X:Ctx)(K:lC)(fn id:Nat)(ops:Array Oper)(draw:Bool)(S:St):Option (St×List (Nat×Log)):=MJ X K fn ops (List.range ops.size) S []
def region(X:Ctx)(K:lC)(fn id:Nat)(ops:Array Oper)(draw:Bool)(S:St):Option St:=
 match Jv X K fn id ops draw S with
 |none=>none
 |some (S',L)=>bif(match draw with|false=>true|true=>X.P.follows .mixedOrders &&(backOk ops && Zy ops (Region.before ops) L)) then prune (X.TA.keep fn id) S' else none
inductive Ex where
 |normal
 |exit (id:Nat)
 |ret
noncomputable def lim{α:Type}(f:Nat->Option α):Option α:=
 open Classical in if h:∃a n,f n=some a then some (Classical.choose h) else none
def iter(b:St->Option (Ex×St)):Nat->St->Option (Ex×St)
 |0,_=>none
 |n+1,S=>match b S with
  |some (.normal,S')=>iter b n S'
  |r=>r
noncomputable def ZA(b:St->Option (Ex×St))(S:St):Option (Ex×St):=lim λn=>iter b n S
def ab6(P:Program)(tm:lV)(c:Operand):Option Bool:=match ev P tm 0 c with
 | .d (.bool b)=>some b
 |_=>none
noncomputable def den(X:Ctx)(K:lC)(fn:Nat):Code->St->Option (Ex×St)
 | .skip,S=>some (.normal,S)
 | .region id ops draw,S=>match region X K fn id ops draw S with
  |some S'=>some (.normal,S')
  |none=>none
 | .seq a b,S=>match den X K fn a S with
  |some (.normal,S')=>den X K fn b S'
  |r=>r
 | .cond c a b,S=>match ab6 X.P S.tm c with
  |some true=>den X K fn a S
  |some false=>den X K fn b S
  |none=>none
 | .block id c,S=>match den X K fn c S with
  |some (.exit j,S')=>bif Nat.beq j id then some (.normal,S') else some (.exit j,S')
  |r=>r
 | .loop c,S=>ZA (den X K fn c) S
 | .exit id,S=>some (.exit id,S)
 | .ret,S=>some (.ret,S)
 |_,_=>none
def atw(A:Adv)(f i:Nat)(fl:Bool)(v:V):Acc V:=
 match NY A f i with
 |1=>(match v with
  | .d (.sl true s rows)=>do
   new i (.arr false fl 0 s rows)
   pure (.own i 0)
  | .d x=>pure (.d (roD x))
  |_=> .fail)
 |_=>pure v
def aeT(X:Ctx)(f:Nat):Nat->List TypeId->List V->Acc lV
 |_,_,[]=>pure []
 |i,ts,v::vs=>do
  let v<-atw X.TA f i ((fls X.P 8 (ts.headD 0)).headD false) v
  let r<-aeT X f (i+1) ts.tail vs
  pure ((i,v)::r)
def vC:Nat->List Cell->Mem
 |_,[]=>[]
 |i,c::cs=>(tV+i,c)::vC (i+1) cs
def yg(n:Nat):List Nat:=(List.range n).map (tV+ ·)
def entry(X:Ctx)(f:Nat)(g:Func)(args:List V)(cells:List Cell):Acc lV:=do
 ahi X 9999 cells 0 (yg cells.length)
 aeT X f 0 g.params.toList args
def ajh(T:TypeId)(v:V):Acc Row:=match v with
 | .ptr r off=>do
  match<-rd r with
  |some (.box T' cs)=>do
   ck (Nat.beq T T' && Nat.beq off 0)
   wr r .dead
   WX cs
  |_=> .fail
 |_=> .fail
def aoi(P:Program)(tm:lV)(r:ResultVar)(t:TypeId):Acc Row:=
 match r with
 | .tmp x=>match aoa P t with
  |some T=>ajh T (abK x tm)
  |none=>match Vx P t,abK x tm with
   |true,.agg cs=>WX cs
   |false,.agg _=> .fail
   |false,v=>WX [v]
   |true,_=> .fail
 | .cell a T=>match abK a tm with
  | .ptr r 0=>do
   match<-rd r with
   |some (.box _ cs)=>do
    ck (Nat.beq T t && Nat.beq cs.length (x9 P T) &&(Kz P T &&(Vx P T||Nat.beq cs.length 1)) &&(aoa P t).isNone)
    WX cs
   |_=> .fail
  |_=> .fail
def abv(P:Program)(tm:lV):List ResultVar->List TypeId->Acc (List Row)
 |[],[]=>pure []
 |r::rs,t::ts=>do
  let row<-aoi P tm r t
  let rows<-abv P tm rs ts
  pure (row::rows)
 |_,_=> .fail
def leave(X:Ctx)(g:Func)(n:Nat)(S:St):Option (List Row×List Cell):=
 match(do
  let rows<-abv X.P S.tm g.results.toList g.resultTypes.toList
  let cells<-Zv X.TA (yg n) (yg n)
  pure (rows,cells):Acc (List Row×List Cell)).run S.mem .none with
 |some (r,_,_)=>some r
 |none=>none
noncomputable def body(X:Ctx)(K:lC)(f:Nat)(args:List V)(cells:List Cell):Option (List Row×List Cell):=
 match X.P.funcs[f]? with
 |some g=>match g.body with
  |some c=>bif !(Nat.ble cells.length tV && Nat.ble args.length g.ntmps) then none else match(entry X f g args cells).run (vC 0 cells) .none with
   |some (tm,m,_)=>(match den X K f c ⟨tm,m⟩ with
    |some (.normal,S)=>leave X g cells.length S
    |some (.ret,S)=>leave X g cells.length S
    |_=>none)
   |none=>none
  |none=>none
 |none=>none
noncomputable def ZB(X:Ctx):Nat->lC
 |0,_,_,_=>none
 |n+1,f,args,cells=>match X.aeN f with
  |some p=>p args cells
  |none=>body X (ZB X n) f args cells
noncomputable def call(X:Ctx):lC:=λf args cells=>lim λn=>ZB X n f args cells
abbrev View:=Nat->Nat->Option Value
abbrev Heap:=Nat->Option Obj
def dM(w:World):Heap:=λb=>w.heap[b]?
mutual
def ro(h:View):D->Value->Prop
 | .int k n,v=>v=.int k n
 | .bool b,v=>v=.bool b
 | .str s,v=>v=.string ⟨⟨s⟩⟩
 | .Ze,v=>v=.nilFunc
 | .sl _ s rows,v=>∃a cap,v=.slice a rows.length cap/\rows.length<=cap/\(rows≠[]->∃b o,a=some ⟨b,o,none⟩/\sQ h s rows b o)
def sQ(h:View)(s:Nat):List Row->Nat->Nat->Prop
 |[],_,_=>True
 |r::rs,b,o=>r.length=s/\D6 h r b o/\sQ h s rs b (o+s)
def D6(h:View):Row->Nat->Nat->Prop
 |[],_,_=>True
 |x::r,b,o=>(∃v,h b o=some v/\ro h x v)/\D6 h r b (o+1)
end
mutual
def ow(H:Heap)(h:View):D->Value->List Nat->Prop
 | .int k n,v,N=>v=.int k n/\N=[]
 | .bool b,v,N=>v=.bool b/\N=[]
 | .str s,v,N=>v=.string ⟨⟨s⟩⟩/\N=[]
 | .Ze,v,N=>v=.nilFunc/\N=[]
 | .sl own s rows,v,N=>match own with
  |false=>N=[]/\ro h (.sl false s rows) v
  |true=>(rows=[]/\v=.slice none 0 0/\N=[])\/
   ∃b cap cs t N',v=.slice (some ⟨b,0,none⟩) rows.length cap/\rows.length<=cap/\H b=some (.cells cs t (0,0))/\cs.size=cap * s/\
    iG H h s rows cs.toList N'/\N=b::N'
def iG(H:Heap)(h:View)(s:Nat):List Row->List Value->List Nat->Prop
 |[],_,N=>N=[]
 |r::rs,cs,N=>r.length=s/\∃N1 N2,N=N1++N2/\jS H h r cs N1/\iG H h s rs (cs.drop s) N2
def jS(H:Heap)(h:View):Row->List Value->List Nat->Prop
 |[],_,N=>N=[]
 |x::r,cs,N=>∃v cs' N1 N2,cs=v::cs'/\N=N1++N2/\ow H h x v N1/\jS H h r cs' N2
end
def jg(h:View):Row->List Value->Prop
 |[],_=>True
 |x::r,cs=>∃v cs',cs=v::cs'/\ro h x v/\jg h r cs'
def jc(h:View)(s:Nat):List Row->List Value->Prop
 |[],_=>True
 |r::rs,cs=>r.length=s/\jg h r cs/\jc h s rs (cs.drop s)
def X6(H:Heap)(h:View)(fl:Bool)(s:Nat)(rows:List Row)(v:Value)(N:List Nat):Prop:=
 (rows=[]/\v=.slice none 0 0/\N=[])\/
 ∃b cap cs t N',v=.slice (some ⟨b,0,none⟩) rows.length cap/\rows.length<=cap/\H b=some (.cells cs t (0,0))/\cs.size=cap * s/\
  (match fl with
   |true=>jc h s rows cs.toList/\N'=[]
   |false=>iG H h s rows cs.toList N')/\N=b::N'
def abL(g:Value):Prop:=∃a n c,g=.slice a n c
def ayK(g:Value):Prop:=∃b o,g=.pointer (some ⟨b,o,none⟩)
mutual
def aV(μ:Nat->Value)(m:Mem)(h:View):V->Value->Prop
 | .d x,g=>ro h x g
 | .nil _,g=>g=.slice none 0 0
 | .own r v0,g=>abL g/\match get r m with
  |some (.arr _ _ ver _ _)=>v0<=ver/\(v0=ver->g=μ r)
  |some .dead=>True
  |some (.zY ver _ _ _ _)=>v0<=ver/\(v0=ver->g=μ r)
  |_=>False
 | .ptr r off,g=>ayK g/\match get r m with
  |some (.box _ _)=>∃b,μ r=.pointer (some ⟨b,0,none⟩)/\g=.pointer (some ⟨b,off,none⟩)
  |some .dead=>True
  |_=>False
 | .FP r v0 i off,g=>ayK g/\match get r m with
  |some (.arr _ _ ver s _)=>v0<=ver/\(v0=ver->∃b n cap,μ r=.slice (some ⟨b,0,none⟩) n cap/\g=.pointer (some ⟨b,i * s+off,none⟩))
  |some .dead=>True
  |some (.zY ver s _ _ _)=>v0<=ver/\(v0=ver->∃b n cap,μ r=.slice (some ⟨b,0,none⟩) n cap/\g=.pointer (some ⟨b,i * s+off,none⟩))
  |_=>False
 | .DC row off,g=>∃b o,g=.pointer (some ⟨b,o+off,none⟩)/\D6 h row b o
 | .clo f first caps,g=>∃a c,g=.func (.func f) a c/\dA μ m h first a.toList/\dA μ m h caps c.toList
 | .agg cs,g=>∃a,g=.agg a/\dA μ m h cs a.toList
 | .Kv vs,g=>∃a,g=.tuple a/\dA μ m h vs a.toList
 | .undef,_=>True
def dA(μ:Nat->Value)(m:Mem)(h:View):List V->List Value->Prop
 |[],gs=>gs=[]
 |v::vs,gs=>∃g gs',gs=g::gs'/\aV μ m h v g/\dA μ m h vs gs'
end
def hole(H:Heap)(h:View)(s:Nat)(rows:List Row)(row:Row)(i off:Nat)(cs:List Value)(Na Nb:List Nat):Prop:=∀(H':Heap) (h':View) (x:D) (g:Value) (N:List Nat),
 (∀b o v,h b o=some v->h' b o=some v)->(∀b,b∈Na++Nb->H' b=H b)->ow H' h' x g N->iG H' h' s (rows.set i (splice row off [x])) (cs.set (i * s+off) g) (Na++N++Nb)
def al9(μ:Nat->Value)(m:Mem)(r:Nat)(g:Value):Prop:=match get (Hy r) m with
 |some (.arr _ _ 0 _ _)=>μ (Hy r)=g
 |some (.zY 0 _ _ _ _)=>μ (Hy r)=g
 |some _=>True
 |none=>False
def oM(μ:Nat->Value)(m:Mem)(H:Heap)(h:View)(r:Nat):Cell->List Nat->Prop
 | .box t cs,N=>∃b a,μ r=.pointer (some ⟨b,0,none⟩)/\H b=some (.cells a t (0,0))/\dA μ m h cs a.toList/\N=[b]
 | .arr fz fl _ s rows,N=>match fz with
  |true=>ro h (.sl true s rows) (μ r)/\N=[]
  |false=>X6 H h fl s rows (μ r) N
 | .dead,N=>N=[]
 | .zY _ s rows i off,N=>∃b cap cs t g row Na Nb,μ r=.slice (some ⟨b,0,none⟩) rows.length cap/\rows.length<=cap/\H b=some (.cells cs t (0,0))/\cs.size=cap * s/\cs.toList[i * s+off]? =some g/\
   rows[i]? =some row/\off<s/\hole H h s rows row i off cs.toList Na Nb/\al9 μ m r g/\N=b::(Na++Nb)
open Classical in
noncomputable def view(w:World)(U X:Nat->Prop):View:=λb o=>if U b/\¬X b then w.cell? ⟨b,o,none⟩ else none
def excl(F:Nat->List Nat)(E:List Nat):Nat->Prop:=λb=>b∈E\/∃r,b∈F r
structure Keep(M:List Nat)(w w':World):Prop where
 os:w'.os=w.os
 tape:w'.tape=w.tape
 output:w'.output=w.output
 size:w.heap.size<=w'.heap.size
 block:∀b,b<w.heap.size->b ∉ M->w'.heap[b]? =w.heap[b]?
def Keep.refl(M:List Nat)(w:World):Keep M w w:=⟨rfl,rfl,rfl,Nat.le_refl _,λ_ _ _=>rfl⟩
def Keep.trans{M M':List Nat}{a b c:World}(h:Keep M a b)(k:Keep M' b c)(hM:∀x,x∈M'->x∈M\/a.heap.size<=x):Keep M a c:=
 ⟨k.os.trans h.os,k.tape.trans h.tape,k.output.trans h.output,Nat.le_trans h.size k.size,λi hi hm=>(k.block i (Nat.lt_of_lt_of_le hi h.size) (λhx=>(hM i hx).elim hm (λhl=>absurd hi (Nat.not_lt.2 hl)))).trans (h.block i hi hm)⟩
structure MInv(base:Nat)(U:Nat->Prop)(m:Mem)(w:World)(μ:Nat->Value)(F:Nat->List Nat)(E:List Nat)(out:List Nat):Prop where
 cell:∀r c,get r m=some c->r ∉ out->oM μ m (dM w) (view w U (excl F E)) r c (F r)
 dj:∀r r',r≠r'->∀b,b∈F r->b ∉ F r'
 djE:∀r b,b∈F r->b ∉ E
 nd:∀r,(F r).Nodup
 ndE:E.Nodup
 lt:∀b,excl F E b->b<w.heap.size/\base<=b/\U b
 up:∀b,w.heap.size<=b->U b
 bs:base<=w.heap.size
 none_:∀r,get r m=none->F r=[]
 out_:∀r,r∈out->F r=[]
def View.le(h h':View):Prop:=∀b o v,h b o=some v->h' b o=some v
def View.le_refl(h:View):h.le h:=λ_ _ _ x=>x
def View.le.trans'{a b c:View}(h:a.le b)(k:b.le c):a.le c:=λx y v q=>k x y v (h x y v q)
mutual
def Jw{h h':View}(hl:h.le h'):∀(x:D) (v:Value),ro h x v->ro h' x v
 | .int _ _,_,q=>by simpa[ro] using q
 | .bool _,_,q=>by simpa[ro] using q
 | .str _,_,q=>by simpa[ro] using q
 | .Ze,_,q=>by simpa[ro] using q
 | .sl _ s rows,v,q=>by simp only[ro] at q|-;obtain⟨a,cap,h1,h2,h3⟩:=q;refine⟨a,cap,h1,h2,λhn=> ?_⟩;obtain⟨b,o,h4,h5⟩:=h3 hn;exact⟨b,o,h4,ahk hl s rows b o h5⟩
def ahk{h h':View}(hl:h.le h')(s:Nat):∀(rows:List Row) (b o:Nat),sQ h s rows b o->sQ h' s rows b o
 |[],_,_,_=>by simp[sQ]
 |r::rs,b,o,q=>by simp only[sQ] at q|-;exact⟨q.1,Qg hl r b o q.2.1,ahk hl s rs b (o+s) q.2.2⟩
def Qg{h h':View}(hl:h.le h'):∀(r:Row) (b o:Nat),D6 h r b o->D6 h' r b o
 |[],_,_,_=>by simp[D6]
 |x::r,b,o,q=>by simp only[D6] at q|-;obtain⟨⟨v,h1,h2⟩,h3⟩:=q;exact⟨⟨v,hl _ _ _ h1,Jw hl x v h2⟩,Qg hl r b (o+1) h3⟩
end
mutual
def aiG{H H':Heap}{h h':View}(hl:h.le h'):∀(x:D) (v:Value) (N:List Nat),(∀b,b∈N->H' b=H b)->ow H h x v N->ow H' h' x v N
 | .int _ _,_,_,_,q=>by simpa[ow] using q
 | .bool _,_,_,_,q=>by simpa[ow] using q
 | .str _,_,_,_,q=>by simpa[ow] using q
 | .Ze,_,_,_,q=>by simpa[ow] using q
 | .sl false s rows,v,N,_,q=>by simp only[ow] at q|-;exact⟨q.1,Jw hl _ _ q.2⟩
 | .sl true s rows,v,N,hb,q=>by
  simp only[ow] at q|-;rcases q with q|⟨b,cap,cs,t,N',h1,h2,h3,h4,h5,rfl⟩
  ·exact .inl q
  ·exact .inr ⟨b,cap,cs,t,N',h1,h2,by rw[hb b (by simp)];exact h3,h4,BL hl s rows cs.toList N' (λb' hb'=>hb b' (by simp[hb'])) h5,rfl⟩
def BL{H H':Heap}{h h':View}(hl:h.le h')(s:Nat):∀(rows:List Row) (cs:List Value) (N:List Nat),(∀b,b∈N->H' b=H b)->iG H h s rows cs N->iG H' h' s rows cs N
 |[],_,_,_,q=>by simpa[iG] using q
 |r::rs,cs,N,hb,q=>by simp only[iG] at q|-;obtain⟨h1,N1,N2,rfl,h2,h3⟩:=q;exact⟨h1,N1,N2,rfl,IQ hl r cs N1 (λb hx=>hb b (by simp[hx])) h2,BL hl s rs _ N2 (λb hx=>hb b (by simp[hx])) h3⟩
def IQ{H H':Heap}{h h':View}(hl:h.le h'):∀(r:Row) (cs:List Value) (N:List Nat),(∀b,b∈N->H' b=H b)->jS H h r cs N->jS H' h' r cs N
 |[],_,_,_,q=>by simpa[jS] using q
 |x::r,cs,N,hb,q=>by simp only[jS] at q|-;obtain⟨v,cs',N1,N2,rfl,rfl,h2,h3⟩:=q;exact⟨v,cs',N1,N2,rfl,rfl,aiG hl x v N1 (λb hx=>hb b (by simp[hx])) h2,IQ hl r cs' N2 (λb hx=>hb b (by simp[hx])) h3⟩
end
def aeU{h h':View}(hl:h.le h'):∀(r:Row) (cs:List Value),jg h r cs->jg h' r cs
 |[],_,_=>trivial
 |x::r,cs,⟨v,cs',h1,h2,h3⟩=>⟨v,cs',h1,Jw hl x v h2,aeU hl r cs' h3⟩
def KQ{h h':View}(hl:h.le h')(s:Nat):∀(rows:List Row) (cs:List Value),jc h s rows cs->jc h' s rows cs
 |[],_,_=>trivial
 |r::rs,cs,⟨h1,h2,h3⟩=>⟨h1,aeU hl r cs h2,KQ hl s rs _ h3⟩
def Uo{H H':Heap}{h h':View}(hl:h.le h'){fl:Bool}{s:Nat}{rows:List Row}{v:Value}{N:List Nat}(hb:∀b,b∈N->H' b=H b)(q:X6 H h fl s rows v N):X6 H' h' fl s rows v N:=by
 rcases q with q|⟨b,cap,cs,t,N',h1,h2,h3,h4,h5,rfl⟩
 ·exact .inl q
 ·refine .inr ⟨b,cap,cs,t,N',h1,h2,by rw[hb b (by simp)];exact h3,h4, ?_,rfl⟩;cases fl with
  |true=>exact⟨KQ hl s rows _ h5.1,h5.2⟩
  |false=>exact BL hl s rows _ N' (λb' hb'=>hb b' (by simp[hb'])) h5
def Af(μ μ':Nat->Value)(r:Nat):Cell->Cell->Prop
 | .box t _,.box t' _=>t'=t/\μ' r=μ r
 | .arr _ fl ver s _,.arr _ fl' nG s' _=>ver<=nG/\fl'=fl/\(ver=nG->μ' r=μ r/\s'=s)
 |_,.dead=>True
 | .arr _ fl ver s _,.zY nG s' _ _ _=>fl=false/\ver<=nG/\(ver=nG->μ' r=μ r/\s'=s)
 | .zY ver s _ _ _,.arr _ fl nG s' _=>fl=false/\ver<=nG/\(ver=nG->μ' r=μ r/\s'=s)
 | .zY ver s _ _ _,.zY nG s' _ _ _=>ver<=nG/\(ver=nG->μ' r=μ r/\s'=s)
 |_,_=>False
def Et(μ:Nat->Value)(m:Mem)(μ':Nat->Value)(m':Mem):Prop:=∀r c,get r m=some c->∃c',get r m'=some c'/\Af μ μ' r c c'
def ahl(μ:Nat->Value)(r:Nat)(c:Cell):Af μ μ r c c:=by cases c<;>simp[Af]
def yF(μ:Nat->Value)(m:Mem):Et μ m μ m:=λr c h=>⟨c,h,ahl μ r c⟩
def aoj{μ1 μ2 μ3:Nat->Value}{r:Nat}{c c' c'':Cell}(h:Af μ1 μ2 r c c')(k:Af μ2 μ3 r c' c''):Af μ1 μ3 r c c'':=by
 have key:∀{a b d s s' s'':Nat},a<=b->(a=b->μ2 r=μ1 r/\s'=s)->b<=d->(b=d->μ3 r=μ2 r/\s''=s')->a<=d/\(a=d->μ3 r=μ1 r/\s''=s):=by intro a b d s s' s'' h1 h2 h3 h4;refine⟨ak,λe=> ?_⟩;have e1:a=b:=ak;have e2:b=d:=ak;exact⟨(h4 e2).1.trans (h2 e1).1,(h4 e2).2.trans (h2 e1).2⟩
 cases c<;>cases c'<;>cases c''<;>simp only[Af] at h k|-
 all_goals first
  |trivial
  |exact⟨k.1.trans h.1,k.2.trans h.2⟩
  |exact k.trans h
  |exact k.trans h.2
  |omega
  |exact key h.1 h.2 k.1 k.2
  |exact⟨(key h.1 h.2.2 k.1 k.2.2).1,k.2.1.trans h.2.1,(key h.1 h.2.2 k.1 k.2.2).2⟩
  |exact⟨h.2.1.symm.trans k.1,key h.1 h.2.2 k.2.1 k.2.2⟩
  |exact⟨(key h.1 h.2.2 k.2.1 k.2.2).1,(key h.1 h.2.2 k.2.1 k.2.2).2⟩
  |exact⟨h.1,key h.2.1 h.2.2 k.1 k.2⟩
  |exact⟨k.1,key h.1 h.2 k.2.1 k.2.2⟩
  |exact⟨k.2.1.trans h.1,key h.2.1 h.2.2 k.1 k.2.2⟩
  |exact⟨(key h.2.1 h.2.2 k.2.1 k.2.2).1,k.1.trans h.1.symm,(key h.2.1 h.2.2 k.2.1 k.2.2).2⟩
  |exact key h.2.1 h.2.2 k.2.1 k.2.2
def xw{μ1 μ2 μ3:Nat->Value}{m1 m2 m3:Mem}(h:Et μ1 m1 μ2 m2)(k:Et μ2 m2 μ3 m3):Et μ1 m1 μ3 m3:=by intro r c hc;obtain⟨c',h1,h2⟩:=h r c hc;obtain⟨c'',k1,k2⟩:=k r c' h1;exact⟨c'',k1,aoj h2 k2⟩
mutual
def Qh{μ μ':Nat->Value}{m m':Mem}{h h':View}(hm:Et μ m μ' m')(hl:h.le h'):∀(v:V) (g:Value),aV μ m h v g->aV μ' m' h' v g
 | .d x,g,q=>by simp only[aV] at q|-;exact Jw hl x g q
 | .nil _,_,q=>by simpa[aV] using q
 | .own r v0,g,q=>by
  simp only[aV] at q|-;refine⟨q.1, ?_⟩;replace q:=q.2;cases hc:get r m with
  |none=>simp[hc] at q
  |some c=>
   obtain⟨c',h1,h2⟩:=hm r c hc;rw[h1];rw[hc] at q;cases c<;>cases c'<;>simp only[Af] at h2<;>first
    |trivial
    |exact q.elim
    |exact⟨ak,λe=>by omega⟩
    |exact⟨ak,λe=>by rw[(h2.2 ak).1];exact q.2 ak⟩
    |exact⟨ak,λe=>by rw[(h2.2.2 ak).1];exact q.2 ak⟩
 | .ptr r off,g,q=>by
  simp only[aV] at q|-;refine⟨q.1, ?_⟩;replace q:=q.2;cases hc:get r m with
  |none=>simp[hc] at q
  |some c=>obtain⟨c',h1,h2⟩:=hm r c hc;rw[h1];cases c<;>cases c'<;>simp_all [Af]
 | .FP r v0 i off,g,q=>by
  simp only[aV] at q|-;refine⟨q.1, ?_⟩;replace q:=q.2;cases hc:get r m with
  |none=>simp[hc] at q
  |some c=>
   obtain⟨c',h1,h2⟩:=hm r c hc;rw[h1];rw[hc] at q;cases c<;>cases c'<;>simp only[Af] at h2<;>first
    |trivial
    |exact q.elim
    |exact⟨ak,λe=>by omega⟩
    |exact⟨ak,λe=>by rw[(h2.2 ak).1,(h2.2 ak).2];exact q.2 ak⟩
    |exact⟨ak,λe=>by rw[(h2.2.2 ak).1,(h2.2.2 ak).2];exact q.2 ak⟩
 | .DC row off,g,q=>by simp only[aV] at q|-;obtain⟨b,o,h1,h2⟩:=q;exact⟨b,o,h1,Qg hl row b o h2⟩
 | .clo f first caps,g,q=>by simp only[aV] at q|-;obtain⟨a,c,h1,h2,h3⟩:=q;exact⟨a,c,h1,vV hm hl first _ h2,vV hm hl caps _ h3⟩
 | .agg cs,g,q=>by simp only[aV] at q|-;obtain⟨a,h1,h2⟩:=q;exact⟨a,h1,vV hm hl cs _ h2⟩
 | .Kv vs,g,q=>by simp only[aV] at q|-;obtain⟨a,h1,h2⟩:=q;exact⟨a,h1,vV hm hl vs _ h2⟩
 | .undef,_,_=>by simp[aV]
def vV{μ μ':Nat->Value}{m m':Mem}{h h':View}(hm:Et μ m μ' m')(hl:h.le h'):∀(vs:List V) (gs:List Value),dA μ m h vs gs->dA μ' m' h' vs gs
 |[],_,q=>by simpa[dA] using q
 |v::vs,gs,q=>by simp only[dA] at q|-;obtain⟨g,gs',h1,h2,h3⟩:=q;exact⟨g,gs',h1,Qh hm hl v g h2,vV hm hl vs gs' h3⟩
end
def ama{H H':Heap}{h h':View}(hl:h.le h'){s:Nat}{rows:List Row}{row:Row}{i off:Nat}{cs:List Value}{Na Nb:List Nat}(hb:∀b,b∈Na++Nb->H' b=H b)(q:hole H h s rows row i off cs Na Nb):hole H' h' s rows row i off cs Na Nb:=
 λH'' h'' x g N h1 h2 h3=>q H'' h'' x g N (hl.trans' h1) (λb hb'=>(h2 b hb').trans (hb b hb')) h3
def atx{μ μ':Nat->Value}{m m':Mem}(hm:Et μ m μ' m'){r:Nat}{g:Value}(q:al9 μ m r g):al9 μ' m' r g:=by
 unfold al9 at q|-;cases hc:get (Hy r) m with
 |none=>simp[hc] at q
 |some c=>
  obtain⟨c',h1,h2⟩:=hm _ c hc;rw[hc] at q;rw[h1];have key:∀nG,nG<=0->(match nG with|0=>μ (Hy r)=g|_=>True)->μ (Hy r)=g:=λnG e=>by have e:nG=0:=ak;subst e;exact id
  cases c' with
  |arr fz fl ver s rows=>
   cases ver with
   |succ n=>trivial
   |zero=>
    cases c<;>simp only[Af] at h2
    ·obtain rfl:=Nat.le_zero.1 h2.1;exact(h2.2.2 rfl).1.trans q
    ·obtain rfl:=Nat.le_zero.1 h2.2.1;exact(h2.2.2 rfl).1.trans q
  |zY ver s rows i off=>
   cases ver with
   |succ n=>trivial
   |zero=>
    cases c<;>simp only[Af] at h2
    ·obtain rfl:=Nat.le_zero.1 h2.2.1;exact(h2.2.2 rfl).1.trans q
    ·obtain rfl:=Nat.le_zero.1 h2.1;exact(h2.2 rfl).1.trans q
  |_=>trivial
def Jy{μ μ':Nat->Value}{m m':Mem}{H H':Heap}{h h':View}(hm:Et μ m μ' m')(hl:h.le h'){r:Nat}(hr:μ' r=μ r){c:Cell}{N:List Nat}(hb:∀b,b∈N->H' b=H b)
  (q:oM μ m H h r c N):oM μ' m' H' h' r c N:=by
 cases c with
 |box t cs=>obtain⟨b,a,h1,h2,h3,rfl⟩:=q;exact⟨b,a,by rw[hr];exact h1,by rw[hb b (by simp)];exact h2,vV hm hl cs _ h3,rfl⟩
 |arr fz fl ver s rows=>
  cases fz with
  |true=>exact⟨by rw[hr];exact Jw hl _ _ q.1,q.2⟩
  |false=>simp only[oM] at q|-;rw[hr];exact Uo hl hb q
 |dead=>exact q
 |zY ver s rows i off=>obtain⟨b,cap,cs,t,g,row,Na,Nb,h1,h2,h3,h4,h5,h6,h7,h8,h9,rfl⟩:=q;exact⟨b,cap,cs,t,g,row,Na,Nb,by rw[hr];exact h1,h2,by rw[hb b (by simp)];exact h3,h4,h5,h6,h7,ama hl (λb' hb'=>hb b' (by simp only[List.mem_cons];exact .inr hb')) h8,atx hm h9,rfl⟩
def yG{k j:Nat}(h:k≠j):Nat.beq k j=false:=by
 cases hb:Nat.beq k j with
 |false=>rfl
 |true=>exact absurd (Dy hb) h
def iE{α:Type}(k:Nat)(x:α):∀l:List (Nat×α),get k (put k x l)=some x
 |[]=>by simp[put,get]
 |(j,y)::l=>by
  simp only[put]
  by_cases h:k=j
  ·subst h;simp[get]
  ·have hb:Nat.beq k j=false:=yG h;rw[hb];cases hl:Nat.blt k j with
   |true=>simp[get]
   |false=>simp[get,hb,iE k x l]
def jT{α:Type}{k k':Nat}(hk:k≠k')(x:α):∀l:List (Nat×α),get k (put k' x l)=get k l
 |[]=>by have hb:Nat.beq k k'=false:=yG hk;simp[put,get,hb]
 |(j,y)::l=>by
  have hb:Nat.beq k k'=false:=yG hk;simp only[put]
  by_cases h:k'=j
  ·subst h;simp[get,hb]
  ·have hb':Nat.beq k' j=false:=yG h;rw[hb'];cases hl:Nat.blt k' j with
   |true=>simp[get,hb]
   |false=>simp[get,jT hk x l]
def N7{α:Type}(k:Nat):∀l:List (Nat×α),get k (del k l)=none
 |[]=>rfl
 |(j,y)::l=>by
  simp only[del];cases hb:Nat.beq k j with
  |true=>simpa using N7 k l
  |false=>simp[get,hb,N7 k l]
def QF{α:Type}{k k':Nat}(hk:k≠k'):∀l:List (Nat×α),get k (del k' l)=get k l
 |[]=>rfl
 |(j,y)::l=>by
  simp only[del];cases hb:Nat.beq k' j with
  |true=>have:k'=j:=Dy hb;subst this;have hb:Nat.beq k k'=false:=yG hk;simp[get,hb,QF hk l]
  |false=>simp[get,QF hk l]
def get_put{α:Type}(k k':Nat)(x:α)(l:List (Nat×α)):get k (put k' x l)=if k=k' then some x else get k l:=by
 by_cases h:k=k'
 ·subst h;rw[iE,if_pos rfl]
 ·rw[jT h,if_neg h]
def aCj{α:Type}(k k':Nat)(l:List (Nat×α)):get k (del k' l)=if k=k' then none else get k l:=by
 by_cases h:k=k'
 ·subst h;rw[N7,if_pos rfl]
 ·rw[QF h,if_neg h]
def Acc.run_bind{α β:Type}(a:Acc α)(f:α->Acc β):∀(m:Mem) (l:Log),(a.bind f).run m l=match a.run m l with|some (x,m',l')=>(f x).run m' l'|none=>none:=by
 induction a with
 |ret a=>intro m l;rfl
 |fail=>intro m l;rfl
 |get k c ih=>intro m l;simp only[Acc.bind,Acc.run];exact ih _ _ _
 |set k x c ih=>intro m l;simp only[Acc.bind,Acc.run];exact ih _ _
 |opt o c ih=>intro m l;simp only[Acc.bind,Acc.run];cases o with|none=>rfl|some b=>exact ih b _ _
 |guard b c ih=>intro m l;simp only[Acc.bind,Acc.run];cases b with|true=>exact ih _ _|false=>rfl
def run_bind{α β:Type}(a:Acc α)(f:α->Acc β)(m:Mem)(l:Log):(a>>=f).run m l=match a.run m l with|some (x,m',l')=>(f x).run m' l'|none=>none:=Acc.run_bind a f m l
def au{α β:Type}{a:Acc α}{f:α->Acc β}{m:Mem}{l:Log}{y:β}{m':Mem}{l':Log}(h:(a>>=f).run m l=some (y,m',l')):
  ∃x m1 l1,a.run m l=some (x,m1,l1)/\(f x).run m1 l1=some (y,m',l'):=by
 rw[run_bind] at h;cases ha:a.run m l with
 |none=>simp[ha] at h
 |some x=>obtain⟨x,m1,l1⟩:=x;rw[ha] at h;exact⟨x,m1,l1,rfl,h⟩
def run_pure{α:Type}(a:α)(m:Mem)(l:Log):(Pure.pure a:Acc α).run m l=some (a,m,l):=rfl
def vF(k:Nat)(m:Mem)(l:Log):(rd k).run m l=some (get k m,m,l.rd k):=rfl
def FT(k:Nat)(c:Cell)(m:Mem)(l:Log):(wr k c).run m l=some ((),put k c m,l.wr k):=rfl
def fK{b:Bool}{m:Mem}{l:Log}{x:Unit}{m':Mem}{l':Log}(h:(ck b).run m l=some (x,m',l')):b=true/\m'=m/\l'=l:=by cases b<;>simp[ck,Acc.run] at h;exact⟨rfl,h.1.symm,h.2.symm⟩
def jA{β:Type}{o:Option β}{m:Mem}{l:Log}{x:β}{m':Mem}{l':Log}(h:(op' o).run m l=some (x,m',l')):o=some x/\m'=m/\l'=l:=by cases o<;>simp[op',Acc.run] at h;obtain⟨rfl,rfl,rfl⟩:=h;exact⟨rfl,rfl,rfl⟩
def apS{α:Type}{m:Mem}{l:Log}{r:α×Mem×Log}(h:(Acc.fail:Acc α).run m l=some r):False:=by simp[Acc.run] at h
def aH{α:Type}{m:Mem}{l:Log}{r:α×Mem×Log}{C:Prop}(h:(Acc.fail:Acc α).run m l=some r):C:=(apS h).elim
def bck{β:Type}{b:Bool}{f:Unit->Acc β}{m:Mem}{l:Log}{r:β×Mem×Log}(h:(ck b>>=f).run m l=some r):b=true/\(f ()).run m l=some r:=by obtain⟨_,_,_,h1,h2⟩:=au h;obtain⟨h0,rfl,rfl⟩:=fK h1;exact⟨h0,h2⟩
def bop{α β:Type}{o:Option α}{f:α->Acc β}{m:Mem}{l:Log}{r:β×Mem×Log}(h:(op' o>>=f).run m l=some r):∃x,o=some x/\(f x).run m l=some r:=by obtain⟨x,_,_,h1,h2⟩:=au h;obtain⟨h0,rfl,rfl⟩:=jA h1;exact⟨x,h0,h2⟩
def rpu{α:Type}{a b:α}{m m':Mem}{l l':Log}(h:(Pure.pure a:Acc α).run m l=some (b,m',l')):a=b/\m=m'/\l=l':=by rw[run_pure] at h;cases h;exact⟨rfl,rfl,rfl⟩
structure aji(X:Ctx)(h:View):Prop where
 row:∀g row,X.glob g=some row->D6 h row g 0
 int:∀g,X.aSC g=true->∃n,h g 0=some (.int .i64 n)
def Qi{X:Ctx}{h h':View}(hl:h.le h')(q:aji X h):aji X h':=⟨λg row hg=>Qg hl row g 0 (q.row g row hg),λg hg=>by obtain⟨n,hn⟩:=q.int g hg;exact⟨n,hl _ _ _ hn⟩⟩
def ajj{h:View}:∀(row:Row) (b o:Nat),D6 h row b o->sQ h 1 (row.map λx=>[x]) b o
 |[],_,_,_=>trivial
 |x::r,b,o,⟨h1,h2⟩=>⟨rfl,⟨h1,trivial⟩,ajj r b (o+1) h2⟩
def PN(F:Nat->List Nat)(r:Nat)(N:List Nat):Nat->List Nat:=λk=>if k=r then N else F k
def upM(μ:Nat->Value)(r:Nat)(g:Value):Nat->Value:=λk=>if k=r then g else μ k
@[simp] theorem tX(F:Nat->List Nat)(r:Nat)(N:List Nat):PN F r N r=N:=by simp[PN]
def iH{F:Nat->List Nat}{r k:Nat}(N:List Nat)(h:k≠r):PN F r N k=F k:=by simp[PN,h]
@[simp] theorem Eu(μ:Nat->Value)(r:Nat)(g:Value):upM μ r g r=g:=by simp[upM]
def Ny{μ:Nat->Value}{r k:Nat}(g:Value)(h:k≠r):upM μ r g k=μ k:=by simp[upM,h]
def full(w:World):View:=λb o=>w.cell? ⟨b,o,none⟩
def zq(w:World)(U X:Nat->Prop):(view w U X).le (full w):=by
 intro b o v h;unfold view at h;split at h
 ·exact h
 ·cases h
def TD{w:World}{U U' X X':Nat->Prop}(hU:∀b,U b->U' b)(h:∀b,X' b->X b):(view w U X).le (view w U' X'):=by
 intro b o v hv;unfold view at hv|-;split at hv
 ·rename_i hc;rw[if_pos ⟨hU b hc.1,λhx=>hc.2 (h b hx)⟩];exact hv
 ·cases hv
structure GS where
 μ:Nat->Value
 F:Nat->List Nat
 E:List Nat
 out:List Nat
section
variable (base:Nat) (U:Nat->Prop) (w:World)
def Fj(m:Mem)(G:GS):Prop:=MInv base U m w G.μ G.F G.E G.out
noncomputable def Gh(G:GS):View:=view w U (excl G.F G.E)
end
structure Zg(m:Mem)(G:GS)(m':Mem)(G':GS):Prop where
 mem:Et G.μ m G'.μ m'
 ex:∀b,excl G'.F G'.E b->excl G.F G.E b
def Zg.refl(m:Mem)(G:GS):Zg m G m G:=⟨yF _ _,λ_ h=>h⟩
def Zg.trans{m1 m2 m3:Mem}{G1 G2 G3:GS}(h:Zg m1 G1 m2 G2)(k:Zg m2 G2 m3 G3):Zg m1 G1 m3 G3:=
 ⟨xw h.mem k.mem,λb hb=>h.ex b (k.ex b hb)⟩
def Zg.view{U:Nat->Prop}{w:World}{m m':Mem}{G G':GS}(h:Zg m G m' G'):(Gh U w G).le (Gh U w G'):=TD (λ_ x=>x) h.ex
def Zg.aV{U:Nat->Prop}{w:World}{m m':Mem}{G G':GS}(h:Zg m G m' G'){v:V}{g:Value}(q:aV G.μ m (Gh U w G) v g):aV G'.μ m' (Gh U w G') v g:=
 Qh h.mem h.view v g q
def Zg.dA{U:Nat->Prop}{w:World}{m m':Mem}{G G':GS}(h:Zg m G m' G'){v:List V}{g:List Value}(q:dA G.μ m (Gh U w G) v g):dA G'.μ m' (Gh U w G') v g:=
 vV h.mem h.view v g q
section
variable {base:Nat} {U:Nat->Prop} {w:World} {m:Mem} {G:GS}
def Fj.set(hg:Fj base U w m G)(r:Nat)(c':Cell)(μ':Nat->Value)(N E' out':List Nat)
  (hs:(N++E').Nodup) (hsub:∀b,b∈N++E'->b∈G.F r\/b∈G.E) (hle:Et G.μ m μ' (put r c' m)) (hμ:∀k,k≠r->μ' k=G.μ k)
  (ho:∀k,k≠r->(k∈out'↔k∈G.out)) (hr:r∈out'->N=[])
  (hc:(view w U (excl G.F G.E)).le (view w U (excl (PN G.F r N) E'))->r ∉ out'->oM μ' (put r c' m) (dM w) (view w U (excl (PN G.F r N) E')) r c' N):
  Fj base U w (put r c' m) ⟨μ',PN G.F r N,E',out'⟩/\Zg m G (put r c' m) ⟨μ',PN G.F r N,E',out'⟩:=by
 have hex:∀b,excl (PN G.F r N) E' b->excl G.F G.E b:=by
  rintro b (hb|⟨k,hb⟩)
  ·rcases hsub b (by simp[hb]) with h|h
   ·exact .inr ⟨r,h⟩
   ·exact .inl h
  ·by_cases hk:k=r
   ·subst hk;rw[tX] at hb;rcases hsub b (by simp[hb]) with h|h
    ·exact .inr ⟨_,h⟩
    ·exact .inl h
   ·rw[iH N hk] at hb;exact .inr ⟨k,hb⟩
 have hv:(view w U (excl G.F G.E)).le (view w U (excl (PN G.F r N) E')):=TD (λ_ x=>x) hex;have hN:=List.nodup_append.1 hs;refine⟨show MInv base U (put r c' m) w μ' (PN G.F r N) E' out' from ?_,⟨hle,hex⟩⟩;refine⟨?_, ?_, ?_, ?_,hN.2.1,λb hb=>hg.lt b (hex b hb),hg.up,hg.bs, ?_, ?_⟩
 ·intro k c hk hko;rw[get_put] at hk
  by_cases e:k=r
  ·subst e;rw[if_pos rfl] at hk;cases hk;rw[tX];exact hc hv hko
  ·rw[if_neg e] at hk;rw[iH N e];exact Jy hle hv (hμ k e) (λb _=>rfl) (hg.cell k c hk (λh=>hko ((ho k e).2 h)))
 ·intro k k' hne b hb hb'
  by_cases e:k=r
  ·subst e;rw[tX] at hb;rw[iH N (Ne.symm hne)] at hb';rcases hsub b (by simp[hb]) with h|h
   ·exact hg.dj _ _ hne b h hb'
   ·exact hg.djE _ b hb' h
  ·rw[iH N e] at hb
   by_cases e':k'=r
   ·subst e';rw[tX] at hb';rcases hsub b (by simp[hb']) with h|h
    ·exact hg.dj _ _ hne b hb h
    ·exact hg.djE _ b hb h
   ·rw[iH N e'] at hb';exact hg.dj _ _ hne b hb hb'
 ·intro k b hb hE
  by_cases e:k=r
  ·subst e;rw[tX] at hb;exact hN.2.2 b hb b hE rfl
  ·rw[iH N e] at hb;rcases hsub b (by simp[hE]) with h|h
   ·exact hg.dj _ _ e b hb h
   ·exact hg.djE _ b hb h
 ·intro k
  by_cases e:k=r
  ·subst e;rw[tX];exact hN.1
  ·rw[iH N e];exact hg.nd k
 ·intro k hk;rw[get_put] at hk
  by_cases e:k=r
  ·rw[if_pos e] at hk;cases hk
  ·rw[if_neg e] at hk;rw[iH N e];exact hg.none_ k hk
 ·intro k hk
  by_cases e:k=r
  ·subst e;rw[tX];exact hr hk
  ·rw[iH N e];exact hg.out_ k ((ho k e).1 hk)
def Fj.less(hg:Fj base U w m G)(E':List Nat)(hn:E'.Nodup)(hs:∀b,b∈E'->b∈G.E):
  Fj base U w m {G with E:=E'}/\Zg m G m {G with E:=E'}:=by
 have hex:∀b,excl G.F E' b->excl G.F G.E b:=by
  rintro b (hb|hb)
  ·exact .inl (hs b hb)
  ·exact .inr hb
 have hv:(view w U (excl G.F G.E)).le (view w U (excl G.F E')):=TD (λ_ x=>x) hex;refine⟨⟨?_,hg.dj,λr b hb hE=>hg.djE r b hb (hs b hE),hg.nd,hn,λb hb=>hg.lt b (hex b hb),hg.up,hg.bs,hg.none_,hg.out_⟩,⟨yF _ _,hex⟩⟩;intro r c hc ho;exact Jy (yF _ _) hv rfl (λ_ _=>rfl) (hg.cell r c hc ho)
def Hg{μ μ':Nat->Value}{r:Nat}{c':Cell}(hμ:∀k,k≠r->μ' k=μ k)(h:∀c,get r m=some c->Af μ μ' r c c'):Et μ m μ' (put r c' m):=by
 intro k c hk
 by_cases e:k=r
 ·subst e;exact⟨c',iE _ _ _,h c hk⟩
 ·refine⟨c,by rw[jT e];exact hk, ?_⟩;cases c<;>simp[Af,hμ k e]
def full_cell{b:Nat}{cs:Array Value}{t:TypeId}{fr:Nat×Nat}(h:dM w b=some (.cells cs t fr))(o:Nat):full w b o=cs.toList[o]? :=by simp only[full,World.cell?];unfold dM at h;simp[h]
end
def adR{h:View}{b:Nat}:∀(r:Row) (o:Nat) (cs:List Value),(∀j v,cs[j]? =some v->h b (o+j)=some v)->jg h r cs->D6 h r b o
 |[],_,_,_,_=>by simp[D6]
 |x::r,o,cs,hc,⟨v,cs',e,h1,h2⟩=>by subst e;simp only[D6];refine⟨⟨v,hc 0 v rfl,h1⟩,adR r (o+1) cs' (λj u hj=> ?_) h2⟩;have:=hc (j+1) u (by simpa using hj);rw[show o+1+j=o+(j+1) from by omega];exact this
def ZC{h:View}{b s:Nat}:∀(rs:List Row) (o:Nat) (cs:List Value),(∀j v,cs[j]? =some v->h b (o+j)=some v)->jc h s rs cs->sQ h s rs b o
 |[],_,_,_,_=>by simp[sQ]
 |r::rs,o,cs,hc,⟨h1,h2,h3⟩=>by simp only[sQ];refine⟨h1,adR r o cs hc h2,ZC rs (o+s) (cs.drop s) (λj u hj=> ?_) h3⟩;rw[List.getElem?_drop] at hj;rw[show o+s+j=o+(s+j) from by omega];exact hc _ _ hj
def aeV(h:View)(H:Heap)(N:List Nat):Prop:=∀b,b∈N->∀cs t fr,H b=some (.cells cs t fr)->∀(o:Nat) v,cs.toList[o]? =some v->h b o=some v
def aeV.sub{h:View}{H:Heap}{N N':List Nat}(q:aeV h H N)(hs:∀b,b∈N'->b∈N):aeV h H N':=λb hb=>q b (hs b hb)
mutual
def aGs{H:Heap}{h h':View}(hl:h.le h'):∀(x:D) (v:Value) (N:List Nat),aeV h' H N->ow H h x v N->ro h' x v
 | .int _ _,_,_,_,q=>by simp only[ow] at q;simpa[ro] using q.1
 | .bool _,_,_,_,q=>by simp only[ow] at q;simpa[ro] using q.1
 | .str _,_,_,_,q=>by simp only[ow] at q;simpa[ro] using q.1
 | .Ze,_,_,_,q=>by simp only[ow] at q;simpa[ro] using q.1
 | .sl false s rows,v,N,_,q=>by simp only[ow] at q;have:=Jw hl _ _ q.2;simpa[ro] using this
 | .sl true s rows,v,N,hs,q=>by
  simp only[ow] at q;simp only[ro];rcases q with⟨rfl,rfl,rfl⟩|⟨b,cap,cs,t,N',h1,h2,h3,h4,h5,rfl⟩
  ·exact⟨none,0,by simp,by simp,λe=>absurd rfl e⟩
  ·refine⟨_,cap,h1,h2,λ_=>⟨b,0,rfl, ?_⟩⟩;refine ZC rows 0 cs.toList (λj v hj=>by rw[Nat.zero_add];exact hs b (by simp) cs t _ h3 j v hj) ?_;exact IU hl s rows cs.toList N' (hs.sub (by simp;exact λ_ hb=> .inr hb)) h5
def IU{H:Heap}{h h':View}(hl:h.le h')(s:Nat):∀(rows:List Row) (cs:List Value) (N:List Nat),aeV h' H N->iG H h s rows cs N->jc h' s rows cs
 |[],_,_,_,_=>by simp[jc]
 |r::rs,cs,N,hs,q=>by simp only[iG] at q;obtain⟨h1,N1,N2,rfl,h2,h3⟩:=q;simp only[jc];exact⟨h1,adS hl r cs N1 (hs.sub (by simp;exact λ_ hb=> .inl hb)) h2,IU hl s rs _ N2 (hs.sub (by simp;exact λ_ hb=> .inr hb)) h3⟩
def adS{H:Heap}{h h':View}(hl:h.le h'):∀(r:Row) (cs:List Value) (N:List Nat),aeV h' H N->jS H h r cs N->jg h' r cs
 |[],_,_,_,_=>by simp[jg]
 |x::r,cs,N,hs,q=>by simp only[jS] at q;obtain⟨v,cs',N1,N2,rfl,rfl,h1,h2⟩:=q;simp only[jg];exact⟨v,cs',rfl,aGs hl x v N1 (hs.sub (by simp;exact λ_ hb=> .inl hb)) h1,adS hl r cs' N2 (hs.sub (by simp;exact λ_ hb=> .inr hb)) h2⟩
end
def aiH{H:Heap}{h h':View}(hl:h.le h'){fl:Bool}{s:Nat}{rows:List Row}{v:Value}{N:List Nat}(hs:aeV h' H N)(q:X6 H h fl s rows v N)(o:Bool):ro h' (.sl o s rows) v:=by
 simp only[ro];rcases q with⟨rfl,rfl,rfl⟩|⟨b,cap,cs,t,N',h1,h2,h3,h4,h5,rfl⟩
 ·exact⟨none,0,by simp,by simp,λe=>absurd rfl e⟩
 ·refine⟨_,cap,h1,h2,λ_=>⟨b,0,rfl, ?_⟩⟩;refine ZC rows 0 cs.toList (λj v hj=>by rw[Nat.zero_add];exact hs b (by simp) cs t _ h3 j v hj) ?_;cases fl with
  |true=>exact KQ hl s rows _ h5.1
  |false=>exact IU hl s rows cs.toList N' (hs.sub (by simp;exact λ_ hb=> .inr hb)) h5
def adT{h:View}{o o':Bool}{s:Nat}{rows:List Row}{v:Value}(q:ro h (.sl o s rows) v):ro h (.sl o' s rows) v:=by simpa[ro] using q
def agf{w:World}{N:List Nat}:aeV (full w) (dM w) N:=by intro b _ cs t fr hb o v hv;rw[full_cell hb,hv]
def Nz{w:World}{U X:Nat->Prop}{N:List Nat}(hU:∀b,b∈N->U b/\¬X b):aeV (view w U X) (dM w) N:=by intro b hm cs t fr hb o v hv;unfold view;rw[if_pos (hU b hm)];have:=full_cell hb o;rw[hv] at this;exact this
mutual
def ayL{h:View}:∀(x:D) (v:Value),ro h x v->ro h x.fz v
 | .int _ _,_,q=>by simpa[D.fz] using q
 | .bool _,_,q=>by simpa[D.fz] using q
 | .str _,_,q=>by simpa[D.fz] using q
 | .Ze,_,q=>by simpa[D.fz] using q
 | .sl own s rows,v,q=>by
  simp only[D.fz,ro] at q|-;obtain⟨a,cap,h1,h2,h3⟩:=q;have hlen:(aB rows).length=rows.length:=QG rows;refine⟨a,cap,by rw[hlen];exact h1,by rw[hlen];exact h2,λhn=> ?_⟩;have hn':rows≠[]:=by intro e;subst e;exact hn rfl
  obtain⟨b,o,h4,h5⟩:=h3 hn';exact⟨b,o,h4,amb s rows b o h5⟩
def QG:∀rows:List Row,(aB rows).length=rows.length
 |[]=>rfl
 |r::rs=>by simp[aB,QG rs]
def X7:∀r:Row,(Fh r).length=r.length
 |[]=>rfl
 |x::r=>by simp[Fh,X7 r]
def amb{h:View}(s:Nat):∀(rows:List Row) (b o:Nat),sQ h s rows b o->sQ h s (aB rows) b o
 |[],_,_,_=>by simp[aB,sQ]
 |r::rs,b,o,q=>by simp only[aB,sQ] at q|-;exact⟨by rw[X7];exact q.1,apT r b o q.2.1,amb s rs b (o+s) q.2.2⟩
def apT{h:View}:∀(r:Row) (b o:Nat),D6 h r b o->D6 h (Fh r) b o
 |[],_,_,_=>by simp[Fh,D6]
 |x::r,b,o,q=>by simp only[Fh,D6] at q|-;obtain⟨⟨v,h1,h2⟩,h3⟩:=q;exact⟨⟨v,h1,ayL x v h2⟩,apT r b (o+1) h3⟩
end
def ajk{h:View}{fl:Bool}{o:Bool}{s:Nat}{rows:List Row}{v:Value}(q:ro h (.sl o s rows) v):ro h (.sl false s (vw fl rows)) v:=by
 unfold vw;cases fl with
 |true=>exact adT q
 |false=>simpa[D.fz] using ayL _ _ q
def ayM{h:View}{x:D}{v:Value}(q:ro h x v):ro h (roD x) v:=by cases x<;>simpa[roD,ro] using q
def ayN{H:Heap}{h:View}{x:D}{v:Value}(q:ro h x v):ow H h (roD x) v []:=by cases x<;>simp[roD,ow,ro] at q|-<;>exact q
def aCk{H:Heap}{h:View}{x:D}{v:Value}(hf:x.flat=true)(q:ro h x v):ow H h x v []:=by cases x<;>simp[D.flat,ow,ro] at hf q|-<;>exact q
def ajl{H:Heap}{h:View}:∀(r:Row) (cs:List Value),(r.all D.flat)=true->jg h r cs->jS H h r cs []
 |[],_,_,_=>by simp[jS]
 |x::r,cs,hf,⟨v,cs',e,h1,h2⟩=>by simp only[List.all_cons,rZ] at hf;simp only[jS];exact⟨v,cs',[],[],e,rfl,aCk hf.1 h1,ajl r cs' hf.2 h2⟩
def ZE{H:Heap}{h:View}(s:Nat):∀(rs:List Row) (cs:List Value),aj rs=true->jc h s rs cs->iG H h s rs cs []
 |[],_,_,_=>by simp[iG]
 |r::rs,cs,hf,⟨h1,h2,h3⟩=>by simp only[aj,List.all_cons,rZ] at hf;simp only[iG];exact⟨h1,[],[],rfl,ajl r cs hf.1 h2,ZE s rs _ hf.2 h3⟩
def aok{H:Heap}{h:View}{fl:Bool}{s:Nat}{rows:List Row}{v:Value}{N:List Nat}(ho:ahg fl rows=true)(q:X6 H h fl s rows v N):ow H h (.sl true s rows) v N:=by
 simp only[ow];rcases q with q|⟨b,cap,cs,t,N',h1,h2,h3,h4,h5,rfl⟩
 ·exact .inl q
 ·refine .inr ⟨b,cap,cs,t,N',h1,h2,h3,h4, ?_,rfl⟩;cases fl with
  |true=>obtain⟨h5,rfl⟩:=h5;exact ZE s rows _ (by simpa[ahg] using ho) h5
  |false=>exact h5
def avl{H:Heap}{h:View}{s:Nat}{rows:List Row}{v:Value}{N:List Nat}(q:ow H h (.sl true s rows) v N):X6 H h false s rows v N:=by simpa[ow,X6] using q
def aty{H:Heap}{h:View}{s:Nat}{rows:List Row}{v:Value}{N:List Nat}(q:ow H h (.sl true s rows) v N):
  ∃N1 N2,N=N1++N2/\∀h',h.le h'->aeV h' H N2->X6 H h' true s rows v N1:=by
 simp only[ow] at q;rcases q with⟨rfl,rfl,rfl⟩|⟨b,cap,cs,t,N',h1,h2,h3,h4,h5,rfl⟩
 ·exact⟨[],[],rfl,λ_ _ _=> .inl ⟨rfl,rfl,rfl⟩⟩
 ·exact⟨[b],N',rfl,λh' hl hs=> .inr ⟨b,cap,cs,t,[],h1,h2,h3,h4,⟨IU hl s rows _ N' hs h5,rfl⟩,rfl⟩⟩
section
variable {base:Nat} {U:Nat->Prop} {w:World} {m:Mem} {G:GS}
def Fj.kill(hg:Fj base U w m G){r:Nat}{fl:Bool}{ver s:Nat}{rows:List Row}(hc:get r m=some (.arr false fl ver s rows))(hro:r ∉ G.out):
  Fj base U w (put r .dead m) ⟨G.μ,PN G.F r [],G.E++G.F r,G.out⟩/\Zg m G (put r .dead m) ⟨G.μ,PN G.F r [],G.E++G.F r,G.out⟩/\
   X6 (dM w) (Gh U w G) fl s rows (G.μ r) (G.F r):=by
 have h1:=hg.set r .dead G.μ [] (G.E++G.F r) G.out
  (by simpa using List.nodup_append.2 ⟨hg.ndE,hg.nd r,λa ha b hb e=>hg.djE r b hb (e ▸ ha)⟩)
  (by simp;exact λb hb=>hb.symm) (Hg (λ_ _=>rfl) (λc h=>by rw[hc] at h;cases h;trivial)) (λ_ _=>rfl) (λ_ _=>Iff.rfl) (λ_=>rfl) (λ_ _=>rfl)
 exact⟨h1.1,h1.2,hg.cell r _ hc hro⟩
def Fj.freeze(hg:Fj base U w m G){r:Nat}{fz fl:Bool}{ver s:Nat}{rows:List Row}(hc:get r m=some (.arr fz fl ver s rows))(hro:r ∉ G.out):
  Fj base U w (put r (.arr true fl ver s rows) m) ⟨G.μ,PN G.F r [],G.E,G.out⟩/\Zg m G (put r (.arr true fl ver s rows) m) ⟨G.μ,PN G.F r [],G.E,G.out⟩/\
   ro (Gh U w ⟨G.μ,PN G.F r [],G.E,G.out⟩) (.sl true s rows) (G.μ r):=by
 have hle:Et G.μ m G.μ (put r (.arr true fl ver s rows) m):=Hg (λ_ _=>rfl) (λc h=>by rw[hc] at h;cases h;exact⟨Nat.le_refl _,rfl,λ_=>⟨rfl,rfl⟩⟩);have aKQ:(view w U (excl G.F G.E)).le (view w U (excl (PN G.F r []) G.E))->ro (view w U (excl (PN G.F r []) G.E)) (.sl true s rows) (G.μ r):=by
  intro hv;have hq:=hg.cell r _ hc hro;cases fz with
  |true=>exact Jw hv _ _ hq.1
  |false=>
   refine aiH hv (Nz λb hb=>⟨(hg.lt b (.inr ⟨r,hb⟩)).2.2, ?_⟩) hq true;rintro(hE|⟨k,hk⟩)
   ·exact hg.djE r b hb hE
   ·by_cases e:k=r
    ·subst e;simp at hk
    ·rw[iH _ e] at hk;exact hg.dj r k (Ne.symm e) b hb hk
 have h1:=hg.set r (.arr true fl ver s rows) G.μ [] G.E G.out (by simpa using hg.ndE) (by simp;exact λb hb=> .inr hb) hle (λ_ _=>rfl) (λ_ _=>Iff.rfl) (λ_=>rfl)
  (λhv _=>⟨aKQ hv,rfl⟩)
 exact⟨h1.1,h1.2,aKQ h1.2.view⟩
def Fj.aHk(hg:Fj base U w m G){k:Nat}(fl:Bool){s:Nat}{rows:List Row}{g:Value}{N E:List Nat}(hn:get k m=none)(hk:k ∉ G.out)(hE:(N++E).Perm G.E)
  (hq:ow (dM w) (Gh U w G) (.sl true s rows) g N):
  ∃F',Fj base U w (put k (.arr false fl 0 s rows) m) ⟨upM G.μ k g,F',E,G.out⟩/\Zg m G (put k (.arr false fl 0 s rows) m) ⟨upM G.μ k g,F',E,G.out⟩:=by
 have hnd:=hE.nodup_iff.2 hg.ndE;have hmem:∀b,b∈N++E->b∈G.E:=λb hb=>hE.mem_iff.1 hb
 have hμ:∀j,j≠k->upM G.μ k g j=G.μ j:=λj e=>Ny g e
 have hle:∀c',Et G.μ m (upM G.μ k g) (put k c' m):=λc'=>Hg hμ (λc h=>by rw[hn] at h;cases h)
 cases fl with
 |false=>refine⟨_,hg.set k (.arr false false 0 s rows) (upM G.μ k g) N E G.out hnd (λb hb=> .inr (hmem b hb)) (hle _) hμ (λ_ _=>Iff.rfl) (λh=>absurd h hk) (λhv _=> ?_)⟩;simp only[oM,Eu];exact Uo hv (λ_ _=>rfl) (avl hq)
 |true=>
  obtain⟨N1,N2,rfl,h2⟩:=aty hq;have hnd':(N1++E).Nodup:=by rw[Qc] at hnd;have:=List.nodup_append.1 hnd;exact List.nodup_append.2 ⟨this.1,(List.nodup_append.1 this.2.1).2.1,λa ha b hb=>this.2.2 a ha b (by simp[hb])⟩
  refine⟨_,hg.set k (.arr false true 0 s rows) (upM G.μ k g) N1 E G.out hnd' (λb hb=> .inr (hmem b (by simp at hb|-;rcases hb with h|h<;>simp[h]))) (hle _) hμ (λ_ _=>Iff.rfl) (λh=>absurd h hk) (λhv _=> ?_)⟩;simp only[oM,Eu];refine h2 _ hv (Nz λb hb=>⟨(hg.lt b (.inl (hmem b (by simp[hb])))).2.2, ?_⟩);rw[Qc] at hnd;have hd:=List.nodup_append.1 hnd;have hd2:=List.nodup_append.1 hd.2.1;rintro(hE'|⟨j,hj⟩)
  ·exact hd2.2.2 b hb b hE' rfl
  ·by_cases e:j=k
   ·subst e;rw[tX] at hj;exact hd.2.2 b hj b (by simp[hb]) rfl
   ·rw[iH _ e] at hj;exact hg.djE j b hj (hmem b (by simp[hb]))
structure NT(base:Nat)(U:Nat->Prop)(w:World)(m:Mem)(G:GS)(m':Mem)(G':GS)(N:List Nat):Prop where
 ok:Fj base U w m' G'
 le:Zg m G m' G'
 E:G'.E=G.E++N
 out:G'.out=G.out
 μ:G'.μ=G.μ
def NT.same(hg:Fj base U w m G):NT base U w m G m G []:=⟨hg,Zg.refl _ _,by simp,rfl,rfl⟩
def NT.trans{m1 m2 m3:Mem}{G1 G2 G3:GS}{N N':List Nat}(a:NT base U w m1 G1 m2 G2 N)(b:NT base U w m2 G2 m3 G3 N'):NT base U w m1 G1 m3 G3 (N++N'):=
 ⟨b.ok,a.le.trans b.le,by rw[b.E,a.E,Qc],b.out.trans a.out,b.μ.trans a.μ⟩
def X8{H:Heap}{h h':View}(hl:h.le h'){x:D}{v:Value}{N:List Nat}(q:ow H h x v N):ow H h' x v N:=aiG hl x v N (λ_ _=>rfl) q
def ayO(hg:Fj base U w m G){v:V}{g:Value}(hv:aV G.μ m (Gh U w G) v g)(ho:G.out=[]){x:D}{m':Mem}{l l':Log}(h:(toD v).run m l=some (x,m',l')):
  ∃G' N,NT base U w m G m' G' N/\ow (dM w) (Gh U w G') x g N:=by
 cases v with
 |d y=>simp only[toD,run_pure,jW,oI] at h;obtain⟨rfl,rfl,rfl⟩:=h;exact⟨G,[],NT.same hg,ayN (by simpa[aV] using hv)⟩
 |nil s=>simp only[toD,run_pure,jW,oI] at h;obtain⟨rfl,rfl,rfl⟩:=h;refine⟨G,[],NT.same hg, ?_⟩;simp only[aV] at hv;simp[ow,hv]
 |own r ver=>
  simp only[toD] at h;replace h:=au h;obtain⟨c,m1,l1,h1,h⟩:=h;rw[vF] at h1;cases h1;cases hc:get r m with
  |none=>rw[hc] at h;exact aH h
  |some c=>
   rw[hc] at h;cases c with
   |arr fz fl nG s rows=>
    simp only at h;replace h:=au h;obtain⟨_,m2,l2,h1,h⟩:=h;obtain⟨hb,rfl,rfl⟩:=fK h1;have hb:=Dy hb;subst hb;simp only[aV,hc] at hv;have hv:=hv.2.2 trivial;subst hv;have hro:r ∉ G.out:=by simp[ho]
    cases fz with
    |true=>simp only[run_pure,jW,oI] at h;obtain⟨rfl,rfl,rfl⟩:=h;refine⟨G,[],NT.same hg, ?_⟩;have hq:=(hg.cell r _ hc hro).1;simp only[ow,true_and];exact ajk hq
    |false=>simp only at h;replace h:=au h;obtain⟨_,m2,l2,h1,h⟩:=h;obtain⟨hok,rfl,rfl⟩:=fK h1;replace h:=au h;obtain⟨_,m3,l3,h1,h⟩:=h;rw[FT] at h1;cases h1;simp only[run_pure,jW,oI] at h;obtain⟨rfl,rfl,rfl⟩:=h;obtain⟨k1,k2,k3⟩:=hg.kill hc hro;exact⟨_,G.F r,⟨k1,k2,rfl,rfl,rfl⟩,X8 k2.view (aok hok k3)⟩
   |_=>exact aH h
 |_=>exact aH h
def rE{μ:Nat->Value}{h:View}{v:V}{vs:List V}{gs:List Value}(q:dA μ m h (v::vs) gs):∃g gs',gs=g::gs'/\aV μ m h v g/\dA μ m h vs gs':=by simpa[dA] using q
def jB{μ:Nat->Value}{h:View}:∀{vs:List V} {gs:List Value},dA μ m h vs gs->gs.length=vs.length
 |[],gs,q=>by simp[dA] at q;simp[q]
 |v::vs,gs,q=>by obtain⟨g,gs',rfl,_,h3⟩:=rE q;simp[jB h3]
def adU{H:Heap}{h h':View}(hl:h.le h'){x:Row}{v:List Value}{N:List Nat}(q:jS H h x v N):jS H h' x v N:=IQ hl x v N (λ_ _=>rfl) q
def apU{H:Heap}{h h':View}(hl:h.le h'){s:Nat}{x:List Row}{v:List Value}{N:List Nat}(q:iG H h s x v N):iG H h' s x v N:=BL hl s x v N (λ_ _=>rfl) q
def Uz:∀{vs:List V} {gs:List Value} {m:Mem} {G:GS} (_:Fj base U w m G) (_:dA G.μ m (Gh U w G) vs gs) (_:G.out=[]) {xs:Row} {m':Mem} {l l':Log} (_:(WX vs).run m l=some (xs,m',l')),
  ∃G' N,NT base U w m G m' G' N/\jS (dM w) (Gh U w G') xs gs N/\xs.length=vs.length
 |[],gs,m,G,hg,hv,ho,xs,m',l,l',h=>by simp only[WX,run_pure,jW,oI] at h;obtain⟨rfl,rfl,rfl⟩:=h;exact⟨G,[],NT.same hg,by simp[jS],rfl⟩
 |v::vs,gs,m,G,hg,hv,ho,xs,m',l,l',h=>by obtain⟨g,gs',rfl,hv1,hv2⟩:=rE hv;simp only[WX] at h;replace h:=au h;obtain⟨x,m1,l1,h1,h⟩:=h;replace h:=au h;obtain⟨ys,m2,l2,h2,h⟩:=h;obtain⟨rfl,rfl,rfl⟩:=rpu h;obtain⟨G1,N1,t1,q1⟩:=ayO hg hv1 ho h1;obtain⟨G2,N2,t2,q2,hlen⟩:=Uz t1.ok (t1.le.dA hv2) (t1.out.trans ho) h2;refine⟨G2,N1++N2,t1.trans t2, ?_,by simp[hlen]⟩;simp only[jS];exact⟨g,gs',N1,N2,rfl,rfl,X8 t2.le.view q1,q2⟩
def Fj.look(hg:Fj base U w m G){r:Nat}{fz fl:Bool}{ver s:Nat}{rows:List Row}(hc:get r m=some (.arr fz fl ver s rows))(hro:r ∉ G.out)(o:Bool):ro (full w) (.sl o s rows) (G.μ r):=by
 have hq:=hg.cell r _ hc hro;cases fz with
 |true=>exact adT (Jw (zq _ _ _) _ _ hq.1)
 |false=>exact aiH (zq _ _ _) agf hq o
def avm(hg:Fj base U w m G){v:V}{g:Value}(hv:aV G.μ m (Gh U w G) v g)(ho:G.out=[]){s:Nat}{rows:List Row}{m':Mem}{l l':Log}(h:(seen v).run m l=some ((s,rows),m',l')):
  m'=m/\ro (full w) (.sl false s rows) g:=by
 cases v with
 |d y=>
  cases y with
  |sl own s' rows'=>simp only[seen,run_pure,jW,oI] at h;obtain⟨⟨rfl,rfl⟩,rfl,rfl⟩:=h;simp only[aV] at hv;exact⟨rfl,adT (Jw (zq _ _ _) _ _ hv)⟩
  |_=>exact aH h
 |nil s'=>simp only[seen,run_pure,jW,oI] at h;obtain⟨⟨rfl,rfl⟩,rfl,rfl⟩:=h;simp only[aV] at hv;exact⟨rfl,by simp[ro,hv]⟩
 |own r ver=>
  simp only[seen] at h;replace h:=au h;obtain⟨c,m1,l1,h1,h⟩:=h;rw[vF] at h1;cases h1;cases hc:get r m with
  |none=>rw[hc] at h;exact aH h
  |some c=>
   rw[hc] at h;cases c with
   |arr fz fl nG s' rows'=>simp only at h;replace h:=au h;obtain⟨_,m2,l2,h1,h⟩:=h;obtain⟨hb,rfl,rfl⟩:=fK h1;have hb:=Dy hb;subst hb;simp only[run_pure,jW,oI] at h;obtain⟨⟨rfl,rfl⟩,rfl,rfl⟩:=h;simp only[aV,hc] at hv;have hv:=hv.2.2 trivial;subst hv;exact⟨rfl,ajk (hg.look hc (by simp[ho]) true)⟩
   |_=>exact aH h
 |_=>exact aH h
def N8(k:Nat):∀l:List Nat,mem? k l=true↔k∈l
 |[]=>by simp[mem?]
 |j::l=>by
  simp only[mem?,List.mem_cons]
  by_cases e:k=j
  ·subst e;simp
  ·rw[yG e];simp[e,N8 k l]
def UA{k:Nat}{l:List Nat}(h:(!(mem? k l))=true):k ∉ l:=by intro hk;rw[(N8 k l).2 hk] at h;cases h
def aCl(hg:Fj base U w m G){v:V}{g:Value}(hv:aV G.μ m (Gh U w G) v g){imp:List Nat}(ho:∀r,r∈G.out->r∈imp){own:Bool}{v':V}{m':Mem}{l l':Log}(h:(ayF imp own v).run m l=some (v',m',l')):
  ∃G' N x,v'=.d x/\NT base U w m G m' G' N/\ow (dM w) (Gh U w G') x g N/\∀k,k∈imp->get k m'=get k m:=by
 cases v with
 |d y=>simp only[ayF,run_pure,jW,oI] at h;obtain⟨rfl,rfl,rfl⟩:=h;exact⟨G,[],_,rfl,NT.same hg,ayN (by simpa[aV] using hv),λ_ _=>rfl⟩
 |nil s=>simp only[ayF,run_pure,jW,oI] at h;obtain⟨rfl,rfl,rfl⟩:=h;refine⟨G,[],_,rfl,NT.same hg, ?_,λ_ _=>rfl⟩;simp only[aV] at hv;cases own<;>simp[ow,ro,hv]
 |own r ver=>
  simp only[ayF] at h;replace h:=au h;obtain⟨c,m1,l1,h1,h⟩:=h;rw[vF] at h1;cases h1;cases hc:get r m with
  |none=>rw[hc] at h;exact aH h
  |some c=>
   rw[hc] at h;cases c with
   |arr fz fl nG s rows=>
    simp only at h;replace h:=au h;obtain⟨_,m2,l2,h1,h⟩:=h;obtain⟨hb,rfl,rfl⟩:=fK h1;have hb:=Dy hb;subst hb;replace h:=au h;obtain⟨_,m2,l2,h1,h⟩:=h;obtain⟨hi,rfl,rfl⟩:=fK h1;simp only[aV,hc] at hv;have hv:=hv.2.2 trivial;subst hv;have hro:r ∉ G.out:=λhr=>UA hi (ho r hr)
    have hni:∀k,k∈imp->k≠r:=λk hk e=>UA hi (e ▸ hk)
    cases own with
    |false=>simp only at h;replace h:=au h;obtain⟨_,m3,l3,h1,h⟩:=h;rw[FT] at h1;cases h1;simp only[run_pure,jW,oI] at h;obtain⟨rfl,rfl,rfl⟩:=h;obtain⟨k1,k2,k3⟩:=hg.freeze hc hro;refine⟨_,[],_,rfl,⟨k1,k2,by simp,rfl,rfl⟩, ?_,λk hk=>jT (hni k hk) _ _⟩;simp only[ow,true_and];exact ajk k3
    |true=>
     simp only at h;replace h:=au h;obtain⟨_,m2,l2,h1,h⟩:=h;obtain⟨hfz,rfl,rfl⟩:=fK h1;replace h:=au h;obtain⟨_,m2,l2,h1,h⟩:=h;obtain⟨hok,rfl,rfl⟩:=fK h1;have hfz:fz=false:=by simpa using hfz
     subst hfz;replace h:=au h;obtain⟨_,m3,l3,h1,h⟩:=h;rw[FT] at h1;cases h1;simp only[run_pure,jW,oI] at h;obtain⟨rfl,rfl,rfl⟩:=h;obtain⟨k1,k2,k3⟩:=hg.kill hc hro;exact⟨_,G.F r,_,rfl,⟨k1,k2,rfl,rfl,rfl⟩,X8 k2.view (aok hok k3),λk hk=>jT (hni k hk) _ _⟩
   |_=>exact aH h
 |_=>exact aH h
def ahm{imp own:List Nat}:∀{vs:List V} {gs:List Value} {m:Mem} {G:GS} {j:Nat} (_:Fj base U w m G) (_:dA G.μ m (Gh U w G) vs gs) (_:∀r,r∈G.out->r∈imp) {vs':List V} {m':Mem} {l l':Log}
  (_:(Zu imp own j vs).run m l=some (vs',m',l')),∃G' N xs,vs'=xs.map V.d/\xs.length=gs.length/\NT base U w m G m' G' N/\jS (dM w) (Gh U w G') xs gs N/\∀k,k∈imp->get k m'=get k m
 |[],gs,m,G,j,hg,hv,ho,vs',m',l,l',h=>by simp only[Zu,run_pure,jW,oI] at h;obtain⟨rfl,rfl,rfl⟩:=h;simp only[dA] at hv;subst hv;exact⟨G,[],[],rfl,rfl,NT.same hg,by simp[jS],λ_ _=>rfl⟩
 |v::vs,gs,m,G,j,hg,hv,ho,vs',m',l,l',h=>by obtain⟨g,gs',rfl,hv1,hv2⟩:=rE hv;simp only[Zu] at h;replace h:=au h;obtain⟨x,m1,l1,h1,h⟩:=h;replace h:=au h;obtain⟨ys,m2,l2,h2,h⟩:=h;obtain⟨rfl,rfl,rfl⟩:=rpu h;obtain⟨G1,N1,x1,rfl,t1,q1,i1⟩:=aCl hg hv1 ho h1;obtain⟨G2,N2,xs,rfl,hlen,t2,q2,i2⟩:=ahm t1.ok (t1.le.dA hv2) (λr hr=>ho r (t1.out ▸ hr)) h2;refine⟨G2,N1++N2,x1::xs,rfl,by simp[hlen],t1.trans t2, ?_,λk hk=>(i2 k hk).trans (i1 k hk)⟩;simp only[jS];exact⟨g,gs',N1,N2,rfl,rfl,X8 t2.le.view q1,q2⟩
def apV(H:Heap)(h:View):Cell->Value->List Nat->Prop
 | .box t vs,g,N=>∃b a xs N',g=.pointer (some ⟨b,0,none⟩)/\H b=some (.cells a t (0,0))/\vs=xs.map V.d/\xs.length=a.toList.length/\jS H h xs a.toList N'/\N=b::N'
 | .arr fz fl ver s rows,g,N=>fz=false/\ver=0/\X6 H h fl s rows g N
 | .dead,_,_=>False
 | .zY ..,_,_=>False
def cellsB(H:Heap)(h:View):List Cell->List Value->List Nat->Prop
 |[],gs,N=>gs=[]/\N=[]
 |c::cs,gs,N=>∃g gs' N1 N2,gs=g::gs'/\N=N1++N2/\apV H h c g N1/\cellsB H h cs gs' N2
def ajm{H H':Heap}{h h':View}(hl:h.le h'){c:Cell}{g:Value}{N:List Nat}(hb:∀b,b∈N->H' b=H b)(q:apV H h c g N):apV H' h' c g N:=by
 cases c with
 |box t vs=>obtain⟨b,a,xs,N',h1,h2,h3,h4,h5,rfl⟩:=q;exact⟨b,a,xs,N',h1,by rw[hb b (by simp)];exact h2,h3,h4,IQ hl _ _ _ (λb' hb'=>hb b' (by simp[hb'])) h5,rfl⟩
 |arr fz fl ver s rows=>exact⟨q.1,q.2.1,Uo hl hb q.2.2⟩
 |dead=>exact q
 |zY _ _ _ _ _=>exact q
def ahn{H H':Heap}{h h':View}(hl:h.le h'):∀{cs:List Cell} {gs:List Value} {N:List Nat},(∀b,b∈N->H' b=H b)->cellsB H h cs gs N->cellsB H' h' cs gs N
 |[],_,_,_,q=>q
 |c::cs,_,_,hb,⟨g,gs',N1,N2,h1,h2,h3,h4⟩=>by subst h2;exact⟨g,gs',N1,N2,h1,rfl,ajm hl (λb hx=>hb b (by simp[hx])) h3,ahn hl (λb hx=>hb b (by simp[hx])) h4⟩
def Fj.aGt(hg:Fj base U w m G){r:Nat}{c:Cell}(hc:get r m=some c)(hro:r ∉ G.out):
  Fj base U w m ⟨G.μ,PN G.F r [],G.E++G.F r,r::G.out⟩/\Zg m G m ⟨G.μ,PN G.F r [],G.E++G.F r,r::G.out⟩:=by
 have hex:∀b,excl (PN G.F r []) (G.E++G.F r) b->excl G.F G.E b:=by
  rintro b (hb|⟨k,hb⟩)
  ·simp only[List.mem_append] at hb;rcases hb with h|h
   ·exact .inl h
   ·exact .inr ⟨r,h⟩
  ·by_cases e:k=r
   ·subst e;simp at hb
   ·rw[iH _ e] at hb;exact .inr ⟨k,hb⟩
 have hv:(view w U (excl G.F G.E)).le (view w U (excl (PN G.F r []) (G.E++G.F r))):=TD (λ_ x=>x) hex;refine⟨show MInv base U m w G.μ (PN G.F r []) (G.E++G.F r) (r::G.out) from ?_,⟨yF _ _,hex⟩⟩;refine⟨?_, ?_, ?_, ?_,List.nodup_append.2 ⟨hg.ndE,hg.nd r,λa ha b hb e=>hg.djE r b hb (e ▸ ha)⟩,λb hb=>hg.lt b (hex b hb),hg.up,hg.bs, ?_, ?_⟩
 ·intro k c hk hko;simp only[List.mem_cons,not_or] at hko;rw[iH _ hko.1];exact Jy (yF _ _) hv rfl (λ_ _=>rfl) (hg.cell k c hk hko.2)
 ·intro k k' hne b hb hb'
  by_cases e:k=r
  ·subst e;simp at hb
  ·rw[iH _ e] at hb
   by_cases e':k'=r
   ·subst e';simp at hb'
   ·rw[iH _ e'] at hb';exact hg.dj _ _ hne b hb hb'
 ·intro k b hb hE
  by_cases e:k=r
  ·subst e;simp at hb
  ·rw[iH _ e] at hb;simp only[List.mem_append] at hE;rcases hE with h|h
   ·exact hg.djE _ b hb h
   ·exact hg.dj _ _ e b hb h
 ·intro k
  by_cases e:k=r
  ·subst e;simp
  ·rw[iH _ e];exact hg.nd k
 ·intro k hk
  by_cases e:k=r
  ·subst e;simp
  ·rw[iH _ e];exact hg.none_ k hk
 ·intro k hk
  by_cases e:k=r
  ·subst e;simp
  ·rw[iH _ e];exact hg.out_ k (by simpa[e] using hk)
structure Out(base:Nat)(U:Nat->Prop)(w:World)(m:Mem)(G:GS)(m':Mem)(G':GS)(imp rs:List Nat)(N:List Nat):Prop where
 ok:Fj base U w m' G'
 le:Zg m G m' G'
 E:G'.E=G.E++N
 out:∀r,r∈G'.out↔r∈G.out\/r∈rs
 μ:G'.μ=G.μ
 here:∀k,k∈imp->get k m'=get k m
def sameKind:Cell->Cell->Prop
 | .box t _,.box t' _=>t=t'
 | .arr _ fl ver s _,.arr _ fl' nG s' _=>ver=0/\nG=0/\fl=fl'/\s=s'
 |_,_=>False
def kinds(m:Mem):List Nat->List Cell->Prop
 |[],cs=>cs=[]
 |r::rs,cs=>∃c c' cs',cs=c'::cs'/\get r m=some c/\sameKind c c'/\kinds m rs cs'
def aeW{m m':Mem}:∀{rs:List Nat} {cs:List Cell},(∀r,r∈rs->get r m'=get r m)->kinds m rs cs->kinds m' rs cs
 |[],_,_,q=>q
 |r::rs,_,h,⟨c,c',cs',h1,h2,h3,h4⟩=>⟨c,c',cs',h1,(h r (by simp)).trans h2,h3,aeW (λk hk=>h k (by simp[hk])) h4⟩
def agh{A:Adv}{imp:List Nat}:∀{rs:List Nat} {m:Mem} {G:GS} (_:Fj base U w m G) (_:rs.Nodup) (_:∀r,r∈rs->r∈imp/\r ∉ G.out) (_:∀r,r∈G.out->r∈imp) {cs:List Cell} {m':Mem} {l l':Log}
  (_:(Zv A imp rs).run m l=some (cs,m',l')),∃G' N,Out base U w m G m' G' imp rs N/\cellsB (dM w) (Gh U w G') cs (rs.map G.μ) N/\kinds m rs cs
 |[],m,G,hg,hn,hr,ho,cs,m',l,l',h=>by simp only[Zv,run_pure,jW,oI] at h;obtain⟨rfl,rfl,rfl⟩:=h;exact⟨G,[],⟨hg,Zg.refl _ _,by simp,λr=>by simp,rfl,λ_ _=>rfl⟩,⟨rfl,rfl⟩,rfl⟩
 |r::rs,m,G,hg,hn,hr,ho,cs,m',l,l',h=>by
  simp only[Zv] at h;replace h:=au h;obtain⟨c,m1,l1,h1,h⟩:=h;rw[vF] at h1;cases h1;replace h:=au h;obtain⟨c1,m1,l1,h1,h⟩:=h;replace h:=au h;obtain⟨cs1,m2,l2,h2,h⟩:=h;obtain⟨rfl,rfl,rfl⟩:=rpu h;have hri:=hr r (by simp);have hnr:=List.nodup_cons.1 hn;have step:∃G' N,Out base U w m G m1 G' imp [r] N/\apV (dM w) (Gh U w G') c1 (G.μ r) N/\∃c,get r m=some c/\sameKind c c1:=by
   cases hc:get r m with
   |none=>rw[hc] at h1;exact aH h1
   |some c=>
    rw[hc] at h1;have hq:=hg.cell r c hc hri.2;obtain⟨k1,k2⟩:=hg.aGt hc hri.2;cases c with
    |box t vs=>
     simp only[avk] at h1;replace h1:=au h1;obtain⟨vs',m3,l3,h3,h1⟩:=h1;obtain⟨rfl,rfl,rfl⟩:=rpu h1;obtain⟨b,a,e1,e2,e3,e4⟩:=hq;obtain⟨G2,N2,xs,rfl,hlen,t2,q2,i2⟩:=ahm k1 (k2.dA e3) (λk hk=>by
      simp only[List.mem_cons] at hk;rcases hk with rfl|hk
      ·exact hri.1
      ·exact ho k hk) h3
     refine⟨G2,b::N2,⟨t2.ok,k2.trans t2.le,by rw[t2.E,e4];simp,λk=>by rw[t2.out];simp[or_comm],t2.μ,i2⟩,⟨b,a,xs,N2,e1,e2,rfl,hlen,q2,rfl⟩,_,rfl,rfl⟩
    |_=>exact aH h1
  obtain⟨G1,N1,o1,q1,c0,hc0,hk0⟩:=step;obtain⟨G2,N2,o2,q2,kd2⟩:=agh o1.ok hnr.2 (λk hk=>⟨(hr k (by simp[hk])).1,λhko=>by
   rcases(o1.out k).1 hko with h|h
   ·exact(hr k (by simp[hk])).2 h
   ·simp at h;subst h;exact hnr.1 hk⟩) (λk hk=>by
   rcases(o1.out k).1 hk with h|h
   ·exact ho k h
   ·simp at h;subst h;exact hri.1) h2
  refine⟨G2,N1++N2,⟨o2.ok,o1.le.trans o2.le,by rw[o2.E,o1.E,Qc],λk=> ?_,o2.μ.trans o1.μ,λk hk=>(o2.here k hk).trans (o1.here k hk)⟩,⟨G.μ r,rs.map G.μ,N1,N2,rfl,rfl,ajm o2.le.view (λ_ _=>rfl) q1,by rw[<-o1.μ];exact q2⟩,c0,c1,cs1,rfl,hc0,hk0,aeW (λk hk=>(o1.here k (hr k (by simp[hk])).1).symm) kd2⟩;rw[o2.out,o1.out];simp[or_assoc]
def aol{r:Nat}{l:List Nat}(h:l.Nodup):(atq r l).Nodup:=by
 unfold atq;cases hm:mem? r l with
 |true=>exact h
 |false=>
  have:r ∉ l:=λhr=>by rw[(N8 r l).2 hr] at hm;cases hm
  exact List.nodup_append.2 ⟨h,by simp,λa ha b hb e=>by simp at hb;subst hb;subst e;exact this ha⟩
mutual
def ajn:∀(v:V) (I:List Nat),I.Nodup->(awV I v).Nodup
 | .ptr r _,I,h=>by simp only[awV];exact aol h
 | .clo _ a b,I,h=>by simp only[awV];exact VG b _ (VG a _ h)
 | .agg cs,I,h=>by simp only[awV];exact VG cs _ h
 | .d _,I,h=>h
 | .nil _,I,h=>h
 | .own _ _,I,h=>h
 | .FP _ _ _ _,I,h=>h
 | .DC _ _,I,h=>h
 | .Kv _,I,h=>h
 | .undef,I,h=>h
def VG:∀(vs:List V) (I:List Nat),I.Nodup->(al8 I vs).Nodup
 |[],I,h=>h
 |v::vs,I,h=>by simp only[al8];exact VG vs _ (ajn v I h)
end
def ab7(A:Adv)(f:Nat):∀(vs:List V) (i:Nat) (I:List Nat),I.Nodup->(TB A f i I vs).Nodup
 |[],_,I,h=>h
 |v::vs,i,I,h=>by
  simp only[TB];refine ab7 A f vs _ _ ?_;split
  ·exact h
  ·exact ajn _ _ h
def Vy(A:Adv)(f:Nat)(μ:Nat->Value)(m:Mem)(H:Heap)(h:View):Nat->List V->List Value->List Nat->Prop
 |_,[],gs,N=>gs=[]/\N=[]
 |i,v::vs,gs,N=>∃g gs' N1 N2,gs=g::gs'/\N=N1++N2/\(match NY A f i with
   |1=>∃x,v=.d x/\ow H h x g N1
   |_=>N1=[]/\aV μ m h v g)/\Vy A f μ m H h (i+1) vs gs' N2
def Xb{A:Adv}{f:Nat}{μ μ':Nat->Value}{m m':Mem}{H H':Heap}{h h':View}(hm:Et μ m μ' m')(hl:h.le h'):∀{vs:List V} {i:Nat} {gs:List Value} {N:List Nat},(∀b,b∈N->H' b=H b)->
  Vy A f μ m H h i vs gs N->Vy A f μ' m' H' h' i vs gs N
 |[],_,_,_,_,q=>q
 |v::vs,i,gs,N,hb,q=>by
  simp only[Vy] at q|-;obtain⟨g,gs',N1,N2,rfl,rfl,h3,h4⟩:=q;refine⟨g,gs',N1,N2,rfl,rfl, ?_,Xb hm hl (λb hx=>hb b (by simp[hx])) h4⟩;split at h3
  ·rename_i hmo;obtain⟨x,hx,hq⟩:=h3;exact⟨x,hx,aiG hl x g N1 (λb hx=>hb b (by simp[hx])) hq⟩
  ·exact⟨h3.1,Qh hm hl v g h3.2⟩
def aho{A:Adv}{f:Nat}:∀{vs:List V} {gs:List Value} {m:Mem} {G:GS} {i:Nat} (_:Fj base U w m G) (_:dA G.μ m (Gh U w G) vs gs) (_:G.out=[]) {vs':List V} {m':Mem} {l l':Log}
  (_:(WY A f i vs).run m l=some (vs',m',l')),∃G' N,NT base U w m G m' G' N/\Vy A f G'.μ m' (dM w) (Gh U w G') i vs' gs N
 |[],gs,m,G,i,hg,hv,ho,vs',m',l,l',h=>by simp only[WY,run_pure,jW,oI] at h;obtain⟨rfl,rfl,rfl⟩:=h;simp only[dA] at hv;exact⟨G,[],NT.same hg,hv,rfl⟩
 |v::vs,gs,m,G,i,hg,hv,ho,vs',m',l,l',h=>by
  obtain⟨g,gs',rfl,hv1,hv2⟩:=rE hv;simp only[WY] at h;replace h:=au h;obtain⟨x,m1,l1,h1,h⟩:=h;replace h:=au h;obtain⟨ys,m2,l2,h2,h⟩:=h;obtain⟨rfl,rfl,rfl⟩:=rpu h;have step:∃G1 N1,NT base U w m G m1 G1 N1/\(match NY A f i with
   |1=>∃y,x=.d y/\ow (dM w) (Gh U w G1) y g N1
   |_=>N1=[]/\aV G1.μ m1 (Gh U w G1) x g):=by
   split at h1
   ·rename_i hmo;replace h1:=au h1;obtain⟨y,m3,l3,h3,h1⟩:=h1;obtain⟨rfl,rfl,rfl⟩:=rpu h1;obtain⟨G1,N1,t1,q1⟩:=ayO hg hv1 ho h3;refine⟨G1,N1,t1, ?_⟩
    try rw[hmo]
    exact⟨y,rfl,q1⟩
   ·rename_i hmo;obtain⟨rfl,rfl,rfl⟩:=rpu h1;refine⟨G,[],NT.same hg, ?_⟩
    first
     |exact⟨rfl,hv1⟩
     |split
      ·rename_i e;exact absurd e hmo
      ·exact⟨rfl,hv1⟩
  obtain⟨G1,N1,t1,q1⟩:=step;obtain⟨G2,N2,t2,q2⟩:=aho t1.ok (t1.le.dA hv2) (t1.out.trans ho) h2;refine⟨G2,N1++N2,t1.trans t2, ?_⟩;simp only[Vy];refine⟨g,gs',N1,N2,rfl,rfl, ?_,q2⟩;split at q1
  ·obtain⟨y,hy,hq⟩:=q1;exact⟨y,hy,X8 t2.le.view hq⟩
  ·exact⟨q1.1,t2.le.aV q1.2⟩
def ajo:∀(cs:List Cell) (k i:Nat),get (tV+(k+i)) (vC k cs)=cs[i]?
 |[],_,_=>by simp[vC,get]
 |c::cs,k,0=>by simp[vC,get]
 |c::cs,k,i+1=>by simp only[vC,get];rw[yG ak];simp only[aQ,List.getElem?_cons_succ];rw[<-ajo cs (k+1) i,show k+1+i=k+(i+1) from by omega]
def VH(cs:List Cell)(i:Nat):get (tV+i) (vC 0 cs)=cs[i]? :=by
 have:=ajo cs 0 i
 rwa [Nat.zero_add] at this
def impμ(hs:List Value):Nat->Value:=λk=>hs.getD (k - tV) undef
def ajp{r:Nat}:∀{l:List Nat} {k i:Nat},idxOf r k l=some i->k<=i/\l[i - k]? =some r
 |[],_,_,h=>by simp[idxOf] at h
 |j::l,k,i,h=>by
  simp only[idxOf] at h
  by_cases e:r=j
  ·subst e;simp at h;subst h;simp
  ·rw[yG e] at h;simp only[aQ] at h;obtain⟨h1,h2⟩:=ajp h;refine⟨ak, ?_⟩;rw[show i - k=(i - (k+1))+1 from by omega,List.getElem?_cons_succ];exact h2
def ajq{m:Mem}:∀{rs:List Nat} {cs:List Cell} {i r:Nat},kinds m rs cs->rs[i]? =some r->∃c c',get r m=some c/\cs[i]? =some c'/\sameKind c c'
 |[],_,_,_,_,h=>by simp at h
 |r::rs,_,0,r',⟨c,c',cs',h1,h2,h3,_⟩,h=>by simp at h;subst h;subst h1;exact⟨c,c',h2,rfl,h3⟩
 |r::rs,_,i+1,r',⟨c,c',cs',h1,h2,h3,h4⟩,h=>by subst h1;simp only[List.getElem?_cons_succ] at h|-;exact ajq h4 h
def ZF(U:Nat->Prop)(G:GS)(L:List Nat):Nat->Prop:=λb=>U b/\∀r,b∈G.F r->r∈L
def VI{L:List Nat}:(Gh U w G).le (view w (ZF U G L) (· ∈G.E)):=by
 intro b o v hv;unfold Gh view at hv;split at hv
 ·rename_i hc;unfold view;rw[if_pos ⟨⟨hc.1,λr hr=>absurd (.inr ⟨r,hr⟩) hc.2⟩,λhE=>hc.2 (.inl hE)⟩];exact hv
 ·cases hv
structure amc(base:Nat)(U:Nat->Prop)(w:World)(m:Mem)(G:GS)(imp:List Nat)(cells:List Cell):Prop where
 ok:Fj base U w m G
 out:∀r,r∈G.out↔r∈imp
 kd:kinds m imp cells
def aCm(hg:Fj base U w m G){r:Nat}{fz fl:Bool}{ver s:Nat}{rows:List Row}(hc:get r m=some (.arr fz fl ver s rows))(hro:r ∉ G.out){L:List Nat}(hL:fz=false->r∈L)(o:Bool):
  ro (view w (ZF U G L) (· ∈G.E)) (.sl o s rows) (G.μ r):=by
 have hq:=hg.cell r _ hc hro;cases fz with
 |true=>exact adT (Jw VI _ _ hq.1)
 |false=>
  refine aiH VI (Nz λb hb=>⟨⟨(hg.lt b (.inr ⟨r,hb⟩)).2.2,λk hk=> ?_⟩,hg.djE r b hb⟩) hq o
  by_cases e:k=r
  ·rw[e];exact hL rfl
  ·exact absurd hk (hg.dj r k (Ne.symm e) b hb)
mutual
def aom{imp:List Nat}{cells:List Cell}(C:amc base U w m G imp cells):∀{v:V} {g:Value} (_:aV G.μ m (Gh U w G) v g) {v':V} {lt:List Nat} {m':Mem} {l l':Log}
  (_:(lend imp v).run m l=some ((v',lt),m',l')),m'=m/\∀L:List Nat,(∀r,r∈lt->r∈L)->aV (impμ (imp.map G.μ)) (vC 0 cells) (view w (ZF U G L) (· ∈G.E)) v' g
 | .d x,g,hv,v',lt,m',l,l',h=>by simp only[lend,run_pure,jW,oI] at h;obtain⟨⟨rfl,rfl⟩,rfl,rfl⟩:=h;refine⟨rfl,λL hL=> ?_⟩;simp only[aV] at hv|-;exact Jw VI _ _ (ayM hv)
 | .nil s,g,hv,v',lt,m',l,l',h=>by simp only[lend,run_pure,jW,oI] at h;obtain⟨⟨rfl,rfl⟩,rfl,rfl⟩:=h;refine⟨rfl,λL hL=> ?_⟩;simp only[aV] at hv|-;simp[ro,hv]
 | .own r ver,g,hv,v',lt,m',l,l',h=>by
  simp only[lend] at h;replace h:=au h;obtain⟨c,m1,l1,h1,h⟩:=h;rw[vF] at h1;cases h1;cases hc:get r m with
  |none=>rw[hc] at h;exact aH h
  |some c=>
   rw[hc] at h;cases c with
   |arr fz fl nG s rows=>
    simp only at h;replace h:=au h;obtain⟨_,m2,l2,h1,h⟩:=h;obtain⟨hb,rfl,rfl⟩:=fK h1;have hb:=Dy hb;subst hb;replace h:=au h;obtain⟨_,m2,l2,h1,h⟩:=h;obtain⟨hi,rfl,rfl⟩:=fK h1;simp only[run_pure,jW,oI] at h;obtain⟨⟨rfl,rfl⟩,rfl,rfl⟩:=h;simp only[aV,hc] at hv;have hv:=hv.2.2 trivial;subst hv;refine⟨rfl,λL hL=> ?_⟩;have hro:r ∉ G.out:=λhr=>UA hi ((C.out r).1 hr)
    simp only[aV];exact ajk (aCm C.ok hc hro (λhf=>hL r (by subst hf;simp)) true)
   |_=>exact aH h
 | .ptr r off,g,hv,v',lt,m',l,l',h=>by simp only[lend] at h;replace h:=au h;obtain⟨i,m1,l1,h1,h⟩:=h;obtain⟨hi,rfl,rfl⟩:=jA h1;simp only[run_pure,jW,oI] at h;obtain⟨⟨rfl,rfl⟩,rfl,rfl⟩:=h;refine⟨rfl,λL hL=> ?_⟩;obtain⟨_,h2⟩:=ajp hi;rw[Nat.sub_zero] at h2;obtain⟨c,c',k1,k2,k3⟩:=ajq C.kd h2;simp only[aV,k1] at hv;simp only[aV,VH,k2];refine⟨hv.1, ?_⟩;replace hv:=hv.2;cases c<;>cases c'<;>simp only[sameKind] at k3 hv|-;obtain⟨b,e1,e2⟩:=hv;refine⟨b, ?_,e2⟩;simp only[impμ,Nat.add_sub_cancel_left,List.getD_eq_getElem?_getD,List.getElem?_map,h2,Nw,Option.getD_some,e1]
 | .DC row off,g,hv,v',lt,m',l,l',h=>by simp only[lend,run_pure,jW,oI] at h;obtain⟨⟨rfl,rfl⟩,rfl,rfl⟩:=h;refine⟨rfl,λL hL=> ?_⟩;simp only[aV] at hv|-;obtain⟨b,o,e1,e2⟩:=hv;exact⟨b,o,e1,Qg VI row b o e2⟩
 | .clo f a b,g,hv,v',lt,m',l,l',h=>by simp only[lend] at h;replace h:=au h;obtain⟨⟨a',la⟩,m1,l1,h1,h⟩:=h;simp only at h;replace h:=au h;obtain⟨⟨b',lb⟩,m2,l2,h2,h⟩:=h;simp only[run_pure,jW,oI] at h;obtain⟨⟨rfl,rfl⟩,rfl,rfl⟩:=h;simp only[aV] at hv;obtain⟨x,y,rfl,e2,e3⟩:=hv;obtain⟨hm1,q1⟩:=aeX C e2 h1;rw[hm1] at h2;obtain⟨hm2,q2⟩:=aeX C e3 h2;refine⟨hm2,λL hL=> ?_⟩;simp only[aV];exact⟨x,y,rfl,q1 L (λr hr=>hL r (by simp[hr])),q2 L (λr hr=>hL r (by simp[hr]))⟩
 | .agg cs,g,hv,v',lt,m',l,l',h=>by simp only[lend] at h;replace h:=au h;obtain⟨⟨a',la⟩,m1,l1,h1,h⟩:=h;simp only[run_pure,jW,oI] at h;obtain⟨⟨rfl,rfl⟩,rfl,rfl⟩:=h;simp only[aV] at hv;obtain⟨x,rfl,e2⟩:=hv;obtain⟨hm1,q1⟩:=aeX C e2 h1;refine⟨hm1,λL hL=> ?_⟩;simp only[aV];exact⟨x,rfl,q1 L hL⟩
 | .FP _ _ _ _,g,hv,v',lt,m',l,l',h=>aH h
 | .Kv _,g,hv,v',lt,m',l,l',h=>aH h
 | .undef,g,hv,v',lt,m',l,l',h=>aH h
def aeX{imp:List Nat}{cells:List Cell}(C:amc base U w m G imp cells):∀{vs:List V} {gs:List Value} (_:dA G.μ m (Gh U w G) vs gs) {vs':List V} {lt:List Nat} {m':Mem} {l l':Log}
  (_:(ajd imp vs).run m l=some ((vs',lt),m',l')),m'=m/\∀L:List Nat,(∀r,r∈lt->r∈L)->dA (impμ (imp.map G.μ)) (vC 0 cells) (view w (ZF U G L) (· ∈G.E)) vs' gs
 |[],gs,hv,v',lt,m',l,l',h=>by simp only[ajd,run_pure,jW,oI] at h;obtain⟨⟨rfl,rfl⟩,rfl,rfl⟩:=h;simp only[dA] at hv;subst hv;exact⟨rfl,λ_ _=>by simp[dA]⟩
 |v::vs,gs,hv,v',lt,m',l,l',h=>by obtain⟨g,gs',rfl,hv1,hv2⟩:=rE hv;simp only[ajd] at h;replace h:=au h;obtain⟨⟨a',la⟩,m1,l1,h1,h⟩:=h;simp only at h;replace h:=au h;obtain⟨⟨b',lb⟩,m2,l2,h2,h⟩:=h;simp only[run_pure,jW,oI] at h;obtain⟨⟨rfl,rfl⟩,rfl,rfl⟩:=h;obtain⟨hm1,q1⟩:=aom C hv1 h1;rw[hm1] at h2;obtain⟨hm2,q2⟩:=aeX C hv2 h2;refine⟨hm2,λL hL=> ?_⟩;simp only[dA];exact⟨g,gs',rfl,q1 L (λr hr=>hL r (by simp[hr])),q2 L (λr hr=>hL r (by simp[hr]))⟩
end
def aeY{imp:List Nat}{cells:List Cell}(C:amc base U w m G imp cells):∀{vs:List V} {gs:List Value} (_:dA G.μ m (Gh U w G) vs gs) {row:Row} {lt:List Nat} {m':Mem} {l l':Log}
  (_:(WZ imp vs).run m l=some ((row,lt),m',l')),m'=m/\∀L:List Nat,(∀r,r∈lt->r∈L)->jg (view w (ZF U G L) (· ∈G.E)) row gs
 |[],gs,hv,row,lt,m',l,l',h=>by simp only[WZ,run_pure,jW,oI] at h;obtain⟨⟨rfl,rfl⟩,rfl,rfl⟩:=h;exact⟨rfl,λ_ _=>by simp[jg]⟩
 |v::vs,gs,hv,row,lt,m',l,l',h=>by
  obtain⟨g,gs',rfl,hv1,hv2⟩:=rE hv;simp only[WZ] at h;replace h:=au h;obtain⟨⟨a',la⟩,m1,l1,h1,h⟩:=h;obtain⟨hm1,q1⟩:=aom C hv1 h1;cases a' with
  |d x=>simp only at h;replace h:=au h;obtain⟨⟨b',lb⟩,m2,l2,h2,h⟩:=h;simp only[run_pure,jW,oI] at h;obtain⟨⟨rfl,rfl⟩,rfl,rfl⟩:=h;rw[hm1] at h2;obtain⟨hm2,q2⟩:=aeY C hv2 h2;refine⟨hm2,λL hL=> ?_⟩;have:=q1 L (λr hr=>hL r (by simp[hr]));simp only[aV] at this;exact⟨g,gs',rfl,this,q2 L (λr hr=>hL r (by simp[hr]))⟩
  |_=>exact aH h
def atz{imp:List Nat}{cells:List Cell}(C:amc base U w m G imp cells){v:V}{g:Value}(hv:aV G.μ m (Gh U w G) v g){v':V}{lt:List Nat}{m':Mem}{l l':Log}
  (h:(aiF imp v).run m l=some ((v',lt),m',l')):m'=m/\∀L:List Nat,(∀r,r∈lt->r∈L)->aV (impμ (imp.map G.μ)) (vC 0 cells) (view w (ZF U G L) (· ∈G.E)) v' g:=by
 cases v with
 |ptr r off=>
  simp only[aiF] at h;replace h:=au h;obtain⟨c,m1,l1,h1,h⟩:=h;rw[vF] at h1;cases h1;cases hc:get r m with
  |none=>rw[hc] at h;exact aH h
  |some c=>
   rw[hc] at h;cases c with
   |box t cs=>
    simp only at h;replace h:=au h;obtain⟨_,m2,l2,h1,h⟩:=h;obtain⟨hi,rfl,rfl⟩:=fK h1;replace h:=au h;obtain⟨⟨row,la⟩,m2,l2,h1,h⟩:=h;simp only[run_pure,jW,oI] at h;obtain⟨⟨rfl,rfl⟩,rfl,rfl⟩:=h;have hro:r ∉ G.out:=λhr=>UA hi ((C.out r).1 hr)
    obtain⟨b,a,e1,e2,e3,e4⟩:=C.ok.cell r _ hc hro;obtain⟨hm,q⟩:=aeY C e3 h1;refine⟨hm,λL hL=> ?_⟩;simp only[aV,hc] at hv|-;obtain⟨b',e5,e6⟩:=hv.2;rw[e1] at e5;cases e5;refine⟨b,0,by rw[Nat.zero_add];exact e6,adR row 0 a.toList (λj u hj=> ?_) (q L (λk hk=>hL k (by simp[hk])))⟩;rw[Nat.zero_add];have hb:b∈G.F r:=by rw[e4];simp
    refine Nz (N:=[b]) (λb' hb'=> ?_) b (by simp) a t _ e2 j u hj;simp only[List.mem_singleton] at hb';subst hb';refine⟨⟨(C.ok.lt _ (.inr ⟨r,hb⟩)).2.2,λk hk=> ?_⟩,C.ok.djE r _ hb⟩
    by_cases e:k=r
    ·rw[e];exact hL r (by simp)
    ·exact absurd hk (C.ok.dj r k (Ne.symm e) _ hb)
   |_=>exact aH h
 |DC row off=>simp only[aiF,run_pure,jW,oI] at h;obtain⟨⟨rfl,rfl⟩,rfl,rfl⟩:=h;refine⟨rfl,λL hL=> ?_⟩;simp only[aV] at hv|-;obtain⟨b,o,e1,e2⟩:=hv;exact⟨b,o,e1,Qg VI row b o e2⟩
 |_=>exact aH h
def ahp{A:Adv}{f:Nat}{imp:List Nat}{cells:List Cell}(C:amc base U w m G imp cells):
  ∀{vs:List V} {gs:List Value} {i:Nat} {N:List Nat} (_:Vy A f G.μ m (dM w) (Gh U w G) i vs gs N) {vs':List V} {lt:List Nat} {m':Mem} {l l':Log}
  (_:(W9 A imp f i vs).run m l=some ((vs',lt),m',l')),m'=m/\∀L:List Nat,(∀r,r∈lt->r∈L)->Vy A f (impμ (imp.map G.μ)) (vC 0 cells) (dM w) (view w (ZF U G L) (· ∈G.E)) i vs' gs N
 |[],gs,i,N,hv,v',lt,m',l,l',h=>by simp only[W9,run_pure,jW,oI] at h;obtain⟨⟨rfl,rfl⟩,rfl,rfl⟩:=h;exact⟨rfl,λ_ _=>hv⟩
 |v::vs,gs,i,N,hv,v',lt,m',l,l',h=>by
  simp only[Vy] at hv;obtain⟨g,gs',N1,N2,rfl,rfl,hv1,hv2⟩:=hv;simp only[W9] at h;replace h:=au h;obtain⟨⟨a',la⟩,m1,l1,h1,h⟩:=h;simp only at h;replace h:=au h;obtain⟨⟨b',lb⟩,m2,l2,h2,h⟩:=h;simp only[run_pure,jW,oI] at h;obtain⟨⟨rfl,rfl⟩,rfl,rfl⟩:=h;have step:m1=m/\∀L:List Nat,(∀r,r∈la->r∈L)->(match NY A f i with
   |1=>∃x,a'=.d x/\ow (dM w) (view w (ZF U G L) (· ∈G.E)) x g N1
   |_=>N1=[]/\aV (impμ (imp.map G.μ)) (vC 0 cells) (view w (ZF U G L) (· ∈G.E)) a' g):=by
   split at h1
   ·rename_i hmo;rw[hmo] at hv1|-;simp only[run_pure,jW,oI] at h1;obtain⟨⟨rfl,rfl⟩,rfl,rfl⟩:=h1;refine⟨rfl,λL hL=> ?_⟩;obtain⟨x,hx,hq⟩:=hv1;exact⟨x,hx,X8 VI hq⟩
   ·rename_i hmo;rw[hmo] at hv1|-;obtain⟨hN,hv1⟩:=hv1;obtain⟨rfl,q⟩:=atz C hv1 h1;exact⟨rfl,λL hL=>⟨hN,q L hL⟩⟩
   ·rename_i aSD a0r;have hm1:∀(α:Prop) (β:Prop),(match NY A f i with|1=>α|_=>β)=β:=by
     intro α β;split
     ·rename_i e;exact absurd e aSD
     ·rfl
    rw[hm1] at hv1;obtain⟨hN,hv1⟩:=hv1;obtain⟨rfl,q⟩:=aom C hv1 h1;refine⟨rfl,λL hL=> ?_⟩;rw[hm1];exact⟨hN,q L hL⟩
  obtain⟨hm1,q1⟩:=step;rw[hm1] at h2;obtain⟨hm2,q2⟩:=ahp C hv2 h2;refine⟨hm2,λL hL=> ?_⟩;simp only[Vy];exact⟨g,gs',N1,N2,rfl,rfl,q1 L (λr hr=>hL r (by simp[hr])),q2 L (λr hr=>hL r (by simp[hr]))⟩
end
def agi{w:World}{U X:Nat->Prop}{b o:Nat}{v:Value}(h:view w U X b o=some v):U b/\¬X b/\w.cell? ⟨b,o,none⟩=some v:=by
 unfold view at h;split at h
 ·rename_i hc;exact⟨hc.1,hc.2,h⟩
 ·cases h
def aiI{w:World}{U X:Nat->Prop}{b o:Nat}{v:Value}(h1:U b)(h2:¬X b)(h3:w.cell? ⟨b,o,none⟩=some v):view w U X b o=some v:=by unfold view;rw[if_pos ⟨h1,h2⟩];exact h3
def cell_of_heap{w w':World}{b:Nat}(h:w'.heap[b]? =w.heap[b]?)(o:Nat):w'.cell? ⟨b,o,none⟩=w.cell? ⟨b,o,none⟩:=by simp[World.cell?,h]
def lt_of_cell{w:World}{b o:Nat}{v:Value}(h:w.cell? ⟨b,o,none⟩=some v):b<w.heap.size:=by have:=block_lt_of_cell h;simpa using this
section
variable {base:Nat} {U:Nat->Prop} {w w':World} {m:Mem} {G:GS}
def Fj.world(hg:Fj base U w m G)(hk:Keep G.E w w'){E':List Nat}(hn:E'.Nodup)(hE:∀b,b∈E'->(b∈G.E\/w.heap.size<=b)/\b<w'.heap.size):
  Fj base U w' m {G with E:=E'}/\(Gh U w G).le (Gh U w' {G with E:=E'}):=by
 have hnE:∀b,b<w.heap.size->b ∉ G.E->b ∉ E':=λb hb hx he=>by
  rcases(hE b he).1 with h|h
  ·exact hx h
  ·omega
 have hF:∀r b,b∈G.F r->w'.heap[b]? =w.heap[b]? :=λr b hb=>hk.block b (hg.lt b (.inr ⟨r,hb⟩)).1 (hg.djE r b hb)
 have hle:(Gh U w G).le (Gh U w' {G with E:=E'}):=by
  intro b o v hv;obtain⟨h1,h2,h3⟩:=agi hv;have hlt:=lt_of_cell h3;have hbE:b ∉ G.E:=λh=>h2 (.inl h)
  refine aiI h1 ?_ ((cell_of_heap (hk.block b hlt hbE) o).trans h3);rintro(h|h)
  ·exact hnE b hlt hbE h
  ·exact h2 (.inr h)
 refine⟨⟨?_,hg.dj,λr b hb=>hnE b (hg.lt b (.inr ⟨r,hb⟩)).1 (hg.djE r b hb),hg.nd,hn, ?_,λb hb=>hg.up b (Nat.le_trans hk.size hb),Nat.le_trans hg.bs hk.size,hg.none_,hg.out_⟩,hle⟩
 ·intro r c hc ho;exact Jy (yF _ _) hle rfl (λb hb=>hF r b hb) (hg.cell r c hc ho)
 ·rintro b (h|⟨r,h⟩)
  ·refine⟨(hE b h).2, ?_⟩;rcases(hE b h).1 with h'|h'
   ·exact(hg.lt b (.inl h')).2
   ·exact⟨Nat.le_trans hg.bs h',hg.up b h'⟩
  ·have:=hg.lt b (.inr ⟨r,h⟩);exact⟨Nat.lt_of_lt_of_le this.1 hk.size,this.2⟩
def amd:∀{L:List Nat} {m:Mem} {G:GS} (_:Fj base U w m G) (_:∀r,r∈L->r ∉ G.out) {x:Unit} {m':Mem} {l l':Log} (_:(freeze L).run m l=some (x,m',l')),
  ∃F',Fj base U w m' ⟨G.μ,F',G.E,G.out⟩/\Zg m G m' ⟨G.μ,F',G.E,G.out⟩/\(∀r,r∈L->F' r=[])/\(∀r,F' r=[]\/F' r=G.F r)/\(∀k,k ∉ L->get k m'=get k m)
 |[],m,G,hg,ho,x,m',l,l',h=>by simp only[Vm.freeze,run_pure,jW,oI] at h;obtain⟨_,rfl,rfl⟩:=h;exact⟨G.F,hg,Zg.refl _ _,by simp,λr=> .inr rfl,λ_ _=>rfl⟩
 |r::L,m,G,hg,ho,x,m',l,l',h=>by
  simp only[Vm.freeze] at h;replace h:=au h;obtain⟨c,m1,l1,h1,h⟩:=h;rw[vF] at h1;cases h1;cases hc:get r m with
  |none=>rw[hc] at h;exact aH h
  |some c=>
   rw[hc] at h;cases c with
   |arr fz fl ver s rows=>
    replace h:=au h;obtain⟨_,m1,l1,h1,h⟩:=h;simp only[FT,jW,oI] at h1;obtain⟨_,rfl,rfl⟩:=h1;obtain⟨k1,k2,_⟩:=hg.freeze hc (ho r (by simp));obtain⟨F',q1,q2,q3,q4,q5⟩:=amd k1 (λk hk=>ho k (by simp[hk])) h;refine⟨F',q1,k2.trans q2, ?_, ?_, ?_⟩
    ·intro k hk;simp only[List.mem_cons] at hk;rcases hk with rfl|hk
     ·rcases q4 k with e|e
      ·exact e
      ·rw[e];simp
     ·exact q3 k hk
    ·intro k;rcases q4 k with e|e
     ·exact .inl e
     ·by_cases ek:k=r
      ·subst ek;rw[e];left;simp
      ·have e':F' k=PN G.F r [] k:=e;rw[e',iH _ ek];exact .inr rfl
    ·intro k hk;simp only[List.mem_cons,not_or] at hk;rw[q5 k hk.2,jT hk.1]
   |_=>exact aH h
def ajr{k:IntKind}{x:D}{n:Int}(h:asInt k x=some n):x=.int k n:=by
 cases x<;>simp[asInt] at h;rename_i k' n'
 by_cases e:k'=k
 ·subst e;simp at h;subst h;rfl
 ·simp[e] at h
def ahq{x:D}{b:Bool}(h:asBool x=some b):x=.bool b:=by cases x<;>simp[asBool] at h;subst h;rfl
def ajs{x:D}{b:List UInt8}(h:al5 x=some b):x=.str b:=by cases x<;>simp[al5] at h;subst h;rfl
def ame{s:Nat}{x:D}{rows:List Row}(h:ayA s x=some rows):∃o,x=.sl o s rows:=by
 cases x<;>simp[ayA] at h;rename_i o s' rows'
 by_cases e:s'=s
 ·subst e;simp at h;subst h;exact⟨o,rfl⟩
 ·rw[yG e] at h;simp at h
def ajt{s:Nat}{x:D}{rows:List Row}(h:avj s x=some rows):x=.sl true s rows:=by
 cases x<;>simp[avj] at h;rename_i o s' rows';cases o<;>simp at h
 by_cases e:s'=s
 ·subst e;simp at h;subst h;rfl
 ·rw[yG e] at h;simp at h
def apW{row:Row}{j:Nat}{x:D}{r:Row}(h:row.drop j=x::r):nth row j=x/\row.drop (j+1)=r:=by
 have h1:row[j]? =some x:=by
  have:(row.drop j)[0]? =some x:=by rw[h];rfl
  rwa [List.getElem?_drop,Nat.add_zero] at this
 refine⟨by simp[nth,h1], ?_⟩;rw[<-List.drop_drop,h];rfl
def Fj.aju(hg:Fj base U w m G){N E:List Nat}(hE:(N++E).Perm G.E):Fj base U w m {G with E:=E}/\Zg m G m {G with E:=E}/\∀{x:D} {g:Value},ow (dM w) (Gh U w G) x g N->ro (Gh U w {G with E:=E}) x g:=by
 have hnd:=hE.nodup_iff.2 hg.ndE;have hmem:∀b,b∈N++E->b∈G.E:=λb hb=>hE.mem_iff.1 hb
 obtain⟨h1,h2⟩:=hg.less E (List.nodup_append.1 hnd).2.1 (λb hb=>hmem b (by simp[hb]));refine⟨h1,h2,fun{x g} q=>aGs h2.view x g N (Nz λb hb=>⟨(hg.lt b (.inl (hmem b (by simp[hb])))).2.2, ?_⟩) q⟩;rintro(h|⟨r,h⟩)
 ·exact(List.nodup_append.1 hnd).2.2 b hb b h rfl
 ·exact hg.djE r b h (hmem b (by simp[hb]))
structure Grew(base:Nat)(U:Nat->Prop)(w:World)(m:Mem)(G:GS)(m':Mem)(G':GS)(E:List Nat):Prop where
 ok:Fj base U w m' G'
 le:Zg m G m' G'
 E:G'.E=E
 out:G'.out=G.out
 old:∀k c,get k m=some c->get k m'=some c
 μ:∀k c,get k m=some c->G'.μ k=G.μ k
def Grew.trans{m1 m2 m3:Mem}{G1 G2 G3:GS}{E E':List Nat}(a:Grew base U w m1 G1 m2 G2 E)(b:Grew base U w m2 G2 m3 G3 E'):Grew base U w m1 G1 m3 G3 E':=
 ⟨b.ok,a.le.trans b.le,b.E,b.out.trans a.out,λk c h=>b.old k c (a.old k c h),λk c h=>(b.μ k c (a.old k c h)).trans (a.μ k c h)⟩
def X9{k:Nat}{c:Cell}{x:Unit}{m':Mem}{l l':Log}(h:(new k c).run m l=some (x,m',l')):get k m=none/\m'=put k c m:=by
 simp only[new] at h;replace h:=au h;obtain⟨_,m1,l1,h1,h⟩:=h;simp only[free] at h1;replace h1:=au h1;obtain⟨c',m2,l2,h2,h1⟩:=h1;rw[vF] at h2;cases h2;cases hc:get k m with
 |some c=>rw[hc] at h1;exact aH h1
 |none=>rw[hc] at h1;simp only[run_pure,jW,oI] at h1;obtain⟨_,rfl,rfl⟩:=h1;simp only[FT,jW,oI] at h;exact⟨rfl,h.2.1.symm⟩
def amf(hg:Fj base U w m G)(ho:∀r,r∈G.out->∃c,get r m=some c){k:Nat}{fl:Bool}{s:Nat}{rows:List Row}{g:Value}{N E:List Nat}(hE:(N++E).Perm G.E)
  (hq:ow (dM w) (Gh U w G) (.sl true s rows) g N) {x:Unit} {m':Mem} {l l':Log} (h:(new k (.arr false fl 0 s rows)).run m l=some (x,m',l')):
  ∃G',Grew base U w m G m' G' E/\aV G'.μ m' (Gh U w G') (.own k 0) g:=by
 obtain⟨hn,rfl⟩:=X9 h;have hk:k ∉ G.out:=λhx=>by obtain⟨c,hc⟩:=ho k hx;rw[hn] at hc;cases hc
 obtain⟨F',h1,h2⟩:=hg.aHk fl hn hk hE hq;refine⟨_,⟨h1,h2,rfl,rfl,λj c hj=> ?_,λj c hj=> ?_⟩, ?_⟩
 ·have hne:j≠k:=λe=>by subst e;rw[hn] at hj;cases hj
  rw[jT hne];exact hj
 ·exact Ny _ (λe=>by subst e;rw[hn] at hj;cases hj)
 ·have:abL g:=by simp only[ow] at hq;rcases hq with⟨_,rfl,_⟩|⟨b,cap,cs,t,N',rfl,_⟩<;>exact⟨_,_,_,rfl⟩
  simp[aV,iE,this]
def atA(hg:Fj base U w m G)(ho:∀r,r∈G.out->∃c,get r m=some c){k b:Nat}{T:TypeId}{vs:List V}{a:Array Value}{E:List Nat}(hE:(b::E).Perm G.E)
  (hH:dM w b=some (.cells a T (0,0))) (hq:dA G.μ m (Gh U w G) vs a.toList) {x:Unit} {m':Mem} {l l':Log} (h:(new k (.box T vs)).run m l=some (x,m',l')):
  ∃G',Grew base U w m G m' G' E/\aV G'.μ m' (Gh U w G') (.ptr k 0) (.pointer (some ⟨b,0,none⟩)):=by
 obtain⟨hn,rfl⟩:=X9 h;have hk:k ∉ G.out:=λhx=>by obtain⟨c,hc⟩:=ho k hx;rw[hn] at hc;cases hc
 have hnd:=hE.nodup_iff.2 hg.ndE;have hμ:∀j,j≠k->upM G.μ k (.pointer (some ⟨b,0,none⟩)) j=G.μ j:=λj e=>Ny _ e
 have hle:Et G.μ m (upM G.μ k (.pointer (some ⟨b,0,none⟩))) (put k (.box T vs) m):=Hg hμ (λc h=>by rw[hn] at h;cases h);obtain⟨h1,h2⟩:=hg.set k (.box T vs) (upM G.μ k (.pointer (some ⟨b,0,none⟩))) [b] E G.out (by simpa using hnd) (λx hx=> .inr (hE.mem_iff.1 (by simpa using hx))) hle hμ (λ_ _=>Iff.rfl) (λh=>absurd h hk)
  (λhv _=>⟨b,a,Eu _ _ _,hH,vV hle hv _ _ hq,rfl⟩)
 refine⟨_,⟨h1,h2,rfl,rfl,λj c hj=> ?_,λj c hj=> ?_⟩, ?_⟩
 ·rw[jT (λe=>by subst e;rw[hn] at hj;cases hj)];exact hj
 ·exact Ny _ (λe=>by subst e;rw[hn] at hj;cases hj)
 ·simp[aV,iE,ayK]
def ahr(hg:Fj base U w m G)(ho:∀r,r∈G.out->∃c,get r m=some c){row:Row}{j:Nat}{x:D}{g:Value}{N E:List Nat}(hE:(N++E).Perm G.E)(hx:nth row j=x)
  (hq:ow (dM w) (Gh U w G) x g N) {ct:CT} {own fl:Bool} {key:Nat} {v:V} {m':Mem} {l l':Log}
  (h:(RG own fl key row j ct).run m l=some (v,m',l')):
  ∃G',Grew base U w m G m' G' E/\aV G'.μ m' (Gh U w G') v g:=by
 obtain⟨d1,d2,d3⟩:=hg.aju hE;have plain:Grew base U w m G m {G with E:=E} E:=⟨d1,d2,rfl,rfl,λ_ _ h=>h,λ_ _ _=>rfl⟩
 have hro:=d3 hq;cases ct with
 |int k=>
  simp only[RG,jR,hx,Acc.run] at h;cases ha:asInt k x with
  |none=>simp[ha,Acc.run] at h
  |some n=>simp only[ha,Acc.run,jW,oI] at h;obtain⟨rfl,rfl,rfl⟩:=h;refine⟨_,plain, ?_⟩;rw[ajr ha] at hro;simpa[aV] using hro
 |bool=>
  simp only[RG,al6,hx,Acc.run] at h;cases ha:asBool x with
  |none=>simp[ha,Acc.run] at h
  |some n=>simp only[ha,Acc.run,jW,oI] at h;obtain⟨rfl,rfl,rfl⟩:=h;refine⟨_,plain, ?_⟩;rw[ahq ha] at hro;simpa[aV] using hro
 |str=>
  simp only[RG,cStr,hx,Acc.run] at h;cases ha:al5 x with
  |none=>simp[ha,Acc.run] at h
  |some n=>simp only[ha,Acc.run,jW,oI] at h;obtain⟨rfl,rfl,rfl⟩:=h;refine⟨_,plain, ?_⟩;rw[ajs ha] at hro;simpa[aV] using hro
 |other=>exact aH h
 |sl s=>
  cases own with
  |false=>
   simp only[RG,cSl,hx,Acc.run] at h;cases ha:ayA s x with
   |none=>simp[ha,Acc.run] at h
   |some n=>simp only[ha,Acc.run,jW,oI] at h;obtain⟨rfl,rfl,rfl⟩:=h;refine⟨_,plain, ?_⟩;obtain⟨o,rfl⟩:=ame ha;simp only[aV];exact ajk hro
  |true=>
   simp only[RG,aja,hx,Acc.run] at h;cases ha:avj s x with
   |none=>simp[ha,Acc.run] at h
   |some n=>simp only[ha,Acc.run] at h;have:=ajt ha;subst this;replace h:=au h;obtain⟨_,m1,l1,h1,h⟩:=h;obtain⟨rfl,rfl,rfl⟩:=rpu h;exact amf hg ho hE hq h1
def FU{H:Heap}{h:View}{x:D}{r:Row}{cs:List Value}{N:List Nat}(q:jS H h (x::r) cs N):∃v cs' N1 N2,cs=v::cs'/\N=N1++N2/\ow H h x v N1/\jS H h r cs' N2:=by simpa[jS] using q
def agj{N1 N2 E E0:List Nat}(h:(N1++N2++E).Perm E0):(N1++(N2++E)).Perm E0:=by rwa [Qc] at h
def ajv{own:List Nat}{r dst:Nat}{row:Row}:∀{cts:List CT} {fs:List Bool} {j:Nat} {m:Mem} {G:GS} {gs:List Value} {N E:List Nat} (_:Fj base U w m G) (_:∀r,r∈G.out->∃c,get r m=some c)
  (_:(N++E).Perm G.E) (_:jS (dM w) (Gh U w G) (row.drop j) gs N) (_:row.length=j+cts.length) (_:gs.length=cts.length) {vs:List V} {m':Mem} {l l':Log}
  (_:(aeP own r dst row j cts fs).run m l=some (vs,m',l')),∃G',Grew base U w m G m' G' E/\dA G'.μ m' (Gh U w G') vs gs
 |[],fs,j,m,G,gs,N,E,hg,ho,hE,hq,hlen,hgl,vs,m',l,l',h=>by simp only[aeP,run_pure,jW,oI] at h;obtain⟨rfl,rfl,rfl⟩:=h;rw[List.drop_eq_nil_of_le (by simp at hlen;omega)] at hq;simp only[jS] at hq;subst hq;simp at hgl;subst hgl;obtain⟨d1,d2,_⟩:=hg.aju hE;exact⟨_,⟨d1,d2,rfl,rfl,λ_ _ h=>h,λ_ _ _=>rfl⟩,by simp[dA]⟩
 |ct::cts,fs,j,m,G,gs,N,E,hg,ho,hE,hq,hlen,hgl,vs,m',l,l',h=>by
  cases hd:row.drop j with
  |nil=>have:=congrArg List.length hd;simp at this hlen;omega
  |cons x rest=>obtain⟨hx,hrest⟩:=apW hd;rw[hd] at hq;obtain⟨g,gs',N1,N2,rfl,rfl,q1,q2⟩:=FU hq;simp only[aeP] at h;replace h:=au h;obtain⟨v,m1,l1,h1,h⟩:=h;replace h:=au h;obtain⟨vs',m2,l2,h2,h⟩:=h;obtain⟨rfl,rfl,rfl⟩:=rpu h;obtain⟨G1,t1,s1⟩:=ahr hg ho (agj hE) hx q1 h1;obtain⟨G2,t2,s2⟩:=ajv t1.ok (λk hk=>by rw[t1.out] at hk;obtain⟨c,hc⟩:=ho k hk;exact⟨c,t1.old k c hc⟩) (by rw[t1.E]) (by rw[hrest];exact adU t1.le.view q2) (by simp at hlen;omega) (by simpa using hgl) h2;refine⟨G2,t1.trans t2, ?_⟩;simp only[dA];exact⟨g,gs',rfl,t2.le.aV s1,s2⟩
def ZG{att:List Nat}{dst ri:Nat}{row:Row}:∀{cts:List CT} {fs:List Bool} {j:Nat} {m:Mem} {G:GS} {gs:List Value} {N E:List Nat} (_:Fj base U w m G) (_:∀r,r∈G.out->∃c,get r m=some c)
  (_:(N++E).Perm G.E) (_:jS (dM w) (Gh U w G) (row.drop j) gs N) (_:row.length=j+cts.length) (_:gs.length=cts.length) {vs:List V} {m':Mem} {l l':Log}
  (_:(Xa att dst ri row j cts fs).run m l=some (vs,m',l')),∃G',Grew base U w m G m' G' E/\dA G'.μ m' (Gh U w G') vs gs
 |[],fs,j,m,G,gs,N,E,hg,ho,hE,hq,hlen,hgl,vs,m',l,l',h=>by simp only[Xa,run_pure,jW,oI] at h;obtain⟨rfl,rfl,rfl⟩:=h;rw[List.drop_eq_nil_of_le (by simp at hlen;omega)] at hq;simp only[jS] at hq;subst hq;simp at hgl;subst hgl;obtain⟨d1,d2,_⟩:=hg.aju hE;exact⟨_,⟨d1,d2,rfl,rfl,λ_ _ h=>h,λ_ _ _=>rfl⟩,by simp[dA]⟩
 |ct::cts,fs,j,m,G,gs,N,E,hg,ho,hE,hq,hlen,hgl,vs,m',l,l',h=>by
  cases hd:row.drop j with
  |nil=>have:=congrArg List.length hd;simp at this hlen;omega
  |cons x rest=>obtain⟨hx,hrest⟩:=apW hd;rw[hd] at hq;obtain⟨g,gs',N1,N2,rfl,rfl,q1,q2⟩:=FU hq;simp only[Xa] at h;replace h:=au h;obtain⟨v,m1,l1,h1,h⟩:=h;replace h:=au h;obtain⟨vs',m2,l2,h2,h⟩:=h;obtain⟨rfl,rfl,rfl⟩:=rpu h;obtain⟨G1,t1,s1⟩:=ahr hg ho (agj hE) hx q1 h1;obtain⟨G2,t2,s2⟩:=ZG t1.ok (λk hk=>by rw[t1.out] at hk;obtain⟨c,hc⟩:=ho k hk;exact⟨c,t1.old k c hc⟩) (by rw[t1.E]) (by rw[hrest];exact adU t1.le.view q2) (by simp at hlen;omega) (by simpa using hgl) h2;refine⟨G2,t1.trans t2, ?_⟩;simp only[dA];exact⟨g,gs',rfl,t2.le.aV s1,s2⟩
def valOf(P:Program)(t:TypeId)(cs:List Value)(g:Value):Prop:=if Vx P t=true then g=.agg cs.toArray else cs=[g]
def ajw(P:Program)(H:Heap)(h:View)(t:TypeId)(row:Row)(g:Value)(N:List Nat):Prop:=match aoa P t with
 |some T=>∃b a N1,g=.pointer (some ⟨b,0,none⟩)/\H b=some (.cells a T (0,0))/\jS H h row a.toList N1/\row.length=a.size/\N=b::N1
 |none=>∃cs,valOf P t cs g/\jS H h row cs N/\row.length=cs.length
def amg{P:Program}{H H':Heap}{h h':View}(hl:h.le h'){t:TypeId}{row:Row}{g:Value}{N:List Nat}(hb:∀b,b∈N->H' b=H b)(q:ajw P H h t row g N):ajw P H' h' t row g N:=by
 unfold ajw at q|-;split at q
 ·obtain⟨b,a,N1,h1,h2,h3,h4,rfl⟩:=q;exact⟨b,a,N1,h1,(hb b (by simp)).trans h2,IQ hl _ _ _ (λb hx=>hb b (by simp[hx])) h3,h4,rfl⟩
 ·obtain⟨cs,h1,h2,h3⟩:=q;exact⟨cs,h1,IQ hl _ _ _ hb h2,h3⟩
def aeZ{P:Program}{H:Heap}{h:View}{t:TypeId}{row:Row}{g:Value}{N:List Nat}(hp:aoa P t=none):ajw P H h t row g N↔∃cs,valOf P t cs g/\jS H h row cs N/\row.length=cs.length:=by simp only[ajw,hp]
def ZH(P:Program)(H:Heap)(h:View):List TypeId->List Row->List Value->List Nat->Prop
 |[],rows,gs,N=>rows=[]/\gs=[]/\N=[]
 |t::ts,rows,gs,N=>∃row rows' g gs' N1 N2,rows=row::rows'/\gs=g::gs'/\N=N1++N2/\ajw P H h t row g N1/\ZH P H h ts rows' gs' N2
def UC{P:Program}{H H':Heap}{h h':View}(hl:h.le h'):∀{ts:List TypeId} {rows:List Row} {gs:List Value} {N:List Nat},(∀b,b∈N->H' b=H b)->ZH P H h ts rows gs N->ZH P H' h' ts rows gs N
 |[],_,_,_,_,q=>q
 |t::ts,_,_,_,hb,⟨row,rows',g,gs',N1,N2,e1,e2,e3,h1,h4⟩=>by subst e3;exact⟨row,rows',g,gs',N1,N2,e1,e2,rfl,amg hl (λb hx=>hb b (by simp[hx])) h1,UC hl (λb hx=>hb b (by simp[hx])) h4⟩
def UD{P:Program}{t:TypeId}{vs:List V}{v:V}(h:Tz P t vs=some v){μ:Nat->Value}{hh:View}{cs:List Value}{g:Value}(hq:dA μ m hh vs cs)(hg:valOf P t cs g):aV μ m hh v g:=by
 unfold Tz at h;unfold valOf at hg;cases ha:Vx P t with
 |true=>simp only[ha,aG,if_true,jW] at h hg;subst h;simp only[aV];exact⟨_,hg,by simpa using hq⟩
 |false=>
  simp only[ha,aQ,Bool.false_eq_true,if_false] at h hg;split at h
  ·cases h;obtain⟨g',gs',e,q1,q2⟩:=rE hq;rw[hg] at e;cases e;exact q1
  ·cases h
def alH{res:List Row}{ri:Nat}{row:Row}{rows:List Row}(h:res.drop ri=row::rows):aje res ri=row/\res.drop (ri+1)=rows:=by
 have h1:res[ri]? =some row:=by
  have:(res.drop ri)[0]? =some row:=by rw[h];rfl
  rwa [List.getElem?_drop,Nat.add_zero] at this
 refine⟨by simp[aje,h1], ?_⟩;rw[<-List.drop_drop,h];rfl
def awW{X:Ctx}{att:List Nat}{dst ri:Nat}{row:Row}{t:TypeId}{g:Value}{N E:List Nat}(hg:Fj base U w m G)(ho:∀r,r∈G.out->∃c,get r m=some c)
  (hE:(N++E).Perm G.E) (hq:ajw X.P (dM w) (Gh U w G) t row g N) {v:V} {m':Mem} {l l':Log}
  (h:(atu X att dst ri row t).run m l=some (v,m',l')):∃G',Grew base U w m G m' G' E/\aV G'.μ m' (Gh U w G') v g:=by
 unfold ajw at hq;unfold atu at h;split at hq
 ·rename_i T hT;simp only[hT] at h;obtain⟨b,a,N1,rfl,h1,h2,h3,rfl⟩:=hq;replace h:=au h;obtain⟨_,m1,l1,k1,h⟩:=h;obtain⟨hlen,rfl,rfl⟩:=fK k1;replace h:=au h;obtain⟨vc,m2,l2,k2,h⟩:=h;replace h:=au h;obtain⟨_,m3,l3,k3,h⟩:=h;simp only[run_pure,jW,oI] at h;obtain⟨rfl,rfl,rfl⟩:=h;have hlen:=Dy hlen;obtain⟨G1,t1,s1⟩:=ZG (N:=N1) (E:=b::E) hg ho (by refine List.Perm.trans List.perm_middle ?_;exact hE) (by simpa using h2) (by simpa using hlen) (by rw[Array.length_toList,<-h3];exact hlen) k2;obtain⟨G2,t2,s2⟩:=atA t1.ok (λk hk=>by rw[t1.out] at hk;obtain⟨c,hc⟩:=ho k hk;exact⟨c,t1.old k c hc⟩) (by rw[t1.E]) h1 s1 k3;exact⟨G2,t1.trans t2,s2⟩
 ·rename_i hT;simp only[hT] at h;obtain⟨cs,h1,h2,h3⟩:=hq;replace h:=au h;obtain⟨_,m1,l1,k1,h⟩:=h;obtain⟨hlen,rfl,rfl⟩:=fK k1;replace h:=au h;obtain⟨vc,m2,l2,k2,h⟩:=h;obtain⟨hv,rfl,rfl⟩:=jA h;have hlen:=Dy hlen;obtain⟨G1,t1,s1⟩:=ZG hg ho hE (by simpa using h2) (by simpa using hlen) (by rw[<-h3];exact hlen) k2;exact⟨G1,t1,UD hv s1 h1⟩
def amh{X:Ctx}{att:List Nat}{dst:Nat}{res:List Row}:∀{ts:List TypeId} {ri:Nat} {m:Mem} {G:GS} {gs:List Value} {N E:List Nat} (_:Fj base U w m G) (_:∀r,r∈G.out->∃c,get r m=some c)
  (_:(N++E).Perm G.E) (_:ZH X.P (dM w) (Gh U w G) ts (res.drop ri) gs N) {vs:List V} {m':Mem} {l l':Log}
  (_:(adM X att dst res ri ts).run m l=some (vs,m',l')),∃G',Grew base U w m G m' G' E/\dA G'.μ m' (Gh U w G') vs gs
 |[],ri,m,G,gs,N,E,hg,ho,hE,hq,vs,m',l,l',h=>by simp only[adM,run_pure,jW,oI] at h;obtain⟨rfl,rfl,rfl⟩:=h;obtain⟨_,rfl,rfl⟩:=hq;obtain⟨d1,d2,_⟩:=hg.aju hE;exact⟨_,⟨d1,d2,rfl,rfl,λ_ _ h=>h,λ_ _ _=>rfl⟩,by simp[dA]⟩
 |t::ts,ri,m,G,gs,N,E,hg,ho,hE,hq,vs,m',l,l',h=>by obtain⟨row,rows',g,gs',N1,N2,e1,rfl,rfl,h1,h4⟩:=hq;obtain⟨hrow,hrest⟩:=alH e1;simp only[adM] at h;replace h:=au h;obtain⟨v,m3,l3,k3,h⟩:=h;replace h:=au h;obtain⟨vs',m4,l4,k4,h⟩:=h;obtain⟨rfl,rfl,rfl⟩:=rpu h;rw[hrow] at k3;obtain⟨G1,t1,s1⟩:=awW hg ho (agj hE) h1 k3;obtain⟨G2,t2,s2⟩:=amh t1.ok (λk hk=>by rw[t1.out] at hk;obtain⟨c,hc⟩:=ho k hk;exact⟨c,t1.old k c hc⟩) (by rw[t1.E]) (by rw[hrest];exact UC t1.le.view (λ_ _=>rfl) h4) k4;refine⟨G2,t1.trans t2, ?_⟩;simp only[dA];exact⟨g,gs',rfl,t2.le.aV s1,s2⟩
mutual
def aCn{H:Heap}{h h':View}:∀(x:D) (v:Value) (N:List Nat),x.pure=true->ow H h x v N->ow H h' x v N
 | .int _ _,_,_,_,q=>by simpa[ow] using q
 | .bool _,_,_,_,q=>by simpa[ow] using q
 | .str _,_,_,_,q=>by simpa[ow] using q
 | .Ze,_,_,_,q=>by simpa[ow] using q
 | .sl false s rows,v,N,hp,q=>by simp only[D.pure,List.isEmpty_iff] at hp;subst hp;simp only[ow,ro] at q|-;exact⟨q.1,by obtain⟨a,cap,h1,h2,_⟩:=q.2;exact⟨a,cap,h1,h2,λe=>absurd rfl e⟩⟩
 | .sl true s rows,v,N,hp,q=>by
  simp only[D.pure] at hp;simp only[ow] at q|-;rcases q with q|⟨b,cap,cs,t,N',h1,h2,h3,h4,h5,rfl⟩
  ·exact .inl q
  ·exact .inr ⟨b,cap,cs,t,N',h1,h2,h3,h4,ahs s rows _ N' hp h5,rfl⟩
def ahs{H:Heap}{h h':View}(s:Nat):∀(rows:List Row) (cs:List Value) (N:List Nat),KP rows=true->iG H h s rows cs N->iG H h' s rows cs N
 |[],_,_,_,q=>by simpa[iG] using q
 |r::rs,cs,N,hp,q=>by simp only[KP,rZ] at hp;simp only[iG] at q|-;obtain⟨h1,N1,N2,rfl,h2,h3⟩:=q;exact⟨h1,N1,N2,rfl,Ya r _ N1 hp.1 h2,ahs s rs _ N2 hp.2 h3⟩
def Ya{H:Heap}{h h':View}:∀(r:Row) (cs:List Value) (N:List Nat),dw r=true->jS H h r cs N->jS H h' r cs N
 |[],_,_,_,q=>by simpa[jS] using q
 |x::r,cs,N,hp,q=>by simp only[dw,rZ] at hp;simp only[jS] at q|-;obtain⟨v,cs',N1,N2,rfl,rfl,h2,h3⟩:=q;exact⟨v,cs',N1,N2,rfl,rfl,aCn x v N1 hp.1 h2,Ya r cs' N2 hp.2 h3⟩
end
def ajx{P:Program}{H:Heap}{h h':View}:∀{ts:List TypeId} {rows:List Row} {gs:List Value} {N:List Nat},rows.all dw=true->ZH P H h ts rows gs N->ZH P H h' ts rows gs N
 |[],_,_,_,_,q=>q
 |t::ts,_,_,_,hp,⟨row,rows',g,gs',N1,N2,e1,e2,e3,h1,h4⟩=>by
  subst e1;simp only[List.all_cons,rZ] at hp;refine⟨row,rows',g,gs',N1,N2,rfl,e2,e3, ?_,ajx hp.2 h4⟩;unfold ajw at h1|-;split at h1
  ·obtain⟨b,a,M,k1,k2,k3,k4,k5⟩:=h1;exact⟨b,a,M,k1,k2,Ya _ _ _ hp.1 k3,k4,k5⟩
  ·obtain⟨cs,k1,k2,k3⟩:=h1;exact⟨cs,k1,Ya _ _ _ hp.1 k2,k3⟩
def drop_cons{α:Type}{l:List α}{i:Nat}{a:α}{r:List α}(h:l.drop i=a::r):l[i]? =some a/\l.drop (i+1)=r:=by
 refine⟨?_,by rw[<-List.drop_drop,h];rfl⟩;have:(l.drop i)[0]? =some a:=by rw[h];rfl
 rwa [List.getElem?_drop,Nat.add_zero] at this
def aHl(xs:List D):(xs.map V.d).map vD=xs:=by
 induction xs with
 |nil=>rfl
 |cons x xs ih=>simp[vD,ih]
def ajy{m m':Mem}(h:∀k c,get k m=some c->get k m'=some c):∀{rs:List Nat} {cs:List Cell},kinds m rs cs->kinds m' rs cs
 |[],_,q=>q
 |r::rs,_,⟨c,c',cs',h1,h2,h3,h4⟩=>⟨c,c',cs',h1,h r c h2,h3,ajy h h4⟩
def ami{m:Mem}{r:Nat}{c0:Cell}:∀{rs:List Nat} {cs:List Cell},r ∉ rs->kinds m rs cs->kinds (put r c0 m) rs cs
 |[],_,_,q=>q
 |k::rs,_,hr,⟨c,c',cs',h1,h2,h3,h4⟩=>by simp only[List.mem_cons,not_or] at hr;exact⟨c,c',cs',h1,by rw[jT (Ne.symm hr.1)];exact h2,h3,ami hr.2 h4⟩
structure Came(base:Nat)(U:Nat->Prop)(w:World)(m:Mem)(G:GS)(m':Mem)(G':GS)(E:List Nat):Prop where
 ok:Fj base U w m' G'
 le:Zg m G m' G'
 E:G'.E=E
 out:G'.out=[]
def RJ{H:Heap}{h h':View}(hl:h.le h'){cs:List Cell}{gs:List Value}{N:List Nat}(q:cellsB H h cs gs N):cellsB H h' cs gs N:=ahn hl (λ_ _=>rfl) q
def ajz{X:Ctx}{dst:Nat}{outs:List Cell}:∀{rs:List Nat} {i:Nat} {m:Mem} {G:GS} {N E:List Nat} (_:Fj base U w m G) (_:rs.Nodup) (_:G.out=rs) (_:kinds m rs (outs.drop i))
  (_:(N++E).Perm G.E) (_:cellsB (dM w) (Gh U w G) (outs.drop i) (rs.map G.μ) N) {x:Unit} {m':Mem} {l l':Log} (_:(ahi X dst outs i rs).run m l=some (x,m',l')),
  ∃G',Came base U w m G m' G' E
 |[],i,m,G,N,E,hg,hn,ho,hk,hE,hq,x,m',l,l',h=>by simp only[ahi,run_pure,jW,oI] at h;obtain⟨_,rfl,rfl⟩:=h;obtain⟨d1,d2,_⟩:=hg.aju hE;exact⟨_,d1,d2,rfl,ho⟩
 |r::rs,i,m,G,N,E,hg,hn,ho,hk,hE,hq,x,m',l,l',h=>by
  obtain⟨c,c',cs',e1,hc,hsk,hk'⟩:=hk;have hnr:=List.nodup_cons.1 hn;obtain⟨hi,hdrop⟩:=drop_cons e1;rw[e1] at hq;obtain⟨g,gs',N1,N2,eg,rfl,q1,q2⟩:=hq;simp only[zmc,List.cons.injEq] at eg;obtain⟨rfl,rfl⟩:=eg;have hout:∀k,k∈G.out->∃c,get k m=some c:=by
   intro k hkm;rw[ho] at hkm;simp only[List.mem_cons] at hkm;rcases hkm with rfl|hkm
   ·exact⟨c,hc⟩
   ·obtain⟨j,hj⟩:=List.getElem?_of_mem hkm;obtain⟨c2,_,h2,_⟩:=ajq hk' hj;exact⟨c2,h2⟩
  simp only[ahi] at h;replace h:=au h;obtain⟨c0,m1,l1,h1,h⟩:=h;rw[vF] at h1;cases h1;rw[hc] at h;cases c with
  |box t cs=>
   cases c' with
   |box t' vs=>
    obtain rfl:t=t':=hsk;obtain⟨b,a,xs,N',hμ,hH,hvs,hxl,hrow,rfl⟩:=q1;simp only at h;obtain⟨hbl,h⟩:=bck h;replace h:=au h;obtain⟨vs',m3,l3,h3,h⟩:=h;replace h:=au h;obtain⟨_,m4,l4,h4,h⟩:=h;rw[FT] at h4;cases h4;have hbx:ayG outs i=xs:=by simp only[ayG,hi,hvs];exact aHl xs
    have hbl:xs.length=(PY X.P t).length:=by simp only[ayH,hi] at hbl;have:=Dy hbl;rw[hvs,List.length_map] at this;exact this
    rw[hbx] at h3;obtain⟨G1,t1,s1⟩:=ajv hg hout (N:=N') (E:=b::(N2++E)) (List.Perm.trans (by have:(N'++b::(N2++E)).Perm (b::(N'++(N2++E))):=List.perm_middle;refine this.trans ?_;simp[Qc]) hE) (by simpa using hrow) (by simpa using hbl) (by rw[<-hxl];exact hbl) h3;have hc1:=t1.old r _ hc;have aKR:=t1.ok.ndE;rw[t1.E] at aKR;have hset:=t1.ok.set r (.box t vs') G1.μ [b] (N2++E) rs (by simpa using aKR) (λk hk=> .inr (by rw[t1.E];simpa using hk))
     (Hg (λ_ _=>rfl) (λc h=>by rw[hc1] at h;cases h;exact⟨rfl,rfl⟩)) (λ_ _=>rfl)
     (λk hne=>by rw[t1.out,ho];simp[hne]) (λhr=>absurd hr hnr.1)
     (λhv _=>⟨b,a,by rw[t1.μ r _ hc];exact hμ,hH,vV (Hg (λ_ _=>rfl) (λc h=>by rw[hc1] at h;cases h;exact⟨rfl,rfl⟩)) hv _ _ s1,rfl⟩)
    obtain⟨k1,k2⟩:=hset;obtain⟨G2,f1,f2,f3,f4⟩:=ajz k1 hnr.2 rfl (ami hnr.1 (ajy t1.old (by rw[hdrop];exact hk'))) (N:=N2) (E:=E) (List.Perm.refl _)
     (by
      rw[hdrop];have hmap:rs.map G1.μ=rs.map G.μ:=List.map_congr_left λk hk=>by obtain⟨c2,h2⟩:=hout k (by rw[ho];simp[hk]);exact t1.μ k c2 h2
      simp only[hmap];exact RJ (t1.le.view.trans' k2.view) q2) h
    exact⟨G2,f1,(t1.le.trans k2).trans f2,f3,f4⟩
   |_=>exact hsk.elim
  |arr fz fl ver s rows=>simp only at h;replace h:=au h;obtain⟨_,m2,l2,h2,h⟩:=h;exact aH h2
  |_=>exact hsk.elim
def ayP{h:View}(s:List UInt8):∀(cs:List Value),cs=s.map (λb=>Value.int .u8 b.toNat)->jc h 1 (s.map byteRow) cs:=by
 induction s with
 |nil=>intro cs _;simp[jc]
 |cons b s ih=>intro cs e;subst e;simp only[zmc,jc,byteRow];exact⟨rfl,by simp[jg,ro],ih _ rfl⟩
end
def Wx(b o j:Nat):(⟨b,o,none⟩:Addr).add j=⟨b,o+j,none⟩:=by
 unfold Addr.add;split
 ·rename_i h;subst h;rfl
 ·rfl
def GR{P:Program}{t:TypeId}(h:Kz P t=true):∃d,P.underlying t=some d:=by
 unfold Kz at h;cases hu:P.underlying t with
 |none=>simp[hu] at h
 |some d=>exact⟨d,rfl⟩
def BD{P:Program}{t:TypeId}{d:TypeDesc}(h:P.underlying t=some d):∃i,P.info? t=some i:=by
 unfold Program.underlying at h;cases hi:P.info? t with
 |none=>simp[hi] at h
 |some i=>exact⟨i,rfl⟩
def MK{P:Program}{t:TypeId}{i:TypeInfo}(h:P.info? t=some i):x9 P t=i.size:=by simp[x9,h]
section
variable {P:Program} {w:World}
def Xc{t:TypeId}{d:TypeDesc}(h:P.underlying t=some d)(w:World):(isAgg t).run P w=.ok (Vx P t) w:=by unfold isAgg Vx;rw[Sem.run_bind,run_underlying h w,h];cases d<;>rfl
def UE{t:TypeId}{b off:Nat}{cs:List Value}{g:Value}(hok:Kz P t=true)(hlen:cs.length=x9 P t)(hc:∀j v,cs[j]? =some v->w.cell? ⟨b,off+j,none⟩=some v)(hg:valOf P t cs g):
  (Instr.loadAt t (.pointer (some ⟨b,off,none⟩))).run P w=.ok g w:=by
 obtain⟨d,hd⟩:=GR hok;obtain⟨i,hi⟩:=BD hd;have hsz:i.size=cs.length:=by rw[hlen,MK hi]
 unfold Instr.loadAt Instr.sureAddr;simp only[Sem.run_bind,Sem.run_pure,Result.andThen_ok,loadVar,Xc hd];unfold valOf at hg;cases ha:Vx P t with
 |true=>simp only[ha,if_true] at hg;subst hg;have hl:=run_loadCells_list (P:=P) w ⟨b,off,none⟩ cs (λj v hv=>by rw[Wx];exact hc j v hv);simp[sizeOf,typeInfo,hi,hsz,hl]
 |false=>simp only[ha,Bool.false_eq_true,if_false] at hg;subst hg;have:=hc 0 g rfl;simp only[Nat.add_zero] at this;simp[this]
def ZI{t T:TypeId}{b off:Nat}{cur:Array Value}{g:Value}(hok:Kz P t=true)(hH:w.heap[b]? =some (.cells cur T (0,0)))(hlen:g.cells.size=x9 P t)(hfit:off+g.cells.size<=cur.size)(h1:∀v∈g.cells.toList,v.oneCell'=true):
  (Instr.storeAt t (.pointer (some ⟨b,off,none⟩)) g).run P w=.ok () (w.setRow b (splice cur.toList off g.cells.toList).toArray):=by
 obtain⟨d,hd⟩:=GR hok;obtain⟨i,hi⟩:=BD hd;have hsz:g.cells.size=i.size:=by rw[hlen,MK hi]
 have hst:=run_storeCells_at P b off T g.cells.toList 0 cur w hH (by simpa using hfit) h1;simp only[Nat.add_zero] at hst;unfold Instr.storeAt Instr.sureAddr;simp only[Sem.run_bind,Sem.run_pure,Result.andThen_ok,storeVar,sizeOf,typeInfo,run_program,hi];simp[hsz,hst,splice]
def ZJ{T:TypeId}{f b off o n:Nat}{t:TypeId}(hf:X5 P T f=some (o,n,t))(hn:1<=n):
  (Instr.fieldAt T (.pointer (some ⟨b,off,none⟩)) f).run P w=.ok (.pointer (some ⟨b,off+o,none⟩)) w:=by
 unfold X5 at hf;cases hu:P.underlying T with
 |none=>simp[hu] at hf
 |some d=>
  rw[hu] at hf;cases d with
  |struct fs=>
   simp only at hf;cases hfd:fs[f]? with
   |none=>simp[hfd] at hf
   |some fd=>
    simp only[hfd,jW,oI] at hf;obtain⟨rfl,rfl,rfl⟩:=hf;cases hi:P.info? fd.type with
    |none=>simp[x9,hi] at hn
    |some i=>
     have hne:i.size≠0:=by rw[MK hi] at hn;omega
     unfold Instr.fieldAt;simp[run_underlying hu,hfd,Instr.sureAddr,fieldPlace,sizeOf,typeInfo,hi,hne,Wx]
  |_=>simp at hf
def Xd{t e:TypeId}(h:elT P t=some e):P.underlying t=some (.slice e):=by
 unfold elT at h;cases hu:P.underlying t with
 |none=>simp[hu] at h
 |some d=>rw[hu] at h;cases d<;>simp at h;rw[h]
def run_indexAt{t e:TypeId}{k:IntKind}{i:Int}{b o n cap:Nat}(he:elT P t=some e){inf:TypeInfo}(hi:P.info? e=some inf)(h0:0<=i)(hn:i<n):
  (Instr.indexAt t (.slice (some ⟨b,o,none⟩) n cap) (.int k i)).run P w=.ok (.pointer (some ⟨b,o+i.toNat * inf.size,none⟩)) w:=by
 have hu:=Xd he;have hc:0<=i/\i<(n:Int):=⟨h0,hn⟩
 unfold Instr.indexAt;simp[asIntOf,run_underlying hu,hc,sizeOf,typeInfo,hi,Wx]
structure Src(P:Program)(size:Nat)(w:World)(y:Value)(m:Nat)(news:List Value):Prop where
 len:(Builtin.lenOf y).run P w=.ok m w
 get:(Builtin.firstCells size m y).run P w=.ok news.toArray w
 lend:(Builtin.lenOf y).run P w.drew=.ok m w.drew
 aKS:(Builtin.firstCells size m y).run P w.drew=.ok news.toArray w.drew
 n:news.length=m * size
 one:∀u∈news,u.oneCell'=true
def Src.slice{size:Nat}{a:Option Addr}{m c:Nat}{news:List Value}(hl:news.length=m * size)(h1:∀u∈news,u.oneCell'=true)
  (h:m≠0->∃b o,a=some ⟨b,o,none⟩/\∀j v,news[j]? =some v->w.cell? ⟨b,o+j,none⟩=some v):Src P size w (.slice a m c) m news:=by
 have key:∀w':World,(∀x,w'.cell? x=w.cell? x)->(Builtin.firstCells size m (.slice a m c)).run P w'=.ok news.toArray w':=by
  intro w' hw
  by_cases hm:m=0
  ·subst hm;have:news=[]:=List.eq_nil_of_length_eq_zero (by simpa using hl);subst this;cases a with
   |none=>simp[Builtin.firstCells]
   |some a=>simp[Builtin.firstCells,loadCells,loadCellsFrom]
  ·obtain⟨b,o,rfl,hc⟩:=h hm;exact run_firstCells_some (P:=P) w' size m ⟨b,o,none⟩ m c news hl (λj v hv=>by rw[Wx,hw];exact hc j v hv)
 exact⟨by simp[Builtin.lenOf],key w (λ_=>rfl),by simp[Builtin.lenOf],key w.drew (λx=>rfl),hl,h1⟩
def Src.string{s:List UInt8}:Src P 1 w (.string ⟨⟨s⟩⟩) s.length (s.map λb=>Value.int .u8 b.toNat):=by
 have hsz:(⟨⟨s⟩⟩:ByteArray).size=s.length:=rfl;have hex:((⟨⟨s⟩⟩:ByteArray).extract 0 s.length)=⟨⟨s⟩⟩:=by rw[<-hsz];apply ByteArray.ext;simp[ByteArray.data_extract]
 have hm:(Array.map (λb:UInt8=>Value.int .u8 (b.toNat:Int)) ⟨s⟩)=(s.map λb=>Value.int .u8 (b.toNat:Int)).toArray:=by apply Array.ext';simp
 refine⟨by simp[Builtin.lenOf,hsz],by simp[Builtin.firstCells,hex,hm],by simp[Builtin.lenOf,hsz],by simp[Builtin.firstCells,hex,hm],by simp, ?_⟩;intro u hu;simp only[List.mem_map] at hu;obtain⟨b,_,rfl⟩:=hu;rfl
def YO{t ty y e:TypeId}{inf:TypeInfo}{z gy:Value}{m:Nat}{news:List Value}(he:P.underlying t=some (.slice e))(hty:(∃e',P.underlying y=some (.slice e'))\/P.underlying y=some .string)
  (hi:P.info? e=some inf) (hz:inf.zero=some z) (hs:Src P inf.size w gy m news) (hm:m≠0) (h63:m<=140737488355328) (hb:m * inf.bytes<=140737488355328):
  ∃cap,m<=cap/\(Builtin.append_ #[t,y] ty #[.slice none 0 0,gy]).run P w=.ok (.slice (some ⟨w.heap.size,0,none⟩) m cap) (w.drew.alloc (.cells (news.toArray++Builtin.zeroCells z.cells (cap - m)) e)):=by
 have h63':¬(9223372036854775807<(m:Int)):=ak;have h48':¬(281474976710656<Builtin.nextslicecap m 0 * inf.bytes):=by rw[nextslicecap_zero ak];omega
 refine⟨grownCap w m 0 e,grownCap_ge w m 0 e, ?_⟩;rcases hty with⟨e',hd⟩|hd<;>simp[Builtin.append_,run_underlying he,run_underlying hd,sizeOf,typeInfo,zeroValue,hi,hz,hs.len,hm,h63',h48',Question.forced,run_firstCells_none,hs.aKS,newRow,grownCap]
def YP{t ty y e:TypeId}{inf:TypeInfo}{gy:Value}{news:List Value}(he:P.underlying t=some (.slice e))(hty:(∃e',P.underlying y=some (.slice e'))\/P.underlying y=some .string)
  (hi:P.info? e=some inf) (hs:Src P inf.size w gy 0 news):
  (Builtin.append_ #[t,y] ty #[.slice none 0 0,gy]).run P w=.ok (.slice none 0 0) w:=by
 rcases hty with⟨e',hd⟩|hd<;>simp[Builtin.append_,run_underlying he,run_underlying hd,sizeOf,typeInfo,hi,hs.len,hs.get]
def run_append_fits{t ty y e T:TypeId}{inf:TypeInfo}{gy:Value}{b n m cap:Nat}{cur:Array Value}{news:List Value}(he:P.underlying t=some (.slice e))(hty:(∃e',P.underlying y=some (.slice e'))\/P.underlying y=some .string)
  (hi:P.info? e=some inf) (hs:Src P inf.size w gy m news) (hH:w.heap[b]? =some (.cells cur T (0,0))) (hroom:n+m<=cap) (hc:cur.size=cap * inf.size):
  (Builtin.append_ #[t,y] ty #[.slice (some ⟨b,0,none⟩) n cap,gy]).run P w=.ok (.slice (some ⟨b,0,none⟩) (n+m) cap) (w.setRow b (splice cur.toList (n * inf.size) news).toArray):=by
 have hfit:n * inf.size+0+news.length<=cur.size:=by rw[hs.n,hc,Nat.add_zero,<-Nat.add_mul];exact Nat.mul_le_mul_right _ hroom
 have hst:=run_storeCells_at P b (n * inf.size) T news 0 cur w hH hfit hs.one;simp only[Nat.add_zero] at hst;rcases hty with⟨e',hd⟩|hd<;>simp[Builtin.append_,run_underlying he,run_underlying hd,sizeOf,typeInfo,hi,hs.len,hroom,hs.get,Wx,hst,splice]
def ah6{t ty y e:TypeId}{inf:TypeInfo}{z gy:Value}{b n m cap:Nat}{olds news:List Value}(he:P.underlying t=some (.slice e))(hty:(∃e',P.underlying y=some (.slice e'))\/P.underlying y=some .string)
  (hi:P.info? e=some inf) (hz:inf.zero=some z) (hs:Src P inf.size w gy m news) (hl:olds.length=n * inf.size) (ho:∀j v,olds[j]? =some v->w.cell? ⟨b,0+j,none⟩=some v) (hroom:cap<n+m) (h63:n+m<=140737488355328) (hb:(n+m) * inf.bytes<=140737488355328):
  ∃cap',n+m<=cap'/\(Builtin.append_ #[t,y] ty #[.slice (some ⟨b,0,none⟩) n cap,gy]).run P w=.ok (.slice (some ⟨w.heap.size,0,none⟩) (n+m) cap') (w.drew.alloc (.cells ((olds++news).toArray++Builtin.zeroCells z.cells (cap' - (n+m))) e)):=by
 have hn:¬(n+m<=cap):=ak;have h63':¬(9223372036854775807<((n:Int)+(m:Int))):=ak;have h48':¬(281474976710656<Builtin.nextslicecap (n+m) cap * inf.bytes):=by have:=growslice_fits hroom hb;omega
 have hfo:=run_firstCells_some (P:=P) w.drew inf.size n ⟨b,0,none⟩ n cap olds hl (λj v hv=>by rw[Wx];exact ho j v hv);refine⟨grownCap w (n+m) cap e,grownCap_ge w (n+m) cap e, ?_⟩;rcases hty with⟨e',hd⟩|hd<;>simp[Builtin.append_,run_underlying he,run_underlying hd,sizeOf,typeInfo,zeroValue,hi,hz,hs.len,hn,h63',h48',Question.forced,hfo,hs.aKS,newRow,grownCap]<;>
  (congr 2;apply Array.ext';simp[Qc])
end
open Go
structure Fr(M0:List Nat)(w0 w:World)(G:GS):Prop where
 keep:Keep M0 w0 w
 fr:∀b,excl G.F G.E b->b∈M0\/w0.heap.size<=b
structure Nx(base:Nat)(U:Nat->Prop)(M0:List Nat)(w0 w:World)(m:Mem)(G:GS)(w':World)(m':Mem)(G':GS):Prop where
 ok:Fj base U w' m' G'
 E:G'.E=[]
 out:G'.out=[]
 mem:Et G.μ m G'.μ m'
 view:(Gh U w G).le (Gh U w' G')
 fr:Fr M0 w0 w' G'
structure At(base:Nat)(U:Nat->Prop)(M0:List Nat)(w0 w:World)(m:Mem)(G:GS):Prop where
 ok:Fj base U w m G
 E:G.E=[]
 out:G.out=[]
 fr:Fr M0 w0 w G
def UF{P:Program}{o:Oper}{a:Act}{w w':World}{K:Act->World->Prop}{Q:Exit->Act->World->Prop}{g:Value}(h:(execOp a.eval o).run P w=.ok (.value g) w')(hn:K (a.put o.dst g) w'):o.wp P a w K Q:=by unfold Oper.wp;rw[h];exact hn
def wp_skip{P:Program}{o:Oper}{a:Act}{w w':World}{K:Act->World->Prop}{Q:Exit->Act->World->Prop}(h:(execOp a.eval o).run P w=.ok .skip w')(hn:K (a.put o.dst undef) w'):o.wp P a w K Q:=by unfold Oper.wp;rw[h];exact hn
section
variable {base:Nat} {U:Nat->Prop} {M0:List Nat} {w0 w w':World} {m m':Mem} {G G':GS} {P:Program}
def At.nx(h:At base U M0 w0 w m G):Nx base U M0 w0 w m G w m G:=⟨h.ok,h.E,h.out,yF _ _,View.le_refl _,h.fr⟩
def Nx.at_(h:Nx base U M0 w0 w m G w' m' G'):At base U M0 w0 w' m' G':=⟨h.ok,h.E,h.out,h.fr⟩
def Nx.trans{w2:World}{m2:Mem}{G2:GS}(h:Nx base U M0 w0 w m G w' m' G')(k:Nx base U M0 w0 w' m' G' w2 m2 G2):Nx base U M0 w0 w m G w2 m2 G2:=
 ⟨k.ok,k.E,k.out,xw h.mem k.mem,h.view.trans' k.view,k.fr⟩
def Nx.aV(h:Nx base U M0 w0 w m G w' m' G'){v:V}{g:Value}(q:aV G.μ m (Gh U w G) v g):aV G'.μ m' (Gh U w' G') v g:=Qh h.mem h.view v g q
def Fr.less(h:Fr M0 w0 w G)(hx:∀b,excl G'.F G'.E b->excl G.F G.E b):Fr M0 w0 w G':=⟨h.keep,λb hb=>h.fr b (hx b hb)⟩
def At.still(h:At base U M0 w0 w m G)(hg:Fj base U w m' G')(hl:Zg m G m' G')(ho:G'.out=[]):
  Nx base U M0 w0 w m G w m' {G' with E:=[]}:=by
 obtain⟨k1,k2⟩:=hg.less [] (by simp) (by simp);have:=hl.trans k2;exact⟨k1,rfl,ho,this.mem,this.view,h.fr.less this.ex⟩
def N9{μ:Nat->Value}{h:View}:∀{a b:List V} {g k:List Value},dA μ m h a g->dA μ m h b k->dA μ m h (a++b) (g++k)
 |[],b,g,k,ha,hb=>by simp only[dA] at ha;subst ha;simpa using hb
 |v::a,b,g,k,ha,hb=>by obtain⟨g0,g',rfl,h1,h2⟩:=rE ha;simp only[zca,dA];exact⟨g0,g'++k,rfl,h1,N9 h2 hb⟩
def adV{μ:Nat->Value}{h:View}:∀{a:List V} {g:List Value} (n:Nat),dA μ m h a g->dA μ m h (a.drop n) (g.drop n)
 |a,g,0,ha=>by simpa using ha
 |[],g,n+1,ha=>by simp only[dA] at ha;subst ha;simp[dA]
 |v::a,g,n+1,ha=>by obtain⟨g0,g',rfl,h1,h2⟩:=rE ha;simpa using adV n h2
def adW{μ:Nat->Value}{h:View}:∀{a:List V} {g:List Value} (n:Nat),dA μ m h a g->dA μ m h (a.take n) (g.take n)
 |a,g,0,ha=>by simp[dA]
 |[],g,n+1,ha=>by simp only[dA] at ha;subst ha;simp[dA]
 |v::a,g,n+1,ha=>by obtain⟨g0,g',rfl,h1,h2⟩:=rE ha;simp only[List.take_succ_cons,dA];exact⟨g0,g'.take n,rfl,h1,adW n h2⟩
def ajA{μ:Nat->Value}{h:View}{a:List V}{g:List Value}(o n:Nat)(q:dA μ m h a g):dA μ m h (part a o n) ((g.drop o).take n):=adW n (adV o q)
def Yb{μ:Nat->Value}{h:View}{a b:List V}{g k:List Value}(o:Nat)(q:dA μ m h a g)(q':dA μ m h b k):dA μ m h (splice a o b) (splice g o k):=by have hl:k.length=b.length:=jB q';unfold splice;rw[hl];exact N9 (N9 (adW o q) q') (adV _ q)
def abw{μ:Nat->Value}{h:View}:∀{a:List V} {g:List Value} {i:Nat} {v:V},dA μ m h a g->a[i]? =some v->∃x,g[i]? =some x/\aV μ m h v x
 |[],g,i,v,ha,hi=>by simp at hi
 |v0::a,g,i,v,ha,hi=>by
  obtain⟨g0,g',rfl,h1,h2⟩:=rE ha;cases i with
  |zero=>simp at hi;subst hi;exact⟨g0,rfl,h1⟩
  |succ i=>simpa using abw h2 (by simpa using hi)
def avn{t:TypeId}{vs:List V}{v:V}(h:Tz P t vs=some v){μ:Nat->Value}{hh:View}{cs:List Value}(hq:dA μ m hh vs cs):∃g,valOf P t cs g:=by
 unfold Tz at h;unfold valOf;cases ha:Vx P t with
 |true=>exact⟨_,by simp;rfl⟩
 |false=>
  simp only[ha,aQ] at h;split at h
  ·obtain⟨g',gs',e,q1,q2⟩:=rE hq;simp only[dA] at q2;subst q2;exact⟨g',by simpa using e⟩
  ·cases h
def Wy{h:View}{x:D}{g:Value}(q:ro h x g):g.oneCell'=true:=by
 cases x with
 |sl o s rows=>simp only[ro] at q;obtain⟨a,cap,rfl,_⟩:=q;rfl
 |_=>simp only[ro] at q;subst q;rfl
def avo{row:Row}{j:Nat}{x:D}(h:nth row j=x)(hx:x≠.Ze):row[j]? =some x:=by
 unfold nth at h;cases hr:row[j]? with
 |none=>rw[hr] at h;exact absurd h.symm hx
 |some y=>rw[hr] at h;exact congrArg some h
def awX{s:Nat}{x:D}{rows:List Row}(h:aCf s x=some rows):∃o,x=.sl o s rows/\(o=false\/rows=[]):=by
 cases x<;>simp[aCf] at h;rename_i o s' rows'
 by_cases e:s'=s
 ·subst e;simp at h;cases o with
  |false=>simp at h;subst h;exact⟨false,rfl,.inl rfl⟩
  |true=>
   cases rows' with
   |nil=>simp at h;subst h;exact⟨true,rfl,.inr rfl⟩
   |cons _ _=>simp at h
 ·rw[yG e] at h;simp at h
def agk{strict:Bool}{row:Row}{μ:Nat->Value}{h:View}(cell:Nat->Option Value)(Rel:D->Value->Prop)(hrow:∀k x,row[k]? =some x->∃g,cell k=some g/\Rel x g)
  (hint:∀k n g,Rel (.int k n) g->g=.int k n) (aGu:∀b g,Rel (.bool b) g->g=.bool b) (hstr:∀s g,Rel (.str s) g->g=.string ⟨⟨s⟩⟩)
  (hsl:∀o s rs g,Rel (.sl o s rs) g->(strict=true->o=false\/rs=[])->ro h (.sl false s rs) g):
  ∀(cts:List CT) (j:Nat) (c:List V->Acc V) (m0:Mem) (l:Log) (r:V×Mem×Log),(Qd strict cts row j c).run m0 l=some r->
   ∃vs cs,(c vs).run m0 l=some r/\cs.length=cts.length/\dA μ m h vs cs/\∀i g,cs[i]? =some g->cell (j+i)=some g
 |[],j,c,m0,l,r,hr=>⟨[],[],hr,rfl,by simp[dA],by simp⟩
 |ct::cts,j,c,m0,l,r,hr=>by
  have go:∀(x:D) (y:V),nth row j=x->x≠.Ze->(∀g,Rel x g->aV μ m h y g)->(Qd strict cts row (j+1) λvs=>c (y::vs)).run m0 l=some r->
    ∃vs cs,(c vs).run m0 l=some r/\cs.length=(ct::cts).length/\dA μ m h vs cs/\∀i g,cs[i]? =some g->cell (j+i)=some g:=by
   intro x y hx hxn hs hr;obtain⟨g,hg,hrel⟩:=hrow j x (avo hx hxn);obtain⟨vs,cs,h1,h2,h3,h4⟩:=agk cell Rel hrow hint aGu hstr hsl cts (j+1) _ m0 l r hr;refine⟨y::vs,g::cs,h1,by simp[h2],by simp only[dA];exact⟨g,cs,rfl,hs g hrel,h3⟩, ?_⟩;intro i g' hi;cases i with
   |zero=>simp at hi;subst hi;exact hg
   |succ i=>have:=h4 i g' (by simpa using hi);rw[show j+(i+1)=j+1+i from by omega];exact this
  cases ct with
  |int k=>
   simp only[Qd,Acc.run,jR] at hr;cases ha:asInt k (nth row j) with
   |none=>simp[ha,Acc.run] at hr
   |some n=>simp only[ha,Acc.run] at hr;exact go _ _ (ajr ha) (by simp) (λg hg=>by rw[hint _ _ g hg];simp[aV,ro]) hr
  |bool=>
   simp only[Qd,Acc.run,al6] at hr;cases ha:asBool (nth row j) with
   |none=>simp[ha,Acc.run] at hr
   |some n=>simp only[ha,Acc.run] at hr;exact go _ _ (ahq ha) (by simp) (λg hg=>by rw[aGu _ g hg];simp[aV,ro]) hr
  |str=>
   simp only[Qd,Acc.run,cStr] at hr;cases ha:al5 (nth row j) with
   |none=>simp[ha,Acc.run] at hr
   |some n=>simp only[ha,Acc.run] at hr;exact go _ _ (ajs ha) (by simp) (λg hg=>by rw[hstr _ g hg];simp[aV,ro]) hr
  |other=>simp[Qd,Acc.run] at hr
  |sl s=>
   simp only[Qd,Acc.run,cRo,cSl] at hr;cases strict with
   |true=>
    simp only[aG] at hr;cases ha:aCf s (nth row j) with
    |none=>simp[ha,Acc.run] at hr
    |some n=>simp only[ha,Acc.run] at hr;obtain⟨o,hx,ho⟩:=awX ha;exact go _ _ hx (by simp) (λg hg=>by simp only[aV];exact hsl _ _ _ g hg (λ_=>ho)) hr
   |false=>
    simp only[aQ] at hr;cases ha:ayA s (nth row j) with
    |none=>simp[ha,Acc.run] at hr
    |some n=>simp only[ha,Acc.run] at hr;obtain⟨o,hx⟩:=ame ha;exact go _ _ hx (by simp) (λg hg=>by simp only[aV];exact hsl _ _ _ g hg (λh=>by cases h)) hr
def agl{h:View}{b:Nat}:∀{r:Row} {o k:Nat} {x:D},D6 h r b o->r[k]? =some x->∃g,h b (o+k)=some g/\ro h x g
 |[],_,_,_,_,hk=>by simp at hk
 |y::r,o,0,x,q,hk=>by simp only[D6] at q;simp at hk;subst hk;simpa using q.1
 |y::r,o,k+1,x,q,hk=>by
  simp only[D6] at q;have:=agl q.2 (by simpa using hk)
  rwa [show o+(k+1)=o+1+k from by omega]
def aht{h:View}:∀{r:Row} {cs:List Value} {k:Nat} {x:D},jg h r cs->r[k]? =some x->∃g,cs[k]? =some g/\ro h x g
 |[],_,_,_,_,hk=>by simp at hk
 |y::r,cs,0,x,⟨v,cs',e,h1,h2⟩,hk=>by simp at hk;subst hk;subst e;exact⟨v,rfl,h1⟩
 |y::r,cs,k+1,x,⟨v,cs',e,h1,h2⟩,hk=>by subst e;simpa using aht h2 (by simpa using hk)
def amj{H:Heap}{h:View}:∀{r:Row} {cs:List Value} {N:List Nat} {k:Nat} {x:D},jS H h r cs N->r[k]? =some x->∃g N1,cs[k]? =some g/\ow H h x g N1
 |[],_,_,_,_,_,hk=>by simp at hk
 |y::r,cs,N,0,x,q,hk=>by obtain⟨v,cs',N1,N2,rfl,rfl,h1,h2⟩:=FU q;simp at hk;subst hk;exact⟨v,N1,rfl,h1⟩
 |y::r,cs,N,k+1,x,q,hk=>by obtain⟨v,cs',N1,N2,rfl,rfl,h1,h2⟩:=FU q;simpa using amj h2 (by simpa using hk)
def adX{h:View}{s b:Nat}:∀{rs:List Row} {o k:Nat} {r:Row},sQ h s rs b o->rs[k]? =some r->r.length=s/\D6 h r b (o+k * s)
 |[],_,_,_,_,hk=>by simp at hk
 |y::rs,o,0,x,q,hk=>by simp only[sQ] at q;simp at hk;subst hk;simpa using⟨q.1,q.2.1⟩
 |y::rs,o,k+1,x,q,hk=>by
  simp only[sQ] at q;have:=adX q.2.2 (by simpa using hk)
  rwa [show o+(k+1) * s=o+s+k * s from by rw[Nat.add_mul];omega]
def ae0{h:View}{s:Nat}:∀{rs:List Row} {cs:List Value} {k:Nat} {r:Row},jc h s rs cs->rs[k]? =some r->r.length=s/\jg h r (cs.drop (k * s))
 |[],_,_,_,_,hk=>by simp at hk
 |y::rs,cs,0,x,q,hk=>by simp at hk;subst hk;simpa using⟨q.1,q.2.1⟩
 |y::rs,cs,k+1,x,q,hk=>by
  have:=ae0 q.2.2 (by simpa using hk);rw[List.drop_drop] at this
  rwa [show(k+1) * s=s+k * s from by rw[Nat.add_mul];omega]
def ajB{H:Heap}{h:View}{s:Nat}:∀{rs:List Row} {cs:List Value} {N:List Nat} {k:Nat} {r:Row},iG H h s rs cs N->rs[k]? =some r->r.length=s/\∃N1,jS H h r (cs.drop (k * s)) N1
 |[],_,_,_,_,_,hk=>by simp at hk
 |y::rs,cs,N,0,x,q,hk=>by simp only[iG] at q;obtain⟨h1,N1,N2,rfl,h2,h3⟩:=q;simp at hk;subst hk;exact⟨h1,N1,by simpa using h2⟩
 |y::rs,cs,N,k+1,x,q,hk=>by
  simp only[iG] at q;obtain⟨h1,N1,N2,rfl,h2,h3⟩:=q;have:=ajB h3 (by simpa using hk);rw[List.drop_drop] at this
  rwa [show(k+1) * s=s+k * s from by rw[Nat.add_mul];omega]
def avp{h:View}{fz fl:Bool}{ver s:Nat}{rows:List Row}{r i:Nat}{row:Row}{N:List Nat}(hq:oM G.μ m (dM w) h r (.arr fz fl ver s rows) N)(hl:h.le (full w))(hi:rows[i]? =some row):
  ∃b o cap,G.μ r=.slice (some ⟨b,o,none⟩) rows.length cap/\(fz=false->o=0)/\row.length=s/\
   ∃Rel:D->Value->Prop,(∀k x,row[k]? =some x->∃g,full w b (o+i * s+k)=some g/\Rel x g)/\
   (∀k n g,Rel (.int k n) g->g=.int k n)/\(∀b g,Rel (.bool b) g->g=.bool b)/\(∀s g,Rel (.str s) g->g=.string ⟨⟨s⟩⟩)/\
   (∀o s rs g,Rel (.sl o s rs) g->(o=false\/rs=[])->ro h (.sl false s rs) g):=by
 have hne:rows≠[]:=by intro e;subst e;simp at hi
 cases fz with
 |true=>
  obtain⟨h1,_⟩:=hq;simp only[ro] at h1;obtain⟨a,cap,h2,h3,h4⟩:=h1;obtain⟨b,o,rfl,h5⟩:=h4 hne;obtain⟨h6,h7⟩:=adX h5 hi;refine⟨b,o,cap,h2,by simp,h6,ro h,λk x hk=> ?_, ?_, ?_, ?_, ?_⟩
  ·obtain⟨g,hg1,hg2⟩:=agl h7 hk;exact⟨g,hl _ _ _ hg1,hg2⟩
  ·intro k n g hg;simpa[ro] using hg
  ·intro b g hg;simpa[ro] using hg
  ·intro s g hg;simpa[ro] using hg
  ·intro o s rs g hg _;exact adT hg
 |false=>
  simp only[oM] at hq;rcases hq with⟨rfl,_,_⟩|⟨b,cap,cs,t,N',h1,h2,h3,h4,h5,_⟩
  ·exact absurd rfl hne
  ·have hfull:∀k g,(cs.toList.drop (i * s))[k]? =some g->full w b (0+i * s+k)=some g:=by intro k g hg;rw[List.getElem?_drop] at hg;rw[full_cell h3,Nat.zero_add];exact hg
   cases fl with
   |true=>
    obtain⟨h6,h7⟩:=ae0 h5.1 hi;refine⟨b,0,cap,h1,by simp,h6,ro h,λk x hk=> ?_, ?_, ?_, ?_, ?_⟩
    ·obtain⟨g,hg1,hg2⟩:=aht h7 hk;exact⟨g,hfull k g hg1,hg2⟩
    ·intro k n g hg;simpa[ro] using hg
    ·intro b g hg;simpa[ro] using hg
    ·intro s g hg;simpa[ro] using hg
    ·intro o s rs g hg _;exact adT hg
   |false=>
    obtain⟨h6,N1,h7⟩:=ajB h5 hi;refine⟨b,0,cap,h1,by simp,h6,λx g=>∃N,ow (dM w) h x g N,λk x hk=> ?_, ?_, ?_, ?_, ?_⟩
    ·obtain⟨g,N2,hg1,hg2⟩:=amj h7 hk;exact⟨g,hfull k g hg1,N2,hg2⟩
    ·rintro k n g ⟨N,hg⟩;simp only[ow] at hg;exact hg.1
    ·rintro b g ⟨N,hg⟩;simp only[ow] at hg;exact hg.1
    ·rintro s g ⟨N,hg⟩;simp only[ow] at hg;exact hg.1
    ·rintro o s rs g ⟨N,hg⟩ ho;cases o with
     |false=>simp only[ow] at hg;exact hg.2
     |true=>
      rcases ho with ho|rfl
      ·cases ho
      ·simp only[ow] at hg;rcases hg with⟨_,rfl,_⟩|⟨b,cap,cs,t,N',e1,e2,_⟩
       ·simp[ro]
       ·simp only[ro];exact⟨_,cap,e1,by simp,λe=>absurd rfl e⟩
def ayQ(hA:At base U M0 w0 w m G){t:TypeId}{a:V}{ga:Value}(ha:aV G.μ m (Gh U w G) a ga){v:V}{l l':Log}(h:(ayC P t a).run m l=some (v,m',l')):
  ∃g,(Instr.loadAt t ga).run P w=.ok g w/\m'=m/\aV G.μ m (Gh U w G) v g:=by
 simp only[ayC] at h;replace h:=au h;obtain⟨_,m1,l1,h1,h⟩:=h;obtain⟨hok,rfl,rfl⟩:=fK h1;simp only[rZ] at hok;obtain⟨hok,hsz⟩:=hok;have hsz:=Dy hsz;cases a with
 |ptr r off=>
  simp only at h;replace h:=au h;obtain⟨c,m2,l2,h2,h⟩:=h;rw[vF] at h2;cases h2;cases hc:get r m1 with
  |none=>rw[hc] at h;exact aH h
  |some c=>
   rw[hc] at h;cases c with
   |box T cs=>
    simp only at h;replace h:=au h;obtain⟨_,m2,l2,h2,h⟩:=h;obtain⟨hfit,rfl,rfl⟩:=fK h2;obtain⟨hv,rfl,rfl⟩:=jA h;simp only[aV,hc] at ha;obtain⟨_,b,hμ,rfl⟩:=ha;obtain⟨b',arr,e1,e2,e3,e4⟩:=hA.ok.cell r _ hc (by rw[hA.out];simp);rw[hμ] at e1;cases e1;have hp:=ajA off (x9 P t) e3;have hlen:arr.size=cs.length:=by simpa using jB e3
    have hfit:=Nat.le_of_ble_eq_true hfit;obtain⟨g,hg⟩:=avn hv hp;refine⟨g,UE hok (by simp;omega) ?_ hg,rfl,UD hv hp hg⟩;intro j x hj;have hj':j<x9 P t:=by have:=(NV.1 hj).1;simp at this;omega
    rw[List.getElem?_take,if_pos hj',List.getElem?_drop] at hj;have:=full_cell (w:=w) e2 (off+j);rw[hj] at this;exact this
   |_=>exact aH h
 |DC row off=>
  simp only at h;simp only[aV] at ha;obtain⟨b,o,rfl,hrow⟩:=ha;obtain⟨vs,cs,h2,h3,h4,h5⟩:=agk (m:=m1) (μ:=G.μ) (h:=Gh U w G) (λk=>Gh U w G b (o+k)) (ro (Gh U w G)) (λk x hk=>agl hrow hk)
   (λk n g hg=>by simpa[ro] using hg) (λb g hg=>by simpa[ro] using hg) (λs g hg=>by simpa[ro] using hg) (λ_ s rs g hg _=>adT hg) _ _ _ _ _ _ h
  obtain⟨hv,rfl,rfl⟩:=jA h2;obtain⟨g,hg⟩:=avn hv h4;refine⟨g,UE hok (by rw[h3,hsz]) ?_ hg,rfl,UD hv h4 hg⟩;intro j x hj;have:=h5 j x hj;rw[Nat.add_assoc];exact zq _ _ _ _ _ _ this
 |FP r ver i off=>
  simp only at h;replace h:=au h;obtain⟨c,m2,l2,h2,h⟩:=h;rw[vF] at h2;cases h2;cases hc:get r m1 with
  |none=>rw[hc] at h;exact aH h
  |some c=>
   rw[hc] at h;cases c with
   |arr fz fl nG s rows=>simp only at h;replace h:=au h;obtain⟨_,m2,l2,h2,h⟩:=h;obtain⟨hb,rfl,rfl⟩:=fK h2;have hb:=Dy hb;subst hb;replace h:=au h;obtain⟨row,m2,l2,h2,h⟩:=h;obtain⟨hrow,rfl,rfl⟩:=jA h2;simp only[aV,hc] at ha;obtain⟨b,n,cap,hμ,rfl⟩:=ha.2.2 trivial;have hcell:=hA.ok.cell r _ hc (by rw[hA.out];simp);obtain⟨b',o,cap',e1,e2,e3,Rel,q1,q2,q3,q4,q5⟩:=avp hcell (zq _ _ _) hrow;rw[hμ] at e1;simp only[Value.slice.injEq,jW,Addr.mk.injEq] at e1;obtain⟨⟨rfl,ho,_⟩,_,_⟩:=e1;subst ho;obtain⟨vs,cs,h2,h3,h4,h5⟩:=agk (m:=_) (μ:=G.μ) (h:=Gh U w G) (λk=>full w b (0+i * s+k)) Rel q1 q2 q3 q4 (λo s rs g hg hs=>q5 o s rs g hg (hs rfl)) _ _ _ _ _ _ h;obtain⟨hv,rfl,rfl⟩:=jA h2;obtain⟨g,hg⟩:=avn hv h4;refine⟨g,UE hok (by rw[h3,hsz]) ?_ hg,rfl,UD hv h4 hg⟩;intro j x hj;have:=h5 j x hj;rw[show i * s+off+j=0+i * s+(off+j) from by omega];exact this
   |_=>exact aH h
 |_=>exact aH h
def tY{μ:Nat->Value}{h:View}{v:V}{g:Value}(h1:one v=true)(q:aV μ m h v g):g.oneCell'=true:=by
 cases v with
 |d x=>simp only[aV] at q;exact Wy q
 |nil s=>simp only[aV] at q;subst q;rfl
 |own _ _=>simp only[aV] at q;obtain⟨⟨a,n,c,rfl⟩,_⟩:=q;rfl
 |ptr _ _=>simp only[aV] at q;obtain⟨⟨b,o,rfl⟩,_⟩:=q;rfl
 |FP _ _ _ _=>simp only[aV] at q;obtain⟨⟨b,o,rfl⟩,_⟩:=q;rfl
 |DC _ _=>simp only[aV] at q;obtain⟨b,o,rfl,_⟩:=q;rfl
 |clo _ _ _=>simp only[aV] at q;obtain⟨a,c,rfl,_⟩:=q;rfl
 |agg _=>simp[one] at h1
 |Kv _=>simp[one] at h1
 |undef=>simp[one] at h1
def cells_one{g:Value}(h:g.oneCell'=true):g.cells=#[g]:=by cases g<;>first|rfl|simp[Value.oneCell'] at h
def amk{μ:Nat->Value}{h:View}:∀{vs:List V} {gs:List Value},vs.all one=true->dA μ m h vs gs->∀x∈gs,x.oneCell'=true
 |[],gs,_,q=>by simp only[dA] at q;subst q;simp
 |v::vs,gs,h1,q=>by
  obtain⟨g,gs',rfl,q1,q2⟩:=rE q;simp only[List.all_cons,rZ] at h1;intro x hx;simp only[List.mem_cons] at hx;rcases hx with rfl|hx
  ·exact tY h1.1 q1
  ·exact amk h1.2 q2 x hx
def cells_ok{μ:Nat->Value}{h:View}{v:V}{g:Value}(h1:v.cells.all one=true)(q:aV μ m h v g):dA μ m h v.cells g.cells.toList/\∀x∈g.cells.toList,x.oneCell'=true:=by
 have single:one v=true->v.cells=[v]->dA μ m h v.cells g.cells.toList/\∀x∈g.cells.toList,x.oneCell'=true:=by intro ho hv;have:=tY ho q;rw[cells_one this,hv];exact⟨by simp only[dA];exact⟨g,[],rfl,q,rfl⟩,by simpa using this⟩
 cases v with
 |agg cs=>simp only[aV] at q;obtain⟨a,rfl,q⟩:=q;exact⟨q,amk h1 q⟩
 |Kv _=>simp[V.cells,one] at h1
 |undef=>simp[V.cells,one] at h1
 |_=>exact single rfl rfl
def aml{μ:Nat->Value}{h:View}(c:CT)(g:Value):aV μ m h (aob c g) g:=by unfold aob;split<;>simp[aV,ro]
def Yc{μ:Nat->Value}{h:View}:∀(cs:List CT) (gs:List Value),dA μ m h (Tt cs gs) gs
 |[],[]=>by simp[Tt,dA]
 |_::_,[]=>by simp[Tt,dA]
 |[],g::gs=>by simp only[Tt,dA];exact⟨g,gs,rfl,by simp[aV],Yc [] gs⟩
 |c::cs,g::gs=>by simp only[Tt,dA];exact⟨g,gs,rfl,aml c g,Yc cs gs⟩
def aKT{μ:Nat->Value}{h:View}(t:TypeId)(g:Value):aV μ m h (cv P t g) g:=by
 unfold cv;split
 ·simp only[aV];exact⟨_,rfl,Yc _ _⟩
 ·split
  ·exact aml _ _
  ·simp[aV]
def ae1(μ:Nat->Value)(m:Mem)(h:View)(tm:lV)(a:Act):Prop:=∀t v,get t tm=some v->t<a.tmps.size/\aV μ m h v (a.tmps.getD t undef)
def ZK{μ:Nat->Value}{h:View}{tm:lV}{a:Act}(hT:ae1 μ m h tm a)(t:TypeId)(x:Operand):aV μ m h (ev P tm t x) (a.eval x):=by
 cases x with
 |tmp i=>
  simp only[ev,abK];cases hg:get i tm with
  |none=>simp[aV]
  |some v=>exact(hT i v hg).2
 |const v=>exact aKT t v
 |global g=>simp[ev,aV]
 |func f=>simp only[ev,aV];exact⟨#[],#[],rfl,by simp[dA],by simp[dA]⟩
def amm{μ:Nat->Value}{h:View}{tm:lV}{a:Act}(hT:ae1 μ m h tm a):∀(xs:List Operand) (ts:List TypeId),dA μ m h (zo P tm xs ts) (xs.map a.eval)
 |[],_=>by simp[zo,dA]
 |x::xs,ts=>by simp only[zo,dA,zmc];exact⟨_,_,rfl,ZK hT _ x,amm hT xs _⟩
def Qj{μ:Nat->Value}{h:View}{t:TypeId}{z:List V}(hz:Tv P t=some z):∃i zv,P.info? t=some i/\i.zero=some zv/\dA μ m h z zv.cells.toList:=by
 unfold Tv at hz;cases hi:P.info? t with
 |none=>simp[hi] at hz
 |some i=>
  simp only[hi] at hz;cases hzv:i.zero with
  |none=>simp[hzv] at hz
  |some zv=>simp only[hzv,jW] at hz;subst hz;exact⟨i,zv,rfl,hzv,Yc _ _⟩
def Fj.rewrite(hg:Fj base U w m G)(ho:G.out=[])(hfr:Fr M0 w0 w G){r:Nat}{c c':Cell}{μ':Nat->Value}{N:List Nat}(hc:get r m=some c)(hk:Keep (G.F r) w w')(hN:N.Nodup)
  (hNs:∀b,b∈N->(b∈G.F r\/b∈G.E\/w.heap.size<=b)/\b<w'.heap.size) (hμ:∀k,k≠r->μ' k=G.μ k) (hle:Af G.μ μ' r c c')
  (hcell:∀h':View,(Gh U w G).le h'->Et G.μ m μ' (put r c' m)->(∀k,k∈G.E->k ∉ N->aeV h' (dM w) [k])->oM μ' (put r c' m) (dM w') h' r c' N):
  Nx base U M0 w0 w m G w' (put r c' m) ⟨μ',PN G.F r N,[],[]⟩:=by
 have hro:r ∉ G.out:=by rw[ho];simp
 obtain⟨k1,k2⟩:=hg.aGt hc hro;have hk':Keep (G.E++G.F r) w w':=⟨hk.os,hk.tape,hk.output,hk.size,λb hb hn=>hk.block b hb (λh=>hn (by simp[h]))⟩
 obtain⟨q1,q2⟩:=Fj.world k1 hk' (E':=N) hN (λb hb=>by
  have:=hNs b hb;refine⟨?_,this.2⟩;rcases this.1 with h|h|h
  ·left;simp[h]
  ·left;simp[h]
  ·exact .inr h)
 have hup:PN (PN G.F r []) r N=PN G.F r N:=by
  funext k
  by_cases e:k=r
  ·subst e;simp
  ·simp[iH _ e]
 have hml:Et G.μ m μ' (put r c' m):=Hg hμ (λc0 h0=>by rw[hc] at h0;cases h0;exact hle);have hset:=Fj.set (U:=U) (w:=w') q1 r c' μ' N [] [] (by simpa using hN) (by simp) hml hμ (λk hkr=>by simp[ho,hkr]) (by simp)
  (λhv _=>hcell _ (k2.view.trans' (q2.trans' hv)) hml (λk hkE hkN b hb cs t fr hH o v hv=>by
   simp only[List.mem_singleton] at hb;subst hb;have hbF:∀j,b ∉ G.F j:=λj hj=>hg.djE j b hj hkE
   have hlt:=hg.lt b (.inl hkE);have hsame:dM w' b=dM w b:=hk.block b hlt.1 (hbF r);refine Nz (w:=w') (N:=[b]) (λx hx=> ?_) b (by simp) cs t fr (hsame.trans hH) o v hv;simp only[List.mem_singleton] at hx;subst hx;refine⟨hlt.2.2, ?_⟩;rintro(h|⟨j,h⟩)
   ·simp at h
   ·rw[hup] at h
    by_cases e:j=r
    ·subst e;rw[tX] at h;exact hkN h
    ·rw[iH _ e] at h;exact hbF j h))
 simp only[hup] at hset;obtain⟨s1,s2⟩:=hset;refine⟨s1,rfl,rfl,hml,k2.view.trans' (q2.trans' s2.view), ?_⟩;refine⟨hfr.keep.trans hk (λx hx=>hfr.fr x (.inr ⟨r,hx⟩)), ?_⟩;rintro b (hb|⟨k,hb⟩)
 ·simp at hb
 ·by_cases e:k=r
  ·subst e;simp only[tX] at hb;rcases(hNs b hb).1 with h|h|h
   ·exact hfr.fr b (.inr ⟨_,h⟩)
   ·exact hfr.fr b (.inl h)
   ·exact .inr (Nat.le_trans hfr.keep.size h)
  ·simp only[iH _ e] at hb;exact hfr.fr b (.inr ⟨k,hb⟩)
def At.rewrite(hA:At base U M0 w0 w m G){r:Nat}{c c':Cell}{μ':Nat->Value}{N:List Nat}(hc:get r m=some c)(hk:Keep (G.F r) w w')(hN:N.Nodup)
  (hNs:∀b,b∈N->(b∈G.F r\/w.heap.size<=b)/\b<w'.heap.size) (hμ:∀k,k≠r->μ' k=G.μ k) (hle:Af G.μ μ' r c c')
  (hcell:∀h':View,(Gh U w G).le h'->Et G.μ m μ' (put r c' m)->oM μ' (put r c' m) (dM w') h' r c' N):
  Nx base U M0 w0 w m G w' (put r c' m) ⟨μ',PN G.F r N,[],[]⟩:=
 hA.ok.rewrite hA.out hA.fr hc hk hN (λb hb=>⟨(hNs b hb).1.imp id .inr,(hNs b hb).2⟩) hμ hle (λh' h1 h2 _=>hcell h' h1 h2)
def Nx.after{G1:GS}{m1:Mem}(hl:Zg m G m1 G1)(h:Nx base U M0 w0 w m1 G1 w' m' G'):Nx base U M0 w0 w m G w' m' G':=
 ⟨h.ok,h.E,h.out,xw hl.mem h.mem,hl.view.trans' h.view,h.fr⟩
def VJ{b:Nat}{cs:Array Value}{M:List Nat}(hb:b∈M):Keep M w (w.setRow b cs):=
 ⟨rfl,rfl,rfl,by simp[World.setRow],λk _ hk=>setRow_other w b k cs (λe=>hk (e ▸ hb))⟩
def adY{o:Obj}{M:List Nat}:Keep M w (w.alloc o):=⟨rfl,rfl,rfl,by simp,λk hk _=>heap_alloc_old w o k hk⟩
def agm{M:List Nat}:Keep M w w.drew:=⟨rfl,rfl,rfl,Nat.le_refl _,λ_ _ _=>rfl⟩
def Qk{H:Heap}{h:View}:∀{r:Row} {cs cs':List Value} {N:List Nat},cs.take r.length=cs'.take r.length->jS H h r cs N->jS H h r cs' N
 |[],_,_,_,_,q=>by simpa[jS] using q
 |x::r,cs,cs',N,e,q=>by
  obtain⟨v,cs1,N1,N2,rfl,rfl,h1,h2⟩:=FU q;cases cs' with
  |nil=>simp at e
  |cons v' aHm=>simp only[yS,List.take_succ_cons,List.cons.injEq] at e;obtain⟨rfl,e⟩:=e;simp only[jS];exact⟨v,aHm,N1,N2,rfl,rfl,h1,Qk e h2⟩
def BM{H:Heap}{h:View}:∀{a b:Row} {cs:List Value} {N:List Nat},jS H h (a++b) cs N↔∃N1 N2,N=N1++N2/\jS H h a cs N1/\jS H h b (cs.drop a.length) N2
 |[],b,cs,N=>by
  simp only[List.nil_append,jS,SS,List.drop_zero];constructor
  ·intro q;exact⟨[],N,rfl,rfl,q⟩
  ·rintro⟨N1,N2,rfl,rfl,q⟩;simpa using q
 |x::a,b,cs,N=>by
  simp only[zca,jS];constructor
  ·rintro⟨v,cs',N1,N2,rfl,rfl,h1,h2⟩;obtain⟨N3,N4,rfl,h3,h4⟩:=BM.1 h2;exact⟨N1++N3,N4,by simp,⟨v,cs',N1,N3,rfl,rfl,h1,h3⟩,by simpa using h4⟩
  ·rintro⟨N1,N2,rfl,⟨v,cs',N3,N4,rfl,rfl,h1,h3⟩,h4⟩;exact⟨v,cs',N3,N4++N2,rfl,by simp,h1,BM.2 ⟨N4,N2,rfl,h3,by simpa using h4⟩⟩
def ajC{H:Heap}{h:View}:∀{r:Row} {cs:List Value} {N:List Nat},jS H h r cs N->r.length<=cs.length
 |[],_,_,_=>by simp
 |x::r,cs,N,q=>by obtain⟨v,cs',N1,N2,rfl,rfl,_,h2⟩:=FU q;have:=ajC h2;simp;omega
def KR{α:Type}{l xs:List α}{o:Nat}(h:o+xs.length<=l.length):(splice l o xs).length=l.length:=by simp[splice];omega
def aon{H:Heap}{h:View}{row xs:Row}{cs gs:List Value}{N N1:List Nat}{o:Nat}(q:jS H h row cs N)(q1:jS H h xs gs N1)(hl:xs.length=gs.length)(ho:o+xs.length<=row.length):
  ∃N' Dr,jS H h (splice row o xs) (splice cs o gs) N'/\(N'++Dr).Perm (N++N1):=by
 have hrow:row=row.take o++((row.drop o).take xs.length++row.drop (o+xs.length)):=by rw[<-List.drop_drop,List.take_append_drop,List.take_append_drop]
 have hcl:=ajC q;rw[hrow] at q;obtain⟨Na,Nb,rfl,qa,qb⟩:=BM.1 q;obtain⟨Nc,Nd,rfl,qc,qd⟩:=BM.1 qb;have l1:(row.take o).length=o:=by simp;omega
 have l2:((row.drop o).take xs.length).length=xs.length:=by simp;omega
 rw[l1,List.drop_drop,l2] at qd;refine⟨Na++(N1++Nd),Nc, ?_, ?_⟩
 ·have e:splice row o xs=row.take o++(xs++row.drop (o+xs.length)):=by simp[splice]
  rw[e];refine BM.2 ⟨Na,N1++Nd,rfl, ?_, ?_⟩
  ·refine Qk ?_ qa;rw[l1];simp only[splice,Qc];rw[List.take_append_of_le_length (by simp;omega)];rw[List.take_take];congr 1;omega
  ·rw[l1];have hd:(splice cs o gs).drop o=gs++cs.drop (o+gs.length):=by
    simp only[splice,Qc];rw[List.drop_append_of_le_length (by simp;omega)];have:(cs.take o).drop o=[]:=by simp
    rw[this];rfl
   rw[hd];refine BM.2 ⟨N1,Nd,rfl, ?_, ?_⟩
   ·refine Qk ?_ q1;rw[hl];simp
   ·rw[hl];rw[hl] at qd;simpa using qd
 ·simp only[Qc];refine List.Perm.append_left Na ?_;have h1:(N1++(Nd++Nc)).Perm ((Nd++Nc)++N1):=List.perm_append_comm;have h2:((Nd++Nc)++N1).Perm ((Nc++Nd)++N1):=List.Perm.append_right N1 List.perm_append_comm;simpa using h1.trans h2
def RN{H:Heap}{h:View}{s:Nat}:∀{rs:List Row} {cs cs':List Value} {N:List Nat},cs.take (rs.length * s)=cs'.take (rs.length * s)->iG H h s rs cs N->iG H h s rs cs' N
 |[],_,_,_,_,q=>by simpa[iG] using q
 |r::rs,cs,cs',N,e,q=>by
  simp only[iG] at q|-;obtain⟨h1,N1,N2,rfl,h2,h3⟩:=q;have hs:(r::rs).length * s=s+rs.length * s:=by simp[Nat.add_mul];omega
  rw[hs] at e;refine⟨h1,N1,N2,rfl,Qk ?_ h2,RN ?_ h3⟩
  ·rw[h1];have:=congrArg (List.take s) e;simpa[List.take_take,Nat.min_eq_left] using this
  ·have:=congrArg (List.drop s) e;simpa[List.drop_take] using this
def DI{H:Heap}{h:View}{s:Nat}:∀{a b:List Row} {cs:List Value} {N:List Nat},iG H h s (a++b) cs N↔∃N1 N2,N=N1++N2/\iG H h s a cs N1/\iG H h s b (cs.drop (a.length * s)) N2
 |[],b,cs,N=>by
  simp only[List.nil_append,iG,SS,Nat.zero_mul,List.drop_zero];constructor
  ·intro q;exact⟨[],N,rfl,rfl,q⟩
  ·rintro⟨N1,N2,rfl,rfl,q⟩;simpa using q
 |x::a,b,cs,N=>by
  have hs:(x::a).length * s=s+a.length * s:=by simp[Nat.add_mul];omega
  simp only[zca,iG,hs];constructor
  ·rintro⟨h0,N1,N2,rfl,h1,h2⟩;obtain⟨N3,N4,rfl,h3,h4⟩:=DI.1 h2;exact⟨N1++N3,N4,by simp,⟨h0,N1,N3,rfl,h1,h3⟩,by simpa using h4⟩
  ·rintro⟨N1,N2,rfl,⟨h0,N3,N4,rfl,h1,h3⟩,h4⟩;exact⟨h0,N3,N4++N2,by simp,h1,DI.2 ⟨N4,N2,rfl,h3,by simpa using h4⟩⟩
def Oa{h:View}:∀{r:Row} {cs cs':List Value},cs.take r.length=cs'.take r.length->jg h r cs->jg h r cs'
 |[],_,_,_,_=>trivial
 |x::r,cs,cs',e,⟨v,cs1,e1,h1,h2⟩=>by
  subst e1;cases cs' with
  |nil=>simp at e
  |cons v' aHm=>simp only[yS,List.take_succ_cons,List.cons.injEq] at e;obtain⟨rfl,e⟩:=e;exact⟨v,aHm,rfl,h1,Oa e h2⟩
def Ew{h:View}:∀{a b:Row} {cs:List Value},jg h (a++b) cs↔jg h a cs/\jg h b (cs.drop a.length)
 |[],b,cs=>by simp[jg]
 |x::a,b,cs=>by
  simp only[zca,jg];constructor
  ·rintro⟨v,cs',rfl,h1,h2⟩;obtain⟨h3,h4⟩:=Ew.1 h2;exact⟨⟨v,cs',rfl,h1,h3⟩,by simpa using h4⟩
  ·rintro⟨⟨v,cs',rfl,h1,h3⟩,h4⟩;exact⟨v,cs',rfl,h1,Ew.2 ⟨h3,by simpa using h4⟩⟩
def adZ{h:View}:∀{r:Row} {cs:List Value},jg h r cs->r.length<=cs.length
 |[],_,_=>by simp
 |x::r,cs,⟨v,cs',e,_,h2⟩=>by subst e;have:=adZ h2;simp;omega
def ajD{h:View}{row xs:Row}{cs gs:List Value}{o:Nat}(q:jg h row cs)(q1:jg h xs gs)(hl:xs.length=gs.length)(ho:o+xs.length<=row.length):jg h (splice row o xs) (splice cs o gs):=by
 have hrow:row=row.take o++((row.drop o).take xs.length++row.drop (o+xs.length)):=by rw[<-List.drop_drop,List.take_append_drop,List.take_append_drop]
 have hcl:=adZ q;rw[hrow] at q;obtain⟨qa,qb⟩:=Ew.1 q;obtain⟨qc,qd⟩:=Ew.1 qb;have l1:(row.take o).length=o:=by simp;omega
 have l2:((row.drop o).take xs.length).length=xs.length:=by simp;omega
 rw[l1,List.drop_drop,l2] at qd;have e:splice row o xs=row.take o++(xs++row.drop (o+xs.length)):=by simp[splice]
 rw[e];refine Ew.2 ⟨?_, ?_⟩
 ·refine Oa ?_ qa;rw[l1];simp only[splice,Qc];rw[List.take_append_of_le_length (by simp;omega)];rw[List.take_take];congr 1;omega
 ·rw[l1];have hd:(splice cs o gs).drop o=gs++cs.drop (o+gs.length):=by
   simp only[splice,Qc];rw[List.drop_append_of_le_length (by simp;omega)];have:(cs.take o).drop o=[]:=by simp
   rw[this];rfl
  rw[hd];refine Ew.2 ⟨Oa (by rw[hl];simp) q1, ?_⟩;rw[hl];rw[hl] at qd;simpa using qd
def QH{h:View}{s:Nat}:∀{rs:List Row} {cs cs':List Value},cs.take (rs.length * s)=cs'.take (rs.length * s)->jc h s rs cs->jc h s rs cs'
 |[],_,_,_,_=>trivial
 |r::rs,cs,cs',e,⟨h1,h2,h3⟩=>by
  have hs:(r::rs).length * s=s+rs.length * s:=by simp[Nat.add_mul];omega
  rw[hs] at e;refine⟨h1,Oa ?_ h2,QH ?_ h3⟩
  ·rw[h1];have:=congrArg (List.take s) e;simpa[List.take_take,Nat.min_eq_left] using this
  ·have:=congrArg (List.drop s) e;simpa[List.drop_take] using this
def Le{h:View}{s:Nat}:∀{a b:List Row} {cs:List Value},jc h s (a++b) cs↔jc h s a cs/\jc h s b (cs.drop (a.length * s))
 |[],b,cs=>by simp[jc]
 |x::a,b,cs=>by
  have hs:(x::a).length * s=s+a.length * s:=by simp[Nat.add_mul];omega
  simp only[zca,jc,hs];rw[Le,List.drop_drop];constructor
  ·rintro⟨h0,h1,h2,h3⟩;exact⟨⟨h0,h1,h2⟩,h3⟩
  ·rintro⟨⟨h0,h1,h2⟩,h3⟩;exact⟨h0,h1,h2,h3⟩
def RP{α:Type}{l:List α}{i:Nat}{a b:α}(h:l[i]? =some a):l.set i b=l.take i++(b::l.drop (i+1))/\l=l.take i++(a::l.drop (i+1)):=by
 have hi:=(NV.1 h).1;have ha:=(NV.1 h).2;refine⟨?_, ?_⟩
 ·rw[List.set_eq_take_append_cons_drop,if_pos hi]
 ·rw[<-ha,List.getElem_cons_drop,List.take_append_drop]
def atB{H:Heap}{h:View}{s i o:Nat}{rows:List Row}{row xs:Row}{cs gs:List Value}{N N1:List Nat}(q:iG H h s rows cs N)(hi:rows[i]? =some row)(q1:jS H h xs gs N1)(hl:xs.length=gs.length)(ho:o+xs.length<=s):
  ∃N' Dr,iG H h s (rows.set i (splice row o xs)) (splice cs (i * s+o) gs) N'/\(N'++Dr).Perm (N++N1):=by
 obtain⟨e1,e2⟩:=RP (b:=splice row o xs) hi;have hil:=(NV.1 hi).1;rw[e2] at q;obtain⟨Na,Nb,rfl,qa,qb⟩:=DI.1 q;have l1:(rows.take i).length=i:=by simp;omega
 rw[l1] at qb;simp only[iG] at qb;obtain⟨h0,Nc,Nd,rfl,qc,qd⟩:=qb;have hcl:=ajC qc;simp only[List.length_drop] at hcl;obtain⟨N',Dr,qe,hp⟩:=aon (o:=o) qc q1 hl ak;have atC:(splice row o xs).length=s:=by rw[KR (l:=row) (xs:=xs) (o:=o) ak];exact h0
 have his:i * s<=cs.length:=by
  rcases Nat.eq_zero_or_pos s with e|e
  ·rw[e];simp
  ·omega
 refine⟨Na++(N'++Nd),Dr, ?_, ?_⟩
 ·rw[e1];refine DI.2 ⟨Na,N'++Nd,rfl, ?_, ?_⟩
  ·refine RN ?_ qa;rw[l1];simp only[splice,Qc];rw[List.take_append_of_le_length (by simp;omega),List.take_take];congr 1;omega
  ·rw[l1];have hd:(splice cs (i * s+o) gs).drop (i * s)=splice (cs.drop (i * s)) o gs:=by simp only[splice];rw[Qc,List.drop_append_of_le_length (by simp;omega),List.drop_take,List.drop_drop];rw[show i * s+o - i * s=o from by omega,Qc,Nat.add_assoc]
   simp only[iG,hd];refine⟨atC,N',Nd,rfl,qe, ?_⟩;have hd2:(splice (cs.drop (i * s)) o gs).drop s=(cs.drop (i * s)).drop s:=by simp only[splice];rw[List.drop_append,List.drop_eq_nil_of_le (by simp;omega)];simp only[List.nil_append,List.drop_drop,wM,zlt,List.length_drop];congr 1;omega
   rw[hd2];exact qd
 ·simp only[Qc];refine List.Perm.append_left Na ?_;have h1:(N'++(Nd++Dr)).Perm (N'++(Dr++Nd)):=List.Perm.append_left N' List.perm_append_comm;have h2:((N'++Dr)++Nd).Perm ((Nc++N1)++Nd):=List.Perm.append_right Nd hp;have h3:(Nc++(N1++Nd)).Perm (Nc++(Nd++N1)):=List.Perm.append_left Nc List.perm_append_comm;have h2':(N'++(Dr++Nd)).Perm (Nc++(N1++Nd)):=by simpa using h2
  exact h1.trans (h2'.trans h3)
def aoo{h:View}{s i o:Nat}{rows:List Row}{row xs:Row}{cs gs:List Value}(q:jc h s rows cs)(hi:rows[i]? =some row)(q1:jg h xs gs)(hl:xs.length=gs.length)(ho:o+xs.length<=s):
  jc h s (rows.set i (splice row o xs)) (splice cs (i * s+o) gs):=by
 obtain⟨e1,e2⟩:=RP (b:=splice row o xs) hi;have hil:=(NV.1 hi).1;rw[e2] at q;obtain⟨qa,qb⟩:=Le.1 q;have l1:(rows.take i).length=i:=by simp;omega
 rw[l1] at qb;obtain⟨h0,qc,qd⟩:=qb;have hcl:=adZ qc;simp only[List.length_drop] at hcl;have qe:=ajD (o:=o) qc q1 hl ak;have atC:(splice row o xs).length=s:=by rw[KR (l:=row) (xs:=xs) (o:=o) ak];exact h0
 have his:i * s<=cs.length:=by
  rcases Nat.eq_zero_or_pos s with e|e
  ·rw[e];simp
  ·omega
 rw[e1];refine Le.2 ⟨?_, ?_⟩
 ·refine QH ?_ qa;rw[l1];simp only[splice,Qc];rw[List.take_append_of_le_length (by simp;omega),List.take_take];congr 1;omega
 ·rw[l1];have hd:(splice cs (i * s+o) gs).drop (i * s)=splice (cs.drop (i * s)) o gs:=by simp only[splice];rw[Qc,List.drop_append_of_le_length (by simp;omega),List.drop_take,List.drop_drop];rw[show i * s+o - i * s=o from by omega,Qc,Nat.add_assoc]
  rw[hd];refine⟨atC,qe, ?_⟩;have hd2:(splice (cs.drop (i * s)) o gs).drop s=(cs.drop (i * s)).drop s:=by simp only[splice];rw[List.drop_append,List.drop_eq_nil_of_le (by simp;omega)];simp only[List.nil_append,List.drop_drop,wM,zlt,List.length_drop];congr 1;omega
  rw[hd2];exact qd
def At.took(hA:At base U M0 w0 w m G){N:List Nat}(ht:NT base U w m G m' G' N):G'.E=N/\G'.out=[]/\Fr M0 w0 w G':=
 ⟨by rw[ht.E,hA.E];rfl,ht.out.trans hA.out,hA.fr.less ht.le.ex⟩
def aop(k:Nat)(c c':Cell):∀m:Mem,put k c (put k c' m)=put k c m
 |[]=>by simp[put]
 |(j,y)::m=>by
  have hk:Nat.beq k k=true:=Nat.beq_refl k
  by_cases h:k=j
  ·subst h;simp[put]
  ·have hb:Nat.beq k j=false:=yG h;cases hl:Nat.blt k j with
   |true=>simp[put,hb,hl]
   |false=>simp[put,hb,hl,aop k c c' m]
def awY(hA:At base U M0 w0 w m G){t:TypeId}{a x:V}{ga gx:Value}(ha:aV G.μ m (Gh U w G) a ga)(hx:aV G.μ m (Gh U w G) x gx){u:Unit}{l l':Log}(h:(ati P t a x).run m l=some (u,m',l')):
  ∃w' G',(Instr.storeAt t ga gx).run P w=.ok () w'/\Nx base U M0 w0 w m G w' m' G':=by
 simp only[ati] at h;replace h:=au h;obtain⟨_,m1,l1,h1,h⟩:=h;obtain⟨hok,rfl,rfl⟩:=fK h1;replace h:=au h;obtain⟨_,m1,l1,h1,h⟩:=h;obtain⟨hlen,rfl,rfl⟩:=fK h1;replace h:=au h;obtain⟨_,m1,l1,h1,h⟩:=h;obtain⟨hone,rfl,rfl⟩:=fK h1;have hlen:=Dy hlen;obtain⟨hxs,hx1⟩:=cells_ok hone hx;have hgl:gx.cells.size=x9 P t:=by rw[<-hlen,<-jB hxs,Array.length_toList]
 cases a with
 |ptr r off=>
  simp only at h;replace h:=au h;obtain⟨c,m2,l2,h2,h⟩:=h;rw[vF] at h2;cases h2;cases hc:get r m1 with
  |none=>rw[hc] at h;exact aH h
  |some c=>
   rw[hc] at h;cases c with
   |box T cs=>
    simp only at h;replace h:=au h;obtain⟨_,m2,l2,h2,h⟩:=h;obtain⟨hfit,rfl,rfl⟩:=fK h2;simp only[aV,hc] at ha;obtain⟨_,b,hμ,rfl⟩:=ha;obtain⟨b',arr,e1,e2,e3,e4⟩:=hA.ok.cell r _ hc (by rw[hA.out];simp);rw[hμ] at e1;cases e1;have hal:arr.size=cs.length:=by simpa using jB e3
    have hfit:=Nat.le_of_ble_eq_true hfit;have hrun:=ZI (P:=P) hok e2 hgl (off:=off) ak hx1;have hb:b∈G.F r:=by rw[e4];simp
    have hnx:=hA.rewrite (c':=.box T (splice cs off x.cells)) (w':=w.setRow b (splice arr.toList off gx.cells.toList).toArray) (μ':=G.μ) (N:=[b]) hc (VJ hb) (by simp) (λk hk=>by
     simp at hk;subst hk;refine⟨.inl hb, ?_⟩;have:=(hA.ok.lt _ (.inr ⟨r,hb⟩)).1;simpa[World.setRow] using this) (λ_ _=>rfl) ⟨rfl,rfl⟩ (λh' hv hml=>by
     refine⟨b,_,hμ,setRow_heap w b arr _ T (0,0) e2, ?_,rfl⟩;have:=Yb off e3 hxs;simpa using vV hml hv _ _ this)
    simp only[FT,jW,oI] at h;obtain⟨_,rfl,_⟩:=h;exact⟨_,_,hrun,hnx⟩
   |_=>exact aH h
 |FP r ver i off=>
  simp only at h;replace h:=au h;obtain⟨xs,m2,l2,h2,h⟩:=h;obtain⟨G1,N1,t1,hrow,hxl⟩:=Uz hA.ok hxs hA.out h2;obtain⟨hE1,ho1,agn⟩:=hA.took t1;replace h:=au h;obtain⟨c,m3,l3,h3,h⟩:=h;rw[vF] at h3;cases h3;replace ha:=t1.le.aV ha;cases hc:get r m2 with
  |none=>rw[hc] at h;exact aH h
  |some c=>
   rw[hc] at h;cases c with
   |zY nG s rows i' off'=>
    simp only at h;replace h:=au h;obtain⟨_,m4,l4,h4,h⟩:=h;obtain⟨hb,rfl,rfl⟩:=fK h4;simp only[rZ] at hb;obtain⟨hb1,hb2,hb3,hb4⟩:=hb;have hb1:=Dy hb1;have hb2:=Dy hb2;have hb3:=Dy hb3;subst hb1 hb2 hb3;obtain⟨x1,rfl⟩:=zlo.1 (Dy hb4);replace h:=au h;obtain⟨row,m4,l4,h4,h⟩:=h;obtain⟨hrw,rfl,rfl⟩:=jA h4;simp only[FT,jW,oI] at h;obtain⟨_,rfl,_⟩:=h;simp only[aV,hc] at ha;obtain⟨b,n,cap,hμ,rfl⟩:=ha.2.2 trivial;obtain⟨b',cap',cs,T,g0,row',Na,Nb,k1,k2,k3,k4,k5,k6,k7,k8,k9,k10⟩:=t1.ok.cell r _ hc (by rw[ho1];simp);rw[hμ] at k1;simp only[Value.slice.injEq,jW,Addr.mk.injEq] at k1;obtain⟨⟨rfl,_⟩,rfl,rfl⟩:=k1;rw[hrw] at k6;cases k6;have hbF:b∈G1.F r:=by rw[k10];simp
    obtain⟨g1,gs,P1,P2,hgs,hN,hq1,hq2⟩:=FU hrow;simp only[jS] at hq2;subst hq2;have hg1:gx.cells.toList=[g1]:=by
     have hl0:gx.cells.toList.length=1:=by rw[jB hxs,<-hxl];rfl
     rw[hgs] at hl0|-;cases gs with
     |nil=>rfl
     |cons _ _=>simp at hl0
    rw[List.append_nil] at hN;subst hN;have hlt:i * s+off<cs.size:=by simpa using(NV.1 k5).1
    have hsz:i * s+off+gx.cells.size<=cs.size:=by
     have:gx.cells.size=1:=by rw[<-Array.length_toList,hg1];rfl
     omega
    have hrun:=ZI (P:=P) hok k3 hgl (off:=i * s+off) hsz hx1;have hh:=setRow_heap w b cs (splice cs.toList (i * s+off) gx.cells.toList).toArray T (0,0) k3;have hsp:splice cs.toList (i * s+off) gx.cells.toList=cs.toList.set (i * s+off) g1:=by rw[hg1,splice,List.set_eq_take_append_cons_drop,if_pos (by simpa using hlt)];simp
    have hoth:∀k,k≠b->dM (w.setRow b (splice cs.toList (i * s+off) gx.cells.toList).toArray) k=dM w k:=λk hk=>setRow_other w b k _ hk
    have hnd:=t1.ok.nd r;rw[k10] at hnd;have hE:∀k,k∈N1->k∈G1.E:=λk hk=>by rw[hE1];exact hk
    have hnP:N1.Nodup:=by have:=t1.ok.ndE;rwa [hE1] at this
    have hdis:∀k,k∈N1->k≠b/\k ∉ Na/\k ∉ Nb:=λk hk=>by
     have h1:=λhx=>t1.ok.djE r k hx (hE k hk)
     rw[k10] at h1;simp only[List.mem_cons,List.mem_append] at h1;exact⟨λe=>h1 (.inl e),λe=>h1 (.inr (.inl e)),λe=>h1 (.inr (.inr e))⟩
    refine⟨_,_,hrun,Nx.after t1.le (t1.ok.rewrite ho1 agn (μ':=G1.μ) (N:=b::(Na++N1++Nb)) hc (VJ hbF) ?_ ?_ (λ_ _=>rfl) ⟨rfl,Nat.le_refl _,λ_=>⟨rfl,rfl⟩⟩ ?_)⟩
    ·have h2:=List.nodup_cons.1 hnd;have h3:=List.nodup_append.1 h2.2;refine List.nodup_cons.2 ⟨?_,List.nodup_append.2 ⟨List.nodup_append.2 ⟨h3.1,hnP,λx hx y hy e=>(hdis y hy).2.1 (e ▸ hx)⟩,h3.2.1,λx hx y hy e=> ?_⟩⟩
     ·simp only[List.mem_append,not_or] at h2|-;exact⟨⟨h2.1.1,λhx=>(hdis b hx).1 rfl⟩,h2.1.2⟩
     ·rcases List.mem_append.1 hx with hx|hx
      ·exact h3.2.2 x hx y hy e
      ·exact(hdis x hx).2.2 (e ▸ hy)
    ·intro k hk;have hsz':(w.setRow b (splice cs.toList (i * s+off) gx.cells.toList).toArray).heap.size=w.heap.size:=by simp[World.setRow]
     rw[hsz']
     by_cases hkP:k∈N1
     ·exact⟨.inr (.inl (hE k hkP)),(t1.ok.lt _ (.inl (hE k hkP))).1⟩
     ·have:k∈G1.F r:=by
       rw[k10];simp only[List.mem_cons,List.mem_append] at hk|-;rcases hk with h|(h|h)|h
       ·exact .inl h
       ·exact .inr (.inl h)
       ·exact absurd h hkP
       ·exact .inr (.inr h)
      exact⟨.inl this,(t1.ok.lt _ (.inr ⟨r,this⟩)).1⟩
    ·intro h' hv hml _;have hbn:=(List.nodup_cons.1 hnd).1;have ho:=k8 (dM (w.setRow b (splice cs.toList (i * s+off) gx.cells.toList).toArray)) h' x1 g1 N1 hv (λk hk=>hoth k (λe=>hbn (e ▸ hk)))
      (aiG hv _ _ _ (λk hk=>hoth k (hdis k hk).1) hq1)
     refine .inr ⟨b,cap,_,T,Na++N1++Nb, ?_, ?_,hh, ?_, ?_,rfl⟩
     ·rw[hμ];simp
     ·simpa using k2
     ·rw[hsp];simpa using k4
     ·rw[hsp] at ho|-;exact ho
   |arr fz fl nG s rows=>
    cases fz with
    |true=>exact aH h
    |false=>
    simp only at h;replace h:=au h;obtain⟨_,m4,l4,h4,h⟩:=h;obtain⟨hb,rfl,rfl⟩:=fK h4;have hb:=Dy hb;subst hb;replace h:=au h;obtain⟨_,m4,l4,h4,h⟩:=h;obtain⟨hfit,rfl,rfl⟩:=fK h4;have hfit:=Nat.le_of_ble_eq_true hfit;replace h:=au h;obtain⟨row,m4,l4,h4,h⟩:=h;obtain⟨hrw,rfl,rfl⟩:=jA h4;simp only[FT,jW,oI] at h;obtain⟨_,rfl,_⟩:=h;simp only[aV,hc] at ha;obtain⟨b,n,cap,hμ,rfl⟩:=ha.2.2 trivial;have hcell:=t1.ok.cell r _ hc (by rw[ho1];simp);have hne:rows≠[]:=by intro e;subst e;simp at hrw
    have hil:=(NV.1 hrw).1;simp only[oM] at hcell;rcases hcell with⟨e,_,_⟩|⟨b',cap',cs,T,N',k1,k2,k3,k4,k5,k6⟩
    ·exact absurd e hne
    rw[hμ] at k1;simp only[Value.slice.injEq,jW,Addr.mk.injEq] at k1;obtain⟨⟨rfl,_⟩,rfl,rfl⟩:=k1;have hbF:b∈G1.F r:=by rw[k6];simp
    have ayR:xs.length=gx.cells.toList.length:=by rw[hxl,jB hxs]
    have hsz:i * s+off+gx.cells.size<=cs.size:=by rw[k4,hgl];have:(i+1) * s<=cap * s:=Nat.mul_le_mul_right s ak;rw[Nat.add_mul] at this;omega
    have hrun:=ZI (P:=P) hok k3 hgl (off:=i * s+off) hsz hx1;have hh:=setRow_heap w b cs (splice cs.toList (i * s+off) gx.cells.toList).toArray T (0,0) k3;have aKU:off+xs.length<=s:=by rw[ayR,Array.length_toList,hgl];exact hfit
    have aKV:(splice cs.toList (i * s+off) gx.cells.toList).length=cs.size:=by rw[KR (by simpa using hsz)];simp
    have key:∃N2,N2.Nodup/\(fl=true->N2=[])/\(∀k,k∈N2->k∈G1.F r\/k∈G1.E)/\∀h':View,(Gh U w G1).le h'->(fl=true->aeV h' (dM w) N1)->X6 (dM (w.setRow b (splice cs.toList (i * s+off) gx.cells.toList).toArray)) h' fl s (rows.set i (splice row off xs)) (G1.μ r) (b::N2)/\b ∉ N2:=by
     have hoth:∀k,k≠b->dM (w.setRow b (splice cs.toList (i * s+off) gx.cells.toList).toArray) k=dM w k:=λk hk=>setRow_other w b k _ hk
     cases fl with
     |true=>
      refine⟨[],by simp,λ_=>rfl,by simp,λh' hv hs=>⟨.inr ⟨b,cap,_,T,[], ?_, ?_,hh, ?_,⟨?_,rfl⟩,rfl⟩,by simp⟩⟩
      ·rw[hμ];simp
      ·simpa using k2
      ·simpa[aKV] using k4
      ·have q1:jg h' xs gx.cells.toList:=adS hv xs _ N1 (hs rfl) hrow;simpa using aoo (KQ hv s rows _ k5.1) hrw q1 ayR aKU
     |false=>
      obtain⟨N2,Dr,q1,hp⟩:=atB k5 hrw hrow ayR aKU;have aHn:(N'++N1).Nodup:=by have h1:=t1.ok.nd r;rw[k6] at h1;have h2:=t1.ok.ndE;rw[hE1] at h2;exact List.nodup_append.2 ⟨(List.nodup_cons.1 h1).2,h2,λx hx y hy e=>t1.ok.djE r x (by rw[k6];simp[hx]) (by rw[hE1,e];exact hy)⟩
      have hnd:=List.nodup_append.1 (hp.nodup_iff.2 aHn);have hmem:∀k,k∈N2->k∈N'\/k∈N1:=λk hk=>by simpa using hp.mem_iff.1 (List.mem_append_left Dr hk)
      have hbn:b ∉ N2:=by
       intro hb2;rcases hmem b hb2 with h|h
       ·have:=t1.ok.nd r;rw[k6] at this;exact(List.nodup_cons.1 this).1 h
       ·exact t1.ok.djE r b hbF (by rw[hE1];exact h)
      refine⟨N2,hnd.1,(λe=>by cases e),λk hk=> ?_,λh' hv _=>⟨.inr ⟨b,cap,_,T,N2, ?_, ?_,hh, ?_, ?_,rfl⟩,hbn⟩⟩
      ·rcases hmem k hk with h|h
       ·left;rw[k6];simp[h]
       ·right;rw[hE1];exact h
      ·rw[hμ];simp
      ·simpa using k2
      ·simpa[aKV] using k4
      ·have:=BL hv s _ _ N2 (λk hk=>hoth k (λe=>hbn (e ▸ hk))) q1;simpa using this
    obtain⟨N2,hN2,aSE,aSF,Yd⟩:=key;refine⟨_,_,hrun,Nx.after t1.le (t1.ok.rewrite ho1 agn (μ':=G1.μ) (N:=b::N2) hc (VJ hbF) ?_ ?_ (λ_ _=>rfl) ⟨Nat.le_refl _,rfl,λ_=>⟨rfl,rfl⟩⟩ ?_)⟩
    ·exact List.nodup_cons.2 ⟨(Yd (full w) (zq _ _ _) (λ_=>agf)).2,hN2⟩
    ·intro k hk;have hsz':(w.setRow b (splice cs.toList (i * s+off) gx.cells.toList).toArray).heap.size=w.heap.size:=by simp[World.setRow]
     rw[hsz'];simp only[List.mem_cons] at hk;rcases hk with rfl|hk
     ·exact⟨.inl hbF,(t1.ok.lt _ (.inr ⟨r,hbF⟩)).1⟩
     ·rcases aSF k hk with h|h
      ·exact⟨.inl h,(t1.ok.lt _ (.inr ⟨r,h⟩)).1⟩
      ·exact⟨.inr (.inl h),(t1.ok.lt _ (.inl h)).1⟩
    ·intro h' hv hml aCo;refine(Yd h' hv (λhfl=> ?_)).1;intro k hk;have hkE:k∈G1.E:=by rw[hE1];exact hk
     refine aCo k hkE ?_ k (by simp);rw[aSE hfl];simp only[List.mem_singleton];intro e;subst e;exact t1.ok.djE r _ hbF hkE
   |_=>exact aH h
 |_=>exact aH h
def Fj.fresh(hg:Fj base U w m G)(ho:G.out=[])(hfr:Fr M0 w0 w G){k:Nat}{c':Cell}{gv:Value}{N:List Nat}(hn:get k m=none)(hk:Keep [] w w')(hN:N.Nodup)
  (hNs:∀b,b∈N->(b∈G.E\/w.heap.size<=b)/\b<w'.heap.size)
  (hcell:∀h':View,(Gh U w G).le h'->Et G.μ m (upM G.μ k gv) (put k c' m)->(∀j,j∈G.E->j ∉ N->aeV h' (dM w) [j])->oM (upM G.μ k gv) (put k c' m) (dM w') h' k c' N):
  Nx base U M0 w0 w m G w' (put k c' m) ⟨upM G.μ k gv,PN G.F k N,[],[]⟩:=by
 have hk':Keep G.E w w':=⟨hk.os,hk.tape,hk.output,hk.size,λb hb _=>hk.block b hb (by simp)⟩
 obtain⟨q1,q2⟩:=Fj.world hg hk' (E':=N) hN hNs;have hμ:∀j,j≠k->upM G.μ k gv j=G.μ j:=λj e=>Ny gv e
 have hml:Et G.μ m (upM G.μ k gv) (put k c' m):=Hg hμ (λc0 h0=>by rw[hn] at h0;cases h0);have hFk:G.F k=[]:=hg.none_ k hn;have hset:=Fj.set (U:=U) (w:=w') q1 k c' (upM G.μ k gv) N [] [] (by simpa using hN) (by simp;exact λb hb=> .inr hb) hml hμ (λj hj=>by simp[ho]) (by simp)
  (λhv _=>hcell _ (q2.trans' hv) hml (λj hjE hjN b hb cs t fr hH o v hv=>by
   have hb:=List.mem_singleton.1 hb;rw[<-hb] at hjE hjN;have hlt:=hg.lt b (.inl hjE);have hsame:dM w' b=dM w b:=hk.block b hlt.1 (by simp);refine Nz (w:=w') (N:=[b]) (λx hx=> ?_) b (by simp) cs t fr (hsame.trans hH) o v hv;rw[List.mem_singleton.1 hx];refine⟨hlt.2.2, ?_⟩;rintro(h|⟨i,h⟩)
   ·simp at h
   ·by_cases e:i=k
    ·subst e;rw[tX] at h;exact hjN h
    ·rw[iH _ e] at h;exact hg.djE i b h hjE))
 obtain⟨s1,s2⟩:=hset;refine⟨s1,rfl,rfl,hml,q2.trans' s2.view, ?_⟩;refine⟨hfr.keep.trans hk (by simp), ?_⟩;rintro b (hb|⟨i,hb⟩)
 ·simp at hb
 ·by_cases e:i=k
  ·subst e;simp only[tX] at hb;rcases(hNs b hb).1 with h|h
   ·exact hfr.fr b (.inl h)
   ·exact .inr (Nat.le_trans hfr.keep.size h)
  ·simp only[iH _ e] at hb;exact hfr.fr b (.inr ⟨i,hb⟩)
def ZL{w1:World}{o:Obj}(h:w1.heap=w.heap):dM (w1.alloc o) w.heap.size=some o:=by have:=heap_alloc_new w1 o;rw[h] at this;exact this
def amn(hA:At base U M0 w0 w m G){k:Nat}{T:TypeId}{cs:List V}{arr:Array Value}(hs:dA G.μ m (Gh U w G) cs arr.toList){u:Unit}{l l':Log}(h:(new k (.box T cs)).run m l=some (u,m',l')):
  ∃G',Nx base U M0 w0 w m G (w.alloc (.cells arr T)) m' G'/\aV G'.μ m' (Gh U (w.alloc (.cells arr T)) G') (.ptr k 0) (.pointer (some ⟨w.heap.size,0,none⟩)):=by
 obtain⟨hn,rfl⟩:=X9 h;refine⟨_,hA.ok.fresh hA.out hA.fr (gv:=.pointer (some ⟨w.heap.size,0,none⟩)) (N:=[w.heap.size]) hn adY (by simp) (λb hb=>by simp at hb;subst hb;simp) (λh' hv hml _=> ?_), ?_⟩
 ·exact⟨w.heap.size,arr,by simp,ZL rfl,vV hml hv _ _ hs,rfl⟩
 ·simp[aV,iE,abL,ayK]
def ajE(hg:Fj base U w m G)(ho:G.out=[])(hfr:Fr M0 w0 w G){w1:World}(hw1:w1.heap=w.heap)(hk1:Keep [] w w1){k:Nat}{fl:Bool}{s cap:Nat}{rows:List Row}{arr:Array Value}{T:TypeId}(hq:iG (dM w) (Gh U w G) s rows arr.toList G.E)
  (hcap:rows.length<=cap) (hsz:arr.size=cap * s) {u:Unit} {l l':Log} (h:(new k (.arr false fl 0 s rows)).run m l=some (u,m',l')):
  ∃G',Nx base U M0 w0 w m G (w1.alloc (.cells arr T)) m' G'/\aV G'.μ m' (Gh U (w1.alloc (.cells arr T)) G') (.own k 0) (.slice (some ⟨w.heap.size,0,none⟩) rows.length cap):=by
 obtain⟨hn,rfl⟩:=X9 h;have hsize:(w1.alloc (.cells arr T)).heap.size=w.heap.size+1:=by rw[World.size_alloc,hw1]
 have hkeep:Keep [] w (w1.alloc (.cells arr T)):=hk1.trans (adY (M:=[])) (by simp);have hnE:w.heap.size ∉ G.E:=λhE=>by have:=(hg.lt _ (.inl hE)).1;omega
 have hnew:dM (w1.alloc (.cells arr T)) w.heap.size=some (.cells arr T (0,0)):=ZL hw1;refine⟨_,hg.fresh ho hfr (gv:=.slice (some ⟨w.heap.size,0,none⟩) rows.length cap) (N:=w.heap.size::(match fl with|true=>[]|false=>G.E)) hn hkeep ?_ ?_ ?_, ?_⟩
 ·cases fl with
  |true=>simp
  |false=>exact List.nodup_cons.2 ⟨hnE,hg.ndE⟩
 ·intro b hb;simp only[List.mem_cons] at hb;rcases hb with rfl|hb
  ·exact⟨.inr (Nat.le_refl _),by rw[hsize];omega⟩
  ·cases fl with
   |true=>simp at hb
   |false=>exact⟨.inl hb,by rw[hsize];have:=(hg.lt b (.inl hb)).1;omega⟩
 ·intro h' hv hml aCo;simp only[oM,Eu];refine .inr ⟨w.heap.size,cap,arr,T,_,rfl,hcap,hnew,hsz, ?_,rfl⟩;cases fl with
  |true=>refine⟨IU hv s rows _ _ (λb hb=> ?_) hq,rfl⟩;refine aCo b hb ?_ b (by simp);simp only[List.mem_singleton];intro e;exact hnE (e ▸ hb)
  |false=>exact BL hv s rows _ _ (λb hb=>hkeep.block b (hg.lt b (.inl hb)).1 (by simp)) hq
 ·simp[aV,iE,abL,ayK]
def Ye(off:Nat):∀(xs:List Value) (k:Nat) (cells:Array Value),off+k+xs.length<=cells.size->
  ((xs.zipIdx k).foldl (λcs (c,j)=>cs.setIfInBounds (off+j) c) cells).toList=splice cells.toList (off+k) xs
 |[],k,cells,h=>by simp[splice]
 |x::xs,k,cells,h=>by simp only[yS] at h;simp only[List.zipIdx_cons,List.foldl_cons];rw[Ye off xs (k+1) _ (by simp;omega)];have e:=list_seg_step cells.toList (off+k) x xs (by simp;omega);simpa[splice,Array.toList_setIfInBounds,Nat.add_assoc] using e
def KA(base:Nat)(U:Nat->Prop)(M0:List Nat)(w0 w:World)(m:Mem)(G:GS)(P:Program)(s:Sem Value)(v:V)(m':Mem):Prop:=
 ∃g w' G',s.run P w=.ok g w'/\Nx base U M0 w0 w m G w' m' G'/\aV G'.μ m' (Gh U w' G') v g
def KA.same(hA:At base U M0 w0 w m G){s:Sem Value}{g:Value}{v:V}(h:s.run P w=.ok g w)(hv:aV G.μ m (Gh U w G) v g):KA base U M0 w0 w m G P s v m:=⟨g,w,G,h,hA.nx,hv⟩
def ayS(hA:At base U M0 w0 w m G){T k:Nat}{z:List V}(hz:Tv P T=some z){u:Unit}{l l':Log}(h:(new k (.box T z)).run m l=some (u,m',l')):
  KA base U M0 w0 w m G P (Instr.alloc T true (.tuple #[])) (.ptr k 0) m':=by
 obtain⟨i,zv,hi,hzv,hs⟩:=Qj (m:=m) (μ:=G.μ) (h:=Gh U w G) hz;obtain⟨G',hnx,Yd⟩:=amn hA hs h;refine⟨_,_,G', ?_,hnx,Yd⟩;simp[Instr.alloc,zeroValue,typeInfo,hi,hzv,newVar,newRow]
def aHo(hA:At base U M0 w0 w m G){T k:Nat}{v:V}{g:Value}(hv:aV G.μ m (Gh U w G) v g)(h1:v.cells.all one=true){u:Unit}{l l':Log}(h:(new k (.box T v.cells)).run m l=some (u,m',l')):
  KA base U M0 w0 w m G P (Instr.box T g) (.ptr k 0) m':=by
 obtain⟨hs,_⟩:=cells_ok h1 hv;obtain⟨G',hnx,Yd⟩:=amn hA hs h;refine⟨_,_,G', ?_,hnx,Yd⟩;simp[Instr.box,newVar,newRow]
def ahu:∀(fs:List Field),(fs.all λf=>match P.info? f.type with|some _=>true|none=>false)=true->
  ∃places,fs.mapM (λf=>(P.info? f.type).map λi=>(f.offset,i.size))=some places/\∀(j:Nat) f,fs[j]? =some f->places[j]? =some (f.offset,x9 P f.type)
 |[],_=>⟨[],by simp,by simp⟩
 |f::fs,h=>by
  simp only[List.all_cons,rZ] at h;obtain⟨places,h1,h2⟩:=ahu fs h.2;cases hi:P.info? f.type with
  |none=>simp[hi] at h
  |some i=>
   refine⟨(f.offset,i.size)::places,by simp[List.mapM_cons,hi,h1], ?_⟩;intro j g hj;cases j with
   |zero=>simp at hj;subst hj;simp[x9,hi]
   |succ j=>simpa using h2 j g (by simpa using hj)
def ab8{T:TypeId}{fs:Array Field}(hu:P.underlying T=some (.struct fs)){place:Nat->Option (Nat×Nat)}(hp:∀(j:Nat) f,fs[j]? =some f->place j=some (f.offset,x9 P f.type)){tm:lV}{a:Act}
  {μ:Nat->Value} {h:View}:∀(ps:List (Nat×Operand)) {m:Mem} (_:ae1 μ m h tm a) {cs:List V} {cells:Array Value} (_:dA μ m h cs cells.toList) {out:List V} {m':Mem} {l l':Log}
  (_:(yD P T tm ps cs).run m l=some (out,m',l')),m'=m/\∃r,Instr.fill place cells (ps.map λx=>(x.1,a.eval x.2))=some r/\dA μ m h out r.toList
 |[],m,hT,cs,cells,hs,out,m',l,l',hr=>by simp only[yD,run_pure,jW,oI] at hr;obtain⟨rfl,rfl,_⟩:=hr;exact⟨rfl,cells,rfl,hs⟩
 |(f,x)::ps,m,hT,cs,cells,hs,out,m',l,l',hr=>by
  simp only[yD] at hr;replace hr:=au hr;obtain⟨⟨o,n,t⟩,m1,l1,h1,hr⟩:=hr;obtain⟨hf,rfl,rfl⟩:=jA h1;simp only at hr;obtain⟨hlen,hr⟩:=bck hr;obtain⟨hone,hr⟩:=bck hr;obtain⟨hfit,hr⟩:=bck hr;have hlen:=Dy hlen;have hfit:=Nat.le_of_ble_eq_true hfit;obtain⟨hv,hv1⟩:=cells_ok hone (ZK hT t x);have hgl:(a.eval x).cells.size=n:=by rw[<-hlen,<-jB hv,Array.length_toList]
  have hcl:cells.size=cs.length:=by rw[<-jB hs,Array.length_toList]
  have hpl:place f=some (o,n):=by
   unfold X5 at hf;rw[hu] at hf;simp only at hf;cases hfd:fs[f]? with
   |none=>simp[hfd] at hf
   |some fd=>simp only[hfd,jW,oI] at hf;obtain⟨rfl,rfl,rfl⟩:=hf;exact hp f fd hfd
  have hsp:=Ye o (a.eval x).cells.toList 0 cells (by simp;omega);have hz:(a.eval x).cells.zipIdx.foldl (λcs (c,j)=>cs.setIfInBounds (o+j) c) cells=(splice cells.toList o (a.eval x).cells.toList).toArray:=by apply Array.ext';rw[<-Array.foldl_toList];simpa using hsp
  obtain⟨hm,r,hr1,hr2⟩:=ab8 hu hp ps hT (cells:=(splice cells.toList o (a.eval x).cells.toList).toArray) (by simpa using Yb o hs hv) hr;refine⟨hm,r, ?_,hr2⟩;simp only[zmc,Instr.fill,hpl];rw[if_neg (by simp[hgl];omega),hz];exact hr1
def awZ(hA:At base U M0 w0 w m G){tm:lV}{a:Act}(hT:ae1 G.μ m (Gh U w G) tm a){T:TypeId}{ps:Array (Nat×Operand)}{v:V}{l l':Log}(h:(aof P T tm ps.toList).run m l=some (v,m',l')):
  KA base U M0 w0 w m G P (Instr.build T (ps.map λx=>(x.1,a.eval x.2))) v m':=by
 simp only[aof] at h;replace h:=au h;obtain⟨_,m1,l1,h1,h⟩:=h;obtain⟨hok,rfl,rfl⟩:=fK h1;replace h:=au h;obtain⟨z,m1,l1,h1,h⟩:=h;obtain⟨hz,rfl,rfl⟩:=jA h1;replace h:=au h;obtain⟨cs,m2,l2,h2,h⟩:=h;simp only[run_pure,jW,oI] at h;obtain⟨rfl,rfl,_⟩:=h;obtain⟨i,zv,hi,hzv,hs⟩:=Qj (m:=m1) (μ:=G.μ) (h:=Gh U w G) hz;unfold apR at hok;cases hu:P.underlying T with
 |none=>simp[hu] at hok
 |some d=>
  rw[hu] at hok;cases d with
  |struct fs=>simp only at hok;obtain⟨places,hpl,hpg⟩:=ahu fs.toList hok;obtain⟨hm,r,hr1,hr2⟩:=ab8 (place:=(places.toArray[·]?)) hu (λj f hj=>by simpa using hpg j f (by simpa using hj)) ps.toList hT hs h2;subst hm;refine KA.same hA (g:=.agg r) ?_ (by simp only[aV];exact⟨r,rfl,hr2⟩);refine run_build w T _ r ?_;unfold Program.built;simp only[hi,hu,hzv,hpl];simpa[Array.toList_map] using hr1
  |_=>simp at hok
def ZM{e:TypeId}{size:Nat}(hsz:x9 P e=size){tm:lV}{a:Act}
  {μ:Nat->Value} {h:View}:∀(ps:List (Nat×Operand)) {m:Mem} (_:ae1 μ m h tm a) {cs:List V} {cells:Array Value} (_:dA μ m h cs cells.toList) {out:List V} {m':Mem} {l l':Log}
  (_:(uY P e tm ps cs).run m l=some (out,m',l')),m'=m/\∃r,Instr.fill (λi=>some (i * size,size)) cells (ps.map λx=>(x.1,a.eval x.2))=some r/\dA μ m h out r.toList
 |[],m,hT,cs,cells,hs,out,m',l,l',hr=>by simp only[uY,run_pure,jW,oI] at hr;obtain⟨rfl,rfl,_⟩:=hr;exact⟨rfl,cells,rfl,hs⟩
 |(i,x)::ps,m,hT,cs,cells,hs,out,m',l,l',hr=>by
  simp only[uY] at hr;obtain⟨hlen,hr⟩:=bck hr;obtain⟨hone,hr⟩:=bck hr;obtain⟨hfit,hr⟩:=bck hr;have hlen:=Dy hlen;have hfit:=Nat.le_of_ble_eq_true hfit;rw[hsz] at hlen hfit hr;obtain⟨hv,hv1⟩:=cells_ok hone (ZK hT e x);have hgl:(a.eval x).cells.size=size:=by rw[<-hlen,<-jB hv,Array.length_toList]
  have hcl:cells.size=cs.length:=by rw[<-jB hs,Array.length_toList]
  have hsp:=Ye (i * size) (a.eval x).cells.toList 0 cells (by simp;omega);have hz:(a.eval x).cells.zipIdx.foldl (λcs (c,j)=>cs.setIfInBounds (i * size+j) c) cells=(splice cells.toList (i * size) (a.eval x).cells.toList).toArray:=by apply Array.ext';rw[<-Array.foldl_toList];simpa using hsp
  obtain⟨hm,r,hr1,hr2⟩:=ZM hsz ps hT (cells:=(splice cells.toList (i * size) (a.eval x).cells.toList).toArray) (by simpa using Yb (i * size) hs hv) hr;refine⟨hm,r, ?_,hr2⟩;simp only[zmc,Instr.fill];rw[if_neg (by simp[hgl];omega),hz];exact hr1
def aw0(hA:At base U M0 w0 w m G){tm:lV}{a:Act}(hT:ae1 G.μ m (Gh U w G) tm a){T:TypeId}{ps:Array (Nat×Operand)}{v:V}{l l':Log}(h:(aog P T tm ps.toList).run m l=some (v,m',l')):
  KA base U M0 w0 w m G P (Instr.build T (ps.map λx=>(x.1,a.eval x.2))) v m':=by
 unfold aog at h;split at h
 ·rename_i n e har;unfold arT at har;cases hu:P.underlying T with
  |none=>simp[hu] at har
  |some d=>rw[hu] at har;cases d<;>simp at har;obtain⟨rfl,rfl⟩:=har;simp only[atp] at h;replace h:=au h;obtain⟨_,m1,l1,h1,h⟩:=h;obtain⟨hok,rfl,rfl⟩:=fK h1;replace h:=au h;obtain⟨z,m1,l1,h1,h⟩:=h;obtain⟨hz,rfl,rfl⟩:=jA h1;replace h:=au h;obtain⟨cs,m2,l2,h2,h⟩:=h;simp only[run_pure,jW,oI] at h;obtain⟨rfl,rfl,_⟩:=h;obtain⟨i,zv,hi,hzv,hs⟩:=Qj (m:=m1) (μ:=G.μ) (h:=Gh U w G) hz;obtain⟨d',hd'⟩:=GR hok;obtain⟨inf,NU⟩:=BD hd';obtain⟨hm,r,hr1,hr2⟩:=ZM (MK NU) ps.toList hT hs h2;subst hm;refine KA.same hA (g:=.agg r) ?_ (by simp only[aV];exact⟨r,rfl,hr2⟩);refine run_build w T _ r ?_;unfold Program.built;simp only[hi,hu,hzv,NU];simpa[Array.toList_map] using hr1
 ·exact awZ hA hT h
def ab9{e:TypeId}{tm:lV}{a:Act}:∀(ps:List (Nat×Operand)) {m:Mem} {G:GS} {k:Nat} (_:Fj base U w m G) (_:G.out=[]) (_:ae1 G.μ m (Gh U w G) tm a) {rows:List Row} {m':Mem} {l l':Log}
  (_:(yE P e tm k ps).run m l=some (rows,m',l')),∃G' N,NT base U w m G m' G' N/\iG (dM w) (Gh U w G') (x9 P e) rows ((ps.map λx=>a.eval x.2).flatMap λv=>v.cells.toList) N/\rows.length=ps.length/\
   (∀v∈ps.map (λx=>a.eval x.2),v.cells.size=x9 P e)/\ps.map (λx=>(x.1,a.eval x.2))=((ps.map λx=>a.eval x.2).zipIdx k).map λx=>(x.2,x.1)
 |[],m,G,k,hg,ho,hT,rows,m',l,l',h=>by simp only[yE,run_pure,jW,oI] at h;obtain⟨rfl,rfl,_⟩:=h;exact⟨G,[],NT.same hg,by simp[iG],rfl,by simp,by simp⟩
 |(i,x)::ps,m,G,k,hg,ho,hT,rows,m',l,l',h=>by
  simp only[yE] at h;replace h:=au h;obtain⟨_,m1,l1,h1,h⟩:=h;obtain⟨hik,rfl,rfl⟩:=fK h1;have hik:=Dy hik;subst hik;replace h:=au h;obtain⟨_,m1,l1,h1,h⟩:=h;obtain⟨hlen,rfl,rfl⟩:=fK h1;have hlen:=Dy hlen;replace h:=au h;obtain⟨row,m2,l2,h2,h⟩:=h;replace h:=au h;obtain⟨rows',m3,l3,h3,h⟩:=h;simp only[run_pure,jW,oI] at h;obtain⟨rfl,rfl,_⟩:=h;have hev:=ZK (P:=P) hT e x;have hcells:∃gs,dA G.μ m1 (Gh U w G) (ev P tm e x).cells gs/\(a.eval x).cells.toList=gs:=by
   generalize ev P tm e x=v at hev h2 hlen;cases v with
   |agg cs=>simp only[aV] at hev;obtain⟨arr,he,hq⟩:=hev;exact⟨arr.toList,hq,by rw[he];rfl⟩
   |d y=>have h1:(a.eval x).oneCell'=true:=tY (v:=.d y) rfl hev;exact⟨[a.eval x],by simp only[V.cells,dA];exact⟨_,[],rfl,hev,rfl⟩,by rw[cells_one h1]⟩
   |nil s=>have h1:(a.eval x).oneCell'=true:=tY (v:=.nil s) rfl hev;exact⟨[a.eval x],by simp only[V.cells,dA];exact⟨_,[],rfl,hev,rfl⟩,by rw[cells_one h1]⟩
   |own r ver=>have h1:(a.eval x).oneCell'=true:=tY (v:=.own r ver) rfl hev;exact⟨[a.eval x],by simp only[V.cells,dA];exact⟨_,[],rfl,hev,rfl⟩,by rw[cells_one h1]⟩
   |ptr r o=>have h1:(a.eval x).oneCell'=true:=tY (v:=.ptr r o) rfl hev;exact⟨[a.eval x],by simp only[V.cells,dA];exact⟨_,[],rfl,hev,rfl⟩,by rw[cells_one h1]⟩
   |FP r v i o=>have h1:(a.eval x).oneCell'=true:=tY (v:=.FP r v i o) rfl hev;exact⟨[a.eval x],by simp only[V.cells,dA];exact⟨_,[],rfl,hev,rfl⟩,by rw[cells_one h1]⟩
   |DC r o=>have h1:(a.eval x).oneCell'=true:=tY (v:=.DC r o) rfl hev;exact⟨[a.eval x],by simp only[V.cells,dA];exact⟨_,[],rfl,hev,rfl⟩,by rw[cells_one h1]⟩
   |clo f p q=>have h1:(a.eval x).oneCell'=true:=tY (v:=.clo f p q) rfl hev;exact⟨[a.eval x],by simp only[V.cells,dA];exact⟨_,[],rfl,hev,rfl⟩,by rw[cells_one h1]⟩
   |Kv vs=>simp only[V.cells,WX,toD] at h2;replace h2:=au h2;obtain⟨_,_,_,h4,_⟩:=h2;exact aH h4
   |undef=>simp only[V.cells,WX,toD] at h2;replace h2:=au h2;obtain⟨_,_,_,h4,_⟩:=h2;exact aH h4
  obtain⟨gs,hgs,hge⟩:=hcells;obtain⟨G1,N1,t1,q1,hrl⟩:=Uz hg hgs ho h2;have hT1:ae1 G1.μ m2 (Gh U w G1) tm a:=λt v hv=>⟨(hT t v hv).1,t1.le.aV (hT t v hv).2⟩
  obtain⟨G2,N2,t2,q2,hl2,hs2,hz2⟩:=ab9 ps t1.ok (t1.out.trans ho) hT1 h3;have hgl:gs.length=x9 P e:=by rw[jB hgs,hlen]
  refine⟨G2,N1++N2,t1.trans t2, ?_,by simp[hl2], ?_, ?_⟩
  ·simp only[iG,zmc,List.flatMap_cons,hge];refine⟨by rw[hrl,hlen],N1,N2,rfl,Qk (by rw[hrl,<-jB hgs];simp) (adU t2.le.view q1), ?_⟩;rw[List.drop_append_of_le_length ak,List.drop_eq_nil_of_le ak];exact q2
  ·intro v hv;simp only[zmc,List.mem_cons] at hv;rcases hv with rfl|hv
   ·rw[<-Array.length_toList,hge,hgl]
   ·exact hs2 v hv
  ·simp only[zmc,List.zipIdx_cons,hz2]
def ajF(hA:At base U M0 w0 w m G){tm:lV}{a:Act}(hT:ae1 G.μ m (Gh U w G) tm a){t:TypeId}{n k:Nat}{ps:Array (Nat×Operand)}{v:V}{l l':Log}(h:(VF P k t n tm ps.toList).run m l=some (v,m',l')):
  KA base U M0 w0 w m G P (Instr.buildSlice t n (ps.map λx=>(x.1,a.eval x.2))) v m':=by
 simp only[VF] at h;replace h:=au h;obtain⟨e,m1,l1,h1,h⟩:=h;obtain⟨he,rfl,rfl⟩:=jA h1;replace h:=au h;obtain⟨_,m1,l1,h1,h⟩:=h;obtain⟨hs1,rfl,rfl⟩:=fK h1;replace h:=au h;obtain⟨_,m1,l1,h1,h⟩:=h;obtain⟨hn,rfl,rfl⟩:=fK h1;replace h:=au h;obtain⟨_,m1,l1,h1,h⟩:=h;obtain⟨hb,rfl,rfl⟩:=fK h1;replace h:=au h;obtain⟨z,m1,l1,h1,h⟩:=h;obtain⟨hz,rfl,rfl⟩:=jA h1;obtain⟨inf,zv,hi,hzv,_⟩:=Qj (m:=m1) (μ:=G.μ) (h:=Gh U w G) hz;replace h:=au h;obtain⟨rows,m2,l2,h2,h⟩:=h;replace h:=au h;obtain⟨_,m3,l3,h3,h⟩:=h;simp only[run_pure,jW,oI] at h;obtain⟨rfl,rfl,_⟩:=h;have hs1:=Nat.le_of_ble_eq_true hs1;have hn:=Dy hn;have hb:=Nat.le_of_ble_eq_true hb;have hu:=Xd he;obtain⟨G1,N1,t1,q1,hrl,hsz,aSG⟩:=ab9 (e:=e) ps.toList hA.ok hA.out hT h2;obtain⟨hE1,ho1,agn⟩:=hA.took t1;have hsz':x9 P e=inf.size:=MK hi;have hrn:rows.length=n:=by rw[hrl,hn]
 by_cases hn0:n=0
 ·subst hn0;have hps:ps.toList=[]:=List.eq_nil_of_length_eq_zero hn;have hrows:rows=[]:=List.eq_nil_of_length_eq_zero hrn;subst hrows;have hpa:ps=#[]:=by cases ps;simp_all
  subst hpa;simp only[iG] at q1;obtain⟨G2,hnx,Yd⟩:=ajE (w1:=w) (cap:=0) (arr:=#[]) (T:=e) t1.ok ho1 agn rfl (Keep.refl _ _) (k:=k) (fl:=IL P e) (s:=x9 P e) (rows:=[]) (by rw[hE1,q1];simp[iG]) (by simp) (by simp) h3;refine⟨_,_,G2, ?_,Nx.after t1.le hnx,Yd⟩;simp[Instr.buildSlice,run_underlying hu,sizeOf,typeInfo,hi,Instr.fill,newRow,Array.range_zero']
 ·have hpos:¬n * inf.size=0:=by rw[<-hsz'];intro e0;rcases Nat.mul_eq_zero.1 e0 with e1|e1<;>omega
  have hsmall:¬n * inf.size>2 ^ 24:=by rw[<-hsz'];omega
  have ayT:=Go.Great.fill_whole (s:=x9 P e) ak (ps.toList.map λx=>a.eval x.2) ((Array.range (n * inf.size)).map (zv.cells[· % zv.cells.size]!)) hsz (by simp[<-hsz'];rw[<-hn];simp);rw[<-aSG] at ayT;have hrun:=run_buildSlice w t e n (ps.map λx=>(x.1,a.eval x.2)) _ inf zv hu hi hzv hsmall hpos (by rw[<-hsz'];rw[<-hsz'] at ayT;simpa[Array.toList_map] using ayT);have hcl:((ps.toList.map λx=>a.eval x.2).flatMap λv=>v.cells.toList).length=n * x9 P e:=by
   have:∀(l:List Value),(∀v∈l,v.cells.size=x9 P e)->(l.flatMap λv=>v.cells.toList).length=l.length * x9 P e:=by
    intro l;induction l with
    |nil=>simp
    |cons v l ih=>intro hv;simp only[List.flatMap_cons,wM,yS,Nat.add_mul,Array.length_toList];rw[ih (λu hu=>hv u (by simp[hu])),hv v (by simp)];omega
   rw[this _ hsz];simp[<-hn]
  obtain⟨G2,hnx,Yd⟩:=ajE (w1:=w) (cap:=n) (arr:=((ps.toList.map λx=>a.eval x.2).flatMap λv=>v.cells.toList).toArray) (T:=e) t1.ok ho1 agn rfl (Keep.refl _ _) (k:=k) (fl:=IL P e) (s:=x9 P e) (rows:=rows) (by rw[hE1];simpa using q1) ak (by simp[hcl]) h3;rw[hrn] at Yd;exact⟨_,_,G2,hrun,Nx.after t1.le hnx,Yd⟩
def ahv{h:View}{b:Nat}:∀(r:Row) (o:Nat),D6 h r b o->∃cs:List Value,cs.length=r.length/\(∀j v,cs[j]? =some v->h b (o+j)=some v)/\jg h r cs
 |[],_,_=>⟨[],rfl,by simp,trivial⟩
 |x::r,o,q=>by
  simp only[D6] at q;obtain⟨⟨v,h1,h2⟩,h3⟩:=q;obtain⟨cs,e1,e2,e3⟩:=ahv r (o+1) h3;refine⟨v::cs,by simp[e1], ?_,⟨v,cs,rfl,h2,e3⟩⟩;intro j u hj;cases j with
  |zero=>simp at hj;subst hj;exact h1
  |succ j=>
   have:=e2 j u (by simpa using hj)
   rwa [show o+(j+1)=o+1+j from by omega]
def Yf{h:View}{s b:Nat}:∀(rs:List Row) (o:Nat),sQ h s rs b o->∃cs:List Value,cs.length=rs.length * s/\(∀j v,cs[j]? =some v->h b (o+j)=some v)/\jc h s rs cs
 |[],_,_=>⟨[],by simp,by simp,trivial⟩
 |r::rs,o,q=>by
  simp only[sQ] at q;obtain⟨h1,h2,h3⟩:=q;obtain⟨cs1,a1,a2,a3⟩:=ahv r o h2;obtain⟨cs2,b1,b2,b3⟩:=Yf rs (o+s) h3;have hl:cs1.length=s:=by rw[a1,h1]
  refine⟨cs1++cs2,by simp[hl,b1,Nat.add_mul];omega, ?_,h1, ?_, ?_⟩
  ·intro j u hj
   by_cases hlt:j<s
   ·rw[List.getElem?_append_left ak] at hj;exact a2 j u hj
   ·rw[List.getElem?_append_right ak,hl] at hj;have:=b2 (j - s) u hj
    rwa [show o+j=o+s+(j - s) from by omega]
  ·refine Oa ?_ a3;rw[List.take_append_of_le_length ak]
  ·rw[List.drop_append_of_le_length ak,List.drop_eq_nil_of_le ak];exact b3
def ahw{h:View}:∀{r:Row} {cs:List Value},jg h r cs->∀u∈cs.take r.length,u.oneCell'=true
 |[],_,_=>by simp
 |x::r,cs,⟨v,cs',e,h1,h2⟩=>by
  subst e;intro u hu;simp only[yS,List.take_succ_cons,List.mem_cons] at hu;rcases hu with rfl|hu
  ·exact Wy h1
  ·exact ahw h2 u hu
def TF{h:View}{s:Nat}:∀{rs:List Row} {cs:List Value},jc h s rs cs->∀u∈cs.take (rs.length * s),u.oneCell'=true
 |[],_,_=>by simp
 |r::rs,cs,⟨h1,h2,h3⟩=>by
  intro u hu;have hs:(r::rs).length * s=s+rs.length * s:=by simp[Nat.add_mul];omega
  rw[hs,List.take_add] at hu;simp only[List.mem_append] at hu;rcases hu with hu|hu
  ·exact ahw h2 u (by rw[h1];exact hu)
  ·exact TF h3 u hu
def alI{H:Heap}{h:View}{x:D}{g:Value}{N:List Nat}(q:ow H h x g N):g.oneCell'=true:=by
 cases x with
 |sl o s rows=>
  cases o with
  |false=>simp only[ow] at q;exact Wy q.2
  |true=>simp only[ow] at q;rcases q with⟨_,rfl,_⟩|⟨b,cap,cs,t,N',rfl,_⟩<;>rfl
 |_=>simp only[ow] at q;rw[q.1];rfl
def amo{H:Heap}{h:View}:∀{r:Row} {cs:List Value} {N:List Nat},jS H h r cs N->∀u∈cs.take r.length,u.oneCell'=true
 |[],_,_,_=>by simp
 |x::r,cs,N,q=>by
  obtain⟨v,cs',N1,N2,rfl,rfl,h1,h2⟩:=FU q;intro u hu;simp only[yS,List.take_succ_cons,List.mem_cons] at hu;rcases hu with rfl|hu
  ·exact alI h1
  ·exact amo h2 u hu
def ajG{H:Heap}{h:View}{s:Nat}:∀{rs:List Row} {cs:List Value} {N:List Nat},iG H h s rs cs N->∀u∈cs.take (rs.length * s),u.oneCell'=true
 |[],_,_,_=>by simp
 |r::rs,cs,N,q=>by
  simp only[iG] at q;obtain⟨h1,N1,N2,rfl,h2,h3⟩:=q;intro u hu;have hs:(r::rs).length * s=s+rs.length * s:=by simp[Nat.add_mul];omega
  rw[hs,List.take_add] at hu;simp only[List.mem_append] at hu;rcases hu with hu|hu
  ·exact amo h2 u (by rw[h1];exact hu)
  ·exact ajG h3 u hu
def GU(H:Heap)(h:View)(fl:Bool)(s:Nat)(rows:List Row)(cs:List Value)(N:List Nat):Prop:=match fl with
 |true=>jc h s rows cs/\N=[]
 |false=>iG H h s rows cs N
def ML{H:Heap}{h:View}{fl:Bool}{s:Nat}{rows:List Row}{cs cs':List Value}{N:List Nat}(e:cs.take (rows.length * s)=cs'.take (rows.length * s))(q:GU H h fl s rows cs N):GU H h fl s rows cs' N:=by
 cases fl with
 |true=>exact⟨QH e q.1,q.2⟩
 |false=>exact RN e q
def ae2{H:Heap}{h:View}{fl:Bool}{s:Nat}{a b:List Row}{cs:List Value}{N N':List Nat}(q:GU H h fl s a cs N)(q':GU H h fl s b (cs.drop (a.length * s)) N'):GU H h fl s (a++b) cs (N++N'):=by
 cases fl with
 |true=>exact⟨Le.2 ⟨q.1,q'.1⟩,by rw[q.2,q'.2];rfl⟩
 |false=>exact DI.2 ⟨N,N',rfl,q,q'⟩
def MN{H H':Heap}{h h':View}(hl:h.le h'){fl:Bool}{s:Nat}{rows:List Row}{cs:List Value}{N:List Nat}(hb:∀b,b∈N->H' b=H b)(q:GU H h fl s rows cs N):GU H' h' fl s rows cs N:=by
 cases fl with
 |true=>exact⟨KQ hl s rows _ q.1,q.2⟩
 |false=>exact BL hl s rows _ N hb q
mutual
def ayU{H:Heap}{h:View}:∀(x:D) (v:Value),ro h x.fz v->ow H h x.fz v []
 | .int _ _,_,q=>by simpa[D.fz,ow,ro] using q
 | .bool _,_,q=>by simpa[D.fz,ow,ro] using q
 | .str _,_,q=>by simpa[D.fz,ow,ro] using q
 | .Ze,_,q=>by simpa[D.fz,ow,ro] using q
 | .sl _ s rows,v,q=>by simp only[D.fz,ow,true_and] at q|-;exact q
end
def ahx{H:Heap}{h:View}:∀(r:Row) (cs:List Value),jg h (Fh r) cs->jS H h (Fh r) cs []
 |[],_,_=>by simp[Fh,jS]
 |x::r,cs,q=>by simp only[Fh,jg] at q;obtain⟨v,cs',e,h1,h2⟩:=q;simp only[Fh,jS];exact⟨v,cs',[],[],e,rfl,ayU x v h1,ahx r cs' h2⟩
def Yg{H:Heap}{h:View}{s:Nat}:∀(rs:List Row) (cs:List Value),jc h s (aB rs) cs->iG H h s (aB rs) cs []
 |[],_,_=>by simp[aB,iG]
 |r::rs,cs,q=>by simp only[aB,jc] at q;obtain⟨h1,h2,h3⟩:=q;simp only[aB,iG];exact⟨h1,[],[],rfl,ahx r cs h2,Yg rs _ h3⟩
def ajH{h:View}:∀{r:Row} {cs:List Value},jg h r cs->jg h (Fh r) cs
 |[],_,_=>by simp[Fh,jg]
 |x::r,cs,⟨v,cs',e,h1,h2⟩=>by simp only[Fh,jg];exact⟨v,cs',e,ayL x v h1,ajH h2⟩
def ZN{h:View}{s:Nat}:∀{rs:List Row} {cs:List Value},jc h s rs cs->jc h s (aB rs) cs
 |[],_,_=>by simp[aB,jc]
 |r::rs,cs,⟨h1,h2,h3⟩=>by simp only[aB,jc];exact⟨by rw[X7];exact h1,ajH h2,ZN h3⟩
structure Tail(P:Program)(base:Nat)(U:Nat->Prop)(w:World)(m:Mem)(G:GS)(size:Nat)(fl:Bool)(gy:Value)(ys:List Row)(m':Mem):Prop where
 ex:∃G' news,Fj base U w m' G'/\Zg m G m' G'/\G'.out=G.out/\G'.μ=G.μ/\Src P size w gy ys.length news/\GU (dM w) (Gh U w G') fl size ys news G'.E/\∀r c,get r m=some c->get r m'=some c\/get r m'=some .dead
def aCp(hA:At base U M0 w0 w m G){e:TypeId}{y:V}{gy:Value}(hy:aV G.μ m (Gh U w G) y gy)(hsz:1<=x9 P e){ys:List Row}{l l':Log}(h:(tail P e y).run m l=some (ys,m',l')):
  Tail P base U w m G (x9 P e) (IL P e) gy ys m':=by
 have plain:∀(ys:List Row) (news:List Value),Src P (x9 P e) w gy ys.length news->(IL P e=true->jc (Gh U w G) (x9 P e) ys news)->(IL P e=false->iG (dM w) (Gh U w G) (x9 P e) ys news [])->
   Tail P base U w m G (x9 P e) (IL P e) gy ys m:=by
  intro ys news h1 h2 h3;refine⟨G,news,hA.ok,Zg.refl _ _,rfl,rfl,h1, ?_,λr c h=> .inl h⟩;rw[hA.E];cases hf:IL P e with
  |true=>exact⟨h2 hf,rfl⟩
  |false=>exact h3 hf
 have seen:∀(rows:List Row) (o:Bool),ro (Gh U w G) (.sl o (x9 P e) rows) gy->Tail P base U w m G (x9 P e) (IL P e) gy (vw (IL P e) rows) m:=by
  intro rows o hq;simp only[ro] at hq;obtain⟨a,cap,rfl,hcap,hne⟩:=hq;have hvl:(vw (IL P e) rows).length=rows.length:=by unfold vw;cases IL P e<;>simp[QG]
  by_cases hr:rows=[]
  ·subst hr;have hv:vw (IL P e) []=[]:=by unfold vw;cases IL P e<;>simp[aB]
   rw[hv];exact plain [] [] (Src.slice (by simp) (by simp) (by simp)) (λ_=>trivial) (λ_=>by simp[iG])
  ·obtain⟨b,o',rfl,hrows⟩:=hne hr;obtain⟨cs,c1,c2,c3⟩:=Yf rows o' hrows;refine plain _ cs ?_ (λhf=> ?_) (λhf=> ?_)
   ·rw[hvl];refine Src.slice c1 (λu hu=> ?_) (λ_=>⟨b,o',rfl,λj v hj=>zq _ _ _ _ _ _ (c2 j v hj)⟩);exact TF c3 u (by rw[<-c1,List.take_length];exact hu)
   ·rw[hf];exact c3
   ·rw[hf];simp only[vw,aQ];exact Yg rows cs (ZN c3)
 cases y with
 |d x=>
  cases x with
  |str s=>simp only[Vm.tail] at h;replace h:=au h;obtain⟨_,m1,l1,h1,h⟩:=h;obtain⟨hs,rfl,rfl⟩:=fK h1;simp only[run_pure,jW,oI] at h;obtain⟨rfl,rfl,_⟩:=h;have hs:=Dy hs;simp only[aV,ro] at hy;subst hy;have aGv:=ayP (h:=Gh U w G) s _ rfl;refine plain _ _ (by rw[hs];simpa using Src.string) (λ_=>by rw[hs];exact aGv) (λ_=> ?_);rw[hs];refine ZE 1 _ _ ?_ aGv;simp[aj,byteRow,D.flat]
  |sl o s rows=>simp only[Vm.tail] at h;replace h:=au h;obtain⟨_,m1,l1,h1,h⟩:=h;obtain⟨hs,rfl,rfl⟩:=fK h1;simp only[run_pure,jW,oI] at h;obtain⟨rfl,rfl,_⟩:=h;have hs:=Dy hs;subst hs;simp only[aV] at hy;exact seen rows o hy
  |_=>exact aH h
 |nil s=>simp only[Vm.tail,run_pure,jW,oI] at h;obtain⟨rfl,rfl,_⟩:=h;simp only[aV] at hy;subst hy;exact plain [] [] (Src.slice (by simp) (by simp) (by simp)) (λ_=>trivial) (λ_=>by simp[iG])
 |own r ver=>
  simp only[Vm.tail] at h;replace h:=au h;obtain⟨c,m1,l1,h1,h⟩:=h;rw[vF] at h1;cases h1;cases hc:get r m with
  |none=>rw[hc] at h;exact aH h
  |some c=>
   rw[hc] at h;cases c with
   |arr fz fl nG s rows=>
    simp only at h;replace h:=au h;obtain⟨_,m1,l1,h1,h⟩:=h;obtain⟨hb,rfl,rfl⟩:=fK h1;have hb:=Dy hb;subst hb;replace h:=au h;obtain⟨_,m1,l1,h1,h⟩:=h;obtain⟨hs,rfl,rfl⟩:=fK h1;have hs:=Dy hs;subst hs;simp only[aV,hc] at hy;have hy:=hy.2.2 trivial;subst hy;have hro:r ∉ G.out:=by rw[hA.out];simp
    have hcell:=hA.ok.cell r _ hc hro;cases hf:IL P e with
    |true=>
     rw[hf] at h;simp only at h;replace h:=au h;obtain⟨_,m1,l1,h1,h⟩:=h;obtain⟨hff,rfl,rfl⟩:=fK h1;simp only[run_pure,jW,oI] at h;obtain⟨rfl,rfl,_⟩:=h;cases fz with
     |true=>have:=seen rows true hcell.1;rw[hf] at this;simpa[vw] using this
     |false=>
      have hfl:fl=true:=by simpa using hff
      subst hfl;rw[hf] at plain;simp only[oM] at hcell;rcases hcell with⟨rfl,hμ,_⟩|⟨b,cap,cs,T,N',h1,h2,h3,h4,h5,_⟩
      ·rw[hμ] at plain|-;exact plain [] [] (Src.slice (by simp) (by simp) (by simp)) (λ_=>trivial) (λe=>by cases e)
      ·rw[h1] at plain|-;have hle:rows.length * x9 P e<=cs.toList.length:=by
        have hcl:cs.toList.length=cap * x9 P e:=by simpa using h4
        rw[hcl];exact Nat.mul_le_mul_right _ h2
       refine plain rows (cs.toList.take (rows.length * x9 P e)) (Src.slice (by rw[zlt];omega) (λu hu=>TF h5.1 u hu) (λ_=>⟨b,0,rfl,λj v hj=> ?_⟩)) (λ_=>QH (by rw[List.take_take,Nat.min_self]) h5.1) (λe=>by cases e);rw[List.getElem?_take] at hj;split at hj
       ·have:=full_cell (w:=w) h3 (0+j);rw[Nat.zero_add] at this|-;rw[hj] at this;exact this
       ·cases hj
    |false=>
     rw[hf] at h;simp only at h;replace h:=au h;obtain⟨_,m1,l1,h1,h⟩:=h;obtain⟨hff,rfl,rfl⟩:=fK h1;have hfl:fl=false:=by simpa using hff
     subst hfl;cases fz with
     |true=>simp only[run_pure,jW,oI] at h;obtain⟨rfl,rfl,_⟩:=h;have:=seen rows true hcell.1;rw[hf] at this;simpa[vw] using this
     |false=>
      simp only at h;replace h:=au h;obtain⟨_,m1,l1,h1,h⟩:=h;rw[FT] at h1;cases h1;simp only[run_pure,jW,oI] at h;obtain⟨rfl,rfl,_⟩:=h;obtain⟨k1,k2,k3⟩:=hA.ok.kill hc hro;have hold:∀j c,get j m1=some c->get j (put r .dead m1)=some c\/get j (put r .dead m1)=some .dead:=by
       intro j c hj
       by_cases e:j=r
       ·subst e;right;exact iE _ _ _
       ·left;rw[jT e];exact hj
      rcases k3 with⟨rfl,hμ,hF⟩|⟨b,cap,cs,T,N',h1,h2,h3,h4,h5,hF⟩
      ·refine⟨_,[],k1,k2,rfl,rfl, ?_, ?_,hold⟩
       ·rw[hμ];exact Src.slice (by simp) (by simp) (by simp)
       ·rw[hA.E,hF];simp[GU,iG]
      ·have hnd:(b::N').Nodup:=by rw[<-hF];exact hA.ok.nd r
       obtain⟨q1,q2⟩:=k1.less N' (List.nodup_cons.1 hnd).2 (λx hx=>by rw[hA.E,hF];simp[hx]);have hle:rows.length * x9 P e<=cs.toList.length:=by
        have hcl:cs.toList.length=cap * x9 P e:=by simpa using h4
        rw[hcl];exact Nat.mul_le_mul_right _ h2
       refine⟨_,cs.toList.take (rows.length * x9 P e),q1,k2.trans q2,rfl,rfl, ?_, ?_,hold⟩
       ·rw[h1];refine Src.slice (by rw[zlt];omega) (λu hu=>ajG h5 u hu) (λ_=>⟨b,0,rfl,λj v hj=> ?_⟩);rw[List.getElem?_take] at hj;split at hj
        ·have:=full_cell (w:=w) h3 (0+j);rw[Nat.zero_add] at this|-;rw[hj] at this;exact this
        ·cases hj
       ·exact RN (by rw[List.take_take,Nat.min_self]) (apU (k2.view.trans' q2.view) h5)
   |_=>exact aH h
 |_=>exact aH h
end
section
variable {base:Nat} {U:Nat->Prop} {M0:List Nat} {w0 w w':World} {m m':Mem} {G G' G1:GS} {P:Program}
def Ea{b:Bool}{l:Log}{x:Unit}{l':Log}(h:(ck b).run m l=some (x,m',l')):b=true/\m=m'/\l=l':=by obtain⟨h1,h2,h3⟩:=fK h;exact⟨h1,h2.symm,h3.symm⟩
def Xe{a:Nat}(h:Nat.ble a ahh=true):a<=140737488355328:=Nat.le_of_ble_eq_true h
def amq{M M':List Nat}(h:Keep M w w')(hs:∀b,b∈M->b∈M'):Keep M' w w':=⟨h.os,h.tape,h.output,h.size,λb hb hn=>h.block b hb (λhx=>hn (hs b hx))⟩
def ad1{w1:World}{o:Obj}(h:Keep [] w w1):Keep [] w (w1.alloc o):=h.trans (adY (M:=[])) (by simp)
def apX(hg:Fj base U w m G)(ho:G.out=[])(hfr:Fr M0 w0 w G){w1:World}(hw1:w1.heap=w.heap)(hk1:Keep [] w w1){k:Nat}{fl:Bool}{s cap:Nat}{rows:List Row}{arr:Array Value}{T:TypeId}(hq:GU (dM w) (Gh U w G) fl s rows arr.toList G.E)
  (hcap:rows.length<=cap) (hsz:arr.size=cap * s) {u:Unit} {l l':Log} (h:(new k (.arr false fl 0 s rows)).run m l=some (u,m',l')):
  ∃G',Nx base U M0 w0 w m G (w1.alloc (.cells arr T)) m' G'/\aV G'.μ m' (Gh U (w1.alloc (.cells arr T)) G') (.own k 0) (.slice (some ⟨w.heap.size,0,none⟩) rows.length cap):=by
 obtain⟨hn,rfl⟩:=X9 h;have hsize:(w1.alloc (.cells arr T)).heap.size=w.heap.size+1:=by rw[World.size_alloc,hw1]
 have hkeep:Keep [] w (w1.alloc (.cells arr T)):=ad1 hk1;have hnE:w.heap.size ∉ G.E:=λhE=>by have:=(hg.lt _ (.inl hE)).1;omega
 refine⟨_,hg.fresh ho hfr (gv:=.slice (some ⟨w.heap.size,0,none⟩) rows.length cap) (N:=w.heap.size::G.E) hn hkeep (List.nodup_cons.2 ⟨hnE,hg.ndE⟩) ?_ ?_, ?_⟩
 ·intro b hb;simp only[List.mem_cons] at hb;rcases hb with rfl|hb
  ·exact⟨.inr (Nat.le_refl _),by rw[hsize];omega⟩
  ·exact⟨.inl hb,by rw[hsize];have:=(hg.lt b (.inl hb)).1;omega⟩
 ·intro h' hv hml aCo;simp only[oM,Eu];refine .inr ⟨w.heap.size,cap,arr,T,G.E,rfl,hcap,ZL hw1,hsz, ?_,rfl⟩;have:=MN (H':=dM (w1.alloc (.cells arr T))) hv (λb hb=>hkeep.block b (hg.lt b (.inl hb)).1 (by simp)) hq;cases fl with
  |true=>exact this
  |false=>exact this
 ·simp[aV,iE,abL]
def ad2{z:Value}{n s:Nat}(h:z.cells.size=s):(Builtin.zeroCells z.cells n).size=n * s:=by simp[Builtin.zeroCells,h]
def avq(t1:Fj base U w m G1){m0:Mem}(t2:Zg m0 G m G1)(ho1:G1.out=[])(agn:Fr M0 w0 w G1){r ver s:Nat}{fl:Bool}{rows ys:List Row}(hc:get r m=some (.arr false fl ver s rows)){t ty ry e:TypeId}{inf:TypeInfo}{zv gy:Value}{news:List Value}
  (hu:P.underlying t=some (.slice e)) (hty':(∃e',P.underlying ty=some (.slice e'))\/P.underlying ty=some .string) (hi:P.info? e=some inf) (hzv:inf.zero=some zv) (hsz:s=inf.size) (hzs:zv.cells.size=s) (hsrc:Src P inf.size w gy ys.length news)
  (hrows:GU (dM w) (Gh U w G1) fl s ys news G1.E) (hb1:(rows.length+ys.length) * inf.bytes<=140737488355328) (hb2:rows.length+ys.length<=140737488355328):
  KA base U M0 w0 w m0 G P (Builtin.append_ #[t,ty] ry #[G1.μ r,gy]) (.own r (ver+1)) (put r (.arr false fl (ver+1) s (rows++ys)) m):=by
 have hcell:=t1.cell r _ hc (by rw[ho1];simp);have hnl:news.length=ys.length * s:=by rw[hsz];exact hsrc.n
 have ayV:¬ver=ver+1:=ak;have hEd:∀b,b∈G1.F r->b ∉ G1.E:=λb=>t1.djE r b
 have fin:∀(w':World) (g:Value) (N:List Nat),Keep (G1.F r) w w'->N.Nodup->(∀b,b∈N->(b∈G1.F r\/b∈G1.E\/w.heap.size<=b)/\b<w'.heap.size)->
   (∀h':View,(Gh U w G1).le h'->X6 (dM w') h' fl (s) (rows++ys) g N)->(Builtin.append_ #[t,ty] ry #[G1.μ r,gy]).run P w=.ok g w'->abL g->
   KA base U M0 w0 w m0 G P (Builtin.append_ #[t,ty] ry #[G1.μ r,gy]) (.own r (ver+1)) (put r (.arr false fl (ver+1) (s) (rows++ys)) m):=by
  intro w' g N hk hN hNs Yd hrun hone;refine⟨g,w',_,hrun,Nx.after t2 (t1.rewrite ho1 agn (μ':=upM G1.μ r g) (N:=N) hc hk hN hNs (λk hk=>Ny g hk) ⟨ak,rfl,λe=>absurd e ayV⟩ (λh' hv hml _=> ?_)), ?_⟩
  ·simp only[oM,Eu];exact Yd h' hv
  ·simp[aV,iE,hone]
 simp only[oM] at hcell;rcases hcell with⟨rfl,hμ,hF⟩|⟨b,cap,cs,T,N',k1,k2,k3,k4,k5,k6⟩
 ·
  by_cases hy0:ys=[]
  ·subst hy0;refine fin w (.slice none 0 0) [] (Keep.refl _ _) (by simp) (by simp) (λh' hv=> .inl ⟨rfl,rfl,rfl⟩) ?_ ⟨_,_,_,rfl⟩;rw[hμ];exact YP hu hty' hi hsrc
  ·have hm:ys.length≠0:=by simpa using hy0
   obtain⟨cap,hcap,hrun⟩:=YO (w:=w) (ty:=ry) hu hty' hi hzv hsrc hm (by simpa using hb2) (by simpa using hb1);have hkeep:Keep [] w (w.drew.alloc (.cells (news.toArray++Builtin.zeroCells zv.cells (cap - ys.length)) e)):=ad1 agm;have hsize:(w.drew.alloc (.cells (news.toArray++Builtin.zeroCells zv.cells (cap - ys.length)) e)).heap.size=w.heap.size+1:=by rw[World.size_alloc];rfl
   have hnE:w.heap.size ∉ G1.E:=λhE=>by have:=(t1.lt _ (.inl hE)).1;omega
   refine fin _ _ (w.heap.size::G1.E) (amq hkeep (by simp)) (List.nodup_cons.2 ⟨hnE,t1.ndE⟩) ?_ ?_ (by rw[hμ];exact hrun) ⟨_,_,_,rfl⟩
   ·intro k hk;simp only[List.mem_cons] at hk;rcases hk with rfl|hk
    ·exact⟨.inr (.inr (Nat.le_refl _)),by rw[hsize];omega⟩
    ·exact⟨.inr (.inl hk),by rw[hsize];have:=(t1.lt k (.inl hk)).1;omega⟩
   ·intro h' hv;refine .inr ⟨w.heap.size,cap,_,e,G1.E,rfl,by simpa using hcap,ZL rfl, ?_, ?_,rfl⟩
    ·rw[Array.size_append,ad2 hzs,hsz];have hnl:news.toArray.size=ys.length * inf.size:=by simpa using hsrc.n
     rw[hnl,<-Nat.add_mul];congr 1;omega
    ·have h1:=MN hv (λb hb=>hkeep.block b (t1.lt b (.inl hb)).1 (by simp)) hrows;have h2:=ML (cs':=(news.toArray++Builtin.zeroCells zv.cells (cap - ys.length)).toList) (by simp only[Array.toList_append];rw[List.take_append_of_le_length ak]) h1;rw[List.nil_append];cases fl with
     |true=>exact h2
     |false=>exact h2
 ·have hbF:b∈G1.F r:=by rw[k6];simp
  have aHp:=t1.nd r;rw[k6] at aHp;have atD:∀k,k∈N'->k∈G1.F r:=λk hk=>by rw[k6];simp[hk]
  have aGw:(N'++G1.E).Nodup:=List.nodup_append.2 ⟨(List.nodup_cons.1 aHp).2,t1.ndE,λa ha c hc e=>hEd a (atD a ha) (e ▸ hc)⟩;have hcl:cs.toList.length=cap * s:=by simpa using k4
  have hrl:rows.length * s<=cs.toList.length:=by rw[hcl];exact Nat.mul_le_mul_right _ k2
  have k5':GU (dM w) (Gh U w G1) fl (s) rows cs.toList N':=by
   cases fl with
   |true=>exact k5
   |false=>exact k5
  by_cases hroom:rows.length+ys.length<=cap
  ·
   have hrun:=run_append_fits (ty:=ry) hu hty' hi hsrc k3 hroom (by rw[k4,hsz]);rw[<-hsz] at hrun;have hh:=setRow_heap w b cs (splice cs.toList (rows.length * s) news).toArray T (0,0) k3;have hfit:rows.length * s+news.length<=cs.toList.length:=by rw[hnl,hcl,<-Nat.add_mul];exact Nat.mul_le_mul_right _ hroom
   have hoth:∀k,k≠b->dM (w.setRow b (splice cs.toList (rows.length * s) news).toArray) k=dM w k:=λk hk=>setRow_other w b k _ hk
   have hsz2:(w.setRow b (splice cs.toList (rows.length * s) news).toArray).heap.size=w.heap.size:=by simp[World.setRow]
   have hbN:b ∉ N'++G1.E:=by
    intro hx;simp only[List.mem_append] at hx;rcases hx with hx|hx
    ·exact(List.nodup_cons.1 aHp).1 hx
    ·exact hEd b hbF hx
   refine fin _ (.slice (some ⟨b,0,none⟩) (rows.length+ys.length) cap) (b::(N'++G1.E)) (VJ hbF) (List.nodup_cons.2 ⟨hbN,aGw⟩) ?_ ?_ (by rw[k1];exact hrun) ⟨_,_,_,rfl⟩
   ·intro k hk;rw[hsz2];simp only[List.mem_cons,List.mem_append] at hk;rcases hk with rfl|hk|hk
    ·exact⟨.inl hbF,(t1.lt _ (.inr ⟨r,hbF⟩)).1⟩
    ·exact⟨.inl (atD k hk),(t1.lt _ (.inr ⟨r,atD k hk⟩)).1⟩
    ·exact⟨.inr (.inl hk),(t1.lt _ (.inl hk)).1⟩
   ·intro h' hv;refine .inr ⟨b,cap,_,T,N'++G1.E,by simp,by simpa using hroom,hh, ?_, ?_,rfl⟩
    ·have:=KR (l:=cs.toList) (xs:=news) (o:=rows.length * s) hfit;simp only[List.size_toArray];rw[this,hcl]
    ·have h1:=MN (H':=dM (w.setRow b (splice cs.toList (rows.length * s) news).toArray)) hv (λk hk=>hoth k (λe=>hbN (by rw[<-e];simp[hk]))) k5';have h2:=MN (H':=dM (w.setRow b (splice cs.toList (rows.length * s) news).toArray)) hv (λk hk=>hoth k (λe=>hbN (by rw[<-e];simp[hk]))) hrows;have h3:=ae2 (ML (cs':=splice cs.toList (rows.length * s) news) (by
      simp only[splice,Qc];rw[List.take_append_of_le_length (by simp;omega),List.take_take,Nat.min_self]) h1) (ML (cs':=(splice cs.toList (rows.length * s) news).drop (rows.length * s)) (by
      simp only[splice,Qc];rw[List.drop_append_of_le_length (by simp;omega)];have:(cs.toList.take (rows.length * s)).drop (rows.length * s)=[]:=by simp
      rw[this,List.nil_append,List.take_append_of_le_length ak]) h2)
     cases fl with
     |true=>simpa[GU] using h3
     |false=>simpa[GU] using h3
  ·
   have hlt:cap<rows.length+ys.length:=ak;obtain⟨cap',hcap',hrun⟩:=ah6 (ty:=ry) (olds:=cs.toList.take (rows.length * s)) hu hty' hi hzv hsrc (by rw[zlt,<-hsz];omega) (λj u hj=>by
    rw[List.getElem?_take] at hj;split at hj
    ·have:=full_cell (w:=w) k3 (0+j);rw[Nat.zero_add] at this|-;rw[hj] at this;exact this
    ·cases hj) hlt hb2 hb1
   have hkeep:Keep [] w (w.drew.alloc (.cells ((cs.toList.take (rows.length * s)++news).toArray++Builtin.zeroCells zv.cells (cap' - (rows.length+ys.length))) e)):=ad1 agm;have hsize:(w.drew.alloc (.cells ((cs.toList.take (rows.length * s)++news).toArray++Builtin.zeroCells zv.cells (cap' - (rows.length+ys.length))) e)).heap.size=w.heap.size+1:=by rw[World.size_alloc];rfl
   have aSH:w.heap.size ∉ N'++G1.E:=λhE=>by
    simp only[List.mem_append] at hE;rcases hE with hE|hE
    ·have:=(t1.lt _ (.inr ⟨r,atD _ hE⟩)).1;omega
    ·have:=(t1.lt _ (.inl hE)).1;omega
   refine fin _ (.slice (some ⟨w.heap.size,0,none⟩) (rows.length+ys.length) cap') (w.heap.size::(N'++G1.E)) (amq hkeep (by simp)) (List.nodup_cons.2 ⟨aSH,aGw⟩) ?_ ?_ (by rw[k1];exact hrun) ⟨_,_,_,rfl⟩
   ·intro k hk;rw[hsize];simp only[List.mem_cons,List.mem_append] at hk;rcases hk with rfl|hk|hk
    ·exact⟨.inr (.inr (Nat.le_refl _)),ak⟩
    ·exact⟨.inl (atD k hk),by have:=(t1.lt _ (.inr ⟨r,atD k hk⟩)).1;omega⟩
    ·exact⟨.inr (.inl hk),by have:=(t1.lt _ (.inl hk)).1;omega⟩
   ·intro h' hv;refine .inr ⟨w.heap.size,cap',_,e,N'++G1.E,by simp,by simpa using hcap',ZL rfl, ?_, ?_,rfl⟩
    ·rw[Array.size_append,ad2 hzs];simp only[List.size_toArray,wM,zlt,hnl];rw[Nat.min_eq_left hrl,<-Nat.add_mul,<-Nat.add_mul];congr 1;omega
    ·have h1:=MN hv (λb hb=>hkeep.block b (t1.lt b (.inr ⟨r,atD b hb⟩)).1 (by simp)) k5';have h2:=MN hv (λb hb=>hkeep.block b (t1.lt b (.inl hb)).1 (by simp)) hrows;have l1:(cs.toList.take (rows.length * s)).length=rows.length * s:=by rw[zlt];omega
     have h3:=ae2 (ML (cs':=((cs.toList.take (rows.length * s)++news).toArray++Builtin.zeroCells zv.cells (cap' - (rows.length+ys.length))).toList) (by
      simp only[Array.toList_append,Qc];rw[List.take_append_of_le_length ak,List.take_take,Nat.min_self]) h1) (ML (cs':=(((cs.toList.take (rows.length * s)++news).toArray++Builtin.zeroCells zv.cells (cap' - (rows.length+ys.length))).toList).drop (rows.length * s)) (by
      simp only[Array.toList_append,Qc];rw[List.drop_append_of_le_length ak,List.drop_eq_nil_of_le ak,List.nil_append,List.take_append_of_le_length ak]) h2)
     cases fl with
     |true=>exact h3
     |false=>exact h3
def atE(hA:At base U M0 w0 w m G){dst:Nat}{t ty ry:TypeId}{x y:V}{gx gy:Value}(hx:aV G.μ m (Gh U w G) x gx)(hy:aV G.μ m (Gh U w G) y gy){v:V}{l l':Log}(h:(aod P dst t ty x y).run m l=some (v,m',l')):
  KA base U M0 w0 w m G P (Builtin.append_ #[t,ty] ry #[gx,gy]) v m':=by
 simp only[aod] at h;replace h:=au h;obtain⟨e,m1,l1,h1,h⟩:=h;obtain⟨he,rfl,rfl⟩:=jA h1;replace h:=au h;obtain⟨_,m1,l1,h1,h⟩:=h;obtain⟨hs1,rfl,rfl⟩:=fK h1;replace h:=au h;obtain⟨_,m1,l1,h1,h⟩:=h;obtain⟨hty,rfl,rfl⟩:=fK h1;replace h:=au h;obtain⟨z,m1,l1,h1,h⟩:=h;obtain⟨hz,rfl,rfl⟩:=jA h1;replace h:=au h;obtain⟨_,m1,l1,h1,h⟩:=h;obtain⟨hzs,rfl,rfl⟩:=fK h1;replace h:=au h;obtain⟨ys,m2,l2,h2,h⟩:=h;have hs1:=Nat.le_of_ble_eq_true hs1;have hu:=Xd he;have hty':(∃e',P.underlying ty=some (.slice e'))\/P.underlying ty=some .string:=by
  cases hq:P.underlying ty with
  |none=>simp[hq] at hty
  |some d=>rw[hq] at hty;cases d<;>simp at hty<;>simp
 obtain⟨G1,news,t1,t2,t3,t4,hsrc,hrows,hold⟩:=(aCp hA hy hs1 h2).ex;have agn:Fr M0 w0 w G1:=hA.fr.less t2.ex;have ho1:G1.out=[]:=t3.trans hA.out;obtain⟨inf,zv,hi,hzv,ayW⟩:=Qj (m:=m1) (μ:=G.μ) (h:=Gh U w G) hz;have hzs:zv.cells.size=x9 P e:=by rw[<-Dy hzs,<-jB ayW,Array.length_toList]
 have hsz:x9 P e=inf.size:=MK hi;have hby:adL P e=inf.bytes:=by simp[adL,hi]
 rw[hsz] at hsrc;cases x with
 |nil s0=>
  simp only at h;replace h:=au h;obtain⟨_,m3,l3,h3,h⟩:=h;obtain⟨hb1,rfl,rfl⟩:=fK h3;replace h:=au h;obtain⟨_,m3,l3,h3,h⟩:=h;obtain⟨hb2,rfl,rfl⟩:=fK h3;replace h:=au h;obtain⟨_,m3,l3,h3,h⟩:=h;simp only[run_pure,jW,oI] at h;obtain⟨rfl,rfl,_⟩:=h;simp only[aV] at hx;subst hx;have hb1:=Xe hb1;have hb2:=Xe hb2;rw[hby] at hb1
  by_cases hy0:ys=[]
  ·subst hy0;obtain⟨hn,rfl⟩:=X9 h3;refine⟨_,w,_,YP hu hty' hi hsrc,Nx.after t2 (t1.fresh ho1 agn (gv:=.slice none 0 0) (N:=[]) hn (Keep.refl _ _) (by simp) (by simp) (λh' hv hml _=> ?_)), ?_⟩
   ·simp only[oM,Eu];exact .inl ⟨rfl,rfl,rfl⟩
   ·simp[aV,iE,abL]
  ·have hm:ys.length≠0:=by simpa using hy0
   obtain⟨cap,hcap,hrun⟩:=YO (w:=w) (ty:=ry) hu hty' hi hzv hsrc hm hb2 hb1;obtain⟨G2,hnx,Yd⟩:=apX (w1:=w.drew) (cap:=cap) (arr:=news.toArray++Builtin.zeroCells zv.cells (cap - ys.length)) (T:=e) t1 ho1 agn rfl agm (k:=dst) (fl:=IL P e) (s:=x9 P e) (rows:=ys)
    (ML (by
     have hnl:news.length=ys.length * x9 P e:=by rw[hsz];exact hsrc.n
     simp only[Array.toList_append];rw[List.take_append_of_le_length ak]) hrows) hcap (by
     rw[Array.size_append,ad2 hzs,hsz];have hnl:news.toArray.size=ys.length * inf.size:=by simpa using hsrc.n
     rw[hnl,<-Nat.add_mul];congr 1;omega) h3
   exact⟨_,_,G2,hrun,Nx.after t2 hnx,Yd⟩
 |own r ver=>
  simp only at h;replace h:=au h;obtain⟨c,m3,l3,h3,h⟩:=h;rw[vF] at h3;cases h3;replace hx:=t2.aV hx;cases hc:get r m2 with
  |none=>rw[hc] at h;exact aH h
  |some c=>
  rw[hc] at h;cases c with
  |box _ _=>exact aH h
  |dead=>exact aH h
  |zY _ _ _ _ _=>exact aH h
  |arr fz fl nG s rows=>
  cases fz with
  |true=>exact aH h
  |false=>
  simp only at h;replace h:=au h;obtain⟨_,m4,l4,h4,h⟩:=h;obtain⟨hb,rfl,rfl⟩:=Ea h4;have hb:=Dy hb;subst hb;replace h:=au h;obtain⟨_,m4,l4,h4,h⟩:=h;obtain⟨hs,rfl,rfl⟩:=Ea h4;have hs:=Dy hs;subst hs;replace h:=au h;obtain⟨_,m4,l4,h4,h⟩:=h;obtain⟨hfl,rfl,rfl⟩:=Ea h4;have hfl:fl=IL P e:=by cases fl<;>cases hq:IL P e<;>simp_all
  rw[<-hfl] at hrows;replace h:=au h;obtain⟨_,m4,l4,h4,h⟩:=h;obtain⟨hb1,rfl,rfl⟩:=Ea h4;have hb1:=Xe hb1;rw[hby] at hb1;replace h:=au h;obtain⟨_,m4,l4,h4,h⟩:=h;obtain⟨hb2,rfl,rfl⟩:=Ea h4;have hb2:=Xe hb2;replace h:=au h;obtain⟨_,m4,l4,h4,h⟩:=h;rw[FT] at h4;cases h4;simp only[run_pure,jW,oI] at h;obtain⟨rfl,rfl,_⟩:=h;simp only[aV,hc] at hx;have hx:=hx.2.2 trivial;subst hx;exact avq t1 t2 ho1 agn hc hu hty' hi hzv hsz hzs hsrc hrows hb1 hb2
 |d _=>exact aH h
 |ptr _ _=>exact aH h
 |FP _ _ _ _=>exact aH h
 |DC _ _=>exact aH h
 |clo _ _ _=>exact aH h
 |agg _=>exact aH h
 |Kv _=>exact aH h
 |undef=>exact aH h
end
section
variable {base:Nat} {U:Nat->Prop} {M0:List Nat} {w0 w w':World} {m m':Mem} {G G':GS} {P:Program}
def alJ(hA:At base U M0 w0 w m G){T f:Nat}{a:V}{ga:Value}(ha:aV G.μ m (Gh U w G) a ga){v:V}{l l':Log}(h:(adI P T a f).run m l=some (v,m',l')):
  KA base U M0 w0 w m G P (Instr.fieldAt T ga f) v m':=by
 simp only[adI] at h;replace h:=au h;obtain⟨⟨o,n,t⟩,m1,l1,h1,h⟩:=h;obtain⟨hf,rfl,rfl⟩:=jA h1;simp only at h;obtain⟨hn,h⟩:=bck h;have hn:=Nat.le_of_ble_eq_true hn;cases a with
 |ptr r off=>
  obtain⟨rfl,rfl,_⟩:=rpu h;simp only[aV] at ha;obtain⟨⟨b,o',rfl⟩,ha⟩:=ha;refine KA.same hA (ZJ hf hn) ?_;simp only[aV];refine⟨⟨_,_,rfl⟩, ?_⟩;split at ha
  ·obtain⟨b1,hμ,e⟩:=ha;simp only[Value.pointer.injEq,jW,Addr.mk.injEq] at e;obtain⟨rfl,rfl,_⟩:=e;exact⟨_,hμ,rfl⟩
  ·trivial
  ·exact ha
 |DC row off=>obtain⟨rfl,rfl,_⟩:=rpu h;simp only[aV] at ha;obtain⟨b,o',rfl,hrow⟩:=ha;refine KA.same hA (ZJ hf hn) ?_;simp only[aV];exact⟨b,o',by rw[Nat.add_assoc],hrow⟩
 |FP r ver i off=>
  obtain⟨rfl,rfl,_⟩:=rpu h;simp only[aV] at ha;obtain⟨⟨b,o',rfl⟩,ha⟩:=ha;refine KA.same hA (ZJ hf hn) ?_;simp only[aV];refine⟨⟨_,_,rfl⟩, ?_⟩;split at ha
  ·refine⟨ha.1,λe=> ?_⟩;obtain⟨b1,n1,cap,hμ,e1⟩:=ha.2 e;simp only[Value.pointer.injEq,jW,Addr.mk.injEq] at e1;obtain⟨rfl,rfl,_⟩:=e1;exact⟨_,n1,cap,hμ,by rw[Nat.add_assoc]⟩
  ·trivial
  ·refine⟨ha.1,λe=> ?_⟩;obtain⟨b1,n1,cap,hμ,e1⟩:=ha.2 e;simp only[Value.pointer.injEq,jW,Addr.mk.injEq] at e1;obtain⟨rfl,rfl,_⟩:=e1;exact⟨_,n1,cap,hμ,by rw[Nat.add_assoc]⟩
  ·exact ha
 |_=>exact aH h
def aw1(hA:At base U M0 w0 w m G){T f:Nat}{a:V}{ga:Value}(ha:aV G.μ m (Gh U w G) a ga){v:V}{l l':Log}(h:(atj P T a f).run m l=some (v,m',l')):
  KA base U M0 w0 w m G P (Instr.field T ga f) v m':=by
 simp only[atj] at h;replace h:=au h;obtain⟨⟨o,n,t⟩,m1,l1,h1,h⟩:=h;obtain⟨hf,rfl,rfl⟩:=jA h1;simp only at h;cases a with
 |agg cs=>
  simp only at h;obtain⟨hfit,h⟩:=bck h;obtain⟨hok,h⟩:=bck h;obtain⟨hv,rfl,rfl⟩:=jA h;simp only[aV] at ha;obtain⟨arr,rfl,hs⟩:=ha;have hfit:=Nat.le_of_ble_eq_true hfit;have hp:=ajA o n hs;have hal:arr.size=cs.length:=by simpa using jB hs
  obtain⟨g,hg⟩:=avn hv hp;refine KA.same hA (g:=g) ?_ (UD hv hp hg);unfold X5 at hf;cases hu:P.underlying T with
  |none=>simp[hu] at hf
  |some d=>
   rw[hu] at hf;cases d with
   |struct fs=>
    simp only at hf;cases hfd:fs[f]? with
    |none=>simp[hfd] at hf
    |some fd=>
     simp only[hfd,jW,oI] at hf;obtain⟨rfl,rfl,rfl⟩:=hf;obtain⟨d',hd'⟩:=GR hok;obtain⟨i,hi⟩:=BD hd';unfold Instr.field;simp only[Sem.run_bind,run_underlying hu,Result.andThen_ok,hfd];unfold Go.part;simp only[Sem.run_bind,asAgg,Sem.run_pure,Result.andThen_ok,Xc hd'];unfold valOf at hg;cases hag:Vx P fd.type with
     |true=>
      simp only[hag,if_true] at hg;subst hg;rw[MK hi];have hex:arr.extract fd.offset (fd.offset+i.size)=(List.take i.size (List.drop fd.offset arr.toList)).toArray:=by apply Array.ext';simp[Array.toList_extract,List.extract_eq_take_drop]
      simp[sizeOf,typeInfo,hi,hex]
     |false=>
      simp only[hag,Bool.false_eq_true,if_false] at hg;have h0:arr[fd.offset]? =some g:=by
       have:(List.take (x9 P fd.type) (List.drop fd.offset arr.toList))[0]? =some g:=by rw[hg];rfl
       rw[List.getElem?_take] at this;split at this
       ·rw[List.getElem?_drop,Nat.add_zero] at this;simpa using this
       ·cases this
      simp[h0]
   |_=>simp at hf
 |_=>exact aH h
def ae3{α:Type}{l:List α}{i:Int}{x:α}(h:idx l i=some x):0<=i/\i.toNat<l.length/\l[i.toNat]? =some x:=by
 unfold idx at h
 by_cases h0:0<=i
 ·simp only[h0,decide_true,aG] at h;exact⟨h0,(NV.1 h).1,h⟩
 ·simp[h0] at h
def alK(hA:At base U M0 w0 w m G){t:TypeId}{x i:V}{gx gi:Value}(hx:aV G.μ m (Gh U w G) x gx)(hi:aV G.μ m (Gh U w G) i gi){v:V}{l l':Log}(h:(adJ P t x i).run m l=some (v,m',l')):
  KA base U M0 w0 w m G P (Instr.indexAt t gx gi) v m':=by
 simp only[adJ] at h;replace h:=au h;obtain⟨e,m1,l1,h1,h⟩:=h;obtain⟨he,rfl,rfl⟩:=jA h1;cases i with
 |d xi=>
  cases xi with
  |int k n=>
   simp only at h;simp only[aV,ro] at hi;subst hi;have seen:∀(rows:List Row) (o:Bool),ro (Gh U w G) (.sl o (x9 P e) rows) gx->∀row,idx rows n=some row->1<=x9 P e\/True->(∃inf,P.info? e=some inf)->KA base U M0 w0 w m1 G P (Instr.indexAt t gx (.int k n)) (.DC row 0) m1:=by intro rows o hq row hrow _ NU;obtain⟨inf,NU⟩:=NU;obtain⟨h0,hlt,hget⟩:=ae3 hrow;simp only[ro] at hq;obtain⟨a,cap,rfl,hcap,hne⟩:=hq;obtain⟨b,o',rfl,hrows⟩:=hne (by intro e;subst e;simp at hlt);obtain⟨hl,hr⟩:=adX hrows hget;refine KA.same hA (run_indexAt he NU h0 ak) ?_;simp only[aV];rw[<-MK NU];exact⟨b,o'+n.toNat * x9 P e,rfl,hr⟩
   cases x with
   |d y=>
    cases y with
    |sl o s rows=>simp only at h;replace h:=au h;obtain⟨_,m2,l2,h2,h⟩:=h;obtain⟨hs,rfl,rfl⟩:=fK h2;replace h:=au h;obtain⟨_,m2,l2,h2,h⟩:=h;obtain⟨hok,rfl,rfl⟩:=fK h2;replace h:=au h;obtain⟨row,m2,l2,h2,h⟩:=h;obtain⟨hrow,rfl,rfl⟩:=jA h2;simp only[run_pure,jW,oI] at h;obtain⟨rfl,rfl,_⟩:=h;have hs:=Dy hs;subst hs;simp only[aV] at hx;obtain⟨d',hd'⟩:=GR hok;exact seen rows o hx row hrow (.inr trivial) (BD hd')
    |_=>exact aH h
   |own r ver=>
    simp only at h;replace h:=au h;obtain⟨c,m2,l2,h2,h⟩:=h;rw[vF] at h2;cases h2;cases hc:get r m1 with
    |none=>rw[hc] at h;exact aH h
    |some c=>
     rw[hc] at h;cases c with
     |zY nG s rows i0 o0=>simp only at h;replace h:=au h;obtain⟨_,m2,l2,h2,h⟩:=h;obtain⟨hb,rfl,rfl⟩:=Ea h2;have hb:=Dy hb;subst hb;replace h:=au h;obtain⟨_,m2,l2,h2,h⟩:=h;obtain⟨hs,rfl,rfl⟩:=Ea h2;have hs:=Dy hs;subst hs;replace h:=au h;obtain⟨_,m2,l2,h2,h⟩:=h;obtain⟨hok,rfl,rfl⟩:=Ea h2;obtain⟨d',hd'⟩:=GR hok;obtain⟨inf,NU⟩:=BD hd';simp only[aV,hc] at hx;have hx:=hx.2.2 trivial;subst hx;obtain⟨b,cap,_,_,_,_,_,_,hμ,hl,_⟩:=hA.ok.cell r _ hc (by rw[hA.out];simp);replace h:=au h;obtain⟨row,m2,l2,h2,h⟩:=h;obtain⟨hrow,rfl,rfl⟩:=jA h2;simp only[run_pure,jW,oI] at h;obtain⟨rfl,rfl,_⟩:=h;obtain⟨h0,hlt,hget⟩:=ae3 hrow;rw[hμ];refine KA.same hA (run_indexAt he NU h0 ak) ?_;simp only[aV,hc,hμ];exact⟨⟨_,_,rfl⟩,Nat.le_refl _,λ_=>⟨b,_,_,rfl,by rw[MK NU];simp⟩⟩
     |arr fz fl nG s rows=>
      simp only at h;replace h:=au h;obtain⟨_,m2,l2,h2,h⟩:=h;obtain⟨hb,rfl,rfl⟩:=Ea h2;have hb:=Dy hb;subst hb;replace h:=au h;obtain⟨_,m2,l2,h2,h⟩:=h;obtain⟨hs,rfl,rfl⟩:=Ea h2;have hs:=Dy hs;subst hs;replace h:=au h;obtain⟨_,m2,l2,h2,h⟩:=h;obtain⟨hok,rfl,rfl⟩:=Ea h2;obtain⟨d',hd'⟩:=GR hok;obtain⟨inf,NU⟩:=BD hd';simp only[aV,hc] at hx;have hx:=hx.2.2 trivial;subst hx;have hcell:=hA.ok.cell r _ hc (by rw[hA.out];simp);cases fz with
      |true=>simp only at h;replace h:=au h;obtain⟨row,m2,l2,h2,h⟩:=h;obtain⟨hrow,rfl,rfl⟩:=jA h2;simp only[run_pure,jW,oI] at h;obtain⟨rfl,rfl,_⟩:=h;exact seen (vw fl rows) false (ajk hcell.1) row hrow (.inr trivial) ⟨inf,NU⟩
      |false=>simp only at h;replace h:=au h;obtain⟨row,m2,l2,h2,h⟩:=h;obtain⟨hrow,rfl,rfl⟩:=jA h2;simp only[run_pure,jW,oI] at h;obtain⟨rfl,rfl,_⟩:=h;obtain⟨h0,hlt,hget⟩:=ae3 hrow;obtain⟨b,o,cap,hμ,ho,hl,_⟩:=avp hcell (zq _ _ _) hget;have ho:=ho rfl;subst ho;rw[hμ];refine KA.same hA (run_indexAt he NU h0 ak) ?_;simp only[aV,hc,hμ];exact⟨⟨_,_,rfl⟩,Nat.le_refl _,λ_=>⟨b,_,_,rfl,by rw[MK NU];simp⟩⟩
     |_=>exact aH h
   |_=>exact aH h
  |_=>exact aH h
 |_=>exact aH h
def apY{t e:TypeId}{n:Nat}(h:arT P t=some (n,e)):P.underlying t=some (.array n e):=by
 unfold arT at h;cases hu:P.underlying t with
 |none=>simp[hu] at h
 |some d=>rw[hu] at h;cases d<;>simp at h;obtain⟨rfl,rfl⟩:=h;rfl
def ae4{t e:TypeId}{k:IntKind}{i:Int}{b o n:Nat}(hu:P.underlying t=some (.array n e)){inf:TypeInfo}(hi:P.info? e=some inf)(h0:0<=i)(hn:i<n):
  (Instr.indexAt t (.pointer (some ⟨b,o,none⟩)) (.int k i)).run P w=.ok (.pointer (some ⟨b,o+i.toNat * inf.size,none⟩)) w:=by
 have hc:0<=i/\i<(n:Int):=⟨h0,hn⟩
 unfold Instr.indexAt;simp[asIntOf,run_underlying hu,hc,sizeOf,typeInfo,hi,Wx,Instr.sureAddr]
def alL(hA:At base U M0 w0 w m G){t:TypeId}{x i:V}{gx gi:Value}(hx:aV G.μ m (Gh U w G) x gx)(hi:aV G.μ m (Gh U w G) i gi){v:V}{l l':Log}(h:(adK P t x i).run m l=some (v,m',l')):
  KA base U M0 w0 w m G P (Instr.indexAt t gx gi) v m':=by
 unfold adK at h;cases ha:arT P t with
 |none=>rw[ha] at h;exact alK hA hx hi h
 |some q=>
  obtain⟨n,e⟩:=q;rw[ha] at h;have hu:=apY ha;cases i<;>try exact aH h
  rename_i y;cases y<;>try exact aH h
  rename_i k j;simp only[aV,ro] at hi;subst hi;simp only[apQ] at h;replace h:=au h;obtain⟨_,m1,l1,h1,h⟩:=h;obtain⟨hok,rfl,rfl⟩:=fK h1;replace h:=au h;obtain⟨_,m1,l1,h1,h⟩:=h;obtain⟨hj,rfl,rfl⟩:=fK h1;simp only[rZ,decide_eq_true_eq] at hj;obtain⟨d',hd'⟩:=GR hok;obtain⟨inf,NU⟩:=BD hd';have hsz:=MK NU;cases x<;>try exact aH h
  ·rename_i r off;simp only[run_pure,jW,oI] at h;obtain⟨rfl,rfl,_⟩:=h;simp only[aV] at hx;obtain⟨⟨b,o,rfl⟩,hx⟩:=hx;refine KA.same hA (ae4 hu NU hj.1 hj.2) ?_;simp only[aV];refine⟨⟨b,_,rfl⟩, ?_⟩;cases hc:get r m1 with
   |none=>rw[hc] at hx;exact hx.elim
   |some c=>
    rw[hc] at hx;cases c with
    |box T cs=>obtain⟨b',h1,h2⟩:=hx;simp only[Value.pointer.injEq,jW,Addr.mk.injEq] at h2;obtain⟨rfl,rfl,_⟩:=h2;exact⟨b,h1,by rw[hsz]⟩
    |dead=>trivial
    |_=>exact hx.elim
  ·rename_i row off;simp only[run_pure,jW,oI] at h;obtain⟨rfl,rfl,_⟩:=h;simp only[aV] at hx;obtain⟨b,o,rfl,hr⟩:=hx;refine KA.same hA (ae4 hu NU hj.1 hj.2) ?_;simp only[aV];exact⟨b,o,by rw[hsz,Nat.add_assoc],hr⟩
def amr{μ:Nat->Value}{mm:Mem}{hh:View}:∀{cs:List V} {row:Row} {gs:List Value},al7 cs=some row->dA μ mm hh cs gs->∀i:Nat,i<cs.length->∃g,gs[i]? =some g/\ro hh (nth row i) g
 |[],row,gs,h,q,i,hi=>by simp at hi
 |v::cs,row,gs,h,q,i,hi=>by
  simp only[dA] at q;obtain⟨g,gs',rfl,q1,q2⟩:=q;cases v<;>simp only[al7] at h<;>try cases h
  rename_i x;cases hr:al7 cs with
  |none=>rw[hr] at h;cases h
  |some r=>
   rw[hr] at h;cases h;cases i with
   |zero=>exact⟨g,rfl,by simpa[nth,aV] using q1⟩
   |succ i=>obtain⟨g',h1,h2⟩:=amr hr q2 i (by simpa using hi);exact⟨g',by simpa using h1,by simpa[nth] using h2⟩
def aoq(hA:At base U M0 w0 w m G){t e:TypeId}{n:Nat}{k:IntKind}{j:Int}{cs:List V}{gx:Value}(hu:P.underlying t=some (.array n e))(hx:aV G.μ m (Gh U w G) (.agg cs) gx){v:V}{l l':Log} (h:(do
  ck (Nat.beq (x9 P e) 1 &&(Nat.beq cs.length n &&(Kz P e && !(Vx P e))))
  ck (decide (0<=j) && decide (j<(n:Int)))
  let row<-op' (al7 cs)
  ajb (match PY P e with|[c]=>c|_=> .other) row j.toNat:Acc V).run m l=some (v,m',l')):
  KA base U M0 w0 w m G P (Instr.index t gx (.int k j)) v m':=by
 replace h:=au h;obtain⟨_,m1,l1,h1,h⟩:=h;obtain⟨hk,rfl,rfl⟩:=fK h1;simp only[rZ,Bool.not_eq_true',Nat.beq_eq] at hk;obtain⟨hsz,hlen,hok,hagg⟩:=hk;replace h:=au h;obtain⟨_,m1,l1,h1,h⟩:=h;obtain⟨hj,rfl,rfl⟩:=fK h1;simp only[rZ,decide_eq_true_eq] at hj;replace h:=au h;obtain⟨row,m1,l1,h1,h⟩:=h;obtain⟨hrow,rfl,rfl⟩:=jA h1;simp only[aV] at hx;obtain⟨arr,rfl,hs⟩:=hx;obtain⟨g,hg,hr⟩:=amr hrow hs j.toNat ak;obtain⟨d',hd'⟩:=GR hok;obtain⟨inf,NU⟩:=BD hd';have hone:=MK NU;have hrun:(Instr.index t (.agg arr) (.int k j)).run P w=.ok g w:=by
  unfold Instr.index;have hg':arr[j.toNat * inf.size]? =some g:=by rw[<-hone,hsz,Nat.mul_one];simpa using hg
  simp[asIntOf,run_underlying hu,hj.1,hj.2,sizeOf,typeInfo,NU];unfold Go.part;simp[Xc hd',hagg,hg']
 have fin:v=.d (nth row j.toNat)/\m'=m1:=by
  generalize (match PY P e with|[c]=>c|_=>CT.other)=c at h;cases hx:nth row j.toNat<;>cases c<;>simp[ajb,jR,al6,cStr,hx,asInt,asBool,al5,Acc.run] at h
  ·rename_i k1 n1 k2
   by_cases e:k1=k2
   ·subst e;simp[Acc.run] at h;exact⟨h.1.symm,h.2.1.symm⟩
   ·simp[e,Acc.run] at h
  ·exact⟨h.1.symm,h.2.1.symm⟩
  ·exact⟨h.1.symm,h.2.1.symm⟩
 obtain⟨rfl,rfl⟩:=fin;exact KA.same hA hrun (by simpa[aV] using hr)
def aw2(hA:At base U M0 w0 w m G){t:TypeId}{x i:V}{gx gi:Value}(hx:aV G.μ m (Gh U w G) x gx)(hi:aV G.μ m (Gh U w G) i gi){v:V}{l l':Log}(h:(atl P t x i).run m l=some (v,m',l')):
  KA base U M0 w0 w m G P (Instr.index t gx gi) v m':=by
 unfold atl at h;cases hu:P.underlying t with
 |none=>rw[hu] at h;exact aH h
 |some d=>
  rw[hu] at h
  by_cases harr:∃n e,d=.array n e
  ·obtain⟨n,e,rfl⟩:=harr;cases x<;>try exact aH h
   cases i<;>try exact aH h
   rename_i y;cases y<;>try exact aH h
   simp only[aV,ro] at hi;subst hi;exact aoq hA hu hx h
  cases d<;>first|exact aH h|exact(harr ⟨_,_,rfl⟩).elim|skip
  cases x<;>try exact aH h
  rename_i y;cases y<;>try exact aH h
  rename_i s;cases i<;>try exact aH h
  rename_i y;cases y<;>try exact aH h
  rename_i k n;simp only[aV,ro] at hx hi;subst hx hi;dsimp only at h;cases hb:idx s n with
  |none=>rw[hb] at h;simp[Acc.run] at h
  |some b=>
   rw[hb] at h;change some (_,_,_)=_ at h;simp only[jW,oI] at h;obtain⟨rfl,rfl,_⟩:=h;obtain⟨h0,hlt,hget⟩:=ae3 hb;refine KA.same hA (g:=.int .u8 b.toNat) ?_ (by simp[aV,ro]);have hg:(ByteArray.mk ⟨s⟩)[n.toNat]? =some b:=by
    have hsz:n.toNat<(ByteArray.mk ⟨s⟩).size:=hlt;rw[getElem?_pos (ByteArray.mk ⟨s⟩) n.toNat hsz];have:s[n.toNat]=b:=by have:=List.getElem?_eq_getElem hlt;rw[this] at hget;exact Option.some.inj hget
    exact congrArg some this
   simp[Instr.index,asIntOf,run_underlying hu,h0,hg]
def aCq(hA:At base U M0 w0 w m G){t ty:TypeId}{x:V}{gx:Value}(hx:aV G.μ m (Gh U w G) x gx)
  (hk:∀s,x=.d (.str s)->P.underlying t=some .string) (hk':(∀s,x≠.d (.str s))->∃e,P.underlying t=some (.slice e)) {v:V} {l l':Log} (h:(lenV x).run m l=some (v,m',l')):
  KA base U M0 w0 w m G P (Builtin.len_ #[t] ty #[gx]) v m':=by
 have slice:∀(a:Option Addr) (n c:Nat),(∃e,P.underlying t=some (.slice e))->KA base U M0 w0 w m G P (Builtin.len_ #[t] ty #[.slice a n c]) (.d (.int .i64 n)) m:=by intro a n c ⟨e,he⟩;refine KA.same hA (g:=.int .i64 n) ?_ (by simp[aV,ro]);simp[Builtin.len_,run_underlying he,goInt]
 cases x with
 |d y=>
  cases y with
  |str s=>change some (_,_,_)=_ at h;simp only[jW,oI] at h;obtain⟨rfl,rfl,_⟩:=h;simp only[aV,ro] at hx;subst hx;refine KA.same hA (g:=.int .i64 s.length) ?_ (by simp[aV,ro]);have hsz:(ByteArray.mk ⟨s⟩).size=s.length:=rfl;simp[Builtin.len_,run_underlying (hk s rfl),goInt,hsz]
  |sl o s rows=>change some (_,_,_)=_ at h;simp only[jW,oI] at h;obtain⟨rfl,rfl,_⟩:=h;simp only[aV,ro] at hx;obtain⟨a,cap,rfl,_⟩:=hx;exact slice a rows.length cap (hk' (by simp))
  |_=>exact aH h
 |nil s=>change some (_,_,_)=_ at h;simp only[jW,oI] at h;obtain⟨rfl,rfl,_⟩:=h;simp only[aV] at hx;subst hx;exact slice none 0 0 (hk' (by simp))
 |own r ver=>
  simp only[lenV] at h;replace h:=au h;obtain⟨c,m2,l2,h2,h⟩:=h;rw[vF] at h2;cases h2;cases hc:get r m with
  |none=>rw[hc] at h;exact aH h
  |some c=>
   rw[hc] at h;cases c with
   |arr fz fl nG s rows=>simp only at h;replace h:=au h;obtain⟨_,m2,l2,h2,h⟩:=h;obtain⟨hb,rfl,rfl⟩:=Ea h2;have hb:=Dy hb;subst hb;simp only[run_pure,jW,oI] at h;obtain⟨rfl,rfl,_⟩:=h;have hro:=hA.ok.look hc (by rw[hA.out];simp) false;simp only[aV,hc] at hx;rw[<-hx.2.2 trivial] at hro;simp only[ro] at hro;obtain⟨a,cap,rfl,_⟩:=hro;exact slice a rows.length cap (hk' (by simp))
   |_=>exact aH h
 |_=>exact aH h
def atF(μ:Nat->Value)(m:Mem)(h:View):Option V->Option Value->Prop
 |none,g=>g=none
 |some v,g=>∃x,g=some x/\aV μ m h v x
def ZO{μ:Nat->Value}{h:View}{o:Option V}{g:Option Value}{d n:Int}{l l':Log}(hq:atF μ m h o g)(hr:(bound o d).run m l=some (n,m',l')):
  m'=m/\((g=none/\n=d)\/∃k,g=some (.int k n)):=by
 unfold bound at hr;split at hr
 ·change some (_,_,_)=_ at hr;simp only[jW,oI] at hr;obtain⟨rfl,rfl,_⟩:=hr;exact⟨rfl,.inl ⟨hq,rfl⟩⟩
 ·change some (_,_,_)=_ at hr;simp only[jW,oI] at hr;obtain⟨rfl,rfl,_⟩:=hr;obtain⟨x,rfl,hx⟩:=hq;simp only[aV,ro] at hx;exact⟨rfl,.inr ⟨_,by rw[hx]⟩⟩
 ·exact(apS hr).elim
def apZ{α:Type}{l r:List α}{a b:Int}(h:cut l a b=some r):0<=a/\a<=b/\b<=l.length/\r=(l.drop a.toNat).take (b.toNat - a.toNat):=by
 unfold cut at h;cases hc:(decide (0<=a) && decide (a<=b) && decide (b<=(l.length:Int))) with
 |false=>simp[hc] at h
 |true=>simp only[hc,aG,jW] at h;simp only[rZ,decide_eq_true_eq] at hc;exact⟨hc.1.1,hc.1.2,hc.2,h.symm⟩
def UG{abL:Bool}{len cap:Nat}{lo hi:Option Value}{a b:Int}(ha:(lo=none/\a=0)\/∃k,lo=some (.int k a))(hb:(hi=none/\b=len)\/∃k,hi=some (.int k b))
  (h0:0<=a) (h1:a<=b) (h2:b<=len) (h3:len<=cap):(Instr.sliceBounds abL len cap lo hi none).run P w=.ok (a.toNat,b.toNat,cap) w:=by
 have hbc:b<=cap:=ak;have h0b:0<=b:=ak;rcases ha with⟨rfl,rfl⟩|⟨k,rfl⟩<;>rcases hb with⟨rfl,rfl⟩|⟨k',rfl⟩
 ·simp[Instr.sliceBounds]
 ·simp[Instr.sliceBounds,Instr.sliceBound,asIntOf,h0b,hbc]
 ·simp[Instr.sliceBounds,Instr.sliceBound,asIntOf,h0,h2,h1]
 ·have:(a:Int)<=(b.toNat:Int):=ak;simp[Instr.sliceBounds,Instr.sliceBound,asIntOf,h0b,hbc,h0,this];omega
def ahy{h:View}{s:Nat}:∀{rows:List Row} {b o:Nat} (n:Nat),sQ h s rows b o->sQ h s (rows.drop n) b (o+n * s)
 |rows,b,o,0,q=>by simpa using q
 |[],b,o,n+1,q=>by simp[sQ]
 |r::rows,b,o,n+1,q=>by simp only[sQ] at q;have:=ahy n q.2.2;rw[List.drop_succ_cons,Nat.add_mul,Nat.one_mul,show o+(n * s+s)=o+s+n * s by omega];exact this
def ahz{h:View}{s:Nat}:∀{rows:List Row} {b o:Nat} (n:Nat),sQ h s rows b o->sQ h s (rows.take n) b o
 |rows,b,o,0,q=>by simp[sQ]
 |[],b,o,n+1,q=>by simp[sQ]
 |r::rows,b,o,n+1,q=>by simp only[sQ] at q;simp only[List.take_succ_cons,sQ];exact⟨q.1,q.2.1,ahz n q.2.2⟩
def ayX{h:View}{o:Bool}{s:Nat}{rows rows':List Row}{t e:TypeId}{inf:TypeInfo}{g:Value}{lo hi:Option Value}{a b:Int}(hu:P.underlying t=some (.slice e))(hi':P.info? e=some inf)(hs:s=inf.size)
  (hq:ro h (.sl o s rows) g) (ha:(lo=none/\a=0)\/∃k,lo=some (.int k a)) (hb:(hi=none/\b=rows.length)\/∃k,hi=some (.int k b)) (hc:cut rows a b=some rows'):
  ∃g',(Instr.sliceAt t g lo hi none).run P w=.ok g' w/\ro h (.sl false s rows') g':=by
 obtain⟨h0,h1,h2,rfl⟩:=apZ hc;simp only[ro] at hq;obtain⟨ad,cap,rfl,hcap,hne⟩:=hq;have hrun:=UG (P:=P) (w:=w) (abL:=true) ha hb h0 h1 ak hcap;have hlen:(List.take (b.toNat - a.toNat) (List.drop a.toNat rows)).length=b.toNat - a.toNat:=by simp;omega
 refine⟨.slice (if cap=a.toNat then ad else ad.map (·.add (a.toNat * inf.size))) (b.toNat - a.toNat) (cap - a.toNat), ?_, ?_⟩
 ·simp only[Instr.sliceAt,Sem.run_bind,run_underlying hu,Result.andThen_ok,Instr.slice,hrun,sizeOf,typeInfo];simp[hi']
 ·simp only[ro];refine⟨_,cap - a.toNat,by rw[hlen],by rw[hlen];omega, ?_⟩;intro hne';have hpos:0<b.toNat - a.toNat:=by rw[<-hlen];exact List.length_pos_iff.2 hne'
  have hrows:rows≠[]:=by intro e;subst e;simp at hne'
  obtain⟨bb,oo,rfl,hr⟩:=hne hrows;have hca:¬cap=a.toNat:=ak;refine⟨bb,oo+a.toNat * s, ?_,ahz _ (ahy _ hr)⟩;subst hs;simp[hca,Addr.add]
def alM(s:List UInt8)(a b:Nat)(h:a<=b)(hb:b<=s.length):(ByteArray.mk ⟨s⟩).extract a b=⟨⟨(s.drop a).take (b - a)⟩⟩:=by
 have:((ByteArray.mk ⟨s⟩).extract a b).data=⟨(s.drop a).take (b - a)⟩:=by rw[ByteArray.data_extract];apply Array.ext';simp[Array.toList_extract,List.extract_eq_take_drop]
 exact congrArg ByteArray.mk this
def aw3(hA:At base U M0 w0 w m G){t:TypeId}{x:V}{gx:Value}{lo hi:Option V}{glo ghi:Option Value}(hx:aV G.μ m (Gh U w G) x gx)(hlo:atF G.μ m (Gh U w G) lo glo)(hhi:atF G.μ m (Gh U w G) hi ghi)
  {v:V} {l l':Log} (hh0:(atn P t x lo hi).run m l=some (v,m',l')):KA base U M0 w0 w m G P (Instr.sliceAt t gx glo ghi none) v m':=by
 have gen:∀(x:V),aV G.μ m (Gh U w G) x gx->(do
   let e<-op' (elT P t)
   ck (Kz P e)
   let(s,rows)<-seen x
   ck (Nat.beq s (x9 P e))
   let l<-bound lo 0
   let h<-bound hi rows.length
   let rows'<-op' (cut rows l h)
   match x with
   | .own r ver=>do
    match<-rd r with
    |some (.arr _ fl nG s rows)=>do
     ck (Nat.beq ver nG)
     wr r (.arr true fl ver s rows)
     pure (.d (.sl false s rows'))
    |_=> .fail
   |_=>pure (.d (.sl false s rows')):Acc V).run m l=some (v,m',l')->KA base U M0 w0 w m G P (Instr.sliceAt t gx glo ghi none) v m':=by
  intro x hx h;replace h:=au h;obtain⟨e,m1,l1,h1,h⟩:=h;obtain⟨he,rfl,rfl⟩:=jA h1;have he:=Xd he;replace h:=au h;obtain⟨_,m1,l1,h1,h⟩:=h;obtain⟨hok,rfl,rfl⟩:=fK h1;obtain⟨d',hd'⟩:=GR hok;obtain⟨inf,NU⟩:=BD hd';have hsz:=MK NU;replace h:=au h;obtain⟨⟨s,rows⟩,m1,l1,h1,h⟩:=h;obtain⟨rfl,hfull⟩:=avm hA.ok hx hA.out h1;simp only at h;replace h:=au h;obtain⟨_,m2,l2,h2,h⟩:=h;obtain⟨hs,rfl,rfl⟩:=fK h2;have hs:=Dy hs;replace h:=au h;obtain⟨a,m2,l2,h2,h⟩:=h;obtain⟨rfl,ha⟩:=ZO hlo h2;replace h:=au h;obtain⟨b,m3,l3,h3,h⟩:=h;obtain⟨rfl,hb⟩:=ZO hhi h3;replace h:=au h;obtain⟨rows',m4,l4,h4,h⟩:=h;obtain⟨hcut,rfl,rfl⟩:=jA h4;have ayY:∀{h':View} {G1:GS} {m1':Mem} {o:Bool},Nx base U M0 w0 w m4 G w m1' G1->h'=Gh U w G1->ro h' (.sl o s rows) gx->KA base U M0 w0 w m4 G P (Instr.sliceAt t gx glo ghi none) (.d (.sl false s rows')) m1':=by intro h' G1 m1' o hnx hh hro;subst hh;obtain⟨g',hrun,hg'⟩:=ayX (w:=w) he NU (hs.trans hsz) hro ha hb hcut;exact⟨g',w,G1,hrun,hnx,hg'⟩
  cases x with
  |own r ver=>
   simp only at h;replace h:=au h;obtain⟨c,m5,l5,h5,h⟩:=h;rw[vF] at h5;cases h5;cases hc:get r m4 with
   |none=>rw[hc] at h;exact aH h
   |some c=>
    rw[hc] at h;cases c with
    |arr fz fl nG s2 aKW=>simp only at h;replace h:=au h;obtain⟨_,m5,l5,h5,h⟩:=h;obtain⟨hbq,rfl,rfl⟩:=fK h5;have hbq:=Dy hbq;subst hbq;replace h:=au h;obtain⟨_,m5,l5,h5,h⟩:=h;rw[FT] at h5;simp only[jW,oI] at h5;obtain⟨_,rfl,_⟩:=h5;simp only[run_pure,jW,oI] at h;obtain⟨rfl,rfl,_⟩:=h;simp only[seen] at h1;replace h1:=au h1;obtain⟨c,m6,l6,h6,h1⟩:=h1;rw[vF] at h6;cases h6;rw[hc] at h1;simp only at h1;replace h1:=au h1;obtain⟨_,m6,l6,h6,h1⟩:=h1;obtain⟨_,rfl,rfl⟩:=fK h6;simp only[run_pure,jW,oI] at h1;obtain⟨⟨rfl,rfl⟩,_⟩:=h1;obtain⟨k1,k2,k3⟩:=hA.ok.freeze hc (by rw[hA.out];simp);simp only[aV,hc] at hx;have hgx:=hx.2.2 trivial;rw[<-hgx] at k3;rw[hA.E] at k3;exact ayY (hA.still k1 k2 hA.out) rfl (ajk (fl:=fl) k3)
    |_=>exact aH h
  |d y=>
   cases y with
   |sl o s2 aKW=>simp only[seen,run_pure,jW,oI] at h1 h;obtain⟨⟨rfl,rfl⟩,_⟩:=h1;obtain⟨rfl,rfl,_⟩:=h;exact ayY (o:=o) hA.nx rfl hx
   |_=>exact aH h1
  |nil s2=>simp only[seen,run_pure,jW,oI] at h1 h;obtain⟨⟨rfl,rfl⟩,_⟩:=h1;obtain⟨rfl,rfl,_⟩:=h;refine ayY (o:=false) hA.nx rfl ?_;simp only[aV] at hx;subst hx;simp[ro]
  |_=>exact aH h1
 have h:=hh0;cases x with
 |d y=>
  cases y with
  |str s=>
   simp only[atn] at h;replace h:=au h;obtain⟨_,m1,l1,h1,h⟩:=h;obtain⟨hu,rfl,rfl⟩:=fK h1;replace h:=au h;obtain⟨a,m2,l2,h2,h⟩:=h;obtain⟨rfl,ha⟩:=ZO hlo h2;replace h:=au h;obtain⟨b,m3,l3,h3,h⟩:=h;obtain⟨rfl,hb⟩:=ZO hhi h3;replace h:=au h;obtain⟨s',m4,l4,h4,h⟩:=h;obtain⟨hcut,rfl,rfl⟩:=jA h4;simp only[run_pure,jW,oI] at h;obtain⟨rfl,rfl,_⟩:=h;obtain⟨h0,h1,h2,rfl⟩:=apZ hcut;simp only[aV,ro] at hx;subst hx;have hu:P.underlying t=some .string:=by
    cases hd:P.underlying t with
    |none=>simp[hd] at hu
    |some d=>rw[hd] at hu;cases d<;>simp at hu;rfl
   have hrun:=UG (P:=P) (w:=w) (abL:=false) (len:=s.length) (cap:=s.length) ha hb h0 h1 h2 (Nat.le_refl _);have hsize:(ByteArray.mk ⟨s⟩).size=s.length:=rfl;refine KA.same hA (g:=.string ((ByteArray.mk ⟨s⟩).extract a.toNat b.toNat)) ?_ ?_
   ·simp only[Instr.sliceAt,Sem.run_bind,run_underlying hu,Result.andThen_ok,Instr.slice];simp[hsize,hrun]
   ·simp only[aV,ro];rw[alM s _ _ ak ak]
  |sl o s rows=>exact gen _ hx h
  |int _ _=>exact gen _ hx h
  |bool _=>exact gen _ hx h
  |Ze=>exact gen _ hx h
 |nil _=>exact gen _ hx h
 |own _ _=>exact gen _ hx h
 |ptr _ _=>exact gen _ hx h
 |FP _ _ _ _=>exact gen _ hx h
 |DC _ _=>exact gen _ hx h
 |clo _ _ _=>exact gen _ hx h
 |agg _=>exact gen _ hx h
 |Kv _=>exact gen _ hx h
 |undef=>exact gen _ hx h
def aw4(hA:At base U M0 w0 w m G){t:TypeId}{x:V}{gx:Value}{lo hi:Option V}{glo ghi:Option Value}(hx:aV G.μ m (Gh U w G) x gx)(hlo:atF G.μ m (Gh U w G) lo glo)(hhi:atF G.μ m (Gh U w G) hi ghi)
  {v:V} {l l':Log} (h:(aoe P t x lo hi).run m l=some (v,m',l')):KA base U M0 w0 w m G P (Instr.sliceAt t gx glo ghi none) v m':=by
 cases x with
 |DC row off=>
  simp only[aoe] at h;replace h:=au h;obtain⟨q,m1,l1,h1,h⟩:=h;obtain⟨ha,rfl,rfl⟩:=jA h1;obtain⟨n,e⟩:=q;simp only at h;replace h:=au h;obtain⟨_,m1,l1,h1,h⟩:=h;obtain⟨hok,rfl,rfl⟩:=fK h1;replace h:=au h;obtain⟨_,m1,l1,h1,h⟩:=h;obtain⟨hk,rfl,rfl⟩:=fK h1;simp only[rZ,Nat.beq_eq] at hk;obtain⟨hsz,rfl,hlen⟩:=hk;cases lo<;>try exact aH h
  cases hi<;>try exact aH h
  simp only[run_pure,jW,oI] at h;obtain⟨rfl,rfl,_⟩:=h;simp only[atF] at hlo hhi;subst hlo hhi;simp only[aV] at hx;obtain⟨b,o,rfl,hr⟩:=hx;have hu:=apY ha;obtain⟨d',hd'⟩:=GR hok;obtain⟨inf,NU⟩:=BD hd';have hrun:=UG (P:=P) (w:=w) (abL:=false) (len:=n) (cap:=n) (lo:=none) (hi:=none) (a:=0) (b:=n) (.inl ⟨rfl,rfl⟩) (.inl ⟨rfl,rfl⟩) ak ak ak (Nat.le_refl _);refine KA.same hA (g:=.slice (some ⟨b,o,none⟩) n n) ?_ ?_
  ·simp only[Instr.sliceAt,Sem.run_bind,run_underlying hu,Result.andThen_ok,Instr.sureAddr,sizeOf,typeInfo];simp only[Sem.run_pure,Result.andThen_ok];rw[hrun];simp[NU,Wx]
  ·simp only[aV,ro];refine⟨_,n,by simp[hlen],by simp[hlen],λ_=>⟨b,o,rfl,ajj row b o hr⟩⟩
 |_=>exact aw3 hA hx hlo hhi h
def Yh{H:Heap}{h:View}{fl:Bool}{s:Nat}:∀{rows:List Row} {cs:List Value} {N:List Nat} (n:Nat),GU H h fl s rows cs N->∃N' N2,N=N'++N2/\GU H h fl s (rows.take n) cs N'
 |rows,cs,N,0,q=>⟨[],N,by simp,by cases fl<;>simp[GU,jc,iG]⟩
 |[],cs,N,n+1,q=>⟨N,[],by simp,by simpa using q⟩
 |r::rs,cs,N,n+1,q=>by
  cases fl with
  |true=>simp only[GU,jc] at q;obtain⟨⟨q1,q2,q3⟩,rfl⟩:=q;obtain⟨N',N2,e,k⟩:=Yh (H:=H) (fl:=true) n (show GU H h true s rs (cs.drop s) [] from⟨q3,rfl⟩);obtain⟨rfl,rfl⟩:=List.append_eq_nil_iff.1 e.symm;exact⟨[],[],rfl,⟨⟨q1,q2,k.1⟩,rfl⟩⟩
  |false=>simp only[GU,iG] at q;obtain⟨q1,N1,N3,rfl,q2,q3⟩:=q;obtain⟨N',N2,rfl,k⟩:=Yh (fl:=false) n (show GU H h false s rs (cs.drop s) N3 from q3);refine⟨N1++N',N2,by simp, ?_⟩;simp only[GU,List.take_succ_cons,iG];exact⟨q1,N1,N',rfl,q2,k⟩
def aw5(hA:At base U M0 w0 w m G){t:TypeId}{x:V}{gx:Value}{hi:Option V}{ghi:Option Value}(hx:aV G.μ m (Gh U w G) x gx)(hhi:atF G.μ m (Gh U w G) hi ghi)
  {v:V} {l l':Log} (h:(ato P t x hi).run m l=some (v,m',l')):KA base U M0 w0 w m G P (Instr.sliceAt t gx none ghi none) v m':=by
 simp only[ato] at h;replace h:=au h;obtain⟨e,m1,l1,h1,h⟩:=h;obtain⟨he,rfl,rfl⟩:=jA h1;have hu:=Xd he;replace h:=au h;obtain⟨_,m2,l2,h2,h⟩:=h;obtain⟨hok,rfl,rfl⟩:=fK h2;obtain⟨d',hd'⟩:=GR hok;obtain⟨inf,NU⟩:=BD hd';have hsz:=MK NU;cases x<;>try exact aH h
 rename_i r ver;simp only at h;replace h:=au h;obtain⟨c,m3,l3,h3,h⟩:=h;rw[vF] at h3;cases h3;cases hc:get r m2 with
 |none=>rw[hc] at h;exact aH h
 |some c=>
 rw[hc] at h;cases c with
 |box _ _=>exact aH h
 |dead=>exact aH h
 |zY _ _ _ _ _=>exact aH h
 |arr fz fl nG s rows=>
 cases fz with
 |true=>exact aH h
 |false=>
 simp only at h;replace h:=au h;obtain⟨_,m3,l3,h3,h⟩:=h;obtain⟨hb,rfl,rfl⟩:=fK h3;have hb:=Dy hb;subst hb;replace h:=au h;obtain⟨_,m4,l4,h4,h⟩:=h;obtain⟨hs,rfl,rfl⟩:=fK h4;have hs:=Dy hs;subst hs;replace h:=au h;obtain⟨k,m5,l5,h5,h⟩:=h;obtain⟨rfl,hb⟩:=ZO hhi h5;replace h:=au h;obtain⟨_,m6,l6,h6,h⟩:=h;obtain⟨hk,rfl,rfl⟩:=fK h6;simp only[rZ,decide_eq_true_eq] at hk;replace h:=au h;obtain⟨_,m7,l7,h7,h⟩:=h;rw[FT] at h7;simp only[jW,oI] at h7;obtain⟨_,rfl,_⟩:=h7;simp only[run_pure,jW,oI] at h;obtain⟨rfl,rfl,_⟩:=h;simp only[aV,hc] at hx;have hx:=hx.2.2 trivial;subst hx;have hcell:=hA.ok.cell r _ hc (by rw[hA.out];simp);simp only[oM] at hcell;have ayV:¬ver=ver+1:=ak;have hlen:(rows.take k.toNat).length=k.toNat:=by rw[zlt];omega
 have fin:∀(g:Value) (N:List Nat),N.Nodup->(∀b,b∈N->b∈G.F r)->(∀h':View,(Gh U w G).le h'->X6 (dM w) h' fl (x9 P e) (rows.take k.toNat) g N)->(Instr.sliceAt t (G.μ r) none ghi none).run P w=.ok g w->abL g->
   KA base U M0 w0 w m6 G P (Instr.sliceAt t (G.μ r) none ghi none) (.own r (ver+1)) (put r (.arr false fl (ver+1) (x9 P e) (rows.take k.toNat)) m6):=by
  intro g N hN hNs Yd hrun hone;refine⟨g,w,_,hrun,hA.ok.rewrite hA.out hA.fr (μ':=upM G.μ r g) (N:=N) hc (Keep.refl _ _) hN (λb hb=>⟨.inl (hNs b hb),(hA.ok.lt b (.inr ⟨r,hNs b hb⟩)).1⟩) (λj hj=>Ny g hj) ⟨ak,rfl,λe=>absurd e ayV⟩ (λh' hv hml _=> ?_), ?_⟩
  ·simp only[oM,Eu];exact Yd h' hv
  ·simp[aV,iE,hone]
 rcases hcell with⟨rfl,hμ,hF⟩|⟨b,cap,cs,T,N',k1,k2,k3,k4,k5,k6⟩
 ·have hrun:=UG (P:=P) (w:=w) (abL:=true) (len:=0) (cap:=0) (lo:=none) (hi:=ghi) (a:=0) (b:=k) (.inl ⟨rfl,rfl⟩) hb ak hk.1 hk.2 (Nat.le_refl _);have hk0:k.toNat=0:=by have:=hk.2;simp at this;omega
  refine fin (.slice none 0 0) [] (by simp) (by simp) (λh' hv=> .inl ⟨by simp,rfl,rfl⟩) ?_ ⟨_,_,_,rfl⟩;rw[hμ];simp only[Instr.sliceAt,Sem.run_bind,run_underlying hu,Result.andThen_ok,Instr.slice,hrun,sizeOf,typeInfo];simp[NU,hk0]
 ·have hrun:=UG (P:=P) (w:=w) (abL:=true) (len:=rows.length) (cap:=cap) (lo:=none) (hi:=ghi) (a:=0) (b:=k) (.inl ⟨rfl,rfl⟩) hb ak hk.1 hk.2 k2;have k5':GU (dM w) (Gh U w G) fl (x9 P e) rows cs.toList N':=by
   cases fl with
   |true=>exact k5
   |false=>exact k5
  obtain⟨N1,N2,aKX,hq⟩:=Yh k.toNat k5';have hnd:=hA.ok.nd r;rw[k6,aKX,<-zca] at hnd;refine fin (.slice (some ⟨b,0,none⟩) k.toNat cap) (b::N1) (List.nodup_append.1 hnd).1 (λj hj=> ?_) (λh' hv=> .inr ⟨b,cap,cs,T,N1,by rw[hlen],by rw[hlen];have:=hk.2;omega,k3,k4, ?_,rfl⟩) ?_ ⟨_,_,_,rfl⟩
  ·rw[k6,aKX,<-zca];exact List.mem_append_left _ hj
  ·have:=MN hv (λ_ _=>rfl) hq;cases fl with
   |true=>exact this
   |false=>exact this
  ·rw[k1];simp only[Instr.sliceAt,Sem.run_bind,run_underlying hu,Result.andThen_ok,Instr.slice,hrun,sizeOf,typeInfo];simp[NU,Wx]
def ayZ(hA:At base U M0 w0 w m G){t:TypeId}{x lo:V}{gx glo:Value}(hx:aV G.μ m (Gh U w G) x gx)(hlo:aV G.μ m (Gh U w G) lo glo)
  {v:V} {l l':Log} (h:(aGr P t x lo).run m l=some (v,m',l')):KA base U M0 w0 w m G P (Instr.sliceAt t gx (some glo) none none) v m':=aH h
def gvD:D->Value
 | .int k n=> .int k n
 | .bool b=> .bool b
 | .str s=> .string ⟨⟨s⟩⟩
 |_=> .nilFunc
def aKY{h:View}{x:D}(hf:x.flat=true):ro h x (gvD x):=by
 cases x with
 |sl _ _ _=>simp[D.flat] at hf
 |_=>simp[gvD,ro]
def aCr{op:BinOp}{k:IntKind}{a b:Int}{v:V}{t:TypeId}(ho:shiftOp op=false)(hz:nz op b=true)(h:aHh op k a b=some v):∃x,v=.d x/\x.flat=true/\(binOp op t (.int k a) (.int k b)).run P w=.ok (gvD x) w:=by
 cases op
 case add=>cases h;exact⟨_,rfl,rfl,by simp[binOp,Op.intArith,gvD]⟩
 case sub=>cases h;exact⟨_,rfl,rfl,by simp[binOp,Op.intArith,gvD]⟩
 case mul=>cases h;exact⟨_,rfl,rfl,by simp[binOp,Op.intArith,gvD]⟩
 case and=>cases h;exact⟨_,rfl,rfl,by simp[binOp,Op.intBits,gvD]⟩
 case or=>cases h;exact⟨_,rfl,rfl,by simp[binOp,Op.intBits,gvD]⟩
 case xor=>cases h;exact⟨_,rfl,rfl,by simp[binOp,Op.intBits,gvD]⟩
 case eql=>cases h;exact⟨_,rfl,rfl,by simp[binOp,Op.intCmp,gvD]⟩
 case neq=>cases h;exact⟨_,rfl,rfl,by simp[binOp,Op.intCmp,gvD]⟩
 case lss=>cases h;exact⟨_,rfl,rfl,by simp[binOp,Op.intCmp,gvD]⟩
 case leq=>cases h;exact⟨_,rfl,rfl,by simp[binOp,Op.intCmp,gvD]⟩
 case gtr=>cases h;exact⟨_,rfl,rfl,by simp[binOp,Op.intCmp,gvD]⟩
 case geq=>cases h;exact⟨_,rfl,rfl,by simp[binOp,Op.intCmp,gvD]⟩
 case quo=>
  have hb:¬b=0:=by simpa[nz] using hz
  ·cases h;exact⟨_,rfl,rfl,by simp[binOp,Op.intDiv,hb,gvD]⟩
 case rem=>
  have hb:¬b=0:=by simpa[nz] using hz
  ·cases h;exact⟨_,rfl,rfl,by simp[binOp,Op.intDiv,hb,gvD]⟩
 all_goals first|(cases ho;done)|(cases h;done)
def ap0{op:BinOp}{k k':IntKind}{a b:Int}{v:V}{t:TypeId}(h:aeO op k a b=some v):∃x,v=.d x/\x.flat=true/\(binOp op t (.int k a) (.int k' b)).run P w=.ok (gvD x) w:=by
 unfold aeO at h
 by_cases hb:b<0
 ·simp[hb] at h
 ·simp only[hb,decide_false,aQ] at h;cases op<;>simp only at h<;>first|(cases h;done)|skip
  all_goals
   cases h;exact⟨_,rfl,rfl,by simp[binOp,Op.shift,hb,gvD]⟩
def toList_mk(s:List UInt8):(ByteArray.mk ⟨s⟩).toList=s:=by rw[ByteArray.toList_eq]
def aw6(a b:List UInt8):ByteArray.mk ⟨a⟩++ByteArray.mk ⟨b⟩=⟨⟨a++b⟩⟩:=by
 have:(ByteArray.mk ⟨a⟩++ByteArray.mk ⟨b⟩).data=⟨a++b⟩:=by rw[ByteArray.data_append];simp
 exact congrArg ByteArray.mk this
def aCs{op:BinOp}{a b:List UInt8}{v:V}{t:TypeId}{l l':Log}(h:(aHi op a b).run m l=some (v,m',l')):
  m'=m/\∃x,v=.d x/\x.flat=true/\(binOp op t (.string ⟨⟨a⟩⟩) (.string ⟨⟨b⟩⟩)).run P w=.ok (gvD x) w:=by
 cases op<;>simp only[aHi] at h<;>try exact aH h
 case add=>
  cases hc:Nat.ble (a.length+b.length) ate with
  |false=>rw[hc] at h;simp[Acc.run] at h
  |true=>
   rw[hc] at h;change some (_,_,_)=_ at h;simp only[jW,oI] at h;obtain⟨rfl,rfl,_⟩:=h;have hc:=Nat.le_of_ble_eq_true hc;have hm:IntKind.i64.max=(ate:Int):=by decide
   have hn:¬((((ByteArray.mk ⟨a⟩).size+(ByteArray.mk ⟨b⟩).size:Nat):Int)>IntKind.i64.max):=by rw[hm];have h1:(ByteArray.mk ⟨a⟩).size=a.length:=rfl;have h2:(ByteArray.mk ⟨b⟩).size=b.length:=rfl;rw[h1,h2];omega
   refine⟨rfl,_,rfl,rfl, ?_⟩;simp only[binOp,Op.stringOp,if_neg hn,Sem.run_pure,aw6,gvD]
 all_goals
  change some (_,_,_)=_ at h;simp only[jW,oI] at h;obtain⟨rfl,rfl,_⟩:=h;refine⟨rfl,_,rfl,rfl, ?_⟩;simp[binOp,Op.stringOp,toList_mk,gvD]
def atG{t:TypeId}(h:boolT P t=true):P.underlying t=some .bool:=by
 unfold boolT at h;cases hd:P.underlying t with
 |none=>simp[hd] at h
 |some d=>rw[hd] at h;cases d<;>simp at h;rfl
def ahA{op:BinOp}{t:TypeId}{ox oy:Operand}{a b:Value}(h:∀c,a≠.agg c)(hn:a≠.nilIface):(eqGuard op t ox oy a b).run P w=.ok () w:=by
 unfold eqGuard;cases op<;>simp
 all_goals cases a<;>first|exact absurd rfl (h _)|exact absurd rfl hn|simp
def alN{t:TypeId}(h:P.underlying t=some .bool)(a b:Bool):(Op.equalIn Op.maxDepth t (.bool a) (.bool b)).run P w=.ok (a==b) w:=by
 have:∀d,(Op.equalIn (d+1) t (.bool a) (.bool b)).run P w=.ok (a==b) w:=by intro d;simp[Op.equalIn,run_underlying h]
 exact this 9999
def aHq(hA:At base U M0 w0 w m G){op:BinOp}{t:TypeId}{ox oy:Operand}{x y:V}{gx gy:Value}(hx:aV G.μ m (Gh U w G) x gx)(hy:aV G.μ m (Gh U w G) y gy){v:V}{l l':Log}(h:(bin (boolT P t) op x y).run m l=some (v,m',l')):
  KA base U M0 w0 w m G P (do eqGuard op t ox oy gx gy;binOp op t gx gy) v m':=by
 have close:∀{x:D},(∀c,gx≠.agg c)->gx≠.nilIface->x.flat=true->(binOp op t gx gy).run P w=.ok (gvD x) w->KA base U M0 w0 w m G P (do eqGuard op t ox oy gx gy;binOp op t gx gy) (.d x) m:=by intro x h1 h2 hq hr;refine KA.same hA (g:=gvD x) ?_ (by simp only[aV];exact aKY hq);simp only[Sem.run_bind,ahA h1 h2,Result.andThen_ok,hr]
 unfold bin at h;split at h
 ·simp only[aV,ro] at hx hy;subst hx hy;split at h
  ·rename_i ho;cases hb:aeO op _ _ _ with
   |none=>rw[hb] at h;simp[Acc.run] at h
   |some r=>rw[hb] at h;change some (_,_,_)=_ at h;simp only[jW,oI] at h;obtain⟨rfl,rfl,_⟩:=h;obtain⟨x,rfl,hq,hr⟩:=ap0 (P:=P) (w:=w) (t:=t) hb;exact close (by simp) (by simp) hq hr
  ·rename_i ho;split at h
   ·rename_i hk;have hk:=of_decide_eq_true hk;subst hk;cases hz:nz op _ with
    |false=>rw[hz] at h;cases h
    |true=>
    rw[hz] at h;simp only[Acc.run] at h;cases hb:aHh op _ _ _ with
    |none=>rw[hb] at h;simp[Acc.run] at h
    |some r=>rw[hb] at h;change some (_,_,_)=_ at h;simp only[jW,oI] at h;obtain⟨rfl,rfl,_⟩:=h;obtain⟨x,rfl,hq,hr⟩:=aCr (P:=P) (w:=w) (t:=t) ho hz hb;exact close (by simp) (by simp) hq hr
   ·exact aH h
 ·simp only[aV,ro] at hx hy;subst hx hy;obtain⟨rfl,x,rfl,hq,hr⟩:=aCs (P:=P) (w:=w) (t:=t) h;exact close (by simp) (by simp) hq hr
 ·simp only[aV,ro] at hx hy;subst hx hy;split at h
  ·rename_i hbt;have hbt:=atG hbt;cases op<;>simp only[aKM] at h<;>try(simp[Acc.run] at h;done)
   all_goals
    change some (_,_,_)=_ at h;simp only[jW,oI] at h;obtain⟨rfl,rfl,_⟩:=h;refine close (by simp) (by simp) rfl ?_;simp only[binOp,Op.equal,Sem.run_bind,alN hbt,Result.andThen_ok,Sem.run_pure,gvD]
  ·exact aH h
 ·exact aH h
def ap1{t:TypeId}(h:sliceT P t=true):∃e,P.underlying t=some (.slice e):=by
 unfold sliceT at h;cases hd:P.underlying t with
 |none=>simp[hd] at h
 |some d=>rw[hd] at h;cases d<;>simp at h;exact⟨_,rfl⟩
def ae5{t e:TypeId}(h:P.underlying t=some (.slice e))(a:Option Addr)(n c:Nat):(Op.equal t (.slice a n c) (.slice none 0 0)).run P w=.ok a.isNone w:=by
 have:∀d,(Op.equalIn (d+1) t (.slice a n c) (.slice none 0 0)).run P w=.ok a.isNone w:=by intro d;cases a<;>simp[Op.equalIn,run_underlying h]
 exact this 9999
def aw7{t:TypeId}{x y:V}{r:Bool}(hp:agd P t x=true)(h:atf x y=some r){μ:Nat->Value}{mm:Mem}{hh:View}{gx gy:Value}(hx:aV μ mm hh x gx)(hy:aV μ mm hh y gy)(d:Nat):
  (Op.equalIn (d+1) t gx gy).run P w=.ok r w/\(∃d,P.underlying t=some d)/\Vx P t=false:=by
 unfold atf at h;split at h
 ·rename_i k a k' b;simp only[aV,ro] at hx hy;subst hx hy;unfold agd at hp;split at hp<;>try cases hp
  all_goals rename_i hu he
  all_goals try cases he
  cases hk:decide (k=k') with
  |false=>rw[hk] at h;cases h
  |true=>rw[hk] at h;cases h;have:=of_decide_eq_true hk;subst this;exact⟨run_equalIn_int w d t k _ a b hu,⟨_,hu⟩,by simp[Vx,hu]⟩
 ·rename_i a b;simp only[aV,ro] at hx hy;subst hx hy;unfold agd at hp;split at hp<;>try cases hp
  all_goals rename_i hu he
  all_goals try cases he
  cases h;refine⟨?_,⟨_,hu⟩,by simp[Vx,hu]⟩;have:=run_equalIn_string w d t ⟨⟨a⟩⟩ ⟨⟨b⟩⟩ hu;rw[ByteArray.toList_eq,ByteArray.toList_eq] at this;exact this
 ·rename_i a b;simp only[aV,ro] at hx hy;subst hx hy;unfold agd at hp;split at hp<;>try cases hp
  all_goals rename_i hu he
  all_goals try cases he
  cases h;exact⟨run_equalIn_bool' w d t a b hu,⟨_,hu⟩,by simp[Vx,hu]⟩
 ·cases h
def ajI{μ:Nat->Value}{mm:Mem}{hh:View}{xs ys:List V}{gx gy:Array Value}(hx:dA μ mm hh xs gx.toList)(hy:dA μ mm hh ys gy.toList)(d:Nat):∀{fs:List Field} {r:Bool},aiC P fs xs ys=some r->
  (Op.eqFields (d+1) gx gy fs).run P w=.ok r w
 |[],r,h=>by cases h;simp[Op.eqFields]
 |f::fs,r,h=>by
  rw[aiC] at h;split at h
  ·rename_i x y hxo hyo
   cases hc : (agd P f.type x && (f.name != "_")) with
   |false=>rw[hc] at h;cases h
   |true=>
    rw[hc,aG] at h;rw[rZ] at hc
    have hname : f.name ≠ "_" := by simpa using hc.2
    split at h
    ·rename_i a b ha hb;cases h;obtain⟨g1,e1,s1⟩:=abw hx hxo;obtain⟨g2,e2,s2⟩:=abw hy hyo;obtain⟨h1,⟨du,hu⟩,h2⟩:=aw7 (w:=w) hc.1 ha s1 s2 d;have p1:(Go.part f.type gx f.offset).run P w=.ok g1 w:=by
      have e1':gx[f.offset]? =some g1:=by simpa using e1
      simp[Go.part,Xc hu,h2,e1']
     have p2:(Go.part f.type gy f.offset).run P w=.ok g2 w:=by
      have e2':gy[f.offset]? =some g2:=by simpa using e2
      simp[Go.part,Xc hu,h2,e2']
     rw[Op.eqFields,if_pos hname];simp only[Sem.run_bind,p1,p2,h1,Result.andThen_ok];cases a with
     |false=>simp
     |true=>simpa using ajI hx hy d hb
    ·cases h
  ·cases h
def aw8(hA:At base U M0 w0 w m G){x:V}{gx:Value}(hx:aV G.μ m (Gh U w G) x gx){b:Bool}{l l':Log}(h:(atg x).run m l=some (b,m',l')):
  m'=m/\∃a n c,gx=.slice a n c/\b=a.isNone:=by
 have full:∀{o:Bool} {s:Nat} {rows:List Row} {g:Value} {h:View},ro h (.sl o s rows) g->1<=rows.length->∃a n c,g=.slice a n c/\false=a.isNone:=by intro o s rows g h hr hl;simp only[ro] at hr;obtain⟨a,cap,rfl,_,hs⟩:=hr;obtain⟨b,o,rfl,_⟩:=hs (by intro e;rw[e] at hl;simp at hl);exact⟨_,_,_,rfl,rfl⟩
 unfold atg at h;split at h
 ·simp only[run_pure,jW,oI] at h;obtain⟨rfl,rfl,_⟩:=h;simp only[aV] at hx;exact⟨rfl,_,_,_,hx,rfl⟩
 ·replace h:=au h;obtain⟨_,m2,l2,h2,h⟩:=h;obtain⟨hb,rfl,rfl⟩:=Ea h2;simp only[run_pure,jW,oI] at h;obtain⟨rfl,rfl,_⟩:=h;simp only[aV] at hx;exact⟨rfl,full hx (Nat.le_of_ble_eq_true hb)⟩
 ·rename_i r ver;replace h:=au h;obtain⟨c,m2,l2,h2,h⟩:=h;rw[vF] at h2;cases h2;cases hc:get r m with
  |none=>rw[hc] at h;exact aH h
  |some c=>
   rw[hc] at h;cases c with
   |arr fz fl nG s rows=>simp only at h;replace h:=au h;obtain⟨_,m2,l2,h2,h⟩:=h;obtain⟨hb,rfl,rfl⟩:=Ea h2;rw[rZ] at hb;have hv:=Dy hb.1;subst hv;simp only[run_pure,jW,oI] at h;obtain⟨rfl,rfl,_⟩:=h;have hro:=hA.ok.look hc (by rw[hA.out];simp) false;simp only[aV,hc] at hx;rw[<-hx.2.2 trivial] at hro;exact⟨rfl,full hro (Nat.le_of_ble_eq_true hb.2)⟩
   |_=>exact aH h
 ·exact aH h
def aw9(hA:At base U M0 w0 w m G){op:BinOp}{t:TypeId}{ox oy:Operand}{x:V}{gx:Value}(hx:aV G.μ m (Gh U w G) x gx){v:V}{l l':Log}(h:(ath P t op x).run m l=some (v,m',l')):
  KA base U M0 w0 w m G P (do eqGuard op t ox oy gx (.slice none 0 0);binOp op t gx (.slice none 0 0)) v m':=by
 unfold ath at h;obtain⟨hb,h⟩:=bck h;obtain⟨e,he⟩:=ap1 hb;replace h:=au h;obtain⟨b,m2,l2,h2,h⟩:=h;obtain⟨rfl,a,n,c,rfl,rfl⟩:=aw8 hA hx h2;have hg:(eqGuard op t ox oy (.slice a n c) (.slice none 0 0)).run P w=.ok () w:=ahA (by simp) (by simp);cases op<;>try exact aH h
 ·obtain⟨rfl,rfl,_⟩:=rpu h;refine KA.same hA (g:=.bool a.isNone) ?_ (by simp only[aV,ro]);simp only[Sem.run_bind,hg,Result.andThen_ok,binOp,ae5 he,Sem.run_pure]
 ·obtain⟨rfl,rfl,_⟩:=rpu h;refine KA.same hA (g:=.bool !a.isNone) ?_ (by simp only[aV,ro]);simp only[Sem.run_bind,hg,Result.andThen_ok,binOp,ae5 he,Sem.run_pure]
def aCt(hA:At base U M0 w0 w m G){op:BinOp}{t:TypeId}{ox oy:Operand}{x y:V}{gx gy:Value}(hx:aV G.μ m (Gh U w G) x gx)(hy:aV G.μ m (Gh U w G) y gy){v:V}{l l':Log}(h:(aHj P t op x y).run m l=some (v,m',l')):
  KA base U M0 w0 w m G P (do eqGuard op t ox oy gx gy;binOp op t gx gy) v m':=by
 unfold aHj at h;split at h
 ·rename_i cs;cases y with
  |agg ds=>
   simp only[aKN] at h;replace h:=au h;obtain⟨_,m1,l1,h1,h⟩:=h;obtain⟨hg,rfl,rfl⟩:=fK h1;simp only[rZ,Bool.not_eq_true'] at hg;replace h:=au h;obtain⟨fs,m1,l1,h1,h⟩:=h;obtain⟨hf,rfl,rfl⟩:=jA h1;replace h:=au h;obtain⟨r,m1,l1,h1,h⟩:=h;obtain⟨hr,rfl,rfl⟩:=jA h1;simp only[aV] at hx hy;obtain⟨a,rfl,ha⟩:=hx;obtain⟨b,rfl,hb⟩:=hy;have hst:P.underlying t=some (.struct (P.fieldsOf t))/\fs=(P.fieldsOf t).toList:=by
    unfold Program.fieldsOf;split at hf
    ·rename_i fs' hu;cases hf;rw[hu];exact⟨rfl,rfl⟩
    ·cases hf
   obtain⟨hu,rfl⟩:=hst;have he:=(run_equalIn_agg w 9999 t a b hu hg.1).trans (ajI ha hb 9998 hr);have hgd:=run_eqGuard_agg w op t ox oy a b hg.2;have fin:∀r':Bool,(binOp op t (.agg a) (.agg b)).run P w=.ok (.bool r') w->v=.d (.bool r')->m1=m'->KA base U M0 w0 w m1 G P (do eqGuard op t ox oy (.agg a) (.agg b);binOp op t (.agg a) (.agg b)) v m':=by intro r' e1 e2 e3;subst e2 e3;refine KA.same hA (g:=.bool r') ?_ (by simp only[aV,ro]);simp only[Sem.run_bind,hgd,Result.andThen_ok,e1]
   cases op<;>try exact aH h
   ·simp only[run_pure,jW,oI] at h;exact fin r (by rw[run_eql_struct,he];rfl) h.1.symm h.2.1
   ·simp only[run_pure,jW,oI] at h;exact fin (!r) (by rw[run_neq_struct,he];rfl) h.1.symm h.2.1
  |_=>exact aH h
 ·split at h
  ·simp only[aV] at hy;subst hy;exact aw9 hA hx h
  ·exact aHq hA hx hy h
def aKZ(hA:At base U M0 w0 w m G){op:UnOp}{x:V}{gx:Value}(hx:aV G.μ m (Gh U w G) x gx){v:V}{l l':Log}(h:(un op x).run m l=some (v,m',l')):
  KA base U M0 w0 w m G P (Op.unary op gx) v m':=by
 unfold un at h;split at h
 ·change some (_,_,_)=_ at h;simp only[jW,oI] at h;obtain⟨rfl,rfl,_⟩:=h;simp only[aV,ro] at hx;subst hx;refine KA.same hA (g:=.int _ _) (by simp only[Op.unary,Op.intArith,Sem.run_pure];rfl) (by simp[aV,ro])
 ·change some (_,_,_)=_ at h;simp only[jW,oI] at h;obtain⟨rfl,rfl,_⟩:=h;simp only[aV,ro] at hx;subst hx;refine KA.same hA (g:=.bool _) (by simp only[Op.unary,Sem.run_pure];rfl) (by simp[aV,ro])
 ·exact aH h
def ay0(hA:At base U M0 w0 w m G){c x y:V}{gc gx gy:Value}(hc:aV G.μ m (Gh U w G) c gc)(hx:aV G.μ m (Gh U w G) x gx)(hy:aV G.μ m (Gh U w G) y gy){v:V}{l l':Log}(h:(ayB c x y).run m l=some (v,m',l')):
  KA base U M0 w0 w m G P (do pure (if<-Go.asBool gc then gx else gy)) v m':=by
 unfold ayB at h;split at h
 ·rename_i c;simp only[aV,ro] at hc;subst hc;split at h
  ·rename_i a b;change some (_,_,_)=_ at h;simp only[jW,oI] at h;obtain⟨rfl,rfl,_⟩:=h;simp only[aV,ro] at hx hy;subst hx hy;refine KA.same hA (g:=.bool (bif c then a else b)) ?_ (by simp[aV,ro]);cases c<;>simp[Go.asBool]
  ·split at h
   ·change some (_,_,_)=_ at h;simp only[jW,oI] at h;obtain⟨rfl,rfl,_⟩:=h;exact KA.same hA (g:=gx) (by simp[Go.asBool]) hx
   ·change some (_,_,_)=_ at h;simp only[jW,oI] at h;obtain⟨rfl,rfl,_⟩:=h;exact KA.same hA (g:=gy) (by simp[Go.asBool]) hy
 ·exact aH h
def ahB{h:View}:∀{rows:List Row} {cs:List Value} {bs:List UInt8},bytesOf rows=some bs->jc h 1 rows cs->cs.length=rows.length->
  ∃ns:List Int,cs=ns.map (Value.int .u8)/\bs=ns.map (λn=>UInt8.ofNat n.toNat)
 |[],cs,bs,hb,_,hl=>by simp only[bytesOf,jW] at hb;subst hb;have:cs=[]:=List.length_eq_zero_iff.1 hl;subst this;exact⟨[],rfl,rfl⟩
 |r::rs,cs,bs,hb,hs,hl=>by
  simp only[bytesOf] at hb;cases ha:asByte r with
  |none=>simp[ha] at hb
  |some b=>
   cases hb2:bytesOf rs with
   |none=>simp[ha,hb2] at hb
   |some bs2=>
    simp only[ha,hb2,jW] at hb;subst hb;simp only[jc] at hs;obtain⟨_,h1,h2⟩:=hs;cases cs with
    |nil=>simp at hl
    |cons c cs=>
     obtain⟨ns,e1,e2⟩:=ahB hb2 (by simpa using h2) (by simpa using hl);unfold asByte at ha;split at ha
     ·rename_i n _;simp only[jW] at ha;subst ha;simp only[jg] at h1;obtain⟨v,cs',e,hv,_⟩:=h1;simp only[ro] at hv;simp only[List.cons.injEq] at e;obtain⟨rfl,rfl⟩:=e;exact⟨n::ns,by rw[hv,zmc,e1],by rw[zmc,e2]⟩
     ·cases ha
def foldl_push:∀(ns:List Int) (acc:List UInt8),ns.foldl (λr n=>r.push (UInt8.ofNat n.toNat)) (ByteArray.mk ⟨acc⟩)=⟨⟨acc++ns.map (λn=>UInt8.ofNat n.toNat)⟩⟩
 |[],acc=>by simp
 |n::ns,acc=>by
  rw[List.foldl_cons];have:(ByteArray.mk ⟨acc⟩).push (UInt8.ofNat n.toNat)=⟨⟨acc++[UInt8.ofNat n.toNat]⟩⟩:=by simp[ByteArray.push]
  rw[this,foldl_push ns];simp
def ap2(hA:At base U M0 w0 w m G){src dst:TypeId}{x:V}{gx:Value}(hx:aV G.μ m (Gh U w G) x gx){v:V}{l l':Log}(h:(ajc P src dst x).run m l=some (v,m',l')):
  KA base U M0 w0 w m G P (convert src dst gx) v m':=by
 unfold ajc at h;split at h
 next hs hd=>
  split at h
  ·change some (_,_,_)=_ at h;simp only[jW,oI] at h;obtain⟨rfl,rfl,_⟩:=h;simp only[aV,ro] at hx;subst hx;refine KA.same hA (g:=.int _ _) ?_ (by simp only[aV,ro];rfl);simp[convert,run_underlying hs,run_underlying hd,Conv.intToInt]
  ·exact aH h
 next hs hd=>
  split at h
  ·change some (_,_,_)=_ at h;simp only[jW,oI] at h;obtain⟨rfl,rfl,_⟩:=h;have hx0:=hx;simp only[aV,ro] at hx;subst hx;refine KA.same hA (g:=.string _) ?_ hx0;simp[convert,run_underlying hs,run_underlying hd]
  ·exact aH h
 next e hs hd=>
  replace h:=au h;obtain⟨_,m1,l1,h1,h⟩:=h;obtain⟨he,rfl,rfl⟩:=Ea h1;have he:P.underlying e=some (.int .u8):=by
   cases hu:P.underlying e with
   |none=>simp[hu] at he
   |some d=>rw[hu] at he;cases d<;>first|(simp at he;done)|(rename_i k;cases k<;>first|rfl|(simp at he;done))
  replace h:=au h;obtain⟨⟨s,rows⟩,m1,l1,h1,h⟩:=h;obtain⟨rfl,hq⟩:=avm hA.ok hx hA.out h1;simp only at h;obtain⟨hs1,h⟩:=bck h;have hs1:=Dy hs1;subst hs1;obtain⟨bs,hb,h⟩:=bop h;obtain⟨rfl,rfl,_⟩:=rpu h;simp only[ro] at hq;obtain⟨a,cap,rfl,hcap,hne⟩:=hq;refine KA.same hA (g:=.string ⟨⟨bs⟩⟩) ?_ (by simp only[aV,ro]);rw[run_convert_bytes_string w src dst e a rows.length cap hs he hd]
  by_cases hr:rows=[]
  ·subst hr;simp only[bytesOf,jW] at hb;subst hb;cases a with
   |none=>simp[Conv.bytesToString];rfl
   |some a=>have hl:=run_loadCells_list (P:=P) w a [] (by simp);have:=run_bytesToString (P:=P) w a 0 cap [] (by simpa using hl);exact this
  ·obtain⟨b,o,rfl,hrr⟩:=hne hr;obtain⟨cs,hl,hc,hss⟩:=Yf rows o hrr;rw[Nat.mul_one] at hl;obtain⟨ns,rfl,rfl⟩:=ahB hb hss hl;have hlc:=run_loadCells_list (P:=P) w ⟨b,o,none⟩ (ns.map (Value.int .u8)) (λj v hj=>by rw[Wx];exact hc j v hj);rw[hl] at hlc;rw[run_bytesToString w _ rows.length cap ns hlc];have:=foldl_push ns [];rw[List.nil_append] at this;rw[<-this];rfl
 next=>exact aH h
def ay1{μ:Nat->Value}{h:View}{vs:List V}{a:Array Value}{i:Nat}{v:V}(q:dA μ m h vs a.toList)(hi:vs[i]? =some v):∃x,a[i]? =some x/\aV μ m h v x:=by obtain⟨x,h1,h2⟩:=abw q hi;exact⟨x,by simpa using h1,h2⟩
end
end Go.Vm
