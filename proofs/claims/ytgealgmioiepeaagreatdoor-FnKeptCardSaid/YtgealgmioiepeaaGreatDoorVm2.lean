import Derived.Orders
import Derived.KernelRfl
import Derived.RowKit3
import Derived.Laws.Cells
import Derived.Laws.Rows
import Derived.Laws.OwnMore
import Derived.Below
import Derived.Laws.Append
import Derived.Laws.AppendOwn
import Derived.Laws.CopyRow
import Derived.Laws.Slices
import Derived.Laws.MakeOwn
import Derived.Laws.BytesString
import Derived.Great.BuildSlice
import Derived.Laws.StructEq
import Derived.Laws.Strings
set_option linter.defProp false
set_option linter.unusedVariables false
set_option linter.unusedSimpArgs false
namespace Go.Vm
def au{p:Prop}(h:p:=by omega):p:=h
def aH{α:Sort _}(a b:α):cond true a b=a:=cond_true ..
def bG{α:Sort _}(a b:α):cond false a b=b:=cond_false ..
def kU{α:Type _}(a b:α):(some a=some b)=(a=b):=Option.some.injEq ..
def ql{α:Type _}{β:Type _}(a:α)(b:β)(c:α)(d:β):((a,b)=(c,d))=(a=c/\b=d):=Prod.mk.injEq ..
def zdt{p:Prop}[Decidable p](h:p):decide p=true:=decide_eq_true h
def xE{p:Prop}[Decidable p](h:¬p):decide p=false:=decide_eq_false h
def Kr{n m:Nat}(h:Nat.beq n m=true):n=m:=Nat.eq_of_beq_eq_true h
def Gt{α:Type _}{a b:List α}:(a++b).length=a.length+b.length:=List.length_append ..
def Po{α:Type _}{i:Nat}{a:α}{l:List α}:l[i]? =some a↔∃h:i<l.length,l[i]=a:=List.getElem?_eq_some_iff ..
def Pq{α:Type _}{a:α}{s:List α}:(a::s).length=s.length+1:=List.length_cons ..
def QW{α:Type _}(a b c:List α):a++b++c=a++(b++c):=List.append_assoc ..
def OW{α:Type _}{a:α}:[a].length=1:=List.length_singleton ..
def UR{α:Type _}:([]:List α).length=0:=List.length_nil ..
def Ro{α:Type _}{l:List α}{i:Nat}{a:α}(h:l[i]? =some a):a∈l:=List.mem_of_getElem? h
def zq(a b:Bool):((a&&b)=true)=(a=true/\b=true):=Bool.and_eq_true ..
def MS{α:Type _}{β:Type _}(a:α)(f:α->β):Option.map f (some a)=some (f a):=Option.map_some ..
def zmc{α:Type _}{β:Type _}{f:α->β}{a:α}{l:List α}:List.map f (a::l)=f a::List.map f l:=List.map_cons ..
def ztn(n:Nat):((n:Int)).toNat=n:=Int.toNat_natCast ..
def zca{α:Type _}{a:α}{s t:List α}:a::s++t=a::(s++t):=List.cons_append ..
def zmm{α:Type _}(y:α){a:α}{l:List α}(h:a∈l):a∈y::l:=List.mem_cons_of_mem _ h
def zmf{α:Type _}{a:α}{l:List α}:a∈a::l:=List.mem_cons_self ..
def QV{α:Type _}[BEq α][LawfulBEq α]{a b:α}:(a==b)=false↔a≠b:=beq_eq_false_iff_ne ..
def zlt{α:Type _}{i:Nat}{l:List α}:(l.take i).length=min i l.length:=List.length_take ..
inductive D where
 |int (k:IntKind) (n:Int)
 |bool (b:Bool)
 |str (s:List UInt8)
 |ZG
 |sl (own:Bool) (s:Nat) (rows:List (List D))
 deriving Inhabited
abbrev Row:=List D
abbrev aC:=List UInt8
abbrev ak:=List Row
inductive V where
 |d (x:D)
 |nil (s:Nat)
 |own (r ver:Nat)
 |ptr (r off:Nat)
 |Lp (r ver i off:Nat)
 |Fg (row:Row) (off:Nat)
 |Pv (v:V)
 |clo (f:Nat) (first caps:List V)
 |agg (cs:List V)
 |Zl (vs:List V)
 |undef
 deriving Inhabited
inductive Cell where
 |box (t:TypeId) (cs:List V)
 |arr (fz fl:Bool) (ver s:Nat) (rows:List Row)
 |dead
 |Dt (t:TypeId) (v:V)
 deriving Inhabited
abbrev Mem:=List (Nat×Cell)
abbrev nH:=List (Nat×V)
structure St where
 tm:nH
 mem:Mem
def get{α:Type}(k:Nat):List (Nat×α)->Option α
 |[]=>none
 |(j,x)::l=>bif Nat.beq k j then some x else get k l
def put{α:Type}(k:Nat)(x:α):List (Nat×α)->List (Nat×α)
 |[]=>[(k,x)]
 |(j,y)::l=>bif Nat.beq k j then(k,x)::l else bif Nat.blt k j then(k,x)::(j,y)::l else(j,y)::put k x l
def del{α:Type}(k:Nat):List (Nat×α)->List (Nat×α)
 |[]=>[]
 |(j,y)::l=>bif Nat.beq k j then del k l else(j,y)::del k l
def ab5(t:Nat)(tm:nH):V:=match get t tm with|some v=>v|none=> .undef
def ale(dst:Option Nat)(v:V)(tm:nH):nH:=match dst with|some t=>put t v tm|none=>tm
def aBq(dst:Option Nat)(tm:nH):nH:=match dst with|some t=>del t tm|none=>tm
inductive Acc(α:Type):Type 1 where
 |ret (a:α)
 |fail
 |get (k:Nat) (c:Option Cell->Acc α)
 |set (k:Nat) (x:Cell) (c:Acc α)
 |opt {β:Type} (o:Option β) (c:β->Acc α)
 |guard (b:Bool) (c:Acc α)
structure Log where
 r:List Nat
 w:List Nat
def Log.rd(l:Log)(k:Nat):Log:={l with r:=k::l.r}
def Log.wr(l:Log)(k:Nat):Log:={l with w:=k::l.w}
def Log.none:Log:=⟨[],[]⟩
def Acc.bind{α β:Type}:Acc α->(α->Acc β)->Acc β
 | .ret a,f=>f a
 | .fail,_=> .fail
 | .get k c,f=> .get k λx=>(c x).bind f
 | .set k x c,f=> .set k x (c.bind f)
 | .opt o c,f=> .opt o λb=>(c b).bind f
 | .guard b c,f=> .guard b (c.bind f)
def Acc.run{α:Type}:Acc α->Mem->Log->Option (α×Mem×Log)
 | .ret a,m,l=>some (a,m,l)
 | .fail,_,_=>none
 | .get k c,m,l=>(c (Vm.get k m)).run m (l.rd k)
 | .set k x c,m,l=>c.run (put k x m) (l.wr k)
 | .opt o c,m,l=>match o with|some b=>(c b).run m l|none=>none
 | .guard b c,m,l=>match b with|true=>c.run m l|false=>none
inductive CT where
 |int (k:IntKind)|bool|str|sl (s:Nat)|other
 deriving Inhabited
def asG(f:TypeId->Option (List CT)):List TypeId->Option (List CT)
 |[]=>some []
 |t::ts=>match f t,asG f ts with|some a,some b=>some (a++b)|_,_=>none
def cts(P:Program):Nat->TypeId->Option (List CT)
 |0,_=>none
 |n+1,t=>match P.underlying t with
  |some (.int k)=>some [.int k]
  |some .bool=>some [.bool]
  |some .string=>some [.str]
  |some (.slice e)=>match P.info? e with|some i=>some [.sl i.size]|none=>none
  |some (.struct fs)=>asG (cts P n) (fs.toList.map (·.type))
  |some (.array k e)=>asG (cts P n) (List.replicate k e)
  |some (.pointer _)|some (.func ..)=>some [.other]
  |_=>none
def Q8(P:Program)(t:TypeId):List CT:=match cts P 8 t with|some l=>l|none=>[.other]
def QX(P:Program)(t:TypeId):Bool:=match P.underlying t with|some (.struct _)=>true|some (.array ..)=>true|_=>false
def uh(P:Program)(t:TypeId):Nat:=match P.info? t with|some i=>i.size|none=>0
def anC(P:Program)(t:TypeId):Option TypeId:=match P.underlying t with|some (.pointer T)=>some T|_=>none
def elT(P:Program)(t:TypeId):Option TypeId:=match P.underlying t with|some (.slice e)=>some e|_=>none
def agc:CT->Value->V
 |_,.bool b=> .d (.bool b)
 |_,.int k n=> .d (.int k n)
 |_,.string s=> .d (.str s.data.toList)
 |_,.nilFunc=> .d .ZG
 | .sl s,.slice none 0 0=> .nil s
 |_,_=> .undef
def JD:List CT->List Value->List V
 |c::cs,v::vs=>agc c v::JD cs vs
 |[],_::vs=> .undef::JD [] vs
 |_,[]=>[]
def cv(P:Program)(t:TypeId):Value->V
 | .agg cs=> .agg (JD (Q8 P t) cs.toList)
 |v=>match Q8 P t with|c::_=>agc c v|[]=> .undef
def SB(P:Program)(t:TypeId):Option (List V):=
 match P.info? t with
 |some i=>match i.zero with
  |some z=>some (JD (Q8 P t) z.cells.toList)
  |none=>none
 |none=>none
def V.cells:V->List V
 | .agg cs=>cs
 |v=>[v]
def Px(P:Program)(t:TypeId)(cs:List V):Option V:=
 bif QX P t then some (.agg cs) else match cs with|[v]=>some v|_=>none
def asInt(k:IntKind):D->Option Int
 | .int k' n=>bif decide (k'=k) then some n else none
 |_=>none
def asBool:D->Option Bool
 | .bool b=>some b
 |_=>none
def alM:D->Option (List UInt8)
 | .str s=>some s
 |_=>none
def axJ(s:Nat):D->Option (List Row)
 | .sl _ s' rows=>bif Nat.beq s' s then some rows else none
 |_=>none
def aBr(s:Nat):D->Option (List Row)
 | .sl own s' rows=>bif Nat.beq s' s then(match own with|false=>some rows|true=>match rows with|[]=>some []|_::_=>none) else none
 |_=>none
def auD(s:Nat):D->Option (List Row)
 | .sl own s' rows=>match own with|true=>bif Nat.beq s' s then some rows else none|false=>none
 |_=>none
def nth(row:Row)(j:Nat):D:=match row[j]? with|some x=>x|none=> .ZG
def jq(k:IntKind)(row:Row)(j:Nat):Option Int:=asInt k (nth row j)
def alN(row:Row)(j:Nat):Option Bool:=asBool (nth row j)
def cStr(row:Row)(j:Nat):Option (List UInt8):=alM (nth row j)
def cSl(s:Nat)(row:Row)(j:Nat):Option (List Row):=axJ s (nth row j)
def cRo(s:Nat)(row:Row)(j:Nat):Option (List Row):=aBr s (nth row j)
def axK(s:Nat)(row:Row)(j:Nat):Option (List Row):=auD s (nth row j)
mutual
def D.fz:D->D
 | .int k n=> .int k n
 | .bool b=> .bool b
 | .str s=> .str s
 | .ZG=> .ZG
 | .sl _ s rows=> .sl false s (aB rows)
def aB:List Row->List Row
 |[]=>[]
 |r::rs=>Bf r::aB rs
def Bf:Row->Row
 |[]=>[]
 |x::r=>x.fz::Bf r
end
def roD:D->D
 | .sl _ s rows=> .sl false s rows
 |x=>x
def D.flat:D->Bool
 | .sl ..=>false
 |_=>true
def aj(rows:List Row):Bool:=rows.all λr=>r.all D.flat
def one:V->Bool
 | .d _=>true
 | .nil _=>true
 | .own _ _=>true
 | .ptr _ _=>true
 | .Lp ..=>true
 | .Fg _ _=>true
 | .Pv _=>true
 | .clo ..=>true
 |_=>false
mutual
def D.pure:D->Bool
 | .sl own _ rows=>match own with|true=>I5 rows|false=>rows.isEmpty
 |_=>true
def I5:List Row->Bool
 |[]=>true
 |r::rs=>fB r && I5 rs
def fB:Row->Bool
 |[]=>true
 |x::r=>x.pure && fB r
end
def Rq(strict:Bool):List CT->Row->Nat->(List V->Acc V)->Acc V
 |[],_,_,c=>c []
 | .int k::ts,row,j,c=> .opt (jq k row j) λn=>Rq strict ts row (j+1) λvs=>c (.d (.int k n)::vs)
 | .bool::ts,row,j,c=> .opt (alN row j) λn=>Rq strict ts row (j+1) λvs=>c (.d (.bool n)::vs)
 | .str::ts,row,j,c=> .opt (cStr row j) λn=>Rq strict ts row (j+1) λvs=>c (.d (.str n)::vs)
 | .sl s::ts,row,j,c=> .opt (bif strict then cRo s row j else cSl s row j) λrs=>Rq strict ts row (j+1) λvs=>c (.d (.sl false s rs)::vs)
 | .other::_,_,_,_=> .fail
structure Adv where
 keep:Nat->Nat->List Nat
 move:Nat->List Nat
 att:Nat->Nat->List Nat
 aJh:Nat->List Nat
 trunc:Nat->Nat->Bool
 look:Nat->List Nat
structure Ctx where
 P:Program
 U6:Adv
 adY:Nat->Option (List V->List Cell->Option (List Row×List Cell))
 glob:Nat->Option Row
 aTq:Nat->Bool
abbrev mD:=Nat->List V->List Cell->Option (List Row×List Cell)
def mem?(k:Nat):List Nat->Bool
 |[]=>false
 |j::l=>bif Nat.beq k j then true else mem? k l
def aEp:List CT->Bool
 |[]=>false
 | .sl _::_=>true
 |_::l=>aEp l
def I7(P:Program)(e:TypeId):Bool:= !(aEp (Q8 P e))
def vw(fl:Bool)(rows:List Row):List Row:=bif fl then rows else aB rows
instance:Monad Acc where
 pure:=.ret
 bind:=.bind
def rd(k:Nat):Acc (Option Cell):=.get k .ret
def wr(k:Nat)(x:Cell):Acc Unit:=.set k x (.ret ())
def ck(b:Bool):Acc Unit:=.guard b (.ret ())
def op'{β:Type}(o:Option β):Acc β:=.opt o .ret
def free(k:Nat):Acc Unit:=do
 match<-rd k with
 |none=>pure ()
 |some _=> .fail
def new(k:Nat)(c:Cell):Acc Unit:=do
 free k
 wr k c
def seen(v:V):Acc (Nat×List Row):=
 match v with
 | .d (.sl _ s rows)=>pure (s,rows)
 | .nil s=>pure (s,[])
 | .own r ver=>do
  match<-rd r with
  |some (.arr _ fl vH s rows)=>do ck (Nat.beq ver vH);pure (s,vw fl rows)
  |_=> .fail
 |_=> .fail
def auE(fl:Bool)(rows:List Row):Bool:=bif fl then aj rows else true
def toD(v:V):Acc D:=
 match v with
 | .d x=>pure (roD x)
 | .nil s=>pure (.sl true s [])
 | .own r ver=>do
  match<-rd r with
  |some (.arr fz fl vH s rows)=>do
   ck (Nat.beq ver vH)
   match fz with
   |true=>pure (.sl false s (vw fl rows))
   |false=>do
    ck (auE fl rows)
    wr r .dead
    pure (.sl true s rows)
  |_=> .fail
 |_=> .fail
def Py:List V->Acc Row
 |[]=>pure []
 |v::vs=>do
  let x<-toD v
  let xs<-Py vs
  pure (x::xs)
def splice{α:Type}(l:List α)(off:Nat)(xs:List α):List α:=l.take off++xs++l.drop (off+xs.length)
def part{α:Type}(l:List α)(off n:Nat):List α:=(l.drop off).take n
def idx{α:Type}(l:List α)(i:Int):Option α:=bif decide (0<=i) then l[i.toNat]? else none
def cut{α:Type}(l:List α)(a b:Int):Option (List α):=
 bif decide (0<=a) && decide (a<=b) && decide (b<=l.length) then some ((l.drop a.toNat).take (b.toNat - a.toNat)) else none
def byteRow(b:UInt8):Row:=[.int .u8 b.toNat]
def asByte:Row->Option UInt8
 |[.int .u8 n]=>some (UInt8.ofNat n.toNat)
 |_=>none
def bytesOf:List Row->Option (List UInt8)
 |[]=>some []
 |r::rs=>match asByte r,bytesOf rs with|some b,some bs=>some (b::bs)|_,_=>none
def ev(P:Program)(tm:nH)(t:TypeId):Operand->V
 | .tmp i=>ab5 i tm
 | .const v=>cv P t v
 | .func f=> .clo f [] []
 | .global _=> .undef
def evG(X:Ctx)(tm:nH)(t:TypeId)(x:Operand):V:=match x with
 | .global g=>match X.glob g with
  |some row=> .Fg row 0
  |none=> .undef
 |x=>ev X.P tm t x
def nz(op:BinOp)(b:Int):Bool:=match op with
 | .quo=> !(decide (b=0))
 | .rem=> !(decide (b=0))
 |_=>true
def aFM(op:BinOp)(k:IntKind)(a b:Int):Option V:=
 match op with
 | .add=>some (.d (.int k (k.wrap (a+b))))
 | .sub=>some (.d (.int k (k.wrap (a - b))))
 | .mul=>some (.d (.int k (k.wrap (a * b))))
 | .quo=>some (.d (.int k (k.wrap (a.tdiv b))))
 | .rem=>some (.d (.int k (a.tmod b)))
 | .eql=>some (.d (.bool (a==b)))
 | .neq=>some (.d (.bool (a !=b)))
 | .lss=>some (.d (.bool (decide (a<b))))
 | .leq=>some (.d (.bool (decide (a<=b))))
 | .gtr=>some (.d (.bool (decide (a>b))))
 | .geq=>some (.d (.bool (decide (a>=b))))
 | .and=>some (.d (.int k (k.wrap (BitVec.ofInt k.bits a &&& BitVec.ofInt k.bits b).toNat)))
 | .or=>some (.d (.int k (k.wrap (BitVec.ofInt k.bits a|||BitVec.ofInt k.bits b).toNat)))
 | .xor=>some (.d (.int k (k.wrap (BitVec.ofInt k.bits a ^^^ BitVec.ofInt k.bits b).toNat)))
 |_=>none
def ae0(op:BinOp)(k:IntKind)(a b:Int):Option V:=
 bif decide (b<0) then none else
 match op with
 | .shl=>some (.d (.int k (k.wrap (a * 2 ^(min b.toNat k.bits)))))
 | .shr=>some (.d (.int k (a.fdiv (2 ^(min b.toNat k.bits)))))
 |_=>none
def asH:Nat:=9223372036854775807
def aFN(op:BinOp)(a b:List UInt8):Acc V:=
 match op with
 | .add=> .guard (Nat.ble (a.length+b.length) asH) (.ret (.d (.str (a++b))))
 | .eql=> .ret (.d (.bool (a==b)))
 | .neq=> .ret (.d (.bool !(a==b)))
 | .lss=> .ret (.d (.bool (Op.bytesLess a b)))
 | .leq=> .ret (.d (.bool (Op.bytesLess a b||a==b)))
 | .gtr=> .ret (.d (.bool !(Op.bytesLess a b||a==b)))
 | .geq=> .ret (.d (.bool !(Op.bytesLess a b)))
 |_=> .fail
def aJi(op:BinOp)(a b:Bool):Option V:=
 match op with
 | .eql=>some (.d (.bool (a==b)))
 | .neq=>some (.d (.bool !(a==b)))
 |_=>none
def shiftOp:BinOp->Bool
 | .shl| .shr=>true
 |_=>false
def boolT(P:Program)(t:TypeId):Bool:=match P.underlying t with|some .bool=>true|_=>false
def bin(bt:Bool)(op:BinOp)(x y:V):Acc V:=
 match x,y with
 | .d (.int k a),.d (.int k' b)=>
  match shiftOp op with
  |true=> .opt (ae0 op k a b) .ret
  |false=>match decide (k=k') with
   |true=> .guard (nz op b) (.opt (aFM op k a b) .ret)
   |false=> .fail
 | .d (.str a),.d (.str b)=>aFN op a b
 | .d (.bool a),.d (.bool b)=>match bt with
  |true=> .opt (aJi op a b) .ret
  |false=> .fail
 |_,_=> .fail
def asI:V->V->Option Bool
 | .d (.int k a),.d (.int k' b)=>bif decide (k=k') then some (a==b) else none
 | .d (.str a),.d (.str b)=>some (a==b)
 | .d (.bool a),.d (.bool b)=>some (a==b)
 |_,_=>none
def agd(P:Program)(t:TypeId)(v:V):Bool:=match P.underlying t,v with
 |some (.int _),.d (.int _ _)=>true
 |some .string,.d (.str _)=>true
 |some .bool,.d (.bool _)=>true
 |_,_=>false
def sliceT(P:Program)(t:TypeId):Bool:=match P.underlying t with|some (.slice _)=>true|_=>false
def aiy(P:Program):List Field->List V->List V->Option Bool
 |[],_,_=>some true
 |f::fs,xs,ys=>match xs[f.offset]?,ys[f.offset]? with
  | some x, some y => bif agd P f.type x && (f.name != "_") then
    (match asI x y,aiy P fs xs ys with
    |some a,some b=>some (bif a then b else false)
    |_,_=>none) else none
  |_,_=>none
def aJj(P:Program)(t:TypeId)(op:BinOp)(cs ds:List V):Acc V:=do
 ck (!(P.stoodInHeld t) && !(P.eqGuardType P.depth t))
 let fs<-op' (match P.underlying t with|some (.struct fs)=>some fs.toList|_=>none)
 let r<-op' (aiy P fs cs ds)
 match op with
 | .eql=>pure (.d (.bool r))
 | .neq=>pure (.d (.bool !r))
 |_=> .fail
def asJ(x:V):Acc Bool:=
 match x with
 | .nil _=>pure true
 | .d (.sl _ _ rows)=>do ck (Nat.ble 1 rows.length);pure false
 | .own r ver=>do
  match<-rd r with
  |some (.arr _ _ vH _ rows)=>do ck (Nat.beq ver vH && Nat.ble 1 rows.length);pure false
  |_=> .fail
 |_=> .fail
def asK(P:Program)(t:TypeId)(op:BinOp)(x:V):Acc V:=do
 ck (sliceT P t)
 let b<-asJ x
 match op with
 | .eql=>pure (.d (.bool b))
 | .neq=>pure (.d (.bool !b))
 |_=> .fail
def aFO(P:Program)(t:TypeId)(op:BinOp)(x y:V):Acc V:=match x with
 | .agg cs=>(match y with| .agg ds=>aJj P t op cs ds|_=> .fail)
 |x=>(match y with| .nil _=>asK P t op x|y=>bin (boolT P t) op x y)
def un(op:UnOp)(x:V):Acc V:=
 match op,x with
 | .neg,.d (.int k n)=> .ret (.d (.int k (k.wrap (0 - n))))
 | .not,.d (.bool b)=> .ret (.d (.bool !b))
 |_,_=> .fail
def axL(c x y:V):Acc V:=
 match c with
 | .d (.bool c)=>match x,y with
  | .d (.bool a),.d (.bool b)=> .ret (.d (.bool (bif c then a else b)))
  |x,y=>match c with
   |true=> .ret x
   |false=> .ret y
 |_=> .fail
def UD(P:Program)(t:TypeId):Bool:=match P.underlying t with|some _=>true|none=>false
def axM(P:Program)(t:TypeId)(a:V):Acc V:=do
 ck (UD P t && Nat.beq (Q8 P t).length (uh P t))
 match a with
 | .ptr r off=>do
  match<-rd r with
  |some (.box _ cs)=>do
   ck (Nat.ble (off+uh P t) cs.length)
   op' (Px P t (part cs off (uh P t)))
  |some (.Dt _ v)=>do
   ck (Nat.beq off 0 &&(Nat.beq (uh P t) 1 && !(QX P t)))
   pure v
  |_=> .fail
 | .Pv v=>do
  ck (Nat.beq (uh P t) 1 && !(QX P t))
  pure v
 | .Fg row off=>Rq false (Q8 P t) row off λvs=>op' (Px P t vs)
 | .Lp r ver i off=>do
  match<-rd r with
  |some (.arr _ _ vH _ rows)=>do
   ck (Nat.beq ver vH)
   let row<-op' rows[i]?
   Rq true (Q8 P t) row off λvs=>op' (Px P t vs)
  |_=> .fail
 |_=> .fail
def kept(off:Nat)(cs:List V)(x:V):Bool:=match off,cs,x with
 |0,[.undef],.ptr _ _=>true
 |_,_,_=>false
def asL(P:Program)(t:TypeId)(a x:V):Acc Unit:=do
 ck (UD P t)
 ck (Nat.beq x.cells.length (uh P t))
 ck (x.cells.all one)
 match a with
 | .ptr r off=>do
  match<-rd r with
  |some (.box T cs)=>do
   ck (Nat.ble (off+uh P t) cs.length)
   match kept off cs x with
   |true=>wr r (.Dt T x)
   |false=>wr r (.box T (splice cs off x.cells))
  |_=> .fail
 | .Lp r ver i off=>do
  let xs<-Py x.cells
  match<-rd r with
  |some (.arr false fl vH s rows)=>do
   ck (Nat.beq ver vH)
   ck (Nat.ble (off+uh P t) s)
   let row<-op' rows[i]?
   wr r (.arr false fl ver s (rows.set i (splice row off xs)))
  |_=> .fail
 |_=> .fail
def YF(P:Program)(T:TypeId)(f:Nat):Option (Nat×Nat×TypeId):=
 match P.underlying T with
 |some (.struct fs)=>match fs[f]? with
  |some fd=>some (fd.offset,uh P fd.type,fd.type)
  |none=>none
 |_=>none
def adZ(P:Program)(T:TypeId)(a:V)(f:Nat):Acc V:=do
 let(o,n,_)<-op' (YF P T f)
 ck (Nat.ble 1 n)
 match a with
 | .ptr r off=>pure (.ptr r (off+o))
 | .Fg row off=>pure (.Fg row (off+o))
 | .Lp r ver i off=>pure (.Lp r ver i (off+o))
 |_=> .fail
def asM(P:Program)(T:TypeId)(x:V)(f:Nat):Acc V:=do
 let(o,n,t)<-op' (YF P T f)
 match x with
 | .agg cs=>do
  ck (Nat.ble (o+n) cs.length)
  ck (UD P t)
  op' (Px P t (part cs o n))
 |_=> .fail
def ad1(P:Program)(t:TypeId)(x i:V):Acc V:=do
 let e<-op' (elT P t)
 match i with
 | .d (.int _ i)=>
  match x with
  | .d (.sl _ s rows)=>do
   ck (Nat.beq s (uh P e))
   ck (UD P e)
   let row<-op' (idx rows i)
   pure (.Fg row 0)
  | .own r ver=>do
   match<-rd r with
   |some (.arr fz fl vH s rows)=>do
    ck (Nat.beq ver vH)
    ck (Nat.beq s (uh P e))
    ck (UD P e)
    match fz with
    |true=>do
     let row<-op' (idx (vw fl rows) i)
     pure (.Fg row 0)
    |false=>do
     let _<-op' (idx rows i)
     pure (.Lp r ver i.toNat 0)
   |_=> .fail
  |_=> .fail
 |_=> .fail
def arT(P:Program)(t:TypeId):Option (Nat×TypeId):=match P.underlying t with|some (.array n e)=>some (n,e)|_=>none
def apd(P:Program)(n:Nat)(e:TypeId)(x i:V):Acc V:=
 match i with
 | .d (.int _ i)=>do
  ck (UD P e)
  ck (decide (0<=i) && decide (i<(n:Int)))
  match x with
  | .Fg row off=>pure (.Fg row (off+i.toNat * uh P e))
  | .ptr r off=>pure (.ptr r (off+i.toNat * uh P e))
  |_=> .fail
 |_=> .fail
def ad2(P:Program)(t:TypeId)(x i:V):Acc V:=match arT P t with
 |some (n,e)=>apd P n e x i
 |none=>ad1 P t x i
def alO:List V->Option Row
 |[]=>some []
 | .d x::vs=>match alO vs with|some r=>some (x::r)|none=>none
 |_::_=>none
def aiX(c:CT)(row:Row)(i:Nat):Acc V:=match c with
 | .int k=> .opt (jq k row i) λn=> .ret (.d (.int k n))
 | .bool=> .opt (alN row i) λb=> .ret (.d (.bool b))
 | .str=> .opt (cStr row i) λs=> .ret (.d (.str s))
 |_=> .fail
def asN(P:Program)(t:TypeId)(x i:V):Acc V:=
 match P.underlying t,x,i with
 |some .string,.d (.str s),.d (.int _ i)=> .opt (idx s i) λb=> .ret (.d (.int .u8 b.toNat))
 |some (.array n e),.agg cs,.d (.int _ i)=>do
  ck (Nat.beq (uh P e) 1 &&(Nat.beq cs.length n &&(UD P e && !(QX P e))))
  ck (decide (0<=i) && decide (i<(n:Int)))
  let row<-op' (alO cs)
  aiX (match Q8 P e with|[c]=>c|_=> .other) row i.toNat
 |_,_,_=> .fail
def lenV(x:V):Acc V:=
 match x with
 | .d (.str s)=> .ret (.d (.int .i64 s.length))
 | .own r ver=>do
  match<-rd r with
  |some (.arr _ _ vH _ rows)=>do ck (Nat.beq ver vH);pure (.d (.int .i64 rows.length))
  |_=> .fail
 | .d (.sl _ _ rows)=> .ret (.d (.int .i64 rows.length))
 | .nil _=> .ret (.d (.int .i64 0))
 |_=> .fail
def ae1:Nat:=140737488355328
def ad3(P:Program)(e:TypeId):Nat:=match P.info? e with|some i=>i.bytes|none=>ae1
def tail(P:Program)(e:TypeId)(y:V):Acc (List Row):=
 match y with
 | .d (.str s)=>do
  ck (Nat.beq (uh P e) 1)
  pure (s.map byteRow)
 | .d (.sl _ s rows)=>do
  ck (Nat.beq s (uh P e))
  pure (vw (I7 P e) rows)
 | .nil _=>pure []
 | .own r ver=>do
  match<-rd r with
  |some (.arr fz fl vH s rows)=>do
   ck (Nat.beq ver vH)
   ck (Nat.beq s (uh P e))
   match I7 P e with
   |true=>do
    ck (fl||fz)
    pure rows
   |false=>do
    ck (!fl)
    match fz with
    |true=>pure (aB rows)
    |false=>do
     wr r .dead
     pure rows
  |_=> .fail
 |_=> .fail
def anD(P:Program)(dst:Nat)(t ty:TypeId)(x y:V):Acc V:=do
 let e<-op' (elT P t)
 ck (Nat.ble 1 (uh P e))
 ck (match P.underlying ty with|some (.slice _)=>true|some .string=>true|_=>false)
 let z<-op' (SB P e)
 ck (Nat.beq z.length (uh P e))
 let ys<-tail P e y
 match x with
 | .nil _=>do
  ck (Nat.ble (ys.length * ad3 P e) ae1)
  ck (Nat.ble ys.length ae1)
  new dst (.arr false (I7 P e) 0 (uh P e) ys)
  pure (.own dst 0)
 | .own r ver=>do
  match<-rd r with
  |some (.arr false fl vH s rows)=>do
   ck (Nat.beq ver vH)
   ck (Nat.beq s (uh P e))
   ck (match fl,I7 P e with|true,true=>true|false,false=>true|_,_=>false)
   ck (Nat.ble ((rows.length+ys.length) * ad3 P e) ae1)
   ck (Nat.ble (rows.length+ys.length) ae1)
   wr r (.arr false fl (ver+1) s (rows++ys))
   pure (.own r (ver+1))
  |_=> .fail
 |_=> .fail
def ape(P:Program)(e:TypeId):Acc Row:=do
 let z<-op' (SB P e)
 Py z
def ad4(P:Program)(dst:Nat)(t:TypeId)(l c:V):Acc V:=do
 let e<-op' (elT P t)
 ck (Nat.ble 1 (uh P e))
 let z<-ape P e
 ck (Nat.beq z.length (uh P e))
 match l,c with
 | .d (.int _ l),.d (.int _ c)=>do
  ck (decide (0<=l) && decide (l<=c) && decide (c * ad3 P e<=ae1) && decide (c<=ae1))
  new dst (.arr false (I7 P e) 0 (uh P e) (List.replicate l.toNat z))
  pure (.own dst 0)
 |_,_=> .fail
def bound(o:Option V)(d:Int):Acc Int:=match o with
 |none=> .ret d
 |some (.d (.int _ n))=> .ret n
 |some _=> .fail
def asO(P:Program)(t:TypeId)(x:V)(lo hi:Option V):Acc V:=
 match x with
 | .d (.str s)=>do
  ck (match P.underlying t with|some .string=>true|_=>false)
  let l<-bound lo 0
  let h<-bound hi s.length
  let s'<-op' (cut s l h)
  pure (.d (.str s'))
 |_=>do
  let e<-op' (elT P t)
  ck (UD P e)
  let(s,rows)<-seen x
  ck (Nat.beq s (uh P e))
  let l<-bound lo 0
  let h<-bound hi rows.length
  let rows'<-op' (cut rows l h)
  match x with
  | .own r ver=>do
   match<-rd r with
   |some (.arr _ fl vH s rows)=>do
    ck (Nat.beq ver vH)
    wr r (.arr true fl ver s rows)
    pure (.d (.sl false s rows'))
   |_=> .fail
  |_=>pure (.d (.sl false s rows'))
def anE(P:Program)(t:TypeId)(x:V)(lo hi:Option V):Acc V:=
 match x with
 | .Fg row off=>do
  let(n,e)<-op' (arT P t)
  ck (UD P e)
  ck (Nat.beq (uh P e) 1 &&(Nat.beq off 0 && Nat.beq row.length n))
  match lo,hi with
  |none,none=>pure (.d (.sl false 1 (row.map λx=>[x])))
  |_,_=> .fail
 |x=>asO P t x lo hi
def asP(P:Program)(t:TypeId)(x:V)(hi:Option V):Acc V:=do
 let e<-op' (elT P t)
 ck (UD P e)
 match x with
 | .own r ver=>do
  match<-rd r with
  |some (.arr false fl vH s rows)=>do
   ck (Nat.beq ver vH)
   ck (Nat.beq s (uh P e))
   let h<-bound hi rows.length
   ck (decide (0<=h) && decide (h<=(rows.length:Int)))
   wr r (.arr false fl (ver+1) s (rows.take h.toNat))
   pure (.own r (ver+1))
  |_=> .fail
 |_=> .fail
def aEq(P:Program)(t:TypeId)(x lo:V):Acc V:=.fail
def zK(P:Program)(T:TypeId)(tm:nH):List (Nat×Operand)->List V->Acc (List V)
 |[],cs=>pure cs
 |(f,x)::ps,cs=>do
  let(o,n,t)<-op' (YF P T f)
  let v:=ev P tm t x
  ck (Nat.beq v.cells.length n)
  ck (v.cells.all one)
  ck (Nat.ble (o+n) cs.length)
  zK P T tm ps (splice cs o v.cells)
def apf(P:Program)(T:TypeId):Bool:=match P.underlying T with
 |some (.struct fs)=>fs.toList.all λf=>match P.info? f.type with|some _=>true|none=>false
 |_=>false
def xu(P:Program)(e:TypeId)(tm:nH):List (Nat×Operand)->List V->Acc (List V)
 |[],cs=>pure cs
 |(i,x)::ps,cs=>do
  let v:=ev P tm e x
  ck (Nat.beq v.cells.length (uh P e))
  ck (v.cells.all one)
  ck (Nat.ble (i * uh P e+uh P e) cs.length)
  xu P e tm ps (splice cs (i * uh P e) v.cells)
def anF(P:Program)(T:TypeId)(tm:nH)(ps:List (Nat×Operand)):Acc V:=do
 ck (apf P T)
 let z<-op' (SB P T)
 let cs<-zK P T tm ps z
 pure (.agg cs)
def asQ(P:Program)(T e:TypeId)(tm:nH)(ps:List (Nat×Operand)):Acc V:=do
 ck (UD P e)
 let z<-op' (SB P T)
 let cs<-xu P e tm ps z
 pure (.agg cs)
def anG(P:Program)(T:TypeId)(tm:nH)(ps:List (Nat×Operand)):Acc V:=match arT P T with
 |some (_,e)=>asQ P T e tm ps
 |none=>anF P T tm ps
def zL(P:Program)(e:TypeId)(tm:nH):Nat->List (Nat×Operand)->Acc (List Row)
 |_,[]=>pure []
 |k,(i,x)::ps=>do
  ck (Nat.beq i k)
  let v:=ev P tm e x
  ck (Nat.beq v.cells.length (uh P e))
  let row<-Py v.cells
  let rows<-zL P e tm (k+1) ps
  pure (row::rows)
def WC(P:Program)(dst:Nat)(t:TypeId)(n:Nat)(tm:nH)(ps:List (Nat×Operand)):Acc V:=do
 let e<-op' (elT P t)
 ck (Nat.ble 1 (uh P e))
 ck (Nat.beq ps.length n)
 ck (Nat.ble (n * uh P e) 16777216)
 let _<-op' (SB P e)
 let rows<-zL P e tm 0 ps
 new dst (.arr false (I7 P e) 0 (uh P e) rows)
 pure (.own dst 0)
def aiY(P:Program)(src dst:TypeId)(x:V):Acc V:=
 match P.underlying src,P.underlying dst with
 |some (.int _),some (.int k)=>match x with
  | .d (.int _ n)=> .ret (.d (.int k (k.wrap n)))
  |_=> .fail
 |some .string,some .string=>match x with
  | .d (.str s)=> .ret (.d (.str s))
  |_=> .fail
 |some (.slice e),some .string=>do
  ck (match P.underlying e with|some (.int .u8)=>true|_=>false)
  let(s,rows)<-seen x
  ck (Nat.beq s 1)
  let b<-op' (bytesOf rows)
  pure (.d (.str b))
 |_,_=> .fail
def vP:Nat:=100000
def asR(r:Nat)(l:List Nat):List Nat:=bif mem? r l then l else l++[r]
mutual
def apg(I:List Nat):V->List Nat
 | .ptr r _=>asR r I
 | .clo _ a b=>alP (alP I a) b
 | .agg cs=>alP I cs
 | .Pv v=>apg I v
 |_=>I
def alP(I:List Nat):List V->List Nat
 |[]=>I
 |v::vs=>alP (apg I v) vs
end
def OD(A:Adv)(f i:Nat):Nat:=bif mem? i (A.move f) then 1 else bif mem? i (A.look f) then 4 else 0
def U7(A:Adv)(f:Nat):Nat->List Nat->List V->List Nat
 |_,I,[]=>I
 |i,I,v::vs=>U7 A f (i+1) (match OD A f i,v with
  |4,_=>I
  |_,v=>apg I v) vs
def idxOf(r:Nat):Nat->List Nat->Option Nat
 |_,[]=>none
 |i,j::l=>bif Nat.beq r j then some i else idxOf r (i+1) l
def XL(A:Adv)(f:Nat):Nat->List V->Acc (List V)
 |_,[]=>pure []
 |i,v::vs=>do
  let v<-(match OD A f i with
   |1=>do
    let x<-toD v
    pure (.d x)
   |_=>pure v:Acc V)
  let vs<-XL A f (i+1) vs
  pure (v::vs)
mutual
def lend(imp:List Nat):V->Acc (V×List Nat)
 | .d x=>pure (.d (roD x),[])
 | .nil s=>pure (.d (.sl false s []),[])
 | .own r ver=>do
  match<-rd r with
  |some (.arr fz fl vH s rows)=>do
   ck (Nat.beq ver vH)
   ck (!(mem? r imp))
   pure (.d (.sl false s (vw fl rows)),bif fz then[] else[r])
  |_=> .fail
 | .ptr r off=>do
  let i<-op' (idxOf r 0 imp)
  pure (.ptr (vP+i) off,[])
 | .Fg row off=>pure (.Fg row off,[])
 | .Pv v=>do
  let(v,l)<-lend imp v
  pure (.Pv v,l)
 | .clo f a b=>do
  let(a,l)<-aiZ imp a
  let(b,l')<-aiZ imp b
  pure (.clo f a b,l++l')
 | .agg cs=>do
  let(a,l)<-aiZ imp cs
  pure (.agg a,l)
 | .Lp ..=> .fail
 | .Zl _=> .fail
 | .undef=> .fail
def aiZ(imp:List Nat):List V->Acc (List V×List Nat)
 |[]=>pure ([],[])
 |v::vs=>do
  let(v,l)<-lend imp v
  let(vs,l')<-aiZ imp vs
  pure (v::vs,l++l')
end
def XM(imp:List Nat):List V->Acc (Row×List Nat)
 |[]=>pure ([],[])
 |v::vs=>do
  let(v,l)<-lend imp v
  match v with
  | .d x=>do
   let(r,l')<-XM imp vs
   pure (x::r,l++l')
  |_=> .fail
def aiz(imp:List Nat)(v:V):Acc (V×List Nat):=
 match v with
 | .ptr r off=>do
  match<-rd r with
  |some (.box _ cs)=>do
   ck (!(mem? r imp))
   let(row,l)<-XM imp cs
   pure (.Fg row off,r::l)
  |_=> .fail
 | .Fg row off=>pure (.Fg row off,[])
 |_=> .fail
def XO(A:Adv)(imp:List Nat)(f:Nat):Nat->List V->Acc (List V×List Nat)
 |_,[]=>pure ([],[])
 |i,v::vs=>do
  let(v,l)<-(match OD A f i with
   |1=>pure (v,[])
   |4=>aiz imp v
   |_=>lend imp v:Acc (V×List Nat))
  let(vs,l')<-XO A imp f (i+1) vs
  pure (v::vs,l++l')
def axN(imp:List Nat)(own:Bool)(v:V):Acc V:=
 match v with
 | .d x=>pure (.d (roD x))
 | .nil s=>pure (.d (.sl own s []))
 | .own r ver=>do
  match<-rd r with
  |some (.arr fz fl vH s rows)=>do
   ck (Nat.beq ver vH)
   ck (!(mem? r imp))
   match own with
   |true=>do
    ck (!fz)
    ck (auE fl rows)
    wr r .dead
    pure (.d (.sl true s rows))
   |false=>do
    wr r (.arr true fl ver s rows)
    pure (.d (.sl false s (vw fl rows)))
  |_=> .fail
 |_=> .fail
def ZV(imp own:List Nat):Nat->List V->Acc (List V)
 |_,[]=>pure []
 |j,v::vs=>do
  let v<-axN imp (mem? j own) v
  let vs<-ZV imp own (j+1) vs
  pure (v::vs)
def auF(A:Adv)(imp:List Nat)(c:Option Cell):Acc Cell:=
 match c with
 |some (.box t cs)=>do
  let cs<-ZV imp (A.aJh t) 0 cs
  pure (.box t cs)
 |_=> .fail
def ZW(A:Adv)(imp:List Nat):List Nat->Acc (List Cell)
 |[]=>pure []
 |r::rs=>do
  let c<-rd r
  let c<-auF A imp c
  let cs<-ZW A imp rs
  pure (c::cs)
def keyOf(r j dst:Nat):Nat:=1000000+(r * 100+j) * 10000+dst
def vD:V->D
 | .d x=>x
 |_=> .ZG
def axO(cs:List Cell)(i:Nat):Row:=match cs[i]? with|some (.box _ vs)=>vs.map vD|_=>[]
def axP(cs:List Cell)(i n:Nat):Bool:=match cs[i]? with|some (.box _ vs)=>Nat.beq vs.length n|_=>false
def axQ(f:TypeId->List Bool):List TypeId->List Bool
 |[]=>[]
 |t::ts=>f t++axQ f ts
def fls(P:Program):Nat->TypeId->List Bool
 |0,_=>[]
 |n+1,t=>match P.underlying t with
  |some (.slice e)=>[I7 P e]
  |some (.struct fs)=>axQ (fls P n) (fs.toList.map (·.type))
  |_=>[false]
def Uc(own fl:Bool)(key:Nat)(row:Row)(j:Nat):CT->Acc V
 | .int k=> .opt (jq k row j) λn=> .ret (.d (.int k n))
 | .bool=> .opt (alN row j) λn=> .ret (.d (.bool n))
 | .str=> .opt (cStr row j) λn=> .ret (.d (.str n))
 | .sl s=>match own with
  |true=> .opt (axK s row j) λrows=>do
   new key (.arr false fl 0 s rows)
   pure (.own key 0)
  |false=> .opt (cSl s row j) λrows=> .ret (.d (.sl false s (vw fl rows)))
 | .other=> .fail
def ae2(own:List Nat)(r dst:Nat)(row:Row):Nat->List CT->List Bool->Acc (List V)
 |_,[],_=>pure []
 |j,ct::l,fs=>do
  let v<-Uc (mem? j own) (fs.headD false) (keyOf r j dst) row j ct
  let vs<-ae2 own r dst row (j+1) l fs.tail
  pure (v::vs)
def ag9(X:Ctx)(dst:Nat)(out:List Cell):Nat->List Nat->Acc Unit
 |_,[]=>pure ()
 |i,r::rs=>do
  match<-rd r with
  |some (.box t _)=>do
   ck (axP out i (Q8 X.P t).length)
   let vs<-ae2 (X.U6.aJh t) r dst (axO out i) 0 (Q8 X.P t) (fls X.P 8 t)
   wr r (.box t vs)
  |_=> .fail
  ag9 X dst out (i+1) rs
def asT(dst c:Nat):Nat:=1000000000000000+dst * 1000+c
def XP(att:List Nat)(dst ri:Nat)(row:Row):Nat->List CT->List Bool->Acc (List V)
 |_,[],_=>pure []
 |j,ct::l,fs=>do
  let v<-Uc (mem? (ri * 20+j) att) (fs.headD false) (asT dst (ri * 20+j)) row j ct
  let vs<-XP att dst ri row (j+1) l fs.tail
  pure (v::vs)
def asU(X:Ctx)(att:List Nat)(dst ri:Nat)(row:Row)(t:TypeId):Acc V:=match anC X.P t with
 |some T=>do
  ck (Nat.beq row.length (Q8 X.P T).length)
  let cs<-XP [] dst ri row 0 (Q8 X.P T) (fls X.P 8 T)
  new (asT dst (ri * 20+19)) (.box T cs)
  pure (.ptr (asT dst (ri * 20+19)) 0)
 |none=>do
  ck (Nat.beq row.length (Q8 X.P t).length)
  let cs<-XP att dst ri row 0 (Q8 X.P t) (fls X.P 8 t)
  op' (Px X.P t cs)
def ai0(res:List Row)(ri:Nat):Row:=match res[ri]? with|some r=>r|none=>[]
def ad5(X:Ctx)(att:List Nat)(dst:Nat)(res:List Row):Nat->List TypeId->Acc (List V)
 |_,[]=>pure []
 |ri,t::ts=>do
  let v<-asU X att dst ri (ai0 res ri) t
  let vs<-ad5 X att dst res (ri+1) ts
  pure (v::vs)
def asV(att:List Nat)(ri:Nat):Nat->List CT->Bool
 |_,[]=>true
 |j,.sl _::l=>mem? (ri * 20+j) att && asV att ri (j+1) l
 |j,_::l=>asV att ri (j+1) l
def abQ(P:Program)(att:List Nat):Nat->List TypeId->Bool
 |_,[]=>true
 |ri,t::ts=>asV att ri 0 (Q8 P t) && abQ P att (ri+1) ts
def freeze:List Nat->Acc Unit
 |[]=>pure ()
 |r::rs=>do
  match<-rd r with
  |some (.arr _ fl ver s rows)=>wr r (.arr true fl ver s rows)
  |_=> .fail
  freeze rs
def ae3(X:Ctx)(K:mD)(fn dst f:Nat)(args:List V):Acc V:=do
 let g<-op' X.P.funcs[f]?
 ck (g.body.isSome && !(g.name == "runtime.NumGoroutine"))
 let imp:=U7 X.U6 f 0 [] args
 let args<-XL X.U6 f 0 args
 let cells<-ZW X.U6 imp imp
 let(args,Ud)<-XO X.U6 imp f 0 args
 ck (Ud.all λr=> !(mem? r imp))
 let out<-op' (K f args cells)
 ck (Nat.beq out.1.length g.resultTypes.size)
 let need:= !(Ud.isEmpty) &&(abQ X.P (X.U6.att fn dst) 0 g.resultTypes.toList && imp.isEmpty)
 ck (bif need then out.1.all fB else true)
 freeze (bif need then[] else Ud)
 ag9 X dst out.2 0 imp
 let vs<-ad5 X (X.U6.att fn dst) dst out.1 0 g.resultTypes.toList
 match vs with
 |[v]=>pure v
 |vs=>pure (.Zl vs)
def aJk(P:Program)(ts:List TypeId)(x:V):Bool:=match ts with
 |[t]=>(match x with
  | .d (.str _)=>(match P.underlying t with|some .string=>true|_=>false)
  |_=>(match P.underlying t with|some (.slice _)=>true|_=>false))
 |_=>false
def yM(P:Program)(tm:nH):List Operand->List TypeId->List V
 |[],_=>[]
 |x::xs,ts=>ev P tm (ts.headD 0) x::yM P tm xs ts.tail
def aph:List V->Acc (List V)
 |[]=>pure []
 |v::vs=>do
  let v<-(match v with
   | .ptr r off=>do
    match<-rd r with
    |some (.Dt _ x)=>do
     ck (Nat.beq off 0)
     pure (.Pv x)
    |_=>pure (.ptr r off)
   |v=>pure v:Acc V)
  let vs<-aph vs
  pure (v::vs)
def vop(X:Ctx)(K:mD)(fn:Nat)(tm:nH)(o:Oper):Acc V:=
 let P:=X.P
 let dst:=o.dst.getD 0
 match o.op with
 | .move x=>pure (ev P tm o.type x)
 | .assign x=>pure (ev P tm o.type x)
 | .pick c x y=>axL (ev P tm o.type c) (ev P tm o.type x) (ev P tm o.type y)
 | .alloc T=>do
  let z<-op' (SB P T)
  new dst (.box T z)
  pure (.ptr dst 0)
 | .box T x=>do
  let v:=ev P tm T x
  ck (Nat.beq v.cells.length (uh P T))
  ck (v.cells.all one)
  new dst (.box T v.cells)
  pure (.ptr dst 0)
 | .build T ps=>anG P T tm ps.toList
 | .buildSlice t n ps=>WC P dst t n tm ps.toList
 | .load t a=>axM P t (evG X tm 0 a)
 | .store t a x=>do asL P t (ev P tm 0 a) (ev P tm t x);pure .undef
 | .nilCheck x=>match evG X tm o.type x with
  | .ptr r off=>pure (.ptr r off)
  | .Fg row off=>pure (.Fg row off)
  | .Lp r ver i off=>pure (.Lp r ver i off)
  |_=> .fail
 | .binOp op t x y t'=>aFO P t op (ev P tm t x) (ev P tm t' y)
 | .unOp op t x=>un op (ev P tm t x)
 | .convert s d x=>aiY P s d (ev P tm s x)
 | .makeFunc (.func f) first caps=>do
  let cs<-aph (yM P tm caps.toList [])
  pure (.clo f (yM P tm first.toList []) cs)
 | .makeSlice t l c=>ad4 P dst t (ev P tm o.type l) (ev P tm o.type c)
 | .slice t x lo hi none=>match X.U6.trunc fn dst,lo,hi with
  |true,none,hi=>asP P t (ev P tm t x) (hi.map (ev P tm 3))
  |true,some lo,none=>aEq P t (ev P tm t x) (ev P tm 3 lo)
  |_,lo,hi=>anE P t (evG X tm t x) (lo.map (ev P tm 3)) (hi.map (ev P tm 3))
 | .fieldAddr T x f=>adZ P T (ev P tm 0 x) f
 | .field T x f=>asM P T (ev P tm T x) f
 | .indexAddr t x i=>ad2 P t (evG X tm t x) (ev P tm 3 i)
 | .index t x i=>asN P t (ev P tm t x) (ev P tm 3 i)
 | .extract x i=>match ev P tm 0 x with
  | .Zl vs=>op' vs[i]?
  |_=> .fail
 | .call {callee:=.value f,args,argTypes}=>match ev P tm 0 f with
  | .clo g first caps=>ae3 X K fn dst g (first++yM P tm args.toList argTypes.toList++caps)
  |_=> .fail
 | .call {callee:=.builtin .len,args,argTypes}=>match yM P tm args.toList argTypes.toList with
  |[x]=>do
   ck (aJk P argTypes.toList x)
   lenV x
  |_=> .fail
 | .call {callee:=.builtin .append,args,argTypes}=>match yM P tm args.toList argTypes.toList,argTypes.toList with
  |[x,y],[t,t']=>anD P dst t t' x y
  |_,_=> .fail
 | .call {callee:=.builtin .max,args,argTypes}=>match yM P tm args.toList argTypes.toList with
  |[.d (.int k x),.d (.int _ y)]=>pure (.d (.int k (bif decide (x<y) then y else x)))
  |_=> .fail
 | .call {callee:=.builtin .min,args,argTypes}=>match yM P tm args.toList argTypes.toList with
  |[.d (.int k x),.d (.int _ y)]=>pure (.d (.int k (bif decide (y<x) then y else x)))
  |_=> .fail
 |_=> .fail
mutual
def refs:V->List Nat
 | .own r _=>[r]
 | .ptr r _=>[r]
 | .Lp r _ _ _=>[r]
 | .clo _ a b=>SC a++SC b
 | .agg cs=>SC cs
 | .Zl vs=>SC vs
 | .Pv v=>refs v
 |_=>[]
def SC:List V->List Nat
 |[]=>[]
 |v::vs=>refs v++SC vs
end
def ai1(m:Mem)(r:Nat):List Nat:=match get r m with
 |some (.box _ cs)=>SC cs
 |some (.Dt _ v)=>refs v
 |_=>[]
def UE(k:Nat):Bool:=Nat.ble vP k && Nat.blt k (2 * vP)
def ae4:List Nat->List Nat->List Nat
 |acc,[]=>acc
 |acc,k::ks=>ae4 (bif mem? k acc then acc else acc++[k]) ks
def aBs(tm:nH)(m:Mem):List Nat:=
 let l0:=ae4 [] (tm.flatMap λx=>refs x.2)
 let l1:=ae4 l0 (l0.flatMap (ai1 m))
 let l2:=ae4 l1 (l1.flatMap (ai1 m))
 (ae4 l2 (m.map (·.1))).filter λk=> !(UE k)
def names:List Nat:=[nat_lit 300000,nat_lit 300001,nat_lit 300002,nat_lit 300003,nat_lit 300004,nat_lit 300005,nat_lit 300006,nat_lit 300007,nat_lit 300008,nat_lit 300009,nat_lit 300010,nat_lit 300011,nat_lit 300012,nat_lit 300013,nat_lit 300014,nat_lit 300015,nat_lit 300016,nat_lit 300017,nat_lit 300018,nat_lit 300019,nat_lit 300020,nat_lit 300021,nat_lit 300022,nat_lit 300023,nat_lit 300024,nat_lit 300025,nat_lit 300026,nat_lit 300027,nat_lit 300028,nat_lit 300029,nat_lit 300030,nat_lit 300031,nat_lit 300032,nat_lit 300033,nat_lit 300034,nat_lit 300035,nat_lit 300036,nat_lit 300037,nat_lit 300038,nat_lit 300039,nat_lit 300040,nat_lit 300041,nat_lit 300042,nat_lit 300043,nat_lit 300044,nat_lit 300045,nat_lit 300046,nat_lit 300047,nat_lit 300048,nat_lit 300049,nat_lit 300050,nat_lit 300051,nat_lit 300052,nat_lit 300053,nat_lit 300054,nat_lit 300055,nat_lit 300056,nat_lit 300057,nat_lit 300058,nat_lit 300059,nat_lit 300060,nat_lit 300061,nat_lit 300062,nat_lit 300063]
def aBt:List Nat->List Nat->List (Nat×Nat)
 |n::ns,k::l=>(k,n)::aBt ns l
 |_,_=>[]
def ren(L:List (Nat×Nat))(k:Nat):Nat:=match get k L with
 |some j=>j
 |none=>k
mutual
def UF(L:List (Nat×Nat)):V->V
 | .d x=> .d x
 | .nil s=> .nil s
 | .own r ver=> .own (ren L r) ver
 | .ptr r off=> .ptr (ren L r) off
 | .Lp r ver i off=> .Lp (ren L r) ver i off
 | .Fg row off=> .Fg row off
 | .Pv v=> .Pv (UF L v)
 | .clo f a b=> .clo f (ZX L a) (ZX L b)
 | .agg cs=> .agg (ZX L cs)
 | .Zl vs=> .Zl (ZX L vs)
 | .undef=> .undef
def ZX(L:List (Nat×Nat)):List V->List V
 |[]=>[]
 |v::vs=>UF L v::ZX L vs
end
def ai2(L:List (Nat×Nat)):Cell->Cell
 | .box t cs=> .box t (ZX L cs)
 | .arr fz fl ver s rows=> .arr fz fl ver s rows
 | .dead=> .dead
 | .Dt t v=> .Dt t (UF L v)
def Vz(L:List (Nat×Nat)):Mem->Mem
 |[]=>[]
 |(k,c)::m=>put (ren L k) (ai2 L c) (Vz L m)
def ai3(L:List (Nat×Nat)):nH->nH
 |[]=>[]
 |(t,v)::tm=>(t,UF L v)::ai3 L tm
def nodupB:List Nat->Bool
 |[]=>true
 |k::l=> !(mem? k l) && nodupB l
def ae5(L:List (Nat×Nat))(ks:List Nat):Bool:=nodupB (ks.map (ren L)) && ks.all λk=>bif UE k then Nat.beq (ren L k) k else true
def anH(L:List (Nat×Nat))(S:St):St:=match ae5 L (S.mem.map (·.1)) with
 |true=>⟨ai3 L S.tm,Vz L S.mem⟩
 |false=>S
def canon(S:St):St:=match aBs S.tm S.mem with
 |[]=>S
 |k::o=>anH (aBt names (k::o)) S
mutual
def YG(m:Mem):V->V
 | .d x=> .d x
 | .nil s=> .nil s
 | .own r ver=>match get r m with
  |some (.arr _ _ vH _ _)=>bif Nat.beq ver vH then .own r 0 else .undef
  |_=> .undef
 | .ptr r off=>match get r m with
  |some (.box _ _)=> .ptr r off
  |some (.Dt _ _)=> .ptr r off
  |_=> .undef
 | .Lp r ver i off=>match get r m with
  |some (.arr _ _ vH _ _)=>bif Nat.beq ver vH then .Lp r 0 i off else .undef
  |_=> .undef
 | .Fg row off=> .Fg row off
 | .Pv v=> .Pv (YG m v)
 | .clo f a b=> .clo f (acv m a) (acv m b)
 | .agg cs=> .agg (acv m cs)
 | .Zl vs=> .Zl (acv m vs)
 | .undef=> .undef
def acv(m:Mem):List V->List V
 |[]=>[]
 |v::vs=>YG m v::acv m vs
end
def Lr(m:Mem):Cell->Cell
 | .box t cs=> .box t (acv m cs)
 | .arr fz fl _ s rows=> .arr fz fl 0 s rows
 | .dead=> .dead
 | .Dt t v=> .Dt t (YG m v)
def ad6(m:Mem)(tm:nH):List Nat->nH
 |[]=>[]
 |t::ts=>match get t tm with
  |some v=>(t,YG m v)::ad6 m tm ts
  |none=>ad6 m tm ts
def ad7:List Nat->List Nat->List Nat
 |[],l=>l
 |a::as,l=>bif mem? a l then ad7 as l else ad7 as (a::l)
def reach(m:Mem):Nat->List Nat->List Nat
 |0,l=>l
 |n+1,l=>reach m n (ad7 (l.flatMap (ai1 m)) l)
def roots(tm:nH)(m:Mem):List Nat:=
 ad7 (tm.flatMap λx=>refs x.2) ((m.map (·.1)).filter UE)
def zu(all:Mem)(R:List Nat):Mem->Mem
 |[]=>[]
 |(k,c)::m=>match c with
  | .dead=>zu all R m
  |c=>bif mem? k R then(k,Lr all c)::zu all R m else zu all R m
def closed(R:List Nat)(m:Mem):Bool:=m.all λx=>match x.2 with
 | .box _ cs=>(SC cs).all λr=>mem? r R
 | .Dt _ v=>(refs v).all λr=>mem? r R
 |_=>true
def aJl(m:Mem):Bool:=m.all λx=>match x.2 with
 | .arr _ _ ver _ _=>bif UE x.1 then Nat.beq ver 0 else true
 | .dead=> !(UE x.1)
 |_=>true
def sortedK:Mem->Bool
 |[]=>true
 |(k,_)::m=>match m with
  |[]=>true
  |(j,_)::_=>Nat.blt k j && sortedK m
def ad8(ts:List Nat)(S:St):Option St:=
 let tm:=ad6 S.mem S.tm ts
 let R:=reach S.mem 3 (roots tm S.mem)
 let m:=zu S.mem R S.mem
 bif closed R m &&(aJl S.mem && sortedK S.mem) then some ⟨tm,m⟩ else none
def prune(ts:List Nat)(S:St):Option St:=match ad8 ts S with
 |some S'=>some (canon S')
 |none=>none
def Ih(ops:Array Oper)(tm:nH)(o:Oper):Option (Bool×nH):=
 match o.guard with
 |none=>some (true,tm)
 |some (j,want)=>match ops[j]? with
  |some oj=>match oj.dst with
   |some d=>match ab5 d tm with
    | .d (.bool b)=>match b with
     |true=>some (want,put d (.d (.bool true)) tm)
     |false=>some (!want,put d (.d (.bool false)) tm)
    | .Zl vs=>match vs with
     |[]=>some (false,put d (.Zl []) tm)
     |_::_=>none
    |_=>none
   |none=>none
  |none=>none
def ZY(nt:Nat):Option Nat->Bool
 |some d=>Nat.blt d nt
 |none=>true
def ZH(P:Program)(fn:Nat):Nat:=match P.funcs[fn]? with|some g=>g.ntmps|none=>0
def aha(nt:Nat)(dst:Option Nat)(tm:nH):nH:=bif ZY nt dst then ale dst (.Zl []) tm else aBq dst tm
def FY(X:Ctx)(K:mD)(fn:Nat)(ops:Array Oper)(i:Nat)(S:St):Option (St×Log):=
 match ops[i]? with
 |none=>none
 |some o=>match Ih ops S.tm o with
  |none=>none
  |some (false,tm)=>some (⟨aha (ZH X.P fn) o.dst tm,S.mem⟩,.none)
  |some (true,tm)=>match(vop X K fn tm o).run S.mem .none with
   |none=>none
   |some (v,m,l)=>bif ZY (ZH X.P fn) o.dst then some (⟨ale o.dst v tm,m⟩,l) else none
def OE(X:Ctx)(K:mD)(fn:Nat)(ops:Array Oper):List Nat->St->List (Nat×Log)->Option (St×List (Nat×Log))
 |[],S,L=>some (S,L)
 |i::is,S,L=>match FY X K fn ops i S with
  |none=>none
  |some (S',l)=>OE X K fn ops is S' ((i,l)::L)
def aBu(a b:List Nat):Bool:=a.all λk=> !(mem? k b)
def Log.apart(a b:Log):Bool:=aBu a.w b.r && aBu a.w b.w && aBu a.r b.w
def ordered(bef:Array Nat)(i j:Nat):Bool:=(bef.getD i 0).testBit j
def Z4(ops:Array Oper)(bef:Array Nat):List (Nat×Log)->Bool
 |[]=>true
 |(i,l)::L=>(L.all fun(j,l')=>ordered bef i j||(l.apart l' &&(match ops[i]?,ops[j]? with
   |some a,some b=>a.apart ops b
   |_,_=>false))) && Z4 ops bef L
def Z5:Nat->List Oper->Bool
 |_,[]=>true
 |i,o::l=>(o.after.toList.all λe=> !(Region.binds .any e)||Nat.blt e.on i) && Z5 (i+1) l
def backOk(ops:Array Oper):Bool:=Z5 0 ops.toList
def Ls(X:Ctx)(K:mD)(fn id:Nat)(ops:Array Oper)(draw:Bool)(S:St):Option (St×List (Nat×Log)):=OE X K fn ops (List.range ops.size) S []
def region(X:Ctx)(K:mD)(fn id:Nat)(ops:Array Oper)(draw:Bool)(S:St):Option St:=
 match Ls X K fn id ops draw S with
 |none=>none
 |some (S',L)=>bif(match draw with|false=>true|true=>X.P.follows .mixedOrders &&(backOk ops && Z4 ops (Region.before ops) L)) then prune (X.U6.keep fn id) S' else none
inductive Ex where
 |normal
 |exit (id:Nat)
 |ret
noncomputable def lim{α:Type}(f:Nat->Option α):Option α:=
 open Classical in if h:∃a n,f n=some a then some (Classical.choose h) else none
def iter(b:St->Option (Ex×St)):Nat->St->Option (Ex×St)
 |0,_=>none
 |n+1,S=>match b S with
  |some (.normal,S')=>iter b n S'
  |r=>r
noncomputable def WE(b:St->Option (Ex×St))(S:St):Option (Ex×St):=lim λn=>iter b n S
def acw(P:Program)(tm:nH)(c:Operand):Option Bool:=match ev P tm 0 c with
 | .d (.bool b)=>some b
 |_=>none
noncomputable def den(X:Ctx)(K:mD)(fn:Nat):Code->St->Option (Ex×St)
 | .skip,S=>some (.normal,S)
 | .region id ops draw,S=>match region X K fn id ops draw S with
  |some S'=>some (.normal,S')
  |none=>none
 | .seq a b,S=>match den X K fn a S with
  |some (.normal,S')=>den X K fn b S'
  |r=>r
 | .cond c a b,S=>match acw X.P S.tm c with
  |some true=>den X K fn a S
  |some false=>den X K fn b S
  |none=>none
 | .block id c,S=>match den X K fn c S with
  |some (.exit j,S')=>bif Nat.beq j id then some (.normal,S') else some (.exit j,S')
  |r=>r
 | .loop c,S=>WE (den X K fn c) S
 | .exit id,S=>some (.exit id,S)
 | .ret,S=>some (.ret,S)
 |_,_=>none
def asW(A:Adv)(f i:Nat)(fl:Bool)(v:V):Acc V:=
 match OD A f i with
 |1=>(match v with
  | .d (.sl true s rows)=>do
   new i (.arr false fl 0 s rows)
   pure (.own i 0)
  | .d x=>pure (.d (roD x))
  |_=> .fail)
 |_=>pure v
def ae6(X:Ctx)(f:Nat):Nat->List TypeId->List V->Acc nH
 |_,_,[]=>pure []
 |i,ts,v::vs=>do
  let v<-asW X.U6 f i ((fls X.P 8 (ts.headD 0)).headD false) v
  let r<-ae6 X f (i+1) ts.tail vs
  pure ((i,v)::r)
def xF:Nat->List Cell->Mem
 |_,[]=>[]
 |i,c::cs=>(vP+i,c)::xF (i+1) cs
def zx(n:Nat):List Nat:=(List.range n).map (vP+ ·)
def entry(X:Ctx)(f:Nat)(g:Func)(args:List V)(cells:List Cell):Acc nH:=do
 ag9 X 9999 cells 0 (zx cells.length)
 ae6 X f 0 g.params.toList args
def ai4(T:TypeId)(v:V):Acc Row:=match v with
 | .ptr r off=>do
  match<-rd r with
  |some (.box T' cs)=>do
   ck (Nat.beq T T' && Nat.beq off 0)
   wr r .dead
   Py cs
  |_=> .fail
 |_=> .fail
def anI(P:Program)(tm:nH)(r:ResultVar)(t:TypeId):Acc Row:=
 match r with
 | .tmp x=>match anC P t with
  |some T=>ai4 T (ab5 x tm)
  |none=>match QX P t,ab5 x tm with
   |true,.agg cs=>Py cs
   |false,.agg _=> .fail
   |false,v=>Py [v]
   |true,_=> .fail
 | .cell a T=>match ab5 a tm with
  | .ptr r 0=>do
   match<-rd r with
   |some (.box _ cs)=>do
    ck (Nat.beq T t && Nat.beq cs.length (uh P T) &&(UD P T &&(QX P T||Nat.beq cs.length 1)) &&(anC P t).isNone)
    Py cs
   |_=> .fail
  |_=> .fail
def abR(P:Program)(tm:nH):List ResultVar->List TypeId->Acc (List Row)
 |[],[]=>pure []
 |r::rs,t::ts=>do
  let row<-anI P tm r t
  let rows<-abR P tm rs ts
  pure (row::rows)
 |_,_=> .fail
def leave(X:Ctx)(g:Func)(n:Nat)(S:St):Option (List Row×List Cell):=
 match(do
  let rows<-abR X.P S.tm g.results.toList g.resultTypes.toList
  let cells<-ZW X.U6 (zx n) (zx n)
  pure (rows,cells):Acc (List Row×List Cell)).run S.mem .none with
 |some (r,_,_)=>some r
 |none=>none
noncomputable def body(X:Ctx)(K:mD)(f:Nat)(args:List V)(cells:List Cell):Option (List Row×List Cell):=
 match X.P.funcs[f]? with
 |some g=>match g.body with
  |some c=>bif !(Nat.ble cells.length vP && Nat.ble args.length g.ntmps) then none else match(entry X f g args cells).run (xF 0 cells) .none with
   |some (tm,m,_)=>(match den X K f c ⟨tm,m⟩ with
    |some (.normal,S)=>leave X g cells.length S
    |some (.ret,S)=>leave X g cells.length S
    |_=>none)
   |none=>none
  |none=>none
 |none=>none
noncomputable def Z7(X:Ctx):Nat->mD
 |0,_,_,_=>none
 |n+1,f,args,cells=>match X.adY f with
  |some p=>p args cells
  |none=>body X (Z7 X n) f args cells
noncomputable def call(X:Ctx):mD:=λf args cells=>lim λn=>Z7 X n f args cells
abbrev View:=Nat->Nat->Option Value
abbrev Heap:=Nat->Option Obj
def eU(w:World):Heap:=λb=>w.heap[b]?
mutual
def ro(h:View):D->Value->Prop
 | .int k n,v=>v=.int k n
 | .bool b,v=>v=.bool b
 | .str s,v=>v=.string ⟨⟨s⟩⟩
 | .ZG,v=>v=.nilFunc
 | .sl _ s rows,v=>∃a cap,v=.slice a rows.length cap/\rows.length<=cap/\(rows≠[]->∃b o,a=some ⟨b,o,none⟩/\sN h s rows b o)
def sN(h:View)(s:Nat):List Row->Nat->Nat->Prop
 |[],_,_=>True
 |r::rs,b,o=>r.length=s/\BO h r b o/\sN h s rs b (o+s)
def BO(h:View):Row->Nat->Nat->Prop
 |[],_,_=>True
 |x::r,b,o=>(∃v,h b o=some v/\ro h x v)/\BO h r b (o+1)
end
mutual
def ow(H:Heap)(h:View):D->Value->List Nat->Prop
 | .int k n,v,N=>v=.int k n/\N=[]
 | .bool b,v,N=>v=.bool b/\N=[]
 | .str s,v,N=>v=.string ⟨⟨s⟩⟩/\N=[]
 | .ZG,v,N=>v=.nilFunc/\N=[]
 | .sl own s rows,v,N=>match own with
  |false=>N=[]/\ro h (.sl false s rows) v
  |true=>(rows=[]/\v=.slice none 0 0/\N=[])\/
   ∃b cap cs t N',v=.slice (some ⟨b,0,none⟩) rows.length cap/\rows.length<=cap/\H b=some (.cells cs t (0,0))/\cs.size=cap * s/\
    iU H h s rows cs.toList N'/\N=b::N'
def iU(H:Heap)(h:View)(s:Nat):List Row->List Value->List Nat->Prop
 |[],_,N=>N=[]
 |r::rs,cs,N=>r.length=s/\∃N1 N2,N=N1++N2/\jU H h r cs N1/\iU H h s rs (cs.drop s) N2
def jU(H:Heap)(h:View):Row->List Value->List Nat->Prop
 |[],_,N=>N=[]
 |x::r,cs,N=>∃v cs' N1 N2,cs=v::cs'/\N=N1++N2/\ow H h x v N1/\jU H h r cs' N2
end
def jH(h:View):Row->List Value->Prop
 |[],_=>True
 |x::r,cs=>∃v cs',cs=v::cs'/\ro h x v/\jH h r cs'
def jF(h:View)(s:Nat):List Row->List Value->Prop
 |[],_=>True
 |r::rs,cs=>r.length=s/\jH h r cs/\jF h s rs (cs.drop s)
def ad9(H:Heap)(h:View)(fl:Bool)(s:Nat)(rows:List Row)(v:Value)(N:List Nat):Prop:=
 (rows=[]/\v=.slice none 0 0/\N=[])\/
 ∃b cap cs t N',v=.slice (some ⟨b,0,none⟩) rows.length cap/\rows.length<=cap/\H b=some (.cells cs t (0,0))/\cs.size=cap * s/\
  (match fl with
   |true=>jF h s rows cs.toList/\N'=[]
   |false=>iU H h s rows cs.toList N')/\N=b::N'
def aea(g:Value):Prop:=∃a n c,g=.slice a n c
def axR(g:Value):Prop:=∃b o,g=.pointer (some ⟨b,o,none⟩)
mutual
def bn(μ:Nat->Value)(m:Mem)(h:View):V->Value->Prop
 | .d x,g=>ro h x g
 | .nil _,g=>g=.slice none 0 0
 | .own r v0,g=>aea g/\match get r m with
  |some (.arr _ _ ver _ _)=>v0<=ver/\(v0=ver->g=μ r)
  |some .dead=>True
  |_=>False
 | .ptr r off,g=>axR g/\match get r m with
  |some (.box _ _)=>∃b,μ r=.pointer (some ⟨b,0,none⟩)/\g=.pointer (some ⟨b,off,none⟩)
  |some (.Dt _ _)=>∃b,μ r=.pointer (some ⟨b,0,none⟩)/\g=.pointer (some ⟨b,off,none⟩)
  |some .dead=>True
  |_=>False
 | .Lp r v0 i off,g=>axR g/\match get r m with
  |some (.arr _ _ ver s _)=>v0<=ver/\(v0=ver->∃b n cap,μ r=.slice (some ⟨b,0,none⟩) n cap/\g=.pointer (some ⟨b,i * s+off,none⟩))
  |some .dead=>True
  |_=>False
 | .Fg row off,g=>∃b o,g=.pointer (some ⟨b,o+off,none⟩)/\BO h row b o
 | .Pv v,g=>∃b x,g=.pointer (some ⟨b,0,none⟩)/\h b 0=some x/\bn μ m h v x
 | .clo f first caps,g=>∃a c,g=.func (.func f) a c/\dI μ m h first a.toList/\dI μ m h caps c.toList
 | .agg cs,g=>∃a,g=.agg a/\dI μ m h cs a.toList
 | .Zl vs,g=>∃a,g=.tuple a/\dI μ m h vs a.toList
 | .undef,_=>True
def dI(μ:Nat->Value)(m:Mem)(h:View):List V->List Value->Prop
 |[],gs=>gs=[]
 |v::vs,gs=>∃g gs',gs=g::gs'/\bn μ m h v g/\dI μ m h vs gs'
end
def vS(μ:Nat->Value)(m:Mem)(H:Heap)(h:View)(r:Nat):Cell->List Nat->Prop
 | .box t cs,N=>∃b a,μ r=.pointer (some ⟨b,0,none⟩)/\H b=some (.cells a t (0,0))/\dI μ m h cs a.toList/\N=[b]
 | .arr fz fl _ s rows,N=>match fz with
  |true=>ro h (.sl true s rows) (μ r)/\N=[]
  |false=>ad9 H h fl s rows (μ r) N
 | .dead,N=>N=[]
 | .Dt _ v,N=>N=[]/\∃b x,μ r=.pointer (some ⟨b,0,none⟩)/\h b 0=some x/\bn μ m h v x
open Classical in
noncomputable def view(w:World)(U X:Nat->Prop):View:=λb o=>if U b/\¬X b then w.cell? ⟨b,o,none⟩ else none
def excl(F:Nat->List Nat)(E:List Nat):Nat->Prop:=λb=>b∈E\/∃r,b∈F r
structure Keep(M:List Nat)(w w':World):Prop where
 os:w'.os=w.os
 tape:w'.tape=w.tape
 output:w'.output=w.output
 size:w.heap.size<=w'.heap.size
 block:∀b,b<w.heap.size->b ∉ M->w'.heap[b]? =w.heap[b]?
def Keep.refl(M:List Nat)(w:World):Keep M w w:=⟨rfl,rfl,rfl,Nat.le_refl _,λ_ _ _=>rfl⟩
def Keep.trans{M M':List Nat}{a b c:World}(h:Keep M a b)(k:Keep M' b c)(hM:∀x,x∈M'->x∈M\/a.heap.size<=x):Keep M a c:=
 ⟨k.os.trans h.os,k.tape.trans h.tape,k.output.trans h.output,Nat.le_trans h.size k.size,λi hi hm=>(k.block i (Nat.lt_of_lt_of_le hi h.size) (λhx=>(hM i hx).elim hm (λhl=>absurd hi (Nat.not_lt.2 hl)))).trans (h.block i hi hm)⟩
structure MInv(base:Nat)(U:Nat->Prop)(m:Mem)(w:World)(μ:Nat->Value)(F:Nat->List Nat)(E:List Nat)(out:List Nat):Prop where
 cell:∀r c,get r m=some c->r ∉ out->vS μ m (eU w) (view w U (excl F E)) r c (F r)
 dj:∀r r',r≠r'->∀b,b∈F r->b ∉ F r'
 djE:∀r b,b∈F r->b ∉ E
 nd:∀r,(F r).Nodup
 ndE:E.Nodup
 lt:∀b,excl F E b->b<w.heap.size/\base<=b/\U b
 up:∀b,w.heap.size<=b->U b
 bs:base<=w.heap.size
 none_:∀r,get r m=none->F r=[]
 out_:∀r,r∈out->F r=[]
def View.le(h h':View):Prop:=∀b o v,h b o=some v->h' b o=some v
def View.le_refl(h:View):h.le h:=λ_ _ _ x=>x
def View.le.trans'{a b c:View}(h:a.le b)(k:b.le c):a.le c:=λx y v q=>k x y v (h x y v q)
mutual
def Lu{h h':View}(hl:h.le h'):∀(x:D) (v:Value),ro h x v->ro h' x v
 | .int _ _,_,q=>by simpa[ro] using q
 | .bool _,_,q=>by simpa[ro] using q
 | .str _,_,q=>by simpa[ro] using q
 | .ZG,_,q=>by simpa[ro] using q
 | .sl _ s rows,v,q=>by simp only[ro] at q|-;obtain⟨a,cap,h1,h2,h3⟩:=q;refine⟨a,cap,h1,h2,λhn=> ?_⟩;obtain⟨b,o,h4,h5⟩:=h3 hn;exact⟨b,o,h4,ahb hl s rows b o h5⟩
def ahb{h h':View}(hl:h.le h')(s:Nat):∀(rows:List Row) (b o:Nat),sN h s rows b o->sN h' s rows b o
 |[],_,_,_=>by simp[sN]
 |r::rs,b,o,q=>by simp only[sN] at q|-;exact⟨q.1,Rt hl r b o q.2.1,ahb hl s rs b (o+s) q.2.2⟩
def Rt{h h':View}(hl:h.le h'):∀(r:Row) (b o:Nat),BO h r b o->BO h' r b o
 |[],_,_,_=>by simp[BO]
 |x::r,b,o,q=>by simp only[BO] at q|-;obtain⟨⟨v,h1,h2⟩,h3⟩:=q;exact⟨⟨v,hl _ _ _ h1,Lu hl x v h2⟩,Rt hl r b (o+1) h3⟩
end
mutual
def anJ{H H':Heap}{h h':View}(hl:h.le h'):∀(x:D) (v:Value) (N:List Nat),(∀b,b∈N->H' b=H b)->ow H h x v N->ow H' h' x v N
 | .int _ _,_,_,_,q=>by simpa[ow] using q
 | .bool _,_,_,_,q=>by simpa[ow] using q
 | .str _,_,_,_,q=>by simpa[ow] using q
 | .ZG,_,_,_,q=>by simpa[ow] using q
 | .sl false s rows,v,N,_,q=>by simp only[ow] at q|-;exact⟨q.1,Lu hl _ _ q.2⟩
 | .sl true s rows,v,N,hb,q=>by
  simp only[ow] at q|-;rcases q with q|⟨b,cap,cs,t,N',h1,h2,h3,h4,h5,rfl⟩
  ·exact .inl q
  ·exact .inr ⟨b,cap,cs,t,N',h1,h2,by rw[hb b (by simp)];exact h3,h4,Kt hl s rows cs.toList N' (λb' hb'=>hb b' (by simp[hb'])) h5,rfl⟩
def Kt{H H':Heap}{h h':View}(hl:h.le h')(s:Nat):∀(rows:List Row) (cs:List Value) (N:List Nat),(∀b,b∈N->H' b=H b)->iU H h s rows cs N->iU H' h' s rows cs N
 |[],_,_,_,q=>by simpa[iU] using q
 |r::rs,cs,N,hb,q=>by simp only[iU] at q|-;obtain⟨h1,N1,N2,rfl,h2,h3⟩:=q;exact⟨h1,N1,N2,rfl,Ru hl r cs N1 (λb hx=>hb b (by simp[hx])) h2,Kt hl s rs _ N2 (λb hx=>hb b (by simp[hx])) h3⟩
def Ru{H H':Heap}{h h':View}(hl:h.le h'):∀(r:Row) (cs:List Value) (N:List Nat),(∀b,b∈N->H' b=H b)->jU H h r cs N->jU H' h' r cs N
 |[],_,_,_,q=>by simpa[jU] using q
 |x::r,cs,N,hb,q=>by simp only[jU] at q|-;obtain⟨v,cs',N1,N2,rfl,rfl,h2,h3⟩:=q;exact⟨v,cs',N1,N2,rfl,rfl,anJ hl x v N1 (λb hx=>hb b (by simp[hx])) h2,Ru hl r cs' N2 (λb hx=>hb b (by simp[hx])) h3⟩
end
def ae7{h h':View}(hl:h.le h'):∀(r:Row) (cs:List Value),jH h r cs->jH h' r cs
 |[],_,_=>trivial
 |x::r,cs,⟨v,cs',h1,h2,h3⟩=>⟨v,cs',h1,Lu hl x v h2,ae7 hl r cs' h3⟩
def Nu{h h':View}(hl:h.le h')(s:Nat):∀(rows:List Row) (cs:List Value),jF h s rows cs->jF h' s rows cs
 |[],_,_=>trivial
 |r::rs,cs,⟨h1,h2,h3⟩=>⟨h1,ae7 hl r cs h2,Nu hl s rs _ h3⟩
def XQ{H H':Heap}{h h':View}(hl:h.le h'){fl:Bool}{s:Nat}{rows:List Row}{v:Value}{N:List Nat}(hb:∀b,b∈N->H' b=H b)(q:ad9 H h fl s rows v N):ad9 H' h' fl s rows v N:=by
 rcases q with q|⟨b,cap,cs,t,N',h1,h2,h3,h4,h5,rfl⟩
 ·exact .inl q
 ·refine .inr ⟨b,cap,cs,t,N',h1,h2,by rw[hb b (by simp)];exact h3,h4, ?_,rfl⟩;cases fl with
  |true=>exact⟨Nu hl s rows _ h5.1,h5.2⟩
  |false=>exact Kt hl s rows _ N' (λb' hb'=>hb b' (by simp[hb'])) h5
def MV(μ μ':Nat->Value)(r:Nat):Cell->Cell->Prop
 | .box t _,.box t' _=>t'=t/\μ' r=μ r
 | .arr _ fl ver s _,.arr _ fl' vH s' _=>ver<=vH/\fl'=fl/\(ver=vH->μ' r=μ r/\s'=s)
 |_,.dead=>True
 | .box _ _,.Dt _ _=>μ' r=μ r
 | .Dt _ _,.Dt _ _=>μ' r=μ r
 |_,_=>False
def JE(μ:Nat->Value)(m:Mem)(μ':Nat->Value)(m':Mem):Prop:=∀r c,get r m=some c->∃c',get r m'=some c'/\MV μ μ' r c c'
def ahc(μ:Nat->Value)(r:Nat)(c:Cell):MV μ μ r c c:=by cases c<;>simp[MV]
def vT(μ:Nat->Value)(m:Mem):JE μ m μ m:=λr c h=>⟨c,h,ahc μ r c⟩
def yN{μ1 μ2 μ3:Nat->Value}{m1 m2 m3:Mem}(h:JE μ1 m1 μ2 m2)(k:JE μ2 m2 μ3 m3):JE μ1 m1 μ3 m3:=by
 intro r c hc;obtain⟨c',h1,h2⟩:=h r c hc;obtain⟨c'',k1,k2⟩:=k r c' h1;refine⟨c'',k1, ?_⟩;cases c<;>cases c'<;>cases c''<;>simp_all [MV]
 ·rename_i ver s _ _ _ vH s' _ _ _ aJm s'' _;refine⟨au,λe=> ?_⟩;have e1:ver=vH:=au;have e2:vH=aJm:=au;exact⟨(k2.2.2 e2).1.trans (h2.2.2 e1).1,(k2.2.2 e2).2.trans (h2.2.2 e1).2⟩
mutual
def Dz{μ μ':Nat->Value}{m m':Mem}{h h':View}(hm:JE μ m μ' m')(hl:h.le h'):∀(v:V) (g:Value),bn μ m h v g->bn μ' m' h' v g
 | .d x,g,q=>by simp only[bn] at q|-;exact Lu hl x g q
 | .nil _,_,q=>by simpa[bn] using q
 | .own r v0,g,q=>by
  simp only[bn] at q|-;refine⟨q.1, ?_⟩;replace q:=q.2;cases hc:get r m with
  |none=>simp[hc] at q
  |some c=>
   obtain⟨c',h1,h2⟩:=hm r c hc;rw[h1];cases c<;>cases c'<;>simp_all [MV]
   ·rename_i ver s _ _ _ vH s' _;refine⟨au,λe=> ?_⟩;have e1:ver=vH:=au;rw[(h2.2.2 e1).1];exact q.2 au
 | .ptr r off,g,q=>by
  simp only[bn] at q|-;refine⟨q.1, ?_⟩;replace q:=q.2;cases hc:get r m with
  |none=>simp[hc] at q
  |some c=>obtain⟨c',h1,h2⟩:=hm r c hc;rw[h1];cases c<;>cases c'<;>simp_all [MV]
 | .Lp r v0 i off,g,q=>by
  simp only[bn] at q|-;refine⟨q.1, ?_⟩;replace q:=q.2;cases hc:get r m with
  |none=>simp[hc] at q
  |some c=>
   obtain⟨c',h1,h2⟩:=hm r c hc;rw[h1];cases c<;>cases c'<;>simp_all [MV]
   ·rename_i ver s _ _ _ vH s' _;refine⟨au,λe=> ?_⟩;have e1:ver=vH:=au;rw[(h2.2.2 e1).1,(h2.2.2 e1).2];exact q.2 au
 | .Fg row off,g,q=>by simp only[bn] at q|-;obtain⟨b,o,h1,h2⟩:=q;exact⟨b,o,h1,Rt hl row b o h2⟩
 | .Pv v,g,q=>by simp only[bn] at q|-;obtain⟨b,x,h1,h2,h3⟩:=q;exact⟨b,x,h1,hl _ _ _ h2,Dz hm hl v x h3⟩
 | .clo f first caps,g,q=>by simp only[bn] at q|-;obtain⟨a,c,h1,h2,h3⟩:=q;exact⟨a,c,h1,vU hm hl first _ h2,vU hm hl caps _ h3⟩
 | .agg cs,g,q=>by simp only[bn] at q|-;obtain⟨a,h1,h2⟩:=q;exact⟨a,h1,vU hm hl cs _ h2⟩
 | .Zl vs,g,q=>by simp only[bn] at q|-;obtain⟨a,h1,h2⟩:=q;exact⟨a,h1,vU hm hl vs _ h2⟩
 | .undef,_,_=>by simp[bn]
def vU{μ μ':Nat->Value}{m m':Mem}{h h':View}(hm:JE μ m μ' m')(hl:h.le h'):∀(vs:List V) (gs:List Value),dI μ m h vs gs->dI μ' m' h' vs gs
 |[],_,q=>by simpa[dI] using q
 |v::vs,gs,q=>by simp only[dI] at q|-;obtain⟨g,gs',h1,h2,h3⟩:=q;exact⟨g,gs',h1,Dz hm hl v g h2,vU hm hl vs gs' h3⟩
end
def Pz{μ μ':Nat->Value}{m m':Mem}{H H':Heap}{h h':View}(hm:JE μ m μ' m')(hl:h.le h'){r:Nat}(hr:μ' r=μ r){c:Cell}{N:List Nat}(hb:∀b,b∈N->H' b=H b)
  (q:vS μ m H h r c N):vS μ' m' H' h' r c N:=by
 cases c with
 |box t cs=>obtain⟨b,a,h1,h2,h3,rfl⟩:=q;exact⟨b,a,by rw[hr];exact h1,by rw[hb b (by simp)];exact h2,vU hm hl cs _ h3,rfl⟩
 |arr fz fl ver s rows=>
  cases fz with
  |true=>exact⟨by rw[hr];exact Lu hl _ _ q.1,q.2⟩
  |false=>simp only[vS] at q|-;rw[hr];exact XQ hl hb q
 |dead=>exact q
 |Dt t v=>obtain⟨h1,b,x,h2,h3,h4⟩:=q;exact⟨h1,b,x,by rw[hr];exact h2,hl _ _ _ h3,Dz hm hl v x h4⟩
def zM{k j:Nat}(h:k≠j):Nat.beq k j=false:=by
 cases hb:Nat.beq k j with
 |false=>rfl
 |true=>exact absurd (Kr hb) h
def kD{α:Type}(k:Nat)(x:α):∀l:List (Nat×α),get k (put k x l)=some x
 |[]=>by simp[put,get]
 |(j,y)::l=>by
  simp only[put]
  by_cases h:k=j
  ·subst h;simp[get]
  ·have hb:Nat.beq k j=false:=zM h;rw[hb];cases hl:Nat.blt k j with
   |true=>simp[get]
   |false=>simp[get,hb,kD k x l]
def ou{α:Type}{k k':Nat}(hk:k≠k')(x:α):∀l:List (Nat×α),get k (put k' x l)=get k l
 |[]=>by have hb:Nat.beq k k'=false:=zM hk;simp[put,get,hb]
 |(j,y)::l=>by
  have hb:Nat.beq k k'=false:=zM hk;simp only[put]
  by_cases h:k'=j
  ·subst h;simp[get,hb]
  ·have hb':Nat.beq k' j=false:=zM h;rw[hb'];cases hl:Nat.blt k' j with
   |true=>simp[get,hb]
   |false=>simp[get,ou hk x l]
def PD{α:Type}(k:Nat):∀l:List (Nat×α),get k (del k l)=none
 |[]=>rfl
 |(j,y)::l=>by
  simp only[del];cases hb:Nat.beq k j with
  |true=>simpa using PD k l
  |false=>simp[get,hb,PD k l]
def SE{α:Type}{k k':Nat}(hk:k≠k'):∀l:List (Nat×α),get k (del k' l)=get k l
 |[]=>rfl
 |(j,y)::l=>by
  simp only[del];cases hb:Nat.beq k' j with
  |true=>have:k'=j:=Kr hb;subst this;have hb:Nat.beq k k'=false:=zM hk;simp[get,hb,SE hk l]
  |false=>simp[get,SE hk l]
def get_put{α:Type}(k k':Nat)(x:α)(l:List (Nat×α)):get k (put k' x l)=if k=k' then some x else get k l:=by
 by_cases h:k=k'
 ·subst h;rw[kD,if_pos rfl]
 ·rw[ou h,if_neg h]
def aBv{α:Type}(k k':Nat)(l:List (Nat×α)):get k (del k' l)=if k=k' then none else get k l:=by
 by_cases h:k=k'
 ·subst h;rw[PD,if_pos rfl]
 ·rw[SE h,if_neg h]
def Acc.run_bind{α β:Type}(a:Acc α)(f:α->Acc β):∀(m:Mem) (l:Log),(a.bind f).run m l=match a.run m l with|some (x,m',l')=>(f x).run m' l'|none=>none:=by
 induction a with
 |ret a=>intro m l;rfl
 |fail=>intro m l;rfl
 |get k c ih=>intro m l;simp only[Acc.bind,Acc.run];exact ih _ _ _
 |set k x c ih=>intro m l;simp only[Acc.bind,Acc.run];exact ih _ _
 |opt o c ih=>intro m l;simp only[Acc.bind,Acc.run];cases o with|none=>rfl|some b=>exact ih b _ _
 |guard b c ih=>intro m l;simp only[Acc.bind,Acc.run];cases b with|true=>exact ih _ _|false=>rfl
def run_bind{α β:Type}(a:Acc α)(f:α->Acc β)(m:Mem)(l:Log):(a>>=f).run m l=match a.run m l with|some (x,m',l')=>(f x).run m' l'|none=>none:=Acc.run_bind a f m l
def ay{α β:Type}{a:Acc α}{f:α->Acc β}{m:Mem}{l:Log}{y:β}{m':Mem}{l':Log}(h:(a>>=f).run m l=some (y,m',l')):
  ∃x m1 l1,a.run m l=some (x,m1,l1)/\(f x).run m1 l1=some (y,m',l'):=by
 rw[run_bind] at h;cases ha:a.run m l with
 |none=>simp[ha] at h
 |some x=>obtain⟨x,m1,l1⟩:=x;rw[ha] at h;exact⟨x,m1,l1,rfl,h⟩
def run_pure{α:Type}(a:α)(m:Mem)(l:Log):(Pure.pure a:Acc α).run m l=some (a,m,l):=rfl
def Ar(k:Nat)(m:Mem)(l:Log):(rd k).run m l=some (get k m,m,l.rd k):=rfl
def PE(k:Nat)(c:Cell)(m:Mem)(l:Log):(wr k c).run m l=some ((),put k c m,l.wr k):=rfl
def iC{b:Bool}{m:Mem}{l:Log}{x:Unit}{m':Mem}{l':Log}(h:(ck b).run m l=some (x,m',l')):b=true/\m'=m/\l'=l:=by cases b<;>simp[ck,Acc.run] at h;exact⟨rfl,h.1.symm,h.2.symm⟩
def lS{β:Type}{o:Option β}{m:Mem}{l:Log}{x:β}{m':Mem}{l':Log}(h:(op' o).run m l=some (x,m',l')):o=some x/\m'=m/\l'=l:=by cases o<;>simp[op',Acc.run] at h;obtain⟨rfl,rfl,rfl⟩:=h;exact⟨rfl,rfl,rfl⟩
def ai5{α:Type}{m:Mem}{l:Log}{r:α×Mem×Log}(h:(Acc.fail:Acc α).run m l=some r):False:=by simp[Acc.run] at h
def aI{α:Type}{m:Mem}{l:Log}{r:α×Mem×Log}{C:Prop}(h:(Acc.fail:Acc α).run m l=some r):C:=(ai5 h).elim
def bck{β:Type}{b:Bool}{f:Unit->Acc β}{m:Mem}{l:Log}{r:β×Mem×Log}(h:(ck b>>=f).run m l=some r):b=true/\(f ()).run m l=some r:=by obtain⟨_,_,_,h1,h2⟩:=ay h;obtain⟨h0,rfl,rfl⟩:=iC h1;exact⟨h0,h2⟩
def bop{α β:Type}{o:Option α}{f:α->Acc β}{m:Mem}{l:Log}{r:β×Mem×Log}(h:(op' o>>=f).run m l=some r):∃x,o=some x/\(f x).run m l=some r:=by obtain⟨x,_,_,h1,h2⟩:=ay h;obtain⟨h0,rfl,rfl⟩:=lS h1;exact⟨x,h0,h2⟩
def ZI{α:Type}{a b:α}{m m':Mem}{l l':Log}(h:(Pure.pure a:Acc α).run m l=some (b,m',l')):a=b/\m=m'/\l=l':=by rw[run_pure] at h;cases h;exact⟨rfl,rfl,rfl⟩
structure ai6(X:Ctx)(h:View):Prop where
 row:∀g row,X.glob g=some row->BO h row g 0
 int:∀g,X.aTq g=true->∃n,h g 0=some (.int .i64 n)
def Rw{X:Ctx}{h h':View}(hl:h.le h')(q:ai6 X h):ai6 X h':=⟨λg row hg=>Rt hl row g 0 (q.row g row hg),λg hg=>by obtain⟨n,hn⟩:=q.int g hg;exact⟨n,hl _ _ _ hn⟩⟩
def ai7{h:View}:∀(row:Row) (b o:Nat),BO h row b o->sN h 1 (row.map λx=>[x]) b o
 |[],_,_,_=>trivial
 |x::r,b,o,⟨h1,h2⟩=>⟨rfl,⟨h1,trivial⟩,ai7 r b (o+1) h2⟩
def upF(F:Nat->List Nat)(r:Nat)(N:List Nat):Nat->List Nat:=λk=>if k=r then N else F k
def upM(μ:Nat->Value)(r:Nat)(g:Value):Nat->Value:=λk=>if k=r then g else μ k
@[simp] theorem I8(F:Nat->List Nat)(r:Nat)(N:List Nat):upF F r N r=N:=by simp[upF]
def lu{F:Nat->List Nat}{r k:Nat}(N:List Nat)(h:k≠r):upF F r N k=F k:=by simp[upF,h]
@[simp] theorem Ue(μ:Nat->Value)(r:Nat)(g:Value):upM μ r g r=g:=by simp[upM]
def Rx{μ:Nat->Value}{r k:Nat}(g:Value)(h:k≠r):upM μ r g k=μ k:=by simp[upM,h]
def full(w:World):View:=λb o=>w.cell? ⟨b,o,none⟩
def yE(w:World)(U X:Nat->Prop):(view w U X).le (full w):=by
 intro b o v h;unfold view at h;split at h
 ·exact h
 ·cases h
def WG{w:World}{U U' X X':Nat->Prop}(hU:∀b,U b->U' b)(h:∀b,X' b->X b):(view w U X).le (view w U' X'):=by
 intro b o v hv;unfold view at hv|-;split at hv
 ·rename_i hc;rw[if_pos ⟨hU b hc.1,λhx=>hc.2 (h b hx)⟩];exact hv
 ·cases hv
structure GS where
 μ:Nat->Value
 F:Nat->List Nat
 E:List Nat
 out:List Nat
section
variable (base:Nat) (U:Nat->Prop) (w:World)
def Jo(m:Mem)(G:GS):Prop:=MInv base U m w G.μ G.F G.E G.out
noncomputable def Gh(G:GS):View:=view w U (excl G.F G.E)
end
structure GLe(m:Mem)(G:GS)(m':Mem)(G':GS):Prop where
 mem:JE G.μ m G'.μ m'
 ex:∀b,excl G'.F G'.E b->excl G.F G.E b
def GLe.refl(m:Mem)(G:GS):GLe m G m G:=⟨vT _ _,λ_ h=>h⟩
def GLe.trans{m1 m2 m3:Mem}{G1 G2 G3:GS}(h:GLe m1 G1 m2 G2)(k:GLe m2 G2 m3 G3):GLe m1 G1 m3 G3:=
 ⟨yN h.mem k.mem,λb hb=>h.ex b (k.ex b hb)⟩
def GLe.view{U:Nat->Prop}{w:World}{m m':Mem}{G G':GS}(h:GLe m G m' G'):(Gh U w G).le (Gh U w G'):=WG (λ_ x=>x) h.ex
def GLe.bn{U:Nat->Prop}{w:World}{m m':Mem}{G G':GS}(h:GLe m G m' G'){v:V}{g:Value}(q:bn G.μ m (Gh U w G) v g):bn G'.μ m' (Gh U w G') v g:=
 Dz h.mem h.view v g q
def GLe.dI{U:Nat->Prop}{w:World}{m m':Mem}{G G':GS}(h:GLe m G m' G'){v:List V}{g:List Value}(q:dI G.μ m (Gh U w G) v g):dI G'.μ m' (Gh U w G') v g:=
 vU h.mem h.view v g q
section
variable {base:Nat} {U:Nat->Prop} {w:World} {m:Mem} {G:GS}
def Jo.set(hg:Jo base U w m G)(r:Nat)(c':Cell)(μ':Nat->Value)(N E' out':List Nat)
  (hs:(N++E').Nodup) (hsub:∀b,b∈N++E'->b∈G.F r\/b∈G.E) (hle:JE G.μ m μ' (put r c' m)) (hμ:∀k,k≠r->μ' k=G.μ k)
  (ho:∀k,k≠r->(k∈out'↔k∈G.out)) (hr:r∈out'->N=[])
  (hc:(view w U (excl G.F G.E)).le (view w U (excl (upF G.F r N) E'))->r ∉ out'->vS μ' (put r c' m) (eU w) (view w U (excl (upF G.F r N) E')) r c' N):
  Jo base U w (put r c' m) ⟨μ',upF G.F r N,E',out'⟩/\GLe m G (put r c' m) ⟨μ',upF G.F r N,E',out'⟩:=by
 have hex:∀b,excl (upF G.F r N) E' b->excl G.F G.E b:=by
  rintro b (hb|⟨k,hb⟩)
  ·rcases hsub b (by simp[hb]) with h|h
   ·exact .inr ⟨r,h⟩
   ·exact .inl h
  ·by_cases hk:k=r
   ·subst hk;rw[I8] at hb;rcases hsub b (by simp[hb]) with h|h
    ·exact .inr ⟨_,h⟩
    ·exact .inl h
   ·rw[lu N hk] at hb;exact .inr ⟨k,hb⟩
 have hv:(view w U (excl G.F G.E)).le (view w U (excl (upF G.F r N) E')):=WG (λ_ x=>x) hex;have hN:=List.nodup_append.1 hs;refine⟨show MInv base U (put r c' m) w μ' (upF G.F r N) E' out' from ?_,⟨hle,hex⟩⟩;refine⟨?_, ?_, ?_, ?_,hN.2.1,λb hb=>hg.lt b (hex b hb),hg.up,hg.bs, ?_, ?_⟩
 ·intro k c hk hko;rw[get_put] at hk
  by_cases e:k=r
  ·subst e;rw[if_pos rfl] at hk;cases hk;rw[I8];exact hc hv hko
  ·rw[if_neg e] at hk;rw[lu N e];exact Pz hle hv (hμ k e) (λb _=>rfl) (hg.cell k c hk (λh=>hko ((ho k e).2 h)))
 ·intro k k' hne b hb hb'
  by_cases e:k=r
  ·subst e;rw[I8] at hb;rw[lu N (Ne.symm hne)] at hb';rcases hsub b (by simp[hb]) with h|h
   ·exact hg.dj _ _ hne b h hb'
   ·exact hg.djE _ b hb' h
  ·rw[lu N e] at hb
   by_cases e':k'=r
   ·subst e';rw[I8] at hb';rcases hsub b (by simp[hb']) with h|h
    ·exact hg.dj _ _ hne b hb h
    ·exact hg.djE _ b hb h
   ·rw[lu N e'] at hb';exact hg.dj _ _ hne b hb hb'
 ·intro k b hb hE
  by_cases e:k=r
  ·subst e;rw[I8] at hb;exact hN.2.2 b hb b hE rfl
  ·rw[lu N e] at hb;rcases hsub b (by simp[hE]) with h|h
   ·exact hg.dj _ _ e b hb h
   ·exact hg.djE _ b hb h
 ·intro k
  by_cases e:k=r
  ·subst e;rw[I8];exact hN.1
  ·rw[lu N e];exact hg.nd k
 ·intro k hk;rw[get_put] at hk
  by_cases e:k=r
  ·rw[if_pos e] at hk;cases hk
  ·rw[if_neg e] at hk;rw[lu N e];exact hg.none_ k hk
 ·intro k hk
  by_cases e:k=r
  ·subst e;rw[I8];exact hr hk
  ·rw[lu N e];exact hg.out_ k ((ho k e).1 hk)
def Jo.less(hg:Jo base U w m G)(E':List Nat)(hn:E'.Nodup)(hs:∀b,b∈E'->b∈G.E):
  Jo base U w m {G with E:=E'}/\GLe m G m {G with E:=E'}:=by
 have hex:∀b,excl G.F E' b->excl G.F G.E b:=by
  rintro b (hb|hb)
  ·exact .inl (hs b hb)
  ·exact .inr hb
 have hv:(view w U (excl G.F G.E)).le (view w U (excl G.F E')):=WG (λ_ x=>x) hex;refine⟨⟨?_,hg.dj,λr b hb hE=>hg.djE r b hb (hs b hE),hg.nd,hn,λb hb=>hg.lt b (hex b hb),hg.up,hg.bs,hg.none_,hg.out_⟩,⟨vT _ _,hex⟩⟩;intro r c hc ho;exact Pz (vT _ _) hv rfl (λ_ _=>rfl) (hg.cell r c hc ho)
def Jp{μ μ':Nat->Value}{r:Nat}{c':Cell}(hμ:∀k,k≠r->μ' k=μ k)(h:∀c,get r m=some c->MV μ μ' r c c'):JE μ m μ' (put r c' m):=by
 intro k c hk
 by_cases e:k=r
 ·subst e;exact⟨c',kD _ _ _,h c hk⟩
 ·refine⟨c,by rw[ou e];exact hk, ?_⟩;cases c<;>simp[MV,hμ k e]
def full_cell{b:Nat}{cs:Array Value}{t:TypeId}{fr:Nat×Nat}(h:eU w b=some (.cells cs t fr))(o:Nat):full w b o=cs.toList[o]? :=by simp only[full,World.cell?];unfold eU at h;simp[h]
end
def aeb{h:View}{b:Nat}:∀(r:Row) (o:Nat) (cs:List Value),(∀j v,cs[j]? =some v->h b (o+j)=some v)->jH h r cs->BO h r b o
 |[],_,_,_,_=>by simp[BO]
 |x::r,o,cs,hc,⟨v,cs',e,h1,h2⟩=>by subst e;simp only[BO];refine⟨⟨v,hc 0 v rfl,h1⟩,aeb r (o+1) cs' (λj u hj=> ?_) h2⟩;have:=hc (j+1) u (by simpa using hj);rw[show o+1+j=o+(j+1) from by omega];exact this
def Z8{h:View}{b s:Nat}:∀(rs:List Row) (o:Nat) (cs:List Value),(∀j v,cs[j]? =some v->h b (o+j)=some v)->jF h s rs cs->sN h s rs b o
 |[],_,_,_,_=>by simp[sN]
 |r::rs,o,cs,hc,⟨h1,h2,h3⟩=>by simp only[sN];refine⟨h1,aeb r o cs hc h2,Z8 rs (o+s) (cs.drop s) (λj u hj=> ?_) h3⟩;rw[List.getElem?_drop] at hj;rw[show o+s+j=o+(s+j) from by omega];exact hc _ _ hj
def agf(h:View)(H:Heap)(N:List Nat):Prop:=∀b,b∈N->∀cs t fr,H b=some (.cells cs t fr)->∀(o:Nat) v,cs.toList[o]? =some v->h b o=some v
def agf.sub{h:View}{H:Heap}{N N':List Nat}(q:agf h H N)(hs:∀b,b∈N'->b∈N):agf h H N':=λb hb=>q b (hs b hb)
mutual
def aEr{H:Heap}{h h':View}(hl:h.le h'):∀(x:D) (v:Value) (N:List Nat),agf h' H N->ow H h x v N->ro h' x v
 | .int _ _,_,_,_,q=>by simp only[ow] at q;simpa[ro] using q.1
 | .bool _,_,_,_,q=>by simp only[ow] at q;simpa[ro] using q.1
 | .str _,_,_,_,q=>by simp only[ow] at q;simpa[ro] using q.1
 | .ZG,_,_,_,q=>by simp only[ow] at q;simpa[ro] using q.1
 | .sl false s rows,v,N,_,q=>by simp only[ow] at q;have:=Lu hl _ _ q.2;simpa[ro] using this
 | .sl true s rows,v,N,hs,q=>by
  simp only[ow] at q;simp only[ro];rcases q with⟨rfl,rfl,rfl⟩|⟨b,cap,cs,t,N',h1,h2,h3,h4,h5,rfl⟩
  ·exact⟨none,0,by simp,by simp,λe=>absurd rfl e⟩
  ·refine⟨_,cap,h1,h2,λ_=>⟨b,0,rfl, ?_⟩⟩;refine Z8 rows 0 cs.toList (λj v hj=>by rw[Nat.zero_add];exact hs b (by simp) cs t _ h3 j v hj) ?_;exact OX hl s rows cs.toList N' (hs.sub (by simp;exact λ_ hb=> .inr hb)) h5
def OX{H:Heap}{h h':View}(hl:h.le h')(s:Nat):∀(rows:List Row) (cs:List Value) (N:List Nat),agf h' H N->iU H h s rows cs N->jF h' s rows cs
 |[],_,_,_,_=>by simp[jF]
 |r::rs,cs,N,hs,q=>by simp only[iU] at q;obtain⟨h1,N1,N2,rfl,h2,h3⟩:=q;simp only[jF];exact⟨h1,aec hl r cs N1 (hs.sub (by simp;exact λ_ hb=> .inl hb)) h2,OX hl s rs _ N2 (hs.sub (by simp;exact λ_ hb=> .inr hb)) h3⟩
def aec{H:Heap}{h h':View}(hl:h.le h'):∀(r:Row) (cs:List Value) (N:List Nat),agf h' H N->jU H h r cs N->jH h' r cs
 |[],_,_,_,_=>by simp[jH]
 |x::r,cs,N,hs,q=>by simp only[jU] at q;obtain⟨v,cs',N1,N2,rfl,rfl,h1,h2⟩:=q;simp only[jH];exact⟨v,cs',rfl,aEr hl x v N1 (hs.sub (by simp;exact λ_ hb=> .inl hb)) h1,aec hl r cs' N2 (hs.sub (by simp;exact λ_ hb=> .inr hb)) h2⟩
end
def anK{H:Heap}{h h':View}(hl:h.le h'){fl:Bool}{s:Nat}{rows:List Row}{v:Value}{N:List Nat}(hs:agf h' H N)(q:ad9 H h fl s rows v N)(o:Bool):ro h' (.sl o s rows) v:=by
 simp only[ro];rcases q with⟨rfl,rfl,rfl⟩|⟨b,cap,cs,t,N',h1,h2,h3,h4,h5,rfl⟩
 ·exact⟨none,0,by simp,by simp,λe=>absurd rfl e⟩
 ·refine⟨_,cap,h1,h2,λ_=>⟨b,0,rfl, ?_⟩⟩;refine Z8 rows 0 cs.toList (λj v hj=>by rw[Nat.zero_add];exact hs b (by simp) cs t _ h3 j v hj) ?_;cases fl with
  |true=>exact Nu hl s rows _ h5.1
  |false=>exact OX hl s rows cs.toList N' (hs.sub (by simp;exact λ_ hb=> .inr hb)) h5
def aed{h:View}{o o':Bool}{s:Nat}{rows:List Row}{v:Value}(q:ro h (.sl o s rows) v):ro h (.sl o' s rows) v:=by simpa[ro] using q
def alQ{w:World}{N:List Nat}:agf (full w) (eU w) N:=by intro b _ cs t fr hb o v hv;rw[full_cell hb,hv]
def OY{w:World}{U X:Nat->Prop}{N:List Nat}(hU:∀b,b∈N->U b/\¬X b):agf (view w U X) (eU w) N:=by intro b hm cs t fr hb o v hv;unfold view;rw[if_pos (hU b hm)];have:=full_cell hb o;rw[hv] at this;exact this
mutual
def axS{h:View}:∀(x:D) (v:Value),ro h x v->ro h x.fz v
 | .int _ _,_,q=>by simpa[D.fz] using q
 | .bool _,_,q=>by simpa[D.fz] using q
 | .str _,_,q=>by simpa[D.fz] using q
 | .ZG,_,q=>by simpa[D.fz] using q
 | .sl own s rows,v,q=>by
  simp only[D.fz,ro] at q|-;obtain⟨a,cap,h1,h2,h3⟩:=q;have hlen:(aB rows).length=rows.length:=Xo rows;refine⟨a,cap,by rw[hlen];exact h1,by rw[hlen];exact h2,λhn=> ?_⟩;have hn':rows≠[]:=by intro e;subst e;exact hn rfl
  obtain⟨b,o,h4,h5⟩:=h3 hn';exact⟨b,o,h4,alR s rows b o h5⟩
def Xo:∀rows:List Row,(aB rows).length=rows.length
 |[]=>rfl
 |r::rs=>by simp[aB,Xo rs]
def YH:∀r:Row,(Bf r).length=r.length
 |[]=>rfl
 |x::r=>by simp[Bf,YH r]
def alR{h:View}(s:Nat):∀(rows:List Row) (b o:Nat),sN h s rows b o->sN h s (aB rows) b o
 |[],_,_,_=>by simp[aB,sN]
 |r::rs,b,o,q=>by simp only[aB,sN] at q|-;exact⟨by rw[YH];exact q.1,apj r b o q.2.1,alR s rs b (o+s) q.2.2⟩
def apj{h:View}:∀(r:Row) (b o:Nat),BO h r b o->BO h (Bf r) b o
 |[],_,_,_=>by simp[Bf,BO]
 |x::r,b,o,q=>by simp only[Bf,BO] at q|-;obtain⟨⟨v,h1,h2⟩,h3⟩:=q;exact⟨⟨v,h1,axS x v h2⟩,apj r b (o+1) h3⟩
end
def ai8{h:View}{fl:Bool}{o:Bool}{s:Nat}{rows:List Row}{v:Value}(q:ro h (.sl o s rows) v):ro h (.sl false s (vw fl rows)) v:=by
 unfold vw;cases fl with
 |true=>exact aed q
 |false=>simpa[D.fz] using axS _ _ q
def axT{h:View}{x:D}{v:Value}(q:ro h x v):ro h (roD x) v:=by cases x<;>simpa[roD,ro] using q
def axU{H:Heap}{h:View}{x:D}{v:Value}(q:ro h x v):ow H h (roD x) v []:=by cases x<;>simp[roD,ow,ro] at q|-<;>exact q
def aBw{H:Heap}{h:View}{x:D}{v:Value}(hf:x.flat=true)(q:ro h x v):ow H h x v []:=by cases x<;>simp[D.flat,ow,ro] at hf q|-<;>exact q
def ai9{H:Heap}{h:View}:∀(r:Row) (cs:List Value),(r.all D.flat)=true->jH h r cs->jU H h r cs []
 |[],_,_,_=>by simp[jU]
 |x::r,cs,hf,⟨v,cs',e,h1,h2⟩=>by simp only[List.all_cons,zq] at hf;simp only[jU];exact⟨v,cs',[],[],e,rfl,aBw hf.1 h1,ai9 r cs' hf.2 h2⟩
def Z9{H:Heap}{h:View}(s:Nat):∀(rs:List Row) (cs:List Value),aj rs=true->jF h s rs cs->iU H h s rs cs []
 |[],_,_,_=>by simp[iU]
 |r::rs,cs,hf,⟨h1,h2,h3⟩=>by simp only[aj,List.all_cons,zq] at hf;simp only[iU];exact⟨h1,[],[],rfl,ai9 r cs hf.1 h2,Z9 s rs _ hf.2 h3⟩
def auG{H:Heap}{h:View}{fl:Bool}{s:Nat}{rows:List Row}{v:Value}{N:List Nat}(ho:auE fl rows=true)(q:ad9 H h fl s rows v N):ow H h (.sl true s rows) v N:=by
 simp only[ow];rcases q with q|⟨b,cap,cs,t,N',h1,h2,h3,h4,h5,rfl⟩
 ·exact .inl q
 ·refine .inr ⟨b,cap,cs,t,N',h1,h2,h3,h4, ?_,rfl⟩;cases fl with
  |true=>obtain⟨h5,rfl⟩:=h5;exact Z9 s rows _ (by simpa[auE] using ho) h5
  |false=>exact h5
def aBx{H:Heap}{h:View}{s:Nat}{rows:List Row}{v:Value}{N:List Nat}(q:ow H h (.sl true s rows) v N):ad9 H h false s rows v N:=by simpa[ow,ad9] using q
def asX{H:Heap}{h:View}{s:Nat}{rows:List Row}{v:Value}{N:List Nat}(q:ow H h (.sl true s rows) v N):
  ∃N1 N2,N=N1++N2/\∀h',h.le h'->agf h' H N2->ad9 H h' true s rows v N1:=by
 simp only[ow] at q;rcases q with⟨rfl,rfl,rfl⟩|⟨b,cap,cs,t,N',h1,h2,h3,h4,h5,rfl⟩
 ·exact⟨[],[],rfl,λ_ _ _=> .inl ⟨rfl,rfl,rfl⟩⟩
 ·exact⟨[b],N',rfl,λh' hl hs=> .inr ⟨b,cap,cs,t,[],h1,h2,h3,h4,⟨OX hl s rows _ N' hs h5,rfl⟩,rfl⟩⟩
section
variable {base:Nat} {U:Nat->Prop} {w:World} {m:Mem} {G:GS}
def Jo.kill(hg:Jo base U w m G){r:Nat}{fl:Bool}{ver s:Nat}{rows:List Row}(hc:get r m=some (.arr false fl ver s rows))(hro:r ∉ G.out):
  Jo base U w (put r .dead m) ⟨G.μ,upF G.F r [],G.E++G.F r,G.out⟩/\GLe m G (put r .dead m) ⟨G.μ,upF G.F r [],G.E++G.F r,G.out⟩/\
   ad9 (eU w) (Gh U w G) fl s rows (G.μ r) (G.F r):=by
 have h1:=hg.set r .dead G.μ [] (G.E++G.F r) G.out
  (by simpa using List.nodup_append.2 ⟨hg.ndE,hg.nd r,λa ha b hb e=>hg.djE r b hb (e ▸ ha)⟩)
  (by simp;exact λb hb=>hb.symm) (Jp (λ_ _=>rfl) (λc h=>by rw[hc] at h;cases h;trivial)) (λ_ _=>rfl) (λ_ _=>Iff.rfl) (λ_=>rfl) (λ_ _=>rfl)
 exact⟨h1.1,h1.2,hg.cell r _ hc hro⟩
def Jo.freeze(hg:Jo base U w m G){r:Nat}{fz fl:Bool}{ver s:Nat}{rows:List Row}(hc:get r m=some (.arr fz fl ver s rows))(hro:r ∉ G.out):
  Jo base U w (put r (.arr true fl ver s rows) m) ⟨G.μ,upF G.F r [],G.E,G.out⟩/\GLe m G (put r (.arr true fl ver s rows) m) ⟨G.μ,upF G.F r [],G.E,G.out⟩/\
   ro (Gh U w ⟨G.μ,upF G.F r [],G.E,G.out⟩) (.sl true s rows) (G.μ r):=by
 have hle:JE G.μ m G.μ (put r (.arr true fl ver s rows) m):=Jp (λ_ _=>rfl) (λc h=>by rw[hc] at h;cases h;exact⟨Nat.le_refl _,rfl,λ_=>⟨rfl,rfl⟩⟩);have aJn:(view w U (excl G.F G.E)).le (view w U (excl (upF G.F r []) G.E))->ro (view w U (excl (upF G.F r []) G.E)) (.sl true s rows) (G.μ r):=by
  intro hv;have hq:=hg.cell r _ hc hro;cases fz with
  |true=>exact Lu hv _ _ hq.1
  |false=>
   refine anK hv (OY λb hb=>⟨(hg.lt b (.inr ⟨r,hb⟩)).2.2, ?_⟩) hq true;rintro(hE|⟨k,hk⟩)
   ·exact hg.djE r b hb hE
   ·by_cases e:k=r
    ·subst e;simp at hk
    ·rw[lu _ e] at hk;exact hg.dj r k (Ne.symm e) b hb hk
 have h1:=hg.set r (.arr true fl ver s rows) G.μ [] G.E G.out (by simpa using hg.ndE) (by simp;exact λb hb=> .inr hb) hle (λ_ _=>rfl) (λ_ _=>Iff.rfl) (λ_=>rfl)
  (λhv _=>⟨aJn hv,rfl⟩)
 exact⟨h1.1,h1.2,aJn h1.2.view⟩
def Jo.aFP(hg:Jo base U w m G){k:Nat}(fl:Bool){s:Nat}{rows:List Row}{g:Value}{N E:List Nat}(hn:get k m=none)(hk:k ∉ G.out)(hE:(N++E).Perm G.E)
  (hq:ow (eU w) (Gh U w G) (.sl true s rows) g N):
  ∃F',Jo base U w (put k (.arr false fl 0 s rows) m) ⟨upM G.μ k g,F',E,G.out⟩/\GLe m G (put k (.arr false fl 0 s rows) m) ⟨upM G.μ k g,F',E,G.out⟩:=by
 have hnd:=hE.nodup_iff.2 hg.ndE;have hmem:∀b,b∈N++E->b∈G.E:=λb hb=>hE.mem_iff.1 hb
 have hμ:∀j,j≠k->upM G.μ k g j=G.μ j:=λj e=>Rx g e
 have hle:∀c',JE G.μ m (upM G.μ k g) (put k c' m):=λc'=>Jp hμ (λc h=>by rw[hn] at h;cases h)
 cases fl with
 |false=>refine⟨_,hg.set k (.arr false false 0 s rows) (upM G.μ k g) N E G.out hnd (λb hb=> .inr (hmem b hb)) (hle _) hμ (λ_ _=>Iff.rfl) (λh=>absurd h hk) (λhv _=> ?_)⟩;simp only[vS,Ue];exact XQ hv (λ_ _=>rfl) (aBx hq)
 |true=>
  obtain⟨N1,N2,rfl,h2⟩:=asX hq;have hnd':(N1++E).Nodup:=by rw[QW] at hnd;have:=List.nodup_append.1 hnd;exact List.nodup_append.2 ⟨this.1,(List.nodup_append.1 this.2.1).2.1,λa ha b hb=>this.2.2 a ha b (by simp[hb])⟩
  refine⟨_,hg.set k (.arr false true 0 s rows) (upM G.μ k g) N1 E G.out hnd' (λb hb=> .inr (hmem b (by simp at hb|-;rcases hb with h|h<;>simp[h]))) (hle _) hμ (λ_ _=>Iff.rfl) (λh=>absurd h hk) (λhv _=> ?_)⟩;simp only[vS,Ue];refine h2 _ hv (OY λb hb=>⟨(hg.lt b (.inl (hmem b (by simp[hb])))).2.2, ?_⟩);rw[QW] at hnd;have hd:=List.nodup_append.1 hnd;have hd2:=List.nodup_append.1 hd.2.1;rintro(hE'|⟨j,hj⟩)
  ·exact hd2.2.2 b hb b hE' rfl
  ·by_cases e:j=k
   ·subst e;rw[I8] at hj;exact hd.2.2 b hj b (by simp[hb]) rfl
   ·rw[lu _ e] at hj;exact hg.djE j b hj (hmem b (by simp[hb]))
structure Pm(base:Nat)(U:Nat->Prop)(w:World)(m:Mem)(G:GS)(m':Mem)(G':GS)(N:List Nat):Prop where
 ok:Jo base U w m' G'
 le:GLe m G m' G'
 E:G'.E=G.E++N
 out:G'.out=G.out
 μ:G'.μ=G.μ
def Pm.same(hg:Jo base U w m G):Pm base U w m G m G []:=⟨hg,GLe.refl _ _,by simp,rfl,rfl⟩
def Pm.trans{m1 m2 m3:Mem}{G1 G2 G3:GS}{N N':List Nat}(a:Pm base U w m1 G1 m2 G2 N)(b:Pm base U w m2 G2 m3 G3 N'):Pm base U w m1 G1 m3 G3 (N++N'):=
 ⟨b.ok,a.le.trans b.le,by rw[b.E,a.E,QW],b.out.trans a.out,b.μ.trans a.μ⟩
def abS{H:Heap}{h h':View}(hl:h.le h'){x:D}{v:Value}{N:List Nat}(q:ow H h x v N):ow H h' x v N:=anJ hl x v N (λ_ _=>rfl) q
def axV(hg:Jo base U w m G){v:V}{g:Value}(hv:bn G.μ m (Gh U w G) v g)(ho:G.out=[]){x:D}{m':Mem}{l l':Log}(h:(toD v).run m l=some (x,m',l')):
  ∃G' N,Pm base U w m G m' G' N/\ow (eU w) (Gh U w G') x g N:=by
 cases v with
 |d y=>simp only[toD,run_pure,kU,ql] at h;obtain⟨rfl,rfl,rfl⟩:=h;exact⟨G,[],Pm.same hg,axU (by simpa[bn] using hv)⟩
 |nil s=>simp only[toD,run_pure,kU,ql] at h;obtain⟨rfl,rfl,rfl⟩:=h;refine⟨G,[],Pm.same hg, ?_⟩;simp only[bn] at hv;simp[ow,hv]
 |own r ver=>
  simp only[toD] at h;replace h:=ay h;obtain⟨c,m1,l1,h1,h⟩:=h;rw[Ar] at h1;cases h1;cases hc:get r m with
  |none=>rw[hc] at h;exact aI h
  |some c=>
   rw[hc] at h;cases c with
   |arr fz fl vH s rows=>
    simp only at h;replace h:=ay h;obtain⟨_,m2,l2,h1,h⟩:=h;obtain⟨hb,rfl,rfl⟩:=iC h1;have hb:=Kr hb;subst hb;simp only[bn,hc] at hv;have hv:=hv.2.2 trivial;subst hv;have hro:r ∉ G.out:=by simp[ho]
    cases fz with
    |true=>simp only[run_pure,kU,ql] at h;obtain⟨rfl,rfl,rfl⟩:=h;refine⟨G,[],Pm.same hg, ?_⟩;have hq:=(hg.cell r _ hc hro).1;simp only[ow,true_and];exact ai8 hq
    |false=>simp only at h;replace h:=ay h;obtain⟨_,m2,l2,h1,h⟩:=h;obtain⟨hok,rfl,rfl⟩:=iC h1;replace h:=ay h;obtain⟨_,m3,l3,h1,h⟩:=h;rw[PE] at h1;cases h1;simp only[run_pure,kU,ql] at h;obtain⟨rfl,rfl,rfl⟩:=h;obtain⟨k1,k2,k3⟩:=hg.kill hc hro;exact⟨_,G.F r,⟨k1,k2,rfl,rfl,rfl⟩,abS k2.view (auG hok k3)⟩
   |_=>exact aI h
 |_=>exact aI h
def qB{μ:Nat->Value}{h:View}{v:V}{vs:List V}{gs:List Value}(q:dI μ m h (v::vs) gs):∃g gs',gs=g::gs'/\bn μ m h v g/\dI μ m h vs gs':=by simpa[dI] using q
def kZ{μ:Nat->Value}{h:View}:∀{vs:List V} {gs:List Value},dI μ m h vs gs->gs.length=vs.length
 |[],gs,q=>by simp[dI] at q;simp[q]
 |v::vs,gs,q=>by obtain⟨g,gs',rfl,_,h3⟩:=qB q;simp[kZ h3]
def aee{H:Heap}{h h':View}(hl:h.le h'){x:Row}{v:List Value}{N:List Nat}(q:jU H h x v N):jU H h' x v N:=Ru hl x v N (λ_ _=>rfl) q
def apk{H:Heap}{h h':View}(hl:h.le h'){s:Nat}{x:List Row}{v:List Value}{N:List Nat}(q:iU H h s x v N):iU H h' s x v N:=Kt hl s x v N (λ_ _=>rfl) q
def VA:∀{vs:List V} {gs:List Value} {m:Mem} {G:GS} (_:Jo base U w m G) (_:dI G.μ m (Gh U w G) vs gs) (_:G.out=[]) {xs:Row} {m':Mem} {l l':Log} (_:(Py vs).run m l=some (xs,m',l')),
  ∃G' N,Pm base U w m G m' G' N/\jU (eU w) (Gh U w G') xs gs N/\xs.length=vs.length
 |[],gs,m,G,hg,hv,ho,xs,m',l,l',h=>by simp only[Py,run_pure,kU,ql] at h;obtain⟨rfl,rfl,rfl⟩:=h;exact⟨G,[],Pm.same hg,by simp[jU],rfl⟩
 |v::vs,gs,m,G,hg,hv,ho,xs,m',l,l',h=>by obtain⟨g,gs',rfl,hv1,hv2⟩:=qB hv;simp only[Py] at h;replace h:=ay h;obtain⟨x,m1,l1,h1,h⟩:=h;replace h:=ay h;obtain⟨ys,m2,l2,h2,h⟩:=h;obtain⟨rfl,rfl,rfl⟩:=ZI h;obtain⟨G1,N1,t1,q1⟩:=axV hg hv1 ho h1;obtain⟨G2,N2,t2,q2,hlen⟩:=VA t1.ok (t1.le.dI hv2) (t1.out.trans ho) h2;refine⟨G2,N1++N2,t1.trans t2, ?_,by simp[hlen]⟩;simp only[jU];exact⟨g,gs',N1,N2,rfl,rfl,abS t2.le.view q1,q2⟩
def Jo.look(hg:Jo base U w m G){r:Nat}{fz fl:Bool}{ver s:Nat}{rows:List Row}(hc:get r m=some (.arr fz fl ver s rows))(hro:r ∉ G.out)(o:Bool):ro (full w) (.sl o s rows) (G.μ r):=by
 have hq:=hg.cell r _ hc hro;cases fz with
 |true=>exact aed (Lu (yE _ _ _) _ _ hq.1)
 |false=>exact anK (yE _ _ _) alQ hq o
def auH(hg:Jo base U w m G){v:V}{g:Value}(hv:bn G.μ m (Gh U w G) v g)(ho:G.out=[]){s:Nat}{rows:List Row}{m':Mem}{l l':Log}(h:(seen v).run m l=some ((s,rows),m',l')):
  m'=m/\ro (full w) (.sl false s rows) g:=by
 cases v with
 |d y=>
  cases y with
  |sl own s' rows'=>simp only[seen,run_pure,kU,ql] at h;obtain⟨⟨rfl,rfl⟩,rfl,rfl⟩:=h;simp only[bn] at hv;exact⟨rfl,aed (Lu (yE _ _ _) _ _ hv)⟩
  |_=>exact aI h
 |nil s'=>simp only[seen,run_pure,kU,ql] at h;obtain⟨⟨rfl,rfl⟩,rfl,rfl⟩:=h;simp only[bn] at hv;exact⟨rfl,by simp[ro,hv]⟩
 |own r ver=>
  simp only[seen] at h;replace h:=ay h;obtain⟨c,m1,l1,h1,h⟩:=h;rw[Ar] at h1;cases h1;cases hc:get r m with
  |none=>rw[hc] at h;exact aI h
  |some c=>
   rw[hc] at h;cases c with
   |arr fz fl vH s' rows'=>simp only at h;replace h:=ay h;obtain⟨_,m2,l2,h1,h⟩:=h;obtain⟨hb,rfl,rfl⟩:=iC h1;have hb:=Kr hb;subst hb;simp only[run_pure,kU,ql] at h;obtain⟨⟨rfl,rfl⟩,rfl,rfl⟩:=h;simp only[bn,hc] at hv;have hv:=hv.2.2 trivial;subst hv;exact⟨rfl,ai8 (hg.look hc (by simp[ho]) true)⟩
   |_=>exact aI h
 |_=>exact aI h
def I9(k:Nat):∀l:List Nat,mem? k l=true↔k∈l
 |[]=>by simp[mem?]
 |j::l=>by
  simp only[mem?,List.mem_cons]
  by_cases e:k=j
  ·subst e;simp
  ·rw[zM e];simp[e,I9 k l]
def VB{k:Nat}{l:List Nat}(h:(!(mem? k l))=true):k ∉ l:=by intro hk;rw[(I9 k l).2 hk] at h;cases h
def aBy(hg:Jo base U w m G){v:V}{g:Value}(hv:bn G.μ m (Gh U w G) v g){imp:List Nat}(ho:∀r,r∈G.out->r∈imp){own:Bool}{v':V}{m':Mem}{l l':Log}(h:(axN imp own v).run m l=some (v',m',l')):
  ∃G' N x,v'=.d x/\Pm base U w m G m' G' N/\ow (eU w) (Gh U w G') x g N/\∀k,k∈imp->get k m'=get k m:=by
 cases v with
 |d y=>simp only[axN,run_pure,kU,ql] at h;obtain⟨rfl,rfl,rfl⟩:=h;exact⟨G,[],_,rfl,Pm.same hg,axU (by simpa[bn] using hv),λ_ _=>rfl⟩
 |nil s=>simp only[axN,run_pure,kU,ql] at h;obtain⟨rfl,rfl,rfl⟩:=h;refine⟨G,[],_,rfl,Pm.same hg, ?_,λ_ _=>rfl⟩;simp only[bn] at hv;cases own<;>simp[ow,ro,hv]
 |own r ver=>
  simp only[axN] at h;replace h:=ay h;obtain⟨c,m1,l1,h1,h⟩:=h;rw[Ar] at h1;cases h1;cases hc:get r m with
  |none=>rw[hc] at h;exact aI h
  |some c=>
   rw[hc] at h;cases c with
   |arr fz fl vH s rows=>
    simp only at h;replace h:=ay h;obtain⟨_,m2,l2,h1,h⟩:=h;obtain⟨hb,rfl,rfl⟩:=iC h1;have hb:=Kr hb;subst hb;replace h:=ay h;obtain⟨_,m2,l2,h1,h⟩:=h;obtain⟨hi,rfl,rfl⟩:=iC h1;simp only[bn,hc] at hv;have hv:=hv.2.2 trivial;subst hv;have hro:r ∉ G.out:=λhr=>VB hi (ho r hr)
    have hni:∀k,k∈imp->k≠r:=λk hk e=>VB hi (e ▸ hk)
    cases own with
    |false=>simp only at h;replace h:=ay h;obtain⟨_,m3,l3,h1,h⟩:=h;rw[PE] at h1;cases h1;simp only[run_pure,kU,ql] at h;obtain⟨rfl,rfl,rfl⟩:=h;obtain⟨k1,k2,k3⟩:=hg.freeze hc hro;refine⟨_,[],_,rfl,⟨k1,k2,by simp,rfl,rfl⟩, ?_,λk hk=>ou (hni k hk) _ _⟩;simp only[ow,true_and];exact ai8 k3
    |true=>
     simp only at h;replace h:=ay h;obtain⟨_,m2,l2,h1,h⟩:=h;obtain⟨hfz,rfl,rfl⟩:=iC h1;replace h:=ay h;obtain⟨_,m2,l2,h1,h⟩:=h;obtain⟨hok,rfl,rfl⟩:=iC h1;have hfz:fz=false:=by simpa using hfz
     subst hfz;replace h:=ay h;obtain⟨_,m3,l3,h1,h⟩:=h;rw[PE] at h1;cases h1;simp only[run_pure,kU,ql] at h;obtain⟨rfl,rfl,rfl⟩:=h;obtain⟨k1,k2,k3⟩:=hg.kill hc hro;exact⟨_,G.F r,_,rfl,⟨k1,k2,rfl,rfl,rfl⟩,abS k2.view (auG hok k3),λk hk=>ou (hni k hk) _ _⟩
   |_=>exact aI h
 |_=>exact aI h
def ahd{imp own:List Nat}:∀{vs:List V} {gs:List Value} {m:Mem} {G:GS} {j:Nat} (_:Jo base U w m G) (_:dI G.μ m (Gh U w G) vs gs) (_:∀r,r∈G.out->r∈imp) {vs':List V} {m':Mem} {l l':Log}
  (_:(ZV imp own j vs).run m l=some (vs',m',l')),∃G' N xs,vs'=xs.map V.d/\xs.length=gs.length/\Pm base U w m G m' G' N/\jU (eU w) (Gh U w G') xs gs N/\∀k,k∈imp->get k m'=get k m
 |[],gs,m,G,j,hg,hv,ho,vs',m',l,l',h=>by simp only[ZV,run_pure,kU,ql] at h;obtain⟨rfl,rfl,rfl⟩:=h;simp only[dI] at hv;subst hv;exact⟨G,[],[],rfl,rfl,Pm.same hg,by simp[jU],λ_ _=>rfl⟩
 |v::vs,gs,m,G,j,hg,hv,ho,vs',m',l,l',h=>by obtain⟨g,gs',rfl,hv1,hv2⟩:=qB hv;simp only[ZV] at h;replace h:=ay h;obtain⟨x,m1,l1,h1,h⟩:=h;replace h:=ay h;obtain⟨ys,m2,l2,h2,h⟩:=h;obtain⟨rfl,rfl,rfl⟩:=ZI h;obtain⟨G1,N1,x1,rfl,t1,q1,i1⟩:=aBy hg hv1 ho h1;obtain⟨G2,N2,xs,rfl,hlen,t2,q2,i2⟩:=ahd t1.ok (t1.le.dI hv2) (λr hr=>ho r (t1.out ▸ hr)) h2;refine⟨G2,N1++N2,x1::xs,rfl,by simp[hlen],t1.trans t2, ?_,λk hk=>(i2 k hk).trans (i1 k hk)⟩;simp only[jU];exact⟨g,gs',N1,N2,rfl,rfl,abS t2.le.view q1,q2⟩
def apl(H:Heap)(h:View):Cell->Value->List Nat->Prop
 | .box t vs,g,N=>∃b a xs N',g=.pointer (some ⟨b,0,none⟩)/\H b=some (.cells a t (0,0))/\vs=xs.map V.d/\xs.length=a.toList.length/\jU H h xs a.toList N'/\N=b::N'
 | .arr fz fl ver s rows,g,N=>fz=false/\ver=0/\ad9 H h fl s rows g N
 | .dead,_,_=>False
 | .Dt ..,_,_=>False
def cellsB(H:Heap)(h:View):List Cell->List Value->List Nat->Prop
 |[],gs,N=>gs=[]/\N=[]
 |c::cs,gs,N=>∃g gs' N1 N2,gs=g::gs'/\N=N1++N2/\apl H h c g N1/\cellsB H h cs gs' N2
def aja{H H':Heap}{h h':View}(hl:h.le h'){c:Cell}{g:Value}{N:List Nat}(hb:∀b,b∈N->H' b=H b)(q:apl H h c g N):apl H' h' c g N:=by
 cases c with
 |box t vs=>obtain⟨b,a,xs,N',h1,h2,h3,h4,h5,rfl⟩:=q;exact⟨b,a,xs,N',h1,by rw[hb b (by simp)];exact h2,h3,h4,Ru hl _ _ _ (λb' hb'=>hb b' (by simp[hb'])) h5,rfl⟩
 |arr fz fl ver s rows=>exact⟨q.1,q.2.1,XQ hl hb q.2.2⟩
 |dead=>exact q
 |Dt _ _=>exact q
def ahe{H H':Heap}{h h':View}(hl:h.le h'):∀{cs:List Cell} {gs:List Value} {N:List Nat},(∀b,b∈N->H' b=H b)->cellsB H h cs gs N->cellsB H' h' cs gs N
 |[],_,_,_,q=>q
 |c::cs,_,_,hb,⟨g,gs',N1,N2,h1,h2,h3,h4⟩=>by subst h2;exact⟨g,gs',N1,N2,h1,rfl,aja hl (λb hx=>hb b (by simp[hx])) h3,ahe hl (λb hx=>hb b (by simp[hx])) h4⟩
def Jo.aEs(hg:Jo base U w m G){r:Nat}{c:Cell}(hc:get r m=some c)(hro:r ∉ G.out):
  Jo base U w m ⟨G.μ,upF G.F r [],G.E++G.F r,r::G.out⟩/\GLe m G m ⟨G.μ,upF G.F r [],G.E++G.F r,r::G.out⟩:=by
 have hex:∀b,excl (upF G.F r []) (G.E++G.F r) b->excl G.F G.E b:=by
  rintro b (hb|⟨k,hb⟩)
  ·simp only[List.mem_append] at hb;rcases hb with h|h
   ·exact .inl h
   ·exact .inr ⟨r,h⟩
  ·by_cases e:k=r
   ·subst e;simp at hb
   ·rw[lu _ e] at hb;exact .inr ⟨k,hb⟩
 have hv:(view w U (excl G.F G.E)).le (view w U (excl (upF G.F r []) (G.E++G.F r))):=WG (λ_ x=>x) hex;refine⟨show MInv base U m w G.μ (upF G.F r []) (G.E++G.F r) (r::G.out) from ?_,⟨vT _ _,hex⟩⟩;refine⟨?_, ?_, ?_, ?_,List.nodup_append.2 ⟨hg.ndE,hg.nd r,λa ha b hb e=>hg.djE r b hb (e ▸ ha)⟩,λb hb=>hg.lt b (hex b hb),hg.up,hg.bs, ?_, ?_⟩
 ·intro k c hk hko;simp only[List.mem_cons,not_or] at hko;rw[lu _ hko.1];exact Pz (vT _ _) hv rfl (λ_ _=>rfl) (hg.cell k c hk hko.2)
 ·intro k k' hne b hb hb'
  by_cases e:k=r
  ·subst e;simp at hb
  ·rw[lu _ e] at hb
   by_cases e':k'=r
   ·subst e';simp at hb'
   ·rw[lu _ e'] at hb';exact hg.dj _ _ hne b hb hb'
 ·intro k b hb hE
  by_cases e:k=r
  ·subst e;simp at hb
  ·rw[lu _ e] at hb;simp only[List.mem_append] at hE;rcases hE with h|h
   ·exact hg.djE _ b hb h
   ·exact hg.dj _ _ e b hb h
 ·intro k
  by_cases e:k=r
  ·subst e;simp
  ·rw[lu _ e];exact hg.nd k
 ·intro k hk
  by_cases e:k=r
  ·subst e;simp
  ·rw[lu _ e];exact hg.none_ k hk
 ·intro k hk
  by_cases e:k=r
  ·subst e;simp
  ·rw[lu _ e];exact hg.out_ k (by simpa[e] using hk)
structure Out(base:Nat)(U:Nat->Prop)(w:World)(m:Mem)(G:GS)(m':Mem)(G':GS)(imp rs:List Nat)(N:List Nat):Prop where
 ok:Jo base U w m' G'
 le:GLe m G m' G'
 E:G'.E=G.E++N
 out:∀r,r∈G'.out↔r∈G.out\/r∈rs
 μ:G'.μ=G.μ
 here:∀k,k∈imp->get k m'=get k m
def sameKind:Cell->Cell->Prop
 | .box t _,.box t' _=>t=t'
 | .arr _ fl ver s _,.arr _ fl' vH s' _=>ver=0/\vH=0/\fl=fl'/\s=s'
 |_,_=>False
def kinds(m:Mem):List Nat->List Cell->Prop
 |[],cs=>cs=[]
 |r::rs,cs=>∃c c' cs',cs=c'::cs'/\get r m=some c/\sameKind c c'/\kinds m rs cs'
def ae8{m m':Mem}:∀{rs:List Nat} {cs:List Cell},(∀r,r∈rs->get r m'=get r m)->kinds m rs cs->kinds m' rs cs
 |[],_,_,q=>q
 |r::rs,_,h,⟨c,c',cs',h1,h2,h3,h4⟩=>⟨c,c',cs',h1,(h r (by simp)).trans h2,h3,ae8 (λk hk=>h k (by simp[hk])) h4⟩
def agh{A:Adv}{imp:List Nat}:∀{rs:List Nat} {m:Mem} {G:GS} (_:Jo base U w m G) (_:rs.Nodup) (_:∀r,r∈rs->r∈imp/\r ∉ G.out) (_:∀r,r∈G.out->r∈imp) {cs:List Cell} {m':Mem} {l l':Log}
  (_:(ZW A imp rs).run m l=some (cs,m',l')),∃G' N,Out base U w m G m' G' imp rs N/\cellsB (eU w) (Gh U w G') cs (rs.map G.μ) N/\kinds m rs cs
 |[],m,G,hg,hn,hr,ho,cs,m',l,l',h=>by simp only[ZW,run_pure,kU,ql] at h;obtain⟨rfl,rfl,rfl⟩:=h;exact⟨G,[],⟨hg,GLe.refl _ _,by simp,λr=>by simp,rfl,λ_ _=>rfl⟩,⟨rfl,rfl⟩,rfl⟩
 |r::rs,m,G,hg,hn,hr,ho,cs,m',l,l',h=>by
  simp only[ZW] at h;replace h:=ay h;obtain⟨c,m1,l1,h1,h⟩:=h;rw[Ar] at h1;cases h1;replace h:=ay h;obtain⟨c1,m1,l1,h1,h⟩:=h;replace h:=ay h;obtain⟨cs1,m2,l2,h2,h⟩:=h;obtain⟨rfl,rfl,rfl⟩:=ZI h;have hri:=hr r (by simp);have hnr:=List.nodup_cons.1 hn;have step:∃G' N,Out base U w m G m1 G' imp [r] N/\apl (eU w) (Gh U w G') c1 (G.μ r) N/\∃c,get r m=some c/\sameKind c c1:=by
   cases hc:get r m with
   |none=>rw[hc] at h1;exact aI h1
   |some c=>
    rw[hc] at h1;have hq:=hg.cell r c hc hri.2;obtain⟨k1,k2⟩:=hg.aEs hc hri.2;cases c with
    |box t vs=>
     simp only[auF] at h1;replace h1:=ay h1;obtain⟨vs',m3,l3,h3,h1⟩:=h1;obtain⟨rfl,rfl,rfl⟩:=ZI h1;obtain⟨b,a,e1,e2,e3,e4⟩:=hq;obtain⟨G2,N2,xs,rfl,hlen,t2,q2,i2⟩:=ahd k1 (k2.dI e3) (λk hk=>by
      simp only[List.mem_cons] at hk;rcases hk with rfl|hk
      ·exact hri.1
      ·exact ho k hk) h3
     refine⟨G2,b::N2,⟨t2.ok,k2.trans t2.le,by rw[t2.E,e4];simp,λk=>by rw[t2.out];simp[or_comm],t2.μ,i2⟩,⟨b,a,xs,N2,e1,e2,rfl,hlen,q2,rfl⟩,_,rfl,rfl⟩
    |_=>exact aI h1
  obtain⟨G1,N1,o1,q1,c0,hc0,hk0⟩:=step;obtain⟨G2,N2,o2,q2,kd2⟩:=agh o1.ok hnr.2 (λk hk=>⟨(hr k (by simp[hk])).1,λhko=>by
   rcases(o1.out k).1 hko with h|h
   ·exact(hr k (by simp[hk])).2 h
   ·simp at h;subst h;exact hnr.1 hk⟩) (λk hk=>by
   rcases(o1.out k).1 hk with h|h
   ·exact ho k h
   ·simp at h;subst h;exact hri.1) h2
  refine⟨G2,N1++N2,⟨o2.ok,o1.le.trans o2.le,by rw[o2.E,o1.E,QW],λk=> ?_,o2.μ.trans o1.μ,λk hk=>(o2.here k hk).trans (o1.here k hk)⟩,⟨G.μ r,rs.map G.μ,N1,N2,rfl,rfl,aja o2.le.view (λ_ _=>rfl) q1,by rw[<-o1.μ];exact q2⟩,c0,c1,cs1,rfl,hc0,hk0,ae8 (λk hk=>(o1.here k (hr k (by simp[hk])).1).symm) kd2⟩;rw[o2.out,o1.out];simp[or_assoc]
def anL{r:Nat}{l:List Nat}(h:l.Nodup):(asR r l).Nodup:=by
 unfold asR;cases hm:mem? r l with
 |true=>exact h
 |false=>
  have:r ∉ l:=λhr=>by rw[(I9 r l).2 hr] at hm;cases hm
  exact List.nodup_append.2 ⟨h,by simp,λa ha b hb e=>by simp at hb;subst hb;subst e;exact this ha⟩
mutual
def aef:∀(v:V) (I:List Nat),I.Nodup->(apg I v).Nodup
 | .ptr r _,I,h=>by simp only[apg];exact anL h
 | .clo _ a b,I,h=>by simp only[apg];exact WH b _ (WH a _ h)
 | .agg cs,I,h=>by simp only[apg];exact WH cs _ h
 | .d _,I,h=>h
 | .nil _,I,h=>h
 | .own _ _,I,h=>h
 | .Lp _ _ _ _,I,h=>h
 | .Fg _ _,I,h=>h
 | .Pv v,I,h=>by simp only[apg];exact aef v I h
 | .Zl _,I,h=>h
 | .undef,I,h=>h
def WH:∀(vs:List V) (I:List Nat),I.Nodup->(alP I vs).Nodup
 |[],I,h=>h
 |v::vs,I,h=>by simp only[alP];exact WH vs _ (aef v I h)
end
def acy(A:Adv)(f:Nat):∀(vs:List V) (i:Nat) (I:List Nat),I.Nodup->(U7 A f i I vs).Nodup
 |[],_,I,h=>h
 |v::vs,i,I,h=>by
  simp only[U7];refine acy A f vs _ _ ?_;split
  ·exact h
  ·exact aef _ _ h
def VD(A:Adv)(f:Nat)(μ:Nat->Value)(m:Mem)(H:Heap)(h:View):Nat->List V->List Value->List Nat->Prop
 |_,[],gs,N=>gs=[]/\N=[]
 |i,v::vs,gs,N=>∃g gs' N1 N2,gs=g::gs'/\N=N1++N2/\(match OD A f i with
   |1=>∃x,v=.d x/\ow H h x g N1
   |_=>N1=[]/\bn μ m h v g)/\VD A f μ m H h (i+1) vs gs' N2
def XR{A:Adv}{f:Nat}{μ μ':Nat->Value}{m m':Mem}{H H':Heap}{h h':View}(hm:JE μ m μ' m')(hl:h.le h'):∀{vs:List V} {i:Nat} {gs:List Value} {N:List Nat},(∀b,b∈N->H' b=H b)->
  VD A f μ m H h i vs gs N->VD A f μ' m' H' h' i vs gs N
 |[],_,_,_,_,q=>q
 |v::vs,i,gs,N,hb,q=>by
  simp only[VD] at q|-;obtain⟨g,gs',N1,N2,rfl,rfl,h3,h4⟩:=q;refine⟨g,gs',N1,N2,rfl,rfl, ?_,XR hm hl (λb hx=>hb b (by simp[hx])) h4⟩;split at h3
  ·rename_i hmo;obtain⟨x,hx,hq⟩:=h3;exact⟨x,hx,anJ hl x g N1 (λb hx=>hb b (by simp[hx])) hq⟩
  ·exact⟨h3.1,Dz hm hl v g h3.2⟩
def ahf{A:Adv}{f:Nat}:∀{vs:List V} {gs:List Value} {m:Mem} {G:GS} {i:Nat} (_:Jo base U w m G) (_:dI G.μ m (Gh U w G) vs gs) (_:G.out=[]) {vs':List V} {m':Mem} {l l':Log}
  (_:(XL A f i vs).run m l=some (vs',m',l')),∃G' N,Pm base U w m G m' G' N/\VD A f G'.μ m' (eU w) (Gh U w G') i vs' gs N
 |[],gs,m,G,i,hg,hv,ho,vs',m',l,l',h=>by simp only[XL,run_pure,kU,ql] at h;obtain⟨rfl,rfl,rfl⟩:=h;simp only[dI] at hv;exact⟨G,[],Pm.same hg,hv,rfl⟩
 |v::vs,gs,m,G,i,hg,hv,ho,vs',m',l,l',h=>by
  obtain⟨g,gs',rfl,hv1,hv2⟩:=qB hv;simp only[XL] at h;replace h:=ay h;obtain⟨x,m1,l1,h1,h⟩:=h;replace h:=ay h;obtain⟨ys,m2,l2,h2,h⟩:=h;obtain⟨rfl,rfl,rfl⟩:=ZI h;have step:∃G1 N1,Pm base U w m G m1 G1 N1/\(match OD A f i with
   |1=>∃y,x=.d y/\ow (eU w) (Gh U w G1) y g N1
   |_=>N1=[]/\bn G1.μ m1 (Gh U w G1) x g):=by
   split at h1
   ·rename_i hmo;replace h1:=ay h1;obtain⟨y,m3,l3,h3,h1⟩:=h1;obtain⟨rfl,rfl,rfl⟩:=ZI h1;obtain⟨G1,N1,t1,q1⟩:=axV hg hv1 ho h3;refine⟨G1,N1,t1, ?_⟩
    try rw[hmo]
    exact⟨y,rfl,q1⟩
   ·rename_i hmo;obtain⟨rfl,rfl,rfl⟩:=ZI h1;refine⟨G,[],Pm.same hg, ?_⟩
    first
     |exact⟨rfl,hv1⟩
     |split
      ·rename_i e;exact absurd e hmo
      ·exact⟨rfl,hv1⟩
  obtain⟨G1,N1,t1,q1⟩:=step;obtain⟨G2,N2,t2,q2⟩:=ahf t1.ok (t1.le.dI hv2) (t1.out.trans ho) h2;refine⟨G2,N1++N2,t1.trans t2, ?_⟩;simp only[VD];refine⟨g,gs',N1,N2,rfl,rfl, ?_,q2⟩;split at q1
  ·obtain⟨y,hy,hq⟩:=q1;exact⟨y,hy,abS t2.le.view hq⟩
  ·exact⟨q1.1,t2.le.bn q1.2⟩
def ajb:∀(cs:List Cell) (k i:Nat),get (vP+(k+i)) (xF k cs)=cs[i]?
 |[],_,_=>by simp[xF,get]
 |c::cs,k,0=>by simp[xF,get]
 |c::cs,k,i+1=>by simp only[xF,get];rw[zM au];simp only[bG,List.getElem?_cons_succ];rw[<-ajb cs (k+1) i,show k+1+i=k+(i+1) from by omega]
def WI(cs:List Cell)(i:Nat):get (vP+i) (xF 0 cs)=cs[i]? :=by
 have:=ajb cs 0 i
 rwa [Nat.zero_add] at this
def impμ(hs:List Value):Nat->Value:=λk=>hs.getD (k - vP) undef
def ajc{r:Nat}:∀{l:List Nat} {k i:Nat},idxOf r k l=some i->k<=i/\l[i - k]? =some r
 |[],_,_,h=>by simp[idxOf] at h
 |j::l,k,i,h=>by
  simp only[idxOf] at h
  by_cases e:r=j
  ·subst e;simp at h;subst h;simp
  ·rw[zM e] at h;simp only[bG] at h;obtain⟨h1,h2⟩:=ajc h;refine⟨au, ?_⟩;rw[show i - k=(i - (k+1))+1 from by omega,List.getElem?_cons_succ];exact h2
def ajd{m:Mem}:∀{rs:List Nat} {cs:List Cell} {i r:Nat},kinds m rs cs->rs[i]? =some r->∃c c',get r m=some c/\cs[i]? =some c'/\sameKind c c'
 |[],_,_,_,_,h=>by simp at h
 |r::rs,_,0,r',⟨c,c',cs',h1,h2,h3,_⟩,h=>by simp at h;subst h;subst h1;exact⟨c,c',h2,rfl,h3⟩
 |r::rs,_,i+1,r',⟨c,c',cs',h1,h2,h3,h4⟩,h=>by subst h1;simp only[List.getElem?_cons_succ] at h|-;exact ajd h4 h
def aac(U:Nat->Prop)(G:GS)(L:List Nat):Nat->Prop:=λb=>U b/\∀r,b∈G.F r->r∈L
def U8{L:List Nat}:(Gh U w G).le (view w (aac U G L) (· ∈G.E)):=by
 intro b o v hv;unfold Gh view at hv;split at hv
 ·rename_i hc;unfold view;rw[if_pos ⟨⟨hc.1,λr hr=>absurd (.inr ⟨r,hr⟩) hc.2⟩,λhE=>hc.2 (.inl hE)⟩];exact hv
 ·cases hv
structure alS(base:Nat)(U:Nat->Prop)(w:World)(m:Mem)(G:GS)(imp:List Nat)(cells:List Cell):Prop where
 ok:Jo base U w m G
 out:∀r,r∈G.out↔r∈imp
 kd:kinds m imp cells
def aBz(hg:Jo base U w m G){r:Nat}{fz fl:Bool}{ver s:Nat}{rows:List Row}(hc:get r m=some (.arr fz fl ver s rows))(hro:r ∉ G.out){L:List Nat}(hL:fz=false->r∈L)(o:Bool):
  ro (view w (aac U G L) (· ∈G.E)) (.sl o s rows) (G.μ r):=by
 have hq:=hg.cell r _ hc hro;cases fz with
 |true=>exact aed (Lu U8 _ _ hq.1)
 |false=>
  refine anK U8 (OY λb hb=>⟨⟨(hg.lt b (.inr ⟨r,hb⟩)).2.2,λk hk=> ?_⟩,hg.djE r b hb⟩) hq o
  by_cases e:k=r
  ·rw[e];exact hL rfl
  ·exact absurd hk (hg.dj r k (Ne.symm e) b hb)
mutual
def aiA{imp:List Nat}{cells:List Cell}(C:alS base U w m G imp cells):∀{v:V} {g:Value} (_:bn G.μ m (Gh U w G) v g) {v':V} {lt:List Nat} {m':Mem} {l l':Log}
  (_:(lend imp v).run m l=some ((v',lt),m',l')),m'=m/\∀L:List Nat,(∀r,r∈lt->r∈L)->bn (impμ (imp.map G.μ)) (xF 0 cells) (view w (aac U G L) (· ∈G.E)) v' g
 | .d x,g,hv,v',lt,m',l,l',h=>by simp only[lend,run_pure,kU,ql] at h;obtain⟨⟨rfl,rfl⟩,rfl,rfl⟩:=h;refine⟨rfl,λL hL=> ?_⟩;simp only[bn] at hv|-;exact Lu U8 _ _ (axT hv)
 | .nil s,g,hv,v',lt,m',l,l',h=>by simp only[lend,run_pure,kU,ql] at h;obtain⟨⟨rfl,rfl⟩,rfl,rfl⟩:=h;refine⟨rfl,λL hL=> ?_⟩;simp only[bn] at hv|-;simp[ro,hv]
 | .own r ver,g,hv,v',lt,m',l,l',h=>by
  simp only[lend] at h;replace h:=ay h;obtain⟨c,m1,l1,h1,h⟩:=h;rw[Ar] at h1;cases h1;cases hc:get r m with
  |none=>rw[hc] at h;exact aI h
  |some c=>
   rw[hc] at h;cases c with
   |arr fz fl vH s rows=>
    simp only at h;replace h:=ay h;obtain⟨_,m2,l2,h1,h⟩:=h;obtain⟨hb,rfl,rfl⟩:=iC h1;have hb:=Kr hb;subst hb;replace h:=ay h;obtain⟨_,m2,l2,h1,h⟩:=h;obtain⟨hi,rfl,rfl⟩:=iC h1;simp only[run_pure,kU,ql] at h;obtain⟨⟨rfl,rfl⟩,rfl,rfl⟩:=h;simp only[bn,hc] at hv;have hv:=hv.2.2 trivial;subst hv;refine⟨rfl,λL hL=> ?_⟩;have hro:r ∉ G.out:=λhr=>VB hi ((C.out r).1 hr)
    simp only[bn];exact ai8 (aBz C.ok hc hro (λhf=>hL r (by subst hf;simp)) true)
   |_=>exact aI h
 | .ptr r off,g,hv,v',lt,m',l,l',h=>by simp only[lend] at h;replace h:=ay h;obtain⟨i,m1,l1,h1,h⟩:=h;obtain⟨hi,rfl,rfl⟩:=lS h1;simp only[run_pure,kU,ql] at h;obtain⟨⟨rfl,rfl⟩,rfl,rfl⟩:=h;refine⟨rfl,λL hL=> ?_⟩;obtain⟨_,h2⟩:=ajc hi;rw[Nat.sub_zero] at h2;obtain⟨c,c',k1,k2,k3⟩:=ajd C.kd h2;simp only[bn,k1] at hv;simp only[bn,WI,k2];refine⟨hv.1, ?_⟩;replace hv:=hv.2;cases c<;>cases c'<;>simp only[sameKind] at k3 hv|-;obtain⟨b,e1,e2⟩:=hv;refine⟨b, ?_,e2⟩;simp only[impμ,Nat.add_sub_cancel_left,List.getD_eq_getElem?_getD,List.getElem?_map,h2,MS,Option.getD_some,e1]
 | .Fg row off,g,hv,v',lt,m',l,l',h=>by simp only[lend,run_pure,kU,ql] at h;obtain⟨⟨rfl,rfl⟩,rfl,rfl⟩:=h;refine⟨rfl,λL hL=> ?_⟩;simp only[bn] at hv|-;obtain⟨b,o,e1,e2⟩:=hv;exact⟨b,o,e1,Rt U8 row b o e2⟩
 | .Pv v,g,hv,v',lt,m',l,l',h=>by simp only[lend] at h;replace h:=ay h;obtain⟨⟨a',la⟩,m1,l1,h1,h⟩:=h;simp only[run_pure,kU,ql] at h;obtain⟨⟨rfl,rfl⟩,rfl,rfl⟩:=h;simp only[bn] at hv;obtain⟨b,x,rfl,e2,e3⟩:=hv;obtain⟨hm1,q1⟩:=aiA C e3 h1;refine⟨hm1,λL hL=> ?_⟩;simp only[bn];exact⟨b,x,rfl,U8 _ _ _ e2,q1 L hL⟩
 | .clo f a b,g,hv,v',lt,m',l,l',h=>by simp only[lend] at h;replace h:=ay h;obtain⟨⟨a',la⟩,m1,l1,h1,h⟩:=h;simp only at h;replace h:=ay h;obtain⟨⟨b',lb⟩,m2,l2,h2,h⟩:=h;simp only[run_pure,kU,ql] at h;obtain⟨⟨rfl,rfl⟩,rfl,rfl⟩:=h;simp only[bn] at hv;obtain⟨x,y,rfl,e2,e3⟩:=hv;obtain⟨hm1,q1⟩:=ae9 C e2 h1;rw[hm1] at h2;obtain⟨hm2,q2⟩:=ae9 C e3 h2;refine⟨hm2,λL hL=> ?_⟩;simp only[bn];exact⟨x,y,rfl,q1 L (λr hr=>hL r (by simp[hr])),q2 L (λr hr=>hL r (by simp[hr]))⟩
 | .agg cs,g,hv,v',lt,m',l,l',h=>by simp only[lend] at h;replace h:=ay h;obtain⟨⟨a',la⟩,m1,l1,h1,h⟩:=h;simp only[run_pure,kU,ql] at h;obtain⟨⟨rfl,rfl⟩,rfl,rfl⟩:=h;simp only[bn] at hv;obtain⟨x,rfl,e2⟩:=hv;obtain⟨hm1,q1⟩:=ae9 C e2 h1;refine⟨hm1,λL hL=> ?_⟩;simp only[bn];exact⟨x,rfl,q1 L hL⟩
 | .Lp _ _ _ _,g,hv,v',lt,m',l,l',h=>aI h
 | .Zl _,g,hv,v',lt,m',l,l',h=>aI h
 | .undef,g,hv,v',lt,m',l,l',h=>aI h
def ae9{imp:List Nat}{cells:List Cell}(C:alS base U w m G imp cells):∀{vs:List V} {gs:List Value} (_:dI G.μ m (Gh U w G) vs gs) {vs':List V} {lt:List Nat} {m':Mem} {l l':Log}
  (_:(aiZ imp vs).run m l=some ((vs',lt),m',l')),m'=m/\∀L:List Nat,(∀r,r∈lt->r∈L)->dI (impμ (imp.map G.μ)) (xF 0 cells) (view w (aac U G L) (· ∈G.E)) vs' gs
 |[],gs,hv,v',lt,m',l,l',h=>by simp only[aiZ,run_pure,kU,ql] at h;obtain⟨⟨rfl,rfl⟩,rfl,rfl⟩:=h;simp only[dI] at hv;subst hv;exact⟨rfl,λ_ _=>by simp[dI]⟩
 |v::vs,gs,hv,v',lt,m',l,l',h=>by obtain⟨g,gs',rfl,hv1,hv2⟩:=qB hv;simp only[aiZ] at h;replace h:=ay h;obtain⟨⟨a',la⟩,m1,l1,h1,h⟩:=h;simp only at h;replace h:=ay h;obtain⟨⟨b',lb⟩,m2,l2,h2,h⟩:=h;simp only[run_pure,kU,ql] at h;obtain⟨⟨rfl,rfl⟩,rfl,rfl⟩:=h;obtain⟨hm1,q1⟩:=aiA C hv1 h1;rw[hm1] at h2;obtain⟨hm2,q2⟩:=ae9 C hv2 h2;refine⟨hm2,λL hL=> ?_⟩;simp only[dI];exact⟨g,gs',rfl,q1 L (λr hr=>hL r (by simp[hr])),q2 L (λr hr=>hL r (by simp[hr]))⟩
end
def afa{imp:List Nat}{cells:List Cell}(C:alS base U w m G imp cells):∀{vs:List V} {gs:List Value} (_:dI G.μ m (Gh U w G) vs gs) {row:Row} {lt:List Nat} {m':Mem} {l l':Log}
  (_:(XM imp vs).run m l=some ((row,lt),m',l')),m'=m/\∀L:List Nat,(∀r,r∈lt->r∈L)->jH (view w (aac U G L) (· ∈G.E)) row gs
 |[],gs,hv,row,lt,m',l,l',h=>by simp only[XM,run_pure,kU,ql] at h;obtain⟨⟨rfl,rfl⟩,rfl,rfl⟩:=h;exact⟨rfl,λ_ _=>by simp[jH]⟩
 |v::vs,gs,hv,row,lt,m',l,l',h=>by
  obtain⟨g,gs',rfl,hv1,hv2⟩:=qB hv;simp only[XM] at h;replace h:=ay h;obtain⟨⟨a',la⟩,m1,l1,h1,h⟩:=h;obtain⟨hm1,q1⟩:=aiA C hv1 h1;cases a' with
  |d x=>simp only at h;replace h:=ay h;obtain⟨⟨b',lb⟩,m2,l2,h2,h⟩:=h;simp only[run_pure,kU,ql] at h;obtain⟨⟨rfl,rfl⟩,rfl,rfl⟩:=h;rw[hm1] at h2;obtain⟨hm2,q2⟩:=afa C hv2 h2;refine⟨hm2,λL hL=> ?_⟩;have:=q1 L (λr hr=>hL r (by simp[hr]));simp only[bn] at this;exact⟨g,gs',rfl,this,q2 L (λr hr=>hL r (by simp[hr]))⟩
  |_=>exact aI h
def asY{imp:List Nat}{cells:List Cell}(C:alS base U w m G imp cells){v:V}{g:Value}(hv:bn G.μ m (Gh U w G) v g){v':V}{lt:List Nat}{m':Mem}{l l':Log}
  (h:(aiz imp v).run m l=some ((v',lt),m',l')):m'=m/\∀L:List Nat,(∀r,r∈lt->r∈L)->bn (impμ (imp.map G.μ)) (xF 0 cells) (view w (aac U G L) (· ∈G.E)) v' g:=by
 cases v with
 |ptr r off=>
  simp only[aiz] at h;replace h:=ay h;obtain⟨c,m1,l1,h1,h⟩:=h;rw[Ar] at h1;cases h1;cases hc:get r m with
  |none=>rw[hc] at h;exact aI h
  |some c=>
   rw[hc] at h;cases c with
   |box t cs=>
    simp only at h;replace h:=ay h;obtain⟨_,m2,l2,h1,h⟩:=h;obtain⟨hi,rfl,rfl⟩:=iC h1;replace h:=ay h;obtain⟨⟨row,la⟩,m2,l2,h1,h⟩:=h;simp only[run_pure,kU,ql] at h;obtain⟨⟨rfl,rfl⟩,rfl,rfl⟩:=h;have hro:r ∉ G.out:=λhr=>VB hi ((C.out r).1 hr)
    obtain⟨b,a,e1,e2,e3,e4⟩:=C.ok.cell r _ hc hro;obtain⟨hm,q⟩:=afa C e3 h1;refine⟨hm,λL hL=> ?_⟩;simp only[bn,hc] at hv|-;obtain⟨b',e5,e6⟩:=hv.2;rw[e1] at e5;cases e5;refine⟨b,0,by rw[Nat.zero_add];exact e6,aeb row 0 a.toList (λj u hj=> ?_) (q L (λk hk=>hL k (by simp[hk])))⟩;rw[Nat.zero_add];have hb:b∈G.F r:=by rw[e4];simp
    refine OY (N:=[b]) (λb' hb'=> ?_) b (by simp) a t _ e2 j u hj;simp only[List.mem_singleton] at hb';subst hb';refine⟨⟨(C.ok.lt _ (.inr ⟨r,hb⟩)).2.2,λk hk=> ?_⟩,C.ok.djE r _ hb⟩
    by_cases e:k=r
    ·rw[e];exact hL r (by simp)
    ·exact absurd hk (C.ok.dj r k (Ne.symm e) _ hb)
   |_=>exact aI h
 |Fg row off=>simp only[aiz,run_pure,kU,ql] at h;obtain⟨⟨rfl,rfl⟩,rfl,rfl⟩:=h;refine⟨rfl,λL hL=> ?_⟩;simp only[bn] at hv|-;obtain⟨b,o,e1,e2⟩:=hv;exact⟨b,o,e1,Rt U8 row b o e2⟩
 |_=>exact aI h
def ahg{A:Adv}{f:Nat}{imp:List Nat}{cells:List Cell}(C:alS base U w m G imp cells):
  ∀{vs:List V} {gs:List Value} {i:Nat} {N:List Nat} (_:VD A f G.μ m (eU w) (Gh U w G) i vs gs N) {vs':List V} {lt:List Nat} {m':Mem} {l l':Log}
  (_:(XO A imp f i vs).run m l=some ((vs',lt),m',l')),m'=m/\∀L:List Nat,(∀r,r∈lt->r∈L)->VD A f (impμ (imp.map G.μ)) (xF 0 cells) (eU w) (view w (aac U G L) (· ∈G.E)) i vs' gs N
 |[],gs,i,N,hv,v',lt,m',l,l',h=>by simp only[XO,run_pure,kU,ql] at h;obtain⟨⟨rfl,rfl⟩,rfl,rfl⟩:=h;exact⟨rfl,λ_ _=>hv⟩
 |v::vs,gs,i,N,hv,v',lt,m',l,l',h=>by
  simp only[VD] at hv;obtain⟨g,gs',N1,N2,rfl,rfl,hv1,hv2⟩:=hv;simp only[XO] at h;replace h:=ay h;obtain⟨⟨a',la⟩,m1,l1,h1,h⟩:=h;simp only at h;replace h:=ay h;obtain⟨⟨b',lb⟩,m2,l2,h2,h⟩:=h;simp only[run_pure,kU,ql] at h;obtain⟨⟨rfl,rfl⟩,rfl,rfl⟩:=h;have step:m1=m/\∀L:List Nat,(∀r,r∈la->r∈L)->(match OD A f i with
   |1=>∃x,a'=.d x/\ow (eU w) (view w (aac U G L) (· ∈G.E)) x g N1
   |_=>N1=[]/\bn (impμ (imp.map G.μ)) (xF 0 cells) (view w (aac U G L) (· ∈G.E)) a' g):=by
   split at h1
   ·rename_i hmo;rw[hmo] at hv1|-;simp only[run_pure,kU,ql] at h1;obtain⟨⟨rfl,rfl⟩,rfl,rfl⟩:=h1;refine⟨rfl,λL hL=> ?_⟩;obtain⟨x,hx,hq⟩:=hv1;exact⟨x,hx,abS U8 hq⟩
   ·rename_i hmo;rw[hmo] at hv1|-;obtain⟨hN,hv1⟩:=hv1;obtain⟨rfl,q⟩:=asY C hv1 h1;exact⟨rfl,λL hL=>⟨hN,q L hL⟩⟩
   ·rename_i aTr a1t;have hm1:∀(α:Prop) (β:Prop),(match OD A f i with|1=>α|_=>β)=β:=by
     intro α β;split
     ·rename_i e;exact absurd e aTr
     ·rfl
    rw[hm1] at hv1;obtain⟨hN,hv1⟩:=hv1;obtain⟨rfl,q⟩:=aiA C hv1 h1;refine⟨rfl,λL hL=> ?_⟩;rw[hm1];exact⟨hN,q L hL⟩
  obtain⟨hm1,q1⟩:=step;rw[hm1] at h2;obtain⟨hm2,q2⟩:=ahg C hv2 h2;refine⟨hm2,λL hL=> ?_⟩;simp only[VD];exact⟨g,gs',N1,N2,rfl,rfl,q1 L (λr hr=>hL r (by simp[hr])),q2 L (λr hr=>hL r (by simp[hr]))⟩
end
def agi{w:World}{U X:Nat->Prop}{b o:Nat}{v:Value}(h:view w U X b o=some v):U b/\¬X b/\w.cell? ⟨b,o,none⟩=some v:=by
 unfold view at h;split at h
 ·rename_i hc;exact⟨hc.1,hc.2,h⟩
 ·cases h
def aiB{w:World}{U X:Nat->Prop}{b o:Nat}{v:Value}(h1:U b)(h2:¬X b)(h3:w.cell? ⟨b,o,none⟩=some v):view w U X b o=some v:=by unfold view;rw[if_pos ⟨h1,h2⟩];exact h3
def cell_of_heap{w w':World}{b:Nat}(h:w'.heap[b]? =w.heap[b]?)(o:Nat):w'.cell? ⟨b,o,none⟩=w.cell? ⟨b,o,none⟩:=by simp[World.cell?,h]
def lt_of_cell{w:World}{b o:Nat}{v:Value}(h:w.cell? ⟨b,o,none⟩=some v):b<w.heap.size:=by have:=block_lt_of_cell h;simpa using this
section
variable {base:Nat} {U:Nat->Prop} {w w':World} {m:Mem} {G:GS}
def Jo.world(hg:Jo base U w m G)(hk:Keep G.E w w'){E':List Nat}(hn:E'.Nodup)(hE:∀b,b∈E'->(b∈G.E\/w.heap.size<=b)/\b<w'.heap.size):
  Jo base U w' m {G with E:=E'}/\(Gh U w G).le (Gh U w' {G with E:=E'}):=by
 have hnE:∀b,b<w.heap.size->b ∉ G.E->b ∉ E':=λb hb hx he=>by
  rcases(hE b he).1 with h|h
  ·exact hx h
  ·omega
 have hF:∀r b,b∈G.F r->w'.heap[b]? =w.heap[b]? :=λr b hb=>hk.block b (hg.lt b (.inr ⟨r,hb⟩)).1 (hg.djE r b hb)
 have hle:(Gh U w G).le (Gh U w' {G with E:=E'}):=by
  intro b o v hv;obtain⟨h1,h2,h3⟩:=agi hv;have hlt:=lt_of_cell h3;have hbE:b ∉ G.E:=λh=>h2 (.inl h)
  refine aiB h1 ?_ ((cell_of_heap (hk.block b hlt hbE) o).trans h3);rintro(h|h)
  ·exact hnE b hlt hbE h
  ·exact h2 (.inr h)
 refine⟨⟨?_,hg.dj,λr b hb=>hnE b (hg.lt b (.inr ⟨r,hb⟩)).1 (hg.djE r b hb),hg.nd,hn, ?_,λb hb=>hg.up b (Nat.le_trans hk.size hb),Nat.le_trans hg.bs hk.size,hg.none_,hg.out_⟩,hle⟩
 ·intro r c hc ho;exact Pz (vT _ _) hle rfl (λb hb=>hF r b hb) (hg.cell r c hc ho)
 ·rintro b (h|⟨r,h⟩)
  ·refine⟨(hE b h).2, ?_⟩;rcases(hE b h).1 with h'|h'
   ·exact(hg.lt b (.inl h')).2
   ·exact⟨Nat.le_trans hg.bs h',hg.up b h'⟩
  ·have:=hg.lt b (.inr ⟨r,h⟩);exact⟨Nat.lt_of_lt_of_le this.1 hk.size,this.2⟩
def alT:∀{L:List Nat} {m:Mem} {G:GS} (_:Jo base U w m G) (_:∀r,r∈L->r ∉ G.out) {x:Unit} {m':Mem} {l l':Log} (_:(freeze L).run m l=some (x,m',l')),
  ∃F',Jo base U w m' ⟨G.μ,F',G.E,G.out⟩/\GLe m G m' ⟨G.μ,F',G.E,G.out⟩/\(∀r,r∈L->F' r=[])/\(∀r,F' r=[]\/F' r=G.F r)/\(∀k,k ∉ L->get k m'=get k m)
 |[],m,G,hg,ho,x,m',l,l',h=>by simp only[Vm.freeze,run_pure,kU,ql] at h;obtain⟨_,rfl,rfl⟩:=h;exact⟨G.F,hg,GLe.refl _ _,by simp,λr=> .inr rfl,λ_ _=>rfl⟩
 |r::L,m,G,hg,ho,x,m',l,l',h=>by
  simp only[Vm.freeze] at h;replace h:=ay h;obtain⟨c,m1,l1,h1,h⟩:=h;rw[Ar] at h1;cases h1;cases hc:get r m with
  |none=>rw[hc] at h;exact aI h
  |some c=>
   rw[hc] at h;cases c with
   |arr fz fl ver s rows=>
    replace h:=ay h;obtain⟨_,m1,l1,h1,h⟩:=h;simp only[PE,kU,ql] at h1;obtain⟨_,rfl,rfl⟩:=h1;obtain⟨k1,k2,_⟩:=hg.freeze hc (ho r (by simp));obtain⟨F',q1,q2,q3,q4,q5⟩:=alT k1 (λk hk=>ho k (by simp[hk])) h;refine⟨F',q1,k2.trans q2, ?_, ?_, ?_⟩
    ·intro k hk;simp only[List.mem_cons] at hk;rcases hk with rfl|hk
     ·rcases q4 k with e|e
      ·exact e
      ·rw[e];simp
     ·exact q3 k hk
    ·intro k;rcases q4 k with e|e
     ·exact .inl e
     ·by_cases ek:k=r
      ·subst ek;rw[e];left;simp
      ·have e':F' k=upF G.F r [] k:=e;rw[e',lu _ ek];exact .inr rfl
    ·intro k hk;simp only[List.mem_cons,not_or] at hk;rw[q5 k hk.2,ou hk.1]
   |_=>exact aI h
def aje{k:IntKind}{x:D}{n:Int}(h:asInt k x=some n):x=.int k n:=by
 cases x<;>simp[asInt] at h;rename_i k' n'
 by_cases e:k'=k
 ·subst e;simp at h;subst h;rfl
 ·simp[e] at h
def ahh{x:D}{b:Bool}(h:asBool x=some b):x=.bool b:=by cases x<;>simp[asBool] at h;subst h;rfl
def ajf{x:D}{b:List UInt8}(h:alM x=some b):x=.str b:=by cases x<;>simp[alM] at h;subst h;rfl
def alU{s:Nat}{x:D}{rows:List Row}(h:axJ s x=some rows):∃o,x=.sl o s rows:=by
 cases x<;>simp[axJ] at h;rename_i o s' rows'
 by_cases e:s'=s
 ·subst e;simp at h;subst h;exact⟨o,rfl⟩
 ·rw[zM e] at h;simp at h
def asZ{s:Nat}{x:D}{rows:List Row}(h:auD s x=some rows):x=.sl true s rows:=by
 cases x<;>simp[auD] at h;rename_i o s' rows';cases o<;>simp at h
 by_cases e:s'=s
 ·subst e;simp at h;subst h;rfl
 ·rw[zM e] at h;simp at h
def apm{row:Row}{j:Nat}{x:D}{r:Row}(h:row.drop j=x::r):nth row j=x/\row.drop (j+1)=r:=by
 have h1:row[j]? =some x:=by
  have:(row.drop j)[0]? =some x:=by rw[h];rfl
  rwa [List.getElem?_drop,Nat.add_zero] at this
 refine⟨by simp[nth,h1], ?_⟩;rw[<-List.drop_drop,h];rfl
def Jo.ajg(hg:Jo base U w m G){N E:List Nat}(hE:(N++E).Perm G.E):Jo base U w m {G with E:=E}/\GLe m G m {G with E:=E}/\∀{x:D} {g:Value},ow (eU w) (Gh U w G) x g N->ro (Gh U w {G with E:=E}) x g:=by
 have hnd:=hE.nodup_iff.2 hg.ndE;have hmem:∀b,b∈N++E->b∈G.E:=λb hb=>hE.mem_iff.1 hb
 obtain⟨h1,h2⟩:=hg.less E (List.nodup_append.1 hnd).2.1 (λb hb=>hmem b (by simp[hb]));refine⟨h1,h2,fun{x g} q=>aEr h2.view x g N (OY λb hb=>⟨(hg.lt b (.inl (hmem b (by simp[hb])))).2.2, ?_⟩) q⟩;rintro(h|⟨r,h⟩)
 ·exact(List.nodup_append.1 hnd).2.2 b hb b h rfl
 ·exact hg.djE r b h (hmem b (by simp[hb]))
structure Grew(base:Nat)(U:Nat->Prop)(w:World)(m:Mem)(G:GS)(m':Mem)(G':GS)(E:List Nat):Prop where
 ok:Jo base U w m' G'
 le:GLe m G m' G'
 E:G'.E=E
 out:G'.out=G.out
 old:∀k c,get k m=some c->get k m'=some c
 μ:∀k c,get k m=some c->G'.μ k=G.μ k
def Grew.trans{m1 m2 m3:Mem}{G1 G2 G3:GS}{E E':List Nat}(a:Grew base U w m1 G1 m2 G2 E)(b:Grew base U w m2 G2 m3 G3 E'):Grew base U w m1 G1 m3 G3 E':=
 ⟨b.ok,a.le.trans b.le,b.E,b.out.trans a.out,λk c h=>b.old k c (a.old k c h),λk c h=>(b.μ k c (a.old k c h)).trans (a.μ k c h)⟩
def abT{k:Nat}{c:Cell}{x:Unit}{m':Mem}{l l':Log}(h:(new k c).run m l=some (x,m',l')):get k m=none/\m'=put k c m:=by
 simp only[new] at h;replace h:=ay h;obtain⟨_,m1,l1,h1,h⟩:=h;simp only[free] at h1;replace h1:=ay h1;obtain⟨c',m2,l2,h2,h1⟩:=h1;rw[Ar] at h2;cases h2;cases hc:get k m with
 |some c=>rw[hc] at h1;exact aI h1
 |none=>rw[hc] at h1;simp only[run_pure,kU,ql] at h1;obtain⟨_,rfl,rfl⟩:=h1;simp only[PE,kU,ql] at h;exact⟨rfl,h.2.1.symm⟩
def alV(hg:Jo base U w m G)(ho:∀r,r∈G.out->∃c,get r m=some c){k:Nat}{fl:Bool}{s:Nat}{rows:List Row}{g:Value}{N E:List Nat}(hE:(N++E).Perm G.E)
  (hq:ow (eU w) (Gh U w G) (.sl true s rows) g N) {x:Unit} {m':Mem} {l l':Log} (h:(new k (.arr false fl 0 s rows)).run m l=some (x,m',l')):
  ∃G',Grew base U w m G m' G' E/\bn G'.μ m' (Gh U w G') (.own k 0) g:=by
 obtain⟨hn,rfl⟩:=abT h;have hk:k ∉ G.out:=λhx=>by obtain⟨c,hc⟩:=ho k hx;rw[hn] at hc;cases hc
 obtain⟨F',h1,h2⟩:=hg.aFP fl hn hk hE hq;refine⟨_,⟨h1,h2,rfl,rfl,λj c hj=> ?_,λj c hj=> ?_⟩, ?_⟩
 ·have hne:j≠k:=λe=>by subst e;rw[hn] at hj;cases hj
  rw[ou hne];exact hj
 ·exact Rx _ (λe=>by subst e;rw[hn] at hj;cases hj)
 ·have:aea g:=by simp only[ow] at hq;rcases hq with⟨_,rfl,_⟩|⟨b,cap,cs,t,N',rfl,_⟩<;>exact⟨_,_,_,rfl⟩
  simp[bn,kD,this]
def as1(hg:Jo base U w m G)(ho:∀r,r∈G.out->∃c,get r m=some c){k b:Nat}{T:TypeId}{vs:List V}{a:Array Value}{E:List Nat}(hE:(b::E).Perm G.E)
  (hH:eU w b=some (.cells a T (0,0))) (hq:dI G.μ m (Gh U w G) vs a.toList) {x:Unit} {m':Mem} {l l':Log} (h:(new k (.box T vs)).run m l=some (x,m',l')):
  ∃G',Grew base U w m G m' G' E/\bn G'.μ m' (Gh U w G') (.ptr k 0) (.pointer (some ⟨b,0,none⟩)):=by
 obtain⟨hn,rfl⟩:=abT h;have hk:k ∉ G.out:=λhx=>by obtain⟨c,hc⟩:=ho k hx;rw[hn] at hc;cases hc
 have hnd:=hE.nodup_iff.2 hg.ndE;have hμ:∀j,j≠k->upM G.μ k (.pointer (some ⟨b,0,none⟩)) j=G.μ j:=λj e=>Rx _ e
 have hle:JE G.μ m (upM G.μ k (.pointer (some ⟨b,0,none⟩))) (put k (.box T vs) m):=Jp hμ (λc h=>by rw[hn] at h;cases h);obtain⟨h1,h2⟩:=hg.set k (.box T vs) (upM G.μ k (.pointer (some ⟨b,0,none⟩))) [b] E G.out (by simpa using hnd) (λx hx=> .inr (hE.mem_iff.1 (by simpa using hx))) hle hμ (λ_ _=>Iff.rfl) (λh=>absurd h hk)
  (λhv _=>⟨b,a,Ue _ _ _,hH,vU hle hv _ _ hq,rfl⟩)
 refine⟨_,⟨h1,h2,rfl,rfl,λj c hj=> ?_,λj c hj=> ?_⟩, ?_⟩
 ·rw[ou (λe=>by subst e;rw[hn] at hj;cases hj)];exact hj
 ·exact Rx _ (λe=>by subst e;rw[hn] at hj;cases hj)
 ·simp[bn,kD,axR]
def ahi(hg:Jo base U w m G)(ho:∀r,r∈G.out->∃c,get r m=some c){row:Row}{j:Nat}{x:D}{g:Value}{N E:List Nat}(hE:(N++E).Perm G.E)(hx:nth row j=x)
  (hq:ow (eU w) (Gh U w G) x g N) {ct:CT} {own fl:Bool} {key:Nat} {v:V} {m':Mem} {l l':Log}
  (h:(Uc own fl key row j ct).run m l=some (v,m',l')):
  ∃G',Grew base U w m G m' G' E/\bn G'.μ m' (Gh U w G') v g:=by
 obtain⟨d1,d2,d3⟩:=hg.ajg hE;have plain:Grew base U w m G m {G with E:=E} E:=⟨d1,d2,rfl,rfl,λ_ _ h=>h,λ_ _ _=>rfl⟩
 have hro:=d3 hq;cases ct with
 |int k=>
  simp only[Uc,jq,hx,Acc.run] at h;cases ha:asInt k x with
  |none=>simp[ha,Acc.run] at h
  |some n=>simp only[ha,Acc.run,kU,ql] at h;obtain⟨rfl,rfl,rfl⟩:=h;refine⟨_,plain, ?_⟩;rw[aje ha] at hro;simpa[bn] using hro
 |bool=>
  simp only[Uc,alN,hx,Acc.run] at h;cases ha:asBool x with
  |none=>simp[ha,Acc.run] at h
  |some n=>simp only[ha,Acc.run,kU,ql] at h;obtain⟨rfl,rfl,rfl⟩:=h;refine⟨_,plain, ?_⟩;rw[ahh ha] at hro;simpa[bn] using hro
 |str=>
  simp only[Uc,cStr,hx,Acc.run] at h;cases ha:alM x with
  |none=>simp[ha,Acc.run] at h
  |some n=>simp only[ha,Acc.run,kU,ql] at h;obtain⟨rfl,rfl,rfl⟩:=h;refine⟨_,plain, ?_⟩;rw[ajf ha] at hro;simpa[bn] using hro
 |other=>exact aI h
 |sl s=>
  cases own with
  |false=>
   simp only[Uc,cSl,hx,Acc.run] at h;cases ha:axJ s x with
   |none=>simp[ha,Acc.run] at h
   |some n=>simp only[ha,Acc.run,kU,ql] at h;obtain⟨rfl,rfl,rfl⟩:=h;refine⟨_,plain, ?_⟩;obtain⟨o,rfl⟩:=alU ha;simp only[bn];exact ai8 hro
  |true=>
   simp only[Uc,axK,hx,Acc.run] at h;cases ha:auD s x with
   |none=>simp[ha,Acc.run] at h
   |some n=>simp only[ha,Acc.run] at h;have:=asZ ha;subst this;replace h:=ay h;obtain⟨_,m1,l1,h1,h⟩:=h;obtain⟨rfl,rfl,rfl⟩:=ZI h;exact alV hg ho hE hq h1
def OG{H:Heap}{h:View}{x:D}{r:Row}{cs:List Value}{N:List Nat}(q:jU H h (x::r) cs N):∃v cs' N1 N2,cs=v::cs'/\N=N1++N2/\ow H h x v N1/\jU H h r cs' N2:=by simpa[jU] using q
def agj{N1 N2 E E0:List Nat}(h:(N1++N2++E).Perm E0):(N1++(N2++E)).Perm E0:=by rwa [QW] at h
def ajh{own:List Nat}{r dst:Nat}{row:Row}:∀{cts:List CT} {fs:List Bool} {j:Nat} {m:Mem} {G:GS} {gs:List Value} {N E:List Nat} (_:Jo base U w m G) (_:∀r,r∈G.out->∃c,get r m=some c)
  (_:(N++E).Perm G.E) (_:jU (eU w) (Gh U w G) (row.drop j) gs N) (_:row.length=j+cts.length) (_:gs.length=cts.length) {vs:List V} {m':Mem} {l l':Log}
  (_:(ae2 own r dst row j cts fs).run m l=some (vs,m',l')),∃G',Grew base U w m G m' G' E/\dI G'.μ m' (Gh U w G') vs gs
 |[],fs,j,m,G,gs,N,E,hg,ho,hE,hq,hlen,hgl,vs,m',l,l',h=>by simp only[ae2,run_pure,kU,ql] at h;obtain⟨rfl,rfl,rfl⟩:=h;rw[List.drop_eq_nil_of_le (by simp at hlen;omega)] at hq;simp only[jU] at hq;subst hq;simp at hgl;subst hgl;obtain⟨d1,d2,_⟩:=hg.ajg hE;exact⟨_,⟨d1,d2,rfl,rfl,λ_ _ h=>h,λ_ _ _=>rfl⟩,by simp[dI]⟩
 |ct::cts,fs,j,m,G,gs,N,E,hg,ho,hE,hq,hlen,hgl,vs,m',l,l',h=>by
  cases hd:row.drop j with
  |nil=>have:=congrArg List.length hd;simp at this hlen;omega
  |cons x rest=>obtain⟨hx,hrest⟩:=apm hd;rw[hd] at hq;obtain⟨g,gs',N1,N2,rfl,rfl,q1,q2⟩:=OG hq;simp only[ae2] at h;replace h:=ay h;obtain⟨v,m1,l1,h1,h⟩:=h;replace h:=ay h;obtain⟨vs',m2,l2,h2,h⟩:=h;obtain⟨rfl,rfl,rfl⟩:=ZI h;obtain⟨G1,t1,s1⟩:=ahi hg ho (agj hE) hx q1 h1;obtain⟨G2,t2,s2⟩:=ajh t1.ok (λk hk=>by rw[t1.out] at hk;obtain⟨c,hc⟩:=ho k hk;exact⟨c,t1.old k c hc⟩) (by rw[t1.E]) (by rw[hrest];exact aee t1.le.view q2) (by simp at hlen;omega) (by simpa using hgl) h2;refine⟨G2,t1.trans t2, ?_⟩;simp only[dI];exact⟨g,gs',rfl,t2.le.bn s1,s2⟩
def aad{att:List Nat}{dst ri:Nat}{row:Row}:∀{cts:List CT} {fs:List Bool} {j:Nat} {m:Mem} {G:GS} {gs:List Value} {N E:List Nat} (_:Jo base U w m G) (_:∀r,r∈G.out->∃c,get r m=some c)
  (_:(N++E).Perm G.E) (_:jU (eU w) (Gh U w G) (row.drop j) gs N) (_:row.length=j+cts.length) (_:gs.length=cts.length) {vs:List V} {m':Mem} {l l':Log}
  (_:(XP att dst ri row j cts fs).run m l=some (vs,m',l')),∃G',Grew base U w m G m' G' E/\dI G'.μ m' (Gh U w G') vs gs
 |[],fs,j,m,G,gs,N,E,hg,ho,hE,hq,hlen,hgl,vs,m',l,l',h=>by simp only[XP,run_pure,kU,ql] at h;obtain⟨rfl,rfl,rfl⟩:=h;rw[List.drop_eq_nil_of_le (by simp at hlen;omega)] at hq;simp only[jU] at hq;subst hq;simp at hgl;subst hgl;obtain⟨d1,d2,_⟩:=hg.ajg hE;exact⟨_,⟨d1,d2,rfl,rfl,λ_ _ h=>h,λ_ _ _=>rfl⟩,by simp[dI]⟩
 |ct::cts,fs,j,m,G,gs,N,E,hg,ho,hE,hq,hlen,hgl,vs,m',l,l',h=>by
  cases hd:row.drop j with
  |nil=>have:=congrArg List.length hd;simp at this hlen;omega
  |cons x rest=>obtain⟨hx,hrest⟩:=apm hd;rw[hd] at hq;obtain⟨g,gs',N1,N2,rfl,rfl,q1,q2⟩:=OG hq;simp only[XP] at h;replace h:=ay h;obtain⟨v,m1,l1,h1,h⟩:=h;replace h:=ay h;obtain⟨vs',m2,l2,h2,h⟩:=h;obtain⟨rfl,rfl,rfl⟩:=ZI h;obtain⟨G1,t1,s1⟩:=ahi hg ho (agj hE) hx q1 h1;obtain⟨G2,t2,s2⟩:=aad t1.ok (λk hk=>by rw[t1.out] at hk;obtain⟨c,hc⟩:=ho k hk;exact⟨c,t1.old k c hc⟩) (by rw[t1.E]) (by rw[hrest];exact aee t1.le.view q2) (by simp at hlen;omega) (by simpa using hgl) h2;refine⟨G2,t1.trans t2, ?_⟩;simp only[dI];exact⟨g,gs',rfl,t2.le.bn s1,s2⟩
def valOf(P:Program)(t:TypeId)(cs:List Value)(g:Value):Prop:=if QX P t=true then g=.agg cs.toArray else cs=[g]
def aji(P:Program)(H:Heap)(h:View)(t:TypeId)(row:Row)(g:Value)(N:List Nat):Prop:=match anC P t with
 |some T=>∃b a N1,g=.pointer (some ⟨b,0,none⟩)/\H b=some (.cells a T (0,0))/\jU H h row a.toList N1/\row.length=a.size/\N=b::N1
 |none=>∃cs,valOf P t cs g/\jU H h row cs N/\row.length=cs.length
def alW{P:Program}{H H':Heap}{h h':View}(hl:h.le h'){t:TypeId}{row:Row}{g:Value}{N:List Nat}(hb:∀b,b∈N->H' b=H b)(q:aji P H h t row g N):aji P H' h' t row g N:=by
 unfold aji at q|-;split at q
 ·obtain⟨b,a,N1,h1,h2,h3,h4,rfl⟩:=q;exact⟨b,a,N1,h1,(hb b (by simp)).trans h2,Ru hl _ _ _ (λb hx=>hb b (by simp[hx])) h3,h4,rfl⟩
 ·obtain⟨cs,h1,h2,h3⟩:=q;exact⟨cs,h1,Ru hl _ _ _ hb h2,h3⟩
def Uf{P:Program}{H:Heap}{h:View}{t:TypeId}{row:Row}{g:Value}{N:List Nat}(hp:anC P t=none):aji P H h t row g N↔∃cs,valOf P t cs g/\jU H h row cs N/\row.length=cs.length:=by simp only[aji,hp]
def XT(P:Program)(H:Heap)(h:View):List TypeId->List Row->List Value->List Nat->Prop
 |[],rows,gs,N=>rows=[]/\gs=[]/\N=[]
 |t::ts,rows,gs,N=>∃row rows' g gs' N1 N2,rows=row::rows'/\gs=g::gs'/\N=N1++N2/\aji P H h t row g N1/\XT P H h ts rows' gs' N2
def VE{P:Program}{H H':Heap}{h h':View}(hl:h.le h'):∀{ts:List TypeId} {rows:List Row} {gs:List Value} {N:List Nat},(∀b,b∈N->H' b=H b)->XT P H h ts rows gs N->XT P H' h' ts rows gs N
 |[],_,_,_,_,q=>q
 |t::ts,_,_,_,hb,⟨row,rows',g,gs',N1,N2,e1,e2,e3,h1,h4⟩=>by subst e3;exact⟨row,rows',g,gs',N1,N2,e1,e2,rfl,alW hl (λb hx=>hb b (by simp[hx])) h1,VE hl (λb hx=>hb b (by simp[hx])) h4⟩
def Ry{P:Program}{t:TypeId}{vs:List V}{v:V}(h:Px P t vs=some v){μ:Nat->Value}{hh:View}{cs:List Value}{g:Value}(hq:dI μ m hh vs cs)(hg:valOf P t cs g):bn μ m hh v g:=by
 unfold Px at h;unfold valOf at hg;cases ha:QX P t with
 |true=>simp only[ha,aH,if_true,kU] at h hg;subst h;simp only[bn];exact⟨_,hg,by simpa using hq⟩
 |false=>
  simp only[ha,bG,Bool.false_eq_true,if_false] at h hg;split at h
  ·cases h;obtain⟨g',gs',e,q1,q2⟩:=qB hq;rw[hg] at e;cases e;exact q1
  ·cases h
def alf{res:List Row}{ri:Nat}{row:Row}{rows:List Row}(h:res.drop ri=row::rows):ai0 res ri=row/\res.drop (ri+1)=rows:=by
 have h1:res[ri]? =some row:=by
  have:(res.drop ri)[0]? =some row:=by rw[h];rfl
  rwa [List.getElem?_drop,Nat.add_zero] at this
 refine⟨by simp[ai0,h1], ?_⟩;rw[<-List.drop_drop,h];rfl
def av3{X:Ctx}{att:List Nat}{dst ri:Nat}{row:Row}{t:TypeId}{g:Value}{N E:List Nat}(hg:Jo base U w m G)(ho:∀r,r∈G.out->∃c,get r m=some c)
  (hE:(N++E).Perm G.E) (hq:aji X.P (eU w) (Gh U w G) t row g N) {v:V} {m':Mem} {l l':Log}
  (h:(asU X att dst ri row t).run m l=some (v,m',l')):∃G',Grew base U w m G m' G' E/\bn G'.μ m' (Gh U w G') v g:=by
 unfold aji at hq;unfold asU at h;split at hq
 ·rename_i T hT;simp only[hT] at h;obtain⟨b,a,N1,rfl,h1,h2,h3,rfl⟩:=hq;replace h:=ay h;obtain⟨_,m1,l1,k1,h⟩:=h;obtain⟨hlen,rfl,rfl⟩:=iC k1;replace h:=ay h;obtain⟨vc,m2,l2,k2,h⟩:=h;replace h:=ay h;obtain⟨_,m3,l3,k3,h⟩:=h;simp only[run_pure,kU,ql] at h;obtain⟨rfl,rfl,rfl⟩:=h;have hlen:=Kr hlen;obtain⟨G1,t1,s1⟩:=aad (N:=N1) (E:=b::E) hg ho (by refine List.Perm.trans List.perm_middle ?_;exact hE) (by simpa using h2) (by simpa using hlen) (by rw[Array.length_toList,<-h3];exact hlen) k2;obtain⟨G2,t2,s2⟩:=as1 t1.ok (λk hk=>by rw[t1.out] at hk;obtain⟨c,hc⟩:=ho k hk;exact⟨c,t1.old k c hc⟩) (by rw[t1.E]) h1 s1 k3;exact⟨G2,t1.trans t2,s2⟩
 ·rename_i hT;simp only[hT] at h;obtain⟨cs,h1,h2,h3⟩:=hq;replace h:=ay h;obtain⟨_,m1,l1,k1,h⟩:=h;obtain⟨hlen,rfl,rfl⟩:=iC k1;replace h:=ay h;obtain⟨vc,m2,l2,k2,h⟩:=h;obtain⟨hv,rfl,rfl⟩:=lS h;have hlen:=Kr hlen;obtain⟨G1,t1,s1⟩:=aad hg ho hE (by simpa using h2) (by simpa using hlen) (by rw[<-h3];exact hlen) k2;exact⟨G1,t1,Ry hv s1 h1⟩
def alX{X:Ctx}{att:List Nat}{dst:Nat}{res:List Row}:∀{ts:List TypeId} {ri:Nat} {m:Mem} {G:GS} {gs:List Value} {N E:List Nat} (_:Jo base U w m G) (_:∀r,r∈G.out->∃c,get r m=some c)
  (_:(N++E).Perm G.E) (_:XT X.P (eU w) (Gh U w G) ts (res.drop ri) gs N) {vs:List V} {m':Mem} {l l':Log}
  (_:(ad5 X att dst res ri ts).run m l=some (vs,m',l')),∃G',Grew base U w m G m' G' E/\dI G'.μ m' (Gh U w G') vs gs
 |[],ri,m,G,gs,N,E,hg,ho,hE,hq,vs,m',l,l',h=>by simp only[ad5,run_pure,kU,ql] at h;obtain⟨rfl,rfl,rfl⟩:=h;obtain⟨_,rfl,rfl⟩:=hq;obtain⟨d1,d2,_⟩:=hg.ajg hE;exact⟨_,⟨d1,d2,rfl,rfl,λ_ _ h=>h,λ_ _ _=>rfl⟩,by simp[dI]⟩
 |t::ts,ri,m,G,gs,N,E,hg,ho,hE,hq,vs,m',l,l',h=>by obtain⟨row,rows',g,gs',N1,N2,e1,rfl,rfl,h1,h4⟩:=hq;obtain⟨hrow,hrest⟩:=alf e1;simp only[ad5] at h;replace h:=ay h;obtain⟨v,m3,l3,k3,h⟩:=h;replace h:=ay h;obtain⟨vs',m4,l4,k4,h⟩:=h;obtain⟨rfl,rfl,rfl⟩:=ZI h;rw[hrow] at k3;obtain⟨G1,t1,s1⟩:=av3 hg ho (agj hE) h1 k3;obtain⟨G2,t2,s2⟩:=alX t1.ok (λk hk=>by rw[t1.out] at hk;obtain⟨c,hc⟩:=ho k hk;exact⟨c,t1.old k c hc⟩) (by rw[t1.E]) (by rw[hrest];exact VE t1.le.view (λ_ _=>rfl) h4) k4;refine⟨G2,t1.trans t2, ?_⟩;simp only[dI];exact⟨g,gs',rfl,t2.le.bn s1,s2⟩
mutual
def aBA{H:Heap}{h h':View}:∀(x:D) (v:Value) (N:List Nat),x.pure=true->ow H h x v N->ow H h' x v N
 | .int _ _,_,_,_,q=>by simpa[ow] using q
 | .bool _,_,_,_,q=>by simpa[ow] using q
 | .str _,_,_,_,q=>by simpa[ow] using q
 | .ZG,_,_,_,q=>by simpa[ow] using q
 | .sl false s rows,v,N,hp,q=>by simp only[D.pure,List.isEmpty_iff] at hp;subst hp;simp only[ow,ro] at q|-;exact⟨q.1,by obtain⟨a,cap,h1,h2,_⟩:=q.2;exact⟨a,cap,h1,h2,λe=>absurd rfl e⟩⟩
 | .sl true s rows,v,N,hp,q=>by
  simp only[D.pure] at hp;simp only[ow] at q|-;rcases q with q|⟨b,cap,cs,t,N',h1,h2,h3,h4,h5,rfl⟩
  ·exact .inl q
  ·exact .inr ⟨b,cap,cs,t,N',h1,h2,h3,h4,ahj s rows _ N' hp h5,rfl⟩
def ahj{H:Heap}{h h':View}(s:Nat):∀(rows:List Row) (cs:List Value) (N:List Nat),I5 rows=true->iU H h s rows cs N->iU H h' s rows cs N
 |[],_,_,_,q=>by simpa[iU] using q
 |r::rs,cs,N,hp,q=>by simp only[I5,zq] at hp;simp only[iU] at q|-;obtain⟨h1,N1,N2,rfl,h2,h3⟩:=q;exact⟨h1,N1,N2,rfl,YI r _ N1 hp.1 h2,ahj s rs _ N2 hp.2 h3⟩
def YI{H:Heap}{h h':View}:∀(r:Row) (cs:List Value) (N:List Nat),fB r=true->jU H h r cs N->jU H h' r cs N
 |[],_,_,_,q=>by simpa[jU] using q
 |x::r,cs,N,hp,q=>by simp only[fB,zq] at hp;simp only[jU] at q|-;obtain⟨v,cs',N1,N2,rfl,rfl,h2,h3⟩:=q;exact⟨v,cs',N1,N2,rfl,rfl,aBA x v N1 hp.1 h2,YI r cs' N2 hp.2 h3⟩
end
def ajj{P:Program}{H:Heap}{h h':View}:∀{ts:List TypeId} {rows:List Row} {gs:List Value} {N:List Nat},rows.all fB=true->XT P H h ts rows gs N->XT P H h' ts rows gs N
 |[],_,_,_,_,q=>q
 |t::ts,_,_,_,hp,⟨row,rows',g,gs',N1,N2,e1,e2,e3,h1,h4⟩=>by
  subst e1;simp only[List.all_cons,zq] at hp;refine⟨row,rows',g,gs',N1,N2,rfl,e2,e3, ?_,ajj hp.2 h4⟩;unfold aji at h1|-;split at h1
  ·obtain⟨b,a,M,k1,k2,k3,k4,k5⟩:=h1;exact⟨b,a,M,k1,k2,YI _ _ _ hp.1 k3,k4,k5⟩
  ·obtain⟨cs,k1,k2,k3⟩:=h1;exact⟨cs,k1,YI _ _ _ hp.1 k2,k3⟩
def drop_cons{α:Type}{l:List α}{i:Nat}{a:α}{r:List α}(h:l.drop i=a::r):l[i]? =some a/\l.drop (i+1)=r:=by
 refine⟨?_,by rw[<-List.drop_drop,h];rfl⟩;have:(l.drop i)[0]? =some a:=by rw[h];rfl
 rwa [List.getElem?_drop,Nat.add_zero] at this
def aFQ(xs:List D):(xs.map V.d).map vD=xs:=by
 induction xs with
 |nil=>rfl
 |cons x xs ih=>simp[vD,ih]
def ajk{m m':Mem}(h:∀k c,get k m=some c->get k m'=some c):∀{rs:List Nat} {cs:List Cell},kinds m rs cs->kinds m' rs cs
 |[],_,q=>q
 |r::rs,_,⟨c,c',cs',h1,h2,h3,h4⟩=>⟨c,c',cs',h1,h r c h2,h3,ajk h h4⟩
def alY{m:Mem}{r:Nat}{c0:Cell}:∀{rs:List Nat} {cs:List Cell},r ∉ rs->kinds m rs cs->kinds (put r c0 m) rs cs
 |[],_,_,q=>q
 |k::rs,_,hr,⟨c,c',cs',h1,h2,h3,h4⟩=>by simp only[List.mem_cons,not_or] at hr;exact⟨c,c',cs',h1,by rw[ou (Ne.symm hr.1)];exact h2,h3,alY hr.2 h4⟩
structure Came(base:Nat)(U:Nat->Prop)(w:World)(m:Mem)(G:GS)(m':Mem)(G':GS)(E:List Nat):Prop where
 ok:Jo base U w m' G'
 le:GLe m G m' G'
 E:G'.E=E
 out:G'.out=[]
def Ug{H:Heap}{h h':View}(hl:h.le h'){cs:List Cell}{gs:List Value}{N:List Nat}(q:cellsB H h cs gs N):cellsB H h' cs gs N:=ahe hl (λ_ _=>rfl) q
def ajl{X:Ctx}{dst:Nat}{outs:List Cell}:∀{rs:List Nat} {i:Nat} {m:Mem} {G:GS} {N E:List Nat} (_:Jo base U w m G) (_:rs.Nodup) (_:G.out=rs) (_:kinds m rs (outs.drop i))
  (_:(N++E).Perm G.E) (_:cellsB (eU w) (Gh U w G) (outs.drop i) (rs.map G.μ) N) {x:Unit} {m':Mem} {l l':Log} (_:(ag9 X dst outs i rs).run m l=some (x,m',l')),
  ∃G',Came base U w m G m' G' E
 |[],i,m,G,N,E,hg,hn,ho,hk,hE,hq,x,m',l,l',h=>by simp only[ag9,run_pure,kU,ql] at h;obtain⟨_,rfl,rfl⟩:=h;obtain⟨d1,d2,_⟩:=hg.ajg hE;exact⟨_,d1,d2,rfl,ho⟩
 |r::rs,i,m,G,N,E,hg,hn,ho,hk,hE,hq,x,m',l,l',h=>by
  obtain⟨c,c',cs',e1,hc,hsk,hk'⟩:=hk;have hnr:=List.nodup_cons.1 hn;obtain⟨hi,hdrop⟩:=drop_cons e1;rw[e1] at hq;obtain⟨g,gs',N1,N2,eg,rfl,q1,q2⟩:=hq;simp only[zmc,List.cons.injEq] at eg;obtain⟨rfl,rfl⟩:=eg;have hout:∀k,k∈G.out->∃c,get k m=some c:=by
   intro k hkm;rw[ho] at hkm;simp only[List.mem_cons] at hkm;rcases hkm with rfl|hkm
   ·exact⟨c,hc⟩
   ·obtain⟨j,hj⟩:=List.getElem?_of_mem hkm;obtain⟨c2,_,h2,_⟩:=ajd hk' hj;exact⟨c2,h2⟩
  simp only[ag9] at h;replace h:=ay h;obtain⟨c0,m1,l1,h1,h⟩:=h;rw[Ar] at h1;cases h1;rw[hc] at h;cases c with
  |box t cs=>
   cases c' with
   |box t' vs=>
    obtain rfl:t=t':=hsk;obtain⟨b,a,xs,N',hμ,hH,hvs,hxl,hrow,rfl⟩:=q1;simp only at h;obtain⟨hbl,h⟩:=bck h;replace h:=ay h;obtain⟨vs',m3,l3,h3,h⟩:=h;replace h:=ay h;obtain⟨_,m4,l4,h4,h⟩:=h;rw[PE] at h4;cases h4;have hbx:axO outs i=xs:=by simp only[axO,hi,hvs];exact aFQ xs
    have hbl:xs.length=(Q8 X.P t).length:=by simp only[axP,hi] at hbl;have:=Kr hbl;rw[hvs,List.length_map] at this;exact this
    rw[hbx] at h3;obtain⟨G1,t1,s1⟩:=ajh hg hout (N:=N') (E:=b::(N2++E)) (List.Perm.trans (by have:(N'++b::(N2++E)).Perm (b::(N'++(N2++E))):=List.perm_middle;refine this.trans ?_;simp[QW]) hE) (by simpa using hrow) (by simpa using hbl) (by rw[<-hxl];exact hbl) h3;have hc1:=t1.old r _ hc;have aJo:=t1.ok.ndE;rw[t1.E] at aJo;have hset:=t1.ok.set r (.box t vs') G1.μ [b] (N2++E) rs (by simpa using aJo) (λk hk=> .inr (by rw[t1.E];simpa using hk))
     (Jp (λ_ _=>rfl) (λc h=>by rw[hc1] at h;cases h;exact⟨rfl,rfl⟩)) (λ_ _=>rfl)
     (λk hne=>by rw[t1.out,ho];simp[hne]) (λhr=>absurd hr hnr.1)
     (λhv _=>⟨b,a,by rw[t1.μ r _ hc];exact hμ,hH,vU (Jp (λ_ _=>rfl) (λc h=>by rw[hc1] at h;cases h;exact⟨rfl,rfl⟩)) hv _ _ s1,rfl⟩)
    obtain⟨k1,k2⟩:=hset;obtain⟨G2,f1,f2,f3,f4⟩:=ajl k1 hnr.2 rfl (alY hnr.1 (ajk t1.old (by rw[hdrop];exact hk'))) (N:=N2) (E:=E) (List.Perm.refl _)
     (by
      rw[hdrop];have hmap:rs.map G1.μ=rs.map G.μ:=List.map_congr_left λk hk=>by obtain⟨c2,h2⟩:=hout k (by rw[ho];simp[hk]);exact t1.μ k c2 h2
      simp only[hmap];exact Ug (t1.le.view.trans' k2.view) q2) h
    exact⟨G2,f1,(t1.le.trans k2).trans f2,f3,f4⟩
   |_=>exact hsk.elim
  |arr fz fl ver s rows=>simp only at h;replace h:=ay h;obtain⟨_,m2,l2,h2,h⟩:=h;exact aI h2
  |_=>exact hsk.elim
def axW{h:View}(s:List UInt8):∀(cs:List Value),cs=s.map (λb=>Value.int .u8 b.toNat)->jF h 1 (s.map byteRow) cs:=by
 induction s with
 |nil=>intro cs _;simp[jF]
 |cons b s ih=>intro cs e;subst e;simp only[zmc,jF,byteRow];exact⟨rfl,by simp[jH,ro],ih _ rfl⟩
end
def Xq(b o j:Nat):(⟨b,o,none⟩:Addr).add j=⟨b,o+j,none⟩:=by
 unfold Addr.add;split
 ·rename_i h;subst h;rfl
 ·rfl
def Ku{P:Program}{t:TypeId}(h:UD P t=true):∃d,P.underlying t=some d:=by
 unfold UD at h;cases hu:P.underlying t with
 |none=>simp[hu] at h
 |some d=>exact⟨d,rfl⟩
def Gu{P:Program}{t:TypeId}{d:TypeDesc}(h:P.underlying t=some d):∃i,P.info? t=some i:=by
 unfold Program.underlying at h;cases hi:P.info? t with
 |none=>simp[hi] at h
 |some i=>exact⟨i,rfl⟩
def PG{P:Program}{t:TypeId}{i:TypeInfo}(h:P.info? t=some i):uh P t=i.size:=by simp[uh,h]
section
variable {P:Program} {w:World}
def XU{t:TypeId}{d:TypeDesc}(h:P.underlying t=some d)(w:World):(isAgg t).run P w=.ok (QX P t) w:=by unfold isAgg QX;rw[Sem.run_bind,run_underlying h w,h];cases d<;>rfl
def VF{t:TypeId}{b off:Nat}{cs:List Value}{g:Value}(hok:UD P t=true)(hlen:cs.length=uh P t)(hc:∀j v,cs[j]? =some v->w.cell? ⟨b,off+j,none⟩=some v)(hg:valOf P t cs g):
  (Instr.loadAt t (.pointer (some ⟨b,off,none⟩))).run P w=.ok g w:=by
 obtain⟨d,hd⟩:=Ku hok;obtain⟨i,hi⟩:=Gu hd;have hsz:i.size=cs.length:=by rw[hlen,PG hi]
 unfold Instr.loadAt Instr.sureAddr;simp only[Sem.run_bind,Sem.run_pure,Result.andThen_ok,loadVar,XU hd];unfold valOf at hg;cases ha:QX P t with
 |true=>simp only[ha,if_true] at hg;subst hg;have hl:=run_loadCells_list (P:=P) w ⟨b,off,none⟩ cs (λj v hv=>by rw[Xq];exact hc j v hv);simp[sizeOf,typeInfo,hi,hsz,hl]
 |false=>simp only[ha,Bool.false_eq_true,if_false] at hg;subst hg;have:=hc 0 g rfl;simp only[Nat.add_zero] at this;simp[this]
def ahk{t T:TypeId}{b off:Nat}{cur:Array Value}{g:Value}(hok:UD P t=true)(hH:w.heap[b]? =some (.cells cur T (0,0)))(hlen:g.cells.size=uh P t)(hfit:off+g.cells.size<=cur.size)(h1:∀v∈g.cells.toList,v.oneCell'=true):
  (Instr.storeAt t (.pointer (some ⟨b,off,none⟩)) g).run P w=.ok () (w.setRow b (splice cur.toList off g.cells.toList).toArray):=by
 obtain⟨d,hd⟩:=Ku hok;obtain⟨i,hi⟩:=Gu hd;have hsz:g.cells.size=i.size:=by rw[hlen,PG hi]
 have hst:=run_storeCells_at P b off T g.cells.toList 0 cur w hH (by simpa using hfit) h1;simp only[Nat.add_zero] at hst;unfold Instr.storeAt Instr.sureAddr;simp only[Sem.run_bind,Sem.run_pure,Result.andThen_ok,storeVar,sizeOf,typeInfo,run_program,hi];simp[hsz,hst,splice]
def aae{T:TypeId}{f b off o n:Nat}{t:TypeId}(hf:YF P T f=some (o,n,t))(hn:1<=n):
  (Instr.fieldAt T (.pointer (some ⟨b,off,none⟩)) f).run P w=.ok (.pointer (some ⟨b,off+o,none⟩)) w:=by
 unfold YF at hf;cases hu:P.underlying T with
 |none=>simp[hu] at hf
 |some d=>
  rw[hu] at hf;cases d with
  |struct fs=>
   simp only at hf;cases hfd:fs[f]? with
   |none=>simp[hfd] at hf
   |some fd=>
    simp only[hfd,kU,ql] at hf;obtain⟨rfl,rfl,rfl⟩:=hf;cases hi:P.info? fd.type with
    |none=>simp[uh,hi] at hn
    |some i=>
     have hne:i.size≠0:=by rw[PG hi] at hn;omega
     unfold Instr.fieldAt;simp[run_underlying hu,hfd,Instr.sureAddr,fieldPlace,sizeOf,typeInfo,hi,hne,Xq]
  |_=>simp at hf
def XV{t e:TypeId}(h:elT P t=some e):P.underlying t=some (.slice e):=by
 unfold elT at h;cases hu:P.underlying t with
 |none=>simp[hu] at h
 |some d=>rw[hu] at h;cases d<;>simp at h;rw[h]
def run_indexAt{t e:TypeId}{k:IntKind}{i:Int}{b o n cap:Nat}(he:elT P t=some e){inf:TypeInfo}(hi:P.info? e=some inf)(h0:0<=i)(hn:i<n):
  (Instr.indexAt t (.slice (some ⟨b,o,none⟩) n cap) (.int k i)).run P w=.ok (.pointer (some ⟨b,o+i.toNat * inf.size,none⟩)) w:=by
 have hu:=XV he;have hc:0<=i/\i<(n:Int):=⟨h0,hn⟩
 unfold Instr.indexAt;simp[asIntOf,run_underlying hu,hc,sizeOf,typeInfo,hi,Xq]
structure Src(P:Program)(size:Nat)(w:World)(y:Value)(m:Nat)(news:List Value):Prop where
 len:(Builtin.lenOf y).run P w=.ok m w
 get:(Builtin.firstCells size m y).run P w=.ok news.toArray w
 lend:(Builtin.lenOf y).run P w.drew=.ok m w.drew
 aJp:(Builtin.firstCells size m y).run P w.drew=.ok news.toArray w.drew
 n:news.length=m * size
 one:∀u∈news,u.oneCell'=true
def Src.slice{size:Nat}{a:Option Addr}{m c:Nat}{news:List Value}(hl:news.length=m * size)(h1:∀u∈news,u.oneCell'=true)
  (h:m≠0->∃b o,a=some ⟨b,o,none⟩/\∀j v,news[j]? =some v->w.cell? ⟨b,o+j,none⟩=some v):Src P size w (.slice a m c) m news:=by
 have key:∀w':World,(∀x,w'.cell? x=w.cell? x)->(Builtin.firstCells size m (.slice a m c)).run P w'=.ok news.toArray w':=by
  intro w' hw
  by_cases hm:m=0
  ·subst hm;have:news=[]:=List.eq_nil_of_length_eq_zero (by simpa using hl);subst this;cases a with
   |none=>simp[Builtin.firstCells]
   |some a=>simp[Builtin.firstCells,loadCells,loadCellsFrom]
  ·obtain⟨b,o,rfl,hc⟩:=h hm;exact run_firstCells_some (P:=P) w' size m ⟨b,o,none⟩ m c news hl (λj v hv=>by rw[Xq,hw];exact hc j v hv)
 exact⟨by simp[Builtin.lenOf],key w (λ_=>rfl),by simp[Builtin.lenOf],key w.drew (λx=>rfl),hl,h1⟩
def Src.string{s:List UInt8}:Src P 1 w (.string ⟨⟨s⟩⟩) s.length (s.map λb=>Value.int .u8 b.toNat):=by
 have hsz:(⟨⟨s⟩⟩:ByteArray).size=s.length:=rfl;have hex:((⟨⟨s⟩⟩:ByteArray).extract 0 s.length)=⟨⟨s⟩⟩:=by rw[<-hsz];apply ByteArray.ext;simp[ByteArray.data_extract]
 have hm:(Array.map (λb:UInt8=>Value.int .u8 (b.toNat:Int)) ⟨s⟩)=(s.map λb=>Value.int .u8 (b.toNat:Int)).toArray:=by apply Array.ext';simp
 refine⟨by simp[Builtin.lenOf,hsz],by simp[Builtin.firstCells,hex,hm],by simp[Builtin.lenOf,hsz],by simp[Builtin.firstCells,hex,hm],by simp, ?_⟩;intro u hu;simp only[List.mem_map] at hu;obtain⟨b,_,rfl⟩:=hu;rfl
def Zm{t ty y e:TypeId}{inf:TypeInfo}{z gy:Value}{m:Nat}{news:List Value}(he:P.underlying t=some (.slice e))(hty:(∃e',P.underlying y=some (.slice e'))\/P.underlying y=some .string)
  (hi:P.info? e=some inf) (hz:inf.zero=some z) (hs:Src P inf.size w gy m news) (hm:m≠0) (h63:m<=140737488355328) (hb:m * inf.bytes<=140737488355328):
  ∃cap,m<=cap/\(Builtin.append_ #[t,y] ty #[.slice none 0 0,gy]).run P w=.ok (.slice (some ⟨w.heap.size,0,none⟩) m cap) (w.drew.alloc (.cells (news.toArray++Builtin.zeroCells z.cells (cap - m)) e)):=by
 have h63':¬(9223372036854775807<(m:Int)):=au;have h48':¬(281474976710656<Builtin.nextslicecap m 0 * inf.bytes):=by rw[nextslicecap_zero au];omega
 refine⟨grownCap w m 0 e,grownCap_ge w m 0 e, ?_⟩;rcases hty with⟨e',hd⟩|hd<;>simp[Builtin.append_,run_underlying he,run_underlying hd,sizeOf,typeInfo,zeroValue,hi,hz,hs.len,hm,h63',h48',Question.forced,run_firstCells_none,hs.aJp,newRow,grownCap]
def Zn{t ty y e:TypeId}{inf:TypeInfo}{gy:Value}{news:List Value}(he:P.underlying t=some (.slice e))(hty:(∃e',P.underlying y=some (.slice e'))\/P.underlying y=some .string)
  (hi:P.info? e=some inf) (hs:Src P inf.size w gy 0 news):
  (Builtin.append_ #[t,y] ty #[.slice none 0 0,gy]).run P w=.ok (.slice none 0 0) w:=by
 rcases hty with⟨e',hd⟩|hd<;>simp[Builtin.append_,run_underlying he,run_underlying hd,sizeOf,typeInfo,hi,hs.len,hs.get]
def run_append_fits{t ty y e T:TypeId}{inf:TypeInfo}{gy:Value}{b n m cap:Nat}{cur:Array Value}{news:List Value}(he:P.underlying t=some (.slice e))(hty:(∃e',P.underlying y=some (.slice e'))\/P.underlying y=some .string)
  (hi:P.info? e=some inf) (hs:Src P inf.size w gy m news) (hH:w.heap[b]? =some (.cells cur T (0,0))) (hroom:n+m<=cap) (hc:cur.size=cap * inf.size):
  (Builtin.append_ #[t,y] ty #[.slice (some ⟨b,0,none⟩) n cap,gy]).run P w=.ok (.slice (some ⟨b,0,none⟩) (n+m) cap) (w.setRow b (splice cur.toList (n * inf.size) news).toArray):=by
 have hfit:n * inf.size+0+news.length<=cur.size:=by rw[hs.n,hc,Nat.add_zero,<-Nat.add_mul];exact Nat.mul_le_mul_right _ hroom
 have hst:=run_storeCells_at P b (n * inf.size) T news 0 cur w hH hfit hs.one;simp only[Nat.add_zero] at hst;rcases hty with⟨e',hd⟩|hd<;>simp[Builtin.append_,run_underlying he,run_underlying hd,sizeOf,typeInfo,hi,hs.len,hroom,hs.get,Xq,hst,splice]
def ah2{t ty y e:TypeId}{inf:TypeInfo}{z gy:Value}{b n m cap:Nat}{olds news:List Value}(he:P.underlying t=some (.slice e))(hty:(∃e',P.underlying y=some (.slice e'))\/P.underlying y=some .string)
  (hi:P.info? e=some inf) (hz:inf.zero=some z) (hs:Src P inf.size w gy m news) (hl:olds.length=n * inf.size) (ho:∀j v,olds[j]? =some v->w.cell? ⟨b,0+j,none⟩=some v) (hroom:cap<n+m) (h63:n+m<=140737488355328) (hb:(n+m) * inf.bytes<=140737488355328):
  ∃cap',n+m<=cap'/\(Builtin.append_ #[t,y] ty #[.slice (some ⟨b,0,none⟩) n cap,gy]).run P w=.ok (.slice (some ⟨w.heap.size,0,none⟩) (n+m) cap') (w.drew.alloc (.cells ((olds++news).toArray++Builtin.zeroCells z.cells (cap' - (n+m))) e)):=by
 have hn:¬(n+m<=cap):=au;have h63':¬(9223372036854775807<((n:Int)+(m:Int))):=au;have h48':¬(281474976710656<Builtin.nextslicecap (n+m) cap * inf.bytes):=by have:=growslice_fits hroom hb;omega
 have hfo:=run_firstCells_some (P:=P) w.drew inf.size n ⟨b,0,none⟩ n cap olds hl (λj v hv=>by rw[Xq];exact ho j v hv);refine⟨grownCap w (n+m) cap e,grownCap_ge w (n+m) cap e, ?_⟩;rcases hty with⟨e',hd⟩|hd<;>simp[Builtin.append_,run_underlying he,run_underlying hd,sizeOf,typeInfo,zeroValue,hi,hz,hs.len,hn,h63',h48',Question.forced,hfo,hs.aJp,newRow,grownCap]<;>
  (congr 2;apply Array.ext';simp[QW])
end
open Go
structure Fr(M0:List Nat)(w0 w:World)(G:GS):Prop where
 keep:Keep M0 w0 w
 fr:∀b,excl G.F G.E b->b∈M0\/w0.heap.size<=b
structure Nx(base:Nat)(U:Nat->Prop)(M0:List Nat)(w0 w:World)(m:Mem)(G:GS)(w':World)(m':Mem)(G':GS):Prop where
 ok:Jo base U w' m' G'
 E:G'.E=[]
 out:G'.out=[]
 mem:JE G.μ m G'.μ m'
 view:(Gh U w G).le (Gh U w' G')
 fr:Fr M0 w0 w' G'
structure At(base:Nat)(U:Nat->Prop)(M0:List Nat)(w0 w:World)(m:Mem)(G:GS):Prop where
 ok:Jo base U w m G
 E:G.E=[]
 out:G.out=[]
 fr:Fr M0 w0 w G
def Uh{P:Program}{o:Oper}{a:Act}{w w':World}{K:Act->World->Prop}{Q:Exit->Act->World->Prop}{g:Value}(h:(execOp a.eval o).run P w=.ok (.value g) w')(hn:K (a.put o.dst g) w'):o.wp P a w K Q:=by unfold Oper.wp;rw[h];exact hn
def wp_skip{P:Program}{o:Oper}{a:Act}{w w':World}{K:Act->World->Prop}{Q:Exit->Act->World->Prop}(h:(execOp a.eval o).run P w=.ok .skip w')(hn:K (a.put o.dst undef) w'):o.wp P a w K Q:=by unfold Oper.wp;rw[h];exact hn
section
variable {base:Nat} {U:Nat->Prop} {M0:List Nat} {w0 w w':World} {m m':Mem} {G G':GS} {P:Program}
def At.nx(h:At base U M0 w0 w m G):Nx base U M0 w0 w m G w m G:=⟨h.ok,h.E,h.out,vT _ _,View.le_refl _,h.fr⟩
def Nx.at_(h:Nx base U M0 w0 w m G w' m' G'):At base U M0 w0 w' m' G':=⟨h.ok,h.E,h.out,h.fr⟩
def Nx.trans{w2:World}{m2:Mem}{G2:GS}(h:Nx base U M0 w0 w m G w' m' G')(k:Nx base U M0 w0 w' m' G' w2 m2 G2):Nx base U M0 w0 w m G w2 m2 G2:=
 ⟨k.ok,k.E,k.out,yN h.mem k.mem,h.view.trans' k.view,k.fr⟩
def Nx.bn(h:Nx base U M0 w0 w m G w' m' G'){v:V}{g:Value}(q:bn G.μ m (Gh U w G) v g):bn G'.μ m' (Gh U w' G') v g:=Dz h.mem h.view v g q
def Nx.dI(h:Nx base U M0 w0 w m G w' m' G'){v:List V}{g:List Value}(q:dI G.μ m (Gh U w G) v g):dI G'.μ m' (Gh U w' G') v g:=vU h.mem h.view v g q
def Fr.less(h:Fr M0 w0 w G)(hx:∀b,excl G'.F G'.E b->excl G.F G.E b):Fr M0 w0 w G':=⟨h.keep,λb hb=>h.fr b (hx b hb)⟩
def At.still(h:At base U M0 w0 w m G)(hg:Jo base U w m' G')(hl:GLe m G m' G')(ho:G'.out=[]):
  Nx base U M0 w0 w m G w m' {G' with E:=[]}:=by
 obtain⟨k1,k2⟩:=hg.less [] (by simp) (by simp);have:=hl.trans k2;exact⟨k1,rfl,ho,this.mem,this.view,h.fr.less this.ex⟩
def PI{μ:Nat->Value}{h:View}:∀{a b:List V} {g k:List Value},dI μ m h a g->dI μ m h b k->dI μ m h (a++b) (g++k)
 |[],b,g,k,ha,hb=>by simp only[dI] at ha;subst ha;simpa using hb
 |v::a,b,g,k,ha,hb=>by obtain⟨g0,g',rfl,h1,h2⟩:=qB ha;simp only[zca,dI];exact⟨g0,g'++k,rfl,h1,PI h2 hb⟩
def aeg{μ:Nat->Value}{h:View}:∀{a:List V} {g:List Value} (n:Nat),dI μ m h a g->dI μ m h (a.drop n) (g.drop n)
 |a,g,0,ha=>by simpa using ha
 |[],g,n+1,ha=>by simp only[dI] at ha;subst ha;simp[dI]
 |v::a,g,n+1,ha=>by obtain⟨g0,g',rfl,h1,h2⟩:=qB ha;simpa using aeg n h2
def aeh{μ:Nat->Value}{h:View}:∀{a:List V} {g:List Value} (n:Nat),dI μ m h a g->dI μ m h (a.take n) (g.take n)
 |a,g,0,ha=>by simp[dI]
 |[],g,n+1,ha=>by simp only[dI] at ha;subst ha;simp[dI]
 |v::a,g,n+1,ha=>by obtain⟨g0,g',rfl,h1,h2⟩:=qB ha;simp only[List.take_succ_cons,dI];exact⟨g0,g'.take n,rfl,h1,aeh n h2⟩
def ajm{μ:Nat->Value}{h:View}{a:List V}{g:List Value}(o n:Nat)(q:dI μ m h a g):dI μ m h (part a o n) ((g.drop o).take n):=aeh n (aeg o q)
def YJ{μ:Nat->Value}{h:View}{a b:List V}{g k:List Value}(o:Nat)(q:dI μ m h a g)(q':dI μ m h b k):dI μ m h (splice a o b) (splice g o k):=by have hl:k.length=b.length:=kZ q';unfold splice;rw[hl];exact PI (PI (aeh o q) q') (aeg _ q)
def abU{μ:Nat->Value}{h:View}:∀{a:List V} {g:List Value} {i:Nat} {v:V},dI μ m h a g->a[i]? =some v->∃x,g[i]? =some x/\bn μ m h v x
 |[],g,i,v,ha,hi=>by simp at hi
 |v0::a,g,i,v,ha,hi=>by
  obtain⟨g0,g',rfl,h1,h2⟩:=qB ha;cases i with
  |zero=>simp at hi;subst hi;exact⟨g0,rfl,h1⟩
  |succ i=>simpa using abU h2 (by simpa using hi)
def apn{t:TypeId}{vs:List V}{v:V}(h:Px P t vs=some v){μ:Nat->Value}{hh:View}{cs:List Value}(hq:dI μ m hh vs cs):∃g,valOf P t cs g:=by
 unfold Px at h;unfold valOf;cases ha:QX P t with
 |true=>exact⟨_,by simp;rfl⟩
 |false=>
  simp only[ha,bG] at h;split at h
  ·obtain⟨g',gs',e,q1,q2⟩:=qB hq;simp only[dI] at q2;subst q2;exact⟨g',by simpa using e⟩
  ·cases h
def Xr{h:View}{x:D}{g:Value}(q:ro h x g):g.oneCell'=true:=by
 cases x with
 |sl o s rows=>simp only[ro] at q;obtain⟨a,cap,rfl,_⟩:=q;rfl
 |_=>simp only[ro] at q;subst q;rfl
def aBB{row:Row}{j:Nat}{x:D}(h:nth row j=x)(hx:x≠.ZG):row[j]? =some x:=by
 unfold nth at h;cases hr:row[j]? with
 |none=>rw[hr] at h;exact absurd h.symm hx
 |some y=>rw[hr] at h;exact congrArg some h
def av4{s:Nat}{x:D}{rows:List Row}(h:aBr s x=some rows):∃o,x=.sl o s rows/\(o=false\/rows=[]):=by
 cases x<;>simp[aBr] at h;rename_i o s' rows'
 by_cases e:s'=s
 ·subst e;simp at h;cases o with
  |false=>simp at h;subst h;exact⟨false,rfl,.inl rfl⟩
  |true=>
   cases rows' with
   |nil=>simp at h;subst h;exact⟨true,rfl,.inr rfl⟩
   |cons _ _=>simp at h
 ·rw[zM e] at h;simp at h
def agk{strict:Bool}{row:Row}{μ:Nat->Value}{h:View}(cell:Nat->Option Value)(Rel:D->Value->Prop)(hrow:∀k x,row[k]? =some x->∃g,cell k=some g/\Rel x g)
  (hint:∀k n g,Rel (.int k n) g->g=.int k n) (aEt:∀b g,Rel (.bool b) g->g=.bool b) (hstr:∀s g,Rel (.str s) g->g=.string ⟨⟨s⟩⟩)
  (hsl:∀o s rs g,Rel (.sl o s rs) g->(strict=true->o=false\/rs=[])->ro h (.sl false s rs) g):
  ∀(cts:List CT) (j:Nat) (c:List V->Acc V) (m0:Mem) (l:Log) (r:V×Mem×Log),(Rq strict cts row j c).run m0 l=some r->
   ∃vs cs,(c vs).run m0 l=some r/\cs.length=cts.length/\dI μ m h vs cs/\∀i g,cs[i]? =some g->cell (j+i)=some g
 |[],j,c,m0,l,r,hr=>⟨[],[],hr,rfl,by simp[dI],by simp⟩
 |ct::cts,j,c,m0,l,r,hr=>by
  have go:∀(x:D) (y:V),nth row j=x->x≠.ZG->(∀g,Rel x g->bn μ m h y g)->(Rq strict cts row (j+1) λvs=>c (y::vs)).run m0 l=some r->
    ∃vs cs,(c vs).run m0 l=some r/\cs.length=(ct::cts).length/\dI μ m h vs cs/\∀i g,cs[i]? =some g->cell (j+i)=some g:=by
   intro x y hx hxn hs hr;obtain⟨g,hg,hrel⟩:=hrow j x (aBB hx hxn);obtain⟨vs,cs,h1,h2,h3,h4⟩:=agk cell Rel hrow hint aEt hstr hsl cts (j+1) _ m0 l r hr;refine⟨y::vs,g::cs,h1,by simp[h2],by simp only[dI];exact⟨g,cs,rfl,hs g hrel,h3⟩, ?_⟩;intro i g' hi;cases i with
   |zero=>simp at hi;subst hi;exact hg
   |succ i=>have:=h4 i g' (by simpa using hi);rw[show j+(i+1)=j+1+i from by omega];exact this
  cases ct with
  |int k=>
   simp only[Rq,Acc.run,jq] at hr;cases ha:asInt k (nth row j) with
   |none=>simp[ha,Acc.run] at hr
   |some n=>simp only[ha,Acc.run] at hr;exact go _ _ (aje ha) (by simp) (λg hg=>by rw[hint _ _ g hg];simp[bn,ro]) hr
  |bool=>
   simp only[Rq,Acc.run,alN] at hr;cases ha:asBool (nth row j) with
   |none=>simp[ha,Acc.run] at hr
   |some n=>simp only[ha,Acc.run] at hr;exact go _ _ (ahh ha) (by simp) (λg hg=>by rw[aEt _ g hg];simp[bn,ro]) hr
  |str=>
   simp only[Rq,Acc.run,cStr] at hr;cases ha:alM (nth row j) with
   |none=>simp[ha,Acc.run] at hr
   |some n=>simp only[ha,Acc.run] at hr;exact go _ _ (ajf ha) (by simp) (λg hg=>by rw[hstr _ g hg];simp[bn,ro]) hr
  |other=>simp[Rq,Acc.run] at hr
  |sl s=>
   simp only[Rq,Acc.run,cRo,cSl] at hr;cases strict with
   |true=>
    simp only[aH] at hr;cases ha:aBr s (nth row j) with
    |none=>simp[ha,Acc.run] at hr
    |some n=>simp only[ha,Acc.run] at hr;obtain⟨o,hx,ho⟩:=av4 ha;exact go _ _ hx (by simp) (λg hg=>by simp only[bn];exact hsl _ _ _ g hg (λ_=>ho)) hr
   |false=>
    simp only[bG] at hr;cases ha:axJ s (nth row j) with
    |none=>simp[ha,Acc.run] at hr
    |some n=>simp only[ha,Acc.run] at hr;obtain⟨o,hx⟩:=alU ha;exact go _ _ hx (by simp) (λg hg=>by simp only[bn];exact hsl _ _ _ g hg (λh=>by cases h)) hr
def agl{h:View}{b:Nat}:∀{r:Row} {o k:Nat} {x:D},BO h r b o->r[k]? =some x->∃g,h b (o+k)=some g/\ro h x g
 |[],_,_,_,_,hk=>by simp at hk
 |y::r,o,0,x,q,hk=>by simp only[BO] at q;simp at hk;subst hk;simpa using q.1
 |y::r,o,k+1,x,q,hk=>by
  simp only[BO] at q;have:=agl q.2 (by simpa using hk)
  rwa [show o+(k+1)=o+1+k from by omega]
def ahl{h:View}:∀{r:Row} {cs:List Value} {k:Nat} {x:D},jH h r cs->r[k]? =some x->∃g,cs[k]? =some g/\ro h x g
 |[],_,_,_,_,hk=>by simp at hk
 |y::r,cs,0,x,⟨v,cs',e,h1,h2⟩,hk=>by simp at hk;subst hk;subst e;exact⟨v,rfl,h1⟩
 |y::r,cs,k+1,x,⟨v,cs',e,h1,h2⟩,hk=>by subst e;simpa using ahl h2 (by simpa using hk)
def alZ{H:Heap}{h:View}:∀{r:Row} {cs:List Value} {N:List Nat} {k:Nat} {x:D},jU H h r cs N->r[k]? =some x->∃g N1,cs[k]? =some g/\ow H h x g N1
 |[],_,_,_,_,_,hk=>by simp at hk
 |y::r,cs,N,0,x,q,hk=>by obtain⟨v,cs',N1,N2,rfl,rfl,h1,h2⟩:=OG q;simp at hk;subst hk;exact⟨v,N1,rfl,h1⟩
 |y::r,cs,N,k+1,x,q,hk=>by obtain⟨v,cs',N1,N2,rfl,rfl,h1,h2⟩:=OG q;simpa using alZ h2 (by simpa using hk)
def OH{h:View}{s b:Nat}:∀{rs:List Row} {o k:Nat} {r:Row},sN h s rs b o->rs[k]? =some r->r.length=s/\BO h r b (o+k * s)
 |[],_,_,_,_,hk=>by simp at hk
 |y::rs,o,0,x,q,hk=>by simp only[sN] at q;simp at hk;subst hk;simpa using⟨q.1,q.2.1⟩
 |y::rs,o,k+1,x,q,hk=>by
  simp only[sN] at q;have:=OH q.2.2 (by simpa using hk)
  rwa [show o+(k+1) * s=o+s+k * s from by rw[Nat.add_mul];omega]
def afb{h:View}{s:Nat}:∀{rs:List Row} {cs:List Value} {k:Nat} {r:Row},jF h s rs cs->rs[k]? =some r->r.length=s/\jH h r (cs.drop (k * s))
 |[],_,_,_,_,hk=>by simp at hk
 |y::rs,cs,0,x,q,hk=>by simp at hk;subst hk;simpa using⟨q.1,q.2.1⟩
 |y::rs,cs,k+1,x,q,hk=>by
  have:=afb q.2.2 (by simpa using hk);rw[List.drop_drop] at this
  rwa [show(k+1) * s=s+k * s from by rw[Nat.add_mul];omega]
def ajn{H:Heap}{h:View}{s:Nat}:∀{rs:List Row} {cs:List Value} {N:List Nat} {k:Nat} {r:Row},iU H h s rs cs N->rs[k]? =some r->r.length=s/\∃N1,jU H h r (cs.drop (k * s)) N1
 |[],_,_,_,_,_,hk=>by simp at hk
 |y::rs,cs,N,0,x,q,hk=>by simp only[iU] at q;obtain⟨h1,N1,N2,rfl,h2,h3⟩:=q;simp at hk;subst hk;exact⟨h1,N1,by simpa using h2⟩
 |y::rs,cs,N,k+1,x,q,hk=>by
  simp only[iU] at q;obtain⟨h1,N1,N2,rfl,h2,h3⟩:=q;have:=ajn h3 (by simpa using hk);rw[List.drop_drop] at this
  rwa [show(k+1) * s=s+k * s from by rw[Nat.add_mul];omega]
def auI{h:View}{fz fl:Bool}{ver s:Nat}{rows:List Row}{r i:Nat}{row:Row}{N:List Nat}(hq:vS G.μ m (eU w) h r (.arr fz fl ver s rows) N)(hl:h.le (full w))(hi:rows[i]? =some row):
  ∃b o cap,G.μ r=.slice (some ⟨b,o,none⟩) rows.length cap/\(fz=false->o=0)/\row.length=s/\
   ∃Rel:D->Value->Prop,(∀k x,row[k]? =some x->∃g,full w b (o+i * s+k)=some g/\Rel x g)/\
   (∀k n g,Rel (.int k n) g->g=.int k n)/\(∀b g,Rel (.bool b) g->g=.bool b)/\(∀s g,Rel (.str s) g->g=.string ⟨⟨s⟩⟩)/\
   (∀o s rs g,Rel (.sl o s rs) g->(o=false\/rs=[])->ro h (.sl false s rs) g):=by
 have hne:rows≠[]:=by intro e;subst e;simp at hi
 cases fz with
 |true=>
  obtain⟨h1,_⟩:=hq;simp only[ro] at h1;obtain⟨a,cap,h2,h3,h4⟩:=h1;obtain⟨b,o,rfl,h5⟩:=h4 hne;obtain⟨h6,h7⟩:=OH h5 hi;refine⟨b,o,cap,h2,by simp,h6,ro h,λk x hk=> ?_, ?_, ?_, ?_, ?_⟩
  ·obtain⟨g,hg1,hg2⟩:=agl h7 hk;exact⟨g,hl _ _ _ hg1,hg2⟩
  ·intro k n g hg;simpa[ro] using hg
  ·intro b g hg;simpa[ro] using hg
  ·intro s g hg;simpa[ro] using hg
  ·intro o s rs g hg _;exact aed hg
 |false=>
  simp only[vS] at hq;rcases hq with⟨rfl,_,_⟩|⟨b,cap,cs,t,N',h1,h2,h3,h4,h5,_⟩
  ·exact absurd rfl hne
  ·have hfull:∀k g,(cs.toList.drop (i * s))[k]? =some g->full w b (0+i * s+k)=some g:=by intro k g hg;rw[List.getElem?_drop] at hg;rw[full_cell h3,Nat.zero_add];exact hg
   cases fl with
   |true=>
    obtain⟨h6,h7⟩:=afb h5.1 hi;refine⟨b,0,cap,h1,by simp,h6,ro h,λk x hk=> ?_, ?_, ?_, ?_, ?_⟩
    ·obtain⟨g,hg1,hg2⟩:=ahl h7 hk;exact⟨g,hfull k g hg1,hg2⟩
    ·intro k n g hg;simpa[ro] using hg
    ·intro b g hg;simpa[ro] using hg
    ·intro s g hg;simpa[ro] using hg
    ·intro o s rs g hg _;exact aed hg
   |false=>
    obtain⟨h6,N1,h7⟩:=ajn h5 hi;refine⟨b,0,cap,h1,by simp,h6,λx g=>∃N,ow (eU w) h x g N,λk x hk=> ?_, ?_, ?_, ?_, ?_⟩
    ·obtain⟨g,N2,hg1,hg2⟩:=alZ h7 hk;exact⟨g,hfull k g hg1,N2,hg2⟩
    ·rintro k n g ⟨N,hg⟩;simp only[ow] at hg;exact hg.1
    ·rintro b g ⟨N,hg⟩;simp only[ow] at hg;exact hg.1
    ·rintro s g ⟨N,hg⟩;simp only[ow] at hg;exact hg.1
    ·rintro o s rs g ⟨N,hg⟩ ho;cases o with
     |false=>simp only[ow] at hg;exact hg.2
     |true=>
      rcases ho with ho|rfl
      ·cases ho
      ·simp only[ow] at hg;rcases hg with⟨_,rfl,_⟩|⟨b,cap,cs,t,N',e1,e2,_⟩
       ·simp[ro]
       ·simp only[ro];exact⟨_,cap,e1,by simp,λe=>absurd rfl e⟩
def apo{t:TypeId}{b:Nat}{x:Value}{v:V}(hok:UD P t=true)(hc:(Nat.beq (uh P t) 1 && !(QX P t))=true)(hx:full w b 0=some x)(hs:bn G.μ m (Gh U w G) v x):
  ∃g,(Instr.loadAt t (.pointer (some ⟨b,0,none⟩))).run P w=.ok g w/\bn G.μ m (Gh U w G) v g:=by
 simp only[zq,Bool.not_eq_true'] at hc;have hsz:=Kr hc.1;have hv:Px P t [v]=some v:=by simp[Px,hc.2]
 have hp:dI G.μ m (Gh U w G) [v] [x]:=by simp only[dI];exact⟨x,[],rfl,hs,rfl⟩
 obtain⟨g,hg⟩:=apn hv hp;refine⟨g,VF hok (by simp;omega) ?_ hg,Ry hv hp hg⟩;intro j y hj;cases j with
 |zero=>simp at hj;subst hj;exact hx
 |succ j=>simp at hj
def axX(hA:At base U M0 w0 w m G){t:TypeId}{a:V}{ga:Value}(ha:bn G.μ m (Gh U w G) a ga){v:V}{l l':Log}(h:(axM P t a).run m l=some (v,m',l')):
  ∃g,(Instr.loadAt t ga).run P w=.ok g w/\m'=m/\bn G.μ m (Gh U w G) v g:=by
 simp only[axM] at h;replace h:=ay h;obtain⟨_,m1,l1,h1,h⟩:=h;obtain⟨hok,rfl,rfl⟩:=iC h1;simp only[zq] at hok;obtain⟨hok,hsz⟩:=hok;have hsz:=Kr hsz;cases a with
 |ptr r off=>
  simp only at h;replace h:=ay h;obtain⟨c,m2,l2,h2,h⟩:=h;rw[Ar] at h2;cases h2;cases hc:get r m1 with
  |none=>rw[hc] at h;exact aI h
  |some c=>
   rw[hc] at h;cases c with
   |Dt T x=>simp only at h;replace h:=ay h;obtain⟨_,m2,l2,h2,h⟩:=h;obtain⟨hfit,rfl,rfl⟩:=iC h2;simp only[run_pure,kU,ql] at h;obtain⟨rfl,rfl,rfl⟩:=h;simp only[zq] at hfit;have h0:=Kr hfit.1;subst h0;simp only[bn,hc] at ha;obtain⟨_,b,hμ,rfl⟩:=ha;obtain⟨_,b',y,e1,e2,e3⟩:=hA.ok.cell r _ hc (by rw[hA.out];simp);rw[hμ] at e1;cases e1;obtain⟨g,hg1,hg2⟩:=apo (P:=P) hok (by rw[zq];exact hfit.2) (yE _ _ _ _ _ _ e2) e3;exact⟨g,hg1,rfl,hg2⟩
   |box T cs=>
    simp only at h;replace h:=ay h;obtain⟨_,m2,l2,h2,h⟩:=h;obtain⟨hfit,rfl,rfl⟩:=iC h2;obtain⟨hv,rfl,rfl⟩:=lS h;simp only[bn,hc] at ha;obtain⟨_,b,hμ,rfl⟩:=ha;obtain⟨b',arr,e1,e2,e3,e4⟩:=hA.ok.cell r _ hc (by rw[hA.out];simp);rw[hμ] at e1;cases e1;have hp:=ajm off (uh P t) e3;have hlen:arr.size=cs.length:=by simpa using kZ e3
    have hfit:=Nat.le_of_ble_eq_true hfit;obtain⟨g,hg⟩:=apn hv hp;refine⟨g,VF hok (by simp;omega) ?_ hg,rfl,Ry hv hp hg⟩;intro j x hj;have hj':j<uh P t:=by have:=(Po.1 hj).1;simp at this;omega
    rw[List.getElem?_take,if_pos hj',List.getElem?_drop] at hj;have:=full_cell (w:=w) e2 (off+j);rw[hj] at this;exact this
   |_=>exact aI h
 |Pv x=>simp only at h;replace h:=ay h;obtain⟨_,m2,l2,h2,h⟩:=h;obtain⟨hfit,rfl,rfl⟩:=iC h2;simp only[run_pure,kU,ql] at h;obtain⟨rfl,rfl,rfl⟩:=h;simp only[bn] at ha;obtain⟨b,y,rfl,e2,e3⟩:=ha;obtain⟨g,hg1,hg2⟩:=apo (P:=P) hok hfit (yE _ _ _ _ _ _ e2) e3;exact⟨g,hg1,rfl,hg2⟩
 |Fg row off=>
  simp only at h;simp only[bn] at ha;obtain⟨b,o,rfl,hrow⟩:=ha;obtain⟨vs,cs,h2,h3,h4,h5⟩:=agk (m:=m1) (μ:=G.μ) (h:=Gh U w G) (λk=>Gh U w G b (o+k)) (ro (Gh U w G)) (λk x hk=>agl hrow hk)
   (λk n g hg=>by simpa[ro] using hg) (λb g hg=>by simpa[ro] using hg) (λs g hg=>by simpa[ro] using hg) (λ_ s rs g hg _=>aed hg) _ _ _ _ _ _ h
  obtain⟨hv,rfl,rfl⟩:=lS h2;obtain⟨g,hg⟩:=apn hv h4;refine⟨g,VF hok (by rw[h3,hsz]) ?_ hg,rfl,Ry hv h4 hg⟩;intro j x hj;have:=h5 j x hj;rw[Nat.add_assoc];exact yE _ _ _ _ _ _ this
 |Lp r ver i off=>
  simp only at h;replace h:=ay h;obtain⟨c,m2,l2,h2,h⟩:=h;rw[Ar] at h2;cases h2;cases hc:get r m1 with
  |none=>rw[hc] at h;exact aI h
  |some c=>
   rw[hc] at h;cases c with
   |arr fz fl vH s rows=>simp only at h;replace h:=ay h;obtain⟨_,m2,l2,h2,h⟩:=h;obtain⟨hb,rfl,rfl⟩:=iC h2;have hb:=Kr hb;subst hb;replace h:=ay h;obtain⟨row,m2,l2,h2,h⟩:=h;obtain⟨hrow,rfl,rfl⟩:=lS h2;simp only[bn,hc] at ha;obtain⟨b,n,cap,hμ,rfl⟩:=ha.2.2 trivial;have hcell:=hA.ok.cell r _ hc (by rw[hA.out];simp);obtain⟨b',o,cap',e1,e2,e3,Rel,q1,q2,q3,q4,q5⟩:=auI hcell (yE _ _ _) hrow;rw[hμ] at e1;simp only[Value.slice.injEq,kU,Addr.mk.injEq] at e1;obtain⟨⟨rfl,ho,_⟩,_,_⟩:=e1;subst ho;obtain⟨vs,cs,h2,h3,h4,h5⟩:=agk (m:=_) (μ:=G.μ) (h:=Gh U w G) (λk=>full w b (0+i * s+k)) Rel q1 q2 q3 q4 (λo s rs g hg hs=>q5 o s rs g hg (hs rfl)) _ _ _ _ _ _ h;obtain⟨hv,rfl,rfl⟩:=lS h2;obtain⟨g,hg⟩:=apn hv h4;refine⟨g,VF hok (by rw[h3,hsz]) ?_ hg,rfl,Ry hv h4 hg⟩;intro j x hj;have:=h5 j x hj;rw[show i * s+off+j=0+i * s+(off+j) from by omega];exact this
   |_=>exact aI h
 |_=>exact aI h
def sO{μ:Nat->Value}{h:View}{v:V}{g:Value}(h1:one v=true)(q:bn μ m h v g):g.oneCell'=true:=by
 cases v with
 |d x=>simp only[bn] at q;exact Xr q
 |nil s=>simp only[bn] at q;subst q;rfl
 |own _ _=>simp only[bn] at q;obtain⟨⟨a,n,c,rfl⟩,_⟩:=q;rfl
 |ptr _ _=>simp only[bn] at q;obtain⟨⟨b,o,rfl⟩,_⟩:=q;rfl
 |Lp _ _ _ _=>simp only[bn] at q;obtain⟨⟨b,o,rfl⟩,_⟩:=q;rfl
 |Fg _ _=>simp only[bn] at q;obtain⟨b,o,rfl,_⟩:=q;rfl
 |Pv _=>simp only[bn] at q;obtain⟨b,x,rfl,_⟩:=q;rfl
 |clo _ _ _=>simp only[bn] at q;obtain⟨a,c,rfl,_⟩:=q;rfl
 |agg _=>simp[one] at h1
 |Zl _=>simp[one] at h1
 |undef=>simp[one] at h1
def cells_one{g:Value}(h:g.oneCell'=true):g.cells=#[g]:=by cases g<;>first|rfl|simp[Value.oneCell'] at h
def al0{μ:Nat->Value}{h:View}:∀{vs:List V} {gs:List Value},vs.all one=true->dI μ m h vs gs->∀x∈gs,x.oneCell'=true
 |[],gs,_,q=>by simp only[dI] at q;subst q;simp
 |v::vs,gs,h1,q=>by
  obtain⟨g,gs',rfl,q1,q2⟩:=qB q;simp only[List.all_cons,zq] at h1;intro x hx;simp only[List.mem_cons] at hx;rcases hx with rfl|hx
  ·exact sO h1.1 q1
  ·exact al0 h1.2 q2 x hx
def cells_ok{μ:Nat->Value}{h:View}{v:V}{g:Value}(h1:v.cells.all one=true)(q:bn μ m h v g):dI μ m h v.cells g.cells.toList/\∀x∈g.cells.toList,x.oneCell'=true:=by
 have single:one v=true->v.cells=[v]->dI μ m h v.cells g.cells.toList/\∀x∈g.cells.toList,x.oneCell'=true:=by intro ho hv;have:=sO ho q;rw[cells_one this,hv];exact⟨by simp only[dI];exact⟨g,[],rfl,q,rfl⟩,by simpa using this⟩
 cases v with
 |agg cs=>simp only[bn] at q;obtain⟨a,rfl,q⟩:=q;exact⟨q,al0 h1 q⟩
 |Zl _=>simp[V.cells,one] at h1
 |undef=>simp[V.cells,one] at h1
 |_=>exact single rfl rfl
def al1{μ:Nat->Value}{h:View}(c:CT)(g:Value):bn μ m h (agc c g) g:=by unfold agc;split<;>simp[bn,ro]
def YK{μ:Nat->Value}{h:View}:∀(cs:List CT) (gs:List Value),dI μ m h (JD cs gs) gs
 |[],[]=>by simp[JD,dI]
 |_::_,[]=>by simp[JD,dI]
 |[],g::gs=>by simp only[JD,dI];exact⟨g,gs,rfl,by simp[bn],YK [] gs⟩
 |c::cs,g::gs=>by simp only[JD,dI];exact⟨g,gs,rfl,al1 c g,YK cs gs⟩
def aJq{μ:Nat->Value}{h:View}(t:TypeId)(g:Value):bn μ m h (cv P t g) g:=by
 unfold cv;split
 ·simp only[bn];exact⟨_,rfl,YK _ _⟩
 ·split
  ·exact al1 _ _
  ·simp[bn]
def afc(μ:Nat->Value)(m:Mem)(h:View)(tm:nH)(a:Act):Prop:=∀t v,get t tm=some v->t<a.tmps.size/\bn μ m h v (a.tmps.getD t undef)
def aaf{μ:Nat->Value}{h:View}{tm:nH}{a:Act}(hT:afc μ m h tm a)(t:TypeId)(x:Operand):bn μ m h (ev P tm t x) (a.eval x):=by
 cases x with
 |tmp i=>
  simp only[ev,ab5];cases hg:get i tm with
  |none=>simp[bn]
  |some v=>exact(hT i v hg).2
 |const v=>exact aJq t v
 |global g=>simp[ev,bn]
 |func f=>simp only[ev,bn];exact⟨#[],#[],rfl,by simp[dI],by simp[dI]⟩
def abV{μ:Nat->Value}{h:View}{tm:nH}{a:Act}(hT:afc μ m h tm a):∀(xs:List Operand) (ts:List TypeId),dI μ m h (yM P tm xs ts) (xs.map a.eval)
 |[],_=>by simp[yM,dI]
 |x::xs,ts=>by simp only[yM,dI,zmc];exact⟨_,_,rfl,aaf hT _ x,abV hT xs _⟩
def VG{μ:Nat->Value}{h:View}{t:TypeId}{z:List V}(hz:SB P t=some z):∃i zv,P.info? t=some i/\i.zero=some zv/\dI μ m h z zv.cells.toList:=by
 unfold SB at hz;cases hi:P.info? t with
 |none=>simp[hi] at hz
 |some i=>
  simp only[hi] at hz;cases hzv:i.zero with
  |none=>simp[hzv] at hz
  |some zv=>simp only[hzv,kU] at hz;subst hz;exact⟨i,zv,rfl,hzv,YK _ _⟩
def Jo.rewrite(hg:Jo base U w m G)(ho:G.out=[])(hfr:Fr M0 w0 w G){r:Nat}{c c':Cell}{μ':Nat->Value}{N:List Nat}(hc:get r m=some c)(hk:Keep (G.F r) w w')(hN:N.Nodup)
  (hNs:∀b,b∈N->(b∈G.F r\/b∈G.E\/w.heap.size<=b)/\b<w'.heap.size) (hμ:∀k,k≠r->μ' k=G.μ k) (hle:MV G.μ μ' r c c')
  (hcell:∀h':View,(Gh U w G).le h'->JE G.μ m μ' (put r c' m)->(∀k,k∈G.E->k ∉ N->agf h' (eU w) [k])->vS μ' (put r c' m) (eU w') h' r c' N):
  Nx base U M0 w0 w m G w' (put r c' m) ⟨μ',upF G.F r N,[],[]⟩:=by
 have hro:r ∉ G.out:=by rw[ho];simp
 obtain⟨k1,k2⟩:=hg.aEs hc hro;have hk':Keep (G.E++G.F r) w w':=⟨hk.os,hk.tape,hk.output,hk.size,λb hb hn=>hk.block b hb (λh=>hn (by simp[h]))⟩
 obtain⟨q1,q2⟩:=Jo.world k1 hk' (E':=N) hN (λb hb=>by
  have:=hNs b hb;refine⟨?_,this.2⟩;rcases this.1 with h|h|h
  ·left;simp[h]
  ·left;simp[h]
  ·exact .inr h)
 have hup:upF (upF G.F r []) r N=upF G.F r N:=by
  funext k
  by_cases e:k=r
  ·subst e;simp
  ·simp[lu _ e]
 have hml:JE G.μ m μ' (put r c' m):=Jp hμ (λc0 h0=>by rw[hc] at h0;cases h0;exact hle);have hset:=Jo.set (U:=U) (w:=w') q1 r c' μ' N [] [] (by simpa using hN) (by simp) hml hμ (λk hkr=>by simp[ho,hkr]) (by simp)
  (λhv _=>hcell _ (k2.view.trans' (q2.trans' hv)) hml (λk hkE hkN b hb cs t fr hH o v hv=>by
   simp only[List.mem_singleton] at hb;subst hb;have hbF:∀j,b ∉ G.F j:=λj hj=>hg.djE j b hj hkE
   have hlt:=hg.lt b (.inl hkE);have hsame:eU w' b=eU w b:=hk.block b hlt.1 (hbF r);refine OY (w:=w') (N:=[b]) (λx hx=> ?_) b (by simp) cs t fr (hsame.trans hH) o v hv;simp only[List.mem_singleton] at hx;subst hx;refine⟨hlt.2.2, ?_⟩;rintro(h|⟨j,h⟩)
   ·simp at h
   ·rw[hup] at h
    by_cases e:j=r
    ·subst e;rw[I8] at h;exact hkN h
    ·rw[lu _ e] at h;exact hbF j h))
 simp only[hup] at hset;obtain⟨s1,s2⟩:=hset;refine⟨s1,rfl,rfl,hml,k2.view.trans' (q2.trans' s2.view), ?_⟩;refine⟨hfr.keep.trans hk (λx hx=>hfr.fr x (.inr ⟨r,hx⟩)), ?_⟩;rintro b (hb|⟨k,hb⟩)
 ·simp at hb
 ·by_cases e:k=r
  ·subst e;simp only[I8] at hb;rcases(hNs b hb).1 with h|h|h
   ·exact hfr.fr b (.inr ⟨_,h⟩)
   ·exact hfr.fr b (.inl h)
   ·exact .inr (Nat.le_trans hfr.keep.size h)
  ·simp only[lu _ e] at hb;exact hfr.fr b (.inr ⟨k,hb⟩)
def At.rewrite(hA:At base U M0 w0 w m G){r:Nat}{c c':Cell}{μ':Nat->Value}{N:List Nat}(hc:get r m=some c)(hk:Keep (G.F r) w w')(hN:N.Nodup)
  (hNs:∀b,b∈N->(b∈G.F r\/w.heap.size<=b)/\b<w'.heap.size) (hμ:∀k,k≠r->μ' k=G.μ k) (hle:MV G.μ μ' r c c')
  (hcell:∀h':View,(Gh U w G).le h'->JE G.μ m μ' (put r c' m)->vS μ' (put r c' m) (eU w') h' r c' N):
  Nx base U M0 w0 w m G w' (put r c' m) ⟨μ',upF G.F r N,[],[]⟩:=
 hA.ok.rewrite hA.out hA.fr hc hk hN (λb hb=>⟨(hNs b hb).1.imp id .inr,(hNs b hb).2⟩) hμ hle (λh' h1 h2 _=>hcell h' h1 h2)
def Nx.after{G1:GS}{m1:Mem}(hl:GLe m G m1 G1)(h:Nx base U M0 w0 w m1 G1 w' m' G'):Nx base U M0 w0 w m G w' m' G':=
 ⟨h.ok,h.E,h.out,yN hl.mem h.mem,hl.view.trans' h.view,h.fr⟩
def aag{b:Nat}{cs:Array Value}{M:List Nat}(hb:b∈M):Keep M w (w.setRow b cs):=
 ⟨rfl,rfl,rfl,by simp[World.setRow],λk _ hk=>setRow_other w b k cs (λe=>hk (e ▸ hb))⟩
def aei{o:Obj}{M:List Nat}:Keep M w (w.alloc o):=⟨rfl,rfl,rfl,by simp,λk hk _=>heap_alloc_old w o k hk⟩
def agm{M:List Nat}:Keep M w w.drew:=⟨rfl,rfl,rfl,Nat.le_refl _,λ_ _ _=>rfl⟩
def Rz{H:Heap}{h:View}:∀{r:Row} {cs cs':List Value} {N:List Nat},cs.take r.length=cs'.take r.length->jU H h r cs N->jU H h r cs' N
 |[],_,_,_,_,q=>by simpa[jU] using q
 |x::r,cs,cs',N,e,q=>by
  obtain⟨v,cs1,N1,N2,rfl,rfl,h1,h2⟩:=OG q;cases cs' with
  |nil=>simp at e
  |cons v' aFR=>simp only[Pq,List.take_succ_cons,List.cons.injEq] at e;obtain⟨rfl,e⟩:=e;simp only[jU];exact⟨v,aFR,N1,N2,rfl,rfl,h1,Rz e h2⟩
def LC{H:Heap}{h:View}:∀{a b:Row} {cs:List Value} {N:List Nat},jU H h (a++b) cs N↔∃N1 N2,N=N1++N2/\jU H h a cs N1/\jU H h b (cs.drop a.length) N2
 |[],b,cs,N=>by
  simp only[List.nil_append,jU,UR,List.drop_zero];constructor
  ·intro q;exact⟨[],N,rfl,rfl,q⟩
  ·rintro⟨N1,N2,rfl,rfl,q⟩;simpa using q
 |x::a,b,cs,N=>by
  simp only[zca,jU];constructor
  ·rintro⟨v,cs',N1,N2,rfl,rfl,h1,h2⟩;obtain⟨N3,N4,rfl,h3,h4⟩:=LC.1 h2;exact⟨N1++N3,N4,by simp,⟨v,cs',N1,N3,rfl,rfl,h1,h3⟩,by simpa using h4⟩
  ·rintro⟨N1,N2,rfl,⟨v,cs',N3,N4,rfl,rfl,h1,h3⟩,h4⟩;exact⟨v,cs',N3,N4++N2,rfl,by simp,h1,LC.2 ⟨N4,N2,rfl,h3,by simpa using h4⟩⟩
def ajo{H:Heap}{h:View}:∀{r:Row} {cs:List Value} {N:List Nat},jU H h r cs N->r.length<=cs.length
 |[],_,_,_=>by simp
 |x::r,cs,N,q=>by obtain⟨v,cs',N1,N2,rfl,rfl,_,h2⟩:=OG q;have:=ajo h2;simp;omega
def SG{α:Type}{l xs:List α}{o:Nat}(h:o+xs.length<=l.length):(splice l o xs).length=l.length:=by simp[splice];omega
def anM{H:Heap}{h:View}{row xs:Row}{cs gs:List Value}{N N1:List Nat}{o:Nat}(q:jU H h row cs N)(q1:jU H h xs gs N1)(hl:xs.length=gs.length)(ho:o+xs.length<=row.length):
  ∃N' Dr,jU H h (splice row o xs) (splice cs o gs) N'/\(N'++Dr).Perm (N++N1):=by
 have hrow:row=row.take o++((row.drop o).take xs.length++row.drop (o+xs.length)):=by rw[<-List.drop_drop,List.take_append_drop,List.take_append_drop]
 have hcl:=ajo q;rw[hrow] at q;obtain⟨Na,Nb,rfl,qa,qb⟩:=LC.1 q;obtain⟨Nc,Nd,rfl,qc,qd⟩:=LC.1 qb;have l1:(row.take o).length=o:=by simp;omega
 have l2:((row.drop o).take xs.length).length=xs.length:=by simp;omega
 rw[l1,List.drop_drop,l2] at qd;refine⟨Na++(N1++Nd),Nc, ?_, ?_⟩
 ·have e:splice row o xs=row.take o++(xs++row.drop (o+xs.length)):=by simp[splice]
  rw[e];refine LC.2 ⟨Na,N1++Nd,rfl, ?_, ?_⟩
  ·refine Rz ?_ qa;rw[l1];simp only[splice,QW];rw[List.take_append_of_le_length (by simp;omega)];rw[List.take_take];congr 1;omega
  ·rw[l1];have hd:(splice cs o gs).drop o=gs++cs.drop (o+gs.length):=by
    simp only[splice,QW];rw[List.drop_append_of_le_length (by simp;omega)];have:(cs.take o).drop o=[]:=by simp
    rw[this];rfl
   rw[hd];refine LC.2 ⟨N1,Nd,rfl, ?_, ?_⟩
   ·refine Rz ?_ q1;rw[hl];simp
   ·rw[hl];rw[hl] at qd;simpa using qd
 ·simp only[QW];refine List.Perm.append_left Na ?_;have h1:(N1++(Nd++Nc)).Perm ((Nd++Nc)++N1):=List.perm_append_comm;have h2:((Nd++Nc)++N1).Perm ((Nc++Nd)++N1):=List.Perm.append_right N1 List.perm_append_comm;simpa using h1.trans h2
def WJ{H:Heap}{h:View}{s:Nat}:∀{rs:List Row} {cs cs':List Value} {N:List Nat},cs.take (rs.length * s)=cs'.take (rs.length * s)->iU H h s rs cs N->iU H h s rs cs' N
 |[],_,_,_,_,q=>by simpa[iU] using q
 |r::rs,cs,cs',N,e,q=>by
  simp only[iU] at q|-;obtain⟨h1,N1,N2,rfl,h2,h3⟩:=q;have hs:(r::rs).length * s=s+rs.length * s:=by simp[Nat.add_mul];omega
  rw[hs] at e;refine⟨h1,N1,N2,rfl,Rz ?_ h2,WJ ?_ h3⟩
  ·rw[h1];have:=congrArg (List.take s) e;simpa[List.take_take,Nat.min_eq_left] using this
  ·have:=congrArg (List.drop s) e;simpa[List.drop_take] using this
def Nv{H:Heap}{h:View}{s:Nat}:∀{a b:List Row} {cs:List Value} {N:List Nat},iU H h s (a++b) cs N↔∃N1 N2,N=N1++N2/\iU H h s a cs N1/\iU H h s b (cs.drop (a.length * s)) N2
 |[],b,cs,N=>by
  simp only[List.nil_append,iU,UR,Nat.zero_mul,List.drop_zero];constructor
  ·intro q;exact⟨[],N,rfl,rfl,q⟩
  ·rintro⟨N1,N2,rfl,rfl,q⟩;simpa using q
 |x::a,b,cs,N=>by
  have hs:(x::a).length * s=s+a.length * s:=by simp[Nat.add_mul];omega
  simp only[zca,iU,hs];constructor
  ·rintro⟨h0,N1,N2,rfl,h1,h2⟩;obtain⟨N3,N4,rfl,h3,h4⟩:=Nv.1 h2;exact⟨N1++N3,N4,by simp,⟨h0,N1,N3,rfl,h1,h3⟩,by simpa using h4⟩
  ·rintro⟨N1,N2,rfl,⟨h0,N3,N4,rfl,h1,h3⟩,h4⟩;exact⟨h0,N3,N4++N2,by simp,h1,Nv.2 ⟨N4,N2,rfl,h3,by simpa using h4⟩⟩
def PK{h:View}:∀{r:Row} {cs cs':List Value},cs.take r.length=cs'.take r.length->jH h r cs->jH h r cs'
 |[],_,_,_,_=>trivial
 |x::r,cs,cs',e,⟨v,cs1,e1,h1,h2⟩=>by
  subst e1;cases cs' with
  |nil=>simp at e
  |cons v' aFR=>simp only[Pq,List.take_succ_cons,List.cons.injEq] at e;obtain⟨rfl,e⟩:=e;exact⟨v,aFR,rfl,h1,PK e h2⟩
def Gv{h:View}:∀{a b:Row} {cs:List Value},jH h (a++b) cs↔jH h a cs/\jH h b (cs.drop a.length)
 |[],b,cs=>by simp[jH]
 |x::a,b,cs=>by
  simp only[zca,jH];constructor
  ·rintro⟨v,cs',rfl,h1,h2⟩;obtain⟨h3,h4⟩:=Gv.1 h2;exact⟨⟨v,cs',rfl,h1,h3⟩,by simpa using h4⟩
  ·rintro⟨⟨v,cs',rfl,h1,h3⟩,h4⟩;exact⟨v,cs',rfl,h1,Gv.2 ⟨h3,by simpa using h4⟩⟩
def aej{h:View}:∀{r:Row} {cs:List Value},jH h r cs->r.length<=cs.length
 |[],_,_=>by simp
 |x::r,cs,⟨v,cs',e,_,h2⟩=>by subst e;have:=aej h2;simp;omega
def ajp{h:View}{row xs:Row}{cs gs:List Value}{o:Nat}(q:jH h row cs)(q1:jH h xs gs)(hl:xs.length=gs.length)(ho:o+xs.length<=row.length):jH h (splice row o xs) (splice cs o gs):=by
 have hrow:row=row.take o++((row.drop o).take xs.length++row.drop (o+xs.length)):=by rw[<-List.drop_drop,List.take_append_drop,List.take_append_drop]
 have hcl:=aej q;rw[hrow] at q;obtain⟨qa,qb⟩:=Gv.1 q;obtain⟨qc,qd⟩:=Gv.1 qb;have l1:(row.take o).length=o:=by simp;omega
 have l2:((row.drop o).take xs.length).length=xs.length:=by simp;omega
 rw[l1,List.drop_drop,l2] at qd;have e:splice row o xs=row.take o++(xs++row.drop (o+xs.length)):=by simp[splice]
 rw[e];refine Gv.2 ⟨?_, ?_⟩
 ·refine PK ?_ qa;rw[l1];simp only[splice,QW];rw[List.take_append_of_le_length (by simp;omega)];rw[List.take_take];congr 1;omega
 ·rw[l1];have hd:(splice cs o gs).drop o=gs++cs.drop (o+gs.length):=by
   simp only[splice,QW];rw[List.drop_append_of_le_length (by simp;omega)];have:(cs.take o).drop o=[]:=by simp
   rw[this];rfl
  rw[hd];refine Gv.2 ⟨PK (by rw[hl];simp) q1, ?_⟩;rw[hl];rw[hl] at qd;simpa using qd
def SH{h:View}{s:Nat}:∀{rs:List Row} {cs cs':List Value},cs.take (rs.length * s)=cs'.take (rs.length * s)->jF h s rs cs->jF h s rs cs'
 |[],_,_,_,_=>trivial
 |r::rs,cs,cs',e,⟨h1,h2,h3⟩=>by
  have hs:(r::rs).length * s=s+rs.length * s:=by simp[Nat.add_mul];omega
  rw[hs] at e;refine⟨h1,PK ?_ h2,SH ?_ h3⟩
  ·rw[h1];have:=congrArg (List.take s) e;simpa[List.take_take,Nat.min_eq_left] using this
  ·have:=congrArg (List.drop s) e;simpa[List.drop_take] using this
def NQ{h:View}{s:Nat}:∀{a b:List Row} {cs:List Value},jF h s (a++b) cs↔jF h s a cs/\jF h s b (cs.drop (a.length * s))
 |[],b,cs=>by simp[jF]
 |x::a,b,cs=>by
  have hs:(x::a).length * s=s+a.length * s:=by simp[Nat.add_mul];omega
  simp only[zca,jF,hs];rw[NQ,List.drop_drop];constructor
  ·rintro⟨h0,h1,h2,h3⟩;exact⟨⟨h0,h1,h2⟩,h3⟩
  ·rintro⟨⟨h0,h1,h2⟩,h3⟩;exact⟨h0,h1,h2,h3⟩
def ahm{α:Type}{l:List α}{i:Nat}{a b:α}(h:l[i]? =some a):l.set i b=l.take i++(b::l.drop (i+1))/\l=l.take i++(a::l.drop (i+1)):=by
 have hi:=(Po.1 h).1;have ha:=(Po.1 h).2;refine⟨?_, ?_⟩
 ·rw[List.set_eq_take_append_cons_drop,if_pos hi]
 ·rw[<-ha,List.getElem_cons_drop,List.take_append_drop]
def as2{H:Heap}{h:View}{s i o:Nat}{rows:List Row}{row xs:Row}{cs gs:List Value}{N N1:List Nat}(q:iU H h s rows cs N)(hi:rows[i]? =some row)(q1:jU H h xs gs N1)(hl:xs.length=gs.length)(ho:o+xs.length<=s):
  ∃N' Dr,iU H h s (rows.set i (splice row o xs)) (splice cs (i * s+o) gs) N'/\(N'++Dr).Perm (N++N1):=by
 obtain⟨e1,e2⟩:=ahm (b:=splice row o xs) hi;have hil:=(Po.1 hi).1;rw[e2] at q;obtain⟨Na,Nb,rfl,qa,qb⟩:=Nv.1 q;have l1:(rows.take i).length=i:=by simp;omega
 rw[l1] at qb;simp only[iU] at qb;obtain⟨h0,Nc,Nd,rfl,qc,qd⟩:=qb;have hcl:=ajo qc;simp only[List.length_drop] at hcl;obtain⟨N',Dr,qe,hp⟩:=anM (o:=o) qc q1 hl au;have as3:(splice row o xs).length=s:=by rw[SG (l:=row) (xs:=xs) (o:=o) au];exact h0
 have his:i * s<=cs.length:=by
  rcases Nat.eq_zero_or_pos s with e|e
  ·rw[e];simp
  ·omega
 refine⟨Na++(N'++Nd),Dr, ?_, ?_⟩
 ·rw[e1];refine Nv.2 ⟨Na,N'++Nd,rfl, ?_, ?_⟩
  ·refine WJ ?_ qa;rw[l1];simp only[splice,QW];rw[List.take_append_of_le_length (by simp;omega),List.take_take];congr 1;omega
  ·rw[l1];have hd:(splice cs (i * s+o) gs).drop (i * s)=splice (cs.drop (i * s)) o gs:=by simp only[splice];rw[QW,List.drop_append_of_le_length (by simp;omega),List.drop_take,List.drop_drop];rw[show i * s+o - i * s=o from by omega,QW,Nat.add_assoc]
   simp only[iU,hd];refine⟨as3,N',Nd,rfl,qe, ?_⟩;have hd2:(splice (cs.drop (i * s)) o gs).drop s=(cs.drop (i * s)).drop s:=by simp only[splice];rw[List.drop_append,List.drop_eq_nil_of_le (by simp;omega)];simp only[List.nil_append,List.drop_drop,Gt,zlt,List.length_drop];congr 1;omega
   rw[hd2];exact qd
 ·simp only[QW];refine List.Perm.append_left Na ?_;have h1:(N'++(Nd++Dr)).Perm (N'++(Dr++Nd)):=List.Perm.append_left N' List.perm_append_comm;have h2:((N'++Dr)++Nd).Perm ((Nc++N1)++Nd):=List.Perm.append_right Nd hp;have h3:(Nc++(N1++Nd)).Perm (Nc++(Nd++N1)):=List.Perm.append_left Nc List.perm_append_comm;have h2':(N'++(Dr++Nd)).Perm (Nc++(N1++Nd)):=by simpa using h2
  exact h1.trans (h2'.trans h3)
def anN{h:View}{s i o:Nat}{rows:List Row}{row xs:Row}{cs gs:List Value}(q:jF h s rows cs)(hi:rows[i]? =some row)(q1:jH h xs gs)(hl:xs.length=gs.length)(ho:o+xs.length<=s):
  jF h s (rows.set i (splice row o xs)) (splice cs (i * s+o) gs):=by
 obtain⟨e1,e2⟩:=ahm (b:=splice row o xs) hi;have hil:=(Po.1 hi).1;rw[e2] at q;obtain⟨qa,qb⟩:=NQ.1 q;have l1:(rows.take i).length=i:=by simp;omega
 rw[l1] at qb;obtain⟨h0,qc,qd⟩:=qb;have hcl:=aej qc;simp only[List.length_drop] at hcl;have qe:=ajp (o:=o) qc q1 hl au;have as3:(splice row o xs).length=s:=by rw[SG (l:=row) (xs:=xs) (o:=o) au];exact h0
 have his:i * s<=cs.length:=by
  rcases Nat.eq_zero_or_pos s with e|e
  ·rw[e];simp
  ·omega
 rw[e1];refine NQ.2 ⟨?_, ?_⟩
 ·refine SH ?_ qa;rw[l1];simp only[splice,QW];rw[List.take_append_of_le_length (by simp;omega),List.take_take];congr 1;omega
 ·rw[l1];have hd:(splice cs (i * s+o) gs).drop (i * s)=splice (cs.drop (i * s)) o gs:=by simp only[splice];rw[QW,List.drop_append_of_le_length (by simp;omega),List.drop_take,List.drop_drop];rw[show i * s+o - i * s=o from by omega,QW,Nat.add_assoc]
  rw[hd];refine⟨as3,qe, ?_⟩;have hd2:(splice (cs.drop (i * s)) o gs).drop s=(cs.drop (i * s)).drop s:=by simp only[splice];rw[List.drop_append,List.drop_eq_nil_of_le (by simp;omega)];simp only[List.nil_append,List.drop_drop,Gt,zlt,List.length_drop];congr 1;omega
  rw[hd2];exact qd
def At.took(hA:At base U M0 w0 w m G){N:List Nat}(ht:Pm base U w m G m' G' N):G'.E=N/\G'.out=[]/\Fr M0 w0 w G':=
 ⟨by rw[ht.E,hA.E];rfl,ht.out.trans hA.out,hA.fr.less ht.le.ex⟩
def auJ(k:Nat)(c c':Cell):∀m:Mem,put k c (put k c' m)=put k c m
 |[]=>by simp[put]
 |(j,y)::m=>by
  have hk:Nat.beq k k=true:=Nat.beq_refl k
  by_cases h:k=j
  ·subst h;simp[put]
  ·have hb:Nat.beq k j=false:=zM h;cases hl:Nat.blt k j with
   |true=>simp[put,hb,hl]
   |false=>simp[put,hb,hl,auJ k c c' m]
def At.settle(hA:At base U M0 w0 w m G){r:Nat}{T:TypeId}{x:V}(hc:get r m=some (.box T [x])):∃G',Nx base U M0 w0 w m G w (put r (.Dt T x) m) G':=by
 have hro:r ∉ G.out:=by rw[hA.out];simp
 have hle:JE G.μ m G.μ (put r (.Dt T x) m):=Jp (λ_ _=>rfl) (λc h=>by rw[hc] at h;cases h;exact rfl);obtain⟨b,a,e1,e2,e3,e4⟩:=hA.ok.cell r _ hc hro;have hb:b∈G.F r:=by rw[e4];simp
 obtain⟨y,ys,ea,e5,e6⟩:=qB e3;have h1:=hA.ok.set r (.Dt T x) G.μ [] G.E G.out (by simpa using hA.ok.ndE) (by simp;exact λb hb=> .inr hb) hle (λ_ _=>rfl) (λ_ _=>Iff.rfl) (λ_=>rfl)
  (λhv _=>by
   refine⟨rfl,b,y,e1, ?_,Dz hle hv _ _ e5⟩;refine OY (w:=w) (N:=[b]) (λb' hb'=> ?_) b (by simp) a T (0,0) e2 0 y (by rw[ea];rfl);simp only[List.mem_singleton] at hb';subst hb';refine⟨(hA.ok.lt _ (.inr ⟨r,hb⟩)).2.2, ?_⟩;rintro(hE|⟨k,hk⟩)
   ·exact hA.ok.djE r _ hb hE
   ·by_cases e:k=r
    ·subst e;simp at hk
    ·rw[lu _ e] at hk;exact hA.ok.dj r k (Ne.symm e) _ hb hk)
 exact⟨_,hA.still h1.1 h1.2 hA.out⟩
def axY{off:Nat}{cs:List V}{x:V}(h:kept off cs x=true):off=0/\cs=[.undef]/\∃r o,x=.ptr r o:=by
 unfold kept at h;split at h
 ·exact⟨rfl,rfl,_,_,rfl⟩
 ·cases h
def av5(hA:At base U M0 w0 w m G){t:TypeId}{a x:V}{ga gx:Value}(ha:bn G.μ m (Gh U w G) a ga)(hx:bn G.μ m (Gh U w G) x gx){u:Unit}{l l':Log}(h:(asL P t a x).run m l=some (u,m',l')):
  ∃w' G',(Instr.storeAt t ga gx).run P w=.ok () w'/\Nx base U M0 w0 w m G w' m' G':=by
 simp only[asL] at h;replace h:=ay h;obtain⟨_,m1,l1,h1,h⟩:=h;obtain⟨hok,rfl,rfl⟩:=iC h1;replace h:=ay h;obtain⟨_,m1,l1,h1,h⟩:=h;obtain⟨hlen,rfl,rfl⟩:=iC h1;replace h:=ay h;obtain⟨_,m1,l1,h1,h⟩:=h;obtain⟨hone,rfl,rfl⟩:=iC h1;have hlen:=Kr hlen;obtain⟨hxs,hx1⟩:=cells_ok hone hx;have hgl:gx.cells.size=uh P t:=by rw[<-hlen,<-kZ hxs,Array.length_toList]
 cases a with
 |ptr r off=>
  simp only at h;replace h:=ay h;obtain⟨c,m2,l2,h2,h⟩:=h;rw[Ar] at h2;cases h2;cases hc:get r m1 with
  |none=>rw[hc] at h;exact aI h
  |some c=>
   rw[hc] at h;cases c with
   |box T cs=>
    simp only at h;replace h:=ay h;obtain⟨_,m2,l2,h2,h⟩:=h;obtain⟨hfit,rfl,rfl⟩:=iC h2;simp only[bn,hc] at ha;obtain⟨_,b,hμ,rfl⟩:=ha;obtain⟨b',arr,e1,e2,e3,e4⟩:=hA.ok.cell r _ hc (by rw[hA.out];simp);rw[hμ] at e1;cases e1;have hal:arr.size=cs.length:=by simpa using kZ e3
    have hfit:=Nat.le_of_ble_eq_true hfit;have hrun:=ahk (P:=P) hok e2 hgl (off:=off) au hx1;have hb:b∈G.F r:=by rw[e4];simp
    have hnx:=hA.rewrite (c':=.box T (splice cs off x.cells)) (w':=w.setRow b (splice arr.toList off gx.cells.toList).toArray) (μ':=G.μ) (N:=[b]) hc (aag hb) (by simp) (λk hk=>by
     simp at hk;subst hk;refine⟨.inl hb, ?_⟩;have:=(hA.ok.lt _ (.inr ⟨r,hb⟩)).1;simpa[World.setRow] using this) (λ_ _=>rfl) ⟨rfl,rfl⟩ (λh' hv hml=>by
     refine⟨b,_,hμ,setRow_heap w b arr _ T (0,0) e2, ?_,rfl⟩;have:=YJ off e3 hxs;simpa using vU hml hv _ _ this)
    cases hkp:kept off cs x with
    |false=>rw[hkp] at h;simp only[PE,kU,ql] at h;obtain⟨_,rfl,_⟩:=h;exact⟨_,_,hrun,hnx⟩
    |true=>rw[hkp] at h;simp only[PE,kU,ql] at h;obtain⟨_,rfl,_⟩:=h;obtain⟨rfl,rfl,r',o',rfl⟩:=axY hkp;have hsp:splice [V.undef] 0 (V.ptr r' o').cells=[V.ptr r' o']:=rfl;rw[hsp] at hnx;obtain⟨G',hnx2⟩:=hnx.at_.settle (r:=r) (T:=T) (x:=.ptr r' o') (kD _ _ _);rw[auJ] at hnx2;exact⟨_,_,hrun,hnx.trans hnx2⟩
   |_=>exact aI h
 |Lp r ver i off=>
  simp only at h;replace h:=ay h;obtain⟨xs,m2,l2,h2,h⟩:=h;obtain⟨G1,N1,t1,hrow,hxl⟩:=VA hA.ok hxs hA.out h2;obtain⟨hE1,ho1,apq⟩:=hA.took t1;replace h:=ay h;obtain⟨c,m3,l3,h3,h⟩:=h;rw[Ar] at h3;cases h3;replace ha:=t1.le.bn ha;cases hc:get r m2 with
  |none=>rw[hc] at h;exact aI h
  |some c=>
   rw[hc] at h;cases c with
   |arr fz fl vH s rows=>
    cases fz with
    |true=>exact aI h
    |false=>
    simp only at h;replace h:=ay h;obtain⟨_,m4,l4,h4,h⟩:=h;obtain⟨hb,rfl,rfl⟩:=iC h4;have hb:=Kr hb;subst hb;replace h:=ay h;obtain⟨_,m4,l4,h4,h⟩:=h;obtain⟨hfit,rfl,rfl⟩:=iC h4;have hfit:=Nat.le_of_ble_eq_true hfit;replace h:=ay h;obtain⟨row,m4,l4,h4,h⟩:=h;obtain⟨hrw,rfl,rfl⟩:=lS h4;simp only[PE,kU,ql] at h;obtain⟨_,rfl,_⟩:=h;simp only[bn,hc] at ha;obtain⟨b,n,cap,hμ,rfl⟩:=ha.2.2 trivial;have hcell:=t1.ok.cell r _ hc (by rw[ho1];simp);have hne:rows≠[]:=by intro e;subst e;simp at hrw
    have hil:=(Po.1 hrw).1;simp only[vS] at hcell;rcases hcell with⟨e,_,_⟩|⟨b',cap',cs,T,N',k1,k2,k3,k4,k5,k6⟩
    ·exact absurd e hne
    rw[hμ] at k1;simp only[Value.slice.injEq,kU,Addr.mk.injEq] at k1;obtain⟨⟨rfl,_⟩,rfl,rfl⟩:=k1;have hbF:b∈G1.F r:=by rw[k6];simp
    have axZ:xs.length=gx.cells.toList.length:=by rw[hxl,kZ hxs]
    have hsz:i * s+off+gx.cells.size<=cs.size:=by rw[k4,hgl];have:(i+1) * s<=cap * s:=Nat.mul_le_mul_right s au;rw[Nat.add_mul] at this;omega
    have hrun:=ahk (P:=P) hok k3 hgl (off:=i * s+off) hsz hx1;have hh:=setRow_heap w b cs (splice cs.toList (i * s+off) gx.cells.toList).toArray T (0,0) k3;have aJr:off+xs.length<=s:=by rw[axZ,Array.length_toList,hgl];exact hfit
    have aJs:(splice cs.toList (i * s+off) gx.cells.toList).length=cs.size:=by rw[SG (by simpa using hsz)];simp
    have key:∃N2,N2.Nodup/\(fl=true->N2=[])/\(∀k,k∈N2->k∈G1.F r\/k∈G1.E)/\∀h':View,(Gh U w G1).le h'->(fl=true->agf h' (eU w) N1)->ad9 (eU (w.setRow b (splice cs.toList (i * s+off) gx.cells.toList).toArray)) h' fl s (rows.set i (splice row off xs)) (G1.μ r) (b::N2)/\b ∉ N2:=by
     have hoth:∀k,k≠b->eU (w.setRow b (splice cs.toList (i * s+off) gx.cells.toList).toArray) k=eU w k:=λk hk=>setRow_other w b k _ hk
     cases fl with
     |true=>
      refine⟨[],by simp,λ_=>rfl,by simp,λh' hv hs=>⟨.inr ⟨b,cap,_,T,[], ?_, ?_,hh, ?_,⟨?_,rfl⟩,rfl⟩,by simp⟩⟩
      ·rw[hμ];simp
      ·simpa using k2
      ·simpa[aJs] using k4
      ·have q1:jH h' xs gx.cells.toList:=aec hv xs _ N1 (hs rfl) hrow;simpa using anN (Nu hv s rows _ k5.1) hrw q1 axZ aJr
     |false=>
      obtain⟨N2,Dr,q1,hp⟩:=as2 k5 hrw hrow axZ aJr;have aTs:(N'++N1).Nodup:=by have h1:=t1.ok.nd r;rw[k6] at h1;have h2:=t1.ok.ndE;rw[hE1] at h2;exact List.nodup_append.2 ⟨(List.nodup_cons.1 h1).2,h2,λx hx y hy e=>t1.ok.djE r x (by rw[k6];simp[hx]) (by rw[hE1,e];exact hy)⟩
      have hnd:=List.nodup_append.1 (hp.nodup_iff.2 aTs);have hmem:∀k,k∈N2->k∈N'\/k∈N1:=λk hk=>by simpa using hp.mem_iff.1 (List.mem_append_left Dr hk)
      have hbn:b ∉ N2:=by
       intro hb2;rcases hmem b hb2 with h|h
       ·have:=t1.ok.nd r;rw[k6] at this;exact(List.nodup_cons.1 this).1 h
       ·exact t1.ok.djE r b hbF (by rw[hE1];exact h)
      refine⟨N2,hnd.1,(λe=>by cases e),λk hk=> ?_,λh' hv _=>⟨.inr ⟨b,cap,_,T,N2, ?_, ?_,hh, ?_, ?_,rfl⟩,hbn⟩⟩
      ·rcases hmem k hk with h|h
       ·left;rw[k6];simp[h]
       ·right;rw[hE1];exact h
      ·rw[hμ];simp
      ·simpa using k2
      ·simpa[aJs] using k4
      ·have:=Kt hv s _ _ N2 (λk hk=>hoth k (λe=>hbn (e ▸ hk))) q1;simpa using this
    obtain⟨N2,hN2,aTt,aTu,Xt⟩:=key;refine⟨_,_,hrun,Nx.after t1.le (t1.ok.rewrite ho1 apq (μ':=G1.μ) (N:=b::N2) hc (aag hbF) ?_ ?_ (λ_ _=>rfl) ⟨Nat.le_refl _,rfl,λ_=>⟨rfl,rfl⟩⟩ ?_)⟩
    ·exact List.nodup_cons.2 ⟨(Xt (full w) (yE _ _ _) (λ_=>alQ)).2,hN2⟩
    ·intro k hk;have hsz':(w.setRow b (splice cs.toList (i * s+off) gx.cells.toList).toArray).heap.size=w.heap.size:=by simp[World.setRow]
     rw[hsz'];simp only[List.mem_cons] at hk;rcases hk with rfl|hk
     ·exact⟨.inl hbF,(t1.ok.lt _ (.inr ⟨r,hbF⟩)).1⟩
     ·rcases aTu k hk with h|h
      ·exact⟨.inl h,(t1.ok.lt _ (.inr ⟨r,h⟩)).1⟩
      ·exact⟨.inr (.inl h),(t1.ok.lt _ (.inl h)).1⟩
    ·intro h' hv hml aBC;refine(Xt h' hv (λhfl=> ?_)).1;intro k hk;have hkE:k∈G1.E:=by rw[hE1];exact hk
     refine aBC k hkE ?_ k (by simp);rw[aTt hfl];simp only[List.mem_singleton];intro e;subst e;exact t1.ok.djE r _ hbF hkE
   |_=>exact aI h
 |_=>exact aI h
def Jo.fresh(hg:Jo base U w m G)(ho:G.out=[])(hfr:Fr M0 w0 w G){k:Nat}{c':Cell}{gv:Value}{N:List Nat}(hn:get k m=none)(hk:Keep [] w w')(hN:N.Nodup)
  (hNs:∀b,b∈N->(b∈G.E\/w.heap.size<=b)/\b<w'.heap.size)
  (hcell:∀h':View,(Gh U w G).le h'->JE G.μ m (upM G.μ k gv) (put k c' m)->(∀j,j∈G.E->j ∉ N->agf h' (eU w) [j])->vS (upM G.μ k gv) (put k c' m) (eU w') h' k c' N):
  Nx base U M0 w0 w m G w' (put k c' m) ⟨upM G.μ k gv,upF G.F k N,[],[]⟩:=by
 have hk':Keep G.E w w':=⟨hk.os,hk.tape,hk.output,hk.size,λb hb _=>hk.block b hb (by simp)⟩
 obtain⟨q1,q2⟩:=Jo.world hg hk' (E':=N) hN hNs;have hμ:∀j,j≠k->upM G.μ k gv j=G.μ j:=λj e=>Rx gv e
 have hml:JE G.μ m (upM G.μ k gv) (put k c' m):=Jp hμ (λc0 h0=>by rw[hn] at h0;cases h0);have hFk:G.F k=[]:=hg.none_ k hn;have hset:=Jo.set (U:=U) (w:=w') q1 k c' (upM G.μ k gv) N [] [] (by simpa using hN) (by simp;exact λb hb=> .inr hb) hml hμ (λj hj=>by simp[ho]) (by simp)
  (λhv _=>hcell _ (q2.trans' hv) hml (λj hjE hjN b hb cs t fr hH o v hv=>by
   have hb:=List.mem_singleton.1 hb;rw[<-hb] at hjE hjN;have hlt:=hg.lt b (.inl hjE);have hsame:eU w' b=eU w b:=hk.block b hlt.1 (by simp);refine OY (w:=w') (N:=[b]) (λx hx=> ?_) b (by simp) cs t fr (hsame.trans hH) o v hv;rw[List.mem_singleton.1 hx];refine⟨hlt.2.2, ?_⟩;rintro(h|⟨i,h⟩)
   ·simp at h
   ·by_cases e:i=k
    ·subst e;rw[I8] at h;exact hjN h
    ·rw[lu _ e] at h;exact hg.djE i b h hjE))
 obtain⟨s1,s2⟩:=hset;refine⟨s1,rfl,rfl,hml,q2.trans' s2.view, ?_⟩;refine⟨hfr.keep.trans hk (by simp), ?_⟩;rintro b (hb|⟨i,hb⟩)
 ·simp at hb
 ·by_cases e:i=k
  ·subst e;simp only[I8] at hb;rcases(hNs b hb).1 with h|h
   ·exact hfr.fr b (.inl h)
   ·exact .inr (Nat.le_trans hfr.keep.size h)
  ·simp only[lu _ e] at hb;exact hfr.fr b (.inr ⟨i,hb⟩)
def aah{w1:World}{o:Obj}(h:w1.heap=w.heap):eU (w1.alloc o) w.heap.size=some o:=by have:=heap_alloc_new w1 o;rw[h] at this;exact this
def al2(hA:At base U M0 w0 w m G){k:Nat}{T:TypeId}{cs:List V}{arr:Array Value}(hs:dI G.μ m (Gh U w G) cs arr.toList){u:Unit}{l l':Log}(h:(new k (.box T cs)).run m l=some (u,m',l')):
  ∃G',Nx base U M0 w0 w m G (w.alloc (.cells arr T)) m' G'/\bn G'.μ m' (Gh U (w.alloc (.cells arr T)) G') (.ptr k 0) (.pointer (some ⟨w.heap.size,0,none⟩)):=by
 obtain⟨hn,rfl⟩:=abT h;refine⟨_,hA.ok.fresh hA.out hA.fr (gv:=.pointer (some ⟨w.heap.size,0,none⟩)) (N:=[w.heap.size]) hn aei (by simp) (λb hb=>by simp at hb;subst hb;simp) (λh' hv hml _=> ?_), ?_⟩
 ·exact⟨w.heap.size,arr,by simp,aah rfl,vU hml hv _ _ hs,rfl⟩
 ·simp[bn,kD,aea,axR]
def ajq(hg:Jo base U w m G)(ho:G.out=[])(hfr:Fr M0 w0 w G){w1:World}(hw1:w1.heap=w.heap)(hk1:Keep [] w w1){k:Nat}{fl:Bool}{s cap:Nat}{rows:List Row}{arr:Array Value}{T:TypeId}(hq:iU (eU w) (Gh U w G) s rows arr.toList G.E)
  (hcap:rows.length<=cap) (hsz:arr.size=cap * s) {u:Unit} {l l':Log} (h:(new k (.arr false fl 0 s rows)).run m l=some (u,m',l')):
  ∃G',Nx base U M0 w0 w m G (w1.alloc (.cells arr T)) m' G'/\bn G'.μ m' (Gh U (w1.alloc (.cells arr T)) G') (.own k 0) (.slice (some ⟨w.heap.size,0,none⟩) rows.length cap):=by
 obtain⟨hn,rfl⟩:=abT h;have hsize:(w1.alloc (.cells arr T)).heap.size=w.heap.size+1:=by rw[World.size_alloc,hw1]
 have hkeep:Keep [] w (w1.alloc (.cells arr T)):=hk1.trans (aei (M:=[])) (by simp);have hnE:w.heap.size ∉ G.E:=λhE=>by have:=(hg.lt _ (.inl hE)).1;omega
 have hnew:eU (w1.alloc (.cells arr T)) w.heap.size=some (.cells arr T (0,0)):=aah hw1;refine⟨_,hg.fresh ho hfr (gv:=.slice (some ⟨w.heap.size,0,none⟩) rows.length cap) (N:=w.heap.size::(match fl with|true=>[]|false=>G.E)) hn hkeep ?_ ?_ ?_, ?_⟩
 ·cases fl with
  |true=>simp
  |false=>exact List.nodup_cons.2 ⟨hnE,hg.ndE⟩
 ·intro b hb;simp only[List.mem_cons] at hb;rcases hb with rfl|hb
  ·exact⟨.inr (Nat.le_refl _),by rw[hsize];omega⟩
  ·cases fl with
   |true=>simp at hb
   |false=>exact⟨.inl hb,by rw[hsize];have:=(hg.lt b (.inl hb)).1;omega⟩
 ·intro h' hv hml aBC;simp only[vS,Ue];refine .inr ⟨w.heap.size,cap,arr,T,_,rfl,hcap,hnew,hsz, ?_,rfl⟩;cases fl with
  |true=>refine⟨OX hv s rows _ _ (λb hb=> ?_) hq,rfl⟩;refine aBC b hb ?_ b (by simp);simp only[List.mem_singleton];intro e;exact hnE (e ▸ hb)
  |false=>exact Kt hv s rows _ _ (λb hb=>hkeep.block b (hg.lt b (.inl hb)).1 (by simp)) hq
 ·simp[bn,kD,aea,axR]
def YL(off:Nat):∀(xs:List Value) (k:Nat) (cells:Array Value),off+k+xs.length<=cells.size->
  ((xs.zipIdx k).foldl (λcs (c,j)=>cs.setIfInBounds (off+j) c) cells).toList=splice cells.toList (off+k) xs
 |[],k,cells,h=>by simp[splice]
 |x::xs,k,cells,h=>by simp only[Pq] at h;simp only[List.zipIdx_cons,List.foldl_cons];rw[YL off xs (k+1) _ (by simp;omega)];have e:=list_seg_step cells.toList (off+k) x xs (by simp;omega);simpa[splice,Array.toList_setIfInBounds,Nat.add_assoc] using e
def NR(base:Nat)(U:Nat->Prop)(M0:List Nat)(w0 w:World)(m:Mem)(G:GS)(P:Program)(s:Sem Value)(v:V)(m':Mem):Prop:=
 ∃g w' G',s.run P w=.ok g w'/\Nx base U M0 w0 w m G w' m' G'/\bn G'.μ m' (Gh U w' G') v g
def NR.same(hA:At base U M0 w0 w m G){s:Sem Value}{g:Value}{v:V}(h:s.run P w=.ok g w)(hv:bn G.μ m (Gh U w G) v g):NR base U M0 w0 w m G P s v m:=⟨g,w,G,h,hA.nx,hv⟩
def ax0(hA:At base U M0 w0 w m G){T k:Nat}{z:List V}(hz:SB P T=some z){u:Unit}{l l':Log}(h:(new k (.box T z)).run m l=some (u,m',l')):
  NR base U M0 w0 w m G P (Instr.alloc T true (.tuple #[])) (.ptr k 0) m':=by
 obtain⟨i,zv,hi,hzv,hs⟩:=VG (m:=m) (μ:=G.μ) (h:=Gh U w G) hz;obtain⟨G',hnx,Xt⟩:=al2 hA hs h;refine⟨_,_,G', ?_,hnx,Xt⟩;simp[Instr.alloc,zeroValue,typeInfo,hi,hzv,newVar,newRow]
def aFS(hA:At base U M0 w0 w m G){T k:Nat}{v:V}{g:Value}(hv:bn G.μ m (Gh U w G) v g)(h1:v.cells.all one=true){u:Unit}{l l':Log}(h:(new k (.box T v.cells)).run m l=some (u,m',l')):
  NR base U M0 w0 w m G P (Instr.box T g) (.ptr k 0) m':=by
 obtain⟨hs,_⟩:=cells_ok h1 hv;obtain⟨G',hnx,Xt⟩:=al2 hA hs h;refine⟨_,_,G', ?_,hnx,Xt⟩;simp[Instr.box,newVar,newRow]
def ahn:∀(fs:List Field),(fs.all λf=>match P.info? f.type with|some _=>true|none=>false)=true->
  ∃places,fs.mapM (λf=>(P.info? f.type).map λi=>(f.offset,i.size))=some places/\∀(j:Nat) f,fs[j]? =some f->places[j]? =some (f.offset,uh P f.type)
 |[],_=>⟨[],by simp,by simp⟩
 |f::fs,h=>by
  simp only[List.all_cons,zq] at h;obtain⟨places,h1,h2⟩:=ahn fs h.2;cases hi:P.info? f.type with
  |none=>simp[hi] at h
  |some i=>
   refine⟨(f.offset,i.size)::places,by simp[List.mapM_cons,hi,h1], ?_⟩;intro j g hj;cases j with
   |zero=>simp at hj;subst hj;simp[uh,hi]
   |succ j=>simpa using h2 j g (by simpa using hj)
def acz{T:TypeId}{fs:Array Field}(hu:P.underlying T=some (.struct fs)){place:Nat->Option (Nat×Nat)}(hp:∀(j:Nat) f,fs[j]? =some f->place j=some (f.offset,uh P f.type)){tm:nH}{a:Act}
  {μ:Nat->Value} {h:View}:∀(ps:List (Nat×Operand)) {m:Mem} (_:afc μ m h tm a) {cs:List V} {cells:Array Value} (_:dI μ m h cs cells.toList) {out:List V} {m':Mem} {l l':Log}
  (_:(zK P T tm ps cs).run m l=some (out,m',l')),m'=m/\∃r,Instr.fill place cells (ps.map λx=>(x.1,a.eval x.2))=some r/\dI μ m h out r.toList
 |[],m,hT,cs,cells,hs,out,m',l,l',hr=>by simp only[zK,run_pure,kU,ql] at hr;obtain⟨rfl,rfl,_⟩:=hr;exact⟨rfl,cells,rfl,hs⟩
 |(f,x)::ps,m,hT,cs,cells,hs,out,m',l,l',hr=>by
  simp only[zK] at hr;replace hr:=ay hr;obtain⟨⟨o,n,t⟩,m1,l1,h1,hr⟩:=hr;obtain⟨hf,rfl,rfl⟩:=lS h1;simp only at hr;obtain⟨hlen,hr⟩:=bck hr;obtain⟨hone,hr⟩:=bck hr;obtain⟨hfit,hr⟩:=bck hr;have hlen:=Kr hlen;have hfit:=Nat.le_of_ble_eq_true hfit;obtain⟨hv,hv1⟩:=cells_ok hone (aaf hT t x);have hgl:(a.eval x).cells.size=n:=by rw[<-hlen,<-kZ hv,Array.length_toList]
  have hcl:cells.size=cs.length:=by rw[<-kZ hs,Array.length_toList]
  have hpl:place f=some (o,n):=by
   unfold YF at hf;rw[hu] at hf;simp only at hf;cases hfd:fs[f]? with
   |none=>simp[hfd] at hf
   |some fd=>simp only[hfd,kU,ql] at hf;obtain⟨rfl,rfl,rfl⟩:=hf;exact hp f fd hfd
  have hsp:=YL o (a.eval x).cells.toList 0 cells (by simp;omega);have hz:(a.eval x).cells.zipIdx.foldl (λcs (c,j)=>cs.setIfInBounds (o+j) c) cells=(splice cells.toList o (a.eval x).cells.toList).toArray:=by apply Array.ext';rw[<-Array.foldl_toList];simpa using hsp
  obtain⟨hm,r,hr1,hr2⟩:=acz hu hp ps hT (cells:=(splice cells.toList o (a.eval x).cells.toList).toArray) (by simpa using YJ o hs hv) hr;refine⟨hm,r, ?_,hr2⟩;simp only[zmc,Instr.fill,hpl];rw[if_neg (by simp[hgl];omega),hz];exact hr1
def av6(hA:At base U M0 w0 w m G){tm:nH}{a:Act}(hT:afc G.μ m (Gh U w G) tm a){T:TypeId}{ps:Array (Nat×Operand)}{v:V}{l l':Log}(h:(anF P T tm ps.toList).run m l=some (v,m',l')):
  NR base U M0 w0 w m G P (Instr.build T (ps.map λx=>(x.1,a.eval x.2))) v m':=by
 simp only[anF] at h;replace h:=ay h;obtain⟨_,m1,l1,h1,h⟩:=h;obtain⟨hok,rfl,rfl⟩:=iC h1;replace h:=ay h;obtain⟨z,m1,l1,h1,h⟩:=h;obtain⟨hz,rfl,rfl⟩:=lS h1;replace h:=ay h;obtain⟨cs,m2,l2,h2,h⟩:=h;simp only[run_pure,kU,ql] at h;obtain⟨rfl,rfl,_⟩:=h;obtain⟨i,zv,hi,hzv,hs⟩:=VG (m:=m1) (μ:=G.μ) (h:=Gh U w G) hz;unfold apf at hok;cases hu:P.underlying T with
 |none=>simp[hu] at hok
 |some d=>
  rw[hu] at hok;cases d with
  |struct fs=>simp only at hok;obtain⟨places,hpl,hpg⟩:=ahn fs.toList hok;obtain⟨hm,r,hr1,hr2⟩:=acz (place:=(places.toArray[·]?)) hu (λj f hj=>by simpa using hpg j f (by simpa using hj)) ps.toList hT hs h2;subst hm;refine NR.same hA (g:=.agg r) ?_ (by simp only[bn];exact⟨r,rfl,hr2⟩);refine run_build w T _ r ?_;unfold Program.built;simp only[hi,hu,hzv,hpl];simpa[Array.toList_map] using hr1
  |_=>simp at hok
def aai{e:TypeId}{size:Nat}(hsz:uh P e=size){tm:nH}{a:Act}
  {μ:Nat->Value} {h:View}:∀(ps:List (Nat×Operand)) {m:Mem} (_:afc μ m h tm a) {cs:List V} {cells:Array Value} (_:dI μ m h cs cells.toList) {out:List V} {m':Mem} {l l':Log}
  (_:(xu P e tm ps cs).run m l=some (out,m',l')),m'=m/\∃r,Instr.fill (λi=>some (i * size,size)) cells (ps.map λx=>(x.1,a.eval x.2))=some r/\dI μ m h out r.toList
 |[],m,hT,cs,cells,hs,out,m',l,l',hr=>by simp only[xu,run_pure,kU,ql] at hr;obtain⟨rfl,rfl,_⟩:=hr;exact⟨rfl,cells,rfl,hs⟩
 |(i,x)::ps,m,hT,cs,cells,hs,out,m',l,l',hr=>by
  simp only[xu] at hr;obtain⟨hlen,hr⟩:=bck hr;obtain⟨hone,hr⟩:=bck hr;obtain⟨hfit,hr⟩:=bck hr;have hlen:=Kr hlen;have hfit:=Nat.le_of_ble_eq_true hfit;rw[hsz] at hlen hfit hr;obtain⟨hv,hv1⟩:=cells_ok hone (aaf hT e x);have hgl:(a.eval x).cells.size=size:=by rw[<-hlen,<-kZ hv,Array.length_toList]
  have hcl:cells.size=cs.length:=by rw[<-kZ hs,Array.length_toList]
  have hsp:=YL (i * size) (a.eval x).cells.toList 0 cells (by simp;omega);have hz:(a.eval x).cells.zipIdx.foldl (λcs (c,j)=>cs.setIfInBounds (i * size+j) c) cells=(splice cells.toList (i * size) (a.eval x).cells.toList).toArray:=by apply Array.ext';rw[<-Array.foldl_toList];simpa using hsp
  obtain⟨hm,r,hr1,hr2⟩:=aai hsz ps hT (cells:=(splice cells.toList (i * size) (a.eval x).cells.toList).toArray) (by simpa using YJ (i * size) hs hv) hr;refine⟨hm,r, ?_,hr2⟩;simp only[zmc,Instr.fill];rw[if_neg (by simp[hgl];omega),hz];exact hr1
def av7(hA:At base U M0 w0 w m G){tm:nH}{a:Act}(hT:afc G.μ m (Gh U w G) tm a){T:TypeId}{ps:Array (Nat×Operand)}{v:V}{l l':Log}(h:(anG P T tm ps.toList).run m l=some (v,m',l')):
  NR base U M0 w0 w m G P (Instr.build T (ps.map λx=>(x.1,a.eval x.2))) v m':=by
 unfold anG at h;split at h
 ·rename_i n e har;unfold arT at har;cases hu:P.underlying T with
  |none=>simp[hu] at har
  |some d=>rw[hu] at har;cases d<;>simp at har;obtain⟨rfl,rfl⟩:=har;simp only[asQ] at h;replace h:=ay h;obtain⟨_,m1,l1,h1,h⟩:=h;obtain⟨hok,rfl,rfl⟩:=iC h1;replace h:=ay h;obtain⟨z,m1,l1,h1,h⟩:=h;obtain⟨hz,rfl,rfl⟩:=lS h1;replace h:=ay h;obtain⟨cs,m2,l2,h2,h⟩:=h;simp only[run_pure,kU,ql] at h;obtain⟨rfl,rfl,_⟩:=h;obtain⟨i,zv,hi,hzv,hs⟩:=VG (m:=m1) (μ:=G.μ) (h:=Gh U w G) hz;obtain⟨d',hd'⟩:=Ku hok;obtain⟨inf,RD⟩:=Gu hd';obtain⟨hm,r,hr1,hr2⟩:=aai (PG RD) ps.toList hT hs h2;subst hm;refine NR.same hA (g:=.agg r) ?_ (by simp only[bn];exact⟨r,rfl,hr2⟩);refine run_build w T _ r ?_;unfold Program.built;simp only[hi,hu,hzv,RD];simpa[Array.toList_map] using hr1
 ·exact av6 hA hT h
def acA{e:TypeId}{tm:nH}{a:Act}:∀(ps:List (Nat×Operand)) {m:Mem} {G:GS} {k:Nat} (_:Jo base U w m G) (_:G.out=[]) (_:afc G.μ m (Gh U w G) tm a) {rows:List Row} {m':Mem} {l l':Log}
  (_:(zL P e tm k ps).run m l=some (rows,m',l')),∃G' N,Pm base U w m G m' G' N/\iU (eU w) (Gh U w G') (uh P e) rows ((ps.map λx=>a.eval x.2).flatMap λv=>v.cells.toList) N/\rows.length=ps.length/\
   (∀v∈ps.map (λx=>a.eval x.2),v.cells.size=uh P e)/\ps.map (λx=>(x.1,a.eval x.2))=((ps.map λx=>a.eval x.2).zipIdx k).map λx=>(x.2,x.1)
 |[],m,G,k,hg,ho,hT,rows,m',l,l',h=>by simp only[zL,run_pure,kU,ql] at h;obtain⟨rfl,rfl,_⟩:=h;exact⟨G,[],Pm.same hg,by simp[iU],rfl,by simp,by simp⟩
 |(i,x)::ps,m,G,k,hg,ho,hT,rows,m',l,l',h=>by
  simp only[zL] at h;replace h:=ay h;obtain⟨_,m1,l1,h1,h⟩:=h;obtain⟨hik,rfl,rfl⟩:=iC h1;have hik:=Kr hik;subst hik;replace h:=ay h;obtain⟨_,m1,l1,h1,h⟩:=h;obtain⟨hlen,rfl,rfl⟩:=iC h1;have hlen:=Kr hlen;replace h:=ay h;obtain⟨row,m2,l2,h2,h⟩:=h;replace h:=ay h;obtain⟨rows',m3,l3,h3,h⟩:=h;simp only[run_pure,kU,ql] at h;obtain⟨rfl,rfl,_⟩:=h;have hev:=aaf (P:=P) hT e x;have hcells:∃gs,dI G.μ m1 (Gh U w G) (ev P tm e x).cells gs/\(a.eval x).cells.toList=gs:=by
   generalize ev P tm e x=v at hev h2 hlen;cases v with
   |agg cs=>simp only[bn] at hev;obtain⟨arr,he,hq⟩:=hev;exact⟨arr.toList,hq,by rw[he];rfl⟩
   |d y=>have h1:(a.eval x).oneCell'=true:=sO (v:=.d y) rfl hev;exact⟨[a.eval x],by simp only[V.cells,dI];exact⟨_,[],rfl,hev,rfl⟩,by rw[cells_one h1]⟩
   |nil s=>have h1:(a.eval x).oneCell'=true:=sO (v:=.nil s) rfl hev;exact⟨[a.eval x],by simp only[V.cells,dI];exact⟨_,[],rfl,hev,rfl⟩,by rw[cells_one h1]⟩
   |own r ver=>have h1:(a.eval x).oneCell'=true:=sO (v:=.own r ver) rfl hev;exact⟨[a.eval x],by simp only[V.cells,dI];exact⟨_,[],rfl,hev,rfl⟩,by rw[cells_one h1]⟩
   |ptr r o=>have h1:(a.eval x).oneCell'=true:=sO (v:=.ptr r o) rfl hev;exact⟨[a.eval x],by simp only[V.cells,dI];exact⟨_,[],rfl,hev,rfl⟩,by rw[cells_one h1]⟩
   |Lp r v i o=>have h1:(a.eval x).oneCell'=true:=sO (v:=.Lp r v i o) rfl hev;exact⟨[a.eval x],by simp only[V.cells,dI];exact⟨_,[],rfl,hev,rfl⟩,by rw[cells_one h1]⟩
   |Fg r o=>have h1:(a.eval x).oneCell'=true:=sO (v:=.Fg r o) rfl hev;exact⟨[a.eval x],by simp only[V.cells,dI];exact⟨_,[],rfl,hev,rfl⟩,by rw[cells_one h1]⟩
   |Pv q=>have h1:(a.eval x).oneCell'=true:=sO (v:=.Pv q) rfl hev;exact⟨[a.eval x],by simp only[V.cells,dI];exact⟨_,[],rfl,hev,rfl⟩,by rw[cells_one h1]⟩
   |clo f p q=>have h1:(a.eval x).oneCell'=true:=sO (v:=.clo f p q) rfl hev;exact⟨[a.eval x],by simp only[V.cells,dI];exact⟨_,[],rfl,hev,rfl⟩,by rw[cells_one h1]⟩
   |Zl vs=>simp only[V.cells,Py,toD] at h2;replace h2:=ay h2;obtain⟨_,_,_,h4,_⟩:=h2;exact aI h4
   |undef=>simp only[V.cells,Py,toD] at h2;replace h2:=ay h2;obtain⟨_,_,_,h4,_⟩:=h2;exact aI h4
  obtain⟨gs,hgs,hge⟩:=hcells;obtain⟨G1,N1,t1,q1,hrl⟩:=VA hg hgs ho h2;have hT1:afc G1.μ m2 (Gh U w G1) tm a:=λt v hv=>⟨(hT t v hv).1,t1.le.bn (hT t v hv).2⟩
  obtain⟨G2,N2,t2,q2,hl2,hs2,hz2⟩:=acA ps t1.ok (t1.out.trans ho) hT1 h3;have hgl:gs.length=uh P e:=by rw[kZ hgs,hlen]
  refine⟨G2,N1++N2,t1.trans t2, ?_,by simp[hl2], ?_, ?_⟩
  ·simp only[iU,zmc,List.flatMap_cons,hge];refine⟨by rw[hrl,hlen],N1,N2,rfl,Rz (by rw[hrl,<-kZ hgs];simp) (aee t2.le.view q1), ?_⟩;rw[List.drop_append_of_le_length au,List.drop_eq_nil_of_le au];exact q2
  ·intro v hv;simp only[zmc,List.mem_cons] at hv;rcases hv with rfl|hv
   ·rw[<-Array.length_toList,hge,hgl]
   ·exact hs2 v hv
  ·simp only[zmc,List.zipIdx_cons,hz2]
def ajr(hA:At base U M0 w0 w m G){tm:nH}{a:Act}(hT:afc G.μ m (Gh U w G) tm a){t:TypeId}{n k:Nat}{ps:Array (Nat×Operand)}{v:V}{l l':Log}(h:(WC P k t n tm ps.toList).run m l=some (v,m',l')):
  NR base U M0 w0 w m G P (Instr.buildSlice t n (ps.map λx=>(x.1,a.eval x.2))) v m':=by
 simp only[WC] at h;replace h:=ay h;obtain⟨e,m1,l1,h1,h⟩:=h;obtain⟨he,rfl,rfl⟩:=lS h1;replace h:=ay h;obtain⟨_,m1,l1,h1,h⟩:=h;obtain⟨hs1,rfl,rfl⟩:=iC h1;replace h:=ay h;obtain⟨_,m1,l1,h1,h⟩:=h;obtain⟨hn,rfl,rfl⟩:=iC h1;replace h:=ay h;obtain⟨_,m1,l1,h1,h⟩:=h;obtain⟨hb,rfl,rfl⟩:=iC h1;replace h:=ay h;obtain⟨z,m1,l1,h1,h⟩:=h;obtain⟨hz,rfl,rfl⟩:=lS h1;obtain⟨inf,zv,hi,hzv,_⟩:=VG (m:=m1) (μ:=G.μ) (h:=Gh U w G) hz;replace h:=ay h;obtain⟨rows,m2,l2,h2,h⟩:=h;replace h:=ay h;obtain⟨_,m3,l3,h3,h⟩:=h;simp only[run_pure,kU,ql] at h;obtain⟨rfl,rfl,_⟩:=h;have hs1:=Nat.le_of_ble_eq_true hs1;have hn:=Kr hn;have hb:=Nat.le_of_ble_eq_true hb;have hu:=XV he;obtain⟨G1,N1,t1,q1,hrl,hsz,aTv⟩:=acA (e:=e) ps.toList hA.ok hA.out hT h2;obtain⟨hE1,ho1,apq⟩:=hA.took t1;have hsz':uh P e=inf.size:=PG hi;have hrn:rows.length=n:=by rw[hrl,hn]
 by_cases hn0:n=0
 ·subst hn0;have hps:ps.toList=[]:=List.eq_nil_of_length_eq_zero hn;have hrows:rows=[]:=List.eq_nil_of_length_eq_zero hrn;subst hrows;have hpa:ps=#[]:=by cases ps;simp_all
  subst hpa;simp only[iU] at q1;obtain⟨G2,hnx,Xt⟩:=ajq (w1:=w) (cap:=0) (arr:=#[]) (T:=e) t1.ok ho1 apq rfl (Keep.refl _ _) (k:=k) (fl:=I7 P e) (s:=uh P e) (rows:=[]) (by rw[hE1,q1];simp[iU]) (by simp) (by simp) h3;refine⟨_,_,G2, ?_,Nx.after t1.le hnx,Xt⟩;simp[Instr.buildSlice,run_underlying hu,sizeOf,typeInfo,hi,Instr.fill,newRow,Array.range_zero']
 ·have hpos:¬n * inf.size=0:=by rw[<-hsz'];intro e0;rcases Nat.mul_eq_zero.1 e0 with e1|e1<;>omega
  have hsmall:¬n * inf.size>2 ^ 24:=by rw[<-hsz'];omega
  have ax1:=Go.Great.fill_whole (s:=uh P e) au (ps.toList.map λx=>a.eval x.2) ((Array.range (n * inf.size)).map (zv.cells[· % zv.cells.size]!)) hsz (by simp[<-hsz'];rw[<-hn];simp);rw[<-aTv] at ax1;have hrun:=run_buildSlice w t e n (ps.map λx=>(x.1,a.eval x.2)) _ inf zv hu hi hzv hsmall hpos (by rw[<-hsz'];rw[<-hsz'] at ax1;simpa[Array.toList_map] using ax1);have hcl:((ps.toList.map λx=>a.eval x.2).flatMap λv=>v.cells.toList).length=n * uh P e:=by
   have:∀(l:List Value),(∀v∈l,v.cells.size=uh P e)->(l.flatMap λv=>v.cells.toList).length=l.length * uh P e:=by
    intro l;induction l with
    |nil=>simp
    |cons v l ih=>intro hv;simp only[List.flatMap_cons,Gt,Pq,Nat.add_mul,Array.length_toList];rw[ih (λu hu=>hv u (by simp[hu])),hv v (by simp)];omega
   rw[this _ hsz];simp[<-hn]
  obtain⟨G2,hnx,Xt⟩:=ajq (w1:=w) (cap:=n) (arr:=((ps.toList.map λx=>a.eval x.2).flatMap λv=>v.cells.toList).toArray) (T:=e) t1.ok ho1 apq rfl (Keep.refl _ _) (k:=k) (fl:=I7 P e) (s:=uh P e) (rows:=rows) (by rw[hE1];simpa using q1) au (by simp[hcl]) h3;rw[hrn] at Xt;exact⟨_,_,G2,hrun,Nx.after t1.le hnx,Xt⟩
def aho{h:View}{b:Nat}:∀(r:Row) (o:Nat),BO h r b o->∃cs:List Value,cs.length=r.length/\(∀j v,cs[j]? =some v->h b (o+j)=some v)/\jH h r cs
 |[],_,_=>⟨[],rfl,by simp,trivial⟩
 |x::r,o,q=>by
  simp only[BO] at q;obtain⟨⟨v,h1,h2⟩,h3⟩:=q;obtain⟨cs,e1,e2,e3⟩:=aho r (o+1) h3;refine⟨v::cs,by simp[e1], ?_,⟨v,cs,rfl,h2,e3⟩⟩;intro j u hj;cases j with
  |zero=>simp at hj;subst hj;exact h1
  |succ j=>
   have:=e2 j u (by simpa using hj)
   rwa [show o+(j+1)=o+1+j from by omega]
def YM{h:View}{s b:Nat}:∀(rs:List Row) (o:Nat),sN h s rs b o->∃cs:List Value,cs.length=rs.length * s/\(∀j v,cs[j]? =some v->h b (o+j)=some v)/\jF h s rs cs
 |[],_,_=>⟨[],by simp,by simp,trivial⟩
 |r::rs,o,q=>by
  simp only[sN] at q;obtain⟨h1,h2,h3⟩:=q;obtain⟨cs1,a1,a2,a3⟩:=aho r o h2;obtain⟨cs2,b1,b2,b3⟩:=YM rs (o+s) h3;have hl:cs1.length=s:=by rw[a1,h1]
  refine⟨cs1++cs2,by simp[hl,b1,Nat.add_mul];omega, ?_,h1, ?_, ?_⟩
  ·intro j u hj
   by_cases hlt:j<s
   ·rw[List.getElem?_append_left au] at hj;exact a2 j u hj
   ·rw[List.getElem?_append_right au,hl] at hj;have:=b2 (j - s) u hj
    rwa [show o+j=o+s+(j - s) from by omega]
  ·refine PK ?_ a3;rw[List.take_append_of_le_length au]
  ·rw[List.drop_append_of_le_length au,List.drop_eq_nil_of_le au];exact b3
def ahp{h:View}:∀{r:Row} {cs:List Value},jH h r cs->∀u∈cs.take r.length,u.oneCell'=true
 |[],_,_=>by simp
 |x::r,cs,⟨v,cs',e,h1,h2⟩=>by
  subst e;intro u hu;simp only[Pq,List.take_succ_cons,List.mem_cons] at hu;rcases hu with rfl|hu
  ·exact Xr h1
  ·exact ahp h2 u hu
def YN{h:View}{s:Nat}:∀{rs:List Row} {cs:List Value},jF h s rs cs->∀u∈cs.take (rs.length * s),u.oneCell'=true
 |[],_,_=>by simp
 |r::rs,cs,⟨h1,h2,h3⟩=>by
  intro u hu;have hs:(r::rs).length * s=s+rs.length * s:=by simp[Nat.add_mul];omega
  rw[hs,List.take_add] at hu;simp only[List.mem_append] at hu;rcases hu with hu|hu
  ·exact ahp h2 u (by rw[h1];exact hu)
  ·exact YN h3 u hu
def alg{H:Heap}{h:View}{x:D}{g:Value}{N:List Nat}(q:ow H h x g N):g.oneCell'=true:=by
 cases x with
 |sl o s rows=>
  cases o with
  |false=>simp only[ow] at q;exact Xr q.2
  |true=>simp only[ow] at q;rcases q with⟨_,rfl,_⟩|⟨b,cap,cs,t,N',rfl,_⟩<;>rfl
 |_=>simp only[ow] at q;rw[q.1];rfl
def al3{H:Heap}{h:View}:∀{r:Row} {cs:List Value} {N:List Nat},jU H h r cs N->∀u∈cs.take r.length,u.oneCell'=true
 |[],_,_,_=>by simp
 |x::r,cs,N,q=>by
  obtain⟨v,cs',N1,N2,rfl,rfl,h1,h2⟩:=OG q;intro u hu;simp only[Pq,List.take_succ_cons,List.mem_cons] at hu;rcases hu with rfl|hu
  ·exact alg h1
  ·exact al3 h2 u hu
def ajs{H:Heap}{h:View}{s:Nat}:∀{rs:List Row} {cs:List Value} {N:List Nat},iU H h s rs cs N->∀u∈cs.take (rs.length * s),u.oneCell'=true
 |[],_,_,_=>by simp
 |r::rs,cs,N,q=>by
  simp only[iU] at q;obtain⟨h1,N1,N2,rfl,h2,h3⟩:=q;intro u hu;have hs:(r::rs).length * s=s+rs.length * s:=by simp[Nat.add_mul];omega
  rw[hs,List.take_add] at hu;simp only[List.mem_append] at hu;rcases hu with hu|hu
  ·exact al3 h2 u (by rw[h1];exact hu)
  ·exact ajs h3 u hu
def JF(H:Heap)(h:View)(fl:Bool)(s:Nat)(rows:List Row)(cs:List Value)(N:List Nat):Prop:=match fl with
 |true=>jF h s rows cs/\N=[]
 |false=>iU H h s rows cs N
def RF{H:Heap}{h:View}{fl:Bool}{s:Nat}{rows:List Row}{cs cs':List Value}{N:List Nat}(e:cs.take (rows.length * s)=cs'.take (rows.length * s))(q:JF H h fl s rows cs N):JF H h fl s rows cs' N:=by
 cases fl with
 |true=>exact⟨SH e q.1,q.2⟩
 |false=>exact WJ e q
def afd{H:Heap}{h:View}{fl:Bool}{s:Nat}{a b:List Row}{cs:List Value}{N N':List Nat}(q:JF H h fl s a cs N)(q':JF H h fl s b (cs.drop (a.length * s)) N'):JF H h fl s (a++b) cs (N++N'):=by
 cases fl with
 |true=>exact⟨NQ.2 ⟨q.1,q'.1⟩,by rw[q.2,q'.2];rfl⟩
 |false=>exact Nv.2 ⟨N,N',rfl,q,q'⟩
def OI{H H':Heap}{h h':View}(hl:h.le h'){fl:Bool}{s:Nat}{rows:List Row}{cs:List Value}{N:List Nat}(hb:∀b,b∈N->H' b=H b)(q:JF H h fl s rows cs N):JF H' h' fl s rows cs N:=by
 cases fl with
 |true=>exact⟨Nu hl s rows _ q.1,q.2⟩
 |false=>exact Kt hl s rows _ N hb q
mutual
def ax2{H:Heap}{h:View}:∀(x:D) (v:Value),ro h x.fz v->ow H h x.fz v []
 | .int _ _,_,q=>by simpa[D.fz,ow,ro] using q
 | .bool _,_,q=>by simpa[D.fz,ow,ro] using q
 | .str _,_,q=>by simpa[D.fz,ow,ro] using q
 | .ZG,_,q=>by simpa[D.fz,ow,ro] using q
 | .sl _ s rows,v,q=>by simp only[D.fz,ow,true_and] at q|-;exact q
end
def ahq{H:Heap}{h:View}:∀(r:Row) (cs:List Value),jH h (Bf r) cs->jU H h (Bf r) cs []
 |[],_,_=>by simp[Bf,jU]
 |x::r,cs,q=>by simp only[Bf,jH] at q;obtain⟨v,cs',e,h1,h2⟩:=q;simp only[Bf,jU];exact⟨v,cs',[],[],e,rfl,ax2 x v h1,ahq r cs' h2⟩
def afe{H:Heap}{h:View}{s:Nat}:∀(rs:List Row) (cs:List Value),jF h s (aB rs) cs->iU H h s (aB rs) cs []
 |[],_,_=>by simp[aB,iU]
 |r::rs,cs,q=>by simp only[aB,jF] at q;obtain⟨h1,h2,h3⟩:=q;simp only[aB,iU];exact⟨h1,[],[],rfl,ahq r cs h2,afe rs _ h3⟩
def ajt{h:View}:∀{r:Row} {cs:List Value},jH h r cs->jH h (Bf r) cs
 |[],_,_=>by simp[Bf,jH]
 |x::r,cs,⟨v,cs',e,h1,h2⟩=>by simp only[Bf,jH];exact⟨v,cs',e,axS x v h1,ajt h2⟩
def ahr{h:View}{s:Nat}:∀{rs:List Row} {cs:List Value},jF h s rs cs->jF h s (aB rs) cs
 |[],_,_=>by simp[aB,jF]
 |r::rs,cs,⟨h1,h2,h3⟩=>by simp only[aB,jF];exact⟨by rw[YH];exact h1,ajt h2,ahr h3⟩
structure Tail(P:Program)(base:Nat)(U:Nat->Prop)(w:World)(m:Mem)(G:GS)(size:Nat)(fl:Bool)(gy:Value)(ys:List Row)(m':Mem):Prop where
 ex:∃G' news,Jo base U w m' G'/\GLe m G m' G'/\G'.out=G.out/\G'.μ=G.μ/\Src P size w gy ys.length news/\JF (eU w) (Gh U w G') fl size ys news G'.E/\∀r c,get r m=some c->get r m'=some c\/get r m'=some .dead
def aBD(hA:At base U M0 w0 w m G){e:TypeId}{y:V}{gy:Value}(hy:bn G.μ m (Gh U w G) y gy)(hsz:1<=uh P e){ys:List Row}{l l':Log}(h:(tail P e y).run m l=some (ys,m',l')):
  Tail P base U w m G (uh P e) (I7 P e) gy ys m':=by
 have plain:∀(ys:List Row) (news:List Value),Src P (uh P e) w gy ys.length news->(I7 P e=true->jF (Gh U w G) (uh P e) ys news)->(I7 P e=false->iU (eU w) (Gh U w G) (uh P e) ys news [])->
   Tail P base U w m G (uh P e) (I7 P e) gy ys m:=by
  intro ys news h1 h2 h3;refine⟨G,news,hA.ok,GLe.refl _ _,rfl,rfl,h1, ?_,λr c h=> .inl h⟩;rw[hA.E];cases hf:I7 P e with
  |true=>exact⟨h2 hf,rfl⟩
  |false=>exact h3 hf
 have seen:∀(rows:List Row) (o:Bool),ro (Gh U w G) (.sl o (uh P e) rows) gy->Tail P base U w m G (uh P e) (I7 P e) gy (vw (I7 P e) rows) m:=by
  intro rows o hq;simp only[ro] at hq;obtain⟨a,cap,rfl,hcap,hne⟩:=hq;have hvl:(vw (I7 P e) rows).length=rows.length:=by unfold vw;cases I7 P e<;>simp[Xo]
  by_cases hr:rows=[]
  ·subst hr;have hv:vw (I7 P e) []=[]:=by unfold vw;cases I7 P e<;>simp[aB]
   rw[hv];exact plain [] [] (Src.slice (by simp) (by simp) (by simp)) (λ_=>trivial) (λ_=>by simp[iU])
  ·obtain⟨b,o',rfl,hrows⟩:=hne hr;obtain⟨cs,c1,c2,c3⟩:=YM rows o' hrows;refine plain _ cs ?_ (λhf=> ?_) (λhf=> ?_)
   ·rw[hvl];refine Src.slice c1 (λu hu=> ?_) (λ_=>⟨b,o',rfl,λj v hj=>yE _ _ _ _ _ _ (c2 j v hj)⟩);exact YN c3 u (by rw[<-c1,List.take_length];exact hu)
   ·rw[hf];exact c3
   ·rw[hf];simp only[vw,bG];exact afe rows cs (ahr c3)
 cases y with
 |d x=>
  cases x with
  |str s=>simp only[Vm.tail] at h;replace h:=ay h;obtain⟨_,m1,l1,h1,h⟩:=h;obtain⟨hs,rfl,rfl⟩:=iC h1;simp only[run_pure,kU,ql] at h;obtain⟨rfl,rfl,_⟩:=h;have hs:=Kr hs;simp only[bn,ro] at hy;subst hy;have aEu:=axW (h:=Gh U w G) s _ rfl;refine plain _ _ (by rw[hs];simpa using Src.string) (λ_=>by rw[hs];exact aEu) (λ_=> ?_);rw[hs];refine Z9 1 _ _ ?_ aEu;simp[aj,byteRow,D.flat]
  |sl o s rows=>simp only[Vm.tail] at h;replace h:=ay h;obtain⟨_,m1,l1,h1,h⟩:=h;obtain⟨hs,rfl,rfl⟩:=iC h1;simp only[run_pure,kU,ql] at h;obtain⟨rfl,rfl,_⟩:=h;have hs:=Kr hs;subst hs;simp only[bn] at hy;exact seen rows o hy
  |_=>exact aI h
 |nil s=>simp only[Vm.tail,run_pure,kU,ql] at h;obtain⟨rfl,rfl,_⟩:=h;simp only[bn] at hy;subst hy;exact plain [] [] (Src.slice (by simp) (by simp) (by simp)) (λ_=>trivial) (λ_=>by simp[iU])
 |own r ver=>
  simp only[Vm.tail] at h;replace h:=ay h;obtain⟨c,m1,l1,h1,h⟩:=h;rw[Ar] at h1;cases h1;cases hc:get r m with
  |none=>rw[hc] at h;exact aI h
  |some c=>
   rw[hc] at h;cases c with
   |arr fz fl vH s rows=>
    simp only at h;replace h:=ay h;obtain⟨_,m1,l1,h1,h⟩:=h;obtain⟨hb,rfl,rfl⟩:=iC h1;have hb:=Kr hb;subst hb;replace h:=ay h;obtain⟨_,m1,l1,h1,h⟩:=h;obtain⟨hs,rfl,rfl⟩:=iC h1;have hs:=Kr hs;subst hs;simp only[bn,hc] at hy;have hy:=hy.2.2 trivial;subst hy;have hro:r ∉ G.out:=by rw[hA.out];simp
    have hcell:=hA.ok.cell r _ hc hro;cases hf:I7 P e with
    |true=>
     rw[hf] at h;simp only at h;replace h:=ay h;obtain⟨_,m1,l1,h1,h⟩:=h;obtain⟨hff,rfl,rfl⟩:=iC h1;simp only[run_pure,kU,ql] at h;obtain⟨rfl,rfl,_⟩:=h;cases fz with
     |true=>have:=seen rows true hcell.1;rw[hf] at this;simpa[vw] using this
     |false=>
      have hfl:fl=true:=by simpa using hff
      subst hfl;rw[hf] at plain;simp only[vS] at hcell;rcases hcell with⟨rfl,hμ,_⟩|⟨b,cap,cs,T,N',h1,h2,h3,h4,h5,_⟩
      ·rw[hμ] at plain|-;exact plain [] [] (Src.slice (by simp) (by simp) (by simp)) (λ_=>trivial) (λe=>by cases e)
      ·rw[h1] at plain|-;have hle:rows.length * uh P e<=cs.toList.length:=by
        have hcl:cs.toList.length=cap * uh P e:=by simpa using h4
        rw[hcl];exact Nat.mul_le_mul_right _ h2
       refine plain rows (cs.toList.take (rows.length * uh P e)) (Src.slice (by rw[zlt];omega) (λu hu=>YN h5.1 u hu) (λ_=>⟨b,0,rfl,λj v hj=> ?_⟩)) (λ_=>SH (by rw[List.take_take,Nat.min_self]) h5.1) (λe=>by cases e);rw[List.getElem?_take] at hj;split at hj
       ·have:=full_cell (w:=w) h3 (0+j);rw[Nat.zero_add] at this|-;rw[hj] at this;exact this
       ·cases hj
    |false=>
     rw[hf] at h;simp only at h;replace h:=ay h;obtain⟨_,m1,l1,h1,h⟩:=h;obtain⟨hff,rfl,rfl⟩:=iC h1;have hfl:fl=false:=by simpa using hff
     subst hfl;cases fz with
     |true=>simp only[run_pure,kU,ql] at h;obtain⟨rfl,rfl,_⟩:=h;have:=seen rows true hcell.1;rw[hf] at this;simpa[vw] using this
     |false=>
      simp only at h;replace h:=ay h;obtain⟨_,m1,l1,h1,h⟩:=h;rw[PE] at h1;cases h1;simp only[run_pure,kU,ql] at h;obtain⟨rfl,rfl,_⟩:=h;obtain⟨k1,k2,k3⟩:=hA.ok.kill hc hro;have hold:∀j c,get j m1=some c->get j (put r .dead m1)=some c\/get j (put r .dead m1)=some .dead:=by
       intro j c hj
       by_cases e:j=r
       ·subst e;right;exact kD _ _ _
       ·left;rw[ou e];exact hj
      rcases k3 with⟨rfl,hμ,hF⟩|⟨b,cap,cs,T,N',h1,h2,h3,h4,h5,hF⟩
      ·refine⟨_,[],k1,k2,rfl,rfl, ?_, ?_,hold⟩
       ·rw[hμ];exact Src.slice (by simp) (by simp) (by simp)
       ·rw[hA.E,hF];simp[JF,iU]
      ·have hnd:(b::N').Nodup:=by rw[<-hF];exact hA.ok.nd r
       obtain⟨q1,q2⟩:=k1.less N' (List.nodup_cons.1 hnd).2 (λx hx=>by rw[hA.E,hF];simp[hx]);have hle:rows.length * uh P e<=cs.toList.length:=by
        have hcl:cs.toList.length=cap * uh P e:=by simpa using h4
        rw[hcl];exact Nat.mul_le_mul_right _ h2
       refine⟨_,cs.toList.take (rows.length * uh P e),q1,k2.trans q2,rfl,rfl, ?_, ?_,hold⟩
       ·rw[h1];refine Src.slice (by rw[zlt];omega) (λu hu=>ajs h5 u hu) (λ_=>⟨b,0,rfl,λj v hj=> ?_⟩);rw[List.getElem?_take] at hj;split at hj
        ·have:=full_cell (w:=w) h3 (0+j);rw[Nat.zero_add] at this|-;rw[hj] at this;exact this
        ·cases hj
       ·exact WJ (by rw[List.take_take,Nat.min_self]) (apk (k2.view.trans' q2.view) h5)
   |_=>exact aI h
 |_=>exact aI h
end
section
variable {base:Nat} {U:Nat->Prop} {M0:List Nat} {w0 w w':World} {m m':Mem} {G G' G1:GS} {P:Program}
def Ii{b:Bool}{l:Log}{x:Unit}{l':Log}(h:(ck b).run m l=some (x,m',l')):b=true/\m=m'/\l=l':=by obtain⟨h1,h2,h3⟩:=iC h;exact⟨h1,h2.symm,h3.symm⟩
def aff{a:Nat}(h:Nat.ble a ae1=true):a<=140737488355328:=Nat.le_of_ble_eq_true h
def al4{M M':List Nat}(h:Keep M w w')(hs:∀b,b∈M->b∈M'):Keep M' w w':=⟨h.os,h.tape,h.output,h.size,λb hb hn=>h.block b hb (λhx=>hn (hs b hx))⟩
def aek{w1:World}{o:Obj}(h:Keep [] w w1):Keep [] w (w1.alloc o):=h.trans (aei (M:=[])) (by simp)
def ahs(hg:Jo base U w m G)(ho:G.out=[])(hfr:Fr M0 w0 w G){w1:World}(hw1:w1.heap=w.heap)(hk1:Keep [] w w1){k:Nat}{fl:Bool}{s cap:Nat}{rows:List Row}{arr:Array Value}{T:TypeId}(hq:JF (eU w) (Gh U w G) fl s rows arr.toList G.E)
  (hcap:rows.length<=cap) (hsz:arr.size=cap * s) {u:Unit} {l l':Log} (h:(new k (.arr false fl 0 s rows)).run m l=some (u,m',l')):
  ∃G',Nx base U M0 w0 w m G (w1.alloc (.cells arr T)) m' G'/\bn G'.μ m' (Gh U (w1.alloc (.cells arr T)) G') (.own k 0) (.slice (some ⟨w.heap.size,0,none⟩) rows.length cap):=by
 obtain⟨hn,rfl⟩:=abT h;have hsize:(w1.alloc (.cells arr T)).heap.size=w.heap.size+1:=by rw[World.size_alloc,hw1]
 have hkeep:Keep [] w (w1.alloc (.cells arr T)):=aek hk1;have hnE:w.heap.size ∉ G.E:=λhE=>by have:=(hg.lt _ (.inl hE)).1;omega
 refine⟨_,hg.fresh ho hfr (gv:=.slice (some ⟨w.heap.size,0,none⟩) rows.length cap) (N:=w.heap.size::G.E) hn hkeep (List.nodup_cons.2 ⟨hnE,hg.ndE⟩) ?_ ?_, ?_⟩
 ·intro b hb;simp only[List.mem_cons] at hb;rcases hb with rfl|hb
  ·exact⟨.inr (Nat.le_refl _),by rw[hsize];omega⟩
  ·exact⟨.inl hb,by rw[hsize];have:=(hg.lt b (.inl hb)).1;omega⟩
 ·intro h' hv hml aBC;simp only[vS,Ue];refine .inr ⟨w.heap.size,cap,arr,T,G.E,rfl,hcap,aah hw1,hsz, ?_,rfl⟩;have:=OI (H':=eU (w1.alloc (.cells arr T))) hv (λb hb=>hkeep.block b (hg.lt b (.inl hb)).1 (by simp)) hq;cases fl with
  |true=>exact this
  |false=>exact this
 ·simp[bn,kD,aea]
def ael{z:Value}{n s:Nat}(h:z.cells.size=s):(Builtin.zeroCells z.cells n).size=n * s:=by simp[Builtin.zeroCells,h]
def as4(hA:At base U M0 w0 w m G){dst:Nat}{t ty ry:TypeId}{x y:V}{gx gy:Value}(hx:bn G.μ m (Gh U w G) x gx)(hy:bn G.μ m (Gh U w G) y gy){v:V}{l l':Log}(h:(anD P dst t ty x y).run m l=some (v,m',l')):
  NR base U M0 w0 w m G P (Builtin.append_ #[t,ty] ry #[gx,gy]) v m':=by
 simp only[anD] at h;replace h:=ay h;obtain⟨e,m1,l1,h1,h⟩:=h;obtain⟨he,rfl,rfl⟩:=lS h1;replace h:=ay h;obtain⟨_,m1,l1,h1,h⟩:=h;obtain⟨hs1,rfl,rfl⟩:=iC h1;replace h:=ay h;obtain⟨_,m1,l1,h1,h⟩:=h;obtain⟨hty,rfl,rfl⟩:=iC h1;replace h:=ay h;obtain⟨z,m1,l1,h1,h⟩:=h;obtain⟨hz,rfl,rfl⟩:=lS h1;replace h:=ay h;obtain⟨_,m1,l1,h1,h⟩:=h;obtain⟨hzs,rfl,rfl⟩:=iC h1;replace h:=ay h;obtain⟨ys,m2,l2,h2,h⟩:=h;have hs1:=Nat.le_of_ble_eq_true hs1;have hu:=XV he;have hty':(∃e',P.underlying ty=some (.slice e'))\/P.underlying ty=some .string:=by
  cases hq:P.underlying ty with
  |none=>simp[hq] at hty
  |some d=>rw[hq] at hty;cases d<;>simp at hty<;>simp
 obtain⟨G1,news,t1,t2,t3,t4,hsrc,hrows,hold⟩:=(aBD hA hy hs1 h2).ex;have apq:Fr M0 w0 w G1:=hA.fr.less t2.ex;have ho1:G1.out=[]:=t3.trans hA.out;obtain⟨inf,zv,hi,hzv,aJt⟩:=VG (m:=m1) (μ:=G.μ) (h:=Gh U w G) hz;have hzs:zv.cells.size=uh P e:=by rw[<-Kr hzs,<-kZ aJt,Array.length_toList]
 have hsz:uh P e=inf.size:=PG hi;have hby:ad3 P e=inf.bytes:=by simp[ad3,hi]
 rw[hsz] at hsrc;cases x with
 |nil s0=>
  simp only at h;replace h:=ay h;obtain⟨_,m3,l3,h3,h⟩:=h;obtain⟨hb1,rfl,rfl⟩:=iC h3;replace h:=ay h;obtain⟨_,m3,l3,h3,h⟩:=h;obtain⟨hb2,rfl,rfl⟩:=iC h3;replace h:=ay h;obtain⟨_,m3,l3,h3,h⟩:=h;simp only[run_pure,kU,ql] at h;obtain⟨rfl,rfl,_⟩:=h;simp only[bn] at hx;subst hx;have hb1:=aff hb1;have hb2:=aff hb2;rw[hby] at hb1
  by_cases hy0:ys=[]
  ·subst hy0;obtain⟨hn,rfl⟩:=abT h3;refine⟨_,w,_,Zn hu hty' hi hsrc,Nx.after t2 (t1.fresh ho1 apq (gv:=.slice none 0 0) (N:=[]) hn (Keep.refl _ _) (by simp) (by simp) (λh' hv hml _=> ?_)), ?_⟩
   ·simp only[vS,Ue];exact .inl ⟨rfl,rfl,rfl⟩
   ·simp[bn,kD,aea]
  ·have hm:ys.length≠0:=by simpa using hy0
   obtain⟨cap,hcap,hrun⟩:=Zm (w:=w) (ty:=ry) hu hty' hi hzv hsrc hm hb2 hb1;obtain⟨G2,hnx,Xt⟩:=ahs (w1:=w.drew) (cap:=cap) (arr:=news.toArray++Builtin.zeroCells zv.cells (cap - ys.length)) (T:=e) t1 ho1 apq rfl agm (k:=dst) (fl:=I7 P e) (s:=uh P e) (rows:=ys)
    (RF (by
     have hnl:news.length=ys.length * uh P e:=by rw[hsz];exact hsrc.n
     simp only[Array.toList_append];rw[List.take_append_of_le_length au]) hrows) hcap (by
     rw[Array.size_append,ael hzs,hsz];have hnl:news.toArray.size=ys.length * inf.size:=by simpa using hsrc.n
     rw[hnl,<-Nat.add_mul];congr 1;omega) h3
   exact⟨_,_,G2,hrun,Nx.after t2 hnx,Xt⟩
 |own r ver=>
  simp only at h;replace h:=ay h;obtain⟨c,m3,l3,h3,h⟩:=h;rw[Ar] at h3;cases h3;replace hx:=t2.bn hx;cases hc:get r m2 with
  |none=>rw[hc] at h;exact aI h
  |some c=>
  rw[hc] at h;cases c with
  |box _ _=>exact aI h
  |dead=>exact aI h
  |Dt _ _=>exact aI h
  |arr fz fl vH s rows=>
  cases fz with
  |true=>exact aI h
  |false=>
  simp only at h;replace h:=ay h;obtain⟨_,m4,l4,h4,h⟩:=h;obtain⟨hb,rfl,rfl⟩:=Ii h4;have hb:=Kr hb;subst hb;replace h:=ay h;obtain⟨_,m4,l4,h4,h⟩:=h;obtain⟨hs,rfl,rfl⟩:=Ii h4;have hs:=Kr hs;subst hs;replace h:=ay h;obtain⟨_,m4,l4,h4,h⟩:=h;obtain⟨hfl,rfl,rfl⟩:=Ii h4;have hfl:fl=I7 P e:=by cases fl<;>cases hq:I7 P e<;>simp_all
  rw[<-hfl] at hrows;replace h:=ay h;obtain⟨_,m4,l4,h4,h⟩:=h;obtain⟨hb1,rfl,rfl⟩:=Ii h4;have hb1:=aff hb1;rw[hby] at hb1;replace h:=ay h;obtain⟨_,m4,l4,h4,h⟩:=h;obtain⟨hb2,rfl,rfl⟩:=Ii h4;have hb2:=aff hb2;replace h:=ay h;obtain⟨_,m4,l4,h4,h⟩:=h;rw[PE] at h4;cases h4;simp only[run_pure,kU,ql] at h;obtain⟨rfl,rfl,_⟩:=h;simp only[bn,hc] at hx;have hx:=hx.2.2 trivial;subst hx;have hcell:=t1.cell r _ hc (by rw[ho1];simp);have hnl:news.length=ys.length * uh P e:=by rw[hsz];exact hsrc.n
  have aFT:¬ver=ver+1:=au;have hEd:∀b,b∈G1.F r->b ∉ G1.E:=λb=>t1.djE r b
  have fin:∀(w':World) (g:Value) (N:List Nat),Keep (G1.F r) w w'->N.Nodup->(∀b,b∈N->(b∈G1.F r\/b∈G1.E\/w.heap.size<=b)/\b<w'.heap.size)->
    (∀h':View,(Gh U w G1).le h'->ad9 (eU w') h' fl (uh P e) (rows++ys) g N)->(Builtin.append_ #[t,ty] ry #[G1.μ r,gy]).run P w=.ok g w'->aea g->
    NR base U M0 w0 w m1 G P (Builtin.append_ #[t,ty] ry #[G1.μ r,gy]) (.own r (ver+1)) (put r (.arr false fl (ver+1) (uh P e) (rows++ys)) m2):=by
   intro w' g N hk hN hNs Xt hrun hone;refine⟨g,w',_,hrun,Nx.after t2 (t1.rewrite ho1 apq (μ':=upM G1.μ r g) (N:=N) hc hk hN hNs (λk hk=>Rx g hk) ⟨au,rfl,λe=>absurd e aFT⟩ (λh' hv hml _=> ?_)), ?_⟩
   ·simp only[vS,Ue];exact Xt h' hv
   ·simp[bn,kD,hone]
  simp only[vS] at hcell;rcases hcell with⟨rfl,hμ,hF⟩|⟨b,cap,cs,T,N',k1,k2,k3,k4,k5,k6⟩
  ·
   by_cases hy0:ys=[]
   ·subst hy0;refine fin w (.slice none 0 0) [] (Keep.refl _ _) (by simp) (by simp) (λh' hv=> .inl ⟨rfl,rfl,rfl⟩) ?_ ⟨_,_,_,rfl⟩;rw[hμ];exact Zn hu hty' hi hsrc
   ·have hm:ys.length≠0:=by simpa using hy0
    obtain⟨cap,hcap,hrun⟩:=Zm (w:=w) (ty:=ry) hu hty' hi hzv hsrc hm (by simpa using hb2) (by simpa using hb1);have hkeep:Keep [] w (w.drew.alloc (.cells (news.toArray++Builtin.zeroCells zv.cells (cap - ys.length)) e)):=aek agm;have hsize:(w.drew.alloc (.cells (news.toArray++Builtin.zeroCells zv.cells (cap - ys.length)) e)).heap.size=w.heap.size+1:=by rw[World.size_alloc];rfl
    have hnE:w.heap.size ∉ G1.E:=λhE=>by have:=(t1.lt _ (.inl hE)).1;omega
    refine fin _ _ (w.heap.size::G1.E) (al4 hkeep (by simp)) (List.nodup_cons.2 ⟨hnE,t1.ndE⟩) ?_ ?_ (by rw[hμ];exact hrun) ⟨_,_,_,rfl⟩
    ·intro k hk;simp only[List.mem_cons] at hk;rcases hk with rfl|hk
     ·exact⟨.inr (.inr (Nat.le_refl _)),by rw[hsize];omega⟩
     ·exact⟨.inr (.inl hk),by rw[hsize];have:=(t1.lt k (.inl hk)).1;omega⟩
    ·intro h' hv;refine .inr ⟨w.heap.size,cap,_,e,G1.E,rfl,by simpa using hcap,aah rfl, ?_, ?_,rfl⟩
     ·rw[Array.size_append,ael hzs,hsz];have hnl:news.toArray.size=ys.length * inf.size:=by simpa using hsrc.n
      rw[hnl,<-Nat.add_mul];congr 1;omega
     ·have h1:=OI hv (λb hb=>hkeep.block b (t1.lt b (.inl hb)).1 (by simp)) hrows;have h2:=RF (cs':=(news.toArray++Builtin.zeroCells zv.cells (cap - ys.length)).toList) (by simp only[Array.toList_append];rw[List.take_append_of_le_length au]) h1;rw[List.nil_append];cases fl with
      |true=>exact h2
      |false=>exact h2
  ·have hbF:b∈G1.F r:=by rw[k6];simp
   have aFU:=t1.nd r;rw[k6] at aFU;have as5:∀k,k∈N'->k∈G1.F r:=λk hk=>by rw[k6];simp[hk]
   have aEv:(N'++G1.E).Nodup:=List.nodup_append.2 ⟨(List.nodup_cons.1 aFU).2,t1.ndE,λa ha c hc e=>hEd a (as5 a ha) (e ▸ hc)⟩;have hcl:cs.toList.length=cap * uh P e:=by simpa using k4
   have hrl:rows.length * uh P e<=cs.toList.length:=by rw[hcl];exact Nat.mul_le_mul_right _ k2
   have k5':JF (eU w) (Gh U w G1) fl (uh P e) rows cs.toList N':=by
    cases fl with
    |true=>exact k5
    |false=>exact k5
   by_cases hroom:rows.length+ys.length<=cap
   ·
    have hrun:=run_append_fits (ty:=ry) hu hty' hi hsrc k3 hroom (by rw[k4,hsz]);rw[<-hsz] at hrun;have hh:=setRow_heap w b cs (splice cs.toList (rows.length * uh P e) news).toArray T (0,0) k3;have hfit:rows.length * uh P e+news.length<=cs.toList.length:=by rw[hnl,hcl,<-Nat.add_mul];exact Nat.mul_le_mul_right _ hroom
    have hoth:∀k,k≠b->eU (w.setRow b (splice cs.toList (rows.length * uh P e) news).toArray) k=eU w k:=λk hk=>setRow_other w b k _ hk
    have hsz2:(w.setRow b (splice cs.toList (rows.length * uh P e) news).toArray).heap.size=w.heap.size:=by simp[World.setRow]
    have hbN:b ∉ N'++G1.E:=by
     intro hx;simp only[List.mem_append] at hx;rcases hx with hx|hx
     ·exact(List.nodup_cons.1 aFU).1 hx
     ·exact hEd b hbF hx
    refine fin _ (.slice (some ⟨b,0,none⟩) (rows.length+ys.length) cap) (b::(N'++G1.E)) (aag hbF) (List.nodup_cons.2 ⟨hbN,aEv⟩) ?_ ?_ (by rw[k1];exact hrun) ⟨_,_,_,rfl⟩
    ·intro k hk;rw[hsz2];simp only[List.mem_cons,List.mem_append] at hk;rcases hk with rfl|hk|hk
     ·exact⟨.inl hbF,(t1.lt _ (.inr ⟨r,hbF⟩)).1⟩
     ·exact⟨.inl (as5 k hk),(t1.lt _ (.inr ⟨r,as5 k hk⟩)).1⟩
     ·exact⟨.inr (.inl hk),(t1.lt _ (.inl hk)).1⟩
    ·intro h' hv;refine .inr ⟨b,cap,_,T,N'++G1.E,by simp,by simpa using hroom,hh, ?_, ?_,rfl⟩
     ·have:=SG (l:=cs.toList) (xs:=news) (o:=rows.length * uh P e) hfit;simp only[List.size_toArray];rw[this,hcl]
     ·have h1:=OI (H':=eU (w.setRow b (splice cs.toList (rows.length * uh P e) news).toArray)) hv (λk hk=>hoth k (λe=>hbN (by rw[<-e];simp[hk]))) k5';have h2:=OI (H':=eU (w.setRow b (splice cs.toList (rows.length * uh P e) news).toArray)) hv (λk hk=>hoth k (λe=>hbN (by rw[<-e];simp[hk]))) hrows;have h3:=afd (RF (cs':=splice cs.toList (rows.length * uh P e) news) (by
       simp only[splice,QW];rw[List.take_append_of_le_length (by simp;omega),List.take_take,Nat.min_self]) h1) (RF (cs':=(splice cs.toList (rows.length * uh P e) news).drop (rows.length * uh P e)) (by
       simp only[splice,QW];rw[List.drop_append_of_le_length (by simp;omega)];have:(cs.toList.take (rows.length * uh P e)).drop (rows.length * uh P e)=[]:=by simp
       rw[this,List.nil_append,List.take_append_of_le_length au]) h2)
      cases fl with
      |true=>simpa[JF] using h3
      |false=>simpa[JF] using h3
   ·
    have hlt:cap<rows.length+ys.length:=au;obtain⟨cap',hcap',hrun⟩:=ah2 (ty:=ry) (olds:=cs.toList.take (rows.length * uh P e)) hu hty' hi hzv hsrc (by rw[zlt,<-hsz];omega) (λj u hj=>by
     rw[List.getElem?_take] at hj;split at hj
     ·have:=full_cell (w:=w) k3 (0+j);rw[Nat.zero_add] at this|-;rw[hj] at this;exact this
     ·cases hj) hlt hb2 hb1
    have hkeep:Keep [] w (w.drew.alloc (.cells ((cs.toList.take (rows.length * uh P e)++news).toArray++Builtin.zeroCells zv.cells (cap' - (rows.length+ys.length))) e)):=aek agm;have hsize:(w.drew.alloc (.cells ((cs.toList.take (rows.length * uh P e)++news).toArray++Builtin.zeroCells zv.cells (cap' - (rows.length+ys.length))) e)).heap.size=w.heap.size+1:=by rw[World.size_alloc];rfl
    have aTw:w.heap.size ∉ N'++G1.E:=λhE=>by
     simp only[List.mem_append] at hE;rcases hE with hE|hE
     ·have:=(t1.lt _ (.inr ⟨r,as5 _ hE⟩)).1;omega
     ·have:=(t1.lt _ (.inl hE)).1;omega
    refine fin _ (.slice (some ⟨w.heap.size,0,none⟩) (rows.length+ys.length) cap') (w.heap.size::(N'++G1.E)) (al4 hkeep (by simp)) (List.nodup_cons.2 ⟨aTw,aEv⟩) ?_ ?_ (by rw[k1];exact hrun) ⟨_,_,_,rfl⟩
    ·intro k hk;rw[hsize];simp only[List.mem_cons,List.mem_append] at hk;rcases hk with rfl|hk|hk
     ·exact⟨.inr (.inr (Nat.le_refl _)),au⟩
     ·exact⟨.inl (as5 k hk),by have:=(t1.lt _ (.inr ⟨r,as5 k hk⟩)).1;omega⟩
     ·exact⟨.inr (.inl hk),by have:=(t1.lt _ (.inl hk)).1;omega⟩
    ·intro h' hv;refine .inr ⟨w.heap.size,cap',_,e,N'++G1.E,by simp,by simpa using hcap',aah rfl, ?_, ?_,rfl⟩
     ·rw[Array.size_append,ael hzs];simp only[List.size_toArray,Gt,zlt,hnl];rw[Nat.min_eq_left hrl,<-Nat.add_mul,<-Nat.add_mul];congr 1;omega
     ·have h1:=OI hv (λb hb=>hkeep.block b (t1.lt b (.inr ⟨r,as5 b hb⟩)).1 (by simp)) k5';have h2:=OI hv (λb hb=>hkeep.block b (t1.lt b (.inl hb)).1 (by simp)) hrows;have l1:(cs.toList.take (rows.length * uh P e)).length=rows.length * uh P e:=by rw[zlt];omega
      have h3:=afd (RF (cs':=((cs.toList.take (rows.length * uh P e)++news).toArray++Builtin.zeroCells zv.cells (cap' - (rows.length+ys.length))).toList) (by
       simp only[Array.toList_append,QW];rw[List.take_append_of_le_length au,List.take_take,Nat.min_self]) h1) (RF (cs':=(((cs.toList.take (rows.length * uh P e)++news).toArray++Builtin.zeroCells zv.cells (cap' - (rows.length+ys.length))).toList).drop (rows.length * uh P e)) (by
       simp only[Array.toList_append,QW];rw[List.drop_append_of_le_length au,List.drop_eq_nil_of_le au,List.nil_append,List.take_append_of_le_length au]) h2)
      cases fl with
      |true=>exact h3
      |false=>exact h3
 |d _=>exact aI h
 |ptr _ _=>exact aI h
 |Lp _ _ _ _=>exact aI h
 |Fg _ _=>exact aI h
 |Pv _=>exact aI h
 |clo _ _ _=>exact aI h
 |agg _=>exact aI h
 |Zl _=>exact aI h
 |undef=>exact aI h
end
section
variable {base:Nat} {U:Nat->Prop} {M0:List Nat} {w0 w w':World} {m m':Mem} {G G':GS} {P:Program}
def alh(hA:At base U M0 w0 w m G){T f:Nat}{a:V}{ga:Value}(ha:bn G.μ m (Gh U w G) a ga){v:V}{l l':Log}(h:(adZ P T a f).run m l=some (v,m',l')):
  NR base U M0 w0 w m G P (Instr.fieldAt T ga f) v m':=by
 simp only[adZ] at h;replace h:=ay h;obtain⟨⟨o,n,t⟩,m1,l1,h1,h⟩:=h;obtain⟨hf,rfl,rfl⟩:=lS h1;simp only at h;obtain⟨hn,h⟩:=bck h;have hn:=Nat.le_of_ble_eq_true hn;cases a with
 |ptr r off=>
  obtain⟨rfl,rfl,_⟩:=ZI h;simp only[bn] at ha;obtain⟨⟨b,o',rfl⟩,ha⟩:=ha;refine NR.same hA (aae hf hn) ?_;simp only[bn];refine⟨⟨_,_,rfl⟩, ?_⟩;split at ha
  ·obtain⟨b1,hμ,e⟩:=ha;simp only[Value.pointer.injEq,kU,Addr.mk.injEq] at e;obtain⟨rfl,rfl,_⟩:=e;exact⟨_,hμ,rfl⟩
  ·obtain⟨b1,hμ,e⟩:=ha;simp only[Value.pointer.injEq,kU,Addr.mk.injEq] at e;obtain⟨rfl,rfl,_⟩:=e;exact⟨_,hμ,rfl⟩
  ·trivial
  ·exact ha
 |Fg row off=>obtain⟨rfl,rfl,_⟩:=ZI h;simp only[bn] at ha;obtain⟨b,o',rfl,hrow⟩:=ha;refine NR.same hA (aae hf hn) ?_;simp only[bn];exact⟨b,o',by rw[Nat.add_assoc],hrow⟩
 |Lp r ver i off=>
  obtain⟨rfl,rfl,_⟩:=ZI h;simp only[bn] at ha;obtain⟨⟨b,o',rfl⟩,ha⟩:=ha;refine NR.same hA (aae hf hn) ?_;simp only[bn];refine⟨⟨_,_,rfl⟩, ?_⟩;split at ha
  ·refine⟨ha.1,λe=> ?_⟩;obtain⟨b1,n1,cap,hμ,e1⟩:=ha.2 e;simp only[Value.pointer.injEq,kU,Addr.mk.injEq] at e1;obtain⟨rfl,rfl,_⟩:=e1;exact⟨_,n1,cap,hμ,by rw[Nat.add_assoc]⟩
  ·trivial
  ·exact ha
 |_=>exact aI h
def av8(hA:At base U M0 w0 w m G){T f:Nat}{a:V}{ga:Value}(ha:bn G.μ m (Gh U w G) a ga){v:V}{l l':Log}(h:(asM P T a f).run m l=some (v,m',l')):
  NR base U M0 w0 w m G P (Instr.field T ga f) v m':=by
 simp only[asM] at h;replace h:=ay h;obtain⟨⟨o,n,t⟩,m1,l1,h1,h⟩:=h;obtain⟨hf,rfl,rfl⟩:=lS h1;simp only at h;cases a with
 |agg cs=>
  simp only at h;obtain⟨hfit,h⟩:=bck h;obtain⟨hok,h⟩:=bck h;obtain⟨hv,rfl,rfl⟩:=lS h;simp only[bn] at ha;obtain⟨arr,rfl,hs⟩:=ha;have hfit:=Nat.le_of_ble_eq_true hfit;have hp:=ajm o n hs;have hal:arr.size=cs.length:=by simpa using kZ hs
  obtain⟨g,hg⟩:=apn hv hp;refine NR.same hA (g:=g) ?_ (Ry hv hp hg);unfold YF at hf;cases hu:P.underlying T with
  |none=>simp[hu] at hf
  |some d=>
   rw[hu] at hf;cases d with
   |struct fs=>
    simp only at hf;cases hfd:fs[f]? with
    |none=>simp[hfd] at hf
    |some fd=>
     simp only[hfd,kU,ql] at hf;obtain⟨rfl,rfl,rfl⟩:=hf;obtain⟨d',hd'⟩:=Ku hok;obtain⟨i,hi⟩:=Gu hd';unfold Instr.field;simp only[Sem.run_bind,run_underlying hu,Result.andThen_ok,hfd];unfold Go.part;simp only[Sem.run_bind,asAgg,Sem.run_pure,Result.andThen_ok,XU hd'];unfold valOf at hg;cases hag:QX P fd.type with
     |true=>
      simp only[hag,if_true] at hg;subst hg;rw[PG hi];have hex:arr.extract fd.offset (fd.offset+i.size)=(List.take i.size (List.drop fd.offset arr.toList)).toArray:=by apply Array.ext';simp[Array.toList_extract,List.extract_eq_take_drop]
      simp[sizeOf,typeInfo,hi,hex]
     |false=>
      simp only[hag,Bool.false_eq_true,if_false] at hg;have h0:arr[fd.offset]? =some g:=by
       have:(List.take (uh P fd.type) (List.drop fd.offset arr.toList))[0]? =some g:=by rw[hg];rfl
       rw[List.getElem?_take] at this;split at this
       ·rw[List.getElem?_drop,Nat.add_zero] at this;simpa using this
       ·cases this
      simp[h0]
   |_=>simp at hf
 |_=>exact aI h
def aju{α:Type}{l:List α}{i:Int}{x:α}(h:idx l i=some x):0<=i/\i.toNat<l.length/\l[i.toNat]? =some x:=by
 unfold idx at h
 by_cases h0:0<=i
 ·simp only[h0,decide_true,aH] at h;exact⟨h0,(Po.1 h).1,h⟩
 ·simp[h0] at h
def ali(hA:At base U M0 w0 w m G){t:TypeId}{x i:V}{gx gi:Value}(hx:bn G.μ m (Gh U w G) x gx)(hi:bn G.μ m (Gh U w G) i gi){v:V}{l l':Log}(h:(ad1 P t x i).run m l=some (v,m',l')):
  NR base U M0 w0 w m G P (Instr.indexAt t gx gi) v m':=by
 simp only[ad1] at h;replace h:=ay h;obtain⟨e,m1,l1,h1,h⟩:=h;obtain⟨he,rfl,rfl⟩:=lS h1;cases i with
 |d xi=>
  cases xi with
  |int k n=>
   simp only at h;simp only[bn,ro] at hi;subst hi;have seen:∀(rows:List Row) (o:Bool),ro (Gh U w G) (.sl o (uh P e) rows) gx->∀row,idx rows n=some row->1<=uh P e\/True->(∃inf,P.info? e=some inf)->NR base U M0 w0 w m1 G P (Instr.indexAt t gx (.int k n)) (.Fg row 0) m1:=by intro rows o hq row hrow _ RD;obtain⟨inf,RD⟩:=RD;obtain⟨h0,hlt,hget⟩:=aju hrow;simp only[ro] at hq;obtain⟨a,cap,rfl,hcap,hne⟩:=hq;obtain⟨b,o',rfl,hrows⟩:=hne (by intro e;subst e;simp at hlt);obtain⟨hl,hr⟩:=OH hrows hget;refine NR.same hA (run_indexAt he RD h0 au) ?_;simp only[bn];rw[<-PG RD];exact⟨b,o'+n.toNat * uh P e,rfl,hr⟩
   cases x with
   |d y=>
    cases y with
    |sl o s rows=>simp only at h;replace h:=ay h;obtain⟨_,m2,l2,h2,h⟩:=h;obtain⟨hs,rfl,rfl⟩:=iC h2;replace h:=ay h;obtain⟨_,m2,l2,h2,h⟩:=h;obtain⟨hok,rfl,rfl⟩:=iC h2;replace h:=ay h;obtain⟨row,m2,l2,h2,h⟩:=h;obtain⟨hrow,rfl,rfl⟩:=lS h2;simp only[run_pure,kU,ql] at h;obtain⟨rfl,rfl,_⟩:=h;have hs:=Kr hs;subst hs;simp only[bn] at hx;obtain⟨d',hd'⟩:=Ku hok;exact seen rows o hx row hrow (.inr trivial) (Gu hd')
    |_=>exact aI h
   |own r ver=>
    simp only at h;replace h:=ay h;obtain⟨c,m2,l2,h2,h⟩:=h;rw[Ar] at h2;cases h2;cases hc:get r m1 with
    |none=>rw[hc] at h;exact aI h
    |some c=>
     rw[hc] at h;cases c with
     |arr fz fl vH s rows=>
      simp only at h;replace h:=ay h;obtain⟨_,m2,l2,h2,h⟩:=h;obtain⟨hb,rfl,rfl⟩:=Ii h2;have hb:=Kr hb;subst hb;replace h:=ay h;obtain⟨_,m2,l2,h2,h⟩:=h;obtain⟨hs,rfl,rfl⟩:=Ii h2;have hs:=Kr hs;subst hs;replace h:=ay h;obtain⟨_,m2,l2,h2,h⟩:=h;obtain⟨hok,rfl,rfl⟩:=Ii h2;obtain⟨d',hd'⟩:=Ku hok;obtain⟨inf,RD⟩:=Gu hd';simp only[bn,hc] at hx;have hx:=hx.2.2 trivial;subst hx;have hcell:=hA.ok.cell r _ hc (by rw[hA.out];simp);cases fz with
      |true=>simp only at h;replace h:=ay h;obtain⟨row,m2,l2,h2,h⟩:=h;obtain⟨hrow,rfl,rfl⟩:=lS h2;simp only[run_pure,kU,ql] at h;obtain⟨rfl,rfl,_⟩:=h;exact seen (vw fl rows) false (ai8 hcell.1) row hrow (.inr trivial) ⟨inf,RD⟩
      |false=>simp only at h;replace h:=ay h;obtain⟨row,m2,l2,h2,h⟩:=h;obtain⟨hrow,rfl,rfl⟩:=lS h2;simp only[run_pure,kU,ql] at h;obtain⟨rfl,rfl,_⟩:=h;obtain⟨h0,hlt,hget⟩:=aju hrow;obtain⟨b,o,cap,hμ,ho,hl,_⟩:=auI hcell (yE _ _ _) hget;have ho:=ho rfl;subst ho;rw[hμ];refine NR.same hA (run_indexAt he RD h0 au) ?_;simp only[bn,hc,hμ];exact⟨⟨_,_,rfl⟩,Nat.le_refl _,λ_=>⟨b,_,_,rfl,by rw[PG RD];simp⟩⟩
     |_=>exact aI h
   |_=>exact aI h
  |_=>exact aI h
 |_=>exact aI h
def apr{t e:TypeId}{n:Nat}(h:arT P t=some (n,e)):P.underlying t=some (.array n e):=by
 unfold arT at h;cases hu:P.underlying t with
 |none=>simp[hu] at h
 |some d=>rw[hu] at h;cases d<;>simp at h;obtain⟨rfl,rfl⟩:=h;rfl
def afg{t e:TypeId}{k:IntKind}{i:Int}{b o n:Nat}(hu:P.underlying t=some (.array n e)){inf:TypeInfo}(hi:P.info? e=some inf)(h0:0<=i)(hn:i<n):
  (Instr.indexAt t (.pointer (some ⟨b,o,none⟩)) (.int k i)).run P w=.ok (.pointer (some ⟨b,o+i.toNat * inf.size,none⟩)) w:=by
 have hc:0<=i/\i<(n:Int):=⟨h0,hn⟩
 unfold Instr.indexAt;simp[asIntOf,run_underlying hu,hc,sizeOf,typeInfo,hi,Xq,Instr.sureAddr]
def alj(hA:At base U M0 w0 w m G){t:TypeId}{x i:V}{gx gi:Value}(hx:bn G.μ m (Gh U w G) x gx)(hi:bn G.μ m (Gh U w G) i gi){v:V}{l l':Log}(h:(ad2 P t x i).run m l=some (v,m',l')):
  NR base U M0 w0 w m G P (Instr.indexAt t gx gi) v m':=by
 unfold ad2 at h;cases ha:arT P t with
 |none=>rw[ha] at h;exact ali hA hx hi h
 |some q=>
  obtain⟨n,e⟩:=q;rw[ha] at h;have hu:=apr ha;cases i<;>try exact aI h
  rename_i y;cases y<;>try exact aI h
  rename_i k j;simp only[bn,ro] at hi;subst hi;simp only[apd] at h;replace h:=ay h;obtain⟨_,m1,l1,h1,h⟩:=h;obtain⟨hok,rfl,rfl⟩:=iC h1;replace h:=ay h;obtain⟨_,m1,l1,h1,h⟩:=h;obtain⟨hj,rfl,rfl⟩:=iC h1;simp only[zq,decide_eq_true_eq] at hj;obtain⟨d',hd'⟩:=Ku hok;obtain⟨inf,RD⟩:=Gu hd';have hsz:=PG RD;cases x<;>try exact aI h
  ·rename_i r off;simp only[run_pure,kU,ql] at h;obtain⟨rfl,rfl,_⟩:=h;simp only[bn] at hx;obtain⟨⟨b,o,rfl⟩,hx⟩:=hx;refine NR.same hA (afg hu RD hj.1 hj.2) ?_;simp only[bn];refine⟨⟨b,_,rfl⟩, ?_⟩;cases hc:get r m1 with
   |none=>rw[hc] at hx;exact hx.elim
   |some c=>
    rw[hc] at hx;cases c with
    |box T cs=>obtain⟨b',h1,h2⟩:=hx;simp only[Value.pointer.injEq,kU,Addr.mk.injEq] at h2;obtain⟨rfl,rfl,_⟩:=h2;exact⟨b,h1,by rw[hsz]⟩
    |Dt T cs=>obtain⟨b',h1,h2⟩:=hx;simp only[Value.pointer.injEq,kU,Addr.mk.injEq] at h2;obtain⟨rfl,rfl,_⟩:=h2;exact⟨b,h1,by rw[hsz]⟩
    |arr _ _ _ _ _=>exact hx.elim
    |dead=>trivial
  ·rename_i row off;simp only[run_pure,kU,ql] at h;obtain⟨rfl,rfl,_⟩:=h;simp only[bn] at hx;obtain⟨b,o,rfl,hr⟩:=hx;refine NR.same hA (afg hu RD hj.1 hj.2) ?_;simp only[bn];exact⟨b,o,by rw[hsz,Nat.add_assoc],hr⟩
def al5{μ:Nat->Value}{mm:Mem}{hh:View}:∀{cs:List V} {row:Row} {gs:List Value},alO cs=some row->dI μ mm hh cs gs->∀i:Nat,i<cs.length->∃g,gs[i]? =some g/\ro hh (nth row i) g
 |[],row,gs,h,q,i,hi=>by simp at hi
 |v::cs,row,gs,h,q,i,hi=>by
  simp only[dI] at q;obtain⟨g,gs',rfl,q1,q2⟩:=q;cases v<;>simp only[alO] at h<;>try cases h
  rename_i x;cases hr:alO cs with
  |none=>rw[hr] at h;cases h
  |some r=>
   rw[hr] at h;cases h;cases i with
   |zero=>exact⟨g,rfl,by simpa[nth,bn] using q1⟩
   |succ i=>obtain⟨g',h1,h2⟩:=al5 hr q2 i (by simpa using hi);exact⟨g',by simpa using h1,by simpa[nth] using h2⟩
def anO(hA:At base U M0 w0 w m G){t e:TypeId}{n:Nat}{k:IntKind}{j:Int}{cs:List V}{gx:Value}(hu:P.underlying t=some (.array n e))(hx:bn G.μ m (Gh U w G) (.agg cs) gx){v:V}{l l':Log} (h:(do
  ck (Nat.beq (uh P e) 1 &&(Nat.beq cs.length n &&(UD P e && !(QX P e))))
  ck (decide (0<=j) && decide (j<(n:Int)))
  let row<-op' (alO cs)
  aiX (match Q8 P e with|[c]=>c|_=> .other) row j.toNat:Acc V).run m l=some (v,m',l')):
  NR base U M0 w0 w m G P (Instr.index t gx (.int k j)) v m':=by
 replace h:=ay h;obtain⟨_,m1,l1,h1,h⟩:=h;obtain⟨hk,rfl,rfl⟩:=iC h1;simp only[zq,Bool.not_eq_true',Nat.beq_eq] at hk;obtain⟨hsz,hlen,hok,hagg⟩:=hk;replace h:=ay h;obtain⟨_,m1,l1,h1,h⟩:=h;obtain⟨hj,rfl,rfl⟩:=iC h1;simp only[zq,decide_eq_true_eq] at hj;replace h:=ay h;obtain⟨row,m1,l1,h1,h⟩:=h;obtain⟨hrow,rfl,rfl⟩:=lS h1;simp only[bn] at hx;obtain⟨arr,rfl,hs⟩:=hx;obtain⟨g,hg,hr⟩:=al5 hrow hs j.toNat au;obtain⟨d',hd'⟩:=Ku hok;obtain⟨inf,RD⟩:=Gu hd';have hone:=PG RD;have hrun:(Instr.index t (.agg arr) (.int k j)).run P w=.ok g w:=by
  unfold Instr.index;have hg':arr[j.toNat * inf.size]? =some g:=by rw[<-hone,hsz,Nat.mul_one];simpa using hg
  simp[asIntOf,run_underlying hu,hj.1,hj.2,sizeOf,typeInfo,RD];unfold Go.part;simp[XU hd',hagg,hg']
 have fin:v=.d (nth row j.toNat)/\m'=m1:=by
  generalize (match Q8 P e with|[c]=>c|_=>CT.other)=c at h;cases hx:nth row j.toNat<;>cases c<;>simp[aiX,jq,alN,cStr,hx,asInt,asBool,alM,Acc.run] at h
  ·rename_i k1 n1 k2
   by_cases e:k1=k2
   ·subst e;simp[Acc.run] at h;exact⟨h.1.symm,h.2.1.symm⟩
   ·simp[e,Acc.run] at h
  ·exact⟨h.1.symm,h.2.1.symm⟩
  ·exact⟨h.1.symm,h.2.1.symm⟩
 obtain⟨rfl,rfl⟩:=fin;exact NR.same hA hrun (by simpa[bn] using hr)
def av9(hA:At base U M0 w0 w m G){t:TypeId}{x i:V}{gx gi:Value}(hx:bn G.μ m (Gh U w G) x gx)(hi:bn G.μ m (Gh U w G) i gi){v:V}{l l':Log}(h:(asN P t x i).run m l=some (v,m',l')):
  NR base U M0 w0 w m G P (Instr.index t gx gi) v m':=by
 unfold asN at h;cases hu:P.underlying t with
 |none=>rw[hu] at h;exact aI h
 |some d=>
  rw[hu] at h
  by_cases harr:∃n e,d=.array n e
  ·obtain⟨n,e,rfl⟩:=harr;cases x<;>try exact aI h
   cases i<;>try exact aI h
   rename_i y;cases y<;>try exact aI h
   simp only[bn,ro] at hi;subst hi;exact anO hA hu hx h
  cases d<;>first|exact aI h|exact(harr ⟨_,_,rfl⟩).elim|skip
  cases x<;>try exact aI h
  rename_i y;cases y<;>try exact aI h
  rename_i s;cases i<;>try exact aI h
  rename_i y;cases y<;>try exact aI h
  rename_i k n;simp only[bn,ro] at hx hi;subst hx hi;dsimp only at h;cases hb:idx s n with
  |none=>rw[hb] at h;simp[Acc.run] at h
  |some b=>
   rw[hb] at h;change some (_,_,_)=_ at h;simp only[kU,ql] at h;obtain⟨rfl,rfl,_⟩:=h;obtain⟨h0,hlt,hget⟩:=aju hb;refine NR.same hA (g:=.int .u8 b.toNat) ?_ (by simp[bn,ro]);have hg:(ByteArray.mk ⟨s⟩)[n.toNat]? =some b:=by
    have hsz:n.toNat<(ByteArray.mk ⟨s⟩).size:=hlt;rw[getElem?_pos (ByteArray.mk ⟨s⟩) n.toNat hsz];have:s[n.toNat]=b:=by have:=List.getElem?_eq_getElem hlt;rw[this] at hget;exact Option.some.inj hget
    exact congrArg some this
   simp[Instr.index,asIntOf,run_underlying hu,h0,hg]
def aBE(hA:At base U M0 w0 w m G){t ty:TypeId}{x:V}{gx:Value}(hx:bn G.μ m (Gh U w G) x gx)
  (hk:∀s,x=.d (.str s)->P.underlying t=some .string) (hk':(∀s,x≠.d (.str s))->∃e,P.underlying t=some (.slice e)) {v:V} {l l':Log} (h:(lenV x).run m l=some (v,m',l')):
  NR base U M0 w0 w m G P (Builtin.len_ #[t] ty #[gx]) v m':=by
 have slice:∀(a:Option Addr) (n c:Nat),(∃e,P.underlying t=some (.slice e))->NR base U M0 w0 w m G P (Builtin.len_ #[t] ty #[.slice a n c]) (.d (.int .i64 n)) m:=by intro a n c ⟨e,he⟩;refine NR.same hA (g:=.int .i64 n) ?_ (by simp[bn,ro]);simp[Builtin.len_,run_underlying he,goInt]
 cases x with
 |d y=>
  cases y with
  |str s=>change some (_,_,_)=_ at h;simp only[kU,ql] at h;obtain⟨rfl,rfl,_⟩:=h;simp only[bn,ro] at hx;subst hx;refine NR.same hA (g:=.int .i64 s.length) ?_ (by simp[bn,ro]);have hsz:(ByteArray.mk ⟨s⟩).size=s.length:=rfl;simp[Builtin.len_,run_underlying (hk s rfl),goInt,hsz]
  |sl o s rows=>change some (_,_,_)=_ at h;simp only[kU,ql] at h;obtain⟨rfl,rfl,_⟩:=h;simp only[bn,ro] at hx;obtain⟨a,cap,rfl,_⟩:=hx;exact slice a rows.length cap (hk' (by simp))
  |_=>exact aI h
 |nil s=>change some (_,_,_)=_ at h;simp only[kU,ql] at h;obtain⟨rfl,rfl,_⟩:=h;simp only[bn] at hx;subst hx;exact slice none 0 0 (hk' (by simp))
 |own r ver=>
  simp only[lenV] at h;replace h:=ay h;obtain⟨c,m2,l2,h2,h⟩:=h;rw[Ar] at h2;cases h2;cases hc:get r m with
  |none=>rw[hc] at h;exact aI h
  |some c=>
   rw[hc] at h;cases c with
   |arr fz fl vH s rows=>simp only at h;replace h:=ay h;obtain⟨_,m2,l2,h2,h⟩:=h;obtain⟨hb,rfl,rfl⟩:=Ii h2;have hb:=Kr hb;subst hb;simp only[run_pure,kU,ql] at h;obtain⟨rfl,rfl,_⟩:=h;have hro:=hA.ok.look hc (by rw[hA.out];simp) false;simp only[bn,hc] at hx;rw[<-hx.2.2 trivial] at hro;simp only[ro] at hro;obtain⟨a,cap,rfl,_⟩:=hro;exact slice a rows.length cap (hk' (by simp))
   |_=>exact aI h
 |_=>exact aI h
def aFV{H:Heap}{h:View}{c:CT}{g:Value}{x:D}{l l':Log}(hr:(toD (agc c g)).run m l=some (x,m',l')):m'=m/\ow H h x g []:=by
 unfold agc at hr;split at hr
 all_goals first
  |exact(ai5 hr).elim
  |(simp only[toD,roD,run_pure,kU,ql] at hr
    obtain⟨rfl,rfl,_⟩:=hr;exact⟨rfl,by simp[ow]⟩)
def aps{H:Heap}{h:View}:∀{cs:List CT} {gs:List Value} {xs:Row} {m m':Mem} {l l':Log},(Py (JD cs gs)).run m l=some (xs,m',l')->m'=m/\jU H h xs gs []/\xs.length=gs.length
 |c::cs,g::gs,xs,m,m',l,l',hr=>by simp only[JD,Py] at hr;replace hr:=ay hr;obtain⟨x,m1,l1,h1,hr⟩:=hr;replace hr:=ay hr;obtain⟨ys,m2,l2,h2,hr⟩:=hr;simp only[run_pure,kU,ql] at hr;obtain⟨rfl,rfl,_⟩:=hr;obtain⟨rfl,q1⟩:=aFV (H:=H) (h:=h) h1;obtain⟨rfl,q2,q3⟩:=aps (H:=H) (h:=h) h2;exact⟨rfl,by simp only[jU];exact⟨g,gs,[],[],rfl,rfl,q1,q2⟩,by simp[q3]⟩
 |[],g::gs,xs,m,m',l,l',hr=>by simp only[JD,Py] at hr;replace hr:=ay hr;obtain⟨x,m1,l1,h1,hr⟩:=hr;exact aI h1
 |c::cs,[],xs,m,m',l,l',hr=>by simp only[JD,Py,run_pure,kU,ql] at hr;obtain⟨rfl,rfl,_⟩:=hr;exact⟨rfl,by simp[jU],rfl⟩
 |[],[],xs,m,m',l,l',hr=>by simp only[JD,Py,run_pure,kU,ql] at hr;obtain⟨rfl,rfl,_⟩:=hr;exact⟨rfl,by simp[jU],rfl⟩
def al6{H:Heap}{h:View}{row:Row}{z L:List Value}{cap:Nat}(hz:z.length=row.length)(hL:L.length=cap * row.length)(hj:∀i j,i<cap->j<row.length->L[i * row.length+j]? =z[j]?)(hq:jU H h row z []):
  ∀(n i:Nat),i+n<=cap->iU H h row.length (List.replicate n row) (L.drop (i * row.length)) []
 |0,i,_=>by simp[iU]
 |n+1,i,hi=>by
  rw[List.replicate_succ];simp only[iU];refine⟨trivial,[],[],rfl, ?_, ?_⟩
  ·refine Rz ?_ hq;apply List.ext_getElem?;intro j
   by_cases hjl:j<row.length
   ·rw[List.getElem?_take_of_lt hjl,List.getElem?_take_of_lt hjl,List.getElem?_drop,hj i j au hjl]
   ·rw[List.getElem?_eq_none (by rw[zlt];omega),List.getElem?_eq_none (by rw[zlt];omega)]
  ·rw[List.drop_drop];have:=al6 hz hL hj hq n (i+1) au
   rwa [Nat.add_mul,Nat.one_mul] at this
def alk(hA:At base U M0 w0 w m G){dst:Nat}{t:TypeId}{x y:V}{gx gy:Value}(hx:bn G.μ m (Gh U w G) x gx)(hy:bn G.μ m (Gh U w G) y gy){v:V}{l l':Log}(h:(ad4 P dst t x y).run m l=some (v,m',l')):
  NR base U M0 w0 w m G P (Instr.makeSlice t gx gy) v m':=by
 simp only[ad4,ape] at h;replace h:=ay h;obtain⟨e,m1,l1,h1,h⟩:=h;obtain⟨he,rfl,rfl⟩:=lS h1;have he:=XV he;replace h:=ay h;obtain⟨_,m1,l1,h1,h⟩:=h;obtain⟨hs,rfl,rfl⟩:=Ii h1;have hs:=Nat.le_of_ble_eq_true hs;replace h:=ay h;obtain⟨row,m1,l1,h1,h⟩:=h;replace h1:=ay h1;obtain⟨z,m2,l2,h2,h1⟩:=h1;obtain⟨hz,rfl,rfl⟩:=lS h2;unfold SB at hz;cases hi:P.info? e with
 |none=>simp[hi] at hz
 |some i=>
  simp only[hi] at hz;cases hzz:i.zero with
  |none=>simp[hzz] at hz
  |some zv=>
   simp only[hzz,kU] at hz;subst hz;obtain⟨rfl,hrow,hlen⟩:=aps (H:=eU w) (h:=Gh U w G) h1;replace h:=ay h;obtain⟨_,m2,l2,h2,h⟩:=h;obtain⟨hlr,rfl,rfl⟩:=Ii h2;have hlr:=Kr hlr;have hsz:=PG hi;have hzs:zv.cells.size=i.size:=by
    have:zv.cells.toList.length=zv.cells.size:=by simp
    omega
   split at h
   next k1 n1 k2 n2=>
    replace h:=ay h;obtain⟨_,m3,l3,h3,h⟩:=h;obtain⟨hck,rfl,rfl⟩:=Ii h3;simp only[zq,decide_eq_true_eq] at hck;obtain⟨⟨⟨h0,hle⟩,hby⟩,hc⟩:=hck;replace h:=ay h;obtain⟨u,m4,l4,h4,h⟩:=h;simp only[run_pure,kU,ql] at h;obtain⟨rfl,rfl,_⟩:=h;simp only[bn,ro] at hx hy;subst hx hy;have hbt:ad3 P e=i.bytes:=by simp[ad3,hi]
    rw[hbt] at hby;have hroom:(ae1:Int)=140737488355328:=rfl;rw[hroom] at hby hc;have hrun:=run_make (P:=P) w t e i zv he hi hzz k1 k2 n1 n2 h0 hle (by rw[Int.mul_comm];omega) au;have hE:=hA.E;have hrl:row.length=i.size:=au;have hq:iU (eU w) (Gh U w G) (uh P e) (List.replicate n1.toNat row) (madeCells zv.cells (n2.toNat * i.size)).toList []:=by
     rw[hsz,<-hrl];have:=al6 (H:=eU w) (h:=Gh U w G) (row:=row) (z:=zv.cells.toList) (L:=(madeCells zv.cells (n2.toNat * i.size)).toList) (cap:=n2.toNat) hlen.symm (by simp[size_madeCells,hrl]) ?_ hrow n1.toNat 0 au
     ·simpa[hrl] using this
     ·intro a b ha hb;have hlt:a * row.length+b<n2.toNat * i.size:=by
       rw[hrl] at hb|-
       calc a * i.size+b<a * i.size+i.size:=au
        _=(a+1) * i.size:=by rw[Nat.add_mul,Nat.one_mul]
        _<=n2.toNat * i.size:=Nat.mul_le_mul_right _ ha
      have hbz:b<zv.cells.size:=au;have hmod:(a * row.length+b) % zv.cells.size=b:=by rw[hzs,<-hrl,Nat.mul_comm,Nat.mul_add_mod];exact Nat.mod_eq_of_lt hb
      simp only[madeCells,Array.toList_map,Array.toList_range,List.getElem?_map];rw[List.getElem?_range hlt];simp[hmod,hbz]
    have hqS:JF (eU w) (Gh U w G) (I7 P e) (uh P e) (List.replicate n1.toNat row) (madeCells zv.cells (n2.toNat * i.size)).toList G.E:=by
     unfold JF;rw[hE];split
     ·exact⟨OX (View.le_refl _) _ _ _ [] (by intro b hb;simp at hb) hq,rfl⟩
     ·exact hq
    obtain⟨G',hnx,Xt⟩:=ahs hA.ok hA.out hA.fr (w1:=w) rfl (Keep.refl _ _) (cap:=n2.toNat) (T:=e) hqS (by simp;omega) (by simp[size_madeCells,hsz]) h4;refine⟨_,_,G',hrun,hnx, ?_⟩;simpa using Xt
   next=>exact aI h
def as6(μ:Nat->Value)(m:Mem)(h:View):Option V->Option Value->Prop
 |none,g=>g=none
 |some v,g=>∃x,g=some x/\bn μ m h v x
def aaj{μ:Nat->Value}{h:View}{o:Option V}{g:Option Value}{d n:Int}{l l':Log}(hq:as6 μ m h o g)(hr:(bound o d).run m l=some (n,m',l')):
  m'=m/\((g=none/\n=d)\/∃k,g=some (.int k n)):=by
 unfold bound at hr;split at hr
 ·change some (_,_,_)=_ at hr;simp only[kU,ql] at hr;obtain⟨rfl,rfl,_⟩:=hr;exact⟨rfl,.inl ⟨hq,rfl⟩⟩
 ·change some (_,_,_)=_ at hr;simp only[kU,ql] at hr;obtain⟨rfl,rfl,_⟩:=hr;obtain⟨x,rfl,hx⟩:=hq;simp only[bn,ro] at hx;exact⟨rfl,.inr ⟨_,by rw[hx]⟩⟩
 ·exact(ai5 hr).elim
def apt{α:Type}{l r:List α}{a b:Int}(h:cut l a b=some r):0<=a/\a<=b/\b<=l.length/\r=(l.drop a.toNat).take (b.toNat - a.toNat):=by
 unfold cut at h;cases hc:(decide (0<=a) && decide (a<=b) && decide (b<=(l.length:Int))) with
 |false=>simp[hc] at h
 |true=>simp only[hc,aH,kU] at h;simp only[zq,decide_eq_true_eq] at hc;exact⟨hc.1.1,hc.1.2,hc.2,h.symm⟩
def VH{aea:Bool}{len cap:Nat}{lo hi:Option Value}{a b:Int}(ha:(lo=none/\a=0)\/∃k,lo=some (.int k a))(hb:(hi=none/\b=len)\/∃k,hi=some (.int k b))
  (h0:0<=a) (h1:a<=b) (h2:b<=len) (h3:len<=cap):(Instr.sliceBounds aea len cap lo hi none).run P w=.ok (a.toNat,b.toNat,cap) w:=by
 have hbc:b<=cap:=au;have h0b:0<=b:=au;rcases ha with⟨rfl,rfl⟩|⟨k,rfl⟩<;>rcases hb with⟨rfl,rfl⟩|⟨k',rfl⟩
 ·simp[Instr.sliceBounds]
 ·simp[Instr.sliceBounds,Instr.sliceBound,asIntOf,h0b,hbc]
 ·simp[Instr.sliceBounds,Instr.sliceBound,asIntOf,h0,h2,h1]
 ·have:(a:Int)<=(b.toNat:Int):=au;simp[Instr.sliceBounds,Instr.sliceBound,asIntOf,h0b,hbc,h0,this];omega
def aht{h:View}{s:Nat}:∀{rows:List Row} {b o:Nat} (n:Nat),sN h s rows b o->sN h s (rows.drop n) b (o+n * s)
 |rows,b,o,0,q=>by simpa using q
 |[],b,o,n+1,q=>by simp[sN]
 |r::rows,b,o,n+1,q=>by simp only[sN] at q;have:=aht n q.2.2;rw[List.drop_succ_cons,Nat.add_mul,Nat.one_mul,show o+(n * s+s)=o+s+n * s by omega];exact this
def ahu{h:View}{s:Nat}:∀{rows:List Row} {b o:Nat} (n:Nat),sN h s rows b o->sN h s (rows.take n) b o
 |rows,b,o,0,q=>by simp[sN]
 |[],b,o,n+1,q=>by simp[sN]
 |r::rows,b,o,n+1,q=>by simp only[sN] at q;simp only[List.take_succ_cons,sN];exact⟨q.1,q.2.1,ahu n q.2.2⟩
def ax3{h:View}{o:Bool}{s:Nat}{rows rows':List Row}{t e:TypeId}{inf:TypeInfo}{g:Value}{lo hi:Option Value}{a b:Int}(hu:P.underlying t=some (.slice e))(hi':P.info? e=some inf)(hs:s=inf.size)
  (hq:ro h (.sl o s rows) g) (ha:(lo=none/\a=0)\/∃k,lo=some (.int k a)) (hb:(hi=none/\b=rows.length)\/∃k,hi=some (.int k b)) (hc:cut rows a b=some rows'):
  ∃g',(Instr.sliceAt t g lo hi none).run P w=.ok g' w/\ro h (.sl false s rows') g':=by
 obtain⟨h0,h1,h2,rfl⟩:=apt hc;simp only[ro] at hq;obtain⟨ad,cap,rfl,hcap,hne⟩:=hq;have hrun:=VH (P:=P) (w:=w) (aea:=true) ha hb h0 h1 au hcap;have hlen:(List.take (b.toNat - a.toNat) (List.drop a.toNat rows)).length=b.toNat - a.toNat:=by simp;omega
 refine⟨.slice (if cap=a.toNat then ad else ad.map (·.add (a.toNat * inf.size))) (b.toNat - a.toNat) (cap - a.toNat), ?_, ?_⟩
 ·simp only[Instr.sliceAt,Sem.run_bind,run_underlying hu,Result.andThen_ok,Instr.slice,hrun,sizeOf,typeInfo];simp[hi']
 ·simp only[ro];refine⟨_,cap - a.toNat,by rw[hlen],by rw[hlen];omega, ?_⟩;intro hne';have hpos:0<b.toNat - a.toNat:=by rw[<-hlen];exact List.length_pos_iff.2 hne'
  have hrows:rows≠[]:=by intro e;subst e;simp at hne'
  obtain⟨bb,oo,rfl,hr⟩:=hne hrows;have hca:¬cap=a.toNat:=au;refine⟨bb,oo+a.toNat * s, ?_,ahu _ (aht _ hr)⟩;subst hs;simp[hca,Addr.add]
def alm(s:List UInt8)(a b:Nat)(h:a<=b)(hb:b<=s.length):(ByteArray.mk ⟨s⟩).extract a b=⟨⟨(s.drop a).take (b - a)⟩⟩:=by
 have:((ByteArray.mk ⟨s⟩).extract a b).data=⟨(s.drop a).take (b - a)⟩:=by rw[ByteArray.data_extract];apply Array.ext';simp[Array.toList_extract,List.extract_eq_take_drop]
 exact congrArg ByteArray.mk this
def awc(hA:At base U M0 w0 w m G){t:TypeId}{x:V}{gx:Value}{lo hi:Option V}{glo ghi:Option Value}(hx:bn G.μ m (Gh U w G) x gx)(hlo:as6 G.μ m (Gh U w G) lo glo)(hhi:as6 G.μ m (Gh U w G) hi ghi)
  {v:V} {l l':Log} (hh0:(asO P t x lo hi).run m l=some (v,m',l')):NR base U M0 w0 w m G P (Instr.sliceAt t gx glo ghi none) v m':=by
 have gen:∀(x:V),bn G.μ m (Gh U w G) x gx->(do
   let e<-op' (elT P t)
   ck (UD P e)
   let(s,rows)<-seen x
   ck (Nat.beq s (uh P e))
   let l<-bound lo 0
   let h<-bound hi rows.length
   let rows'<-op' (cut rows l h)
   match x with
   | .own r ver=>do
    match<-rd r with
    |some (.arr _ fl vH s rows)=>do
     ck (Nat.beq ver vH)
     wr r (.arr true fl ver s rows)
     pure (.d (.sl false s rows'))
    |_=> .fail
   |_=>pure (.d (.sl false s rows')):Acc V).run m l=some (v,m',l')->NR base U M0 w0 w m G P (Instr.sliceAt t gx glo ghi none) v m':=by
  intro x hx h;replace h:=ay h;obtain⟨e,m1,l1,h1,h⟩:=h;obtain⟨he,rfl,rfl⟩:=lS h1;have he:=XV he;replace h:=ay h;obtain⟨_,m1,l1,h1,h⟩:=h;obtain⟨hok,rfl,rfl⟩:=iC h1;obtain⟨d',hd'⟩:=Ku hok;obtain⟨inf,RD⟩:=Gu hd';have hsz:=PG RD;replace h:=ay h;obtain⟨⟨s,rows⟩,m1,l1,h1,h⟩:=h;obtain⟨rfl,hfull⟩:=auH hA.ok hx hA.out h1;simp only at h;replace h:=ay h;obtain⟨_,m2,l2,h2,h⟩:=h;obtain⟨hs,rfl,rfl⟩:=iC h2;have hs:=Kr hs;replace h:=ay h;obtain⟨a,m2,l2,h2,h⟩:=h;obtain⟨rfl,ha⟩:=aaj hlo h2;replace h:=ay h;obtain⟨b,m3,l3,h3,h⟩:=h;obtain⟨rfl,hb⟩:=aaj hhi h3;replace h:=ay h;obtain⟨rows',m4,l4,h4,h⟩:=h;obtain⟨hcut,rfl,rfl⟩:=lS h4;have ax4:∀{h':View} {G1:GS} {m1':Mem} {o:Bool},Nx base U M0 w0 w m4 G w m1' G1->h'=Gh U w G1->ro h' (.sl o s rows) gx->NR base U M0 w0 w m4 G P (Instr.sliceAt t gx glo ghi none) (.d (.sl false s rows')) m1':=by intro h' G1 m1' o hnx hh hro;subst hh;obtain⟨g',hrun,hg'⟩:=ax3 (w:=w) he RD (hs.trans hsz) hro ha hb hcut;exact⟨g',w,G1,hrun,hnx,hg'⟩
  cases x with
  |own r ver=>
   simp only at h;replace h:=ay h;obtain⟨c,m5,l5,h5,h⟩:=h;rw[Ar] at h5;cases h5;cases hc:get r m4 with
   |none=>rw[hc] at h;exact aI h
   |some c=>
    rw[hc] at h;cases c with
    |arr fz fl vH s2 aJu=>simp only at h;replace h:=ay h;obtain⟨_,m5,l5,h5,h⟩:=h;obtain⟨hbq,rfl,rfl⟩:=iC h5;have hbq:=Kr hbq;subst hbq;replace h:=ay h;obtain⟨_,m5,l5,h5,h⟩:=h;rw[PE] at h5;simp only[kU,ql] at h5;obtain⟨_,rfl,_⟩:=h5;simp only[run_pure,kU,ql] at h;obtain⟨rfl,rfl,_⟩:=h;simp only[seen] at h1;replace h1:=ay h1;obtain⟨c,m6,l6,h6,h1⟩:=h1;rw[Ar] at h6;cases h6;rw[hc] at h1;simp only at h1;replace h1:=ay h1;obtain⟨_,m6,l6,h6,h1⟩:=h1;obtain⟨_,rfl,rfl⟩:=iC h6;simp only[run_pure,kU,ql] at h1;obtain⟨⟨rfl,rfl⟩,_⟩:=h1;obtain⟨k1,k2,k3⟩:=hA.ok.freeze hc (by rw[hA.out];simp);simp only[bn,hc] at hx;have hgx:=hx.2.2 trivial;rw[<-hgx] at k3;rw[hA.E] at k3;exact ax4 (hA.still k1 k2 hA.out) rfl (ai8 (fl:=fl) k3)
    |_=>exact aI h
  |d y=>
   cases y with
   |sl o s2 aJu=>simp only[seen,run_pure,kU,ql] at h1 h;obtain⟨⟨rfl,rfl⟩,_⟩:=h1;obtain⟨rfl,rfl,_⟩:=h;exact ax4 (o:=o) hA.nx rfl hx
   |_=>exact aI h1
  |nil s2=>simp only[seen,run_pure,kU,ql] at h1 h;obtain⟨⟨rfl,rfl⟩,_⟩:=h1;obtain⟨rfl,rfl,_⟩:=h;refine ax4 (o:=false) hA.nx rfl ?_;simp only[bn] at hx;subst hx;simp[ro]
  |_=>exact aI h1
 have h:=hh0;cases x with
 |d y=>
  cases y with
  |str s=>
   simp only[asO] at h;replace h:=ay h;obtain⟨_,m1,l1,h1,h⟩:=h;obtain⟨hu,rfl,rfl⟩:=iC h1;replace h:=ay h;obtain⟨a,m2,l2,h2,h⟩:=h;obtain⟨rfl,ha⟩:=aaj hlo h2;replace h:=ay h;obtain⟨b,m3,l3,h3,h⟩:=h;obtain⟨rfl,hb⟩:=aaj hhi h3;replace h:=ay h;obtain⟨s',m4,l4,h4,h⟩:=h;obtain⟨hcut,rfl,rfl⟩:=lS h4;simp only[run_pure,kU,ql] at h;obtain⟨rfl,rfl,_⟩:=h;obtain⟨h0,h1,h2,rfl⟩:=apt hcut;simp only[bn,ro] at hx;subst hx;have hu:P.underlying t=some .string:=by
    cases hd:P.underlying t with
    |none=>simp[hd] at hu
    |some d=>rw[hd] at hu;cases d<;>simp at hu;rfl
   have hrun:=VH (P:=P) (w:=w) (aea:=false) (len:=s.length) (cap:=s.length) ha hb h0 h1 h2 (Nat.le_refl _);have hsize:(ByteArray.mk ⟨s⟩).size=s.length:=rfl;refine NR.same hA (g:=.string ((ByteArray.mk ⟨s⟩).extract a.toNat b.toNat)) ?_ ?_
   ·simp only[Instr.sliceAt,Sem.run_bind,run_underlying hu,Result.andThen_ok,Instr.slice];simp[hsize,hrun]
   ·simp only[bn,ro];rw[alm s _ _ au au]
  |sl o s rows=>exact gen _ hx h
  |int _ _=>exact gen _ hx h
  |bool _=>exact gen _ hx h
  |ZG=>exact gen _ hx h
 |nil _=>exact gen _ hx h
 |own _ _=>exact gen _ hx h
 |ptr _ _=>exact gen _ hx h
 |Lp _ _ _ _=>exact gen _ hx h
 |Fg _ _=>exact gen _ hx h
 |Pv _=>exact gen _ hx h
 |clo _ _ _=>exact gen _ hx h
 |agg _=>exact gen _ hx h
 |Zl _=>exact gen _ hx h
 |undef=>exact gen _ hx h
def awd(hA:At base U M0 w0 w m G){t:TypeId}{x:V}{gx:Value}{lo hi:Option V}{glo ghi:Option Value}(hx:bn G.μ m (Gh U w G) x gx)(hlo:as6 G.μ m (Gh U w G) lo glo)(hhi:as6 G.μ m (Gh U w G) hi ghi)
  {v:V} {l l':Log} (h:(anE P t x lo hi).run m l=some (v,m',l')):NR base U M0 w0 w m G P (Instr.sliceAt t gx glo ghi none) v m':=by
 cases x with
 |Fg row off=>
  simp only[anE] at h;replace h:=ay h;obtain⟨q,m1,l1,h1,h⟩:=h;obtain⟨ha,rfl,rfl⟩:=lS h1;obtain⟨n,e⟩:=q;simp only at h;replace h:=ay h;obtain⟨_,m1,l1,h1,h⟩:=h;obtain⟨hok,rfl,rfl⟩:=iC h1;replace h:=ay h;obtain⟨_,m1,l1,h1,h⟩:=h;obtain⟨hk,rfl,rfl⟩:=iC h1;simp only[zq,Nat.beq_eq] at hk;obtain⟨hsz,rfl,hlen⟩:=hk;cases lo<;>try exact aI h
  cases hi<;>try exact aI h
  simp only[run_pure,kU,ql] at h;obtain⟨rfl,rfl,_⟩:=h;simp only[as6] at hlo hhi;subst hlo hhi;simp only[bn] at hx;obtain⟨b,o,rfl,hr⟩:=hx;have hu:=apr ha;obtain⟨d',hd'⟩:=Ku hok;obtain⟨inf,RD⟩:=Gu hd';have hrun:=VH (P:=P) (w:=w) (aea:=false) (len:=n) (cap:=n) (lo:=none) (hi:=none) (a:=0) (b:=n) (.inl ⟨rfl,rfl⟩) (.inl ⟨rfl,rfl⟩) au au au (Nat.le_refl _);refine NR.same hA (g:=.slice (some ⟨b,o,none⟩) n n) ?_ ?_
  ·simp only[Instr.sliceAt,Sem.run_bind,run_underlying hu,Result.andThen_ok,Instr.sureAddr,sizeOf,typeInfo];simp only[Sem.run_pure,Result.andThen_ok];rw[hrun];simp[RD,Xq]
  ·simp only[bn,ro];refine⟨_,n,by simp[hlen],by simp[hlen],λ_=>⟨b,o,rfl,ai7 row b o hr⟩⟩
 |_=>exact awc hA hx hlo hhi h
def YO{H:Heap}{h:View}{fl:Bool}{s:Nat}:∀{rows:List Row} {cs:List Value} {N:List Nat} (n:Nat),JF H h fl s rows cs N->∃N' N2,N=N'++N2/\JF H h fl s (rows.take n) cs N'
 |rows,cs,N,0,q=>⟨[],N,by simp,by cases fl<;>simp[JF,jF,iU]⟩
 |[],cs,N,n+1,q=>⟨N,[],by simp,by simpa using q⟩
 |r::rs,cs,N,n+1,q=>by
  cases fl with
  |true=>simp only[JF,jF] at q;obtain⟨⟨q1,q2,q3⟩,rfl⟩:=q;obtain⟨N',N2,e,k⟩:=YO (H:=H) (fl:=true) n (show JF H h true s rs (cs.drop s) [] from⟨q3,rfl⟩);obtain⟨rfl,rfl⟩:=List.append_eq_nil_iff.1 e.symm;exact⟨[],[],rfl,⟨⟨q1,q2,k.1⟩,rfl⟩⟩
  |false=>simp only[JF,iU] at q;obtain⟨q1,N1,N3,rfl,q2,q3⟩:=q;obtain⟨N',N2,rfl,k⟩:=YO (fl:=false) n (show JF H h false s rs (cs.drop s) N3 from q3);refine⟨N1++N',N2,by simp, ?_⟩;simp only[JF,List.take_succ_cons,iU];exact⟨q1,N1,N',rfl,q2,k⟩
def awe(hA:At base U M0 w0 w m G){t:TypeId}{x:V}{gx:Value}{hi:Option V}{ghi:Option Value}(hx:bn G.μ m (Gh U w G) x gx)(hhi:as6 G.μ m (Gh U w G) hi ghi)
  {v:V} {l l':Log} (h:(asP P t x hi).run m l=some (v,m',l')):NR base U M0 w0 w m G P (Instr.sliceAt t gx none ghi none) v m':=by
 simp only[asP] at h;replace h:=ay h;obtain⟨e,m1,l1,h1,h⟩:=h;obtain⟨he,rfl,rfl⟩:=lS h1;have hu:=XV he;replace h:=ay h;obtain⟨_,m2,l2,h2,h⟩:=h;obtain⟨hok,rfl,rfl⟩:=iC h2;obtain⟨d',hd'⟩:=Ku hok;obtain⟨inf,RD⟩:=Gu hd';have hsz:=PG RD;cases x<;>try exact aI h
 rename_i r ver;simp only at h;replace h:=ay h;obtain⟨c,m3,l3,h3,h⟩:=h;rw[Ar] at h3;cases h3;cases hc:get r m2 with
 |none=>rw[hc] at h;exact aI h
 |some c=>
 rw[hc] at h;cases c with
 |box _ _=>exact aI h
 |dead=>exact aI h
 |Dt _ _=>exact aI h
 |arr fz fl vH s rows=>
 cases fz with
 |true=>exact aI h
 |false=>
 simp only at h;replace h:=ay h;obtain⟨_,m3,l3,h3,h⟩:=h;obtain⟨hb,rfl,rfl⟩:=iC h3;have hb:=Kr hb;subst hb;replace h:=ay h;obtain⟨_,m4,l4,h4,h⟩:=h;obtain⟨hs,rfl,rfl⟩:=iC h4;have hs:=Kr hs;subst hs;replace h:=ay h;obtain⟨k,m5,l5,h5,h⟩:=h;obtain⟨rfl,hb⟩:=aaj hhi h5;replace h:=ay h;obtain⟨_,m6,l6,h6,h⟩:=h;obtain⟨hk,rfl,rfl⟩:=iC h6;simp only[zq,decide_eq_true_eq] at hk;replace h:=ay h;obtain⟨_,m7,l7,h7,h⟩:=h;rw[PE] at h7;simp only[kU,ql] at h7;obtain⟨_,rfl,_⟩:=h7;simp only[run_pure,kU,ql] at h;obtain⟨rfl,rfl,_⟩:=h;simp only[bn,hc] at hx;have hx:=hx.2.2 trivial;subst hx;have hcell:=hA.ok.cell r _ hc (by rw[hA.out];simp);simp only[vS] at hcell;have aFT:¬ver=ver+1:=au;have hlen:(rows.take k.toNat).length=k.toNat:=by rw[zlt];omega
 have fin:∀(g:Value) (N:List Nat),N.Nodup->(∀b,b∈N->b∈G.F r)->(∀h':View,(Gh U w G).le h'->ad9 (eU w) h' fl (uh P e) (rows.take k.toNat) g N)->(Instr.sliceAt t (G.μ r) none ghi none).run P w=.ok g w->aea g->
   NR base U M0 w0 w m6 G P (Instr.sliceAt t (G.μ r) none ghi none) (.own r (ver+1)) (put r (.arr false fl (ver+1) (uh P e) (rows.take k.toNat)) m6):=by
  intro g N hN hNs Xt hrun hone;refine⟨g,w,_,hrun,hA.ok.rewrite hA.out hA.fr (μ':=upM G.μ r g) (N:=N) hc (Keep.refl _ _) hN (λb hb=>⟨.inl (hNs b hb),(hA.ok.lt b (.inr ⟨r,hNs b hb⟩)).1⟩) (λj hj=>Rx g hj) ⟨au,rfl,λe=>absurd e aFT⟩ (λh' hv hml _=> ?_), ?_⟩
  ·simp only[vS,Ue];exact Xt h' hv
  ·simp[bn,kD,hone]
 rcases hcell with⟨rfl,hμ,hF⟩|⟨b,cap,cs,T,N',k1,k2,k3,k4,k5,k6⟩
 ·have hrun:=VH (P:=P) (w:=w) (aea:=true) (len:=0) (cap:=0) (lo:=none) (hi:=ghi) (a:=0) (b:=k) (.inl ⟨rfl,rfl⟩) hb au hk.1 hk.2 (Nat.le_refl _);have hk0:k.toNat=0:=by have:=hk.2;simp at this;omega
  refine fin (.slice none 0 0) [] (by simp) (by simp) (λh' hv=> .inl ⟨by simp,rfl,rfl⟩) ?_ ⟨_,_,_,rfl⟩;rw[hμ];simp only[Instr.sliceAt,Sem.run_bind,run_underlying hu,Result.andThen_ok,Instr.slice,hrun,sizeOf,typeInfo];simp[RD,hk0]
 ·have hrun:=VH (P:=P) (w:=w) (aea:=true) (len:=rows.length) (cap:=cap) (lo:=none) (hi:=ghi) (a:=0) (b:=k) (.inl ⟨rfl,rfl⟩) hb au hk.1 hk.2 k2;have k5':JF (eU w) (Gh U w G) fl (uh P e) rows cs.toList N':=by
   cases fl with
   |true=>exact k5
   |false=>exact k5
  obtain⟨N1,N2,aJv,hq⟩:=YO k.toNat k5';have hnd:=hA.ok.nd r;rw[k6,aJv,<-zca] at hnd;refine fin (.slice (some ⟨b,0,none⟩) k.toNat cap) (b::N1) (List.nodup_append.1 hnd).1 (λj hj=> ?_) (λh' hv=> .inr ⟨b,cap,cs,T,N1,by rw[hlen],by rw[hlen];have:=hk.2;omega,k3,k4, ?_,rfl⟩) ?_ ⟨_,_,_,rfl⟩
  ·rw[k6,aJv,<-zca];exact List.mem_append_left _ hj
  ·have:=OI hv (λ_ _=>rfl) hq;cases fl with
   |true=>exact this
   |false=>exact this
  ·rw[k1];simp only[Instr.sliceAt,Sem.run_bind,run_underlying hu,Result.andThen_ok,Instr.slice,hrun,sizeOf,typeInfo];simp[RD,Xq]
def ax5(hA:At base U M0 w0 w m G){t:TypeId}{x lo:V}{gx glo:Value}(hx:bn G.μ m (Gh U w G) x gx)(hlo:bn G.μ m (Gh U w G) lo glo)
  {v:V} {l l':Log} (h:(aEq P t x lo).run m l=some (v,m',l')):NR base U M0 w0 w m G P (Instr.sliceAt t gx (some glo) none none) v m':=aI h
def gvD:D->Value
 | .int k n=> .int k n
 | .bool b=> .bool b
 | .str s=> .string ⟨⟨s⟩⟩
 |_=> .nilFunc
def aJw{h:View}{x:D}(hf:x.flat=true):ro h x (gvD x):=by
 cases x with
 |sl _ _ _=>simp[D.flat] at hf
 |_=>simp[gvD,ro]
def aBF{op:BinOp}{k:IntKind}{a b:Int}{v:V}{t:TypeId}(ho:shiftOp op=false)(hz:nz op b=true)(h:aFM op k a b=some v):∃x,v=.d x/\x.flat=true/\(binOp op t (.int k a) (.int k b)).run P w=.ok (gvD x) w:=by
 cases op
 case add=>cases h;exact⟨_,rfl,rfl,by simp[binOp,Op.intArith,gvD]⟩
 case sub=>cases h;exact⟨_,rfl,rfl,by simp[binOp,Op.intArith,gvD]⟩
 case mul=>cases h;exact⟨_,rfl,rfl,by simp[binOp,Op.intArith,gvD]⟩
 case and=>cases h;exact⟨_,rfl,rfl,by simp[binOp,Op.intBits,gvD]⟩
 case or=>cases h;exact⟨_,rfl,rfl,by simp[binOp,Op.intBits,gvD]⟩
 case xor=>cases h;exact⟨_,rfl,rfl,by simp[binOp,Op.intBits,gvD]⟩
 case eql=>cases h;exact⟨_,rfl,rfl,by simp[binOp,Op.intCmp,gvD]⟩
 case neq=>cases h;exact⟨_,rfl,rfl,by simp[binOp,Op.intCmp,gvD]⟩
 case lss=>cases h;exact⟨_,rfl,rfl,by simp[binOp,Op.intCmp,gvD]⟩
 case leq=>cases h;exact⟨_,rfl,rfl,by simp[binOp,Op.intCmp,gvD]⟩
 case gtr=>cases h;exact⟨_,rfl,rfl,by simp[binOp,Op.intCmp,gvD]⟩
 case geq=>cases h;exact⟨_,rfl,rfl,by simp[binOp,Op.intCmp,gvD]⟩
 case quo=>
  have hb:¬b=0:=by simpa[nz] using hz
  ·cases h;exact⟨_,rfl,rfl,by simp[binOp,Op.intDiv,hb,gvD]⟩
 case rem=>
  have hb:¬b=0:=by simpa[nz] using hz
  ·cases h;exact⟨_,rfl,rfl,by simp[binOp,Op.intDiv,hb,gvD]⟩
 all_goals first|(cases ho;done)|(cases h;done)
def apu{op:BinOp}{k k':IntKind}{a b:Int}{v:V}{t:TypeId}(h:ae0 op k a b=some v):∃x,v=.d x/\x.flat=true/\(binOp op t (.int k a) (.int k' b)).run P w=.ok (gvD x) w:=by
 unfold ae0 at h
 by_cases hb:b<0
 ·simp[hb] at h
 ·simp only[hb,decide_false,bG] at h;cases op<;>simp only at h<;>first|(cases h;done)|skip
  all_goals
   cases h;exact⟨_,rfl,rfl,by simp[binOp,Op.shift,hb,gvD]⟩
def toList_mk(s:List UInt8):(ByteArray.mk ⟨s⟩).toList=s:=by rw[ByteArray.toList_eq]
def awf(a b:List UInt8):ByteArray.mk ⟨a⟩++ByteArray.mk ⟨b⟩=⟨⟨a++b⟩⟩:=by
 have:(ByteArray.mk ⟨a⟩++ByteArray.mk ⟨b⟩).data=⟨a++b⟩:=by rw[ByteArray.data_append];simp
 exact congrArg ByteArray.mk this
def aBG{op:BinOp}{a b:List UInt8}{v:V}{t:TypeId}{l l':Log}(h:(aFN op a b).run m l=some (v,m',l')):
  m'=m/\∃x,v=.d x/\x.flat=true/\(binOp op t (.string ⟨⟨a⟩⟩) (.string ⟨⟨b⟩⟩)).run P w=.ok (gvD x) w:=by
 cases op<;>simp only[aFN] at h<;>try exact aI h
 case add=>
  cases hc:Nat.ble (a.length+b.length) asH with
  |false=>rw[hc] at h;simp[Acc.run] at h
  |true=>
   rw[hc] at h;change some (_,_,_)=_ at h;simp only[kU,ql] at h;obtain⟨rfl,rfl,_⟩:=h;have hc:=Nat.le_of_ble_eq_true hc;have hm:IntKind.i64.max=(asH:Int):=by decide
   have hn:¬((((ByteArray.mk ⟨a⟩).size+(ByteArray.mk ⟨b⟩).size:Nat):Int)>IntKind.i64.max):=by rw[hm];have h1:(ByteArray.mk ⟨a⟩).size=a.length:=rfl;have h2:(ByteArray.mk ⟨b⟩).size=b.length:=rfl;rw[h1,h2];omega
   refine⟨rfl,_,rfl,rfl, ?_⟩;simp only[binOp,Op.stringOp,if_neg hn,Sem.run_pure,awf,gvD]
 all_goals
  change some (_,_,_)=_ at h;simp only[kU,ql] at h;obtain⟨rfl,rfl,_⟩:=h;refine⟨rfl,_,rfl,rfl, ?_⟩;simp[binOp,Op.stringOp,toList_mk,gvD]
def as7{t:TypeId}(h:boolT P t=true):P.underlying t=some .bool:=by
 unfold boolT at h;cases hd:P.underlying t with
 |none=>simp[hd] at h
 |some d=>rw[hd] at h;cases d<;>simp at h;rfl
def ahv{op:BinOp}{t:TypeId}{ox oy:Operand}{a b:Value}(h:∀c,a≠.agg c)(hn:a≠.nilIface):(eqGuard op t ox oy a b).run P w=.ok () w:=by
 unfold eqGuard;cases op<;>simp
 all_goals cases a<;>first|exact absurd rfl (h _)|exact absurd rfl hn|simp
def aln{t:TypeId}(h:P.underlying t=some .bool)(a b:Bool):(Op.equalIn Op.maxDepth t (.bool a) (.bool b)).run P w=.ok (a==b) w:=by
 have:∀d,(Op.equalIn (d+1) t (.bool a) (.bool b)).run P w=.ok (a==b) w:=by intro d;simp[Op.equalIn,run_underlying h]
 exact this 9999
def aFW(hA:At base U M0 w0 w m G){op:BinOp}{t:TypeId}{ox oy:Operand}{x y:V}{gx gy:Value}(hx:bn G.μ m (Gh U w G) x gx)(hy:bn G.μ m (Gh U w G) y gy){v:V}{l l':Log}(h:(bin (boolT P t) op x y).run m l=some (v,m',l')):
  NR base U M0 w0 w m G P (do eqGuard op t ox oy gx gy;binOp op t gx gy) v m':=by
 have close:∀{x:D},(∀c,gx≠.agg c)->gx≠.nilIface->x.flat=true->(binOp op t gx gy).run P w=.ok (gvD x) w->NR base U M0 w0 w m G P (do eqGuard op t ox oy gx gy;binOp op t gx gy) (.d x) m:=by intro x h1 h2 hq hr;refine NR.same hA (g:=gvD x) ?_ (by simp only[bn];exact aJw hq);simp only[Sem.run_bind,ahv h1 h2,Result.andThen_ok,hr]
 unfold bin at h;split at h
 ·simp only[bn,ro] at hx hy;subst hx hy;split at h
  ·rename_i ho;cases hb:ae0 op _ _ _ with
   |none=>rw[hb] at h;simp[Acc.run] at h
   |some r=>rw[hb] at h;change some (_,_,_)=_ at h;simp only[kU,ql] at h;obtain⟨rfl,rfl,_⟩:=h;obtain⟨x,rfl,hq,hr⟩:=apu (P:=P) (w:=w) (t:=t) hb;exact close (by simp) (by simp) hq hr
  ·rename_i ho;split at h
   ·rename_i hk;have hk:=of_decide_eq_true hk;subst hk;cases hz:nz op _ with
    |false=>rw[hz] at h;cases h
    |true=>
    rw[hz] at h;simp only[Acc.run] at h;cases hb:aFM op _ _ _ with
    |none=>rw[hb] at h;simp[Acc.run] at h
    |some r=>rw[hb] at h;change some (_,_,_)=_ at h;simp only[kU,ql] at h;obtain⟨rfl,rfl,_⟩:=h;obtain⟨x,rfl,hq,hr⟩:=aBF (P:=P) (w:=w) (t:=t) ho hz hb;exact close (by simp) (by simp) hq hr
   ·exact aI h
 ·simp only[bn,ro] at hx hy;subst hx hy;obtain⟨rfl,x,rfl,hq,hr⟩:=aBG (P:=P) (w:=w) (t:=t) h;exact close (by simp) (by simp) hq hr
 ·simp only[bn,ro] at hx hy;subst hx hy;split at h
  ·rename_i hbt;have hbt:=as7 hbt;cases op<;>simp only[aJi] at h<;>try(simp[Acc.run] at h;done)
   all_goals
    change some (_,_,_)=_ at h;simp only[kU,ql] at h;obtain⟨rfl,rfl,_⟩:=h;refine close (by simp) (by simp) rfl ?_;simp only[binOp,Op.equal,Sem.run_bind,aln hbt,Result.andThen_ok,Sem.run_pure,gvD]
  ·exact aI h
 ·exact aI h
def apv{t:TypeId}(h:sliceT P t=true):∃e,P.underlying t=some (.slice e):=by
 unfold sliceT at h;cases hd:P.underlying t with
 |none=>simp[hd] at h
 |some d=>rw[hd] at h;cases d<;>simp at h;exact⟨_,rfl⟩
def afh{t e:TypeId}(h:P.underlying t=some (.slice e))(a:Option Addr)(n c:Nat):(Op.equal t (.slice a n c) (.slice none 0 0)).run P w=.ok a.isNone w:=by
 have:∀d,(Op.equalIn (d+1) t (.slice a n c) (.slice none 0 0)).run P w=.ok a.isNone w:=by intro d;cases a<;>simp[Op.equalIn,run_underlying h]
 exact this 9999
def awg{t:TypeId}{x y:V}{r:Bool}(hp:agd P t x=true)(h:asI x y=some r){μ:Nat->Value}{mm:Mem}{hh:View}{gx gy:Value}(hx:bn μ mm hh x gx)(hy:bn μ mm hh y gy)(d:Nat):
  (Op.equalIn (d+1) t gx gy).run P w=.ok r w/\(∃d,P.underlying t=some d)/\QX P t=false:=by
 unfold asI at h;split at h
 ·rename_i k a k' b;simp only[bn,ro] at hx hy;subst hx hy;unfold agd at hp;split at hp<;>try cases hp
  all_goals rename_i hu he
  all_goals try cases he
  cases hk:decide (k=k') with
  |false=>rw[hk] at h;cases h
  |true=>rw[hk] at h;cases h;have:=of_decide_eq_true hk;subst this;exact⟨run_equalIn_int w d t k _ a b hu,⟨_,hu⟩,by simp[QX,hu]⟩
 ·rename_i a b;simp only[bn,ro] at hx hy;subst hx hy;unfold agd at hp;split at hp<;>try cases hp
  all_goals rename_i hu he
  all_goals try cases he
  cases h;refine⟨?_,⟨_,hu⟩,by simp[QX,hu]⟩;have:=run_equalIn_string w d t ⟨⟨a⟩⟩ ⟨⟨b⟩⟩ hu;rw[ByteArray.toList_eq,ByteArray.toList_eq] at this;exact this
 ·rename_i a b;simp only[bn,ro] at hx hy;subst hx hy;unfold agd at hp;split at hp<;>try cases hp
  all_goals rename_i hu he
  all_goals try cases he
  cases h;exact⟨run_equalIn_bool' w d t a b hu,⟨_,hu⟩,by simp[QX,hu]⟩
 ·cases h
def ajv{μ:Nat->Value}{mm:Mem}{hh:View}{xs ys:List V}{gx gy:Array Value}(hx:dI μ mm hh xs gx.toList)(hy:dI μ mm hh ys gy.toList)(d:Nat):∀{fs:List Field} {r:Bool},aiy P fs xs ys=some r->
  (Op.eqFields (d+1) gx gy fs).run P w=.ok r w
 |[],r,h=>by cases h;simp[Op.eqFields]
 |f::fs,r,h=>by
  rw[aiy] at h;split at h
  ·rename_i x y hxo hyo
   cases hc : (agd P f.type x && (f.name != "_")) with
   |false=>rw[hc] at h;cases h
   |true=>
    rw[hc,aH] at h;rw[zq] at hc
    have hname : f.name ≠ "_" := by simpa using hc.2
    split at h
    ·rename_i a b ha hb;cases h;obtain⟨g1,e1,s1⟩:=abU hx hxo;obtain⟨g2,e2,s2⟩:=abU hy hyo;obtain⟨h1,⟨du,hu⟩,h2⟩:=awg (w:=w) hc.1 ha s1 s2 d;have p1:(Go.part f.type gx f.offset).run P w=.ok g1 w:=by
      have e1':gx[f.offset]? =some g1:=by simpa using e1
      simp[Go.part,XU hu,h2,e1']
     have p2:(Go.part f.type gy f.offset).run P w=.ok g2 w:=by
      have e2':gy[f.offset]? =some g2:=by simpa using e2
      simp[Go.part,XU hu,h2,e2']
     rw[Op.eqFields,if_pos hname];simp only[Sem.run_bind,p1,p2,h1,Result.andThen_ok];cases a with
     |false=>simp
     |true=>simpa using ajv hx hy d hb
    ·cases h
  ·cases h
def awh(hA:At base U M0 w0 w m G){x:V}{gx:Value}(hx:bn G.μ m (Gh U w G) x gx){b:Bool}{l l':Log}(h:(asJ x).run m l=some (b,m',l')):
  m'=m/\∃a n c,gx=.slice a n c/\b=a.isNone:=by
 have full:∀{o:Bool} {s:Nat} {rows:List Row} {g:Value} {h:View},ro h (.sl o s rows) g->1<=rows.length->∃a n c,g=.slice a n c/\false=a.isNone:=by intro o s rows g h hr hl;simp only[ro] at hr;obtain⟨a,cap,rfl,_,hs⟩:=hr;obtain⟨b,o,rfl,_⟩:=hs (by intro e;rw[e] at hl;simp at hl);exact⟨_,_,_,rfl,rfl⟩
 unfold asJ at h;split at h
 ·simp only[run_pure,kU,ql] at h;obtain⟨rfl,rfl,_⟩:=h;simp only[bn] at hx;exact⟨rfl,_,_,_,hx,rfl⟩
 ·replace h:=ay h;obtain⟨_,m2,l2,h2,h⟩:=h;obtain⟨hb,rfl,rfl⟩:=Ii h2;simp only[run_pure,kU,ql] at h;obtain⟨rfl,rfl,_⟩:=h;simp only[bn] at hx;exact⟨rfl,full hx (Nat.le_of_ble_eq_true hb)⟩
 ·rename_i r ver;replace h:=ay h;obtain⟨c,m2,l2,h2,h⟩:=h;rw[Ar] at h2;cases h2;cases hc:get r m with
  |none=>rw[hc] at h;exact aI h
  |some c=>
   rw[hc] at h;cases c with
   |arr fz fl vH s rows=>simp only at h;replace h:=ay h;obtain⟨_,m2,l2,h2,h⟩:=h;obtain⟨hb,rfl,rfl⟩:=Ii h2;rw[zq] at hb;have hv:=Kr hb.1;subst hv;simp only[run_pure,kU,ql] at h;obtain⟨rfl,rfl,_⟩:=h;have hro:=hA.ok.look hc (by rw[hA.out];simp) false;simp only[bn,hc] at hx;rw[<-hx.2.2 trivial] at hro;exact⟨rfl,full hro (Nat.le_of_ble_eq_true hb.2)⟩
   |_=>exact aI h
 ·exact aI h
def awi(hA:At base U M0 w0 w m G){op:BinOp}{t:TypeId}{ox oy:Operand}{x:V}{gx:Value}(hx:bn G.μ m (Gh U w G) x gx){v:V}{l l':Log}(h:(asK P t op x).run m l=some (v,m',l')):
  NR base U M0 w0 w m G P (do eqGuard op t ox oy gx (.slice none 0 0);binOp op t gx (.slice none 0 0)) v m':=by
 unfold asK at h;obtain⟨hb,h⟩:=bck h;obtain⟨e,he⟩:=apv hb;replace h:=ay h;obtain⟨b,m2,l2,h2,h⟩:=h;obtain⟨rfl,a,n,c,rfl,rfl⟩:=awh hA hx h2;have hg:(eqGuard op t ox oy (.slice a n c) (.slice none 0 0)).run P w=.ok () w:=ahv (by simp) (by simp);cases op<;>try exact aI h
 ·obtain⟨rfl,rfl,_⟩:=ZI h;refine NR.same hA (g:=.bool a.isNone) ?_ (by simp only[bn,ro]);simp only[Sem.run_bind,hg,Result.andThen_ok,binOp,afh he,Sem.run_pure]
 ·obtain⟨rfl,rfl,_⟩:=ZI h;refine NR.same hA (g:=.bool !a.isNone) ?_ (by simp only[bn,ro]);simp only[Sem.run_bind,hg,Result.andThen_ok,binOp,afh he,Sem.run_pure]
def aBH(hA:At base U M0 w0 w m G){op:BinOp}{t:TypeId}{ox oy:Operand}{x y:V}{gx gy:Value}(hx:bn G.μ m (Gh U w G) x gx)(hy:bn G.μ m (Gh U w G) y gy){v:V}{l l':Log}(h:(aFO P t op x y).run m l=some (v,m',l')):
  NR base U M0 w0 w m G P (do eqGuard op t ox oy gx gy;binOp op t gx gy) v m':=by
 unfold aFO at h;split at h
 ·rename_i cs;cases y with
  |agg ds=>
   simp only[aJj] at h;replace h:=ay h;obtain⟨_,m1,l1,h1,h⟩:=h;obtain⟨hg,rfl,rfl⟩:=iC h1;simp only[zq,Bool.not_eq_true'] at hg;replace h:=ay h;obtain⟨fs,m1,l1,h1,h⟩:=h;obtain⟨hf,rfl,rfl⟩:=lS h1;replace h:=ay h;obtain⟨r,m1,l1,h1,h⟩:=h;obtain⟨hr,rfl,rfl⟩:=lS h1;simp only[bn] at hx hy;obtain⟨a,rfl,ha⟩:=hx;obtain⟨b,rfl,hb⟩:=hy;have hst:P.underlying t=some (.struct (P.fieldsOf t))/\fs=(P.fieldsOf t).toList:=by
    unfold Program.fieldsOf;split at hf
    ·rename_i fs' hu;cases hf;rw[hu];exact⟨rfl,rfl⟩
    ·cases hf
   obtain⟨hu,rfl⟩:=hst;have he:=(run_equalIn_agg w 9999 t a b hu hg.1).trans (ajv ha hb 9998 hr);have hgd:=run_eqGuard_agg w op t ox oy a b hg.2;have fin:∀r':Bool,(binOp op t (.agg a) (.agg b)).run P w=.ok (.bool r') w->v=.d (.bool r')->m1=m'->NR base U M0 w0 w m1 G P (do eqGuard op t ox oy (.agg a) (.agg b);binOp op t (.agg a) (.agg b)) v m':=by intro r' e1 e2 e3;subst e2 e3;refine NR.same hA (g:=.bool r') ?_ (by simp only[bn,ro]);simp only[Sem.run_bind,hgd,Result.andThen_ok,e1]
   cases op<;>try exact aI h
   ·simp only[run_pure,kU,ql] at h;exact fin r (by rw[run_eql_struct,he];rfl) h.1.symm h.2.1
   ·simp only[run_pure,kU,ql] at h;exact fin (!r) (by rw[run_neq_struct,he];rfl) h.1.symm h.2.1
  |_=>exact aI h
 ·split at h
  ·simp only[bn] at hy;subst hy;exact awi hA hx h
  ·exact aFW hA hx hy h
def aJx(hA:At base U M0 w0 w m G){op:UnOp}{x:V}{gx:Value}(hx:bn G.μ m (Gh U w G) x gx){v:V}{l l':Log}(h:(un op x).run m l=some (v,m',l')):
  NR base U M0 w0 w m G P (Op.unary op gx) v m':=by
 unfold un at h;split at h
 ·change some (_,_,_)=_ at h;simp only[kU,ql] at h;obtain⟨rfl,rfl,_⟩:=h;simp only[bn,ro] at hx;subst hx;refine NR.same hA (g:=.int _ _) (by simp only[Op.unary,Op.intArith,Sem.run_pure];rfl) (by simp[bn,ro])
 ·change some (_,_,_)=_ at h;simp only[kU,ql] at h;obtain⟨rfl,rfl,_⟩:=h;simp only[bn,ro] at hx;subst hx;refine NR.same hA (g:=.bool _) (by simp only[Op.unary,Sem.run_pure];rfl) (by simp[bn,ro])
 ·exact aI h
def ax6(hA:At base U M0 w0 w m G){c x y:V}{gc gx gy:Value}(hc:bn G.μ m (Gh U w G) c gc)(hx:bn G.μ m (Gh U w G) x gx)(hy:bn G.μ m (Gh U w G) y gy){v:V}{l l':Log}(h:(axL c x y).run m l=some (v,m',l')):
  NR base U M0 w0 w m G P (do pure (if<-Go.asBool gc then gx else gy)) v m':=by
 unfold axL at h;split at h
 ·rename_i c;simp only[bn,ro] at hc;subst hc;split at h
  ·rename_i a b;change some (_,_,_)=_ at h;simp only[kU,ql] at h;obtain⟨rfl,rfl,_⟩:=h;simp only[bn,ro] at hx hy;subst hx hy;refine NR.same hA (g:=.bool (bif c then a else b)) ?_ (by simp[bn,ro]);cases c<;>simp[Go.asBool]
  ·split at h
   ·change some (_,_,_)=_ at h;simp only[kU,ql] at h;obtain⟨rfl,rfl,_⟩:=h;exact NR.same hA (g:=gx) (by simp[Go.asBool]) hx
   ·change some (_,_,_)=_ at h;simp only[kU,ql] at h;obtain⟨rfl,rfl,_⟩:=h;exact NR.same hA (g:=gy) (by simp[Go.asBool]) hy
 ·exact aI h
def ahw{h:View}:∀{rows:List Row} {cs:List Value} {bs:List UInt8},bytesOf rows=some bs->jF h 1 rows cs->cs.length=rows.length->
  ∃ns:List Int,cs=ns.map (Value.int .u8)/\bs=ns.map (λn=>UInt8.ofNat n.toNat)
 |[],cs,bs,hb,_,hl=>by simp only[bytesOf,kU] at hb;subst hb;have:cs=[]:=List.length_eq_zero_iff.1 hl;subst this;exact⟨[],rfl,rfl⟩
 |r::rs,cs,bs,hb,hs,hl=>by
  simp only[bytesOf] at hb;cases ha:asByte r with
  |none=>simp[ha] at hb
  |some b=>
   cases hb2:bytesOf rs with
   |none=>simp[ha,hb2] at hb
   |some bs2=>
    simp only[ha,hb2,kU] at hb;subst hb;simp only[jF] at hs;obtain⟨_,h1,h2⟩:=hs;cases cs with
    |nil=>simp at hl
    |cons c cs=>
     obtain⟨ns,e1,e2⟩:=ahw hb2 (by simpa using h2) (by simpa using hl);unfold asByte at ha;split at ha
     ·rename_i n _;simp only[kU] at ha;subst ha;simp only[jH] at h1;obtain⟨v,cs',e,hv,_⟩:=h1;simp only[ro] at hv;simp only[List.cons.injEq] at e;obtain⟨rfl,rfl⟩:=e;exact⟨n::ns,by rw[hv,zmc,e1],by rw[zmc,e2]⟩
     ·cases ha
def foldl_push:∀(ns:List Int) (acc:List UInt8),ns.foldl (λr n=>r.push (UInt8.ofNat n.toNat)) (ByteArray.mk ⟨acc⟩)=⟨⟨acc++ns.map (λn=>UInt8.ofNat n.toNat)⟩⟩
 |[],acc=>by simp
 |n::ns,acc=>by
  rw[List.foldl_cons];have:(ByteArray.mk ⟨acc⟩).push (UInt8.ofNat n.toNat)=⟨⟨acc++[UInt8.ofNat n.toNat]⟩⟩:=by simp[ByteArray.push]
  rw[this,foldl_push ns];simp
def apw(hA:At base U M0 w0 w m G){src dst:TypeId}{x:V}{gx:Value}(hx:bn G.μ m (Gh U w G) x gx){v:V}{l l':Log}(h:(aiY P src dst x).run m l=some (v,m',l')):
  NR base U M0 w0 w m G P (convert src dst gx) v m':=by
 unfold aiY at h;split at h
 next hs hd=>
  split at h
  ·change some (_,_,_)=_ at h;simp only[kU,ql] at h;obtain⟨rfl,rfl,_⟩:=h;simp only[bn,ro] at hx;subst hx;refine NR.same hA (g:=.int _ _) ?_ (by simp only[bn,ro];rfl);simp[convert,run_underlying hs,run_underlying hd,Conv.intToInt]
  ·exact aI h
 next hs hd=>
  split at h
  ·change some (_,_,_)=_ at h;simp only[kU,ql] at h;obtain⟨rfl,rfl,_⟩:=h;have hx0:=hx;simp only[bn,ro] at hx;subst hx;refine NR.same hA (g:=.string _) ?_ hx0;simp[convert,run_underlying hs,run_underlying hd]
  ·exact aI h
 next e hs hd=>
  replace h:=ay h;obtain⟨_,m1,l1,h1,h⟩:=h;obtain⟨he,rfl,rfl⟩:=Ii h1;have he:P.underlying e=some (.int .u8):=by
   cases hu:P.underlying e with
   |none=>simp[hu] at he
   |some d=>rw[hu] at he;cases d<;>first|(simp at he;done)|(rename_i k;cases k<;>first|rfl|(simp at he;done))
  replace h:=ay h;obtain⟨⟨s,rows⟩,m1,l1,h1,h⟩:=h;obtain⟨rfl,hq⟩:=auH hA.ok hx hA.out h1;simp only at h;obtain⟨hs1,h⟩:=bck h;have hs1:=Kr hs1;subst hs1;obtain⟨bs,hb,h⟩:=bop h;obtain⟨rfl,rfl,_⟩:=ZI h;simp only[ro] at hq;obtain⟨a,cap,rfl,hcap,hne⟩:=hq;refine NR.same hA (g:=.string ⟨⟨bs⟩⟩) ?_ (by simp only[bn,ro]);rw[run_convert_bytes_string w src dst e a rows.length cap hs he hd]
  by_cases hr:rows=[]
  ·subst hr;simp only[bytesOf,kU] at hb;subst hb;cases a with
   |none=>simp[Conv.bytesToString];rfl
   |some a=>have hl:=run_loadCells_list (P:=P) w a [] (by simp);have:=run_bytesToString (P:=P) w a 0 cap [] (by simpa using hl);exact this
  ·obtain⟨b,o,rfl,hrr⟩:=hne hr;obtain⟨cs,hl,hc,hss⟩:=YM rows o hrr;rw[Nat.mul_one] at hl;obtain⟨ns,rfl,rfl⟩:=ahw hb hss hl;have hlc:=run_loadCells_list (P:=P) w ⟨b,o,none⟩ (ns.map (Value.int .u8)) (λj v hj=>by rw[Xq];exact hc j v hj);rw[hl] at hlc;rw[run_bytesToString w _ rows.length cap ns hlc];have:=foldl_push ns [];rw[List.nil_append] at this;rw[<-this];rfl
 next=>exact aI h
def ax7{μ:Nat->Value}{h:View}{vs:List V}{a:Array Value}{i:Nat}{v:V}(q:dI μ m h vs a.toList)(hi:vs[i]? =some v):∃x,a[i]? =some x/\bn μ m h v x:=by obtain⟨x,h1,h2⟩:=abU q hi;exact⟨x,by simpa using h1,h2⟩
end
end Go.Vm
