import Derived.Orders
import Derived.KernelRfl
import Derived.RowKit3
import Derived.Laws.Cells
import Derived.Laws.Rows
import Derived.Laws.OwnMore
import Derived.Below
set_option linter.defProp false
set_option linter.unusedVariables false
set_option linter.unusedSimpArgs false
namespace Go.Vm
def bW{α:Sort _}(a b:α):cond true a b=a:=cond_true ..
def dP{α:Sort _}(a b:α):cond false a b=b:=cond_false ..
def gQ{α:Type _}(a b:α):(some a=some b)=(a=b):=Option.some.injEq ..
def je{α:Type _}{β:Type _}(a:α)(b:β)(c:α)(d:β):((a,b)=(c,d))=(a=c∧b=d):=Prod.mk.injEq ..
def zdt{p:Prop}[Decidable p](h:p):decide p=true:=decide_eq_true h
def uh{p:Prop}[Decidable p](h:¬p):decide p=false:=decide_eq_false h
def vU{n m:Nat}(h:Nat.beq n m=true):n=m:=Nat.eq_of_beq_eq_true h
def vS{α:Type _}{a b:List α}:(a++b).length=a.length+b.length:=List.length_append ..
def Je{α:Type _}{i:Nat}{a:α}{l:List α}:l[i]? =some a↔∃h:i<l.length,l[i]=a:=List.getElem?_eq_some_iff ..
def vX{α:Type _}{a:α}{s:List α}:(a::s).length=s.length+1:=List.length_cons ..
def AB{α:Type _}(a b c:List α):a++b++c=a++(b++c):=List.append_assoc ..
def GX{α:Type _}{a:α}:[a].length=1:=List.length_singleton ..
def EN{α:Type _}:([]:List α).length=0:=List.length_nil ..
def Lu{α:Type _}{l:List α}{i:Nat}{a:α}(h:l[i]? =some a):a∈l:=List.mem_of_getElem? h
def AL(a b:Bool):((a&&b)=true)=(a=true∧b=true):=Bool.and_eq_true ..
def Jf{α:Type _}{β:Type _}(a:α)(f:α->β):Option.map f (some a)=some (f a):=Option.map_some ..
def JI{α:Type _}{β:Type _}{f:α->β}{a:α}{l:List α}:List.map f (a::l)=f a::List.map f l:=List.map_cons ..
def O9(n:Nat):((n:Int)).toNat=n:=Int.toNat_natCast ..
def SS{α:Type _}{a:α}{s t:List α}:a::s++t=a::(s++t):=List.cons_append ..
def XR{α:Type _}(y:α){a:α}{l:List α}(h:a∈l):a∈y::l:=List.mem_cons_of_mem _ h
def ZQ{α:Type _}{a:α}{l:List α}:a∈a::l:=List.mem_cons_self ..
def zlo{α:Type _}{l:List α}:l.length=1↔∃a,l=[a]:=List.length_eq_one_iff ..
def Nw{α:Type _}[BEq α][LawfulBEq α]{a b:α}:(a==b)=false↔a≠b:=beq_eq_false_iff_ne ..
def U2{α:Type _}{i:Nat}{l:List α}:(l.take i).length=min i l.length:=List.length_take ..
end Go.Vm
namespace Go.Vm
open Go
inductive D where
 |int (k:IntKind) (n:Int)
 |bool (b:Bool)
 |str (s:List UInt8)
 |Md
 |sl (own:Bool) (s:Nat) (rows:List (List D))
 deriving Inhabited
abbrev Row:=List D
abbrev aC:=List UInt8
abbrev au:=List Row
inductive V where
 |d (x:D)
 |nil (s:Nat)
 |own (r ver:Nat)
 |ptr (r off:Nat)
 |tH (r ver i off:Nat)
 |nZ (row:Row) (off:Nat)
 |vV (v:V)
 |clo (f:Nat) (first caps:List V)
 |agg (cs:List V)
 |yE (vs:List V)
 |undef
 deriving Inhabited
inductive Cell where
 |box (t:TypeId) (cs:List V)
 |arr (fz fl:Bool) (ver s:Nat) (rows:List Row)
 |dead
 |DF (ver s:Nat) (rows:List Row)
 |mO (t:TypeId) (v:V)
 deriving Inhabited
abbrev Mem:=List (Nat×Cell)
abbrev jJ:=List (Nat×V)
structure St where
 tm:jJ
 mem:Mem
def get{α:Type}(k:Nat):List (Nat×α)->Option α
 |[]=>none
 |(j,x)::l=>bif Nat.beq k j then some x else get k l
def put{α:Type}(k:Nat)(x:α):List (Nat×α)->List (Nat×α)
 |[]=>[(k,x)]
 |(j,y)::l=>bif Nat.beq k j then(k,x)::l else bif Nat.blt k j then(k,x)::(j,y)::l else(j,y)::put k x l
def del{α:Type}(k:Nat):List (Nat×α)->List (Nat×α)
 |[]=>[]
 |(j,y)::l=>bif Nat.beq k j then del k l else(j,y)::del k l
def Pg(t:Nat)(tm:jJ):V:=match get t tm with|some v=>v|none=> .undef
def TS(dst:Option Nat)(v:V)(tm:jJ):jJ:=match dst with|some t=>put t v tm|none=>tm
def apJ(dst:Option Nat)(tm:jJ):jJ:=match dst with|some t=>del t tm|none=>tm
inductive Acc(α:Type):Type 1 where
 |ret (a:α)
 |fail
 |get (k:Nat) (c:Option Cell->Acc α)
 |set (k:Nat) (x:Cell) (c:Acc α)
 |opt {β:Type} (o:Option β) (c:β->Acc α)
 |guard (b:Bool) (c:Acc α)
structure Log where
 r:List Nat
 w:List Nat
def Log.rd(l:Log)(k:Nat):Log:={l with r:=k::l.r}
def Log.wr(l:Log)(k:Nat):Log:={l with w:=k::l.w}
def Log.none:Log:=⟨[],[]⟩
def Acc.bind{α β:Type}:Acc α->(α->Acc β)->Acc β
 | .ret a,f=>f a
 | .fail,_=> .fail
 | .get k c,f=> .get k λx=>(c x).bind f
 | .set k x c,f=> .set k x (c.bind f)
 | .opt o c,f=> .opt o λb=>(c b).bind f
 | .guard b c,f=> .guard b (c.bind f)
def Acc.run{α:Type}:Acc α->Mem->Log->Option (α×Mem×Log)
 | .ret a,m,l=>some (a,m,l)
 | .fail,_,_=>none
 | .get k c,m,l=>(c (Vm.get k m)).run m (l.rd k)
 | .set k x c,m,l=>c.run (put k x m) (l.wr k)
 | .opt o c,m,l=>match o with|some b=>(c b).run m l|none=>none
 | .guard b c,m,l=>match b with|true=>c.run m l|false=>none
inductive CT where
 |int (k:IntKind)|bool|str|sl (s:Nat)|other
 deriving Inhabited
def aiN(f:TypeId->Option (List CT)):List TypeId->Option (List CT)
 |[]=>some []
 |t::ts=>match f t,aiN f ts with|some a,some b=>some (a++b)|_,_=>none
def cts(P:Program):Nat->TypeId->Option (List CT)
 |0,_=>none
 |n+1,t=>match P.underlying t with
  |some (.int k)=>some [.int k]
  |some .bool=>some [.bool]
  |some .string=>some [.str]
  |some (.slice e)=>match P.info? e with|some i=>some [.sl i.size]|none=>none
  |some (.struct fs)=>aiN (cts P n) (fs.toList.map (·.type))
  |some (.array k e)=>aiN (cts P n) (List.replicate k e)
  |some (.pointer _)|some (.func ..)=>some [.other]
  |_=>none
def KG(P:Program)(t:TypeId):List CT:=match cts P 8 t with|some l=>l|none=>[.other]
def EC(P:Program)(t:TypeId):Bool:=match P.underlying t with|some (.struct _)=>true|some (.array ..)=>true|_=>false
def kS(P:Program)(t:TypeId):Nat:=match P.info? t with|some i=>i.size|none=>0
def elT(P:Program)(t:TypeId):Option TypeId:=match P.underlying t with|some (.slice e)=>some e|_=>none
def WO:CT->Value->V
 |_,.bool b=> .d (.bool b)
 |_,.int k n=> .d (.int k n)
 |_,.string s=> .d (.str s.data.toList)
 |_,.nilFunc=> .d .Md
 | .sl s,.slice none 0 0=> .nil s
 |_,_=> .undef
def BF:List CT->List Value->List V
 |c::cs,v::vs=>WO c v::BF cs vs
 |[],_::vs=> .undef::BF [] vs
 |_,[]=>[]
def cv(P:Program)(t:TypeId):Value->V
 | .agg cs=> .agg (BF (KG P t) cs.toList)
 |v=>match KG P t with|c::_=>WO c v|[]=> .undef
def JJ(P:Program)(t:TypeId):Option (List V):=
 match P.info? t with
 |some i=>match i.zero with
  |some z=>some (BF (KG P t) z.cells.toList)
  |none=>none
 |none=>none
def V.cells:V->List V
 | .agg cs=>cs
 |v=>[v]
def EY(P:Program)(t:TypeId)(cs:List V):Option V:=
 bif EC P t then some (.agg cs) else match cs with|[v]=>some v|_=>none
def asInt(k:IntKind):D->Option Int
 | .int k' n=>bif decide (k'=k) then some n else none
 |_=>none
def asBool:D->Option Bool
 | .bool b=>some b
 |_=>none
def acR:D->Option (List UInt8)
 | .str s=>some s
 |_=>none
def al8(s:Nat):D->Option (List Row)
 | .sl _ s' rows=>bif Nat.beq s' s then some rows else none
 |_=>none
def apK(s:Nat):D->Option (List Row)
 | .sl own s' rows=>bif Nat.beq s' s then(match own with|false=>some rows|true=>match rows with|[]=>some []|_::_=>none) else none
 |_=>none
def ajP(s:Nat):D->Option (List Row)
 | .sl own s' rows=>match own with|true=>bif Nat.beq s' s then some rows else none|false=>none
 |_=>none
def nth(row:Row)(j:Nat):D:=match row[j]? with|some x=>x|none=> .Md
def eu(k:IntKind)(row:Row)(j:Nat):Option Int:=asInt k (nth row j)
def Ji(row:Row)(j:Nat):Option Bool:=asBool (nth row j)
def cStr(row:Row)(j:Nat):Option (List UInt8):=acR (nth row j)
def LC(s:Nat)(row:Row)(j:Nat):Option (List Row):=al8 s (nth row j)
def cRo(s:Nat)(row:Row)(j:Nat):Option (List Row):=apK s (nth row j)
def al9(s:Nat)(row:Row)(j:Nat):Option (List Row):=ajP s (nth row j)
mutual
def D.fz:D->D
 | .int k n=> .int k n
 | .bool b=> .bool b
 | .str s=> .str s
 | .Md=> .Md
 | .sl _ s rows=> .sl false s (dI rows)
def dI:List Row->List Row
 |[]=>[]
 |r::rs=>ql r::dI rs
def ql:Row->Row
 |[]=>[]
 |x::r=>x.fz::ql r
end
def roD:D->D
 | .sl _ s rows=> .sl false s rows
 |x=>x
def D.flat:D->Bool
 | .sl ..=>false
 |_=>true
def aA(rows:List Row):Bool:=rows.all λr=>r.all D.flat
def one:V->Bool
 | .d _=>true
 | .nil _=>true
 | .own _ _=>true
 | .ptr _ _=>true
 | .tH ..=>true
 | .nZ _ _=>true
 | .vV _=>true
 | .clo ..=>true
 |_=>false
mutual
def D.pure:D->Bool
 | .sl own _ rows=>match own with|true=>EO rows|false=>rows.isEmpty
 |_=>true
def EO:List Row->Bool
 |[]=>true
 |r::rs=>jk r && EO rs
def jk:Row->Bool
 |[]=>true
 |x::r=>x.pure && jk r
end
def GY(strict:Bool):List CT->Row->Nat->(List V->Acc V)->Acc V
 |[],_,_,c=>c []
 | .int k::ts,row,j,c=> .opt (eu k row j) λn=>GY strict ts row (j+1) λvs=>c (.d (.int k n)::vs)
 | .bool::ts,row,j,c=> .opt (Ji row j) λn=>GY strict ts row (j+1) λvs=>c (.d (.bool n)::vs)
 | .str::ts,row,j,c=> .opt (cStr row j) λn=>GY strict ts row (j+1) λvs=>c (.d (.str n)::vs)
 | .sl s::ts,row,j,c=> .opt (bif strict then cRo s row j else LC s row j) λrs=>GY strict ts row (j+1) λvs=>c (.d (.sl false s rs)::vs)
 | .other::_,_,_,_=> .fail
structure Adv where
 keep:Nat->Nat->List Nat
 move:Nat->List Nat
 ref:Nat->List Nat
 YP:Nat->Nat->List Nat
 awt:Nat->List Nat
 fuse:Nat->Nat->Nat
 trunc:Nat->Nat->Bool
 raw:Nat->List Nat
 look:Nat->List Nat
structure Ctx where
 P:Program
 GR:Adv
 Qu:Nat->Option (List V->List Cell->Option (List Row×List Cell))
 glob:Nat->Option Row
 awu:Nat->Bool
abbrev jc:=Nat->List V->List Cell->Option (List Row×List Cell)
def mem?(k:Nat):List Nat->Bool
 |[]=>false
 |j::l=>bif Nat.beq k j then true else mem? k l
def aru:List CT->Bool
 |[]=>false
 | .sl _::_=>true
 |_::l=>aru l
def qw(P:Program)(e:TypeId):Bool:= !(aru (KG P e))
def vw(fl:Bool)(rows:List Row):List Row:=bif fl then rows else dI rows
instance:Monad Acc where
 pure:=.ret
 bind:=.bind
def rd(k:Nat):Acc (Option Cell):=.get k .ret
def wr(k:Nat)(x:Cell):Acc Unit:=.set k x (.ret ())
def ck(b:Bool):Acc Unit:=.guard b (.ret ())
def op'{β:Type}(o:Option β):Acc β:=.opt o .ret
def free(k:Nat):Acc Unit:=do
 match<-rd k with
 |none=>pure ()
 |some _=> .fail
def new(k:Nat)(c:Cell):Acc Unit:=do
 free k
 wr k c
def seen(v:V):Acc (Nat×List Row):=
 match v with
 | .d (.sl _ s rows)=>pure (s,rows)
 | .nil s=>pure (s,[])
 | .own r ver=>do
  match<-rd r with
  |some (.arr _ fl iK s rows)=>do ck (Nat.beq ver iK);pure (s,vw fl rows)
  |_=> .fail
 |_=> .fail
def SV(fl:Bool)(rows:List Row):Bool:=bif fl then aA rows else true
def toD(v:V):Acc D:=
 match v with
 | .d x=>pure (roD x)
 | .nil s=>pure (.sl true s [])
 | .own r ver=>do
  match<-rd r with
  |some (.arr fz fl iK s rows)=>do
   ck (Nat.beq ver iK)
   match fz with
   |true=>pure (.sl false s (vw fl rows))
   |false=>do
    ck (SV fl rows)
    wr r .dead
    pure (.sl true s rows)
  |_=> .fail
 |_=> .fail
def Jj:List V->Acc Row
 |[]=>pure []
 |v::vs=>do
  let x<-toD v
  let xs<-Jj vs
  pure (x::xs)
def splice{α:Type}(l:List α)(off:Nat)(xs:List α):List α:=l.take off++xs++l.drop (off+xs.length)
def part{α:Type}(l:List α)(off n:Nat):List α:=(l.drop off).take n
def idx{α:Type}(l:List α)(i:Int):Option α:=bif decide (0<=i) then l[i.toNat]? else none
def cut{α:Type}(l:List α)(a b:Int):Option (List α):=
 bif decide (0<=a) && decide (a<=b) && decide (b<=l.length) then some ((l.drop a.toNat).take (b.toNat - a.toNat)) else none
def byteRow(b:UInt8):Row:=[.int .u8 b.toNat]
def asByte:Row->Option UInt8
 |[.int .u8 n]=>some (UInt8.ofNat n.toNat)
 |_=>none
def bytesOf:List Row->Option (List UInt8)
 |[]=>some []
 |r::rs=>match asByte r,bytesOf rs with|some b,some bs=>some (b::bs)|_,_=>none
def ev(P:Program)(tm:jJ)(t:TypeId):Operand->V
 | .tmp i=>Pg i tm
 | .const v=>cv P t v
 | .func f=> .clo f [] []
 | .global _=> .undef
def evG(X:Ctx)(tm:jJ)(t:TypeId)(x:Operand):V:=match x with
 | .global g=>match X.glob g with
  |some row=> .nZ row 0
  |none=> .undef
 |x=>ev X.P tm t x
def ama(op:BinOp)(k:IntKind)(a b:Int):Option V:=
 match op with
 | .add=>some (.d (.int k (k.wrap (a+b))))
 | .sub=>some (.d (.int k (k.wrap (a - b))))
 | .mul=>some (.d (.int k (k.wrap (a * b))))
 | .quo=>bif decide (b=0) then none else some (.d (.int k (k.wrap (a.tdiv b))))
 | .rem=>bif decide (b=0) then none else some (.d (.int k (a.tmod b)))
 | .eql=>some (.d (.bool (a==b)))
 | .neq=>some (.d (.bool (a !=b)))
 | .lss=>some (.d (.bool (decide (a<b))))
 | .leq=>some (.d (.bool (decide (a<=b))))
 | .gtr=>some (.d (.bool (decide (a>b))))
 | .geq=>some (.d (.bool (decide (a>=b))))
 | .and=>some (.d (.int k (k.wrap (BitVec.ofInt k.bits a &&& BitVec.ofInt k.bits b).toNat)))
 | .or=>some (.d (.int k (k.wrap (BitVec.ofInt k.bits a|||BitVec.ofInt k.bits b).toNat)))
 | .xor=>some (.d (.int k (k.wrap (BitVec.ofInt k.bits a ^^^ BitVec.ofInt k.bits b).toNat)))
 |_=>none
def U5(op:BinOp)(k:IntKind)(a b:Int):Option V:=
 bif decide (b<0) then none else
 match op with
 | .shl=>some (.d (.int k (k.wrap (a * 2 ^(min b.toNat k.bits)))))
 | .shr=>some (.d (.int k (a.fdiv (2 ^(min b.toNat k.bits)))))
 |_=>none
def aiO:Nat:=9223372036854775807
def asE(op:BinOp)(a b:List UInt8):Acc V:=
 match op with
 | .add=> .guard (Nat.ble (a.length+b.length) aiO) (.ret (.d (.str (a++b))))
 | .eql=> .ret (.d (.bool (a==b)))
 | .neq=> .ret (.d (.bool !(a==b)))
 | .lss=> .ret (.d (.bool (Op.bytesLess a b)))
 | .leq=> .ret (.d (.bool (Op.bytesLess a b||a==b)))
 | .gtr=> .ret (.d (.bool !(Op.bytesLess a b||a==b)))
 | .geq=> .ret (.d (.bool !(Op.bytesLess a b)))
 |_=> .fail
def awv(op:BinOp)(a b:Bool):Option V:=
 match op with
 | .eql=>some (.d (.bool (a==b)))
 | .neq=>some (.d (.bool !(a==b)))
 |_=>none
def shiftOp:BinOp->Bool
 | .shl| .shr=>true
 |_=>false
def boolT(P:Program)(t:TypeId):Bool:=match P.underlying t with|some .bool=>true|_=>false
def bin(bt:Bool)(op:BinOp)(x y:V):Acc V:=
 match x,y with
 | .d (.int k a),.d (.int k' b)=>
  match shiftOp op with
  |true=> .opt (U5 op k a b) .ret
  |false=>match decide (k=k') with
   |true=> .opt (ama op k a b) .ret
   |false=> .fail
 | .d (.str a),.d (.str b)=>asE op a b
 | .d (.bool a),.d (.bool b)=>match bt with
  |true=> .opt (awv op a b) .ret
  |false=> .fail
 |_,_=> .fail
def aiP:V->V->Option Bool
 | .d (.int k a),.d (.int k' b)=>bif decide (k=k') then some (a==b) else none
 | .d (.str a),.d (.str b)=>some (a==b)
 | .d (.bool a),.d (.bool b)=>some (a==b)
 |_,_=>none
def WQ(P:Program)(t:TypeId)(v:V):Bool:=match P.underlying t,v with
 |some (.int _),.d (.int _ _)=>true
 |some .string,.d (.str _)=>true
 |some .bool,.d (.bool _)=>true
 |_,_=>false
def Zk(P:Program):List Field->List V->List V->Option Bool
 |[],_,_=>some true
 |f::fs,xs,ys=>match xs[f.offset]?,ys[f.offset]? with
  | some x, some y => bif WQ P f.type x && (f.name != "_") then
    (match aiP x y,Zk P fs xs ys with
    |some a,some b=>some (bif a then b else false)
    |_,_=>none) else none
  |_,_=>none
def aww(P:Program)(t:TypeId)(op:BinOp)(cs ds:List V):Acc V:=do
 ck (!(P.stoodInHeld t) && !(P.eqGuardType P.depth t))
 let fs<-op' (match P.underlying t with|some (.struct fs)=>some fs.toList|_=>none)
 let r<-op' (Zk P fs cs ds)
 match op with
 | .eql=>pure (.d (.bool r))
 | .neq=>pure (.d (.bool !r))
 |_=> .fail
def aiQ(x:V):Acc Bool:=
 match x with
 | .nil _=>pure true
 | .d (.sl _ _ rows)=>do ck (Nat.ble 1 rows.length);pure false
 | .own r ver=>do
  match<-rd r with
  |some (.arr _ _ iK _ rows)=>do ck (Nat.beq ver iK && Nat.ble 1 rows.length);pure false
  |_=> .fail
 |_=> .fail
def sliceT(P:Program)(t:TypeId):Bool:=match P.underlying t with|some (.slice _)=>true|_=>false
def aiR(P:Program)(t:TypeId)(op:BinOp)(x:V):Acc V:=do
 ck (sliceT P t)
 let b<-aiQ x
 match op with
 | .eql=>pure (.d (.bool b))
 | .neq=>pure (.d (.bool !b))
 |_=> .fail
def asF(P:Program)(t:TypeId)(op:BinOp)(x y:V):Acc V:=match x with
 | .agg cs=>(match y with| .agg ds=>aww P t op cs ds|_=> .fail)
 |x=>(match y with| .nil _=>aiR P t op x|y=>bin (boolT P t) op x y)
def un(op:UnOp)(x:V):Acc V:=
 match op,x with
 | .neg,.d (.int k n)=> .ret (.d (.int k (k.wrap (0 - n))))
 | .not,.d (.bool b)=> .ret (.d (.bool !b))
 |_,_=> .fail
def amb(c x y:V):Acc V:=
 match c with
 | .d (.bool c)=>match x,y with
  | .d (.bool a),.d (.bool b)=> .ret (.d (.bool (bif c then a else b)))
  |x,y=>match c with
   |true=> .ret x
   |false=> .ret y
 |_=> .fail
def GU(P:Program)(t:TypeId):Bool:=match P.underlying t with|some _=>true|none=>false
def amc(P:Program)(t:TypeId)(a:V):Acc V:=do
 ck (GU P t && Nat.beq (KG P t).length (kS P t))
 match a with
 | .ptr r off=>do
  match<-rd r with
  |some (.box _ cs)=>do
   ck (Nat.ble (off+kS P t) cs.length)
   op' (EY P t (part cs off (kS P t)))
  |some (.mO _ v)=>do
   ck (Nat.beq off 0 &&(Nat.beq (kS P t) 1 && !(EC P t)))
   pure v
  |_=> .fail
 | .vV v=>do
  ck (Nat.beq (kS P t) 1 && !(EC P t))
  pure v
 | .nZ row off=>GY false (KG P t) row off λvs=>op' (EY P t vs)
 | .tH r ver i off=>do
  match<-rd r with
  |some (.arr _ _ iK _ rows)=>do
   ck (Nat.beq ver iK)
   let row<-op' rows[i]?
   GY true (KG P t) row off λvs=>op' (EY P t vs)
  |some (.DF iK _ rows)=>do
   ck (Nat.beq ver iK)
   let row<-op' rows[i]?
   GY true (KG P t) row off λvs=>op' (EY P t vs)
  |_=> .fail
 |_=> .fail
def kept(off:Nat)(cs:List V)(x:V):Bool:=match off,cs,x with
 |0,[.undef],.ptr _ _=>true
 |_,_,_=>false
def aiS(P:Program)(t:TypeId)(a x:V):Acc Unit:=do
 ck (GU P t)
 ck (Nat.beq x.cells.length (kS P t))
 ck (x.cells.all one)
 match a with
 | .ptr r off=>do
  match<-rd r with
  |some (.box T cs)=>do
   ck (Nat.ble (off+kS P t) cs.length)
   match kept off cs x with
   |true=>wr r (.mO T x)
   |false=>wr r (.box T (splice cs off x.cells))
  |_=> .fail
 | .tH r ver i off=>do
  let xs<-Jj x.cells
  match<-rd r with
  |some (.arr false fl iK s rows)=>do
   ck (Nat.beq ver iK)
   ck (Nat.ble (off+kS P t) s)
   let row<-op' rows[i]?
   wr r (.arr false fl ver s (rows.set i (splice row off xs)))
  |_=> .fail
 |_=> .fail
def Ph(P:Program)(T:TypeId)(f:Nat):Option (Nat×Nat×TypeId):=
 match P.underlying T with
 |some (.struct fs)=>match fs[f]? with
  |some fd=>some (fd.offset,kS P fd.type,fd.type)
  |none=>none
 |_=>none
def TT(P:Program)(T:TypeId)(a:V)(f:Nat):Acc V:=do
 let(o,n,_)<-op' (Ph P T f)
 ck (Nat.ble 1 n)
 match a with
 | .ptr r off=>pure (.ptr r (off+o))
 | .nZ row off=>pure (.nZ row (off+o))
 | .tH r ver i off=>pure (.tH r ver i (off+o))
 |_=> .fail
def aiT(P:Program)(T:TypeId)(x:V)(f:Nat):Acc V:=do
 let(o,n,t)<-op' (Ph P T f)
 match x with
 | .agg cs=>do
  ck (Nat.ble (o+n) cs.length)
  ck (GU P t)
  op' (EY P t (part cs o n))
 |_=> .fail
def TU(P:Program)(t:TypeId)(x i:V):Acc V:=do
 let e<-op' (elT P t)
 match i with
 | .d (.int _ i)=>
  match x with
  | .d (.sl _ s rows)=>do
   ck (Nat.beq s (kS P e))
   ck (GU P e)
   let row<-op' (idx rows i)
   pure (.nZ row 0)
  | .own r ver=>do
   match<-rd r with
   |some (.arr fz fl iK s rows)=>do
    ck (Nat.beq ver iK)
    ck (Nat.beq s (kS P e))
    ck (GU P e)
    match fz with
    |true=>do
     let row<-op' (idx (vw fl rows) i)
     pure (.nZ row 0)
    |false=>do
     let _<-op' (idx rows i)
     pure (.tH r ver i.toNat 0)
   |some (.DF iK s rows)=>do
    ck (Nat.beq ver iK)
    ck (Nat.beq s (kS P e))
    ck (GU P e)
    let _<-op' (idx rows i)
    pure (.tH r ver i.toNat 0)
   |_=> .fail
  |_=> .fail
 |_=> .fail
def arT(P:Program)(t:TypeId):Option (Nat×TypeId):=match P.underlying t with|some (.array n e)=>some (n,e)|_=>none
def afi(P:Program)(n:Nat)(e:TypeId)(x i:V):Acc V:=
 match i with
 | .d (.int _ i)=>do
  ck (GU P e)
  ck (decide (0<=i) && decide (i<(n:Int)))
  match x with
  | .nZ row off=>pure (.nZ row (off+i.toNat * kS P e))
  | .ptr r off=>pure (.ptr r (off+i.toNat * kS P e))
  |_=> .fail
 |_=> .fail
def TV(P:Program)(t:TypeId)(x i:V):Acc V:=match arT P t with
 |some (n,e)=>afi P n e x i
 |none=>TU P t x i
def acS:List V->Option Row
 |[]=>some []
 | .d x::vs=>match acS vs with|some r=>some (x::r)|none=>none
 |_::_=>none
def ZR(c:CT)(row:Row)(i:Nat):Acc V:=match c with
 | .int k=> .opt (eu k row i) λn=> .ret (.d (.int k n))
 | .bool=> .opt (Ji row i) λb=> .ret (.d (.bool b))
 | .str=> .opt (cStr row i) λs=> .ret (.d (.str s))
 |_=> .fail
def aiU(P:Program)(t:TypeId)(x i:V):Acc V:=
 match P.underlying t,x,i with
 |some .string,.d (.str s),.d (.int _ i)=> .opt (idx s i) λb=> .ret (.d (.int .u8 b.toNat))
 |some (.array n e),.agg cs,.d (.int _ i)=>do
  ck (Nat.beq (kS P e) 1 &&(Nat.beq cs.length n &&(GU P e && !(EC P e))))
  ck (decide (0<=i) && decide (i<(n:Int)))
  let row<-op' (acS cs)
  ZR (match KG P e with|[c]=>c|_=> .other) row i.toNat
 |_,_,_=> .fail
def lenV(x:V):Acc V:=
 match x with
 | .d (.str s)=> .ret (.d (.int .i64 s.length))
 | .own r ver=>do
  match<-rd r with
  |some (.arr _ _ iK _ rows)=>do ck (Nat.beq ver iK);pure (.d (.int .i64 rows.length))
  |some (.DF iK _ rows)=>do ck (Nat.beq ver iK);pure (.d (.int .i64 rows.length))
  |_=> .fail
 | .d (.sl _ _ rows)=> .ret (.d (.int .i64 rows.length))
 | .nil _=> .ret (.d (.int .i64 0))
 |_=> .fail
def Qv:Nat:=140737488355328
def Qw(P:Program)(e:TypeId):Nat:=match P.info? e with|some i=>i.bytes|none=>Qv
def tail(P:Program)(e:TypeId)(y:V):Acc (List Row):=
 match y with
 | .d (.str s)=>do
  ck (Nat.beq (kS P e) 1)
  pure (s.map byteRow)
 | .d (.sl _ s rows)=>do
  ck (Nat.beq s (kS P e))
  pure (vw (qw P e) rows)
 | .nil _=>pure []
 | .own r ver=>do
  match<-rd r with
  |some (.arr fz fl iK s rows)=>do
   ck (Nat.beq ver iK)
   ck (Nat.beq s (kS P e))
   match qw P e with
   |true=>do
    ck (fl||fz)
    pure rows
   |false=>do
    ck (!fl)
    match fz with
    |true=>pure (dI rows)
    |false=>do
     wr r .dead
     pure rows
  |_=> .fail
 |_=> .fail
def ad9(P:Program)(dst:Nat)(t ty:TypeId)(x y:V):Acc V:=do
 let e<-op' (elT P t)
 ck (Nat.ble 1 (kS P e))
 ck (match P.underlying ty with|some (.slice _)=>true|some .string=>true|_=>false)
 let z<-op' (JJ P e)
 ck (Nat.beq z.length (kS P e))
 let ys<-tail P e y
 match x with
 | .nil _=>do
  ck (Nat.ble (ys.length * Qw P e) Qv)
  ck (Nat.ble ys.length Qv)
  new dst (.arr false (qw P e) 0 (kS P e) ys)
  pure (.own dst 0)
 | .own r ver=>do
  match<-rd r with
  |some (.arr false fl iK s rows)=>do
   ck (Nat.beq ver iK)
   ck (Nat.beq s (kS P e))
   ck (match fl,qw P e with|true,true=>true|false,false=>true|_,_=>false)
   ck (Nat.ble ((rows.length+ys.length) * Qw P e) Qv)
   ck (Nat.ble (rows.length+ys.length) Qv)
   wr r (.arr false fl (ver+1) s (rows++ys))
   pure (.own r (ver+1))
  |some (.DF iK s rows)=>do
   ck (Nat.beq ver iK)
   ck (Nat.beq s (kS P e))
   ck (qw P e)
   ck (Nat.ble ((rows.length+ys.length) * Qw P e) Qv)
   ck (Nat.ble (rows.length+ys.length) Qv)
   wr r (.DF (ver+1) s (rows++ys))
   pure (.own r (ver+1))
  |_=> .fail
 |_=> .fail
def afj(P:Program)(e:TypeId):Acc Row:=do
 let z<-op' (JJ P e)
 Jj z
def TW(P:Program)(dst:Nat)(t:TypeId)(l c:V):Acc V:=do
 let e<-op' (elT P t)
 ck (Nat.ble 1 (kS P e))
 let z<-afj P e
 ck (Nat.beq z.length (kS P e))
 match l,c with
 | .d (.int _ l),.d (.int _ c)=>do
  ck (decide (0<=l) && decide (l<=c) && decide (c * Qw P e<=Qv) && decide (c<=Qv))
  new dst (.arr false (qw P e) 0 (kS P e) (List.replicate l.toNat z))
  pure (.own dst 0)
 |_,_=> .fail
def bound(o:Option V)(d:Int):Acc Int:=match o with
 |none=> .ret d
 |some (.d (.int _ n))=> .ret n
 |some _=> .fail
def aiV(P:Program)(t:TypeId)(x:V)(lo hi:Option V):Acc V:=
 match x with
 | .d (.str s)=>do
  ck (match P.underlying t with|some .string=>true|_=>false)
  let l<-bound lo 0
  let h<-bound hi s.length
  let s'<-op' (cut s l h)
  pure (.d (.str s'))
 |_=>do
  let e<-op' (elT P t)
  ck (GU P e)
  let(s,rows)<-seen x
  ck (Nat.beq s (kS P e))
  let l<-bound lo 0
  let h<-bound hi rows.length
  let rows'<-op' (cut rows l h)
  match x with
  | .own r ver=>do
   match<-rd r with
   |some (.arr _ fl iK s rows)=>do
    ck (Nat.beq ver iK)
    wr r (.arr true fl ver s rows)
    pure (.d (.sl false s rows'))
   |_=> .fail
  |_=>pure (.d (.sl false s rows'))
def aea(P:Program)(t:TypeId)(x:V)(lo hi:Option V):Acc V:=
 match x with
 | .nZ row off=>do
  let(n,e)<-op' (arT P t)
  ck (GU P e)
  ck (Nat.beq (kS P e) 1 &&(Nat.beq off 0 && Nat.beq row.length n))
  match lo,hi with
  |none,none=>pure (.d (.sl false 1 (row.map λx=>[x])))
  |_,_=> .fail
 |x=>aiV P t x lo hi
def aiW(P:Program)(t:TypeId)(x:V)(hi:Option V):Acc V:=do
 let e<-op' (elT P t)
 ck (GU P e)
 match x with
 | .own r ver=>do
  match<-rd r with
  |some (.arr false fl iK s rows)=>do
   ck (Nat.beq ver iK)
   ck (Nat.beq s (kS P e))
   let h<-bound hi rows.length
   ck (decide (0<=h) && decide (h<=(rows.length:Int)))
   wr r (.arr false fl (ver+1) s (rows.take h.toNat))
   pure (.own r (ver+1))
  |_=> .fail
 |_=> .fail
def amd(P:Program)(t:TypeId)(x lo:V):Acc V:=do
 let e<-op' (elT P t)
 ck (GU P e)
 let l<-bound (some lo) 0
 match x with
 | .own r ver=>do
  match<-rd r with
  |some (.arr false true iK s rows)=>do
   ck (Nat.beq ver iK)
   ck (Nat.beq s (kS P e))
   ck (decide (0<=l) && decide (l<=(rows.length:Int)))
   wr r (.DF (ver+1) s (rows.drop l.toNat))
   pure (.own r (ver+1))
  |some (.DF iK s rows)=>do
   ck (Nat.beq ver iK)
   ck (Nat.beq s (kS P e))
   ck (decide (0<=l) && decide (l<=(rows.length:Int)))
   wr r (.DF (ver+1) s (rows.drop l.toNat))
   pure (.own r (ver+1))
  |_=> .fail
 |_=> .fail
def sQ(P:Program)(T:TypeId)(tm:jJ):List (Nat×Operand)->List V->Acc (List V)
 |[],cs=>pure cs
 |(f,x)::ps,cs=>do
  let(o,n,t)<-op' (Ph P T f)
  let v:=ev P tm t x
  ck (Nat.beq v.cells.length n)
  ck (v.cells.all one)
  ck (Nat.ble (o+n) cs.length)
  sQ P T tm ps (splice cs o v.cells)
def afk(P:Program)(T:TypeId):Bool:=match P.underlying T with
 |some (.struct fs)=>fs.toList.all λf=>match P.info? f.type with|some _=>true|none=>false
 |_=>false
def qm(P:Program)(e:TypeId)(tm:jJ):List (Nat×Operand)->List V->Acc (List V)
 |[],cs=>pure cs
 |(i,x)::ps,cs=>do
  let v:=ev P tm e x
  ck (Nat.beq v.cells.length (kS P e))
  ck (v.cells.all one)
  ck (Nat.ble (i * kS P e+kS P e) cs.length)
  qm P e tm ps (splice cs (i * kS P e) v.cells)
def aeb(P:Program)(T:TypeId)(tm:jJ)(ps:List (Nat×Operand)):Acc V:=do
 ck (afk P T)
 let z<-op' (JJ P T)
 let cs<-sQ P T tm ps z
 pure (.agg cs)
def aiX(P:Program)(T e:TypeId)(tm:jJ)(ps:List (Nat×Operand)):Acc V:=do
 ck (GU P e)
 let z<-op' (JJ P T)
 let cs<-qm P e tm ps z
 pure (.agg cs)
def aec(P:Program)(T:TypeId)(tm:jJ)(ps:List (Nat×Operand)):Acc V:=match arT P T with
 |some (_,e)=>aiX P T e tm ps
 |none=>aeb P T tm ps
def sS(P:Program)(e:TypeId)(tm:jJ):Nat->List (Nat×Operand)->Acc (List Row)
 |_,[]=>pure []
 |k,(i,x)::ps=>do
  ck (Nat.beq i k)
  let v:=ev P tm e x
  ck (Nat.beq v.cells.length (kS P e))
  let row<-Jj v.cells
  let rows<-sS P e tm (k+1) ps
  pure (row::rows)
def Nz(P:Program)(dst:Nat)(t:TypeId)(n:Nat)(tm:jJ)(ps:List (Nat×Operand)):Acc V:=do
 let e<-op' (elT P t)
 ck (Nat.ble 1 (kS P e))
 ck (Nat.beq ps.length n)
 ck (Nat.ble (n * kS P e) 16777216)
 let _<-op' (JJ P e)
 let rows<-sS P e tm 0 ps
 new dst (.arr false (qw P e) 0 (kS P e) rows)
 pure (.own dst 0)
def ZT(P:Program)(src dst:TypeId)(x:V):Acc V:=
 match P.underlying src,P.underlying dst with
 |some (.int _),some (.int k)=>match x with
  | .d (.int _ n)=> .ret (.d (.int k (k.wrap n)))
  |_=> .fail
 |some .string,some .string=>match x with
  | .d (.str s)=> .ret (.d (.str s))
  |_=> .fail
 |some (.slice e),some .string=>do
  ck (match P.underlying e with|some (.int .u8)=>true|_=>false)
  let(s,rows)<-seen x
  ck (Nat.beq s 1)
  let b<-op' (bytesOf rows)
  pure (.d (.str b))
 |_,_=> .fail
def kW:Nat:=100000
def aed(r:Nat)(l:List Nat):List Nat:=bif mem? r l then l else l++[r]
mutual
def afl(I:List Nat):V->List Nat
 | .ptr r _=>aed r I
 | .clo _ a b=>acT (acT I a) b
 | .agg cs=>acT I cs
 | .vV v=>afl I v
 |_=>I
def acT(I:List Nat):List V->List Nat
 |[]=>I
 |v::vs=>acT (afl I v) vs
end
def zY(A:Adv)(f i:Nat):Nat:=bif mem? i (A.move f) then 1 else bif mem? i (A.ref f) then 2 else bif mem? i (A.raw f) then 3 else bif mem? i (A.look f) then 4 else 0
def LD(A:Adv)(f:Nat):Nat->List Nat->List V->List Nat
 |_,I,[]=>I
 |i,I,v::vs=>LD A f (i+1) (match zY A f i,v with
  |2,.own r _=>aed r I
  |4,_=>I
  |_,v=>afl I v) vs
def idxOf(r:Nat):Nat->List Nat->Option Nat
 |_,[]=>none
 |i,j::l=>bif Nat.beq r j then some i else idxOf r (i+1) l
def Ov(A:Adv)(f:Nat):Nat->List V->Acc (List V)
 |_,[]=>pure []
 |i,v::vs=>do
  let v<-(match zY A f i with
   |1=>do
    let x<-toD v
    pure (.d x)
   |_=>pure v:Acc V)
  let vs<-Ov A f (i+1) vs
  pure (v::vs)
mutual
def lend(imp:List Nat):V->Acc (V×List Nat)
 | .d x=>pure (.d (roD x),[])
 | .nil s=>pure (.d (.sl false s []),[])
 | .own r ver=>do
  match<-rd r with
  |some (.arr fz fl iK s rows)=>do
   ck (Nat.beq ver iK)
   ck (!(mem? r imp))
   pure (.d (.sl false s (vw fl rows)),bif fz then[] else[r])
  |_=> .fail
 | .ptr r off=>do
  let i<-op' (idxOf r 0 imp)
  pure (.ptr (kW+i) off,[])
 | .nZ row off=>pure (.nZ row off,[])
 | .vV v=>do
  let(v,l)<-lend imp v
  pure (.vV v,l)
 | .clo f a b=>do
  let(a,l)<-ZU imp a
  let(b,l')<-ZU imp b
  pure (.clo f a b,l++l')
 | .agg cs=>do
  let(a,l)<-ZU imp cs
  pure (.agg a,l)
 | .tH ..=> .fail
 | .yE _=> .fail
 | .undef=> .fail
def ZU(imp:List Nat):List V->Acc (List V×List Nat)
 |[]=>pure ([],[])
 |v::vs=>do
  let(v,l)<-lend imp v
  let(vs,l')<-ZU imp vs
  pure (v::vs,l++l')
end
def Ox(imp:List Nat):List V->Acc (Row×List Nat)
 |[]=>pure ([],[])
 |v::vs=>do
  let(v,l)<-lend imp v
  match v with
  | .d x=>do
   let(r,l')<-Ox imp vs
   pure (x::r,l++l')
  |_=> .fail
def Zl(imp:List Nat)(v:V):Acc (V×List Nat):=
 match v with
 | .ptr r off=>do
  match<-rd r with
  |some (.box _ cs)=>do
   ck (!(mem? r imp))
   let(row,l)<-Ox imp cs
   pure (.nZ row off,r::l)
  |_=> .fail
 | .nZ row off=>pure (.nZ row off,[])
 |_=> .fail
def Oy(A:Adv)(imp:List Nat)(f:Nat):Nat->List V->Acc (List V×List Nat)
 |_,[]=>pure ([],[])
 |i,v::vs=>do
  let(v,l)<-(match zY A f i with
   |1=>pure (v,[])
   |2=>match v with
    | .own r ver=>do
     ck (Nat.beq ver 0)
     let i<-op' (idxOf r 0 imp)
     pure (.own (kW+i) 0,[])
    |_=> .fail
   |3=>match v with
    | .nil s=>pure (.nil s,[])
    |_=> .fail
   |4=>Zl imp v
   |_=>lend imp v:Acc (V×List Nat))
  let(vs,l')<-Oy A imp f (i+1) vs
  pure (v::vs,l++l')
def ame(imp:List Nat)(own:Bool)(v:V):Acc V:=
 match v with
 | .d x=>pure (.d (roD x))
 | .nil s=>pure (.d (.sl own s []))
 | .own r ver=>do
  match<-rd r with
  |some (.arr fz fl iK s rows)=>do
   ck (Nat.beq ver iK)
   ck (!(mem? r imp))
   match own with
   |true=>do
    ck (!fz)
    ck (SV fl rows)
    wr r .dead
    pure (.d (.sl true s rows))
   |false=>do
    wr r (.arr true fl ver s rows)
    pure (.d (.sl false s (vw fl rows)))
  |_=> .fail
 |_=> .fail
def Qx(imp own:List Nat):Nat->List V->Acc (List V)
 |_,[]=>pure []
 |j,v::vs=>do
  let v<-ame imp (mem? j own) v
  let vs<-Qx imp own (j+1) vs
  pure (v::vs)
def aee(A:Adv)(imp:List Nat)(c:Option Cell):Acc Cell:=
 match c with
 |some (.box t cs)=>do
  let cs<-Qx imp (A.awt t) 0 cs
  pure (.box t cs)
 |some (.arr fz fl ver s rows)=>do
  ck (!fz)
  ck (Nat.beq ver 0)
  pure (.arr fz fl 0 s rows)
 |_=> .fail
def Qy(A:Adv)(imp:List Nat):List Nat->Acc (List Cell)
 |[]=>pure []
 |r::rs=>do
  let c<-rd r
  let c<-aee A imp c
  let cs<-Qy A imp rs
  pure (c::cs)
def keyOf(r j dst:Nat):Nat:=1000000+(r * 100+j) * 10000+dst
def vD:V->D
 | .d x=>x
 |_=> .Md
def amf(cs:List Cell)(i:Nat):Row:=match cs[i]? with|some (.box _ vs)=>vs.map vD|_=>[]
def amg(s:Nat)(cs:List Cell)(i:Nat):Option (List Row):=match cs[i]? with|some (.arr false _ 0 s' rows)=>bif Nat.beq s s' then some rows else none|_=>none
def amh(cs:List Cell)(i n:Nat):Bool:=match cs[i]? with|some (.box _ vs)=>Nat.beq vs.length n|_=>false
def ami(f:TypeId->List Bool):List TypeId->List Bool
 |[]=>[]
 |t::ts=>f t++ami f ts
def fls(P:Program):Nat->TypeId->List Bool
 |0,_=>[]
 |n+1,t=>match P.underlying t with
  |some (.slice e)=>[qw P e]
  |some (.struct fs)=>ami (fls P n) (fs.toList.map (·.type))
  |_=>[false]
def KH(own fl:Bool)(key:Nat)(row:Row)(j:Nat):CT->Acc V
 | .int k=> .opt (eu k row j) λn=> .ret (.d (.int k n))
 | .bool=> .opt (Ji row j) λn=> .ret (.d (.bool n))
 | .str=> .opt (cStr row j) λn=> .ret (.d (.str n))
 | .sl s=>match own with
  |true=> .opt (al9 s row j) λrows=>do
   new key (.arr false fl 0 s rows)
   pure (.own key 0)
  |false=> .opt (LC s row j) λrows=> .ret (.d (.sl false s (vw fl rows)))
 | .other=> .fail
def U6(own:List Nat)(r dst:Nat)(row:Row):Nat->List CT->List Bool->Acc (List V)
 |_,[],_=>pure []
 |j,ct::l,fs=>do
  let v<-KH (mem? j own) (fs.headD false) (keyOf r j dst) row j ct
  let vs<-U6 own r dst row (j+1) l fs.tail
  pure (v::vs)
def XT(X:Ctx)(dst:Nat)(out:List Cell):Nat->List Nat->Acc Unit
 |_,[]=>pure ()
 |i,r::rs=>do
  match<-rd r with
  |some (.box t _)=>do
   ck (amh out i (KG X.P t).length)
   let vs<-U6 (X.GR.awt t) r dst (amf out i) 0 (KG X.P t) (fls X.P 8 t)
   wr r (.box t vs)
  |some (.arr _ fl ver s _)=>do
   let rows<-op' (amg s out i)
   wr r (.arr false fl ver s rows)
  |_=> .fail
  XT X dst out (i+1) rs
def asG(dst c:Nat):Nat:=1000000000000000+dst * 1000+c
def Qz(YP:List Nat)(dst ri:Nat)(row:Row):Nat->List CT->List Bool->Acc (List V)
 |_,[],_=>pure []
 |j,ct::l,fs=>do
  let v<-KH (mem? (ri * 20+j) YP) (fs.headD false) (asG dst (ri * 20+j)) row j ct
  let vs<-Qz YP dst ri row (j+1) l fs.tail
  pure (v::vs)
def U7(res:List Row)(ri:Nat):Row:=match res[ri]? with|some r=>r|none=>[]
def TY(X:Ctx)(YP:List Nat)(dst:Nat)(res:List Row):Nat->List TypeId->Acc (List V)
 |_,[]=>pure []
 |ri,t::ts=>do
  ck (Nat.beq (U7 res ri).length (KG X.P t).length)
  let cs<-Qz YP dst ri (U7 res ri) 0 (KG X.P t) (fls X.P 8 t)
  let v<-op' (EY X.P t cs)
  let vs<-TY X YP dst res (ri+1) ts
  pure (v::vs)
def aiY(YP:List Nat)(ri:Nat):Nat->List CT->Bool
 |_,[]=>true
 |j,.sl _::l=>mem? (ri * 20+j) YP && aiY YP ri (j+1) l
 |j,_::l=>aiY YP ri (j+1) l
def RP(P:Program)(YP:List Nat):Nat->List TypeId->Bool
 |_,[]=>true
 |ri,t::ts=>aiY YP ri 0 (KG P t) && RP P YP (ri+1) ts
def freeze:List Nat->Acc Unit
 |[]=>pure ()
 |r::rs=>do
  match<-rd r with
  |some (.arr _ fl ver s rows)=>wr r (.arr true fl ver s rows)
  |_=> .fail
  freeze rs
def U8(X:Ctx)(K:jc)(fn dst f:Nat)(args:List V):Acc V:=do
 let g<-op' X.P.funcs[f]?
 ck (g.body.isSome && !(g.name == "runtime.NumGoroutine"))
 let imp:=LD X.GR f 0 [] args
 let args<-Ov X.GR f 0 args
 let cells<-Qy X.GR imp imp
 let(args,KI)<-Oy X.GR imp f 0 args
 ck (KI.all λr=> !(mem? r imp))
 let out<-op' (K f args cells)
 ck (Nat.beq out.1.length g.resultTypes.size)
 let need:= !(KI.isEmpty) &&(RP X.P (X.GR.YP fn dst) 0 g.resultTypes.toList && imp.isEmpty)
 ck (bif need then out.1.all jk else true)
 freeze (bif need then[] else KI)
 XT X dst out.2 0 imp
 let vs<-TY X (X.GR.YP fn dst) dst out.1 0 g.resultTypes.toList
 match vs with
 |[v]=>pure v
 |vs=>pure (.yE vs)
def awx(P:Program)(ts:List TypeId)(x:V):Bool:=match ts with
 |[t]=>(match x with
  | .d (.str _)=>(match P.underlying t with|some .string=>true|_=>false)
  |_=>(match P.underlying t with|some (.slice _)=>true|_=>false))
 |_=>false
def rG(P:Program)(tm:jJ):List Operand->List TypeId->List V
 |[],_=>[]
 |x::xs,ts=>ev P tm (ts.headD 0) x::rG P tm xs ts.tail
def afm:List V->Acc (List V)
 |[]=>pure []
 |v::vs=>do
  let v<-(match v with
   | .ptr r off=>do
    match<-rd r with
    |some (.mO _ x)=>do
     ck (Nat.beq off 0)
     pure (.vV x)
    |_=>pure (.ptr r off)
   |v=>pure v:Acc V)
  let vs<-afm vs
  pure (v::vs)
def vop(X:Ctx)(K:jc)(fn:Nat)(tm:jJ)(o:Oper):Acc V:=
 let P:=X.P
 let dst:=o.dst.getD 0
 match o.op with
 | .move x=>pure (ev P tm o.type x)
 | .assign x=>pure (ev P tm o.type x)
 | .pick c x y=>amb (ev P tm o.type c) (ev P tm o.type x) (ev P tm o.type y)
 | .alloc T=>do
  let z<-op' (JJ P T)
  new dst (.box T z)
  pure (.ptr dst 0)
 | .box T x=>do
  let v:=ev P tm T x
  ck (Nat.beq v.cells.length (kS P T))
  ck (v.cells.all one)
  new dst (.box T v.cells)
  pure (.ptr dst 0)
 | .build T ps=>aec P T tm ps.toList
 | .buildSlice t n ps=>Nz P dst t n tm ps.toList
 | .load t a=>amc P t (evG X tm 0 a)
 | .store t a x=>do aiS P t (ev P tm 0 a) (ev P tm t x);pure .undef
 | .nilCheck x=>match evG X tm o.type x with
  | .ptr r off=>pure (.ptr r off)
  | .nZ row off=>pure (.nZ row off)
  | .tH r ver i off=>pure (.tH r ver i off)
  |_=> .fail
 | .binOp op t x y t'=>asF P t op (ev P tm t x) (ev P tm t' y)
 | .unOp op t x=>un op (ev P tm t x)
 | .convert s d x=>ZT P s d (ev P tm s x)
 | .makeFunc (.func f) first caps=>do
  let cs<-afm (rG P tm caps.toList [])
  pure (.clo f (rG P tm first.toList []) cs)
 | .makeSlice t l c=>TW P dst t (ev P tm o.type l) (ev P tm o.type c)
 | .slice t x lo hi none=>match X.GR.trunc fn dst,lo,hi with
  |true,none,hi=>aiW P t (ev P tm t x) (hi.map (ev P tm 3))
  |true,some lo,none=>amd P t (ev P tm t x) (ev P tm 3 lo)
  |_,lo,hi=>aea P t (evG X tm t x) (lo.map (ev P tm 3)) (hi.map (ev P tm 3))
 | .fieldAddr T x f=>TT P T (ev P tm 0 x) f
 | .field T x f=>aiT P T (ev P tm T x) f
 | .indexAddr t x i=>TV P t (evG X tm t x) (ev P tm 3 i)
 | .index t x i=>aiU P t (ev P tm t x) (ev P tm 3 i)
 | .extract x i=>match ev P tm 0 x with
  | .yE vs=>op' vs[i]?
  |_=> .fail
 | .call {callee:=.value f,args,argTypes}=>match ev P tm 0 f with
  | .clo g first caps=>U8 X K fn dst g (first++rG P tm args.toList argTypes.toList++caps)
  |_=> .fail
 | .call {callee:=.builtin .len,args,argTypes}=>match rG P tm args.toList argTypes.toList with
  |[x]=>do
   ck (awx P argTypes.toList x)
   lenV x
  |_=> .fail
 | .call {callee:=.builtin .append,args,argTypes}=>match rG P tm args.toList argTypes.toList,argTypes.toList with
  |[x,y],[t,t']=>ad9 P dst t t' x y
  |_,_=> .fail
 | .call {callee:=.builtin .max,args,argTypes}=>match rG P tm args.toList argTypes.toList with
  |[.d (.int k x),.d (.int _ y)]=>pure (.d (.int k (bif decide (x<y) then y else x)))
  |_=> .fail
 | .call {callee:=.builtin .min,args,argTypes}=>match rG P tm args.toList argTypes.toList with
  |[.d (.int k x),.d (.int _ y)]=>pure (.d (.int k (bif decide (y<x) then y else x)))
  |_=> .fail
 |_=> .fail
end Go.Vm
namespace Go.Vm
open Go
mutual
def refs:V->List Nat
 | .own r _=>[r]
 | .ptr r _=>[r]
 | .tH r _ _ _=>[r]
 | .clo _ a b=>JK a++JK b
 | .agg cs=>JK cs
 | .yE vs=>JK vs
 | .vV v=>refs v
 |_=>[]
def JK:List V->List Nat
 |[]=>[]
 |v::vs=>refs v++JK vs
end
def ZV(m:Mem)(r:Nat):List Nat:=match get r m with
 |some (.box _ cs)=>JK cs
 |some (.mO _ v)=>refs v
 |_=>[]
def Jo(k:Nat):Bool:=Nat.ble kW k && Nat.blt k (2 * kW)
def U9:List Nat->List Nat->List Nat
 |acc,[]=>acc
 |acc,k::ks=>U9 (bif mem? k acc then acc else acc++[k]) ks
def apL(tm:jJ)(m:Mem):List Nat:=
 let l0:=U9 [] (tm.flatMap λx=>refs x.2)
 let l1:=U9 l0 (l0.flatMap (ZV m))
 let l2:=U9 l1 (l1.flatMap (ZV m))
 (U9 l2 (m.map (·.1))).filter λk=> !(Jo k)
def names:List Nat:=[nat_lit 300000,nat_lit 300001,nat_lit 300002,nat_lit 300003,nat_lit 300004,nat_lit 300005,nat_lit 300006,nat_lit 300007,nat_lit 300008,nat_lit 300009,nat_lit 300010,nat_lit 300011,nat_lit 300012,nat_lit 300013,nat_lit 300014,nat_lit 300015,nat_lit 300016,nat_lit 300017,nat_lit 300018,nat_lit 300019,nat_lit 300020,nat_lit 300021,nat_lit 300022,nat_lit 300023,nat_lit 300024,nat_lit 300025,nat_lit 300026,nat_lit 300027,nat_lit 300028,nat_lit 300029,nat_lit 300030,nat_lit 300031,nat_lit 300032,nat_lit 300033,nat_lit 300034,nat_lit 300035,nat_lit 300036,nat_lit 300037,nat_lit 300038,nat_lit 300039,nat_lit 300040,nat_lit 300041,nat_lit 300042,nat_lit 300043,nat_lit 300044,nat_lit 300045,nat_lit 300046,nat_lit 300047,nat_lit 300048,nat_lit 300049,nat_lit 300050,nat_lit 300051,nat_lit 300052,nat_lit 300053,nat_lit 300054,nat_lit 300055,nat_lit 300056,nat_lit 300057,nat_lit 300058,nat_lit 300059,nat_lit 300060,nat_lit 300061,nat_lit 300062,nat_lit 300063]
def apM:List Nat->List Nat->List (Nat×Nat)
 |n::ns,k::l=>(k,n)::apM ns l
 |_,_=>[]
def ren(L:List (Nat×Nat))(k:Nat):Nat:=match get k L with
 |some j=>j
 |none=>k
mutual
def KX(L:List (Nat×Nat)):V->V
 | .d x=> .d x
 | .nil s=> .nil s
 | .own r ver=> .own (ren L r) ver
 | .ptr r off=> .ptr (ren L r) off
 | .tH r ver i off=> .tH (ren L r) ver i off
 | .nZ row off=> .nZ row off
 | .vV v=> .vV (KX L v)
 | .clo f a b=> .clo f (QA L a) (QA L b)
 | .agg cs=> .agg (QA L cs)
 | .yE vs=> .yE (QA L vs)
 | .undef=> .undef
def QA(L:List (Nat×Nat)):List V->List V
 |[]=>[]
 |v::vs=>KX L v::QA L vs
end
def ZW(L:List (Nat×Nat)):Cell->Cell
 | .box t cs=> .box t (QA L cs)
 | .arr fz fl ver s rows=> .arr fz fl ver s rows
 | .dead=> .dead
 | .DF ver s rows=> .DF ver s rows
 | .mO t v=> .mO t (KX L v)
def Me(L:List (Nat×Nat)):Mem->Mem
 |[]=>[]
 |(k,c)::m=>put (ren L k) (ZW L c) (Me L m)
def ZX(L:List (Nat×Nat)):jJ->jJ
 |[]=>[]
 |(t,v)::tm=>(t,KX L v)::ZX L tm
def nodupB:List Nat->Bool
 |[]=>true
 |k::l=> !(mem? k l) && nodupB l
def Va(L:List (Nat×Nat))(ks:List Nat):Bool:=nodupB (ks.map (ren L)) && ks.all λk=>bif Jo k then Nat.beq (ren L k) k else true
def aef(L:List (Nat×Nat))(S:St):St:=match Va L (S.mem.map (·.1)) with
 |true=>⟨ZX L S.tm,Me L S.mem⟩
 |false=>S
def canon(S:St):St:=match apL S.tm S.mem with
 |[]=>S
 |k::o=>aef (apM names (k::o)) S
end Go.Vm
namespace Go.Vm
open Go
mutual
def Pj(m:Mem):V->V
 | .d x=> .d x
 | .nil s=> .nil s
 | .own r ver=>match get r m with
  |some (.arr _ _ iK _ _)=>bif Nat.beq ver iK then .own r 0 else .undef
  |some (.DF iK _ _)=>bif Nat.beq ver iK then .own r 0 else .undef
  |_=> .undef
 | .ptr r off=>match get r m with
  |some (.box _ _)=> .ptr r off
  |some (.mO _ _)=> .ptr r off
  |_=> .undef
 | .tH r ver i off=>match get r m with
  |some (.arr _ _ iK _ _)=>bif Nat.beq ver iK then .tH r 0 i off else .undef
  |some (.DF iK _ _)=>bif Nat.beq ver iK then .tH r 0 i off else .undef
  |_=> .undef
 | .nZ row off=> .nZ row off
 | .vV v=> .vV (Pj m v)
 | .clo f a b=> .clo f (SX m a) (SX m b)
 | .agg cs=> .agg (SX m cs)
 | .yE vs=> .yE (SX m vs)
 | .undef=> .undef
def SX(m:Mem):List V->List V
 |[]=>[]
 |v::vs=>Pj m v::SX m vs
end
def zZ(m:Mem):Cell->Cell
 | .box t cs=> .box t (SX m cs)
 | .arr fz fl _ s rows=> .arr fz fl 0 s rows
 | .dead=> .dead
 | .DF _ s rows=> .DF 0 s rows
 | .mO t v=> .mO t (Pj m v)
def Ua(m:Mem)(tm:jJ):List Nat->jJ
 |[]=>[]
 |t::ts=>match get t tm with
  |some v=>(t,Pj m v)::Ua m tm ts
  |none=>Ua m tm ts
def Ub:List Nat->List Nat->List Nat
 |[],l=>l
 |a::as,l=>bif mem? a l then Ub as l else Ub as (a::l)
def reach(m:Mem):Nat->List Nat->List Nat
 |0,l=>l
 |n+1,l=>reach m n (Ub (l.flatMap (ZV m)) l)
def roots(tm:jJ)(m:Mem):List Nat:=
 Ub (tm.flatMap λx=>refs x.2) ((m.map (·.1)).filter Jo)
def oH(all:Mem)(R:List Nat):Mem->Mem
 |[]=>[]
 |(k,c)::m=>match c with
  | .dead=>oH all R m
  |c=>bif mem? k R then(k,zZ all c)::oH all R m else oH all R m
def closed(R:List Nat)(m:Mem):Bool:=m.all λx=>match x.2 with
 | .box _ cs=>(JK cs).all λr=>mem? r R
 | .mO _ v=>(refs v).all λr=>mem? r R
 |_=>true
def awy(m:Mem):Bool:=m.all λx=>match x.2 with
 | .arr _ _ ver _ _=>bif Jo x.1 then Nat.beq ver 0 else true
 | .dead=> !(Jo x.1)
 | .DF ..=> !(Jo x.1)
 |_=>true
def sortedK:Mem->Bool
 |[]=>true
 |(k,_)::m=>match m with
  |[]=>true
  |(j,_)::_=>Nat.blt k j && sortedK m
def Uc(ts:List Nat)(S:St):Option St:=
 let tm:=Ua S.mem S.tm ts
 let R:=reach S.mem 3 (roots tm S.mem)
 let m:=oH S.mem R S.mem
 bif closed R m &&(awy S.mem && sortedK S.mem) then some ⟨tm,m⟩ else none
def prune(ts:List Nat)(S:St):Option St:=match Uc ts S with
 |some S'=>some (canon S')
 |none=>none
def Aa(ops:Array Oper)(tm:jJ)(o:Oper):Option (Bool×jJ):=
 match o.guard with
 |none=>some (true,tm)
 |some (j,want)=>match ops[j]? with
  |some oj=>match oj.dst with
   |some d=>match Pg d tm with
    | .d (.bool b)=>match b with
     |true=>some (want,put d (.d (.bool true)) tm)
     |false=>some (!want,put d (.d (.bool false)) tm)
    | .yE vs=>match vs with
     |[]=>some (false,put d (.yE []) tm)
     |_::_=>none
    |_=>none
   |none=>none
  |none=>none
def Jk(nt:Nat):Option Nat->Bool
 |some d=>Nat.blt d nt
 |none=>true
def DJ(P:Program)(fn:Nat):Nat:=match P.funcs[fn]? with|some g=>g.ntmps|none=>0
def XU(nt:Nat)(dst:Option Nat)(tm:jJ):jJ:=bif Jk nt dst then TS dst (.yE []) tm else apJ dst tm
def yC(X:Ctx)(K:jc)(fn:Nat)(ops:Array Oper)(i:Nat)(S:St):Option (St×Log):=
 match ops[i]? with
 |none=>none
 |some o=>match Aa ops S.tm o with
  |none=>none
  |some (false,tm)=>some (⟨XU (DJ X.P fn) o.dst tm,S.mem⟩,.none)
  |some (true,tm)=>match(vop X K fn tm o).run S.mem .none with
   |none=>none
   |some (v,m,l)=>bif Jk (DJ X.P fn) o.dst then some (⟨TS o.dst v tm,m⟩,l) else none
def uS(X:Ctx)(K:jc)(fn:Nat)(ops:Array Oper):List Nat->St->List (Nat×Log)->Option (St×List (Nat×Log))
 |[],S,L=>some (S,L)
 |i::is,S,L=>match yC X K fn ops i S with
  |none=>none
  |some (S',l)=>uS X K fn ops is S' ((i,l)::L)
def apN(a b:List Nat):Bool:=a.all λk=> !(mem? k b)
def Log.apart(a b:Log):Bool:=apN a.w b.r && apN a.w b.w && apN a.r b.w
def ordered(bef:Array Nat)(i j:Nat):Bool:=(bef.getD i 0).testBit j
def QB(ops:Array Oper)(bef:Array Nat):List (Nat×Log)->Bool
 |[]=>true
 |(i,l)::L=>(L.all fun(j,l')=>ordered bef i j||(l.apart l' &&(match ops[i]?,ops[j]? with
   |some a,some b=>a.apart ops b
   |_,_=>false))) && QB ops bef L
def QC:Nat->List Oper->Bool
 |_,[]=>true
 |i,o::l=>(o.after.toList.all λe=> !(Region.binds .any e)||Nat.blt e.on i) && QC (i+1) l
def backOk(ops:Array Oper):Bool:=QC 0 ops.toList
def asH(d:Nat):Operand->Bool
 | .tmp t=> !(Nat.beq t d)
 |_=>true
def ajQ(args:Array Operand)(d1 d2:Nat):Bool:=match args.toList with
 |[.tmp a,.tmp b]=>Nat.beq a d1 && Nat.beq b d2
 |_=>false
def Vb:List Row×List Cell->Option (IntKind×Int×Bool×Nat×List Row)
 |([[.int k n]],[.arr false fl' 0 s' rs'])=>some (k,n,fl',s',rs')
 |_=>none
def ZY(e:Nat)(fl:Bool)(q:IntKind×Int×Bool×Nat×List Row):Bool:=Nat.beq q.2.2.2.1 e &&((fl==q.2.2.1) &&(SV fl q.2.2.2.2 && EO q.2.2.2.2))
def amj(X:Ctx)(f:Nat):Bool:=Nat.beq (zY X.GR f 0) 2 && Nat.beq (zY X.GR f 1) 0 &&(match X.P.funcs[f]? with
 | some g => g.body.isSome && !(g.name == "runtime.NumGoroutine") && (match g.resultTypes.toList with | [t] => !(EC X.P t) | _ => false)
 |none=>false)
def KY(X:Ctx)(K:jc)(tm:jJ)(o1 o2 o3:Oper):Acc (Nat×Nat×V×V):=
 match o1,o2,o3 with
 |⟨some d1,.load t (.tmp ta),_,_,_,none⟩,⟨some d2,.move x,ty2,_,_,none⟩,⟨_,.call ⟨.value (.func f),args,_⟩,_,_,_,none⟩=>do
  ck (!(Nat.beq d1 d2) &&(ajQ args d1 d2 &&(asH d1 x &&(GU X.P t &&(Nat.beq (kS X.P t) 1 &&(!(EC X.P t) && amj X f))))))
  let e<-op' (elT X.P t)
  match Pg ta tm,ev X.P tm ty2 x with
  | .tH r ver i off,.d (.int k n)=>do
   match<-rd r with
   |some (.arr false false iK s rows)=>do
    ck (Nat.beq ver iK && Nat.ble (off+1) s)
    let row<-op' rows[i]?
    let rs<-op' (al9 (kS X.P e) row off)
    ck (SV (qw X.P e) rs)
    let out<-op' (K f [.own kW 0,.d (.int k n)] [.arr false (qw X.P e) 0 (kS X.P e) rs])
    let q<-op' (Vb out)
    ck (ZY (kS X.P e) (qw X.P e) q)
    wr r (.arr false false iK s (rows.set i (splice row off [.sl true (kS X.P e) q.2.2.2.2])))
    pure (d1,d2,.d (.int k n),.d (.int q.1 q.2.1))
   |_=> .fail
  |_,_=> .fail
 |_,_,_=> .fail
def DK(X:Ctx)(K:jc)(fn:Nat)(ops:Array Oper)(p:Nat)(S:St):Option St:=
 match ops[p]?,ops[p+1]?,ops[p+2]? with
 |some o1,some o2,some o3=>match(KY X K S.tm o1 o2 o3).run S.mem .none with
  |some ((d1,d2,kv,v),m,_)=>bif Nat.blt d1 (DJ X.P fn) &&(Nat.blt d2 (DJ X.P fn) && Jk (DJ X.P fn) o3.dst) then some ⟨TS o3.dst v (put d2 kv (put d1 .undef S.tm)),m⟩ else none
  |none=>none
 |_,_,_=>none
def yO(X:Ctx)(K:jc)(fn id:Nat)(ops:Array Oper)(draw:Bool)(S:St):Option (St×List (Nat×Log)):=
 match X.GR.fuse fn id with
 |0=>uS X K fn ops (List.range ops.size) S []
 |p+1=>match draw with
  |true=>none
  |false=>match uS X K fn ops (List.range p) S [] with
   |some (S1,_)=>match DK X K fn ops p S1 with
    |some S2=>uS X K fn ops ((List.range ops.size).drop (p+3)) S2 []
    |none=>none
   |none=>none
def region(X:Ctx)(K:jc)(fn id:Nat)(ops:Array Oper)(draw:Bool)(S:St):Option St:=
 match yO X K fn id ops draw S with
 |none=>none
 |some (S',L)=>bif(match draw with|false=>true|true=>X.P.follows .mixedOrders &&(backOk ops && QB ops (Region.before ops) L)) then prune (X.GR.keep fn id) S' else none
inductive Ex where
 |normal
 |exit (id:Nat)
 |ret
noncomputable def lim{α:Type}(f:Nat->Option α):Option α:=
 open Classical in if h:∃a n,f n=some a then some (Classical.choose h) else none
def iter(b:St->Option (Ex×St)):Nat->St->Option (Ex×St)
 |0,_=>none
 |n+1,S=>match b S with
  |some (.normal,S')=>iter b n S'
  |r=>r
noncomputable def NC(b:St->Option (Ex×St))(S:St):Option (Ex×St):=lim λn=>iter b n S
def SY(P:Program)(tm:jJ)(c:Operand):Option Bool:=match ev P tm 0 c with
 | .d (.bool b)=>some b
 |_=>none
noncomputable def den(X:Ctx)(K:jc)(fn:Nat):Code->St->Option (Ex×St)
 | .skip,S=>some (.normal,S)
 | .region id ops draw,S=>match region X K fn id ops draw S with
  |some S'=>some (.normal,S')
  |none=>none
 | .seq a b,S=>match den X K fn a S with
  |some (.normal,S')=>den X K fn b S'
  |r=>r
 | .cond c a b,S=>match SY X.P S.tm c with
  |some true=>den X K fn a S
  |some false=>den X K fn b S
  |none=>none
 | .block id c,S=>match den X K fn c S with
  |some (.exit j,S')=>bif Nat.beq j id then some (.normal,S') else some (.exit j,S')
  |r=>r
 | .loop c,S=>NC (den X K fn c) S
 | .exit id,S=>some (.exit id,S)
 | .ret,S=>some (.ret,S)
 |_,_=>none
def aiZ(A:Adv)(f i:Nat)(fl:Bool)(v:V):Acc V:=
 match zY A f i with
 |1=>(match v with
  | .d (.sl true s rows)=>do
   new i (.arr false fl 0 s rows)
   pure (.own i 0)
  | .d x=>pure (.d (roD x))
  |_=> .fail)
 |_=>pure v
def Vd(X:Ctx)(f:Nat):Nat->List TypeId->List V->Acc jJ
 |_,_,[]=>pure []
 |i,ts,v::vs=>do
  let v<-aiZ X.GR f i ((fls X.P 8 (ts.headD 0)).headD false) v
  let r<-Vd X f (i+1) ts.tail vs
  pure ((i,v)::r)
def oI:Nat->List Cell->Mem
 |_,[]=>[]
 |i,c::cs=>(kW+i,c)::oI (i+1) cs
def sF(n:Nat):List Nat:=(List.range n).map (kW+ ·)
def entry(X:Ctx)(f:Nat)(g:Func)(args:List V)(cells:List Cell):Acc jJ:=do
 XT X 9999 cells 0 (sF cells.length)
 Vd X f 0 g.params.toList args
def aeg(P:Program)(tm:jJ)(r:ResultVar)(t:TypeId):Acc Row:=
 match r with
 | .tmp x=>match EC P t,Pg x tm with
  |true,.agg cs=>Jj cs
  |false,.agg _=> .fail
  |false,v=>Jj [v]
  |true,_=> .fail
 | .cell a T=>match Pg a tm with
  | .ptr r 0=>do
   match<-rd r with
   |some (.box _ cs)=>do
    ck (Nat.beq T t && Nat.beq cs.length (kS P T) &&(GU P T &&(EC P T||Nat.beq cs.length 1)))
    Jj cs
   |_=> .fail
  |_=> .fail
def RQ(P:Program)(tm:jJ):List ResultVar->List TypeId->Acc (List Row)
 |[],[]=>pure []
 |r::rs,t::ts=>do
  let row<-aeg P tm r t
  let rows<-RQ P tm rs ts
  pure (row::rows)
 |_,_=> .fail
def leave(X:Ctx)(g:Func)(n:Nat)(S:St):Option (List Row×List Cell):=
 match(do
  let rows<-RQ X.P S.tm g.results.toList g.resultTypes.toList
  let cells<-Qy X.GR (sF n) (sF n)
  pure (rows,cells):Acc (List Row×List Cell)).run S.mem .none with
 |some (r,_,_)=>some r
 |none=>none
noncomputable def body(X:Ctx)(K:jc)(f:Nat)(args:List V)(cells:List Cell):Option (List Row×List Cell):=
 match X.P.funcs[f]? with
 |some g=>match g.body with
  |some c=>bif !(Nat.ble cells.length kW && Nat.ble args.length g.ntmps) then none else match(entry X f g args cells).run (oI 0 cells) .none with
   |some (tm,m,_)=>(match den X K f c ⟨tm,m⟩ with
    |some (.normal,S)=>leave X g cells.length S
    |some (.ret,S)=>leave X g cells.length S
    |_=>none)
   |none=>none
  |none=>none
 |none=>none
noncomputable def QD(X:Ctx):Nat->jc
 |0,_,_,_=>none
 |n+1,f,args,cells=>match X.Qu f with
  |some p=>p args cells
  |none=>body X (QD X n) f args cells
noncomputable def call(X:Ctx):jc:=λf args cells=>lim λn=>QD X n f args cells
end Go.Vm
namespace Go.Vm
open Go
abbrev View:=Nat->Nat->Option Value
abbrev Heap:=Nat->Option Obj
def dO(w:World):Heap:=λb=>w.heap[b]?
mutual
def ro(h:View):D->Value->Prop
 | .int k n,v=>v=.int k n
 | .bool b,v=>v=.bool b
 | .str s,v=>v=.string ⟨⟨s⟩⟩
 | .Md,v=>v=.nilFunc
 | .sl _ s rows,v=>∃a cap,v=.slice a rows.length cap∧rows.length<=cap∧(rows≠[]->∃b o,a=some ⟨b,o,none⟩∧lQ h s rows b o)
def lQ(h:View)(s:Nat):List Row->Nat->Nat->Prop
 |[],_,_=>True
 |r::rs,b,o=>r.length=s∧uz h r b o∧lQ h s rs b (o+s)
def uz(h:View):Row->Nat->Nat->Prop
 |[],_,_=>True
 |x::r,b,o=>(∃v,h b o=some v∧ro h x v)∧uz h r b (o+1)
end
mutual
def ow(H:Heap)(h:View):D->Value->List Nat->Prop
 | .int k n,v,N=>v=.int k n∧N=[]
 | .bool b,v,N=>v=.bool b∧N=[]
 | .str s,v,N=>v=.string ⟨⟨s⟩⟩∧N=[]
 | .Md,v,N=>v=.nilFunc∧N=[]
 | .sl own s rows,v,N=>match own with
  |false=>N=[]∧ro h (.sl false s rows) v
  |true=>(rows=[]∧v=.slice none 0 0∧N=[])∨
   ∃b cap cs t N',v=.slice (some ⟨b,0,none⟩) rows.length cap∧rows.length<=cap∧H b=some (.cells cs t (0,0))∧cs.size=cap * s∧
    fK H h s rows cs.toList N'∧N=b::N'
def fK(H:Heap)(h:View)(s:Nat):List Row->List Value->List Nat->Prop
 |[],_,N=>N=[]
 |r::rs,cs,N=>r.length=s∧∃N1 N2,N=N1++N2∧iw H h r cs N1∧fK H h s rs (cs.drop s) N2
def iw(H:Heap)(h:View):Row->List Value->List Nat->Prop
 |[],_,N=>N=[]
 |x::r,cs,N=>∃v cs' N1 N2,cs=v::cs'∧N=N1++N2∧ow H h x v N1∧iw H h r cs' N2
end
def iD(h:View):Row->List Value->Prop
 |[],_=>True
 |x::r,cs=>∃v cs',cs=v::cs'∧ro h x v∧iD h r cs'
def fQ(h:View)(s:Nat):List Row->List Value->Prop
 |[],_=>True
 |r::rs,cs=>r.length=s∧iD h r cs∧fQ h s rs (cs.drop s)
def Qq(H:Heap)(h:View)(fl:Bool)(s:Nat)(rows:List Row)(v:Value)(N:List Nat):Prop:=
 (rows=[]∧v=.slice none 0 0∧N=[])∨
 ∃b cap cs t N',v=.slice (some ⟨b,0,none⟩) rows.length cap∧rows.length<=cap∧H b=some (.cells cs t (0,0))∧cs.size=cap * s∧
  (match fl with
   |true=>fQ h s rows cs.toList∧N'=[]
   |false=>fK H h s rows cs.toList N')∧N=b::N'
def acg(H:Heap)(h:View)(s:Nat)(rows:List Row)(v:Value)(N:List Nat):Prop:=
 (rows=[]∧v=.slice none 0 0∧N=[])∨
 ∃b o cap cs t,v=.slice (some ⟨b,o,none⟩) rows.length cap∧rows.length<=cap∧H b=some (.cells cs t (0,0))∧o+cap * s<=cs.size∧
  fQ h s rows (cs.toList.drop o)∧N=[b]
def Oz(g:Value):Prop:=∃a n c,g=.slice a n c
def apO(g:Value):Prop:=∃b o,g=.pointer (some ⟨b,o,none⟩)
mutual
def aV(μ:Nat->Value)(m:Mem)(h:View):V->Value->Prop
 | .d x,g=>ro h x g
 | .nil _,g=>g=.slice none 0 0
 | .own r v0,g=>Oz g∧match get r m with
  |some (.arr _ _ ver _ _)=>v0<=ver∧(v0=ver->g=μ r)
  |some .dead=>True
  |some (.DF ver _ _)=>v0<=ver∧(v0=ver->g=μ r)
  |_=>False
 | .ptr r off,g=>apO g∧match get r m with
  |some (.box _ _)=>∃b,μ r=.pointer (some ⟨b,0,none⟩)∧g=.pointer (some ⟨b,off,none⟩)
  |some (.mO _ _)=>∃b,μ r=.pointer (some ⟨b,0,none⟩)∧g=.pointer (some ⟨b,off,none⟩)
  |some .dead=>True
  |_=>False
 | .tH r v0 i off,g=>apO g∧match get r m with
  |some (.arr _ _ ver s _)=>v0<=ver∧(v0=ver->∃b n cap,μ r=.slice (some ⟨b,0,none⟩) n cap∧g=.pointer (some ⟨b,i * s+off,none⟩))
  |some .dead=>True
  |some (.DF ver s _)=>v0<=ver∧(v0=ver->∃b o n cap,μ r=.slice (some ⟨b,o,none⟩) n cap∧g=.pointer (some ⟨b,o+(i * s+off),none⟩))
  |_=>False
 | .nZ row off,g=>∃b o,g=.pointer (some ⟨b,o+off,none⟩)∧uz h row b o
 | .vV v,g=>∃b x,g=.pointer (some ⟨b,0,none⟩)∧h b 0=some x∧aV μ m h v x
 | .clo f first caps,g=>∃a c,g=.func (.func f) a c∧dJ μ m h first a.toList∧dJ μ m h caps c.toList
 | .agg cs,g=>∃a,g=.agg a∧dJ μ m h cs a.toList
 | .yE vs,g=>∃a,g=.tuple a∧dJ μ m h vs a.toList
 | .undef,_=>True
def dJ(μ:Nat->Value)(m:Mem)(h:View):List V->List Value->Prop
 |[],gs=>gs=[]
 |v::vs,gs=>∃g gs',gs=g::gs'∧aV μ m h v g∧dJ μ m h vs gs'
end
def lS(μ:Nat->Value)(m:Mem)(H:Heap)(h:View)(r:Nat):Cell->List Nat->Prop
 | .box t cs,N=>∃b a,μ r=.pointer (some ⟨b,0,none⟩)∧H b=some (.cells a t (0,0))∧dJ μ m h cs a.toList∧N=[b]
 | .arr fz fl _ s rows,N=>match fz with
  |true=>ro h (.sl true s rows) (μ r)∧N=[]
  |false=>Qq H h fl s rows (μ r) N
 | .dead,N=>N=[]
 | .DF _ s rows,N=>acg H h s rows (μ r) N
 | .mO _ v,N=>N=[]∧∃b x,μ r=.pointer (some ⟨b,0,none⟩)∧h b 0=some x∧aV μ m h v x
open Classical in
noncomputable def view(w:World)(U X:Nat->Prop):View:=λb o=>if U b∧¬X b then w.cell? ⟨b,o,none⟩ else none
def excl(F:Nat->List Nat)(E:List Nat):Nat->Prop:=λb=>b∈E∨∃r,b∈F r
structure Keep(M:List Nat)(w w':World):Prop where
 os:w'.os=w.os
 tape:w'.tape=w.tape
 output:w'.output=w.output
 size:w.heap.size<=w'.heap.size
 block:∀b,b<w.heap.size->b ∉ M->w'.heap[b]? =w.heap[b]?
def Keep.refl(M:List Nat)(w:World):Keep M w w:=⟨rfl,rfl,rfl,Nat.le_refl _,λ_ _ _=>rfl⟩
def Keep.trans{M M':List Nat}{a b c:World}(h:Keep M a b)(k:Keep M' b c)(hM:∀x,x∈M'->x∈M∨a.heap.size<=x):Keep M a c:=
 ⟨k.os.trans h.os,k.tape.trans h.tape,k.output.trans h.output,Nat.le_trans h.size k.size,λi hi hm=>(k.block i (Nat.lt_of_lt_of_le hi h.size) (λhx=>(hM i hx).elim hm (λhl=>absurd hi (Nat.not_lt.2 hl)))).trans (h.block i hi hm)⟩
structure MInv(base:Nat)(U:Nat->Prop)(m:Mem)(w:World)(μ:Nat->Value)(F:Nat->List Nat)(E:List Nat)(out:List Nat):Prop where
 cell:∀r c,get r m=some c->r ∉ out->lS μ m (dO w) (view w U (excl F E)) r c (F r)
 dj:∀r r',r≠r'->∀b,b∈F r->b ∉ F r'
 YQ:∀r b,b∈F r->b ∉ E
 nd:∀r,(F r).Nodup
 ndE:E.Nodup
 lt:∀b,excl F E b->b<w.heap.size∧base<=b∧U b
 up:∀b,w.heap.size<=b->U b
 bs:base<=w.heap.size
 none_:∀r,get r m=none->F r=[]
 out_:∀r,r∈out->F r=[]
def View.le(h h':View):Prop:=∀b o v,h b o=some v->h' b o=some v
def View.le_refl(h:View):h.le h:=λ_ _ _ x=>x
def View.le.trans'{a b c:View}(h:a.le b)(k:b.le c):a.le c:=λx y v q=>k x y v (h x y v q)
mutual
def DL{h h':View}(hl:h.le h'):∀(x:D) (v:Value),ro h x v->ro h' x v
 | .int _ _,_,q=>by simpa[ro] using q
 | .bool _,_,q=>by simpa[ro] using q
 | .str _,_,q=>by simpa[ro] using q
 | .Md,_,q=>by simpa[ro] using q
 | .sl _ s rows,v,q=>by simp only[ro] at q⊢;obtain⟨a,cap,h1,h2,h3⟩:=q;refine⟨a,cap,h1,h2,λhn=> ?_⟩;obtain⟨b,o,h4,h5⟩:=h3 hn;exact⟨b,o,h4,XV hl s rows b o h5⟩
def XV{h h':View}(hl:h.le h')(s:Nat):∀(rows:List Row) (b o:Nat),lQ h s rows b o->lQ h' s rows b o
 |[],_,_,_=>by simp[lQ]
 |r::rs,b,o,q=>by simp only[lQ] at q⊢;exact⟨q.1,Jp hl r b o q.2.1,XV hl s rs b (o+s) q.2.2⟩
def Jp{h h':View}(hl:h.le h'):∀(r:Row) (b o:Nat),uz h r b o->uz h' r b o
 |[],_,_,_=>by simp[uz]
 |x::r,b,o,q=>by simp only[uz] at q⊢;obtain⟨⟨v,h1,h2⟩,h3⟩:=q;exact⟨⟨v,hl _ _ _ h1,DL hl x v h2⟩,Jp hl r b (o+1) h3⟩
end
mutual
def aeh{H H':Heap}{h h':View}(hl:h.le h'):∀(x:D) (v:Value) (N:List Nat),(∀b,b∈N->H' b=H b)->ow H h x v N->ow H' h' x v N
 | .int _ _,_,_,_,q=>by simpa[ow] using q
 | .bool _,_,_,_,q=>by simpa[ow] using q
 | .str _,_,_,_,q=>by simpa[ow] using q
 | .Md,_,_,_,q=>by simpa[ow] using q
 | .sl false s rows,v,N,_,q=>by simp only[ow] at q⊢;exact⟨q.1,DL hl _ _ q.2⟩
 | .sl true s rows,v,N,hb,q=>by
  simp only[ow] at q⊢;rcases q with q|⟨b,cap,cs,t,N',h1,h2,h3,h4,h5,rfl⟩
  ·exact .inl q
  ·exact .inr ⟨b,cap,cs,t,N',h1,h2,by rw[hb b (by simp)];exact h3,h4,wG hl s rows cs.toList N' (λb' hb'=>hb b' (by simp[hb'])) h5,rfl⟩
def wG{H H':Heap}{h h':View}(hl:h.le h')(s:Nat):∀(rows:List Row) (cs:List Value) (N:List Nat),(∀b,b∈N->H' b=H b)->fK H h s rows cs N->fK H' h' s rows cs N
 |[],_,_,_,q=>by simpa[fK] using q
 |r::rs,cs,N,hb,q=>by simp only[fK] at q⊢;obtain⟨h1,N1,N2,rfl,h2,h3⟩:=q;exact⟨h1,N1,N2,rfl,F8 hl r cs N1 (λb hx=>hb b (by simp[hx])) h2,wG hl s rs _ N2 (λb hx=>hb b (by simp[hx])) h3⟩
def F8{H H':Heap}{h h':View}(hl:h.le h'):∀(r:Row) (cs:List Value) (N:List Nat),(∀b,b∈N->H' b=H b)->iw H h r cs N->iw H' h' r cs N
 |[],_,_,_,q=>by simpa[iw] using q
 |x::r,cs,N,hb,q=>by simp only[iw] at q⊢;obtain⟨v,cs',N1,N2,rfl,rfl,h2,h3⟩:=q;exact⟨v,cs',N1,N2,rfl,rfl,aeh hl x v N1 (λb hx=>hb b (by simp[hx])) h2,F8 hl r cs' N2 (λb hx=>hb b (by simp[hx])) h3⟩
end
def Ve{h h':View}(hl:h.le h'):∀(r:Row) (cs:List Value),iD h r cs->iD h' r cs
 |[],_,_=>trivial
 |x::r,cs,⟨v,cs',h1,h2,h3⟩=>⟨v,cs',h1,DL hl x v h2,Ve hl r cs' h3⟩
def mP{h h':View}(hl:h.le h')(s:Nat):∀(rows:List Row) (cs:List Value),fQ h s rows cs->fQ h' s rows cs
 |[],_,_=>trivial
 |r::rs,cs,⟨h1,h2,h3⟩=>⟨h1,Ve hl r cs h2,mP hl s rs _ h3⟩
def Gu{H H':Heap}{h h':View}(hl:h.le h'){fl:Bool}{s:Nat}{rows:List Row}{v:Value}{N:List Nat}(hb:∀b,b∈N->H' b=H b)(q:Qq H h fl s rows v N):Qq H' h' fl s rows v N:=by
 rcases q with q|⟨b,cap,cs,t,N',h1,h2,h3,h4,h5,rfl⟩
 ·exact .inl q
 ·refine .inr ⟨b,cap,cs,t,N',h1,h2,by rw[hb b (by simp)];exact h3,h4, ?_,rfl⟩;cases fl with
  |true=>exact⟨mP hl s rows _ h5.1,h5.2⟩
  |false=>exact wG hl s rows _ N' (λb' hb'=>hb b' (by simp[hb'])) h5
def WR{H H':Heap}{h h':View}(hl:h.le h'){s:Nat}{rows:List Row}{v:Value}{N:List Nat}(hb:∀b,b∈N->H' b=H b)(q:acg H h s rows v N):acg H' h' s rows v N:=by
 rcases q with q|⟨b,o,cap,cs,t,h1,h2,h3,h4,h5,rfl⟩
 ·exact .inl q
 ·exact .inr ⟨b,o,cap,cs,t,h1,h2,by rw[hb b (by simp)];exact h3,h4,mP hl s rows _ h5,rfl⟩
def ED(μ μ':Nat->Value)(r:Nat):Cell->Cell->Prop
 | .box t _,.box t' _=>t'=t∧μ' r=μ r
 | .arr _ fl ver s _,.arr _ fl' iK s' _=>ver<=iK∧fl'=fl∧(ver=iK->μ' r=μ r∧s'=s)
 |_,.dead=>True
 | .arr _ _ ver _ _,.DF iK _ _=>ver<iK
 | .DF ver s _,.DF iK s' _=>ver<=iK∧(ver=iK->μ' r=μ r∧s'=s)
 | .box _ _,.mO _ _=>μ' r=μ r
 | .mO _ _,.mO _ _=>μ' r=μ r
 |_,_=>False
def CQ(μ:Nat->Value)(m:Mem)(μ':Nat->Value)(m':Mem):Prop:=∀r c,get r m=some c->∃c',get r m'=some c'∧ED μ μ' r c c'
def XW(μ:Nat->Value)(r:Nat)(c:Cell):ED μ μ r c c:=by cases c<;>simp[ED]
def oJ(μ:Nat->Value)(m:Mem):CQ μ m μ m:=λr c h=>⟨c,h,XW μ r c⟩
def rH{μ1 μ2 μ3:Nat->Value}{m1 m2 m3:Mem}(h:CQ μ1 m1 μ2 m2)(k:CQ μ2 m2 μ3 m3):CQ μ1 m1 μ3 m3:=by
 intro r c hc;obtain⟨c',h1,h2⟩:=h r c hc;obtain⟨c'',k1,k2⟩:=k r c' h1;refine⟨c'',k1, ?_⟩;cases c<;>cases c'<;>cases c''<;>simp_all [ED]
 ·rename_i ver s _ _ _ iK s' _ _ _ amk s'' _;refine⟨by omega,λe=> ?_⟩;have e1:ver=iK:=by omega
  have e2:iK=amk:=by omega
  exact⟨(k2.2.2 e2).1.trans (h2.2.2 e1).1,(k2.2.2 e2).2.trans (h2.2.2 e1).2⟩
 ·omega
 ·omega
 ·rename_i ver s _ iK s' _ amk s'' _;refine⟨by omega,λe=> ?_⟩;have e1:ver=iK:=by omega
  have e2:iK=amk:=by omega
  exact⟨(k2.2 e2).1.trans (h2.2 e1).1,(k2.2 e2).2.trans (h2.2 e1).2⟩
mutual
def vY{μ μ':Nat->Value}{m m':Mem}{h h':View}(hm:CQ μ m μ' m')(hl:h.le h'):∀(v:V) (g:Value),aV μ m h v g->aV μ' m' h' v g
 | .d x,g,q=>by simp only[aV] at q⊢;exact DL hl x g q
 | .nil _,_,q=>by simpa[aV] using q
 | .own r v0,g,q=>by
  simp only[aV] at q⊢;refine⟨q.1, ?_⟩;replace q:=q.2;cases hc:get r m with
  |none=>simp[hc] at q
  |some c=>
   obtain⟨c',h1,h2⟩:=hm r c hc;rw[h1];cases c<;>cases c'<;>simp_all [ED]
   ·rename_i ver s _ _ _ iK s' _;refine⟨by omega,λe=> ?_⟩;have e1:ver=iK:=by omega
    rw[(h2.2.2 e1).1];exact q.2 (by omega)
   ·exact⟨by omega,λe=>by omega⟩
   ·rename_i ver s _ iK s' _;refine⟨by omega,λe=> ?_⟩;have e1:ver=iK:=by omega
    rw[(h2.2 e1).1];exact q.2 (by omega)
 | .ptr r off,g,q=>by
  simp only[aV] at q⊢;refine⟨q.1, ?_⟩;replace q:=q.2;cases hc:get r m with
  |none=>simp[hc] at q
  |some c=>obtain⟨c',h1,h2⟩:=hm r c hc;rw[h1];cases c<;>cases c'<;>simp_all [ED]
 | .tH r v0 i off,g,q=>by
  simp only[aV] at q⊢;refine⟨q.1, ?_⟩;replace q:=q.2;cases hc:get r m with
  |none=>simp[hc] at q
  |some c=>
   obtain⟨c',h1,h2⟩:=hm r c hc;rw[h1];cases c<;>cases c'<;>simp_all [ED]
   ·rename_i ver s _ _ _ iK s' _;refine⟨by omega,λe=> ?_⟩;have e1:ver=iK:=by omega
    rw[(h2.2.2 e1).1,(h2.2.2 e1).2];exact q.2 (by omega)
   ·exact⟨by omega,λe=>by omega⟩
   ·rename_i ver s _ iK s' _;refine⟨by omega,λe=> ?_⟩;have e1:ver=iK:=by omega
    rw[(h2.2 e1).1,(h2.2 e1).2];exact q.2 (by omega)
 | .nZ row off,g,q=>by simp only[aV] at q⊢;obtain⟨b,o,h1,h2⟩:=q;exact⟨b,o,h1,Jp hl row b o h2⟩
 | .vV v,g,q=>by simp only[aV] at q⊢;obtain⟨b,x,h1,h2,h3⟩:=q;exact⟨b,x,h1,hl _ _ _ h2,vY hm hl v x h3⟩
 | .clo f first caps,g,q=>by simp only[aV] at q⊢;obtain⟨a,c,h1,h2,h3⟩:=q;exact⟨a,c,h1,qC hm hl first _ h2,qC hm hl caps _ h3⟩
 | .agg cs,g,q=>by simp only[aV] at q⊢;obtain⟨a,h1,h2⟩:=q;exact⟨a,h1,qC hm hl cs _ h2⟩
 | .yE vs,g,q=>by simp only[aV] at q⊢;obtain⟨a,h1,h2⟩:=q;exact⟨a,h1,qC hm hl vs _ h2⟩
 | .undef,_,_=>by simp[aV]
def qC{μ μ':Nat->Value}{m m':Mem}{h h':View}(hm:CQ μ m μ' m')(hl:h.le h'):∀(vs:List V) (gs:List Value),dJ μ m h vs gs->dJ μ' m' h' vs gs
 |[],_,q=>by simpa[dJ] using q
 |v::vs,gs,q=>by simp only[dJ] at q⊢;obtain⟨g,gs',h1,h2,h3⟩:=q;exact⟨g,gs',h1,vY hm hl v g h2,qC hm hl vs gs' h3⟩
end
def GZ{μ μ':Nat->Value}{m m':Mem}{H H':Heap}{h h':View}(hm:CQ μ m μ' m')(hl:h.le h'){r:Nat}(hr:μ' r=μ r){c:Cell}{N:List Nat}(hb:∀b,b∈N->H' b=H b)
  (q:lS μ m H h r c N):lS μ' m' H' h' r c N:=by
 cases c with
 |box t cs=>obtain⟨b,a,h1,h2,h3,rfl⟩:=q;exact⟨b,a,by rw[hr];exact h1,by rw[hb b (by simp)];exact h2,qC hm hl cs _ h3,rfl⟩
 |arr fz fl ver s rows=>
  cases fz with
  |true=>exact⟨by rw[hr];exact DL hl _ _ q.1,q.2⟩
  |false=>simp only[lS] at q⊢;rw[hr];exact Gu hl hb q
 |dead=>exact q
 |DF ver s rows=>simp only[lS] at q⊢;rw[hr];exact WR hl hb q
 |mO t v=>obtain⟨h1,b,x,h2,h3,h4⟩:=q;exact⟨h1,b,x,by rw[hr];exact h2,hl _ _ _ h3,vY hm hl v x h4⟩
def sU{k j:Nat}(h:k≠j):Nat.beq k j=false:=by
 cases hb:Nat.beq k j with
 |false=>rfl
 |true=>exact absurd (vU hb) h
def iV{α:Type}(k:Nat)(x:α):∀l:List (Nat×α),get k (put k x l)=some x
 |[]=>by simp[put,get]
 |(j,y)::l=>by
  simp only[put]
  by_cases h:k=j
  ·subst h;simp[get]
  ·have hb:Nat.beq k j=false:=sU h;rw[hb];cases hl:Nat.blt k j with
   |true=>simp[get]
   |false=>simp[get,hb,iV k x l]
def kF{α:Type}{k k':Nat}(hk:k≠k')(x:α):∀l:List (Nat×α),get k (put k' x l)=get k l
 |[]=>by have hb:Nat.beq k k'=false:=sU hk;simp[put,get,hb]
 |(j,y)::l=>by
  have hb:Nat.beq k k'=false:=sU hk;simp only[put]
  by_cases h:k'=j
  ·subst h;simp[get,hb]
  ·have hb':Nat.beq k' j=false:=sU h;rw[hb'];cases hl:Nat.blt k' j with
   |true=>simp[get,hb]
   |false=>simp[get,kF hk x l]
def G7{α:Type}(k:Nat):∀l:List (Nat×α),get k (del k l)=none
 |[]=>rfl
 |(j,y)::l=>by
  simp only[del];cases hb:Nat.beq k j with
  |true=>simpa using G7 k l
  |false=>simp[get,hb,G7 k l]
def JL{α:Type}{k k':Nat}(hk:k≠k'):∀l:List (Nat×α),get k (del k' l)=get k l
 |[]=>rfl
 |(j,y)::l=>by
  simp only[del];cases hb:Nat.beq k' j with
  |true=>have:k'=j:=vU hb;subst this;have hb:Nat.beq k k'=false:=sU hk;simp[get,hb,JL hk l]
  |false=>simp[get,JL hk l]
def get_put{α:Type}(k k':Nat)(x:α)(l:List (Nat×α)):get k (put k' x l)=if k=k' then some x else get k l:=by
 by_cases h:k=k'
 ·subst h;rw[iV,if_pos rfl]
 ·rw[kF h,if_neg h]
def apP{α:Type}(k k':Nat)(l:List (Nat×α)):get k (del k' l)=if k=k' then none else get k l:=by
 by_cases h:k=k'
 ·subst h;rw[G7,if_pos rfl]
 ·rw[JL h,if_neg h]
def Acc.run_bind{α β:Type}(a:Acc α)(f:α->Acc β):∀(m:Mem) (l:Log),(a.bind f).run m l=match a.run m l with|some (x,m',l')=>(f x).run m' l'|none=>none:=by
 induction a with
 |ret a=>intro m l;rfl
 |fail=>intro m l;rfl
 |get k c ih=>intro m l;simp only[Acc.bind,Acc.run];exact ih _ _ _
 |set k x c ih=>intro m l;simp only[Acc.bind,Acc.run];exact ih _ _
 |opt o c ih=>intro m l;simp only[Acc.bind,Acc.run];cases o with|none=>rfl|some b=>exact ih b _ _
 |guard b c ih=>intro m l;simp only[Acc.bind,Acc.run];cases b with|true=>exact ih _ _|false=>rfl
def run_bind{α β:Type}(a:Acc α)(f:α->Acc β)(m:Mem)(l:Log):(a>>=f).run m l=match a.run m l with|some (x,m',l')=>(f x).run m' l'|none=>none:=Acc.run_bind a f m l
def aj{α β:Type}{a:Acc α}{f:α->Acc β}{m:Mem}{l:Log}{y:β}{m':Mem}{l':Log}(h:(a>>=f).run m l=some (y,m',l')):
  ∃x m1 l1,a.run m l=some (x,m1,l1)∧(f x).run m1 l1=some (y,m',l'):=by
 rw[run_bind] at h;cases ha:a.run m l with
 |none=>simp[ha] at h
 |some x=>obtain⟨x,m1,l1⟩:=x;rw[ha] at h;exact⟨x,m1,l1,rfl,h⟩
def run_pure{α:Type}(a:α)(m:Mem)(l:Log):(Pure.pure a:Acc α).run m l=some (a,m,l):=rfl
def sV(k:Nat)(m:Mem)(l:Log):(rd k).run m l=some (get k m,m,l.rd k):=rfl
def BA(k:Nat)(c:Cell)(m:Mem)(l:Log):(wr k c).run m l=some ((),put k c m,l.wr k):=rfl
def dY{b:Bool}{m:Mem}{l:Log}{x:Unit}{m':Mem}{l':Log}(h:(ck b).run m l=some (x,m',l')):b=true∧m'=m∧l'=l:=by cases b<;>simp[ck,Acc.run] at h;exact⟨rfl,h.1.symm,h.2.symm⟩
def gU{β:Type}{o:Option β}{m:Mem}{l:Log}{x:β}{m':Mem}{l':Log}(h:(op' o).run m l=some (x,m',l')):o=some x∧m'=m∧l'=l:=by cases o<;>simp[op',Acc.run] at h;obtain⟨rfl,rfl,rfl⟩:=h;exact⟨rfl,rfl,rfl⟩
def ak{α:Type}{m:Mem}{l:Log}{r:α×Mem×Log}(h:(Acc.fail:Acc α).run m l=some r):False:=by simp[Acc.run] at h
structure Z4(X:Ctx)(h:View):Prop where
 row:∀g row,X.glob g=some row->uz h row g 0
 int:∀g,X.awu g=true->∃n,h g 0=some (.int .i64 n)
def CS{X:Ctx}{h h':View}(hl:h.le h')(q:Z4 X h):Z4 X h':=⟨λg row hg=>Jp hl row g 0 (q.row g row hg),λg hg=>by obtain⟨n,hn⟩:=q.int g hg;exact⟨n,hl _ _ _ hn⟩⟩
def Z5{h:View}:∀(row:Row) (b o:Nat),uz h row b o->lQ h 1 (row.map λx=>[x]) b o
 |[],_,_,_=>trivial
 |x::r,b,o,⟨h1,h2⟩=>⟨rfl,⟨h1,trivial⟩,Z5 r b (o+1) h2⟩
end Go.Vm
namespace Go.Vm
open Go
def U3(F:Nat->List Nat)(r:Nat)(N:List Nat):Nat->List Nat:=λk=>if k=r then N else F k
def upM(μ:Nat->Value)(r:Nat)(g:Value):Nat->Value:=λk=>if k=r then g else μ k
@[simp] theorem AO(F:Nat->List Nat)(r:Nat)(N:List Nat):U3 F r N r=N:=by simp[U3]
def jm{F:Nat->List Nat}{r k:Nat}(N:List Nat)(h:k≠r):U3 F r N k=F k:=by simp[U3,h]
@[simp] theorem G8(μ:Nat->Value)(r:Nat)(g:Value):upM μ r g r=g:=by simp[upM]
def Jq{μ:Nat->Value}{r k:Nat}(g:Value)(h:k≠r):upM μ r g k=μ k:=by simp[upM,h]
def full(w:World):View:=λb o=>w.cell? ⟨b,o,none⟩
def qO(w:World)(U X:Nat->Prop):(view w U X).le (full w):=by
 intro b o v h;unfold view at h;split at h
 ·exact h
 ·cases h
def LG{w:World}{U U' X X':Nat->Prop}(hU:∀b,U b->U' b)(h:∀b,X' b->X b):(view w U X).le (view w U' X'):=by
 intro b o v hv;unfold view at hv⊢;split at hv
 ·rename_i hc;rw[if_pos ⟨hU b hc.1,λhx=>hc.2 (h b hx)⟩];exact hv
 ·cases hv
structure GS where
 μ:Nat->Value
 F:Nat->List Nat
 E:List Nat
 out:List Nat
section
variable (base:Nat) (U:Nat->Prop) (w:World)
def BG(m:Mem)(G:GS):Prop:=MInv base U m w G.μ G.F G.E G.out
noncomputable def Gh(G:GS):View:=view w U (excl G.F G.E)
end
structure QE(m:Mem)(G:GS)(m':Mem)(G':GS):Prop where
 mem:CQ G.μ m G'.μ m'
 ex:∀b,excl G'.F G'.E b->excl G.F G.E b
def QE.refl(m:Mem)(G:GS):QE m G m G:=⟨oJ _ _,λ_ h=>h⟩
def QE.trans{m1 m2 m3:Mem}{G1 G2 G3:GS}(h:QE m1 G1 m2 G2)(k:QE m2 G2 m3 G3):QE m1 G1 m3 G3:=
 ⟨rH h.mem k.mem,λb hb=>h.ex b (k.ex b hb)⟩
def QE.view{U:Nat->Prop}{w:World}{m m':Mem}{G G':GS}(h:QE m G m' G'):(Gh U w G).le (Gh U w G'):=LG (λ_ x=>x) h.ex
def QE.aV{U:Nat->Prop}{w:World}{m m':Mem}{G G':GS}(h:QE m G m' G'){v:V}{g:Value}(q:aV G.μ m (Gh U w G) v g):aV G'.μ m' (Gh U w G') v g:=
 vY h.mem h.view v g q
def QE.dJ{U:Nat->Prop}{w:World}{m m':Mem}{G G':GS}(h:QE m G m' G'){v:List V}{g:List Value}(q:dJ G.μ m (Gh U w G) v g):dJ G'.μ m' (Gh U w G') v g:=
 qC h.mem h.view v g q
section
variable {base:Nat} {U:Nat->Prop} {w:World} {m:Mem} {G:GS}
def BG.set(hg:BG base U w m G)(r:Nat)(c':Cell)(μ':Nat->Value)(N E' out':List Nat)
  (hs:(N++E').Nodup) (hsub:∀b,b∈N++E'->b∈G.F r∨b∈G.E) (hle:CQ G.μ m μ' (put r c' m)) (hμ:∀k,k≠r->μ' k=G.μ k)
  (ho:∀k,k≠r->(k∈out'↔k∈G.out)) (hr:r∈out'->N=[])
  (hc:(view w U (excl G.F G.E)).le (view w U (excl (U3 G.F r N) E'))->r ∉ out'->lS μ' (put r c' m) (dO w) (view w U (excl (U3 G.F r N) E')) r c' N):
  BG base U w (put r c' m) ⟨μ',U3 G.F r N,E',out'⟩∧QE m G (put r c' m) ⟨μ',U3 G.F r N,E',out'⟩:=by
 have hex:∀b,excl (U3 G.F r N) E' b->excl G.F G.E b:=by
  rintro b (hb|⟨k,hb⟩)
  ·rcases hsub b (by simp[hb]) with h|h
   ·exact .inr ⟨r,h⟩
   ·exact .inl h
  ·by_cases hk:k=r
   ·subst hk;rw[AO] at hb;rcases hsub b (by simp[hb]) with h|h
    ·exact .inr ⟨_,h⟩
    ·exact .inl h
   ·rw[jm N hk] at hb;exact .inr ⟨k,hb⟩
 have hv:(view w U (excl G.F G.E)).le (view w U (excl (U3 G.F r N) E')):=LG (λ_ x=>x) hex;have hN:=List.nodup_append.1 hs;refine⟨show MInv base U (put r c' m) w μ' (U3 G.F r N) E' out' from ?_,⟨hle,hex⟩⟩;refine⟨?_, ?_, ?_, ?_,hN.2.1,λb hb=>hg.lt b (hex b hb),hg.up,hg.bs, ?_, ?_⟩
 ·intro k c hk hko;rw[get_put] at hk
  by_cases e:k=r
  ·subst e;rw[if_pos rfl] at hk;cases hk;rw[AO];exact hc hv hko
  ·rw[if_neg e] at hk;rw[jm N e];exact GZ hle hv (hμ k e) (λb _=>rfl) (hg.cell k c hk (λh=>hko ((ho k e).2 h)))
 ·intro k k' hne b hb hb'
  by_cases e:k=r
  ·subst e;rw[AO] at hb;rw[jm N (Ne.symm hne)] at hb';rcases hsub b (by simp[hb]) with h|h
   ·exact hg.dj _ _ hne b h hb'
   ·exact hg.YQ _ b hb' h
  ·rw[jm N e] at hb
   by_cases e':k'=r
   ·subst e';rw[AO] at hb';rcases hsub b (by simp[hb']) with h|h
    ·exact hg.dj _ _ hne b hb h
    ·exact hg.YQ _ b hb h
   ·rw[jm N e'] at hb';exact hg.dj _ _ hne b hb hb'
 ·intro k b hb hE
  by_cases e:k=r
  ·subst e;rw[AO] at hb;exact hN.2.2 b hb b hE rfl
  ·rw[jm N e] at hb;rcases hsub b (by simp[hE]) with h|h
   ·exact hg.dj _ _ e b hb h
   ·exact hg.YQ _ b hb h
 ·intro k
  by_cases e:k=r
  ·subst e;rw[AO];exact hN.1
  ·rw[jm N e];exact hg.nd k
 ·intro k hk;rw[get_put] at hk
  by_cases e:k=r
  ·rw[if_pos e] at hk;cases hk
  ·rw[if_neg e] at hk;rw[jm N e];exact hg.none_ k hk
 ·intro k hk
  by_cases e:k=r
  ·subst e;rw[AO];exact hr hk
  ·rw[jm N e];exact hg.out_ k ((ho k e).1 hk)
def BG.less(hg:BG base U w m G)(E':List Nat)(hn:E'.Nodup)(hs:∀b,b∈E'->b∈G.E):
  BG base U w m {G with E:=E'}∧QE m G m {G with E:=E'}:=by
 have hex:∀b,excl G.F E' b->excl G.F G.E b:=by
  rintro b (hb|hb)
  ·exact .inl (hs b hb)
  ·exact .inr hb
 have hv:(view w U (excl G.F G.E)).le (view w U (excl G.F E')):=LG (λ_ x=>x) hex;refine⟨⟨?_,hg.dj,λr b hb hE=>hg.YQ r b hb (hs b hE),hg.nd,hn,λb hb=>hg.lt b (hex b hb),hg.up,hg.bs,hg.none_,hg.out_⟩,⟨oJ _ _,hex⟩⟩;intro r c hc ho;exact GZ (oJ _ _) hv rfl (λ_ _=>rfl) (hg.cell r c hc ho)
def DN{μ μ':Nat->Value}{r:Nat}{c':Cell}(hμ:∀k,k≠r->μ' k=μ k)(h:∀c,get r m=some c->ED μ μ' r c c'):CQ μ m μ' (put r c' m):=by
 intro k c hk
 by_cases e:k=r
 ·subst e;exact⟨c',iV _ _ _,h c hk⟩
 ·refine⟨c,by rw[kF e];exact hk, ?_⟩;cases c<;>simp[ED,hμ k e]
def full_cell{b:Nat}{cs:Array Value}{t:TypeId}{fr:Nat×Nat}(h:dO w b=some (.cells cs t fr))(o:Nat):full w b o=cs.toList[o]? :=by simp only[full,World.cell?];unfold dO at h;simp[h]
end
def Ud{h:View}{b:Nat}:∀(r:Row) (o:Nat) (cs:List Value),(∀j v,cs[j]? =some v->h b (o+j)=some v)->iD h r cs->uz h r b o
 |[],_,_,_,_=>by simp[uz]
 |x::r,o,cs,hc,⟨v,cs',e,h1,h2⟩=>by subst e;simp only[uz];refine⟨⟨v,hc 0 v rfl,h1⟩,Ud r (o+1) cs' (λj u hj=> ?_) h2⟩;have:=hc (j+1) u (by simpa using hj);rw[show o+1+j=o+(j+1) from by omega];exact this
def QF{h:View}{b s:Nat}:∀(rs:List Row) (o:Nat) (cs:List Value),(∀j v,cs[j]? =some v->h b (o+j)=some v)->fQ h s rs cs->lQ h s rs b o
 |[],_,_,_,_=>by simp[lQ]
 |r::rs,o,cs,hc,⟨h1,h2,h3⟩=>by simp only[lQ];refine⟨h1,Ud r o cs hc h2,QF rs (o+s) (cs.drop s) (λj u hj=> ?_) h3⟩;rw[List.getElem?_drop] at hj;rw[show o+s+j=o+(s+j) from by omega];exact hc _ _ hj
def WS(h:View)(H:Heap)(N:List Nat):Prop:=∀b,b∈N->∀cs t fr,H b=some (.cells cs t fr)->∀(o:Nat) v,cs.toList[o]? =some v->h b o=some v
def WS.sub{h:View}{H:Heap}{N N':List Nat}(q:WS h H N)(hs:∀b,b∈N'->b∈N):WS h H N':=λb hb=>q b (hs b hb)
mutual
def arv{H:Heap}{h h':View}(hl:h.le h'):∀(x:D) (v:Value) (N:List Nat),WS h' H N->ow H h x v N->ro h' x v
 | .int _ _,_,_,_,q=>by simp only[ow] at q;simpa[ro] using q.1
 | .bool _,_,_,_,q=>by simp only[ow] at q;simpa[ro] using q.1
 | .str _,_,_,_,q=>by simp only[ow] at q;simpa[ro] using q.1
 | .Md,_,_,_,q=>by simp only[ow] at q;simpa[ro] using q.1
 | .sl false s rows,v,N,_,q=>by simp only[ow] at q;have:=DL hl _ _ q.2;simpa[ro] using this
 | .sl true s rows,v,N,hs,q=>by
  simp only[ow] at q;simp only[ro];rcases q with⟨rfl,rfl,rfl⟩|⟨b,cap,cs,t,N',h1,h2,h3,h4,h5,rfl⟩
  ·exact⟨none,0,by simp,by simp,λe=>absurd rfl e⟩
  ·refine⟨_,cap,h1,h2,λ_=>⟨b,0,rfl, ?_⟩⟩;refine QF rows 0 cs.toList (λj v hj=>by rw[Nat.zero_add];exact hs b (by simp) cs t _ h3 j v hj) ?_;exact Gv hl s rows cs.toList N' (hs.sub (by simp;exact λ_ hb=> .inr hb)) h5
def Gv{H:Heap}{h h':View}(hl:h.le h')(s:Nat):∀(rows:List Row) (cs:List Value) (N:List Nat),WS h' H N->fK H h s rows cs N->fQ h' s rows cs
 |[],_,_,_,_=>by simp[fQ]
 |r::rs,cs,N,hs,q=>by simp only[fK] at q;obtain⟨h1,N1,N2,rfl,h2,h3⟩:=q;simp only[fQ];exact⟨h1,Ue hl r cs N1 (hs.sub (by simp;exact λ_ hb=> .inl hb)) h2,Gv hl s rs _ N2 (hs.sub (by simp;exact λ_ hb=> .inr hb)) h3⟩
def Ue{H:Heap}{h h':View}(hl:h.le h'):∀(r:Row) (cs:List Value) (N:List Nat),WS h' H N->iw H h r cs N->iD h' r cs
 |[],_,_,_,_=>by simp[iD]
 |x::r,cs,N,hs,q=>by simp only[iw] at q;obtain⟨v,cs',N1,N2,rfl,rfl,h1,h2⟩:=q;simp only[iD];exact⟨v,cs',rfl,arv hl x v N1 (hs.sub (by simp;exact λ_ hb=> .inl hb)) h1,Ue hl r cs' N2 (hs.sub (by simp;exact λ_ hb=> .inr hb)) h2⟩
end
def aei{H:Heap}{h h':View}(hl:h.le h'){fl:Bool}{s:Nat}{rows:List Row}{v:Value}{N:List Nat}(hs:WS h' H N)(q:Qq H h fl s rows v N)(o:Bool):ro h' (.sl o s rows) v:=by
 simp only[ro];rcases q with⟨rfl,rfl,rfl⟩|⟨b,cap,cs,t,N',h1,h2,h3,h4,h5,rfl⟩
 ·exact⟨none,0,by simp,by simp,λe=>absurd rfl e⟩
 ·refine⟨_,cap,h1,h2,λ_=>⟨b,0,rfl, ?_⟩⟩;refine QF rows 0 cs.toList (λj v hj=>by rw[Nat.zero_add];exact hs b (by simp) cs t _ h3 j v hj) ?_;cases fl with
  |true=>exact mP hl s rows _ h5.1
  |false=>exact Gv hl s rows cs.toList N' (hs.sub (by simp;exact λ_ hb=> .inr hb)) h5
def QG{h:View}{o o':Bool}{s:Nat}{rows:List Row}{v:Value}(q:ro h (.sl o s rows) v):ro h (.sl o' s rows) v:=by simpa[ro] using q
def acU{w:World}{N:List Nat}:WS (full w) (dO w) N:=by intro b _ cs t fr hb o v hv;rw[full_cell hb,hv]
def Gw{w:World}{U X:Nat->Prop}{N:List Nat}(hU:∀b,b∈N->U b∧¬X b):WS (view w U X) (dO w) N:=by intro b hm cs t fr hb o v hv;unfold view;rw[if_pos (hU b hm)];have:=full_cell hb o;rw[hv] at this;exact this
mutual
def aml{h:View}:∀(x:D) (v:Value),ro h x v->ro h x.fz v
 | .int _ _,_,q=>by simpa[D.fz] using q
 | .bool _,_,q=>by simpa[D.fz] using q
 | .str _,_,q=>by simpa[D.fz] using q
 | .Md,_,q=>by simpa[D.fz] using q
 | .sl own s rows,v,q=>by
  simp only[D.fz,ro] at q⊢;obtain⟨a,cap,h1,h2,h3⟩:=q;have hlen:(dI rows).length=rows.length:=N9 rows;refine⟨a,cap,by rw[hlen];exact h1,by rw[hlen];exact h2,λhn=> ?_⟩;have hn':rows≠[]:=by intro e;subst e;exact hn rfl
  obtain⟨b,o,h4,h5⟩:=h3 hn';exact⟨b,o,h4,acV s rows b o h5⟩
def N9:∀rows:List Row,(dI rows).length=rows.length
 |[]=>rfl
 |r::rs=>by simp[dI,N9 rs]
def Pm:∀r:Row,(ql r).length=r.length
 |[]=>rfl
 |x::r=>by simp[ql,Pm r]
def acV{h:View}(s:Nat):∀(rows:List Row) (b o:Nat),lQ h s rows b o->lQ h s (dI rows) b o
 |[],_,_,_=>by simp[dI,lQ]
 |r::rs,b,o,q=>by simp only[dI,lQ] at q⊢;exact⟨by rw[Pm];exact q.1,afn r b o q.2.1,acV s rs b (o+s) q.2.2⟩
def afn{h:View}:∀(r:Row) (b o:Nat),uz h r b o->uz h (ql r) b o
 |[],_,_,_=>by simp[ql,uz]
 |x::r,b,o,q=>by simp only[ql,uz] at q⊢;obtain⟨⟨v,h1,h2⟩,h3⟩:=q;exact⟨⟨v,h1,aml x v h2⟩,afn r b (o+1) h3⟩
end
def Z7{h:View}{fl:Bool}{o:Bool}{s:Nat}{rows:List Row}{v:Value}(q:ro h (.sl o s rows) v):ro h (.sl false s (vw fl rows)) v:=by
 unfold vw;cases fl with
 |true=>exact QG q
 |false=>simpa[D.fz] using aml _ _ q
def amm{h:View}{x:D}{v:Value}(q:ro h x v):ro h (roD x) v:=by cases x<;>simpa[roD,ro] using q
def amn{H:Heap}{h:View}{x:D}{v:Value}(q:ro h x v):ow H h (roD x) v []:=by cases x<;>simp[roD,ow,ro] at q⊢<;>exact q
def apQ{H:Heap}{h:View}{x:D}{v:Value}(hf:x.flat=true)(q:ro h x v):ow H h x v []:=by cases x<;>simp[D.flat,ow,ro] at hf q⊢<;>exact q
def Z8{H:Heap}{h:View}:∀(r:Row) (cs:List Value),(r.all D.flat)=true->iD h r cs->iw H h r cs []
 |[],_,_,_=>by simp[iw]
 |x::r,cs,hf,⟨v,cs',e,h1,h2⟩=>by simp only[List.all_cons,AL] at hf;simp only[iw];exact⟨v,cs',[],[],e,rfl,apQ hf.1 h1,Z8 r cs' hf.2 h2⟩
def QH{H:Heap}{h:View}(s:Nat):∀(rs:List Row) (cs:List Value),aA rs=true->fQ h s rs cs->fK H h s rs cs []
 |[],_,_,_=>by simp[fK]
 |r::rs,cs,hf,⟨h1,h2,h3⟩=>by simp only[aA,List.all_cons,AL] at hf;simp only[fK];exact⟨h1,[],[],rfl,Z8 r cs hf.1 h2,QH s rs _ hf.2 h3⟩
def aej{H:Heap}{h:View}{fl:Bool}{s:Nat}{rows:List Row}{v:Value}{N:List Nat}(ho:SV fl rows=true)(q:Qq H h fl s rows v N):ow H h (.sl true s rows) v N:=by
 simp only[ow];rcases q with q|⟨b,cap,cs,t,N',h1,h2,h3,h4,h5,rfl⟩
 ·exact .inl q
 ·refine .inr ⟨b,cap,cs,t,N',h1,h2,h3,h4, ?_,rfl⟩;cases fl with
  |true=>obtain⟨h5,rfl⟩:=h5;exact QH s rows _ (by simpa[SV] using ho) h5
  |false=>exact h5
def ajR{H:Heap}{h:View}{s:Nat}{rows:List Row}{v:Value}{N:List Nat}(q:ow H h (.sl true s rows) v N):Qq H h false s rows v N:=by simpa[ow,Qq] using q
def ai0{H:Heap}{h:View}{s:Nat}{rows:List Row}{v:Value}{N:List Nat}(q:ow H h (.sl true s rows) v N):
  ∃N1 N2,N=N1++N2∧∀h',h.le h'->WS h' H N2->Qq H h' true s rows v N1:=by
 simp only[ow] at q;rcases q with⟨rfl,rfl,rfl⟩|⟨b,cap,cs,t,N',h1,h2,h3,h4,h5,rfl⟩
 ·exact⟨[],[],rfl,λ_ _ _=> .inl ⟨rfl,rfl,rfl⟩⟩
 ·exact⟨[b],N',rfl,λh' hl hs=> .inr ⟨b,cap,cs,t,[],h1,h2,h3,h4,⟨Gv hl s rows _ N' hs h5,rfl⟩,rfl⟩⟩
end Go.Vm
namespace Go.Vm
open Go
section
variable {base:Nat} {U:Nat->Prop} {w:World} {m:Mem} {G:GS}
def BG.kill(hg:BG base U w m G){r:Nat}{fl:Bool}{ver s:Nat}{rows:List Row}(hc:get r m=some (.arr false fl ver s rows))(hro:r ∉ G.out):
  BG base U w (put r .dead m) ⟨G.μ,U3 G.F r [],G.E++G.F r,G.out⟩∧QE m G (put r .dead m) ⟨G.μ,U3 G.F r [],G.E++G.F r,G.out⟩∧
   Qq (dO w) (Gh U w G) fl s rows (G.μ r) (G.F r):=by
 have h1:=hg.set r .dead G.μ [] (G.E++G.F r) G.out
  (by simpa using List.nodup_append.2 ⟨hg.ndE,hg.nd r,λa ha b hb e=>hg.YQ r b hb (e ▸ ha)⟩)
  (by simp;exact λb hb=>hb.symm) (DN (λ_ _=>rfl) (λc h=>by rw[hc] at h;cases h;trivial)) (λ_ _=>rfl) (λ_ _=>Iff.rfl) (λ_=>rfl) (λ_ _=>rfl)
 exact⟨h1.1,h1.2,hg.cell r _ hc hro⟩
def BG.freeze(hg:BG base U w m G){r:Nat}{fz fl:Bool}{ver s:Nat}{rows:List Row}(hc:get r m=some (.arr fz fl ver s rows))(hro:r ∉ G.out):
  BG base U w (put r (.arr true fl ver s rows) m) ⟨G.μ,U3 G.F r [],G.E,G.out⟩∧QE m G (put r (.arr true fl ver s rows) m) ⟨G.μ,U3 G.F r [],G.E,G.out⟩∧
   ro (Gh U w ⟨G.μ,U3 G.F r [],G.E,G.out⟩) (.sl true s rows) (G.μ r):=by
 have hle:CQ G.μ m G.μ (put r (.arr true fl ver s rows) m):=DN (λ_ _=>rfl) (λc h=>by rw[hc] at h;cases h;exact⟨Nat.le_refl _,rfl,λ_=>⟨rfl,rfl⟩⟩);have awz:(view w U (excl G.F G.E)).le (view w U (excl (U3 G.F r []) G.E))->ro (view w U (excl (U3 G.F r []) G.E)) (.sl true s rows) (G.μ r):=by
  intro hv;have hq:=hg.cell r _ hc hro;cases fz with
  |true=>exact DL hv _ _ hq.1
  |false=>
   refine aei hv (Gw λb hb=>⟨(hg.lt b (.inr ⟨r,hb⟩)).2.2, ?_⟩) hq true;rintro(hE|⟨k,hk⟩)
   ·exact hg.YQ r b hb hE
   ·by_cases e:k=r
    ·subst e;simp at hk
    ·rw[jm _ e] at hk;exact hg.dj r k (Ne.symm e) b hb hk
 have h1:=hg.set r (.arr true fl ver s rows) G.μ [] G.E G.out (by simpa using hg.ndE) (by simp;exact λb hb=> .inr hb) hle (λ_ _=>rfl) (λ_ _=>Iff.rfl) (λ_=>rfl)
  (λhv _=>⟨awz hv,rfl⟩)
 exact⟨h1.1,h1.2,awz h1.2.view⟩
def BG.asI(hg:BG base U w m G){k:Nat}(fl:Bool){s:Nat}{rows:List Row}{g:Value}{N E:List Nat}(hn:get k m=none)(hk:k ∉ G.out)(hE:(N++E).Perm G.E)
  (hq:ow (dO w) (Gh U w G) (.sl true s rows) g N):
  ∃F',BG base U w (put k (.arr false fl 0 s rows) m) ⟨upM G.μ k g,F',E,G.out⟩∧QE m G (put k (.arr false fl 0 s rows) m) ⟨upM G.μ k g,F',E,G.out⟩:=by
 have hnd:=hE.nodup_iff.2 hg.ndE;have hmem:∀b,b∈N++E->b∈G.E:=λb hb=>hE.mem_iff.1 hb
 have hμ:∀j,j≠k->upM G.μ k g j=G.μ j:=λj e=>Jq g e
 have hle:∀c',CQ G.μ m (upM G.μ k g) (put k c' m):=λc'=>DN hμ (λc h=>by rw[hn] at h;cases h)
 cases fl with
 |false=>refine⟨_,hg.set k (.arr false false 0 s rows) (upM G.μ k g) N E G.out hnd (λb hb=> .inr (hmem b hb)) (hle _) hμ (λ_ _=>Iff.rfl) (λh=>absurd h hk) (λhv _=> ?_)⟩;simp only[lS,G8];exact Gu hv (λ_ _=>rfl) (ajR hq)
 |true=>
  obtain⟨N1,N2,rfl,h2⟩:=ai0 hq;have hnd':(N1++E).Nodup:=by rw[AB] at hnd;have:=List.nodup_append.1 hnd;exact List.nodup_append.2 ⟨this.1,(List.nodup_append.1 this.2.1).2.1,λa ha b hb=>this.2.2 a ha b (by simp[hb])⟩
  refine⟨_,hg.set k (.arr false true 0 s rows) (upM G.μ k g) N1 E G.out hnd' (λb hb=> .inr (hmem b (by simp at hb⊢;rcases hb with h|h<;>simp[h]))) (hle _) hμ (λ_ _=>Iff.rfl) (λh=>absurd h hk) (λhv _=> ?_)⟩;simp only[lS,G8];refine h2 _ hv (Gw λb hb=>⟨(hg.lt b (.inl (hmem b (by simp[hb])))).2.2, ?_⟩);rw[AB] at hnd;have hd:=List.nodup_append.1 hnd;have hd2:=List.nodup_append.1 hd.2.1;rintro(hE'|⟨j,hj⟩)
  ·exact hd2.2.2 b hb b hE' rfl
  ·by_cases e:j=k
   ·subst e;rw[AO] at hj;exact hd.2.2 b hj b (by simp[hb]) rfl
   ·rw[jm _ e] at hj;exact hg.YQ j b hj (hmem b (by simp[hb]))
structure Jg(base:Nat)(U:Nat->Prop)(w:World)(m:Mem)(G:GS)(m':Mem)(G':GS)(N:List Nat):Prop where
 ok:BG base U w m' G'
 le:QE m G m' G'
 E:G'.E=G.E++N
 out:G'.out=G.out
 μ:G'.μ=G.μ
def Jg.same(hg:BG base U w m G):Jg base U w m G m G []:=⟨hg,QE.refl _ _,by simp,rfl,rfl⟩
def Jg.trans{m1 m2 m3:Mem}{G1 G2 G3:GS}{N N':List Nat}(a:Jg base U w m1 G1 m2 G2 N)(b:Jg base U w m2 G2 m3 G3 N'):Jg base U w m1 G1 m3 G3 (N++N'):=
 ⟨b.ok,a.le.trans b.le,by rw[b.E,a.E,AB],b.out.trans a.out,b.μ.trans a.μ⟩
def RS{H:Heap}{h h':View}(hl:h.le h'){x:D}{v:Value}{N:List Nat}(q:ow H h x v N):ow H h' x v N:=aeh hl x v N (λ_ _=>rfl) q
def amo(hg:BG base U w m G){v:V}{g:Value}(hv:aV G.μ m (Gh U w G) v g)(ho:G.out=[]){x:D}{m':Mem}{l l':Log}(h:(toD v).run m l=some (x,m',l')):
  ∃G' N,Jg base U w m G m' G' N∧ow (dO w) (Gh U w G') x g N:=by
 cases v with
 |d y=>simp only[toD,run_pure,gQ,je] at h;obtain⟨rfl,rfl,rfl⟩:=h;exact⟨G,[],Jg.same hg,amn (by simpa[aV] using hv)⟩
 |nil s=>simp only[toD,run_pure,gQ,je] at h;obtain⟨rfl,rfl,rfl⟩:=h;refine⟨G,[],Jg.same hg, ?_⟩;simp only[aV] at hv;simp[ow,hv]
 |own r ver=>
  simp only[toD] at h;replace h:=aj h;obtain⟨c,m1,l1,h1,h⟩:=h;rw[sV] at h1;cases h1;cases hc:get r m with
  |none=>rw[hc] at h;exact(ak h).elim
  |some c=>
   rw[hc] at h;cases c with
   |box _ _=>exact(ak h).elim
   |dead=>exact(ak h).elim
   |DF _ _ _=>exact(ak h).elim
   |mO _ _=>exact(ak h).elim
   |arr fz fl iK s rows=>
    simp only at h;replace h:=aj h;obtain⟨_,m2,l2,h1,h⟩:=h;obtain⟨hb,rfl,rfl⟩:=dY h1;have hb:=vU hb;subst hb;simp only[aV,hc] at hv;have hv:=hv.2.2 trivial;subst hv;have hro:r ∉ G.out:=by simp[ho]
    cases fz with
    |true=>simp only[run_pure,gQ,je] at h;obtain⟨rfl,rfl,rfl⟩:=h;refine⟨G,[],Jg.same hg, ?_⟩;have hq:=(hg.cell r _ hc hro).1;simp only[ow,true_and];exact Z7 hq
    |false=>simp only at h;replace h:=aj h;obtain⟨_,m2,l2,h1,h⟩:=h;obtain⟨hok,rfl,rfl⟩:=dY h1;replace h:=aj h;obtain⟨_,m3,l3,h1,h⟩:=h;rw[BA] at h1;cases h1;simp only[run_pure,gQ,je] at h;obtain⟨rfl,rfl,rfl⟩:=h;obtain⟨k1,k2,k3⟩:=hg.kill hc hro;exact⟨_,G.F r,⟨k1,k2,rfl,rfl,rfl⟩,RS k2.view (aej hok k3)⟩
 |ptr _ _=>exact(ak h).elim
 |tH _ _ _ _=>exact(ak h).elim
 |nZ _ _=>exact(ak h).elim
 |vV _=>exact(ak h).elim
 |clo _ _ _=>exact(ak h).elim
 |agg _=>exact(ak h).elim
 |yE _=>exact(ak h).elim
 |undef=>exact(ak h).elim
def lI{μ:Nat->Value}{h:View}{v:V}{vs:List V}{gs:List Value}(q:dJ μ m h (v::vs) gs):∃g gs',gs=g::gs'∧aV μ m h v g∧dJ μ m h vs gs':=by simpa[dJ] using q
def jK{μ:Nat->Value}{h:View}:∀{vs:List V} {gs:List Value},dJ μ m h vs gs->gs.length=vs.length
 |[],gs,q=>by simp[dJ] at q;simp[q]
 |v::vs,gs,q=>by obtain⟨g,gs',rfl,_,h3⟩:=lI q;simp[jK h3]
def Pn{H:Heap}{h h':View}(hl:h.le h'){x:Row}{v:List Value}{N:List Nat}(q:iw H h x v N):iw H h' x v N:=F8 hl x v N (λ_ _=>rfl) q
def afo{H:Heap}{h h':View}(hl:h.le h'){s:Nat}{x:List Row}{v:List Value}{N:List Nat}(q:fK H h s x v N):fK H h' s x v N:=wG hl s x v N (λ_ _=>rfl) q
def OA:∀{vs:List V} {gs:List Value} {m:Mem} {G:GS} (_:BG base U w m G) (_:dJ G.μ m (Gh U w G) vs gs) (_:G.out=[]) {xs:Row} {m':Mem} {l l':Log} (_:(Jj vs).run m l=some (xs,m',l')),
  ∃G' N,Jg base U w m G m' G' N∧iw (dO w) (Gh U w G') xs gs N∧xs.length=vs.length
 |[],gs,m,G,hg,hv,ho,xs,m',l,l',h=>by simp only[Jj,run_pure,gQ,je] at h;obtain⟨rfl,rfl,rfl⟩:=h;exact⟨G,[],Jg.same hg,by simp[iw],rfl⟩
 |v::vs,gs,m,G,hg,hv,ho,xs,m',l,l',h=>by obtain⟨g,gs',rfl,hv1,hv2⟩:=lI hv;simp only[Jj] at h;replace h:=aj h;obtain⟨x,m1,l1,h1,h⟩:=h;replace h:=aj h;obtain⟨ys,m2,l2,h2,h⟩:=h;simp only[run_pure,gQ,je] at h;obtain⟨rfl,rfl,rfl⟩:=h;obtain⟨G1,N1,t1,q1⟩:=amo hg hv1 ho h1;obtain⟨G2,N2,t2,q2,hlen⟩:=OA t1.ok (t1.le.dJ hv2) (t1.out.trans ho) h2;refine⟨G2,N1++N2,t1.trans t2, ?_,by simp[hlen]⟩;simp only[iw];exact⟨g,gs',N1,N2,rfl,rfl,RS t2.le.view q1,q2⟩
end
end Go.Vm
namespace Go.Vm
open Go
section
variable {base:Nat} {U:Nat->Prop} {w:World} {m:Mem} {G:GS}
def BG.look(hg:BG base U w m G){r:Nat}{fz fl:Bool}{ver s:Nat}{rows:List Row}(hc:get r m=some (.arr fz fl ver s rows))(hro:r ∉ G.out)(o:Bool):ro (full w) (.sl o s rows) (G.μ r):=by
 have hq:=hg.cell r _ hc hro;cases fz with
 |true=>exact QG (DL (qO _ _ _) _ _ hq.1)
 |false=>exact aei (qO _ _ _) acU hq o
def ajS(hg:BG base U w m G){v:V}{g:Value}(hv:aV G.μ m (Gh U w G) v g)(ho:G.out=[]){s:Nat}{rows:List Row}{m':Mem}{l l':Log}(h:(seen v).run m l=some ((s,rows),m',l')):
  m'=m∧ro (full w) (.sl false s rows) g:=by
 cases v with
 |d y=>
  cases y with
  |sl own s' rows'=>simp only[seen,run_pure,gQ,je] at h;obtain⟨⟨rfl,rfl⟩,rfl,rfl⟩:=h;simp only[aV] at hv;exact⟨rfl,QG (DL (qO _ _ _) _ _ hv)⟩
  |int _ _=>exact(ak h).elim
  |bool _=>exact(ak h).elim
  |str _=>exact(ak h).elim
  |Md=>exact(ak h).elim
 |nil s'=>simp only[seen,run_pure,gQ,je] at h;obtain⟨⟨rfl,rfl⟩,rfl,rfl⟩:=h;simp only[aV] at hv;exact⟨rfl,by simp[ro,hv]⟩
 |own r ver=>
  simp only[seen] at h;replace h:=aj h;obtain⟨c,m1,l1,h1,h⟩:=h;rw[sV] at h1;cases h1;cases hc:get r m with
  |none=>rw[hc] at h;exact(ak h).elim
  |some c=>
   rw[hc] at h;cases c with
   |box _ _=>exact(ak h).elim
   |dead=>exact(ak h).elim
   |DF _ _ _=>exact(ak h).elim
   |mO _ _=>exact(ak h).elim
   |arr fz fl iK s' rows'=>simp only at h;replace h:=aj h;obtain⟨_,m2,l2,h1,h⟩:=h;obtain⟨hb,rfl,rfl⟩:=dY h1;have hb:=vU hb;subst hb;simp only[run_pure,gQ,je] at h;obtain⟨⟨rfl,rfl⟩,rfl,rfl⟩:=h;simp only[aV,hc] at hv;have hv:=hv.2.2 trivial;subst hv;exact⟨rfl,Z7 (hg.look hc (by simp[ho]) true)⟩
 |ptr _ _=>exact(ak h).elim
 |tH _ _ _ _=>exact(ak h).elim
 |nZ _ _=>exact(ak h).elim
 |vV _=>exact(ak h).elim
 |clo _ _ _=>exact(ak h).elim
 |agg _=>exact(ak h).elim
 |yE _=>exact(ak h).elim
 |undef=>exact(ak h).elim
def wH(k:Nat):∀l:List Nat,mem? k l=true↔k∈l
 |[]=>by simp[mem?]
 |j::l=>by
  simp only[mem?,List.mem_cons]
  by_cases e:k=j
  ·subst e;simp
  ·rw[sU e];simp[e,wH k l]
def MB{k:Nat}{l:List Nat}(h:(!(mem? k l))=true):k ∉ l:=by intro hk;rw[(wH k l).2 hk] at h;cases h
def apR(hg:BG base U w m G){v:V}{g:Value}(hv:aV G.μ m (Gh U w G) v g){imp:List Nat}(ho:∀r,r∈G.out->r∈imp){own:Bool}{v':V}{m':Mem}{l l':Log}(h:(ame imp own v).run m l=some (v',m',l')):
  ∃G' N x,v'=.d x∧Jg base U w m G m' G' N∧ow (dO w) (Gh U w G') x g N∧∀k,k∈imp->get k m'=get k m:=by
 cases v with
 |d y=>simp only[ame,run_pure,gQ,je] at h;obtain⟨rfl,rfl,rfl⟩:=h;exact⟨G,[],_,rfl,Jg.same hg,amn (by simpa[aV] using hv),λ_ _=>rfl⟩
 |nil s=>simp only[ame,run_pure,gQ,je] at h;obtain⟨rfl,rfl,rfl⟩:=h;refine⟨G,[],_,rfl,Jg.same hg, ?_,λ_ _=>rfl⟩;simp only[aV] at hv;cases own<;>simp[ow,ro,hv]
 |own r ver=>
  simp only[ame] at h;replace h:=aj h;obtain⟨c,m1,l1,h1,h⟩:=h;rw[sV] at h1;cases h1;cases hc:get r m with
  |none=>rw[hc] at h;exact(ak h).elim
  |some c=>
   rw[hc] at h;cases c with
   |box _ _=>exact(ak h).elim
   |dead=>exact(ak h).elim
   |DF _ _ _=>exact(ak h).elim
   |mO _ _=>exact(ak h).elim
   |arr fz fl iK s rows=>
    simp only at h;replace h:=aj h;obtain⟨_,m2,l2,h1,h⟩:=h;obtain⟨hb,rfl,rfl⟩:=dY h1;have hb:=vU hb;subst hb;replace h:=aj h;obtain⟨_,m2,l2,h1,h⟩:=h;obtain⟨hi,rfl,rfl⟩:=dY h1;simp only[aV,hc] at hv;have hv:=hv.2.2 trivial;subst hv;have hro:r ∉ G.out:=λhr=>MB hi (ho r hr)
    have hni:∀k,k∈imp->k≠r:=λk hk e=>MB hi (e ▸ hk)
    cases own with
    |false=>simp only at h;replace h:=aj h;obtain⟨_,m3,l3,h1,h⟩:=h;rw[BA] at h1;cases h1;simp only[run_pure,gQ,je] at h;obtain⟨rfl,rfl,rfl⟩:=h;obtain⟨k1,k2,k3⟩:=hg.freeze hc hro;refine⟨_,[],_,rfl,⟨k1,k2,by simp,rfl,rfl⟩, ?_,λk hk=>kF (hni k hk) _ _⟩;simp only[ow,true_and];exact Z7 k3
    |true=>
     simp only at h;replace h:=aj h;obtain⟨_,m2,l2,h1,h⟩:=h;obtain⟨hfz,rfl,rfl⟩:=dY h1;replace h:=aj h;obtain⟨_,m2,l2,h1,h⟩:=h;obtain⟨hok,rfl,rfl⟩:=dY h1;have hfz:fz=false:=by simpa using hfz
     subst hfz;replace h:=aj h;obtain⟨_,m3,l3,h1,h⟩:=h;rw[BA] at h1;cases h1;simp only[run_pure,gQ,je] at h;obtain⟨rfl,rfl,rfl⟩:=h;obtain⟨k1,k2,k3⟩:=hg.kill hc hro;exact⟨_,G.F r,_,rfl,⟨k1,k2,rfl,rfl,rfl⟩,RS k2.view (aej hok k3),λk hk=>kF (hni k hk) _ _⟩
 |ptr _ _=>exact(ak h).elim
 |tH _ _ _ _=>exact(ak h).elim
 |nZ _ _=>exact(ak h).elim
 |vV _=>exact(ak h).elim
 |clo _ _ _=>exact(ak h).elim
 |agg _=>exact(ak h).elim
 |yE _=>exact(ak h).elim
 |undef=>exact(ak h).elim
def XY{imp own:List Nat}:∀{vs:List V} {gs:List Value} {m:Mem} {G:GS} {j:Nat} (_:BG base U w m G) (_:dJ G.μ m (Gh U w G) vs gs) (_:∀r,r∈G.out->r∈imp) {vs':List V} {m':Mem} {l l':Log}
  (_:(Qx imp own j vs).run m l=some (vs',m',l')),∃G' N xs,vs'=xs.map V.d∧xs.length=gs.length∧Jg base U w m G m' G' N∧iw (dO w) (Gh U w G') xs gs N∧∀k,k∈imp->get k m'=get k m
 |[],gs,m,G,j,hg,hv,ho,vs',m',l,l',h=>by simp only[Qx,run_pure,gQ,je] at h;obtain⟨rfl,rfl,rfl⟩:=h;simp only[dJ] at hv;subst hv;exact⟨G,[],[],rfl,rfl,Jg.same hg,by simp[iw],λ_ _=>rfl⟩
 |v::vs,gs,m,G,j,hg,hv,ho,vs',m',l,l',h=>by obtain⟨g,gs',rfl,hv1,hv2⟩:=lI hv;simp only[Qx] at h;replace h:=aj h;obtain⟨x,m1,l1,h1,h⟩:=h;replace h:=aj h;obtain⟨ys,m2,l2,h2,h⟩:=h;simp only[run_pure,gQ,je] at h;obtain⟨rfl,rfl,rfl⟩:=h;obtain⟨G1,N1,x1,rfl,t1,q1,i1⟩:=apR hg hv1 ho h1;obtain⟨G2,N2,xs,rfl,hlen,t2,q2,i2⟩:=XY t1.ok (t1.le.dJ hv2) (λr hr=>ho r (t1.out ▸ hr)) h2;refine⟨G2,N1++N2,x1::xs,rfl,by simp[hlen],t1.trans t2, ?_,λk hk=>(i2 k hk).trans (i1 k hk)⟩;simp only[iw];exact⟨g,gs',N1,N2,rfl,rfl,RS t2.le.view q1,q2⟩
def afp(H:Heap)(h:View):Cell->Value->List Nat->Prop
 | .box t vs,g,N=>∃b a xs N',g=.pointer (some ⟨b,0,none⟩)∧H b=some (.cells a t (0,0))∧vs=xs.map V.d∧xs.length=a.toList.length∧iw H h xs a.toList N'∧N=b::N'
 | .arr fz fl ver s rows,g,N=>fz=false∧ver=0∧Qq H h fl s rows g N
 | .dead,_,_=>False
 | .DF ..,_,_=>False
 | .mO ..,_,_=>False
def cellsB(H:Heap)(h:View):List Cell->List Value->List Nat->Prop
 |[],gs,N=>gs=[]∧N=[]
 |c::cs,gs,N=>∃g gs' N1 N2,gs=g::gs'∧N=N1++N2∧afp H h c g N1∧cellsB H h cs gs' N2
def Z9{H H':Heap}{h h':View}(hl:h.le h'){c:Cell}{g:Value}{N:List Nat}(hb:∀b,b∈N->H' b=H b)(q:afp H h c g N):afp H' h' c g N:=by
 cases c with
 |box t vs=>obtain⟨b,a,xs,N',h1,h2,h3,h4,h5,rfl⟩:=q;exact⟨b,a,xs,N',h1,by rw[hb b (by simp)];exact h2,h3,h4,F8 hl _ _ _ (λb' hb'=>hb b' (by simp[hb'])) h5,rfl⟩
 |arr fz fl ver s rows=>exact⟨q.1,q.2.1,Gu hl hb q.2.2⟩
 |dead=>exact q
 |DF _ _ _=>exact q
 |mO _ _=>exact q
def XZ{H H':Heap}{h h':View}(hl:h.le h'):∀{cs:List Cell} {gs:List Value} {N:List Nat},(∀b,b∈N->H' b=H b)->cellsB H h cs gs N->cellsB H' h' cs gs N
 |[],_,_,_,q=>q
 |c::cs,_,_,hb,⟨g,gs',N1,N2,h1,h2,h3,h4⟩=>by subst h2;exact⟨g,gs',N1,N2,h1,rfl,Z9 hl (λb hx=>hb b (by simp[hx])) h3,XZ hl (λb hx=>hb b (by simp[hx])) h4⟩
def BG.arw(hg:BG base U w m G){r:Nat}{c:Cell}(hc:get r m=some c)(hro:r ∉ G.out):
  BG base U w m ⟨G.μ,U3 G.F r [],G.E++G.F r,r::G.out⟩∧QE m G m ⟨G.μ,U3 G.F r [],G.E++G.F r,r::G.out⟩:=by
 have hex:∀b,excl (U3 G.F r []) (G.E++G.F r) b->excl G.F G.E b:=by
  rintro b (hb|⟨k,hb⟩)
  ·simp only[List.mem_append] at hb;rcases hb with h|h
   ·exact .inl h
   ·exact .inr ⟨r,h⟩
  ·by_cases e:k=r
   ·subst e;simp at hb
   ·rw[jm _ e] at hb;exact .inr ⟨k,hb⟩
 have hv:(view w U (excl G.F G.E)).le (view w U (excl (U3 G.F r []) (G.E++G.F r))):=LG (λ_ x=>x) hex;refine⟨show MInv base U m w G.μ (U3 G.F r []) (G.E++G.F r) (r::G.out) from ?_,⟨oJ _ _,hex⟩⟩;refine⟨?_, ?_, ?_, ?_,List.nodup_append.2 ⟨hg.ndE,hg.nd r,λa ha b hb e=>hg.YQ r b hb (e ▸ ha)⟩,λb hb=>hg.lt b (hex b hb),hg.up,hg.bs, ?_, ?_⟩
 ·intro k c hk hko;simp only[List.mem_cons,not_or] at hko;rw[jm _ hko.1];exact GZ (oJ _ _) hv rfl (λ_ _=>rfl) (hg.cell k c hk hko.2)
 ·intro k k' hne b hb hb'
  by_cases e:k=r
  ·subst e;simp at hb
  ·rw[jm _ e] at hb
   by_cases e':k'=r
   ·subst e';simp at hb'
   ·rw[jm _ e'] at hb';exact hg.dj _ _ hne b hb hb'
 ·intro k b hb hE
  by_cases e:k=r
  ·subst e;simp at hb
  ·rw[jm _ e] at hb;simp only[List.mem_append] at hE;rcases hE with h|h
   ·exact hg.YQ _ b hb h
   ·exact hg.dj _ _ e b hb h
 ·intro k
  by_cases e:k=r
  ·subst e;simp
  ·rw[jm _ e];exact hg.nd k
 ·intro k hk
  by_cases e:k=r
  ·subst e;simp
  ·rw[jm _ e];exact hg.none_ k hk
 ·intro k hk
  by_cases e:k=r
  ·subst e;simp
  ·rw[jm _ e];exact hg.out_ k (by simpa[e] using hk)
structure Out(base:Nat)(U:Nat->Prop)(w:World)(m:Mem)(G:GS)(m':Mem)(G':GS)(imp rs:List Nat)(N:List Nat):Prop where
 ok:BG base U w m' G'
 le:QE m G m' G'
 E:G'.E=G.E++N
 out:∀r,r∈G'.out↔r∈G.out∨r∈rs
 μ:G'.μ=G.μ
 here:∀k,k∈imp->get k m'=get k m
def sameKind:Cell->Cell->Prop
 | .box t _,.box t' _=>t=t'
 | .arr _ fl ver s _,.arr _ fl' iK s' _=>ver=0∧iK=0∧fl=fl'∧s=s'
 |_,_=>False
def kinds(m:Mem):List Nat->List Cell->Prop
 |[],cs=>cs=[]
 |r::rs,cs=>∃c c' cs',cs=c'::cs'∧get r m=some c∧sameKind c c'∧kinds m rs cs'
def Vf{m m':Mem}:∀{rs:List Nat} {cs:List Cell},(∀r,r∈rs->get r m'=get r m)->kinds m rs cs->kinds m' rs cs
 |[],_,_,q=>q
 |r::rs,_,h,⟨c,c',cs',h1,h2,h3,h4⟩=>⟨c,c',cs',h1,(h r (by simp)).trans h2,h3,Vf (λk hk=>h k (by simp[hk])) h4⟩
def WT{A:Adv}{imp:List Nat}:∀{rs:List Nat} {m:Mem} {G:GS} (_:BG base U w m G) (_:rs.Nodup) (_:∀r,r∈rs->r∈imp∧r ∉ G.out) (_:∀r,r∈G.out->r∈imp) {cs:List Cell} {m':Mem} {l l':Log}
  (_:(Qy A imp rs).run m l=some (cs,m',l')),∃G' N,Out base U w m G m' G' imp rs N∧cellsB (dO w) (Gh U w G') cs (rs.map G.μ) N∧kinds m rs cs
 |[],m,G,hg,hn,hr,ho,cs,m',l,l',h=>by simp only[Qy,run_pure,gQ,je] at h;obtain⟨rfl,rfl,rfl⟩:=h;exact⟨G,[],⟨hg,QE.refl _ _,by simp,λr=>by simp,rfl,λ_ _=>rfl⟩,⟨rfl,rfl⟩,rfl⟩
 |r::rs,m,G,hg,hn,hr,ho,cs,m',l,l',h=>by
  simp only[Qy] at h;replace h:=aj h;obtain⟨c,m1,l1,h1,h⟩:=h;rw[sV] at h1;cases h1;replace h:=aj h;obtain⟨c1,m1,l1,h1,h⟩:=h;replace h:=aj h;obtain⟨cs1,m2,l2,h2,h⟩:=h;simp only[run_pure,gQ,je] at h;obtain⟨rfl,rfl,rfl⟩:=h;have hri:=hr r (by simp);have hnr:=List.nodup_cons.1 hn;have step:∃G' N,Out base U w m G m1 G' imp [r] N∧afp (dO w) (Gh U w G') c1 (G.μ r) N∧∃c,get r m=some c∧sameKind c c1:=by
   cases hc:get r m with
   |none=>rw[hc] at h1;exact(ak h1).elim
   |some c=>
    rw[hc] at h1;have hq:=hg.cell r c hc hri.2;obtain⟨k1,k2⟩:=hg.arw hc hri.2;cases c with
    |dead=>exact(ak h1).elim
    |DF _ _ _=>exact(ak h1).elim
    |mO _ _=>exact(ak h1).elim
    |box t vs=>
     simp only[aee] at h1;replace h1:=aj h1;obtain⟨vs',m3,l3,h3,h1⟩:=h1;simp only[run_pure,gQ,je] at h1;obtain⟨rfl,rfl,rfl⟩:=h1;obtain⟨b,a,e1,e2,e3,e4⟩:=hq;obtain⟨G2,N2,xs,rfl,hlen,t2,q2,i2⟩:=XY k1 (k2.dJ e3) (λk hk=>by
      simp only[List.mem_cons] at hk;rcases hk with rfl|hk
      ·exact hri.1
      ·exact ho k hk) h3
     refine⟨G2,b::N2,⟨t2.ok,k2.trans t2.le,by rw[t2.E,e4];simp,λk=>by rw[t2.out];simp[or_comm],t2.μ,i2⟩,⟨b,a,xs,N2,e1,e2,rfl,hlen,q2,rfl⟩,_,rfl,rfl⟩
    |arr fz fl ver s rows=>
     simp only[aee] at h1;replace h1:=aj h1;obtain⟨_,m3,l3,h3,h1⟩:=h1;obtain⟨hfz,rfl,rfl⟩:=dY h3;replace h1:=aj h1;obtain⟨_,m3,l3,h3,h1⟩:=h1;obtain⟨hv0,rfl,rfl⟩:=dY h3;simp only[run_pure,gQ,je] at h1;obtain⟨rfl,rfl,rfl⟩:=h1;have hfz:fz=false:=by simpa using hfz
     subst hfz;have hv0:=vU hv0;subst hv0;refine⟨_,G.F r,⟨k1,k2,rfl,λk=>by simp[or_comm],rfl,λ_ _=>rfl⟩,⟨rfl,rfl,Gu k2.view (λ_ _=>rfl) hq⟩,_,rfl,rfl,rfl,rfl,rfl⟩
  obtain⟨G1,N1,o1,q1,c0,hc0,hk0⟩:=step;obtain⟨G2,N2,o2,q2,kd2⟩:=WT o1.ok hnr.2 (λk hk=>⟨(hr k (by simp[hk])).1,λhko=>by
   rcases(o1.out k).1 hko with h|h
   ·exact(hr k (by simp[hk])).2 h
   ·simp at h;subst h;exact hnr.1 hk⟩) (λk hk=>by
   rcases(o1.out k).1 hk with h|h
   ·exact ho k h
   ·simp at h;subst h;exact hri.1) h2
  refine⟨G2,N1++N2,⟨o2.ok,o1.le.trans o2.le,by rw[o2.E,o1.E,AB],λk=> ?_,o2.μ.trans o1.μ,λk hk=>(o2.here k hk).trans (o1.here k hk)⟩,⟨G.μ r,rs.map G.μ,N1,N2,rfl,rfl,Z9 o2.le.view (λ_ _=>rfl) q1,by rw[<-o1.μ];exact q2⟩,c0,c1,cs1,rfl,hc0,hk0,Vf (λk hk=>(o1.here k (hr k (by simp[hk])).1).symm) kd2⟩;rw[o2.out,o1.out];simp[or_assoc]
end
end Go.Vm
namespace Go.Vm
open Go
section
variable {base:Nat} {U:Nat->Prop} {w:World} {m:Mem} {G:GS}
def Vg{r:Nat}{l:List Nat}(h:l.Nodup):(aed r l).Nodup:=by
 unfold aed;cases hm:mem? r l with
 |true=>exact h
 |false=>
  have:r ∉ l:=λhr=>by rw[(wH r l).2 hr] at hm;cases hm
  exact List.nodup_append.2 ⟨h,by simp,λa ha b hb e=>by simp at hb;subst hb;subst e;exact this ha⟩
mutual
def Uf:∀(v:V) (I:List Nat),I.Nodup->(afl I v).Nodup
 | .ptr r _,I,h=>by simp only[afl];exact Vg h
 | .clo _ a b,I,h=>by simp only[afl];exact ND b _ (ND a _ h)
 | .agg cs,I,h=>by simp only[afl];exact ND cs _ h
 | .d _,I,h=>h
 | .nil _,I,h=>h
 | .own _ _,I,h=>h
 | .tH _ _ _ _,I,h=>h
 | .nZ _ _,I,h=>h
 | .vV v,I,h=>by simp only[afl];exact Uf v I h
 | .yE _,I,h=>h
 | .undef,I,h=>h
def ND:∀(vs:List V) (I:List Nat),I.Nodup->(acT I vs).Nodup
 |[],I,h=>h
 |v::vs,I,h=>by simp only[acT];exact ND vs _ (Uf v I h)
end
def S9(A:Adv)(f:Nat):∀(vs:List V) (i:Nat) (I:List Nat),I.Nodup->(LD A f i I vs).Nodup
 |[],_,I,h=>h
 |v::vs,i,I,h=>by
  simp only[LD];refine S9 A f vs _ _ ?_;split
  ·exact Vg h
  ·exact h
  ·exact Uf _ _ h
def LH(A:Adv)(f:Nat)(μ:Nat->Value)(m:Mem)(H:Heap)(h:View):Nat->List V->List Value->List Nat->Prop
 |_,[],gs,N=>gs=[]∧N=[]
 |i,v::vs,gs,N=>∃g gs' N1 N2,gs=g::gs'∧N=N1++N2∧(match zY A f i with
   |1=>∃x,v=.d x∧ow H h x g N1
   |_=>N1=[]∧aV μ m h v g)∧LH A f μ m H h (i+1) vs gs' N2
def OB{A:Adv}{f:Nat}{μ μ':Nat->Value}{m m':Mem}{H H':Heap}{h h':View}(hm:CQ μ m μ' m')(hl:h.le h'):∀{vs:List V} {i:Nat} {gs:List Value} {N:List Nat},(∀b,b∈N->H' b=H b)->
  LH A f μ m H h i vs gs N->LH A f μ' m' H' h' i vs gs N
 |[],_,_,_,_,q=>q
 |v::vs,i,gs,N,hb,q=>by
  simp only[LH] at q⊢;obtain⟨g,gs',N1,N2,rfl,rfl,h3,h4⟩:=q;refine⟨g,gs',N1,N2,rfl,rfl, ?_,OB hm hl (λb hx=>hb b (by simp[hx])) h4⟩;split at h3
  ·rename_i hmo;obtain⟨x,hx,hq⟩:=h3;exact⟨x,hx,aeh hl x g N1 (λb hx=>hb b (by simp[hx])) hq⟩
  ·exact⟨h3.1,vY hm hl v g h3.2⟩
def X3{A:Adv}{f:Nat}:∀{vs:List V} {gs:List Value} {m:Mem} {G:GS} {i:Nat} (_:BG base U w m G) (_:dJ G.μ m (Gh U w G) vs gs) (_:G.out=[]) {vs':List V} {m':Mem} {l l':Log}
  (_:(Ov A f i vs).run m l=some (vs',m',l')),∃G' N,Jg base U w m G m' G' N∧LH A f G'.μ m' (dO w) (Gh U w G') i vs' gs N
 |[],gs,m,G,i,hg,hv,ho,vs',m',l,l',h=>by simp only[Ov,run_pure,gQ,je] at h;obtain⟨rfl,rfl,rfl⟩:=h;simp only[dJ] at hv;exact⟨G,[],Jg.same hg,hv,rfl⟩
 |v::vs,gs,m,G,i,hg,hv,ho,vs',m',l,l',h=>by
  obtain⟨g,gs',rfl,hv1,hv2⟩:=lI hv;simp only[Ov] at h;replace h:=aj h;obtain⟨x,m1,l1,h1,h⟩:=h;replace h:=aj h;obtain⟨ys,m2,l2,h2,h⟩:=h;simp only[run_pure,gQ,je] at h;obtain⟨rfl,rfl,rfl⟩:=h;have step:∃G1 N1,Jg base U w m G m1 G1 N1∧(match zY A f i with
   |1=>∃y,x=.d y∧ow (dO w) (Gh U w G1) y g N1
   |_=>N1=[]∧aV G1.μ m1 (Gh U w G1) x g):=by
   split at h1
   ·rename_i hmo;replace h1:=aj h1;obtain⟨y,m3,l3,h3,h1⟩:=h1;simp only[run_pure,gQ,je] at h1;obtain⟨rfl,rfl,rfl⟩:=h1;obtain⟨G1,N1,t1,q1⟩:=amo hg hv1 ho h3;refine⟨G1,N1,t1, ?_⟩
    try rw[hmo]
    exact⟨y,rfl,q1⟩
   ·rename_i hmo;simp only[run_pure,gQ,je] at h1;obtain⟨rfl,rfl,rfl⟩:=h1;refine⟨G,[],Jg.same hg, ?_⟩
    first
     |exact⟨rfl,hv1⟩
     |split
      ·rename_i e;exact absurd e hmo
      ·exact⟨rfl,hv1⟩
  obtain⟨G1,N1,t1,q1⟩:=step;obtain⟨G2,N2,t2,q2⟩:=X3 t1.ok (t1.le.dJ hv2) (t1.out.trans ho) h2;refine⟨G2,N1++N2,t1.trans t2, ?_⟩;simp only[LH];refine⟨g,gs',N1,N2,rfl,rfl, ?_,q2⟩;split at q1
  ·obtain⟨y,hy,hq⟩:=q1;exact⟨y,hy,RS t2.le.view hq⟩
  ·exact⟨q1.1,t2.le.aV q1.2⟩
def aac:∀(cs:List Cell) (k i:Nat),get (kW+(k+i)) (oI k cs)=cs[i]?
 |[],_,_=>by simp[oI,get]
 |c::cs,k,0=>by simp[oI,get]
 |c::cs,k,i+1=>by simp only[oI,get];rw[sU (by omega)];simp only[dP,List.getElem?_cons_succ];rw[<-aac cs (k+1) i,show k+1+i=k+(i+1) from by omega]
def KJ(cs:List Cell)(i:Nat):get (kW+i) (oI 0 cs)=cs[i]? :=by
 have:=aac cs 0 i
 rwa [Nat.zero_add] at this
def impμ(hs:List Value):Nat->Value:=λk=>hs.getD (k - kW) undef
def Ug{r:Nat}:∀{l:List Nat} {k i:Nat},idxOf r k l=some i->k<=i∧l[i - k]? =some r
 |[],_,_,h=>by simp[idxOf] at h
 |j::l,k,i,h=>by
  simp only[idxOf] at h
  by_cases e:r=j
  ·subst e;simp at h;subst h;simp
  ·rw[sU e] at h;simp only[dP] at h;obtain⟨h1,h2⟩:=Ug h;refine⟨by omega, ?_⟩;rw[show i - k=(i - (k+1))+1 from by omega,List.getElem?_cons_succ];exact h2
def Vh{m:Mem}:∀{rs:List Nat} {cs:List Cell} {i r:Nat},kinds m rs cs->rs[i]? =some r->∃c c',get r m=some c∧cs[i]? =some c'∧sameKind c c'
 |[],_,_,_,_,h=>by simp at h
 |r::rs,_,0,r',⟨c,c',cs',h1,h2,h3,_⟩,h=>by simp at h;subst h;subst h1;exact⟨c,c',h2,rfl,h3⟩
 |r::rs,_,i+1,r',⟨c,c',cs',h1,h2,h3,h4⟩,h=>by subst h1;simp only[List.getElem?_cons_succ] at h⊢;exact Vh h4 h
def QI(U:Nat->Prop)(G:GS)(L:List Nat):Nat->Prop:=λb=>U b∧∀r,b∈G.F r->r∈L
def LJ{L:List Nat}:(Gh U w G).le (view w (QI U G L) (· ∈G.E)):=by
 intro b o v hv;unfold Gh view at hv;split at hv
 ·rename_i hc;unfold view;rw[if_pos ⟨⟨hc.1,λr hr=>absurd (.inr ⟨r,hr⟩) hc.2⟩,λhE=>hc.2 (.inl hE)⟩];exact hv
 ·cases hv
structure acW(base:Nat)(U:Nat->Prop)(w:World)(m:Mem)(G:GS)(imp:List Nat)(cells:List Cell):Prop where
 ok:BG base U w m G
 out:∀r,r∈G.out↔r∈imp
 kd:kinds m imp cells
def apS(hg:BG base U w m G){r:Nat}{fz fl:Bool}{ver s:Nat}{rows:List Row}(hc:get r m=some (.arr fz fl ver s rows))(hro:r ∉ G.out){L:List Nat}(hL:fz=false->r∈L)(o:Bool):
  ro (view w (QI U G L) (· ∈G.E)) (.sl o s rows) (G.μ r):=by
 have hq:=hg.cell r _ hc hro;cases fz with
 |true=>exact QG (DL LJ _ _ hq.1)
 |false=>
  refine aei LJ (Gw λb hb=>⟨⟨(hg.lt b (.inr ⟨r,hb⟩)).2.2,λk hk=> ?_⟩,hg.YQ r b hb⟩) hq o
  by_cases e:k=r
  ·rw[e];exact hL rfl
  ·exact absurd hk (hg.dj r k (Ne.symm e) b hb)
mutual
def Zm{imp:List Nat}{cells:List Cell}(C:acW base U w m G imp cells):∀{v:V} {g:Value} (_:aV G.μ m (Gh U w G) v g) {v':V} {lt:List Nat} {m':Mem} {l l':Log}
  (_:(lend imp v).run m l=some ((v',lt),m',l')),m'=m∧∀L:List Nat,(∀r,r∈lt->r∈L)->aV (impμ (imp.map G.μ)) (oI 0 cells) (view w (QI U G L) (· ∈G.E)) v' g
 | .d x,g,hv,v',lt,m',l,l',h=>by simp only[lend,run_pure,gQ,je] at h;obtain⟨⟨rfl,rfl⟩,rfl,rfl⟩:=h;refine⟨rfl,λL hL=> ?_⟩;simp only[aV] at hv⊢;exact DL LJ _ _ (amm hv)
 | .nil s,g,hv,v',lt,m',l,l',h=>by simp only[lend,run_pure,gQ,je] at h;obtain⟨⟨rfl,rfl⟩,rfl,rfl⟩:=h;refine⟨rfl,λL hL=> ?_⟩;simp only[aV] at hv⊢;simp[ro,hv]
 | .own r ver,g,hv,v',lt,m',l,l',h=>by
  simp only[lend] at h;replace h:=aj h;obtain⟨c,m1,l1,h1,h⟩:=h;rw[sV] at h1;cases h1;cases hc:get r m with
  |none=>rw[hc] at h;exact(ak h).elim
  |some c=>
   rw[hc] at h;cases c with
   |box _ _=>exact(ak h).elim
   |dead=>exact(ak h).elim
   |DF _ _ _=>exact(ak h).elim
   |mO _ _=>exact(ak h).elim
   |arr fz fl iK s rows=>
    simp only at h;replace h:=aj h;obtain⟨_,m2,l2,h1,h⟩:=h;obtain⟨hb,rfl,rfl⟩:=dY h1;have hb:=vU hb;subst hb;replace h:=aj h;obtain⟨_,m2,l2,h1,h⟩:=h;obtain⟨hi,rfl,rfl⟩:=dY h1;simp only[run_pure,gQ,je] at h;obtain⟨⟨rfl,rfl⟩,rfl,rfl⟩:=h;simp only[aV,hc] at hv;have hv:=hv.2.2 trivial;subst hv;refine⟨rfl,λL hL=> ?_⟩;have hro:r ∉ G.out:=λhr=>MB hi ((C.out r).1 hr)
    simp only[aV];exact Z7 (apS C.ok hc hro (λhf=>hL r (by subst hf;simp)) true)
 | .ptr r off,g,hv,v',lt,m',l,l',h=>by simp only[lend] at h;replace h:=aj h;obtain⟨i,m1,l1,h1,h⟩:=h;obtain⟨hi,rfl,rfl⟩:=gU h1;simp only[run_pure,gQ,je] at h;obtain⟨⟨rfl,rfl⟩,rfl,rfl⟩:=h;refine⟨rfl,λL hL=> ?_⟩;obtain⟨_,h2⟩:=Ug hi;rw[Nat.sub_zero] at h2;obtain⟨c,c',k1,k2,k3⟩:=Vh C.kd h2;simp only[aV,k1] at hv;simp only[aV,KJ,k2];refine⟨hv.1, ?_⟩;replace hv:=hv.2;cases c<;>cases c'<;>simp only[sameKind] at k3 hv⊢;obtain⟨b,e1,e2⟩:=hv;refine⟨b, ?_,e2⟩;simp only[impμ,Nat.add_sub_cancel_left,List.getD_eq_getElem?_getD,List.getElem?_map,h2,Jf,Option.getD_some,e1]
 | .nZ row off,g,hv,v',lt,m',l,l',h=>by simp only[lend,run_pure,gQ,je] at h;obtain⟨⟨rfl,rfl⟩,rfl,rfl⟩:=h;refine⟨rfl,λL hL=> ?_⟩;simp only[aV] at hv⊢;obtain⟨b,o,e1,e2⟩:=hv;exact⟨b,o,e1,Jp LJ row b o e2⟩
 | .vV v,g,hv,v',lt,m',l,l',h=>by simp only[lend] at h;replace h:=aj h;obtain⟨⟨a',la⟩,m1,l1,h1,h⟩:=h;simp only[run_pure,gQ,je] at h;obtain⟨⟨rfl,rfl⟩,rfl,rfl⟩:=h;simp only[aV] at hv;obtain⟨b,x,rfl,e2,e3⟩:=hv;obtain⟨hm1,q1⟩:=Zm C e3 h1;refine⟨hm1,λL hL=> ?_⟩;simp only[aV];exact⟨b,x,rfl,LJ _ _ _ e2,q1 L hL⟩
 | .clo f a b,g,hv,v',lt,m',l,l',h=>by simp only[lend] at h;replace h:=aj h;obtain⟨⟨a',la⟩,m1,l1,h1,h⟩:=h;simp only at h;replace h:=aj h;obtain⟨⟨b',lb⟩,m2,l2,h2,h⟩:=h;simp only[run_pure,gQ,je] at h;obtain⟨⟨rfl,rfl⟩,rfl,rfl⟩:=h;simp only[aV] at hv;obtain⟨x,y,rfl,e2,e3⟩:=hv;obtain⟨hm1,q1⟩:=Vj C e2 h1;rw[hm1] at h2;obtain⟨hm2,q2⟩:=Vj C e3 h2;refine⟨hm2,λL hL=> ?_⟩;simp only[aV];exact⟨x,y,rfl,q1 L (λr hr=>hL r (by simp[hr])),q2 L (λr hr=>hL r (by simp[hr]))⟩
 | .agg cs,g,hv,v',lt,m',l,l',h=>by simp only[lend] at h;replace h:=aj h;obtain⟨⟨a',la⟩,m1,l1,h1,h⟩:=h;simp only[run_pure,gQ,je] at h;obtain⟨⟨rfl,rfl⟩,rfl,rfl⟩:=h;simp only[aV] at hv;obtain⟨x,rfl,e2⟩:=hv;obtain⟨hm1,q1⟩:=Vj C e2 h1;refine⟨hm1,λL hL=> ?_⟩;simp only[aV];exact⟨x,rfl,q1 L hL⟩
 | .tH _ _ _ _,g,hv,v',lt,m',l,l',h=>(ak h).elim
 | .yE _,g,hv,v',lt,m',l,l',h=>(ak h).elim
 | .undef,g,hv,v',lt,m',l,l',h=>(ak h).elim
def Vj{imp:List Nat}{cells:List Cell}(C:acW base U w m G imp cells):∀{vs:List V} {gs:List Value} (_:dJ G.μ m (Gh U w G) vs gs) {vs':List V} {lt:List Nat} {m':Mem} {l l':Log}
  (_:(ZU imp vs).run m l=some ((vs',lt),m',l')),m'=m∧∀L:List Nat,(∀r,r∈lt->r∈L)->dJ (impμ (imp.map G.μ)) (oI 0 cells) (view w (QI U G L) (· ∈G.E)) vs' gs
 |[],gs,hv,v',lt,m',l,l',h=>by simp only[ZU,run_pure,gQ,je] at h;obtain⟨⟨rfl,rfl⟩,rfl,rfl⟩:=h;simp only[dJ] at hv;subst hv;exact⟨rfl,λ_ _=>by simp[dJ]⟩
 |v::vs,gs,hv,v',lt,m',l,l',h=>by obtain⟨g,gs',rfl,hv1,hv2⟩:=lI hv;simp only[ZU] at h;replace h:=aj h;obtain⟨⟨a',la⟩,m1,l1,h1,h⟩:=h;simp only at h;replace h:=aj h;obtain⟨⟨b',lb⟩,m2,l2,h2,h⟩:=h;simp only[run_pure,gQ,je] at h;obtain⟨⟨rfl,rfl⟩,rfl,rfl⟩:=h;obtain⟨hm1,q1⟩:=Zm C hv1 h1;rw[hm1] at h2;obtain⟨hm2,q2⟩:=Vj C hv2 h2;refine⟨hm2,λL hL=> ?_⟩;simp only[dJ];exact⟨g,gs',rfl,q1 L (λr hr=>hL r (by simp[hr])),q2 L (λr hr=>hL r (by simp[hr]))⟩
end
def Vk{imp:List Nat}{cells:List Cell}(C:acW base U w m G imp cells):∀{vs:List V} {gs:List Value} (_:dJ G.μ m (Gh U w G) vs gs) {row:Row} {lt:List Nat} {m':Mem} {l l':Log}
  (_:(Ox imp vs).run m l=some ((row,lt),m',l')),m'=m∧∀L:List Nat,(∀r,r∈lt->r∈L)->iD (view w (QI U G L) (· ∈G.E)) row gs
 |[],gs,hv,row,lt,m',l,l',h=>by simp only[Ox,run_pure,gQ,je] at h;obtain⟨⟨rfl,rfl⟩,rfl,rfl⟩:=h;exact⟨rfl,λ_ _=>by simp[iD]⟩
 |v::vs,gs,hv,row,lt,m',l,l',h=>by
  obtain⟨g,gs',rfl,hv1,hv2⟩:=lI hv;simp only[Ox] at h;replace h:=aj h;obtain⟨⟨a',la⟩,m1,l1,h1,h⟩:=h;obtain⟨hm1,q1⟩:=Zm C hv1 h1;cases a' with
  |d x=>simp only at h;replace h:=aj h;obtain⟨⟨b',lb⟩,m2,l2,h2,h⟩:=h;simp only[run_pure,gQ,je] at h;obtain⟨⟨rfl,rfl⟩,rfl,rfl⟩:=h;rw[hm1] at h2;obtain⟨hm2,q2⟩:=Vk C hv2 h2;refine⟨hm2,λL hL=> ?_⟩;have:=q1 L (λr hr=>hL r (by simp[hr]));simp only[aV] at this;exact⟨g,gs',rfl,this,q2 L (λr hr=>hL r (by simp[hr]))⟩
  |_=>exact(ak h).elim
def ai1{imp:List Nat}{cells:List Cell}(C:acW base U w m G imp cells){v:V}{g:Value}(hv:aV G.μ m (Gh U w G) v g){v':V}{lt:List Nat}{m':Mem}{l l':Log}
  (h:(Zl imp v).run m l=some ((v',lt),m',l')):m'=m∧∀L:List Nat,(∀r,r∈lt->r∈L)->aV (impμ (imp.map G.μ)) (oI 0 cells) (view w (QI U G L) (· ∈G.E)) v' g:=by
 cases v with
 |ptr r off=>
  simp only[Zl] at h;replace h:=aj h;obtain⟨c,m1,l1,h1,h⟩:=h;rw[sV] at h1;cases h1;cases hc:get r m with
  |none=>rw[hc] at h;exact(ak h).elim
  |some c=>
   rw[hc] at h;cases c with
   |box t cs=>
    simp only at h;replace h:=aj h;obtain⟨_,m2,l2,h1,h⟩:=h;obtain⟨hi,rfl,rfl⟩:=dY h1;replace h:=aj h;obtain⟨⟨row,la⟩,m2,l2,h1,h⟩:=h;simp only[run_pure,gQ,je] at h;obtain⟨⟨rfl,rfl⟩,rfl,rfl⟩:=h;have hro:r ∉ G.out:=λhr=>MB hi ((C.out r).1 hr)
    obtain⟨b,a,e1,e2,e3,e4⟩:=C.ok.cell r _ hc hro;obtain⟨hm,q⟩:=Vk C e3 h1;refine⟨hm,λL hL=> ?_⟩;simp only[aV,hc] at hv⊢;obtain⟨b',e5,e6⟩:=hv.2;rw[e1] at e5;cases e5;refine⟨b,0,by rw[Nat.zero_add];exact e6,Ud row 0 a.toList (λj u hj=> ?_) (q L (λk hk=>hL k (by simp[hk])))⟩;rw[Nat.zero_add];have hb:b∈G.F r:=by rw[e4];simp
    refine Gw (N:=[b]) (λb' hb'=> ?_) b (by simp) a t _ e2 j u hj;simp only[List.mem_singleton] at hb';subst hb';refine⟨⟨(C.ok.lt _ (.inr ⟨r,hb⟩)).2.2,λk hk=> ?_⟩,C.ok.YQ r _ hb⟩
    by_cases e:k=r
    ·rw[e];exact hL r (by simp)
    ·exact absurd hk (C.ok.dj r k (Ne.symm e) _ hb)
   |_=>exact(ak h).elim
 |nZ row off=>simp only[Zl,run_pure,gQ,je] at h;obtain⟨⟨rfl,rfl⟩,rfl,rfl⟩:=h;refine⟨rfl,λL hL=> ?_⟩;simp only[aV] at hv⊢;obtain⟨b,o,e1,e2⟩:=hv;exact⟨b,o,e1,Jp LJ row b o e2⟩
 |_=>exact(ak h).elim
def X4{A:Adv}{f:Nat}{imp:List Nat}{cells:List Cell}(C:acW base U w m G imp cells):
  ∀{vs:List V} {gs:List Value} {i:Nat} {N:List Nat} (_:LH A f G.μ m (dO w) (Gh U w G) i vs gs N) {vs':List V} {lt:List Nat} {m':Mem} {l l':Log}
  (_:(Oy A imp f i vs).run m l=some ((vs',lt),m',l')),m'=m∧∀L:List Nat,(∀r,r∈lt->r∈L)->LH A f (impμ (imp.map G.μ)) (oI 0 cells) (dO w) (view w (QI U G L) (· ∈G.E)) i vs' gs N
 |[],gs,i,N,hv,v',lt,m',l,l',h=>by simp only[Oy,run_pure,gQ,je] at h;obtain⟨⟨rfl,rfl⟩,rfl,rfl⟩:=h;exact⟨rfl,λ_ _=>hv⟩
 |v::vs,gs,i,N,hv,v',lt,m',l,l',h=>by
  simp only[LH] at hv;obtain⟨g,gs',N1,N2,rfl,rfl,hv1,hv2⟩:=hv;simp only[Oy] at h;replace h:=aj h;obtain⟨⟨a',la⟩,m1,l1,h1,h⟩:=h;simp only at h;replace h:=aj h;obtain⟨⟨b',lb⟩,m2,l2,h2,h⟩:=h;simp only[run_pure,gQ,je] at h;obtain⟨⟨rfl,rfl⟩,rfl,rfl⟩:=h;have step:m1=m∧∀L:List Nat,(∀r,r∈la->r∈L)->(match zY A f i with
   |1=>∃x,a'=.d x∧ow (dO w) (view w (QI U G L) (· ∈G.E)) x g N1
   |_=>N1=[]∧aV (impμ (imp.map G.μ)) (oI 0 cells) (view w (QI U G L) (· ∈G.E)) a' g):=by
   split at h1
   ·rename_i hmo;rw[hmo] at hv1⊢;simp only[run_pure,gQ,je] at h1;obtain⟨⟨rfl,rfl⟩,rfl,rfl⟩:=h1;refine⟨rfl,λL hL=> ?_⟩;obtain⟨x,hx,hq⟩:=hv1;exact⟨x,hx,RS LJ hq⟩
   ·rename_i hmo;rw[hmo] at hv1⊢;obtain⟨hN,hv1⟩:=hv1;cases v with
    |own r ver=>simp only at h1;replace h1:=aj h1;obtain⟨_,m3,l3,h3,h1⟩:=h1;obtain⟨hb,rfl,rfl⟩:=dY h3;have hb:=vU hb;subst hb;replace h1:=aj h1;obtain⟨j,m3,l3,h3,h1⟩:=h1;obtain⟨hj,rfl,rfl⟩:=gU h3;simp only[run_pure,gQ,je] at h1;obtain⟨⟨rfl,rfl⟩,rfl,rfl⟩:=h1;refine⟨rfl,λL hL=>⟨hN, ?_⟩⟩;obtain⟨_,h2⟩:=Ug hj;rw[Nat.sub_zero] at h2;obtain⟨c,c',k1,k2,k3⟩:=Vh C.kd h2;simp only[aV,k1] at hv1;simp only[aV,KJ,k2];refine⟨hv1.1, ?_⟩;replace hv1:=hv1.2;cases c<;>cases c'<;>simp only[sameKind] at k3 hv1⊢;refine⟨by omega,λ_=> ?_⟩;simp only[impμ,Nat.add_sub_cancel_left,List.getD_eq_getElem?_getD,List.getElem?_map,h2,Jf,Option.getD_some];exact hv1.2 k3.1.symm
    |d _=>exact(ak h1).elim
    |nil _=>exact(ak h1).elim
    |ptr _ _=>exact(ak h1).elim
    |tH _ _ _ _=>exact(ak h1).elim
    |nZ _ _=>exact(ak h1).elim
    |vV _=>exact(ak h1).elim
    |clo _ _ _=>exact(ak h1).elim
    |agg _=>exact(ak h1).elim
    |yE _=>exact(ak h1).elim
    |undef=>exact(ak h1).elim
   ·rename_i hmo;rw[hmo] at hv1⊢;obtain⟨hN,hv1⟩:=hv1;cases v with
    |nil s=>simp only[run_pure,gQ,je] at h1;obtain⟨⟨rfl,rfl⟩,rfl,rfl⟩:=h1;exact⟨rfl,λL hL=>⟨hN,hv1⟩⟩
    |d _=>exact(ak h1).elim
    |own _ _=>exact(ak h1).elim
    |ptr _ _=>exact(ak h1).elim
    |tH _ _ _ _=>exact(ak h1).elim
    |nZ _ _=>exact(ak h1).elim
    |vV _=>exact(ak h1).elim
    |clo _ _ _=>exact(ak h1).elim
    |agg _=>exact(ak h1).elim
    |yE _=>exact(ak h1).elim
    |undef=>exact(ak h1).elim
   ·rename_i hmo;rw[hmo] at hv1⊢;obtain⟨hN,hv1⟩:=hv1;obtain⟨rfl,q⟩:=ai1 C hv1 h1;exact⟨rfl,λL hL=>⟨hN,q L hL⟩⟩
   ·rename_i amq aRz aRA aRB;have hm1:∀(α:Prop) (β:Prop),(match zY A f i with|1=>α|_=>β)=β:=by
     intro α β;split
     ·rename_i e;exact absurd e amq
     ·rfl
    rw[hm1] at hv1;obtain⟨hN,hv1⟩:=hv1;obtain⟨rfl,q⟩:=Zm C hv1 h1;refine⟨rfl,λL hL=> ?_⟩;rw[hm1];exact⟨hN,q L hL⟩
  obtain⟨hm1,q1⟩:=step;rw[hm1] at h2;obtain⟨hm2,q2⟩:=X4 C hv2 h2;refine⟨hm2,λL hL=> ?_⟩;simp only[LH];exact⟨g,gs',N1,N2,rfl,rfl,q1 L (λr hr=>hL r (by simp[hr])),q2 L (λr hr=>hL r (by simp[hr]))⟩
end
end Go.Vm
namespace Go.Vm
open Go
def L8{w:World}{U X:Nat->Prop}{b o:Nat}{v:Value}(h:view w U X b o=some v):U b∧¬X b∧w.cell? ⟨b,o,none⟩=some v:=by
 unfold view at h;split at h
 ·rename_i hc;exact⟨hc.1,hc.2,h⟩
 ·cases h
def Zn{w:World}{U X:Nat->Prop}{b o:Nat}{v:Value}(h1:U b)(h2:¬X b)(h3:w.cell? ⟨b,o,none⟩=some v):view w U X b o=some v:=by unfold view;rw[if_pos ⟨h1,h2⟩];exact h3
def cell_of_heap{w w':World}{b:Nat}(h:w'.heap[b]? =w.heap[b]?)(o:Nat):w'.cell? ⟨b,o,none⟩=w.cell? ⟨b,o,none⟩:=by simp[World.cell?,h]
def lt_of_cell{w:World}{b o:Nat}{v:Value}(h:w.cell? ⟨b,o,none⟩=some v):b<w.heap.size:=by have:=block_lt_of_cell h;simpa using this
section
variable {base:Nat} {U:Nat->Prop} {w w':World} {m:Mem} {G:GS}
def BG.world(hg:BG base U w m G)(hk:Keep G.E w w'){E':List Nat}(hn:E'.Nodup)(hE:∀b,b∈E'->(b∈G.E∨w.heap.size<=b)∧b<w'.heap.size):
  BG base U w' m {G with E:=E'}∧(Gh U w G).le (Gh U w' {G with E:=E'}):=by
 have hnE:∀b,b<w.heap.size->b ∉ G.E->b ∉ E':=λb hb hx he=>by
  rcases(hE b he).1 with h|h
  ·exact hx h
  ·omega
 have hF:∀r b,b∈G.F r->w'.heap[b]? =w.heap[b]? :=λr b hb=>hk.block b (hg.lt b (.inr ⟨r,hb⟩)).1 (hg.YQ r b hb)
 have hle:(Gh U w G).le (Gh U w' {G with E:=E'}):=by
  intro b o v hv;obtain⟨h1,h2,h3⟩:=L8 hv;have hlt:=lt_of_cell h3;have hbE:b ∉ G.E:=λh=>h2 (.inl h)
  refine Zn h1 ?_ ((cell_of_heap (hk.block b hlt hbE) o).trans h3);rintro(h|h)
  ·exact hnE b hlt hbE h
  ·exact h2 (.inr h)
 refine⟨⟨?_,hg.dj,λr b hb=>hnE b (hg.lt b (.inr ⟨r,hb⟩)).1 (hg.YQ r b hb),hg.nd,hn, ?_,λb hb=>hg.up b (Nat.le_trans hk.size hb),Nat.le_trans hg.bs hk.size,hg.none_,hg.out_⟩,hle⟩
 ·intro r c hc ho;exact GZ (oJ _ _) hle rfl (λb hb=>hF r b hb) (hg.cell r c hc ho)
 ·rintro b (h|⟨r,h⟩)
  ·refine⟨(hE b h).2, ?_⟩;rcases(hE b h).1 with h'|h'
   ·exact(hg.lt b (.inl h')).2
   ·exact⟨Nat.le_trans hg.bs h',hg.up b h'⟩
  ·have:=hg.lt b (.inr ⟨r,h⟩);exact⟨Nat.lt_of_lt_of_le this.1 hk.size,this.2⟩
def acX:∀{L:List Nat} {m:Mem} {G:GS} (_:BG base U w m G) (_:∀r,r∈L->r ∉ G.out) {x:Unit} {m':Mem} {l l':Log} (_:(freeze L).run m l=some (x,m',l')),
  ∃F',BG base U w m' ⟨G.μ,F',G.E,G.out⟩∧QE m G m' ⟨G.μ,F',G.E,G.out⟩∧(∀r,r∈L->F' r=[])∧(∀r,F' r=[]∨F' r=G.F r)∧(∀k,k ∉ L->get k m'=get k m)
 |[],m,G,hg,ho,x,m',l,l',h=>by simp only[Vm.freeze,run_pure,gQ,je] at h;obtain⟨_,rfl,rfl⟩:=h;exact⟨G.F,hg,QE.refl _ _,by simp,λr=> .inr rfl,λ_ _=>rfl⟩
 |r::L,m,G,hg,ho,x,m',l,l',h=>by
  simp only[Vm.freeze] at h;replace h:=aj h;obtain⟨c,m1,l1,h1,h⟩:=h;rw[sV] at h1;cases h1;cases hc:get r m with
  |none=>rw[hc] at h;exact(ak h).elim
  |some c=>
   rw[hc] at h;cases c with
   |box _ _=>exact(ak h).elim
   |dead=>exact(ak h).elim
   |DF _ _ _=>exact(ak h).elim
   |mO _ _=>exact(ak h).elim
   |arr fz fl ver s rows=>
    replace h:=aj h;obtain⟨_,m1,l1,h1,h⟩:=h;simp only[BA,gQ,je] at h1;obtain⟨_,rfl,rfl⟩:=h1;obtain⟨k1,k2,_⟩:=hg.freeze hc (ho r (by simp));obtain⟨F',q1,q2,q3,q4,q5⟩:=acX k1 (λk hk=>ho k (by simp[hk])) h;refine⟨F',q1,k2.trans q2, ?_, ?_, ?_⟩
    ·intro k hk;simp only[List.mem_cons] at hk;rcases hk with rfl|hk
     ·rcases q4 k with e|e
      ·exact e
      ·rw[e];simp
     ·exact q3 k hk
    ·intro k;rcases q4 k with e|e
     ·exact .inl e
     ·by_cases ek:k=r
      ·subst ek;rw[e];left;simp
      ·have e':F' k=U3 G.F r [] k:=e;rw[e',jm _ ek];exact .inr rfl
    ·intro k hk;simp only[List.mem_cons,not_or] at hk;rw[q5 k hk.2,kF hk.1]
def aad{k:IntKind}{x:D}{n:Int}(h:asInt k x=some n):x=.int k n:=by
 cases x<;>simp[asInt] at h;rename_i k' n'
 by_cases e:k'=k
 ·subst e;simp at h;subst h;rfl
 ·simp[e] at h
def X5{x:D}{b:Bool}(h:asBool x=some b):x=.bool b:=by cases x<;>simp[asBool] at h;subst h;rfl
def aae{x:D}{b:List UInt8}(h:acR x=some b):x=.str b:=by cases x<;>simp[acR] at h;subst h;rfl
def acY{s:Nat}{x:D}{rows:List Row}(h:al8 s x=some rows):∃o,x=.sl o s rows:=by
 cases x<;>simp[al8] at h;rename_i o s' rows'
 by_cases e:s'=s
 ·subst e;simp at h;subst h;exact⟨o,rfl⟩
 ·rw[sU e] at h;simp at h
def aaf{s:Nat}{x:D}{rows:List Row}(h:ajP s x=some rows):x=.sl true s rows:=by
 cases x<;>simp[ajP] at h;rename_i o s' rows';cases o<;>simp at h
 by_cases e:s'=s
 ·subst e;simp at h;subst h;rfl
 ·rw[sU e] at h;simp at h
def afq{row:Row}{j:Nat}{x:D}{r:Row}(h:row.drop j=x::r):nth row j=x∧row.drop (j+1)=r:=by
 have h1:row[j]? =some x:=by
  have:(row.drop j)[0]? =some x:=by rw[h];rfl
  rwa [List.getElem?_drop,Nat.add_zero] at this
 refine⟨by simp[nth,h1], ?_⟩;rw[<-List.drop_drop,h];rfl
def BG.aag(hg:BG base U w m G){N E:List Nat}(hE:(N++E).Perm G.E):BG base U w m {G with E:=E}∧QE m G m {G with E:=E}∧∀{x:D} {g:Value},ow (dO w) (Gh U w G) x g N->ro (Gh U w {G with E:=E}) x g:=by
 have hnd:=hE.nodup_iff.2 hg.ndE;have hmem:∀b,b∈N++E->b∈G.E:=λb hb=>hE.mem_iff.1 hb
 obtain⟨h1,h2⟩:=hg.less E (List.nodup_append.1 hnd).2.1 (λb hb=>hmem b (by simp[hb]));refine⟨h1,h2,fun{x g} q=>arv h2.view x g N (Gw λb hb=>⟨(hg.lt b (.inl (hmem b (by simp[hb])))).2.2, ?_⟩) q⟩;rintro(h|⟨r,h⟩)
 ·exact(List.nodup_append.1 hnd).2.2 b hb b h rfl
 ·exact hg.YQ r b h (hmem b (by simp[hb]))
structure Grew(base:Nat)(U:Nat->Prop)(w:World)(m:Mem)(G:GS)(m':Mem)(G':GS)(E:List Nat):Prop where
 ok:BG base U w m' G'
 le:QE m G m' G'
 E:G'.E=E
 out:G'.out=G.out
 old:∀k c,get k m=some c->get k m'=some c
 μ:∀k c,get k m=some c->G'.μ k=G.μ k
def Grew.trans{m1 m2 m3:Mem}{G1 G2 G3:GS}{E E':List Nat}(a:Grew base U w m1 G1 m2 G2 E)(b:Grew base U w m2 G2 m3 G3 E'):Grew base U w m1 G1 m3 G3 E':=
 ⟨b.ok,a.le.trans b.le,b.E,b.out.trans a.out,λk c h=>b.old k c (a.old k c h),λk c h=>(b.μ k c (a.old k c h)).trans (a.μ k c h)⟩
def Vl{k:Nat}{c:Cell}{x:Unit}{m':Mem}{l l':Log}(h:(new k c).run m l=some (x,m',l')):get k m=none∧m'=put k c m:=by
 simp only[new] at h;replace h:=aj h;obtain⟨_,m1,l1,h1,h⟩:=h;simp only[free] at h1;replace h1:=aj h1;obtain⟨c',m2,l2,h2,h1⟩:=h1;rw[sV] at h2;cases h2;cases hc:get k m with
 |some c=>rw[hc] at h1;exact(ak h1).elim
 |none=>rw[hc] at h1;simp only[run_pure,gQ,je] at h1;obtain⟨_,rfl,rfl⟩:=h1;simp only[BA,gQ,je] at h;exact⟨rfl,h.2.1.symm⟩
def acZ(hg:BG base U w m G)(ho:∀r,r∈G.out->∃c,get r m=some c){k:Nat}{fl:Bool}{s:Nat}{rows:List Row}{g:Value}{N E:List Nat}(hE:(N++E).Perm G.E)
  (hq:ow (dO w) (Gh U w G) (.sl true s rows) g N) {x:Unit} {m':Mem} {l l':Log} (h:(new k (.arr false fl 0 s rows)).run m l=some (x,m',l')):
  ∃G',Grew base U w m G m' G' E∧aV G'.μ m' (Gh U w G') (.own k 0) g:=by
 obtain⟨hn,rfl⟩:=Vl h;have hk:k ∉ G.out:=λhx=>by obtain⟨c,hc⟩:=ho k hx;rw[hn] at hc;cases hc
 obtain⟨F',h1,h2⟩:=hg.asI fl hn hk hE hq;refine⟨_,⟨h1,h2,rfl,rfl,λj c hj=> ?_,λj c hj=> ?_⟩, ?_⟩
 ·have hne:j≠k:=λe=>by subst e;rw[hn] at hj;cases hj
  rw[kF hne];exact hj
 ·exact Jq _ (λe=>by subst e;rw[hn] at hj;cases hj)
 ·have:Oz g:=by simp only[ow] at hq;rcases hq with⟨_,rfl,_⟩|⟨b,cap,cs,t,N',rfl,_⟩<;>exact⟨_,_,_,rfl⟩
  simp[aV,iV,this]
def X6(hg:BG base U w m G)(ho:∀r,r∈G.out->∃c,get r m=some c){row:Row}{j:Nat}{x:D}{g:Value}{N E:List Nat}(hE:(N++E).Perm G.E)(hx:nth row j=x)
  (hq:ow (dO w) (Gh U w G) x g N) {ct:CT} {own fl:Bool} {key:Nat} {v:V} {m':Mem} {l l':Log}
  (h:(KH own fl key row j ct).run m l=some (v,m',l')):
  ∃G',Grew base U w m G m' G' E∧aV G'.μ m' (Gh U w G') v g:=by
 obtain⟨d1,d2,d3⟩:=hg.aag hE;have plain:Grew base U w m G m {G with E:=E} E:=⟨d1,d2,rfl,rfl,λ_ _ h=>h,λ_ _ _=>rfl⟩
 have hro:=d3 hq;cases ct with
 |int k=>
  simp only[KH,eu,hx,Acc.run] at h;cases ha:asInt k x with
  |none=>simp[ha,Acc.run] at h
  |some n=>simp only[ha,Acc.run,gQ,je] at h;obtain⟨rfl,rfl,rfl⟩:=h;refine⟨_,plain, ?_⟩;rw[aad ha] at hro;simpa[aV] using hro
 |bool=>
  simp only[KH,Ji,hx,Acc.run] at h;cases ha:asBool x with
  |none=>simp[ha,Acc.run] at h
  |some n=>simp only[ha,Acc.run,gQ,je] at h;obtain⟨rfl,rfl,rfl⟩:=h;refine⟨_,plain, ?_⟩;rw[X5 ha] at hro;simpa[aV] using hro
 |str=>
  simp only[KH,cStr,hx,Acc.run] at h;cases ha:acR x with
  |none=>simp[ha,Acc.run] at h
  |some n=>simp only[ha,Acc.run,gQ,je] at h;obtain⟨rfl,rfl,rfl⟩:=h;refine⟨_,plain, ?_⟩;rw[aae ha] at hro;simpa[aV] using hro
 |other=>exact(ak h).elim
 |sl s=>
  cases own with
  |false=>
   simp only[KH,LC,hx,Acc.run] at h;cases ha:al8 s x with
   |none=>simp[ha,Acc.run] at h
   |some n=>simp only[ha,Acc.run,gQ,je] at h;obtain⟨rfl,rfl,rfl⟩:=h;refine⟨_,plain, ?_⟩;obtain⟨o,rfl⟩:=acY ha;simp only[aV];exact Z7 hro
  |true=>
   simp only[KH,al9,hx,Acc.run] at h;cases ha:ajP s x with
   |none=>simp[ha,Acc.run] at h
   |some n=>simp only[ha,Acc.run] at h;have:=aaf ha;subst this;replace h:=aj h;obtain⟨_,m1,l1,h1,h⟩:=h;simp only[run_pure,gQ,je] at h;obtain⟨rfl,rfl,rfl⟩:=h;exact acZ hg ho hE hq h1
def F9{H:Heap}{h:View}{x:D}{r:Row}{cs:List Value}{N:List Nat}(q:iw H h (x::r) cs N):∃v cs' N1 N2,cs=v::cs'∧N=N1++N2∧ow H h x v N1∧iw H h r cs' N2:=by simpa[iw] using q
def WU{N1 N2 E E0:List Nat}(h:(N1++N2++E).Perm E0):(N1++(N2++E)).Perm E0:=by rwa [AB] at h
def aah{own:List Nat}{r dst:Nat}{row:Row}:∀{cts:List CT} {fs:List Bool} {j:Nat} {m:Mem} {G:GS} {gs:List Value} {N E:List Nat} (_:BG base U w m G) (_:∀r,r∈G.out->∃c,get r m=some c)
  (_:(N++E).Perm G.E) (_:iw (dO w) (Gh U w G) (row.drop j) gs N) (_:row.length=j+cts.length) (_:gs.length=cts.length) {vs:List V} {m':Mem} {l l':Log}
  (_:(U6 own r dst row j cts fs).run m l=some (vs,m',l')),∃G',Grew base U w m G m' G' E∧dJ G'.μ m' (Gh U w G') vs gs
 |[],fs,j,m,G,gs,N,E,hg,ho,hE,hq,hlen,hgl,vs,m',l,l',h=>by simp only[U6,run_pure,gQ,je] at h;obtain⟨rfl,rfl,rfl⟩:=h;rw[List.drop_eq_nil_of_le (by simp at hlen;omega)] at hq;simp only[iw] at hq;subst hq;simp at hgl;subst hgl;obtain⟨d1,d2,_⟩:=hg.aag hE;exact⟨_,⟨d1,d2,rfl,rfl,λ_ _ h=>h,λ_ _ _=>rfl⟩,by simp[dJ]⟩
 |ct::cts,fs,j,m,G,gs,N,E,hg,ho,hE,hq,hlen,hgl,vs,m',l,l',h=>by
  cases hd:row.drop j with
  |nil=>have:=congrArg List.length hd;simp at this hlen;omega
  |cons x rest=>obtain⟨hx,hrest⟩:=afq hd;rw[hd] at hq;obtain⟨g,gs',N1,N2,rfl,rfl,q1,q2⟩:=F9 hq;simp only[U6] at h;replace h:=aj h;obtain⟨v,m1,l1,h1,h⟩:=h;replace h:=aj h;obtain⟨vs',m2,l2,h2,h⟩:=h;simp only[run_pure,gQ,je] at h;obtain⟨rfl,rfl,rfl⟩:=h;obtain⟨G1,t1,s1⟩:=X6 hg ho (WU hE) hx q1 h1;obtain⟨G2,t2,s2⟩:=aah t1.ok (λk hk=>by rw[t1.out] at hk;obtain⟨c,hc⟩:=ho k hk;exact⟨c,t1.old k c hc⟩) (by rw[t1.E]) (by rw[hrest];exact Pn t1.le.view q2) (by simp at hlen;omega) (by simpa using hgl) h2;refine⟨G2,t1.trans t2, ?_⟩;simp only[dJ];exact⟨g,gs',rfl,t2.le.aV s1,s2⟩
def X7{YP:List Nat}{dst ri:Nat}{row:Row}:∀{cts:List CT} {fs:List Bool} {j:Nat} {m:Mem} {G:GS} {gs:List Value} {N E:List Nat} (_:BG base U w m G) (_:∀r,r∈G.out->∃c,get r m=some c)
  (_:(N++E).Perm G.E) (_:iw (dO w) (Gh U w G) (row.drop j) gs N) (_:row.length=j+cts.length) (_:gs.length=cts.length) {vs:List V} {m':Mem} {l l':Log}
  (_:(Qz YP dst ri row j cts fs).run m l=some (vs,m',l')),∃G',Grew base U w m G m' G' E∧dJ G'.μ m' (Gh U w G') vs gs
 |[],fs,j,m,G,gs,N,E,hg,ho,hE,hq,hlen,hgl,vs,m',l,l',h=>by simp only[Qz,run_pure,gQ,je] at h;obtain⟨rfl,rfl,rfl⟩:=h;rw[List.drop_eq_nil_of_le (by simp at hlen;omega)] at hq;simp only[iw] at hq;subst hq;simp at hgl;subst hgl;obtain⟨d1,d2,_⟩:=hg.aag hE;exact⟨_,⟨d1,d2,rfl,rfl,λ_ _ h=>h,λ_ _ _=>rfl⟩,by simp[dJ]⟩
 |ct::cts,fs,j,m,G,gs,N,E,hg,ho,hE,hq,hlen,hgl,vs,m',l,l',h=>by
  cases hd:row.drop j with
  |nil=>have:=congrArg List.length hd;simp at this hlen;omega
  |cons x rest=>obtain⟨hx,hrest⟩:=afq hd;rw[hd] at hq;obtain⟨g,gs',N1,N2,rfl,rfl,q1,q2⟩:=F9 hq;simp only[Qz] at h;replace h:=aj h;obtain⟨v,m1,l1,h1,h⟩:=h;replace h:=aj h;obtain⟨vs',m2,l2,h2,h⟩:=h;simp only[run_pure,gQ,je] at h;obtain⟨rfl,rfl,rfl⟩:=h;obtain⟨G1,t1,s1⟩:=X6 hg ho (WU hE) hx q1 h1;obtain⟨G2,t2,s2⟩:=X7 t1.ok (λk hk=>by rw[t1.out] at hk;obtain⟨c,hc⟩:=ho k hk;exact⟨c,t1.old k c hc⟩) (by rw[t1.E]) (by rw[hrest];exact Pn t1.le.view q2) (by simp at hlen;omega) (by simpa using hgl) h2;refine⟨G2,t1.trans t2, ?_⟩;simp only[dJ];exact⟨g,gs',rfl,t2.le.aV s1,s2⟩
def valOf(P:Program)(t:TypeId)(cs:List Value)(g:Value):Prop:=if EC P t=true then g=.agg cs.toArray else cs=[g]
def MC(P:Program)(H:Heap)(h:View):List TypeId->List Row->List Value->List Nat->Prop
 |[],rows,gs,N=>rows=[]∧gs=[]∧N=[]
 |t::ts,rows,gs,N=>∃row rows' g gs' cs N1 N2,rows=row::rows'∧gs=g::gs'∧N=N1++N2∧valOf P t cs g∧iw H h row cs N1∧row.length=cs.length∧MC P H h ts rows' gs' N2
def MF{P:Program}{H H':Heap}{h h':View}(hl:h.le h'):∀{ts:List TypeId} {rows:List Row} {gs:List Value} {N:List Nat},(∀b,b∈N->H' b=H b)->MC P H h ts rows gs N->MC P H' h' ts rows gs N
 |[],_,_,_,_,q=>q
 |t::ts,_,_,_,hb,⟨row,rows',g,gs',cs,N1,N2,e1,e2,e3,h1,h2,h3,h4⟩=>by subst e3;exact⟨row,rows',g,gs',cs,N1,N2,e1,e2,rfl,h1,F8 hl _ _ _ (λb hx=>hb b (by simp[hx])) h2,h3,MF hl (λb hx=>hb b (by simp[hx])) h4⟩
def Gf{P:Program}{t:TypeId}{vs:List V}{v:V}(h:EY P t vs=some v){μ:Nat->Value}{hh:View}{cs:List Value}{g:Value}(hq:dJ μ m hh vs cs)(hg:valOf P t cs g):aV μ m hh v g:=by
 unfold EY at h;unfold valOf at hg;cases ha:EC P t with
 |true=>simp only[ha,bW,if_true,gQ] at h hg;subst h;simp only[aV];exact⟨_,hg,by simpa using hq⟩
 |false=>
  simp only[ha,dP,Bool.false_eq_true,if_false] at h hg;split at h
  ·cases h;obtain⟨g',gs',e,q1,q2⟩:=lI hq;rw[hg] at e;cases e;exact q1
  ·cases h
def ach{res:List Row}{ri:Nat}{row:Row}{rows:List Row}(h:res.drop ri=row::rows):U7 res ri=row∧res.drop (ri+1)=rows:=by
 have h1:res[ri]? =some row:=by
  have:(res.drop ri)[0]? =some row:=by rw[h];rfl
  rwa [List.getElem?_drop,Nat.add_zero] at this
 refine⟨by simp[U7,h1], ?_⟩;rw[<-List.drop_drop,h];rfl
def ac0{X:Ctx}{YP:List Nat}{dst:Nat}{res:List Row}:∀{ts:List TypeId} {ri:Nat} {m:Mem} {G:GS} {gs:List Value} {N E:List Nat} (_:BG base U w m G) (_:∀r,r∈G.out->∃c,get r m=some c)
  (_:(N++E).Perm G.E) (_:MC X.P (dO w) (Gh U w G) ts (res.drop ri) gs N) {vs:List V} {m':Mem} {l l':Log}
  (_:(TY X YP dst res ri ts).run m l=some (vs,m',l')),∃G',Grew base U w m G m' G' E∧dJ G'.μ m' (Gh U w G') vs gs
 |[],ri,m,G,gs,N,E,hg,ho,hE,hq,vs,m',l,l',h=>by simp only[TY,run_pure,gQ,je] at h;obtain⟨rfl,rfl,rfl⟩:=h;obtain⟨_,rfl,rfl⟩:=hq;obtain⟨d1,d2,_⟩:=hg.aag hE;exact⟨_,⟨d1,d2,rfl,rfl,λ_ _ h=>h,λ_ _ _=>rfl⟩,by simp[dJ]⟩
 |t::ts,ri,m,G,gs,N,E,hg,ho,hE,hq,vs,m',l,l',h=>by obtain⟨row,rows',g,gs',cs,N1,N2,e1,rfl,rfl,h1,h2,h3,h4⟩:=hq;obtain⟨hrow,hrest⟩:=ach e1;simp only[TY] at h;replace h:=aj h;obtain⟨_,m1,l1,k1,h⟩:=h;obtain⟨hlen,rfl,rfl⟩:=dY k1;replace h:=aj h;obtain⟨vc,m2,l2,k2,h⟩:=h;replace h:=aj h;obtain⟨v,m3,l3,k3,h⟩:=h;obtain⟨hv,rfl,rfl⟩:=gU k3;replace h:=aj h;obtain⟨vs',m4,l4,k4,h⟩:=h;simp only[run_pure,gQ,je] at h;obtain⟨rfl,rfl,rfl⟩:=h;have hlen:=vU hlen;rw[hrow] at hlen k2;obtain⟨G1,t1,s1⟩:=X7 hg ho (WU hE) (by simpa using h2) (by simpa using hlen) (by rw[<-h3];exact hlen) k2;obtain⟨G2,t2,s2⟩:=ac0 t1.ok (λk hk=>by rw[t1.out] at hk;obtain⟨c,hc⟩:=ho k hk;exact⟨c,t1.old k c hc⟩) (by rw[t1.E]) (by rw[hrest];exact MF t1.le.view (λ_ _=>rfl) h4) k4;refine⟨G2,t1.trans t2, ?_⟩;simp only[dJ];exact⟨g,gs',rfl,t2.le.aV (Gf hv s1 h1),s2⟩
mutual
def ajT{H:Heap}{h h':View}:∀(x:D) (v:Value) (N:List Nat),x.pure=true->ow H h x v N->ow H h' x v N
 | .int _ _,_,_,_,q=>by simpa[ow] using q
 | .bool _,_,_,_,q=>by simpa[ow] using q
 | .str _,_,_,_,q=>by simpa[ow] using q
 | .Md,_,_,_,q=>by simpa[ow] using q
 | .sl false s rows,v,N,hp,q=>by simp only[D.pure,List.isEmpty_iff] at hp;subst hp;simp only[ow,ro] at q⊢;exact⟨q.1,by obtain⟨a,cap,h1,h2,_⟩:=q.2;exact⟨a,cap,h1,h2,λe=>absurd rfl e⟩⟩
 | .sl true s rows,v,N,hp,q=>by
  simp only[D.pure] at hp;simp only[ow] at q⊢;rcases q with q|⟨b,cap,cs,t,N',h1,h2,h3,h4,h5,rfl⟩
  ·exact .inl q
  ·exact .inr ⟨b,cap,cs,t,N',h1,h2,h3,h4,X8 s rows _ N' hp h5,rfl⟩
def X8{H:Heap}{h h':View}(s:Nat):∀(rows:List Row) (cs:List Value) (N:List Nat),EO rows=true->fK H h s rows cs N->fK H h' s rows cs N
 |[],_,_,_,q=>by simpa[fK] using q
 |r::rs,cs,N,hp,q=>by simp only[EO,AL] at hp;simp only[fK] at q⊢;obtain⟨h1,N1,N2,rfl,h2,h3⟩:=q;exact⟨h1,N1,N2,rfl,Uh r _ N1 hp.1 h2,X8 s rs _ N2 hp.2 h3⟩
def Uh{H:Heap}{h h':View}:∀(r:Row) (cs:List Value) (N:List Nat),jk r=true->iw H h r cs N->iw H h' r cs N
 |[],_,_,_,q=>by simpa[iw] using q
 |x::r,cs,N,hp,q=>by simp only[jk,AL] at hp;simp only[iw] at q⊢;obtain⟨v,cs',N1,N2,rfl,rfl,h2,h3⟩:=q;exact⟨v,cs',N1,N2,rfl,rfl,ajT x v N1 hp.1 h2,Uh r cs' N2 hp.2 h3⟩
end
def aai{P:Program}{H:Heap}{h h':View}:∀{ts:List TypeId} {rows:List Row} {gs:List Value} {N:List Nat},rows.all jk=true->MC P H h ts rows gs N->MC P H h' ts rows gs N
 |[],_,_,_,_,q=>q
 |t::ts,_,_,_,hp,⟨row,rows',g,gs',cs,N1,N2,e1,e2,e3,h1,h2,h3,h4⟩=>by subst e1;simp only[List.all_cons,AL] at hp;exact⟨row,rows',g,gs',cs,N1,N2,rfl,e2,e3,h1,Uh _ _ _ hp.1 h2,h3,aai hp.2 h4⟩
end
end Go.Vm
namespace Go.Vm
open Go
section
variable {base:Nat} {U:Nat->Prop} {w w':World} {m:Mem} {G:GS}
def drop_cons{α:Type}{l:List α}{i:Nat}{a:α}{r:List α}(h:l.drop i=a::r):l[i]? =some a∧l.drop (i+1)=r:=by
 refine⟨?_,by rw[<-List.drop_drop,h];rfl⟩;have:(l.drop i)[0]? =some a:=by rw[h];rfl
 rwa [List.getElem?_drop,Nat.add_zero] at this
def asJ(xs:List D):(xs.map V.d).map vD=xs:=by
 induction xs with
 |nil=>rfl
 |cons x xs ih=>simp[vD,ih]
def aaj{m m':Mem}(h:∀k c,get k m=some c->get k m'=some c):∀{rs:List Nat} {cs:List Cell},kinds m rs cs->kinds m' rs cs
 |[],_,q=>q
 |r::rs,_,⟨c,c',cs',h1,h2,h3,h4⟩=>⟨c,c',cs',h1,h r c h2,h3,aaj h h4⟩
def WV{m:Mem}{r:Nat}{c0:Cell}:∀{rs:List Nat} {cs:List Cell},r ∉ rs->kinds m rs cs->kinds (put r c0 m) rs cs
 |[],_,_,q=>q
 |k::rs,_,hr,⟨c,c',cs',h1,h2,h3,h4⟩=>by simp only[List.mem_cons,not_or] at hr;exact⟨c,c',cs',h1,by rw[kF (Ne.symm hr.1)];exact h2,h3,WV hr.2 h4⟩
structure Came(base:Nat)(U:Nat->Prop)(w:World)(m:Mem)(G:GS)(m':Mem)(G':GS)(E:List Nat):Prop where
 ok:BG base U w m' G'
 le:QE m G m' G'
 E:G'.E=E
 out:G'.out=[]
def Gx{H:Heap}{h h':View}(hl:h.le h'){cs:List Cell}{gs:List Value}{N:List Nat}(q:cellsB H h cs gs N):cellsB H h' cs gs N:=XZ hl (λ_ _=>rfl) q
def Vo{X:Ctx}{dst:Nat}{outs:List Cell}:∀{rs:List Nat} {i:Nat} {m:Mem} {G:GS} {N E:List Nat} (_:BG base U w m G) (_:rs.Nodup) (_:G.out=rs) (_:kinds m rs (outs.drop i))
  (_:(N++E).Perm G.E) (_:cellsB (dO w) (Gh U w G) (outs.drop i) (rs.map G.μ) N) {x:Unit} {m':Mem} {l l':Log} (_:(XT X dst outs i rs).run m l=some (x,m',l')),
  ∃G',Came base U w m G m' G' E
 |[],i,m,G,N,E,hg,hn,ho,hk,hE,hq,x,m',l,l',h=>by simp only[XT,run_pure,gQ,je] at h;obtain⟨_,rfl,rfl⟩:=h;obtain⟨d1,d2,_⟩:=hg.aag hE;exact⟨_,d1,d2,rfl,ho⟩
 |r::rs,i,m,G,N,E,hg,hn,ho,hk,hE,hq,x,m',l,l',h=>by
  obtain⟨c,c',cs',e1,hc,hsk,hk'⟩:=hk;have hnr:=List.nodup_cons.1 hn;obtain⟨hi,hdrop⟩:=drop_cons e1;rw[e1] at hq;obtain⟨g,gs',N1,N2,eg,rfl,q1,q2⟩:=hq;simp only[JI,List.cons.injEq] at eg;obtain⟨rfl,rfl⟩:=eg;have hout:∀k,k∈G.out->∃c,get k m=some c:=by
   intro k hkm;rw[ho] at hkm;simp only[List.mem_cons] at hkm;rcases hkm with rfl|hkm
   ·exact⟨c,hc⟩
   ·obtain⟨j,hj⟩:=List.getElem?_of_mem hkm;obtain⟨c2,_,h2,_⟩:=Vh hk' hj;exact⟨c2,h2⟩
  simp only[XT] at h;replace h:=aj h;obtain⟨c0,m1,l1,h1,h⟩:=h;rw[sV] at h1;cases h1;rw[hc] at h;cases c with
  |dead=>exact hsk.elim
  |DF _ _ _=>exact hsk.elim
  |mO _ _=>exact hsk.elim
  |box t cs=>
   cases c' with
   |dead=>exact hsk.elim
   |DF _ _ _=>exact hsk.elim
   |mO _ _=>exact hsk.elim
   |arr _ _ _ _ _=>exact hsk.elim
   |box t' vs=>
    obtain rfl:t=t':=hsk;obtain⟨b,a,xs,N',hμ,hH,hvs,hxl,hrow,rfl⟩:=q1;simp only at h;replace h:=aj h;obtain⟨_,m2,l2,h2,h⟩:=h;obtain⟨hbl,rfl,rfl⟩:=dY h2;replace h:=aj h;obtain⟨vs',m3,l3,h3,h⟩:=h;replace h:=aj h;obtain⟨_,m4,l4,h4,h⟩:=h;rw[BA] at h4;cases h4;have hbx:amf outs i=xs:=by simp only[amf,hi,hvs];exact asJ xs
    have hbl:xs.length=(KG X.P t).length:=by simp only[amh,hi] at hbl;have:=vU hbl;rw[hvs,List.length_map] at this;exact this
    rw[hbx] at h3;obtain⟨G1,t1,s1⟩:=aah hg hout (N:=N') (E:=b::(N2++E)) (List.Perm.trans (by have:(N'++b::(N2++E)).Perm (b::(N'++(N2++E))):=List.perm_middle;refine this.trans ?_;simp[AB]) hE) (by simpa using hrow) (by simpa using hbl) (by rw[<-hxl];exact hbl) h3;have hc1:=t1.old r _ hc;have apT:=t1.ok.ndE;rw[t1.E] at apT;have hset:=t1.ok.set r (.box t vs') G1.μ [b] (N2++E) rs (by simpa using apT) (λk hk=> .inr (by rw[t1.E];simpa using hk))
     (DN (λ_ _=>rfl) (λc h=>by rw[hc1] at h;cases h;exact⟨rfl,rfl⟩)) (λ_ _=>rfl)
     (λk hne=>by rw[t1.out,ho];simp[hne]) (λhr=>absurd hr hnr.1)
     (λhv _=>⟨b,a,by rw[t1.μ r _ hc];exact hμ,hH,qC (DN (λ_ _=>rfl) (λc h=>by rw[hc1] at h;cases h;exact⟨rfl,rfl⟩)) hv _ _ s1,rfl⟩)
    obtain⟨k1,k2⟩:=hset;obtain⟨G2,f1,f2,f3,f4⟩:=Vo k1 hnr.2 rfl (WV hnr.1 (aaj t1.old (by rw[hdrop];exact hk'))) (N:=N2) (E:=E) (List.Perm.refl _)
     (by
      rw[hdrop];have hmap:rs.map G1.μ=rs.map G.μ:=List.map_congr_left λk hk=>by obtain⟨c2,h2⟩:=hout k (by rw[ho];simp[hk]);exact t1.μ k c2 h2
      simp only[hmap];exact Gx (t1.le.view.trans' k2.view) q2) h
    exact⟨G2,f1,(t1.le.trans k2).trans f2,f3,f4⟩
  |arr fz fl ver s rows=>
   cases c' with
   |dead=>exact hsk.elim
   |DF _ _ _=>exact hsk.elim
   |mO _ _=>exact hsk.elim
   |box _ _=>exact hsk.elim
   |arr fz' fl' iK s' rows'=>
    obtain⟨rfl,rfl,rfl,rfl⟩:=hsk;obtain⟨rfl,_,hrow⟩:=q1;simp only at h;replace h:=aj h;obtain⟨ajU,m2,l2,h2,h⟩:=h;obtain⟨har,rfl,rfl⟩:=gU h2;replace h:=aj h;obtain⟨_,m4,l4,h4,h⟩:=h;rw[BA] at h4;cases h4;have hrr:ajU=rows':=by simp[amg,hi] at har;exact har.symm
    subst hrr;have apT:=hE.nodup_iff.2 hg.ndE;have hset:=hg.set r (.arr false fl 0 s ajU) G.μ N1 (N2++E) rs (by rwa [AB] at apT) (λk hk=> .inr (hE.mem_iff.1 (by rw[AB];exact hk)))
     (DN (λ_ _=>rfl) (λc h=>by rw[hc] at h;cases h;exact⟨Nat.le_refl _,rfl,λ_=>⟨rfl,rfl⟩⟩)) (λ_ _=>rfl)
     (λk hne=>by rw[ho];simp[hne]) (λhr=>absurd hr hnr.1)
     (λhv _=>Gu hv (λ_ _=>rfl) hrow)
    obtain⟨k1,k2⟩:=hset;obtain⟨G2,f1,f2,f3,f4⟩:=Vo k1 hnr.2 rfl (WV hnr.1 (by rw[hdrop];exact hk')) (N:=N2) (E:=E) (List.Perm.refl _)
     (by rw[hdrop];exact Gx k2.view q2) h
    exact⟨G2,f1,k2.trans f2,f3,f4⟩
def amr{h:View}(s:List UInt8):∀(cs:List Value),cs=s.map (λb=>Value.int .u8 b.toNat)->fQ h 1 (s.map byteRow) cs:=by
 induction s with
 |nil=>intro cs _;simp[fQ]
 |cons b s ih=>intro cs e;subst e;simp only[JI,fQ,byteRow];exact⟨rfl,by simp[iD,ro],ih _ rfl⟩
end
end Go.Vm
