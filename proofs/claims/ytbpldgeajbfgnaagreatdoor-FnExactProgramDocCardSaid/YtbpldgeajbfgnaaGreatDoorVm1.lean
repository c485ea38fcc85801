import Derived.Orders
import Derived.KernelRfl
import Derived.RowKit3
import Derived.Laws.Cells
import Derived.Laws.Rows
import Derived.Laws.OwnMore
import Derived.Below
set_option linter.defProp false
set_option linter.unusedVariables false
set_option linter.unusedSimpArgs false
namespace Go.Vm
def cO{α:Sort _}(a b:α):cond true a b=a:=cond_true ..
def dO{α:Sort _}(a b:α):cond false a b=b:=cond_false ..
def iH{α:Type _}(a b:α):(some a=some b)=(a=b):=Option.some.injEq ..
def jL{α:Type _}{β:Type _}(a:α)(b:β)(c:α)(d:β):((a,b)=(c,d))=(a=c∧b=d):=Prod.mk.injEq ..
def zdt{p:Prop}[Decidable p](h:p):decide p=true:=decide_eq_true h
def uw{p:Prop}[Decidable p](h:¬p):decide p=false:=decide_eq_false h
def wR{n m:Nat}(h:Nat.beq n m=true):n=m:=Nat.eq_of_beq_eq_true h
def uq{α:Type _}{a b:List α}:(a++b).length=a.length+b.length:=List.length_append ..
def MG{α:Type _}{i:Nat}{a:α}{l:List α}:l[i]? =some a↔∃h:i<l.length,l[i]=a:=List.getElem?_eq_some_iff ..
def mZ{α:Type _}{a:α}{s:List α}:(a::s).length=s.length+1:=List.length_cons ..
def Gp{α:Type _}(a b c:List α):a++b++c=a++(b++c):=List.append_assoc ..
def OJ{α:Type _}{a:α}:[a].length=1:=List.length_singleton ..
def xq{α:Type _}:([]:List α).length=0:=List.length_nil ..
def Au{α:Type _}{l:List α}{i:Nat}{a:α}(h:l[i]? =some a):a∈l:=List.mem_of_getElem? h
def GH(a b:Bool):((a&&b)=true)=(a=true∧b=true):=Bool.and_eq_true ..
def Qq{α:Type _}{β:Type _}(a:α)(f:α->β):Option.map f (some a)=some (f a):=Option.map_some ..
def Ug{α:Type _}{β:Type _}{f:α->β}{a:α}{l:List α}:List.map f (a::l)=f a::List.map f l:=List.map_cons ..
def Yq(n:Nat):((n:Int)).toNat=n:=Int.toNat_natCast ..
def Ru{α:Type _}{a:α}{s t:List α}:a::s++t=a::(s++t):=List.cons_append ..
def zmm{α:Type _}(y:α){a:α}{l:List α}(h:a∈l):a∈y::l:=List.mem_cons_of_mem _ h
def zmf{α:Type _}{a:α}{l:List α}:a∈a::l:=List.mem_cons_self ..
def Xx{α:Type _}{l:List α}:l.length=1↔∃a,l=[a]:=List.length_eq_one_iff ..
def VZ{α:Type _}[BEq α][LawfulBEq α]{a b:α}:(a==b)=false↔a≠b:=beq_eq_false_iff_ne ..
def PE{α:Type _}{i:Nat}{l:List α}:(l.take i).length=min i l.length:=List.length_take ..
end Go.Vm
namespace Go.Vm
open Go
inductive D where
 |int (k:IntKind) (n:Int)
 |bool (b:Bool)
 |str (s:List UInt8)
 |NZ
 |sl (own:Bool) (s:Nat) (rows:List (List D))
 deriving Inhabited
abbrev Row:=List D
abbrev aC:=List UInt8
abbrev au:=List Row
inductive V where
 |d (x:D)
 |nil (s:Nat)
 |own (r ver:Nat)
 |ptr (r off:Nat)
 |uy (r ver i off:Nat)
 |qU (row:Row) (off:Nat)
 |zn (v:V)
 |clo (f:Nat) (first caps:List V)
 |agg (cs:List V)
 |zo (vs:List V)
 |undef
 deriving Inhabited
inductive Cell where
 |box (t:TypeId) (cs:List V)
 |arr (fz fl:Bool) (ver s:Nat) (rows:List Row)
 |dead
 |ET (ver s:Nat) (rows:List Row)
 |nO (t:TypeId) (v:V)
 deriving Inhabited
abbrev Mem:=List (Nat×Cell)
abbrev kH:=List (Nat×V)
structure St where
 tm:kH
 mem:Mem
def get{α:Type}(k:Nat):List (Nat×α)->Option α
 |[]=>none
 |(j,x)::l=>bif Nat.beq k j then some x else get k l
def put{α:Type}(k:Nat)(x:α):List (Nat×α)->List (Nat×α)
 |[]=>[(k,x)]
 |(j,y)::l=>bif Nat.beq k j then(k,x)::l else bif Nat.blt k j then(k,x)::(j,y)::l else(j,y)::put k x l
def del{α:Type}(k:Nat):List (Nat×α)->List (Nat×α)
 |[]=>[]
 |(j,y)::l=>bif Nat.beq k j then del k l else(j,y)::del k l
def Qr(t:Nat)(tm:kH):V:=match get t tm with|some v=>v|none=> .undef
def UY(dst:Option Nat)(v:V)(tm:kH):kH:=match dst with|some t=>put t v tm|none=>tm
def aqp(dst:Option Nat)(tm:kH):kH:=match dst with|some t=>del t tm|none=>tm
inductive Acc(α:Type):Type 1 where
 |ret (a:α)
 |fail
 |get (k:Nat) (c:Option Cell->Acc α)
 |set (k:Nat) (x:Cell) (c:Acc α)
 |opt {β:Type} (o:Option β) (c:β->Acc α)
 |guard (b:Bool) (c:Acc α)
structure Log where
 r:List Nat
 w:List Nat
def Log.rd(l:Log)(k:Nat):Log:={l with r:=k::l.r}
def Log.wr(l:Log)(k:Nat):Log:={l with w:=k::l.w}
def Log.none:Log:=⟨[],[]⟩
def Acc.bind{α β:Type}:Acc α->(α->Acc β)->Acc β
 | .ret a,f=>f a
 | .fail,_=> .fail
 | .get k c,f=> .get k λx=>(c x).bind f
 | .set k x c,f=> .set k x (c.bind f)
 | .opt o c,f=> .opt o λb=>(c b).bind f
 | .guard b c,f=> .guard b (c.bind f)
def Acc.run{α:Type}:Acc α->Mem->Log->Option (α×Mem×Log)
 | .ret a,m,l=>some (a,m,l)
 | .fail,_,_=>none
 | .get k c,m,l=>(c (Vm.get k m)).run m (l.rd k)
 | .set k x c,m,l=>c.run (put k x m) (l.wr k)
 | .opt o c,m,l=>match o with|some b=>(c b).run m l|none=>none
 | .guard b c,m,l=>match b with|true=>c.run m l|false=>none
inductive CT where
 |int (k:IntKind)|bool|str|sl (s:Nat)|other
 deriving Inhabited
def ajh(f:TypeId->Option (List CT)):List TypeId->Option (List CT)
 |[]=>some []
 |t::ts=>match f t,ajh f ts with|some a,some b=>some (a++b)|_,_=>none
def cts(P:Program):Nat->TypeId->Option (List CT)
 |0,_=>none
 |n+1,t=>match P.underlying t with
  |some (.int k)=>some [.int k]
  |some .bool=>some [.bool]
  |some .string=>some [.str]
  |some (.slice e)=>match P.info? e with|some i=>some [.sl i.size]|none=>none
  |some (.struct fs)=>ajh (cts P n) (fs.toList.map (·.type))
  |some (.array k e)=>ajh (cts P n) (List.replicate k e)
  |some (.pointer _)|some (.func ..)=>some [.other]
  |_=>none
def MH(P:Program)(t:TypeId):List CT:=match cts P 8 t with|some l=>l|none=>[.other]
def Gq(P:Program)(t:TypeId):Bool:=match P.underlying t with|some (.struct _)=>true|some (.array ..)=>true|_=>false
def lU(P:Program)(t:TypeId):Nat:=match P.info? t with|some i=>i.size|none=>0
def elT(P:Program)(t:TypeId):Option TypeId:=match P.underlying t with|some (.slice e)=>some e|_=>none
def Xy:CT->Value->V
 |_,.bool b=> .d (.bool b)
 |_,.int k n=> .d (.int k n)
 |_,.string s=> .d (.str s.data.toList)
 |_,.nilFunc=> .d .NZ
 | .sl s,.slice none 0 0=> .nil s
 |_,_=> .undef
def Du:List CT->List Value->List V
 |c::cs,v::vs=>Xy c v::Du cs vs
 |[],_::vs=> .undef::Du [] vs
 |_,[]=>[]
def cv(P:Program)(t:TypeId):Value->V
 | .agg cs=> .agg (Du (MH P t) cs.toList)
 |v=>match MH P t with|c::_=>Xy c v|[]=> .undef
def Ld(P:Program)(t:TypeId):Option (List V):=
 match P.info? t with
 |some i=>match i.zero with
  |some z=>some (Du (MH P t) z.cells.toList)
  |none=>none
 |none=>none
def V.cells:V->List V
 | .agg cs=>cs
 |v=>[v]
def GU(P:Program)(t:TypeId)(cs:List V):Option V:=
 bif Gq P t then some (.agg cs) else match cs with|[v]=>some v|_=>none
def asInt(k:IntKind):D->Option Int
 | .int k' n=>bif decide (k'=k) then some n else none
 |_=>none
def asBool:D->Option Bool
 | .bool b=>some b
 |_=>none
def adE:D->Option (List UInt8)
 | .str s=>some s
 |_=>none
def amE(s:Nat):D->Option (List Row)
 | .sl _ s' rows=>bif Nat.beq s' s then some rows else none
 |_=>none
def aqr(s:Nat):D->Option (List Row)
 | .sl own s' rows=>bif Nat.beq s' s then(match own with|false=>some rows|true=>match rows with|[]=>some []|_::_=>none) else none
 |_=>none
def ako(s:Nat):D->Option (List Row)
 | .sl own s' rows=>match own with|true=>bif Nat.beq s' s then some rows else none|false=>none
 |_=>none
def nth(row:Row)(j:Nat):D:=match row[j]? with|some x=>x|none=> .NZ
def fB(k:IntKind)(row:Row)(j:Nat):Option Int:=asInt k (nth row j)
def adF(row:Row)(j:Nat):Option Bool:=asBool (nth row j)
def cStr(row:Row)(j:Nat):Option (List UInt8):=adE (nth row j)
def TL(s:Nat)(row:Row)(j:Nat):Option (List Row):=amE s (nth row j)
def cRo(s:Nat)(row:Row)(j:Nat):Option (List Row):=aqr s (nth row j)
def aeN(s:Nat)(row:Row)(j:Nat):Option (List Row):=ako s (nth row j)
mutual
def D.fz:D->D
 | .int k n=> .int k n
 | .bool b=> .bool b
 | .str s=> .str s
 | .NZ=> .NZ
 | .sl _ s rows=> .sl false s (bM rows)
def bM:List Row->List Row
 |[]=>[]
 |r::rs=>sD r::bM rs
def sD:Row->Row
 |[]=>[]
 |x::r=>x.fz::sD r
end
def roD:D->D
 | .sl _ s rows=> .sl false s rows
 |x=>x
def D.flat:D->Bool
 | .sl ..=>false
 |_=>true
def aA(rows:List Row):Bool:=rows.all λr=>r.all D.flat
def one:V->Bool
 | .d _=>true
 | .nil _=>true
 | .own _ _=>true
 | .ptr _ _=>true
 | .uy ..=>true
 | .qU _ _=>true
 | .zn _=>true
 | .clo ..=>true
 |_=>false
mutual
def D.pure:D->Bool
 | .sl own _ rows=>match own with|true=>CG rows|false=>rows.isEmpty
 |_=>true
def CG:List Row->Bool
 |[]=>true
 |r::rs=>dQ r && CG rs
def dQ:Row->Bool
 |[]=>true
 |x::r=>x.pure && dQ r
end
def Jf(strict:Bool):List CT->Row->Nat->(List V->Acc V)->Acc V
 |[],_,_,c=>c []
 | .int k::ts,row,j,c=> .opt (fB k row j) λn=>Jf strict ts row (j+1) λvs=>c (.d (.int k n)::vs)
 | .bool::ts,row,j,c=> .opt (adF row j) λn=>Jf strict ts row (j+1) λvs=>c (.d (.bool n)::vs)
 | .str::ts,row,j,c=> .opt (cStr row j) λn=>Jf strict ts row (j+1) λvs=>c (.d (.str n)::vs)
 | .sl s::ts,row,j,c=> .opt (bif strict then cRo s row j else TL s row j) λrs=>Jf strict ts row (j+1) λvs=>c (.d (.sl false s rs)::vs)
 | .other::_,_,_,_=> .fail
structure Adv where
 keep:Nat->Nat->List Nat
 move:Nat->List Nat
 ref:Nat->List Nat
 Zn:Nat->Nat->List Nat
 ayn:Nat->List Nat
 fuse:Nat->Nat->Nat
 trunc:Nat->Nat->Bool
 raw:Nat->List Nat
 look:Nat->List Nat
structure Ctx where
 P:Program
 Jc:Adv
 Rx:Nat->Option (List V->List Cell->Option (List Row×List Cell))
 glob:Nat->Option Row
 ayo:Nat->Bool
abbrev jJ:=Nat->List V->List Cell->Option (List Row×List Cell)
def mem?(k:Nat):List Nat->Bool
 |[]=>false
 |j::l=>bif Nat.beq k j then true else mem? k l
def asF:List CT->Bool
 |[]=>false
 | .sl _::_=>true
 |_::l=>asF l
def qM(P:Program)(e:TypeId):Bool:= !(asF (MH P e))
def vw(fl:Bool)(rows:List Row):List Row:=bif fl then rows else bM rows
instance:Monad Acc where
 pure:=.ret
 bind:=.bind
def rd(k:Nat):Acc (Option Cell):=.get k .ret
def wr(k:Nat)(x:Cell):Acc Unit:=.set k x (.ret ())
def ck(b:Bool):Acc Unit:=.guard b (.ret ())
def op'{β:Type}(o:Option β):Acc β:=.opt o .ret
def free(k:Nat):Acc Unit:=do
 match<-rd k with
 |none=>pure ()
 |some _=> .fail
def new(k:Nat)(c:Cell):Acc Unit:=do
 free k
 wr k c
def seen(v:V):Acc (Nat×List Row):=
 match v with
 | .d (.sl _ s rows)=>pure (s,rows)
 | .nil s=>pure (s,[])
 | .own r ver=>do
  match<-rd r with
  |some (.arr _ fl jm s rows)=>do ck (Nat.beq ver jm);pure (s,vw fl rows)
  |_=> .fail
 |_=> .fail
def Ur(fl:Bool)(rows:List Row):Bool:=bif fl then aA rows else true
def toD(v:V):Acc D:=
 match v with
 | .d x=>pure (roD x)
 | .nil s=>pure (.sl true s [])
 | .own r ver=>do
  match<-rd r with
  |some (.arr fz fl jm s rows)=>do
   ck (Nat.beq ver jm)
   match fz with
   |true=>pure (.sl false s (vw fl rows))
   |false=>do
    ck (Ur fl rows)
    wr r .dead
    pure (.sl true s rows)
  |_=> .fail
 |_=> .fail
def KD:List V->Acc Row
 |[]=>pure []
 |v::vs=>do
  let x<-toD v
  let xs<-KD vs
  pure (x::xs)
def splice{α:Type}(l:List α)(off:Nat)(xs:List α):List α:=l.take off++xs++l.drop (off+xs.length)
def part{α:Type}(l:List α)(off n:Nat):List α:=(l.drop off).take n
def idx{α:Type}(l:List α)(i:Int):Option α:=bif decide (0<=i) then l[i.toNat]? else none
def cut{α:Type}(l:List α)(a b:Int):Option (List α):=
 bif decide (0<=a) && decide (a<=b) && decide (b<=l.length) then some ((l.drop a.toNat).take (b.toNat - a.toNat)) else none
def byteRow(b:UInt8):Row:=[.int .u8 b.toNat]
def asByte:Row->Option UInt8
 |[.int .u8 n]=>some (UInt8.ofNat n.toNat)
 |_=>none
def bytesOf:List Row->Option (List UInt8)
 |[]=>some []
 |r::rs=>match asByte r,bytesOf rs with|some b,some bs=>some (b::bs)|_,_=>none
def ev(P:Program)(tm:kH)(t:TypeId):Operand->V
 | .tmp i=>Qr i tm
 | .const v=>cv P t v
 | .func f=> .clo f [] []
 | .global _=> .undef
def evG(X:Ctx)(tm:kH)(t:TypeId)(x:Operand):V:=match x with
 | .global g=>match X.glob g with
  |some row=> .qU row 0
  |none=> .undef
 |x=>ev X.P tm t x
def amF(op:BinOp)(k:IntKind)(a b:Int):Option V:=
 match op with
 | .add=>some (.d (.int k (k.wrap (a+b))))
 | .sub=>some (.d (.int k (k.wrap (a - b))))
 | .mul=>some (.d (.int k (k.wrap (a * b))))
 | .quo=>bif decide (b=0) then none else some (.d (.int k (k.wrap (a.tdiv b))))
 | .rem=>bif decide (b=0) then none else some (.d (.int k (a.tmod b)))
 | .eql=>some (.d (.bool (a==b)))
 | .neq=>some (.d (.bool (a !=b)))
 | .lss=>some (.d (.bool (decide (a<b))))
 | .leq=>some (.d (.bool (decide (a<=b))))
 | .gtr=>some (.d (.bool (decide (a>b))))
 | .geq=>some (.d (.bool (decide (a>=b))))
 | .and=>some (.d (.int k (k.wrap (BitVec.ofInt k.bits a &&& BitVec.ofInt k.bits b).toNat)))
 | .or=>some (.d (.int k (k.wrap (BitVec.ofInt k.bits a|||BitVec.ofInt k.bits b).toNat)))
 | .xor=>some (.d (.int k (k.wrap (BitVec.ofInt k.bits a ^^^ BitVec.ofInt k.bits b).toNat)))
 |_=>none
def V5(op:BinOp)(k:IntKind)(a b:Int):Option V:=
 bif decide (b<0) then none else
 match op with
 | .shl=>some (.d (.int k (k.wrap (a * 2 ^(min b.toNat k.bits)))))
 | .shr=>some (.d (.int k (a.fdiv (2 ^(min b.toNat k.bits)))))
 |_=>none
def aji:Nat:=9223372036854775807
def atG(op:BinOp)(a b:List UInt8):Acc V:=
 match op with
 | .add=> .guard (Nat.ble (a.length+b.length) aji) (.ret (.d (.str (a++b))))
 | .eql=> .ret (.d (.bool (a==b)))
 | .neq=> .ret (.d (.bool !(a==b)))
 | .lss=> .ret (.d (.bool (Op.bytesLess a b)))
 | .leq=> .ret (.d (.bool (Op.bytesLess a b||a==b)))
 | .gtr=> .ret (.d (.bool !(Op.bytesLess a b||a==b)))
 | .geq=> .ret (.d (.bool !(Op.bytesLess a b)))
 |_=> .fail
def ayp(op:BinOp)(a b:Bool):Option V:=
 match op with
 | .eql=>some (.d (.bool (a==b)))
 | .neq=>some (.d (.bool !(a==b)))
 |_=>none
def shiftOp:BinOp->Bool
 | .shl| .shr=>true
 |_=>false
def boolT(P:Program)(t:TypeId):Bool:=match P.underlying t with|some .bool=>true|_=>false
def bin(bt:Bool)(op:BinOp)(x y:V):Acc V:=
 match x,y with
 | .d (.int k a),.d (.int k' b)=>
  match shiftOp op with
  |true=> .opt (V5 op k a b) .ret
  |false=>match decide (k=k') with
   |true=> .opt (amF op k a b) .ret
   |false=> .fail
 | .d (.str a),.d (.str b)=>atG op a b
 | .d (.bool a),.d (.bool b)=>match bt with
  |true=> .opt (ayp op a b) .ret
  |false=> .fail
 |_,_=> .fail
def ajj:V->V->Option Bool
 | .d (.int k a),.d (.int k' b)=>bif decide (k=k') then some (a==b) else none
 | .d (.str a),.d (.str b)=>some (a==b)
 | .d (.bool a),.d (.bool b)=>some (a==b)
 |_,_=>none
def Xz(P:Program)(t:TypeId)(v:V):Bool:=match P.underlying t,v with
 |some (.int _),.d (.int _ _)=>true
 |some .string,.d (.str _)=>true
 |some .bool,.d (.bool _)=>true
 |_,_=>false
def aad(P:Program):List Field->List V->List V->Option Bool
 |[],_,_=>some true
 |f::fs,xs,ys=>match xs[f.offset]?,ys[f.offset]? with
  | some x, some y => bif Xz P f.type x && (f.name != "_") then
    (match ajj x y,aad P fs xs ys with
    |some a,some b=>some (bif a then b else false)
    |_,_=>none) else none
  |_,_=>none
def ayq(P:Program)(t:TypeId)(op:BinOp)(cs ds:List V):Acc V:=do
 ck (!(P.stoodInHeld t) && !(P.eqGuardType P.depth t))
 let fs<-op' (match P.underlying t with|some (.struct fs)=>some fs.toList|_=>none)
 let r<-op' (aad P fs cs ds)
 match op with
 | .eql=>pure (.d (.bool r))
 | .neq=>pure (.d (.bool !r))
 |_=> .fail
def ajk(x:V):Acc Bool:=
 match x with
 | .nil _=>pure true
 | .d (.sl _ _ rows)=>do ck (Nat.ble 1 rows.length);pure false
 | .own r ver=>do
  match<-rd r with
  |some (.arr _ _ jm _ rows)=>do ck (Nat.beq ver jm && Nat.ble 1 rows.length);pure false
  |_=> .fail
 |_=> .fail
def sliceT(P:Program)(t:TypeId):Bool:=match P.underlying t with|some (.slice _)=>true|_=>false
def ajl(P:Program)(t:TypeId)(op:BinOp)(x:V):Acc V:=do
 ck (sliceT P t)
 let b<-ajk x
 match op with
 | .eql=>pure (.d (.bool b))
 | .neq=>pure (.d (.bool !b))
 |_=> .fail
def atH(P:Program)(t:TypeId)(op:BinOp)(x y:V):Acc V:=match x with
 | .agg cs=>(match y with| .agg ds=>ayq P t op cs ds|_=> .fail)
 |x=>(match y with| .nil _=>ajl P t op x|y=>bin (boolT P t) op x y)
def un(op:UnOp)(x:V):Acc V:=
 match op,x with
 | .neg,.d (.int k n)=> .ret (.d (.int k (k.wrap (0 - n))))
 | .not,.d (.bool b)=> .ret (.d (.bool !b))
 |_,_=> .fail
def amG(c x y:V):Acc V:=
 match c with
 | .d (.bool c)=>match x,y with
  | .d (.bool a),.d (.bool b)=> .ret (.d (.bool (bif c then a else b)))
  |x,y=>match c with
   |true=> .ret x
   |false=> .ret y
 |_=> .fail
def CJ(P:Program)(t:TypeId):Bool:=match P.underlying t with|some _=>true|none=>false
def amH(P:Program)(t:TypeId)(a:V):Acc V:=do
 ck (CJ P t && Nat.beq (MH P t).length (lU P t))
 match a with
 | .ptr r off=>do
  match<-rd r with
  |some (.box _ cs)=>do
   ck (Nat.ble (off+lU P t) cs.length)
   op' (GU P t (part cs off (lU P t)))
  |some (.nO _ v)=>do
   ck (Nat.beq off 0 &&(Nat.beq (lU P t) 1 && !(Gq P t)))
   pure v
  |_=> .fail
 | .zn v=>do
  ck (Nat.beq (lU P t) 1 && !(Gq P t))
  pure v
 | .qU row off=>Jf false (MH P t) row off λvs=>op' (GU P t vs)
 | .uy r ver i off=>do
  match<-rd r with
  |some (.arr _ _ jm _ rows)=>do
   ck (Nat.beq ver jm)
   let row<-op' rows[i]?
   Jf true (MH P t) row off λvs=>op' (GU P t vs)
  |some (.ET jm _ rows)=>do
   ck (Nat.beq ver jm)
   let row<-op' rows[i]?
   Jf true (MH P t) row off λvs=>op' (GU P t vs)
  |_=> .fail
 |_=> .fail
def kept(off:Nat)(cs:List V)(x:V):Bool:=match off,cs,x with
 |0,[.undef],.ptr _ _=>true
 |_,_,_=>false
def ajm(P:Program)(t:TypeId)(a x:V):Acc Unit:=do
 ck (CJ P t)
 ck (Nat.beq x.cells.length (lU P t))
 ck (x.cells.all one)
 match a with
 | .ptr r off=>do
  match<-rd r with
  |some (.box T cs)=>do
   ck (Nat.ble (off+lU P t) cs.length)
   match kept off cs x with
   |true=>wr r (.nO T x)
   |false=>wr r (.box T (splice cs off x.cells))
  |_=> .fail
 | .uy r ver i off=>do
  let xs<-KD x.cells
  match<-rd r with
  |some (.arr false fl jm s rows)=>do
   ck (Nat.beq ver jm)
   ck (Nat.ble (off+lU P t) s)
   let row<-op' rows[i]?
   wr r (.arr false fl ver s (rows.set i (splice row off xs)))
  |_=> .fail
 |_=> .fail
def Qs(P:Program)(T:TypeId)(f:Nat):Option (Nat×Nat×TypeId):=
 match P.underlying T with
 |some (.struct fs)=>match fs[f]? with
  |some fd=>some (fd.offset,lU P fd.type,fd.type)
  |none=>none
 |_=>none
def UZ(P:Program)(T:TypeId)(a:V)(f:Nat):Acc V:=do
 let(o,n,_)<-op' (Qs P T f)
 ck (Nat.ble 1 n)
 match a with
 | .ptr r off=>pure (.ptr r (off+o))
 | .qU row off=>pure (.qU row (off+o))
 | .uy r ver i off=>pure (.uy r ver i (off+o))
 |_=> .fail
def ajn(P:Program)(T:TypeId)(x:V)(f:Nat):Acc V:=do
 let(o,n,t)<-op' (Qs P T f)
 match x with
 | .agg cs=>do
  ck (Nat.ble (o+n) cs.length)
  ck (CJ P t)
  op' (GU P t (part cs o n))
 |_=> .fail
def U0(P:Program)(t:TypeId)(x i:V):Acc V:=do
 let e<-op' (elT P t)
 match i with
 | .d (.int _ i)=>
  match x with
  | .d (.sl _ s rows)=>do
   ck (Nat.beq s (lU P e))
   ck (CJ P e)
   let row<-op' (idx rows i)
   pure (.qU row 0)
  | .own r ver=>do
   match<-rd r with
   |some (.arr fz fl jm s rows)=>do
    ck (Nat.beq ver jm)
    ck (Nat.beq s (lU P e))
    ck (CJ P e)
    match fz with
    |true=>do
     let row<-op' (idx (vw fl rows) i)
     pure (.qU row 0)
    |false=>do
     let _<-op' (idx rows i)
     pure (.uy r ver i.toNat 0)
   |some (.ET jm s rows)=>do
    ck (Nat.beq ver jm)
    ck (Nat.beq s (lU P e))
    ck (CJ P e)
    let _<-op' (idx rows i)
    pure (.uy r ver i.toNat 0)
   |_=> .fail
  |_=> .fail
 |_=> .fail
def arT(P:Program)(t:TypeId):Option (Nat×TypeId):=match P.underlying t with|some (.array n e)=>some (n,e)|_=>none
def af0(P:Program)(n:Nat)(e:TypeId)(x i:V):Acc V:=
 match i with
 | .d (.int _ i)=>do
  ck (CJ P e)
  ck (decide (0<=i) && decide (i<(n:Int)))
  match x with
  | .qU row off=>pure (.qU row (off+i.toNat * lU P e))
  | .ptr r off=>pure (.ptr r (off+i.toNat * lU P e))
  |_=> .fail
 |_=> .fail
def U1(P:Program)(t:TypeId)(x i:V):Acc V:=match arT P t with
 |some (n,e)=>af0 P n e x i
 |none=>U0 P t x i
def adG:List V->Option Row
 |[]=>some []
 | .d x::vs=>match adG vs with|some r=>some (x::r)|none=>none
 |_::_=>none
def aay(c:CT)(row:Row)(i:Nat):Acc V:=match c with
 | .int k=> .opt (fB k row i) λn=> .ret (.d (.int k n))
 | .bool=> .opt (adF row i) λb=> .ret (.d (.bool b))
 | .str=> .opt (cStr row i) λs=> .ret (.d (.str s))
 |_=> .fail
def ajo(P:Program)(t:TypeId)(x i:V):Acc V:=
 match P.underlying t,x,i with
 |some .string,.d (.str s),.d (.int _ i)=> .opt (idx s i) λb=> .ret (.d (.int .u8 b.toNat))
 |some (.array n e),.agg cs,.d (.int _ i)=>do
  ck (Nat.beq (lU P e) 1 &&(Nat.beq cs.length n &&(CJ P e && !(Gq P e))))
  ck (decide (0<=i) && decide (i<(n:Int)))
  let row<-op' (adG cs)
  aay (match MH P e with|[c]=>c|_=> .other) row i.toNat
 |_,_,_=> .fail
def lenV(x:V):Acc V:=
 match x with
 | .d (.str s)=> .ret (.d (.int .i64 s.length))
 | .own r ver=>do
  match<-rd r with
  |some (.arr _ _ jm _ rows)=>do ck (Nat.beq ver jm);pure (.d (.int .i64 rows.length))
  |some (.ET jm _ rows)=>do ck (Nat.beq ver jm);pure (.d (.int .i64 rows.length))
  |_=> .fail
 | .d (.sl _ _ rows)=> .ret (.d (.int .i64 rows.length))
 | .nil _=> .ret (.d (.int .i64 0))
 |_=> .fail
def Ry:Nat:=140737488355328
def Rz(P:Program)(e:TypeId):Nat:=match P.info? e with|some i=>i.bytes|none=>Ry
def tail(P:Program)(e:TypeId)(y:V):Acc (List Row):=
 match y with
 | .d (.str s)=>do
  ck (Nat.beq (lU P e) 1)
  pure (s.map byteRow)
 | .d (.sl _ s rows)=>do
  ck (Nat.beq s (lU P e))
  pure (vw (qM P e) rows)
 | .nil _=>pure []
 | .own r ver=>do
  match<-rd r with
  |some (.arr fz fl jm s rows)=>do
   ck (Nat.beq ver jm)
   ck (Nat.beq s (lU P e))
   match qM P e with
   |true=>do
    ck (fl||fz)
    pure rows
   |false=>do
    ck (!fl)
    match fz with
    |true=>pure (bM rows)
    |false=>do
     wr r .dead
     pure rows
  |_=> .fail
 |_=> .fail
def aeO(P:Program)(dst:Nat)(t ty:TypeId)(x y:V):Acc V:=do
 let e<-op' (elT P t)
 ck (Nat.ble 1 (lU P e))
 ck (match P.underlying ty with|some (.slice _)=>true|some .string=>true|_=>false)
 let z<-op' (Ld P e)
 ck (Nat.beq z.length (lU P e))
 let ys<-tail P e y
 match x with
 | .nil _=>do
  ck (Nat.ble (ys.length * Rz P e) Ry)
  ck (Nat.ble ys.length Ry)
  new dst (.arr false (qM P e) 0 (lU P e) ys)
  pure (.own dst 0)
 | .own r ver=>do
  match<-rd r with
  |some (.arr false fl jm s rows)=>do
   ck (Nat.beq ver jm)
   ck (Nat.beq s (lU P e))
   ck (match fl,qM P e with|true,true=>true|false,false=>true|_,_=>false)
   ck (Nat.ble ((rows.length+ys.length) * Rz P e) Ry)
   ck (Nat.ble (rows.length+ys.length) Ry)
   wr r (.arr false fl (ver+1) s (rows++ys))
   pure (.own r (ver+1))
  |some (.ET jm s rows)=>do
   ck (Nat.beq ver jm)
   ck (Nat.beq s (lU P e))
   ck (qM P e)
   ck (Nat.ble ((rows.length+ys.length) * Rz P e) Ry)
   ck (Nat.ble (rows.length+ys.length) Ry)
   wr r (.ET (ver+1) s (rows++ys))
   pure (.own r (ver+1))
  |_=> .fail
 |_=> .fail
def af4(P:Program)(e:TypeId):Acc Row:=do
 let z<-op' (Ld P e)
 KD z
def U2(P:Program)(dst:Nat)(t:TypeId)(l c:V):Acc V:=do
 let e<-op' (elT P t)
 ck (Nat.ble 1 (lU P e))
 let z<-af4 P e
 ck (Nat.beq z.length (lU P e))
 match l,c with
 | .d (.int _ l),.d (.int _ c)=>do
  ck (decide (0<=l) && decide (l<=c) && decide (c * Rz P e<=Ry) && decide (c<=Ry))
  new dst (.arr false (qM P e) 0 (lU P e) (List.replicate l.toNat z))
  pure (.own dst 0)
 |_,_=> .fail
def bound(o:Option V)(d:Int):Acc Int:=match o with
 |none=> .ret d
 |some (.d (.int _ n))=> .ret n
 |some _=> .fail
def ajp(P:Program)(t:TypeId)(x:V)(lo hi:Option V):Acc V:=
 match x with
 | .d (.str s)=>do
  ck (match P.underlying t with|some .string=>true|_=>false)
  let l<-bound lo 0
  let h<-bound hi s.length
  let s'<-op' (cut s l h)
  pure (.d (.str s'))
 |_=>do
  let e<-op' (elT P t)
  ck (CJ P e)
  let(s,rows)<-seen x
  ck (Nat.beq s (lU P e))
  let l<-bound lo 0
  let h<-bound hi rows.length
  let rows'<-op' (cut rows l h)
  match x with
  | .own r ver=>do
   match<-rd r with
   |some (.arr _ fl jm s rows)=>do
    ck (Nat.beq ver jm)
    wr r (.arr true fl ver s rows)
    pure (.d (.sl false s rows'))
   |_=> .fail
  |_=>pure (.d (.sl false s rows'))
def aeP(P:Program)(t:TypeId)(x:V)(lo hi:Option V):Acc V:=
 match x with
 | .qU row off=>do
  let(n,e)<-op' (arT P t)
  ck (CJ P e)
  ck (Nat.beq (lU P e) 1 &&(Nat.beq off 0 && Nat.beq row.length n))
  match lo,hi with
  |none,none=>pure (.d (.sl false 1 (row.map λx=>[x])))
  |_,_=> .fail
 |x=>ajp P t x lo hi
def ajq(P:Program)(t:TypeId)(x:V)(hi:Option V):Acc V:=do
 let e<-op' (elT P t)
 ck (CJ P e)
 match x with
 | .own r ver=>do
  match<-rd r with
  |some (.arr false fl jm s rows)=>do
   ck (Nat.beq ver jm)
   ck (Nat.beq s (lU P e))
   let h<-bound hi rows.length
   ck (decide (0<=h) && decide (h<=(rows.length:Int)))
   wr r (.arr false fl (ver+1) s (rows.take h.toNat))
   pure (.own r (ver+1))
  |_=> .fail
 |_=> .fail
def amI(P:Program)(t:TypeId)(x lo:V):Acc V:=do
 let e<-op' (elT P t)
 ck (CJ P e)
 let l<-bound (some lo) 0
 match x with
 | .own r ver=>do
  match<-rd r with
  |some (.arr false true jm s rows)=>do
   ck (Nat.beq ver jm)
   ck (Nat.beq s (lU P e))
   ck (decide (0<=l) && decide (l<=(rows.length:Int)))
   wr r (.ET (ver+1) s (rows.drop l.toNat))
   pure (.own r (ver+1))
  |some (.ET jm s rows)=>do
   ck (Nat.beq ver jm)
   ck (Nat.beq s (lU P e))
   ck (decide (0<=l) && decide (l<=(rows.length:Int)))
   wr r (.ET (ver+1) s (rows.drop l.toNat))
   pure (.own r (ver+1))
  |_=> .fail
 |_=> .fail
def uf(P:Program)(T:TypeId)(tm:kH):List (Nat×Operand)->List V->Acc (List V)
 |[],cs=>pure cs
 |(f,x)::ps,cs=>do
  let(o,n,t)<-op' (Qs P T f)
  let v:=ev P tm t x
  ck (Nat.beq v.cells.length n)
  ck (v.cells.all one)
  ck (Nat.ble (o+n) cs.length)
  uf P T tm ps (splice cs o v.cells)
def af5(P:Program)(T:TypeId):Bool:=match P.underlying T with
 |some (.struct fs)=>fs.toList.all λf=>match P.info? f.type with|some _=>true|none=>false
 |_=>false
def qH(P:Program)(e:TypeId)(tm:kH):List (Nat×Operand)->List V->Acc (List V)
 |[],cs=>pure cs
 |(i,x)::ps,cs=>do
  let v:=ev P tm e x
  ck (Nat.beq v.cells.length (lU P e))
  ck (v.cells.all one)
  ck (Nat.ble (i * lU P e+lU P e) cs.length)
  qH P e tm ps (splice cs (i * lU P e) v.cells)
def aeQ(P:Program)(T:TypeId)(tm:kH)(ps:List (Nat×Operand)):Acc V:=do
 ck (af5 P T)
 let z<-op' (Ld P T)
 let cs<-uf P T tm ps z
 pure (.agg cs)
def ajr(P:Program)(T e:TypeId)(tm:kH)(ps:List (Nat×Operand)):Acc V:=do
 ck (CJ P e)
 let z<-op' (Ld P T)
 let cs<-qH P e tm ps z
 pure (.agg cs)
def aeR(P:Program)(T:TypeId)(tm:kH)(ps:List (Nat×Operand)):Acc V:=match arT P T with
 |some (_,e)=>ajr P T e tm ps
 |none=>aeQ P T tm ps
def ug(P:Program)(e:TypeId)(tm:kH):Nat->List (Nat×Operand)->Acc (List Row)
 |_,[]=>pure []
 |k,(i,x)::ps=>do
  ck (Nat.beq i k)
  let v:=ev P tm e x
  ck (Nat.beq v.cells.length (lU P e))
  let row<-KD v.cells
  let rows<-ug P e tm (k+1) ps
  pure (row::rows)
def OO(P:Program)(dst:Nat)(t:TypeId)(n:Nat)(tm:kH)(ps:List (Nat×Operand)):Acc V:=do
 let e<-op' (elT P t)
 ck (Nat.ble 1 (lU P e))
 ck (Nat.beq ps.length n)
 ck (Nat.ble (n * lU P e) 16777216)
 let _<-op' (Ld P e)
 let rows<-ug P e tm 0 ps
 new dst (.arr false (qM P e) 0 (lU P e) rows)
 pure (.own dst 0)
def aaz(P:Program)(src dst:TypeId)(x:V):Acc V:=
 match P.underlying src,P.underlying dst with
 |some (.int _),some (.int k)=>match x with
  | .d (.int _ n)=> .ret (.d (.int k (k.wrap n)))
  |_=> .fail
 |some .string,some .string=>match x with
  | .d (.str s)=> .ret (.d (.str s))
  |_=> .fail
 |some (.slice e),some .string=>do
  ck (match P.underlying e with|some (.int .u8)=>true|_=>false)
  let(s,rows)<-seen x
  ck (Nat.beq s 1)
  let b<-op' (bytesOf rows)
  pure (.d (.str b))
 |_,_=> .fail
def mg:Nat:=100000
def aeS(r:Nat)(l:List Nat):List Nat:=bif mem? r l then l else l++[r]
mutual
def af6(I:List Nat):V->List Nat
 | .ptr r _=>aeS r I
 | .clo _ a b=>adH (adH I a) b
 | .agg cs=>adH I cs
 | .zn v=>af6 I v
 |_=>I
def adH(I:List Nat):List V->List Nat
 |[]=>I
 |v::vs=>adH (af6 I v) vs
end
def Bh(A:Adv)(f i:Nat):Nat:=bif mem? i (A.move f) then 1 else bif mem? i (A.ref f) then 2 else bif mem? i (A.raw f) then 3 else bif mem? i (A.look f) then 4 else 0
def Nw(A:Adv)(f:Nat):Nat->List Nat->List V->List Nat
 |_,I,[]=>I
 |i,I,v::vs=>Nw A f (i+1) (match Bh A f i,v with
  |2,.own r _=>aeS r I
  |4,_=>I
  |_,v=>af6 I v) vs
def idxOf(r:Nat):Nat->List Nat->Option Nat
 |_,[]=>none
 |i,j::l=>bif Nat.beq r j then some i else idxOf r (i+1) l
def PG(A:Adv)(f:Nat):Nat->List V->Acc (List V)
 |_,[]=>pure []
 |i,v::vs=>do
  let v<-(match Bh A f i with
   |1=>do
    let x<-toD v
    pure (.d x)
   |_=>pure v:Acc V)
  let vs<-PG A f (i+1) vs
  pure (v::vs)
mutual
def lend(imp:List Nat):V->Acc (V×List Nat)
 | .d x=>pure (.d (roD x),[])
 | .nil s=>pure (.d (.sl false s []),[])
 | .own r ver=>do
  match<-rd r with
  |some (.arr fz fl jm s rows)=>do
   ck (Nat.beq ver jm)
   ck (!(mem? r imp))
   pure (.d (.sl false s (vw fl rows)),bif fz then[] else[r])
  |_=> .fail
 | .ptr r off=>do
  let i<-op' (idxOf r 0 imp)
  pure (.ptr (mg+i) off,[])
 | .qU row off=>pure (.qU row off,[])
 | .zn v=>do
  let(v,l)<-lend imp v
  pure (.zn v,l)
 | .clo f a b=>do
  let(a,l)<-aaA imp a
  let(b,l')<-aaA imp b
  pure (.clo f a b,l++l')
 | .agg cs=>do
  let(a,l)<-aaA imp cs
  pure (.agg a,l)
 | .uy ..=> .fail
 | .zo _=> .fail
 | .undef=> .fail
def aaA(imp:List Nat):List V->Acc (List V×List Nat)
 |[]=>pure ([],[])
 |v::vs=>do
  let(v,l)<-lend imp v
  let(vs,l')<-aaA imp vs
  pure (v::vs,l++l')
end
def PI(imp:List Nat):List V->Acc (Row×List Nat)
 |[]=>pure ([],[])
 |v::vs=>do
  let(v,l)<-lend imp v
  match v with
  | .d x=>do
   let(r,l')<-PI imp vs
   pure (x::r,l++l')
  |_=> .fail
def aae(imp:List Nat)(v:V):Acc (V×List Nat):=
 match v with
 | .ptr r off=>do
  match<-rd r with
  |some (.box _ cs)=>do
   ck (!(mem? r imp))
   let(row,l)<-PI imp cs
   pure (.qU row off,r::l)
  |_=> .fail
 | .qU row off=>pure (.qU row off,[])
 |_=> .fail
def PK(A:Adv)(imp:List Nat)(f:Nat):Nat->List V->Acc (List V×List Nat)
 |_,[]=>pure ([],[])
 |i,v::vs=>do
  let(v,l)<-(match Bh A f i with
   |1=>pure (v,[])
   |2=>match v with
    | .own r ver=>do
     ck (Nat.beq ver 0)
     let i<-op' (idxOf r 0 imp)
     pure (.own (mg+i) 0,[])
    |_=> .fail
   |3=>match v with
    | .nil s=>pure (.nil s,[])
    |_=> .fail
   |4=>aae imp v
   |_=>lend imp v:Acc (V×List Nat))
  let(vs,l')<-PK A imp f (i+1) vs
  pure (v::vs,l++l')
def amJ(imp:List Nat)(own:Bool)(v:V):Acc V:=
 match v with
 | .d x=>pure (.d (roD x))
 | .nil s=>pure (.d (.sl own s []))
 | .own r ver=>do
  match<-rd r with
  |some (.arr fz fl jm s rows)=>do
   ck (Nat.beq ver jm)
   ck (!(mem? r imp))
   match own with
   |true=>do
    ck (!fz)
    ck (Ur fl rows)
    wr r .dead
    pure (.d (.sl true s rows))
   |false=>do
    wr r (.arr true fl ver s rows)
    pure (.d (.sl false s (vw fl rows)))
  |_=> .fail
 |_=> .fail
def RD(imp own:List Nat):Nat->List V->Acc (List V)
 |_,[]=>pure []
 |j,v::vs=>do
  let v<-amJ imp (mem? j own) v
  let vs<-RD imp own (j+1) vs
  pure (v::vs)
def aeT(A:Adv)(imp:List Nat)(c:Option Cell):Acc Cell:=
 match c with
 |some (.box t cs)=>do
  let cs<-RD imp (A.ayn t) 0 cs
  pure (.box t cs)
 |some (.arr fz fl ver s rows)=>do
  ck (!fz)
  ck (Nat.beq ver 0)
  pure (.arr fz fl 0 s rows)
 |_=> .fail
def RF(A:Adv)(imp:List Nat):List Nat->Acc (List Cell)
 |[]=>pure []
 |r::rs=>do
  let c<-rd r
  let c<-aeT A imp c
  let cs<-RF A imp rs
  pure (c::cs)
def keyOf(r j dst:Nat):Nat:=1000000+(r * 100+j) * 10000+dst
def vD:V->D
 | .d x=>x
 |_=> .NZ
def amK(cs:List Cell)(i:Nat):Row:=match cs[i]? with|some (.box _ vs)=>vs.map vD|_=>[]
def amL(s:Nat)(cs:List Cell)(i:Nat):Option (List Row):=match cs[i]? with|some (.arr false _ 0 s' rows)=>bif Nat.beq s s' then some rows else none|_=>none
def amM(cs:List Cell)(i n:Nat):Bool:=match cs[i]? with|some (.box _ vs)=>Nat.beq vs.length n|_=>false
def amN(f:TypeId->List Bool):List TypeId->List Bool
 |[]=>[]
 |t::ts=>f t++amN f ts
def fls(P:Program):Nat->TypeId->List Bool
 |0,_=>[]
 |n+1,t=>match P.underlying t with
  |some (.slice e)=>[qM P e]
  |some (.struct fs)=>amN (fls P n) (fs.toList.map (·.type))
  |_=>[false]
def MI(own fl:Bool)(key:Nat)(row:Row)(j:Nat):CT->Acc V
 | .int k=> .opt (fB k row j) λn=> .ret (.d (.int k n))
 | .bool=> .opt (adF row j) λn=> .ret (.d (.bool n))
 | .str=> .opt (cStr row j) λn=> .ret (.d (.str n))
 | .sl s=>match own with
  |true=> .opt (aeN s row j) λrows=>do
   new key (.arr false fl 0 s rows)
   pure (.own key 0)
  |false=> .opt (TL s row j) λrows=> .ret (.d (.sl false s (vw fl rows)))
 | .other=> .fail
def V6(own:List Nat)(r dst:Nat)(row:Row):Nat->List CT->List Bool->Acc (List V)
 |_,[],_=>pure []
 |j,ct::l,fs=>do
  let v<-MI (mem? j own) (fs.headD false) (keyOf r j dst) row j ct
  let vs<-V6 own r dst row (j+1) l fs.tail
  pure (v::vs)
def Yr(X:Ctx)(dst:Nat)(out:List Cell):Nat->List Nat->Acc Unit
 |_,[]=>pure ()
 |i,r::rs=>do
  match<-rd r with
  |some (.box t _)=>do
   ck (amM out i (MH X.P t).length)
   let vs<-V6 (X.Jc.ayn t) r dst (amK out i) 0 (MH X.P t) (fls X.P 8 t)
   wr r (.box t vs)
  |some (.arr _ fl ver s _)=>do
   let rows<-op' (amL s out i)
   wr r (.arr false fl ver s rows)
  |_=> .fail
  Yr X dst out (i+1) rs
def atI(dst c:Nat):Nat:=1000000000000000+dst * 1000+c
def RG(Zn:List Nat)(dst ri:Nat)(row:Row):Nat->List CT->List Bool->Acc (List V)
 |_,[],_=>pure []
 |j,ct::l,fs=>do
  let v<-MI (mem? (ri * 20+j) Zn) (fs.headD false) (atI dst (ri * 20+j)) row j ct
  let vs<-RG Zn dst ri row (j+1) l fs.tail
  pure (v::vs)
def V7(res:List Row)(ri:Nat):Row:=match res[ri]? with|some r=>r|none=>[]
def U3(X:Ctx)(Zn:List Nat)(dst:Nat)(res:List Row):Nat->List TypeId->Acc (List V)
 |_,[]=>pure []
 |ri,t::ts=>do
  ck (Nat.beq (V7 res ri).length (MH X.P t).length)
  let cs<-RG Zn dst ri (V7 res ri) 0 (MH X.P t) (fls X.P 8 t)
  let v<-op' (GU X.P t cs)
  let vs<-U3 X Zn dst res (ri+1) ts
  pure (v::vs)
def ajs(Zn:List Nat)(ri:Nat):Nat->List CT->Bool
 |_,[]=>true
 |j,.sl _::l=>mem? (ri * 20+j) Zn && ajs Zn ri (j+1) l
 |j,_::l=>ajs Zn ri (j+1) l
def TM(P:Program)(Zn:List Nat):Nat->List TypeId->Bool
 |_,[]=>true
 |ri,t::ts=>ajs Zn ri 0 (MH P t) && TM P Zn (ri+1) ts
def freeze:List Nat->Acc Unit
 |[]=>pure ()
 |r::rs=>do
  match<-rd r with
  |some (.arr _ fl ver s rows)=>wr r (.arr true fl ver s rows)
  |_=> .fail
  freeze rs
def V8(X:Ctx)(K:jJ)(fn dst f:Nat)(args:List V):Acc V:=do
 let g<-op' X.P.funcs[f]?
 ck (g.body.isSome && !(g.name == "runtime.NumGoroutine"))
 let imp:=Nw X.Jc f 0 [] args
 let args<-PG X.Jc f 0 args
 let cells<-RF X.Jc imp imp
 let(args,MJ)<-PK X.Jc imp f 0 args
 ck (MJ.all λr=> !(mem? r imp))
 let out<-op' (K f args cells)
 ck (Nat.beq out.1.length g.resultTypes.size)
 let need:= !(MJ.isEmpty) &&(TM X.P (X.Jc.Zn fn dst) 0 g.resultTypes.toList && imp.isEmpty)
 ck (bif need then out.1.all dQ else true)
 freeze (bif need then[] else MJ)
 Yr X dst out.2 0 imp
 let vs<-U3 X (X.Jc.Zn fn dst) dst out.1 0 g.resultTypes.toList
 match vs with
 |[v]=>pure v
 |vs=>pure (.zo vs)
def ayr(P:Program)(ts:List TypeId)(x:V):Bool:=match ts with
 |[t]=>(match x with
  | .d (.str _)=>(match P.underlying t with|some .string=>true|_=>false)
  |_=>(match P.underlying t with|some (.slice _)=>true|_=>false))
 |_=>false
def sF(P:Program)(tm:kH):List Operand->List TypeId->List V
 |[],_=>[]
 |x::xs,ts=>ev P tm (ts.headD 0) x::sF P tm xs ts.tail
def af7:List V->Acc (List V)
 |[]=>pure []
 |v::vs=>do
  let v<-(match v with
   | .ptr r off=>do
    match<-rd r with
    |some (.nO _ x)=>do
     ck (Nat.beq off 0)
     pure (.zn x)
    |_=>pure (.ptr r off)
   |v=>pure v:Acc V)
  let vs<-af7 vs
  pure (v::vs)
def vop(X:Ctx)(K:jJ)(fn:Nat)(tm:kH)(o:Oper):Acc V:=
 let P:=X.P
 let dst:=o.dst.getD 0
 match o.op with
 | .move x=>pure (ev P tm o.type x)
 | .assign x=>pure (ev P tm o.type x)
 | .pick c x y=>amG (ev P tm o.type c) (ev P tm o.type x) (ev P tm o.type y)
 | .alloc T=>do
  let z<-op' (Ld P T)
  new dst (.box T z)
  pure (.ptr dst 0)
 | .box T x=>do
  let v:=ev P tm T x
  ck (Nat.beq v.cells.length (lU P T))
  ck (v.cells.all one)
  new dst (.box T v.cells)
  pure (.ptr dst 0)
 | .build T ps=>aeR P T tm ps.toList
 | .buildSlice t n ps=>OO P dst t n tm ps.toList
 | .load t a=>amH P t (evG X tm 0 a)
 | .store t a x=>do ajm P t (ev P tm 0 a) (ev P tm t x);pure .undef
 | .nilCheck x=>match evG X tm o.type x with
  | .ptr r off=>pure (.ptr r off)
  | .qU row off=>pure (.qU row off)
  | .uy r ver i off=>pure (.uy r ver i off)
  |_=> .fail
 | .binOp op t x y t'=>atH P t op (ev P tm t x) (ev P tm t' y)
 | .unOp op t x=>un op (ev P tm t x)
 | .convert s d x=>aaz P s d (ev P tm s x)
 | .makeFunc (.func f) first caps=>do
  let cs<-af7 (sF P tm caps.toList [])
  pure (.clo f (sF P tm first.toList []) cs)
 | .makeSlice t l c=>U2 P dst t (ev P tm o.type l) (ev P tm o.type c)
 | .slice t x lo hi none=>match X.Jc.trunc fn dst,lo,hi with
  |true,none,hi=>ajq P t (ev P tm t x) (hi.map (ev P tm 3))
  |true,some lo,none=>amI P t (ev P tm t x) (ev P tm 3 lo)
  |_,lo,hi=>aeP P t (evG X tm t x) (lo.map (ev P tm 3)) (hi.map (ev P tm 3))
 | .fieldAddr T x f=>UZ P T (ev P tm 0 x) f
 | .field T x f=>ajn P T (ev P tm T x) f
 | .indexAddr t x i=>U1 P t (evG X tm t x) (ev P tm 3 i)
 | .index t x i=>ajo P t (ev P tm t x) (ev P tm 3 i)
 | .extract x i=>match ev P tm 0 x with
  | .zo vs=>op' vs[i]?
  |_=> .fail
 | .call {callee:=.value f,args,argTypes}=>match ev P tm 0 f with
  | .clo g first caps=>V8 X K fn dst g (first++sF P tm args.toList argTypes.toList++caps)
  |_=> .fail
 | .call {callee:=.builtin .len,args,argTypes}=>match sF P tm args.toList argTypes.toList with
  |[x]=>do
   ck (ayr P argTypes.toList x)
   lenV x
  |_=> .fail
 | .call {callee:=.builtin .append,args,argTypes}=>match sF P tm args.toList argTypes.toList,argTypes.toList with
  |[x,y],[t,t']=>aeO P dst t t' x y
  |_,_=> .fail
 | .call {callee:=.builtin .max,args,argTypes}=>match sF P tm args.toList argTypes.toList with
  |[.d (.int k x),.d (.int _ y)]=>pure (.d (.int k (bif decide (x<y) then y else x)))
  |_=> .fail
 | .call {callee:=.builtin .min,args,argTypes}=>match sF P tm args.toList argTypes.toList with
  |[.d (.int k x),.d (.int _ y)]=>pure (.d (.int k (bif decide (y<x) then y else x)))
  |_=> .fail
 |_=> .fail
end Go.Vm
namespace Go.Vm
open Go
mutual
def refs:V->List Nat
 | .own r _=>[r]
 | .ptr r _=>[r]
 | .uy r _ _ _=>[r]
 | .clo _ a b=>Le a++Le b
 | .agg cs=>Le cs
 | .zo vs=>Le vs
 | .zn v=>refs v
 |_=>[]
def Le:List V->List Nat
 |[]=>[]
 |v::vs=>refs v++Le vs
end
def aaB(m:Mem)(r:Nat):List Nat:=match get r m with
 |some (.box _ cs)=>Le cs
 |some (.nO _ v)=>refs v
 |_=>[]
def KI(k:Nat):Bool:=Nat.ble mg k && Nat.blt k (2 * mg)
def V9:List Nat->List Nat->List Nat
 |acc,[]=>acc
 |acc,k::ks=>V9 (bif mem? k acc then acc else acc++[k]) ks
def aqs(tm:kH)(m:Mem):List Nat:=
 let l0:=V9 [] (tm.flatMap λx=>refs x.2)
 let l1:=V9 l0 (l0.flatMap (aaB m))
 let l2:=V9 l1 (l1.flatMap (aaB m))
 (V9 l2 (m.map (·.1))).filter λk=> !(KI k)
def names:List Nat:=[nat_lit 300000,nat_lit 300001,nat_lit 300002,nat_lit 300003,nat_lit 300004,nat_lit 300005,nat_lit 300006,nat_lit 300007,nat_lit 300008,nat_lit 300009,nat_lit 300010,nat_lit 300011,nat_lit 300012,nat_lit 300013,nat_lit 300014,nat_lit 300015,nat_lit 300016,nat_lit 300017,nat_lit 300018,nat_lit 300019,nat_lit 300020,nat_lit 300021,nat_lit 300022,nat_lit 300023,nat_lit 300024,nat_lit 300025,nat_lit 300026,nat_lit 300027,nat_lit 300028,nat_lit 300029,nat_lit 300030,nat_lit 300031,nat_lit 300032,nat_lit 300033,nat_lit 300034,nat_lit 300035,nat_lit 300036,nat_lit 300037,nat_lit 300038,nat_lit 300039,nat_lit 300040,nat_lit 300041,nat_lit 300042,nat_lit 300043,nat_lit 300044,nat_lit 300045,nat_lit 300046,nat_lit 300047,nat_lit 300048,nat_lit 300049,nat_lit 300050,nat_lit 300051,nat_lit 300052,nat_lit 300053,nat_lit 300054,nat_lit 300055,nat_lit 300056,nat_lit 300057,nat_lit 300058,nat_lit 300059,nat_lit 300060,nat_lit 300061,nat_lit 300062,nat_lit 300063]
def aqt:List Nat->List Nat->List (Nat×Nat)
 |n::ns,k::l=>(k,n)::aqt ns l
 |_,_=>[]
def ren(L:List (Nat×Nat))(k:Nat):Nat:=match get k L with
 |some j=>j
 |none=>k
mutual
def MZ(L:List (Nat×Nat)):V->V
 | .d x=> .d x
 | .nil s=> .nil s
 | .own r ver=> .own (ren L r) ver
 | .ptr r off=> .ptr (ren L r) off
 | .uy r ver i off=> .uy (ren L r) ver i off
 | .qU row off=> .qU row off
 | .zn v=> .zn (MZ L v)
 | .clo f a b=> .clo f (RH L a) (RH L b)
 | .agg cs=> .agg (RH L cs)
 | .zo vs=> .zo (RH L vs)
 | .undef=> .undef
def RH(L:List (Nat×Nat)):List V->List V
 |[]=>[]
 |v::vs=>MZ L v::RH L vs
end
def aaC(L:List (Nat×Nat)):Cell->Cell
 | .box t cs=> .box t (RH L cs)
 | .arr fz fl ver s rows=> .arr fz fl ver s rows
 | .dead=> .dead
 | .ET ver s rows=> .ET ver s rows
 | .nO t v=> .nO t (MZ L v)
def N7(L:List (Nat×Nat)):Mem->Mem
 |[]=>[]
 |(k,c)::m=>put (ren L k) (aaC L c) (N7 L m)
def aaD(L:List (Nat×Nat)):kH->kH
 |[]=>[]
 |(t,v)::tm=>(t,MZ L v)::aaD L tm
def nodupB:List Nat->Bool
 |[]=>true
 |k::l=> !(mem? k l) && nodupB l
def Wh(L:List (Nat×Nat))(ks:List Nat):Bool:=nodupB (ks.map (ren L)) && ks.all λk=>bif KI k then Nat.beq (ren L k) k else true
def aeU(L:List (Nat×Nat))(S:St):St:=match Wh L (S.mem.map (·.1)) with
 |true=>⟨aaD L S.tm,N7 L S.mem⟩
 |false=>S
def canon(S:St):St:=match aqs S.tm S.mem with
 |[]=>S
 |k::o=>aeU (aqt names (k::o)) S
end Go.Vm
namespace Go.Vm
open Go
mutual
def Qu(m:Mem):V->V
 | .d x=> .d x
 | .nil s=> .nil s
 | .own r ver=>match get r m with
  |some (.arr _ _ jm _ _)=>bif Nat.beq ver jm then .own r 0 else .undef
  |some (.ET jm _ _)=>bif Nat.beq ver jm then .own r 0 else .undef
  |_=> .undef
 | .ptr r off=>match get r m with
  |some (.box _ _)=> .ptr r off
  |some (.nO _ _)=> .ptr r off
  |_=> .undef
 | .uy r ver i off=>match get r m with
  |some (.arr _ _ jm _ _)=>bif Nat.beq ver jm then .uy r 0 i off else .undef
  |some (.ET jm _ _)=>bif Nat.beq ver jm then .uy r 0 i off else .undef
  |_=> .undef
 | .qU row off=> .qU row off
 | .zn v=> .zn (Qu m v)
 | .clo f a b=> .clo f (Us m a) (Us m b)
 | .agg cs=> .agg (Us m cs)
 | .zo vs=> .zo (Us m vs)
 | .undef=> .undef
def Us(m:Mem):List V->List V
 |[]=>[]
 |v::vs=>Qu m v::Us m vs
end
def Bj(m:Mem):Cell->Cell
 | .box t cs=> .box t (Us m cs)
 | .arr fz fl _ s rows=> .arr fz fl 0 s rows
 | .dead=> .dead
 | .ET _ s rows=> .ET 0 s rows
 | .nO t v=> .nO t (Qu m v)
def U4(m:Mem)(tm:kH):List Nat->kH
 |[]=>[]
 |t::ts=>match get t tm with
  |some v=>(t,Qu m v)::U4 m tm ts
  |none=>U4 m tm ts
def U5:List Nat->List Nat->List Nat
 |[],l=>l
 |a::as,l=>bif mem? a l then U5 as l else U5 as (a::l)
def reach(m:Mem):Nat->List Nat->List Nat
 |0,l=>l
 |n+1,l=>reach m n (U5 (l.flatMap (aaB m)) l)
def roots(tm:kH)(m:Mem):List Nat:=
 U5 (tm.flatMap λx=>refs x.2) ((m.map (·.1)).filter KI)
def pF(all:Mem)(R:List Nat):Mem->Mem
 |[]=>[]
 |(k,c)::m=>match c with
  | .dead=>pF all R m
  |c=>bif mem? k R then(k,Bj all c)::pF all R m else pF all R m
def closed(R:List Nat)(m:Mem):Bool:=m.all λx=>match x.2 with
 | .box _ cs=>(Le cs).all λr=>mem? r R
 | .nO _ v=>(refs v).all λr=>mem? r R
 |_=>true
def ays(m:Mem):Bool:=m.all λx=>match x.2 with
 | .arr _ _ ver _ _=>bif KI x.1 then Nat.beq ver 0 else true
 | .dead=> !(KI x.1)
 | .ET ..=> !(KI x.1)
 |_=>true
def sortedK:Mem->Bool
 |[]=>true
 |(k,_)::m=>match m with
  |[]=>true
  |(j,_)::_=>Nat.blt k j && sortedK m
def U6(ts:List Nat)(S:St):Option St:=
 let tm:=U4 S.mem S.tm ts
 let R:=reach S.mem 3 (roots tm S.mem)
 let m:=pF S.mem R S.mem
 bif closed R m &&(ays S.mem && sortedK S.mem) then some ⟨tm,m⟩ else none
def prune(ts:List Nat)(S:St):Option St:=match U6 ts S with
 |some S'=>some (canon S')
 |none=>none
def Bl(ops:Array Oper)(tm:kH)(o:Oper):Option (Bool×kH):=
 match o.guard with
 |none=>some (true,tm)
 |some (j,want)=>match ops[j]? with
  |some oj=>match oj.dst with
   |some d=>match Qr d tm with
    | .d (.bool b)=>match b with
     |true=>some (want,put d (.d (.bool true)) tm)
     |false=>some (!want,put d (.d (.bool false)) tm)
    | .zo vs=>match vs with
     |[]=>some (false,put d (.zo []) tm)
     |_::_=>none
    |_=>none
   |none=>none
  |none=>none
def KE(nt:Nat):Option Nat->Bool
 |some d=>Nat.blt d nt
 |none=>true
def EW(P:Program)(fn:Nat):Nat:=match P.funcs[fn]? with|some g=>g.ntmps|none=>0
def Yt(nt:Nat)(dst:Option Nat)(tm:kH):kH:=bif KE nt dst then UY dst (.zo []) tm else aqp dst tm
def zk(X:Ctx)(K:jJ)(fn:Nat)(ops:Array Oper)(i:Nat)(S:St):Option (St×Log):=
 match ops[i]? with
 |none=>none
 |some o=>match Bl ops S.tm o with
  |none=>none
  |some (false,tm)=>some (⟨Yt (EW X.P fn) o.dst tm,S.mem⟩,.none)
  |some (true,tm)=>match(vop X K fn tm o).run S.mem .none with
   |none=>none
   |some (v,m,l)=>bif KE (EW X.P fn) o.dst then some (⟨UY o.dst v tm,m⟩,l) else none
def vK(X:Ctx)(K:jJ)(fn:Nat)(ops:Array Oper):List Nat->St->List (Nat×Log)->Option (St×List (Nat×Log))
 |[],S,L=>some (S,L)
 |i::is,S,L=>match zk X K fn ops i S with
  |none=>none
  |some (S',l)=>vK X K fn ops is S' ((i,l)::L)
def aqu(a b:List Nat):Bool:=a.all λk=> !(mem? k b)
def Log.apart(a b:Log):Bool:=aqu a.w b.r && aqu a.w b.w && aqu a.r b.w
def ordered(bef:Array Nat)(i j:Nat):Bool:=(bef.getD i 0).testBit j
def RI(ops:Array Oper)(bef:Array Nat):List (Nat×Log)->Bool
 |[]=>true
 |(i,l)::L=>(L.all fun(j,l')=>ordered bef i j||(l.apart l' &&(match ops[i]?,ops[j]? with
   |some a,some b=>a.apart ops b
   |_,_=>false))) && RI ops bef L
def RJ:Nat->List Oper->Bool
 |_,[]=>true
 |i,o::l=>(o.after.toList.all λe=> !(Region.binds .any e)||Nat.blt e.on i) && RJ (i+1) l
def backOk(ops:Array Oper):Bool:=RJ 0 ops.toList
def atJ(d:Nat):Operand->Bool
 | .tmp t=> !(Nat.beq t d)
 |_=>true
def akp(args:Array Operand)(d1 d2:Nat):Bool:=match args.toList with
 |[.tmp a,.tmp b]=>Nat.beq a d1 && Nat.beq b d2
 |_=>false
def Wi:List Row×List Cell->Option (IntKind×Int×Bool×Nat×List Row)
 |([[.int k n]],[.arr false fl' 0 s' rs'])=>some (k,n,fl',s',rs')
 |_=>none
def aaE(e:Nat)(fl:Bool)(q:IntKind×Int×Bool×Nat×List Row):Bool:=Nat.beq q.2.2.2.1 e &&((fl==q.2.2.1) &&(Ur fl q.2.2.2.2 && CG q.2.2.2.2))
def amO(X:Ctx)(f:Nat):Bool:=Nat.beq (Bh X.Jc f 0) 2 && Nat.beq (Bh X.Jc f 1) 0 &&(match X.P.funcs[f]? with
 | some g => g.body.isSome && !(g.name == "runtime.NumGoroutine") && (match g.resultTypes.toList with | [t] => !(Gq X.P t) | _ => false)
 |none=>false)
def Nh(X:Ctx)(K:jJ)(tm:kH)(o1 o2 o3:Oper):Acc (Nat×Nat×V×V):=
 match o1,o2,o3 with
 |⟨some d1,.load t (.tmp ta),_,_,_,none⟩,⟨some d2,.move x,ty2,_,_,none⟩,⟨_,.call ⟨.value (.func f),args,_⟩,_,_,_,none⟩=>do
  ck (!(Nat.beq d1 d2) &&(akp args d1 d2 &&(atJ d1 x &&(CJ X.P t &&(Nat.beq (lU X.P t) 1 &&(!(Gq X.P t) && amO X f))))))
  let e<-op' (elT X.P t)
  match Qr ta tm,ev X.P tm ty2 x with
  | .uy r ver i off,.d (.int k n)=>do
   match<-rd r with
   |some (.arr false false jm s rows)=>do
    ck (Nat.beq ver jm && Nat.ble (off+1) s)
    let row<-op' rows[i]?
    let rs<-op' (aeN (lU X.P e) row off)
    ck (Ur (qM X.P e) rs)
    let out<-op' (K f [.own mg 0,.d (.int k n)] [.arr false (qM X.P e) 0 (lU X.P e) rs])
    let q<-op' (Wi out)
    ck (aaE (lU X.P e) (qM X.P e) q)
    wr r (.arr false false jm s (rows.set i (splice row off [.sl true (lU X.P e) q.2.2.2.2])))
    pure (d1,d2,.d (.int k n),.d (.int q.1 q.2.1))
   |_=> .fail
  |_,_=> .fail
 |_,_,_=> .fail
def EX(X:Ctx)(K:jJ)(fn:Nat)(ops:Array Oper)(p:Nat)(S:St):Option St:=
 match ops[p]?,ops[p+1]?,ops[p+2]? with
 |some o1,some o2,some o3=>match(Nh X K S.tm o1 o2 o3).run S.mem .none with
  |some ((d1,d2,kv,v),m,_)=>bif Nat.blt d1 (EW X.P fn) &&(Nat.blt d2 (EW X.P fn) && KE (EW X.P fn) o3.dst) then some ⟨UY o3.dst v (put d2 kv (put d1 .undef S.tm)),m⟩ else none
  |none=>none
 |_,_,_=>none
def zC(X:Ctx)(K:jJ)(fn id:Nat)(ops:Array Oper)(draw:Bool)(S:St):Option (St×List (Nat×Log)):=
 match X.Jc.fuse fn id with
 |0=>vK X K fn ops (List.range ops.size) S []
 |p+1=>match draw with
  |true=>none
  |false=>match vK X K fn ops (List.range p) S [] with
   |some (S1,_)=>match EX X K fn ops p S1 with
    |some S2=>vK X K fn ops ((List.range ops.size).drop (p+3)) S2 []
    |none=>none
   |none=>none
def region(X:Ctx)(K:jJ)(fn id:Nat)(ops:Array Oper)(draw:Bool)(S:St):Option St:=
 match zC X K fn id ops draw S with
 |none=>none
 |some (S',L)=>bif(match draw with|false=>true|true=>X.P.follows .mixedOrders &&(backOk ops && RI ops (Region.before ops) L)) then prune (X.Jc.keep fn id) S' else none
inductive Ex where
 |normal
 |exit (id:Nat)
 |ret
noncomputable def lim{α:Type}(f:Nat->Option α):Option α:=
 open Classical in if h:∃a n,f n=some a then some (Classical.choose h) else none
def iter(b:St->Option (Ex×St)):Nat->St->Option (Ex×St)
 |0,_=>none
 |n+1,S=>match b S with
  |some (.normal,S')=>iter b n S'
  |r=>r
noncomputable def OQ(b:St->Option (Ex×St))(S:St):Option (Ex×St):=lim λn=>iter b n S
def Ut(P:Program)(tm:kH)(c:Operand):Option Bool:=match ev P tm 0 c with
 | .d (.bool b)=>some b
 |_=>none
noncomputable def den(X:Ctx)(K:jJ)(fn:Nat):Code->St->Option (Ex×St)
 | .skip,S=>some (.normal,S)
 | .region id ops draw,S=>match region X K fn id ops draw S with
  |some S'=>some (.normal,S')
  |none=>none
 | .seq a b,S=>match den X K fn a S with
  |some (.normal,S')=>den X K fn b S'
  |r=>r
 | .cond c a b,S=>match Ut X.P S.tm c with
  |some true=>den X K fn a S
  |some false=>den X K fn b S
  |none=>none
 | .block id c,S=>match den X K fn c S with
  |some (.exit j,S')=>bif Nat.beq j id then some (.normal,S') else some (.exit j,S')
  |r=>r
 | .loop c,S=>OQ (den X K fn c) S
 | .exit id,S=>some (.exit id,S)
 | .ret,S=>some (.ret,S)
 |_,_=>none
def ajt(A:Adv)(f i:Nat)(fl:Bool)(v:V):Acc V:=
 match Bh A f i with
 |1=>(match v with
  | .d (.sl true s rows)=>do
   new i (.arr false fl 0 s rows)
   pure (.own i 0)
  | .d x=>pure (.d (roD x))
  |_=> .fail)
 |_=>pure v
def Wj(X:Ctx)(f:Nat):Nat->List TypeId->List V->Acc kH
 |_,_,[]=>pure []
 |i,ts,v::vs=>do
  let v<-ajt X.Jc f i ((fls X.P 8 (ts.headD 0)).headD false) v
  let r<-Wj X f (i+1) ts.tail vs
  pure ((i,v)::r)
def pG:Nat->List Cell->Mem
 |_,[]=>[]
 |i,c::cs=>(mg+i,c)::pG (i+1) cs
def tC(n:Nat):List Nat:=(List.range n).map (mg+ ·)
def entry(X:Ctx)(f:Nat)(g:Func)(args:List V)(cells:List Cell):Acc kH:=do
 Yr X 9999 cells 0 (tC cells.length)
 Wj X f 0 g.params.toList args
def aeV(P:Program)(tm:kH)(r:ResultVar)(t:TypeId):Acc Row:=
 match r with
 | .tmp x=>match Gq P t,Qr x tm with
  |true,.agg cs=>KD cs
  |false,.agg _=> .fail
  |false,v=>KD [v]
  |true,_=> .fail
 | .cell a T=>match Qr a tm with
  | .ptr r 0=>do
   match<-rd r with
   |some (.box _ cs)=>do
    ck (Nat.beq T t && Nat.beq cs.length (lU P T) &&(CJ P T &&(Gq P T||Nat.beq cs.length 1)))
    KD cs
   |_=> .fail
  |_=> .fail
def TN(P:Program)(tm:kH):List ResultVar->List TypeId->Acc (List Row)
 |[],[]=>pure []
 |r::rs,t::ts=>do
  let row<-aeV P tm r t
  let rows<-TN P tm rs ts
  pure (row::rows)
 |_,_=> .fail
def leave(X:Ctx)(g:Func)(n:Nat)(S:St):Option (List Row×List Cell):=
 match(do
  let rows<-TN X.P S.tm g.results.toList g.resultTypes.toList
  let cells<-RF X.Jc (tC n) (tC n)
  pure (rows,cells):Acc (List Row×List Cell)).run S.mem .none with
 |some (r,_,_)=>some r
 |none=>none
noncomputable def body(X:Ctx)(K:jJ)(f:Nat)(args:List V)(cells:List Cell):Option (List Row×List Cell):=
 match X.P.funcs[f]? with
 |some g=>match g.body with
  |some c=>bif !(Nat.ble cells.length mg && Nat.ble args.length g.ntmps) then none else match(entry X f g args cells).run (pG 0 cells) .none with
   |some (tm,m,_)=>(match den X K f c ⟨tm,m⟩ with
    |some (.normal,S)=>leave X g cells.length S
    |some (.ret,S)=>leave X g cells.length S
    |_=>none)
   |none=>none
  |none=>none
 |none=>none
noncomputable def RN(X:Ctx):Nat->jJ
 |0,_,_,_=>none
 |n+1,f,args,cells=>match X.Rx f with
  |some p=>p args cells
  |none=>body X (RN X n) f args cells
noncomputable def call(X:Ctx):jJ:=λf args cells=>lim λn=>RN X n f args cells
end Go.Vm
namespace Go.Vm
open Go
abbrev View:=Nat->Nat->Option Value
abbrev Heap:=Nat->Option Obj
def dV(w:World):Heap:=λb=>w.heap[b]?
mutual
def ro(h:View):D->Value->Prop
 | .int k n,v=>v=.int k n
 | .bool b,v=>v=.bool b
 | .str s,v=>v=.string ⟨⟨s⟩⟩
 | .NZ,v=>v=.nilFunc
 | .sl _ s rows,v=>∃a cap,v=.slice a rows.length cap∧rows.length<=cap∧(rows≠[]->∃b o,a=some ⟨b,o,none⟩∧ng h s rows b o)
def ng(h:View)(s:Nat):List Row->Nat->Nat->Prop
 |[],_,_=>True
 |r::rs,b,o=>r.length=s∧uT h r b o∧ng h s rs b (o+s)
def uT(h:View):Row->Nat->Nat->Prop
 |[],_,_=>True
 |x::r,b,o=>(∃v,h b o=some v∧ro h x v)∧uT h r b (o+1)
end
mutual
def ow(H:Heap)(h:View):D->Value->List Nat->Prop
 | .int k n,v,N=>v=.int k n∧N=[]
 | .bool b,v,N=>v=.bool b∧N=[]
 | .str s,v,N=>v=.string ⟨⟨s⟩⟩∧N=[]
 | .NZ,v,N=>v=.nilFunc∧N=[]
 | .sl own s rows,v,N=>match own with
  |false=>N=[]∧ro h (.sl false s rows) v
  |true=>(rows=[]∧v=.slice none 0 0∧N=[])∨
   ∃b cap cs t N',v=.slice (some ⟨b,0,none⟩) rows.length cap∧rows.length<=cap∧H b=some (.cells cs t (0,0))∧cs.size=cap * s∧
    fZ H h s rows cs.toList N'∧N=b::N'
def fZ(H:Heap)(h:View)(s:Nat):List Row->List Value->List Nat->Prop
 |[],_,N=>N=[]
 |r::rs,cs,N=>r.length=s∧∃N1 N2,N=N1++N2∧iR H h r cs N1∧fZ H h s rs (cs.drop s) N2
def iR(H:Heap)(h:View):Row->List Value->List Nat->Prop
 |[],_,N=>N=[]
 |x::r,cs,N=>∃v cs' N1 N2,cs=v::cs'∧N=N1++N2∧ow H h x v N1∧iR H h r cs' N2
end
def jg(h:View):Row->List Value->Prop
 |[],_=>True
 |x::r,cs=>∃v cs',cs=v::cs'∧ro h x v∧jg h r cs'
def gJ(h:View)(s:Nat):List Row->List Value->Prop
 |[],_=>True
 |r::rs,cs=>r.length=s∧jg h r cs∧gJ h s rs (cs.drop s)
def Ro(H:Heap)(h:View)(fl:Bool)(s:Nat)(rows:List Row)(v:Value)(N:List Nat):Prop:=
 (rows=[]∧v=.slice none 0 0∧N=[])∨
 ∃b cap cs t N',v=.slice (some ⟨b,0,none⟩) rows.length cap∧rows.length<=cap∧H b=some (.cells cs t (0,0))∧cs.size=cap * s∧
  (match fl with
   |true=>gJ h s rows cs.toList∧N'=[]
   |false=>fZ H h s rows cs.toList N')∧N=b::N'
def ac4(H:Heap)(h:View)(s:Nat)(rows:List Row)(v:Value)(N:List Nat):Prop:=
 (rows=[]∧v=.slice none 0 0∧N=[])∨
 ∃b o cap cs t,v=.slice (some ⟨b,o,none⟩) rows.length cap∧rows.length<=cap∧H b=some (.cells cs t (0,0))∧o+cap * s<=cs.size∧
  gJ h s rows (cs.toList.drop o)∧N=[b]
def PL(g:Value):Prop:=∃a n c,g=.slice a n c
def aqv(g:Value):Prop:=∃b o,g=.pointer (some ⟨b,o,none⟩)
mutual
def aZ(μ:Nat->Value)(m:Mem)(h:View):V->Value->Prop
 | .d x,g=>ro h x g
 | .nil _,g=>g=.slice none 0 0
 | .own r v0,g=>PL g∧match get r m with
  |some (.arr _ _ ver _ _)=>v0<=ver∧(v0=ver->g=μ r)
  |some .dead=>True
  |some (.ET ver _ _)=>v0<=ver∧(v0=ver->g=μ r)
  |_=>False
 | .ptr r off,g=>aqv g∧match get r m with
  |some (.box _ _)=>∃b,μ r=.pointer (some ⟨b,0,none⟩)∧g=.pointer (some ⟨b,off,none⟩)
  |some (.nO _ _)=>∃b,μ r=.pointer (some ⟨b,0,none⟩)∧g=.pointer (some ⟨b,off,none⟩)
  |some .dead=>True
  |_=>False
 | .uy r v0 i off,g=>aqv g∧match get r m with
  |some (.arr _ _ ver s _)=>v0<=ver∧(v0=ver->∃b n cap,μ r=.slice (some ⟨b,0,none⟩) n cap∧g=.pointer (some ⟨b,i * s+off,none⟩))
  |some .dead=>True
  |some (.ET ver s _)=>v0<=ver∧(v0=ver->∃b o n cap,μ r=.slice (some ⟨b,o,none⟩) n cap∧g=.pointer (some ⟨b,o+(i * s+off),none⟩))
  |_=>False
 | .qU row off,g=>∃b o,g=.pointer (some ⟨b,o+off,none⟩)∧uT h row b o
 | .zn v,g=>∃b x,g=.pointer (some ⟨b,0,none⟩)∧h b 0=some x∧aZ μ m h v x
 | .clo f first caps,g=>∃a c,g=.func (.func f) a c∧dM μ m h first a.toList∧dM μ m h caps c.toList
 | .agg cs,g=>∃a,g=.agg a∧dM μ m h cs a.toList
 | .zo vs,g=>∃a,g=.tuple a∧dM μ m h vs a.toList
 | .undef,_=>True
def dM(μ:Nat->Value)(m:Mem)(h:View):List V->List Value->Prop
 |[],gs=>gs=[]
 |v::vs,gs=>∃g gs',gs=g::gs'∧aZ μ m h v g∧dM μ m h vs gs'
end
def ni(μ:Nat->Value)(m:Mem)(H:Heap)(h:View)(r:Nat):Cell->List Nat->Prop
 | .box t cs,N=>∃b a,μ r=.pointer (some ⟨b,0,none⟩)∧H b=some (.cells a t (0,0))∧dM μ m h cs a.toList∧N=[b]
 | .arr fz fl _ s rows,N=>match fz with
  |true=>ro h (.sl true s rows) (μ r)∧N=[]
  |false=>Ro H h fl s rows (μ r) N
 | .dead,N=>N=[]
 | .ET _ s rows,N=>ac4 H h s rows (μ r) N
 | .nO _ v,N=>N=[]∧∃b x,μ r=.pointer (some ⟨b,0,none⟩)∧h b 0=some x∧aZ μ m h v x
open Classical in
noncomputable def view(w:World)(U X:Nat->Prop):View:=λb o=>if U b∧¬X b then w.cell? ⟨b,o,none⟩ else none
def excl(F:Nat->List Nat)(E:List Nat):Nat->Prop:=λb=>b∈E∨∃r,b∈F r
structure Keep(M:List Nat)(w w':World):Prop where
 os:w'.os=w.os
 tape:w'.tape=w.tape
 output:w'.output=w.output
 size:w.heap.size<=w'.heap.size
 block:∀b,b<w.heap.size->b ∉ M->w'.heap[b]? =w.heap[b]?
def Keep.refl(M:List Nat)(w:World):Keep M w w:=⟨rfl,rfl,rfl,Nat.le_refl _,λ_ _ _=>rfl⟩
def Keep.trans{M M':List Nat}{a b c:World}(h:Keep M a b)(k:Keep M' b c)(hM:∀x,x∈M'->x∈M∨a.heap.size<=x):Keep M a c:=
 ⟨k.os.trans h.os,k.tape.trans h.tape,k.output.trans h.output,Nat.le_trans h.size k.size,λi hi hm=>(k.block i (Nat.lt_of_lt_of_le hi h.size) (λhx=>(hM i hx).elim hm (λhl=>absurd hi (Nat.not_lt.2 hl)))).trans (h.block i hi hm)⟩
structure MInv(base:Nat)(U:Nat->Prop)(m:Mem)(w:World)(μ:Nat->Value)(F:Nat->List Nat)(E:List Nat)(out:List Nat):Prop where
 cell:∀r c,get r m=some c->r ∉ out->ni μ m (dV w) (view w U (excl F E)) r c (F r)
 dj:∀r r',r≠r'->∀b,b∈F r->b ∉ F r'
 Zo:∀r b,b∈F r->b ∉ E
 nd:∀r,(F r).Nodup
 ndE:E.Nodup
 lt:∀b,excl F E b->b<w.heap.size∧base<=b∧U b
 up:∀b,w.heap.size<=b->U b
 bs:base<=w.heap.size
 none_:∀r,get r m=none->F r=[]
 out_:∀r,r∈out->F r=[]
def View.le(h h':View):Prop:=∀b o v,h b o=some v->h' b o=some v
def View.le_refl(h:View):h.le h:=λ_ _ _ x=>x
def View.le.trans'{a b c:View}(h:a.le b)(k:b.le c):a.le c:=λx y v q=>k x y v (h x y v q)
mutual
def EY{h h':View}(hl:h.le h'):∀(x:D) (v:Value),ro h x v->ro h' x v
 | .int _ _,_,q=>by simpa[ro] using q
 | .bool _,_,q=>by simpa[ro] using q
 | .str _,_,q=>by simpa[ro] using q
 | .NZ,_,q=>by simpa[ro] using q
 | .sl _ s rows,v,q=>by simp only[ro] at q⊢;obtain⟨a,cap,h1,h2,h3⟩:=q;refine⟨a,cap,h1,h2,λhn=> ?_⟩;obtain⟨b,o,h4,h5⟩:=h3 hn;exact⟨b,o,h4,Yu hl s rows b o h5⟩
def Yu{h h':View}(hl:h.le h')(s:Nat):∀(rows:List Row) (b o:Nat),ng h s rows b o->ng h' s rows b o
 |[],_,_,_=>by simp[ng]
 |r::rs,b,o,q=>by simp only[ng] at q⊢;exact⟨q.1,KJ hl r b o q.2.1,Yu hl s rs b (o+s) q.2.2⟩
def KJ{h h':View}(hl:h.le h'):∀(r:Row) (b o:Nat),uT h r b o->uT h' r b o
 |[],_,_,_=>by simp[uT]
 |x::r,b,o,q=>by simp only[uT] at q⊢;obtain⟨⟨v,h1,h2⟩,h3⟩:=q;exact⟨⟨v,hl _ _ _ h1,EY hl x v h2⟩,KJ hl r b (o+1) h3⟩
end
mutual
def aeW{H H':Heap}{h h':View}(hl:h.le h'):∀(x:D) (v:Value) (N:List Nat),(∀b,b∈N->H' b=H b)->ow H h x v N->ow H' h' x v N
 | .int _ _,_,_,_,q=>by simpa[ow] using q
 | .bool _,_,_,_,q=>by simpa[ow] using q
 | .str _,_,_,_,q=>by simpa[ow] using q
 | .NZ,_,_,_,q=>by simpa[ow] using q
 | .sl false s rows,v,N,_,q=>by simp only[ow] at q⊢;exact⟨q.1,EY hl _ _ q.2⟩
 | .sl true s rows,v,N,hb,q=>by
  simp only[ow] at q⊢;rcases q with q|⟨b,cap,cs,t,N',h1,h2,h3,h4,h5,rfl⟩
  ·exact .inl q
  ·exact .inr ⟨b,cap,cs,t,N',h1,h2,by rw[hb b (by simp)];exact h3,h4,xu hl s rows cs.toList N' (λb' hb'=>hb b' (by simp[hb'])) h5,rfl⟩
def xu{H H':Heap}{h h':View}(hl:h.le h')(s:Nat):∀(rows:List Row) (cs:List Value) (N:List Nat),(∀b,b∈N->H' b=H b)->fZ H h s rows cs N->fZ H' h' s rows cs N
 |[],_,_,_,q=>by simpa[fZ] using q
 |r::rs,cs,N,hb,q=>by simp only[fZ] at q⊢;obtain⟨h1,N1,N2,rfl,h2,h3⟩:=q;exact⟨h1,N1,N2,rfl,IC hl r cs N1 (λb hx=>hb b (by simp[hx])) h2,xu hl s rs _ N2 (λb hx=>hb b (by simp[hx])) h3⟩
def IC{H H':Heap}{h h':View}(hl:h.le h'):∀(r:Row) (cs:List Value) (N:List Nat),(∀b,b∈N->H' b=H b)->iR H h r cs N->iR H' h' r cs N
 |[],_,_,_,q=>by simpa[iR] using q
 |x::r,cs,N,hb,q=>by simp only[iR] at q⊢;obtain⟨v,cs',N1,N2,rfl,rfl,h2,h3⟩:=q;exact⟨v,cs',N1,N2,rfl,rfl,aeW hl x v N1 (λb hx=>hb b (by simp[hx])) h2,IC hl r cs' N2 (λb hx=>hb b (by simp[hx])) h3⟩
end
def Wn{h h':View}(hl:h.le h'):∀(r:Row) (cs:List Value),jg h r cs->jg h' r cs
 |[],_,_=>trivial
 |x::r,cs,⟨v,cs',h1,h2,h3⟩=>⟨v,cs',h1,EY hl x v h2,Wn hl r cs' h3⟩
def nP{h h':View}(hl:h.le h')(s:Nat):∀(rows:List Row) (cs:List Value),gJ h s rows cs->gJ h' s rows cs
 |[],_,_=>trivial
 |r::rs,cs,⟨h1,h2,h3⟩=>⟨h1,Wn hl r cs h2,nP hl s rs _ h3⟩
def I4{H H':Heap}{h h':View}(hl:h.le h'){fl:Bool}{s:Nat}{rows:List Row}{v:Value}{N:List Nat}(hb:∀b,b∈N->H' b=H b)(q:Ro H h fl s rows v N):Ro H' h' fl s rows v N:=by
 rcases q with q|⟨b,cap,cs,t,N',h1,h2,h3,h4,h5,rfl⟩
 ·exact .inl q
 ·refine .inr ⟨b,cap,cs,t,N',h1,h2,by rw[hb b (by simp)];exact h3,h4, ?_,rfl⟩;cases fl with
  |true=>exact⟨nP hl s rows _ h5.1,h5.2⟩
  |false=>exact xu hl s rows _ N' (λb' hb'=>hb b' (by simp[hb'])) h5
def XA{H H':Heap}{h h':View}(hl:h.le h'){s:Nat}{rows:List Row}{v:Value}{N:List Nat}(hb:∀b,b∈N->H' b=H b)(q:ac4 H h s rows v N):ac4 H' h' s rows v N:=by
 rcases q with q|⟨b,o,cap,cs,t,h1,h2,h3,h4,h5,rfl⟩
 ·exact .inl q
 ·exact .inr ⟨b,o,cap,cs,t,h1,h2,by rw[hb b (by simp)];exact h3,h4,nP hl s rows _ h5,rfl⟩
def Gs(μ μ':Nat->Value)(r:Nat):Cell->Cell->Prop
 | .box t _,.box t' _=>t'=t∧μ' r=μ r
 | .arr _ fl ver s _,.arr _ fl' jm s' _=>ver<=jm∧fl'=fl∧(ver=jm->μ' r=μ r∧s'=s)
 |_,.dead=>True
 | .arr _ _ ver _ _,.ET jm _ _=>ver<jm
 | .ET ver s _,.ET jm s' _=>ver<=jm∧(ver=jm->μ' r=μ r∧s'=s)
 | .box _ _,.nO _ _=>μ' r=μ r
 | .nO _ _,.nO _ _=>μ' r=μ r
 |_,_=>False
def Eh(μ:Nat->Value)(m:Mem)(μ':Nat->Value)(m':Mem):Prop:=∀r c,get r m=some c->∃c',get r m'=some c'∧Gs μ μ' r c c'
def Yv(μ:Nat->Value)(r:Nat)(c:Cell):Gs μ μ r c c:=by cases c<;>simp[Gs]
def pJ(μ:Nat->Value)(m:Mem):Eh μ m μ m:=λr c h=>⟨c,h,Yv μ r c⟩
def sG{μ1 μ2 μ3:Nat->Value}{m1 m2 m3:Mem}(h:Eh μ1 m1 μ2 m2)(k:Eh μ2 m2 μ3 m3):Eh μ1 m1 μ3 m3:=by
 intro r c hc;obtain⟨c',h1,h2⟩:=h r c hc;obtain⟨c'',k1,k2⟩:=k r c' h1;refine⟨c'',k1, ?_⟩;cases c<;>cases c'<;>cases c''<;>simp_all [Gs]
 ·rename_i ver s _ _ _ jm s' _ _ _ amP s'' _;refine⟨by omega,λe=> ?_⟩;have e1:ver=jm:=by omega
  have e2:jm=amP:=by omega
  exact⟨(k2.2.2 e2).1.trans (h2.2.2 e1).1,(k2.2.2 e2).2.trans (h2.2.2 e1).2⟩
 ·omega
 ·omega
 ·rename_i ver s _ jm s' _ amP s'' _;refine⟨by omega,λe=> ?_⟩;have e1:ver=jm:=by omega
  have e2:jm=amP:=by omega
  exact⟨(k2.2 e2).1.trans (h2.2 e1).1,(k2.2 e2).2.trans (h2.2 e1).2⟩
mutual
def wS{μ μ':Nat->Value}{m m':Mem}{h h':View}(hm:Eh μ m μ' m')(hl:h.le h'):∀(v:V) (g:Value),aZ μ m h v g->aZ μ' m' h' v g
 | .d x,g,q=>by simp only[aZ] at q⊢;exact EY hl x g q
 | .nil _,_,q=>by simpa[aZ] using q
 | .own r v0,g,q=>by
  simp only[aZ] at q⊢;refine⟨q.1, ?_⟩;replace q:=q.2;cases hc:get r m with
  |none=>simp[hc] at q
  |some c=>
   obtain⟨c',h1,h2⟩:=hm r c hc;rw[h1];cases c<;>cases c'<;>simp_all [Gs]
   ·rename_i ver s _ _ _ jm s' _;refine⟨by omega,λe=> ?_⟩;have e1:ver=jm:=by omega
    rw[(h2.2.2 e1).1];exact q.2 (by omega)
   ·exact⟨by omega,λe=>by omega⟩
   ·rename_i ver s _ jm s' _;refine⟨by omega,λe=> ?_⟩;have e1:ver=jm:=by omega
    rw[(h2.2 e1).1];exact q.2 (by omega)
 | .ptr r off,g,q=>by
  simp only[aZ] at q⊢;refine⟨q.1, ?_⟩;replace q:=q.2;cases hc:get r m with
  |none=>simp[hc] at q
  |some c=>obtain⟨c',h1,h2⟩:=hm r c hc;rw[h1];cases c<;>cases c'<;>simp_all [Gs]
 | .uy r v0 i off,g,q=>by
  simp only[aZ] at q⊢;refine⟨q.1, ?_⟩;replace q:=q.2;cases hc:get r m with
  |none=>simp[hc] at q
  |some c=>
   obtain⟨c',h1,h2⟩:=hm r c hc;rw[h1];cases c<;>cases c'<;>simp_all [Gs]
   ·rename_i ver s _ _ _ jm s' _;refine⟨by omega,λe=> ?_⟩;have e1:ver=jm:=by omega
    rw[(h2.2.2 e1).1,(h2.2.2 e1).2];exact q.2 (by omega)
   ·exact⟨by omega,λe=>by omega⟩
   ·rename_i ver s _ jm s' _;refine⟨by omega,λe=> ?_⟩;have e1:ver=jm:=by omega
    rw[(h2.2 e1).1,(h2.2 e1).2];exact q.2 (by omega)
 | .qU row off,g,q=>by simp only[aZ] at q⊢;obtain⟨b,o,h1,h2⟩:=q;exact⟨b,o,h1,KJ hl row b o h2⟩
 | .zn v,g,q=>by simp only[aZ] at q⊢;obtain⟨b,x,h1,h2,h3⟩:=q;exact⟨b,x,h1,hl _ _ _ h2,wS hm hl v x h3⟩
 | .clo f first caps,g,q=>by simp only[aZ] at q⊢;obtain⟨a,c,h1,h2,h3⟩:=q;exact⟨a,c,h1,qV hm hl first _ h2,qV hm hl caps _ h3⟩
 | .agg cs,g,q=>by simp only[aZ] at q⊢;obtain⟨a,h1,h2⟩:=q;exact⟨a,h1,qV hm hl cs _ h2⟩
 | .zo vs,g,q=>by simp only[aZ] at q⊢;obtain⟨a,h1,h2⟩:=q;exact⟨a,h1,qV hm hl vs _ h2⟩
 | .undef,_,_=>by simp[aZ]
def qV{μ μ':Nat->Value}{m m':Mem}{h h':View}(hm:Eh μ m μ' m')(hl:h.le h'):∀(vs:List V) (gs:List Value),dM μ m h vs gs->dM μ' m' h' vs gs
 |[],_,q=>by simpa[dM] using q
 |v::vs,gs,q=>by simp only[dM] at q⊢;obtain⟨g,gs',h1,h2,h3⟩:=q;exact⟨g,gs',h1,wS hm hl v g h2,qV hm hl vs gs' h3⟩
end
def Jg{μ μ':Nat->Value}{m m':Mem}{H H':Heap}{h h':View}(hm:Eh μ m μ' m')(hl:h.le h'){r:Nat}(hr:μ' r=μ r){c:Cell}{N:List Nat}(hb:∀b,b∈N->H' b=H b)
  (q:ni μ m H h r c N):ni μ' m' H' h' r c N:=by
 cases c with
 |box t cs=>obtain⟨b,a,h1,h2,h3,rfl⟩:=q;exact⟨b,a,by rw[hr];exact h1,by rw[hb b (by simp)];exact h2,qV hm hl cs _ h3,rfl⟩
 |arr fz fl ver s rows=>
  cases fz with
  |true=>exact⟨by rw[hr];exact EY hl _ _ q.1,q.2⟩
  |false=>simp only[ni] at q⊢;rw[hr];exact I4 hl hb q
 |dead=>exact q
 |ET ver s rows=>simp only[ni] at q⊢;rw[hr];exact XA hl hb q
 |nO t v=>obtain⟨h1,b,x,h2,h3,h4⟩:=q;exact⟨h1,b,x,by rw[hr];exact h2,hl _ _ _ h3,wS hm hl v x h4⟩
def uh{k j:Nat}(h:k≠j):Nat.beq k j=false:=by
 cases hb:Nat.beq k j with
 |false=>rfl
 |true=>exact absurd (wR hb) h
def jB{α:Type}(k:Nat)(x:α):∀l:List (Nat×α),get k (put k x l)=some x
 |[]=>by simp[put,get]
 |(j,y)::l=>by
  simp only[put]
  by_cases h:k=j
  ·subst h;simp[get]
  ·have hb:Nat.beq k j=false:=uh h;rw[hb];cases hl:Nat.blt k j with
   |true=>simp[get]
   |false=>simp[get,hb,jB k x l]
def lF{α:Type}{k k':Nat}(hk:k≠k')(x:α):∀l:List (Nat×α),get k (put k' x l)=get k l
 |[]=>by have hb:Nat.beq k k'=false:=uh hk;simp[put,get,hb]
 |(j,y)::l=>by
  have hb:Nat.beq k k'=false:=uh hk;simp only[put]
  by_cases h:k'=j
  ·subst h;simp[get,hb]
  ·have hb':Nat.beq k' j=false:=uh h;rw[hb'];cases hl:Nat.blt k' j with
   |true=>simp[get,hb]
   |false=>simp[get,lF hk x l]
def Jh{α:Type}(k:Nat):∀l:List (Nat×α),get k (del k l)=none
 |[]=>rfl
 |(j,y)::l=>by
  simp only[del];cases hb:Nat.beq k j with
  |true=>simpa using Jh k l
  |false=>simp[get,hb,Jh k l]
def Lh{α:Type}{k k':Nat}(hk:k≠k'):∀l:List (Nat×α),get k (del k' l)=get k l
 |[]=>rfl
 |(j,y)::l=>by
  simp only[del];cases hb:Nat.beq k' j with
  |true=>have:k'=j:=wR hb;subst this;have hb:Nat.beq k k'=false:=uh hk;simp[get,hb,Lh hk l]
  |false=>simp[get,Lh hk l]
def get_put{α:Type}(k k':Nat)(x:α)(l:List (Nat×α)):get k (put k' x l)=if k=k' then some x else get k l:=by
 by_cases h:k=k'
 ·subst h;rw[jB,if_pos rfl]
 ·rw[lF h,if_neg h]
def aqw{α:Type}(k k':Nat)(l:List (Nat×α)):get k (del k' l)=if k=k' then none else get k l:=by
 by_cases h:k=k'
 ·subst h;rw[Jh,if_pos rfl]
 ·rw[Lh h,if_neg h]
def Acc.run_bind{α β:Type}(a:Acc α)(f:α->Acc β):∀(m:Mem) (l:Log),(a.bind f).run m l=match a.run m l with|some (x,m',l')=>(f x).run m' l'|none=>none:=by
 induction a with
 |ret a=>intro m l;rfl
 |fail=>intro m l;rfl
 |get k c ih=>intro m l;simp only[Acc.bind,Acc.run];exact ih _ _ _
 |set k x c ih=>intro m l;simp only[Acc.bind,Acc.run];exact ih _ _
 |opt o c ih=>intro m l;simp only[Acc.bind,Acc.run];cases o with|none=>rfl|some b=>exact ih b _ _
 |guard b c ih=>intro m l;simp only[Acc.bind,Acc.run];cases b with|true=>exact ih _ _|false=>rfl
def run_bind{α β:Type}(a:Acc α)(f:α->Acc β)(m:Mem)(l:Log):(a>>=f).run m l=match a.run m l with|some (x,m',l')=>(f x).run m' l'|none=>none:=Acc.run_bind a f m l
def aj{α β:Type}{a:Acc α}{f:α->Acc β}{m:Mem}{l:Log}{y:β}{m':Mem}{l':Log}(h:(a>>=f).run m l=some (y,m',l')):
  ∃x m1 l1,a.run m l=some (x,m1,l1)∧(f x).run m1 l1=some (y,m',l'):=by
 rw[run_bind] at h;cases ha:a.run m l with
 |none=>simp[ha] at h
 |some x=>obtain⟨x,m1,l1⟩:=x;rw[ha] at h;exact⟨x,m1,l1,rfl,h⟩
def run_pure{α:Type}(a:α)(m:Mem)(l:Log):(Pure.pure a:Acc α).run m l=some (a,m,l):=rfl
def uj(k:Nat)(m:Mem)(l:Log):(rd k).run m l=some (get k m,m,l.rd k):=rfl
def Dn(k:Nat)(c:Cell)(m:Mem)(l:Log):(wr k c).run m l=some ((),put k c m,l.wr k):=rfl
def eF{b:Bool}{m:Mem}{l:Log}{x:Unit}{m':Mem}{l':Log}(h:(ck b).run m l=some (x,m',l')):b=true∧m'=m∧l'=l:=by cases b<;>simp[ck,Acc.run] at h;exact⟨rfl,h.1.symm,h.2.symm⟩
def iD{β:Type}{o:Option β}{m:Mem}{l:Log}{x:β}{m':Mem}{l':Log}(h:(op' o).run m l=some (x,m',l')):o=some x∧m'=m∧l'=l:=by cases o<;>simp[op',Acc.run] at h;obtain⟨rfl,rfl,rfl⟩:=h;exact⟨rfl,rfl,rfl⟩
def ak{α:Type}{m:Mem}{l:Log}{r:α×Mem×Log}(h:(Acc.fail:Acc α).run m l=some r):False:=by simp[Acc.run] at h
structure aaF(X:Ctx)(h:View):Prop where
 row:∀g row,X.glob g=some row->uT h row g 0
 int:∀g,X.ayo g=true->∃n,h g 0=some (.int .i64 n)
def Ei{X:Ctx}{h h':View}(hl:h.le h')(q:aaF X h):aaF X h':=⟨λg row hg=>KJ hl row g 0 (q.row g row hg),λg hg=>by obtain⟨n,hn⟩:=q.int g hg;exact⟨n,hl _ _ _ hn⟩⟩
def aaG{h:View}:∀(row:Row) (b o:Nat),uT h row b o->ng h 1 (row.map λx=>[x]) b o
 |[],_,_,_=>trivial
 |x::r,b,o,⟨h1,h2⟩=>⟨rfl,⟨h1,trivial⟩,aaG r b (o+1) h2⟩
end Go.Vm
namespace Go.Vm
open Go
def V3(F:Nat->List Nat)(r:Nat)(N:List Nat):Nat->List Nat:=λk=>if k=r then N else F k
def upM(μ:Nat->Value)(r:Nat)(g:Value):Nat->Value:=λk=>if k=r then g else μ k
@[simp] theorem CO(F:Nat->List Nat)(r:Nat)(N:List Nat):V3 F r N r=N:=by simp[V3]
def jU{F:Nat->List Nat}{r k:Nat}(N:List Nat)(h:k≠r):V3 F r N k=F k:=by simp[V3,h]
@[simp] theorem Ji(μ:Nat->Value)(r:Nat)(g:Value):upM μ r g r=g:=by simp[upM]
def KL{μ:Nat->Value}{r k:Nat}(g:Value)(h:k≠r):upM μ r g k=μ k:=by simp[upM,h]
def full(w:World):View:=λb o=>w.cell? ⟨b,o,none⟩
def rG(w:World)(U X:Nat->Prop):(view w U X).le (full w):=by
 intro b o v h;unfold view at h;split at h
 ·exact h
 ·cases h
def Ny{w:World}{U U' X X':Nat->Prop}(hU:∀b,U b->U' b)(h:∀b,X' b->X b):(view w U X).le (view w U' X'):=by
 intro b o v hv;unfold view at hv⊢;split at hv
 ·rename_i hc;rw[if_pos ⟨hU b hc.1,λhx=>hc.2 (h b hx)⟩];exact hv
 ·cases hv
structure GS where
 μ:Nat->Value
 F:Nat->List Nat
 E:List Nat
 out:List Nat
section
variable (base:Nat) (U:Nat->Prop) (w:World)
def Dv(m:Mem)(G:GS):Prop:=MInv base U m w G.μ G.F G.E G.out
noncomputable def Gh(G:GS):View:=view w U (excl G.F G.E)
end
structure RP(m:Mem)(G:GS)(m':Mem)(G':GS):Prop where
 mem:Eh G.μ m G'.μ m'
 ex:∀b,excl G'.F G'.E b->excl G.F G.E b
def RP.refl(m:Mem)(G:GS):RP m G m G:=⟨pJ _ _,λ_ h=>h⟩
def RP.trans{m1 m2 m3:Mem}{G1 G2 G3:GS}(h:RP m1 G1 m2 G2)(k:RP m2 G2 m3 G3):RP m1 G1 m3 G3:=
 ⟨sG h.mem k.mem,λb hb=>h.ex b (k.ex b hb)⟩
def RP.view{U:Nat->Prop}{w:World}{m m':Mem}{G G':GS}(h:RP m G m' G'):(Gh U w G).le (Gh U w G'):=Ny (λ_ x=>x) h.ex
def RP.aZ{U:Nat->Prop}{w:World}{m m':Mem}{G G':GS}(h:RP m G m' G'){v:V}{g:Value}(q:aZ G.μ m (Gh U w G) v g):aZ G'.μ m' (Gh U w G') v g:=
 wS h.mem h.view v g q
def RP.dM{U:Nat->Prop}{w:World}{m m':Mem}{G G':GS}(h:RP m G m' G'){v:List V}{g:List Value}(q:dM G.μ m (Gh U w G) v g):dM G'.μ m' (Gh U w G') v g:=
 qV h.mem h.view v g q
section
variable {base:Nat} {U:Nat->Prop} {w:World} {m:Mem} {G:GS}
def Dv.set(hg:Dv base U w m G)(r:Nat)(c':Cell)(μ':Nat->Value)(N E' out':List Nat)
  (hs:(N++E').Nodup) (hsub:∀b,b∈N++E'->b∈G.F r∨b∈G.E) (hle:Eh G.μ m μ' (put r c' m)) (hμ:∀k,k≠r->μ' k=G.μ k)
  (ho:∀k,k≠r->(k∈out'↔k∈G.out)) (hr:r∈out'->N=[])
  (hc:(view w U (excl G.F G.E)).le (view w U (excl (V3 G.F r N) E'))->r ∉ out'->ni μ' (put r c' m) (dV w) (view w U (excl (V3 G.F r N) E')) r c' N):
  Dv base U w (put r c' m) ⟨μ',V3 G.F r N,E',out'⟩∧RP m G (put r c' m) ⟨μ',V3 G.F r N,E',out'⟩:=by
 have hex:∀b,excl (V3 G.F r N) E' b->excl G.F G.E b:=by
  rintro b (hb|⟨k,hb⟩)
  ·rcases hsub b (by simp[hb]) with h|h
   ·exact .inr ⟨r,h⟩
   ·exact .inl h
  ·by_cases hk:k=r
   ·subst hk;rw[CO] at hb;rcases hsub b (by simp[hb]) with h|h
    ·exact .inr ⟨_,h⟩
    ·exact .inl h
   ·rw[jU N hk] at hb;exact .inr ⟨k,hb⟩
 have hv:(view w U (excl G.F G.E)).le (view w U (excl (V3 G.F r N) E')):=Ny (λ_ x=>x) hex;have hN:=List.nodup_append.1 hs;refine⟨show MInv base U (put r c' m) w μ' (V3 G.F r N) E' out' from ?_,⟨hle,hex⟩⟩;refine⟨?_, ?_, ?_, ?_,hN.2.1,λb hb=>hg.lt b (hex b hb),hg.up,hg.bs, ?_, ?_⟩
 ·intro k c hk hko;rw[get_put] at hk
  by_cases e:k=r
  ·subst e;rw[if_pos rfl] at hk;cases hk;rw[CO];exact hc hv hko
  ·rw[if_neg e] at hk;rw[jU N e];exact Jg hle hv (hμ k e) (λb _=>rfl) (hg.cell k c hk (λh=>hko ((ho k e).2 h)))
 ·intro k k' hne b hb hb'
  by_cases e:k=r
  ·subst e;rw[CO] at hb;rw[jU N (Ne.symm hne)] at hb';rcases hsub b (by simp[hb]) with h|h
   ·exact hg.dj _ _ hne b h hb'
   ·exact hg.Zo _ b hb' h
  ·rw[jU N e] at hb
   by_cases e':k'=r
   ·subst e';rw[CO] at hb';rcases hsub b (by simp[hb']) with h|h
    ·exact hg.dj _ _ hne b hb h
    ·exact hg.Zo _ b hb h
   ·rw[jU N e'] at hb';exact hg.dj _ _ hne b hb hb'
 ·intro k b hb hE
  by_cases e:k=r
  ·subst e;rw[CO] at hb;exact hN.2.2 b hb b hE rfl
  ·rw[jU N e] at hb;rcases hsub b (by simp[hE]) with h|h
   ·exact hg.dj _ _ e b hb h
   ·exact hg.Zo _ b hb h
 ·intro k
  by_cases e:k=r
  ·subst e;rw[CO];exact hN.1
  ·rw[jU N e];exact hg.nd k
 ·intro k hk;rw[get_put] at hk
  by_cases e:k=r
  ·rw[if_pos e] at hk;cases hk
  ·rw[if_neg e] at hk;rw[jU N e];exact hg.none_ k hk
 ·intro k hk
  by_cases e:k=r
  ·subst e;rw[CO];exact hr hk
  ·rw[jU N e];exact hg.out_ k ((ho k e).1 hk)
def Dv.less(hg:Dv base U w m G)(E':List Nat)(hn:E'.Nodup)(hs:∀b,b∈E'->b∈G.E):
  Dv base U w m {G with E:=E'}∧RP m G m {G with E:=E'}:=by
 have hex:∀b,excl G.F E' b->excl G.F G.E b:=by
  rintro b (hb|hb)
  ·exact .inl (hs b hb)
  ·exact .inr hb
 have hv:(view w U (excl G.F G.E)).le (view w U (excl G.F E')):=Ny (λ_ x=>x) hex;refine⟨⟨?_,hg.dj,λr b hb hE=>hg.Zo r b hb (hs b hE),hg.nd,hn,λb hb=>hg.lt b (hex b hb),hg.up,hg.bs,hg.none_,hg.out_⟩,⟨pJ _ _,hex⟩⟩;intro r c hc ho;exact Jg (pJ _ _) hv rfl (λ_ _=>rfl) (hg.cell r c hc ho)
def EZ{μ μ':Nat->Value}{r:Nat}{c':Cell}(hμ:∀k,k≠r->μ' k=μ k)(h:∀c,get r m=some c->Gs μ μ' r c c'):Eh μ m μ' (put r c' m):=by
 intro k c hk
 by_cases e:k=r
 ·subst e;exact⟨c',jB _ _ _,h c hk⟩
 ·refine⟨c,by rw[lF e];exact hk, ?_⟩;cases c<;>simp[Gs,hμ k e]
def full_cell{b:Nat}{cs:Array Value}{t:TypeId}{fr:Nat×Nat}(h:dV w b=some (.cells cs t fr))(o:Nat):full w b o=cs.toList[o]? :=by simp only[full,World.cell?];unfold dV at h;simp[h]
end
def U7{h:View}{b:Nat}:∀(r:Row) (o:Nat) (cs:List Value),(∀j v,cs[j]? =some v->h b (o+j)=some v)->jg h r cs->uT h r b o
 |[],_,_,_,_=>by simp[uT]
 |x::r,o,cs,hc,⟨v,cs',e,h1,h2⟩=>by subst e;simp only[uT];refine⟨⟨v,hc 0 v rfl,h1⟩,U7 r (o+1) cs' (λj u hj=> ?_) h2⟩;have:=hc (j+1) u (by simpa using hj);rw[show o+1+j=o+(j+1) from by omega];exact this
def RQ{h:View}{b s:Nat}:∀(rs:List Row) (o:Nat) (cs:List Value),(∀j v,cs[j]? =some v->h b (o+j)=some v)->gJ h s rs cs->ng h s rs b o
 |[],_,_,_,_=>by simp[ng]
 |r::rs,o,cs,hc,⟨h1,h2,h3⟩=>by simp only[ng];refine⟨h1,U7 r o cs hc h2,RQ rs (o+s) (cs.drop s) (λj u hj=> ?_) h3⟩;rw[List.getElem?_drop] at hj;rw[show o+s+j=o+(s+j) from by omega];exact hc _ _ hj
def XB(h:View)(H:Heap)(N:List Nat):Prop:=∀b,b∈N->∀cs t fr,H b=some (.cells cs t fr)->∀(o:Nat) v,cs.toList[o]? =some v->h b o=some v
def XB.sub{h:View}{H:Heap}{N N':List Nat}(q:XB h H N)(hs:∀b,b∈N'->b∈N):XB h H N':=λb hb=>q b (hs b hb)
mutual
def asG{H:Heap}{h h':View}(hl:h.le h'):∀(x:D) (v:Value) (N:List Nat),XB h' H N->ow H h x v N->ro h' x v
 | .int _ _,_,_,_,q=>by simp only[ow] at q;simpa[ro] using q.1
 | .bool _,_,_,_,q=>by simp only[ow] at q;simpa[ro] using q.1
 | .str _,_,_,_,q=>by simp only[ow] at q;simpa[ro] using q.1
 | .NZ,_,_,_,q=>by simp only[ow] at q;simpa[ro] using q.1
 | .sl false s rows,v,N,_,q=>by simp only[ow] at q;have:=EY hl _ _ q.2;simpa[ro] using this
 | .sl true s rows,v,N,hs,q=>by
  simp only[ow] at q;simp only[ro];rcases q with⟨rfl,rfl,rfl⟩|⟨b,cap,cs,t,N',h1,h2,h3,h4,h5,rfl⟩
  ·exact⟨none,0,by simp,by simp,λe=>absurd rfl e⟩
  ·refine⟨_,cap,h1,h2,λ_=>⟨b,0,rfl, ?_⟩⟩;refine RQ rows 0 cs.toList (λj v hj=>by rw[Nat.zero_add];exact hs b (by simp) cs t _ h3 j v hj) ?_;exact I5 hl s rows cs.toList N' (hs.sub (by simp;exact λ_ hb=> .inr hb)) h5
def I5{H:Heap}{h h':View}(hl:h.le h')(s:Nat):∀(rows:List Row) (cs:List Value) (N:List Nat),XB h' H N->fZ H h s rows cs N->gJ h' s rows cs
 |[],_,_,_,_=>by simp[gJ]
 |r::rs,cs,N,hs,q=>by simp only[fZ] at q;obtain⟨h1,N1,N2,rfl,h2,h3⟩:=q;simp only[gJ];exact⟨h1,U8 hl r cs N1 (hs.sub (by simp;exact λ_ hb=> .inl hb)) h2,I5 hl s rs _ N2 (hs.sub (by simp;exact λ_ hb=> .inr hb)) h3⟩
def U8{H:Heap}{h h':View}(hl:h.le h'):∀(r:Row) (cs:List Value) (N:List Nat),XB h' H N->iR H h r cs N->jg h' r cs
 |[],_,_,_,_=>by simp[jg]
 |x::r,cs,N,hs,q=>by simp only[iR] at q;obtain⟨v,cs',N1,N2,rfl,rfl,h1,h2⟩:=q;simp only[jg];exact⟨v,cs',rfl,asG hl x v N1 (hs.sub (by simp;exact λ_ hb=> .inl hb)) h1,U8 hl r cs' N2 (hs.sub (by simp;exact λ_ hb=> .inr hb)) h2⟩
end
def aeX{H:Heap}{h h':View}(hl:h.le h'){fl:Bool}{s:Nat}{rows:List Row}{v:Value}{N:List Nat}(hs:XB h' H N)(q:Ro H h fl s rows v N)(o:Bool):ro h' (.sl o s rows) v:=by
 simp only[ro];rcases q with⟨rfl,rfl,rfl⟩|⟨b,cap,cs,t,N',h1,h2,h3,h4,h5,rfl⟩
 ·exact⟨none,0,by simp,by simp,λe=>absurd rfl e⟩
 ·refine⟨_,cap,h1,h2,λ_=>⟨b,0,rfl, ?_⟩⟩;refine RQ rows 0 cs.toList (λj v hj=>by rw[Nat.zero_add];exact hs b (by simp) cs t _ h3 j v hj) ?_;cases fl with
  |true=>exact nP hl s rows _ h5.1
  |false=>exact I5 hl s rows cs.toList N' (hs.sub (by simp;exact λ_ hb=> .inr hb)) h5
def RS{h:View}{o o':Bool}{s:Nat}{rows:List Row}{v:Value}(q:ro h (.sl o s rows) v):ro h (.sl o' s rows) v:=by simpa[ro] using q
def adI{w:World}{N:List Nat}:XB (full w) (dV w) N:=by intro b _ cs t fr hb o v hv;rw[full_cell hb,hv]
def I7{w:World}{U X:Nat->Prop}{N:List Nat}(hU:∀b,b∈N->U b∧¬X b):XB (view w U X) (dV w) N:=by intro b hm cs t fr hb o v hv;unfold view;rw[if_pos (hU b hm)];have:=full_cell hb o;rw[hv] at this;exact this
mutual
def amQ{h:View}:∀(x:D) (v:Value),ro h x v->ro h x.fz v
 | .int _ _,_,q=>by simpa[D.fz] using q
 | .bool _,_,q=>by simpa[D.fz] using q
 | .str _,_,q=>by simpa[D.fz] using q
 | .NZ,_,q=>by simpa[D.fz] using q
 | .sl own s rows,v,q=>by
  simp only[D.fz,ro] at q⊢;obtain⟨a,cap,h1,h2,h3⟩:=q;have hlen:(bM rows).length=rows.length:=Ph rows;refine⟨a,cap,by rw[hlen];exact h1,by rw[hlen];exact h2,λhn=> ?_⟩;have hn':rows≠[]:=by intro e;subst e;exact hn rfl
  obtain⟨b,o,h4,h5⟩:=h3 hn';exact⟨b,o,h4,adJ s rows b o h5⟩
def Ph:∀rows:List Row,(bM rows).length=rows.length
 |[]=>rfl
 |r::rs=>by simp[bM,Ph rs]
def Qv:∀r:Row,(sD r).length=r.length
 |[]=>rfl
 |x::r=>by simp[sD,Qv r]
def adJ{h:View}(s:Nat):∀(rows:List Row) (b o:Nat),ng h s rows b o->ng h s (bM rows) b o
 |[],_,_,_=>by simp[bM,ng]
 |r::rs,b,o,q=>by simp only[bM,ng] at q⊢;exact⟨by rw[Qv];exact q.1,af8 r b o q.2.1,adJ s rs b (o+s) q.2.2⟩
def af8{h:View}:∀(r:Row) (b o:Nat),uT h r b o->uT h (sD r) b o
 |[],_,_,_=>by simp[sD,uT]
 |x::r,b,o,q=>by simp only[sD,uT] at q⊢;obtain⟨⟨v,h1,h2⟩,h3⟩:=q;exact⟨⟨v,h1,amQ x v h2⟩,af8 r b (o+1) h3⟩
end
def aaH{h:View}{fl:Bool}{o:Bool}{s:Nat}{rows:List Row}{v:Value}(q:ro h (.sl o s rows) v):ro h (.sl false s (vw fl rows)) v:=by
 unfold vw;cases fl with
 |true=>exact RS q
 |false=>simpa[D.fz] using amQ _ _ q
def amR{h:View}{x:D}{v:Value}(q:ro h x v):ro h (roD x) v:=by cases x<;>simpa[roD,ro] using q
def amS{H:Heap}{h:View}{x:D}{v:Value}(q:ro h x v):ow H h (roD x) v []:=by cases x<;>simp[roD,ow,ro] at q⊢<;>exact q
def aqx{H:Heap}{h:View}{x:D}{v:Value}(hf:x.flat=true)(q:ro h x v):ow H h x v []:=by cases x<;>simp[D.flat,ow,ro] at hf q⊢<;>exact q
def aaI{H:Heap}{h:View}:∀(r:Row) (cs:List Value),(r.all D.flat)=true->jg h r cs->iR H h r cs []
 |[],_,_,_=>by simp[iR]
 |x::r,cs,hf,⟨v,cs',e,h1,h2⟩=>by simp only[List.all_cons,GH] at hf;simp only[iR];exact⟨v,cs',[],[],e,rfl,aqx hf.1 h1,aaI r cs' hf.2 h2⟩
def RU{H:Heap}{h:View}(s:Nat):∀(rs:List Row) (cs:List Value),aA rs=true->gJ h s rs cs->fZ H h s rs cs []
 |[],_,_,_=>by simp[fZ]
 |r::rs,cs,hf,⟨h1,h2,h3⟩=>by simp only[aA,List.all_cons,GH] at hf;simp only[fZ];exact⟨h1,[],[],rfl,aaI r cs hf.1 h2,RU s rs _ hf.2 h3⟩
def aeY{H:Heap}{h:View}{fl:Bool}{s:Nat}{rows:List Row}{v:Value}{N:List Nat}(ho:Ur fl rows=true)(q:Ro H h fl s rows v N):ow H h (.sl true s rows) v N:=by
 simp only[ow];rcases q with q|⟨b,cap,cs,t,N',h1,h2,h3,h4,h5,rfl⟩
 ·exact .inl q
 ·refine .inr ⟨b,cap,cs,t,N',h1,h2,h3,h4, ?_,rfl⟩;cases fl with
  |true=>obtain⟨h5,rfl⟩:=h5;exact RU s rows _ (by simpa[Ur] using ho) h5
  |false=>exact h5
def akq{H:Heap}{h:View}{s:Nat}{rows:List Row}{v:Value}{N:List Nat}(q:ow H h (.sl true s rows) v N):Ro H h false s rows v N:=by simpa[ow,Ro] using q
def aju{H:Heap}{h:View}{s:Nat}{rows:List Row}{v:Value}{N:List Nat}(q:ow H h (.sl true s rows) v N):
  ∃N1 N2,N=N1++N2∧∀h',h.le h'->XB h' H N2->Ro H h' true s rows v N1:=by
 simp only[ow] at q;rcases q with⟨rfl,rfl,rfl⟩|⟨b,cap,cs,t,N',h1,h2,h3,h4,h5,rfl⟩
 ·exact⟨[],[],rfl,λ_ _ _=> .inl ⟨rfl,rfl,rfl⟩⟩
 ·exact⟨[b],N',rfl,λh' hl hs=> .inr ⟨b,cap,cs,t,[],h1,h2,h3,h4,⟨I5 hl s rows _ N' hs h5,rfl⟩,rfl⟩⟩
end Go.Vm
namespace Go.Vm
open Go
section
variable {base:Nat} {U:Nat->Prop} {w:World} {m:Mem} {G:GS}
def Dv.kill(hg:Dv base U w m G){r:Nat}{fl:Bool}{ver s:Nat}{rows:List Row}(hc:get r m=some (.arr false fl ver s rows))(hro:r ∉ G.out):
  Dv base U w (put r .dead m) ⟨G.μ,V3 G.F r [],G.E++G.F r,G.out⟩∧RP m G (put r .dead m) ⟨G.μ,V3 G.F r [],G.E++G.F r,G.out⟩∧
   Ro (dV w) (Gh U w G) fl s rows (G.μ r) (G.F r):=by
 have h1:=hg.set r .dead G.μ [] (G.E++G.F r) G.out
  (by simpa using List.nodup_append.2 ⟨hg.ndE,hg.nd r,λa ha b hb e=>hg.Zo r b hb (e ▸ ha)⟩)
  (by simp;exact λb hb=>hb.symm) (EZ (λ_ _=>rfl) (λc h=>by rw[hc] at h;cases h;trivial)) (λ_ _=>rfl) (λ_ _=>Iff.rfl) (λ_=>rfl) (λ_ _=>rfl)
 exact⟨h1.1,h1.2,hg.cell r _ hc hro⟩
def Dv.freeze(hg:Dv base U w m G){r:Nat}{fz fl:Bool}{ver s:Nat}{rows:List Row}(hc:get r m=some (.arr fz fl ver s rows))(hro:r ∉ G.out):
  Dv base U w (put r (.arr true fl ver s rows) m) ⟨G.μ,V3 G.F r [],G.E,G.out⟩∧RP m G (put r (.arr true fl ver s rows) m) ⟨G.μ,V3 G.F r [],G.E,G.out⟩∧
   ro (Gh U w ⟨G.μ,V3 G.F r [],G.E,G.out⟩) (.sl true s rows) (G.μ r):=by
 have hle:Eh G.μ m G.μ (put r (.arr true fl ver s rows) m):=EZ (λ_ _=>rfl) (λc h=>by rw[hc] at h;cases h;exact⟨Nat.le_refl _,rfl,λ_=>⟨rfl,rfl⟩⟩);have ayt:(view w U (excl G.F G.E)).le (view w U (excl (V3 G.F r []) G.E))->ro (view w U (excl (V3 G.F r []) G.E)) (.sl true s rows) (G.μ r):=by
  intro hv;have hq:=hg.cell r _ hc hro;cases fz with
  |true=>exact EY hv _ _ hq.1
  |false=>
   refine aeX hv (I7 λb hb=>⟨(hg.lt b (.inr ⟨r,hb⟩)).2.2, ?_⟩) hq true;rintro(hE|⟨k,hk⟩)
   ·exact hg.Zo r b hb hE
   ·by_cases e:k=r
    ·subst e;simp at hk
    ·rw[jU _ e] at hk;exact hg.dj r k (Ne.symm e) b hb hk
 have h1:=hg.set r (.arr true fl ver s rows) G.μ [] G.E G.out (by simpa using hg.ndE) (by simp;exact λb hb=> .inr hb) hle (λ_ _=>rfl) (λ_ _=>Iff.rfl) (λ_=>rfl)
  (λhv _=>⟨ayt hv,rfl⟩)
 exact⟨h1.1,h1.2,ayt h1.2.view⟩
def Dv.atK(hg:Dv base U w m G){k:Nat}(fl:Bool){s:Nat}{rows:List Row}{g:Value}{N E:List Nat}(hn:get k m=none)(hk:k ∉ G.out)(hE:(N++E).Perm G.E)
  (hq:ow (dV w) (Gh U w G) (.sl true s rows) g N):
  ∃F',Dv base U w (put k (.arr false fl 0 s rows) m) ⟨upM G.μ k g,F',E,G.out⟩∧RP m G (put k (.arr false fl 0 s rows) m) ⟨upM G.μ k g,F',E,G.out⟩:=by
 have hnd:=hE.nodup_iff.2 hg.ndE;have hmem:∀b,b∈N++E->b∈G.E:=λb hb=>hE.mem_iff.1 hb
 have hμ:∀j,j≠k->upM G.μ k g j=G.μ j:=λj e=>KL g e
 have hle:∀c',Eh G.μ m (upM G.μ k g) (put k c' m):=λc'=>EZ hμ (λc h=>by rw[hn] at h;cases h)
 cases fl with
 |false=>refine⟨_,hg.set k (.arr false false 0 s rows) (upM G.μ k g) N E G.out hnd (λb hb=> .inr (hmem b hb)) (hle _) hμ (λ_ _=>Iff.rfl) (λh=>absurd h hk) (λhv _=> ?_)⟩;simp only[ni,Ji];exact I4 hv (λ_ _=>rfl) (akq hq)
 |true=>
  obtain⟨N1,N2,rfl,h2⟩:=aju hq;have hnd':(N1++E).Nodup:=by rw[Gp] at hnd;have:=List.nodup_append.1 hnd;exact List.nodup_append.2 ⟨this.1,(List.nodup_append.1 this.2.1).2.1,λa ha b hb=>this.2.2 a ha b (by simp[hb])⟩
  refine⟨_,hg.set k (.arr false true 0 s rows) (upM G.μ k g) N1 E G.out hnd' (λb hb=> .inr (hmem b (by simp at hb⊢;rcases hb with h|h<;>simp[h]))) (hle _) hμ (λ_ _=>Iff.rfl) (λh=>absurd h hk) (λhv _=> ?_)⟩;simp only[ni,Ji];refine h2 _ hv (I7 λb hb=>⟨(hg.lt b (.inl (hmem b (by simp[hb])))).2.2, ?_⟩);rw[Gp] at hnd;have hd:=List.nodup_append.1 hnd;have hd2:=List.nodup_append.1 hd.2.1;rintro(hE'|⟨j,hj⟩)
  ·exact hd2.2.2 b hb b hE' rfl
  ·by_cases e:j=k
   ·subst e;rw[CO] at hj;exact hd.2.2 b hj b (by simp[hb]) rfl
   ·rw[jU _ e] at hj;exact hg.Zo j b hj (hmem b (by simp[hb]))
structure KA(base:Nat)(U:Nat->Prop)(w:World)(m:Mem)(G:GS)(m':Mem)(G':GS)(N:List Nat):Prop where
 ok:Dv base U w m' G'
 le:RP m G m' G'
 E:G'.E=G.E++N
 out:G'.out=G.out
 μ:G'.μ=G.μ
def KA.same(hg:Dv base U w m G):KA base U w m G m G []:=⟨hg,RP.refl _ _,by simp,rfl,rfl⟩
def KA.trans{m1 m2 m3:Mem}{G1 G2 G3:GS}{N N':List Nat}(a:KA base U w m1 G1 m2 G2 N)(b:KA base U w m2 G2 m3 G3 N'):KA base U w m1 G1 m3 G3 (N++N'):=
 ⟨b.ok,a.le.trans b.le,by rw[b.E,a.E,Gp],b.out.trans a.out,b.μ.trans a.μ⟩
def TP{H:Heap}{h h':View}(hl:h.le h'){x:D}{v:Value}{N:List Nat}(q:ow H h x v N):ow H h' x v N:=aeW hl x v N (λ_ _=>rfl) q
def amT(hg:Dv base U w m G){v:V}{g:Value}(hv:aZ G.μ m (Gh U w G) v g)(ho:G.out=[]){x:D}{m':Mem}{l l':Log}(h:(toD v).run m l=some (x,m',l')):
  ∃G' N,KA base U w m G m' G' N∧ow (dV w) (Gh U w G') x g N:=by
 cases v with
 |d y=>simp only[toD,run_pure,iH,jL] at h;obtain⟨rfl,rfl,rfl⟩:=h;exact⟨G,[],KA.same hg,amS (by simpa[aZ] using hv)⟩
 |nil s=>simp only[toD,run_pure,iH,jL] at h;obtain⟨rfl,rfl,rfl⟩:=h;refine⟨G,[],KA.same hg, ?_⟩;simp only[aZ] at hv;simp[ow,hv]
 |own r ver=>
  simp only[toD] at h;replace h:=aj h;obtain⟨c,m1,l1,h1,h⟩:=h;rw[uj] at h1;cases h1;cases hc:get r m with
  |none=>rw[hc] at h;exact(ak h).elim
  |some c=>
   rw[hc] at h;cases c with
   |box _ _=>exact(ak h).elim
   |dead=>exact(ak h).elim
   |ET _ _ _=>exact(ak h).elim
   |nO _ _=>exact(ak h).elim
   |arr fz fl jm s rows=>
    simp only at h;replace h:=aj h;obtain⟨_,m2,l2,h1,h⟩:=h;obtain⟨hb,rfl,rfl⟩:=eF h1;have hb:=wR hb;subst hb;simp only[aZ,hc] at hv;have hv:=hv.2.2 trivial;subst hv;have hro:r ∉ G.out:=by simp[ho]
    cases fz with
    |true=>simp only[run_pure,iH,jL] at h;obtain⟨rfl,rfl,rfl⟩:=h;refine⟨G,[],KA.same hg, ?_⟩;have hq:=(hg.cell r _ hc hro).1;simp only[ow,true_and];exact aaH hq
    |false=>simp only at h;replace h:=aj h;obtain⟨_,m2,l2,h1,h⟩:=h;obtain⟨hok,rfl,rfl⟩:=eF h1;replace h:=aj h;obtain⟨_,m3,l3,h1,h⟩:=h;rw[Dn] at h1;cases h1;simp only[run_pure,iH,jL] at h;obtain⟨rfl,rfl,rfl⟩:=h;obtain⟨k1,k2,k3⟩:=hg.kill hc hro;exact⟨_,G.F r,⟨k1,k2,rfl,rfl,rfl⟩,TP k2.view (aeY hok k3)⟩
 |ptr _ _=>exact(ak h).elim
 |uy _ _ _ _=>exact(ak h).elim
 |qU _ _=>exact(ak h).elim
 |zn _=>exact(ak h).elim
 |clo _ _ _=>exact(ak h).elim
 |agg _=>exact(ak h).elim
 |zo _=>exact(ak h).elim
 |undef=>exact(ak h).elim
def mW{μ:Nat->Value}{h:View}{v:V}{vs:List V}{gs:List Value}(q:dM μ m h (v::vs) gs):∃g gs',gs=g::gs'∧aZ μ m h v g∧dM μ m h vs gs':=by simpa[dM] using q
def kJ{μ:Nat->Value}{h:View}:∀{vs:List V} {gs:List Value},dM μ m h vs gs->gs.length=vs.length
 |[],gs,q=>by simp[dM] at q;simp[q]
 |v::vs,gs,q=>by obtain⟨g,gs',rfl,_,h3⟩:=mW q;simp[kJ h3]
def Qw{H:Heap}{h h':View}(hl:h.le h'){x:Row}{v:List Value}{N:List Nat}(q:iR H h x v N):iR H h' x v N:=IC hl x v N (λ_ _=>rfl) q
def af9{H:Heap}{h h':View}(hl:h.le h'){s:Nat}{x:List Row}{v:List Value}{N:List Nat}(q:fZ H h s x v N):fZ H h' s x v N:=xu hl s x v N (λ_ _=>rfl) q
def PN:∀{vs:List V} {gs:List Value} {m:Mem} {G:GS} (_:Dv base U w m G) (_:dM G.μ m (Gh U w G) vs gs) (_:G.out=[]) {xs:Row} {m':Mem} {l l':Log} (_:(KD vs).run m l=some (xs,m',l')),
  ∃G' N,KA base U w m G m' G' N∧iR (dV w) (Gh U w G') xs gs N∧xs.length=vs.length
 |[],gs,m,G,hg,hv,ho,xs,m',l,l',h=>by simp only[KD,run_pure,iH,jL] at h;obtain⟨rfl,rfl,rfl⟩:=h;exact⟨G,[],KA.same hg,by simp[iR],rfl⟩
 |v::vs,gs,m,G,hg,hv,ho,xs,m',l,l',h=>by obtain⟨g,gs',rfl,hv1,hv2⟩:=mW hv;simp only[KD] at h;replace h:=aj h;obtain⟨x,m1,l1,h1,h⟩:=h;replace h:=aj h;obtain⟨ys,m2,l2,h2,h⟩:=h;simp only[run_pure,iH,jL] at h;obtain⟨rfl,rfl,rfl⟩:=h;obtain⟨G1,N1,t1,q1⟩:=amT hg hv1 ho h1;obtain⟨G2,N2,t2,q2,hlen⟩:=PN t1.ok (t1.le.dM hv2) (t1.out.trans ho) h2;refine⟨G2,N1++N2,t1.trans t2, ?_,by simp[hlen]⟩;simp only[iR];exact⟨g,gs',N1,N2,rfl,rfl,TP t2.le.view q1,q2⟩
end
end Go.Vm
namespace Go.Vm
open Go
section
variable {base:Nat} {U:Nat->Prop} {w:World} {m:Mem} {G:GS}
def Dv.look(hg:Dv base U w m G){r:Nat}{fz fl:Bool}{ver s:Nat}{rows:List Row}(hc:get r m=some (.arr fz fl ver s rows))(hro:r ∉ G.out)(o:Bool):ro (full w) (.sl o s rows) (G.μ r):=by
 have hq:=hg.cell r _ hc hro;cases fz with
 |true=>exact RS (EY (rG _ _ _) _ _ hq.1)
 |false=>exact aeX (rG _ _ _) adI hq o
def akr(hg:Dv base U w m G){v:V}{g:Value}(hv:aZ G.μ m (Gh U w G) v g)(ho:G.out=[]){s:Nat}{rows:List Row}{m':Mem}{l l':Log}(h:(seen v).run m l=some ((s,rows),m',l')):
  m'=m∧ro (full w) (.sl false s rows) g:=by
 cases v with
 |d y=>
  cases y with
  |sl own s' rows'=>simp only[seen,run_pure,iH,jL] at h;obtain⟨⟨rfl,rfl⟩,rfl,rfl⟩:=h;simp only[aZ] at hv;exact⟨rfl,RS (EY (rG _ _ _) _ _ hv)⟩
  |int _ _=>exact(ak h).elim
  |bool _=>exact(ak h).elim
  |str _=>exact(ak h).elim
  |NZ=>exact(ak h).elim
 |nil s'=>simp only[seen,run_pure,iH,jL] at h;obtain⟨⟨rfl,rfl⟩,rfl,rfl⟩:=h;simp only[aZ] at hv;exact⟨rfl,by simp[ro,hv]⟩
 |own r ver=>
  simp only[seen] at h;replace h:=aj h;obtain⟨c,m1,l1,h1,h⟩:=h;rw[uj] at h1;cases h1;cases hc:get r m with
  |none=>rw[hc] at h;exact(ak h).elim
  |some c=>
   rw[hc] at h;cases c with
   |box _ _=>exact(ak h).elim
   |dead=>exact(ak h).elim
   |ET _ _ _=>exact(ak h).elim
   |nO _ _=>exact(ak h).elim
   |arr fz fl jm s' rows'=>simp only at h;replace h:=aj h;obtain⟨_,m2,l2,h1,h⟩:=h;obtain⟨hb,rfl,rfl⟩:=eF h1;have hb:=wR hb;subst hb;simp only[run_pure,iH,jL] at h;obtain⟨⟨rfl,rfl⟩,rfl,rfl⟩:=h;simp only[aZ,hc] at hv;have hv:=hv.2.2 trivial;subst hv;exact⟨rfl,aaH (hg.look hc (by simp[ho]) true)⟩
 |ptr _ _=>exact(ak h).elim
 |uy _ _ _ _=>exact(ak h).elim
 |qU _ _=>exact(ak h).elim
 |zn _=>exact(ak h).elim
 |clo _ _ _=>exact(ak h).elim
 |agg _=>exact(ak h).elim
 |zo _=>exact(ak h).elim
 |undef=>exact(ak h).elim
def xw(k:Nat):∀l:List Nat,mem? k l=true↔k∈l
 |[]=>by simp[mem?]
 |j::l=>by
  simp only[mem?,List.mem_cons]
  by_cases e:k=j
  ·subst e;simp
  ·rw[uh e];simp[e,xw k l]
def N8{k:Nat}{l:List Nat}(h:(!(mem? k l))=true):k ∉ l:=by intro hk;rw[(xw k l).2 hk] at h;cases h
def aqy(hg:Dv base U w m G){v:V}{g:Value}(hv:aZ G.μ m (Gh U w G) v g){imp:List Nat}(ho:∀r,r∈G.out->r∈imp){own:Bool}{v':V}{m':Mem}{l l':Log}(h:(amJ imp own v).run m l=some (v',m',l')):
  ∃G' N x,v'=.d x∧KA base U w m G m' G' N∧ow (dV w) (Gh U w G') x g N∧∀k,k∈imp->get k m'=get k m:=by
 cases v with
 |d y=>simp only[amJ,run_pure,iH,jL] at h;obtain⟨rfl,rfl,rfl⟩:=h;exact⟨G,[],_,rfl,KA.same hg,amS (by simpa[aZ] using hv),λ_ _=>rfl⟩
 |nil s=>simp only[amJ,run_pure,iH,jL] at h;obtain⟨rfl,rfl,rfl⟩:=h;refine⟨G,[],_,rfl,KA.same hg, ?_,λ_ _=>rfl⟩;simp only[aZ] at hv;cases own<;>simp[ow,ro,hv]
 |own r ver=>
  simp only[amJ] at h;replace h:=aj h;obtain⟨c,m1,l1,h1,h⟩:=h;rw[uj] at h1;cases h1;cases hc:get r m with
  |none=>rw[hc] at h;exact(ak h).elim
  |some c=>
   rw[hc] at h;cases c with
   |box _ _=>exact(ak h).elim
   |dead=>exact(ak h).elim
   |ET _ _ _=>exact(ak h).elim
   |nO _ _=>exact(ak h).elim
   |arr fz fl jm s rows=>
    simp only at h;replace h:=aj h;obtain⟨_,m2,l2,h1,h⟩:=h;obtain⟨hb,rfl,rfl⟩:=eF h1;have hb:=wR hb;subst hb;replace h:=aj h;obtain⟨_,m2,l2,h1,h⟩:=h;obtain⟨hi,rfl,rfl⟩:=eF h1;simp only[aZ,hc] at hv;have hv:=hv.2.2 trivial;subst hv;have hro:r ∉ G.out:=λhr=>N8 hi (ho r hr)
    have hni:∀k,k∈imp->k≠r:=λk hk e=>N8 hi (e ▸ hk)
    cases own with
    |false=>simp only at h;replace h:=aj h;obtain⟨_,m3,l3,h1,h⟩:=h;rw[Dn] at h1;cases h1;simp only[run_pure,iH,jL] at h;obtain⟨rfl,rfl,rfl⟩:=h;obtain⟨k1,k2,k3⟩:=hg.freeze hc hro;refine⟨_,[],_,rfl,⟨k1,k2,by simp,rfl,rfl⟩, ?_,λk hk=>lF (hni k hk) _ _⟩;simp only[ow,true_and];exact aaH k3
    |true=>
     simp only at h;replace h:=aj h;obtain⟨_,m2,l2,h1,h⟩:=h;obtain⟨hfz,rfl,rfl⟩:=eF h1;replace h:=aj h;obtain⟨_,m2,l2,h1,h⟩:=h;obtain⟨hok,rfl,rfl⟩:=eF h1;have hfz:fz=false:=by simpa using hfz
     subst hfz;replace h:=aj h;obtain⟨_,m3,l3,h1,h⟩:=h;rw[Dn] at h1;cases h1;simp only[run_pure,iH,jL] at h;obtain⟨rfl,rfl,rfl⟩:=h;obtain⟨k1,k2,k3⟩:=hg.kill hc hro;exact⟨_,G.F r,_,rfl,⟨k1,k2,rfl,rfl,rfl⟩,TP k2.view (aeY hok k3),λk hk=>lF (hni k hk) _ _⟩
 |ptr _ _=>exact(ak h).elim
 |uy _ _ _ _=>exact(ak h).elim
 |qU _ _=>exact(ak h).elim
 |zn _=>exact(ak h).elim
 |clo _ _ _=>exact(ak h).elim
 |agg _=>exact(ak h).elim
 |zo _=>exact(ak h).elim
 |undef=>exact(ak h).elim
def Yw{imp own:List Nat}:∀{vs:List V} {gs:List Value} {m:Mem} {G:GS} {j:Nat} (_:Dv base U w m G) (_:dM G.μ m (Gh U w G) vs gs) (_:∀r,r∈G.out->r∈imp) {vs':List V} {m':Mem} {l l':Log}
  (_:(RD imp own j vs).run m l=some (vs',m',l')),∃G' N xs,vs'=xs.map V.d∧xs.length=gs.length∧KA base U w m G m' G' N∧iR (dV w) (Gh U w G') xs gs N∧∀k,k∈imp->get k m'=get k m
 |[],gs,m,G,j,hg,hv,ho,vs',m',l,l',h=>by simp only[RD,run_pure,iH,jL] at h;obtain⟨rfl,rfl,rfl⟩:=h;simp only[dM] at hv;subst hv;exact⟨G,[],[],rfl,rfl,KA.same hg,by simp[iR],λ_ _=>rfl⟩
 |v::vs,gs,m,G,j,hg,hv,ho,vs',m',l,l',h=>by obtain⟨g,gs',rfl,hv1,hv2⟩:=mW hv;simp only[RD] at h;replace h:=aj h;obtain⟨x,m1,l1,h1,h⟩:=h;replace h:=aj h;obtain⟨ys,m2,l2,h2,h⟩:=h;simp only[run_pure,iH,jL] at h;obtain⟨rfl,rfl,rfl⟩:=h;obtain⟨G1,N1,x1,rfl,t1,q1,i1⟩:=aqy hg hv1 ho h1;obtain⟨G2,N2,xs,rfl,hlen,t2,q2,i2⟩:=Yw t1.ok (t1.le.dM hv2) (λr hr=>ho r (t1.out ▸ hr)) h2;refine⟨G2,N1++N2,x1::xs,rfl,by simp[hlen],t1.trans t2, ?_,λk hk=>(i2 k hk).trans (i1 k hk)⟩;simp only[iR];exact⟨g,gs',N1,N2,rfl,rfl,TP t2.le.view q1,q2⟩
def aga(H:Heap)(h:View):Cell->Value->List Nat->Prop
 | .box t vs,g,N=>∃b a xs N',g=.pointer (some ⟨b,0,none⟩)∧H b=some (.cells a t (0,0))∧vs=xs.map V.d∧xs.length=a.toList.length∧iR H h xs a.toList N'∧N=b::N'
 | .arr fz fl ver s rows,g,N=>fz=false∧ver=0∧Ro H h fl s rows g N
 | .dead,_,_=>False
 | .ET ..,_,_=>False
 | .nO ..,_,_=>False
def cellsB(H:Heap)(h:View):List Cell->List Value->List Nat->Prop
 |[],gs,N=>gs=[]∧N=[]
 |c::cs,gs,N=>∃g gs' N1 N2,gs=g::gs'∧N=N1++N2∧aga H h c g N1∧cellsB H h cs gs' N2
def aaJ{H H':Heap}{h h':View}(hl:h.le h'){c:Cell}{g:Value}{N:List Nat}(hb:∀b,b∈N->H' b=H b)(q:aga H h c g N):aga H' h' c g N:=by
 cases c with
 |box t vs=>obtain⟨b,a,xs,N',h1,h2,h3,h4,h5,rfl⟩:=q;exact⟨b,a,xs,N',h1,by rw[hb b (by simp)];exact h2,h3,h4,IC hl _ _ _ (λb' hb'=>hb b' (by simp[hb'])) h5,rfl⟩
 |arr fz fl ver s rows=>exact⟨q.1,q.2.1,I4 hl hb q.2.2⟩
 |dead=>exact q
 |ET _ _ _=>exact q
 |nO _ _=>exact q
def Yx{H H':Heap}{h h':View}(hl:h.le h'):∀{cs:List Cell} {gs:List Value} {N:List Nat},(∀b,b∈N->H' b=H b)->cellsB H h cs gs N->cellsB H' h' cs gs N
 |[],_,_,_,q=>q
 |c::cs,_,_,hb,⟨g,gs',N1,N2,h1,h2,h3,h4⟩=>by subst h2;exact⟨g,gs',N1,N2,h1,rfl,aaJ hl (λb hx=>hb b (by simp[hx])) h3,Yx hl (λb hx=>hb b (by simp[hx])) h4⟩
def Dv.asH(hg:Dv base U w m G){r:Nat}{c:Cell}(hc:get r m=some c)(hro:r ∉ G.out):
  Dv base U w m ⟨G.μ,V3 G.F r [],G.E++G.F r,r::G.out⟩∧RP m G m ⟨G.μ,V3 G.F r [],G.E++G.F r,r::G.out⟩:=by
 have hex:∀b,excl (V3 G.F r []) (G.E++G.F r) b->excl G.F G.E b:=by
  rintro b (hb|⟨k,hb⟩)
  ·simp only[List.mem_append] at hb;rcases hb with h|h
   ·exact .inl h
   ·exact .inr ⟨r,h⟩
  ·by_cases e:k=r
   ·subst e;simp at hb
   ·rw[jU _ e] at hb;exact .inr ⟨k,hb⟩
 have hv:(view w U (excl G.F G.E)).le (view w U (excl (V3 G.F r []) (G.E++G.F r))):=Ny (λ_ x=>x) hex;refine⟨show MInv base U m w G.μ (V3 G.F r []) (G.E++G.F r) (r::G.out) from ?_,⟨pJ _ _,hex⟩⟩;refine⟨?_, ?_, ?_, ?_,List.nodup_append.2 ⟨hg.ndE,hg.nd r,λa ha b hb e=>hg.Zo r b hb (e ▸ ha)⟩,λb hb=>hg.lt b (hex b hb),hg.up,hg.bs, ?_, ?_⟩
 ·intro k c hk hko;simp only[List.mem_cons,not_or] at hko;rw[jU _ hko.1];exact Jg (pJ _ _) hv rfl (λ_ _=>rfl) (hg.cell k c hk hko.2)
 ·intro k k' hne b hb hb'
  by_cases e:k=r
  ·subst e;simp at hb
  ·rw[jU _ e] at hb
   by_cases e':k'=r
   ·subst e';simp at hb'
   ·rw[jU _ e'] at hb';exact hg.dj _ _ hne b hb hb'
 ·intro k b hb hE
  by_cases e:k=r
  ·subst e;simp at hb
  ·rw[jU _ e] at hb;simp only[List.mem_append] at hE;rcases hE with h|h
   ·exact hg.Zo _ b hb h
   ·exact hg.dj _ _ e b hb h
 ·intro k
  by_cases e:k=r
  ·subst e;simp
  ·rw[jU _ e];exact hg.nd k
 ·intro k hk
  by_cases e:k=r
  ·subst e;simp
  ·rw[jU _ e];exact hg.none_ k hk
 ·intro k hk
  by_cases e:k=r
  ·subst e;simp
  ·rw[jU _ e];exact hg.out_ k (by simpa[e] using hk)
structure Out(base:Nat)(U:Nat->Prop)(w:World)(m:Mem)(G:GS)(m':Mem)(G':GS)(imp rs:List Nat)(N:List Nat):Prop where
 ok:Dv base U w m' G'
 le:RP m G m' G'
 E:G'.E=G.E++N
 out:∀r,r∈G'.out↔r∈G.out∨r∈rs
 μ:G'.μ=G.μ
 here:∀k,k∈imp->get k m'=get k m
def sameKind:Cell->Cell->Prop
 | .box t _,.box t' _=>t=t'
 | .arr _ fl ver s _,.arr _ fl' jm s' _=>ver=0∧jm=0∧fl=fl'∧s=s'
 |_,_=>False
def kinds(m:Mem):List Nat->List Cell->Prop
 |[],cs=>cs=[]
 |r::rs,cs=>∃c c' cs',cs=c'::cs'∧get r m=some c∧sameKind c c'∧kinds m rs cs'
def Wp{m m':Mem}:∀{rs:List Nat} {cs:List Cell},(∀r,r∈rs->get r m'=get r m)->kinds m rs cs->kinds m' rs cs
 |[],_,_,q=>q
 |r::rs,_,h,⟨c,c',cs',h1,h2,h3,h4⟩=>⟨c,c',cs',h1,(h r (by simp)).trans h2,h3,Wp (λk hk=>h k (by simp[hk])) h4⟩
def XC{A:Adv}{imp:List Nat}:∀{rs:List Nat} {m:Mem} {G:GS} (_:Dv base U w m G) (_:rs.Nodup) (_:∀r,r∈rs->r∈imp∧r ∉ G.out) (_:∀r,r∈G.out->r∈imp) {cs:List Cell} {m':Mem} {l l':Log}
  (_:(RF A imp rs).run m l=some (cs,m',l')),∃G' N,Out base U w m G m' G' imp rs N∧cellsB (dV w) (Gh U w G') cs (rs.map G.μ) N∧kinds m rs cs
 |[],m,G,hg,hn,hr,ho,cs,m',l,l',h=>by simp only[RF,run_pure,iH,jL] at h;obtain⟨rfl,rfl,rfl⟩:=h;exact⟨G,[],⟨hg,RP.refl _ _,by simp,λr=>by simp,rfl,λ_ _=>rfl⟩,⟨rfl,rfl⟩,rfl⟩
 |r::rs,m,G,hg,hn,hr,ho,cs,m',l,l',h=>by
  simp only[RF] at h;replace h:=aj h;obtain⟨c,m1,l1,h1,h⟩:=h;rw[uj] at h1;cases h1;replace h:=aj h;obtain⟨c1,m1,l1,h1,h⟩:=h;replace h:=aj h;obtain⟨cs1,m2,l2,h2,h⟩:=h;simp only[run_pure,iH,jL] at h;obtain⟨rfl,rfl,rfl⟩:=h;have hri:=hr r (by simp);have hnr:=List.nodup_cons.1 hn;have step:∃G' N,Out base U w m G m1 G' imp [r] N∧aga (dV w) (Gh U w G') c1 (G.μ r) N∧∃c,get r m=some c∧sameKind c c1:=by
   cases hc:get r m with
   |none=>rw[hc] at h1;exact(ak h1).elim
   |some c=>
    rw[hc] at h1;have hq:=hg.cell r c hc hri.2;obtain⟨k1,k2⟩:=hg.asH hc hri.2;cases c with
    |dead=>exact(ak h1).elim
    |ET _ _ _=>exact(ak h1).elim
    |nO _ _=>exact(ak h1).elim
    |box t vs=>
     simp only[aeT] at h1;replace h1:=aj h1;obtain⟨vs',m3,l3,h3,h1⟩:=h1;simp only[run_pure,iH,jL] at h1;obtain⟨rfl,rfl,rfl⟩:=h1;obtain⟨b,a,e1,e2,e3,e4⟩:=hq;obtain⟨G2,N2,xs,rfl,hlen,t2,q2,i2⟩:=Yw k1 (k2.dM e3) (λk hk=>by
      simp only[List.mem_cons] at hk;rcases hk with rfl|hk
      ·exact hri.1
      ·exact ho k hk) h3
     refine⟨G2,b::N2,⟨t2.ok,k2.trans t2.le,by rw[t2.E,e4];simp,λk=>by rw[t2.out];simp[or_comm],t2.μ,i2⟩,⟨b,a,xs,N2,e1,e2,rfl,hlen,q2,rfl⟩,_,rfl,rfl⟩
    |arr fz fl ver s rows=>
     simp only[aeT] at h1;replace h1:=aj h1;obtain⟨_,m3,l3,h3,h1⟩:=h1;obtain⟨hfz,rfl,rfl⟩:=eF h3;replace h1:=aj h1;obtain⟨_,m3,l3,h3,h1⟩:=h1;obtain⟨hv0,rfl,rfl⟩:=eF h3;simp only[run_pure,iH,jL] at h1;obtain⟨rfl,rfl,rfl⟩:=h1;have hfz:fz=false:=by simpa using hfz
     subst hfz;have hv0:=wR hv0;subst hv0;refine⟨_,G.F r,⟨k1,k2,rfl,λk=>by simp[or_comm],rfl,λ_ _=>rfl⟩,⟨rfl,rfl,I4 k2.view (λ_ _=>rfl) hq⟩,_,rfl,rfl,rfl,rfl,rfl⟩
  obtain⟨G1,N1,o1,q1,c0,hc0,hk0⟩:=step;obtain⟨G2,N2,o2,q2,kd2⟩:=XC o1.ok hnr.2 (λk hk=>⟨(hr k (by simp[hk])).1,λhko=>by
   rcases(o1.out k).1 hko with h|h
   ·exact(hr k (by simp[hk])).2 h
   ·simp at h;subst h;exact hnr.1 hk⟩) (λk hk=>by
   rcases(o1.out k).1 hk with h|h
   ·exact ho k h
   ·simp at h;subst h;exact hri.1) h2
  refine⟨G2,N1++N2,⟨o2.ok,o1.le.trans o2.le,by rw[o2.E,o1.E,Gp],λk=> ?_,o2.μ.trans o1.μ,λk hk=>(o2.here k hk).trans (o1.here k hk)⟩,⟨G.μ r,rs.map G.μ,N1,N2,rfl,rfl,aaJ o2.le.view (λ_ _=>rfl) q1,by rw[<-o1.μ];exact q2⟩,c0,c1,cs1,rfl,hc0,hk0,Wp (λk hk=>(o1.here k (hr k (by simp[hk])).1).symm) kd2⟩;rw[o2.out,o1.out];simp[or_assoc]
end
end Go.Vm
namespace Go.Vm
open Go
section
variable {base:Nat} {U:Nat->Prop} {w:World} {m:Mem} {G:GS}
def Wq{r:Nat}{l:List Nat}(h:l.Nodup):(aeS r l).Nodup:=by
 unfold aeS;cases hm:mem? r l with
 |true=>exact h
 |false=>
  have:r ∉ l:=λhr=>by rw[(xw r l).2 hr] at hm;cases hm
  exact List.nodup_append.2 ⟨h,by simp,λa ha b hb e=>by simp at hb;subst hb;subst e;exact this ha⟩
mutual
def U9:∀(v:V) (I:List Nat),I.Nodup->(af6 I v).Nodup
 | .ptr r _,I,h=>by simp only[af6];exact Wq h
 | .clo _ a b,I,h=>by simp only[af6];exact OT b _ (OT a _ h)
 | .agg cs,I,h=>by simp only[af6];exact OT cs _ h
 | .d _,I,h=>h
 | .nil _,I,h=>h
 | .own _ _,I,h=>h
 | .uy _ _ _ _,I,h=>h
 | .qU _ _,I,h=>h
 | .zn v,I,h=>by simp only[af6];exact U9 v I h
 | .zo _,I,h=>h
 | .undef,I,h=>h
def OT:∀(vs:List V) (I:List Nat),I.Nodup->(adH I vs).Nodup
 |[],I,h=>h
 |v::vs,I,h=>by simp only[adH];exact OT vs _ (U9 v I h)
end
def Uu(A:Adv)(f:Nat):∀(vs:List V) (i:Nat) (I:List Nat),I.Nodup->(Nw A f i I vs).Nodup
 |[],_,I,h=>h
 |v::vs,i,I,h=>by
  simp only[Nw];refine Uu A f vs _ _ ?_;split
  ·exact Wq h
  ·exact h
  ·exact U9 _ _ h
def Nz(A:Adv)(f:Nat)(μ:Nat->Value)(m:Mem)(H:Heap)(h:View):Nat->List V->List Value->List Nat->Prop
 |_,[],gs,N=>gs=[]∧N=[]
 |i,v::vs,gs,N=>∃g gs' N1 N2,gs=g::gs'∧N=N1++N2∧(match Bh A f i with
   |1=>∃x,v=.d x∧ow H h x g N1
   |_=>N1=[]∧aZ μ m h v g)∧Nz A f μ m H h (i+1) vs gs' N2
def PO{A:Adv}{f:Nat}{μ μ':Nat->Value}{m m':Mem}{H H':Heap}{h h':View}(hm:Eh μ m μ' m')(hl:h.le h'):∀{vs:List V} {i:Nat} {gs:List Value} {N:List Nat},(∀b,b∈N->H' b=H b)->
  Nz A f μ m H h i vs gs N->Nz A f μ' m' H' h' i vs gs N
 |[],_,_,_,_,q=>q
 |v::vs,i,gs,N,hb,q=>by
  simp only[Nz] at q⊢;obtain⟨g,gs',N1,N2,rfl,rfl,h3,h4⟩:=q;refine⟨g,gs',N1,N2,rfl,rfl, ?_,PO hm hl (λb hx=>hb b (by simp[hx])) h4⟩;split at h3
  ·rename_i hmo;obtain⟨x,hx,hq⟩:=h3;exact⟨x,hx,aeW hl x g N1 (λb hx=>hb b (by simp[hx])) hq⟩
  ·exact⟨h3.1,wS hm hl v g h3.2⟩
def Yy{A:Adv}{f:Nat}:∀{vs:List V} {gs:List Value} {m:Mem} {G:GS} {i:Nat} (_:Dv base U w m G) (_:dM G.μ m (Gh U w G) vs gs) (_:G.out=[]) {vs':List V} {m':Mem} {l l':Log}
  (_:(PG A f i vs).run m l=some (vs',m',l')),∃G' N,KA base U w m G m' G' N∧Nz A f G'.μ m' (dV w) (Gh U w G') i vs' gs N
 |[],gs,m,G,i,hg,hv,ho,vs',m',l,l',h=>by simp only[PG,run_pure,iH,jL] at h;obtain⟨rfl,rfl,rfl⟩:=h;simp only[dM] at hv;exact⟨G,[],KA.same hg,hv,rfl⟩
 |v::vs,gs,m,G,i,hg,hv,ho,vs',m',l,l',h=>by
  obtain⟨g,gs',rfl,hv1,hv2⟩:=mW hv;simp only[PG] at h;replace h:=aj h;obtain⟨x,m1,l1,h1,h⟩:=h;replace h:=aj h;obtain⟨ys,m2,l2,h2,h⟩:=h;simp only[run_pure,iH,jL] at h;obtain⟨rfl,rfl,rfl⟩:=h;have step:∃G1 N1,KA base U w m G m1 G1 N1∧(match Bh A f i with
   |1=>∃y,x=.d y∧ow (dV w) (Gh U w G1) y g N1
   |_=>N1=[]∧aZ G1.μ m1 (Gh U w G1) x g):=by
   split at h1
   ·rename_i hmo;replace h1:=aj h1;obtain⟨y,m3,l3,h3,h1⟩:=h1;simp only[run_pure,iH,jL] at h1;obtain⟨rfl,rfl,rfl⟩:=h1;obtain⟨G1,N1,t1,q1⟩:=amT hg hv1 ho h3;refine⟨G1,N1,t1, ?_⟩
    try rw[hmo]
    exact⟨y,rfl,q1⟩
   ·rename_i hmo;simp only[run_pure,iH,jL] at h1;obtain⟨rfl,rfl,rfl⟩:=h1;refine⟨G,[],KA.same hg, ?_⟩
    first
     |exact⟨rfl,hv1⟩
     |split
      ·rename_i e;exact absurd e hmo
      ·exact⟨rfl,hv1⟩
  obtain⟨G1,N1,t1,q1⟩:=step;obtain⟨G2,N2,t2,q2⟩:=Yy t1.ok (t1.le.dM hv2) (t1.out.trans ho) h2;refine⟨G2,N1++N2,t1.trans t2, ?_⟩;simp only[Nz];refine⟨g,gs',N1,N2,rfl,rfl, ?_,q2⟩;split at q1
  ·obtain⟨y,hy,hq⟩:=q1;exact⟨y,hy,TP t2.le.view hq⟩
  ·exact⟨q1.1,t2.le.aZ q1.2⟩
def aaK:∀(cs:List Cell) (k i:Nat),get (mg+(k+i)) (pG k cs)=cs[i]?
 |[],_,_=>by simp[pG,get]
 |c::cs,k,0=>by simp[pG,get]
 |c::cs,k,i+1=>by simp only[pG,get];rw[uh (by omega)];simp only[dO,List.getElem?_cons_succ];rw[<-aaK cs (k+1) i,show k+1+i=k+(i+1) from by omega]
def MK(cs:List Cell)(i:Nat):get (mg+i) (pG 0 cs)=cs[i]? :=by
 have:=aaK cs 0 i
 rwa [Nat.zero_add] at this
def impμ(hs:List Value):Nat->Value:=λk=>hs.getD (k - mg) undef
def Va{r:Nat}:∀{l:List Nat} {k i:Nat},idxOf r k l=some i->k<=i∧l[i - k]? =some r
 |[],_,_,h=>by simp[idxOf] at h
 |j::l,k,i,h=>by
  simp only[idxOf] at h
  by_cases e:r=j
  ·subst e;simp at h;subst h;simp
  ·rw[uh e] at h;simp only[dO] at h;obtain⟨h1,h2⟩:=Va h;refine⟨by omega, ?_⟩;rw[show i - k=(i - (k+1))+1 from by omega,List.getElem?_cons_succ];exact h2
def Ws{m:Mem}:∀{rs:List Nat} {cs:List Cell} {i r:Nat},kinds m rs cs->rs[i]? =some r->∃c c',get r m=some c∧cs[i]? =some c'∧sameKind c c'
 |[],_,_,_,_,h=>by simp at h
 |r::rs,_,0,r',⟨c,c',cs',h1,h2,h3,_⟩,h=>by simp at h;subst h;subst h1;exact⟨c,c',h2,rfl,h3⟩
 |r::rs,_,i+1,r',⟨c,c',cs',h1,h2,h3,h4⟩,h=>by subst h1;simp only[List.getElem?_cons_succ] at h⊢;exact Ws h4 h
def RV(U:Nat->Prop)(G:GS)(L:List Nat):Nat->Prop:=λb=>U b∧∀r,b∈G.F r->r∈L
def NC{L:List Nat}:(Gh U w G).le (view w (RV U G L) (· ∈G.E)):=by
 intro b o v hv;unfold Gh view at hv;split at hv
 ·rename_i hc;unfold view;rw[if_pos ⟨⟨hc.1,λr hr=>absurd (.inr ⟨r,hr⟩) hc.2⟩,λhE=>hc.2 (.inl hE)⟩];exact hv
 ·cases hv
structure adK(base:Nat)(U:Nat->Prop)(w:World)(m:Mem)(G:GS)(imp:List Nat)(cells:List Cell):Prop where
 ok:Dv base U w m G
 out:∀r,r∈G.out↔r∈imp
 kd:kinds m imp cells
def aqz(hg:Dv base U w m G){r:Nat}{fz fl:Bool}{ver s:Nat}{rows:List Row}(hc:get r m=some (.arr fz fl ver s rows))(hro:r ∉ G.out){L:List Nat}(hL:fz=false->r∈L)(o:Bool):
  ro (view w (RV U G L) (· ∈G.E)) (.sl o s rows) (G.μ r):=by
 have hq:=hg.cell r _ hc hro;cases fz with
 |true=>exact RS (EY NC _ _ hq.1)
 |false=>
  refine aeX NC (I7 λb hb=>⟨⟨(hg.lt b (.inr ⟨r,hb⟩)).2.2,λk hk=> ?_⟩,hg.Zo r b hb⟩) hq o
  by_cases e:k=r
  ·rw[e];exact hL rfl
  ·exact absurd hk (hg.dj r k (Ne.symm e) b hb)
mutual
def aaf{imp:List Nat}{cells:List Cell}(C:adK base U w m G imp cells):∀{v:V} {g:Value} (_:aZ G.μ m (Gh U w G) v g) {v':V} {lt:List Nat} {m':Mem} {l l':Log}
  (_:(lend imp v).run m l=some ((v',lt),m',l')),m'=m∧∀L:List Nat,(∀r,r∈lt->r∈L)->aZ (impμ (imp.map G.μ)) (pG 0 cells) (view w (RV U G L) (· ∈G.E)) v' g
 | .d x,g,hv,v',lt,m',l,l',h=>by simp only[lend,run_pure,iH,jL] at h;obtain⟨⟨rfl,rfl⟩,rfl,rfl⟩:=h;refine⟨rfl,λL hL=> ?_⟩;simp only[aZ] at hv⊢;exact EY NC _ _ (amR hv)
 | .nil s,g,hv,v',lt,m',l,l',h=>by simp only[lend,run_pure,iH,jL] at h;obtain⟨⟨rfl,rfl⟩,rfl,rfl⟩:=h;refine⟨rfl,λL hL=> ?_⟩;simp only[aZ] at hv⊢;simp[ro,hv]
 | .own r ver,g,hv,v',lt,m',l,l',h=>by
  simp only[lend] at h;replace h:=aj h;obtain⟨c,m1,l1,h1,h⟩:=h;rw[uj] at h1;cases h1;cases hc:get r m with
  |none=>rw[hc] at h;exact(ak h).elim
  |some c=>
   rw[hc] at h;cases c with
   |box _ _=>exact(ak h).elim
   |dead=>exact(ak h).elim
   |ET _ _ _=>exact(ak h).elim
   |nO _ _=>exact(ak h).elim
   |arr fz fl jm s rows=>
    simp only at h;replace h:=aj h;obtain⟨_,m2,l2,h1,h⟩:=h;obtain⟨hb,rfl,rfl⟩:=eF h1;have hb:=wR hb;subst hb;replace h:=aj h;obtain⟨_,m2,l2,h1,h⟩:=h;obtain⟨hi,rfl,rfl⟩:=eF h1;simp only[run_pure,iH,jL] at h;obtain⟨⟨rfl,rfl⟩,rfl,rfl⟩:=h;simp only[aZ,hc] at hv;have hv:=hv.2.2 trivial;subst hv;refine⟨rfl,λL hL=> ?_⟩;have hro:r ∉ G.out:=λhr=>N8 hi ((C.out r).1 hr)
    simp only[aZ];exact aaH (aqz C.ok hc hro (λhf=>hL r (by subst hf;simp)) true)
 | .ptr r off,g,hv,v',lt,m',l,l',h=>by simp only[lend] at h;replace h:=aj h;obtain⟨i,m1,l1,h1,h⟩:=h;obtain⟨hi,rfl,rfl⟩:=iD h1;simp only[run_pure,iH,jL] at h;obtain⟨⟨rfl,rfl⟩,rfl,rfl⟩:=h;refine⟨rfl,λL hL=> ?_⟩;obtain⟨_,h2⟩:=Va hi;rw[Nat.sub_zero] at h2;obtain⟨c,c',k1,k2,k3⟩:=Ws C.kd h2;simp only[aZ,k1] at hv;simp only[aZ,MK,k2];refine⟨hv.1, ?_⟩;replace hv:=hv.2;cases c<;>cases c'<;>simp only[sameKind] at k3 hv⊢;obtain⟨b,e1,e2⟩:=hv;refine⟨b, ?_,e2⟩;simp only[impμ,Nat.add_sub_cancel_left,List.getD_eq_getElem?_getD,List.getElem?_map,h2,Qq,Option.getD_some,e1]
 | .qU row off,g,hv,v',lt,m',l,l',h=>by simp only[lend,run_pure,iH,jL] at h;obtain⟨⟨rfl,rfl⟩,rfl,rfl⟩:=h;refine⟨rfl,λL hL=> ?_⟩;simp only[aZ] at hv⊢;obtain⟨b,o,e1,e2⟩:=hv;exact⟨b,o,e1,KJ NC row b o e2⟩
 | .zn v,g,hv,v',lt,m',l,l',h=>by simp only[lend] at h;replace h:=aj h;obtain⟨⟨a',la⟩,m1,l1,h1,h⟩:=h;simp only[run_pure,iH,jL] at h;obtain⟨⟨rfl,rfl⟩,rfl,rfl⟩:=h;simp only[aZ] at hv;obtain⟨b,x,rfl,e2,e3⟩:=hv;obtain⟨hm1,q1⟩:=aaf C e3 h1;refine⟨hm1,λL hL=> ?_⟩;simp only[aZ];exact⟨b,x,rfl,NC _ _ _ e2,q1 L hL⟩
 | .clo f a b,g,hv,v',lt,m',l,l',h=>by simp only[lend] at h;replace h:=aj h;obtain⟨⟨a',la⟩,m1,l1,h1,h⟩:=h;simp only at h;replace h:=aj h;obtain⟨⟨b',lb⟩,m2,l2,h2,h⟩:=h;simp only[run_pure,iH,jL] at h;obtain⟨⟨rfl,rfl⟩,rfl,rfl⟩:=h;simp only[aZ] at hv;obtain⟨x,y,rfl,e2,e3⟩:=hv;obtain⟨hm1,q1⟩:=Wu C e2 h1;rw[hm1] at h2;obtain⟨hm2,q2⟩:=Wu C e3 h2;refine⟨hm2,λL hL=> ?_⟩;simp only[aZ];exact⟨x,y,rfl,q1 L (λr hr=>hL r (by simp[hr])),q2 L (λr hr=>hL r (by simp[hr]))⟩
 | .agg cs,g,hv,v',lt,m',l,l',h=>by simp only[lend] at h;replace h:=aj h;obtain⟨⟨a',la⟩,m1,l1,h1,h⟩:=h;simp only[run_pure,iH,jL] at h;obtain⟨⟨rfl,rfl⟩,rfl,rfl⟩:=h;simp only[aZ] at hv;obtain⟨x,rfl,e2⟩:=hv;obtain⟨hm1,q1⟩:=Wu C e2 h1;refine⟨hm1,λL hL=> ?_⟩;simp only[aZ];exact⟨x,rfl,q1 L hL⟩
 | .uy _ _ _ _,g,hv,v',lt,m',l,l',h=>(ak h).elim
 | .zo _,g,hv,v',lt,m',l,l',h=>(ak h).elim
 | .undef,g,hv,v',lt,m',l,l',h=>(ak h).elim
def Wu{imp:List Nat}{cells:List Cell}(C:adK base U w m G imp cells):∀{vs:List V} {gs:List Value} (_:dM G.μ m (Gh U w G) vs gs) {vs':List V} {lt:List Nat} {m':Mem} {l l':Log}
  (_:(aaA imp vs).run m l=some ((vs',lt),m',l')),m'=m∧∀L:List Nat,(∀r,r∈lt->r∈L)->dM (impμ (imp.map G.μ)) (pG 0 cells) (view w (RV U G L) (· ∈G.E)) vs' gs
 |[],gs,hv,v',lt,m',l,l',h=>by simp only[aaA,run_pure,iH,jL] at h;obtain⟨⟨rfl,rfl⟩,rfl,rfl⟩:=h;simp only[dM] at hv;subst hv;exact⟨rfl,λ_ _=>by simp[dM]⟩
 |v::vs,gs,hv,v',lt,m',l,l',h=>by obtain⟨g,gs',rfl,hv1,hv2⟩:=mW hv;simp only[aaA] at h;replace h:=aj h;obtain⟨⟨a',la⟩,m1,l1,h1,h⟩:=h;simp only at h;replace h:=aj h;obtain⟨⟨b',lb⟩,m2,l2,h2,h⟩:=h;simp only[run_pure,iH,jL] at h;obtain⟨⟨rfl,rfl⟩,rfl,rfl⟩:=h;obtain⟨hm1,q1⟩:=aaf C hv1 h1;rw[hm1] at h2;obtain⟨hm2,q2⟩:=Wu C hv2 h2;refine⟨hm2,λL hL=> ?_⟩;simp only[dM];exact⟨g,gs',rfl,q1 L (λr hr=>hL r (by simp[hr])),q2 L (λr hr=>hL r (by simp[hr]))⟩
end
def Wv{imp:List Nat}{cells:List Cell}(C:adK base U w m G imp cells):∀{vs:List V} {gs:List Value} (_:dM G.μ m (Gh U w G) vs gs) {row:Row} {lt:List Nat} {m':Mem} {l l':Log}
  (_:(PI imp vs).run m l=some ((row,lt),m',l')),m'=m∧∀L:List Nat,(∀r,r∈lt->r∈L)->jg (view w (RV U G L) (· ∈G.E)) row gs
 |[],gs,hv,row,lt,m',l,l',h=>by simp only[PI,run_pure,iH,jL] at h;obtain⟨⟨rfl,rfl⟩,rfl,rfl⟩:=h;exact⟨rfl,λ_ _=>by simp[jg]⟩
 |v::vs,gs,hv,row,lt,m',l,l',h=>by
  obtain⟨g,gs',rfl,hv1,hv2⟩:=mW hv;simp only[PI] at h;replace h:=aj h;obtain⟨⟨a',la⟩,m1,l1,h1,h⟩:=h;obtain⟨hm1,q1⟩:=aaf C hv1 h1;cases a' with
  |d x=>simp only at h;replace h:=aj h;obtain⟨⟨b',lb⟩,m2,l2,h2,h⟩:=h;simp only[run_pure,iH,jL] at h;obtain⟨⟨rfl,rfl⟩,rfl,rfl⟩:=h;rw[hm1] at h2;obtain⟨hm2,q2⟩:=Wv C hv2 h2;refine⟨hm2,λL hL=> ?_⟩;have:=q1 L (λr hr=>hL r (by simp[hr]));simp only[aZ] at this;exact⟨g,gs',rfl,this,q2 L (λr hr=>hL r (by simp[hr]))⟩
  |_=>exact(ak h).elim
def ajv{imp:List Nat}{cells:List Cell}(C:adK base U w m G imp cells){v:V}{g:Value}(hv:aZ G.μ m (Gh U w G) v g){v':V}{lt:List Nat}{m':Mem}{l l':Log}
  (h:(aae imp v).run m l=some ((v',lt),m',l')):m'=m∧∀L:List Nat,(∀r,r∈lt->r∈L)->aZ (impμ (imp.map G.μ)) (pG 0 cells) (view w (RV U G L) (· ∈G.E)) v' g:=by
 cases v with
 |ptr r off=>
  simp only[aae] at h;replace h:=aj h;obtain⟨c,m1,l1,h1,h⟩:=h;rw[uj] at h1;cases h1;cases hc:get r m with
  |none=>rw[hc] at h;exact(ak h).elim
  |some c=>
   rw[hc] at h;cases c with
   |box t cs=>
    simp only at h;replace h:=aj h;obtain⟨_,m2,l2,h1,h⟩:=h;obtain⟨hi,rfl,rfl⟩:=eF h1;replace h:=aj h;obtain⟨⟨row,la⟩,m2,l2,h1,h⟩:=h;simp only[run_pure,iH,jL] at h;obtain⟨⟨rfl,rfl⟩,rfl,rfl⟩:=h;have hro:r ∉ G.out:=λhr=>N8 hi ((C.out r).1 hr)
    obtain⟨b,a,e1,e2,e3,e4⟩:=C.ok.cell r _ hc hro;obtain⟨hm,q⟩:=Wv C e3 h1;refine⟨hm,λL hL=> ?_⟩;simp only[aZ,hc] at hv⊢;obtain⟨b',e5,e6⟩:=hv.2;rw[e1] at e5;cases e5;refine⟨b,0,by rw[Nat.zero_add];exact e6,U7 row 0 a.toList (λj u hj=> ?_) (q L (λk hk=>hL k (by simp[hk])))⟩;rw[Nat.zero_add];have hb:b∈G.F r:=by rw[e4];simp
    refine I7 (N:=[b]) (λb' hb'=> ?_) b (by simp) a t _ e2 j u hj;simp only[List.mem_singleton] at hb';subst hb';refine⟨⟨(C.ok.lt _ (.inr ⟨r,hb⟩)).2.2,λk hk=> ?_⟩,C.ok.Zo r _ hb⟩
    by_cases e:k=r
    ·rw[e];exact hL r (by simp)
    ·exact absurd hk (C.ok.dj r k (Ne.symm e) _ hb)
   |_=>exact(ak h).elim
 |qU row off=>simp only[aae,run_pure,iH,jL] at h;obtain⟨⟨rfl,rfl⟩,rfl,rfl⟩:=h;refine⟨rfl,λL hL=> ?_⟩;simp only[aZ] at hv⊢;obtain⟨b,o,e1,e2⟩:=hv;exact⟨b,o,e1,KJ NC row b o e2⟩
 |_=>exact(ak h).elim
def Yz{A:Adv}{f:Nat}{imp:List Nat}{cells:List Cell}(C:adK base U w m G imp cells):
  ∀{vs:List V} {gs:List Value} {i:Nat} {N:List Nat} (_:Nz A f G.μ m (dV w) (Gh U w G) i vs gs N) {vs':List V} {lt:List Nat} {m':Mem} {l l':Log}
  (_:(PK A imp f i vs).run m l=some ((vs',lt),m',l')),m'=m∧∀L:List Nat,(∀r,r∈lt->r∈L)->Nz A f (impμ (imp.map G.μ)) (pG 0 cells) (dV w) (view w (RV U G L) (· ∈G.E)) i vs' gs N
 |[],gs,i,N,hv,v',lt,m',l,l',h=>by simp only[PK,run_pure,iH,jL] at h;obtain⟨⟨rfl,rfl⟩,rfl,rfl⟩:=h;exact⟨rfl,λ_ _=>hv⟩
 |v::vs,gs,i,N,hv,v',lt,m',l,l',h=>by
  simp only[Nz] at hv;obtain⟨g,gs',N1,N2,rfl,rfl,hv1,hv2⟩:=hv;simp only[PK] at h;replace h:=aj h;obtain⟨⟨a',la⟩,m1,l1,h1,h⟩:=h;simp only at h;replace h:=aj h;obtain⟨⟨b',lb⟩,m2,l2,h2,h⟩:=h;simp only[run_pure,iH,jL] at h;obtain⟨⟨rfl,rfl⟩,rfl,rfl⟩:=h;have step:m1=m∧∀L:List Nat,(∀r,r∈la->r∈L)->(match Bh A f i with
   |1=>∃x,a'=.d x∧ow (dV w) (view w (RV U G L) (· ∈G.E)) x g N1
   |_=>N1=[]∧aZ (impμ (imp.map G.μ)) (pG 0 cells) (view w (RV U G L) (· ∈G.E)) a' g):=by
   split at h1
   ·rename_i hmo;rw[hmo] at hv1⊢;simp only[run_pure,iH,jL] at h1;obtain⟨⟨rfl,rfl⟩,rfl,rfl⟩:=h1;refine⟨rfl,λL hL=> ?_⟩;obtain⟨x,hx,hq⟩:=hv1;exact⟨x,hx,TP NC hq⟩
   ·rename_i hmo;rw[hmo] at hv1⊢;obtain⟨hN,hv1⟩:=hv1;cases v with
    |own r ver=>simp only at h1;replace h1:=aj h1;obtain⟨_,m3,l3,h3,h1⟩:=h1;obtain⟨hb,rfl,rfl⟩:=eF h3;have hb:=wR hb;subst hb;replace h1:=aj h1;obtain⟨j,m3,l3,h3,h1⟩:=h1;obtain⟨hj,rfl,rfl⟩:=iD h3;simp only[run_pure,iH,jL] at h1;obtain⟨⟨rfl,rfl⟩,rfl,rfl⟩:=h1;refine⟨rfl,λL hL=>⟨hN, ?_⟩⟩;obtain⟨_,h2⟩:=Va hj;rw[Nat.sub_zero] at h2;obtain⟨c,c',k1,k2,k3⟩:=Ws C.kd h2;simp only[aZ,k1] at hv1;simp only[aZ,MK,k2];refine⟨hv1.1, ?_⟩;replace hv1:=hv1.2;cases c<;>cases c'<;>simp only[sameKind] at k3 hv1⊢;refine⟨by omega,λ_=> ?_⟩;simp only[impμ,Nat.add_sub_cancel_left,List.getD_eq_getElem?_getD,List.getElem?_map,h2,Qq,Option.getD_some];exact hv1.2 k3.1.symm
    |d _=>exact(ak h1).elim
    |nil _=>exact(ak h1).elim
    |ptr _ _=>exact(ak h1).elim
    |uy _ _ _ _=>exact(ak h1).elim
    |qU _ _=>exact(ak h1).elim
    |zn _=>exact(ak h1).elim
    |clo _ _ _=>exact(ak h1).elim
    |agg _=>exact(ak h1).elim
    |zo _=>exact(ak h1).elim
    |undef=>exact(ak h1).elim
   ·rename_i hmo;rw[hmo] at hv1⊢;obtain⟨hN,hv1⟩:=hv1;cases v with
    |nil s=>simp only[run_pure,iH,jL] at h1;obtain⟨⟨rfl,rfl⟩,rfl,rfl⟩:=h1;exact⟨rfl,λL hL=>⟨hN,hv1⟩⟩
    |d _=>exact(ak h1).elim
    |own _ _=>exact(ak h1).elim
    |ptr _ _=>exact(ak h1).elim
    |uy _ _ _ _=>exact(ak h1).elim
    |qU _ _=>exact(ak h1).elim
    |zn _=>exact(ak h1).elim
    |clo _ _ _=>exact(ak h1).elim
    |agg _=>exact(ak h1).elim
    |zo _=>exact(ak h1).elim
    |undef=>exact(ak h1).elim
   ·rename_i hmo;rw[hmo] at hv1⊢;obtain⟨hN,hv1⟩:=hv1;obtain⟨rfl,q⟩:=ajv C hv1 h1;exact⟨rfl,λL hL=>⟨hN,q L hL⟩⟩
   ·rename_i amU aYi aYj aYk;have hm1:∀(α:Prop) (β:Prop),(match Bh A f i with|1=>α|_=>β)=β:=by
     intro α β;split
     ·rename_i e;exact absurd e amU
     ·rfl
    rw[hm1] at hv1;obtain⟨hN,hv1⟩:=hv1;obtain⟨rfl,q⟩:=aaf C hv1 h1;refine⟨rfl,λL hL=> ?_⟩;rw[hm1];exact⟨hN,q L hL⟩
  obtain⟨hm1,q1⟩:=step;rw[hm1] at h2;obtain⟨hm2,q2⟩:=Yz C hv2 h2;refine⟨hm2,λL hL=> ?_⟩;simp only[Nz];exact⟨g,gs',N1,N2,rfl,rfl,q1 L (λr hr=>hL r (by simp[hr])),q2 L (λr hr=>hL r (by simp[hr]))⟩
end
end Go.Vm
namespace Go.Vm
open Go
def NU{w:World}{U X:Nat->Prop}{b o:Nat}{v:Value}(h:view w U X b o=some v):U b∧¬X b∧w.cell? ⟨b,o,none⟩=some v:=by
 unfold view at h;split at h
 ·rename_i hc;exact⟨hc.1,hc.2,h⟩
 ·cases h
def aag{w:World}{U X:Nat->Prop}{b o:Nat}{v:Value}(h1:U b)(h2:¬X b)(h3:w.cell? ⟨b,o,none⟩=some v):view w U X b o=some v:=by unfold view;rw[if_pos ⟨h1,h2⟩];exact h3
def cell_of_heap{w w':World}{b:Nat}(h:w'.heap[b]? =w.heap[b]?)(o:Nat):w'.cell? ⟨b,o,none⟩=w.cell? ⟨b,o,none⟩:=by simp[World.cell?,h]
def lt_of_cell{w:World}{b o:Nat}{v:Value}(h:w.cell? ⟨b,o,none⟩=some v):b<w.heap.size:=by have:=block_lt_of_cell h;simpa using this
section
variable {base:Nat} {U:Nat->Prop} {w w':World} {m:Mem} {G:GS}
def Dv.world(hg:Dv base U w m G)(hk:Keep G.E w w'){E':List Nat}(hn:E'.Nodup)(hE:∀b,b∈E'->(b∈G.E∨w.heap.size<=b)∧b<w'.heap.size):
  Dv base U w' m {G with E:=E'}∧(Gh U w G).le (Gh U w' {G with E:=E'}):=by
 have hnE:∀b,b<w.heap.size->b ∉ G.E->b ∉ E':=λb hb hx he=>by
  rcases(hE b he).1 with h|h
  ·exact hx h
  ·omega
 have hF:∀r b,b∈G.F r->w'.heap[b]? =w.heap[b]? :=λr b hb=>hk.block b (hg.lt b (.inr ⟨r,hb⟩)).1 (hg.Zo r b hb)
 have hle:(Gh U w G).le (Gh U w' {G with E:=E'}):=by
  intro b o v hv;obtain⟨h1,h2,h3⟩:=NU hv;have hlt:=lt_of_cell h3;have hbE:b ∉ G.E:=λh=>h2 (.inl h)
  refine aag h1 ?_ ((cell_of_heap (hk.block b hlt hbE) o).trans h3);rintro(h|h)
  ·exact hnE b hlt hbE h
  ·exact h2 (.inr h)
 refine⟨⟨?_,hg.dj,λr b hb=>hnE b (hg.lt b (.inr ⟨r,hb⟩)).1 (hg.Zo r b hb),hg.nd,hn, ?_,λb hb=>hg.up b (Nat.le_trans hk.size hb),Nat.le_trans hg.bs hk.size,hg.none_,hg.out_⟩,hle⟩
 ·intro r c hc ho;exact Jg (pJ _ _) hle rfl (λb hb=>hF r b hb) (hg.cell r c hc ho)
 ·rintro b (h|⟨r,h⟩)
  ·refine⟨(hE b h).2, ?_⟩;rcases(hE b h).1 with h'|h'
   ·exact(hg.lt b (.inl h')).2
   ·exact⟨Nat.le_trans hg.bs h',hg.up b h'⟩
  ·have:=hg.lt b (.inr ⟨r,h⟩);exact⟨Nat.lt_of_lt_of_le this.1 hk.size,this.2⟩
def adL:∀{L:List Nat} {m:Mem} {G:GS} (_:Dv base U w m G) (_:∀r,r∈L->r ∉ G.out) {x:Unit} {m':Mem} {l l':Log} (_:(freeze L).run m l=some (x,m',l')),
  ∃F',Dv base U w m' ⟨G.μ,F',G.E,G.out⟩∧RP m G m' ⟨G.μ,F',G.E,G.out⟩∧(∀r,r∈L->F' r=[])∧(∀r,F' r=[]∨F' r=G.F r)∧(∀k,k ∉ L->get k m'=get k m)
 |[],m,G,hg,ho,x,m',l,l',h=>by simp only[Vm.freeze,run_pure,iH,jL] at h;obtain⟨_,rfl,rfl⟩:=h;exact⟨G.F,hg,RP.refl _ _,by simp,λr=> .inr rfl,λ_ _=>rfl⟩
 |r::L,m,G,hg,ho,x,m',l,l',h=>by
  simp only[Vm.freeze] at h;replace h:=aj h;obtain⟨c,m1,l1,h1,h⟩:=h;rw[uj] at h1;cases h1;cases hc:get r m with
  |none=>rw[hc] at h;exact(ak h).elim
  |some c=>
   rw[hc] at h;cases c with
   |box _ _=>exact(ak h).elim
   |dead=>exact(ak h).elim
   |ET _ _ _=>exact(ak h).elim
   |nO _ _=>exact(ak h).elim
   |arr fz fl ver s rows=>
    replace h:=aj h;obtain⟨_,m1,l1,h1,h⟩:=h;simp only[Dn,iH,jL] at h1;obtain⟨_,rfl,rfl⟩:=h1;obtain⟨k1,k2,_⟩:=hg.freeze hc (ho r (by simp));obtain⟨F',q1,q2,q3,q4,q5⟩:=adL k1 (λk hk=>ho k (by simp[hk])) h;refine⟨F',q1,k2.trans q2, ?_, ?_, ?_⟩
    ·intro k hk;simp only[List.mem_cons] at hk;rcases hk with rfl|hk
     ·rcases q4 k with e|e
      ·exact e
      ·rw[e];simp
     ·exact q3 k hk
    ·intro k;rcases q4 k with e|e
     ·exact .inl e
     ·by_cases ek:k=r
      ·subst ek;rw[e];left;simp
      ·have e':F' k=V3 G.F r [] k:=e;rw[e',jU _ ek];exact .inr rfl
    ·intro k hk;simp only[List.mem_cons,not_or] at hk;rw[q5 k hk.2,lF hk.1]
def aaL{k:IntKind}{x:D}{n:Int}(h:asInt k x=some n):x=.int k n:=by
 cases x<;>simp[asInt] at h;rename_i k' n'
 by_cases e:k'=k
 ·subst e;simp at h;subst h;rfl
 ·simp[e] at h
def YA{x:D}{b:Bool}(h:asBool x=some b):x=.bool b:=by cases x<;>simp[asBool] at h;subst h;rfl
def aaM{x:D}{b:List UInt8}(h:adE x=some b):x=.str b:=by cases x<;>simp[adE] at h;subst h;rfl
def adM{s:Nat}{x:D}{rows:List Row}(h:amE s x=some rows):∃o,x=.sl o s rows:=by
 cases x<;>simp[amE] at h;rename_i o s' rows'
 by_cases e:s'=s
 ·subst e;simp at h;subst h;exact⟨o,rfl⟩
 ·rw[uh e] at h;simp at h
def aaN{s:Nat}{x:D}{rows:List Row}(h:ako s x=some rows):x=.sl true s rows:=by
 cases x<;>simp[ako] at h;rename_i o s' rows';cases o<;>simp at h
 by_cases e:s'=s
 ·subst e;simp at h;subst h;rfl
 ·rw[uh e] at h;simp at h
def agb{row:Row}{j:Nat}{x:D}{r:Row}(h:row.drop j=x::r):nth row j=x∧row.drop (j+1)=r:=by
 have h1:row[j]? =some x:=by
  have:(row.drop j)[0]? =some x:=by rw[h];rfl
  rwa [List.getElem?_drop,Nat.add_zero] at this
 refine⟨by simp[nth,h1], ?_⟩;rw[<-List.drop_drop,h];rfl
def Dv.aaO(hg:Dv base U w m G){N E:List Nat}(hE:(N++E).Perm G.E):Dv base U w m {G with E:=E}∧RP m G m {G with E:=E}∧∀{x:D} {g:Value},ow (dV w) (Gh U w G) x g N->ro (Gh U w {G with E:=E}) x g:=by
 have hnd:=hE.nodup_iff.2 hg.ndE;have hmem:∀b,b∈N++E->b∈G.E:=λb hb=>hE.mem_iff.1 hb
 obtain⟨h1,h2⟩:=hg.less E (List.nodup_append.1 hnd).2.1 (λb hb=>hmem b (by simp[hb]));refine⟨h1,h2,fun{x g} q=>asG h2.view x g N (I7 λb hb=>⟨(hg.lt b (.inl (hmem b (by simp[hb])))).2.2, ?_⟩) q⟩;rintro(h|⟨r,h⟩)
 ·exact(List.nodup_append.1 hnd).2.2 b hb b h rfl
 ·exact hg.Zo r b h (hmem b (by simp[hb]))
structure Grew(base:Nat)(U:Nat->Prop)(w:World)(m:Mem)(G:GS)(m':Mem)(G':GS)(E:List Nat):Prop where
 ok:Dv base U w m' G'
 le:RP m G m' G'
 E:G'.E=E
 out:G'.out=G.out
 old:∀k c,get k m=some c->get k m'=some c
 μ:∀k c,get k m=some c->G'.μ k=G.μ k
def Grew.trans{m1 m2 m3:Mem}{G1 G2 G3:GS}{E E':List Nat}(a:Grew base U w m1 G1 m2 G2 E)(b:Grew base U w m2 G2 m3 G3 E'):Grew base U w m1 G1 m3 G3 E':=
 ⟨b.ok,a.le.trans b.le,b.E,b.out.trans a.out,λk c h=>b.old k c (a.old k c h),λk c h=>(b.μ k c (a.old k c h)).trans (a.μ k c h)⟩
def Wx{k:Nat}{c:Cell}{x:Unit}{m':Mem}{l l':Log}(h:(new k c).run m l=some (x,m',l')):get k m=none∧m'=put k c m:=by
 simp only[new] at h;replace h:=aj h;obtain⟨_,m1,l1,h1,h⟩:=h;simp only[free] at h1;replace h1:=aj h1;obtain⟨c',m2,l2,h2,h1⟩:=h1;rw[uj] at h2;cases h2;cases hc:get k m with
 |some c=>rw[hc] at h1;exact(ak h1).elim
 |none=>rw[hc] at h1;simp only[run_pure,iH,jL] at h1;obtain⟨_,rfl,rfl⟩:=h1;simp only[Dn,iH,jL] at h;exact⟨rfl,h.2.1.symm⟩
def adN(hg:Dv base U w m G)(ho:∀r,r∈G.out->∃c,get r m=some c){k:Nat}{fl:Bool}{s:Nat}{rows:List Row}{g:Value}{N E:List Nat}(hE:(N++E).Perm G.E)
  (hq:ow (dV w) (Gh U w G) (.sl true s rows) g N) {x:Unit} {m':Mem} {l l':Log} (h:(new k (.arr false fl 0 s rows)).run m l=some (x,m',l')):
  ∃G',Grew base U w m G m' G' E∧aZ G'.μ m' (Gh U w G') (.own k 0) g:=by
 obtain⟨hn,rfl⟩:=Wx h;have hk:k ∉ G.out:=λhx=>by obtain⟨c,hc⟩:=ho k hx;rw[hn] at hc;cases hc
 obtain⟨F',h1,h2⟩:=hg.atK fl hn hk hE hq;refine⟨_,⟨h1,h2,rfl,rfl,λj c hj=> ?_,λj c hj=> ?_⟩, ?_⟩
 ·have hne:j≠k:=λe=>by subst e;rw[hn] at hj;cases hj
  rw[lF hne];exact hj
 ·exact KL _ (λe=>by subst e;rw[hn] at hj;cases hj)
 ·have:PL g:=by simp only[ow] at hq;rcases hq with⟨_,rfl,_⟩|⟨b,cap,cs,t,N',rfl,_⟩<;>exact⟨_,_,_,rfl⟩
  simp[aZ,jB,this]
def YB(hg:Dv base U w m G)(ho:∀r,r∈G.out->∃c,get r m=some c){row:Row}{j:Nat}{x:D}{g:Value}{N E:List Nat}(hE:(N++E).Perm G.E)(hx:nth row j=x)
  (hq:ow (dV w) (Gh U w G) x g N) {ct:CT} {own fl:Bool} {key:Nat} {v:V} {m':Mem} {l l':Log}
  (h:(MI own fl key row j ct).run m l=some (v,m',l')):
  ∃G',Grew base U w m G m' G' E∧aZ G'.μ m' (Gh U w G') v g:=by
 obtain⟨d1,d2,d3⟩:=hg.aaO hE;have plain:Grew base U w m G m {G with E:=E} E:=⟨d1,d2,rfl,rfl,λ_ _ h=>h,λ_ _ _=>rfl⟩
 have hro:=d3 hq;cases ct with
 |int k=>
  simp only[MI,fB,hx,Acc.run] at h;cases ha:asInt k x with
  |none=>simp[ha,Acc.run] at h
  |some n=>simp only[ha,Acc.run,iH,jL] at h;obtain⟨rfl,rfl,rfl⟩:=h;refine⟨_,plain, ?_⟩;rw[aaL ha] at hro;simpa[aZ] using hro
 |bool=>
  simp only[MI,adF,hx,Acc.run] at h;cases ha:asBool x with
  |none=>simp[ha,Acc.run] at h
  |some n=>simp only[ha,Acc.run,iH,jL] at h;obtain⟨rfl,rfl,rfl⟩:=h;refine⟨_,plain, ?_⟩;rw[YA ha] at hro;simpa[aZ] using hro
 |str=>
  simp only[MI,cStr,hx,Acc.run] at h;cases ha:adE x with
  |none=>simp[ha,Acc.run] at h
  |some n=>simp only[ha,Acc.run,iH,jL] at h;obtain⟨rfl,rfl,rfl⟩:=h;refine⟨_,plain, ?_⟩;rw[aaM ha] at hro;simpa[aZ] using hro
 |other=>exact(ak h).elim
 |sl s=>
  cases own with
  |false=>
   simp only[MI,TL,hx,Acc.run] at h;cases ha:amE s x with
   |none=>simp[ha,Acc.run] at h
   |some n=>simp only[ha,Acc.run,iH,jL] at h;obtain⟨rfl,rfl,rfl⟩:=h;refine⟨_,plain, ?_⟩;obtain⟨o,rfl⟩:=adM ha;simp only[aZ];exact aaH hro
  |true=>
   simp only[MI,aeN,hx,Acc.run] at h;cases ha:ako s x with
   |none=>simp[ha,Acc.run] at h
   |some n=>simp only[ha,Acc.run] at h;have:=aaN ha;subst this;replace h:=aj h;obtain⟨_,m1,l1,h1,h⟩:=h;simp only[run_pure,iH,jL] at h;obtain⟨rfl,rfl,rfl⟩:=h;exact adN hg ho hE hq h1
def IE{H:Heap}{h:View}{x:D}{r:Row}{cs:List Value}{N:List Nat}(q:iR H h (x::r) cs N):∃v cs' N1 N2,cs=v::cs'∧N=N1++N2∧ow H h x v N1∧iR H h r cs' N2:=by simpa[iR] using q
def XD{N1 N2 E E0:List Nat}(h:(N1++N2++E).Perm E0):(N1++(N2++E)).Perm E0:=by rwa [Gp] at h
def aaP{own:List Nat}{r dst:Nat}{row:Row}:∀{cts:List CT} {fs:List Bool} {j:Nat} {m:Mem} {G:GS} {gs:List Value} {N E:List Nat} (_:Dv base U w m G) (_:∀r,r∈G.out->∃c,get r m=some c)
  (_:(N++E).Perm G.E) (_:iR (dV w) (Gh U w G) (row.drop j) gs N) (_:row.length=j+cts.length) (_:gs.length=cts.length) {vs:List V} {m':Mem} {l l':Log}
  (_:(V6 own r dst row j cts fs).run m l=some (vs,m',l')),∃G',Grew base U w m G m' G' E∧dM G'.μ m' (Gh U w G') vs gs
 |[],fs,j,m,G,gs,N,E,hg,ho,hE,hq,hlen,hgl,vs,m',l,l',h=>by simp only[V6,run_pure,iH,jL] at h;obtain⟨rfl,rfl,rfl⟩:=h;rw[List.drop_eq_nil_of_le (by simp at hlen;omega)] at hq;simp only[iR] at hq;subst hq;simp at hgl;subst hgl;obtain⟨d1,d2,_⟩:=hg.aaO hE;exact⟨_,⟨d1,d2,rfl,rfl,λ_ _ h=>h,λ_ _ _=>rfl⟩,by simp[dM]⟩
 |ct::cts,fs,j,m,G,gs,N,E,hg,ho,hE,hq,hlen,hgl,vs,m',l,l',h=>by
  cases hd:row.drop j with
  |nil=>have:=congrArg List.length hd;simp at this hlen;omega
  |cons x rest=>obtain⟨hx,hrest⟩:=agb hd;rw[hd] at hq;obtain⟨g,gs',N1,N2,rfl,rfl,q1,q2⟩:=IE hq;simp only[V6] at h;replace h:=aj h;obtain⟨v,m1,l1,h1,h⟩:=h;replace h:=aj h;obtain⟨vs',m2,l2,h2,h⟩:=h;simp only[run_pure,iH,jL] at h;obtain⟨rfl,rfl,rfl⟩:=h;obtain⟨G1,t1,s1⟩:=YB hg ho (XD hE) hx q1 h1;obtain⟨G2,t2,s2⟩:=aaP t1.ok (λk hk=>by rw[t1.out] at hk;obtain⟨c,hc⟩:=ho k hk;exact⟨c,t1.old k c hc⟩) (by rw[t1.E]) (by rw[hrest];exact Qw t1.le.view q2) (by simp at hlen;omega) (by simpa using hgl) h2;refine⟨G2,t1.trans t2, ?_⟩;simp only[dM];exact⟨g,gs',rfl,t2.le.aZ s1,s2⟩
def YC{Zn:List Nat}{dst ri:Nat}{row:Row}:∀{cts:List CT} {fs:List Bool} {j:Nat} {m:Mem} {G:GS} {gs:List Value} {N E:List Nat} (_:Dv base U w m G) (_:∀r,r∈G.out->∃c,get r m=some c)
  (_:(N++E).Perm G.E) (_:iR (dV w) (Gh U w G) (row.drop j) gs N) (_:row.length=j+cts.length) (_:gs.length=cts.length) {vs:List V} {m':Mem} {l l':Log}
  (_:(RG Zn dst ri row j cts fs).run m l=some (vs,m',l')),∃G',Grew base U w m G m' G' E∧dM G'.μ m' (Gh U w G') vs gs
 |[],fs,j,m,G,gs,N,E,hg,ho,hE,hq,hlen,hgl,vs,m',l,l',h=>by simp only[RG,run_pure,iH,jL] at h;obtain⟨rfl,rfl,rfl⟩:=h;rw[List.drop_eq_nil_of_le (by simp at hlen;omega)] at hq;simp only[iR] at hq;subst hq;simp at hgl;subst hgl;obtain⟨d1,d2,_⟩:=hg.aaO hE;exact⟨_,⟨d1,d2,rfl,rfl,λ_ _ h=>h,λ_ _ _=>rfl⟩,by simp[dM]⟩
 |ct::cts,fs,j,m,G,gs,N,E,hg,ho,hE,hq,hlen,hgl,vs,m',l,l',h=>by
  cases hd:row.drop j with
  |nil=>have:=congrArg List.length hd;simp at this hlen;omega
  |cons x rest=>obtain⟨hx,hrest⟩:=agb hd;rw[hd] at hq;obtain⟨g,gs',N1,N2,rfl,rfl,q1,q2⟩:=IE hq;simp only[RG] at h;replace h:=aj h;obtain⟨v,m1,l1,h1,h⟩:=h;replace h:=aj h;obtain⟨vs',m2,l2,h2,h⟩:=h;simp only[run_pure,iH,jL] at h;obtain⟨rfl,rfl,rfl⟩:=h;obtain⟨G1,t1,s1⟩:=YB hg ho (XD hE) hx q1 h1;obtain⟨G2,t2,s2⟩:=YC t1.ok (λk hk=>by rw[t1.out] at hk;obtain⟨c,hc⟩:=ho k hk;exact⟨c,t1.old k c hc⟩) (by rw[t1.E]) (by rw[hrest];exact Qw t1.le.view q2) (by simp at hlen;omega) (by simpa using hgl) h2;refine⟨G2,t1.trans t2, ?_⟩;simp only[dM];exact⟨g,gs',rfl,t2.le.aZ s1,s2⟩
def valOf(P:Program)(t:TypeId)(cs:List Value)(g:Value):Prop:=if Gq P t=true then g=.agg cs.toArray else cs=[g]
def N9(P:Program)(H:Heap)(h:View):List TypeId->List Row->List Value->List Nat->Prop
 |[],rows,gs,N=>rows=[]∧gs=[]∧N=[]
 |t::ts,rows,gs,N=>∃row rows' g gs' cs N1 N2,rows=row::rows'∧gs=g::gs'∧N=N1++N2∧valOf P t cs g∧iR H h row cs N1∧row.length=cs.length∧N9 P H h ts rows' gs' N2
def Oa{P:Program}{H H':Heap}{h h':View}(hl:h.le h'):∀{ts:List TypeId} {rows:List Row} {gs:List Value} {N:List Nat},(∀b,b∈N->H' b=H b)->N9 P H h ts rows gs N->N9 P H' h' ts rows gs N
 |[],_,_,_,_,q=>q
 |t::ts,_,_,_,hb,⟨row,rows',g,gs',cs,N1,N2,e1,e2,e3,h1,h2,h3,h4⟩=>by subst e3;exact⟨row,rows',g,gs',cs,N1,N2,e1,e2,rfl,h1,IC hl _ _ _ (λb hx=>hb b (by simp[hx])) h2,h3,Oa hl (λb hx=>hb b (by simp[hx])) h4⟩
def IG{P:Program}{t:TypeId}{vs:List V}{v:V}(h:GU P t vs=some v){μ:Nat->Value}{hh:View}{cs:List Value}{g:Value}(hq:dM μ m hh vs cs)(hg:valOf P t cs g):aZ μ m hh v g:=by
 unfold GU at h;unfold valOf at hg;cases ha:Gq P t with
 |true=>simp only[ha,cO,if_true,iH] at h hg;subst h;simp only[aZ];exact⟨_,hg,by simpa using hq⟩
 |false=>
  simp only[ha,dO,Bool.false_eq_true,if_false] at h hg;split at h
  ·cases h;obtain⟨g',gs',e,q1,q2⟩:=mW hq;rw[hg] at e;cases e;exact q1
  ·cases h
def ac5{res:List Row}{ri:Nat}{row:Row}{rows:List Row}(h:res.drop ri=row::rows):V7 res ri=row∧res.drop (ri+1)=rows:=by
 have h1:res[ri]? =some row:=by
  have:(res.drop ri)[0]? =some row:=by rw[h];rfl
  rwa [List.getElem?_drop,Nat.add_zero] at this
 refine⟨by simp[V7,h1], ?_⟩;rw[<-List.drop_drop,h];rfl
def adO{X:Ctx}{Zn:List Nat}{dst:Nat}{res:List Row}:∀{ts:List TypeId} {ri:Nat} {m:Mem} {G:GS} {gs:List Value} {N E:List Nat} (_:Dv base U w m G) (_:∀r,r∈G.out->∃c,get r m=some c)
  (_:(N++E).Perm G.E) (_:N9 X.P (dV w) (Gh U w G) ts (res.drop ri) gs N) {vs:List V} {m':Mem} {l l':Log}
  (_:(U3 X Zn dst res ri ts).run m l=some (vs,m',l')),∃G',Grew base U w m G m' G' E∧dM G'.μ m' (Gh U w G') vs gs
 |[],ri,m,G,gs,N,E,hg,ho,hE,hq,vs,m',l,l',h=>by simp only[U3,run_pure,iH,jL] at h;obtain⟨rfl,rfl,rfl⟩:=h;obtain⟨_,rfl,rfl⟩:=hq;obtain⟨d1,d2,_⟩:=hg.aaO hE;exact⟨_,⟨d1,d2,rfl,rfl,λ_ _ h=>h,λ_ _ _=>rfl⟩,by simp[dM]⟩
 |t::ts,ri,m,G,gs,N,E,hg,ho,hE,hq,vs,m',l,l',h=>by obtain⟨row,rows',g,gs',cs,N1,N2,e1,rfl,rfl,h1,h2,h3,h4⟩:=hq;obtain⟨hrow,hrest⟩:=ac5 e1;simp only[U3] at h;replace h:=aj h;obtain⟨_,m1,l1,k1,h⟩:=h;obtain⟨hlen,rfl,rfl⟩:=eF k1;replace h:=aj h;obtain⟨vc,m2,l2,k2,h⟩:=h;replace h:=aj h;obtain⟨v,m3,l3,k3,h⟩:=h;obtain⟨hv,rfl,rfl⟩:=iD k3;replace h:=aj h;obtain⟨vs',m4,l4,k4,h⟩:=h;simp only[run_pure,iH,jL] at h;obtain⟨rfl,rfl,rfl⟩:=h;have hlen:=wR hlen;rw[hrow] at hlen k2;obtain⟨G1,t1,s1⟩:=YC hg ho (XD hE) (by simpa using h2) (by simpa using hlen) (by rw[<-h3];exact hlen) k2;obtain⟨G2,t2,s2⟩:=adO t1.ok (λk hk=>by rw[t1.out] at hk;obtain⟨c,hc⟩:=ho k hk;exact⟨c,t1.old k c hc⟩) (by rw[t1.E]) (by rw[hrest];exact Oa t1.le.view (λ_ _=>rfl) h4) k4;refine⟨G2,t1.trans t2, ?_⟩;simp only[dM];exact⟨g,gs',rfl,t2.le.aZ (IG hv s1 h1),s2⟩
mutual
def aks{H:Heap}{h h':View}:∀(x:D) (v:Value) (N:List Nat),x.pure=true->ow H h x v N->ow H h' x v N
 | .int _ _,_,_,_,q=>by simpa[ow] using q
 | .bool _,_,_,_,q=>by simpa[ow] using q
 | .str _,_,_,_,q=>by simpa[ow] using q
 | .NZ,_,_,_,q=>by simpa[ow] using q
 | .sl false s rows,v,N,hp,q=>by simp only[D.pure,List.isEmpty_iff] at hp;subst hp;simp only[ow,ro] at q⊢;exact⟨q.1,by obtain⟨a,cap,h1,h2,_⟩:=q.2;exact⟨a,cap,h1,h2,λe=>absurd rfl e⟩⟩
 | .sl true s rows,v,N,hp,q=>by
  simp only[D.pure] at hp;simp only[ow] at q⊢;rcases q with q|⟨b,cap,cs,t,N',h1,h2,h3,h4,h5,rfl⟩
  ·exact .inl q
  ·exact .inr ⟨b,cap,cs,t,N',h1,h2,h3,h4,YD s rows _ N' hp h5,rfl⟩
def YD{H:Heap}{h h':View}(s:Nat):∀(rows:List Row) (cs:List Value) (N:List Nat),CG rows=true->fZ H h s rows cs N->fZ H h' s rows cs N
 |[],_,_,_,q=>by simpa[fZ] using q
 |r::rs,cs,N,hp,q=>by simp only[CG,GH] at hp;simp only[fZ] at q⊢;obtain⟨h1,N1,N2,rfl,h2,h3⟩:=q;exact⟨h1,N1,N2,rfl,Vb r _ N1 hp.1 h2,YD s rs _ N2 hp.2 h3⟩
def Vb{H:Heap}{h h':View}:∀(r:Row) (cs:List Value) (N:List Nat),dQ r=true->iR H h r cs N->iR H h' r cs N
 |[],_,_,_,q=>by simpa[iR] using q
 |x::r,cs,N,hp,q=>by simp only[dQ,GH] at hp;simp only[iR] at q⊢;obtain⟨v,cs',N1,N2,rfl,rfl,h2,h3⟩:=q;exact⟨v,cs',N1,N2,rfl,rfl,aks x v N1 hp.1 h2,Vb r cs' N2 hp.2 h3⟩
end
def aaQ{P:Program}{H:Heap}{h h':View}:∀{ts:List TypeId} {rows:List Row} {gs:List Value} {N:List Nat},rows.all dQ=true->N9 P H h ts rows gs N->N9 P H h' ts rows gs N
 |[],_,_,_,_,q=>q
 |t::ts,_,_,_,hp,⟨row,rows',g,gs',cs,N1,N2,e1,e2,e3,h1,h2,h3,h4⟩=>by subst e1;simp only[List.all_cons,GH] at hp;exact⟨row,rows',g,gs',cs,N1,N2,rfl,e2,e3,h1,Vb _ _ _ hp.1 h2,h3,aaQ hp.2 h4⟩
end
end Go.Vm
namespace Go.Vm
open Go
section
variable {base:Nat} {U:Nat->Prop} {w w':World} {m:Mem} {G:GS}
def drop_cons{α:Type}{l:List α}{i:Nat}{a:α}{r:List α}(h:l.drop i=a::r):l[i]? =some a∧l.drop (i+1)=r:=by
 refine⟨?_,by rw[<-List.drop_drop,h];rfl⟩;have:(l.drop i)[0]? =some a:=by rw[h];rfl
 rwa [List.getElem?_drop,Nat.add_zero] at this
def atL(xs:List D):(xs.map V.d).map vD=xs:=by
 induction xs with
 |nil=>rfl
 |cons x xs ih=>simp[vD,ih]
def aaR{m m':Mem}(h:∀k c,get k m=some c->get k m'=some c):∀{rs:List Nat} {cs:List Cell},kinds m rs cs->kinds m' rs cs
 |[],_,q=>q
 |r::rs,_,⟨c,c',cs',h1,h2,h3,h4⟩=>⟨c,c',cs',h1,h r c h2,h3,aaR h h4⟩
def XE{m:Mem}{r:Nat}{c0:Cell}:∀{rs:List Nat} {cs:List Cell},r ∉ rs->kinds m rs cs->kinds (put r c0 m) rs cs
 |[],_,_,q=>q
 |k::rs,_,hr,⟨c,c',cs',h1,h2,h3,h4⟩=>by simp only[List.mem_cons,not_or] at hr;exact⟨c,c',cs',h1,by rw[lF (Ne.symm hr.1)];exact h2,h3,XE hr.2 h4⟩
structure Came(base:Nat)(U:Nat->Prop)(w:World)(m:Mem)(G:GS)(m':Mem)(G':GS)(E:List Nat):Prop where
 ok:Dv base U w m' G'
 le:RP m G m' G'
 E:G'.E=E
 out:G'.out=[]
def I8{H:Heap}{h h':View}(hl:h.le h'){cs:List Cell}{gs:List Value}{N:List Nat}(q:cellsB H h cs gs N):cellsB H h' cs gs N:=Yx hl (λ_ _=>rfl) q
def Wy{X:Ctx}{dst:Nat}{outs:List Cell}:∀{rs:List Nat} {i:Nat} {m:Mem} {G:GS} {N E:List Nat} (_:Dv base U w m G) (_:rs.Nodup) (_:G.out=rs) (_:kinds m rs (outs.drop i))
  (_:(N++E).Perm G.E) (_:cellsB (dV w) (Gh U w G) (outs.drop i) (rs.map G.μ) N) {x:Unit} {m':Mem} {l l':Log} (_:(Yr X dst outs i rs).run m l=some (x,m',l')),
  ∃G',Came base U w m G m' G' E
 |[],i,m,G,N,E,hg,hn,ho,hk,hE,hq,x,m',l,l',h=>by simp only[Yr,run_pure,iH,jL] at h;obtain⟨_,rfl,rfl⟩:=h;obtain⟨d1,d2,_⟩:=hg.aaO hE;exact⟨_,d1,d2,rfl,ho⟩
 |r::rs,i,m,G,N,E,hg,hn,ho,hk,hE,hq,x,m',l,l',h=>by
  obtain⟨c,c',cs',e1,hc,hsk,hk'⟩:=hk;have hnr:=List.nodup_cons.1 hn;obtain⟨hi,hdrop⟩:=drop_cons e1;rw[e1] at hq;obtain⟨g,gs',N1,N2,eg,rfl,q1,q2⟩:=hq;simp only[Ug,List.cons.injEq] at eg;obtain⟨rfl,rfl⟩:=eg;have hout:∀k,k∈G.out->∃c,get k m=some c:=by
   intro k hkm;rw[ho] at hkm;simp only[List.mem_cons] at hkm;rcases hkm with rfl|hkm
   ·exact⟨c,hc⟩
   ·obtain⟨j,hj⟩:=List.getElem?_of_mem hkm;obtain⟨c2,_,h2,_⟩:=Ws hk' hj;exact⟨c2,h2⟩
  simp only[Yr] at h;replace h:=aj h;obtain⟨c0,m1,l1,h1,h⟩:=h;rw[uj] at h1;cases h1;rw[hc] at h;cases c with
  |dead=>exact hsk.elim
  |ET _ _ _=>exact hsk.elim
  |nO _ _=>exact hsk.elim
  |box t cs=>
   cases c' with
   |dead=>exact hsk.elim
   |ET _ _ _=>exact hsk.elim
   |nO _ _=>exact hsk.elim
   |arr _ _ _ _ _=>exact hsk.elim
   |box t' vs=>
    obtain rfl:t=t':=hsk;obtain⟨b,a,xs,N',hμ,hH,hvs,hxl,hrow,rfl⟩:=q1;simp only at h;replace h:=aj h;obtain⟨_,m2,l2,h2,h⟩:=h;obtain⟨hbl,rfl,rfl⟩:=eF h2;replace h:=aj h;obtain⟨vs',m3,l3,h3,h⟩:=h;replace h:=aj h;obtain⟨_,m4,l4,h4,h⟩:=h;rw[Dn] at h4;cases h4;have hbx:amK outs i=xs:=by simp only[amK,hi,hvs];exact atL xs
    have hbl:xs.length=(MH X.P t).length:=by simp only[amM,hi] at hbl;have:=wR hbl;rw[hvs,List.length_map] at this;exact this
    rw[hbx] at h3;obtain⟨G1,t1,s1⟩:=aaP hg hout (N:=N') (E:=b::(N2++E)) (List.Perm.trans (by have:(N'++b::(N2++E)).Perm (b::(N'++(N2++E))):=List.perm_middle;refine this.trans ?_;simp[Gp]) hE) (by simpa using hrow) (by simpa using hbl) (by rw[<-hxl];exact hbl) h3;have hc1:=t1.old r _ hc;have aqA:=t1.ok.ndE;rw[t1.E] at aqA;have hset:=t1.ok.set r (.box t vs') G1.μ [b] (N2++E) rs (by simpa using aqA) (λk hk=> .inr (by rw[t1.E];simpa using hk))
     (EZ (λ_ _=>rfl) (λc h=>by rw[hc1] at h;cases h;exact⟨rfl,rfl⟩)) (λ_ _=>rfl)
     (λk hne=>by rw[t1.out,ho];simp[hne]) (λhr=>absurd hr hnr.1)
     (λhv _=>⟨b,a,by rw[t1.μ r _ hc];exact hμ,hH,qV (EZ (λ_ _=>rfl) (λc h=>by rw[hc1] at h;cases h;exact⟨rfl,rfl⟩)) hv _ _ s1,rfl⟩)
    obtain⟨k1,k2⟩:=hset;obtain⟨G2,f1,f2,f3,f4⟩:=Wy k1 hnr.2 rfl (XE hnr.1 (aaR t1.old (by rw[hdrop];exact hk'))) (N:=N2) (E:=E) (List.Perm.refl _)
     (by
      rw[hdrop];have hmap:rs.map G1.μ=rs.map G.μ:=List.map_congr_left λk hk=>by obtain⟨c2,h2⟩:=hout k (by rw[ho];simp[hk]);exact t1.μ k c2 h2
      simp only[hmap];exact I8 (t1.le.view.trans' k2.view) q2) h
    exact⟨G2,f1,(t1.le.trans k2).trans f2,f3,f4⟩
  |arr fz fl ver s rows=>
   cases c' with
   |dead=>exact hsk.elim
   |ET _ _ _=>exact hsk.elim
   |nO _ _=>exact hsk.elim
   |box _ _=>exact hsk.elim
   |arr fz' fl' jm s' rows'=>
    obtain⟨rfl,rfl,rfl,rfl⟩:=hsk;obtain⟨rfl,_,hrow⟩:=q1;simp only at h;replace h:=aj h;obtain⟨akt,m2,l2,h2,h⟩:=h;obtain⟨har,rfl,rfl⟩:=iD h2;replace h:=aj h;obtain⟨_,m4,l4,h4,h⟩:=h;rw[Dn] at h4;cases h4;have hrr:akt=rows':=by simp[amL,hi] at har;exact har.symm
    subst hrr;have aqA:=hE.nodup_iff.2 hg.ndE;have hset:=hg.set r (.arr false fl 0 s akt) G.μ N1 (N2++E) rs (by rwa [Gp] at aqA) (λk hk=> .inr (hE.mem_iff.1 (by rw[Gp];exact hk)))
     (EZ (λ_ _=>rfl) (λc h=>by rw[hc] at h;cases h;exact⟨Nat.le_refl _,rfl,λ_=>⟨rfl,rfl⟩⟩)) (λ_ _=>rfl)
     (λk hne=>by rw[ho];simp[hne]) (λhr=>absurd hr hnr.1)
     (λhv _=>I4 hv (λ_ _=>rfl) hrow)
    obtain⟨k1,k2⟩:=hset;obtain⟨G2,f1,f2,f3,f4⟩:=Wy k1 hnr.2 rfl (XE hnr.1 (by rw[hdrop];exact hk')) (N:=N2) (E:=E) (List.Perm.refl _)
     (by rw[hdrop];exact I8 k2.view q2) h
    exact⟨G2,f1,k2.trans f2,f3,f4⟩
def amV{h:View}(s:List UInt8):∀(cs:List Value),cs=s.map (λb=>Value.int .u8 b.toNat)->gJ h 1 (s.map byteRow) cs:=by
 induction s with
 |nil=>intro cs _;simp[gJ]
 |cons b s ih=>intro cs e;subst e;simp only[Ug,gJ,byteRow];exact⟨rfl,by simp[jg,ro],ih _ rfl⟩
end
end Go.Vm
